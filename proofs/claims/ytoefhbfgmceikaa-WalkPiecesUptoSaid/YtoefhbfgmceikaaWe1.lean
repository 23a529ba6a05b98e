/- The pieces between two matchings: walked. -/
import Derived.Test.YtoefhbfgmceikaaRows
import Derived.Test.YtoefhbfgmceikaaGgogopl5
set_option linter.all false

namespace Go.Proofs.Ytoefhbfgmceikaa
open Go Go.Ga
theorem mix : Try.prog.follows .mixedOrders = true := by kernel_rfl
def c_garlandlaw09_WalkPieces_r0 : List GOp := [(none, (.asg 8 (.c (.bool false)) true))]
def c_garlandlaw09_WalkPieces_r1 : List GOp := [(none, (.r (.mov 20 (.t 0)))),
  (none, (.r (.mov 21 (.t 1)))),
  (none, (.call 22 (.f 21) [((.t 20), false), ((.t 21), false), ((.c (.int .i64 14)), false), ((.c (.int .i64 40)), false)])),
  (none, (.alloc 9 [(.int .i64 0), (.slice none 0 0)])),
  (none, (.st (.t 9) (.t 22) 2))]
def c_garlandlaw09_WalkPieces_r2 : Tree := 
  (.take [2, 5, 6, 7] (none, (.r (.ld 23 (.t 9) 2 true))) 
  (.take [2, 5, 6, 7] (none, (.r (.mov 24 (.t 2)))) 
  (.take [5, 6, 7] (none, (.r (.ld 26 (.t 9) 2 true))) 
  (.take [5, 6, 7] (none, (.r (.mov 27 (.t 3)))) 
  (.one 2 (none, (.call 25 (.f 26) [((.t 23), false), ((.t 24), false)])) 
  (.one 5 (none, (.call 28 (.f 26) [((.t 26), false), ((.t 27), false)])) 
  (.one 6 (none, (.asg 10 (.t 25) true)) 
  (.one 7 (none, (.asg 11 (.t 28) true)) .done))))))))
def c_garlandlaw09_WalkPieces_r3 : List GOp := [(none, (.r (.ld 30 (.t 9) 2 true))),
  (none, (.r (.mov 31 (.t 10)))),
  (none, (.r (.mov 32 (.t 11)))),
  (none, (.call 33 (.f 18) [((.t 30), false), ((.t 31), false), ((.t 32), false)])),
  (none, (.r (.mov 29 (.t 33)))),
  (none, (.r (.ext 34 (.t 29) 0))),
  (none, (.r (.ext 35 (.t 29) 1))),
  (none, (.asg 12 (.t 34) true)),
  (none, (.asg 13 (.t 35) true))]
def c_garlandlaw09_WalkPieces_r4 : List GOp := [(none, (.call 36 (.f 8) [])),
  (none, (.r (.notb 37 (.t 36)))),
  (none, (.r (.mov 38 (.t 37)))), ((some (38, false)), (.r (.mov 39 (.t 13)))), ((some (38, false)), (.r (.bin 40 .neq 0 (.t 39) (.c (.int .i64 0))))),
  (none, (.r (.pick 41 (.t 38) (.c (.bool true)) (.t 40))))]
def c_garlandlaw09_WalkPieces_r5 : List GOp := [(none, (.asg 8 (.c (.bool false)) true))]
def c_garlandlaw09_WalkPieces_r6 : List GOp := [(none, (.asg 14 (.c (.int .i64 0)) true))]
def c_garlandlaw09_WalkPieces_r7 : List GOp := [(none, (.asg 15 (.c (.int .i64 0)) true))]
def c_garlandlaw09_WalkPieces_r8 : List GOp := [(none, (.r (.mov 42 (.t 15)))),
  (none, (.r (.mov 43 (.t 12)))),
  (none, (.r (.len 44 (.t 43)))),
  (none, (.r (.bin 45 .lss 0 (.t 42) (.t 44))))]
def c_garlandlaw09_WalkPieces_r9 : List GOp := [(none, (.asg 16 (.c (.int .i64 0)) true)),
  (none, (.asg 17 (.c (.int .i64 0)) true))]
def c_garlandlaw09_WalkPieces_r10 : List GOp := [(none, (.asg 18 (.c (.int .i64 0)) true))]
def c_garlandlaw09_WalkPieces_r11 : List GOp := [(none, (.r (.mov 48 (.t 18)))),
  (none, (.r (.mov 49 (.t 12)))),
  (none, (.r (.mov 50 (.t 15)))),
  (none, (.r (.idxA 51 (.t 49) (.t 50) 1))),
  (none, (.r (.ld 52 (.t 51) 1 false))),
  (none, (.r (.len 53 (.t 52)))),
  (none, (.r (.bin 54 .lss 0 (.t 48) (.t 53))))]
def c_garlandlaw09_WalkPieces_r12 : List GOp := [(none, (.r (.mov 57 (.t 12)))),
  (none, (.r (.mov 58 (.t 15)))),
  (none, (.r (.idxA 59 (.t 57) (.t 58) 1))),
  (none, (.r (.ld 60 (.t 59) 1 false))),
  (none, (.r (.mov 61 (.t 18)))),
  (none, (.r (.idxA 62 (.t 60) (.t 61) 1))),
  (none, (.r (.ld 63 (.t 62) 1 false))),
  (none, (.asg 19 (.t 63) true))]
def c_garlandlaw09_WalkPieces_r13 : List GOp := [(none, (.r (.mov 64 (.t 19)))),
  (none, (.r (.bin 65 .lss 0 (.t 64) (.c (.int .i64 0))))),
  (none, (.r (.mov 66 (.t 65)))), ((some (66, false)), (.r (.mov 67 (.t 19)))), ((some (66, false)), (.r (.fldA 68 (.t 9) 0))), ((some (66, false)), (.r (.ld 69 (.t 68) 1 false))), ((some (66, false)), (.r (.bin 70 .geq 0 (.t 67) (.t 69)))),
  (none, (.r (.pick 71 (.t 66) (.c (.bool true)) (.t 70))))]
def c_garlandlaw09_WalkPieces_r14 : List GOp := [(none, (.asg 8 (.c (.bool false)) true))]
def c_garlandlaw09_WalkPieces_r15 : List GOp := [(none, (.r (.mov 72 (.t 10)))),
  (none, (.r (.mov 73 (.t 19)))),
  (none, (.r (.idxA 74 (.t 72) (.t 73) 1))),
  (none, (.r (.ld 75 (.t 74) 1 false))),
  (none, (.r (.bin 76 .geq 0 (.t 75) (.c (.int .i64 0)))))]
def c_garlandlaw09_WalkPieces_r16 : List GOp := [(none, (.r (.mov 77 (.t 16)))),
  (none, (.r (.bin 78 .add 0 (.t 77) (.c (.int .i64 1))))),
  (none, (.asg 16 (.t 78) true))]
def c_garlandlaw09_WalkPieces_r17 : List GOp := [(none, (.r (.mov 79 (.t 11)))),
  (none, (.r (.mov 80 (.t 19)))),
  (none, (.r (.idxA 81 (.t 79) (.t 80) 1))),
  (none, (.r (.ld 82 (.t 81) 1 false))),
  (none, (.r (.bin 83 .geq 0 (.t 82) (.c (.int .i64 0)))))]
def c_garlandlaw09_WalkPieces_r18 : List GOp := [(none, (.r (.mov 84 (.t 17)))),
  (none, (.r (.bin 85 .add 0 (.t 84) (.c (.int .i64 1))))),
  (none, (.asg 17 (.t 85) true))]
def c_garlandlaw09_WalkPieces_r19 : Tree := 
  (.take [2, 3, 8, 9, 10, 11, 12, 13, 14, 15, 16, 17, 18, 19, 20, 21, 22, 23, 24, 25, 26, 27, 28, 29, 30, 31, 32, 33, 34, 35, 36, 37, 38, 39, 40, 41, 42, 43, 44, 45, 46] (none, (.r (.mov 86 (.t 10)))) 
  (.take [2, 3, 8, 9, 10, 11, 12, 13, 14, 15, 16, 17, 18, 19, 20, 21, 22, 23, 24, 25, 26, 27, 28, 29, 30, 31, 32, 33, 34, 35, 36, 37, 38, 39, 40, 41, 42, 43, 44, 45, 46] (none, (.r (.mov 87 (.t 19)))) 
  (.take [3, 8, 9, 10, 11, 12, 13, 14, 15, 16, 17, 18, 19, 20, 21, 22, 23, 24, 25, 26, 27, 28, 29, 30, 31, 32, 33, 34, 35, 36, 37, 38, 39, 40, 41, 42, 43, 44, 45, 46] (none, (.r (.idxA 88 (.t 86) (.t 87) 1))) 
  (.take [8, 9, 10, 11, 12, 13, 14, 15, 16, 17, 18, 19, 20, 21, 22, 23, 24, 25, 26, 27, 28, 29, 30, 31, 32, 33, 34, 35, 36, 37, 38, 39, 40, 41, 42, 43, 44, 45, 46] (none, (.r (.ld 89 (.t 88) 1 false))) 
  (.take [6, 7, 8, 9, 10, 11, 12, 13, 14, 15, 16, 17, 18, 19, 20, 21, 22, 23, 24, 25, 26, 27, 28, 29, 30, 31, 32, 33, 34, 35, 36, 37, 38, 39, 40, 41, 42, 43, 44, 45, 46] (none, (.r (.mov 90 (.t 11)))) 
  (.take [6, 7, 8, 9, 10, 11, 12, 13, 14, 15, 16, 17, 18, 19, 20, 21, 22, 23, 24, 25, 26, 27, 28, 29, 30, 31, 32, 33, 34, 35, 36, 37, 38, 39, 40, 41, 42, 43, 44, 45, 46] (none, (.r (.mov 91 (.t 19)))) 
  (.take [7, 8, 9, 10, 11, 12, 13, 14, 15, 16, 17, 18, 19, 20, 21, 22, 23, 24, 25, 26, 27, 28, 29, 30, 31, 32, 33, 34, 35, 36, 37, 38, 39, 40, 41, 42, 43, 44, 45, 46] (none, (.r (.idxA 92 (.t 90) (.t 91) 1))) 
  (.take [8, 9, 10, 11, 12, 13, 14, 15, 16, 17, 18, 19, 20, 21, 22, 23, 24, 25, 26, 27, 28, 29, 30, 31, 32, 33, 34, 35, 36, 37, 38, 39, 40, 41, 42, 43, 44, 45, 46] (none, (.r (.ld 93 (.t 92) 1 false))) 
  (.take [9, 10, 11, 12, 13, 14, 15, 16, 17, 18, 19, 20, 21, 22, 23, 24, 25, 26, 27, 28, 29, 30, 31, 32, 33, 34, 35, 36, 37, 38, 39, 40, 41, 42, 43, 44, 45, 46] (none, (.r (.bin 94 .eql 0 (.t 89) (.t 93)))) 
  (.take [10, 11, 12, 13, 14, 15, 16, 17, 18, 19, 20, 21, 22, 23, 24, 25, 26, 27, 28, 29, 30, 31, 32, 33, 34, 35, 36, 37, 38, 39, 40, 41, 42, 43, 44, 45, 46] (none, (.r (.mov 95 (.t 94)))) 
  (.take [12, 13, 14, 15, 16, 17, 18, 19, 20, 21, 22, 23, 24, 25, 26, 27, 28, 29, 30, 31, 32, 33, 34, 35, 36, 37, 38, 39, 40, 41, 42, 43, 44, 45, 46] ((some (95, false)), (.r (.mov 96 (.t 10)))) 
  (.take [12, 13, 14, 15, 16, 17, 18, 19, 20, 21, 22, 23, 24, 25, 26, 27, 28, 29, 30, 31, 32, 33, 34, 35, 36, 37, 38, 39, 40, 41, 42, 43, 44, 45, 46] ((some (95, false)), (.r (.mov 97 (.t 19)))) 
  (.take [13, 14, 15, 16, 17, 18, 19, 20, 21, 22, 23, 24, 25, 26, 27, 28, 29, 30, 31, 32, 33, 34, 35, 36, 37, 38, 39, 40, 41, 42, 43, 44, 45, 46] ((some (95, false)), (.r (.idxA 98 (.t 96) (.t 97) 1))) 
  (.take [14, 15, 16, 17, 18, 19, 20, 21, 22, 23, 24, 25, 26, 27, 28, 29, 30, 31, 32, 33, 34, 35, 36, 37, 38, 39, 40, 41, 42, 43, 44, 45, 46] ((some (95, false)), (.r (.ld 99 (.t 98) 1 false))) 
  (.take [15, 16, 17, 18, 19, 20, 21, 22, 23, 24, 25, 26, 27, 28, 29, 30, 31, 32, 33, 34, 35, 36, 37, 38, 39, 40, 41, 42, 43, 44, 45, 46] ((some (95, false)), (.r (.bin 100 .geq 0 (.t 99) (.c (.int .i64 0))))) 
  (.take [16, 17, 18, 19, 20, 21, 22, 23, 24, 25, 26, 27, 28, 29, 30, 31, 32, 33, 34, 35, 36, 37, 38, 39, 40, 41, 42, 43, 44, 45, 46] ((some (95, false)), (.r (.mov 101 (.t 100)))) 
  (.take [18, 19, 24, 25, 26, 27, 28, 29, 30, 31, 32, 33, 34, 35, 36, 37, 38, 39, 40, 41, 42, 43, 44, 45, 46] ((some (101, true)), (.r (.mov 102 (.t 12)))) 
  (.take [18, 19, 24, 25, 26, 27, 28, 29, 30, 31, 32, 33, 34, 35, 36, 37, 38, 39, 40, 41, 42, 43, 44, 45, 46] ((some (101, true)), (.r (.mov 103 (.t 15)))) 
  (.take [19, 24, 25, 26, 27, 28, 29, 30, 31, 32, 33, 34, 35, 36, 37, 38, 39, 40, 41, 42, 43, 44, 45, 46] ((some (101, true)), (.r (.idxA 104 (.t 102) (.t 103) 1))) 
  (.take [24, 25, 26, 27, 28, 29, 30, 31, 32, 33, 34, 35, 36, 37, 38, 39, 40, 41, 42, 43, 44, 45, 46] ((some (101, true)), (.r (.ld 105 (.t 104) 1 false))) 
  (.take [22, 23, 24, 25, 26, 27, 28, 29, 30, 31, 32, 33, 34, 35, 36, 37, 38, 39, 40, 41, 42, 43, 44, 45, 46] ((some (101, true)), (.r (.mov 106 (.t 10)))) 
  (.take [22, 23, 24, 25, 26, 27, 28, 29, 30, 31, 32, 33, 34, 35, 36, 37, 38, 39, 40, 41, 42, 43, 44, 45, 46] ((some (101, true)), (.r (.mov 107 (.t 19)))) 
  (.take [23, 24, 25, 26, 27, 28, 29, 30, 31, 32, 33, 34, 35, 36, 37, 38, 39, 40, 41, 42, 43, 44, 45, 46] ((some (101, true)), (.r (.idxA 108 (.t 106) (.t 107) 1))) 
  (.take [24, 25, 26, 27, 28, 29, 30, 31, 32, 33, 34, 35, 36, 37, 38, 39, 40, 41, 42, 43, 44, 45, 46] ((some (101, true)), (.r (.ld 109 (.t 108) 1 false))) 
  (.one 24 ((some (101, true)), (.call 110 (.f 27) [((.t 105), false), ((.t 109), false)])) 
  (.take [26, 27, 28, 29, 30, 31, 32, 33, 34, 35, 36, 37, 38, 39, 40, 41, 42, 43, 44, 45, 46] ((some (101, true)), (.r (.notb 111 (.t 110)))) 
  (.take [27, 28, 29, 30, 31, 32, 33, 34, 35, 36, 37, 38, 39, 40, 41, 42, 43, 44, 45, 46] ((some (95, false)), (.r (.pick 112 (.t 101) (.t 111) (.c (.bool false))))) 
  (.take [28, 29, 30, 31, 32, 33, 34, 35, 36, 37, 38, 39, 40, 41, 42, 43, 44, 45, 46] (none, (.r (.pick 113 (.t 95) (.c (.bool true)) (.t 112)))) 
  (.take [29, 30, 31, 32, 33, 34, 35, 36, 37, 38, 39, 40, 41, 42, 43, 44, 45, 46] (none, (.r (.mov 114 (.t 113)))) 
  (.take [31, 32, 33, 34, 35, 36, 37, 38, 39, 40, 41, 42, 43, 44, 45, 46] ((some (114, false)), (.r (.mov 115 (.t 11)))) 
  (.take [31, 32, 33, 34, 35, 36, 37, 38, 39, 40, 41, 42, 43, 44, 45, 46] ((some (114, false)), (.r (.mov 116 (.t 19)))) 
  (.take [32, 33, 34, 35, 36, 37, 38, 39, 40, 41, 42, 43, 44, 45, 46] ((some (114, false)), (.r (.idxA 117 (.t 115) (.t 116) 1))) 
  (.take [33, 34, 35, 36, 37, 38, 39, 40, 41, 42, 43, 44, 45, 46] ((some (114, false)), (.r (.ld 118 (.t 117) 1 false))) 
  (.take [34, 35, 36, 37, 38, 39, 40, 41, 42, 43, 44, 45, 46] ((some (114, false)), (.r (.bin 119 .geq 0 (.t 118) (.c (.int .i64 0))))) 
  (.take [35, 36, 37, 38, 39, 40, 41, 42, 43, 44, 45, 46] ((some (114, false)), (.r (.mov 120 (.t 119)))) 
  (.take [37, 38, 43, 44, 45, 46] ((some (120, true)), (.r (.mov 121 (.t 12)))) 
  (.take [37, 38, 43, 44, 45, 46] ((some (120, true)), (.r (.mov 122 (.t 15)))) 
  (.take [38, 43, 44, 45, 46] ((some (120, true)), (.r (.idxA 123 (.t 121) (.t 122) 1))) 
  (.take [43, 44, 45, 46] ((some (120, true)), (.r (.ld 124 (.t 123) 1 false))) 
  (.take [41, 42, 43, 44, 45, 46] ((some (120, true)), (.r (.mov 125 (.t 11)))) 
  (.take [41, 42, 43, 44, 45, 46] ((some (120, true)), (.r (.mov 126 (.t 19)))) 
  (.take [42, 43, 44, 45, 46] ((some (120, true)), (.r (.idxA 127 (.t 125) (.t 126) 1))) 
  (.take [43, 44, 45, 46] ((some (120, true)), (.r (.ld 128 (.t 127) 1 false))) 
  (.one 43 ((some (120, true)), (.call 129 (.f 27) [((.t 124), false), ((.t 128), false)])) 
  (.take [45, 46] ((some (120, true)), (.r (.notb 130 (.t 129)))) 
  (.take [46] ((some (114, false)), (.r (.pick 131 (.t 120) (.t 130) (.c (.bool false))))) 
  (.take [] (none, (.r (.pick 132 (.t 114) (.c (.bool true)) (.t 131)))) .done)))))))))))))))))))))))))))))))))))))))))))))))
def c_garlandlaw09_WalkPieces_r20 : List GOp := [(none, (.asg 8 (.c (.bool false)) true))]
def c_garlandlaw09_WalkPieces_r21 : List GOp := [(none, (.r (.mov 55 (.t 18)))),
  (none, (.r (.bin 56 .add 0 (.t 55) (.c (.int .i64 1))))),
  (none, (.asg 18 (.t 56) true))]
def c_garlandlaw09_WalkPieces_r22 : List GOp := [(none, (.r (.mov 133 (.t 16)))),
  (none, (.r (.mov 134 (.t 17)))),
  (none, (.r (.bin 135 .sub 0 (.t 133) (.t 134)))),
  (none, (.r (.bin 136 .gtr 0 (.t 135) (.c (.int .i64 2))))),
  (none, (.r (.mov 137 (.t 136)))), ((some (137, false)), (.r (.mov 138 (.t 17)))), ((some (137, false)), (.r (.mov 139 (.t 16)))), ((some (137, false)), (.r (.bin 140 .sub 0 (.t 138) (.t 139)))), ((some (137, false)), (.r (.bin 141 .gtr 0 (.t 140) (.c (.int .i64 2))))),
  (none, (.r (.pick 142 (.t 137) (.c (.bool true)) (.t 141)))),
  (none, (.r (.mov 143 (.t 142)))), ((some (143, false)), (.r (.mov 144 (.t 12)))), ((some (143, false)), (.r (.mov 145 (.t 15)))), ((some (143, false)), (.r (.idxA 146 (.t 144) (.t 145) 1))), ((some (143, false)), (.r (.ld 147 (.t 146) 1 false))), ((some (143, false)), (.r (.len 148 (.t 147)))), ((some (143, false)), (.r (.bin 149 .lss 0 (.t 148) (.c (.int .i64 2))))),
  (none, (.r (.pick 150 (.t 143) (.c (.bool true)) (.t 149))))]
def c_garlandlaw09_WalkPieces_r23 : List GOp := [(none, (.asg 8 (.c (.bool false)) true))]
def c_garlandlaw09_WalkPieces_r24 : List GOp := [(none, (.r (.mov 151 (.t 17)))),
  (none, (.r (.mov 152 (.t 16)))),
  (none, (.r (.bin 153 .sub 0 (.t 151) (.t 152)))),
  (none, (.r (.bin 154 .eql 0 (.t 153) (.c (.int .i64 2)))))]
def c_garlandlaw09_WalkPieces_r25 : List GOp := [(none, (.r (.mov 155 (.t 14)))),
  (none, (.r (.bin 156 .add 0 (.t 155) (.c (.int .i64 1))))),
  (none, (.asg 14 (.t 156) true))]
def c_garlandlaw09_WalkPieces_r26 : List GOp := [(none, (.r (.mov 46 (.t 15)))),
  (none, (.r (.bin 47 .add 0 (.t 46) (.c (.int .i64 1))))),
  (none, (.asg 15 (.t 47) true))]
def c_garlandlaw09_WalkPieces_r27 : List GOp := [(none, (.r (.mov 157 (.t 14)))),
  (none, (.r (.mov 158 (.t 11)))),
  (none, (.call 159 (.f 24) [((.t 158), false)])),
  (none, (.r (.mov 160 (.t 10)))),
  (none, (.call 161 (.f 24) [((.t 160), false)])),
  (none, (.r (.bin 162 .sub 0 (.t 159) (.t 161)))),
  (none, (.r (.bin 163 .geq 0 (.t 157) (.t 162)))),
  (none, (.asg 8 (.t 163) true))]
def v_garlandlaw09_WalkPieces : List Nat := [0, 1, 2, 3, 8, 9, 10, 11, 12, 13, 14, 15, 16, 17, 18, 19, 41, 45, 54, 71, 76, 83, 132, 150, 154]
def c_garlandlaw09_WalkPieces : ACode :=
  (.seq
  (.reg [0, 1, 2, 3, 8, 9, 10, 11, 12, 13, 14, 15, 16, 17, 18, 19, 41, 45, 54, 71, 76, 83, 132, 150, 154] c_garlandlaw09_WalkPieces_r0 v_garlandlaw09_WalkPieces)
  (.seq
  (.reg [0, 1, 2, 3, 8, 10, 11, 12, 13, 14, 15, 16, 17, 18, 19, 41, 45, 54, 71, 76, 83, 132, 150, 154] c_garlandlaw09_WalkPieces_r1 v_garlandlaw09_WalkPieces)
  (.seq
  (.draw [0, 1, 2, 3, 8, 9, 10, 11, 12, 13, 14, 15, 16, 17, 18, 19, 41, 45, 54, 71, 76, 83, 132, 150, 154] c_garlandlaw09_WalkPieces_r2 v_garlandlaw09_WalkPieces)
  (.seq
  (.reg [0, 1, 2, 3, 8, 9, 10, 11, 12, 13, 14, 15, 16, 17, 18, 19, 41, 45, 54, 71, 76, 83, 132, 150, 154] c_garlandlaw09_WalkPieces_r3 v_garlandlaw09_WalkPieces)
  (.seq
  (.seq
  (.reg [0, 1, 2, 3, 8, 9, 10, 11, 12, 13, 14, 15, 16, 17, 18, 19, 45, 54, 71, 76, 83, 132, 150, 154] c_garlandlaw09_WalkPieces_r4 v_garlandlaw09_WalkPieces)
  (.cond (.t 41) (.seq
  (.reg [0, 1, 2, 3, 8, 9, 10, 11, 12, 13, 14, 15, 16, 17, 18, 19, 41, 45, 54, 71, 76, 83, 132, 150, 154] c_garlandlaw09_WalkPieces_r5 v_garlandlaw09_WalkPieces)
  .ret) .skip))
  (.seq
  (.reg [0, 1, 2, 3, 8, 9, 10, 11, 12, 13, 14, 15, 16, 17, 18, 19, 41, 45, 54, 71, 76, 83, 132, 150, 154] c_garlandlaw09_WalkPieces_r6 v_garlandlaw09_WalkPieces)
  (.seq
  (.seq
  (.reg [0, 1, 2, 3, 8, 9, 10, 11, 12, 13, 14, 15, 16, 17, 18, 19, 41, 45, 54, 71, 76, 83, 132, 150, 154] c_garlandlaw09_WalkPieces_r7 v_garlandlaw09_WalkPieces)
  (.blk 0 (.loop (.seq
  (.seq
  (.reg [0, 1, 2, 3, 8, 9, 10, 11, 12, 13, 14, 15, 16, 17, 18, 19, 41, 54, 71, 76, 83, 132, 150, 154] c_garlandlaw09_WalkPieces_r8 v_garlandlaw09_WalkPieces)
  (.cond (.t 45) .skip (.exit 0)))
  (.seq
  (.blk 1 (.seq
  (.reg [0, 1, 2, 3, 8, 9, 10, 11, 12, 13, 14, 15, 16, 17, 18, 19, 41, 45, 54, 71, 76, 83, 132, 150, 154] c_garlandlaw09_WalkPieces_r9 v_garlandlaw09_WalkPieces)
  (.seq
  (.seq
  (.reg [0, 1, 2, 3, 8, 9, 10, 11, 12, 13, 14, 15, 16, 17, 18, 19, 41, 45, 54, 71, 76, 83, 132, 150, 154] c_garlandlaw09_WalkPieces_r10 v_garlandlaw09_WalkPieces)
  (.blk 2 (.loop (.seq
  (.seq
  (.reg [0, 1, 2, 3, 8, 9, 10, 11, 12, 13, 14, 15, 16, 17, 18, 19, 41, 45, 71, 76, 83, 132, 150, 154] c_garlandlaw09_WalkPieces_r11 v_garlandlaw09_WalkPieces)
  (.cond (.t 54) .skip (.exit 2)))
  (.seq
  (.blk 3 (.seq
  (.reg [0, 1, 2, 3, 8, 9, 10, 11, 12, 13, 14, 15, 16, 17, 18, 19, 41, 45, 54, 71, 76, 83, 132, 150, 154] c_garlandlaw09_WalkPieces_r12 v_garlandlaw09_WalkPieces)
  (.seq
  (.seq
  (.reg [0, 1, 2, 3, 8, 9, 10, 11, 12, 13, 14, 15, 16, 17, 18, 19, 41, 45, 54, 76, 83, 132, 150, 154] c_garlandlaw09_WalkPieces_r13 v_garlandlaw09_WalkPieces)
  (.cond (.t 71) (.seq
  (.reg [0, 1, 2, 3, 8, 9, 10, 11, 12, 13, 14, 15, 16, 17, 18, 19, 41, 45, 54, 71, 76, 83, 132, 150, 154] c_garlandlaw09_WalkPieces_r14 v_garlandlaw09_WalkPieces)
  .ret) .skip))
  (.seq
  (.seq
  (.reg [0, 1, 2, 3, 8, 9, 10, 11, 12, 13, 14, 15, 16, 17, 18, 19, 41, 45, 54, 71, 83, 132, 150, 154] c_garlandlaw09_WalkPieces_r15 v_garlandlaw09_WalkPieces)
  (.cond (.t 76) (.reg [0, 1, 2, 3, 8, 9, 10, 11, 12, 13, 14, 15, 16, 17, 18, 19, 41, 45, 54, 71, 76, 83, 132, 150, 154] c_garlandlaw09_WalkPieces_r16 v_garlandlaw09_WalkPieces) .skip))
  (.seq
  (.seq
  (.reg [0, 1, 2, 3, 8, 9, 10, 11, 12, 13, 14, 15, 16, 17, 18, 19, 41, 45, 54, 71, 76, 132, 150, 154] c_garlandlaw09_WalkPieces_r17 v_garlandlaw09_WalkPieces)
  (.cond (.t 83) (.reg [0, 1, 2, 3, 8, 9, 10, 11, 12, 13, 14, 15, 16, 17, 18, 19, 41, 45, 54, 71, 76, 83, 132, 150, 154] c_garlandlaw09_WalkPieces_r18 v_garlandlaw09_WalkPieces) .skip))
  (.seq
  (.draw [0, 1, 2, 3, 8, 9, 10, 11, 12, 13, 14, 15, 16, 17, 18, 19, 41, 45, 54, 71, 76, 83, 150, 154] c_garlandlaw09_WalkPieces_r19 v_garlandlaw09_WalkPieces)
  (.cond (.t 132) (.seq
  (.reg [0, 1, 2, 3, 8, 9, 10, 11, 12, 13, 14, 15, 16, 17, 18, 19, 41, 45, 54, 71, 76, 83, 132, 150, 154] c_garlandlaw09_WalkPieces_r20 v_garlandlaw09_WalkPieces)
  .ret) .skip)))))))
  (.reg [0, 1, 2, 3, 8, 9, 10, 11, 12, 13, 14, 15, 16, 17, 18, 19, 41, 45, 54, 71, 76, 83, 132, 150, 154] c_garlandlaw09_WalkPieces_r21 v_garlandlaw09_WalkPieces))))))
  (.seq
  (.seq
  (.reg [0, 1, 2, 3, 8, 9, 10, 11, 12, 13, 14, 15, 16, 17, 18, 19, 41, 45, 54, 71, 76, 83, 132, 154] c_garlandlaw09_WalkPieces_r22 v_garlandlaw09_WalkPieces)
  (.cond (.t 150) (.seq
  (.reg [0, 1, 2, 3, 8, 9, 10, 11, 12, 13, 14, 15, 16, 17, 18, 19, 41, 45, 54, 71, 76, 83, 132, 150, 154] c_garlandlaw09_WalkPieces_r23 v_garlandlaw09_WalkPieces)
  .ret) .skip))
  (.seq
  (.reg [0, 1, 2, 3, 8, 9, 10, 11, 12, 13, 14, 15, 16, 17, 18, 19, 41, 45, 54, 71, 76, 83, 132, 150] c_garlandlaw09_WalkPieces_r24 v_garlandlaw09_WalkPieces)
  (.cond (.t 154) (.reg [0, 1, 2, 3, 8, 9, 10, 11, 12, 13, 14, 15, 16, 17, 18, 19, 41, 45, 54, 71, 76, 83, 132, 150, 154] c_garlandlaw09_WalkPieces_r25 v_garlandlaw09_WalkPieces) .skip))))))
  (.reg [0, 1, 2, 3, 8, 9, 10, 11, 12, 13, 14, 15, 16, 17, 18, 19, 41, 45, 54, 71, 76, 83, 132, 150, 154] c_garlandlaw09_WalkPieces_r26 v_garlandlaw09_WalkPieces))))))
  (.seq
  (.reg [0, 1, 2, 3, 8, 9, 10, 11, 12, 13, 14, 15, 16, 17, 18, 19, 41, 45, 54, 71, 76, 83, 132, 150, 154] c_garlandlaw09_WalkPieces_r27 v_garlandlaw09_WalkPieces)
  .ret))))))))
abbrev n_garlandlaw09_WalkPieces : Nat := 7
theorem s_garlandlaw09_WalkPieces : stripF Try.prog [8] v_garlandlaw09_WalkPieces Try.f7 = some (c_garlandlaw09_WalkPieces, [(.tmp 8)]) := by kernel_rfl
theorem go_garlandlaw09_WalkPieces {L : List (List Nat)} {args : List AVal} {h : Heap} {Q : AVal → Heap → Prop} (hl : args.length = 4) (H : Wlk Try.prog [8] Try.f7.ntmps v_garlandlaw09_WalkPieces L c_garlandlaw09_WalkPieces (ends L [(.tmp 8)] Q) (entry v_garlandlaw09_WalkPieces args h)) : ACalls Try.prog L n_garlandlaw09_WalkPieces args h Q :=
  acalls_of_strip mix Try.func7 s_garlandlaw09_WalkPieces (by rw [hl]; exact Nat.le_of_ble_eq_true rfl) H
def c_garlandlaw09_awake_r0 : List GOp := [(none, (.asg 0 (.c (.bool false)) true))]
def c_garlandlaw09_awake_r1 : List GOp := [(none, (.bld 4 [((0, 1), ((.c (.int .i64 0)), true)), ((1, 1), ((.c (.int .i64 1)), true))] [(.int .i64 0), (.int .i64 0)])),
  (none, (.blds 5 1 2 [((0, 2), ((.t 4), true))] [(.int .i64 0), (.int .i64 0)])),
  (none, (.bld 6 [((0, 1), ((.c (.int .i64 2)), true)), ((1, 1), ((.t 5), true))] [(.int .i64 0), (.slice none 0 0)])),
  (none, (.alloc 1 [(.int .i64 0), (.slice none 0 0)])),
  (none, (.st (.t 1) (.t 6) 2))]
def c_garlandlaw09_awake_r2 : List GOp := [(none, (.r (.ld 8 (.t 1) 2 true))),
  (none, (.blds 9 2 1 [((0, 1), ((.c (.int .i64 (-(0 + 1)))), true)), ((1, 1), ((.c (.int .i64 (-(0 + 1)))), true))] [(.int .i64 0)])),
  (none, (.blds 10 2 1 [((0, 1), ((.c (.int .i64 1)), true)), ((1, 1), ((.c (.int .i64 0)), true))] [(.int .i64 0)])),
  (none, (.call 11 (.f 10) [((.t 8), false), ((.t 9), false), ((.t 10), false)])),
  (none, (.r (.mov 7 (.t 11)))),
  (none, (.r (.ext 12 (.t 7) 0))),
  (none, (.r (.ext 13 (.t 7) 1))),
  (none, (.asg 2 (.t 12) true)),
  (none, (.asg 3 (.t 13) true))]
def c_garlandlaw09_awake_r3 : List GOp := [(none, (.r (.mov 14 (.t 3)))),
  (none, (.r (.bin 15 .eql 0 (.t 14) (.c (.int .i64 0))))),
  (none, (.r (.mov 16 (.t 15)))), ((some (16, true)), (.r (.mov 17 (.t 2)))), ((some (16, true)), (.blds 18 2 1 [((0, 1), ((.c (.int .i64 1)), true)), ((1, 1), ((.c (.int .i64 0)), true))] [(.int .i64 0)])), ((some (16, true)), (.call 19 (.f 16) [((.t 17), false), ((.t 18), false)])),
  (none, (.r (.pick 20 (.t 16) (.t 19) (.c (.bool false))))),
  (none, (.r (.mov 21 (.t 20)))), ((some (21, true)), (.r (.ld 22 (.t 1) 2 true))), ((some (21, true)), (.blds 23 2 1 [((0, 1), ((.c (.int .i64 (-(0 + 1)))), true)), ((1, 1), ((.c (.int .i64 (-(0 + 1)))), true))] [(.int .i64 0)])), ((some (21, true)), (.blds 24 2 1 [((0, 1), ((.c (.int .i64 0)), true)), ((1, 1), ((.c (.int .i64 1)), true))] [(.int .i64 0)])), ((some (21, true)), (.call 25 (.f 14) [((.t 22), false), ((.t 23), false), ((.t 24), false)])),
  (none, (.r (.pick 26 (.t 21) (.t 25) (.c (.bool false))))),
  (none, (.asg 0 (.t 26) true))]
def v_garlandlaw09_awake : List Nat := [0, 1, 2, 3]
def c_garlandlaw09_awake : ACode :=
  (.seq
  (.reg [0, 1, 2, 3] c_garlandlaw09_awake_r0 v_garlandlaw09_awake)
  (.seq
  (.reg [0, 2, 3] c_garlandlaw09_awake_r1 v_garlandlaw09_awake)
  (.seq
  (.reg [0, 1, 2, 3] c_garlandlaw09_awake_r2 v_garlandlaw09_awake)
  (.seq
  (.reg [0, 1, 2, 3] c_garlandlaw09_awake_r3 v_garlandlaw09_awake)
  .ret))))
abbrev n_garlandlaw09_awake : Nat := 8
theorem s_garlandlaw09_awake : stripF Try.prog [0] v_garlandlaw09_awake Try.f8 = some (c_garlandlaw09_awake, [(.tmp 0)]) := by kernel_rfl
theorem go_garlandlaw09_awake {L : List (List Nat)} {args : List AVal} {h : Heap} {Q : AVal → Heap → Prop} (hl : args.length = 0) (H : Wlk Try.prog [0] Try.f8.ntmps v_garlandlaw09_awake L c_garlandlaw09_awake (ends L [(.tmp 0)] Q) (entry v_garlandlaw09_awake args h)) : ACalls Try.prog L n_garlandlaw09_awake args h Q :=
  acalls_of_strip mix Try.func8 s_garlandlaw09_awake (by rw [hl]; exact Nat.le_of_ble_eq_true rfl) H
def c_walk_Flip_r0 : List GOp := [(none, (.box 3 (.t 0))),
  (none, (.asg 6 (.c (.slice none 0 0)) true)),
  (none, (.asg 7 (.c (.int .i64 0)) true))]
def c_walk_Flip_r1 : List GOp := [(none, (.r (.ld 10 (.t 3) 2 true))),
  (none, (.call 11 (.f 28) [((.t 10), false)])),
  (none, (.r (.notb 12 (.t 11)))),
  (none, (.asg 9 (.t 12) true))]
def c_walk_Flip_r2 : List GOp := [(none, (.asg 6 (.c (.slice none 0 0)) true)),
  (none, (.asg 7 (.c (.int .i64 3)) true))]
def c_walk_Flip_r3 : List GOp := [(none, (.r (.ld 14 (.t 3) 2 true))),
  (none, (.r (.mov 15 (.t 1)))),
  (none, (.call 16 (.f 29) [((.t 14), false), ((.t 15), false)])),
  (none, (.r (.notb 17 (.t 16)))),
  (none, (.asg 13 (.t 17) true))]
def c_walk_Flip_r4 : List GOp := [(none, (.asg 6 (.c (.slice none 0 0)) true)),
  (none, (.asg 7 (.c (.int .i64 9)) true))]
def c_walk_Flip_r5 : List GOp := [(none, (.r (.ld 19 (.t 3) 2 true))),
  (none, (.r (.mov 20 (.t 1)))),
  (none, (.bld 21 [((0, 2), ((.t 19), true)), ((2, 1), ((.t 20), true))] [(.int .i64 0), (.slice none 0 0), (.slice none 0 0)])),
  (none, (.r (.mov 22 (.t 2)))),
  (none, (.call 23 (.f 30) [((.t 21), false), ((.t 22), false)])),
  (none, (.r (.notb 24 (.t 23)))),
  (none, (.asg 18 (.t 24) true))]
def c_walk_Flip_r6 : List GOp := [(none, (.asg 6 (.c (.slice none 0 0)) true)),
  (none, (.asg 7 (.c (.int .i64 1)) true))]
def c_walk_Flip_r7 : List GOp := [(none, (.r (.mov 25 (.t 1)))),
  (none, (.call 26 (.f 31) [((.t 25), false)])),
  (none, (.asg 8 (.t 26) true))]
def c_walk_Flip_r8 : List GOp := [(none, (.r (.mov 27 (.t 8)))),
  (none, (.r (.mov 28 (.t 2)))),
  (none, (.call 29 (.f 32) [((.t 27), false), ((.t 28), false)]))]
def c_walk_Flip_r9 : List GOp := [(none, (.r (.mov 30 (.t 8)))),
  (none, (.asg 6 (.t 30) true)),
  (none, (.asg 7 (.c (.int .i64 0)) true))]
def v_walk_Flip : List Nat := [0, 1, 2, 3, 6, 7, 8, 9, 13, 18]
def c_walk_Flip : ACode :=
  (.seq
  (.reg [0, 1, 2, 6, 7, 8, 9, 13, 18] c_walk_Flip_r0 v_walk_Flip)
  (.seq
  (.blk 0 (.seq
  (.reg [0, 1, 2, 3, 6, 7, 8, 9, 13, 18] c_walk_Flip_r1 v_walk_Flip)
  (.cond (.t 9) (.seq
  (.reg [0, 1, 2, 3, 6, 7, 8, 9, 13, 18] c_walk_Flip_r2 v_walk_Flip)
  .ret) (.seq
  (.reg [0, 1, 2, 3, 6, 7, 8, 9, 13, 18] c_walk_Flip_r3 v_walk_Flip)
  (.cond (.t 13) (.seq
  (.reg [0, 1, 2, 3, 6, 7, 8, 9, 13, 18] c_walk_Flip_r4 v_walk_Flip)
  .ret) (.seq
  (.reg [0, 1, 2, 3, 6, 7, 8, 9, 13, 18] c_walk_Flip_r5 v_walk_Flip)
  (.cond (.t 18) (.seq
  (.reg [0, 1, 2, 3, 6, 7, 8, 9, 13, 18] c_walk_Flip_r6 v_walk_Flip)
  .ret) .skip)))))))
  (.seq
  (.reg [0, 1, 2, 3, 6, 7, 8, 9, 13, 18] c_walk_Flip_r7 v_walk_Flip)
  (.seq
  (.reg [0, 1, 2, 3, 6, 7, 8, 9, 13, 18] c_walk_Flip_r8 v_walk_Flip)
  (.seq
  (.reg [0, 1, 2, 3, 6, 7, 8, 9, 13, 18] c_walk_Flip_r9 v_walk_Flip)
  .ret)))))
abbrev n_walk_Flip : Nat := 10
theorem s_walk_Flip : stripF Try.prog [6, 7] v_walk_Flip Try.f10 = some (c_walk_Flip, [(.tmp 6), (.tmp 7)]) := by kernel_rfl
theorem go_walk_Flip {L : List (List Nat)} {args : List AVal} {h : Heap} {Q : AVal → Heap → Prop} (hl : args.length = 3) (H : Wlk Try.prog [6, 7] Try.f10.ntmps v_walk_Flip L c_walk_Flip (ends L [(.tmp 6), (.tmp 7)] Q) (entry v_walk_Flip args h)) : ACalls Try.prog L n_walk_Flip args h Q :=
  acalls_of_strip mix Try.func10 s_walk_Flip (by rw [hl]; exact Nat.le_of_ble_eq_true rfl) H
def c_walk_Augments_r0 : List GOp := [(none, (.box 3 (.t 0))),
  (none, (.asg 6 (.c (.bool false)) true))]
def c_walk_Augments_r1 : List GOp := [(none, (.r (.ld 7 (.t 3) 2 true))),
  (none, (.r (.mov 8 (.t 1)))),
  (none, (.call 9 (.f 29) [((.t 7), false), ((.t 8), false)])),
  (none, (.r (.mov 10 (.t 9)))), ((some (10, true)), (.r (.ld 11 (.t 3) 2 true))), ((some (10, true)), (.r (.mov 12 (.t 1)))), ((some (10, true)), (.bld 13 [((0, 2), ((.t 11), true)), ((2, 1), ((.t 12), true))] [(.int .i64 0), (.slice none 0 0), (.slice none 0 0)])), ((some (10, true)), (.r (.mov 14 (.t 2)))), ((some (10, true)), (.call 15 (.f 30) [((.t 13), false), ((.t 14), false)])),
  (none, (.r (.pick 16 (.t 10) (.t 15) (.c (.bool false))))),
  (none, (.asg 6 (.t 16) true))]
def v_walk_Augments : List Nat := [0, 1, 2, 3, 6]
def c_walk_Augments : ACode :=
  (.seq
  (.reg [0, 1, 2, 6] c_walk_Augments_r0 v_walk_Augments)
  (.seq
  (.reg [0, 1, 2, 3, 6] c_walk_Augments_r1 v_walk_Augments)
  .ret))
abbrev n_walk_Augments : Nat := 14
theorem s_walk_Augments : stripF Try.prog [6] v_walk_Augments Try.f14 = some (c_walk_Augments, [(.tmp 6)]) := by kernel_rfl
theorem go_walk_Augments {L : List (List Nat)} {args : List AVal} {h : Heap} {Q : AVal → Heap → Prop} (hl : args.length = 3) (H : Wlk Try.prog [6] Try.f14.ntmps v_walk_Augments L c_walk_Augments (ends L [(.tmp 6)] Q) (entry v_walk_Augments args h)) : ACalls Try.prog L n_walk_Augments args h Q :=
  acalls_of_strip mix Try.func14 s_walk_Augments (by rw [hl]; exact Nat.le_of_ble_eq_true rfl) H
def c_garlandhelp_Plain_int__r0 : List GOp := [(none, (.asg 4 (.c (.bool false)) true))]
def c_garlandhelp_Plain_int__r1 : List GOp := [(none, (.r (.mov 5 (.t 0)))),
  (none, (.r (.mov 6 (.t 1)))),
  (none, (.call 7 (.f 37) [((.t 5), false), ((.t 6), false), ((.f 38), false)])),
  (none, (.asg 4 (.t 7) true))]
def v_garlandhelp_Plain_int_ : List Nat := [0, 1, 4]
def c_garlandhelp_Plain_int_ : ACode :=
  (.seq
  (.reg [0, 1, 4] c_garlandhelp_Plain_int__r0 v_garlandhelp_Plain_int_)
  (.seq
  (.reg [0, 1, 4] c_garlandhelp_Plain_int__r1 v_garlandhelp_Plain_int_)
  .ret))
abbrev n_garlandhelp_Plain_int_ : Nat := 16
theorem s_garlandhelp_Plain_int_ : stripF Try.prog [4] v_garlandhelp_Plain_int_ Try.f16 = some (c_garlandhelp_Plain_int_, [(.tmp 4)]) := by kernel_rfl
theorem go_garlandhelp_Plain_int_ {L : List (List Nat)} {args : List AVal} {h : Heap} {Q : AVal → Heap → Prop} (hl : args.length = 2) (H : Wlk Try.prog [4] Try.f16.ntmps v_garlandhelp_Plain_int_ L c_garlandhelp_Plain_int_ (ends L [(.tmp 4)] Q) (entry v_garlandhelp_Plain_int_ args h)) : ACalls Try.prog L n_garlandhelp_Plain_int_ args h Q :=
  acalls_of_strip mix Try.func16 s_garlandhelp_Plain_int_ (by rw [hl]; exact Nat.le_of_ble_eq_true rfl) H
def c_walk_Apart_r0 : List GOp := [(none, (.box 3 (.t 0))),
  (none, (.asg 6 (.c (.slice none 0 0)) true)),
  (none, (.asg 7 (.c (.int .i64 0)) true))]
def c_walk_Apart_r1 : List GOp := [(none, (.r (.ld 17 (.t 3) 2 true))),
  (none, (.call 18 (.f 28) [((.t 17), false)])),
  (none, (.r (.notb 19 (.t 18))))]
def c_walk_Apart_r2 : List GOp := [(none, (.asg 6 (.c (.slice none 0 0)) true)),
  (none, (.asg 7 (.c (.int .i64 3)) true))]
def c_walk_Apart_r3 : List GOp := [(none, (.r (.ld 20 (.t 3) 2 true))),
  (none, (.r (.mov 21 (.t 1)))),
  (none, (.call 22 (.f 29) [((.t 20), false), ((.t 21), false)])),
  (none, (.r (.notb 23 (.t 22)))),
  (none, (.r (.mov 24 (.t 23)))), ((some (24, false)), (.r (.ld 25 (.t 3) 2 true))), ((some (24, false)), (.r (.mov 26 (.t 2)))), ((some (24, false)), (.call 27 (.f 29) [((.t 25), false), ((.t 26), false)])), ((some (24, false)), (.r (.notb 28 (.t 27)))),
  (none, (.r (.pick 29 (.t 24) (.c (.bool true)) (.t 28))))]
def c_walk_Apart_r4 : List GOp := [(none, (.asg 6 (.c (.slice none 0 0)) true)),
  (none, (.asg 7 (.c (.int .i64 9)) true))]
def c_walk_Apart_r5 : Tree := 
  (.take [2, 3, 8, 9] (none, (.r (.ld 30 (.t 3) 2 true))) 
  (.take [2, 3, 8, 9] (none, (.r (.mov 31 (.t 1)))) 
  (.take [6, 7, 9] (none, (.r (.ld 34 (.t 3) 2 true))) 
  (.take [6, 7, 9] (none, (.r (.mov 35 (.t 2)))) (.two 2 (none, (.bld 32 [((0, 2), ((.t 30), true)), ((2, 1), ((.t 31), true))] [(.int .i64 0), (.slice none 0 0), (.slice none 0 0)])) (.two 3 (none, (.mkfn 33 (.func 39) [((.t 32), false)] [])) (.two 6 (none, (.bld 36 [((0, 2), ((.t 34), true)), ((2, 1), ((.t 35), true))] [(.int .i64 0), (.slice none 0 0), (.slice none 0 0)])) (.two 7 (none, (.mkfn 37 (.func 39) [((.t 36), false)] [])) 
  (.one 8 (none, (.asg 8 (.t 33) true)) 
  (.one 9 (none, (.asg 9 (.t 37) true)) .done)) 8 (none, (.asg 8 (.t 33) true)) 
  (.one 7 (none, (.mkfn 37 (.func 39) [((.t 36), false)] [])) 
  (.one 9 (none, (.asg 9 (.t 37) true)) .done))) 8 (none, (.asg 8 (.t 33) true)) 
  (.one 6 (none, (.bld 36 [((0, 2), ((.t 34), true)), ((2, 1), ((.t 35), true))] [(.int .i64 0), (.slice none 0 0), (.slice none 0 0)])) 
  (.one 7 (none, (.mkfn 37 (.func 39) [((.t 36), false)] [])) 
  (.one 9 (none, (.asg 9 (.t 37) true)) .done)))) 6 (none, (.bld 36 [((0, 2), ((.t 34), true)), ((2, 1), ((.t 35), true))] [(.int .i64 0), (.slice none 0 0), (.slice none 0 0)])) (.two 3 (none, (.mkfn 33 (.func 39) [((.t 32), false)] [])) (.two 7 (none, (.mkfn 37 (.func 39) [((.t 36), false)] [])) 
  (.one 8 (none, (.asg 8 (.t 33) true)) 
  (.one 9 (none, (.asg 9 (.t 37) true)) .done)) 8 (none, (.asg 8 (.t 33) true)) 
  (.one 7 (none, (.mkfn 37 (.func 39) [((.t 36), false)] [])) 
  (.one 9 (none, (.asg 9 (.t 37) true)) .done))) 7 (none, (.mkfn 37 (.func 39) [((.t 36), false)] [])) 
  (.one 3 (none, (.mkfn 33 (.func 39) [((.t 32), false)] [])) 
  (.one 8 (none, (.asg 8 (.t 33) true)) 
  (.one 9 (none, (.asg 9 (.t 37) true)) .done))))) 6 (none, (.bld 36 [((0, 2), ((.t 34), true)), ((2, 1), ((.t 35), true))] [(.int .i64 0), (.slice none 0 0), (.slice none 0 0)])) (.two 2 (none, (.bld 32 [((0, 2), ((.t 30), true)), ((2, 1), ((.t 31), true))] [(.int .i64 0), (.slice none 0 0), (.slice none 0 0)])) (.two 3 (none, (.mkfn 33 (.func 39) [((.t 32), false)] [])) (.two 7 (none, (.mkfn 37 (.func 39) [((.t 36), false)] [])) 
  (.one 8 (none, (.asg 8 (.t 33) true)) 
  (.one 9 (none, (.asg 9 (.t 37) true)) .done)) 8 (none, (.asg 8 (.t 33) true)) 
  (.one 7 (none, (.mkfn 37 (.func 39) [((.t 36), false)] [])) 
  (.one 9 (none, (.asg 9 (.t 37) true)) .done))) 7 (none, (.mkfn 37 (.func 39) [((.t 36), false)] [])) 
  (.one 3 (none, (.mkfn 33 (.func 39) [((.t 32), false)] [])) 
  (.one 8 (none, (.asg 8 (.t 33) true)) 
  (.one 9 (none, (.asg 9 (.t 37) true)) .done)))) 7 (none, (.mkfn 37 (.func 39) [((.t 36), false)] [])) 
  (.one 2 (none, (.bld 32 [((0, 2), ((.t 30), true)), ((2, 1), ((.t 31), true))] [(.int .i64 0), (.slice none 0 0), (.slice none 0 0)])) 
  (.one 3 (none, (.mkfn 33 (.func 39) [((.t 32), false)] [])) 
  (.one 8 (none, (.asg 8 (.t 33) true)) 
  (.one 9 (none, (.asg 9 (.t 37) true)) .done))))))))))
def c_walk_Apart_r6 : List GOp := [(none, (.r (.fldA 38 (.t 3) 0))),
  (none, (.r (.ld 39 (.t 38) 1 false))),
  (none, (.bld 40 [((0, 1), ((.t 39), true))] [(.int .i64 0), (.slice none 0 0)])),
  (none, (.alloc 10 [(.int .i64 0), (.slice none 0 0)])),
  (none, (.st (.t 10) (.t 40) 2))]
def c_walk_Apart_r7 : List GOp := [(none, (.r (.fldA 41 (.t 3) 0))),
  (none, (.r (.ld 42 (.t 41) 1 false))),
  (none, (.mk 43 (.t 42) (.t 42) 1 1 [(.bool false)])),
  (none, (.asg 11 (.t 43) true))]
def c_walk_Apart_r8 : List GOp := [(none, (.r (.fldA 44 (.t 3) 1))),
  (none, (.r (.ld 45 (.t 44) 1 false))),
  (none, (.r (.len 46 (.t 45)))),
  (none, (.r (.mov 47 (.c (.int .i64 0)))))]
def c_walk_Apart_r9 : List GOp := [(none, (.r (.bin 48 .lss 0 (.t 47) (.t 46))))]
def c_walk_Apart_r10 : List GOp := [(none, (.r (.idxA 49 (.t 45) (.t 47) 2))),
  (none, (.r (.ld 50 (.t 49) 2 true))),
  (none, (.alloc 13 [(.int .i64 0), (.int .i64 0)])),
  (none, (.st (.t 13) (.t 50) 2))]
def c_walk_Apart_r11 : Tree := 
  (.take [5, 11, 12] (none, (.r (.mov 51 (.t 8)))) 
  (.take [2, 5, 11, 12] (none, (.r (.fldA 52 (.t 13) 0))) 
  (.take [5, 11, 12] (none, (.r (.ld 53 (.t 52) 1 false))) 
  (.take [4, 5, 11, 12] (none, (.r (.fldA 54 (.t 13) 1))) 
  (.take [5, 11, 12] (none, (.r (.ld 55 (.t 54) 1 false))) 
  (.take [11, 12] (none, (.r (.mov 57 (.t 9)))) 
  (.take [8, 11, 12] (none, (.r (.fldA 58 (.t 13) 0))) 
  (.take [11, 12] (none, (.r (.ld 59 (.t 58) 1 false))) 
  (.take [10, 11, 12] (none, (.r (.fldA 60 (.t 13) 1))) 
  (.take [11, 12] (none, (.r (.ld 61 (.t 60) 1 false))) 
  (.one 5 (none, (.call 56 (.t 51) [((.t 53), false), ((.t 55), false)])) 
  (.one 11 (none, (.call 62 (.t 57) [((.t 59), false), ((.t 61), false)])) 
  (.take [] (none, (.r (.bin 63 .neq 1 (.t 56) (.t 62)))) .done)))))))))))))
def c_walk_Apart_r12 : List GOp := [(none, (.r (.fldA 64 (.t 10) 1))),
  (none, (.r (.ld 65 (.t 64) 1 false))),
  (none, (.r (.ld 66 (.t 13) 2 true))),
  (none, (.blds 67 1 2 [((0, 2), ((.t 66), true))] [(.int .i64 0), (.int .i64 0)])),
  (none, (.app 68 (.t 65) (.t 67) 2 16)),
  (none, (.r (.fldA 69 (.t 10) 1))),
  (none, (.st (.t 69) (.t 68) 1))]
def c_walk_Apart_r13 : Tree := 
  (.take [6, 7, 8, 9] (none, (.r (.mov 70 (.t 11)))) 
  (.take [2, 6, 7, 8, 9] (none, (.r (.fldA 71 (.t 13) 0))) 
  (.take [6, 7, 8, 9] (none, (.r (.ld 72 (.t 71) 1 false))) 
  (.take [8, 9] (none, (.r (.mov 73 (.t 11)))) 
  (.take [5, 8, 9] (none, (.r (.fldA 74 (.t 13) 1))) 
  (.take [8, 9] (none, (.r (.ld 75 (.t 74) 1 false))) 
  (.take [7, 8, 9] (none, (.r (.idxA 76 (.t 70) (.t 72) 1))) 
  (.one 7 (none, (.st (.t 76) (.c (.bool true)) 1)) 
  (.take [9] (none, (.r (.idxA 77 (.t 73) (.t 75) 1))) 
  (.one 9 (none, (.st (.t 77) (.c (.bool true)) 1)) .done))))))))))
def c_walk_Apart_r14 : List GOp := [(none, (.r (.bin 78 .add 0 (.t 47) (.c (.int .i64 1))))),
  (none, (.asg 47 (.t 78) true))]
def c_walk_Apart_r15 : List GOp := [(none, (.asg 14 (.c (.slice none 0 0)) true))]
def c_walk_Apart_r16 : List GOp := [(none, (.r (.ld 79 (.t 10) 2 true))),
  (none, (.call 80 (.f 40) [((.t 79), false)])),
  (none, (.r (.len 81 (.t 80)))),
  (none, (.r (.mov 82 (.c (.int .i64 0)))))]
def c_walk_Apart_r17 : List GOp := [(none, (.r (.bin 83 .lss 0 (.t 82) (.t 81))))]
def c_walk_Apart_r18 : List GOp := [(none, (.r (.idxA 84 (.t 80) (.t 82) 1))),
  (none, (.r (.ld 85 (.t 84) 1 false))),
  (none, (.asg 16 (.t 85) true))]
def c_walk_Apart_r19 : List GOp := [(none, (.r (.mov 86 (.t 11)))),
  (none, (.r (.mov 87 (.t 16)))),
  (none, (.r (.idxA 88 (.t 87) (.c (.int .i64 0)) 1))),
  (none, (.r (.ld 89 (.t 88) 1 false))),
  (none, (.r (.idxA 90 (.t 86) (.t 89) 1))),
  (none, (.r (.ld 91 (.t 90) 1 false)))]
def c_walk_Apart_r20 : List GOp := [(none, (.r (.mov 92 (.t 14)))),
  (none, (.r (.mov 93 (.t 16)))),
  (none, (.blds 94 1 1 [((0, 1), ((.t 93), true))] [(.slice none 0 0)])),
  (none, (.app 95 (.t 92) (.t 94) 1 24)),
  (none, (.asg 14 (.t 95) true))]
def c_walk_Apart_r21 : List GOp := [(none, (.r (.bin 96 .add 0 (.t 82) (.c (.int .i64 1))))),
  (none, (.asg 82 (.t 96) true))]
def c_walk_Apart_r22 : List GOp := [(none, (.r (.mov 97 (.t 14)))),
  (none, (.asg 6 (.t 97) true)),
  (none, (.asg 7 (.c (.int .i64 0)) true))]
def v_walk_Apart : List Nat := [0, 1, 2, 3, 6, 7, 8, 9, 10, 11, 13, 14, 16, 19, 29, 45, 46, 47, 48, 63, 80, 81, 82, 83, 91]
def c_walk_Apart : ACode :=
  (.seq
  (.reg [0, 1, 2, 6, 7, 8, 9, 10, 11, 13, 14, 16, 19, 29, 45, 46, 47, 48, 63, 80, 81, 82, 83, 91] c_walk_Apart_r0 v_walk_Apart)
  (.seq
  (.seq
  (.reg [0, 1, 2, 3, 6, 7, 8, 9, 10, 11, 13, 14, 16, 29, 45, 46, 47, 48, 63, 80, 81, 82, 83, 91] c_walk_Apart_r1 v_walk_Apart)
  (.cond (.t 19) (.seq
  (.reg [0, 1, 2, 3, 6, 7, 8, 9, 10, 11, 13, 14, 16, 19, 29, 45, 46, 47, 48, 63, 80, 81, 82, 83, 91] c_walk_Apart_r2 v_walk_Apart)
  .ret) .skip))
  (.seq
  (.seq
  (.reg [0, 1, 2, 3, 6, 7, 8, 9, 10, 11, 13, 14, 16, 19, 45, 46, 47, 48, 63, 80, 81, 82, 83, 91] c_walk_Apart_r3 v_walk_Apart)
  (.cond (.t 29) (.seq
  (.reg [0, 1, 2, 3, 6, 7, 8, 9, 10, 11, 13, 14, 16, 19, 29, 45, 46, 47, 48, 63, 80, 81, 82, 83, 91] c_walk_Apart_r4 v_walk_Apart)
  .ret) .skip))
  (.seq
  (.draw [0, 1, 2, 3, 6, 7, 8, 9, 10, 11, 13, 14, 16, 19, 29, 45, 46, 47, 48, 63, 80, 81, 82, 83, 91] c_walk_Apart_r5 v_walk_Apart)
  (.seq
  (.reg [0, 1, 2, 3, 6, 7, 8, 9, 11, 13, 14, 16, 19, 29, 45, 46, 47, 48, 63, 80, 81, 82, 83, 91] c_walk_Apart_r6 v_walk_Apart)
  (.seq
  (.reg [0, 1, 2, 3, 6, 7, 8, 9, 10, 11, 13, 14, 16, 19, 29, 45, 46, 47, 48, 63, 80, 81, 82, 83, 91] c_walk_Apart_r7 v_walk_Apart)
  (.seq
  (.seq
  (.reg [0, 1, 2, 3, 6, 7, 8, 9, 10, 11, 13, 14, 16, 19, 29, 48, 63, 80, 81, 82, 83, 91] c_walk_Apart_r8 v_walk_Apart)
  (.blk 0 (.loop (.seq
  (.reg [0, 1, 2, 3, 6, 7, 8, 9, 10, 11, 13, 14, 16, 19, 29, 45, 46, 47, 63, 80, 81, 82, 83, 91] c_walk_Apart_r9 v_walk_Apart)
  (.seq
  (.cond (.t 48) .skip (.exit 0))
  (.seq
  (.blk 1 (.seq
  (.reg [0, 1, 2, 3, 6, 7, 8, 9, 10, 11, 14, 16, 19, 29, 45, 46, 47, 48, 63, 80, 81, 82, 83, 91] c_walk_Apart_r10 v_walk_Apart)
  (.seq
  (.draw [0, 1, 2, 3, 6, 7, 8, 9, 10, 11, 13, 14, 16, 19, 29, 45, 46, 47, 48, 80, 81, 82, 83, 91] c_walk_Apart_r11 v_walk_Apart)
  (.cond (.t 63) (.seq
  (.reg [0, 1, 2, 3, 6, 7, 8, 9, 10, 11, 13, 14, 16, 19, 29, 45, 46, 47, 48, 63, 80, 81, 82, 83, 91] c_walk_Apart_r12 v_walk_Apart)
  (.draw [0, 1, 2, 3, 6, 7, 8, 9, 10, 11, 13, 14, 16, 19, 29, 45, 46, 47, 48, 63, 80, 81, 82, 83, 91] c_walk_Apart_r13 v_walk_Apart)) .skip))))
  (.reg [0, 1, 2, 3, 6, 7, 8, 9, 10, 11, 13, 14, 16, 19, 29, 45, 46, 47, 48, 63, 80, 81, 82, 83, 91] c_walk_Apart_r14 v_walk_Apart)))))))
  (.seq
  (.reg [0, 1, 2, 3, 6, 7, 8, 9, 10, 11, 13, 14, 16, 19, 29, 45, 46, 47, 48, 63, 80, 81, 82, 83, 91] c_walk_Apart_r15 v_walk_Apart)
  (.seq
  (.seq
  (.reg [0, 1, 2, 3, 6, 7, 8, 9, 10, 11, 13, 14, 16, 19, 29, 45, 46, 47, 48, 63, 83, 91] c_walk_Apart_r16 v_walk_Apart)
  (.blk 2 (.loop (.seq
  (.reg [0, 1, 2, 3, 6, 7, 8, 9, 10, 11, 13, 14, 16, 19, 29, 45, 46, 47, 48, 63, 80, 81, 82, 91] c_walk_Apart_r17 v_walk_Apart)
  (.seq
  (.cond (.t 83) .skip (.exit 2))
  (.seq
  (.blk 3 (.seq
  (.reg [0, 1, 2, 3, 6, 7, 8, 9, 10, 11, 13, 14, 16, 19, 29, 45, 46, 47, 48, 63, 80, 81, 82, 83, 91] c_walk_Apart_r18 v_walk_Apart)
  (.seq
  (.reg [0, 1, 2, 3, 6, 7, 8, 9, 10, 11, 13, 14, 16, 19, 29, 45, 46, 47, 48, 63, 80, 81, 82, 83] c_walk_Apart_r19 v_walk_Apart)
  (.cond (.t 91) (.reg [0, 1, 2, 3, 6, 7, 8, 9, 10, 11, 13, 14, 16, 19, 29, 45, 46, 47, 48, 63, 80, 81, 82, 83, 91] c_walk_Apart_r20 v_walk_Apart) .skip))))
  (.reg [0, 1, 2, 3, 6, 7, 8, 9, 10, 11, 13, 14, 16, 19, 29, 45, 46, 47, 48, 63, 80, 81, 82, 83, 91] c_walk_Apart_r21 v_walk_Apart)))))))
  (.seq
  (.reg [0, 1, 2, 3, 6, 7, 8, 9, 10, 11, 13, 14, 16, 19, 29, 45, 46, 47, 48, 63, 80, 81, 82, 83, 91] c_walk_Apart_r22 v_walk_Apart)
  .ret))))))))))
abbrev n_walk_Apart : Nat := 18
theorem s_walk_Apart : stripF Try.prog [6, 7] v_walk_Apart Try.f18 = some (c_walk_Apart, [(.tmp 6), (.tmp 7)]) := by kernel_rfl
theorem go_walk_Apart {L : List (List Nat)} {args : List AVal} {h : Heap} {Q : AVal → Heap → Prop} (hl : args.length = 3) (H : Wlk Try.prog [6, 7] Try.f18.ntmps v_walk_Apart L c_walk_Apart (ends L [(.tmp 6), (.tmp 7)] Q) (entry v_walk_Apart args h)) : ACalls Try.prog L n_walk_Apart args h Q :=
  acalls_of_strip mix Try.func18 s_walk_Apart (by rw [hl]; exact Nat.le_of_ble_eq_true rfl) H
def c_garlandplay_Small_r0 : List GOp := [(none, (.alloc 8 [(.int .i64 0), (.slice none 0 0)]))]
def c_garlandplay_Small_r1 : List GOp := [(none, (.r (.mov 13 (.t 0)))),
  (none, (.r (.conv 14 .u64 (.t 13)))),
  (none, (.r (.mov 15 (.t 2)))),
  (none, (.r (.bin 16 .add 0 (.t 15) (.c (.int .i64 1))))),
  (none, (.r (.conv 17 .u64 (.t 16)))),
  (none, (.r (.bin 18 .rem 0 (.t 14) (.t 17)))),
  (none, (.r (.conv 19 .i64 (.t 18)))),
  (none, (.asg 0 (.t 19) true))]
def c_garlandplay_Small_r2 : List GOp := [(none, (.r (.mov 20 (.t 0)))),
  (none, (.bld 21 [((0, 1), ((.t 20), true))] [(.int .i64 0), (.slice none 0 0)])),
  (none, (.alloc 9 [(.int .i64 0), (.slice none 0 0)])),
  (none, (.st (.t 9) (.t 21) 2))]
def c_garlandplay_Small_r3 : List GOp := [(none, (.asg 10 (.c (.int .i64 0)) true))]
def c_garlandplay_Small_r4 : List GOp := [(none, (.r (.mov 22 (.t 10)))),
  (none, (.r (.bin 23 .add 0 (.t 22) (.c (.int .i64 1))))),
  (none, (.r (.mov 24 (.t 1)))),
  (none, (.r (.len 25 (.t 24)))),
  (none, (.r (.bin 26 .lss 0 (.t 23) (.t 25)))),
  (none, (.r (.mov 27 (.t 26)))), ((some (27, true)), (.r (.fldA 28 (.t 9) 1))), ((some (27, true)), (.r (.ld 29 (.t 28) 1 false))), ((some (27, true)), (.r (.len 30 (.t 29)))), ((some (27, true)), (.r (.mov 31 (.t 3)))), ((some (27, true)), (.r (.bin 32 .lss 0 (.t 30) (.t 31)))),
  (none, (.r (.pick 33 (.t 27) (.t 32) (.c (.bool false))))),
  (none, (.r (.mov 34 (.t 33)))), ((some (34, true)), (.r (.mov 35 (.t 0)))), ((some (34, true)), (.r (.bin 36 .gtr 0 (.t 35) (.c (.int .i64 0))))),
  (none, (.r (.pick 37 (.t 34) (.t 36) (.c (.bool false))))),
  (none, (.r (.mov 38 (.t 37)))), ((some (38, true)), (.r (.mov 39 (.t 10)))), ((some (38, true)), (.r (.bin 40 .lss 0 (.t 39) (.c (.int .i64 400))))),
  (none, (.r (.pick 41 (.t 38) (.t 40) (.c (.bool false)))))]
def c_garlandplay_Small_r5 : Tree := 
  (.take [20, 21, 22, 23, 25, 26] (none, (.r (.ld 45 (.t 9) 2 true))) 
  (.take [3, 4, 5, 8, 9, 20, 21, 22, 23, 25, 26] (none, (.r (.mov 46 (.t 1)))) 
  (.take [3, 4, 5, 8, 9, 20, 21, 22, 23, 25, 26] (none, (.r (.mov 47 (.t 10)))) 
  (.take [4, 5, 8, 9, 20, 21, 22, 23, 25, 26] (none, (.r (.idxA 48 (.t 46) (.t 47) 1))) 
  (.take [5, 8, 9, 20, 21, 22, 23, 25, 26] (none, (.r (.ld 49 (.t 48) 1 false))) 
  (.take [8, 9, 20, 21, 22, 23, 25, 26] (none, (.r (.conv 50 .u64 (.t 49)))) 
  (.take [7, 8, 9, 20, 21, 22, 23, 25, 26] (none, (.r (.mov 51 (.t 0)))) 
  (.take [8, 9, 20, 21, 22, 23, 25, 26] (none, (.r (.conv 52 .u64 (.t 51)))) 
  (.take [9, 20, 21, 22, 23, 25, 26] (none, (.r (.bin 53 .rem 0 (.t 50) (.t 52)))) 
  (.take [20, 21, 22, 23, 25, 26] (none, (.r (.conv 54 .i64 (.t 53)))) 
  (.take [13, 14, 15, 18, 19, 20, 21, 22, 23, 25, 26] (none, (.r (.mov 55 (.t 1)))) 
  (.take [12, 13, 14, 15, 18, 19, 20, 21, 22, 23, 25, 26] (none, (.r (.mov 56 (.t 10)))) 
  (.take [13, 14, 15, 18, 19, 20, 21, 22, 23, 25, 26] (none, (.r (.bin 57 .add 0 (.t 56) (.c (.int .i64 1))))) 
  (.take [14, 15, 18, 19, 20, 21, 22, 23, 25, 26] (none, (.r (.idxA 58 (.t 55) (.t 57) 1))) 
  (.take [15, 18, 19, 20, 21, 22, 23, 25, 26] (none, (.r (.ld 59 (.t 58) 1 false))) 
  (.take [18, 19, 20, 21, 22, 23, 25, 26] (none, (.r (.conv 60 .u64 (.t 59)))) 
  (.take [17, 18, 19, 20, 21, 22, 23, 25, 26] (none, (.r (.mov 61 (.t 0)))) 
  (.take [18, 19, 20, 21, 22, 23, 25, 26] (none, (.r (.conv 62 .u64 (.t 61)))) 
  (.take [19, 20, 21, 22, 23, 25, 26] (none, (.r (.bin 63 .rem 0 (.t 60) (.t 62)))) 
  (.take [20, 21, 22, 23, 25, 26] (none, (.r (.conv 64 .i64 (.t 63)))) (.two 20 (none, (.call 65 (.f 42) [((.t 45), false), ((.t 54), false), ((.t 64), false)])) 
  (.take [22, 23, 25, 26] (none, (.r (.mov 44 (.t 65)))) 
  (.take [25, 26] (none, (.r (.ext 66 (.t 44) 0))) 
  (.take [26] (none, (.r (.ext 67 (.t 44) 1))) 
  (.one 24 (none, (.alloc 11 [(.int .i64 0), (.slice none 0 0)])) 
  (.one 25 (none, (.st (.t 11) (.t 66) 2)) 
  (.one 26 (none, (.asg 12 (.t 67) true)) .done)))))) 24 (none, (.alloc 11 [(.int .i64 0), (.slice none 0 0)])) 
  (.one 20 (none, (.call 65 (.f 42) [((.t 45), false), ((.t 54), false), ((.t 64), false)])) 
  (.take [22, 23, 25, 26] (none, (.r (.mov 44 (.t 65)))) 
  (.take [25, 26] (none, (.r (.ext 66 (.t 44) 0))) 
  (.take [26] (none, (.r (.ext 67 (.t 44) 1))) 
  (.one 25 (none, (.st (.t 11) (.t 66) 2)) 
  (.one 26 (none, (.asg 12 (.t 67) true)) .done)))))))))))))))))))))))))))
def c_garlandplay_Small_r6 : List GOp := [(none, (.r (.mov 68 (.t 12)))),
  (none, (.r (.bin 69 .eql 0 (.t 68) (.c (.int .i64 0)))))]
def c_garlandplay_Small_r7 : List GOp := [(none, (.r (.ld 70 (.t 11) 2 true))),
  (none, (.st (.t 9) (.t 70) 2))]
def c_garlandplay_Small_r8 : List GOp := [(none, (.r (.mov 42 (.t 10)))),
  (none, (.r (.bin 43 .add 0 (.t 42) (.c (.int .i64 2))))),
  (none, (.asg 10 (.t 43) true))]
def c_garlandplay_Small_r9 : List GOp := [(none, (.r (.ld 71 (.t 9) 2 true))),
  (none, (.st (.t 8) (.t 71) 2))]
def v_garlandplay_Small : List Nat := [0, 1, 2, 3, 8, 9, 10, 11, 12, 41, 69]
def c_garlandplay_Small : ACode :=
  (.seq
  (.reg [0, 1, 2, 3, 9, 10, 11, 12, 41, 69] c_garlandplay_Small_r0 v_garlandplay_Small)
  (.seq
  (.reg [0, 1, 2, 3, 8, 9, 10, 11, 12, 41, 69] c_garlandplay_Small_r1 v_garlandplay_Small)
  (.seq
  (.reg [0, 1, 2, 3, 8, 10, 11, 12, 41, 69] c_garlandplay_Small_r2 v_garlandplay_Small)
  (.seq
  (.seq
  (.reg [0, 1, 2, 3, 8, 9, 10, 11, 12, 41, 69] c_garlandplay_Small_r3 v_garlandplay_Small)
  (.blk 0 (.loop (.seq
  (.seq
  (.reg [0, 1, 2, 3, 8, 9, 10, 11, 12, 69] c_garlandplay_Small_r4 v_garlandplay_Small)
  (.cond (.t 41) .skip (.exit 0)))
  (.seq
  (.blk 1 (.seq
  (.draw [0, 1, 2, 3, 8, 9, 10, 12, 41, 69] c_garlandplay_Small_r5 v_garlandplay_Small)
  (.seq
  (.reg [0, 1, 2, 3, 8, 9, 10, 11, 12, 41] c_garlandplay_Small_r6 v_garlandplay_Small)
  (.cond (.t 69) (.reg [0, 1, 2, 3, 8, 9, 10, 11, 12, 41, 69] c_garlandplay_Small_r7 v_garlandplay_Small) .skip))))
  (.reg [0, 1, 2, 3, 8, 9, 10, 11, 12, 41, 69] c_garlandplay_Small_r8 v_garlandplay_Small))))))
  (.seq
  (.reg [0, 1, 2, 3, 8, 9, 10, 11, 12, 41, 69] c_garlandplay_Small_r9 v_garlandplay_Small)
  .ret)))))
abbrev n_garlandplay_Small : Nat := 21
theorem s_garlandplay_Small : stripF Try.prog [] v_garlandplay_Small Try.f21 = some (c_garlandplay_Small, [(.cell 8 2 true)]) := by kernel_rfl
theorem go_garlandplay_Small {L : List (List Nat)} {args : List AVal} {h : Heap} {Q : AVal → Heap → Prop} (hl : args.length = 4) (H : Wlk Try.prog [] Try.f21.ntmps v_garlandplay_Small L c_garlandplay_Small (ends L [(.cell 8 2 true)] Q) (entry v_garlandplay_Small args h)) : ACalls Try.prog L n_garlandplay_Small args h Q :=
  acalls_of_strip mix Try.func21 s_garlandplay_Small (by rw [hl]; exact Nat.le_of_ble_eq_true rfl) H
def c_garlandref08_Size_r0 : List GOp := [(none, (.asg 2 (.c (.int .i64 0)) true))]
def c_garlandref08_Size_r1 : List GOp := [(none, (.r (.mov 3 (.t 0)))),
  (none, (.call 4 (.f 43) [((.t 3), false)])),
  (none, (.r (.len 5 (.t 4)))),
  (none, (.asg 2 (.t 5) true))]
def v_garlandref08_Size : List Nat := [0, 2]
def c_garlandref08_Size : ACode :=
  (.seq
  (.reg [0, 2] c_garlandref08_Size_r0 v_garlandref08_Size)
  (.seq
  (.reg [0, 2] c_garlandref08_Size_r1 v_garlandref08_Size)
  .ret))
abbrev n_garlandref08_Size : Nat := 24
theorem s_garlandref08_Size : stripF Try.prog [2] v_garlandref08_Size Try.f24 = some (c_garlandref08_Size, [(.tmp 2)]) := by kernel_rfl
theorem go_garlandref08_Size {L : List (List Nat)} {args : List AVal} {h : Heap} {Q : AVal → Heap → Prop} (hl : args.length = 1) (H : Wlk Try.prog [2] Try.f24.ntmps v_garlandref08_Size L c_garlandref08_Size (ends L [(.tmp 2)] Q) (entry v_garlandref08_Size args h)) : ACalls Try.prog L n_garlandref08_Size args h Q :=
  acalls_of_strip mix Try.func24 s_garlandref08_Size (by rw [hl]; exact Nat.le_of_ble_eq_true rfl) H
def c_garlandplay_Mates_r0 : List GOp := [(none, (.box 2 (.t 0))),
  (none, (.asg 4 (.c (.slice none 0 0)) true))]
def c_garlandplay_Mates_r1 : List GOp := [(none, (.r (.fldA 9 (.t 2) 0))),
  (none, (.r (.ld 10 (.t 9) 1 false))),
  (none, (.mk 11 (.t 10) (.t 10) 1 8 [(.int .i64 0)])),
  (none, (.asg 5 (.t 11) true))]
def c_garlandplay_Mates_r2 : List GOp := [(none, (.r (.mov 12 (.t 5)))),
  (none, (.r (.len 13 (.t 12)))),
  (none, (.r (.mov 14 (.c (.int .i64 0)))))]
def c_garlandplay_Mates_r3 : List GOp := [(none, (.r (.bin 15 .lss 0 (.t 14) (.t 13))))]
def c_garlandplay_Mates_r4 : List GOp := [(none, (.r (.mov 16 (.t 14)))),
  (none, (.asg 6 (.t 16) true))]
def c_garlandplay_Mates_r5 : List GOp := [(none, (.r (.mov 17 (.t 5)))),
  (none, (.r (.mov 18 (.t 6)))),
  (none, (.r (.idxA 19 (.t 17) (.t 18) 1))),
  (none, (.st (.t 19) (.c (.int .i64 (-(0 + 1)))) 1))]
def c_garlandplay_Mates_r6 : List GOp := [(none, (.r (.bin 20 .add 0 (.t 14) (.c (.int .i64 1))))),
  (none, (.asg 14 (.t 20) true))]
def c_garlandplay_Mates_r7 : List GOp := [(none, (.asg 7 (.c (.int .i64 0)) true))]
def c_garlandplay_Mates_r8 : List GOp := [(none, (.r (.mov 21 (.t 7)))),
  (none, (.r (.mov 22 (.t 1)))),
  (none, (.r (.len 23 (.t 22)))),
  (none, (.r (.bin 24 .lss 0 (.t 21) (.t 23)))),
  (none, (.r (.mov 25 (.t 24)))), ((some (25, true)), (.r (.mov 26 (.t 7)))), ((some (25, true)), (.r (.bin 27 .lss 0 (.t 26) (.c (.int .i64 100))))),
  (none, (.r (.pick 28 (.t 25) (.t 27) (.c (.bool false))))),
  (none, (.r (.mov 29 (.t 28)))), ((some (29, true)), (.r (.fldA 30 (.t 2) 1))), ((some (29, true)), (.r (.ld 31 (.t 30) 1 false))), ((some (29, true)), (.r (.len 32 (.t 31)))), ((some (29, true)), (.r (.bin 33 .gtr 0 (.t 32) (.c (.int .i64 0))))),
  (none, (.r (.pick 34 (.t 29) (.t 33) (.c (.bool false)))))]
def c_garlandplay_Mates_r9 : Tree := 
  (.take [1, 13, 14, 16] (none, (.r (.fldA 37 (.t 2) 1))) 
  (.take [13, 14, 16] (none, (.r (.ld 38 (.t 37) 1 false))) 
  (.take [4, 5, 6, 11, 12, 13, 14, 16] (none, (.r (.mov 39 (.t 1)))) 
  (.take [4, 5, 6, 11, 12, 13, 14, 16] (none, (.r (.mov 40 (.t 7)))) 
  (.take [5, 6, 11, 12, 13, 14, 16] (none, (.r (.idxA 41 (.t 39) (.t 40) 1))) 
  (.take [6, 11, 12, 13, 14, 16] (none, (.r (.ld 42 (.t 41) 1 false))) 
  (.take [11, 12, 13, 14, 16] (none, (.r (.conv 43 .u64 (.t 42)))) 
  (.take [8, 9, 10, 11, 12, 13, 14, 16] (none, (.r (.fldA 44 (.t 2) 1))) 
  (.take [9, 10, 11, 12, 13, 14, 16] (none, (.r (.ld 45 (.t 44) 1 false))) 
  (.take [10, 11, 12, 13, 14, 16] (none, (.r (.len 46 (.t 45)))) 
  (.take [11, 12, 13, 14, 16] (none, (.r (.conv 47 .u64 (.t 46)))) 
  (.take [12, 13, 14, 16] (none, (.r (.bin 48 .rem 0 (.t 43) (.t 47)))) 
  (.take [13, 14, 16] (none, (.r (.conv 49 .i64 (.t 48)))) 
  (.take [14, 16] (none, (.r (.idxA 50 (.t 38) (.t 49) 2))) 
  (.take [16] (none, (.r (.ld 51 (.t 50) 2 true))) 
  (.one 15 (none, (.alloc 8 [(.int .i64 0), (.int .i64 0)])) 
  (.one 16 (none, (.st (.t 8) (.t 51) 2)) .done)))))))))))))))))
def c_garlandplay_Mates_r10 : List GOp := [(none, (.r (.mov 52 (.t 5)))),
  (none, (.r (.fldA 53 (.t 8) 0))),
  (none, (.r (.ld 54 (.t 53) 1 false))),
  (none, (.r (.idxA 55 (.t 52) (.t 54) 1))),
  (none, (.r (.ld 56 (.t 55) 1 false))),
  (none, (.r (.bin 57 .lss 0 (.t 56) (.c (.int .i64 0))))),
  (none, (.r (.mov 58 (.t 57)))), ((some (58, true)), (.r (.mov 59 (.t 5)))), ((some (58, true)), (.r (.fldA 60 (.t 8) 1))), ((some (58, true)), (.r (.ld 61 (.t 60) 1 false))), ((some (58, true)), (.r (.idxA 62 (.t 59) (.t 61) 1))), ((some (58, true)), (.r (.ld 63 (.t 62) 1 false))), ((some (58, true)), (.r (.bin 64 .lss 0 (.t 63) (.c (.int .i64 0))))),
  (none, (.r (.pick 65 (.t 58) (.t 64) (.c (.bool false)))))]
def c_garlandplay_Mates_r11 : Tree := 
  (.take [10, 11, 12, 13] (none, (.r (.mov 66 (.t 5)))) 
  (.take [2, 10, 11, 12, 13] (none, (.r (.fldA 67 (.t 8) 0))) 
  (.take [10, 11, 12, 13] (none, (.r (.ld 68 (.t 67) 1 false))) 
  (.take [12, 13] (none, (.r (.mov 69 (.t 5)))) 
  (.take [5, 12, 13] (none, (.r (.fldA 70 (.t 8) 1))) 
  (.take [12, 13] (none, (.r (.ld 71 (.t 70) 1 false))) 
  (.take [7, 10, 11, 12, 13] (none, (.r (.fldA 72 (.t 8) 1))) 
  (.take [10, 11, 12, 13] (none, (.r (.ld 73 (.t 72) 1 false))) 
  (.take [9, 12, 13] (none, (.r (.fldA 74 (.t 8) 0))) 
  (.take [12, 13] (none, (.r (.ld 75 (.t 74) 1 false))) 
  (.take [11, 12, 13] (none, (.r (.idxA 76 (.t 66) (.t 68) 1))) 
  (.one 11 (none, (.st (.t 76) (.t 73) 1)) 
  (.take [13] (none, (.r (.idxA 77 (.t 69) (.t 71) 1))) 
  (.one 13 (none, (.st (.t 77) (.t 75) 1)) .done))))))))))))))
def c_garlandplay_Mates_r12 : List GOp := [(none, (.r (.mov 35 (.t 7)))),
  (none, (.r (.bin 36 .add 0 (.t 35) (.c (.int .i64 1))))),
  (none, (.asg 7 (.t 36) true))]
def c_garlandplay_Mates_r13 : List GOp := [(none, (.r (.mov 78 (.t 5)))),
  (none, (.asg 4 (.t 78) true))]
def v_garlandplay_Mates : List Nat := [0, 1, 2, 4, 5, 6, 7, 8, 13, 14, 15, 34, 65]
def c_garlandplay_Mates : ACode :=
  (.seq
  (.reg [0, 1, 4, 5, 6, 7, 8, 13, 14, 15, 34, 65] c_garlandplay_Mates_r0 v_garlandplay_Mates)
  (.seq
  (.reg [0, 1, 2, 4, 5, 6, 7, 8, 13, 14, 15, 34, 65] c_garlandplay_Mates_r1 v_garlandplay_Mates)
  (.seq
  (.seq
  (.reg [0, 1, 2, 4, 5, 6, 7, 8, 15, 34, 65] c_garlandplay_Mates_r2 v_garlandplay_Mates)
  (.blk 0 (.loop (.seq
  (.reg [0, 1, 2, 4, 5, 6, 7, 8, 13, 14, 34, 65] c_garlandplay_Mates_r3 v_garlandplay_Mates)
  (.seq
  (.cond (.t 15) .skip (.exit 0))
  (.seq
  (.blk 1 (.seq
  (.reg [0, 1, 2, 4, 5, 6, 7, 8, 13, 14, 15, 34, 65] c_garlandplay_Mates_r4 v_garlandplay_Mates)
  (.reg [0, 1, 2, 4, 5, 6, 7, 8, 13, 14, 15, 34, 65] c_garlandplay_Mates_r5 v_garlandplay_Mates)))
  (.reg [0, 1, 2, 4, 5, 6, 7, 8, 13, 14, 15, 34, 65] c_garlandplay_Mates_r6 v_garlandplay_Mates)))))))
  (.seq
  (.seq
  (.reg [0, 1, 2, 4, 5, 6, 7, 8, 13, 14, 15, 34, 65] c_garlandplay_Mates_r7 v_garlandplay_Mates)
  (.blk 2 (.loop (.seq
  (.seq
  (.reg [0, 1, 2, 4, 5, 6, 7, 8, 13, 14, 15, 65] c_garlandplay_Mates_r8 v_garlandplay_Mates)
  (.cond (.t 34) .skip (.exit 2)))
  (.seq
  (.blk 3 (.seq
  (.draw [0, 1, 2, 4, 5, 6, 7, 13, 14, 15, 34, 65] c_garlandplay_Mates_r9 v_garlandplay_Mates)
  (.seq
  (.reg [0, 1, 2, 4, 5, 6, 7, 8, 13, 14, 15, 34] c_garlandplay_Mates_r10 v_garlandplay_Mates)
  (.cond (.t 65) (.draw [0, 1, 2, 4, 5, 6, 7, 8, 13, 14, 15, 34, 65] c_garlandplay_Mates_r11 v_garlandplay_Mates) .skip))))
  (.reg [0, 1, 2, 4, 5, 6, 7, 8, 13, 14, 15, 34, 65] c_garlandplay_Mates_r12 v_garlandplay_Mates))))))
  (.seq
  (.reg [0, 1, 2, 4, 5, 6, 7, 8, 13, 14, 15, 34, 65] c_garlandplay_Mates_r13 v_garlandplay_Mates)
  .ret)))))
abbrev n_garlandplay_Mates : Nat := 26
theorem s_garlandplay_Mates : stripF Try.prog [4] v_garlandplay_Mates Try.f26 = some (c_garlandplay_Mates, [(.tmp 4)]) := by kernel_rfl
theorem go_garlandplay_Mates {L : List (List Nat)} {args : List AVal} {h : Heap} {Q : AVal → Heap → Prop} (hl : args.length = 2) (H : Wlk Try.prog [4] Try.f26.ntmps v_garlandplay_Mates L c_garlandplay_Mates (ends L [(.tmp 4)] Q) (entry v_garlandplay_Mates args h)) : ACalls Try.prog L n_garlandplay_Mates args h Q :=
  acalls_of_strip mix Try.func26 s_garlandplay_Mates (by rw [hl]; exact Nat.le_of_ble_eq_true rfl) H
def c_garlandhelp_In_int__r0 : List GOp := [(none, (.asg 4 (.c (.bool false)) true))]
def c_garlandhelp_In_int__r1 : List GOp := [(none, (.asg 5 (.c (.int .i64 0)) true))]
def c_garlandhelp_In_int__r2 : List GOp := [(none, (.r (.mov 6 (.t 5)))),
  (none, (.r (.mov 7 (.t 0)))),
  (none, (.r (.len 8 (.t 7)))),
  (none, (.r (.bin 9 .lss 0 (.t 6) (.t 8))))]
def c_garlandhelp_In_int__r3 : List GOp := [(none, (.r (.mov 12 (.t 0)))),
  (none, (.r (.mov 13 (.t 5)))),
  (none, (.r (.idxA 14 (.t 12) (.t 13) 1))),
  (none, (.r (.ld 15 (.t 14) 1 false))),
  (none, (.r (.mov 16 (.t 1)))),
  (none, (.r (.bin 17 .eql 0 (.t 15) (.t 16))))]
def c_garlandhelp_In_int__r4 : List GOp := [(none, (.asg 4 (.c (.bool true)) true))]
def c_garlandhelp_In_int__r5 : List GOp := [(none, (.r (.mov 10 (.t 5)))),
  (none, (.r (.bin 11 .add 0 (.t 10) (.c (.int .i64 1))))),
  (none, (.asg 5 (.t 11) true))]
def c_garlandhelp_In_int__r6 : List GOp := [(none, (.asg 4 (.c (.bool false)) true))]
def v_garlandhelp_In_int_ : List Nat := [0, 1, 4, 5, 9, 17]
def c_garlandhelp_In_int_ : ACode :=
  (.seq
  (.reg [0, 1, 4, 5, 9, 17] c_garlandhelp_In_int__r0 v_garlandhelp_In_int_)
  (.seq
  (.seq
  (.reg [0, 1, 4, 5, 9, 17] c_garlandhelp_In_int__r1 v_garlandhelp_In_int_)
  (.blk 0 (.loop (.seq
  (.seq
  (.reg [0, 1, 4, 5, 17] c_garlandhelp_In_int__r2 v_garlandhelp_In_int_)
  (.cond (.t 9) .skip (.exit 0)))
  (.seq
  (.blk 1 (.seq
  (.reg [0, 1, 4, 5, 9] c_garlandhelp_In_int__r3 v_garlandhelp_In_int_)
  (.cond (.t 17) (.seq
  (.reg [0, 1, 4, 5, 9, 17] c_garlandhelp_In_int__r4 v_garlandhelp_In_int_)
  .ret) .skip)))
  (.reg [0, 1, 4, 5, 9, 17] c_garlandhelp_In_int__r5 v_garlandhelp_In_int_))))))
  (.seq
  (.reg [0, 1, 4, 5, 9, 17] c_garlandhelp_In_int__r6 v_garlandhelp_In_int_)
  .ret)))
abbrev n_garlandhelp_In_int_ : Nat := 27
theorem s_garlandhelp_In_int_ : stripF Try.prog [4] v_garlandhelp_In_int_ Try.f27 = some (c_garlandhelp_In_int_, [(.tmp 4)]) := by kernel_rfl
theorem go_garlandhelp_In_int_ {L : List (List Nat)} {args : List AVal} {h : Heap} {Q : AVal → Heap → Prop} (hl : args.length = 2) (H : Wlk Try.prog [4] Try.f27.ntmps v_garlandhelp_In_int_ L c_garlandhelp_In_int_ (ends L [(.tmp 4)] Q) (entry v_garlandhelp_In_int_ args h)) : ACalls Try.prog L n_garlandhelp_In_int_ args h Q :=
  acalls_of_strip mix Try.func27 s_garlandhelp_In_int_ (by rw [hl]; exact Nat.le_of_ble_eq_true rfl) H
def c_graph_Right_r0 : List GOp := [(none, (.box 1 (.t 0))),
  (none, (.asg 2 (.c (.bool false)) true))]
def c_graph_Right_r1 : List GOp := [(none, (.r (.fldA 6 (.t 1) 0))),
  (none, (.r (.ld 7 (.t 6) 1 false))),
  (none, (.r (.bin 8 .lss 0 (.t 7) (.c (.int .i64 0))))),
  (none, (.r (.mov 9 (.t 8)))), ((some (9, false)), (.r (.fldA 10 (.t 1) 0))), ((some (9, false)), (.r (.ld 11 (.t 10) 1 false))), ((some (9, false)), (.r (.bin 12 .gtr 0 (.t 11) (.c (.int .i64 4096))))),
  (none, (.r (.pick 13 (.t 9) (.c (.bool true)) (.t 12)))),
  (none, (.r (.mov 14 (.t 13)))), ((some (14, false)), (.r (.fldA 15 (.t 1) 1))), ((some (14, false)), (.r (.ld 16 (.t 15) 1 false))), ((some (14, false)), (.r (.len 17 (.t 16)))), ((some (14, false)), (.r (.bin 18 .gtr 0 (.t 17) (.c (.int .i64 65536))))),
  (none, (.r (.pick 19 (.t 14) (.c (.bool true)) (.t 18))))]
def c_graph_Right_r2 : List GOp := [(none, (.asg 2 (.c (.bool false)) true))]
def c_graph_Right_r3 : List GOp := [(none, (.bld 20 [] [])),
  (none, (.mkfn 21 (.func 44) [((.t 20), false)] [])),
  (none, (.asg 3 (.t 21) true))]
def c_graph_Right_r4 : List GOp := [(none, (.r (.fldA 22 (.t 1) 1))),
  (none, (.r (.ld 23 (.t 22) 1 false))),
  (none, (.r (.len 24 (.t 23)))),
  (none, (.r (.mov 25 (.c (.int .i64 0)))))]
def c_graph_Right_r5 : List GOp := [(none, (.r (.bin 26 .lss 0 (.t 25) (.t 24))))]
def c_graph_Right_r6 : List GOp := [(none, (.r (.mov 27 (.t 25)))),
  (none, (.r (.idxA 28 (.t 23) (.t 25) 2))),
  (none, (.r (.ld 29 (.t 28) 2 true))),
  (none, (.alloc 5 [(.int .i64 0), (.int .i64 0)])),
  (none, (.asg 4 (.t 27) true)),
  (none, (.st (.t 5) (.t 29) 2))]
def c_graph_Right_r7 : Tree := 
  (.take [1, 2, 3, 4, 5, 6, 7, 8, 9, 10, 11, 12, 13, 14, 15, 16, 17, 18, 19, 20, 21, 22, 23, 24, 25, 26, 27, 28, 29, 30, 31, 32] (none, (.r (.fldA 30 (.t 5) 0))) 
  (.take [2, 3, 4, 5, 6, 7, 8, 9, 10, 11, 12, 13, 14, 15, 16, 17, 18, 19, 20, 21, 22, 23, 24, 25, 26, 27, 28, 29, 30, 31, 32] (none, (.r (.ld 31 (.t 30) 1 false))) 
  (.take [3, 4, 5, 6, 7, 8, 9, 10, 11, 12, 13, 14, 15, 16, 17, 18, 19, 20, 21, 22, 23, 24, 25, 26, 27, 28, 29, 30, 31, 32] (none, (.r (.bin 32 .lss 0 (.t 31) (.c (.int .i64 0))))) 
  (.take [4, 5, 6, 7, 8, 9, 10, 11, 12, 13, 14, 15, 16, 17, 18, 19, 20, 21, 22, 23, 24, 25, 26, 27, 28, 29, 30, 31, 32] (none, (.r (.mov 33 (.t 32)))) 
  (.take [5, 8, 9, 10, 11, 12, 13, 14, 15, 16, 17, 18, 19, 20, 21, 22, 23, 24, 25, 26, 27, 28, 29, 30, 31, 32] ((some (33, false)), (.r (.fldA 34 (.t 5) 0))) 
  (.take [8, 9, 10, 11, 12, 13, 14, 15, 16, 17, 18, 19, 20, 21, 22, 23, 24, 25, 26, 27, 28, 29, 30, 31, 32] ((some (33, false)), (.r (.ld 35 (.t 34) 1 false))) 
  (.take [7, 8, 9, 10, 11, 12, 13, 14, 15, 16, 17, 18, 19, 20, 21, 22, 23, 24, 25, 26, 27, 28, 29, 30, 31, 32] ((some (33, false)), (.r (.fldA 36 (.t 5) 1))) 
  (.take [8, 9, 10, 11, 12, 13, 14, 15, 16, 17, 18, 19, 20, 21, 22, 23, 24, 25, 26, 27, 28, 29, 30, 31, 32] ((some (33, false)), (.r (.ld 37 (.t 36) 1 false))) 
  (.take [9, 10, 11, 12, 13, 14, 15, 16, 17, 18, 19, 20, 21, 22, 23, 24, 25, 26, 27, 28, 29, 30, 31, 32] ((some (33, false)), (.r (.bin 38 .geq 0 (.t 35) (.t 37)))) 
  (.take [10, 11, 12, 13, 14, 15, 16, 17, 18, 19, 20, 21, 22, 23, 24, 25, 26, 27, 28, 29, 30, 31, 32] (none, (.r (.pick 39 (.t 33) (.c (.bool true)) (.t 38)))) 
  (.take [11, 12, 13, 14, 15, 16, 17, 18, 19, 20, 21, 22, 23, 24, 25, 26, 27, 28, 29, 30, 31, 32] (none, (.r (.mov 40 (.t 39)))) 
  (.take [12, 15, 16, 17, 18, 19, 20, 21, 22, 23, 24, 25, 26, 27, 28, 29, 30, 31, 32] ((some (40, false)), (.r (.fldA 41 (.t 5) 1))) 
  (.take [15, 16, 17, 18, 19, 20, 21, 22, 23, 24, 25, 26, 27, 28, 29, 30, 31, 32] ((some (40, false)), (.r (.ld 42 (.t 41) 1 false))) 
  (.take [14, 15, 16, 17, 18, 19, 20, 21, 22, 23, 24, 25, 26, 27, 28, 29, 30, 31, 32] ((some (40, false)), (.r (.fldA 43 (.t 1) 0))) 
  (.take [15, 16, 17, 18, 19, 20, 21, 22, 23, 24, 25, 26, 27, 28, 29, 30, 31, 32] ((some (40, false)), (.r (.ld 44 (.t 43) 1 false))) 
  (.take [16, 17, 18, 19, 20, 21, 22, 23, 24, 25, 26, 27, 28, 29, 30, 31, 32] ((some (40, false)), (.r (.bin 45 .geq 0 (.t 42) (.t 44)))) 
  (.take [17, 18, 19, 20, 21, 22, 23, 24, 25, 26, 27, 28, 29, 30, 31, 32] (none, (.r (.pick 46 (.t 40) (.c (.bool true)) (.t 45)))) 
  (.take [18, 19, 20, 21, 22, 23, 24, 25, 26, 27, 28, 29, 30, 31, 32] (none, (.r (.mov 47 (.t 46)))) 
  (.take [19, 20, 21, 22, 23, 24, 25, 26, 27, 28, 29, 30, 31, 32] ((some (47, false)), (.r (.mov 48 (.t 4)))) 
  (.take [20, 21, 22, 23, 24, 25, 26, 27, 28, 29, 30, 31, 32] ((some (47, false)), (.r (.bin 49 .gtr 0 (.t 48) (.c (.int .i64 0))))) 
  (.take [21, 22, 23, 24, 25, 26, 27, 28, 29, 30, 31, 32] ((some (47, false)), (.r (.mov 50 (.t 49)))) 
  (.take [29, 30, 31, 32] ((some (50, true)), (.r (.mov 51 (.t 3)))) 
  (.take [23, 26, 27, 29, 30, 31, 32] ((some (50, true)), (.r (.fldA 52 (.t 1) 1))) 
  (.take [26, 27, 29, 30, 31, 32] ((some (50, true)), (.r (.ld 53 (.t 52) 1 false))) 
  (.take [25, 26, 27, 29, 30, 31, 32] ((some (50, true)), (.r (.mov 54 (.t 4)))) 
  (.take [26, 27, 29, 30, 31, 32] ((some (50, true)), (.r (.bin 55 .sub 0 (.t 54) (.c (.int .i64 1))))) 
  (.take [27, 29, 30, 31, 32] ((some (50, true)), (.r (.idxA 56 (.t 53) (.t 55) 2))) 
  (.take [29, 30, 31, 32] ((some (50, true)), (.r (.ld 57 (.t 56) 2 true))) 
  (.take [29, 30, 31, 32] ((some (50, true)), (.r (.ld 58 (.t 5) 2 true))) 
  (.one 29 ((some (50, true)), (.call 59 (.t 51) [((.t 57), false), ((.t 58), false)])) 
  (.take [31, 32] ((some (50, true)), (.r (.bin 60 .geq 0 (.t 59) (.c (.int .i64 0))))) 
  (.take [32] ((some (47, false)), (.r (.pick 61 (.t 50) (.t 60) (.c (.bool false))))) 
  (.take [] (none, (.r (.pick 62 (.t 47) (.c (.bool true)) (.t 61)))) .done)))))))))))))))))))))))))))))))))
def c_graph_Right_r8 : List GOp := [(none, (.asg 2 (.c (.bool false)) true))]
def c_graph_Right_r9 : List GOp := [(none, (.r (.bin 63 .add 0 (.t 25) (.c (.int .i64 1))))),
  (none, (.asg 25 (.t 63) true))]
def c_graph_Right_r10 : List GOp := [(none, (.asg 2 (.c (.bool true)) true))]
def v_graph_Right : List Nat := [0, 1, 2, 3, 4, 5, 19, 23, 24, 25, 26, 62]
def c_graph_Right : ACode :=
  (.seq
  (.reg [0, 2, 3, 4, 5, 19, 23, 24, 25, 26, 62] c_graph_Right_r0 v_graph_Right)
  (.seq
  (.seq
  (.reg [0, 1, 2, 3, 4, 5, 23, 24, 25, 26, 62] c_graph_Right_r1 v_graph_Right)
  (.cond (.t 19) (.seq
  (.reg [0, 1, 2, 3, 4, 5, 19, 23, 24, 25, 26, 62] c_graph_Right_r2 v_graph_Right)
  .ret) .skip))
  (.seq
  (.reg [0, 1, 2, 3, 4, 5, 19, 23, 24, 25, 26, 62] c_graph_Right_r3 v_graph_Right)
  (.seq
  (.seq
  (.reg [0, 1, 2, 3, 4, 5, 19, 26, 62] c_graph_Right_r4 v_graph_Right)
  (.blk 0 (.loop (.seq
  (.reg [0, 1, 2, 3, 4, 5, 19, 23, 24, 25, 62] c_graph_Right_r5 v_graph_Right)
  (.seq
  (.cond (.t 26) .skip (.exit 0))
  (.seq
  (.blk 1 (.seq
  (.reg [0, 1, 2, 3, 4, 19, 23, 24, 25, 26, 62] c_graph_Right_r6 v_graph_Right)
  (.seq
  (.draw [0, 1, 2, 3, 4, 5, 19, 23, 24, 25, 26] c_graph_Right_r7 v_graph_Right)
  (.cond (.t 62) (.seq
  (.reg [0, 1, 2, 3, 4, 5, 19, 23, 24, 25, 26, 62] c_graph_Right_r8 v_graph_Right)
  .ret) .skip))))
  (.reg [0, 1, 2, 3, 4, 5, 19, 23, 24, 25, 26, 62] c_graph_Right_r9 v_graph_Right)))))))
  (.seq
  (.reg [0, 1, 2, 3, 4, 5, 19, 23, 24, 25, 26, 62] c_graph_Right_r10 v_graph_Right)
  .ret)))))
abbrev n_graph_Right : Nat := 28
theorem s_graph_Right : stripF Try.prog [2] v_graph_Right Try.f28 = some (c_graph_Right, [(.tmp 2)]) := by kernel_rfl
theorem go_graph_Right {L : List (List Nat)} {args : List AVal} {h : Heap} {Q : AVal → Heap → Prop} (hl : args.length = 1) (H : Wlk Try.prog [2] Try.f28.ntmps v_graph_Right L c_graph_Right (ends L [(.tmp 2)] Q) (entry v_graph_Right args h)) : ACalls Try.prog L n_graph_Right args h Q :=
  acalls_of_strip mix Try.func28 s_graph_Right (by rw [hl]; exact Nat.le_of_ble_eq_true rfl) H
def c_mates_Right_r0 : List GOp := [(none, (.box 2 (.t 0))),
  (none, (.asg 4 (.c (.bool false)) true))]
def c_mates_Right_r1 : List GOp := [(none, (.r (.ld 10 (.t 2) 2 true))),
  (none, (.call 11 (.f 28) [((.t 10), false)])),
  (none, (.r (.notb 12 (.t 11)))),
  (none, (.r (.mov 13 (.t 12)))), ((some (13, false)), (.r (.mov 14 (.t 1)))), ((some (13, false)), (.r (.len 15 (.t 14)))), ((some (13, false)), (.r (.fldA 16 (.t 2) 0))), ((some (13, false)), (.r (.ld 17 (.t 16) 1 false))), ((some (13, false)), (.r (.bin 18 .neq 0 (.t 15) (.t 17)))),
  (none, (.r (.pick 19 (.t 13) (.c (.bool true)) (.t 18))))]
def c_mates_Right_r2 : List GOp := [(none, (.asg 4 (.c (.bool false)) true))]
def c_mates_Right_r3 : List GOp := [(none, (.r (.fldA 20 (.t 2) 0))),
  (none, (.r (.ld 21 (.t 20) 1 false))),
  (none, (.mk 22 (.t 21) (.t 21) 1 1 [(.bool false)])),
  (none, (.asg 5 (.t 22) true))]
def c_mates_Right_r4 : List GOp := [(none, (.r (.fldA 23 (.t 2) 1))),
  (none, (.r (.ld 24 (.t 23) 1 false))),
  (none, (.r (.len 25 (.t 24)))),
  (none, (.r (.mov 26 (.c (.int .i64 0)))))]
def c_mates_Right_r5 : List GOp := [(none, (.r (.bin 27 .lss 0 (.t 26) (.t 25))))]
def c_mates_Right_r6 : List GOp := [(none, (.r (.idxA 28 (.t 24) (.t 26) 2))),
  (none, (.r (.ld 29 (.t 28) 2 true))),
  (none, (.alloc 7 [(.int .i64 0), (.int .i64 0)])),
  (none, (.st (.t 7) (.t 29) 2))]
def c_mates_Right_r7 : Tree := 
  (.take [3, 4, 7, 8, 9, 10, 11, 12, 13, 14, 15, 16, 17] (none, (.r (.mov 30 (.t 1)))) 
  (.take [2, 3, 4, 7, 8, 9, 10, 11, 12, 13, 14, 15, 16, 17] (none, (.r (.fldA 31 (.t 7) 0))) 
  (.take [3, 4, 7, 8, 9, 10, 11, 12, 13, 14, 15, 16, 17] (none, (.r (.ld 32 (.t 31) 1 false))) 
  (.take [4, 7, 8, 9, 10, 11, 12, 13, 14, 15, 16, 17] (none, (.r (.idxA 33 (.t 30) (.t 32) 1))) 
  (.take [7, 8, 9, 10, 11, 12, 13, 14, 15, 16, 17] (none, (.r (.ld 34 (.t 33) 1 false))) 
  (.take [6, 7, 8, 9, 10, 11, 12, 13, 14, 15, 16, 17] (none, (.r (.fldA 35 (.t 7) 1))) 
  (.take [7, 8, 9, 10, 11, 12, 13, 14, 15, 16, 17] (none, (.r (.ld 36 (.t 35) 1 false))) 
  (.take [8, 9, 10, 11, 12, 13, 14, 15, 16, 17] (none, (.r (.bin 37 .eql 0 (.t 34) (.t 36)))) 
  (.take [9, 10, 11, 12, 13, 14, 15, 16, 17] (none, (.r (.mov 38 (.t 37)))) 
  (.take [12, 13, 16, 17] ((some (38, true)), (.r (.mov 39 (.t 1)))) 
  (.take [11, 12, 13, 16, 17] ((some (38, true)), (.r (.fldA 40 (.t 7) 1))) 
  (.take [12, 13, 16, 17] ((some (38, true)), (.r (.ld 41 (.t 40) 1 false))) 
  (.take [13, 16, 17] ((some (38, true)), (.r (.idxA 42 (.t 39) (.t 41) 1))) 
  (.take [16, 17] ((some (38, true)), (.r (.ld 43 (.t 42) 1 false))) 
  (.take [15, 16, 17] ((some (38, true)), (.r (.fldA 44 (.t 7) 0))) 
  (.take [16, 17] ((some (38, true)), (.r (.ld 45 (.t 44) 1 false))) 
  (.take [17] ((some (38, true)), (.r (.bin 46 .eql 0 (.t 43) (.t 45)))) 
  (.take [] (none, (.r (.pick 47 (.t 38) (.t 46) (.c (.bool false))))) .done))))))))))))))))))
def c_mates_Right_r8 : Tree := 
  (.take [6, 7, 8, 9] (none, (.r (.mov 48 (.t 5)))) 
  (.take [2, 6, 7, 8, 9] (none, (.r (.fldA 49 (.t 7) 0))) 
  (.take [6, 7, 8, 9] (none, (.r (.ld 50 (.t 49) 1 false))) 
  (.take [8, 9] (none, (.r (.mov 51 (.t 5)))) 
  (.take [5, 8, 9] (none, (.r (.fldA 52 (.t 7) 1))) 
  (.take [8, 9] (none, (.r (.ld 53 (.t 52) 1 false))) 
  (.take [7, 8, 9] (none, (.r (.idxA 54 (.t 48) (.t 50) 1))) 
  (.one 7 (none, (.st (.t 54) (.c (.bool true)) 1)) 
  (.take [9] (none, (.r (.idxA 55 (.t 51) (.t 53) 1))) 
  (.one 9 (none, (.st (.t 55) (.c (.bool true)) 1)) .done))))))))))
def c_mates_Right_r9 : List GOp := [(none, (.r (.bin 56 .add 0 (.t 26) (.c (.int .i64 1))))),
  (none, (.asg 26 (.t 56) true))]
def c_mates_Right_r10 : List GOp := [(none, (.r (.mov 57 (.t 1)))),
  (none, (.r (.len 58 (.t 57)))),
  (none, (.r (.mov 59 (.c (.int .i64 0)))))]
def c_mates_Right_r11 : List GOp := [(none, (.r (.bin 60 .lss 0 (.t 59) (.t 58))))]
def c_mates_Right_r12 : List GOp := [(none, (.r (.mov 61 (.t 59)))),
  (none, (.r (.idxA 62 (.t 57) (.t 59) 1))),
  (none, (.r (.ld 63 (.t 62) 1 false))),
  (none, (.asg 8 (.t 61) true)),
  (none, (.asg 9 (.t 63) true))]
def c_mates_Right_r13 : List GOp := [(none, (.r (.mov 64 (.t 9)))),
  (none, (.r (.bin 65 .neq 0 (.t 64) (.c (.int .i64 (-(0 + 1))))))),
  (none, (.r (.mov 66 (.t 65)))), ((some (66, true)), (.r (.mov 67 (.t 5)))), ((some (66, true)), (.r (.mov 68 (.t 8)))), ((some (66, true)), (.r (.idxA 69 (.t 67) (.t 68) 1))), ((some (66, true)), (.r (.ld 70 (.t 69) 1 false))), ((some (66, true)), (.r (.notb 71 (.t 70)))),
  (none, (.r (.pick 72 (.t 66) (.t 71) (.c (.bool false)))))]
def c_mates_Right_r14 : List GOp := [(none, (.asg 4 (.c (.bool false)) true))]
def c_mates_Right_r15 : List GOp := [(none, (.r (.bin 73 .add 0 (.t 59) (.c (.int .i64 1))))),
  (none, (.asg 59 (.t 73) true))]
def c_mates_Right_r16 : List GOp := [(none, (.asg 4 (.c (.bool true)) true))]
def v_mates_Right : List Nat := [0, 1, 2, 4, 5, 7, 8, 9, 19, 24, 25, 26, 27, 47, 57, 58, 59, 60, 72]
def c_mates_Right : ACode :=
  (.seq
  (.reg [0, 1, 4, 5, 7, 8, 9, 19, 24, 25, 26, 27, 47, 57, 58, 59, 60, 72] c_mates_Right_r0 v_mates_Right)
  (.seq
  (.seq
  (.reg [0, 1, 2, 4, 5, 7, 8, 9, 24, 25, 26, 27, 47, 57, 58, 59, 60, 72] c_mates_Right_r1 v_mates_Right)
  (.cond (.t 19) (.seq
  (.reg [0, 1, 2, 4, 5, 7, 8, 9, 19, 24, 25, 26, 27, 47, 57, 58, 59, 60, 72] c_mates_Right_r2 v_mates_Right)
  .ret) .skip))
  (.seq
  (.reg [0, 1, 2, 4, 5, 7, 8, 9, 19, 24, 25, 26, 27, 47, 57, 58, 59, 60, 72] c_mates_Right_r3 v_mates_Right)
  (.seq
  (.seq
  (.reg [0, 1, 2, 4, 5, 7, 8, 9, 19, 27, 47, 57, 58, 59, 60, 72] c_mates_Right_r4 v_mates_Right)
  (.blk 0 (.loop (.seq
  (.reg [0, 1, 2, 4, 5, 7, 8, 9, 19, 24, 25, 26, 47, 57, 58, 59, 60, 72] c_mates_Right_r5 v_mates_Right)
  (.seq
  (.cond (.t 27) .skip (.exit 0))
  (.seq
  (.blk 1 (.seq
  (.reg [0, 1, 2, 4, 5, 8, 9, 19, 24, 25, 26, 27, 47, 57, 58, 59, 60, 72] c_mates_Right_r6 v_mates_Right)
  (.seq
  (.draw [0, 1, 2, 4, 5, 7, 8, 9, 19, 24, 25, 26, 27, 57, 58, 59, 60, 72] c_mates_Right_r7 v_mates_Right)
  (.cond (.t 47) (.draw [0, 1, 2, 4, 5, 7, 8, 9, 19, 24, 25, 26, 27, 47, 57, 58, 59, 60, 72] c_mates_Right_r8 v_mates_Right) .skip))))
  (.reg [0, 1, 2, 4, 5, 7, 8, 9, 19, 24, 25, 26, 27, 47, 57, 58, 59, 60, 72] c_mates_Right_r9 v_mates_Right)))))))
  (.seq
  (.seq
  (.reg [0, 1, 2, 4, 5, 7, 8, 9, 19, 24, 25, 26, 27, 47, 60, 72] c_mates_Right_r10 v_mates_Right)
  (.blk 2 (.loop (.seq
  (.reg [0, 1, 2, 4, 5, 7, 8, 9, 19, 24, 25, 26, 27, 47, 57, 58, 59, 72] c_mates_Right_r11 v_mates_Right)
  (.seq
  (.cond (.t 60) .skip (.exit 2))
  (.seq
  (.blk 3 (.seq
  (.reg [0, 1, 2, 4, 5, 7, 8, 9, 19, 24, 25, 26, 27, 47, 57, 58, 59, 60, 72] c_mates_Right_r12 v_mates_Right)
  (.seq
  (.reg [0, 1, 2, 4, 5, 7, 8, 9, 19, 24, 25, 26, 27, 47, 57, 58, 59, 60] c_mates_Right_r13 v_mates_Right)
  (.cond (.t 72) (.seq
  (.reg [0, 1, 2, 4, 5, 7, 8, 9, 19, 24, 25, 26, 27, 47, 57, 58, 59, 60, 72] c_mates_Right_r14 v_mates_Right)
  .ret) .skip))))
  (.reg [0, 1, 2, 4, 5, 7, 8, 9, 19, 24, 25, 26, 27, 47, 57, 58, 59, 60, 72] c_mates_Right_r15 v_mates_Right)))))))
  (.seq
  (.reg [0, 1, 2, 4, 5, 7, 8, 9, 19, 24, 25, 26, 27, 47, 57, 58, 59, 60, 72] c_mates_Right_r16 v_mates_Right)
  .ret))))))
abbrev n_mates_Right : Nat := 29
theorem s_mates_Right : stripF Try.prog [4] v_mates_Right Try.f29 = some (c_mates_Right, [(.tmp 4)]) := by kernel_rfl
theorem go_mates_Right {L : List (List Nat)} {args : List AVal} {h : Heap} {Q : AVal → Heap → Prop} (hl : args.length = 2) (H : Wlk Try.prog [4] Try.f29.ntmps v_mates_Right L c_mates_Right (ends L [(.tmp 4)] Q) (entry v_mates_Right args h)) : ACalls Try.prog L n_mates_Right args h Q :=
  acalls_of_strip mix Try.func29 s_mates_Right (by rw [hl]; exact Nat.le_of_ble_eq_true rfl) H
def c_walk_ways_augments_r0 : List GOp := [(none, (.box 2 (.t 0))),
  (none, (.asg 4 (.c (.bool false)) true))]
def c_walk_ways_augments_r1 : Tree := 
  (.take [1, 2, 3, 4, 5, 6, 7, 8, 9, 10, 11, 12, 13, 14, 15, 16, 17, 18, 19, 20, 21, 22, 23, 24, 25, 26, 27, 28, 29, 30, 31] (none, (.r (.mov 5 (.t 1)))) 
  (.take [2, 3, 4, 5, 6, 7, 8, 9, 10, 11, 12, 13, 14, 15, 16, 17, 18, 19, 20, 21, 22, 23, 24, 25, 26, 27, 28, 29, 30, 31] (none, (.r (.len 6 (.t 5)))) 
  (.take [3, 4, 5, 6, 7, 8, 9, 10, 11, 12, 13, 14, 15, 16, 17, 18, 19, 20, 21, 22, 23, 24, 25, 26, 27, 28, 29, 30, 31] (none, (.r (.bin 7 .geq 0 (.t 6) (.c (.int .i64 2))))) 
  (.take [4, 5, 6, 7, 8, 9, 10, 11, 12, 13, 14, 15, 16, 17, 18, 19, 20, 21, 22, 23, 24, 25, 26, 27, 28, 29, 30, 31] (none, (.r (.mov 8 (.t 7)))) 
  (.take [6, 7, 8, 9, 10, 11, 12, 13, 14, 15, 16, 17, 18, 19, 20, 21, 22, 23, 24, 25, 26, 27, 28, 29, 30, 31] ((some (8, true)), (.r (.ld 9 (.t 2) 3 true))) 
  (.take [6, 7, 8, 9, 10, 11, 12, 13, 14, 15, 16, 17, 18, 19, 20, 21, 22, 23, 24, 25, 26, 27, 28, 29, 30, 31] ((some (8, true)), (.r (.mov 10 (.t 1)))) 
  (.one 6 ((some (8, true)), (.call 11 (.f 34) [((.t 9), false), ((.t 10), false)])) 
  (.take [8, 9, 10, 11, 12, 13, 14, 15, 16, 17, 18, 19, 20, 21, 22, 23, 24, 25, 26, 27, 28, 29, 30, 31] (none, (.r (.pick 12 (.t 8) (.t 11) (.c (.bool false))))) 
  (.take [9, 10, 11, 12, 13, 14, 15, 16, 17, 18, 19, 20, 21, 22, 23, 24, 25, 26, 27, 28, 29, 30, 31] (none, (.r (.mov 13 (.t 12)))) 
  (.take [10, 14, 15, 16, 17, 18, 19, 20, 21, 22, 23, 24, 25, 26, 27, 28, 29, 30, 31] ((some (13, true)), (.r (.fldA 14 (.t 2) 2))) 
  (.take [14, 15, 16, 17, 18, 19, 20, 21, 22, 23, 24, 25, 26, 27, 28, 29, 30, 31] ((some (13, true)), (.r (.ld 15 (.t 14) 1 false))) 
  (.take [12, 13, 14, 15, 16, 17, 18, 19, 20, 21, 22, 23, 24, 25, 26, 27, 28, 29, 30, 31] ((some (13, true)), (.r (.mov 16 (.t 1)))) 
  (.take [13, 14, 15, 16, 17, 18, 19, 20, 21, 22, 23, 24, 25, 26, 27, 28, 29, 30, 31] ((some (13, true)), (.r (.idxA 17 (.t 16) (.c (.int .i64 0)) 1))) 
  (.take [14, 15, 16, 17, 18, 19, 20, 21, 22, 23, 24, 25, 26, 27, 28, 29, 30, 31] ((some (13, true)), (.r (.ld 18 (.t 17) 1 false))) 
  (.take [15, 16, 17, 18, 19, 20, 21, 22, 23, 24, 25, 26, 27, 28, 29, 30, 31] ((some (13, true)), (.r (.idxA 19 (.t 15) (.t 18) 1))) 
  (.take [16, 17, 18, 19, 20, 21, 22, 23, 24, 25, 26, 27, 28, 29, 30, 31] ((some (13, true)), (.r (.ld 20 (.t 19) 1 false))) 
  (.take [17, 18, 19, 20, 21, 22, 23, 24, 25, 26, 27, 28, 29, 30, 31] ((some (13, true)), (.r (.bin 21 .lss 0 (.t 20) (.c (.int .i64 0))))) 
  (.take [18, 19, 20, 21, 22, 23, 24, 25, 26, 27, 28, 29, 30, 31] (none, (.r (.pick 22 (.t 13) (.t 21) (.c (.bool false))))) 
  (.take [19, 20, 21, 22, 23, 24, 25, 26, 27, 28, 29, 30, 31] (none, (.r (.mov 23 (.t 22)))) 
  (.take [20, 27, 28, 29, 30, 31] ((some (23, true)), (.r (.fldA 24 (.t 2) 2))) 
  (.take [27, 28, 29, 30, 31] ((some (23, true)), (.r (.ld 25 (.t 24) 1 false))) 
  (.take [25, 26, 27, 28, 29, 30, 31] ((some (23, true)), (.r (.mov 26 (.t 1)))) 
  (.take [23, 24, 25, 26, 27, 28, 29, 30, 31] ((some (23, true)), (.r (.mov 27 (.t 1)))) 
  (.take [24, 25, 26, 27, 28, 29, 30, 31] ((some (23, true)), (.r (.len 28 (.t 27)))) 
  (.take [25, 26, 27, 28, 29, 30, 31] ((some (23, true)), (.r (.bin 29 .sub 0 (.t 28) (.c (.int .i64 1))))) 
  (.take [26, 27, 28, 29, 30, 31] ((some (23, true)), (.r (.idxA 30 (.t 26) (.t 29) 1))) 
  (.take [27, 28, 29, 30, 31] ((some (23, true)), (.r (.ld 31 (.t 30) 1 false))) 
  (.take [28, 29, 30, 31] ((some (23, true)), (.r (.idxA 32 (.t 25) (.t 31) 1))) 
  (.take [29, 30, 31] ((some (23, true)), (.r (.ld 33 (.t 32) 1 false))) 
  (.take [30, 31] ((some (23, true)), (.r (.bin 34 .lss 0 (.t 33) (.c (.int .i64 0))))) 
  (.take [31] (none, (.r (.pick 35 (.t 23) (.t 34) (.c (.bool false))))) 
  (.one 31 (none, (.asg 4 (.t 35) true)) .done))))))))))))))))))))))))))))))))
def v_walk_ways_augments : List Nat := [0, 1, 2, 4]
def c_walk_ways_augments : ACode :=
  (.seq
  (.reg [0, 1, 4] c_walk_ways_augments_r0 v_walk_ways_augments)
  (.seq
  (.draw [0, 1, 2, 4] c_walk_ways_augments_r1 v_walk_ways_augments)
  .ret))
abbrev n_walk_ways_augments : Nat := 30
theorem s_walk_ways_augments : stripF Try.prog [4] v_walk_ways_augments Try.f30 = some (c_walk_ways_augments, [(.tmp 4)]) := by kernel_rfl
theorem go_walk_ways_augments {L : List (List Nat)} {args : List AVal} {h : Heap} {Q : AVal → Heap → Prop} (hl : args.length = 2) (H : Wlk Try.prog [4] Try.f30.ntmps v_walk_ways_augments L c_walk_ways_augments (ends L [(.tmp 4)] Q) (entry v_walk_ways_augments args h)) : ACalls Try.prog L n_walk_ways_augments args h Q :=
  acalls_of_strip mix Try.func30 s_walk_ways_augments (by rw [hl]; exact Nat.le_of_ble_eq_true rfl) H
def c_slices_Clone___int_int__r0 : List GOp := [(none, (.asg 2 (.c (.slice none 0 0)) true))]
def c_slices_Clone___int_int__r1 : List GOp := [(none, (.r (.mov 3 (.t 0)))),
  (none, (.r (.bin 4 .eql 3 (.t 3) (.c (.slice none 0 0)))))]
def c_slices_Clone___int_int__r2 : List GOp := [(none, (.asg 2 (.c (.slice none 0 0)) true))]
def c_slices_Clone___int_int__r3 : List GOp := [(none, (.blds 5 0 1 [] [(.int .i64 0)])),
  (none, (.r (.mov 6 (.t 0)))),
  (none, (.app 7 (.t 5) (.t 6) 1 8)),
  (none, (.asg 2 (.t 7) true))]
def v_slices_Clone___int_int_ : List Nat := [0, 2, 4]
def c_slices_Clone___int_int_ : ACode :=
  (.seq
  (.reg [0, 2, 4] c_slices_Clone___int_int__r0 v_slices_Clone___int_int_)
  (.seq
  (.seq
  (.reg [0, 2] c_slices_Clone___int_int__r1 v_slices_Clone___int_int_)
  (.cond (.t 4) (.seq
  (.reg [0, 2, 4] c_slices_Clone___int_int__r2 v_slices_Clone___int_int_)
  .ret) .skip))
  (.seq
  (.reg [0, 2, 4] c_slices_Clone___int_int__r3 v_slices_Clone___int_int_)
  .ret)))
abbrev n_slices_Clone___int_int_ : Nat := 31
theorem s_slices_Clone___int_int_ : stripF Try.prog [2] v_slices_Clone___int_int_ Try.f31 = some (c_slices_Clone___int_int_, [(.tmp 2)]) := by kernel_rfl
theorem go_slices_Clone___int_int_ {L : List (List Nat)} {args : List AVal} {h : Heap} {Q : AVal → Heap → Prop} (hl : args.length = 1) (H : Wlk Try.prog [2] Try.f31.ntmps v_slices_Clone___int_int_ L c_slices_Clone___int_int_ (ends L [(.tmp 2)] Q) (entry v_slices_Clone___int_int_ args h)) : ACalls Try.prog L n_slices_Clone___int_int_ args h Q :=
  acalls_of_strip mix Try.func31 s_slices_Clone___int_int_ (by rw [hl]; exact Nat.le_of_ble_eq_true rfl) H
def c_walk_Turn_r0 : List GOp := [(none, (.asg 4 (.c (.int .i64 1)) true))]
def c_walk_Turn_r1 : List GOp := [(none, (.r (.mov 5 (.t 4)))),
  (none, (.r (.mov 6 (.t 1)))),
  (none, (.r (.len 7 (.t 6)))),
  (none, (.r (.bin 8 .lss 0 (.t 5) (.t 7))))]
def c_walk_Turn_r2 : Tree := 
  (.take [20, 21, 22, 23] (none, (.r (.mov 11 (.t 0)))) 
  (.take [4, 5, 20, 21, 22, 23] (none, (.r (.mov 12 (.t 1)))) 
  (.take [3, 4, 5, 20, 21, 22, 23] (none, (.r (.mov 13 (.t 4)))) 
  (.take [4, 5, 20, 21, 22, 23] (none, (.r (.bin 14 .sub 0 (.t 13) (.c (.int .i64 1))))) 
  (.take [5, 20, 21, 22, 23] (none, (.r (.idxA 15 (.t 12) (.t 14) 1))) 
  (.take [20, 21, 22, 23] (none, (.r (.ld 16 (.t 15) 1 false))) 
  (.take [22, 23] (none, (.r (.mov 17 (.t 0)))) 
  (.take [9, 10, 20, 21, 22, 23] (none, (.r (.mov 18 (.t 1)))) 
  (.take [9, 10, 20, 21, 22, 23] (none, (.r (.mov 19 (.t 4)))) 
  (.take [10, 20, 21, 22, 23] (none, (.r (.idxA 20 (.t 18) (.t 19) 1))) 
  (.take [20, 21, 22, 23] (none, (.r (.ld 21 (.t 20) 1 false))) 
  (.take [13, 14, 20, 21, 22, 23] (none, (.r (.mov 22 (.t 1)))) 
  (.take [13, 14, 20, 21, 22, 23] (none, (.r (.mov 23 (.t 4)))) 
  (.take [14, 20, 21, 22, 23] (none, (.r (.idxA 24 (.t 22) (.t 23) 1))) 
  (.take [20, 21, 22, 23] (none, (.r (.ld 25 (.t 24) 1 false))) 
  (.take [18, 19, 20, 21, 22, 23] (none, (.r (.mov 26 (.t 1)))) 
  (.take [17, 18, 19, 20, 21, 22, 23] (none, (.r (.mov 27 (.t 4)))) 
  (.take [18, 19, 20, 21, 22, 23] (none, (.r (.bin 28 .sub 0 (.t 27) (.c (.int .i64 1))))) 
  (.take [19, 20, 21, 22, 23] (none, (.r (.idxA 29 (.t 26) (.t 28) 1))) 
  (.take [20, 21, 22, 23] (none, (.r (.ld 30 (.t 29) 1 false))) 
  (.take [21, 22, 23] (none, (.r (.idxA 31 (.t 11) (.t 16) 1))) 
  (.one 21 (none, (.st (.t 31) (.t 25) 1)) 
  (.take [23] (none, (.r (.idxA 32 (.t 17) (.t 21) 1))) 
  (.one 23 (none, (.st (.t 32) (.t 30) 1)) .done))))))))))))))))))))))))
def c_walk_Turn_r3 : List GOp := [(none, (.r (.mov 9 (.t 4)))),
  (none, (.r (.bin 10 .add 0 (.t 9) (.c (.int .i64 2))))),
  (none, (.asg 4 (.t 10) true))]
def v_walk_Turn : List Nat := [0, 1, 4, 8]
def c_walk_Turn : ACode :=
  (.seq
  (.reg [0, 1, 4, 8] c_walk_Turn_r0 v_walk_Turn)
  (.blk 0 (.loop (.seq
  (.seq
  (.reg [0, 1, 4] c_walk_Turn_r1 v_walk_Turn)
  (.cond (.t 8) .skip (.exit 0)))
  (.seq
  (.blk 1 (.draw [0, 1, 4, 8] c_walk_Turn_r2 v_walk_Turn))
  (.reg [0, 1, 4, 8] c_walk_Turn_r3 v_walk_Turn))))))
abbrev n_walk_Turn : Nat := 32
theorem s_walk_Turn : stripF Try.prog [] v_walk_Turn Try.f32 = some (c_walk_Turn, []) := by kernel_rfl
theorem go_walk_Turn {L : List (List Nat)} {args : List AVal} {h : Heap} {Q : AVal → Heap → Prop} (hl : args.length = 2) (H : Wlk Try.prog [] Try.f32.ntmps v_walk_Turn L c_walk_Turn (ends L [] Q) (entry v_walk_Turn args h)) : ACalls Try.prog L n_walk_Turn args h Q :=
  acalls_of_strip mix Try.func32 s_walk_Turn (by rw [hl]; exact Nat.le_of_ble_eq_true rfl) H
def c_garlandref02_Right_r0 : List GOp := [(none, (.box 1 (.t 0))),
  (none, (.asg 2 (.c (.bool false)) true))]
def c_garlandref02_Right_r1 : List GOp := [(none, (.r (.fldA 5 (.t 1) 0))),
  (none, (.r (.ld 6 (.t 5) 1 false))),
  (none, (.r (.bin 7 .lss 0 (.t 6) (.c (.int .i64 0))))),
  (none, (.r (.mov 8 (.t 7)))), ((some (8, false)), (.r (.fldA 9 (.t 1) 0))), ((some (8, false)), (.r (.ld 10 (.t 9) 1 false))), ((some (8, false)), (.r (.bin 11 .gtr 0 (.t 10) (.c (.int .i64 4096))))),
  (none, (.r (.pick 12 (.t 8) (.c (.bool true)) (.t 11)))),
  (none, (.r (.mov 13 (.t 12)))), ((some (13, false)), (.r (.fldA 14 (.t 1) 1))), ((some (13, false)), (.r (.ld 15 (.t 14) 1 false))), ((some (13, false)), (.r (.len 16 (.t 15)))), ((some (13, false)), (.r (.bin 17 .gtr 0 (.t 16) (.c (.int .i64 65536))))),
  (none, (.r (.pick 18 (.t 13) (.c (.bool true)) (.t 17))))]
def c_garlandref02_Right_r2 : List GOp := [(none, (.asg 2 (.c (.bool false)) true))]
def c_garlandref02_Right_r3 : List GOp := [(none, (.asg 3 (.c (.int .i64 0)) true))]
def c_garlandref02_Right_r4 : List GOp := [(none, (.r (.mov 19 (.t 3)))),
  (none, (.r (.fldA 20 (.t 1) 1))),
  (none, (.r (.ld 21 (.t 20) 1 false))),
  (none, (.r (.len 22 (.t 21)))),
  (none, (.r (.bin 23 .lss 0 (.t 19) (.t 22))))]
def c_garlandref02_Right_r5 : List GOp := [(none, (.r (.fldA 26 (.t 1) 1))),
  (none, (.r (.ld 27 (.t 26) 1 false))),
  (none, (.r (.mov 28 (.t 3)))),
  (none, (.r (.idxA 29 (.t 27) (.t 28) 2))),
  (none, (.r (.ld 30 (.t 29) 2 true))),
  (none, (.alloc 4 [(.int .i64 0), (.int .i64 0)])),
  (none, (.st (.t 4) (.t 30) 2))]
def c_garlandref02_Right_r6 : List GOp := [(none, (.r (.fldA 31 (.t 4) 0))),
  (none, (.r (.ld 32 (.t 31) 1 false))),
  (none, (.r (.bin 33 .lss 0 (.t 32) (.c (.int .i64 0))))),
  (none, (.r (.mov 34 (.t 33)))), ((some (34, false)), (.r (.fldA 35 (.t 4) 0))), ((some (34, false)), (.r (.ld 36 (.t 35) 1 false))), ((some (34, false)), (.r (.fldA 37 (.t 4) 1))), ((some (34, false)), (.r (.ld 38 (.t 37) 1 false))), ((some (34, false)), (.r (.bin 39 .geq 0 (.t 36) (.t 38)))),
  (none, (.r (.pick 40 (.t 34) (.c (.bool true)) (.t 39)))),
  (none, (.r (.mov 41 (.t 40)))), ((some (41, false)), (.r (.fldA 42 (.t 4) 1))), ((some (41, false)), (.r (.ld 43 (.t 42) 1 false))), ((some (41, false)), (.r (.fldA 44 (.t 1) 0))), ((some (41, false)), (.r (.ld 45 (.t 44) 1 false))), ((some (41, false)), (.r (.bin 46 .geq 0 (.t 43) (.t 45)))),
  (none, (.r (.pick 47 (.t 41) (.c (.bool true)) (.t 46))))]
def c_garlandref02_Right_r7 : List GOp := [(none, (.asg 2 (.c (.bool false)) true))]
def c_garlandref02_Right_r8 : Tree := 
  (.take [1, 2, 3, 4, 5, 6, 7, 8, 9, 10, 11, 12] (none, (.r (.mov 48 (.t 3)))) 
  (.take [2, 3, 4, 5, 6, 7, 8, 9, 10, 11, 12] (none, (.r (.bin 49 .gtr 0 (.t 48) (.c (.int .i64 0))))) 
  (.take [3, 4, 5, 6, 7, 8, 9, 10, 11, 12] (none, (.r (.mov 50 (.t 49)))) 
  (.take [4, 7, 8, 10, 11, 12] ((some (50, true)), (.r (.fldA 51 (.t 1) 1))) 
  (.take [7, 8, 10, 11, 12] ((some (50, true)), (.r (.ld 52 (.t 51) 1 false))) 
  (.take [6, 7, 8, 10, 11, 12] ((some (50, true)), (.r (.mov 53 (.t 3)))) 
  (.take [7, 8, 10, 11, 12] ((some (50, true)), (.r (.bin 54 .sub 0 (.t 53) (.c (.int .i64 1))))) 
  (.take [8, 10, 11, 12] ((some (50, true)), (.r (.idxA 55 (.t 52) (.t 54) 2))) 
  (.take [10, 11, 12] ((some (50, true)), (.r (.ld 56 (.t 55) 2 true))) 
  (.take [10, 11, 12] ((some (50, true)), (.r (.ld 57 (.t 4) 2 true))) 
  (.one 10 ((some (50, true)), (.call 58 (.f 45) [((.t 56), false), ((.t 57), false)])) 
  (.take [12] ((some (50, true)), (.r (.notb 59 (.t 58)))) 
  (.take [] (none, (.r (.pick 60 (.t 50) (.t 59) (.c (.bool false))))) .done)))))))))))))
def c_garlandref02_Right_r9 : List GOp := [(none, (.asg 2 (.c (.bool false)) true))]
def c_garlandref02_Right_r10 : List GOp := [(none, (.r (.mov 24 (.t 3)))),
  (none, (.r (.bin 25 .add 0 (.t 24) (.c (.int .i64 1))))),
  (none, (.asg 3 (.t 25) true))]
def c_garlandref02_Right_r11 : List GOp := [(none, (.asg 2 (.c (.bool true)) true))]
def v_garlandref02_Right : List Nat := [0, 1, 2, 3, 4, 18, 23, 47, 60]
def c_garlandref02_Right : ACode :=
  (.seq
  (.reg [0, 2, 3, 4, 18, 23, 47, 60] c_garlandref02_Right_r0 v_garlandref02_Right)
  (.seq
  (.seq
  (.reg [0, 1, 2, 3, 4, 23, 47, 60] c_garlandref02_Right_r1 v_garlandref02_Right)
  (.cond (.t 18) (.seq
  (.reg [0, 1, 2, 3, 4, 18, 23, 47, 60] c_garlandref02_Right_r2 v_garlandref02_Right)
  .ret) .skip))
  (.seq
  (.seq
  (.reg [0, 1, 2, 3, 4, 18, 23, 47, 60] c_garlandref02_Right_r3 v_garlandref02_Right)
  (.blk 0 (.loop (.seq
  (.seq
  (.reg [0, 1, 2, 3, 4, 18, 47, 60] c_garlandref02_Right_r4 v_garlandref02_Right)
  (.cond (.t 23) .skip (.exit 0)))
  (.seq
  (.blk 1 (.seq
  (.reg [0, 1, 2, 3, 18, 23, 47, 60] c_garlandref02_Right_r5 v_garlandref02_Right)
  (.seq
  (.seq
  (.reg [0, 1, 2, 3, 4, 18, 23, 60] c_garlandref02_Right_r6 v_garlandref02_Right)
  (.cond (.t 47) (.seq
  (.reg [0, 1, 2, 3, 4, 18, 23, 47, 60] c_garlandref02_Right_r7 v_garlandref02_Right)
  .ret) .skip))
  (.seq
  (.draw [0, 1, 2, 3, 4, 18, 23, 47] c_garlandref02_Right_r8 v_garlandref02_Right)
  (.cond (.t 60) (.seq
  (.reg [0, 1, 2, 3, 4, 18, 23, 47, 60] c_garlandref02_Right_r9 v_garlandref02_Right)
  .ret) .skip)))))
  (.reg [0, 1, 2, 3, 4, 18, 23, 47, 60] c_garlandref02_Right_r10 v_garlandref02_Right))))))
  (.seq
  (.reg [0, 1, 2, 3, 4, 18, 23, 47, 60] c_garlandref02_Right_r11 v_garlandref02_Right)
  .ret))))
abbrev n_garlandref02_Right : Nat := 33
theorem s_garlandref02_Right : stripF Try.prog [2] v_garlandref02_Right Try.f33 = some (c_garlandref02_Right, [(.tmp 2)]) := by kernel_rfl
theorem go_garlandref02_Right {L : List (List Nat)} {args : List AVal} {h : Heap} {Q : AVal → Heap → Prop} (hl : args.length = 1) (H : Wlk Try.prog [2] Try.f33.ntmps v_garlandref02_Right L c_garlandref02_Right (ends L [(.tmp 2)] Q) (entry v_garlandref02_Right args h)) : ACalls Try.prog L n_garlandref02_Right args h Q :=
  acalls_of_strip mix Try.func33 s_garlandref02_Right (by rw [hl]; exact Nat.le_of_ble_eq_true rfl) H
def c_walk_ways_alternates_r0 : List GOp := [(none, (.box 2 (.t 0))),
  (none, (.asg 4 (.c (.bool false)) true))]
def c_walk_ways_alternates_r1 : List GOp := [(none, (.r (.ld 7 (.t 2) 3 true))),
  (none, (.r (.mov 8 (.t 1)))),
  (none, (.call 9 (.f 46) [((.t 7), false), ((.t 8), false)])),
  (none, (.r (.notb 10 (.t 9))))]
def c_walk_ways_alternates_r2 : List GOp := [(none, (.asg 4 (.c (.bool false)) true))]
def c_walk_ways_alternates_r3 : List GOp := [(none, (.r (.ld 11 (.t 2) 3 true))),
  (none, (.mkfn 12 (.func 39) [((.t 11), false)] [])),
  (none, (.asg 5 (.t 12) true))]
def c_walk_ways_alternates_r4 : List GOp := [(none, (.asg 6 (.c (.int .i64 2)) true))]
def c_walk_ways_alternates_r5 : List GOp := [(none, (.r (.mov 13 (.t 6)))),
  (none, (.r (.mov 14 (.t 1)))),
  (none, (.r (.len 15 (.t 14)))),
  (none, (.r (.bin 16 .lss 0 (.t 13) (.t 15))))]
def c_walk_ways_alternates_r6 : Tree := 
  (.take [11, 22, 23] (none, (.r (.mov 19 (.t 5)))) 
  (.take [4, 5, 11, 22, 23] (none, (.r (.mov 20 (.t 1)))) 
  (.take [3, 4, 5, 11, 22, 23] (none, (.r (.mov 21 (.t 6)))) 
  (.take [4, 5, 11, 22, 23] (none, (.r (.bin 22 .sub 0 (.t 21) (.c (.int .i64 2))))) 
  (.take [5, 11, 22, 23] (none, (.r (.idxA 23 (.t 20) (.t 22) 1))) 
  (.take [11, 22, 23] (none, (.r (.ld 24 (.t 23) 1 false))) 
  (.take [9, 10, 11, 22, 23] (none, (.r (.mov 25 (.t 1)))) 
  (.take [8, 9, 10, 11, 22, 23] (none, (.r (.mov 26 (.t 6)))) 
  (.take [9, 10, 11, 22, 23] (none, (.r (.bin 27 .sub 0 (.t 26) (.c (.int .i64 1))))) 
  (.take [10, 11, 22, 23] (none, (.r (.idxA 28 (.t 25) (.t 27) 1))) 
  (.take [11, 22, 23] (none, (.r (.ld 29 (.t 28) 1 false))) 
  (.take [22, 23] (none, (.r (.mov 31 (.t 5)))) 
  (.take [16, 17, 22, 23] (none, (.r (.mov 32 (.t 1)))) 
  (.take [15, 16, 17, 22, 23] (none, (.r (.mov 33 (.t 6)))) 
  (.take [16, 17, 22, 23] (none, (.r (.bin 34 .sub 0 (.t 33) (.c (.int .i64 1))))) 
  (.take [17, 22, 23] (none, (.r (.idxA 35 (.t 32) (.t 34) 1))) 
  (.take [22, 23] (none, (.r (.ld 36 (.t 35) 1 false))) 
  (.take [20, 21, 22, 23] (none, (.r (.mov 37 (.t 1)))) 
  (.take [20, 21, 22, 23] (none, (.r (.mov 38 (.t 6)))) 
  (.take [21, 22, 23] (none, (.r (.idxA 39 (.t 37) (.t 38) 1))) 
  (.take [22, 23] (none, (.r (.ld 40 (.t 39) 1 false))) 
  (.one 11 (none, (.call 30 (.t 19) [((.t 24), false), ((.t 29), false)])) 
  (.one 22 (none, (.call 41 (.t 31) [((.t 36), false), ((.t 40), false)])) 
  (.take [] (none, (.r (.bin 42 .eql 1 (.t 30) (.t 41)))) .done))))))))))))))))))))))))
def c_walk_ways_alternates_r7 : List GOp := [(none, (.asg 4 (.c (.bool false)) true))]
def c_walk_ways_alternates_r8 : List GOp := [(none, (.r (.mov 17 (.t 6)))),
  (none, (.r (.bin 18 .add 0 (.t 17) (.c (.int .i64 1))))),
  (none, (.asg 6 (.t 18) true))]
def c_walk_ways_alternates_r9 : List GOp := [(none, (.asg 4 (.c (.bool true)) true))]
def v_walk_ways_alternates : List Nat := [0, 1, 2, 4, 5, 6, 10, 16, 42]
def c_walk_ways_alternates : ACode :=
  (.seq
  (.reg [0, 1, 4, 5, 6, 10, 16, 42] c_walk_ways_alternates_r0 v_walk_ways_alternates)
  (.seq
  (.seq
  (.reg [0, 1, 2, 4, 5, 6, 16, 42] c_walk_ways_alternates_r1 v_walk_ways_alternates)
  (.cond (.t 10) (.seq
  (.reg [0, 1, 2, 4, 5, 6, 10, 16, 42] c_walk_ways_alternates_r2 v_walk_ways_alternates)
  .ret) .skip))
  (.seq
  (.reg [0, 1, 2, 4, 5, 6, 10, 16, 42] c_walk_ways_alternates_r3 v_walk_ways_alternates)
  (.seq
  (.seq
  (.reg [0, 1, 2, 4, 5, 6, 10, 16, 42] c_walk_ways_alternates_r4 v_walk_ways_alternates)
  (.blk 0 (.loop (.seq
  (.seq
  (.reg [0, 1, 2, 4, 5, 6, 10, 42] c_walk_ways_alternates_r5 v_walk_ways_alternates)
  (.cond (.t 16) .skip (.exit 0)))
  (.seq
  (.blk 1 (.seq
  (.draw [0, 1, 2, 4, 5, 6, 10, 16] c_walk_ways_alternates_r6 v_walk_ways_alternates)
  (.cond (.t 42) (.seq
  (.reg [0, 1, 2, 4, 5, 6, 10, 16, 42] c_walk_ways_alternates_r7 v_walk_ways_alternates)
  .ret) .skip)))
  (.reg [0, 1, 2, 4, 5, 6, 10, 16, 42] c_walk_ways_alternates_r8 v_walk_ways_alternates))))))
  (.seq
  (.reg [0, 1, 2, 4, 5, 6, 10, 16, 42] c_walk_ways_alternates_r9 v_walk_ways_alternates)
  .ret)))))
abbrev n_walk_ways_alternates : Nat := 34
theorem s_walk_ways_alternates : stripF Try.prog [4] v_walk_ways_alternates Try.f34 = some (c_walk_ways_alternates, [(.tmp 4)]) := by kernel_rfl
theorem go_walk_ways_alternates {L : List (List Nat)} {args : List AVal} {h : Heap} {Q : AVal → Heap → Prop} (hl : args.length = 2) (H : Wlk Try.prog [4] Try.f34.ntmps v_walk_ways_alternates L c_walk_ways_alternates (ends L [(.tmp 4)] Q) (entry v_walk_ways_alternates args h)) : ACalls Try.prog L n_walk_ways_alternates args h Q :=
  acalls_of_strip mix Try.func34 s_walk_ways_alternates (by rw [hl]; exact Nat.le_of_ble_eq_true rfl) H
def c_garlandref02_Is_r0 : List GOp := [(none, (.box 2 (.t 0))),
  (none, (.asg 4 (.c (.bool false)) true))]
def c_garlandref02_Is_r1 : List GOp := [(none, (.r (.mov 5 (.t 1)))),
  (none, (.r (.bin 6 .geq 0 (.t 5) (.c (.int .i64 0))))),
  (none, (.r (.mov 7 (.t 6)))), ((some (7, true)), (.r (.mov 8 (.t 1)))), ((some (7, true)), (.r (.fldA 9 (.t 2) 0))), ((some (7, true)), (.r (.ld 10 (.t 9) 1 false))), ((some (7, true)), (.r (.bin 11 .lss 0 (.t 8) (.t 10)))),
  (none, (.r (.pick 12 (.t 7) (.t 11) (.c (.bool false))))),
  (none, (.asg 4 (.t 12) true))]
def v_garlandref02_Is : List Nat := [0, 1, 2, 4]
def c_garlandref02_Is : ACode :=
  (.seq
  (.reg [0, 1, 4] c_garlandref02_Is_r0 v_garlandref02_Is)
  (.seq
  (.reg [0, 1, 2, 4] c_garlandref02_Is_r1 v_garlandref02_Is)
  .ret))
abbrev n_garlandref02_Is : Nat := 35
theorem s_garlandref02_Is : stripF Try.prog [4] v_garlandref02_Is Try.f35 = some (c_garlandref02_Is, [(.tmp 4)]) := by kernel_rfl
theorem go_garlandref02_Is {L : List (List Nat)} {args : List AVal} {h : Heap} {Q : AVal → Heap → Prop} (hl : args.length = 2) (H : Wlk Try.prog [4] Try.f35.ntmps v_garlandref02_Is L c_garlandref02_Is (ends L [(.tmp 4)] Q) (entry v_garlandref02_Is args h)) : ACalls Try.prog L n_garlandref02_Is args h Q :=
  acalls_of_strip mix Try.func35 s_garlandref02_Is (by rw [hl]; exact Nat.le_of_ble_eq_true rfl) H
def c_garlandref02_Has_r0 : List GOp := [(none, (.box 3 (.t 0))),
  (none, (.asg 6 (.c (.bool false)) true))]
def c_garlandref02_Has_r1 : List GOp := [(none, (.r (.ld 7 (.t 3) 2 true))),
  (none, (.r (.mov 8 (.t 1)))),
  (none, (.r (.mov 9 (.t 2)))),
  (none, (.call 10 (.f 47) [((.t 7), false), ((.t 8), false), ((.t 9), false)])),
  (none, (.r (.bin 11 .geq 0 (.t 10) (.c (.int .i64 0))))),
  (none, (.asg 6 (.t 11) true))]
def v_garlandref02_Has : List Nat := [0, 1, 2, 3, 6]
def c_garlandref02_Has : ACode :=
  (.seq
  (.reg [0, 1, 2, 6] c_garlandref02_Has_r0 v_garlandref02_Has)
  (.seq
  (.reg [0, 1, 2, 3, 6] c_garlandref02_Has_r1 v_garlandref02_Has)
  .ret))
abbrev n_garlandref02_Has : Nat := 36
theorem s_garlandref02_Has : stripF Try.prog [6] v_garlandref02_Has Try.f36 = some (c_garlandref02_Has, [(.tmp 6)]) := by kernel_rfl
theorem go_garlandref02_Has {L : List (List Nat)} {args : List AVal} {h : Heap} {Q : AVal → Heap → Prop} (hl : args.length = 3) (H : Wlk Try.prog [6] Try.f36.ntmps v_garlandref02_Has L c_garlandref02_Has (ends L [(.tmp 6)] Q) (entry v_garlandref02_Has args h)) : ACalls Try.prog L n_garlandref02_Has args h Q :=
  acalls_of_strip mix Try.func36 s_garlandref02_Has (by rw [hl]; exact Nat.le_of_ble_eq_true rfl) H
def c_garlandhelp_Same_int__r0 : List GOp := [(none, (.asg 6 (.c (.bool false)) true))]
def c_garlandhelp_Same_int__r1 : List GOp := [(none, (.r (.mov 8 (.t 0)))),
  (none, (.r (.len 9 (.t 8)))),
  (none, (.r (.mov 10 (.t 1)))),
  (none, (.r (.len 11 (.t 10)))),
  (none, (.r (.bin 12 .neq 0 (.t 9) (.t 11))))]
def c_garlandhelp_Same_int__r2 : List GOp := [(none, (.asg 6 (.c (.bool false)) true))]
def c_garlandhelp_Same_int__r3 : List GOp := [(none, (.asg 7 (.c (.int .i64 0)) true))]
def c_garlandhelp_Same_int__r4 : List GOp := [(none, (.r (.mov 13 (.t 7)))),
  (none, (.r (.mov 14 (.t 0)))),
  (none, (.r (.len 15 (.t 14)))),
  (none, (.r (.bin 16 .lss 0 (.t 13) (.t 15))))]
def c_garlandhelp_Same_int__r5 : Tree := 
  (.take [9, 10] (none, (.r (.mov 19 (.t 2)))) 
  (.take [3, 4, 9, 10] (none, (.r (.mov 20 (.t 0)))) 
  (.take [3, 4, 9, 10] (none, (.r (.mov 21 (.t 7)))) 
  (.take [4, 9, 10] (none, (.r (.idxA 22 (.t 20) (.t 21) 1))) 
  (.take [9, 10] (none, (.r (.ld 23 (.t 22) 1 false))) 
  (.take [7, 8, 9, 10] (none, (.r (.mov 24 (.t 1)))) 
  (.take [7, 8, 9, 10] (none, (.r (.mov 25 (.t 7)))) 
  (.take [8, 9, 10] (none, (.r (.idxA 26 (.t 24) (.t 25) 1))) 
  (.take [9, 10] (none, (.r (.ld 27 (.t 26) 1 false))) 
  (.one 9 (none, (.call 28 (.t 19) [((.t 23), false), ((.t 27), false)])) 
  (.take [] (none, (.r (.notb 29 (.t 28)))) .done)))))))))))
def c_garlandhelp_Same_int__r6 : List GOp := [(none, (.asg 6 (.c (.bool false)) true))]
def c_garlandhelp_Same_int__r7 : List GOp := [(none, (.r (.mov 17 (.t 7)))),
  (none, (.r (.bin 18 .add 0 (.t 17) (.c (.int .i64 1))))),
  (none, (.asg 7 (.t 18) true))]
def c_garlandhelp_Same_int__r8 : List GOp := [(none, (.asg 6 (.c (.bool true)) true))]
def v_garlandhelp_Same_int_ : List Nat := [0, 1, 2, 6, 7, 12, 16, 29]
def c_garlandhelp_Same_int_ : ACode :=
  (.seq
  (.reg [0, 1, 2, 6, 7, 12, 16, 29] c_garlandhelp_Same_int__r0 v_garlandhelp_Same_int_)
  (.seq
  (.seq
  (.reg [0, 1, 2, 6, 7, 16, 29] c_garlandhelp_Same_int__r1 v_garlandhelp_Same_int_)
  (.cond (.t 12) (.seq
  (.reg [0, 1, 2, 6, 7, 12, 16, 29] c_garlandhelp_Same_int__r2 v_garlandhelp_Same_int_)
  .ret) .skip))
  (.seq
  (.seq
  (.reg [0, 1, 2, 6, 7, 12, 16, 29] c_garlandhelp_Same_int__r3 v_garlandhelp_Same_int_)
  (.blk 0 (.loop (.seq
  (.seq
  (.reg [0, 1, 2, 6, 7, 12, 29] c_garlandhelp_Same_int__r4 v_garlandhelp_Same_int_)
  (.cond (.t 16) .skip (.exit 0)))
  (.seq
  (.blk 1 (.seq
  (.draw [0, 1, 2, 6, 7, 12, 16] c_garlandhelp_Same_int__r5 v_garlandhelp_Same_int_)
  (.cond (.t 29) (.seq
  (.reg [0, 1, 2, 6, 7, 12, 16, 29] c_garlandhelp_Same_int__r6 v_garlandhelp_Same_int_)
  .ret) .skip)))
  (.reg [0, 1, 2, 6, 7, 12, 16, 29] c_garlandhelp_Same_int__r7 v_garlandhelp_Same_int_))))))
  (.seq
  (.reg [0, 1, 2, 6, 7, 12, 16, 29] c_garlandhelp_Same_int__r8 v_garlandhelp_Same_int_)
  .ret))))
abbrev n_garlandhelp_Same_int_ : Nat := 37
theorem s_garlandhelp_Same_int_ : stripF Try.prog [6] v_garlandhelp_Same_int_ Try.f37 = some (c_garlandhelp_Same_int_, [(.tmp 6)]) := by kernel_rfl
theorem go_garlandhelp_Same_int_ {L : List (List Nat)} {args : List AVal} {h : Heap} {Q : AVal → Heap → Prop} (hl : args.length = 3) (H : Wlk Try.prog [6] Try.f37.ntmps v_garlandhelp_Same_int_ L c_garlandhelp_Same_int_ (ends L [(.tmp 6)] Q) (entry v_garlandhelp_Same_int_ args h)) : ACalls Try.prog L n_garlandhelp_Same_int_ args h Q :=
  acalls_of_strip mix Try.func37 s_garlandhelp_Same_int_ (by rw [hl]; exact Nat.le_of_ble_eq_true rfl) H
def c_garlandhelp_Plain_int__1_r0 : List GOp := [(none, (.asg 4 (.c (.bool false)) true))]
def c_garlandhelp_Plain_int__1_r1 : List GOp := [(none, (.r (.mov 5 (.t 0)))),
  (none, (.r (.mov 6 (.t 1)))),
  (none, (.r (.bin 7 .eql 0 (.t 5) (.t 6)))),
  (none, (.asg 4 (.t 7) true))]
def v_garlandhelp_Plain_int__1 : List Nat := [0, 1, 4]
def c_garlandhelp_Plain_int__1 : ACode :=
  (.seq
  (.reg [0, 1, 4] c_garlandhelp_Plain_int__1_r0 v_garlandhelp_Plain_int__1)
  (.seq
  (.reg [0, 1, 4] c_garlandhelp_Plain_int__1_r1 v_garlandhelp_Plain_int__1)
  .ret))
abbrev n_garlandhelp_Plain_int__1 : Nat := 38
theorem s_garlandhelp_Plain_int__1 : stripF Try.prog [4] v_garlandhelp_Plain_int__1 Try.f38 = some (c_garlandhelp_Plain_int__1, [(.tmp 4)]) := by kernel_rfl
theorem go_garlandhelp_Plain_int__1 {L : List (List Nat)} {args : List AVal} {h : Heap} {Q : AVal → Heap → Prop} (hl : args.length = 2) (H : Wlk Try.prog [4] Try.f38.ntmps v_garlandhelp_Plain_int__1 L c_garlandhelp_Plain_int__1 (ends L [(.tmp 4)] Q) (entry v_garlandhelp_Plain_int__1 args h)) : ACalls Try.prog L n_garlandhelp_Plain_int__1 args h Q :=
  acalls_of_strip mix Try.func38 s_garlandhelp_Plain_int__1 (by rw [hl]; exact Nat.le_of_ble_eq_true rfl) H
def c_walk_ways_own_r0 : List GOp := [(none, (.box 3 (.t 0))),
  (none, (.asg 6 (.c (.bool false)) true))]
def c_walk_ways_own_r1 : List GOp := [(none, (.r (.fldA 7 (.t 3) 2))),
  (none, (.r (.ld 8 (.t 7) 1 false))),
  (none, (.r (.mov 9 (.t 1)))),
  (none, (.r (.idxA 10 (.t 8) (.t 9) 1))),
  (none, (.r (.ld 11 (.t 10) 1 false))),
  (none, (.r (.mov 12 (.t 2)))),
  (none, (.r (.bin 13 .eql 0 (.t 11) (.t 12)))),
  (none, (.asg 6 (.t 13) true))]
def v_walk_ways_own : List Nat := [0, 1, 2, 3, 6]
def c_walk_ways_own : ACode :=
  (.seq
  (.reg [0, 1, 2, 6] c_walk_ways_own_r0 v_walk_ways_own)
  (.seq
  (.reg [0, 1, 2, 3, 6] c_walk_ways_own_r1 v_walk_ways_own)
  .ret))
abbrev n_walk_ways_own : Nat := 39
theorem s_walk_ways_own : stripF Try.prog [6] v_walk_ways_own Try.f39 = some (c_walk_ways_own, [(.tmp 6)]) := by kernel_rfl
theorem go_walk_ways_own {L : List (List Nat)} {args : List AVal} {h : Heap} {Q : AVal → Heap → Prop} (hl : args.length = 3) (H : Wlk Try.prog [6] Try.f39.ntmps v_walk_ways_own L c_walk_ways_own (ends L [(.tmp 6)] Q) (entry v_walk_ways_own args h)) : ACalls Try.prog L n_walk_ways_own args h Q :=
  acalls_of_strip mix Try.func39 s_walk_ways_own (by rw [hl]; exact Nat.le_of_ble_eq_true rfl) H
def c_pieces_All_r0 : List GOp := [(none, (.box 1 (.t 0))),
  (none, (.asg 2 (.c (.slice none 0 0)) true))]
def c_pieces_All_r1 : List GOp := [(none, (.r (.ld 3 (.t 1) 2 true))),
  (none, (.call 4 (.f 48) [((.t 3), false), ((.c (.slice none 0 0)), false)])),
  (none, (.asg 2 (.t 4) true))]
def v_pieces_All : List Nat := [0, 1, 2]
def c_pieces_All : ACode :=
  (.seq
  (.reg [0, 2] c_pieces_All_r0 v_pieces_All)
  (.seq
  (.reg [0, 1, 2] c_pieces_All_r1 v_pieces_All)
  .ret))
abbrev n_pieces_All : Nat := 40
theorem s_pieces_All : stripF Try.prog [2] v_pieces_All Try.f40 = some (c_pieces_All, [(.tmp 2)]) := by kernel_rfl
theorem go_pieces_All {L : List (List Nat)} {args : List AVal} {h : Heap} {Q : AVal → Heap → Prop} (hl : args.length = 1) (H : Wlk Try.prog [2] Try.f40.ntmps v_pieces_All L c_pieces_All (ends L [(.tmp 2)] Q) (entry v_pieces_All args h)) : ACalls Try.prog L n_pieces_All args h Q :=
  acalls_of_strip mix Try.func40 s_pieces_All (by rw [hl]; exact Nat.le_of_ble_eq_true rfl) H
def c_garlandref02_Add_r0 : List GOp := [(none, (.box 3 (.t 0))),
  (none, (.alloc 6 [(.int .i64 0), (.slice none 0 0)])),
  (none, (.asg 7 (.c (.int .i64 0)) true))]
def c_garlandref02_Add_r1 : List GOp := [(none, (.r (.ld 9 (.t 3) 2 true))),
  (none, (.call 10 (.f 33) [((.t 9), false)])),
  (none, (.r (.notb 11 (.t 10)))),
  (none, (.asg 8 (.t 11) true))]
def c_garlandref02_Add_r2 : List GOp := [(none, (.bld 12 [] [(.int .i64 0), (.slice none 0 0)])),
  (none, (.st (.t 6) (.t 12) 2)),
  (none, (.asg 7 (.c (.int .i64 3)) true))]
def c_garlandref02_Add_r3 : List GOp := [(none, (.r (.ld 14 (.t 3) 2 true))),
  (none, (.r (.mov 15 (.t 1)))),
  (none, (.call 16 (.f 35) [((.t 14), false), ((.t 15), false)])),
  (none, (.r (.notb 17 (.t 16)))),
  (none, (.r (.mov 18 (.t 17)))), ((some (18, false)), (.r (.ld 19 (.t 3) 2 true))), ((some (18, false)), (.r (.mov 20 (.t 2)))), ((some (18, false)), (.call 21 (.f 35) [((.t 19), false), ((.t 20), false)])), ((some (18, false)), (.r (.notb 22 (.t 21)))),
  (none, (.r (.pick 23 (.t 18) (.c (.bool true)) (.t 22)))),
  (none, (.asg 13 (.t 23) true))]
def c_garlandref02_Add_r4 : List GOp := [(none, (.bld 24 [] [(.int .i64 0), (.slice none 0 0)])),
  (none, (.st (.t 6) (.t 24) 2)),
  (none, (.asg 7 (.c (.int .i64 4)) true))]
def c_garlandref02_Add_r5 : List GOp := [(none, (.r (.mov 26 (.t 1)))),
  (none, (.r (.mov 27 (.t 2)))),
  (none, (.r (.bin 28 .eql 0 (.t 26) (.t 27)))),
  (none, (.asg 25 (.t 28) true))]
def c_garlandref02_Add_r6 : List GOp := [(none, (.bld 29 [] [(.int .i64 0), (.slice none 0 0)])),
  (none, (.st (.t 6) (.t 29) 2)),
  (none, (.asg 7 (.c (.int .i64 5)) true))]
def c_garlandref02_Add_r7 : List GOp := [(none, (.r (.ld 31 (.t 3) 2 true))),
  (none, (.r (.mov 32 (.t 1)))),
  (none, (.r (.mov 33 (.t 2)))),
  (none, (.call 34 (.f 36) [((.t 31), false), ((.t 32), false), ((.t 33), false)])),
  (none, (.asg 30 (.t 34) true))]
def c_garlandref02_Add_r8 : List GOp := [(none, (.bld 35 [] [(.int .i64 0), (.slice none 0 0)])),
  (none, (.st (.t 6) (.t 35) 2)),
  (none, (.asg 7 (.c (.int .i64 6)) true))]
def c_garlandref02_Add_r9 : List GOp := [(none, (.r (.fldA 37 (.t 3) 1))),
  (none, (.r (.ld 38 (.t 37) 1 false))),
  (none, (.r (.len 39 (.t 38)))),
  (none, (.r (.bin 40 .geq 0 (.t 39) (.c (.int .i64 65536))))),
  (none, (.asg 36 (.t 40) true))]
def c_garlandref02_Add_r10 : List GOp := [(none, (.bld 41 [] [(.int .i64 0), (.slice none 0 0)])),
  (none, (.st (.t 6) (.t 41) 2)),
  (none, (.asg 7 (.c (.int .i64 8)) true))]
def c_garlandref02_Add_r11 : Tree := 
  (.take [1, 8, 9, 10] (none, (.r (.fldA 42 (.t 3) 0))) 
  (.take [8, 9, 10] (none, (.r (.ld 43 (.t 42) 1 false))) 
  (.take [3, 7, 8, 9, 10] (none, (.r (.fldA 44 (.t 3) 1))) 
  (.take [7, 8, 9, 10] (none, (.r (.ld 45 (.t 44) 1 false))) 
  (.take [6, 7, 8, 9, 10] (none, (.r (.mov 46 (.t 1)))) 
  (.take [6, 7, 8, 9, 10] (none, (.r (.mov 47 (.t 2)))) 
  (.one 6 (none, (.call 48 (.f 50) [((.t 46), false), ((.t 47), false)])) 
  (.one 7 (none, (.call 49 (.f 49) [((.t 45), false), ((.t 48), false)])) 
  (.one 8 (none, (.bld 50 [((0, 1), ((.t 43), true)), ((1, 1), ((.t 49), true))] [(.int .i64 0), (.slice none 0 0)])) 
  (.one 9 (none, (.st (.t 6) (.t 50) 2)) 
  (.one 10 (none, (.asg 7 (.c (.int .i64 0)) true)) .done)))))))))))
def v_garlandref02_Add : List Nat := [0, 1, 2, 3, 6, 7, 8, 13, 25, 30, 36]
def c_garlandref02_Add : ACode :=
  (.seq
  (.reg [0, 1, 2, 7, 8, 13, 25, 30, 36] c_garlandref02_Add_r0 v_garlandref02_Add)
  (.seq
  (.blk 0 (.seq
  (.reg [0, 1, 2, 3, 6, 7, 8, 13, 25, 30, 36] c_garlandref02_Add_r1 v_garlandref02_Add)
  (.cond (.t 8) (.seq
  (.reg [0, 1, 2, 3, 6, 7, 8, 13, 25, 30, 36] c_garlandref02_Add_r2 v_garlandref02_Add)
  .ret) (.seq
  (.reg [0, 1, 2, 3, 6, 7, 8, 13, 25, 30, 36] c_garlandref02_Add_r3 v_garlandref02_Add)
  (.cond (.t 13) (.seq
  (.reg [0, 1, 2, 3, 6, 7, 8, 13, 25, 30, 36] c_garlandref02_Add_r4 v_garlandref02_Add)
  .ret) (.seq
  (.reg [0, 1, 2, 3, 6, 7, 8, 13, 25, 30, 36] c_garlandref02_Add_r5 v_garlandref02_Add)
  (.cond (.t 25) (.seq
  (.reg [0, 1, 2, 3, 6, 7, 8, 13, 25, 30, 36] c_garlandref02_Add_r6 v_garlandref02_Add)
  .ret) (.seq
  (.reg [0, 1, 2, 3, 6, 7, 8, 13, 25, 30, 36] c_garlandref02_Add_r7 v_garlandref02_Add)
  (.cond (.t 30) (.seq
  (.reg [0, 1, 2, 3, 6, 7, 8, 13, 25, 30, 36] c_garlandref02_Add_r8 v_garlandref02_Add)
  .ret) (.seq
  (.reg [0, 1, 2, 3, 6, 7, 8, 13, 25, 30, 36] c_garlandref02_Add_r9 v_garlandref02_Add)
  (.cond (.t 36) (.seq
  (.reg [0, 1, 2, 3, 6, 7, 8, 13, 25, 30, 36] c_garlandref02_Add_r10 v_garlandref02_Add)
  .ret) .skip)))))))))))
  (.seq
  (.draw [0, 1, 2, 3, 6, 7, 8, 13, 25, 30, 36] c_garlandref02_Add_r11 v_garlandref02_Add)
  .ret)))
abbrev n_garlandref02_Add : Nat := 42
theorem s_garlandref02_Add : stripF Try.prog [7] v_garlandref02_Add Try.f42 = some (c_garlandref02_Add, [(.cell 6 2 true), (.tmp 7)]) := by kernel_rfl
theorem go_garlandref02_Add {L : List (List Nat)} {args : List AVal} {h : Heap} {Q : AVal → Heap → Prop} (hl : args.length = 3) (H : Wlk Try.prog [7] Try.f42.ntmps v_garlandref02_Add L c_garlandref02_Add (ends L [(.cell 6 2 true), (.tmp 7)] Q) (entry v_garlandref02_Add args h)) : ACalls Try.prog L n_garlandref02_Add args h Q :=
  acalls_of_strip mix Try.func42 s_garlandref02_Add (by rw [hl]; exact Nat.le_of_ble_eq_true rfl) H
def c_garlandref08_Edges_r0 : List GOp := [(none, (.asg 2 (.c (.slice none 0 0)) true))]
def c_garlandref08_Edges_r1 : List GOp := [(none, (.asg 3 (.c (.slice none 0 0)) true))]
def c_garlandref08_Edges_r2 : List GOp := [(none, (.asg 4 (.c (.int .i64 0)) true))]
def c_garlandref08_Edges_r3 : List GOp := [(none, (.r (.mov 6 (.t 4)))),
  (none, (.r (.mov 7 (.t 0)))),
  (none, (.r (.len 8 (.t 7)))),
  (none, (.r (.bin 9 .lss 0 (.t 6) (.t 8))))]
def c_garlandref08_Edges_r4 : List GOp := [(none, (.r (.mov 12 (.t 0)))),
  (none, (.r (.mov 13 (.t 4)))),
  (none, (.r (.idxA 14 (.t 12) (.t 13) 1))),
  (none, (.r (.ld 15 (.t 14) 1 false))),
  (none, (.asg 5 (.t 15) true))]
def c_garlandref08_Edges_r5 : List GOp := [(none, (.r (.mov 16 (.t 5)))),
  (none, (.r (.mov 17 (.t 4)))),
  (none, (.r (.bin 18 .gtr 0 (.t 16) (.t 17)))),
  (none, (.r (.mov 19 (.t 18)))), ((some (19, true)), (.r (.mov 20 (.t 5)))), ((some (19, true)), (.r (.mov 21 (.t 0)))), ((some (19, true)), (.r (.len 22 (.t 21)))), ((some (19, true)), (.r (.bin 23 .lss 0 (.t 20) (.t 22)))),
  (none, (.r (.pick 24 (.t 19) (.t 23) (.c (.bool false))))),
  (none, (.r (.mov 25 (.t 24)))), ((some (25, true)), (.r (.mov 26 (.t 0)))), ((some (25, true)), (.r (.mov 27 (.t 5)))), ((some (25, true)), (.r (.idxA 28 (.t 26) (.t 27) 1))), ((some (25, true)), (.r (.ld 29 (.t 28) 1 false))), ((some (25, true)), (.r (.mov 30 (.t 4)))), ((some (25, true)), (.r (.bin 31 .eql 0 (.t 29) (.t 30)))),
  (none, (.r (.pick 32 (.t 25) (.t 31) (.c (.bool false)))))]
def c_garlandref08_Edges_r6 : List GOp := [(none, (.r (.mov 33 (.t 3)))),
  (none, (.r (.mov 34 (.t 4)))),
  (none, (.r (.mov 35 (.t 5)))),
  (none, (.bld 36 [((0, 1), ((.t 34), true)), ((1, 1), ((.t 35), true))] [(.int .i64 0), (.int .i64 0)])),
  (none, (.blds 37 1 2 [((0, 2), ((.t 36), true))] [(.int .i64 0), (.int .i64 0)])),
  (none, (.app 38 (.t 33) (.t 37) 2 16)),
  (none, (.asg 3 (.t 38) true))]
def c_garlandref08_Edges_r7 : List GOp := [(none, (.r (.mov 10 (.t 4)))),
  (none, (.r (.bin 11 .add 0 (.t 10) (.c (.int .i64 1))))),
  (none, (.asg 4 (.t 11) true))]
def c_garlandref08_Edges_r8 : List GOp := [(none, (.r (.mov 39 (.t 3)))),
  (none, (.asg 2 (.t 39) true))]
def v_garlandref08_Edges : List Nat := [0, 2, 3, 4, 5, 9, 32]
def c_garlandref08_Edges : ACode :=
  (.seq
  (.reg [0, 2, 3, 4, 5, 9, 32] c_garlandref08_Edges_r0 v_garlandref08_Edges)
  (.seq
  (.reg [0, 2, 3, 4, 5, 9, 32] c_garlandref08_Edges_r1 v_garlandref08_Edges)
  (.seq
  (.seq
  (.reg [0, 2, 3, 4, 5, 9, 32] c_garlandref08_Edges_r2 v_garlandref08_Edges)
  (.blk 0 (.loop (.seq
  (.seq
  (.reg [0, 2, 3, 4, 5, 32] c_garlandref08_Edges_r3 v_garlandref08_Edges)
  (.cond (.t 9) .skip (.exit 0)))
  (.seq
  (.blk 1 (.seq
  (.reg [0, 2, 3, 4, 5, 9, 32] c_garlandref08_Edges_r4 v_garlandref08_Edges)
  (.seq
  (.reg [0, 2, 3, 4, 5, 9] c_garlandref08_Edges_r5 v_garlandref08_Edges)
  (.cond (.t 32) (.reg [0, 2, 3, 4, 5, 9, 32] c_garlandref08_Edges_r6 v_garlandref08_Edges) .skip))))
  (.reg [0, 2, 3, 4, 5, 9, 32] c_garlandref08_Edges_r7 v_garlandref08_Edges))))))
  (.seq
  (.reg [0, 2, 3, 4, 5, 9, 32] c_garlandref08_Edges_r8 v_garlandref08_Edges)
  .ret))))
abbrev n_garlandref08_Edges : Nat := 43
theorem s_garlandref08_Edges : stripF Try.prog [2] v_garlandref08_Edges Try.f43 = some (c_garlandref08_Edges, [(.tmp 2)]) := by kernel_rfl
theorem go_garlandref08_Edges {L : List (List Nat)} {args : List AVal} {h : Heap} {Q : AVal → Heap → Prop} (hl : args.length = 1) (H : Wlk Try.prog [2] Try.f43.ntmps v_garlandref08_Edges L c_garlandref08_Edges (ends L [(.tmp 2)] Q) (entry v_garlandref08_Edges args h)) : ACalls Try.prog L n_garlandref08_Edges args h Q :=
  acalls_of_strip mix Try.func43 s_garlandref08_Edges (by rw [hl]; exact Nat.le_of_ble_eq_true rfl) H
def c_graph_order_compare_r0 : List GOp := [(none, (.box 3 (.t 0))),
  (none, (.box 4 (.t 1))),
  (none, (.box 5 (.t 2))),
  (none, (.asg 6 (.c (.int .i64 0)) true))]
def c_graph_order_compare_r1 : Tree := 
  (.take [1, 4, 9, 10, 11, 12] (none, (.r (.fldA 7 (.t 4) 0))) 
  (.take [4, 9, 10, 11, 12] (none, (.r (.ld 8 (.t 7) 1 false))) 
  (.take [3, 4, 9, 10, 11, 12] (none, (.r (.fldA 9 (.t 5) 0))) 
  (.take [4, 9, 10, 11, 12] (none, (.r (.ld 10 (.t 9) 1 false))) 
  (.take [6, 9, 10, 11, 12] (none, (.r (.fldA 12 (.t 4) 1))) 
  (.take [9, 10, 11, 12] (none, (.r (.ld 13 (.t 12) 1 false))) 
  (.take [8, 9, 10, 11, 12] (none, (.r (.fldA 14 (.t 5) 1))) 
  (.take [9, 10, 11, 12] (none, (.r (.ld 15 (.t 14) 1 false))) 
  (.one 4 (none, (.call 11 (.f 52) [((.t 8), false), ((.t 10), false)])) 
  (.one 9 (none, (.call 16 (.f 52) [((.t 13), false), ((.t 15), false)])) 
  (.one 10 (none, (.blds 17 2 1 [((0, 1), ((.t 11), true)), ((1, 1), ((.t 16), true))] [(.int .i64 0)])) 
  (.one 11 (none, (.call 18 (.f 51) [((.t 17), false)])) 
  (.one 12 (none, (.asg 6 (.t 18) true)) .done)))))))))))))
def v_graph_order_compare : List Nat := [0, 1, 2, 4, 5, 6]
def c_graph_order_compare : ACode :=
  (.seq
  (.reg [0, 1, 2, 6] c_graph_order_compare_r0 v_graph_order_compare)
  (.seq
  (.draw [0, 1, 2, 4, 5, 6] c_graph_order_compare_r1 v_graph_order_compare)
  .ret))
abbrev n_graph_order_compare : Nat := 44
theorem s_graph_order_compare : stripF Try.prog [6] v_graph_order_compare Try.f44 = some (c_graph_order_compare, [(.tmp 6)]) := by kernel_rfl
theorem go_graph_order_compare {L : List (List Nat)} {args : List AVal} {h : Heap} {Q : AVal → Heap → Prop} (hl : args.length = 3) (H : Wlk Try.prog [6] Try.f44.ntmps v_graph_order_compare L c_graph_order_compare (ends L [(.tmp 6)] Q) (entry v_graph_order_compare args h)) : ACalls Try.prog L n_graph_order_compare args h Q :=
  acalls_of_strip mix Try.func44 s_graph_order_compare (by rw [hl]; exact Nat.le_of_ble_eq_true rfl) H
def c_garlandref02_ahead_r0 : List GOp := [(none, (.box 2 (.t 0))),
  (none, (.box 3 (.t 1))),
  (none, (.asg 4 (.c (.bool false)) true))]
def c_garlandref02_ahead_r1 : List GOp := [(none, (.r (.fldA 5 (.t 2) 0))),
  (none, (.r (.ld 6 (.t 5) 1 false))),
  (none, (.r (.fldA 7 (.t 3) 0))),
  (none, (.r (.ld 8 (.t 7) 1 false))),
  (none, (.r (.bin 9 .lss 0 (.t 6) (.t 8)))),
  (none, (.r (.mov 10 (.t 9)))), ((some (10, false)), (.r (.fldA 11 (.t 2) 0))), ((some (10, false)), (.r (.ld 12 (.t 11) 1 false))), ((some (10, false)), (.r (.fldA 13 (.t 3) 0))), ((some (10, false)), (.r (.ld 14 (.t 13) 1 false))), ((some (10, false)), (.r (.bin 15 .eql 0 (.t 12) (.t 14)))), ((some (10, false)), (.r (.mov 16 (.t 15)))), ((some (16, true)), (.r (.fldA 17 (.t 2) 1))), ((some (16, true)), (.r (.ld 18 (.t 17) 1 false))), ((some (16, true)), (.r (.fldA 19 (.t 3) 1))), ((some (16, true)), (.r (.ld 20 (.t 19) 1 false))), ((some (16, true)), (.r (.bin 21 .lss 0 (.t 18) (.t 20)))), ((some (10, false)), (.r (.pick 22 (.t 16) (.t 21) (.c (.bool false))))),
  (none, (.r (.pick 23 (.t 10) (.c (.bool true)) (.t 22)))),
  (none, (.asg 4 (.t 23) true))]
def v_garlandref02_ahead : List Nat := [0, 1, 2, 3, 4]
def c_garlandref02_ahead : ACode :=
  (.seq
  (.reg [0, 1, 4] c_garlandref02_ahead_r0 v_garlandref02_ahead)
  (.seq
  (.reg [0, 1, 2, 3, 4] c_garlandref02_ahead_r1 v_garlandref02_ahead)
  .ret))
abbrev n_garlandref02_ahead : Nat := 45
theorem s_garlandref02_ahead : stripF Try.prog [4] v_garlandref02_ahead Try.f45 = some (c_garlandref02_ahead, [(.tmp 4)]) := by kernel_rfl
theorem go_garlandref02_ahead {L : List (List Nat)} {args : List AVal} {h : Heap} {Q : AVal → Heap → Prop} (hl : args.length = 2) (H : Wlk Try.prog [4] Try.f45.ntmps v_garlandref02_ahead L c_garlandref02_ahead (ends L [(.tmp 4)] Q) (entry v_garlandref02_ahead args h)) : ACalls Try.prog L n_garlandref02_ahead args h Q :=
  acalls_of_strip mix Try.func45 s_garlandref02_ahead (by rw [hl]; exact Nat.le_of_ble_eq_true rfl) H
def c_walk_ways_path_r0 : List GOp := [(none, (.box 2 (.t 0))),
  (none, (.asg 4 (.c (.bool false)) true))]
def c_walk_ways_path_r1 : List GOp := [(none, (.mkmp 8)),
  (none, (.asg 5 (.t 8) true))]
def c_walk_ways_path_r2 : List GOp := [(none, (.r (.mov 9 (.t 1)))),
  (none, (.r (.len 10 (.t 9)))),
  (none, (.r (.mov 11 (.c (.int .i64 0)))))]
def c_walk_ways_path_r3 : List GOp := [(none, (.r (.bin 12 .lss 0 (.t 11) (.t 10))))]
def c_walk_ways_path_r4 : List GOp := [(none, (.r (.mov 13 (.t 11)))),
  (none, (.r (.idxA 14 (.t 9) (.t 11) 1))),
  (none, (.r (.ld 15 (.t 14) 1 false))),
  (none, (.asg 6 (.t 13) true)),
  (none, (.asg 7 (.t 15) true))]
def c_walk_ways_path_r5 : Tree := 
  (.take [1, 2, 3, 4, 5, 6, 7, 8, 9, 10, 11, 12, 13, 14, 15, 16, 17, 18, 19, 20, 21, 22, 23, 24, 25, 26, 27, 28, 29] (none, (.r (.mov 16 (.t 7)))) 
  (.take [2, 3, 4, 5, 6, 7, 8, 9, 10, 11, 12, 13, 14, 15, 16, 17, 18, 19, 20, 21, 22, 23, 24, 25, 26, 27, 28, 29] (none, (.r (.bin 17 .lss 0 (.t 16) (.c (.int .i64 0))))) 
  (.take [3, 4, 5, 6, 7, 8, 9, 10, 11, 12, 13, 14, 15, 16, 17, 18, 19, 20, 21, 22, 23, 24, 25, 26, 27, 28, 29] (none, (.r (.mov 18 (.t 17)))) 
  (.take [7, 8, 9, 10, 11, 12, 13, 14, 15, 16, 17, 18, 19, 20, 21, 22, 23, 24, 25, 26, 27, 28, 29] ((some (18, false)), (.r (.mov 19 (.t 7)))) 
  (.take [5, 6, 7, 8, 9, 10, 11, 12, 13, 14, 15, 16, 17, 18, 19, 20, 21, 22, 23, 24, 25, 26, 27, 28, 29] ((some (18, false)), (.r (.fldA 20 (.t 2) 0))) 
  (.take [6, 7, 8, 9, 10, 11, 12, 13, 14, 15, 16, 17, 18, 19, 20, 21, 22, 23, 24, 25, 26, 27, 28, 29] ((some (18, false)), (.r (.fldA 21 (.t 20) 0))) 
  (.take [7, 8, 9, 10, 11, 12, 13, 14, 15, 16, 17, 18, 19, 20, 21, 22, 23, 24, 25, 26, 27, 28, 29] ((some (18, false)), (.r (.ld 22 (.t 21) 1 false))) 
  (.take [8, 9, 10, 11, 12, 13, 14, 15, 16, 17, 18, 19, 20, 21, 22, 23, 24, 25, 26, 27, 28, 29] ((some (18, false)), (.r (.bin 23 .geq 0 (.t 19) (.t 22)))) 
  (.take [9, 10, 11, 12, 13, 14, 15, 16, 17, 18, 19, 20, 21, 22, 23, 24, 25, 26, 27, 28, 29] (none, (.r (.pick 24 (.t 18) (.c (.bool true)) (.t 23)))) 
  (.take [10, 11, 12, 13, 14, 15, 16, 17, 18, 19, 20, 21, 22, 23, 24, 25, 26, 27, 28, 29] (none, (.r (.mov 25 (.t 24)))) 
  (.take [12, 13, 14, 15, 16, 17, 18, 19, 20, 21, 22, 23, 24, 25, 26, 27, 28, 29] ((some (25, false)), (.r (.mov 26 (.t 5)))) 
  (.take [12, 13, 14, 15, 16, 17, 18, 19, 20, 21, 22, 23, 24, 25, 26, 27, 28, 29] ((some (25, false)), (.r (.mov 27 (.t 7)))) 
  (.one 12 ((some (25, false)), (.mget 28 (.t 26) (.t 27))) 
  (.take [14, 15, 16, 17, 18, 19, 20, 21, 22, 23, 24, 25, 26, 27, 28, 29] (none, (.r (.pick 29 (.t 25) (.c (.bool true)) (.t 28)))) 
  (.take [15, 16, 17, 18, 19, 20, 21, 22, 23, 24, 25, 26, 27, 28, 29] (none, (.r (.mov 30 (.t 29)))) 
  (.take [16, 17, 18, 19, 20, 21, 22, 23, 24, 25, 26, 27, 28, 29] ((some (30, false)), (.r (.mov 31 (.t 6)))) 
  (.take [17, 18, 19, 20, 21, 22, 23, 24, 25, 26, 27, 28, 29] ((some (30, false)), (.r (.bin 32 .gtr 0 (.t 31) (.c (.int .i64 0))))) 
  (.take [18, 19, 20, 21, 22, 23, 24, 25, 26, 27, 28, 29] ((some (30, false)), (.r (.mov 33 (.t 32)))) 
  (.take [19, 26, 27, 28, 29] ((some (33, true)), (.r (.fldA 34 (.t 2) 0))) 
  (.take [26, 27, 28, 29] ((some (33, true)), (.r (.ld 35 (.t 34) 2 true))) 
  (.take [23, 24, 26, 27, 28, 29] ((some (33, true)), (.r (.mov 36 (.t 1)))) 
  (.take [22, 23, 24, 26, 27, 28, 29] ((some (33, true)), (.r (.mov 37 (.t 6)))) 
  (.take [23, 24, 26, 27, 28, 29] ((some (33, true)), (.r (.bin 38 .sub 0 (.t 37) (.c (.int .i64 1))))) 
  (.take [24, 26, 27, 28, 29] ((some (33, true)), (.r (.idxA 39 (.t 36) (.t 38) 1))) 
  (.take [26, 27, 28, 29] ((some (33, true)), (.r (.ld 40 (.t 39) 1 false))) 
  (.take [26, 27, 28, 29] ((some (33, true)), (.r (.mov 41 (.t 7)))) 
  (.one 26 ((some (33, true)), (.call 42 (.f 53) [((.t 35), false), ((.t 40), false), ((.t 41), false)])) 
  (.take [28, 29] ((some (33, true)), (.r (.notb 43 (.t 42)))) 
  (.take [29] ((some (30, false)), (.r (.pick 44 (.t 33) (.t 43) (.c (.bool false))))) 
  (.take [] (none, (.r (.pick 45 (.t 30) (.c (.bool true)) (.t 44)))) .done))))))))))))))))))))))))))))))
def c_walk_ways_path_r6 : List GOp := [(none, (.asg 4 (.c (.bool false)) true))]
def c_walk_ways_path_r7 : List GOp := [(none, (.r (.mov 46 (.t 5)))),
  (none, (.r (.mov 47 (.t 7)))),
  (none, (.mput (.t 46) (.t 47) (.c (.bool true))))]
def c_walk_ways_path_r8 : List GOp := [(none, (.r (.bin 48 .add 0 (.t 11) (.c (.int .i64 1))))),
  (none, (.asg 11 (.t 48) true))]
def c_walk_ways_path_r9 : List GOp := [(none, (.r (.mov 49 (.t 1)))),
  (none, (.r (.len 50 (.t 49)))),
  (none, (.r (.bin 51 .gtr 0 (.t 50) (.c (.int .i64 0))))),
  (none, (.asg 4 (.t 51) true))]
def v_walk_ways_path : List Nat := [0, 1, 2, 4, 5, 6, 7, 9, 10, 11, 12, 45]
def c_walk_ways_path : ACode :=
  (.seq
  (.reg [0, 1, 4, 5, 6, 7, 9, 10, 11, 12, 45] c_walk_ways_path_r0 v_walk_ways_path)
  (.seq
  (.reg [0, 1, 2, 4, 5, 6, 7, 9, 10, 11, 12, 45] c_walk_ways_path_r1 v_walk_ways_path)
  (.seq
  (.seq
  (.reg [0, 1, 2, 4, 5, 6, 7, 12, 45] c_walk_ways_path_r2 v_walk_ways_path)
  (.blk 0 (.loop (.seq
  (.reg [0, 1, 2, 4, 5, 6, 7, 9, 10, 11, 45] c_walk_ways_path_r3 v_walk_ways_path)
  (.seq
  (.cond (.t 12) .skip (.exit 0))
  (.seq
  (.blk 1 (.seq
  (.reg [0, 1, 2, 4, 5, 6, 7, 9, 10, 11, 12, 45] c_walk_ways_path_r4 v_walk_ways_path)
  (.seq
  (.seq
  (.draw [0, 1, 2, 4, 5, 6, 7, 9, 10, 11, 12] c_walk_ways_path_r5 v_walk_ways_path)
  (.cond (.t 45) (.seq
  (.reg [0, 1, 2, 4, 5, 6, 7, 9, 10, 11, 12, 45] c_walk_ways_path_r6 v_walk_ways_path)
  .ret) .skip))
  (.reg [0, 1, 2, 4, 5, 6, 7, 9, 10, 11, 12, 45] c_walk_ways_path_r7 v_walk_ways_path))))
  (.reg [0, 1, 2, 4, 5, 6, 7, 9, 10, 11, 12, 45] c_walk_ways_path_r8 v_walk_ways_path)))))))
  (.seq
  (.reg [0, 1, 2, 4, 5, 6, 7, 9, 10, 11, 12, 45] c_walk_ways_path_r9 v_walk_ways_path)
  .ret))))
abbrev n_walk_ways_path : Nat := 46
theorem s_walk_ways_path : stripF Try.prog [4] v_walk_ways_path Try.f46 = some (c_walk_ways_path, [(.tmp 4)]) := by kernel_rfl
theorem go_walk_ways_path {L : List (List Nat)} {args : List AVal} {h : Heap} {Q : AVal → Heap → Prop} (hl : args.length = 2) (H : Wlk Try.prog [4] Try.f46.ntmps v_walk_ways_path L c_walk_ways_path (ends L [(.tmp 4)] Q) (entry v_walk_ways_path args h)) : ACalls Try.prog L n_walk_ways_path args h Q :=
  acalls_of_strip mix Try.func46 s_walk_ways_path (by rw [hl]; exact Nat.le_of_ble_eq_true rfl) H
def c_garlandref02_Index_r0 : List GOp := [(none, (.box 3 (.t 0))),
  (none, (.asg 6 (.c (.int .i64 0)) true))]
def c_garlandref02_Index_r1 : List GOp := [(none, (.r (.ld 9 (.t 3) 2 true))),
  (none, (.call 10 (.f 33) [((.t 9), false)])),
  (none, (.r (.notb 11 (.t 10))))]
def c_garlandref02_Index_r2 : List GOp := [(none, (.asg 6 (.c (.int .i64 (-(0 + 1)))) true))]
def c_garlandref02_Index_r3 : List GOp := [(none, (.r (.mov 12 (.t 1)))),
  (none, (.r (.mov 13 (.t 2)))),
  (none, (.call 14 (.f 50) [((.t 12), false), ((.t 13), false)])),
  (none, (.alloc 7 [(.int .i64 0), (.int .i64 0)])),
  (none, (.st (.t 7) (.t 14) 2))]
def c_garlandref02_Index_r4 : List GOp := [(none, (.asg 8 (.c (.int .i64 0)) true))]
def c_garlandref02_Index_r5 : List GOp := [(none, (.r (.mov 15 (.t 8)))),
  (none, (.r (.fldA 16 (.t 3) 1))),
  (none, (.r (.ld 17 (.t 16) 1 false))),
  (none, (.r (.len 18 (.t 17)))),
  (none, (.r (.bin 19 .lss 0 (.t 15) (.t 18))))]
def c_garlandref02_Index_r6 : Tree := 
  (.take [1, 3, 4, 6] (none, (.r (.fldA 22 (.t 3) 1))) 
  (.take [3, 4, 6] (none, (.r (.ld 23 (.t 22) 1 false))) 
  (.take [3, 4, 6] (none, (.r (.mov 24 (.t 8)))) 
  (.take [4, 6] (none, (.r (.idxA 25 (.t 23) (.t 24) 2))) 
  (.take [6] (none, (.r (.ld 26 (.t 25) 2 true))) 
  (.take [6] (none, (.r (.ld 27 (.t 7) 2 true))) 
  (.take [] (none, (.r (.bin 28 .eql 8 (.t 26) (.t 27)))) .done)))))))
def c_garlandref02_Index_r7 : List GOp := [(none, (.r (.mov 29 (.t 8)))),
  (none, (.asg 6 (.t 29) true))]
def c_garlandref02_Index_r8 : List GOp := [(none, (.r (.mov 20 (.t 8)))),
  (none, (.r (.bin 21 .add 0 (.t 20) (.c (.int .i64 1))))),
  (none, (.asg 8 (.t 21) true))]
def c_garlandref02_Index_r9 : List GOp := [(none, (.asg 6 (.c (.int .i64 (-(0 + 1)))) true))]
def v_garlandref02_Index : List Nat := [0, 1, 2, 3, 6, 7, 8, 11, 19, 28]
def c_garlandref02_Index : ACode :=
  (.seq
  (.reg [0, 1, 2, 6, 7, 8, 11, 19, 28] c_garlandref02_Index_r0 v_garlandref02_Index)
  (.seq
  (.seq
  (.reg [0, 1, 2, 3, 6, 7, 8, 19, 28] c_garlandref02_Index_r1 v_garlandref02_Index)
  (.cond (.t 11) (.seq
  (.reg [0, 1, 2, 3, 6, 7, 8, 11, 19, 28] c_garlandref02_Index_r2 v_garlandref02_Index)
  .ret) .skip))
  (.seq
  (.reg [0, 1, 2, 3, 6, 8, 11, 19, 28] c_garlandref02_Index_r3 v_garlandref02_Index)
  (.seq
  (.seq
  (.reg [0, 1, 2, 3, 6, 7, 8, 11, 19, 28] c_garlandref02_Index_r4 v_garlandref02_Index)
  (.blk 0 (.loop (.seq
  (.seq
  (.reg [0, 1, 2, 3, 6, 7, 8, 11, 28] c_garlandref02_Index_r5 v_garlandref02_Index)
  (.cond (.t 19) .skip (.exit 0)))
  (.seq
  (.blk 1 (.seq
  (.draw [0, 1, 2, 3, 6, 7, 8, 11, 19] c_garlandref02_Index_r6 v_garlandref02_Index)
  (.cond (.t 28) (.seq
  (.reg [0, 1, 2, 3, 6, 7, 8, 11, 19, 28] c_garlandref02_Index_r7 v_garlandref02_Index)
  .ret) .skip)))
  (.reg [0, 1, 2, 3, 6, 7, 8, 11, 19, 28] c_garlandref02_Index_r8 v_garlandref02_Index))))))
  (.seq
  (.reg [0, 1, 2, 3, 6, 7, 8, 11, 19, 28] c_garlandref02_Index_r9 v_garlandref02_Index)
  .ret)))))
abbrev n_garlandref02_Index : Nat := 47
theorem s_garlandref02_Index : stripF Try.prog [6] v_garlandref02_Index Try.f47 = some (c_garlandref02_Index, [(.tmp 6)]) := by kernel_rfl
theorem go_garlandref02_Index {L : List (List Nat)} {args : List AVal} {h : Heap} {Q : AVal → Heap → Prop} (hl : args.length = 3) (H : Wlk Try.prog [6] Try.f47.ntmps v_garlandref02_Index L c_garlandref02_Index (ends L [(.tmp 6)] Q) (entry v_garlandref02_Index args h)) : ACalls Try.prog L n_garlandref02_Index args h Q :=
  acalls_of_strip mix Try.func47 s_garlandref02_Index (by rw [hl]; exact Nat.le_of_ble_eq_true rfl) H
def c_pieces_Without_r0 : List GOp := [(none, (.box 2 (.t 0))),
  (none, (.asg 4 (.c (.slice none 0 0)) true))]
def c_pieces_Without_r1 : List GOp := [(none, (.r (.ld 5 (.t 2) 2 true))),
  (none, (.call 6 (.f 28) [((.t 5), false)])),
  (none, (.r (.notb 7 (.t 6))))]
def c_pieces_Without_r2 : List GOp := [(none, (.asg 4 (.c (.slice none 0 0)) true))]
def c_pieces_Without_r3 : List GOp := [(none, (.r (.fldA 8 (.t 2) 0))),
  (none, (.r (.ld 9 (.t 8) 1 false))),
  (none, (.r (.fldA 10 (.t 2) 1))),
  (none, (.r (.ld 11 (.t 10) 1 false))),
  (none, (.call 12 (.f 55) [((.t 9), false), ((.t 11), false)])),
  (none, (.r (.mov 13 (.t 1)))),
  (none, (.call 14 (.f 54) [((.t 12), false), ((.t 13), false)])),
  (none, (.asg 4 (.t 14) true))]
def v_pieces_Without : List Nat := [0, 1, 2, 4, 7]
def c_pieces_Without : ACode :=
  (.seq
  (.reg [0, 1, 4, 7] c_pieces_Without_r0 v_pieces_Without)
  (.seq
  (.seq
  (.reg [0, 1, 2, 4] c_pieces_Without_r1 v_pieces_Without)
  (.cond (.t 7) (.seq
  (.reg [0, 1, 2, 4, 7] c_pieces_Without_r2 v_pieces_Without)
  .ret) .skip))
  (.seq
  (.reg [0, 1, 2, 4, 7] c_pieces_Without_r3 v_pieces_Without)
  .ret)))
abbrev n_pieces_Without : Nat := 48
theorem s_pieces_Without : stripF Try.prog [4] v_pieces_Without Try.f48 = some (c_pieces_Without, [(.tmp 4)]) := by kernel_rfl
theorem go_pieces_Without {L : List (List Nat)} {args : List AVal} {h : Heap} {Q : AVal → Heap → Prop} (hl : args.length = 2) (H : Wlk Try.prog [4] Try.f48.ntmps v_pieces_Without L c_pieces_Without (ends L [(.tmp 4)] Q) (entry v_pieces_Without args h)) : ACalls Try.prog L n_pieces_Without args h Q :=
  acalls_of_strip mix Try.func48 s_pieces_Without (by rw [hl]; exact Nat.le_of_ble_eq_true rfl) H
def c_garlandref02_put_r0 : List GOp := [(none, (.box 3 (.t 1))),
  (none, (.asg 4 (.c (.slice none 0 0)) true))]
def c_garlandref02_put_r1 : List GOp := [(none, (.r (.mov 6 (.t 0)))),
  (none, (.r (.len 7 (.t 6)))),
  (none, (.asg 5 (.t 7) true))]
def c_garlandref02_put_r2 : Tree := 
  (.take [1, 2, 3, 4, 5, 6, 7, 8, 9, 10] (none, (.r (.mov 8 (.t 5)))) 
  (.take [2, 3, 4, 5, 6, 7, 8, 9, 10] (none, (.r (.bin 9 .gtr 0 (.t 8) (.c (.int .i64 0))))) 
  (.take [3, 4, 5, 6, 7, 8, 9, 10] (none, (.r (.mov 10 (.t 9)))) 
  (.take [9, 10] ((some (10, true)), (.r (.ld 11 (.t 3) 2 true))) 
  (.take [7, 8, 9, 10] ((some (10, true)), (.r (.mov 12 (.t 0)))) 
  (.take [6, 7, 8, 9, 10] ((some (10, true)), (.r (.mov 13 (.t 5)))) 
  (.take [7, 8, 9, 10] ((some (10, true)), (.r (.bin 14 .sub 0 (.t 13) (.c (.int .i64 1))))) 
  (.take [8, 9, 10] ((some (10, true)), (.r (.idxA 15 (.t 12) (.t 14) 2))) 
  (.take [9, 10] ((some (10, true)), (.r (.ld 16 (.t 15) 2 true))) 
  (.one 9 ((some (10, true)), (.call 17 (.f 45) [((.t 11), false), ((.t 16), false)])) 
  (.take [] (none, (.r (.pick 18 (.t 10) (.t 17) (.c (.bool false))))) .done)))))))))))
def c_garlandref02_put_r3 : List GOp := [(none, (.r (.mov 19 (.t 5)))),
  (none, (.r (.bin 20 .sub 0 (.t 19) (.c (.int .i64 1))))),
  (none, (.asg 5 (.t 20) true))]
def c_garlandref02_put_r4 : Tree := 
  (.take [2, 3, 6, 10, 11] (none, (.r (.mov 21 (.t 0)))) 
  (.take [2, 3, 6, 10, 11] (none, (.r (.mov 22 (.t 5)))) 
  (.take [5, 6, 10, 11] (none, (.r (.ld 25 (.t 3) 2 true))) 
  (.take [9, 10, 11] (none, (.r (.mov 28 (.t 0)))) 
  (.take [9, 10, 11] (none, (.r (.mov 29 (.t 5)))) (.three 2 (none, (.slc 23 (.t 21) none (some (.t 22)) 2)) (.three 3 (none, (.app 24 (.c (.slice none 0 0)) (.t 23) 2 16)) (.two 5 (none, (.blds 26 1 2 [((0, 2), ((.t 25), true))] [(.int .i64 0), (.int .i64 0)])) (.two 6 (none, (.app 27 (.t 24) (.t 26) 2 16)) 
  (.one 9 (none, (.slc 30 (.t 28) (some (.t 29)) none 2)) 
  (.one 10 (none, (.app 31 (.t 27) (.t 30) 2 16)) 
  (.one 11 (none, (.asg 4 (.t 31) true)) .done))) 9 (none, (.slc 30 (.t 28) (some (.t 29)) none 2)) 
  (.one 6 (none, (.app 27 (.t 24) (.t 26) 2 16)) 
  (.one 10 (none, (.app 31 (.t 27) (.t 30) 2 16)) 
  (.one 11 (none, (.asg 4 (.t 31) true)) .done)))) 9 (none, (.slc 30 (.t 28) (some (.t 29)) none 2)) 
  (.one 5 (none, (.blds 26 1 2 [((0, 2), ((.t 25), true))] [(.int .i64 0), (.int .i64 0)])) 
  (.one 6 (none, (.app 27 (.t 24) (.t 26) 2 16)) 
  (.one 10 (none, (.app 31 (.t 27) (.t 30) 2 16)) 
  (.one 11 (none, (.asg 4 (.t 31) true)) .done))))) 5 (none, (.blds 26 1 2 [((0, 2), ((.t 25), true))] [(.int .i64 0), (.int .i64 0)])) (.two 3 (none, (.app 24 (.c (.slice none 0 0)) (.t 23) 2 16)) (.two 6 (none, (.app 27 (.t 24) (.t 26) 2 16)) 
  (.one 9 (none, (.slc 30 (.t 28) (some (.t 29)) none 2)) 
  (.one 10 (none, (.app 31 (.t 27) (.t 30) 2 16)) 
  (.one 11 (none, (.asg 4 (.t 31) true)) .done))) 9 (none, (.slc 30 (.t 28) (some (.t 29)) none 2)) 
  (.one 6 (none, (.app 27 (.t 24) (.t 26) 2 16)) 
  (.one 10 (none, (.app 31 (.t 27) (.t 30) 2 16)) 
  (.one 11 (none, (.asg 4 (.t 31) true)) .done)))) 9 (none, (.slc 30 (.t 28) (some (.t 29)) none 2)) 
  (.one 3 (none, (.app 24 (.c (.slice none 0 0)) (.t 23) 2 16)) 
  (.one 6 (none, (.app 27 (.t 24) (.t 26) 2 16)) 
  (.one 10 (none, (.app 31 (.t 27) (.t 30) 2 16)) 
  (.one 11 (none, (.asg 4 (.t 31) true)) .done))))) 9 (none, (.slc 30 (.t 28) (some (.t 29)) none 2)) (.two 3 (none, (.app 24 (.c (.slice none 0 0)) (.t 23) 2 16)) 
  (.one 5 (none, (.blds 26 1 2 [((0, 2), ((.t 25), true))] [(.int .i64 0), (.int .i64 0)])) 
  (.one 6 (none, (.app 27 (.t 24) (.t 26) 2 16)) 
  (.one 10 (none, (.app 31 (.t 27) (.t 30) 2 16)) 
  (.one 11 (none, (.asg 4 (.t 31) true)) .done)))) 5 (none, (.blds 26 1 2 [((0, 2), ((.t 25), true))] [(.int .i64 0), (.int .i64 0)])) 
  (.one 3 (none, (.app 24 (.c (.slice none 0 0)) (.t 23) 2 16)) 
  (.one 6 (none, (.app 27 (.t 24) (.t 26) 2 16)) 
  (.one 10 (none, (.app 31 (.t 27) (.t 30) 2 16)) 
  (.one 11 (none, (.asg 4 (.t 31) true)) .done)))))) 5 (none, (.blds 26 1 2 [((0, 2), ((.t 25), true))] [(.int .i64 0), (.int .i64 0)])) (.two 2 (none, (.slc 23 (.t 21) none (some (.t 22)) 2)) (.two 3 (none, (.app 24 (.c (.slice none 0 0)) (.t 23) 2 16)) (.two 6 (none, (.app 27 (.t 24) (.t 26) 2 16)) 
  (.one 9 (none, (.slc 30 (.t 28) (some (.t 29)) none 2)) 
  (.one 10 (none, (.app 31 (.t 27) (.t 30) 2 16)) 
  (.one 11 (none, (.asg 4 (.t 31) true)) .done))) 9 (none, (.slc 30 (.t 28) (some (.t 29)) none 2)) 
  (.one 6 (none, (.app 27 (.t 24) (.t 26) 2 16)) 
  (.one 10 (none, (.app 31 (.t 27) (.t 30) 2 16)) 
  (.one 11 (none, (.asg 4 (.t 31) true)) .done)))) 9 (none, (.slc 30 (.t 28) (some (.t 29)) none 2)) 
  (.one 3 (none, (.app 24 (.c (.slice none 0 0)) (.t 23) 2 16)) 
  (.one 6 (none, (.app 27 (.t 24) (.t 26) 2 16)) 
  (.one 10 (none, (.app 31 (.t 27) (.t 30) 2 16)) 
  (.one 11 (none, (.asg 4 (.t 31) true)) .done))))) 9 (none, (.slc 30 (.t 28) (some (.t 29)) none 2)) 
  (.one 2 (none, (.slc 23 (.t 21) none (some (.t 22)) 2)) 
  (.one 3 (none, (.app 24 (.c (.slice none 0 0)) (.t 23) 2 16)) 
  (.one 6 (none, (.app 27 (.t 24) (.t 26) 2 16)) 
  (.one 10 (none, (.app 31 (.t 27) (.t 30) 2 16)) 
  (.one 11 (none, (.asg 4 (.t 31) true)) .done)))))) 9 (none, (.slc 30 (.t 28) (some (.t 29)) none 2)) (.two 2 (none, (.slc 23 (.t 21) none (some (.t 22)) 2)) (.two 3 (none, (.app 24 (.c (.slice none 0 0)) (.t 23) 2 16)) 
  (.one 5 (none, (.blds 26 1 2 [((0, 2), ((.t 25), true))] [(.int .i64 0), (.int .i64 0)])) 
  (.one 6 (none, (.app 27 (.t 24) (.t 26) 2 16)) 
  (.one 10 (none, (.app 31 (.t 27) (.t 30) 2 16)) 
  (.one 11 (none, (.asg 4 (.t 31) true)) .done)))) 5 (none, (.blds 26 1 2 [((0, 2), ((.t 25), true))] [(.int .i64 0), (.int .i64 0)])) 
  (.one 3 (none, (.app 24 (.c (.slice none 0 0)) (.t 23) 2 16)) 
  (.one 6 (none, (.app 27 (.t 24) (.t 26) 2 16)) 
  (.one 10 (none, (.app 31 (.t 27) (.t 30) 2 16)) 
  (.one 11 (none, (.asg 4 (.t 31) true)) .done))))) 5 (none, (.blds 26 1 2 [((0, 2), ((.t 25), true))] [(.int .i64 0), (.int .i64 0)])) 
  (.one 2 (none, (.slc 23 (.t 21) none (some (.t 22)) 2)) 
  (.one 3 (none, (.app 24 (.c (.slice none 0 0)) (.t 23) 2 16)) 
  (.one 6 (none, (.app 27 (.t 24) (.t 26) 2 16)) 
  (.one 10 (none, (.app 31 (.t 27) (.t 30) 2 16)) 
  (.one 11 (none, (.asg 4 (.t 31) true)) .done))))))))))))
def v_garlandref02_put : List Nat := [0, 1, 3, 4, 5, 18]
def c_garlandref02_put : ACode :=
  (.seq
  (.reg [0, 1, 4, 5, 18] c_garlandref02_put_r0 v_garlandref02_put)
  (.seq
  (.reg [0, 1, 3, 4, 5, 18] c_garlandref02_put_r1 v_garlandref02_put)
  (.seq
  (.blk 0 (.loop (.seq
  (.seq
  (.draw [0, 1, 3, 4, 5] c_garlandref02_put_r2 v_garlandref02_put)
  (.cond (.t 18) .skip (.exit 0)))
  (.blk 1 (.reg [0, 1, 3, 4, 5, 18] c_garlandref02_put_r3 v_garlandref02_put)))))
  (.seq
  (.draw [0, 1, 3, 4, 5, 18] c_garlandref02_put_r4 v_garlandref02_put)
  .ret))))
abbrev n_garlandref02_put : Nat := 49
theorem s_garlandref02_put : stripF Try.prog [4] v_garlandref02_put Try.f49 = some (c_garlandref02_put, [(.tmp 4)]) := by kernel_rfl
theorem go_garlandref02_put {L : List (List Nat)} {args : List AVal} {h : Heap} {Q : AVal → Heap → Prop} (hl : args.length = 2) (H : Wlk Try.prog [4] Try.f49.ntmps v_garlandref02_put L c_garlandref02_put (ends L [(.tmp 4)] Q) (entry v_garlandref02_put args h)) : ACalls Try.prog L n_garlandref02_put args h Q :=
  acalls_of_strip mix Try.func49 s_garlandref02_put (by rw [hl]; exact Nat.le_of_ble_eq_true rfl) H
def c_garlandref02_turned_r0 : List GOp := [(none, (.alloc 4 [(.int .i64 0), (.int .i64 0)]))]
def c_garlandref02_turned_r1 : List GOp := [(none, (.r (.mov 5 (.t 0)))),
  (none, (.r (.mov 6 (.t 1)))),
  (none, (.r (.bin 7 .gtr 0 (.t 5) (.t 6))))]
def c_garlandref02_turned_r2 : List GOp := [(none, (.r (.mov 8 (.t 1)))),
  (none, (.r (.mov 9 (.t 0)))),
  (none, (.bld 10 [((0, 1), ((.t 8), true)), ((1, 1), ((.t 9), true))] [(.int .i64 0), (.int .i64 0)])),
  (none, (.st (.t 4) (.t 10) 2))]
def c_garlandref02_turned_r3 : List GOp := [(none, (.r (.mov 11 (.t 0)))),
  (none, (.r (.mov 12 (.t 1)))),
  (none, (.bld 13 [((0, 1), ((.t 11), true)), ((1, 1), ((.t 12), true))] [(.int .i64 0), (.int .i64 0)])),
  (none, (.st (.t 4) (.t 13) 2))]
def v_garlandref02_turned : List Nat := [0, 1, 4, 7]
def c_garlandref02_turned : ACode :=
  (.seq
  (.reg [0, 1, 7] c_garlandref02_turned_r0 v_garlandref02_turned)
  (.seq
  (.seq
  (.reg [0, 1, 4] c_garlandref02_turned_r1 v_garlandref02_turned)
  (.cond (.t 7) (.seq
  (.reg [0, 1, 4, 7] c_garlandref02_turned_r2 v_garlandref02_turned)
  .ret) .skip))
  (.seq
  (.reg [0, 1, 4, 7] c_garlandref02_turned_r3 v_garlandref02_turned)
  .ret)))
abbrev n_garlandref02_turned : Nat := 50
theorem s_garlandref02_turned : stripF Try.prog [] v_garlandref02_turned Try.f50 = some (c_garlandref02_turned, [(.cell 4 2 true)]) := by kernel_rfl
theorem go_garlandref02_turned {L : List (List Nat)} {args : List AVal} {h : Heap} {Q : AVal → Heap → Prop} (hl : args.length = 2) (H : Wlk Try.prog [] Try.f50.ntmps v_garlandref02_turned L c_garlandref02_turned (ends L [(.cell 4 2 true)] Q) (entry v_garlandref02_turned args h)) : ACalls Try.prog L n_garlandref02_turned args h Q :=
  acalls_of_strip mix Try.func50 s_garlandref02_turned (by rw [hl]; exact Nat.le_of_ble_eq_true rfl) H
def c_cmp_Or_int__r0 : List GOp := [(none, (.asg 2 (.c (.int .i64 0)) true))]
def c_cmp_Or_int__r1 : List GOp := [(none, (.asg 3 (.c (.int .i64 0)) true))]
def c_cmp_Or_int__r2 : List GOp := [(none, (.r (.mov 6 (.t 0)))),
  (none, (.r (.len 7 (.t 6)))),
  (none, (.r (.mov 8 (.c (.int .i64 0)))))]
def c_cmp_Or_int__r3 : List GOp := [(none, (.r (.bin 9 .lss 0 (.t 8) (.t 7))))]
def c_cmp_Or_int__r4 : List GOp := [(none, (.r (.idxA 10 (.t 6) (.t 8) 1))),
  (none, (.r (.ld 11 (.t 10) 1 false))),
  (none, (.asg 5 (.t 11) true))]
def c_cmp_Or_int__r5 : List GOp := [(none, (.r (.mov 12 (.t 5)))),
  (none, (.r (.mov 13 (.t 3)))),
  (none, (.r (.bin 14 .neq 0 (.t 12) (.t 13))))]
def c_cmp_Or_int__r6 : List GOp := [(none, (.r (.mov 15 (.t 5)))),
  (none, (.asg 2 (.t 15) true))]
def c_cmp_Or_int__r7 : List GOp := [(none, (.r (.bin 16 .add 0 (.t 8) (.c (.int .i64 1))))),
  (none, (.asg 8 (.t 16) true))]
def c_cmp_Or_int__r8 : List GOp := [(none, (.r (.mov 17 (.t 3)))),
  (none, (.asg 2 (.t 17) true))]
def v_cmp_Or_int_ : List Nat := [0, 2, 3, 5, 6, 7, 8, 9, 14]
def c_cmp_Or_int_ : ACode :=
  (.seq
  (.reg [0, 2, 3, 5, 6, 7, 8, 9, 14] c_cmp_Or_int__r0 v_cmp_Or_int_)
  (.seq
  (.reg [0, 2, 3, 5, 6, 7, 8, 9, 14] c_cmp_Or_int__r1 v_cmp_Or_int_)
  (.seq
  (.seq
  (.reg [0, 2, 3, 5, 9, 14] c_cmp_Or_int__r2 v_cmp_Or_int_)
  (.blk 0 (.loop (.seq
  (.reg [0, 2, 3, 5, 6, 7, 8, 14] c_cmp_Or_int__r3 v_cmp_Or_int_)
  (.seq
  (.cond (.t 9) .skip (.exit 0))
  (.seq
  (.blk 1 (.seq
  (.reg [0, 2, 3, 5, 6, 7, 8, 9, 14] c_cmp_Or_int__r4 v_cmp_Or_int_)
  (.seq
  (.reg [0, 2, 3, 5, 6, 7, 8, 9] c_cmp_Or_int__r5 v_cmp_Or_int_)
  (.cond (.t 14) (.seq
  (.reg [0, 2, 3, 5, 6, 7, 8, 9, 14] c_cmp_Or_int__r6 v_cmp_Or_int_)
  .ret) .skip))))
  (.reg [0, 2, 3, 5, 6, 7, 8, 9, 14] c_cmp_Or_int__r7 v_cmp_Or_int_)))))))
  (.seq
  (.reg [0, 2, 3, 5, 6, 7, 8, 9, 14] c_cmp_Or_int__r8 v_cmp_Or_int_)
  .ret))))
abbrev n_cmp_Or_int_ : Nat := 51
theorem s_cmp_Or_int_ : stripF Try.prog [2] v_cmp_Or_int_ Try.f51 = some (c_cmp_Or_int_, [(.tmp 2)]) := by kernel_rfl
theorem go_cmp_Or_int_ {L : List (List Nat)} {args : List AVal} {h : Heap} {Q : AVal → Heap → Prop} (hl : args.length = 1) (H : Wlk Try.prog [2] Try.f51.ntmps v_cmp_Or_int_ L c_cmp_Or_int_ (ends L [(.tmp 2)] Q) (entry v_cmp_Or_int_ args h)) : ACalls Try.prog L n_cmp_Or_int_ args h Q :=
  acalls_of_strip mix Try.func51 s_cmp_Or_int_ (by rw [hl]; exact Nat.le_of_ble_eq_true rfl) H
def c_cmp_Compare_int__r0 : List GOp := [(none, (.asg 4 (.c (.int .i64 0)) true))]
def c_cmp_Compare_int__r1 : List GOp := [(none, (.r (.mov 7 (.t 0)))),
  (none, (.call 8 (.f 56) [((.t 7), false)])),
  (none, (.asg 5 (.t 8) true))]
def c_cmp_Compare_int__r2 : List GOp := [(none, (.r (.mov 9 (.t 1)))),
  (none, (.call 10 (.f 56) [((.t 9), false)])),
  (none, (.asg 6 (.t 10) true))]
def c_cmp_Compare_int__r3 : List GOp := [(none, (.r (.mov 11 (.t 5))))]
def c_cmp_Compare_int__r4 : List GOp := [(none, (.r (.mov 12 (.t 6))))]
def c_cmp_Compare_int__r5 : List GOp := [(none, (.asg 4 (.c (.int .i64 0)) true))]
def c_cmp_Compare_int__r6 : List GOp := [(none, (.asg 4 (.c (.int .i64 (-(0 + 1)))) true))]
def c_cmp_Compare_int__r7 : List GOp := [(none, (.r (.mov 13 (.t 6))))]
def c_cmp_Compare_int__r8 : List GOp := [(none, (.asg 4 (.c (.int .i64 1)) true))]
def c_cmp_Compare_int__r9 : List GOp := [(none, (.r (.mov 14 (.t 0)))),
  (none, (.r (.mov 15 (.t 1)))),
  (none, (.r (.bin 16 .lss 0 (.t 14) (.t 15))))]
def c_cmp_Compare_int__r10 : List GOp := [(none, (.asg 4 (.c (.int .i64 (-(0 + 1)))) true))]
def c_cmp_Compare_int__r11 : List GOp := [(none, (.r (.mov 17 (.t 0)))),
  (none, (.r (.mov 18 (.t 1)))),
  (none, (.r (.bin 19 .gtr 0 (.t 17) (.t 18))))]
def c_cmp_Compare_int__r12 : List GOp := [(none, (.asg 4 (.c (.int .i64 1)) true))]
def c_cmp_Compare_int__r13 : List GOp := [(none, (.asg 4 (.c (.int .i64 0)) true))]
def v_cmp_Compare_int_ : List Nat := [0, 1, 4, 5, 6, 11, 12, 13, 16, 19]
def c_cmp_Compare_int_ : ACode :=
  (.seq
  (.reg [0, 1, 4, 5, 6, 11, 12, 13, 16, 19] c_cmp_Compare_int__r0 v_cmp_Compare_int_)
  (.seq
  (.reg [0, 1, 4, 5, 6, 11, 12, 13, 16, 19] c_cmp_Compare_int__r1 v_cmp_Compare_int_)
  (.seq
  (.reg [0, 1, 4, 5, 6, 11, 12, 13, 16, 19] c_cmp_Compare_int__r2 v_cmp_Compare_int_)
  (.seq
  (.seq
  (.reg [0, 1, 4, 5, 6, 12, 13, 16, 19] c_cmp_Compare_int__r3 v_cmp_Compare_int_)
  (.cond (.t 11) (.seq
  (.seq
  (.reg [0, 1, 4, 5, 6, 11, 13, 16, 19] c_cmp_Compare_int__r4 v_cmp_Compare_int_)
  (.cond (.t 12) (.seq
  (.reg [0, 1, 4, 5, 6, 11, 12, 13, 16, 19] c_cmp_Compare_int__r5 v_cmp_Compare_int_)
  .ret) .skip))
  (.seq
  (.reg [0, 1, 4, 5, 6, 11, 12, 13, 16, 19] c_cmp_Compare_int__r6 v_cmp_Compare_int_)
  .ret)) .skip))
  (.seq
  (.seq
  (.reg [0, 1, 4, 5, 6, 11, 12, 16, 19] c_cmp_Compare_int__r7 v_cmp_Compare_int_)
  (.cond (.t 13) (.seq
  (.reg [0, 1, 4, 5, 6, 11, 12, 13, 16, 19] c_cmp_Compare_int__r8 v_cmp_Compare_int_)
  .ret) .skip))
  (.seq
  (.seq
  (.reg [0, 1, 4, 5, 6, 11, 12, 13, 19] c_cmp_Compare_int__r9 v_cmp_Compare_int_)
  (.cond (.t 16) (.seq
  (.reg [0, 1, 4, 5, 6, 11, 12, 13, 16, 19] c_cmp_Compare_int__r10 v_cmp_Compare_int_)
  .ret) .skip))
  (.seq
  (.seq
  (.reg [0, 1, 4, 5, 6, 11, 12, 13, 16] c_cmp_Compare_int__r11 v_cmp_Compare_int_)
  (.cond (.t 19) (.seq
  (.reg [0, 1, 4, 5, 6, 11, 12, 13, 16, 19] c_cmp_Compare_int__r12 v_cmp_Compare_int_)
  .ret) .skip))
  (.seq
  (.reg [0, 1, 4, 5, 6, 11, 12, 13, 16, 19] c_cmp_Compare_int__r13 v_cmp_Compare_int_)
  .ret))))))))
abbrev n_cmp_Compare_int_ : Nat := 52
theorem s_cmp_Compare_int_ : stripF Try.prog [4] v_cmp_Compare_int_ Try.f52 = some (c_cmp_Compare_int_, [(.tmp 4)]) := by kernel_rfl
theorem go_cmp_Compare_int_ {L : List (List Nat)} {args : List AVal} {h : Heap} {Q : AVal → Heap → Prop} (hl : args.length = 2) (H : Wlk Try.prog [4] Try.f52.ntmps v_cmp_Compare_int_ L c_cmp_Compare_int_ (ends L [(.tmp 4)] Q) (entry v_cmp_Compare_int_ args h)) : ACalls Try.prog L n_cmp_Compare_int_ args h Q :=
  acalls_of_strip mix Try.func52 s_cmp_Compare_int_ (by rw [hl]; exact Nat.le_of_ble_eq_true rfl) H
def c_graph_Has_r0 : List GOp := [(none, (.box 3 (.t 0))),
  (none, (.asg 6 (.c (.bool false)) true))]
def c_graph_Has_r1 : List GOp := [(none, (.r (.ld 7 (.t 3) 2 true))),
  (none, (.r (.mov 8 (.t 1)))),
  (none, (.r (.mov 9 (.t 2)))),
  (none, (.call 10 (.f 57) [((.t 7), false), ((.t 8), false), ((.t 9), false)])),
  (none, (.r (.bin 11 .geq 0 (.t 10) (.c (.int .i64 0))))),
  (none, (.asg 6 (.t 11) true))]
def v_graph_Has : List Nat := [0, 1, 2, 3, 6]
def c_graph_Has : ACode :=
  (.seq
  (.reg [0, 1, 2, 6] c_graph_Has_r0 v_graph_Has)
  (.seq
  (.reg [0, 1, 2, 3, 6] c_graph_Has_r1 v_graph_Has)
  .ret))
abbrev n_graph_Has : Nat := 53
theorem s_graph_Has : stripF Try.prog [6] v_graph_Has Try.f53 = some (c_graph_Has, [(.tmp 6)]) := by kernel_rfl
theorem go_graph_Has {L : List (List Nat)} {args : List AVal} {h : Heap} {Q : AVal → Heap → Prop} (hl : args.length = 3) (H : Wlk Try.prog [6] Try.f53.ntmps v_graph_Has L c_graph_Has (ends L [(.tmp 6)] Q) (entry v_graph_Has args h)) : ACalls Try.prog L n_graph_Has args h Q :=
  acalls_of_strip mix Try.func53 s_graph_Has (by rw [hl]; exact Nat.le_of_ble_eq_true rfl) H
def c_pieces_Of_r0 : List GOp := [(none, (.asg 4 (.c (.slice none 0 0)) true))]
def c_pieces_Of_r1 : List GOp := [(none, (.r (.mov 10 (.t 0)))),
  (none, (.r (.mov 11 (.t 0)))),
  (none, (.r (.len 12 (.t 11)))),
  (none, (.mk 13 (.t 12) (.t 12) 1 1 [(.bool false)])),
  (none, (.bld 14 [((0, 1), ((.t 10), true)), ((1, 1), ((.t 13), true))] [(.slice none 0 0), (.slice none 0 0), (.slice none 0 0), (.slice none 0 0)])),
  (none, (.box 15 (.t 14))),
  (none, (.asg 5 (.t 15) true))]
def c_pieces_Of_r2 : List GOp := [(none, (.r (.mov 16 (.t 1)))),
  (none, (.r (.len 17 (.t 16)))),
  (none, (.r (.mov 18 (.c (.int .i64 0)))))]
def c_pieces_Of_r3 : List GOp := [(none, (.r (.bin 19 .lss 0 (.t 18) (.t 17))))]
def c_pieces_Of_r4 : List GOp := [(none, (.r (.idxA 20 (.t 16) (.t 18) 1))),
  (none, (.r (.ld 21 (.t 20) 1 false))),
  (none, (.asg 7 (.t 21) true))]
def c_pieces_Of_r5 : List GOp := [(none, (.r (.mov 22 (.t 7)))),
  (none, (.r (.bin 23 .geq 0 (.t 22) (.c (.int .i64 0))))),
  (none, (.r (.mov 24 (.t 23)))), ((some (24, true)), (.r (.mov 25 (.t 7)))), ((some (24, true)), (.r (.mov 26 (.t 0)))), ((some (24, true)), (.r (.len 27 (.t 26)))), ((some (24, true)), (.r (.bin 28 .lss 0 (.t 25) (.t 27)))),
  (none, (.r (.pick 29 (.t 24) (.t 28) (.c (.bool false)))))]
def c_pieces_Of_r6 : List GOp := [(none, (.r (.mov 30 (.t 5)))),
  (none, (.r (.nilck 31 (.t 30)))),
  (none, (.r (.fldA 32 (.t 31) 1))),
  (none, (.r (.ld 33 (.t 32) 1 false))),
  (none, (.r (.mov 34 (.t 7)))),
  (none, (.r (.idxA 35 (.t 33) (.t 34) 1))),
  (none, (.st (.t 35) (.c (.bool true)) 1))]
def c_pieces_Of_r7 : List GOp := [(none, (.r (.bin 36 .add 0 (.t 18) (.c (.int .i64 1))))),
  (none, (.asg 18 (.t 36) true))]
def c_pieces_Of_r8 : List GOp := [(none, (.asg 8 (.c (.slice none 0 0)) true))]
def c_pieces_Of_r9 : List GOp := [(none, (.r (.mov 37 (.t 0)))),
  (none, (.r (.len 38 (.t 37)))),
  (none, (.r (.mov 39 (.c (.int .i64 0)))))]
def c_pieces_Of_r10 : List GOp := [(none, (.r (.bin 40 .lss 0 (.t 39) (.t 38))))]
def c_pieces_Of_r11 : List GOp := [(none, (.r (.mov 41 (.t 39)))),
  (none, (.asg 9 (.t 41) true))]
def c_pieces_Of_r12 : List GOp := [(none, (.r (.mov 42 (.t 5)))),
  (none, (.r (.nilck 43 (.t 42)))),
  (none, (.r (.fldA 44 (.t 43) 1))),
  (none, (.r (.ld 45 (.t 44) 1 false))),
  (none, (.r (.mov 46 (.t 9)))),
  (none, (.r (.idxA 47 (.t 45) (.t 46) 1))),
  (none, (.r (.ld 48 (.t 47) 1 false))),
  (none, (.r (.notb 49 (.t 48))))]
def c_pieces_Of_r13 : List GOp := [(none, (.r (.mov 50 (.t 8)))),
  (none, (.r (.mov 51 (.t 5)))),
  (none, (.r (.mov 52 (.t 9)))),
  (none, (.call 53 (.f 58) [((.t 51), false), ((.t 52), false)])),
  (none, (.blds 54 1 1 [((0, 1), ((.t 53), true))] [(.slice none 0 0)])),
  (none, (.app 55 (.t 50) (.t 54) 1 24)),
  (none, (.asg 8 (.t 55) true))]
def c_pieces_Of_r14 : List GOp := [(none, (.r (.bin 56 .add 0 (.t 39) (.c (.int .i64 1))))),
  (none, (.asg 39 (.t 56) true))]
def c_pieces_Of_r15 : List GOp := [(none, (.r (.mov 57 (.t 8)))),
  (none, (.asg 4 (.t 57) true))]
def v_pieces_Of : List Nat := [0, 1, 4, 5, 7, 8, 9, 16, 17, 18, 19, 29, 38, 39, 40, 49]
def c_pieces_Of : ACode :=
  (.seq
  (.reg [0, 1, 4, 5, 7, 8, 9, 16, 17, 18, 19, 29, 38, 39, 40, 49] c_pieces_Of_r0 v_pieces_Of)
  (.seq
  (.reg [0, 1, 4, 5, 7, 8, 9, 16, 17, 18, 19, 29, 38, 39, 40, 49] c_pieces_Of_r1 v_pieces_Of)
  (.seq
  (.seq
  (.reg [0, 1, 4, 5, 7, 8, 9, 19, 29, 38, 39, 40, 49] c_pieces_Of_r2 v_pieces_Of)
  (.blk 0 (.loop (.seq
  (.reg [0, 1, 4, 5, 7, 8, 9, 16, 17, 18, 29, 38, 39, 40, 49] c_pieces_Of_r3 v_pieces_Of)
  (.seq
  (.cond (.t 19) .skip (.exit 0))
  (.seq
  (.blk 1 (.seq
  (.reg [0, 1, 4, 5, 7, 8, 9, 16, 17, 18, 19, 29, 38, 39, 40, 49] c_pieces_Of_r4 v_pieces_Of)
  (.seq
  (.reg [0, 1, 4, 5, 7, 8, 9, 16, 17, 18, 19, 38, 39, 40, 49] c_pieces_Of_r5 v_pieces_Of)
  (.cond (.t 29) (.reg [0, 1, 4, 5, 7, 8, 9, 16, 17, 18, 19, 29, 38, 39, 40, 49] c_pieces_Of_r6 v_pieces_Of) .skip))))
  (.reg [0, 1, 4, 5, 7, 8, 9, 16, 17, 18, 19, 29, 38, 39, 40, 49] c_pieces_Of_r7 v_pieces_Of)))))))
  (.seq
  (.reg [0, 1, 4, 5, 7, 8, 9, 16, 17, 18, 19, 29, 38, 39, 40, 49] c_pieces_Of_r8 v_pieces_Of)
  (.seq
  (.seq
  (.reg [0, 1, 4, 5, 7, 8, 9, 16, 17, 18, 19, 29, 40, 49] c_pieces_Of_r9 v_pieces_Of)
  (.blk 2 (.loop (.seq
  (.reg [0, 1, 4, 5, 7, 8, 9, 16, 17, 18, 19, 29, 38, 39, 49] c_pieces_Of_r10 v_pieces_Of)
  (.seq
  (.cond (.t 40) .skip (.exit 2))
  (.seq
  (.blk 3 (.seq
  (.reg [0, 1, 4, 5, 7, 8, 9, 16, 17, 18, 19, 29, 38, 39, 40, 49] c_pieces_Of_r11 v_pieces_Of)
  (.seq
  (.reg [0, 1, 4, 5, 7, 8, 9, 16, 17, 18, 19, 29, 38, 39, 40] c_pieces_Of_r12 v_pieces_Of)
  (.cond (.t 49) (.reg [0, 1, 4, 5, 7, 8, 9, 16, 17, 18, 19, 29, 38, 39, 40, 49] c_pieces_Of_r13 v_pieces_Of) .skip))))
  (.reg [0, 1, 4, 5, 7, 8, 9, 16, 17, 18, 19, 29, 38, 39, 40, 49] c_pieces_Of_r14 v_pieces_Of)))))))
  (.seq
  (.reg [0, 1, 4, 5, 7, 8, 9, 16, 17, 18, 19, 29, 38, 39, 40, 49] c_pieces_Of_r15 v_pieces_Of)
  .ret))))))
abbrev n_pieces_Of : Nat := 54
theorem s_pieces_Of : stripF Try.prog [4] v_pieces_Of Try.f54 = some (c_pieces_Of, [(.tmp 4)]) := by kernel_rfl
theorem go_pieces_Of {L : List (List Nat)} {args : List AVal} {h : Heap} {Q : AVal → Heap → Prop} (hl : args.length = 2) (H : Wlk Try.prog [4] Try.f54.ntmps v_pieces_Of L c_pieces_Of (ends L [(.tmp 4)] Q) (entry v_pieces_Of args h)) : ACalls Try.prog L n_pieces_Of args h Q :=
  acalls_of_strip mix Try.func54 s_pieces_Of (by rw [hl]; exact Nat.le_of_ble_eq_true rfl) H
def c_graph_Lists_r0 : List GOp := [(none, (.asg 4 (.c (.slice none 0 0)) true))]
def c_graph_Lists_r1 : List GOp := [(none, (.r (.mov 10 (.t 0)))),
  (none, (.mk 11 (.t 10) (.t 10) 1 24 [(.slice none 0 0)])),
  (none, (.asg 5 (.t 11) true))]
def c_graph_Lists_r2 : List GOp := [(none, (.r (.mov 12 (.t 1)))),
  (none, (.r (.len 13 (.t 12)))),
  (none, (.r (.mov 14 (.c (.int .i64 0)))))]
def c_graph_Lists_r3 : List GOp := [(none, (.r (.bin 15 .lss 0 (.t 14) (.t 13))))]
def c_graph_Lists_r4 : List GOp := [(none, (.r (.idxA 16 (.t 12) (.t 14) 2))),
  (none, (.r (.ld 17 (.t 16) 2 true))),
  (none, (.alloc 7 [(.int .i64 0), (.int .i64 0)])),
  (none, (.st (.t 7) (.t 17) 2))]
def c_graph_Lists_r5 : Tree := 
  (.take [12, 13] (none, (.r (.mov 18 (.t 5)))) 
  (.take [2, 12, 13] (none, (.r (.fldA 19 (.t 7) 1))) 
  (.take [12, 13] (none, (.r (.ld 20 (.t 19) 1 false))) 
  (.take [6, 7, 11, 12, 13] (none, (.r (.mov 21 (.t 5)))) 
  (.take [5, 6, 7, 11, 12, 13] (none, (.r (.fldA 22 (.t 7) 1))) 
  (.take [6, 7, 11, 12, 13] (none, (.r (.ld 23 (.t 22) 1 false))) 
  (.take [7, 11, 12, 13] (none, (.r (.idxA 24 (.t 21) (.t 23) 1))) 
  (.take [11, 12, 13] (none, (.r (.ld 25 (.t 24) 1 false))) 
  (.take [9, 10, 11, 12, 13] (none, (.r (.fldA 26 (.t 7) 0))) 
  (.take [10, 11, 12, 13] (none, (.r (.ld 27 (.t 26) 1 false))) 
  (.one 10 (none, (.blds 28 1 1 [((0, 1), ((.t 27), true))] [(.int .i64 0)])) 
  (.one 11 (none, (.app 29 (.t 25) (.t 28) 1 8)) 
  (.take [13] (none, (.r (.idxA 30 (.t 18) (.t 20) 1))) 
  (.one 13 (none, (.st (.t 30) (.t 29) 1)) .done))))))))))))))
def c_graph_Lists_r6 : List GOp := [(none, (.r (.bin 31 .add 0 (.t 14) (.c (.int .i64 1))))),
  (none, (.asg 14 (.t 31) true))]
def c_graph_Lists_r7 : List GOp := [(none, (.r (.mov 32 (.t 1)))),
  (none, (.r (.len 33 (.t 32)))),
  (none, (.r (.mov 34 (.c (.int .i64 0)))))]
def c_graph_Lists_r8 : List GOp := [(none, (.r (.bin 35 .lss 0 (.t 34) (.t 33))))]
def c_graph_Lists_r9 : List GOp := [(none, (.r (.idxA 36 (.t 32) (.t 34) 2))),
  (none, (.r (.ld 37 (.t 36) 2 true))),
  (none, (.alloc 9 [(.int .i64 0), (.int .i64 0)])),
  (none, (.st (.t 9) (.t 37) 2))]
def c_graph_Lists_r10 : Tree := 
  (.take [12, 13] (none, (.r (.mov 38 (.t 5)))) 
  (.take [2, 12, 13] (none, (.r (.fldA 39 (.t 9) 0))) 
  (.take [12, 13] (none, (.r (.ld 40 (.t 39) 1 false))) 
  (.take [6, 7, 11, 12, 13] (none, (.r (.mov 41 (.t 5)))) 
  (.take [5, 6, 7, 11, 12, 13] (none, (.r (.fldA 42 (.t 9) 0))) 
  (.take [6, 7, 11, 12, 13] (none, (.r (.ld 43 (.t 42) 1 false))) 
  (.take [7, 11, 12, 13] (none, (.r (.idxA 44 (.t 41) (.t 43) 1))) 
  (.take [11, 12, 13] (none, (.r (.ld 45 (.t 44) 1 false))) 
  (.take [9, 10, 11, 12, 13] (none, (.r (.fldA 46 (.t 9) 1))) 
  (.take [10, 11, 12, 13] (none, (.r (.ld 47 (.t 46) 1 false))) 
  (.one 10 (none, (.blds 48 1 1 [((0, 1), ((.t 47), true))] [(.int .i64 0)])) 
  (.one 11 (none, (.app 49 (.t 45) (.t 48) 1 8)) 
  (.take [13] (none, (.r (.idxA 50 (.t 38) (.t 40) 1))) 
  (.one 13 (none, (.st (.t 50) (.t 49) 1)) .done))))))))))))))
def c_graph_Lists_r11 : List GOp := [(none, (.r (.bin 51 .add 0 (.t 34) (.c (.int .i64 1))))),
  (none, (.asg 34 (.t 51) true))]
def c_graph_Lists_r12 : List GOp := [(none, (.r (.mov 52 (.t 5)))),
  (none, (.asg 4 (.t 52) true))]
def v_graph_Lists : List Nat := [0, 1, 4, 5, 7, 9, 12, 13, 14, 15, 32, 33, 34, 35]
def c_graph_Lists : ACode :=
  (.seq
  (.reg [0, 1, 4, 5, 7, 9, 12, 13, 14, 15, 32, 33, 34, 35] c_graph_Lists_r0 v_graph_Lists)
  (.seq
  (.reg [0, 1, 4, 5, 7, 9, 12, 13, 14, 15, 32, 33, 34, 35] c_graph_Lists_r1 v_graph_Lists)
  (.seq
  (.seq
  (.reg [0, 1, 4, 5, 7, 9, 15, 32, 33, 34, 35] c_graph_Lists_r2 v_graph_Lists)
  (.blk 0 (.loop (.seq
  (.reg [0, 1, 4, 5, 7, 9, 12, 13, 14, 32, 33, 34, 35] c_graph_Lists_r3 v_graph_Lists)
  (.seq
  (.cond (.t 15) .skip (.exit 0))
  (.seq
  (.blk 1 (.seq
  (.reg [0, 1, 4, 5, 9, 12, 13, 14, 15, 32, 33, 34, 35] c_graph_Lists_r4 v_graph_Lists)
  (.draw [0, 1, 4, 5, 7, 9, 12, 13, 14, 15, 32, 33, 34, 35] c_graph_Lists_r5 v_graph_Lists)))
  (.reg [0, 1, 4, 5, 7, 9, 12, 13, 14, 15, 32, 33, 34, 35] c_graph_Lists_r6 v_graph_Lists)))))))
  (.seq
  (.seq
  (.reg [0, 1, 4, 5, 7, 9, 12, 13, 14, 15, 35] c_graph_Lists_r7 v_graph_Lists)
  (.blk 2 (.loop (.seq
  (.reg [0, 1, 4, 5, 7, 9, 12, 13, 14, 15, 32, 33, 34] c_graph_Lists_r8 v_graph_Lists)
  (.seq
  (.cond (.t 35) .skip (.exit 2))
  (.seq
  (.blk 3 (.seq
  (.reg [0, 1, 4, 5, 7, 12, 13, 14, 15, 32, 33, 34, 35] c_graph_Lists_r9 v_graph_Lists)
  (.draw [0, 1, 4, 5, 7, 9, 12, 13, 14, 15, 32, 33, 34, 35] c_graph_Lists_r10 v_graph_Lists)))
  (.reg [0, 1, 4, 5, 7, 9, 12, 13, 14, 15, 32, 33, 34, 35] c_graph_Lists_r11 v_graph_Lists)))))))
  (.seq
  (.reg [0, 1, 4, 5, 7, 9, 12, 13, 14, 15, 32, 33, 34, 35] c_graph_Lists_r12 v_graph_Lists)
  .ret)))))
abbrev n_graph_Lists : Nat := 55
theorem s_graph_Lists : stripF Try.prog [4] v_graph_Lists Try.f55 = some (c_graph_Lists, [(.tmp 4)]) := by kernel_rfl
theorem go_graph_Lists {L : List (List Nat)} {args : List AVal} {h : Heap} {Q : AVal → Heap → Prop} (hl : args.length = 2) (H : Wlk Try.prog [4] Try.f55.ntmps v_graph_Lists L c_graph_Lists (ends L [(.tmp 4)] Q) (entry v_graph_Lists args h)) : ACalls Try.prog L n_graph_Lists args h Q :=
  acalls_of_strip mix Try.func55 s_graph_Lists (by rw [hl]; exact Nat.le_of_ble_eq_true rfl) H
def c_cmp_isNaN_int__r0 : List GOp := [(none, (.asg 2 (.c (.bool false)) true))]
def c_cmp_isNaN_int__r1 : List GOp := [(none, (.r (.mov 3 (.t 0)))),
  (none, (.r (.mov 4 (.t 0)))),
  (none, (.r (.bin 5 .neq 0 (.t 3) (.t 4)))),
  (none, (.asg 2 (.t 5) true))]
def v_cmp_isNaN_int_ : List Nat := [0, 2]
def c_cmp_isNaN_int_ : ACode :=
  (.seq
  (.reg [0, 2] c_cmp_isNaN_int__r0 v_cmp_isNaN_int_)
  (.seq
  (.reg [0, 2] c_cmp_isNaN_int__r1 v_cmp_isNaN_int_)
  .ret))
abbrev n_cmp_isNaN_int_ : Nat := 56
theorem s_cmp_isNaN_int_ : stripF Try.prog [2] v_cmp_isNaN_int_ Try.f56 = some (c_cmp_isNaN_int_, [(.tmp 2)]) := by kernel_rfl
theorem go_cmp_isNaN_int_ {L : List (List Nat)} {args : List AVal} {h : Heap} {Q : AVal → Heap → Prop} (hl : args.length = 1) (H : Wlk Try.prog [2] Try.f56.ntmps v_cmp_isNaN_int_ L c_cmp_isNaN_int_ (ends L [(.tmp 2)] Q) (entry v_cmp_isNaN_int_ args h)) : ACalls Try.prog L n_cmp_isNaN_int_ args h Q :=
  acalls_of_strip mix Try.func56 s_cmp_isNaN_int_ (by rw [hl]; exact Nat.le_of_ble_eq_true rfl) H
def c_graph_Index_r0 : List GOp := [(none, (.box 3 (.t 0))),
  (none, (.asg 6 (.c (.int .i64 0)) true))]
def c_graph_Index_r1 : List GOp := [(none, (.r (.ld 9 (.t 3) 2 true))),
  (none, (.call 10 (.f 28) [((.t 9), false)])),
  (none, (.r (.notb 11 (.t 10))))]
def c_graph_Index_r2 : List GOp := [(none, (.asg 6 (.c (.int .i64 (-(0 + 1)))) true))]
def c_graph_Index_r3 : List GOp := [(none, (.r (.ld 13 (.t 3) 2 true))),
  (none, (.r (.mov 14 (.t 1)))),
  (none, (.r (.mov 15 (.t 2)))),
  (none, (.call 16 (.f 59) [((.t 13), false), ((.t 14), false), ((.t 15), false)])),
  (none, (.r (.mov 12 (.t 16)))),
  (none, (.r (.ext 17 (.t 12) 0))),
  (none, (.r (.ext 18 (.t 12) 1))),
  (none, (.asg 7 (.t 17) true)),
  (none, (.asg 8 (.t 18) true))]
def c_graph_Index_r4 : List GOp := [(none, (.r (.mov 19 (.t 8)))),
  (none, (.r (.notb 20 (.t 19))))]
def c_graph_Index_r5 : List GOp := [(none, (.asg 6 (.c (.int .i64 (-(0 + 1)))) true))]
def c_graph_Index_r6 : List GOp := [(none, (.r (.mov 21 (.t 7)))),
  (none, (.asg 6 (.t 21) true))]
def v_graph_Index : List Nat := [0, 1, 2, 3, 6, 7, 8, 11, 20]
def c_graph_Index : ACode :=
  (.seq
  (.reg [0, 1, 2, 6, 7, 8, 11, 20] c_graph_Index_r0 v_graph_Index)
  (.seq
  (.seq
  (.reg [0, 1, 2, 3, 6, 7, 8, 20] c_graph_Index_r1 v_graph_Index)
  (.cond (.t 11) (.seq
  (.reg [0, 1, 2, 3, 6, 7, 8, 11, 20] c_graph_Index_r2 v_graph_Index)
  .ret) .skip))
  (.seq
  (.reg [0, 1, 2, 3, 6, 7, 8, 11, 20] c_graph_Index_r3 v_graph_Index)
  (.seq
  (.seq
  (.reg [0, 1, 2, 3, 6, 7, 8, 11] c_graph_Index_r4 v_graph_Index)
  (.cond (.t 20) (.seq
  (.reg [0, 1, 2, 3, 6, 7, 8, 11, 20] c_graph_Index_r5 v_graph_Index)
  .ret) .skip))
  (.seq
  (.reg [0, 1, 2, 3, 6, 7, 8, 11, 20] c_graph_Index_r6 v_graph_Index)
  .ret)))))
abbrev n_graph_Index : Nat := 57
theorem s_graph_Index : stripF Try.prog [6] v_graph_Index Try.f57 = some (c_graph_Index, [(.tmp 6)]) := by kernel_rfl
theorem go_graph_Index {L : List (List Nat)} {args : List AVal} {h : Heap} {Q : AVal → Heap → Prop} (hl : args.length = 3) (H : Wlk Try.prog [6] Try.f57.ntmps v_graph_Index L c_graph_Index (ends L [(.tmp 6)] Q) (entry v_graph_Index args h)) : ACalls Try.prog L n_graph_Index args h Q :=
  acalls_of_strip mix Try.func57 s_graph_Index (by rw [hl]; exact Nat.le_of_ble_eq_true rfl) H
def c_pieces_walk_piece_r0 : List GOp := [(none, (.asg 4 (.c (.slice none 0 0)) true))]
def c_pieces_walk_piece_r1 : List GOp := [(none, (.r (.mov 9 (.t 0)))),
  (none, (.mkfn 10 (.func 60) [((.t 9), false)] [])),
  (none, (.asg 5 (.t 10) true))]
def c_pieces_walk_piece_r2 : List GOp := [(none, (.r (.mov 11 (.t 0)))),
  (none, (.r (.nilck 12 (.t 11)))),
  (none, (.r (.fldA 13 (.t 12) 2))),
  (none, (.st (.t 13) (.c (.slice none 0 0)) 1))]
def c_pieces_walk_piece_r3 : List GOp := [(none, (.r (.mov 14 (.t 5)))),
  (none, (.r (.mov 15 (.t 1)))),
  (none, (.call 16 (.t 14) [((.t 15), false)]))]
def c_pieces_walk_piece_r4 : List GOp := [(none, (.r (.mov 17 (.t 0)))),
  (none, (.r (.nilck 18 (.t 17)))),
  (none, (.r (.fldA 19 (.t 18) 3))),
  (none, (.r (.ld 20 (.t 19) 1 false))),
  (none, (.r (.len 21 (.t 20)))),
  (none, (.r (.bin 22 .gtr 0 (.t 21) (.c (.int .i64 0)))))]
def c_pieces_walk_piece_r5 : Tree := 
  (.take [1, 2, 3, 10, 11, 12] (none, (.r (.mov 23 (.t 0)))) 
  (.take [2, 3, 10, 11, 12] (none, (.r (.nilck 24 (.t 23)))) 
  (.take [3, 10, 11, 12] (none, (.r (.fldA 25 (.t 24) 3))) 
  (.take [10, 11, 12] (none, (.r (.ld 26 (.t 25) 1 false))) 
  (.take [5, 6, 7, 8, 9, 10, 11, 12] (none, (.r (.mov 27 (.t 0)))) 
  (.take [6, 7, 8, 9, 10, 11, 12] (none, (.r (.nilck 28 (.t 27)))) 
  (.take [7, 8, 9, 10, 11, 12] (none, (.r (.fldA 29 (.t 28) 3))) 
  (.take [8, 9, 10, 11, 12] (none, (.r (.ld 30 (.t 29) 1 false))) 
  (.take [9, 10, 11, 12] (none, (.r (.len 31 (.t 30)))) 
  (.take [10, 11, 12] (none, (.r (.bin 32 .sub 0 (.t 31) (.c (.int .i64 1))))) 
  (.take [11, 12] (none, (.r (.idxA 33 (.t 26) (.t 32) 1))) 
  (.take [12] (none, (.r (.ld 34 (.t 33) 1 false))) 
  (.one 12 (none, (.asg 6 (.t 34) true)) .done)))))))))))))
def c_pieces_walk_piece_r6 : Tree := 
  (.take [12, 13, 14] (none, (.r (.mov 35 (.t 0)))) 
  (.take [2, 3, 4, 11, 12, 13, 14] (none, (.r (.mov 36 (.t 0)))) 
  (.take [3, 4, 11, 12, 13, 14] (none, (.r (.nilck 37 (.t 36)))) 
  (.take [4, 11, 12, 13, 14] (none, (.r (.fldA 38 (.t 37) 3))) 
  (.take [11, 12, 13, 14] (none, (.r (.ld 39 (.t 38) 1 false))) 
  (.take [6, 7, 8, 9, 10, 11, 12, 13, 14] (none, (.r (.mov 40 (.t 0)))) 
  (.take [7, 8, 9, 10, 11, 12, 13, 14] (none, (.r (.nilck 41 (.t 40)))) 
  (.take [8, 9, 10, 11, 12, 13, 14] (none, (.r (.fldA 42 (.t 41) 3))) 
  (.take [9, 10, 11, 12, 13, 14] (none, (.r (.ld 43 (.t 42) 1 false))) 
  (.take [10, 11, 12, 13, 14] (none, (.r (.len 44 (.t 43)))) 
  (.take [11, 12, 13, 14] (none, (.r (.bin 45 .sub 0 (.t 44) (.c (.int .i64 1))))) 
  (.one 11 (none, (.slc 46 (.t 39) none (some (.t 45)) 1)) 
  (.take [13, 14] (none, (.r (.nilck 47 (.t 35)))) 
  (.take [14] (none, (.r (.fldA 48 (.t 47) 3))) 
  (.one 14 (none, (.st (.t 48) (.t 46) 1)) .done)))))))))))))))
def c_pieces_walk_piece_r7 : List GOp := [(none, (.r (.mov 49 (.t 0)))),
  (none, (.r (.nilck 50 (.t 49)))),
  (none, (.r (.fldA 51 (.t 50) 0))),
  (none, (.r (.ld 52 (.t 51) 1 false))),
  (none, (.r (.mov 53 (.t 6)))),
  (none, (.r (.idxA 54 (.t 52) (.t 53) 1))),
  (none, (.r (.ld 55 (.t 54) 1 false))),
  (none, (.r (.len 56 (.t 55)))),
  (none, (.r (.mov 57 (.c (.int .i64 0)))))]
def c_pieces_walk_piece_r8 : List GOp := [(none, (.r (.bin 58 .lss 0 (.t 57) (.t 56))))]
def c_pieces_walk_piece_r9 : List GOp := [(none, (.r (.idxA 59 (.t 55) (.t 57) 1))),
  (none, (.r (.ld 60 (.t 59) 1 false))),
  (none, (.asg 8 (.t 60) true))]
def c_pieces_walk_piece_r10 : List GOp := [(none, (.r (.mov 61 (.t 5)))),
  (none, (.r (.mov 62 (.t 8)))),
  (none, (.call 63 (.t 61) [((.t 62), false)]))]
def c_pieces_walk_piece_r11 : List GOp := [(none, (.r (.bin 64 .add 0 (.t 57) (.c (.int .i64 1))))),
  (none, (.asg 57 (.t 64) true))]
def c_pieces_walk_piece_r12 : List GOp := [(none, (.r (.mov 65 (.t 0)))),
  (none, (.r (.nilck 66 (.t 65)))),
  (none, (.r (.fldA 67 (.t 66) 2))),
  (none, (.r (.ld 68 (.t 67) 1 false))),
  (none, (.call 69 (.f 61) [((.t 68), false)]))]
def c_pieces_walk_piece_r13 : List GOp := [(none, (.r (.mov 70 (.t 0)))),
  (none, (.r (.nilck 71 (.t 70)))),
  (none, (.r (.fldA 72 (.t 71) 2))),
  (none, (.r (.ld 73 (.t 72) 1 false))),
  (none, (.asg 4 (.t 73) true))]
def v_pieces_walk_piece : List Nat := [0, 1, 4, 5, 6, 8, 22, 55, 56, 57, 58]
def c_pieces_walk_piece : ACode :=
  (.seq
  (.reg [0, 1, 4, 5, 6, 8, 22, 55, 56, 57, 58] c_pieces_walk_piece_r0 v_pieces_walk_piece)
  (.seq
  (.reg [0, 1, 4, 5, 6, 8, 22, 55, 56, 57, 58] c_pieces_walk_piece_r1 v_pieces_walk_piece)
  (.seq
  (.reg [0, 1, 4, 5, 6, 8, 22, 55, 56, 57, 58] c_pieces_walk_piece_r2 v_pieces_walk_piece)
  (.seq
  (.reg [0, 1, 4, 5, 6, 8, 22, 55, 56, 57, 58] c_pieces_walk_piece_r3 v_pieces_walk_piece)
  (.seq
  (.blk 0 (.loop (.seq
  (.seq
  (.reg [0, 1, 4, 5, 6, 8, 55, 56, 57, 58] c_pieces_walk_piece_r4 v_pieces_walk_piece)
  (.cond (.t 22) .skip (.exit 0)))
  (.blk 1 (.seq
  (.draw [0, 1, 4, 5, 6, 8, 22, 55, 56, 57, 58] c_pieces_walk_piece_r5 v_pieces_walk_piece)
  (.seq
  (.draw [0, 1, 4, 5, 6, 8, 22, 55, 56, 57, 58] c_pieces_walk_piece_r6 v_pieces_walk_piece)
  (.seq
  (.reg [0, 1, 4, 5, 6, 8, 22, 58] c_pieces_walk_piece_r7 v_pieces_walk_piece)
  (.blk 2 (.loop (.seq
  (.reg [0, 1, 4, 5, 6, 8, 22, 55, 56, 57] c_pieces_walk_piece_r8 v_pieces_walk_piece)
  (.seq
  (.cond (.t 58) .skip (.exit 2))
  (.seq
  (.blk 3 (.seq
  (.reg [0, 1, 4, 5, 6, 8, 22, 55, 56, 57, 58] c_pieces_walk_piece_r9 v_pieces_walk_piece)
  (.reg [0, 1, 4, 5, 6, 8, 22, 55, 56, 57, 58] c_pieces_walk_piece_r10 v_pieces_walk_piece)))
  (.reg [0, 1, 4, 5, 6, 8, 22, 55, 56, 57, 58] c_pieces_walk_piece_r11 v_pieces_walk_piece)))))))))))))
  (.seq
  (.reg [0, 1, 4, 5, 6, 8, 22, 55, 56, 57, 58] c_pieces_walk_piece_r12 v_pieces_walk_piece)
  (.seq
  (.reg [0, 1, 4, 5, 6, 8, 22, 55, 56, 57, 58] c_pieces_walk_piece_r13 v_pieces_walk_piece)
  .ret)))))))
abbrev n_pieces_walk_piece : Nat := 58
theorem s_pieces_walk_piece : stripF Try.prog [4] v_pieces_walk_piece Try.f58 = some (c_pieces_walk_piece, [(.tmp 4)]) := by kernel_rfl
theorem go_pieces_walk_piece {L : List (List Nat)} {args : List AVal} {h : Heap} {Q : AVal → Heap → Prop} (hl : args.length = 2) (H : Wlk Try.prog [4] Try.f58.ntmps v_pieces_walk_piece L c_pieces_walk_piece (ends L [(.tmp 4)] Q) (entry v_pieces_walk_piece args h)) : ACalls Try.prog L n_pieces_walk_piece args h Q :=
  acalls_of_strip mix Try.func58 s_pieces_walk_piece (by rw [hl]; exact Nat.le_of_ble_eq_true rfl) H
def c_graph_place_r0 : List GOp := [(none, (.box 3 (.t 0))),
  (none, (.asg 6 (.c (.int .i64 0)) true)),
  (none, (.asg 7 (.c (.bool false)) true))]
def c_graph_place_r1 : Tree := 
  (.take [1, 7, 8, 9, 10, 11] (none, (.r (.fldA 8 (.t 3) 1))) 
  (.take [7, 8, 9, 10, 11] (none, (.r (.ld 9 (.t 8) 1 false))) 
  (.take [4, 7, 8, 9, 10, 11] (none, (.r (.mov 10 (.t 1)))) 
  (.take [4, 7, 8, 9, 10, 11] (none, (.r (.mov 11 (.t 2)))) (.two 4 (none, (.call 12 (.f 63) [((.t 10), false), ((.t 11), false)])) 
  (.one 5 (none, (.bld 13 [] [])) 
  (.one 6 (none, (.mkfn 14 (.func 44) [((.t 13), false)] [])) 
  (.one 7 (none, (.call 15 (.f 62) [((.t 9), false), ((.t 12), false), ((.t 14), false)])) 
  (.take [10, 11] (none, (.r (.ext 16 (.t 15) 0))) 
  (.take [10, 11] (none, (.r (.ext 17 (.t 15) 1))) 
  (.one 10 (none, (.asg 6 (.t 16) true)) 
  (.one 11 (none, (.asg 7 (.t 17) true)) .done))))))) 5 (none, (.bld 13 [] [])) (.two 4 (none, (.call 12 (.f 63) [((.t 10), false), ((.t 11), false)])) 
  (.one 6 (none, (.mkfn 14 (.func 44) [((.t 13), false)] [])) 
  (.one 7 (none, (.call 15 (.f 62) [((.t 9), false), ((.t 12), false), ((.t 14), false)])) 
  (.take [10, 11] (none, (.r (.ext 16 (.t 15) 0))) 
  (.take [10, 11] (none, (.r (.ext 17 (.t 15) 1))) 
  (.one 10 (none, (.asg 6 (.t 16) true)) 
  (.one 11 (none, (.asg 7 (.t 17) true)) .done)))))) 6 (none, (.mkfn 14 (.func 44) [((.t 13), false)] [])) 
  (.one 4 (none, (.call 12 (.f 63) [((.t 10), false), ((.t 11), false)])) 
  (.one 7 (none, (.call 15 (.f 62) [((.t 9), false), ((.t 12), false), ((.t 14), false)])) 
  (.take [10, 11] (none, (.r (.ext 16 (.t 15) 0))) 
  (.take [10, 11] (none, (.r (.ext 17 (.t 15) 1))) 
  (.one 10 (none, (.asg 6 (.t 16) true)) 
  (.one 11 (none, (.asg 7 (.t 17) true)) .done))))))))))))
def v_graph_place : List Nat := [0, 1, 2, 3, 6, 7]
def c_graph_place : ACode :=
  (.seq
  (.reg [0, 1, 2, 6, 7] c_graph_place_r0 v_graph_place)
  (.seq
  (.draw [0, 1, 2, 3, 6, 7] c_graph_place_r1 v_graph_place)
  .ret))
abbrev n_graph_place : Nat := 59
theorem s_graph_place : stripF Try.prog [6, 7] v_graph_place Try.f59 = some (c_graph_place, [(.tmp 6), (.tmp 7)]) := by kernel_rfl
theorem go_graph_place {L : List (List Nat)} {args : List AVal} {h : Heap} {Q : AVal → Heap → Prop} (hl : args.length = 3) (H : Wlk Try.prog [6, 7] Try.f59.ntmps v_graph_place L c_graph_place (ends L [(.tmp 6), (.tmp 7)] Q) (entry v_graph_place args h)) : ACalls Try.prog L n_graph_place args h Q :=
  acalls_of_strip mix Try.func59 s_graph_place (by rw [hl]; exact Nat.le_of_ble_eq_true rfl) H
def c_pieces_walk_come_r0 : List GOp := [(none, (.r (.mov 4 (.t 0)))),
  (none, (.r (.nilck 5 (.t 4)))),
  (none, (.r (.fldA 6 (.t 5) 1))),
  (none, (.r (.ld 7 (.t 6) 1 false))),
  (none, (.r (.mov 8 (.t 1)))),
  (none, (.r (.idxA 9 (.t 7) (.t 8) 1))),
  (none, (.r (.ld 10 (.t 9) 1 false))),
  (none, (.r (.notb 11 (.t 10))))]
def c_pieces_walk_come_r1 : List GOp := [(none, (.r (.mov 12 (.t 0)))),
  (none, (.r (.nilck 13 (.t 12)))),
  (none, (.r (.fldA 14 (.t 13) 1))),
  (none, (.r (.ld 15 (.t 14) 1 false))),
  (none, (.r (.mov 16 (.t 1)))),
  (none, (.r (.idxA 17 (.t 15) (.t 16) 1))),
  (none, (.st (.t 17) (.c (.bool true)) 1))]
def c_pieces_walk_come_r2 : List GOp := [(none, (.r (.mov 18 (.t 0)))),
  (none, (.r (.mov 19 (.t 0)))),
  (none, (.r (.nilck 20 (.t 19)))),
  (none, (.r (.fldA 21 (.t 20) 2))),
  (none, (.r (.ld 22 (.t 21) 1 false))),
  (none, (.r (.mov 23 (.t 1)))),
  (none, (.blds 24 1 1 [((0, 1), ((.t 23), true))] [(.int .i64 0)])),
  (none, (.app 25 (.t 22) (.t 24) 1 8)),
  (none, (.r (.nilck 26 (.t 18)))),
  (none, (.r (.fldA 27 (.t 26) 2))),
  (none, (.st (.t 27) (.t 25) 1))]
def c_pieces_walk_come_r3 : List GOp := [(none, (.r (.mov 28 (.t 0)))),
  (none, (.r (.mov 29 (.t 0)))),
  (none, (.r (.nilck 30 (.t 29)))),
  (none, (.r (.fldA 31 (.t 30) 3))),
  (none, (.r (.ld 32 (.t 31) 1 false))),
  (none, (.r (.mov 33 (.t 1)))),
  (none, (.blds 34 1 1 [((0, 1), ((.t 33), true))] [(.int .i64 0)])),
  (none, (.app 35 (.t 32) (.t 34) 1 8)),
  (none, (.r (.nilck 36 (.t 28)))),
  (none, (.r (.fldA 37 (.t 36) 3))),
  (none, (.st (.t 37) (.t 35) 1))]
def v_pieces_walk_come : List Nat := [0, 1, 11]
def c_pieces_walk_come : ACode :=
  (.seq
  (.reg [0, 1] c_pieces_walk_come_r0 v_pieces_walk_come)
  (.cond (.t 11) (.seq
  (.reg [0, 1, 11] c_pieces_walk_come_r1 v_pieces_walk_come)
  (.seq
  (.reg [0, 1, 11] c_pieces_walk_come_r2 v_pieces_walk_come)
  (.reg [0, 1, 11] c_pieces_walk_come_r3 v_pieces_walk_come))) .skip))
abbrev n_pieces_walk_come : Nat := 60
theorem s_pieces_walk_come : stripF Try.prog [] v_pieces_walk_come Try.f60 = some (c_pieces_walk_come, []) := by kernel_rfl
theorem go_pieces_walk_come {L : List (List Nat)} {args : List AVal} {h : Heap} {Q : AVal → Heap → Prop} (hl : args.length = 2) (H : Wlk Try.prog [] Try.f60.ntmps v_pieces_walk_come L c_pieces_walk_come (ends L [] Q) (entry v_pieces_walk_come args h)) : ACalls Try.prog L n_pieces_walk_come args h Q :=
  acalls_of_strip mix Try.func60 s_pieces_walk_come (by rw [hl]; exact Nat.le_of_ble_eq_true rfl) H
abbrev n_slices_Sort___int_int_ : Nat := 61
def c_slices_BinarySearchFunc___api_Edge_api_Edge_api_Edge__r0 : List GOp := [(none, (.box 4 (.t 1))),
  (none, (.asg 6 (.c (.int .i64 0)) true)),
  (none, (.asg 7 (.c (.bool false)) true))]
def c_slices_BinarySearchFunc___api_Edge_api_Edge_api_Edge__r1 : List GOp := [(none, (.r (.mov 12 (.t 0)))),
  (none, (.r (.len 13 (.t 12)))),
  (none, (.asg 8 (.t 13) true))]
def c_slices_BinarySearchFunc___api_Edge_api_Edge_api_Edge__r2 : List GOp := [(none, (.r (.mov 14 (.t 8)))),
  (none, (.asg 9 (.c (.int .i64 0)) true)),
  (none, (.asg 10 (.t 14) true))]
def c_slices_BinarySearchFunc___api_Edge_api_Edge_api_Edge__r3 : List GOp := [(none, (.r (.mov 15 (.t 9)))),
  (none, (.r (.mov 16 (.t 10)))),
  (none, (.r (.bin 17 .lss 0 (.t 15) (.t 16))))]
def c_slices_BinarySearchFunc___api_Edge_api_Edge_api_Edge__r4 : List GOp := [(none, (.r (.mov 18 (.t 9)))),
  (none, (.r (.mov 19 (.t 10)))),
  (none, (.r (.bin 20 .add 0 (.t 18) (.t 19)))),
  (none, (.r (.conv 21 .u64 (.t 20)))),
  (none, (.r (.bin 22 .shr 0 (.t 21) (.c (.int .u64 1))))),
  (none, (.r (.conv 23 .i64 (.t 22)))),
  (none, (.asg 11 (.t 23) true))]
def c_slices_BinarySearchFunc___api_Edge_api_Edge_api_Edge__r5 : Tree := 
  (.take [6, 7] (none, (.r (.mov 24 (.t 2)))) 
  (.take [3, 4, 6, 7] (none, (.r (.mov 25 (.t 0)))) 
  (.take [3, 4, 6, 7] (none, (.r (.mov 26 (.t 11)))) 
  (.take [4, 6, 7] (none, (.r (.idxA 27 (.t 25) (.t 26) 2))) 
  (.take [6, 7] (none, (.r (.ld 28 (.t 27) 2 true))) 
  (.take [6, 7] (none, (.r (.ld 29 (.t 4) 2 true))) 
  (.one 6 (none, (.call 30 (.t 24) [((.t 28), false), ((.t 29), false)])) 
  (.take [] (none, (.r (.bin 31 .lss 0 (.t 30) (.c (.int .i64 0))))) .done))))))))
def c_slices_BinarySearchFunc___api_Edge_api_Edge_api_Edge__r6 : List GOp := [(none, (.r (.mov 32 (.t 11)))),
  (none, (.r (.bin 33 .add 0 (.t 32) (.c (.int .i64 1))))),
  (none, (.asg 9 (.t 33) true))]
def c_slices_BinarySearchFunc___api_Edge_api_Edge_api_Edge__r7 : List GOp := [(none, (.r (.mov 34 (.t 11)))),
  (none, (.asg 10 (.t 34) true))]
def c_slices_BinarySearchFunc___api_Edge_api_Edge_api_Edge__r8 : Tree := 
  (.take [14, 15] (none, (.r (.mov 35 (.t 9)))) 
  (.take [3, 4, 5, 6, 7, 8, 9, 10, 11, 12, 13, 14, 15] (none, (.r (.mov 36 (.t 9)))) 
  (.take [3, 4, 5, 6, 7, 8, 9, 10, 11, 12, 13, 14, 15] (none, (.r (.mov 37 (.t 8)))) 
  (.take [4, 5, 6, 7, 8, 9, 10, 11, 12, 13, 14, 15] (none, (.r (.bin 38 .lss 0 (.t 36) (.t 37)))) 
  (.take [5, 6, 7, 8, 9, 10, 11, 12, 13, 14, 15] (none, (.r (.mov 39 (.t 38)))) 
  (.take [11, 12, 13, 14, 15] ((some (39, true)), (.r (.mov 40 (.t 2)))) 
  (.take [8, 9, 11, 12, 13, 14, 15] ((some (39, true)), (.r (.mov 41 (.t 0)))) 
  (.take [8, 9, 11, 12, 13, 14, 15] ((some (39, true)), (.r (.mov 42 (.t 9)))) 
  (.take [9, 11, 12, 13, 14, 15] ((some (39, true)), (.r (.idxA 43 (.t 41) (.t 42) 2))) 
  (.take [11, 12, 13, 14, 15] ((some (39, true)), (.r (.ld 44 (.t 43) 2 true))) 
  (.take [11, 12, 13, 14, 15] ((some (39, true)), (.r (.ld 45 (.t 4) 2 true))) 
  (.one 11 ((some (39, true)), (.call 46 (.t 40) [((.t 44), false), ((.t 45), false)])) 
  (.take [13, 15] ((some (39, true)), (.r (.bin 47 .eql 0 (.t 46) (.c (.int .i64 0))))) 
  (.take [15] (none, (.r (.pick 48 (.t 39) (.t 47) (.c (.bool false))))) 
  (.one 14 (none, (.asg 6 (.t 35) true)) 
  (.one 15 (none, (.asg 7 (.t 48) true)) .done))))))))))))))))
def v_slices_BinarySearchFunc___api_Edge_api_Edge_api_Edge_ : List Nat := [0, 1, 2, 4, 6, 7, 8, 9, 10, 11, 17, 31]
def c_slices_BinarySearchFunc___api_Edge_api_Edge_api_Edge_ : ACode :=
  (.seq
  (.reg [0, 1, 2, 6, 7, 8, 9, 10, 11, 17, 31] c_slices_BinarySearchFunc___api_Edge_api_Edge_api_Edge__r0 v_slices_BinarySearchFunc___api_Edge_api_Edge_api_Edge_)
  (.seq
  (.reg [0, 1, 2, 4, 6, 7, 8, 9, 10, 11, 17, 31] c_slices_BinarySearchFunc___api_Edge_api_Edge_api_Edge__r1 v_slices_BinarySearchFunc___api_Edge_api_Edge_api_Edge_)
  (.seq
  (.reg [0, 1, 2, 4, 6, 7, 8, 9, 10, 11, 17, 31] c_slices_BinarySearchFunc___api_Edge_api_Edge_api_Edge__r2 v_slices_BinarySearchFunc___api_Edge_api_Edge_api_Edge_)
  (.seq
  (.blk 0 (.loop (.seq
  (.seq
  (.reg [0, 1, 2, 4, 6, 7, 8, 9, 10, 11, 31] c_slices_BinarySearchFunc___api_Edge_api_Edge_api_Edge__r3 v_slices_BinarySearchFunc___api_Edge_api_Edge_api_Edge_)
  (.cond (.t 17) .skip (.exit 0)))
  (.blk 1 (.seq
  (.reg [0, 1, 2, 4, 6, 7, 8, 9, 10, 11, 17, 31] c_slices_BinarySearchFunc___api_Edge_api_Edge_api_Edge__r4 v_slices_BinarySearchFunc___api_Edge_api_Edge_api_Edge_)
  (.seq
  (.draw [0, 1, 2, 4, 6, 7, 8, 9, 10, 11, 17] c_slices_BinarySearchFunc___api_Edge_api_Edge_api_Edge__r5 v_slices_BinarySearchFunc___api_Edge_api_Edge_api_Edge_)
  (.cond (.t 31) (.reg [0, 1, 2, 4, 6, 7, 8, 9, 10, 11, 17, 31] c_slices_BinarySearchFunc___api_Edge_api_Edge_api_Edge__r6 v_slices_BinarySearchFunc___api_Edge_api_Edge_api_Edge_) (.reg [0, 1, 2, 4, 6, 7, 8, 9, 10, 11, 17, 31] c_slices_BinarySearchFunc___api_Edge_api_Edge_api_Edge__r7 v_slices_BinarySearchFunc___api_Edge_api_Edge_api_Edge_))))))))
  (.seq
  (.draw [0, 1, 2, 4, 6, 7, 8, 9, 10, 11, 17, 31] c_slices_BinarySearchFunc___api_Edge_api_Edge_api_Edge__r8 v_slices_BinarySearchFunc___api_Edge_api_Edge_api_Edge_)
  .ret)))))
abbrev n_slices_BinarySearchFunc___api_Edge_api_Edge_api_Edge_ : Nat := 62
theorem s_slices_BinarySearchFunc___api_Edge_api_Edge_api_Edge_ : stripF Try.prog [6, 7] v_slices_BinarySearchFunc___api_Edge_api_Edge_api_Edge_ Try.f62 = some (c_slices_BinarySearchFunc___api_Edge_api_Edge_api_Edge_, [(.tmp 6), (.tmp 7)]) := by kernel_rfl
theorem go_slices_BinarySearchFunc___api_Edge_api_Edge_api_Edge_ {L : List (List Nat)} {args : List AVal} {h : Heap} {Q : AVal → Heap → Prop} (hl : args.length = 3) (H : Wlk Try.prog [6, 7] Try.f62.ntmps v_slices_BinarySearchFunc___api_Edge_api_Edge_api_Edge_ L c_slices_BinarySearchFunc___api_Edge_api_Edge_api_Edge_ (ends L [(.tmp 6), (.tmp 7)] Q) (entry v_slices_BinarySearchFunc___api_Edge_api_Edge_api_Edge_ args h)) : ACalls Try.prog L n_slices_BinarySearchFunc___api_Edge_api_Edge_api_Edge_ args h Q :=
  acalls_of_strip mix Try.func62 s_slices_BinarySearchFunc___api_Edge_api_Edge_api_Edge_ (by rw [hl]; exact Nat.le_of_ble_eq_true rfl) H
def c_graph_edge_r0 : List GOp := [(none, (.alloc 4 [(.int .i64 0), (.int .i64 0)]))]
def c_graph_edge_r1 : List GOp := [(none, (.r (.mov 5 (.t 0)))),
  (none, (.r (.mov 6 (.t 1)))),
  (none, (.r (.mm 7 false (.t 5) (.t 6)))),
  (none, (.r (.mov 8 (.t 0)))),
  (none, (.r (.mov 9 (.t 1)))),
  (none, (.r (.mm 10 true (.t 8) (.t 9)))),
  (none, (.bld 11 [((0, 1), ((.t 7), true)), ((1, 1), ((.t 10), true))] [(.int .i64 0), (.int .i64 0)])),
  (none, (.st (.t 4) (.t 11) 2))]
def v_graph_edge : List Nat := [0, 1, 4]
def c_graph_edge : ACode :=
  (.seq
  (.reg [0, 1] c_graph_edge_r0 v_graph_edge)
  (.seq
  (.reg [0, 1, 4] c_graph_edge_r1 v_graph_edge)
  .ret))
abbrev n_graph_edge : Nat := 63
theorem s_graph_edge : stripF Try.prog [] v_graph_edge Try.f63 = some (c_graph_edge, [(.cell 4 2 true)]) := by kernel_rfl
theorem go_graph_edge {L : List (List Nat)} {args : List AVal} {h : Heap} {Q : AVal → Heap → Prop} (hl : args.length = 2) (H : Wlk Try.prog [] Try.f63.ntmps v_graph_edge L c_graph_edge (ends L [(.cell 4 2 true)] Q) (entry v_graph_edge args h)) : ACalls Try.prog L n_graph_edge args h Q :=
  acalls_of_strip mix Try.func63 s_graph_edge (by rw [hl]; exact Nat.le_of_ble_eq_true rfl) H
end Go.Proofs.Ytoefhbfgmceikaa

namespace Go.Ga.Gl
open Go Go.Ga
abbrev Es := List (Nat × Nat)
def lexlt (a b : Nat × Nat) : Prop := a.1 < b.1 ∨ a.1 = b.1 ∧ a.2 < b.2
instance (a b : Nat × Nat) : Decidable (lexlt a b) := inferInstanceAs (Decidable (a.1 < b.1 ∨ a.1 = b.1 ∧ a.2 < b.2))
structure GR (n : Nat) (es : Es) : Prop where
  hn : n ≤ 4096
  hm : es.length ≤ 65536
  ok : ∀ e ∈ es, e.1 < e.2 ∧ e.2 < n
  up : es.Pairwise lexlt
def castE (l : Es) : List (Int × Int) := l.map fun e => ((e.1 : Int), (e.2 : Int))
theorem castE_len (l : Es) : (castE l).length = l.length := by simp [castE]
theorem castE_get {l : Es} {k : Nat} {a b : Nat} (h : l[k]? = some (a, b)) : (castE l)[k]? = some ((a : Int), (b : Int)) := by simp [castE, h]
theorem castE_drop (l : Es) (k : Nat) : (castE l).drop k = castE (l.drop k) := by simp [castE]
theorem castE_append (l m : Es) : castE (l ++ m) = castE l ++ castE m := by simp [castE]
def okAt (n : Int) (es : List (Int × Int)) (i : Nat) : Bool :=
  let e := es.getD i (0, 0)
  let p := es.getD (i - 1) (0, 0)
  decide (0 ≤ e.1) && decide (e.1 < e.2) && decide (e.2 < n) && (decide (i = 0) || (decide (p.1 < e.1) || decide (p.1 = e.1) && decide (p.2 < e.2)))
def rightB (n : Int) (es : List (Int × Int)) : Bool :=
  decide (0 ≤ n) && decide (n ≤ 4096) && decide (es.length ≤ 65536) && (List.range es.length).all (okAt n es)
theorem rightB_false {n : Int} {es : List (Int × Int)} {i : Nat} (hi : i < es.length) (h : okAt n es i = false) : rightB n es = false := by
  have : (List.range es.length).all (okAt n es) = false := by
    rw [Bool.eq_false_iff]
    intro h1
    rw [List.all_eq_true] at h1
    have := h1 i (List.mem_range.2 hi)
    rw [h] at this; cases this
  simp [rightB, this]
theorem rightB_true {n : Int} {es : List (Int × Int)} (h0 : 0 ≤ n) (h1 : n ≤ 4096) (h2 : es.length ≤ 65536) (h : ∀ i, i < es.length → okAt n es i = true) : rightB n es = true := by
  simp only [rightB, Bool.and_eq_true, decide_eq_true_eq, List.all_eq_true, List.mem_range]
  exact ⟨⟨⟨h0, h1⟩, h2⟩, h⟩
theorem pairwise_of_next {α : Type} {R : α → α → Prop} (ht : ∀ a b c, R a b → R b c → R a c) : ∀ {l : List α}, (∀ i a b, l[i]? = some a → l[i + 1]? = some b → R a b) → l.Pairwise R
  | [], _ => .nil
  | [a], _ => by simp
  | a :: b :: l, h => by
    have ih : (b :: l).Pairwise R := pairwise_of_next ht fun i x y hx hy => h (i + 1) x y hx hy
    have hab : R a b := h 0 a b rfl rfl
    refine List.Pairwise.cons ?_ ih
    intro c hc
    cases hc with
    | head => exact hab
    | tail _ hc => exact ht a b c hab (List.rel_of_pairwise_cons ih hc)
theorem lexlt_trans (a b c : Nat × Nat) (h1 : lexlt a b) (h2 : lexlt b c) : lexlt a c := by
  unfold lexlt at *; omega
theorem lexlt_irrefl (a : Nat × Nat) : ¬ lexlt a a := by unfold lexlt; omega
theorem getD_castE (es : Es) (i : Nat) : (castE es).getD i (0, 0) = (((es.getD i (0, 0)).1 : Int), ((es.getD i (0, 0)).2 : Int)) := by
  simp only [castE, List.getD_eq_getElem?_getD, List.getElem?_map]
  cases es[i]? <;> rfl
theorem okAt_cast (n : Nat) (es : Es) (i : Nat) : okAt (n : Int) (castE es) i = true ↔
    (es.getD i (0, 0)).1 < (es.getD i (0, 0)).2 ∧ (es.getD i (0, 0)).2 < n ∧ (i = 0 ∨ lexlt (es.getD (i - 1) (0, 0)) (es.getD i (0, 0))) := by
  simp only [okAt, getD_castE, lexlt, Bool.and_eq_true, Bool.or_eq_true, decide_eq_true_eq]
  omega
theorem rightB_GR {n : Nat} {es : Es} (g : GR n es) : rightB n (castE es) = true := by
  refine rightB_true (by omega) (by have := g.hn; omega) (by rw [castE_len]; exact g.hm) fun i hi => ?_
  rw [castE_len] at hi
  rw [okAt_cast]
  have hmem : es.getD i (0, 0) ∈ es := by
    rw [List.getD_eq_getElem?_getD, List.getElem?_eq_getElem hi]; exact List.getElem_mem hi
  have h1 := g.ok _ hmem
  refine ⟨h1.1, h1.2, ?_⟩
  cases i with
  | zero => exact .inl rfl
  | succ i =>
    right
    have := List.pairwise_iff_getElem.1 g.up i (i + 1) (by omega) hi (by omega)
    simpa [List.getD_eq_getElem?_getD, List.getElem?_eq_getElem hi, List.getElem?_eq_getElem (show i < es.length by omega)] using this
theorem GR_rightB {n : Nat} {es : Es} (h : rightB n (castE es) = true) : GR n es := by
  simp only [rightB, Bool.and_eq_true, decide_eq_true_eq, List.all_eq_true, List.mem_range, castE_len] at h
  obtain ⟨⟨⟨_, h1⟩, h2⟩, h3⟩ := h
  have h4 : ∀ i, i < es.length → (es.getD i (0, 0)).1 < (es.getD i (0, 0)).2 ∧ (es.getD i (0, 0)).2 < n ∧ (i = 0 ∨ lexlt (es.getD (i - 1) (0, 0)) (es.getD i (0, 0))) :=
    fun i hi => (okAt_cast n es i).1 (h3 i hi)
  refine ⟨by omega, h2, ?_, ?_⟩
  · intro e he
    obtain ⟨i, hi, rfl⟩ := List.mem_iff_getElem.1 he
    have := h4 i hi
    rw [List.getD_eq_getElem?_getD, List.getElem?_eq_getElem hi] at this
    exact ⟨this.1, this.2.1⟩
  · refine pairwise_of_next lexlt_trans fun i a b ha hb => ?_
    have hi : i + 1 < es.length := (List.getElem?_eq_some_iff.1 hb).1
    have := (h4 (i + 1) hi).2.2
    rw [List.getD_eq_getElem?_getD, List.getD_eq_getElem?_getD, hb, Nat.add_sub_cancel, ha] at this
    exact this.resolve_left (by omega)
theorem right_nat {n : Int} {es : List (Int × Int)} (h : rightB n es = true) : ∃ (N : Nat) (es' : Es), n = N ∧ es = castE es' ∧ GR N es' := by
  have h' := h
  simp only [rightB, Bool.and_eq_true, decide_eq_true_eq, List.all_eq_true, List.mem_range] at h
  obtain ⟨⟨⟨h0, h1⟩, h2⟩, h3⟩ := h
  have e : es = castE (es.map fun e => (e.1.toNat, e.2.toNat)) := by
    apply List.ext_getElem (by simp [castE])
    intro i hi hi'
    have := h3 i hi
    simp only [okAt, Bool.and_eq_true, decide_eq_true_eq, List.getD_eq_getElem?_getD, List.getElem?_eq_getElem hi, Option.getD_some] at this
    obtain ⟨⟨⟨a, b⟩, c⟩, _⟩ := this
    simp only [castE, List.getElem_map]
    apply Prod.ext
    · show _ = ((es[i].1.toNat : Nat) : Int); omega
    · show _ = ((es[i].2.toNat : Nat) : Int); omega
  refine ⟨n.toNat, _, by omega, e, ?_⟩
  apply GR_rightB
  rw [← e, show ((n.toNat : Nat) : Int) = n by omega]
  exact h'
def putE (l : Es) (e : Nat × Nat) : Es := (l.filter fun x => decide (lexlt x e)) ++ e :: (l.filter fun x => !decide (lexlt x e))
theorem putE_mem {l : Es} {e x : Nat × Nat} : x ∈ putE l e ↔ x = e ∨ x ∈ l := by
  simp only [putE, List.mem_append, List.mem_filter, List.mem_cons]
  by_cases h : lexlt x e <;> simp [h]
  constructor
  · rintro (h | h)
    · exact .inr h
    · exact .inl h
  · rintro (rfl | h)
    · exact absurd h (lexlt_irrefl _)
    · exact .inl h
theorem putE_len (l : Es) (e : Nat × Nat) : (putE l e).length = l.length + 1 := by
  have : ∀ (p : Nat × Nat → Bool), (l.filter p).length + (l.filter fun x => !p x).length = l.length := by
    intro p
    induction l with
    | nil => rfl
    | cons a l ih =>
      cases h : p a <;> simp [h] <;> omega
  simp only [putE, List.length_append, List.length_cons]
  have := this fun x => decide (lexlt x e)
  omega
theorem GR.put {n : Nat} {es : Es} (g : GR n es) {e : Nat × Nat} (h1 : e.1 < e.2) (h2 : e.2 < n) (h3 : e ∉ es) (h4 : es.length < 65536) : GR n (putE es e) := by
  refine ⟨g.hn, by rw [putE_len]; omega, ?_, ?_⟩
  · intro x hx
    rcases putE_mem.1 hx with rfl | hx
    · exact ⟨h1, h2⟩
    · exact g.ok x hx
  · refine List.pairwise_append.2 ⟨g.up.filter _, List.pairwise_cons.2 ⟨?_, g.up.filter _⟩, ?_⟩
    · intro x hx
      simp only [List.mem_filter, Bool.not_eq_true', decide_eq_false_iff_not] at hx
      have : x ≠ e := fun h => h3 (h ▸ hx.1)
      have h5 : ¬ (x.1 = e.1 ∧ x.2 = e.2) := fun h => this (Prod.ext h.1 h.2)
      have h6 := hx.2
      unfold lexlt at *
      omega
    · intro x hx y hy
      simp only [List.mem_filter, decide_eq_true_eq] at hx
      have hxe : lexlt x e := hx.2
      simp only [List.mem_cons, List.mem_filter, Bool.not_eq_true', decide_eq_false_iff_not] at hy
      rcases hy with rfl | hy
      · exact hxe
      · refine lexlt_trans _ e _ hxe ?_
        have : y ≠ e := fun h => h3 (h ▸ hy.1)
        have h5 : ¬ (y.1 = e.1 ∧ y.2 = e.2) := fun h => this (Prod.ext h.1 h.2)
        have h6 := hy.2
        unfold lexlt at *
        omega
theorem putE_split {l : Es} {e : Nat × Nat} {k : Nat} (hk : k ≤ l.length) (h1 : ∀ x ∈ l.take k, lexlt x e) (h2 : ∀ x ∈ l.drop k, ¬ lexlt x e) : l.take k ++ e :: l.drop k = putE l e := by
  unfold putE
  have e1 : (l.filter fun x => decide (lexlt x e)) = l.take k := by
    conv => lhs; rw [← List.take_append_drop k l]
    rw [List.filter_append, List.filter_eq_self.2 fun x hx => decide_eq_true (h1 x hx), List.filter_eq_nil_iff.2 fun x hx => by simpa using h2 x hx, List.append_nil]
  have e2 : (l.filter fun x => !decide (lexlt x e)) = l.drop k := by
    conv => lhs; rw [← List.take_append_drop k l]
    rw [List.filter_append, List.filter_eq_nil_iff.2 fun x hx => by simpa using h1 x hx, List.filter_eq_self.2 fun x hx => by simpa using h2 x hx, List.nil_append]
  rw [e1, e2]
def lowOf (es : Es) (v : Nat) : List Nat := (es.filter fun e => decide (e.2 = v)).map (·.1)
def highOf (es : Es) (v : Nat) : List Nat := (es.filter fun e => decide (e.1 = v)).map (·.2)
def nearOf (es : Es) (v : Nat) : List Nat := lowOf es v ++ highOf es v
def near (n : Nat) (es : Es) : List (List Nat) := (List.range n).map (nearOf es)
def adj (es : Es) (a b : Nat) : Prop := (a, b) ∈ es ∨ (b, a) ∈ es
theorem adj_symm {es : Es} {a b : Nat} (h : adj es a b) : adj es b a := h.symm
theorem nearOf_mem {es : Es} {v w : Nat} : w ∈ nearOf es v ↔ adj es v w := by
  simp only [nearOf, lowOf, highOf, List.mem_append, List.mem_map, List.mem_filter, decide_eq_true_eq, adj]
  constructor
  · rintro (⟨⟨a, b⟩, ⟨h, h1⟩, h2⟩ | ⟨⟨a, b⟩, ⟨h, h1⟩, h2⟩)
    · right; simp at h1 h2; subst h1 h2; exact h
    · left; simp at h1 h2; subst h1 h2; exact h
  · rintro (h | h)
    · exact .inr ⟨(v, w), ⟨h, rfl⟩, rfl⟩
    · exact .inl ⟨(w, v), ⟨h, rfl⟩, rfl⟩
theorem near_len (n : Nat) (es : Es) : (near n es).length = n := by simp [near]
theorem near_get {n : Nat} {es : Es} {v : Nat} (h : v < n) : (near n es)[v]? = some (nearOf es v) := by simp [near, h]
end Go.Ga.Gl

namespace Go.Ga.Gl
open Go Go.Ga
def Flat (es : Es) (O : Nat → Prop) (f : Nat → Nat) : Prop := ∀ a b, adj es a b → ¬ O a → ¬ O b → f a = f b
structure IsPieces (n : Nat) (es : Es) (O : Nat → Prop) (ps : List (List Nat)) : Prop where
  mem : ∀ v, (∃ p ∈ ps, v ∈ p) ↔ v < n ∧ ¬ O v
  ne : ∀ p ∈ ps, p ≠ []
  inc : ∀ p ∈ ps, p.Pairwise (· < ·)
  heads : ps.Pairwise fun p q => ∀ a ∈ p.head?, ∀ b ∈ q.head?, a < b
  disj : ps.Pairwise fun p q => ∀ v ∈ p, v ∉ q
  edge : ∀ p ∈ ps, ∀ a ∈ p, ∀ b, adj es a b → b < n → ¬ O b → b ∈ p
  conn : ∀ p ∈ ps, ∀ f, Flat es O f → ∀ a ∈ p, ∀ b ∈ p, f a = f b
theorem inc_ext : ∀ {p q : List Nat}, p.Pairwise (· < ·) → q.Pairwise (· < ·) → (∀ x, x ∈ p ↔ x ∈ q) → p = q
  | [], [], _, _, _ => rfl
  | [], b :: q, _, _, h => by have := (h b).2 (List.mem_cons_self ..); cases this
  | a :: p, [], _, _, h => by have := (h a).1 (List.mem_cons_self ..); cases this
  | a :: p, b :: q, hp, hq, h => by
    have hp' := List.pairwise_cons.1 hp
    have hq' := List.pairwise_cons.1 hq
    have hab : a = b := by
      rcases List.mem_cons.1 ((h a).1 (List.mem_cons_self ..)) with e | e
      · exact e
      · rcases List.mem_cons.1 ((h b).2 (List.mem_cons_self ..)) with e' | e'
        · exact e'.symm
        · have := hq'.1 a e; have := hp'.1 b e'; omega
    subst hab
    rw [inc_ext hp'.2 hq'.2 fun x => ?_]
    constructor
    · intro hx
      rcases List.mem_cons.1 ((h x).1 (List.mem_cons_of_mem _ hx)) with e | e
      · subst e; exact absurd (hp'.1 x hx) (by omega)
      · exact e
    · intro hx
      rcases List.mem_cons.1 ((h x).2 (List.mem_cons_of_mem _ hx)) with e | e
      · subst e; exact absurd (hq'.1 x hx) (by omega)
      · exact e
theorem heads_ext : ∀ {ps qs : List (List Nat)}, (∀ p ∈ ps, p ≠ []) → (∀ q ∈ qs, q ≠ []) →
    (ps.Pairwise fun p q => ∀ a ∈ p.head?, ∀ b ∈ q.head?, a < b) → (qs.Pairwise fun p q => ∀ a ∈ p.head?, ∀ b ∈ q.head?, a < b) → (∀ p, p ∈ ps ↔ p ∈ qs) → ps = qs
  | [], [], _, _, _, _, _ => rfl
  | [], b :: q, _, _, _, _, h => by have := (h b).2 (List.mem_cons_self ..); cases this
  | a :: p, [], _, _, _, _, h => by have := (h a).1 (List.mem_cons_self ..); cases this
  | a :: p, b :: q, n1, n2, hp, hq, h => by
    have hp' := List.pairwise_cons.1 hp
    have hq' := List.pairwise_cons.1 hq
    have key : ∀ (x y : List Nat), x ≠ [] → y ≠ [] → (∀ a ∈ x.head?, ∀ b ∈ y.head?, a < b) → (∀ a ∈ y.head?, ∀ b ∈ x.head?, a < b) → False := by
      intro x y hx hy h1 h2
      cases x with
      | nil => exact hx rfl
      | cons u x => cases y with
        | nil => exact hy rfl
        | cons w y => have := h1 u rfl w rfl; have := h2 w rfl u rfl; omega
    have hab : a = b := by
      rcases List.mem_cons.1 ((h a).1 (List.mem_cons_self ..)) with e | e
      · exact e
      · rcases List.mem_cons.1 ((h b).2 (List.mem_cons_self ..)) with e' | e'
        · exact e'.symm
        · exact (key a b (n1 a (List.mem_cons_self ..)) (n2 b (List.mem_cons_self ..)) (hp'.1 b e') (hq'.1 a e)).elim
    subst hab
    have self : ∀ x, x ≠ [] → ¬ (∀ u ∈ x.head?, ∀ w ∈ x.head?, u < w) := fun x hx h1 => key x x hx hx h1 h1
    rw [heads_ext (fun p hp => n1 p (List.mem_cons_of_mem _ hp)) (fun p hp => n2 p (List.mem_cons_of_mem _ hp)) hp'.2 hq'.2 fun x => ?_]
    constructor
    · intro hx
      rcases List.mem_cons.1 ((h x).1 (List.mem_cons_of_mem _ hx)) with e | e
      · subst e; exact (self x (n1 x (List.mem_cons_self ..)) (hp'.1 x hx)).elim
      · exact e
    · intro hx
      rcases List.mem_cons.1 ((h x).2 (List.mem_cons_of_mem _ hx)) with e | e
      · subst e; exact (self x (n1 x (List.mem_cons_self ..)) (hq'.1 x hx)).elim
      · exact e
open Classical in
theorem pieces_sub {n : Nat} {es : Es} {O : Nat → Prop} {ps qs : List (List Nat)} (hes : ∀ a b, adj es a b → a < n ∧ b < n) (P : IsPieces n es O ps) (Q : IsPieces n es O qs) {p : List Nat} (hp : p ∈ ps) {q : List Nat} (hq : q ∈ qs) {v : Nat} (h1 : v ∈ p) (h2 : v ∈ q) : ∀ x ∈ p, x ∈ q := by
  intro x hx
  have hfl : Flat es O (fun x => if x ∈ q then 1 else 0) := by
    intro a b hab ha hb
    have hl := hes a b hab
    by_cases h : a ∈ q
    · simp [h, Q.edge q hq a h b hab hl.2 hb]
    · have : b ∉ q := fun h' => h (Q.edge q hq b h' a (adj_symm hab) hl.1 ha)
      simp [h, this]
  have := P.conn p hp _ hfl v h1 x hx
  simp only [h2, if_true] at this
  by_cases h : x ∈ q
  · exact h
  · simp [h] at this
theorem IsPieces.unique {n : Nat} {es : Es} {O : Nat → Prop} {ps qs : List (List Nat)} (hes : ∀ a b, adj es a b → a < n ∧ b < n) (P : IsPieces n es O ps) (Q : IsPieces n es O qs) : ps = qs := by
  have half : ∀ {ps qs : List (List Nat)}, IsPieces n es O ps → IsPieces n es O qs → ∀ p ∈ ps, p ∈ qs := by
    intro ps qs P Q p hp
    obtain ⟨v, hv⟩ := List.exists_mem_of_ne_nil p (P.ne p hp)
    obtain ⟨q, hq, hvq⟩ := (Q.mem v).2 ((P.mem v).1 ⟨p, hp, hv⟩)
    rw [inc_ext (P.inc p hp) (Q.inc q hq) fun x => ⟨pieces_sub hes P Q hp hq hv hvq x, pieces_sub hes Q P hq hp hvq hv x⟩]
    exact hq
  exact heads_ext P.ne Q.ne P.heads Q.heads fun p => ⟨half P Q p, half Q P p⟩
theorem GR.adj_lt {n : Nat} {es : Es} (g : GR n es) : ∀ a b, adj es a b → a < n ∧ b < n := by
  intro a b h
  rcases h with h | h
  · obtain ⟨h1, h2⟩ := g.ok _ h; simp only at h1 h2; exact ⟨by omega, h2⟩
  · obtain ⟨h1, h2⟩ := g.ok _ h; simp only at h1 h2; exact ⟨h2, by omega⟩
theorem piece_len {n : Nat} {es : Es} {O : Nat → Prop} {ps : List (List Nat)} (P : IsPieces n es O ps) {p : List Nat} (hp : p ∈ ps) : p.length ≤ n := by
  have := (List.pairwise_iff_getElem.1 (P.inc p hp))
  have key : ∀ (m : Nat) (q : List Nat), q.Pairwise (· < ·) → (∀ x ∈ q, m ≤ x ∧ x < n) → q.length ≤ n - m := by
    intro m q
    induction q generalizing m with
    | nil => intro _ _; exact Nat.zero_le _
    | cons a q ih =>
      intro h1 h2
      have h1' := List.pairwise_cons.1 h1
      have ha := h2 a (List.mem_cons_self ..)
      have := ih (a + 1) h1'.2 fun x hx => ⟨h1'.1 x hx, (h2 x (List.mem_cons_of_mem _ hx)).2⟩
      simp only [List.length_cons]; omega
  have := key 0 p (P.inc p hp) fun x hx => ⟨Nat.zero_le _, ((P.mem x).1 ⟨p, hp, hx⟩).1⟩
  omega
theorem pieces_len {n : Nat} {es : Es} {O : Nat → Prop} {ps : List (List Nat)} (P : IsPieces n es O ps) : ps.length ≤ n := by
  have h : (ps.map fun p => p.headD 0).Pairwise (· < ·) := by
    refine List.pairwise_map.2 (P.heads.imp_of_mem fun {p q} hp hq h => ?_)
    have h1 := P.ne p hp; have h2 := P.ne q hq
    cases p with
    | nil => exact absurd rfl h1
    | cons a p => cases q with
      | nil => exact absurd rfl h2
      | cons b q => exact h a rfl b rfl
  have h2 : ∀ x ∈ ps.map fun p => p.headD 0, x < n := by
    intro x hx
    obtain ⟨p, hp, rfl⟩ := List.mem_map.1 hx
    cases p with
    | nil => exact absurd rfl (P.ne _ hp)
    | cons a p => exact ((P.mem a).1 ⟨_, hp, List.mem_cons_self ..⟩).1
  have key : ∀ (m : Nat) (q : List Nat), q.Pairwise (· < ·) → (∀ x ∈ q, m ≤ x ∧ x < n) → q.length ≤ n - m := by
    intro m q
    induction q generalizing m with
    | nil => intro _ _; exact Nat.zero_le _
    | cons a q ih =>
      intro h1 h2
      have h1' := List.pairwise_cons.1 h1
      have ha := h2 a (List.mem_cons_self ..)
      have := ih (a + 1) h1'.2 fun x hx => ⟨h1'.1 x hx, (h2 x (List.mem_cons_of_mem _ hx)).2⟩
      simp only [List.length_cons]; omega
  have := key 0 _ h fun x hx => ⟨Nat.zero_le _, h2 x hx⟩
  simpa using this
def oddCount (ps : List (List Nat)) : Nat := (ps.map fun p => p.length % 2).sum
end Go.Ga.Gl

namespace Go.Ga.Gl
open Go Go.Ga
abbrev DS := List Bool × List Nat × List Nat
def come (s : DS) (v : Nat) : DS := if s.1.getD v false = true then s else (s.1.set v true, s.2.1 ++ [v], s.2.2 ++ [v])
def comes (s : DS) (l : List Nat) : DS := l.foldl come s
theorem comes_snoc (s : DS) (l : List Nat) (k : Nat) (x : Nat) (h : l[k]? = some x) : comes s (l.take (k + 1)) = come (comes s (l.take k)) x := by
  rw [List.take_add_one, h]
  simp [comes]
def undone (d : List Bool) : Nat := (d.filter fun b => !b).length
theorem set_bool (d : List Bool) (v x : Nat) : (d.set v true).getD x false = true ↔ d.getD x false = true ∨ (x = v ∧ v < d.length) := by
  simp only [List.getD_eq_getElem?_getD, List.getElem?_set]
  by_cases h : v = x
  · subst h
    by_cases h2 : v < d.length
    · simp [h2]
    · simp [h2]
  · simp [h, Ne.symm h]
theorem undone_set : ∀ (d : List Bool) (v : Nat), v < d.length → d.getD v false = false → undone (d.set v true) + 1 = undone d
  | [], v, h, _ => by simp at h
  | b :: d, 0, _, h => by
    simp at h; subst h; simp [undone]
  | b :: d, v + 1, h, h2 => by
    have := undone_set d v (by simpa using h) (by simpa using h2)
    cases b <;> simp [undone] at * <;> omega
structure WI (n : Nat) (es : Es) (D : List Bool) (v : Nat) (s : DS) : Prop where
  len : s.1.length = n
  done : ∀ x, s.1.getD x false = true ↔ D.getD x false = true ∨ x ∈ s.2.1
  nd : s.2.1.Nodup
  now : ∀ x ∈ s.2.1, x < n ∧ D.getD x false = false
  rest : ∀ x ∈ s.2.2, x ∈ s.2.1
  rl : s.2.2.length ≤ s.2.1.length
  conn : ∀ f, Flat es (fun x => D.getD x false = true) f → ∀ x ∈ s.2.1, f x = f v
theorem nodup_le : ∀ {l m : List Nat}, l.Nodup → (∀ x ∈ l, x ∈ m) → l.length ≤ m.length
  | [], m, _, _ => Nat.zero_le _
  | a :: l, m, h, hm => by
    have h' := List.pairwise_cons.1 h
    have ha := hm a (List.mem_cons_self ..)
    have := nodup_le (l := l) (m := m.erase a) h'.2 fun x hx => (List.mem_erase_of_ne fun e => h'.1 x hx e.symm).2 (hm x (List.mem_cons_of_mem _ hx))
    rw [List.length_erase_of_mem ha] at this
    have := List.length_pos_of_mem ha
    simp; omega
theorem WI.size {n : Nat} {es : Es} {D : List Bool} {v : Nat} {s : DS} (w : WI n es D v s) : s.2.1.length ≤ n := by
  have := nodup_le w.nd (m := List.range n) fun x hx => List.mem_range.2 (w.now x hx).1
  simpa using this
theorem WI.start {n : Nat} {es : Es} {D : List Bool} {v : Nat} (hD : D.length = n) : WI n es D v (D, [], []) :=
  ⟨hD, fun x => by simp, List.nodup_nil, fun x h => by simp at h, fun x h => by simp at h, Nat.le_refl _, fun f _ x h => by simp at h⟩
theorem WI.come {n : Nat} {es : Es} {D : List Bool} {v : Nat} {s : DS} (w : WI n es D v s) {x : Nat} (hx : x < n) (hc : x = v ∨ ∃ u ∈ s.2.1, adj es u x) : WI n es D v (come s x) := by
  unfold Gl.come
  split
  · exact w
  · rename_i h
    have hD : D.getD x false = false := by
      cases e : D.getD x false with
      | false => rfl
      | true => exact absurd ((w.done x).2 (.inl e)) h
    have hn : x ∉ s.2.1 := fun e => h ((w.done x).2 (.inr e))
    refine ⟨by simpa using w.len, fun y => ?_, ?_, ?_, ?_, by simp; exact w.rl, ?_⟩
    · show (s.1.set x true).getD y false = true ↔ _
      rw [set_bool, w.done, w.len, List.mem_append, List.mem_singleton]
      constructor
      · rintro (h | h)
        · exact h.imp id .inl
        · exact .inr (.inr h.1)
      · rintro (h | h | h)
        · exact .inl (.inl h)
        · exact .inl (.inr h)
        · exact .inr ⟨h, hx⟩
    · exact List.nodup_append.2 ⟨w.nd, by simp, fun a ha b hb e => by simp at hb; subst hb; subst e; exact hn ha⟩
    · intro y hy
      rcases List.mem_append.1 hy with hy | hy
      · exact w.now y hy
      · simp at hy; subst hy; exact ⟨hx, hD⟩
    · intro y hy
      rcases List.mem_append.1 hy with hy | hy
      · exact List.mem_append_left _ (w.rest y hy)
      · exact List.mem_append_right _ hy
    · intro f hf y hy
      rcases List.mem_append.1 hy with hy | hy
      · exact w.conn f hf y hy
      · simp at hy; subst hy
        rcases hc with rfl | ⟨u, hu, ha⟩
        · rfl
        · rw [← w.conn f hf u hu]
          have h1 := (w.now u hu).2
          exact (hf u y ha (by show ¬ (D.getD u false = true); rw [h1]; simp) (by show ¬ (D.getD y false = true); rw [hD]; simp)).symm
theorem come_mono {s : DS} {x y : Nat} (h : s.1.getD y false = true) : (come s x).1.getD y false = true := by
  unfold come
  split
  · exact h
  · exact (set_bool _ _ _).2 (.inl h)
theorem come_done {s : DS} {x : Nat} (h : x < s.1.length) : (come s x).1.getD x false = true := by
  unfold come
  split
  · assumption
  · exact (set_bool _ _ _).2 (.inr ⟨rfl, h⟩)
theorem come_now {s : DS} {x y : Nat} (h : y ∈ s.2.1) : y ∈ (come s x).2.1 := by
  unfold come
  split
  · exact h
  · exact List.mem_append_left _ h
theorem come_rest {s : DS} {x y : Nat} (h : y ∈ (come s x).2.1) : y ∈ s.2.1 ∨ y ∈ (come s x).2.2 := by
  unfold come at *
  split at h
  · rename_i h1; rw [if_pos h1]; exact .inl h
  · rename_i h1; rw [if_neg h1]
    rcases List.mem_append.1 h with h | h
    · exact .inl h
    · exact .inr (List.mem_append_right _ h)
theorem come_keep {s : DS} {x y : Nat} (h : y ∈ s.2.2) : y ∈ (come s x).2.2 := by
  unfold come
  split
  · exact h
  · exact List.mem_append_left _ h
theorem come_measure {s : DS} {x : Nat} (h : x < s.1.length) : 2 * undone (come s x).1 + (come s x).2.2.length ≤ 2 * undone s.1 + s.2.2.length := by
  unfold come
  split
  · exact Nat.le_refl _
  · rename_i h1
    have := undone_set s.1 x h (by simpa using h1)
    simp only [List.length_append, List.length_singleton]
    omega
def Gone (es : Es) (U : Nat → Prop) (s : DS) : Prop := ∀ x ∈ s.2.1, x ∉ s.2.2 → ¬ U x → ∀ y, adj es x y → s.1.getD y false = true
structure WJ (n : Nat) (es : Es) (D : List Bool) (v : Nat) (s : DS) : Prop extends WI n es D v s where
  gone : Gone es (fun _ => False) s
  self : v ∈ s.2.1
theorem comes_ok {n : Nat} {es : Es} (hes : ∀ a b, adj es a b → a < n ∧ b < n) {D : List Bool} {v u : Nat} {s : DS} (w : WI n es D v s) (hu : u ∈ s.2.1) (hg : Gone es (fun x => x = u) s) :
    ∀ k, k ≤ (nearOf es u).length →
    WI n es D v (comes s ((nearOf es u).take k)) ∧ u ∈ (comes s ((nearOf es u).take k)).2.1 ∧ Gone es (fun x => x = u) (comes s ((nearOf es u).take k)) ∧
    (∀ y ∈ (nearOf es u).take k, (comes s ((nearOf es u).take k)).1.getD y false = true) ∧
    2 * undone (comes s ((nearOf es u).take k)).1 + (comes s ((nearOf es u).take k)).2.2.length ≤ 2 * undone s.1 + s.2.2.length ∧ (∀ x ∈ s.2.1, x ∈ (comes s ((nearOf es u).take k)).2.1) := by
  intro k
  induction k with
  | zero => intro _; simp only [List.take_zero, comes, List.foldl_nil]; exact ⟨w, hu, hg, fun y hy => by simp at hy, Nat.le_refl _, fun x h => h⟩
  | succ k ih =>
    intro hk
    obtain ⟨h1, h2, h3, h4, h5, h6⟩ := ih (by omega)
    have hx : (nearOf es u)[k]? = some ((nearOf es u)[k]'(by omega)) := List.getElem?_eq_getElem _
    generalize (nearOf es u)[k]'(by omega) = x at hx
    have hax : adj es u x := nearOf_mem.1 (List.mem_iff_getElem?.2 ⟨k, hx⟩)
    have hxn := (hes u x hax).2
    rw [comes_snoc _ _ _ _ hx]
    refine ⟨h1.come hxn (.inr ⟨u, h2, hax⟩), come_now h2, ?_, ?_, Nat.le_trans (come_measure (by rw [h1.len]; exact hxn)) h5, fun x h => come_now (h6 x h)⟩
    · intro y hy hr hne z hz
      rcases come_rest hy with hy | hy
      · exact come_mono (h3 y hy (fun e => hr (come_keep e)) hne z hz)
      · exact absurd hy hr
    · intro y hy
      rw [List.take_add_one, hx] at hy
      rcases List.mem_append.1 hy with hy | hy
      · exact come_mono (h4 y hy)
      · simp at hy; subst hy; exact come_done (by rw [h1.len]; exact hxn)
theorem WJ.step {n : Nat} {es : Es} (hes : ∀ a b, adj es a b → a < n ∧ b < n) {D : List Bool} {v u : Nat} {d : List Bool} {nw r : List Nat} (w : WJ n es D v (d, nw, r ++ [u])) :
    WJ n es D v (comes (d, nw, r) (nearOf es u)) ∧ 2 * undone (comes (d, nw, r) (nearOf es u)).1 + (comes (d, nw, r) (nearOf es u)).2.2.length < 2 * undone d + (r ++ [u]).length := by
  have w1 : WI n es D v (d, nw, r) := ⟨w.len, w.done, w.nd, w.now, fun x h => w.rest x (List.mem_append_left _ h), by have := w.rl; simp at this ⊢; omega, w.conn⟩
  have hu : u ∈ nw := w.rest u (List.mem_append_right _ (List.mem_singleton.2 rfl))
  have hg : Gone es (fun x => x = u) (d, nw, r) := fun x hx hr hne y hy => w.gone x hx (fun e => by
    rcases List.mem_append.1 e with e | e
    · exact hr e
    · simp at e; exact hne e) (fun e => e) y hy
  obtain ⟨h1, h2, h3, h4, h5, h6⟩ := comes_ok hes w1 hu hg (nearOf es u).length (Nat.le_refl _)
  rw [List.take_length] at *
  refine ⟨⟨h1, fun x hx hr _ y hy => ?_, h6 v w.self⟩, by simp at h5 ⊢; omega⟩
  by_cases e : x = u
  · subst e; exact h4 y (nearOf_mem.2 hy)
  · exact h3 x hx hr e y hy
theorem WJ.start {n : Nat} {es : Es} {D : List Bool} {v : Nat} (hD : D.length = n) (hv : v < n) (h0 : D.getD v false = false) : WJ n es D v (come (D, [], []) v) := by
  refine ⟨(WI.start hD).come hv (.inl rfl), ?_, ?_⟩
  · intro x hx hr _ y _
    rcases come_rest hx with h | h
    · simp at h
    · exact absurd h hr
  · have : ¬ D.getD v false = true := by rw [h0]; simp
    unfold come; rw [if_neg this]; simp
structure PieceOf (n : Nat) (es : Es) (D : List Bool) (v : Nat) (D' : List Bool) (p : List Nat) : Prop where
  len : D'.length = n
  done : ∀ x, D'.getD x false = true ↔ D.getD x false = true ∨ x ∈ p
  inc : p.Pairwise (· < ·)
  mem : ∀ x ∈ p, x < n ∧ D.getD x false = false
  self : v ∈ p
  closed : ∀ x ∈ p, ∀ y, adj es x y → D'.getD y false = true
  conn : ∀ f, Flat es (fun x => D.getD x false = true) f → ∀ x ∈ p, f x = f v
theorem WJ.piece {n : Nat} {es : Es} {D : List Bool} {v : Nat} {d : List Bool} {nw p : List Nat} (w : WJ n es D v (d, nw, [])) (hp : p.Perm nw) (hs : p.Pairwise (· ≤ ·)) : PieceOf n es D v d p where
  len := w.len
  done x := by rw [w.done, hp.mem_iff]
  inc := by
    have nd : p.Nodup := hp.nodup_iff.2 w.nd
    refine (hs.and nd).imp fun {a b} h => ?_
    have := h.1; have := h.2; omega
  mem x hx := w.now x (hp.mem_iff.1 hx)
  self := hp.mem_iff.2 w.self
  closed x hx y hy := w.gone x (hp.mem_iff.1 hx) (by simp) (fun e => e) y hy
  conn f hf x hx := w.conn f hf x (hp.mem_iff.1 hx)
structure OI (n : Nat) (es : Es) (O : Nat → Prop) (v : Nat) (D : List Bool) (ps : List (List Nat)) : Prop where
  len : D.length = n
  done : ∀ x, x < n → (D.getD x false = true ↔ O x ∨ ∃ p ∈ ps, x ∈ p)
  out : ∀ p ∈ ps, ∀ x ∈ p, x < n ∧ ¬ O x
  before : ∀ x, x < v → x < n → D.getD x false = true
  ne : ∀ p ∈ ps, p ≠ []
  inc : ∀ p ∈ ps, p.Pairwise (· < ·)
  low : ∀ p ∈ ps, ∀ a ∈ p.head?, a < v
  heads : ps.Pairwise fun p q => ∀ a ∈ p.head?, ∀ b ∈ q.head?, a < b
  disj : ps.Pairwise fun p q => ∀ v ∈ p, v ∉ q
  edge : ∀ p ∈ ps, ∀ a ∈ p, ∀ b, adj es a b → b < n → ¬ O b → b ∈ p
  conn : ∀ p ∈ ps, ∀ f, Flat es O f → ∀ a ∈ p, ∀ b ∈ p, f a = f b
theorem OI.start {n : Nat} {es : Es} {O : Nat → Prop} {D : List Bool} (hD : D.length = n) (h : ∀ x, x < n → (D.getD x false = true ↔ O x)) : OI n es O 0 D [] :=
  ⟨hD, fun x hx => by rw [h x hx]; simp, fun p hp => by simp at hp, fun x hx => by omega, fun p hp => by simp at hp, fun p hp => by simp at hp, fun p hp => by simp at hp, .nil, .nil, fun p hp => by simp at hp, fun p hp => by simp at hp⟩
theorem OI.skip {n : Nat} {es : Es} {O : Nat → Prop} {v : Nat} {D : List Bool} {ps : List (List Nat)} (w : OI n es O v D ps) (h : D.getD v false = true) : OI n es O (v + 1) D ps :=
  { w with
    before := fun x hx hn => by
      rcases Nat.lt_or_ge x v with h1 | h1
      · exact w.before x h1 hn
      · have : x = v := by omega
        subst this; exact h
    low := fun p hp a ha => Nat.lt_succ_of_lt (w.low p hp a ha) }
theorem OI.take {n : Nat} {es : Es} (hes : ∀ a b, adj es a b → a < n ∧ b < n) {O : Nat → Prop} {v : Nat} {D D' : List Bool} {ps : List (List Nat)} {p : List Nat} (w : OI n es O v D ps) (hp : PieceOf n es D v D' p) : OI n es O (v + 1) D' (ps ++ [p]) := by
  have hO : ∀ x ∈ p, ¬ O x := fun x hx ho => by
    have h1 := hp.mem x hx
    have := (w.done x h1.1).2 (.inl ho)
    rw [h1.2] at this; cases this
  have hsep : ∀ q ∈ ps, ∀ x ∈ q, x ∉ p := fun q hq x hx hxp => by
    have h1 := hp.mem x hxp
    have := (w.done x h1.1).2 (.inr ⟨q, hq, hx⟩)
    rw [h1.2] at this; cases this
  have hmin : ∀ x ∈ p, v ≤ x := fun x hx => by
    rcases Nat.lt_or_ge x v with h | h
    · have h1 := hp.mem x hx
      have := w.before x h h1.1
      rw [h1.2] at this; cases this
    · exact h
  have hhead : ∀ a ∈ p.head?, a = v := by
    intro a ha
    cases p with
    | nil => cases ha
    | cons b p =>
      have e0 : b = a := by simpa using ha
      subst e0
      have h1 := hmin b (List.mem_cons_self ..)
      rcases List.mem_cons.1 hp.self with e | e
      · exact e.symm
      · have := (List.pairwise_cons.1 hp.inc).1 v e; omega
  refine ⟨hp.len, fun x hx => ?_, ?_, fun x hx hn => ?_, ?_, ?_, ?_, ?_, ?_, ?_, ?_⟩
  · rw [hp.done, w.done x hx]
    simp only [List.mem_append, List.mem_singleton]
    constructor
    · rintro ((h | ⟨q, h1, h2⟩) | h)
      · exact .inl h
      · exact .inr ⟨q, .inl h1, h2⟩
      · exact .inr ⟨p, .inr rfl, h⟩
    · rintro (h | ⟨q, h1 | h1, h2⟩)
      · exact .inl (.inl h)
      · exact .inl (.inr ⟨q, h1, h2⟩)
      · subst h1; exact .inr h2
  · intro q hq x hx
    rcases List.mem_append.1 hq with hq | hq
    · exact w.out q hq x hx
    · simp at hq; subst hq; exact ⟨(hp.mem x hx).1, hO x hx⟩
  · rw [hp.done]
    rcases Nat.lt_or_ge x v with h1 | h1
    · exact .inl (w.before x h1 hn)
    · have : x = v := by omega
      subst this; exact .inr hp.self
  · intro q hq
    rcases List.mem_append.1 hq with hq | hq
    · exact w.ne q hq
    · simp at hq; subst hq; intro e; rw [e] at hp; exact absurd hp.self (by simp)
  · intro q hq
    rcases List.mem_append.1 hq with hq | hq
    · exact w.inc q hq
    · simp at hq; subst hq; exact hp.inc
  · intro q hq a ha
    rcases List.mem_append.1 hq with hq | hq
    · exact Nat.lt_succ_of_lt (w.low q hq a ha)
    · simp at hq; subst hq; rw [hhead a ha]; omega
  · refine List.pairwise_append.2 ⟨w.heads, by simp, fun q hq r hr a ha b hb => ?_⟩
    simp at hr; subst hr
    rw [hhead b hb]; exact w.low q hq a ha
  · refine List.pairwise_append.2 ⟨w.disj, by simp, fun q hq r hr x hx => ?_⟩
    simp at hr; subst hr
    exact hsep q hq x hx
  · intro q hq a ha b hab hb hob
    rcases List.mem_append.1 hq with hq | hq
    · exact w.edge q hq a ha b hab hb hob
    · simp at hq; subst hq
      rcases (hp.done b).1 (hp.closed a ha b hab) with h | h
      · rcases (w.done b hb).1 h with h | ⟨q, hq, hbq⟩
        · exact absurd h hob
        · exact absurd ha (hsep q hq a (w.edge q hq b hbq a (adj_symm hab) (hp.mem a ha).1 (hO a ha)))
      · exact h
  · intro q hq f hf a ha b hb
    rcases List.mem_append.1 hq with hq | hq
    · exact w.conn q hq f hf a ha b hb
    · simp at hq; subst hq
      have hf' : Flat es (fun x => D.getD x false = true) f := by
        intro x y hxy hx hy
        have hl := hes x y hxy
        exact hf x y hxy (fun ho => hx ((w.done x hl.1).2 (.inl ho))) fun ho => hy ((w.done y hl.2).2 (.inl ho))
      rw [hp.conn f hf' a ha, hp.conn f hf' b hb]
theorem OI.pieces {n : Nat} {es : Es} {O : Nat → Prop} {D : List Bool} {ps : List (List Nat)} (w : OI n es O n D ps) : IsPieces n es O ps where
  mem v := by
    constructor
    · rintro ⟨p, hp, hv⟩; exact w.out p hp v hv
    · rintro ⟨h1, h2⟩
      rcases (w.done v h1).1 (w.before v h1 h1) with h | h
      · exact absurd h h2
      · exact h
  ne := w.ne
  inc := w.inc
  heads := w.heads
  disj := w.disj
  edge := w.edge
  conn := w.conn
end Go.Ga.Gl
