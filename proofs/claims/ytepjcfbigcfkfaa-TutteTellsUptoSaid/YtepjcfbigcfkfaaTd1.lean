/- That which degrees are right, what any pair lacks, and which edges are a factor, is told right of any graph, and that what is handed in stays, is proved for every input of the given size. -/
import Derived.Test.YtepjcfbigcfkfaaRows
import Derived.Test.YtepjcfbigcfkfaaGeooimb5
set_option linter.all false
namespace Go.Proofs.Ytepjcfbigcfkfaa
open Go Go.Ga
theorem mix : Try.prog.follows .mixedOrders = true := by kernel_rfl
def c_garlandlaw23_TutteTells_r0 : List GOp := [(none, (.box 4 (.t 0))),
  (none, (.box 6 (.t 2))),
  (none, (.asg 8 (.c (.bool false)) true))]
def c_garlandlaw23_TutteTells_r1 : List GOp := [(none, (.r (.fldA 17 (.t 4) 1))),
  (none, (.r (.ld 18 (.t 17) 1 false))),
  (none, (.r (.len 19 (.t 18)))),
  (none, (.r (.bin 20 .gtr 0 (.t 19) (.c (.int .i64 40))))),
  (none, (.r (.mov 21 (.t 20)))), ((some (21, false)), (.r (.fldA 22 (.t 4) 0))), ((some (21, false)), (.r (.ld 23 (.t 22) 1 false))), ((some (21, false)), (.r (.bin 24 .gtr 0 (.t 23) (.c (.int .i64 60))))),
  (none, (.r (.pick 25 (.t 21) (.c (.bool true)) (.t 24)))),
  (none, (.r (.mov 26 (.t 25)))), ((some (26, false)), (.r (.mov 27 (.t 1)))), ((some (26, false)), (.r (.len 28 (.t 27)))), ((some (26, false)), (.r (.bin 29 .gtr 0 (.t 28) (.c (.int .i64 60))))),
  (none, (.r (.pick 30 (.t 26) (.c (.bool true)) (.t 29)))),
  (none, (.r (.mov 31 (.t 30)))), ((some (31, false)), (.r (.fldA 32 (.t 6) 0))), ((some (31, false)), (.r (.ld 33 (.t 32) 1 false))), ((some (31, false)), (.r (.len 34 (.t 33)))), ((some (31, false)), (.r (.bin 35 .gtr 0 (.t 34) (.c (.int .i64 60))))),
  (none, (.r (.pick 36 (.t 31) (.c (.bool true)) (.t 35)))),
  (none, (.r (.mov 37 (.t 36)))), ((some (37, false)), (.r (.fldA 38 (.t 6) 1))), ((some (37, false)), (.r (.ld 39 (.t 38) 1 false))), ((some (37, false)), (.r (.len 40 (.t 39)))), ((some (37, false)), (.r (.bin 41 .gtr 0 (.t 40) (.c (.int .i64 60))))),
  (none, (.r (.pick 42 (.t 37) (.c (.bool true)) (.t 41)))),
  (none, (.r (.mov 43 (.t 42)))), ((some (43, false)), (.r (.mov 44 (.t 3)))), ((some (43, false)), (.r (.len 45 (.t 44)))), ((some (43, false)), (.r (.bin 46 .gtr 0 (.t 45) (.c (.int .i64 60))))),
  (none, (.r (.pick 47 (.t 43) (.c (.bool true)) (.t 46))))]
def c_garlandlaw23_TutteTells_r2 : List GOp := [(none, (.call 48 (.f 10) [])),
  (none, (.asg 8 (.t 48) true))]
def c_garlandlaw23_TutteTells_r3 : List GOp := [(none, (.r (.mov 49 (.t 1)))),
  (none, (.call 50 (.f 11) [((.t 49), false), ((.c (.int .i64 71)), false)])),
  (none, (.r (.mov 51 (.t 3)))),
  (none, (.bld 52 [((0, 1), ((.c (.int .i64 71)), true))] [(.int .i64 0), (.int .i64 0)])),
  (none, (.call 53 (.f 12) [((.t 51), false), ((.t 52), false)])),
  (none, (.asg 9 (.t 50) true)),
  (none, (.asg 10 (.t 53) true))]
def c_garlandlaw23_TutteTells_r4 : Tree := 
  (.take [1, 2, 5, 6, 8] (none, (.r (.fldA 54 (.t 6) 0))) 
  (.take [2, 5, 6, 8] (none, (.r (.ld 55 (.t 54) 1 false))) 
  (.take [4, 5, 6, 8] (none, (.r (.fldA 57 (.t 6) 1))) 
  (.take [5, 6, 8] (none, (.r (.ld 58 (.t 57) 1 false))) (.two 2 (none, (.call 56 (.f 11) [((.t 55), false), ((.c (.int .i64 71)), false)])) (.two 5 (none, (.call 59 (.f 11) [((.t 58), false), ((.c (.int .i64 71)), false)])) (.two 6 (none, (.bld 60 [((0, 1), ((.t 56), true)), ((1, 1), ((.t 59), true))] [(.slice none 0 0), (.slice none 0 0)])) 
  (.one 7 (none, (.alloc 11 [(.slice none 0 0), (.slice none 0 0)])) 
  (.one 8 (none, (.st (.t 11) (.t 60) 2)) .done)) 7 (none, (.alloc 11 [(.slice none 0 0), (.slice none 0 0)])) 
  (.one 6 (none, (.bld 60 [((0, 1), ((.t 56), true)), ((1, 1), ((.t 59), true))] [(.slice none 0 0), (.slice none 0 0)])) 
  (.one 8 (none, (.st (.t 11) (.t 60) 2)) .done))) 7 (none, (.alloc 11 [(.slice none 0 0), (.slice none 0 0)])) 
  (.one 5 (none, (.call 59 (.f 11) [((.t 58), false), ((.c (.int .i64 71)), false)])) 
  (.one 6 (none, (.bld 60 [((0, 1), ((.t 56), true)), ((1, 1), ((.t 59), true))] [(.slice none 0 0), (.slice none 0 0)])) 
  (.one 8 (none, (.st (.t 11) (.t 60) 2)) .done)))) 7 (none, (.alloc 11 [(.slice none 0 0), (.slice none 0 0)])) 
  (.one 2 (none, (.call 56 (.f 11) [((.t 55), false), ((.c (.int .i64 71)), false)])) 
  (.one 5 (none, (.call 59 (.f 11) [((.t 58), false), ((.c (.int .i64 71)), false)])) 
  (.one 6 (none, (.bld 60 [((0, 1), ((.t 56), true)), ((1, 1), ((.t 59), true))] [(.slice none 0 0), (.slice none 0 0)])) 
  (.one 8 (none, (.st (.t 11) (.t 60) 2)) .done)))))))))
def c_garlandlaw23_TutteTells_r5 : List GOp := [(none, (.r (.ld 62 (.t 4) 2 true))),
  (none, (.r (.mov 63 (.t 9)))),
  (none, (.r (.ld 64 (.t 11) 2 true))),
  (none, (.call 65 (.f 9) [((.t 62), false), ((.t 63), false), ((.t 64), false)])),
  (none, (.r (.mov 61 (.t 65)))),
  (none, (.r (.ext 66 (.t 61) 0))),
  (none, (.r (.ext 67 (.t 61) 1))),
  (none, (.asg 12 (.t 66) true)),
  (none, (.asg 13 (.t 67) true))]
def c_garlandlaw23_TutteTells_r6 : List GOp := [(none, (.r (.ld 69 (.t 4) 2 true))),
  (none, (.r (.mov 70 (.t 1)))),
  (none, (.r (.ld 71 (.t 6) 2 true))),
  (none, (.call 72 (.f 13) [((.t 69), false), ((.t 70), false), ((.t 71), false)])),
  (none, (.r (.mov 68 (.t 72)))),
  (none, (.r (.ext 73 (.t 68) 0))),
  (none, (.r (.ext 74 (.t 68) 1))),
  (none, (.asg 14 (.t 73) true)),
  (none, (.asg 15 (.t 74) true))]
def c_garlandlaw23_TutteTells_r7 : Tree := 
  (.take [2, 5, 6, 7, 8, 9, 10, 11, 12, 13, 14, 15, 16, 17, 18, 19, 20, 21, 22, 23, 24, 25, 26, 27, 28] (none, (.r (.ld 75 (.t 4) 2 true))) 
  (.take [2, 5, 6, 7, 8, 9, 10, 11, 12, 13, 14, 15, 16, 17, 18, 19, 20, 21, 22, 23, 24, 25, 26, 27, 28] (none, (.r (.mov 76 (.t 9)))) 
  (.take [5, 6, 7, 8, 9, 10, 11, 12, 13, 14, 15, 16, 17, 18, 19, 20, 21, 22, 23, 24, 25, 26, 27, 28] (none, (.r (.ld 78 (.t 4) 2 true))) 
  (.take [5, 6, 7, 8, 9, 10, 11, 12, 13, 14, 15, 16, 17, 18, 19, 20, 21, 22, 23, 24, 25, 26, 27, 28] (none, (.r (.mov 79 (.t 1)))) 
  (.one 2 (none, (.call 77 (.f 14) [((.t 75), false), ((.t 76), false)])) 
  (.one 5 (none, (.call 80 (.f 15) [((.t 78), false), ((.t 79), false)])) 
  (.take [7, 8, 9, 10, 11, 12, 13, 14, 15, 16, 17, 18, 19, 20, 21, 22, 23, 24, 25, 26, 27, 28] (none, (.r (.bin 81 .eql 0 (.t 77) (.t 80)))) 
  (.take [8, 9, 10, 11, 12, 13, 14, 15, 16, 17, 18, 19, 20, 21, 22, 23, 24, 25, 26, 27, 28] (none, (.r (.mov 82 (.t 81)))) 
  (.take [10, 11, 12, 13, 14, 15, 16, 17, 18, 19, 20, 21, 22, 23, 24, 25, 26, 27, 28] ((some (82, true)), (.r (.mov 83 (.t 12)))) 
  (.take [10, 11, 12, 13, 14, 15, 16, 17, 18, 19, 20, 21, 22, 23, 24, 25, 26, 27, 28] ((some (82, true)), (.r (.mov 84 (.t 14)))) 
  (.take [11, 12, 13, 14, 15, 16, 17, 18, 19, 20, 21, 22, 23, 24, 25, 26, 27, 28] ((some (82, true)), (.r (.bin 85 .eql 0 (.t 83) (.t 84)))) 
  (.take [12, 13, 14, 15, 16, 17, 18, 19, 20, 21, 22, 23, 24, 25, 26, 27, 28] (none, (.r (.pick 86 (.t 82) (.t 85) (.c (.bool false))))) 
  (.take [13, 14, 15, 16, 17, 18, 19, 20, 21, 22, 23, 24, 25, 26, 27, 28] (none, (.r (.mov 87 (.t 86)))) 
  (.take [15, 16, 17, 18, 19, 20, 21, 22, 23, 24, 25, 26, 27, 28] ((some (87, true)), (.r (.mov 88 (.t 13)))) 
  (.take [15, 16, 17, 18, 19, 20, 21, 22, 23, 24, 25, 26, 27, 28] ((some (87, true)), (.r (.mov 89 (.t 15)))) 
  (.take [16, 17, 18, 19, 20, 21, 22, 23, 24, 25, 26, 27, 28] ((some (87, true)), (.r (.bin 90 .eql 0 (.t 88) (.t 89)))) 
  (.take [17, 18, 19, 20, 21, 22, 23, 24, 25, 26, 27, 28] (none, (.r (.pick 91 (.t 87) (.t 90) (.c (.bool false))))) 
  (.take [18, 19, 20, 21, 22, 23, 24, 25, 26, 27, 28] (none, (.r (.mov 92 (.t 91)))) 
  (.take [21, 25, 26, 27, 28] ((some (92, true)), (.r (.ld 93 (.t 4) 2 true))) 
  (.take [21, 25, 26, 27, 28] ((some (92, true)), (.r (.mov 94 (.t 9)))) 
  (.take [21, 25, 26, 27, 28] ((some (92, true)), (.r (.mov 95 (.t 10)))) 
  (.take [25, 26, 27, 28] ((some (92, true)), (.r (.ld 97 (.t 4) 2 true))) 
  (.take [25, 26, 27, 28] ((some (92, true)), (.r (.mov 98 (.t 1)))) 
  (.take [25, 26, 27, 28] ((some (92, true)), (.r (.mov 99 (.t 3)))) 
  (.one 21 ((some (92, true)), (.call 96 (.f 16) [((.t 93), false), ((.t 94), false), ((.t 95), false)])) 
  (.one 25 ((some (92, true)), (.call 100 (.f 17) [((.t 97), false), ((.t 98), false), ((.t 99), false)])) 
  (.take [27, 28] ((some (92, true)), (.r (.bin 101 .eql 1 (.t 96) (.t 100)))) 
  (.take [28] (none, (.r (.pick 102 (.t 92) (.t 101) (.c (.bool false))))) 
  (.one 28 (none, (.asg 16 (.t 102) true)) .done)))))))))))))))))))))))))))))
def c_garlandlaw23_TutteTells_r8 : List GOp := [(none, (.call 103 (.f 10) [])),
  (none, (.r (.mov 104 (.t 103)))), ((some (104, true)), (.r (.mov 105 (.t 16)))),
  (none, (.r (.pick 106 (.t 104) (.t 105) (.c (.bool false))))),
  (none, (.r (.mov 107 (.t 106)))), ((some (107, true)), (.r (.mov 108 (.t 9)))), ((some (107, true)), (.r (.mov 109 (.t 1)))), ((some (107, true)), (.call 110 (.f 18) [((.t 108), false), ((.t 109), false), ((.c (.int .i64 71)), false)])),
  (none, (.r (.pick 111 (.t 107) (.t 110) (.c (.bool false))))),
  (none, (.r (.mov 112 (.t 111)))), ((some (112, true)), (.r (.mov 113 (.t 10)))), ((some (112, true)), (.r (.mov 114 (.t 3)))), ((some (112, true)), (.bld 115 [((0, 1), ((.c (.int .i64 71)), true))] [(.int .i64 0), (.int .i64 0)])), ((some (112, true)), (.call 116 (.f 19) [((.t 113), false), ((.t 114), false), ((.t 115), false)])),
  (none, (.r (.pick 117 (.t 112) (.t 116) (.c (.bool false))))),
  (none, (.r (.mov 118 (.t 117)))), ((some (118, true)), (.r (.fldA 119 (.t 11) 0))), ((some (118, true)), (.r (.ld 120 (.t 119) 1 false))), ((some (118, true)), (.r (.fldA 121 (.t 6) 0))), ((some (118, true)), (.r (.ld 122 (.t 121) 1 false))), ((some (118, true)), (.call 123 (.f 18) [((.t 120), false), ((.t 122), false), ((.c (.int .i64 71)), false)])),
  (none, (.r (.pick 124 (.t 118) (.t 123) (.c (.bool false))))),
  (none, (.r (.mov 125 (.t 124)))), ((some (125, true)), (.r (.fldA 126 (.t 11) 1))), ((some (125, true)), (.r (.ld 127 (.t 126) 1 false))), ((some (125, true)), (.r (.fldA 128 (.t 6) 1))), ((some (125, true)), (.r (.ld 129 (.t 128) 1 false))), ((some (125, true)), (.call 130 (.f 18) [((.t 127), false), ((.t 129), false), ((.c (.int .i64 71)), false)])),
  (none, (.r (.pick 131 (.t 125) (.t 130) (.c (.bool false))))),
  (none, (.asg 8 (.t 131) true))]
def v_garlandlaw23_TutteTells : List Nat := [0, 1, 2, 3, 4, 6, 8, 9, 10, 11, 12, 13, 14, 15, 16, 47]
def c_garlandlaw23_TutteTells : ACode :=
  (.seq
  (.reg [0, 1, 2, 3, 8, 9, 10, 11, 12, 13, 14, 15, 16, 47] c_garlandlaw23_TutteTells_r0 v_garlandlaw23_TutteTells)
  (.seq
  (.seq
  (.reg [0, 1, 2, 3, 4, 6, 8, 9, 10, 11, 12, 13, 14, 15, 16] c_garlandlaw23_TutteTells_r1 v_garlandlaw23_TutteTells)
  (.cond (.t 47) (.seq
  (.reg [0, 1, 2, 3, 4, 6, 8, 9, 10, 11, 12, 13, 14, 15, 16, 47] c_garlandlaw23_TutteTells_r2 v_garlandlaw23_TutteTells)
  .ret) .skip))
  (.seq
  (.reg [0, 1, 2, 3, 4, 6, 8, 9, 10, 11, 12, 13, 14, 15, 16, 47] c_garlandlaw23_TutteTells_r3 v_garlandlaw23_TutteTells)
  (.seq
  (.draw [0, 1, 2, 3, 4, 6, 8, 9, 10, 12, 13, 14, 15, 16, 47] c_garlandlaw23_TutteTells_r4 v_garlandlaw23_TutteTells)
  (.seq
  (.reg [0, 1, 2, 3, 4, 6, 8, 9, 10, 11, 12, 13, 14, 15, 16, 47] c_garlandlaw23_TutteTells_r5 v_garlandlaw23_TutteTells)
  (.seq
  (.reg [0, 1, 2, 3, 4, 6, 8, 9, 10, 11, 12, 13, 14, 15, 16, 47] c_garlandlaw23_TutteTells_r6 v_garlandlaw23_TutteTells)
  (.seq
  (.draw [0, 1, 2, 3, 4, 6, 8, 9, 10, 11, 12, 13, 14, 15, 16, 47] c_garlandlaw23_TutteTells_r7 v_garlandlaw23_TutteTells)
  (.seq
  (.reg [0, 1, 2, 3, 4, 6, 8, 9, 10, 11, 12, 13, 14, 15, 16, 47] c_garlandlaw23_TutteTells_r8 v_garlandlaw23_TutteTells)
  .ret))))))))
abbrev n_garlandlaw23_TutteTells : Nat := 5
theorem s_garlandlaw23_TutteTells : stripF Try.prog [8] v_garlandlaw23_TutteTells Try.f5 = some (c_garlandlaw23_TutteTells, [(.tmp 8)]) := by kernel_rfl
theorem go_garlandlaw23_TutteTells {L : List (List Nat)} {args : List AVal} {h : Heap} {Q : AVal → Heap → Prop} (hl : args.length = 4) (H : Wlk Try.prog [8] Try.f5.ntmps v_garlandlaw23_TutteTells L c_garlandlaw23_TutteTells (ends L [(.tmp 8)] Q) (entry v_garlandlaw23_TutteTells args h)) : ACalls Try.prog L n_garlandlaw23_TutteTells args h Q :=
  acalls_of_strip mix Try.func5 s_garlandlaw23_TutteTells (by rw [hl]; exact Nat.le_of_ble_eq_true rfl) H
def c_tutte_Lack_r0 : List GOp := [(none, (.box 3 (.t 0))),
  (none, (.box 5 (.t 2))),
  (none, (.asg 6 (.c (.int .i64 0)) true)),
  (none, (.asg 7 (.c (.int .i64 0)) true))]
def c_tutte_Lack_r1 : List GOp := [(none, (.r (.ld 21 (.t 3) 2 true))),
  (none, (.r (.mov 22 (.t 1)))),
  (none, (.call 23 (.f 14) [((.t 21), false), ((.t 22), false)])),
  (none, (.asg 8 (.t 23) true))]
def c_tutte_Lack_r2 : List GOp := [(none, (.r (.mov 24 (.t 8)))),
  (none, (.r (.bin 25 .neq 0 (.t 24) (.c (.int .i64 0)))))]
def c_tutte_Lack_r3 : List GOp := [(none, (.r (.mov 26 (.t 8)))),
  (none, (.asg 6 (.c (.int .i64 0)) true)),
  (none, (.asg 7 (.t 26) true))]
def c_tutte_Lack_r4 : List GOp := [(none, (.r (.fldA 28 (.t 3) 0))),
  (none, (.r (.ld 29 (.t 28) 1 false))),
  (none, (.r (.ld 30 (.t 5) 2 true))),
  (none, (.call 31 (.f 21) [((.t 29), false), ((.t 30), false)])),
  (none, (.r (.mov 27 (.t 31)))),
  (none, (.r (.ext 32 (.t 27) 0))),
  (none, (.r (.ext 33 (.t 27) 1))),
  (none, (.asg 9 (.t 32) true)),
  (none, (.asg 10 (.t 33) true))]
def c_tutte_Lack_r5 : List GOp := [(none, (.r (.mov 34 (.t 10)))),
  (none, (.r (.notb 35 (.t 34))))]
def c_tutte_Lack_r6 : List GOp := [(none, (.asg 6 (.c (.int .i64 0)) true)),
  (none, (.asg 7 (.c (.int .i64 1)) true))]
def c_tutte_Lack_r7 : List GOp := [(none, (.r (.mov 36 (.t 1)))),
  (none, (.mkfn 37 (.func 22) [((.t 36), false)] [])),
  (none, (.asg 11 (.t 37) true))]
def c_tutte_Lack_r8 : Tree := 
  (.take [3, 7, 8, 9] (none, (.r (.mov 38 (.t 11)))) 
  (.take [2, 3, 7, 8, 9] (none, (.r (.fldA 39 (.t 5) 1))) 
  (.take [3, 7, 8, 9] (none, (.r (.ld 40 (.t 39) 1 false))) 
  (.take [7, 8, 9] (none, (.r (.mov 42 (.t 11)))) 
  (.take [6, 7, 8, 9] (none, (.r (.fldA 43 (.t 5) 0))) 
  (.take [7, 8, 9] (none, (.r (.ld 44 (.t 43) 1 false))) 
  (.one 3 (none, (.call 41 (.t 38) [((.t 40), false)])) 
  (.one 7 (none, (.call 45 (.t 42) [((.t 44), false)])) 
  (.take [9] (none, (.r (.bin 46 .sub 0 (.t 41) (.t 45)))) 
  (.one 9 (none, (.asg 12 (.t 46) true)) .done))))))))))
def c_tutte_Lack_r9 : List GOp := [(none, (.r (.fldA 47 (.t 3) 0))),
  (none, (.r (.ld 48 (.t 47) 1 false))),
  (none, (.r (.fldA 49 (.t 3) 1))),
  (none, (.r (.ld 50 (.t 49) 1 false))),
  (none, (.call 51 (.f 23) [((.t 48), false), ((.t 50), false)])),
  (none, (.asg 13 (.t 51) true))]
def c_tutte_Lack_r10 : List GOp := [(none, (.r (.fldA 52 (.t 3) 0))),
  (none, (.r (.ld 53 (.t 52) 1 false))),
  (none, (.mk 54 (.t 53) (.t 53) 1 8 [(.int .i64 0)])),
  (none, (.asg 14 (.t 54) true))]
def c_tutte_Lack_r11 : List GOp := [(none, (.r (.fldA 55 (.t 5) 1))),
  (none, (.r (.ld 56 (.t 55) 1 false))),
  (none, (.r (.len 57 (.t 56)))),
  (none, (.r (.mov 58 (.c (.int .i64 0)))))]
def c_tutte_Lack_r12 : List GOp := [(none, (.r (.bin 59 .lss 0 (.t 58) (.t 57))))]
def c_tutte_Lack_r13 : List GOp := [(none, (.r (.idxA 60 (.t 56) (.t 58) 1))),
  (none, (.r (.ld 61 (.t 60) 1 false))),
  (none, (.asg 16 (.t 61) true))]
def c_tutte_Lack_r14 : List GOp := [(none, (.r (.mov 62 (.t 13)))),
  (none, (.r (.mov 63 (.t 16)))),
  (none, (.r (.idxA 64 (.t 62) (.t 63) 1))),
  (none, (.r (.ld 65 (.t 64) 1 false))),
  (none, (.r (.len 66 (.t 65)))),
  (none, (.r (.mov 67 (.c (.int .i64 0)))))]
def c_tutte_Lack_r15 : List GOp := [(none, (.r (.bin 68 .lss 0 (.t 67) (.t 66))))]
def c_tutte_Lack_r16 : List GOp := [(none, (.r (.idxA 69 (.t 65) (.t 67) 1))),
  (none, (.r (.ld 70 (.t 69) 1 false))),
  (none, (.asg 18 (.t 70) true))]
def c_tutte_Lack_r17 : List GOp := [(none, (.r (.mov 71 (.t 14)))),
  (none, (.r (.mov 72 (.t 18)))),
  (none, (.r (.idxA 73 (.t 71) (.t 72) 1))),
  (none, (.r (.ld 74 (.t 73) 1 false))),
  (none, (.r (.bin 75 .add 0 (.t 74) (.c (.int .i64 1))))),
  (none, (.r (.idxA 76 (.t 71) (.t 72) 1))),
  (none, (.st (.t 76) (.t 75) 1))]
def c_tutte_Lack_r18 : List GOp := [(none, (.r (.mov 77 (.t 9)))),
  (none, (.r (.mov 78 (.t 18)))),
  (none, (.r (.idxA 79 (.t 77) (.t 78) 1))),
  (none, (.r (.ld 80 (.t 79) 1 false))),
  (none, (.r (.bin 81 .neq 0 (.t 80) (.c (.int .i64 1)))))]
def c_tutte_Lack_r19 : List GOp := [(none, (.r (.mov 82 (.t 12)))),
  (none, (.r (.bin 83 .sub 0 (.t 82) (.c (.int .i64 1))))),
  (none, (.asg 12 (.t 83) true))]
def c_tutte_Lack_r20 : List GOp := [(none, (.r (.bin 84 .add 0 (.t 67) (.c (.int .i64 1))))),
  (none, (.asg 67 (.t 84) true))]
def c_tutte_Lack_r21 : List GOp := [(none, (.r (.bin 85 .add 0 (.t 58) (.c (.int .i64 1))))),
  (none, (.asg 58 (.t 85) true))]
def c_tutte_Lack_r22 : List GOp := [(none, (.r (.mov 86 (.t 13)))),
  (none, (.r (.fldA 87 (.t 5) 0))),
  (none, (.r (.ld 88 (.t 87) 1 false))),
  (none, (.r (.fldA 89 (.t 5) 1))),
  (none, (.r (.ld 90 (.t 89) 1 false))),
  (none, (.blds 91 2 1 [((0, 1), ((.t 88), true)), ((1, 1), ((.t 90), true))] [(.slice none 0 0)])),
  (none, (.call 92 (.f 25) [((.t 91), false)])),
  (none, (.call 93 (.f 24) [((.t 86), false), ((.t 92), false)])),
  (none, (.r (.len 94 (.t 93)))),
  (none, (.r (.mov 95 (.c (.int .i64 0)))))]
def c_tutte_Lack_r23 : List GOp := [(none, (.r (.bin 96 .lss 0 (.t 95) (.t 94))))]
def c_tutte_Lack_r24 : List GOp := [(none, (.r (.idxA 97 (.t 93) (.t 95) 1))),
  (none, (.r (.ld 98 (.t 97) 1 false))),
  (none, (.asg 20 (.t 98) true))]
def c_tutte_Lack_r25 : List GOp := [(none, (.r (.mov 99 (.t 12)))),
  (none, (.r (.mov 100 (.t 11)))),
  (none, (.r (.mov 101 (.t 20)))),
  (none, (.call 102 (.t 100) [((.t 101), false)])),
  (none, (.r (.mov 103 (.t 14)))),
  (none, (.r (.mov 104 (.t 20)))),
  (none, (.call 105 (.f 22) [((.t 103), false), ((.t 104), false)])),
  (none, (.r (.bin 106 .add 0 (.t 102) (.t 105)))),
  (none, (.r (.bin 107 .rem 0 (.t 106) (.c (.int .i64 2))))),
  (none, (.r (.bin 108 .add 0 (.t 99) (.t 107)))),
  (none, (.asg 12 (.t 108) true))]
def c_tutte_Lack_r26 : List GOp := [(none, (.r (.bin 109 .add 0 (.t 95) (.c (.int .i64 1))))),
  (none, (.asg 95 (.t 109) true))]
def c_tutte_Lack_r27 : List GOp := [(none, (.r (.mov 110 (.t 12)))),
  (none, (.asg 6 (.t 110) true)),
  (none, (.asg 7 (.c (.int .i64 0)) true))]
def v_tutte_Lack : List Nat := [0, 1, 2, 3, 5, 6, 7, 8, 9, 10, 11, 12, 13, 14, 16, 18, 20, 25, 35, 56, 57, 58, 59, 65, 66, 67, 68, 81, 93, 94, 95, 96]
def c_tutte_Lack : ACode :=
  (.seq
  (.reg [0, 1, 2, 6, 7, 8, 9, 10, 11, 12, 13, 14, 16, 18, 20, 25, 35, 56, 57, 58, 59, 65, 66, 67, 68, 81, 93, 94, 95, 96] c_tutte_Lack_r0 v_tutte_Lack)
  (.seq
  (.seq
  (.reg [0, 1, 2, 3, 5, 6, 7, 8, 9, 10, 11, 12, 13, 14, 16, 18, 20, 25, 35, 56, 57, 58, 59, 65, 66, 67, 68, 81, 93, 94, 95, 96] c_tutte_Lack_r1 v_tutte_Lack)
  (.seq
  (.reg [0, 1, 2, 3, 5, 6, 7, 8, 9, 10, 11, 12, 13, 14, 16, 18, 20, 35, 56, 57, 58, 59, 65, 66, 67, 68, 81, 93, 94, 95, 96] c_tutte_Lack_r2 v_tutte_Lack)
  (.cond (.t 25) (.seq
  (.reg [0, 1, 2, 3, 5, 6, 7, 8, 9, 10, 11, 12, 13, 14, 16, 18, 20, 25, 35, 56, 57, 58, 59, 65, 66, 67, 68, 81, 93, 94, 95, 96] c_tutte_Lack_r3 v_tutte_Lack)
  .ret) .skip)))
  (.seq
  (.reg [0, 1, 2, 3, 5, 6, 7, 8, 9, 10, 11, 12, 13, 14, 16, 18, 20, 25, 35, 56, 57, 58, 59, 65, 66, 67, 68, 81, 93, 94, 95, 96] c_tutte_Lack_r4 v_tutte_Lack)
  (.seq
  (.seq
  (.reg [0, 1, 2, 3, 5, 6, 7, 8, 9, 10, 11, 12, 13, 14, 16, 18, 20, 25, 56, 57, 58, 59, 65, 66, 67, 68, 81, 93, 94, 95, 96] c_tutte_Lack_r5 v_tutte_Lack)
  (.cond (.t 35) (.seq
  (.reg [0, 1, 2, 3, 5, 6, 7, 8, 9, 10, 11, 12, 13, 14, 16, 18, 20, 25, 35, 56, 57, 58, 59, 65, 66, 67, 68, 81, 93, 94, 95, 96] c_tutte_Lack_r6 v_tutte_Lack)
  .ret) .skip))
  (.seq
  (.reg [0, 1, 2, 3, 5, 6, 7, 8, 9, 10, 11, 12, 13, 14, 16, 18, 20, 25, 35, 56, 57, 58, 59, 65, 66, 67, 68, 81, 93, 94, 95, 96] c_tutte_Lack_r7 v_tutte_Lack)
  (.seq
  (.draw [0, 1, 2, 3, 5, 6, 7, 8, 9, 10, 11, 12, 13, 14, 16, 18, 20, 25, 35, 56, 57, 58, 59, 65, 66, 67, 68, 81, 93, 94, 95, 96] c_tutte_Lack_r8 v_tutte_Lack)
  (.seq
  (.reg [0, 1, 2, 3, 5, 6, 7, 8, 9, 10, 11, 12, 13, 14, 16, 18, 20, 25, 35, 56, 57, 58, 59, 65, 66, 67, 68, 81, 93, 94, 95, 96] c_tutte_Lack_r9 v_tutte_Lack)
  (.seq
  (.reg [0, 1, 2, 3, 5, 6, 7, 8, 9, 10, 11, 12, 13, 14, 16, 18, 20, 25, 35, 56, 57, 58, 59, 65, 66, 67, 68, 81, 93, 94, 95, 96] c_tutte_Lack_r10 v_tutte_Lack)
  (.seq
  (.seq
  (.reg [0, 1, 2, 3, 5, 6, 7, 8, 9, 10, 11, 12, 13, 14, 16, 18, 20, 25, 35, 59, 65, 66, 67, 68, 81, 93, 94, 95, 96] c_tutte_Lack_r11 v_tutte_Lack)
  (.blk 0 (.loop (.seq
  (.reg [0, 1, 2, 3, 5, 6, 7, 8, 9, 10, 11, 12, 13, 14, 16, 18, 20, 25, 35, 56, 57, 58, 65, 66, 67, 68, 81, 93, 94, 95, 96] c_tutte_Lack_r12 v_tutte_Lack)
  (.seq
  (.cond (.t 59) .skip (.exit 0))
  (.seq
  (.blk 1 (.seq
  (.reg [0, 1, 2, 3, 5, 6, 7, 8, 9, 10, 11, 12, 13, 14, 16, 18, 20, 25, 35, 56, 57, 58, 59, 65, 66, 67, 68, 81, 93, 94, 95, 96] c_tutte_Lack_r13 v_tutte_Lack)
  (.seq
  (.reg [0, 1, 2, 3, 5, 6, 7, 8, 9, 10, 11, 12, 13, 14, 16, 18, 20, 25, 35, 56, 57, 58, 59, 68, 81, 93, 94, 95, 96] c_tutte_Lack_r14 v_tutte_Lack)
  (.blk 2 (.loop (.seq
  (.reg [0, 1, 2, 3, 5, 6, 7, 8, 9, 10, 11, 12, 13, 14, 16, 18, 20, 25, 35, 56, 57, 58, 59, 65, 66, 67, 81, 93, 94, 95, 96] c_tutte_Lack_r15 v_tutte_Lack)
  (.seq
  (.cond (.t 68) .skip (.exit 2))
  (.seq
  (.blk 3 (.seq
  (.reg [0, 1, 2, 3, 5, 6, 7, 8, 9, 10, 11, 12, 13, 14, 16, 18, 20, 25, 35, 56, 57, 58, 59, 65, 66, 67, 68, 81, 93, 94, 95, 96] c_tutte_Lack_r16 v_tutte_Lack)
  (.seq
  (.reg [0, 1, 2, 3, 5, 6, 7, 8, 9, 10, 11, 12, 13, 14, 16, 18, 20, 25, 35, 56, 57, 58, 59, 65, 66, 67, 68, 81, 93, 94, 95, 96] c_tutte_Lack_r17 v_tutte_Lack)
  (.seq
  (.reg [0, 1, 2, 3, 5, 6, 7, 8, 9, 10, 11, 12, 13, 14, 16, 18, 20, 25, 35, 56, 57, 58, 59, 65, 66, 67, 68, 93, 94, 95, 96] c_tutte_Lack_r18 v_tutte_Lack)
  (.cond (.t 81) (.reg [0, 1, 2, 3, 5, 6, 7, 8, 9, 10, 11, 12, 13, 14, 16, 18, 20, 25, 35, 56, 57, 58, 59, 65, 66, 67, 68, 81, 93, 94, 95, 96] c_tutte_Lack_r19 v_tutte_Lack) .skip)))))
  (.reg [0, 1, 2, 3, 5, 6, 7, 8, 9, 10, 11, 12, 13, 14, 16, 18, 20, 25, 35, 56, 57, 58, 59, 65, 66, 67, 68, 81, 93, 94, 95, 96] c_tutte_Lack_r20 v_tutte_Lack)))))))))
  (.reg [0, 1, 2, 3, 5, 6, 7, 8, 9, 10, 11, 12, 13, 14, 16, 18, 20, 25, 35, 56, 57, 58, 59, 65, 66, 67, 68, 81, 93, 94, 95, 96] c_tutte_Lack_r21 v_tutte_Lack)))))))
  (.seq
  (.seq
  (.reg [0, 1, 2, 3, 5, 6, 7, 8, 9, 10, 11, 12, 13, 14, 16, 18, 20, 25, 35, 56, 57, 58, 59, 65, 66, 67, 68, 81, 96] c_tutte_Lack_r22 v_tutte_Lack)
  (.blk 4 (.loop (.seq
  (.reg [0, 1, 2, 3, 5, 6, 7, 8, 9, 10, 11, 12, 13, 14, 16, 18, 20, 25, 35, 56, 57, 58, 59, 65, 66, 67, 68, 81, 93, 94, 95] c_tutte_Lack_r23 v_tutte_Lack)
  (.seq
  (.cond (.t 96) .skip (.exit 4))
  (.seq
  (.blk 5 (.seq
  (.reg [0, 1, 2, 3, 5, 6, 7, 8, 9, 10, 11, 12, 13, 14, 16, 18, 20, 25, 35, 56, 57, 58, 59, 65, 66, 67, 68, 81, 93, 94, 95, 96] c_tutte_Lack_r24 v_tutte_Lack)
  (.reg [0, 1, 2, 3, 5, 6, 7, 8, 9, 10, 11, 12, 13, 14, 16, 18, 20, 25, 35, 56, 57, 58, 59, 65, 66, 67, 68, 81, 93, 94, 95, 96] c_tutte_Lack_r25 v_tutte_Lack)))
  (.reg [0, 1, 2, 3, 5, 6, 7, 8, 9, 10, 11, 12, 13, 14, 16, 18, 20, 25, 35, 56, 57, 58, 59, 65, 66, 67, 68, 81, 93, 94, 95, 96] c_tutte_Lack_r26 v_tutte_Lack)))))))
  (.seq
  (.reg [0, 1, 2, 3, 5, 6, 7, 8, 9, 10, 11, 12, 13, 14, 16, 18, 20, 25, 35, 56, 57, 58, 59, 65, 66, 67, 68, 81, 93, 94, 95, 96] c_tutte_Lack_r27 v_tutte_Lack)
  .ret)))))))))))
abbrev n_tutte_Lack : Nat := 9
theorem s_tutte_Lack : stripF Try.prog [6, 7] v_tutte_Lack Try.f9 = some (c_tutte_Lack, [(.tmp 6), (.tmp 7)]) := by kernel_rfl
theorem go_tutte_Lack {L : List (List Nat)} {args : List AVal} {h : Heap} {Q : AVal → Heap → Prop} (hl : args.length = 3) (H : Wlk Try.prog [6, 7] Try.f9.ntmps v_tutte_Lack L c_tutte_Lack (ends L [(.tmp 6), (.tmp 7)] Q) (entry v_tutte_Lack args h)) : ACalls Try.prog L n_tutte_Lack args h Q :=
  acalls_of_strip mix Try.func9 s_tutte_Lack (by rw [hl]; exact Nat.le_of_ble_eq_true rfl) H
def c_garlandlaw23_awake_r0 : List GOp := [(none, (.asg 0 (.c (.bool false)) true))]
def c_garlandlaw23_awake_r1 : List GOp := [(none, (.bld 4 [((0, 1), ((.c (.int .i64 1)), true))] [(.int .i64 0), (.slice none 0 0)])),
  (none, (.blds 5 1 1 [((0, 1), ((.c (.int .i64 1)), true))] [(.int .i64 0)])),
  (none, (.bld 6 [] [(.slice none 0 0), (.slice none 0 0)])),
  (none, (.call 7 (.f 9) [((.t 4), false), ((.t 5), false), ((.t 6), false)])),
  (none, (.r (.mov 3 (.t 7)))),
  (none, (.r (.ext 8 (.t 3) 0))),
  (none, (.r (.ext 9 (.t 3) 1))),
  (none, (.asg 1 (.t 8) true)),
  (none, (.asg 2 (.t 9) true))]
def c_garlandlaw23_awake_r2 : List GOp := [(none, (.r (.mov 10 (.t 1)))),
  (none, (.r (.bin 11 .eql 0 (.t 10) (.c (.int .i64 1))))),
  (none, (.r (.mov 12 (.t 11)))), ((some (12, true)), (.r (.mov 13 (.t 2)))), ((some (12, true)), (.r (.bin 14 .eql 0 (.t 13) (.c (.int .i64 0))))),
  (none, (.r (.pick 15 (.t 12) (.t 14) (.c (.bool false))))),
  (none, (.r (.mov 16 (.t 15)))), ((some (16, true)), (.bld 17 [((0, 1), ((.c (.int .i64 1)), true))] [(.int .i64 0), (.slice none 0 0)])), ((some (16, true)), (.call 18 (.f 14) [((.t 17), false), ((.c (.slice none 0 0)), false)])), ((some (16, true)), (.r (.bin 19 .eql 0 (.t 18) (.c (.int .i64 12))))),
  (none, (.r (.pick 20 (.t 16) (.t 19) (.c (.bool false))))),
  (none, (.asg 0 (.t 20) true))]
def v_garlandlaw23_awake : List Nat := [0, 1, 2]
def c_garlandlaw23_awake : ACode :=
  (.seq
  (.reg [0, 1, 2] c_garlandlaw23_awake_r0 v_garlandlaw23_awake)
  (.seq
  (.reg [0, 1, 2] c_garlandlaw23_awake_r1 v_garlandlaw23_awake)
  (.seq
  (.reg [0, 1, 2] c_garlandlaw23_awake_r2 v_garlandlaw23_awake)
  .ret)))
abbrev n_garlandlaw23_awake : Nat := 10
theorem s_garlandlaw23_awake : stripF Try.prog [0] v_garlandlaw23_awake Try.f10 = some (c_garlandlaw23_awake, [(.tmp 0)]) := by kernel_rfl
theorem go_garlandlaw23_awake {L : List (List Nat)} {args : List AVal} {h : Heap} {Q : AVal → Heap → Prop} (hl : args.length = 0) (H : Wlk Try.prog [0] Try.f10.ntmps v_garlandlaw23_awake L c_garlandlaw23_awake (ends L [(.tmp 0)] Q) (entry v_garlandlaw23_awake args h)) : ACalls Try.prog L n_garlandlaw23_awake args h Q :=
  acalls_of_strip mix Try.func10 s_garlandlaw23_awake (by rw [hl]; exact Nat.le_of_ble_eq_true rfl) H
def c_garlandhelp_Own_int__r0 : List GOp := [(none, (.asg 4 (.c (.slice none 0 0)) true))]
def c_garlandhelp_Own_int__r1 : List GOp := [(none, (.r (.mov 8 (.t 0)))),
  (none, (.r (.len 9 (.t 8)))),
  (none, (.r (.bin 10 .add 0 (.t 9) (.c (.int .i64 3))))),
  (none, (.mko 11 (.c (.int .i64 0)) (.t 10) 1 8 [(.int .i64 0)])),
  (none, (.asg 5 (.t 11) true))]
def c_garlandhelp_Own_int__r2 : List GOp := [(none, (.r (.mov 12 (.t 5)))),
  (none, (.r (.mov 13 (.t 0)))),
  (none, (.app 14 (.t 12) (.t 13) 1 8)),
  (none, (.asg 5 (.t 14) true))]
def c_garlandhelp_Own_int__r3 : List GOp := [(none, (.r (.mov 15 (.t 5)))),
  (none, (.r (.mov 16 (.t 0)))),
  (none, (.r (.len 17 (.t 16)))),
  (none, (.r (.bin 18 .add 0 (.t 17) (.c (.int .i64 3))))),
  (none, (.slc 19 (.t 15) none (some (.t 18)) 1)),
  (none, (.asg 6 (.t 19) true))]
def c_garlandhelp_Own_int__r4 : List GOp := [(none, (.r (.mov 20 (.t 0)))),
  (none, (.r (.len 21 (.t 20)))),
  (none, (.asg 7 (.t 21) true))]
def c_garlandhelp_Own_int__r5 : List GOp := [(none, (.r (.mov 22 (.t 7)))),
  (none, (.r (.mov 23 (.t 6)))),
  (none, (.r (.len 24 (.t 23)))),
  (none, (.r (.bin 25 .lss 0 (.t 22) (.t 24))))]
def c_garlandhelp_Own_int__r6 : List GOp := [(none, (.r (.mov 28 (.t 6)))),
  (none, (.r (.mov 29 (.t 7)))),
  (none, (.r (.mov 30 (.t 1)))),
  (none, (.r (.idxA 31 (.t 28) (.t 29) 1))),
  (none, (.st (.t 31) (.t 30) 1))]
def c_garlandhelp_Own_int__r7 : List GOp := [(none, (.r (.mov 26 (.t 7)))),
  (none, (.r (.bin 27 .add 0 (.t 26) (.c (.int .i64 1))))),
  (none, (.asg 7 (.t 27) true))]
def c_garlandhelp_Own_int__r8 : List GOp := [(none, (.r (.mov 32 (.t 5)))),
  (none, (.asg 4 (.t 32) true))]
def v_garlandhelp_Own_int_ : List Nat := [0, 1, 4, 5, 6, 7, 25]
def c_garlandhelp_Own_int_ : ACode :=
  (.seq
  (.reg [0, 1, 4, 5, 6, 7, 25] c_garlandhelp_Own_int__r0 v_garlandhelp_Own_int_)
  (.seq
  (.reg [0, 1, 4, 5, 6, 7, 25] c_garlandhelp_Own_int__r1 v_garlandhelp_Own_int_)
  (.seq
  (.reg [0, 1, 4, 5, 6, 7, 25] c_garlandhelp_Own_int__r2 v_garlandhelp_Own_int_)
  (.seq
  (.reg [0, 1, 4, 5, 6, 7, 25] c_garlandhelp_Own_int__r3 v_garlandhelp_Own_int_)
  (.seq
  (.seq
  (.reg [0, 1, 4, 5, 6, 7, 25] c_garlandhelp_Own_int__r4 v_garlandhelp_Own_int_)
  (.blk 0 (.loop (.seq
  (.seq
  (.reg [0, 1, 4, 5, 6, 7] c_garlandhelp_Own_int__r5 v_garlandhelp_Own_int_)
  (.cond (.t 25) .skip (.exit 0)))
  (.seq
  (.blk 1 (.reg [0, 1, 4, 5, 6, 7, 25] c_garlandhelp_Own_int__r6 v_garlandhelp_Own_int_))
  (.reg [0, 1, 4, 5, 6, 7, 25] c_garlandhelp_Own_int__r7 v_garlandhelp_Own_int_))))))
  (.seq
  (.reg [0, 1, 4, 5, 6, 7, 25] c_garlandhelp_Own_int__r8 v_garlandhelp_Own_int_)
  .ret))))))
abbrev n_garlandhelp_Own_int_ : Nat := 11
theorem s_garlandhelp_Own_int_ : stripF Try.prog [4] v_garlandhelp_Own_int_ Try.f11 = some (c_garlandhelp_Own_int_, [(.tmp 4)]) := by kernel_rfl
theorem go_garlandhelp_Own_int_ {L : List (List Nat)} {args : List AVal} {h : Heap} {Q : AVal → Heap → Prop} (hl : args.length = 2) (H : Wlk Try.prog [4] Try.f11.ntmps v_garlandhelp_Own_int_ L c_garlandhelp_Own_int_ (ends L [(.tmp 4)] Q) (entry v_garlandhelp_Own_int_ args h)) : ACalls Try.prog L n_garlandhelp_Own_int_ args h Q :=
  acalls_of_strip mix Try.func11 s_garlandhelp_Own_int_ (by rw [hl]; exact Nat.le_of_ble_eq_true rfl) H
def c_garlandhelp_Own_api_Edge__r0 : List GOp := [(none, (.box 3 (.t 1))),
  (none, (.asg 4 (.c (.slice none 0 0)) true))]
def c_garlandhelp_Own_api_Edge__r1 : List GOp := [(none, (.r (.mov 8 (.t 0)))),
  (none, (.r (.len 9 (.t 8)))),
  (none, (.r (.bin 10 .add 0 (.t 9) (.c (.int .i64 3))))),
  (none, (.mko 11 (.c (.int .i64 0)) (.t 10) 2 16 [(.int .i64 0), (.int .i64 0)])),
  (none, (.asg 5 (.t 11) true))]
def c_garlandhelp_Own_api_Edge__r2 : List GOp := [(none, (.r (.mov 12 (.t 5)))),
  (none, (.r (.mov 13 (.t 0)))),
  (none, (.app 14 (.t 12) (.t 13) 2 16)),
  (none, (.asg 5 (.t 14) true))]
def c_garlandhelp_Own_api_Edge__r3 : List GOp := [(none, (.r (.mov 15 (.t 5)))),
  (none, (.r (.mov 16 (.t 0)))),
  (none, (.r (.len 17 (.t 16)))),
  (none, (.r (.bin 18 .add 0 (.t 17) (.c (.int .i64 3))))),
  (none, (.slc 19 (.t 15) none (some (.t 18)) 2)),
  (none, (.asg 6 (.t 19) true))]
def c_garlandhelp_Own_api_Edge__r4 : List GOp := [(none, (.r (.mov 20 (.t 0)))),
  (none, (.r (.len 21 (.t 20)))),
  (none, (.asg 7 (.t 21) true))]
def c_garlandhelp_Own_api_Edge__r5 : List GOp := [(none, (.r (.mov 22 (.t 7)))),
  (none, (.r (.mov 23 (.t 6)))),
  (none, (.r (.len 24 (.t 23)))),
  (none, (.r (.bin 25 .lss 0 (.t 22) (.t 24))))]
def c_garlandhelp_Own_api_Edge__r6 : List GOp := [(none, (.r (.mov 28 (.t 6)))),
  (none, (.r (.mov 29 (.t 7)))),
  (none, (.r (.ld 30 (.t 3) 2 true))),
  (none, (.r (.idxA 31 (.t 28) (.t 29) 2))),
  (none, (.st (.t 31) (.t 30) 2))]
def c_garlandhelp_Own_api_Edge__r7 : List GOp := [(none, (.r (.mov 26 (.t 7)))),
  (none, (.r (.bin 27 .add 0 (.t 26) (.c (.int .i64 1))))),
  (none, (.asg 7 (.t 27) true))]
def c_garlandhelp_Own_api_Edge__r8 : List GOp := [(none, (.r (.mov 32 (.t 5)))),
  (none, (.asg 4 (.t 32) true))]
def v_garlandhelp_Own_api_Edge_ : List Nat := [0, 1, 3, 4, 5, 6, 7, 25]
def c_garlandhelp_Own_api_Edge_ : ACode :=
  (.seq
  (.reg [0, 1, 4, 5, 6, 7, 25] c_garlandhelp_Own_api_Edge__r0 v_garlandhelp_Own_api_Edge_)
  (.seq
  (.reg [0, 1, 3, 4, 5, 6, 7, 25] c_garlandhelp_Own_api_Edge__r1 v_garlandhelp_Own_api_Edge_)
  (.seq
  (.reg [0, 1, 3, 4, 5, 6, 7, 25] c_garlandhelp_Own_api_Edge__r2 v_garlandhelp_Own_api_Edge_)
  (.seq
  (.reg [0, 1, 3, 4, 5, 6, 7, 25] c_garlandhelp_Own_api_Edge__r3 v_garlandhelp_Own_api_Edge_)
  (.seq
  (.seq
  (.reg [0, 1, 3, 4, 5, 6, 7, 25] c_garlandhelp_Own_api_Edge__r4 v_garlandhelp_Own_api_Edge_)
  (.blk 0 (.loop (.seq
  (.seq
  (.reg [0, 1, 3, 4, 5, 6, 7] c_garlandhelp_Own_api_Edge__r5 v_garlandhelp_Own_api_Edge_)
  (.cond (.t 25) .skip (.exit 0)))
  (.seq
  (.blk 1 (.reg [0, 1, 3, 4, 5, 6, 7, 25] c_garlandhelp_Own_api_Edge__r6 v_garlandhelp_Own_api_Edge_))
  (.reg [0, 1, 3, 4, 5, 6, 7, 25] c_garlandhelp_Own_api_Edge__r7 v_garlandhelp_Own_api_Edge_))))))
  (.seq
  (.reg [0, 1, 3, 4, 5, 6, 7, 25] c_garlandhelp_Own_api_Edge__r8 v_garlandhelp_Own_api_Edge_)
  .ret))))))
abbrev n_garlandhelp_Own_api_Edge_ : Nat := 12
theorem s_garlandhelp_Own_api_Edge_ : stripF Try.prog [4] v_garlandhelp_Own_api_Edge_ Try.f12 = some (c_garlandhelp_Own_api_Edge_, [(.tmp 4)]) := by kernel_rfl
theorem go_garlandhelp_Own_api_Edge_ {L : List (List Nat)} {args : List AVal} {h : Heap} {Q : AVal → Heap → Prop} (hl : args.length = 2) (H : Wlk Try.prog [4] Try.f12.ntmps v_garlandhelp_Own_api_Edge_ L c_garlandhelp_Own_api_Edge_ (ends L [(.tmp 4)] Q) (entry v_garlandhelp_Own_api_Edge_ args h)) : ACalls Try.prog L n_garlandhelp_Own_api_Edge_ args h Q :=
  acalls_of_strip mix Try.func12 s_garlandhelp_Own_api_Edge_ (by rw [hl]; exact Nat.le_of_ble_eq_true rfl) H
def c_garlandref23_Lack_r0 : List GOp := [(none, (.box 3 (.t 0))),
  (none, (.box 5 (.t 2))),
  (none, (.asg 6 (.c (.int .i64 0)) true)),
  (none, (.asg 7 (.c (.int .i64 0)) true))]
def c_garlandref23_Lack_r1 : List GOp := [(none, (.r (.ld 23 (.t 3) 2 true))),
  (none, (.r (.mov 24 (.t 1)))),
  (none, (.call 25 (.f 15) [((.t 23), false), ((.t 24), false)])),
  (none, (.asg 8 (.t 25) true))]
def c_garlandref23_Lack_r2 : List GOp := [(none, (.r (.mov 26 (.t 8)))),
  (none, (.r (.bin 27 .neq 0 (.t 26) (.c (.int .i64 0)))))]
def c_garlandref23_Lack_r3 : List GOp := [(none, (.r (.mov 28 (.t 8)))),
  (none, (.asg 6 (.c (.int .i64 0)) true)),
  (none, (.asg 7 (.t 28) true))]
def c_garlandref23_Lack_r4 : List GOp := [(none, (.r (.ld 29 (.t 3) 2 true))),
  (none, (.r (.fldA 30 (.t 5) 0))),
  (none, (.r (.ld 31 (.t 30) 1 false))),
  (none, (.call 32 (.f 26) [((.t 29), false), ((.t 31), false)])),
  (none, (.r (.mov 33 (.t 32)))), ((some (33, true)), (.r (.ld 34 (.t 3) 2 true))), ((some (33, true)), (.r (.fldA 35 (.t 5) 1))), ((some (33, true)), (.r (.ld 36 (.t 35) 1 false))), ((some (33, true)), (.call 37 (.f 26) [((.t 34), false), ((.t 36), false)])),
  (none, (.r (.pick 38 (.t 33) (.t 37) (.c (.bool false))))),
  (none, (.asg 9 (.t 38) true))]
def c_garlandref23_Lack_r5 : List GOp := [(none, (.asg 10 (.c (.int .i64 0)) true))]
def c_garlandref23_Lack_r6 : List GOp := [(none, (.r (.mov 39 (.t 10)))),
  (none, (.r (.fldA 40 (.t 5) 0))),
  (none, (.r (.ld 41 (.t 40) 1 false))),
  (none, (.r (.len 42 (.t 41)))),
  (none, (.r (.bin 43 .lss 0 (.t 39) (.t 42))))]
def c_garlandref23_Lack_r7 : Tree := 
  (.take [1, 2, 3, 4, 5, 6, 7, 8, 9, 10, 11, 12] (none, (.r (.mov 46 (.t 9)))) 
  (.take [2, 3, 4, 5, 6, 7, 8, 9, 10, 11, 12] (none, (.r (.mov 47 (.t 46)))) 
  (.take [3, 9, 10, 11, 12] ((some (47, true)), (.r (.fldA 48 (.t 5) 1))) 
  (.take [9, 10, 11, 12] ((some (47, true)), (.r (.ld 49 (.t 48) 1 false))) 
  (.take [5, 7, 8, 9, 10, 11, 12] ((some (47, true)), (.r (.fldA 50 (.t 5) 0))) 
  (.take [7, 8, 9, 10, 11, 12] ((some (47, true)), (.r (.ld 51 (.t 50) 1 false))) 
  (.take [7, 8, 9, 10, 11, 12] ((some (47, true)), (.r (.mov 52 (.t 10)))) 
  (.take [8, 9, 10, 11, 12] ((some (47, true)), (.r (.idxA 53 (.t 51) (.t 52) 1))) 
  (.take [9, 10, 11, 12] ((some (47, true)), (.r (.ld 54 (.t 53) 1 false))) 
  (.one 9 ((some (47, true)), (.call 55 (.f 27) [((.t 49), false), ((.t 54), false)])) 
  (.take [11, 12] ((some (47, true)), (.r (.notb 56 (.t 55)))) 
  (.take [12] (none, (.r (.pick 57 (.t 47) (.t 56) (.c (.bool false))))) 
  (.one 12 (none, (.asg 9 (.t 57) true)) .done)))))))))))))
def c_garlandref23_Lack_r8 : List GOp := [(none, (.r (.mov 44 (.t 10)))),
  (none, (.r (.bin 45 .add 0 (.t 44) (.c (.int .i64 1))))),
  (none, (.asg 10 (.t 45) true))]
def c_garlandref23_Lack_r9 : List GOp := [(none, (.r (.mov 58 (.t 9)))),
  (none, (.r (.notb 59 (.t 58))))]
def c_garlandref23_Lack_r10 : List GOp := [(none, (.asg 6 (.c (.int .i64 0)) true)),
  (none, (.asg 7 (.c (.int .i64 1)) true))]
def c_garlandref23_Lack_r11 : List GOp := [(none, (.asg 11 (.c (.int .i64 0)) true))]
def c_garlandref23_Lack_r12 : List GOp := [(none, (.asg 12 (.c (.int .i64 0)) true))]
def c_garlandref23_Lack_r13 : List GOp := [(none, (.r (.mov 60 (.t 12)))),
  (none, (.r (.fldA 61 (.t 5) 1))),
  (none, (.r (.ld 62 (.t 61) 1 false))),
  (none, (.r (.len 63 (.t 62)))),
  (none, (.r (.bin 64 .lss 0 (.t 60) (.t 63))))]
def c_garlandref23_Lack_r14 : List GOp := [(none, (.r (.mov 67 (.t 11)))),
  (none, (.r (.mov 68 (.t 1)))),
  (none, (.r (.fldA 69 (.t 5) 1))),
  (none, (.r (.ld 70 (.t 69) 1 false))),
  (none, (.r (.mov 71 (.t 12)))),
  (none, (.r (.idxA 72 (.t 70) (.t 71) 1))),
  (none, (.r (.ld 73 (.t 72) 1 false))),
  (none, (.r (.idxA 74 (.t 68) (.t 73) 1))),
  (none, (.r (.ld 75 (.t 74) 1 false))),
  (none, (.r (.bin 76 .add 0 (.t 67) (.t 75)))),
  (none, (.asg 11 (.t 76) true))]
def c_garlandref23_Lack_r15 : Tree := 
  (.take [6, 7] (none, (.r (.ld 77 (.t 3) 2 true))) 
  (.take [2, 4, 5, 6, 7] (none, (.r (.fldA 78 (.t 5) 1))) 
  (.take [4, 5, 6, 7] (none, (.r (.ld 79 (.t 78) 1 false))) 
  (.take [4, 5, 6, 7] (none, (.r (.mov 80 (.t 12)))) 
  (.take [5, 6, 7] (none, (.r (.idxA 81 (.t 79) (.t 80) 1))) 
  (.take [6, 7] (none, (.r (.ld 82 (.t 81) 1 false))) 
  (.one 6 (none, (.call 83 (.f 28) [((.t 77), false), ((.t 82), false)])) 
  (.one 7 (none, (.asg 13 (.t 83) true)) .done))))))))
def c_garlandref23_Lack_r16 : List GOp := [(none, (.asg 14 (.c (.int .i64 0)) true))]
def c_garlandref23_Lack_r17 : List GOp := [(none, (.r (.mov 84 (.t 14)))),
  (none, (.r (.mov 85 (.t 13)))),
  (none, (.r (.len 86 (.t 85)))),
  (none, (.r (.bin 87 .lss 0 (.t 84) (.t 86))))]
def c_garlandref23_Lack_r18 : Tree := 
  (.take [1, 6, 7] (none, (.r (.fldA 90 (.t 5) 0))) 
  (.take [6, 7] (none, (.r (.ld 91 (.t 90) 1 false))) 
  (.take [4, 5, 6, 7] (none, (.r (.mov 92 (.t 13)))) 
  (.take [4, 5, 6, 7] (none, (.r (.mov 93 (.t 14)))) 
  (.take [5, 6, 7] (none, (.r (.idxA 94 (.t 92) (.t 93) 1))) 
  (.take [6, 7] (none, (.r (.ld 95 (.t 94) 1 false))) 
  (.one 6 (none, (.call 96 (.f 27) [((.t 91), false), ((.t 95), false)])) 
  (.take [] (none, (.r (.notb 97 (.t 96)))) .done))))))))
def c_garlandref23_Lack_r19 : List GOp := [(none, (.r (.mov 98 (.t 11)))),
  (none, (.r (.bin 99 .sub 0 (.t 98) (.c (.int .i64 1))))),
  (none, (.asg 11 (.t 99) true))]
def c_garlandref23_Lack_r20 : List GOp := [(none, (.r (.mov 88 (.t 14)))),
  (none, (.r (.bin 89 .add 0 (.t 88) (.c (.int .i64 1))))),
  (none, (.asg 14 (.t 89) true))]
def c_garlandref23_Lack_r21 : List GOp := [(none, (.r (.mov 65 (.t 12)))),
  (none, (.r (.bin 66 .add 0 (.t 65) (.c (.int .i64 1))))),
  (none, (.asg 12 (.t 66) true))]
def c_garlandref23_Lack_r22 : List GOp := [(none, (.asg 15 (.c (.int .i64 0)) true))]
def c_garlandref23_Lack_r23 : List GOp := [(none, (.r (.mov 100 (.t 15)))),
  (none, (.r (.fldA 101 (.t 5) 0))),
  (none, (.r (.ld 102 (.t 101) 1 false))),
  (none, (.r (.len 103 (.t 102)))),
  (none, (.r (.bin 104 .lss 0 (.t 100) (.t 103))))]
def c_garlandref23_Lack_r24 : List GOp := [(none, (.r (.mov 107 (.t 11)))),
  (none, (.r (.mov 108 (.t 1)))),
  (none, (.r (.fldA 109 (.t 5) 0))),
  (none, (.r (.ld 110 (.t 109) 1 false))),
  (none, (.r (.mov 111 (.t 15)))),
  (none, (.r (.idxA 112 (.t 110) (.t 111) 1))),
  (none, (.r (.ld 113 (.t 112) 1 false))),
  (none, (.r (.idxA 114 (.t 108) (.t 113) 1))),
  (none, (.r (.ld 115 (.t 114) 1 false))),
  (none, (.r (.bin 116 .sub 0 (.t 107) (.t 115)))),
  (none, (.asg 11 (.t 116) true))]
def c_garlandref23_Lack_r25 : List GOp := [(none, (.r (.mov 105 (.t 15)))),
  (none, (.r (.bin 106 .add 0 (.t 105) (.c (.int .i64 1))))),
  (none, (.asg 15 (.t 106) true))]
def c_garlandref23_Lack_r26 : Tree := 
  (.take [7, 8] (none, (.r (.ld 117 (.t 3) 2 true))) 
  (.take [2, 3, 6, 7, 8] (none, (.r (.fldA 118 (.t 5) 0))) 
  (.take [3, 6, 7, 8] (none, (.r (.ld 119 (.t 118) 1 false))) 
  (.take [5, 6, 7, 8] (none, (.r (.fldA 121 (.t 5) 1))) 
  (.take [6, 7, 8] (none, (.r (.ld 122 (.t 121) 1 false))) 
  (.one 3 (none, (.app 120 (.c (.slice none 0 0)) (.t 119) 1 8)) 
  (.one 6 (none, (.app 123 (.t 120) (.t 122) 1 8)) 
  (.one 7 (none, (.call 124 (.f 29) [((.t 117), false), ((.t 123), false)])) 
  (.one 8 (none, (.asg 16 (.t 124) true)) .done)))))))))
def c_garlandref23_Lack_r27 : List GOp := [(none, (.asg 17 (.c (.int .i64 0)) true))]
def c_garlandref23_Lack_r28 : List GOp := [(none, (.r (.mov 125 (.t 17)))),
  (none, (.r (.mov 126 (.t 16)))),
  (none, (.r (.len 127 (.t 126)))),
  (none, (.r (.bin 128 .lss 0 (.t 125) (.t 127))))]
def c_garlandref23_Lack_r29 : List GOp := [(none, (.asg 18 (.c (.int .i64 0)) true))]
def c_garlandref23_Lack_r30 : List GOp := [(none, (.asg 19 (.c (.int .i64 0)) true))]
def c_garlandref23_Lack_r31 : List GOp := [(none, (.r (.mov 131 (.t 19)))),
  (none, (.r (.mov 132 (.t 16)))),
  (none, (.r (.mov 133 (.t 17)))),
  (none, (.r (.idxA 134 (.t 132) (.t 133) 1))),
  (none, (.r (.ld 135 (.t 134) 1 false))),
  (none, (.r (.len 136 (.t 135)))),
  (none, (.r (.bin 137 .lss 0 (.t 131) (.t 136))))]
def c_garlandref23_Lack_r32 : List GOp := [(none, (.r (.mov 140 (.t 16)))),
  (none, (.r (.mov 141 (.t 17)))),
  (none, (.r (.idxA 142 (.t 140) (.t 141) 1))),
  (none, (.r (.ld 143 (.t 142) 1 false))),
  (none, (.r (.mov 144 (.t 19)))),
  (none, (.r (.idxA 145 (.t 143) (.t 144) 1))),
  (none, (.r (.ld 146 (.t 145) 1 false))),
  (none, (.asg 20 (.t 146) true))]
def c_garlandref23_Lack_r33 : List GOp := [(none, (.r (.mov 147 (.t 18)))),
  (none, (.r (.mov 148 (.t 1)))),
  (none, (.r (.mov 149 (.t 20)))),
  (none, (.r (.idxA 150 (.t 148) (.t 149) 1))),
  (none, (.r (.ld 151 (.t 150) 1 false))),
  (none, (.r (.bin 152 .add 0 (.t 147) (.t 151)))),
  (none, (.asg 18 (.t 152) true))]
def c_garlandref23_Lack_r34 : List GOp := [(none, (.r (.ld 153 (.t 3) 2 true))),
  (none, (.r (.mov 154 (.t 20)))),
  (none, (.call 155 (.f 28) [((.t 153), false), ((.t 154), false)])),
  (none, (.asg 21 (.t 155) true))]
def c_garlandref23_Lack_r35 : List GOp := [(none, (.asg 22 (.c (.int .i64 0)) true))]
def c_garlandref23_Lack_r36 : List GOp := [(none, (.r (.mov 156 (.t 22)))),
  (none, (.r (.mov 157 (.t 21)))),
  (none, (.r (.len 158 (.t 157)))),
  (none, (.r (.bin 159 .lss 0 (.t 156) (.t 158))))]
def c_garlandref23_Lack_r37 : Tree := 
  (.take [1, 6] (none, (.r (.fldA 162 (.t 5) 1))) 
  (.take [6] (none, (.r (.ld 163 (.t 162) 1 false))) 
  (.take [4, 5, 6] (none, (.r (.mov 164 (.t 21)))) 
  (.take [4, 5, 6] (none, (.r (.mov 165 (.t 22)))) 
  (.take [5, 6] (none, (.r (.idxA 166 (.t 164) (.t 165) 1))) 
  (.take [6] (none, (.r (.ld 167 (.t 166) 1 false))) 
  (.one 6 (none, (.call 168 (.f 27) [((.t 163), false), ((.t 167), false)])) .done)))))))
def c_garlandref23_Lack_r38 : List GOp := [(none, (.r (.mov 169 (.t 18)))),
  (none, (.r (.bin 170 .add 0 (.t 169) (.c (.int .i64 1))))),
  (none, (.asg 18 (.t 170) true))]
def c_garlandref23_Lack_r39 : List GOp := [(none, (.r (.mov 160 (.t 22)))),
  (none, (.r (.bin 161 .add 0 (.t 160) (.c (.int .i64 1))))),
  (none, (.asg 22 (.t 161) true))]
def c_garlandref23_Lack_r40 : List GOp := [(none, (.r (.mov 138 (.t 19)))),
  (none, (.r (.bin 139 .add 0 (.t 138) (.c (.int .i64 1))))),
  (none, (.asg 19 (.t 139) true))]
def c_garlandref23_Lack_r41 : List GOp := [(none, (.r (.mov 171 (.t 11)))),
  (none, (.r (.mov 172 (.t 18)))),
  (none, (.r (.bin 173 .rem 0 (.t 172) (.c (.int .i64 2))))),
  (none, (.r (.bin 174 .add 0 (.t 171) (.t 173)))),
  (none, (.asg 11 (.t 174) true))]
def c_garlandref23_Lack_r42 : List GOp := [(none, (.r (.mov 129 (.t 17)))),
  (none, (.r (.bin 130 .add 0 (.t 129) (.c (.int .i64 1))))),
  (none, (.asg 17 (.t 130) true))]
def c_garlandref23_Lack_r43 : List GOp := [(none, (.r (.mov 175 (.t 11)))),
  (none, (.asg 6 (.t 175) true)),
  (none, (.asg 7 (.c (.int .i64 0)) true))]
def v_garlandref23_Lack : List Nat := [0, 1, 2, 3, 5, 6, 7, 8, 9, 10, 11, 12, 13, 14, 15, 16, 17, 18, 19, 20, 21, 22, 27, 43, 59, 64, 87, 97, 104, 128, 137, 159, 168]
def c_garlandref23_Lack : ACode :=
  (.seq
  (.reg [0, 1, 2, 6, 7, 8, 9, 10, 11, 12, 13, 14, 15, 16, 17, 18, 19, 20, 21, 22, 27, 43, 59, 64, 87, 97, 104, 128, 137, 159, 168] c_garlandref23_Lack_r0 v_garlandref23_Lack)
  (.seq
  (.reg [0, 1, 2, 3, 5, 6, 7, 8, 9, 10, 11, 12, 13, 14, 15, 16, 17, 18, 19, 20, 21, 22, 27, 43, 59, 64, 87, 97, 104, 128, 137, 159, 168] c_garlandref23_Lack_r1 v_garlandref23_Lack)
  (.seq
  (.seq
  (.reg [0, 1, 2, 3, 5, 6, 7, 8, 9, 10, 11, 12, 13, 14, 15, 16, 17, 18, 19, 20, 21, 22, 43, 59, 64, 87, 97, 104, 128, 137, 159, 168] c_garlandref23_Lack_r2 v_garlandref23_Lack)
  (.cond (.t 27) (.seq
  (.reg [0, 1, 2, 3, 5, 6, 7, 8, 9, 10, 11, 12, 13, 14, 15, 16, 17, 18, 19, 20, 21, 22, 27, 43, 59, 64, 87, 97, 104, 128, 137, 159, 168] c_garlandref23_Lack_r3 v_garlandref23_Lack)
  .ret) .skip))
  (.seq
  (.reg [0, 1, 2, 3, 5, 6, 7, 8, 9, 10, 11, 12, 13, 14, 15, 16, 17, 18, 19, 20, 21, 22, 27, 43, 59, 64, 87, 97, 104, 128, 137, 159, 168] c_garlandref23_Lack_r4 v_garlandref23_Lack)
  (.seq
  (.seq
  (.reg [0, 1, 2, 3, 5, 6, 7, 8, 9, 10, 11, 12, 13, 14, 15, 16, 17, 18, 19, 20, 21, 22, 27, 43, 59, 64, 87, 97, 104, 128, 137, 159, 168] c_garlandref23_Lack_r5 v_garlandref23_Lack)
  (.blk 0 (.loop (.seq
  (.seq
  (.reg [0, 1, 2, 3, 5, 6, 7, 8, 9, 10, 11, 12, 13, 14, 15, 16, 17, 18, 19, 20, 21, 22, 27, 59, 64, 87, 97, 104, 128, 137, 159, 168] c_garlandref23_Lack_r6 v_garlandref23_Lack)
  (.cond (.t 43) .skip (.exit 0)))
  (.seq
  (.blk 1 (.draw [0, 1, 2, 3, 5, 6, 7, 8, 9, 10, 11, 12, 13, 14, 15, 16, 17, 18, 19, 20, 21, 22, 27, 43, 59, 64, 87, 97, 104, 128, 137, 159, 168] c_garlandref23_Lack_r7 v_garlandref23_Lack))
  (.reg [0, 1, 2, 3, 5, 6, 7, 8, 9, 10, 11, 12, 13, 14, 15, 16, 17, 18, 19, 20, 21, 22, 27, 43, 59, 64, 87, 97, 104, 128, 137, 159, 168] c_garlandref23_Lack_r8 v_garlandref23_Lack))))))
  (.seq
  (.seq
  (.reg [0, 1, 2, 3, 5, 6, 7, 8, 9, 10, 11, 12, 13, 14, 15, 16, 17, 18, 19, 20, 21, 22, 27, 43, 64, 87, 97, 104, 128, 137, 159, 168] c_garlandref23_Lack_r9 v_garlandref23_Lack)
  (.cond (.t 59) (.seq
  (.reg [0, 1, 2, 3, 5, 6, 7, 8, 9, 10, 11, 12, 13, 14, 15, 16, 17, 18, 19, 20, 21, 22, 27, 43, 59, 64, 87, 97, 104, 128, 137, 159, 168] c_garlandref23_Lack_r10 v_garlandref23_Lack)
  .ret) .skip))
  (.seq
  (.reg [0, 1, 2, 3, 5, 6, 7, 8, 9, 10, 11, 12, 13, 14, 15, 16, 17, 18, 19, 20, 21, 22, 27, 43, 59, 64, 87, 97, 104, 128, 137, 159, 168] c_garlandref23_Lack_r11 v_garlandref23_Lack)
  (.seq
  (.seq
  (.reg [0, 1, 2, 3, 5, 6, 7, 8, 9, 10, 11, 12, 13, 14, 15, 16, 17, 18, 19, 20, 21, 22, 27, 43, 59, 64, 87, 97, 104, 128, 137, 159, 168] c_garlandref23_Lack_r12 v_garlandref23_Lack)
  (.blk 2 (.loop (.seq
  (.seq
  (.reg [0, 1, 2, 3, 5, 6, 7, 8, 9, 10, 11, 12, 13, 14, 15, 16, 17, 18, 19, 20, 21, 22, 27, 43, 59, 87, 97, 104, 128, 137, 159, 168] c_garlandref23_Lack_r13 v_garlandref23_Lack)
  (.cond (.t 64) .skip (.exit 2)))
  (.seq
  (.blk 3 (.seq
  (.reg [0, 1, 2, 3, 5, 6, 7, 8, 9, 10, 11, 12, 13, 14, 15, 16, 17, 18, 19, 20, 21, 22, 27, 43, 59, 64, 87, 97, 104, 128, 137, 159, 168] c_garlandref23_Lack_r14 v_garlandref23_Lack)
  (.seq
  (.draw [0, 1, 2, 3, 5, 6, 7, 8, 9, 10, 11, 12, 13, 14, 15, 16, 17, 18, 19, 20, 21, 22, 27, 43, 59, 64, 87, 97, 104, 128, 137, 159, 168] c_garlandref23_Lack_r15 v_garlandref23_Lack)
  (.seq
  (.reg [0, 1, 2, 3, 5, 6, 7, 8, 9, 10, 11, 12, 13, 14, 15, 16, 17, 18, 19, 20, 21, 22, 27, 43, 59, 64, 87, 97, 104, 128, 137, 159, 168] c_garlandref23_Lack_r16 v_garlandref23_Lack)
  (.blk 4 (.loop (.seq
  (.seq
  (.reg [0, 1, 2, 3, 5, 6, 7, 8, 9, 10, 11, 12, 13, 14, 15, 16, 17, 18, 19, 20, 21, 22, 27, 43, 59, 64, 97, 104, 128, 137, 159, 168] c_garlandref23_Lack_r17 v_garlandref23_Lack)
  (.cond (.t 87) .skip (.exit 4)))
  (.seq
  (.blk 5 (.seq
  (.draw [0, 1, 2, 3, 5, 6, 7, 8, 9, 10, 11, 12, 13, 14, 15, 16, 17, 18, 19, 20, 21, 22, 27, 43, 59, 64, 87, 104, 128, 137, 159, 168] c_garlandref23_Lack_r18 v_garlandref23_Lack)
  (.cond (.t 97) (.reg [0, 1, 2, 3, 5, 6, 7, 8, 9, 10, 11, 12, 13, 14, 15, 16, 17, 18, 19, 20, 21, 22, 27, 43, 59, 64, 87, 97, 104, 128, 137, 159, 168] c_garlandref23_Lack_r19 v_garlandref23_Lack) .skip)))
  (.reg [0, 1, 2, 3, 5, 6, 7, 8, 9, 10, 11, 12, 13, 14, 15, 16, 17, 18, 19, 20, 21, 22, 27, 43, 59, 64, 87, 97, 104, 128, 137, 159, 168] c_garlandref23_Lack_r20 v_garlandref23_Lack)))))))))
  (.reg [0, 1, 2, 3, 5, 6, 7, 8, 9, 10, 11, 12, 13, 14, 15, 16, 17, 18, 19, 20, 21, 22, 27, 43, 59, 64, 87, 97, 104, 128, 137, 159, 168] c_garlandref23_Lack_r21 v_garlandref23_Lack))))))
  (.seq
  (.seq
  (.reg [0, 1, 2, 3, 5, 6, 7, 8, 9, 10, 11, 12, 13, 14, 15, 16, 17, 18, 19, 20, 21, 22, 27, 43, 59, 64, 87, 97, 104, 128, 137, 159, 168] c_garlandref23_Lack_r22 v_garlandref23_Lack)
  (.blk 6 (.loop (.seq
  (.seq
  (.reg [0, 1, 2, 3, 5, 6, 7, 8, 9, 10, 11, 12, 13, 14, 15, 16, 17, 18, 19, 20, 21, 22, 27, 43, 59, 64, 87, 97, 128, 137, 159, 168] c_garlandref23_Lack_r23 v_garlandref23_Lack)
  (.cond (.t 104) .skip (.exit 6)))
  (.seq
  (.blk 7 (.reg [0, 1, 2, 3, 5, 6, 7, 8, 9, 10, 11, 12, 13, 14, 15, 16, 17, 18, 19, 20, 21, 22, 27, 43, 59, 64, 87, 97, 104, 128, 137, 159, 168] c_garlandref23_Lack_r24 v_garlandref23_Lack))
  (.reg [0, 1, 2, 3, 5, 6, 7, 8, 9, 10, 11, 12, 13, 14, 15, 16, 17, 18, 19, 20, 21, 22, 27, 43, 59, 64, 87, 97, 104, 128, 137, 159, 168] c_garlandref23_Lack_r25 v_garlandref23_Lack))))))
  (.seq
  (.draw [0, 1, 2, 3, 5, 6, 7, 8, 9, 10, 11, 12, 13, 14, 15, 16, 17, 18, 19, 20, 21, 22, 27, 43, 59, 64, 87, 97, 104, 128, 137, 159, 168] c_garlandref23_Lack_r26 v_garlandref23_Lack)
  (.seq
  (.seq
  (.reg [0, 1, 2, 3, 5, 6, 7, 8, 9, 10, 11, 12, 13, 14, 15, 16, 17, 18, 19, 20, 21, 22, 27, 43, 59, 64, 87, 97, 104, 128, 137, 159, 168] c_garlandref23_Lack_r27 v_garlandref23_Lack)
  (.blk 8 (.loop (.seq
  (.seq
  (.reg [0, 1, 2, 3, 5, 6, 7, 8, 9, 10, 11, 12, 13, 14, 15, 16, 17, 18, 19, 20, 21, 22, 27, 43, 59, 64, 87, 97, 104, 137, 159, 168] c_garlandref23_Lack_r28 v_garlandref23_Lack)
  (.cond (.t 128) .skip (.exit 8)))
  (.seq
  (.blk 9 (.seq
  (.reg [0, 1, 2, 3, 5, 6, 7, 8, 9, 10, 11, 12, 13, 14, 15, 16, 17, 18, 19, 20, 21, 22, 27, 43, 59, 64, 87, 97, 104, 128, 137, 159, 168] c_garlandref23_Lack_r29 v_garlandref23_Lack)
  (.seq
  (.seq
  (.reg [0, 1, 2, 3, 5, 6, 7, 8, 9, 10, 11, 12, 13, 14, 15, 16, 17, 18, 19, 20, 21, 22, 27, 43, 59, 64, 87, 97, 104, 128, 137, 159, 168] c_garlandref23_Lack_r30 v_garlandref23_Lack)
  (.blk 10 (.loop (.seq
  (.seq
  (.reg [0, 1, 2, 3, 5, 6, 7, 8, 9, 10, 11, 12, 13, 14, 15, 16, 17, 18, 19, 20, 21, 22, 27, 43, 59, 64, 87, 97, 104, 128, 159, 168] c_garlandref23_Lack_r31 v_garlandref23_Lack)
  (.cond (.t 137) .skip (.exit 10)))
  (.seq
  (.blk 11 (.seq
  (.reg [0, 1, 2, 3, 5, 6, 7, 8, 9, 10, 11, 12, 13, 14, 15, 16, 17, 18, 19, 20, 21, 22, 27, 43, 59, 64, 87, 97, 104, 128, 137, 159, 168] c_garlandref23_Lack_r32 v_garlandref23_Lack)
  (.seq
  (.reg [0, 1, 2, 3, 5, 6, 7, 8, 9, 10, 11, 12, 13, 14, 15, 16, 17, 18, 19, 20, 21, 22, 27, 43, 59, 64, 87, 97, 104, 128, 137, 159, 168] c_garlandref23_Lack_r33 v_garlandref23_Lack)
  (.seq
  (.reg [0, 1, 2, 3, 5, 6, 7, 8, 9, 10, 11, 12, 13, 14, 15, 16, 17, 18, 19, 20, 21, 22, 27, 43, 59, 64, 87, 97, 104, 128, 137, 159, 168] c_garlandref23_Lack_r34 v_garlandref23_Lack)
  (.seq
  (.reg [0, 1, 2, 3, 5, 6, 7, 8, 9, 10, 11, 12, 13, 14, 15, 16, 17, 18, 19, 20, 21, 22, 27, 43, 59, 64, 87, 97, 104, 128, 137, 159, 168] c_garlandref23_Lack_r35 v_garlandref23_Lack)
  (.blk 12 (.loop (.seq
  (.seq
  (.reg [0, 1, 2, 3, 5, 6, 7, 8, 9, 10, 11, 12, 13, 14, 15, 16, 17, 18, 19, 20, 21, 22, 27, 43, 59, 64, 87, 97, 104, 128, 137, 168] c_garlandref23_Lack_r36 v_garlandref23_Lack)
  (.cond (.t 159) .skip (.exit 12)))
  (.seq
  (.blk 13 (.seq
  (.draw [0, 1, 2, 3, 5, 6, 7, 8, 9, 10, 11, 12, 13, 14, 15, 16, 17, 18, 19, 20, 21, 22, 27, 43, 59, 64, 87, 97, 104, 128, 137, 159] c_garlandref23_Lack_r37 v_garlandref23_Lack)
  (.cond (.t 168) (.reg [0, 1, 2, 3, 5, 6, 7, 8, 9, 10, 11, 12, 13, 14, 15, 16, 17, 18, 19, 20, 21, 22, 27, 43, 59, 64, 87, 97, 104, 128, 137, 159, 168] c_garlandref23_Lack_r38 v_garlandref23_Lack) .skip)))
  (.reg [0, 1, 2, 3, 5, 6, 7, 8, 9, 10, 11, 12, 13, 14, 15, 16, 17, 18, 19, 20, 21, 22, 27, 43, 59, 64, 87, 97, 104, 128, 137, 159, 168] c_garlandref23_Lack_r39 v_garlandref23_Lack))))))))))
  (.reg [0, 1, 2, 3, 5, 6, 7, 8, 9, 10, 11, 12, 13, 14, 15, 16, 17, 18, 19, 20, 21, 22, 27, 43, 59, 64, 87, 97, 104, 128, 137, 159, 168] c_garlandref23_Lack_r40 v_garlandref23_Lack))))))
  (.reg [0, 1, 2, 3, 5, 6, 7, 8, 9, 10, 11, 12, 13, 14, 15, 16, 17, 18, 19, 20, 21, 22, 27, 43, 59, 64, 87, 97, 104, 128, 137, 159, 168] c_garlandref23_Lack_r41 v_garlandref23_Lack))))
  (.reg [0, 1, 2, 3, 5, 6, 7, 8, 9, 10, 11, 12, 13, 14, 15, 16, 17, 18, 19, 20, 21, 22, 27, 43, 59, 64, 87, 97, 104, 128, 137, 159, 168] c_garlandref23_Lack_r42 v_garlandref23_Lack))))))
  (.seq
  (.reg [0, 1, 2, 3, 5, 6, 7, 8, 9, 10, 11, 12, 13, 14, 15, 16, 17, 18, 19, 20, 21, 22, 27, 43, 59, 64, 87, 97, 104, 128, 137, 159, 168] c_garlandref23_Lack_r43 v_garlandref23_Lack)
  .ret))))))))))))
abbrev n_garlandref23_Lack : Nat := 13
theorem s_garlandref23_Lack : stripF Try.prog [6, 7] v_garlandref23_Lack Try.f13 = some (c_garlandref23_Lack, [(.tmp 6), (.tmp 7)]) := by kernel_rfl
theorem go_garlandref23_Lack {L : List (List Nat)} {args : List AVal} {h : Heap} {Q : AVal → Heap → Prop} (hl : args.length = 3) (H : Wlk Try.prog [6, 7] Try.f13.ntmps v_garlandref23_Lack L c_garlandref23_Lack (ends L [(.tmp 6), (.tmp 7)] Q) (entry v_garlandref23_Lack args h)) : ACalls Try.prog L n_garlandref23_Lack args h Q :=
  acalls_of_strip mix Try.func13 s_garlandref23_Lack (by rw [hl]; exact Nat.le_of_ble_eq_true rfl) H
def c_tutte_Right_r0 : List GOp := [(none, (.box 2 (.t 0))),
  (none, (.asg 4 (.c (.int .i64 0)) true))]
def c_tutte_Right_r1 : List GOp := [(none, (.r (.ld 5 (.t 2) 2 true))),
  (none, (.call 6 (.f 30) [((.t 5), false)])),
  (none, (.r (.notb 7 (.t 6))))]
def c_tutte_Right_r2 : List GOp := [(none, (.asg 4 (.c (.int .i64 3)) true))]
def c_tutte_Right_r3 : List GOp := [(none, (.r (.mov 8 (.t 1)))),
  (none, (.r (.len 9 (.t 8)))),
  (none, (.r (.fldA 10 (.t 2) 0))),
  (none, (.r (.ld 11 (.t 10) 1 false))),
  (none, (.r (.bin 12 .neq 0 (.t 9) (.t 11)))),
  (none, (.r (.mov 13 (.t 12)))), ((some (13, false)), (.r (.mov 14 (.t 1)))), ((some (13, false)), (.call 15 (.f 31) [((.t 14), false), ((.f 32), false)])),
  (none, (.r (.pick 16 (.t 13) (.c (.bool true)) (.t 15))))]
def c_tutte_Right_r4 : List GOp := [(none, (.asg 4 (.c (.int .i64 12)) true))]
def c_tutte_Right_r5 : List GOp := [(none, (.asg 4 (.c (.int .i64 0)) true))]
def v_tutte_Right : List Nat := [0, 1, 2, 4, 7, 16]
def c_tutte_Right : ACode :=
  (.seq
  (.reg [0, 1, 4, 7, 16] c_tutte_Right_r0 v_tutte_Right)
  (.seq
  (.seq
  (.reg [0, 1, 2, 4, 16] c_tutte_Right_r1 v_tutte_Right)
  (.cond (.t 7) (.seq
  (.reg [0, 1, 2, 4, 7, 16] c_tutte_Right_r2 v_tutte_Right)
  .ret) .skip))
  (.seq
  (.seq
  (.reg [0, 1, 2, 4, 7] c_tutte_Right_r3 v_tutte_Right)
  (.cond (.t 16) (.seq
  (.reg [0, 1, 2, 4, 7, 16] c_tutte_Right_r4 v_tutte_Right)
  .ret) .skip))
  (.seq
  (.reg [0, 1, 2, 4, 7, 16] c_tutte_Right_r5 v_tutte_Right)
  .ret))))
abbrev n_tutte_Right : Nat := 14
theorem s_tutte_Right : stripF Try.prog [4] v_tutte_Right Try.f14 = some (c_tutte_Right, [(.tmp 4)]) := by kernel_rfl
theorem go_tutte_Right {L : List (List Nat)} {args : List AVal} {h : Heap} {Q : AVal → Heap → Prop} (hl : args.length = 2) (H : Wlk Try.prog [4] Try.f14.ntmps v_tutte_Right L c_tutte_Right (ends L [(.tmp 4)] Q) (entry v_tutte_Right args h)) : ACalls Try.prog L n_tutte_Right args h Q :=
  acalls_of_strip mix Try.func14 s_tutte_Right (by rw [hl]; exact Nat.le_of_ble_eq_true rfl) H
def c_garlandref23_Right_r0 : List GOp := [(none, (.box 2 (.t 0))),
  (none, (.asg 4 (.c (.int .i64 0)) true))]
def c_garlandref23_Right_r1 : List GOp := [(none, (.r (.ld 7 (.t 2) 2 true))),
  (none, (.call 8 (.f 33) [((.t 7), false)])),
  (none, (.r (.notb 9 (.t 8))))]
def c_garlandref23_Right_r2 : List GOp := [(none, (.asg 4 (.c (.int .i64 3)) true))]
def c_garlandref23_Right_r3 : List GOp := [(none, (.r (.mov 10 (.t 1)))),
  (none, (.r (.len 11 (.t 10)))),
  (none, (.r (.fldA 12 (.t 2) 0))),
  (none, (.r (.ld 13 (.t 12) 1 false))),
  (none, (.r (.bin 14 .eql 0 (.t 11) (.t 13)))),
  (none, (.asg 5 (.t 14) true))]
def c_garlandref23_Right_r4 : List GOp := [(none, (.asg 6 (.c (.int .i64 0)) true))]
def c_garlandref23_Right_r5 : List GOp := [(none, (.r (.mov 15 (.t 6)))),
  (none, (.r (.mov 16 (.t 1)))),
  (none, (.r (.len 17 (.t 16)))),
  (none, (.r (.bin 18 .lss 0 (.t 15) (.t 17))))]
def c_garlandref23_Right_r6 : List GOp := [(none, (.r (.mov 21 (.t 5)))),
  (none, (.r (.mov 22 (.t 21)))), ((some (22, true)), (.r (.mov 23 (.t 1)))), ((some (22, true)), (.r (.mov 24 (.t 6)))), ((some (22, true)), (.r (.idxA 25 (.t 23) (.t 24) 1))), ((some (22, true)), (.r (.ld 26 (.t 25) 1 false))), ((some (22, true)), (.r (.bin 27 .geq 0 (.t 26) (.c (.int .i64 0))))),
  (none, (.r (.pick 28 (.t 22) (.t 27) (.c (.bool false))))),
  (none, (.r (.mov 29 (.t 28)))), ((some (29, true)), (.r (.mov 30 (.t 1)))), ((some (29, true)), (.r (.mov 31 (.t 6)))), ((some (29, true)), (.r (.idxA 32 (.t 30) (.t 31) 1))), ((some (29, true)), (.r (.ld 33 (.t 32) 1 false))), ((some (29, true)), (.r (.bin 34 .leq 0 (.t 33) (.c (.int .i64 4096))))),
  (none, (.r (.pick 35 (.t 29) (.t 34) (.c (.bool false))))),
  (none, (.asg 5 (.t 35) true))]
def c_garlandref23_Right_r7 : List GOp := [(none, (.r (.mov 19 (.t 6)))),
  (none, (.r (.bin 20 .add 0 (.t 19) (.c (.int .i64 1))))),
  (none, (.asg 6 (.t 20) true))]
def c_garlandref23_Right_r8 : List GOp := [(none, (.r (.mov 36 (.t 5)))),
  (none, (.r (.notb 37 (.t 36))))]
def c_garlandref23_Right_r9 : List GOp := [(none, (.asg 4 (.c (.int .i64 12)) true))]
def c_garlandref23_Right_r10 : List GOp := [(none, (.asg 4 (.c (.int .i64 0)) true))]
def v_garlandref23_Right : List Nat := [0, 1, 2, 4, 5, 6, 9, 18, 37]
def c_garlandref23_Right : ACode :=
  (.seq
  (.reg [0, 1, 4, 5, 6, 9, 18, 37] c_garlandref23_Right_r0 v_garlandref23_Right)
  (.seq
  (.seq
  (.reg [0, 1, 2, 4, 5, 6, 18, 37] c_garlandref23_Right_r1 v_garlandref23_Right)
  (.cond (.t 9) (.seq
  (.reg [0, 1, 2, 4, 5, 6, 9, 18, 37] c_garlandref23_Right_r2 v_garlandref23_Right)
  .ret) .skip))
  (.seq
  (.reg [0, 1, 2, 4, 5, 6, 9, 18, 37] c_garlandref23_Right_r3 v_garlandref23_Right)
  (.seq
  (.seq
  (.reg [0, 1, 2, 4, 5, 6, 9, 18, 37] c_garlandref23_Right_r4 v_garlandref23_Right)
  (.blk 0 (.loop (.seq
  (.seq
  (.reg [0, 1, 2, 4, 5, 6, 9, 37] c_garlandref23_Right_r5 v_garlandref23_Right)
  (.cond (.t 18) .skip (.exit 0)))
  (.seq
  (.blk 1 (.reg [0, 1, 2, 4, 5, 6, 9, 18, 37] c_garlandref23_Right_r6 v_garlandref23_Right))
  (.reg [0, 1, 2, 4, 5, 6, 9, 18, 37] c_garlandref23_Right_r7 v_garlandref23_Right))))))
  (.seq
  (.seq
  (.reg [0, 1, 2, 4, 5, 6, 9, 18] c_garlandref23_Right_r8 v_garlandref23_Right)
  (.cond (.t 37) (.seq
  (.reg [0, 1, 2, 4, 5, 6, 9, 18, 37] c_garlandref23_Right_r9 v_garlandref23_Right)
  .ret) .skip))
  (.seq
  (.reg [0, 1, 2, 4, 5, 6, 9, 18, 37] c_garlandref23_Right_r10 v_garlandref23_Right)
  .ret))))))
abbrev n_garlandref23_Right : Nat := 15
theorem s_garlandref23_Right : stripF Try.prog [4] v_garlandref23_Right Try.f15 = some (c_garlandref23_Right, [(.tmp 4)]) := by kernel_rfl
theorem go_garlandref23_Right {L : List (List Nat)} {args : List AVal} {h : Heap} {Q : AVal → Heap → Prop} (hl : args.length = 2) (H : Wlk Try.prog [4] Try.f15.ntmps v_garlandref23_Right L c_garlandref23_Right (ends L [(.tmp 4)] Q) (entry v_garlandref23_Right args h)) : ACalls Try.prog L n_garlandref23_Right args h Q :=
  acalls_of_strip mix Try.func15 s_garlandref23_Right (by rw [hl]; exact Nat.le_of_ble_eq_true rfl) H
def c_tutte_IsFactor_r0 : List GOp := [(none, (.box 3 (.t 0))),
  (none, (.asg 6 (.c (.bool false)) true))]
def c_tutte_IsFactor_r1 : List GOp := [(none, (.r (.ld 10 (.t 3) 2 true))),
  (none, (.r (.mov 11 (.t 1)))),
  (none, (.call 12 (.f 14) [((.t 10), false), ((.t 11), false)])),
  (none, (.r (.bin 13 .neq 0 (.t 12) (.c (.int .i64 0)))))]
def c_tutte_IsFactor_r2 : List GOp := [(none, (.asg 6 (.c (.bool false)) true))]
def c_tutte_IsFactor_r3 : List GOp := [(none, (.r (.mov 14 (.t 1)))),
  (none, (.call 15 (.f 34) [((.t 14), false)])),
  (none, (.asg 7 (.t 15) true))]
def c_tutte_IsFactor_r4 : List GOp := [(none, (.r (.mov 16 (.t 2)))),
  (none, (.r (.len 17 (.t 16)))),
  (none, (.r (.mov 18 (.c (.int .i64 0)))))]
def c_tutte_IsFactor_r5 : List GOp := [(none, (.r (.bin 19 .lss 0 (.t 18) (.t 17))))]
def c_tutte_IsFactor_r6 : List GOp := [(none, (.r (.mov 20 (.t 18)))),
  (none, (.r (.idxA 21 (.t 16) (.t 18) 2))),
  (none, (.r (.ld 22 (.t 21) 2 true))),
  (none, (.alloc 9 [(.int .i64 0), (.int .i64 0)])),
  (none, (.asg 8 (.t 20) true)),
  (none, (.st (.t 9) (.t 22) 2))]
def c_tutte_IsFactor_r7 : Tree := 
  (.take [1, 4, 5, 6, 7, 8, 9, 10, 11, 12, 13, 14, 15, 16, 17, 18, 19, 20, 21, 22, 23, 24, 25, 26, 27, 28, 29, 30, 31, 32, 33, 34, 35, 36, 37, 38, 39, 40] (none, (.r (.fldA 23 (.t 9) 0))) 
  (.take [4, 5, 6, 7, 8, 9, 10, 11, 12, 13, 14, 15, 16, 17, 18, 19, 20, 21, 22, 23, 24, 25, 26, 27, 28, 29, 30, 31, 32, 33, 34, 35, 36, 37, 38, 39, 40] (none, (.r (.ld 24 (.t 23) 1 false))) 
  (.take [3, 4, 5, 6, 7, 8, 9, 10, 11, 12, 13, 14, 15, 16, 17, 18, 19, 20, 21, 22, 23, 24, 25, 26, 27, 28, 29, 30, 31, 32, 33, 34, 35, 36, 37, 38, 39, 40] (none, (.r (.fldA 25 (.t 9) 1))) 
  (.take [4, 5, 6, 7, 8, 9, 10, 11, 12, 13, 14, 15, 16, 17, 18, 19, 20, 21, 22, 23, 24, 25, 26, 27, 28, 29, 30, 31, 32, 33, 34, 35, 36, 37, 38, 39, 40] (none, (.r (.ld 26 (.t 25) 1 false))) 
  (.take [5, 6, 7, 8, 9, 10, 11, 12, 13, 14, 15, 16, 17, 18, 19, 20, 21, 22, 23, 24, 25, 26, 27, 28, 29, 30, 31, 32, 33, 34, 35, 36, 37, 38, 39, 40] (none, (.r (.bin 27 .gtr 0 (.t 24) (.t 26)))) 
  (.take [6, 7, 8, 9, 10, 11, 12, 13, 14, 15, 16, 17, 18, 19, 20, 21, 22, 23, 24, 25, 26, 27, 28, 29, 30, 31, 32, 33, 34, 35, 36, 37, 38, 39, 40] (none, (.r (.mov 28 (.t 27)))) 
  (.take [11, 12, 13, 14, 15, 16, 17, 18, 19, 20, 21, 22, 23, 24, 25, 26, 27, 28, 29, 30, 31, 32, 33, 34, 35, 36, 37, 38, 39, 40] ((some (28, false)), (.r (.ld 29 (.t 3) 2 true))) 
  (.take [8, 11, 12, 13, 14, 15, 16, 17, 18, 19, 20, 21, 22, 23, 24, 25, 26, 27, 28, 29, 30, 31, 32, 33, 34, 35, 36, 37, 38, 39, 40] ((some (28, false)), (.r (.fldA 30 (.t 9) 0))) 
  (.take [11, 12, 13, 14, 15, 16, 17, 18, 19, 20, 21, 22, 23, 24, 25, 26, 27, 28, 29, 30, 31, 32, 33, 34, 35, 36, 37, 38, 39, 40] ((some (28, false)), (.r (.ld 31 (.t 30) 1 false))) 
  (.take [10, 11, 12, 13, 14, 15, 16, 17, 18, 19, 20, 21, 22, 23, 24, 25, 26, 27, 28, 29, 30, 31, 32, 33, 34, 35, 36, 37, 38, 39, 40] ((some (28, false)), (.r (.fldA 32 (.t 9) 1))) 
  (.take [11, 12, 13, 14, 15, 16, 17, 18, 19, 20, 21, 22, 23, 24, 25, 26, 27, 28, 29, 30, 31, 32, 33, 34, 35, 36, 37, 38, 39, 40] ((some (28, false)), (.r (.ld 33 (.t 32) 1 false))) 
  (.one 11 ((some (28, false)), (.call 34 (.f 35) [((.t 29), false), ((.t 31), false), ((.t 33), false)])) 
  (.take [13, 14, 15, 16, 17, 18, 19, 20, 21, 22, 23, 24, 25, 26, 27, 28, 29, 30, 31, 32, 33, 34, 35, 36, 37, 38, 39, 40] ((some (28, false)), (.r (.notb 35 (.t 34)))) 
  (.take [14, 15, 16, 17, 18, 19, 20, 21, 22, 23, 24, 25, 26, 27, 28, 29, 30, 31, 32, 33, 34, 35, 36, 37, 38, 39, 40] (none, (.r (.pick 36 (.t 28) (.c (.bool true)) (.t 35)))) 
  (.take [15, 16, 17, 18, 19, 20, 21, 22, 23, 24, 25, 26, 27, 28, 29, 30, 31, 32, 33, 34, 35, 36, 37, 38, 39, 40] (none, (.r (.mov 37 (.t 36)))) 
  (.take [16, 17, 18, 19, 20, 21, 22, 23, 24, 25, 26, 27, 28, 29, 30, 31, 32, 33, 34, 35, 36, 37, 38, 39, 40] ((some (37, false)), (.r (.mov 38 (.t 8)))) 
  (.take [17, 18, 19, 20, 21, 22, 23, 24, 25, 26, 27, 28, 29, 30, 31, 32, 33, 34, 35, 36, 37, 38, 39, 40] ((some (37, false)), (.r (.bin 39 .gtr 0 (.t 38) (.c (.int .i64 0))))) 
  (.take [18, 19, 20, 21, 22, 23, 24, 25, 26, 27, 28, 29, 30, 31, 32, 33, 34, 35, 36, 37, 38, 39, 40] ((some (37, false)), (.r (.mov 40 (.t 39)))) 
  (.take [21, 22, 23, 26, 35, 36, 37, 38, 39, 40] ((some (40, true)), (.r (.mov 41 (.t 2)))) 
  (.take [20, 21, 22, 23, 26, 35, 36, 37, 38, 39, 40] ((some (40, true)), (.r (.mov 42 (.t 8)))) 
  (.take [21, 22, 23, 26, 35, 36, 37, 38, 39, 40] ((some (40, true)), (.r (.bin 43 .sub 0 (.t 42) (.c (.int .i64 1))))) 
  (.take [22, 23, 26, 35, 36, 37, 38, 39, 40] ((some (40, true)), (.r (.idxA 44 (.t 41) (.t 43) 2))) 
  (.take [23, 26, 35, 36, 37, 38, 39, 40] ((some (40, true)), (.r (.fldA 45 (.t 44) 0))) 
  (.take [26, 35, 36, 37, 38, 39, 40] ((some (40, true)), (.r (.ld 46 (.t 45) 1 false))) 
  (.take [25, 26, 35, 36, 37, 38, 39, 40] ((some (40, true)), (.r (.fldA 47 (.t 9) 0))) 
  (.take [26, 35, 36, 37, 38, 39, 40] ((some (40, true)), (.r (.ld 48 (.t 47) 1 false))) 
  (.take [30, 31, 32, 35, 36, 37, 38, 39, 40] ((some (40, true)), (.r (.mov 50 (.t 2)))) 
  (.take [29, 30, 31, 32, 35, 36, 37, 38, 39, 40] ((some (40, true)), (.r (.mov 51 (.t 8)))) 
  (.take [30, 31, 32, 35, 36, 37, 38, 39, 40] ((some (40, true)), (.r (.bin 52 .sub 0 (.t 51) (.c (.int .i64 1))))) 
  (.take [31, 32, 35, 36, 37, 38, 39, 40] ((some (40, true)), (.r (.idxA 53 (.t 50) (.t 52) 2))) 
  (.take [32, 35, 36, 37, 38, 39, 40] ((some (40, true)), (.r (.fldA 54 (.t 53) 1))) 
  (.take [35, 36, 37, 38, 39, 40] ((some (40, true)), (.r (.ld 55 (.t 54) 1 false))) 
  (.take [34, 35, 36, 37, 38, 39, 40] ((some (40, true)), (.r (.fldA 56 (.t 9) 1))) 
  (.take [35, 36, 37, 38, 39, 40] ((some (40, true)), (.r (.ld 57 (.t 56) 1 false))) 
  (.one 26 ((some (40, true)), (.call 49 (.f 37) [((.t 46), false), ((.t 48), false)])) 
  (.one 35 ((some (40, true)), (.call 58 (.f 37) [((.t 55), false), ((.t 57), false)])) 
  (.one 36 ((some (40, true)), (.blds 59 2 1 [((0, 1), ((.t 49), true)), ((1, 1), ((.t 58), true))] [(.int .i64 0)])) 
  (.one 37 ((some (40, true)), (.call 60 (.f 36) [((.t 59), false)])) 
  (.take [39, 40] ((some (40, true)), (.r (.bin 61 .geq 0 (.t 60) (.c (.int .i64 0))))) 
  (.take [40] ((some (37, false)), (.r (.pick 62 (.t 40) (.t 61) (.c (.bool false))))) 
  (.take [] (none, (.r (.pick 63 (.t 37) (.c (.bool true)) (.t 62)))) .done)))))))))))))))))))))))))))))))))))))))))
def c_tutte_IsFactor_r8 : List GOp := [(none, (.asg 6 (.c (.bool false)) true))]
def c_tutte_IsFactor_r9 : List GOp := [(none, (.r (.mov 64 (.t 7)))),
  (none, (.r (.fldA 65 (.t 9) 0))),
  (none, (.r (.ld 66 (.t 65) 1 false))),
  (none, (.r (.idxA 67 (.t 64) (.t 66) 1))),
  (none, (.r (.ld 68 (.t 67) 1 false))),
  (none, (.r (.bin 69 .sub 0 (.t 68) (.c (.int .i64 1))))),
  (none, (.r (.idxA 70 (.t 64) (.t 66) 1))),
  (none, (.st (.t 70) (.t 69) 1))]
def c_tutte_IsFactor_r10 : List GOp := [(none, (.r (.mov 71 (.t 7)))),
  (none, (.r (.fldA 72 (.t 9) 1))),
  (none, (.r (.ld 73 (.t 72) 1 false))),
  (none, (.r (.idxA 74 (.t 71) (.t 73) 1))),
  (none, (.r (.ld 75 (.t 74) 1 false))),
  (none, (.r (.bin 76 .sub 0 (.t 75) (.c (.int .i64 1))))),
  (none, (.r (.idxA 77 (.t 71) (.t 73) 1))),
  (none, (.st (.t 77) (.t 76) 1))]
def c_tutte_IsFactor_r11 : List GOp := [(none, (.r (.bin 78 .add 0 (.t 18) (.c (.int .i64 1))))),
  (none, (.asg 18 (.t 78) true))]
def c_tutte_IsFactor_r12 : List GOp := [(none, (.r (.mov 79 (.t 7)))),
  (none, (.call 80 (.f 31) [((.t 79), false), ((.f 38), false)])),
  (none, (.r (.notb 81 (.t 80)))),
  (none, (.asg 6 (.t 81) true))]
def v_tutte_IsFactor : List Nat := [0, 1, 2, 3, 6, 7, 8, 9, 13, 16, 17, 18, 19, 63]
def c_tutte_IsFactor : ACode :=
  (.seq
  (.reg [0, 1, 2, 6, 7, 8, 9, 13, 16, 17, 18, 19, 63] c_tutte_IsFactor_r0 v_tutte_IsFactor)
  (.seq
  (.seq
  (.reg [0, 1, 2, 3, 6, 7, 8, 9, 16, 17, 18, 19, 63] c_tutte_IsFactor_r1 v_tutte_IsFactor)
  (.cond (.t 13) (.seq
  (.reg [0, 1, 2, 3, 6, 7, 8, 9, 13, 16, 17, 18, 19, 63] c_tutte_IsFactor_r2 v_tutte_IsFactor)
  .ret) .skip))
  (.seq
  (.reg [0, 1, 2, 3, 6, 7, 8, 9, 13, 16, 17, 18, 19, 63] c_tutte_IsFactor_r3 v_tutte_IsFactor)
  (.seq
  (.seq
  (.reg [0, 1, 2, 3, 6, 7, 8, 9, 13, 19, 63] c_tutte_IsFactor_r4 v_tutte_IsFactor)
  (.blk 0 (.loop (.seq
  (.reg [0, 1, 2, 3, 6, 7, 8, 9, 13, 16, 17, 18, 63] c_tutte_IsFactor_r5 v_tutte_IsFactor)
  (.seq
  (.cond (.t 19) .skip (.exit 0))
  (.seq
  (.blk 1 (.seq
  (.reg [0, 1, 2, 3, 6, 7, 8, 13, 16, 17, 18, 19, 63] c_tutte_IsFactor_r6 v_tutte_IsFactor)
  (.seq
  (.seq
  (.draw [0, 1, 2, 3, 6, 7, 8, 9, 13, 16, 17, 18, 19] c_tutte_IsFactor_r7 v_tutte_IsFactor)
  (.cond (.t 63) (.seq
  (.reg [0, 1, 2, 3, 6, 7, 8, 9, 13, 16, 17, 18, 19, 63] c_tutte_IsFactor_r8 v_tutte_IsFactor)
  .ret) .skip))
  (.seq
  (.reg [0, 1, 2, 3, 6, 7, 8, 9, 13, 16, 17, 18, 19, 63] c_tutte_IsFactor_r9 v_tutte_IsFactor)
  (.reg [0, 1, 2, 3, 6, 7, 8, 9, 13, 16, 17, 18, 19, 63] c_tutte_IsFactor_r10 v_tutte_IsFactor)))))
  (.reg [0, 1, 2, 3, 6, 7, 8, 9, 13, 16, 17, 18, 19, 63] c_tutte_IsFactor_r11 v_tutte_IsFactor)))))))
  (.seq
  (.reg [0, 1, 2, 3, 6, 7, 8, 9, 13, 16, 17, 18, 19, 63] c_tutte_IsFactor_r12 v_tutte_IsFactor)
  .ret)))))
abbrev n_tutte_IsFactor : Nat := 16
theorem s_tutte_IsFactor : stripF Try.prog [6] v_tutte_IsFactor Try.f16 = some (c_tutte_IsFactor, [(.tmp 6)]) := by kernel_rfl
theorem go_tutte_IsFactor {L : List (List Nat)} {args : List AVal} {h : Heap} {Q : AVal → Heap → Prop} (hl : args.length = 3) (H : Wlk Try.prog [6] Try.f16.ntmps v_tutte_IsFactor L c_tutte_IsFactor (ends L [(.tmp 6)] Q) (entry v_tutte_IsFactor args h)) : ACalls Try.prog L n_tutte_IsFactor args h Q :=
  acalls_of_strip mix Try.func16 s_tutte_IsFactor (by rw [hl]; exact Nat.le_of_ble_eq_true rfl) H
def c_garlandref23_IsFactor_r0 : List GOp := [(none, (.box 3 (.t 0))),
  (none, (.asg 6 (.c (.bool false)) true))]
def c_garlandref23_IsFactor_r1 : List GOp := [(none, (.r (.ld 10 (.t 3) 2 true))),
  (none, (.r (.mov 11 (.t 1)))),
  (none, (.call 12 (.f 15) [((.t 10), false), ((.t 11), false)])),
  (none, (.r (.bin 13 .neq 0 (.t 12) (.c (.int .i64 0))))),
  (none, (.r (.mov 14 (.t 13)))), ((some (14, false)), (.r (.fldA 15 (.t 3) 0))), ((some (14, false)), (.r (.ld 16 (.t 15) 1 false))), ((some (14, false)), (.r (.mov 17 (.t 2)))), ((some (14, false)), (.bld 18 [((0, 1), ((.t 16), true)), ((1, 1), ((.t 17), true))] [(.int .i64 0), (.slice none 0 0)])), ((some (14, false)), (.call 19 (.f 33) [((.t 18), false)])), ((some (14, false)), (.r (.notb 20 (.t 19)))),
  (none, (.r (.pick 21 (.t 14) (.c (.bool true)) (.t 20))))]
def c_garlandref23_IsFactor_r2 : List GOp := [(none, (.asg 6 (.c (.bool false)) true))]
def c_garlandref23_IsFactor_r3 : List GOp := [(none, (.r (.fldA 22 (.t 3) 0))),
  (none, (.r (.ld 23 (.t 22) 1 false))),
  (none, (.mk 24 (.t 23) (.t 23) 1 8 [(.int .i64 0)])),
  (none, (.asg 7 (.t 24) true))]
def c_garlandref23_IsFactor_r4 : List GOp := [(none, (.asg 8 (.c (.int .i64 0)) true))]
def c_garlandref23_IsFactor_r5 : List GOp := [(none, (.r (.mov 25 (.t 8)))),
  (none, (.r (.mov 26 (.t 2)))),
  (none, (.r (.len 27 (.t 26)))),
  (none, (.r (.bin 28 .lss 0 (.t 25) (.t 27))))]
def c_garlandref23_IsFactor_r6 : Tree := 
  (.take [11, 12] (none, (.r (.ld 31 (.t 3) 2 true))) 
  (.take [3, 4, 5, 11, 12] (none, (.r (.mov 32 (.t 2)))) 
  (.take [3, 4, 5, 11, 12] (none, (.r (.mov 33 (.t 8)))) 
  (.take [4, 5, 11, 12] (none, (.r (.idxA 34 (.t 32) (.t 33) 2))) 
  (.take [5, 11, 12] (none, (.r (.fldA 35 (.t 34) 0))) 
  (.take [11, 12] (none, (.r (.ld 36 (.t 35) 1 false))) 
  (.take [8, 9, 10, 11, 12] (none, (.r (.mov 37 (.t 2)))) 
  (.take [8, 9, 10, 11, 12] (none, (.r (.mov 38 (.t 8)))) 
  (.take [9, 10, 11, 12] (none, (.r (.idxA 39 (.t 37) (.t 38) 2))) 
  (.take [10, 11, 12] (none, (.r (.fldA 40 (.t 39) 1))) 
  (.take [11, 12] (none, (.r (.ld 41 (.t 40) 1 false))) 
  (.one 11 (none, (.call 42 (.f 39) [((.t 31), false), ((.t 36), false), ((.t 41), false)])) 
  (.take [] (none, (.r (.notb 43 (.t 42)))) .done)))))))))))))
def c_garlandref23_IsFactor_r7 : List GOp := [(none, (.asg 6 (.c (.bool false)) true))]
def c_garlandref23_IsFactor_r8 : List GOp := [(none, (.r (.mov 44 (.t 7)))),
  (none, (.r (.mov 45 (.t 2)))),
  (none, (.r (.mov 46 (.t 8)))),
  (none, (.r (.idxA 47 (.t 45) (.t 46) 2))),
  (none, (.r (.fldA 48 (.t 47) 0))),
  (none, (.r (.ld 49 (.t 48) 1 false))),
  (none, (.r (.idxA 50 (.t 44) (.t 49) 1))),
  (none, (.r (.ld 51 (.t 50) 1 false))),
  (none, (.r (.bin 52 .add 0 (.t 51) (.c (.int .i64 1))))),
  (none, (.r (.idxA 53 (.t 44) (.t 49) 1))),
  (none, (.st (.t 53) (.t 52) 1))]
def c_garlandref23_IsFactor_r9 : List GOp := [(none, (.r (.mov 54 (.t 7)))),
  (none, (.r (.mov 55 (.t 2)))),
  (none, (.r (.mov 56 (.t 8)))),
  (none, (.r (.idxA 57 (.t 55) (.t 56) 2))),
  (none, (.r (.fldA 58 (.t 57) 1))),
  (none, (.r (.ld 59 (.t 58) 1 false))),
  (none, (.r (.idxA 60 (.t 54) (.t 59) 1))),
  (none, (.r (.ld 61 (.t 60) 1 false))),
  (none, (.r (.bin 62 .add 0 (.t 61) (.c (.int .i64 1))))),
  (none, (.r (.idxA 63 (.t 54) (.t 59) 1))),
  (none, (.st (.t 63) (.t 62) 1))]
def c_garlandref23_IsFactor_r10 : List GOp := [(none, (.r (.mov 29 (.t 8)))),
  (none, (.r (.bin 30 .add 0 (.t 29) (.c (.int .i64 1))))),
  (none, (.asg 8 (.t 30) true))]
def c_garlandref23_IsFactor_r11 : List GOp := [(none, (.asg 9 (.c (.int .i64 0)) true))]
def c_garlandref23_IsFactor_r12 : List GOp := [(none, (.r (.mov 64 (.t 9)))),
  (none, (.r (.fldA 65 (.t 3) 0))),
  (none, (.r (.ld 66 (.t 65) 1 false))),
  (none, (.r (.bin 67 .lss 0 (.t 64) (.t 66))))]
def c_garlandref23_IsFactor_r13 : Tree := 
  (.take [2, 3, 8] (none, (.r (.mov 70 (.t 7)))) 
  (.take [2, 3, 8] (none, (.r (.mov 71 (.t 9)))) 
  (.take [3, 8] (none, (.r (.idxA 72 (.t 70) (.t 71) 1))) 
  (.take [8] (none, (.r (.ld 73 (.t 72) 1 false))) 
  (.take [6, 7, 8] (none, (.r (.mov 74 (.t 1)))) 
  (.take [6, 7, 8] (none, (.r (.mov 75 (.t 9)))) 
  (.take [7, 8] (none, (.r (.idxA 76 (.t 74) (.t 75) 1))) 
  (.take [8] (none, (.r (.ld 77 (.t 76) 1 false))) 
  (.take [] (none, (.r (.bin 78 .neq 0 (.t 73) (.t 77)))) .done)))))))))
def c_garlandref23_IsFactor_r14 : List GOp := [(none, (.asg 6 (.c (.bool false)) true))]
def c_garlandref23_IsFactor_r15 : List GOp := [(none, (.r (.mov 68 (.t 9)))),
  (none, (.r (.bin 69 .add 0 (.t 68) (.c (.int .i64 1))))),
  (none, (.asg 9 (.t 69) true))]
def c_garlandref23_IsFactor_r16 : List GOp := [(none, (.asg 6 (.c (.bool true)) true))]
def v_garlandref23_IsFactor : List Nat := [0, 1, 2, 3, 6, 7, 8, 9, 21, 28, 43, 67, 78]
def c_garlandref23_IsFactor : ACode :=
  (.seq
  (.reg [0, 1, 2, 6, 7, 8, 9, 21, 28, 43, 67, 78] c_garlandref23_IsFactor_r0 v_garlandref23_IsFactor)
  (.seq
  (.seq
  (.reg [0, 1, 2, 3, 6, 7, 8, 9, 28, 43, 67, 78] c_garlandref23_IsFactor_r1 v_garlandref23_IsFactor)
  (.cond (.t 21) (.seq
  (.reg [0, 1, 2, 3, 6, 7, 8, 9, 21, 28, 43, 67, 78] c_garlandref23_IsFactor_r2 v_garlandref23_IsFactor)
  .ret) .skip))
  (.seq
  (.reg [0, 1, 2, 3, 6, 7, 8, 9, 21, 28, 43, 67, 78] c_garlandref23_IsFactor_r3 v_garlandref23_IsFactor)
  (.seq
  (.seq
  (.reg [0, 1, 2, 3, 6, 7, 8, 9, 21, 28, 43, 67, 78] c_garlandref23_IsFactor_r4 v_garlandref23_IsFactor)
  (.blk 0 (.loop (.seq
  (.seq
  (.reg [0, 1, 2, 3, 6, 7, 8, 9, 21, 43, 67, 78] c_garlandref23_IsFactor_r5 v_garlandref23_IsFactor)
  (.cond (.t 28) .skip (.exit 0)))
  (.seq
  (.blk 1 (.seq
  (.seq
  (.draw [0, 1, 2, 3, 6, 7, 8, 9, 21, 28, 67, 78] c_garlandref23_IsFactor_r6 v_garlandref23_IsFactor)
  (.cond (.t 43) (.seq
  (.reg [0, 1, 2, 3, 6, 7, 8, 9, 21, 28, 43, 67, 78] c_garlandref23_IsFactor_r7 v_garlandref23_IsFactor)
  .ret) .skip))
  (.seq
  (.reg [0, 1, 2, 3, 6, 7, 8, 9, 21, 28, 43, 67, 78] c_garlandref23_IsFactor_r8 v_garlandref23_IsFactor)
  (.reg [0, 1, 2, 3, 6, 7, 8, 9, 21, 28, 43, 67, 78] c_garlandref23_IsFactor_r9 v_garlandref23_IsFactor))))
  (.reg [0, 1, 2, 3, 6, 7, 8, 9, 21, 28, 43, 67, 78] c_garlandref23_IsFactor_r10 v_garlandref23_IsFactor))))))
  (.seq
  (.seq
  (.reg [0, 1, 2, 3, 6, 7, 8, 9, 21, 28, 43, 67, 78] c_garlandref23_IsFactor_r11 v_garlandref23_IsFactor)
  (.blk 2 (.loop (.seq
  (.seq
  (.reg [0, 1, 2, 3, 6, 7, 8, 9, 21, 28, 43, 78] c_garlandref23_IsFactor_r12 v_garlandref23_IsFactor)
  (.cond (.t 67) .skip (.exit 2)))
  (.seq
  (.blk 3 (.seq
  (.draw [0, 1, 2, 3, 6, 7, 8, 9, 21, 28, 43, 67] c_garlandref23_IsFactor_r13 v_garlandref23_IsFactor)
  (.cond (.t 78) (.seq
  (.reg [0, 1, 2, 3, 6, 7, 8, 9, 21, 28, 43, 67, 78] c_garlandref23_IsFactor_r14 v_garlandref23_IsFactor)
  .ret) .skip)))
  (.reg [0, 1, 2, 3, 6, 7, 8, 9, 21, 28, 43, 67, 78] c_garlandref23_IsFactor_r15 v_garlandref23_IsFactor))))))
  (.seq
  (.reg [0, 1, 2, 3, 6, 7, 8, 9, 21, 28, 43, 67, 78] c_garlandref23_IsFactor_r16 v_garlandref23_IsFactor)
  .ret))))))
abbrev n_garlandref23_IsFactor : Nat := 17
theorem s_garlandref23_IsFactor : stripF Try.prog [6] v_garlandref23_IsFactor Try.f17 = some (c_garlandref23_IsFactor, [(.tmp 6)]) := by kernel_rfl
theorem go_garlandref23_IsFactor {L : List (List Nat)} {args : List AVal} {h : Heap} {Q : AVal → Heap → Prop} (hl : args.length = 3) (H : Wlk Try.prog [6] Try.f17.ntmps v_garlandref23_IsFactor L c_garlandref23_IsFactor (ends L [(.tmp 6)] Q) (entry v_garlandref23_IsFactor args h)) : ACalls Try.prog L n_garlandref23_IsFactor args h Q :=
  acalls_of_strip mix Try.func17 s_garlandref23_IsFactor (by rw [hl]; exact Nat.le_of_ble_eq_true rfl) H
def c_garlandhelp_Kept_int__r0 : List GOp := [(none, (.asg 6 (.c (.bool false)) true))]
def c_garlandhelp_Kept_int__r1 : List GOp := [(none, (.r (.mov 9 (.t 0)))),
  (none, (.r (.mov 10 (.t 1)))),
  (none, (.call 11 (.f 40) [((.t 9), false), ((.t 10), false)])),
  (none, (.r (.notb 12 (.t 11)))),
  (none, (.r (.mov 13 (.t 12)))), ((some (13, false)), (.r (.mov 14 (.t 0)))), ((some (13, false)), (.capq 15 (.t 14))), ((some (13, false)), (.r (.mov 16 (.t 1)))), ((some (13, false)), (.r (.len 17 (.t 16)))), ((some (13, false)), (.r (.bin 18 .add 0 (.t 17) (.c (.int .i64 3))))), ((some (13, false)), (.r (.bin 19 .lss 0 (.t 15) (.t 18)))),
  (none, (.r (.pick 20 (.t 13) (.c (.bool true)) (.t 19))))]
def c_garlandhelp_Kept_int__r2 : List GOp := [(none, (.asg 6 (.c (.bool false)) true))]
def c_garlandhelp_Kept_int__r3 : List GOp := [(none, (.r (.mov 21 (.t 0)))),
  (none, (.r (.mov 22 (.t 1)))),
  (none, (.r (.len 23 (.t 22)))),
  (none, (.r (.bin 24 .add 0 (.t 23) (.c (.int .i64 3))))),
  (none, (.slc 25 (.t 21) none (some (.t 24)) 1)),
  (none, (.asg 7 (.t 25) true))]
def c_garlandhelp_Kept_int__r4 : List GOp := [(none, (.r (.mov 26 (.t 1)))),
  (none, (.r (.len 27 (.t 26)))),
  (none, (.asg 8 (.t 27) true))]
def c_garlandhelp_Kept_int__r5 : List GOp := [(none, (.r (.mov 28 (.t 8)))),
  (none, (.r (.mov 29 (.t 7)))),
  (none, (.r (.len 30 (.t 29)))),
  (none, (.r (.bin 31 .lss 0 (.t 28) (.t 30))))]
def c_garlandhelp_Kept_int__r6 : List GOp := [(none, (.r (.mov 34 (.t 7)))),
  (none, (.r (.mov 35 (.t 8)))),
  (none, (.r (.idxA 36 (.t 34) (.t 35) 1))),
  (none, (.r (.ld 37 (.t 36) 1 false))),
  (none, (.r (.mov 38 (.t 2)))),
  (none, (.r (.bin 39 .neq 0 (.t 37) (.t 38))))]
def c_garlandhelp_Kept_int__r7 : List GOp := [(none, (.asg 6 (.c (.bool false)) true))]
def c_garlandhelp_Kept_int__r8 : List GOp := [(none, (.r (.mov 32 (.t 8)))),
  (none, (.r (.bin 33 .add 0 (.t 32) (.c (.int .i64 1))))),
  (none, (.asg 8 (.t 33) true))]
def c_garlandhelp_Kept_int__r9 : List GOp := [(none, (.asg 6 (.c (.bool true)) true))]
def v_garlandhelp_Kept_int_ : List Nat := [0, 1, 2, 6, 7, 8, 20, 31, 39]
def c_garlandhelp_Kept_int_ : ACode :=
  (.seq
  (.reg [0, 1, 2, 6, 7, 8, 20, 31, 39] c_garlandhelp_Kept_int__r0 v_garlandhelp_Kept_int_)
  (.seq
  (.seq
  (.reg [0, 1, 2, 6, 7, 8, 31, 39] c_garlandhelp_Kept_int__r1 v_garlandhelp_Kept_int_)
  (.cond (.t 20) (.seq
  (.reg [0, 1, 2, 6, 7, 8, 20, 31, 39] c_garlandhelp_Kept_int__r2 v_garlandhelp_Kept_int_)
  .ret) .skip))
  (.seq
  (.reg [0, 1, 2, 6, 7, 8, 20, 31, 39] c_garlandhelp_Kept_int__r3 v_garlandhelp_Kept_int_)
  (.seq
  (.seq
  (.reg [0, 1, 2, 6, 7, 8, 20, 31, 39] c_garlandhelp_Kept_int__r4 v_garlandhelp_Kept_int_)
  (.blk 0 (.loop (.seq
  (.seq
  (.reg [0, 1, 2, 6, 7, 8, 20, 39] c_garlandhelp_Kept_int__r5 v_garlandhelp_Kept_int_)
  (.cond (.t 31) .skip (.exit 0)))
  (.seq
  (.blk 1 (.seq
  (.reg [0, 1, 2, 6, 7, 8, 20, 31] c_garlandhelp_Kept_int__r6 v_garlandhelp_Kept_int_)
  (.cond (.t 39) (.seq
  (.reg [0, 1, 2, 6, 7, 8, 20, 31, 39] c_garlandhelp_Kept_int__r7 v_garlandhelp_Kept_int_)
  .ret) .skip)))
  (.reg [0, 1, 2, 6, 7, 8, 20, 31, 39] c_garlandhelp_Kept_int__r8 v_garlandhelp_Kept_int_))))))
  (.seq
  (.reg [0, 1, 2, 6, 7, 8, 20, 31, 39] c_garlandhelp_Kept_int__r9 v_garlandhelp_Kept_int_)
  .ret)))))
abbrev n_garlandhelp_Kept_int_ : Nat := 18
theorem s_garlandhelp_Kept_int_ : stripF Try.prog [6] v_garlandhelp_Kept_int_ Try.f18 = some (c_garlandhelp_Kept_int_, [(.tmp 6)]) := by kernel_rfl
theorem go_garlandhelp_Kept_int_ {L : List (List Nat)} {args : List AVal} {h : Heap} {Q : AVal → Heap → Prop} (hl : args.length = 3) (H : Wlk Try.prog [6] Try.f18.ntmps v_garlandhelp_Kept_int_ L c_garlandhelp_Kept_int_ (ends L [(.tmp 6)] Q) (entry v_garlandhelp_Kept_int_ args h)) : ACalls Try.prog L n_garlandhelp_Kept_int_ args h Q :=
  acalls_of_strip mix Try.func18 s_garlandhelp_Kept_int_ (by rw [hl]; exact Nat.le_of_ble_eq_true rfl) H
def c_garlandhelp_Kept_api_Edge__r0 : List GOp := [(none, (.box 5 (.t 2))),
  (none, (.asg 6 (.c (.bool false)) true))]
def c_garlandhelp_Kept_api_Edge__r1 : List GOp := [(none, (.r (.mov 9 (.t 0)))),
  (none, (.r (.mov 10 (.t 1)))),
  (none, (.call 11 (.f 41) [((.t 9), false), ((.t 10), false)])),
  (none, (.r (.notb 12 (.t 11)))),
  (none, (.r (.mov 13 (.t 12)))), ((some (13, false)), (.r (.mov 14 (.t 0)))), ((some (13, false)), (.capq 15 (.t 14))), ((some (13, false)), (.r (.mov 16 (.t 1)))), ((some (13, false)), (.r (.len 17 (.t 16)))), ((some (13, false)), (.r (.bin 18 .add 0 (.t 17) (.c (.int .i64 3))))), ((some (13, false)), (.r (.bin 19 .lss 0 (.t 15) (.t 18)))),
  (none, (.r (.pick 20 (.t 13) (.c (.bool true)) (.t 19))))]
def c_garlandhelp_Kept_api_Edge__r2 : List GOp := [(none, (.asg 6 (.c (.bool false)) true))]
def c_garlandhelp_Kept_api_Edge__r3 : List GOp := [(none, (.r (.mov 21 (.t 0)))),
  (none, (.r (.mov 22 (.t 1)))),
  (none, (.r (.len 23 (.t 22)))),
  (none, (.r (.bin 24 .add 0 (.t 23) (.c (.int .i64 3))))),
  (none, (.slc 25 (.t 21) none (some (.t 24)) 2)),
  (none, (.asg 7 (.t 25) true))]
def c_garlandhelp_Kept_api_Edge__r4 : List GOp := [(none, (.r (.mov 26 (.t 1)))),
  (none, (.r (.len 27 (.t 26)))),
  (none, (.asg 8 (.t 27) true))]
def c_garlandhelp_Kept_api_Edge__r5 : List GOp := [(none, (.r (.mov 28 (.t 8)))),
  (none, (.r (.mov 29 (.t 7)))),
  (none, (.r (.len 30 (.t 29)))),
  (none, (.r (.bin 31 .lss 0 (.t 28) (.t 30))))]
def c_garlandhelp_Kept_api_Edge__r6 : Tree := 
  (.take [2, 3, 5] (none, (.r (.mov 34 (.t 7)))) 
  (.take [2, 3, 5] (none, (.r (.mov 35 (.t 8)))) 
  (.take [3, 5] (none, (.r (.idxA 36 (.t 34) (.t 35) 2))) 
  (.take [5] (none, (.r (.ld 37 (.t 36) 2 true))) 
  (.take [5] (none, (.r (.ld 38 (.t 5) 2 true))) 
  (.take [] (none, (.r (.bin 39 .neq 8 (.t 37) (.t 38)))) .done))))))
def c_garlandhelp_Kept_api_Edge__r7 : List GOp := [(none, (.asg 6 (.c (.bool false)) true))]
def c_garlandhelp_Kept_api_Edge__r8 : List GOp := [(none, (.r (.mov 32 (.t 8)))),
  (none, (.r (.bin 33 .add 0 (.t 32) (.c (.int .i64 1))))),
  (none, (.asg 8 (.t 33) true))]
def c_garlandhelp_Kept_api_Edge__r9 : List GOp := [(none, (.asg 6 (.c (.bool true)) true))]
def v_garlandhelp_Kept_api_Edge_ : List Nat := [0, 1, 2, 5, 6, 7, 8, 20, 31, 39]
def c_garlandhelp_Kept_api_Edge_ : ACode :=
  (.seq
  (.reg [0, 1, 2, 6, 7, 8, 20, 31, 39] c_garlandhelp_Kept_api_Edge__r0 v_garlandhelp_Kept_api_Edge_)
  (.seq
  (.seq
  (.reg [0, 1, 2, 5, 6, 7, 8, 31, 39] c_garlandhelp_Kept_api_Edge__r1 v_garlandhelp_Kept_api_Edge_)
  (.cond (.t 20) (.seq
  (.reg [0, 1, 2, 5, 6, 7, 8, 20, 31, 39] c_garlandhelp_Kept_api_Edge__r2 v_garlandhelp_Kept_api_Edge_)
  .ret) .skip))
  (.seq
  (.reg [0, 1, 2, 5, 6, 7, 8, 20, 31, 39] c_garlandhelp_Kept_api_Edge__r3 v_garlandhelp_Kept_api_Edge_)
  (.seq
  (.seq
  (.reg [0, 1, 2, 5, 6, 7, 8, 20, 31, 39] c_garlandhelp_Kept_api_Edge__r4 v_garlandhelp_Kept_api_Edge_)
  (.blk 0 (.loop (.seq
  (.seq
  (.reg [0, 1, 2, 5, 6, 7, 8, 20, 39] c_garlandhelp_Kept_api_Edge__r5 v_garlandhelp_Kept_api_Edge_)
  (.cond (.t 31) .skip (.exit 0)))
  (.seq
  (.blk 1 (.seq
  (.draw [0, 1, 2, 5, 6, 7, 8, 20, 31] c_garlandhelp_Kept_api_Edge__r6 v_garlandhelp_Kept_api_Edge_)
  (.cond (.t 39) (.seq
  (.reg [0, 1, 2, 5, 6, 7, 8, 20, 31, 39] c_garlandhelp_Kept_api_Edge__r7 v_garlandhelp_Kept_api_Edge_)
  .ret) .skip)))
  (.reg [0, 1, 2, 5, 6, 7, 8, 20, 31, 39] c_garlandhelp_Kept_api_Edge__r8 v_garlandhelp_Kept_api_Edge_))))))
  (.seq
  (.reg [0, 1, 2, 5, 6, 7, 8, 20, 31, 39] c_garlandhelp_Kept_api_Edge__r9 v_garlandhelp_Kept_api_Edge_)
  .ret)))))
abbrev n_garlandhelp_Kept_api_Edge_ : Nat := 19
theorem s_garlandhelp_Kept_api_Edge_ : stripF Try.prog [6] v_garlandhelp_Kept_api_Edge_ Try.f19 = some (c_garlandhelp_Kept_api_Edge_, [(.tmp 6)]) := by kernel_rfl
theorem go_garlandhelp_Kept_api_Edge_ {L : List (List Nat)} {args : List AVal} {h : Heap} {Q : AVal → Heap → Prop} (hl : args.length = 3) (H : Wlk Try.prog [6] Try.f19.ntmps v_garlandhelp_Kept_api_Edge_ L c_garlandhelp_Kept_api_Edge_ (ends L [(.tmp 6)] Q) (entry v_garlandhelp_Kept_api_Edge_ args h)) : ACalls Try.prog L n_garlandhelp_Kept_api_Edge_ args h Q :=
  acalls_of_strip mix Try.func19 s_garlandhelp_Kept_api_Edge_ (by rw [hl]; exact Nat.le_of_ble_eq_true rfl) H
def c_tutte_placed_r0 : List GOp := [(none, (.box 3 (.t 1))),
  (none, (.asg 4 (.c (.slice none 0 0)) true)),
  (none, (.asg 5 (.c (.bool false)) true))]
def c_tutte_placed_r1 : List GOp := [(none, (.r (.mov 11 (.t 0)))),
  (none, (.mk 12 (.t 11) (.t 11) 1 8 [(.int .i64 0)])),
  (none, (.asg 6 (.t 12) true))]
def c_tutte_placed_r2 : List GOp := [(none, (.r (.fldA 13 (.t 3) 0))),
  (none, (.r (.ld 14 (.t 13) 1 false))),
  (none, (.r (.fldA 15 (.t 3) 1))),
  (none, (.r (.ld 16 (.t 15) 1 false))),
  (none, (.blds 17 2 1 [((0, 1), ((.t 14), true)), ((1, 1), ((.t 16), true))] [(.slice none 0 0)])),
  (none, (.r (.len 18 (.t 17)))),
  (none, (.r (.mov 19 (.c (.int .i64 0)))))]
def c_tutte_placed_r3 : List GOp := [(none, (.r (.bin 20 .lss 0 (.t 19) (.t 18))))]
def c_tutte_placed_r4 : List GOp := [(none, (.r (.mov 21 (.t 19)))),
  (none, (.r (.idxA 22 (.t 17) (.t 19) 1))),
  (none, (.r (.ld 23 (.t 22) 1 false))),
  (none, (.asg 7 (.t 21) true)),
  (none, (.asg 8 (.t 23) true))]
def c_tutte_placed_r5 : List GOp := [(none, (.r (.mov 24 (.t 8)))),
  (none, (.r (.len 25 (.t 24)))),
  (none, (.r (.mov 26 (.c (.int .i64 0)))))]
def c_tutte_placed_r6 : List GOp := [(none, (.r (.bin 27 .lss 0 (.t 26) (.t 25))))]
def c_tutte_placed_r7 : List GOp := [(none, (.r (.mov 28 (.t 26)))),
  (none, (.r (.idxA 29 (.t 24) (.t 26) 1))),
  (none, (.r (.ld 30 (.t 29) 1 false))),
  (none, (.asg 9 (.t 28) true)),
  (none, (.asg 10 (.t 30) true))]
def c_tutte_placed_r8 : List GOp := [(none, (.r (.mov 31 (.t 10)))),
  (none, (.r (.bin 32 .lss 0 (.t 31) (.c (.int .i64 0))))),
  (none, (.r (.mov 33 (.t 32)))), ((some (33, false)), (.r (.mov 34 (.t 10)))), ((some (33, false)), (.r (.mov 35 (.t 0)))), ((some (33, false)), (.r (.bin 36 .geq 0 (.t 34) (.t 35)))),
  (none, (.r (.pick 37 (.t 33) (.c (.bool true)) (.t 36)))),
  (none, (.r (.mov 38 (.t 37)))), ((some (38, false)), (.r (.mov 39 (.t 6)))), ((some (38, false)), (.r (.mov 40 (.t 10)))), ((some (38, false)), (.r (.idxA 41 (.t 39) (.t 40) 1))), ((some (38, false)), (.r (.ld 42 (.t 41) 1 false))), ((some (38, false)), (.r (.bin 43 .neq 0 (.t 42) (.c (.int .i64 0))))),
  (none, (.r (.pick 44 (.t 38) (.c (.bool true)) (.t 43)))),
  (none, (.r (.mov 45 (.t 44)))), ((some (45, false)), (.r (.mov 46 (.t 9)))), ((some (45, false)), (.r (.bin 47 .gtr 0 (.t 46) (.c (.int .i64 0))))), ((some (45, false)), (.r (.mov 48 (.t 47)))), ((some (48, true)), (.r (.mov 49 (.t 10)))), ((some (48, true)), (.r (.mov 50 (.t 8)))), ((some (48, true)), (.r (.mov 51 (.t 9)))), ((some (48, true)), (.r (.bin 52 .sub 0 (.t 51) (.c (.int .i64 1))))), ((some (48, true)), (.r (.idxA 53 (.t 50) (.t 52) 1))), ((some (48, true)), (.r (.ld 54 (.t 53) 1 false))), ((some (48, true)), (.r (.bin 55 .lss 0 (.t 49) (.t 54)))), ((some (45, false)), (.r (.pick 56 (.t 48) (.t 55) (.c (.bool false))))),
  (none, (.r (.pick 57 (.t 45) (.c (.bool true)) (.t 56))))]
def c_tutte_placed_r9 : List GOp := [(none, (.asg 4 (.c (.slice none 0 0)) true)),
  (none, (.asg 5 (.c (.bool false)) true))]
def c_tutte_placed_r10 : List GOp := [(none, (.r (.mov 58 (.t 6)))),
  (none, (.r (.mov 59 (.t 10)))),
  (none, (.r (.mov 60 (.t 7)))),
  (none, (.r (.bin 61 .add 0 (.c (.int .i64 1)) (.t 60)))),
  (none, (.r (.idxA 62 (.t 58) (.t 59) 1))),
  (none, (.st (.t 62) (.t 61) 1))]
def c_tutte_placed_r11 : List GOp := [(none, (.r (.bin 63 .add 0 (.t 26) (.c (.int .i64 1))))),
  (none, (.asg 26 (.t 63) true))]
def c_tutte_placed_r12 : List GOp := [(none, (.r (.bin 64 .add 0 (.t 19) (.c (.int .i64 1))))),
  (none, (.asg 19 (.t 64) true))]
def c_tutte_placed_r13 : List GOp := [(none, (.r (.mov 65 (.t 6)))),
  (none, (.asg 4 (.t 65) true)),
  (none, (.asg 5 (.c (.bool true)) true))]
def v_tutte_placed : List Nat := [0, 1, 3, 4, 5, 6, 7, 8, 9, 10, 17, 18, 19, 20, 24, 25, 26, 27, 57]
def c_tutte_placed : ACode :=
  (.seq
  (.reg [0, 1, 4, 5, 6, 7, 8, 9, 10, 17, 18, 19, 20, 24, 25, 26, 27, 57] c_tutte_placed_r0 v_tutte_placed)
  (.seq
  (.reg [0, 1, 3, 4, 5, 6, 7, 8, 9, 10, 17, 18, 19, 20, 24, 25, 26, 27, 57] c_tutte_placed_r1 v_tutte_placed)
  (.seq
  (.seq
  (.reg [0, 1, 3, 4, 5, 6, 7, 8, 9, 10, 20, 24, 25, 26, 27, 57] c_tutte_placed_r2 v_tutte_placed)
  (.blk 0 (.loop (.seq
  (.reg [0, 1, 3, 4, 5, 6, 7, 8, 9, 10, 17, 18, 19, 24, 25, 26, 27, 57] c_tutte_placed_r3 v_tutte_placed)
  (.seq
  (.cond (.t 20) .skip (.exit 0))
  (.seq
  (.blk 1 (.seq
  (.reg [0, 1, 3, 4, 5, 6, 7, 8, 9, 10, 17, 18, 19, 20, 24, 25, 26, 27, 57] c_tutte_placed_r4 v_tutte_placed)
  (.seq
  (.reg [0, 1, 3, 4, 5, 6, 7, 8, 9, 10, 17, 18, 19, 20, 27, 57] c_tutte_placed_r5 v_tutte_placed)
  (.blk 2 (.loop (.seq
  (.reg [0, 1, 3, 4, 5, 6, 7, 8, 9, 10, 17, 18, 19, 20, 24, 25, 26, 57] c_tutte_placed_r6 v_tutte_placed)
  (.seq
  (.cond (.t 27) .skip (.exit 2))
  (.seq
  (.blk 3 (.seq
  (.reg [0, 1, 3, 4, 5, 6, 7, 8, 9, 10, 17, 18, 19, 20, 24, 25, 26, 27, 57] c_tutte_placed_r7 v_tutte_placed)
  (.seq
  (.seq
  (.reg [0, 1, 3, 4, 5, 6, 7, 8, 9, 10, 17, 18, 19, 20, 24, 25, 26, 27] c_tutte_placed_r8 v_tutte_placed)
  (.cond (.t 57) (.seq
  (.reg [0, 1, 3, 4, 5, 6, 7, 8, 9, 10, 17, 18, 19, 20, 24, 25, 26, 27, 57] c_tutte_placed_r9 v_tutte_placed)
  .ret) .skip))
  (.reg [0, 1, 3, 4, 5, 6, 7, 8, 9, 10, 17, 18, 19, 20, 24, 25, 26, 27, 57] c_tutte_placed_r10 v_tutte_placed))))
  (.reg [0, 1, 3, 4, 5, 6, 7, 8, 9, 10, 17, 18, 19, 20, 24, 25, 26, 27, 57] c_tutte_placed_r11 v_tutte_placed)))))))))
  (.reg [0, 1, 3, 4, 5, 6, 7, 8, 9, 10, 17, 18, 19, 20, 24, 25, 26, 27, 57] c_tutte_placed_r12 v_tutte_placed)))))))
  (.seq
  (.reg [0, 1, 3, 4, 5, 6, 7, 8, 9, 10, 17, 18, 19, 20, 24, 25, 26, 27, 57] c_tutte_placed_r13 v_tutte_placed)
  .ret))))
abbrev n_tutte_placed : Nat := 21
theorem s_tutte_placed : stripF Try.prog [4, 5] v_tutte_placed Try.f21 = some (c_tutte_placed, [(.tmp 4), (.tmp 5)]) := by kernel_rfl
theorem go_tutte_placed {L : List (List Nat)} {args : List AVal} {h : Heap} {Q : AVal → Heap → Prop} (hl : args.length = 2) (H : Wlk Try.prog [4, 5] Try.f21.ntmps v_tutte_placed L c_tutte_placed (ends L [(.tmp 4), (.tmp 5)] Q) (entry v_tutte_placed args h)) : ACalls Try.prog L n_tutte_placed args h Q :=
  acalls_of_strip mix Try.func21 s_tutte_placed (by rw [hl]; exact Nat.le_of_ble_eq_true rfl) H
def c_tutte_degrees_sum_r0 : List GOp := [(none, (.asg 4 (.c (.int .i64 0)) true))]
def c_tutte_degrees_sum_r1 : List GOp := [(none, (.asg 5 (.c (.int .i64 0)) true))]
def c_tutte_degrees_sum_r2 : List GOp := [(none, (.r (.mov 8 (.t 1)))),
  (none, (.r (.len 9 (.t 8)))),
  (none, (.r (.mov 10 (.c (.int .i64 0)))))]
def c_tutte_degrees_sum_r3 : List GOp := [(none, (.r (.bin 11 .lss 0 (.t 10) (.t 9))))]
def c_tutte_degrees_sum_r4 : List GOp := [(none, (.r (.idxA 12 (.t 8) (.t 10) 1))),
  (none, (.r (.ld 13 (.t 12) 1 false))),
  (none, (.asg 7 (.t 13) true))]
def c_tutte_degrees_sum_r5 : List GOp := [(none, (.r (.mov 14 (.t 5)))),
  (none, (.r (.mov 15 (.t 0)))),
  (none, (.r (.mov 16 (.t 7)))),
  (none, (.r (.idxA 17 (.t 15) (.t 16) 1))),
  (none, (.r (.ld 18 (.t 17) 1 false))),
  (none, (.r (.bin 19 .add 0 (.t 14) (.t 18)))),
  (none, (.asg 5 (.t 19) true))]
def c_tutte_degrees_sum_r6 : List GOp := [(none, (.r (.bin 20 .add 0 (.t 10) (.c (.int .i64 1))))),
  (none, (.asg 10 (.t 20) true))]
def c_tutte_degrees_sum_r7 : List GOp := [(none, (.r (.mov 21 (.t 5)))),
  (none, (.asg 4 (.t 21) true))]
def v_tutte_degrees_sum : List Nat := [0, 1, 4, 5, 7, 8, 9, 10, 11]
def c_tutte_degrees_sum : ACode :=
  (.seq
  (.reg [0, 1, 4, 5, 7, 8, 9, 10, 11] c_tutte_degrees_sum_r0 v_tutte_degrees_sum)
  (.seq
  (.reg [0, 1, 4, 5, 7, 8, 9, 10, 11] c_tutte_degrees_sum_r1 v_tutte_degrees_sum)
  (.seq
  (.seq
  (.reg [0, 1, 4, 5, 7, 11] c_tutte_degrees_sum_r2 v_tutte_degrees_sum)
  (.blk 0 (.loop (.seq
  (.reg [0, 1, 4, 5, 7, 8, 9, 10] c_tutte_degrees_sum_r3 v_tutte_degrees_sum)
  (.seq
  (.cond (.t 11) .skip (.exit 0))
  (.seq
  (.blk 1 (.seq
  (.reg [0, 1, 4, 5, 7, 8, 9, 10, 11] c_tutte_degrees_sum_r4 v_tutte_degrees_sum)
  (.reg [0, 1, 4, 5, 7, 8, 9, 10, 11] c_tutte_degrees_sum_r5 v_tutte_degrees_sum)))
  (.reg [0, 1, 4, 5, 7, 8, 9, 10, 11] c_tutte_degrees_sum_r6 v_tutte_degrees_sum)))))))
  (.seq
  (.reg [0, 1, 4, 5, 7, 8, 9, 10, 11] c_tutte_degrees_sum_r7 v_tutte_degrees_sum)
  .ret))))
abbrev n_tutte_degrees_sum : Nat := 22
theorem s_tutte_degrees_sum : stripF Try.prog [4] v_tutte_degrees_sum Try.f22 = some (c_tutte_degrees_sum, [(.tmp 4)]) := by kernel_rfl
theorem go_tutte_degrees_sum {L : List (List Nat)} {args : List AVal} {h : Heap} {Q : AVal → Heap → Prop} (hl : args.length = 2) (H : Wlk Try.prog [4] Try.f22.ntmps v_tutte_degrees_sum L c_tutte_degrees_sum (ends L [(.tmp 4)] Q) (entry v_tutte_degrees_sum args h)) : ACalls Try.prog L n_tutte_degrees_sum args h Q :=
  acalls_of_strip mix Try.func22 s_tutte_degrees_sum (by rw [hl]; exact Nat.le_of_ble_eq_true rfl) H
def c_graph_Lists_r0 : List GOp := [(none, (.asg 4 (.c (.slice none 0 0)) true))]
def c_graph_Lists_r1 : List GOp := [(none, (.r (.mov 10 (.t 0)))),
  (none, (.mk 11 (.t 10) (.t 10) 1 24 [(.slice none 0 0)])),
  (none, (.asg 5 (.t 11) true))]
def c_graph_Lists_r2 : List GOp := [(none, (.r (.mov 12 (.t 1)))),
  (none, (.r (.len 13 (.t 12)))),
  (none, (.r (.mov 14 (.c (.int .i64 0)))))]
def c_graph_Lists_r3 : List GOp := [(none, (.r (.bin 15 .lss 0 (.t 14) (.t 13))))]
def c_graph_Lists_r4 : List GOp := [(none, (.r (.idxA 16 (.t 12) (.t 14) 2))),
  (none, (.r (.ld 17 (.t 16) 2 true))),
  (none, (.alloc 7 [(.int .i64 0), (.int .i64 0)])),
  (none, (.st (.t 7) (.t 17) 2))]
def c_graph_Lists_r5 : Tree := 
  (.take [12, 13] (none, (.r (.mov 18 (.t 5)))) 
  (.take [2, 12, 13] (none, (.r (.fldA 19 (.t 7) 1))) 
  (.take [12, 13] (none, (.r (.ld 20 (.t 19) 1 false))) 
  (.take [6, 7, 11, 12, 13] (none, (.r (.mov 21 (.t 5)))) 
  (.take [5, 6, 7, 11, 12, 13] (none, (.r (.fldA 22 (.t 7) 1))) 
  (.take [6, 7, 11, 12, 13] (none, (.r (.ld 23 (.t 22) 1 false))) 
  (.take [7, 11, 12, 13] (none, (.r (.idxA 24 (.t 21) (.t 23) 1))) 
  (.take [11, 12, 13] (none, (.r (.ld 25 (.t 24) 1 false))) 
  (.take [9, 10, 11, 12, 13] (none, (.r (.fldA 26 (.t 7) 0))) 
  (.take [10, 11, 12, 13] (none, (.r (.ld 27 (.t 26) 1 false))) 
  (.one 10 (none, (.blds 28 1 1 [((0, 1), ((.t 27), true))] [(.int .i64 0)])) 
  (.one 11 (none, (.app 29 (.t 25) (.t 28) 1 8)) 
  (.take [13] (none, (.r (.idxA 30 (.t 18) (.t 20) 1))) 
  (.one 13 (none, (.st (.t 30) (.t 29) 1)) .done))))))))))))))
def c_graph_Lists_r6 : List GOp := [(none, (.r (.bin 31 .add 0 (.t 14) (.c (.int .i64 1))))),
  (none, (.asg 14 (.t 31) true))]
def c_graph_Lists_r7 : List GOp := [(none, (.r (.mov 32 (.t 1)))),
  (none, (.r (.len 33 (.t 32)))),
  (none, (.r (.mov 34 (.c (.int .i64 0)))))]
def c_graph_Lists_r8 : List GOp := [(none, (.r (.bin 35 .lss 0 (.t 34) (.t 33))))]
def c_graph_Lists_r9 : List GOp := [(none, (.r (.idxA 36 (.t 32) (.t 34) 2))),
  (none, (.r (.ld 37 (.t 36) 2 true))),
  (none, (.alloc 9 [(.int .i64 0), (.int .i64 0)])),
  (none, (.st (.t 9) (.t 37) 2))]
def c_graph_Lists_r10 : Tree := 
  (.take [12, 13] (none, (.r (.mov 38 (.t 5)))) 
  (.take [2, 12, 13] (none, (.r (.fldA 39 (.t 9) 0))) 
  (.take [12, 13] (none, (.r (.ld 40 (.t 39) 1 false))) 
  (.take [6, 7, 11, 12, 13] (none, (.r (.mov 41 (.t 5)))) 
  (.take [5, 6, 7, 11, 12, 13] (none, (.r (.fldA 42 (.t 9) 0))) 
  (.take [6, 7, 11, 12, 13] (none, (.r (.ld 43 (.t 42) 1 false))) 
  (.take [7, 11, 12, 13] (none, (.r (.idxA 44 (.t 41) (.t 43) 1))) 
  (.take [11, 12, 13] (none, (.r (.ld 45 (.t 44) 1 false))) 
  (.take [9, 10, 11, 12, 13] (none, (.r (.fldA 46 (.t 9) 1))) 
  (.take [10, 11, 12, 13] (none, (.r (.ld 47 (.t 46) 1 false))) 
  (.one 10 (none, (.blds 48 1 1 [((0, 1), ((.t 47), true))] [(.int .i64 0)])) 
  (.one 11 (none, (.app 49 (.t 45) (.t 48) 1 8)) 
  (.take [13] (none, (.r (.idxA 50 (.t 38) (.t 40) 1))) 
  (.one 13 (none, (.st (.t 50) (.t 49) 1)) .done))))))))))))))
def c_graph_Lists_r11 : List GOp := [(none, (.r (.bin 51 .add 0 (.t 34) (.c (.int .i64 1))))),
  (none, (.asg 34 (.t 51) true))]
def c_graph_Lists_r12 : List GOp := [(none, (.r (.mov 52 (.t 5)))),
  (none, (.asg 4 (.t 52) true))]
def v_graph_Lists : List Nat := [0, 1, 4, 5, 7, 9, 12, 13, 14, 15, 32, 33, 34, 35]
def c_graph_Lists : ACode :=
  (.seq
  (.reg [0, 1, 4, 5, 7, 9, 12, 13, 14, 15, 32, 33, 34, 35] c_graph_Lists_r0 v_graph_Lists)
  (.seq
  (.reg [0, 1, 4, 5, 7, 9, 12, 13, 14, 15, 32, 33, 34, 35] c_graph_Lists_r1 v_graph_Lists)
  (.seq
  (.seq
  (.reg [0, 1, 4, 5, 7, 9, 15, 32, 33, 34, 35] c_graph_Lists_r2 v_graph_Lists)
  (.blk 0 (.loop (.seq
  (.reg [0, 1, 4, 5, 7, 9, 12, 13, 14, 32, 33, 34, 35] c_graph_Lists_r3 v_graph_Lists)
  (.seq
  (.cond (.t 15) .skip (.exit 0))
  (.seq
  (.blk 1 (.seq
  (.reg [0, 1, 4, 5, 9, 12, 13, 14, 15, 32, 33, 34, 35] c_graph_Lists_r4 v_graph_Lists)
  (.draw [0, 1, 4, 5, 7, 9, 12, 13, 14, 15, 32, 33, 34, 35] c_graph_Lists_r5 v_graph_Lists)))
  (.reg [0, 1, 4, 5, 7, 9, 12, 13, 14, 15, 32, 33, 34, 35] c_graph_Lists_r6 v_graph_Lists)))))))
  (.seq
  (.seq
  (.reg [0, 1, 4, 5, 7, 9, 12, 13, 14, 15, 35] c_graph_Lists_r7 v_graph_Lists)
  (.blk 2 (.loop (.seq
  (.reg [0, 1, 4, 5, 7, 9, 12, 13, 14, 15, 32, 33, 34] c_graph_Lists_r8 v_graph_Lists)
  (.seq
  (.cond (.t 35) .skip (.exit 2))
  (.seq
  (.blk 3 (.seq
  (.reg [0, 1, 4, 5, 7, 12, 13, 14, 15, 32, 33, 34, 35] c_graph_Lists_r9 v_graph_Lists)
  (.draw [0, 1, 4, 5, 7, 9, 12, 13, 14, 15, 32, 33, 34, 35] c_graph_Lists_r10 v_graph_Lists)))
  (.reg [0, 1, 4, 5, 7, 9, 12, 13, 14, 15, 32, 33, 34, 35] c_graph_Lists_r11 v_graph_Lists)))))))
  (.seq
  (.reg [0, 1, 4, 5, 7, 9, 12, 13, 14, 15, 32, 33, 34, 35] c_graph_Lists_r12 v_graph_Lists)
  .ret)))))
abbrev n_graph_Lists : Nat := 23
theorem s_graph_Lists : stripF Try.prog [4] v_graph_Lists Try.f23 = some (c_graph_Lists, [(.tmp 4)]) := by kernel_rfl
theorem go_graph_Lists {L : List (List Nat)} {args : List AVal} {h : Heap} {Q : AVal → Heap → Prop} (hl : args.length = 2) (H : Wlk Try.prog [4] Try.f23.ntmps v_graph_Lists L c_graph_Lists (ends L [(.tmp 4)] Q) (entry v_graph_Lists args h)) : ACalls Try.prog L n_graph_Lists args h Q :=
  acalls_of_strip mix Try.func23 s_graph_Lists (by rw [hl]; exact Nat.le_of_ble_eq_true rfl) H
def c_pieces_Of_r0 : List GOp := [(none, (.asg 4 (.c (.slice none 0 0)) true))]
def c_pieces_Of_r1 : List GOp := [(none, (.r (.mov 10 (.t 0)))),
  (none, (.r (.mov 11 (.t 0)))),
  (none, (.r (.len 12 (.t 11)))),
  (none, (.mk 13 (.t 12) (.t 12) 1 1 [(.bool false)])),
  (none, (.bld 14 [((0, 1), ((.t 10), true)), ((1, 1), ((.t 13), true))] [(.slice none 0 0), (.slice none 0 0), (.slice none 0 0), (.slice none 0 0)])),
  (none, (.box 15 (.t 14))),
  (none, (.asg 5 (.t 15) true))]
def c_pieces_Of_r2 : List GOp := [(none, (.r (.mov 16 (.t 1)))),
  (none, (.r (.len 17 (.t 16)))),
  (none, (.r (.mov 18 (.c (.int .i64 0)))))]
def c_pieces_Of_r3 : List GOp := [(none, (.r (.bin 19 .lss 0 (.t 18) (.t 17))))]
def c_pieces_Of_r4 : List GOp := [(none, (.r (.idxA 20 (.t 16) (.t 18) 1))),
  (none, (.r (.ld 21 (.t 20) 1 false))),
  (none, (.asg 7 (.t 21) true))]
def c_pieces_Of_r5 : List GOp := [(none, (.r (.mov 22 (.t 7)))),
  (none, (.r (.bin 23 .geq 0 (.t 22) (.c (.int .i64 0))))),
  (none, (.r (.mov 24 (.t 23)))), ((some (24, true)), (.r (.mov 25 (.t 7)))), ((some (24, true)), (.r (.mov 26 (.t 0)))), ((some (24, true)), (.r (.len 27 (.t 26)))), ((some (24, true)), (.r (.bin 28 .lss 0 (.t 25) (.t 27)))),
  (none, (.r (.pick 29 (.t 24) (.t 28) (.c (.bool false)))))]
def c_pieces_Of_r6 : List GOp := [(none, (.r (.mov 30 (.t 5)))),
  (none, (.r (.nilck 31 (.t 30)))),
  (none, (.r (.fldA 32 (.t 31) 1))),
  (none, (.r (.ld 33 (.t 32) 1 false))),
  (none, (.r (.mov 34 (.t 7)))),
  (none, (.r (.idxA 35 (.t 33) (.t 34) 1))),
  (none, (.st (.t 35) (.c (.bool true)) 1))]
def c_pieces_Of_r7 : List GOp := [(none, (.r (.bin 36 .add 0 (.t 18) (.c (.int .i64 1))))),
  (none, (.asg 18 (.t 36) true))]
def c_pieces_Of_r8 : List GOp := [(none, (.asg 8 (.c (.slice none 0 0)) true))]
def c_pieces_Of_r9 : List GOp := [(none, (.r (.mov 37 (.t 0)))),
  (none, (.r (.len 38 (.t 37)))),
  (none, (.r (.mov 39 (.c (.int .i64 0)))))]
def c_pieces_Of_r10 : List GOp := [(none, (.r (.bin 40 .lss 0 (.t 39) (.t 38))))]
def c_pieces_Of_r11 : List GOp := [(none, (.r (.mov 41 (.t 39)))),
  (none, (.asg 9 (.t 41) true))]
def c_pieces_Of_r12 : List GOp := [(none, (.r (.mov 42 (.t 5)))),
  (none, (.r (.nilck 43 (.t 42)))),
  (none, (.r (.fldA 44 (.t 43) 1))),
  (none, (.r (.ld 45 (.t 44) 1 false))),
  (none, (.r (.mov 46 (.t 9)))),
  (none, (.r (.idxA 47 (.t 45) (.t 46) 1))),
  (none, (.r (.ld 48 (.t 47) 1 false))),
  (none, (.r (.notb 49 (.t 48))))]
def c_pieces_Of_r13 : List GOp := [(none, (.r (.mov 50 (.t 8)))),
  (none, (.r (.mov 51 (.t 5)))),
  (none, (.r (.mov 52 (.t 9)))),
  (none, (.call 53 (.f 45) [((.t 51), false), ((.t 52), false)])),
  (none, (.blds 54 1 1 [((0, 1), ((.t 53), true))] [(.slice none 0 0)])),
  (none, (.app 55 (.t 50) (.t 54) 1 24)),
  (none, (.asg 8 (.t 55) true))]
def c_pieces_Of_r14 : List GOp := [(none, (.r (.bin 56 .add 0 (.t 39) (.c (.int .i64 1))))),
  (none, (.asg 39 (.t 56) true))]
def c_pieces_Of_r15 : List GOp := [(none, (.r (.mov 57 (.t 8)))),
  (none, (.asg 4 (.t 57) true))]
def v_pieces_Of : List Nat := [0, 1, 4, 5, 7, 8, 9, 16, 17, 18, 19, 29, 38, 39, 40, 49]
def c_pieces_Of : ACode :=
  (.seq
  (.reg [0, 1, 4, 5, 7, 8, 9, 16, 17, 18, 19, 29, 38, 39, 40, 49] c_pieces_Of_r0 v_pieces_Of)
  (.seq
  (.reg [0, 1, 4, 5, 7, 8, 9, 16, 17, 18, 19, 29, 38, 39, 40, 49] c_pieces_Of_r1 v_pieces_Of)
  (.seq
  (.seq
  (.reg [0, 1, 4, 5, 7, 8, 9, 19, 29, 38, 39, 40, 49] c_pieces_Of_r2 v_pieces_Of)
  (.blk 0 (.loop (.seq
  (.reg [0, 1, 4, 5, 7, 8, 9, 16, 17, 18, 29, 38, 39, 40, 49] c_pieces_Of_r3 v_pieces_Of)
  (.seq
  (.cond (.t 19) .skip (.exit 0))
  (.seq
  (.blk 1 (.seq
  (.reg [0, 1, 4, 5, 7, 8, 9, 16, 17, 18, 19, 29, 38, 39, 40, 49] c_pieces_Of_r4 v_pieces_Of)
  (.seq
  (.reg [0, 1, 4, 5, 7, 8, 9, 16, 17, 18, 19, 38, 39, 40, 49] c_pieces_Of_r5 v_pieces_Of)
  (.cond (.t 29) (.reg [0, 1, 4, 5, 7, 8, 9, 16, 17, 18, 19, 29, 38, 39, 40, 49] c_pieces_Of_r6 v_pieces_Of) .skip))))
  (.reg [0, 1, 4, 5, 7, 8, 9, 16, 17, 18, 19, 29, 38, 39, 40, 49] c_pieces_Of_r7 v_pieces_Of)))))))
  (.seq
  (.reg [0, 1, 4, 5, 7, 8, 9, 16, 17, 18, 19, 29, 38, 39, 40, 49] c_pieces_Of_r8 v_pieces_Of)
  (.seq
  (.seq
  (.reg [0, 1, 4, 5, 7, 8, 9, 16, 17, 18, 19, 29, 40, 49] c_pieces_Of_r9 v_pieces_Of)
  (.blk 2 (.loop (.seq
  (.reg [0, 1, 4, 5, 7, 8, 9, 16, 17, 18, 19, 29, 38, 39, 49] c_pieces_Of_r10 v_pieces_Of)
  (.seq
  (.cond (.t 40) .skip (.exit 2))
  (.seq
  (.blk 3 (.seq
  (.reg [0, 1, 4, 5, 7, 8, 9, 16, 17, 18, 19, 29, 38, 39, 40, 49] c_pieces_Of_r11 v_pieces_Of)
  (.seq
  (.reg [0, 1, 4, 5, 7, 8, 9, 16, 17, 18, 19, 29, 38, 39, 40] c_pieces_Of_r12 v_pieces_Of)
  (.cond (.t 49) (.reg [0, 1, 4, 5, 7, 8, 9, 16, 17, 18, 19, 29, 38, 39, 40, 49] c_pieces_Of_r13 v_pieces_Of) .skip))))
  (.reg [0, 1, 4, 5, 7, 8, 9, 16, 17, 18, 19, 29, 38, 39, 40, 49] c_pieces_Of_r14 v_pieces_Of)))))))
  (.seq
  (.reg [0, 1, 4, 5, 7, 8, 9, 16, 17, 18, 19, 29, 38, 39, 40, 49] c_pieces_Of_r15 v_pieces_Of)
  .ret))))))
abbrev n_pieces_Of : Nat := 24
theorem s_pieces_Of : stripF Try.prog [4] v_pieces_Of Try.f24 = some (c_pieces_Of, [(.tmp 4)]) := by kernel_rfl
theorem go_pieces_Of {L : List (List Nat)} {args : List AVal} {h : Heap} {Q : AVal → Heap → Prop} (hl : args.length = 2) (H : Wlk Try.prog [4] Try.f24.ntmps v_pieces_Of L c_pieces_Of (ends L [(.tmp 4)] Q) (entry v_pieces_Of args h)) : ACalls Try.prog L n_pieces_Of args h Q :=
  acalls_of_strip mix Try.func24 s_pieces_Of (by rw [hl]; exact Nat.le_of_ble_eq_true rfl) H
def c_slices_Concat___int_int__r0 : List GOp := [(none, (.asg 2 (.c (.slice none 0 0)) true))]
def c_slices_Concat___int_int__r1 : List GOp := [(none, (.asg 3 (.c (.int .i64 0)) true))]
def c_slices_Concat___int_int__r2 : List GOp := [(none, (.r (.mov 9 (.t 0)))),
  (none, (.r (.len 10 (.t 9)))),
  (none, (.r (.mov 11 (.c (.int .i64 0)))))]
def c_slices_Concat___int_int__r3 : List GOp := [(none, (.r (.bin 12 .lss 0 (.t 11) (.t 10))))]
def c_slices_Concat___int_int__r4 : List GOp := [(none, (.r (.idxA 13 (.t 9) (.t 11) 1))),
  (none, (.r (.ld 14 (.t 13) 1 false))),
  (none, (.asg 5 (.t 14) true))]
def c_slices_Concat___int_int__r5 : List GOp := [(none, (.r (.mov 15 (.t 3)))),
  (none, (.r (.mov 16 (.t 5)))),
  (none, (.r (.len 17 (.t 16)))),
  (none, (.r (.bin 18 .add 0 (.t 15) (.t 17)))),
  (none, (.asg 3 (.t 18) true))]
def c_slices_Concat___int_int__r6 : List GOp := [(none, (.r (.mov 19 (.t 3)))),
  (none, (.r (.bin 20 .lss 0 (.t 19) (.c (.int .i64 0)))))]
def c_slices_Concat___int_int__r7 : List GOp := [(none, (.bad (some 21))),
  (none, (.bad none))]
def c_slices_Concat___int_int__r8 : List GOp := [(none, (.r (.bin 22 .add 0 (.t 11) (.c (.int .i64 1))))),
  (none, (.asg 11 (.t 22) true))]
def c_slices_Concat___int_int__r9 : List GOp := [(none, (.r (.mov 23 (.t 3)))),
  (none, (.call 24 (.f 46) [((.c (.slice none 0 0)), false), ((.t 23), false)])),
  (none, (.asg 6 (.t 24) true))]
def c_slices_Concat___int_int__r10 : List GOp := [(none, (.r (.mov 25 (.t 0)))),
  (none, (.r (.len 26 (.t 25)))),
  (none, (.r (.mov 27 (.c (.int .i64 0)))))]
def c_slices_Concat___int_int__r11 : List GOp := [(none, (.r (.bin 28 .lss 0 (.t 27) (.t 26))))]
def c_slices_Concat___int_int__r12 : List GOp := [(none, (.r (.idxA 29 (.t 25) (.t 27) 1))),
  (none, (.r (.ld 30 (.t 29) 1 false))),
  (none, (.asg 8 (.t 30) true))]
def c_slices_Concat___int_int__r13 : List GOp := [(none, (.r (.mov 31 (.t 6)))),
  (none, (.r (.mov 32 (.t 8)))),
  (none, (.app 33 (.t 31) (.t 32) 1 8)),
  (none, (.asg 6 (.t 33) true))]
def c_slices_Concat___int_int__r14 : List GOp := [(none, (.r (.bin 34 .add 0 (.t 27) (.c (.int .i64 1))))),
  (none, (.asg 27 (.t 34) true))]
def c_slices_Concat___int_int__r15 : List GOp := [(none, (.r (.mov 35 (.t 6)))),
  (none, (.asg 2 (.t 35) true))]
def v_slices_Concat___int_int_ : List Nat := [0, 2, 3, 5, 6, 8, 9, 10, 11, 12, 20, 25, 26, 27, 28]
def c_slices_Concat___int_int_ : ACode :=
  (.seq
  (.reg [0, 2, 3, 5, 6, 8, 9, 10, 11, 12, 20, 25, 26, 27, 28] c_slices_Concat___int_int__r0 v_slices_Concat___int_int_)
  (.seq
  (.reg [0, 2, 3, 5, 6, 8, 9, 10, 11, 12, 20, 25, 26, 27, 28] c_slices_Concat___int_int__r1 v_slices_Concat___int_int_)
  (.seq
  (.seq
  (.reg [0, 2, 3, 5, 6, 8, 12, 20, 25, 26, 27, 28] c_slices_Concat___int_int__r2 v_slices_Concat___int_int_)
  (.blk 0 (.loop (.seq
  (.reg [0, 2, 3, 5, 6, 8, 9, 10, 11, 20, 25, 26, 27, 28] c_slices_Concat___int_int__r3 v_slices_Concat___int_int_)
  (.seq
  (.cond (.t 12) .skip (.exit 0))
  (.seq
  (.blk 1 (.seq
  (.reg [0, 2, 3, 5, 6, 8, 9, 10, 11, 12, 20, 25, 26, 27, 28] c_slices_Concat___int_int__r4 v_slices_Concat___int_int_)
  (.seq
  (.reg [0, 2, 3, 5, 6, 8, 9, 10, 11, 12, 20, 25, 26, 27, 28] c_slices_Concat___int_int__r5 v_slices_Concat___int_int_)
  (.seq
  (.reg [0, 2, 3, 5, 6, 8, 9, 10, 11, 12, 25, 26, 27, 28] c_slices_Concat___int_int__r6 v_slices_Concat___int_int_)
  (.cond (.t 20) (.reg [0, 2, 3, 5, 6, 8, 9, 10, 11, 12, 20, 25, 26, 27, 28] c_slices_Concat___int_int__r7 v_slices_Concat___int_int_) .skip)))))
  (.reg [0, 2, 3, 5, 6, 8, 9, 10, 11, 12, 20, 25, 26, 27, 28] c_slices_Concat___int_int__r8 v_slices_Concat___int_int_)))))))
  (.seq
  (.reg [0, 2, 3, 5, 6, 8, 9, 10, 11, 12, 20, 25, 26, 27, 28] c_slices_Concat___int_int__r9 v_slices_Concat___int_int_)
  (.seq
  (.seq
  (.reg [0, 2, 3, 5, 6, 8, 9, 10, 11, 12, 20, 28] c_slices_Concat___int_int__r10 v_slices_Concat___int_int_)
  (.blk 2 (.loop (.seq
  (.reg [0, 2, 3, 5, 6, 8, 9, 10, 11, 12, 20, 25, 26, 27] c_slices_Concat___int_int__r11 v_slices_Concat___int_int_)
  (.seq
  (.cond (.t 28) .skip (.exit 2))
  (.seq
  (.blk 3 (.seq
  (.reg [0, 2, 3, 5, 6, 8, 9, 10, 11, 12, 20, 25, 26, 27, 28] c_slices_Concat___int_int__r12 v_slices_Concat___int_int_)
  (.reg [0, 2, 3, 5, 6, 8, 9, 10, 11, 12, 20, 25, 26, 27, 28] c_slices_Concat___int_int__r13 v_slices_Concat___int_int_)))
  (.reg [0, 2, 3, 5, 6, 8, 9, 10, 11, 12, 20, 25, 26, 27, 28] c_slices_Concat___int_int__r14 v_slices_Concat___int_int_)))))))
  (.seq
  (.reg [0, 2, 3, 5, 6, 8, 9, 10, 11, 12, 20, 25, 26, 27, 28] c_slices_Concat___int_int__r15 v_slices_Concat___int_int_)
  .ret))))))
abbrev n_slices_Concat___int_int_ : Nat := 25
theorem s_slices_Concat___int_int_ : stripF Try.prog [2] v_slices_Concat___int_int_ Try.f25 = some (c_slices_Concat___int_int_, [(.tmp 2)]) := by kernel_rfl
theorem go_slices_Concat___int_int_ {L : List (List Nat)} {args : List AVal} {h : Heap} {Q : AVal → Heap → Prop} (hl : args.length = 1) (H : Wlk Try.prog [2] Try.f25.ntmps v_slices_Concat___int_int_ L c_slices_Concat___int_int_ (ends L [(.tmp 2)] Q) (entry v_slices_Concat___int_int_ args h)) : ACalls Try.prog L n_slices_Concat___int_int_ args h Q :=
  acalls_of_strip mix Try.func25 s_slices_Concat___int_int_ (by rw [hl]; exact Nat.le_of_ble_eq_true rfl) H
def c_garlandref23_vertices_r0 : List GOp := [(none, (.box 2 (.t 0))),
  (none, (.asg 4 (.c (.bool false)) true))]
def c_garlandref23_vertices_r1 : List GOp := [(none, (.asg 5 (.c (.int .i64 0)) true))]
def c_garlandref23_vertices_r2 : List GOp := [(none, (.r (.mov 6 (.t 5)))),
  (none, (.r (.mov 7 (.t 1)))),
  (none, (.r (.len 8 (.t 7)))),
  (none, (.r (.bin 9 .lss 0 (.t 6) (.t 8))))]
def c_garlandref23_vertices_r3 : Tree := 
  (.take [5, 6] (none, (.r (.ld 12 (.t 2) 2 true))) 
  (.take [3, 4, 5, 6] (none, (.r (.mov 13 (.t 1)))) 
  (.take [3, 4, 5, 6] (none, (.r (.mov 14 (.t 5)))) 
  (.take [4, 5, 6] (none, (.r (.idxA 15 (.t 13) (.t 14) 1))) 
  (.take [5, 6] (none, (.r (.ld 16 (.t 15) 1 false))) 
  (.one 5 (none, (.call 17 (.f 42) [((.t 12), false), ((.t 16), false)])) 
  (.take [] (none, (.r (.notb 18 (.t 17)))) .done)))))))
def c_garlandref23_vertices_r4 : List GOp := [(none, (.asg 4 (.c (.bool false)) true))]
def c_garlandref23_vertices_r5 : List GOp := [(none, (.r (.mov 10 (.t 5)))),
  (none, (.r (.bin 11 .add 0 (.t 10) (.c (.int .i64 1))))),
  (none, (.asg 5 (.t 11) true))]
def c_garlandref23_vertices_r6 : List GOp := [(none, (.r (.mov 19 (.t 1)))),
  (none, (.call 20 (.f 47) [((.t 19), false)])),
  (none, (.asg 4 (.t 20) true))]
def v_garlandref23_vertices : List Nat := [0, 1, 2, 4, 5, 9, 18]
def c_garlandref23_vertices : ACode :=
  (.seq
  (.reg [0, 1, 4, 5, 9, 18] c_garlandref23_vertices_r0 v_garlandref23_vertices)
  (.seq
  (.seq
  (.reg [0, 1, 2, 4, 5, 9, 18] c_garlandref23_vertices_r1 v_garlandref23_vertices)
  (.blk 0 (.loop (.seq
  (.seq
  (.reg [0, 1, 2, 4, 5, 18] c_garlandref23_vertices_r2 v_garlandref23_vertices)
  (.cond (.t 9) .skip (.exit 0)))
  (.seq
  (.blk 1 (.seq
  (.draw [0, 1, 2, 4, 5, 9] c_garlandref23_vertices_r3 v_garlandref23_vertices)
  (.cond (.t 18) (.seq
  (.reg [0, 1, 2, 4, 5, 9, 18] c_garlandref23_vertices_r4 v_garlandref23_vertices)
  .ret) .skip)))
  (.reg [0, 1, 2, 4, 5, 9, 18] c_garlandref23_vertices_r5 v_garlandref23_vertices))))))
  (.seq
  (.reg [0, 1, 2, 4, 5, 9, 18] c_garlandref23_vertices_r6 v_garlandref23_vertices)
  .ret)))
abbrev n_garlandref23_vertices : Nat := 26
theorem s_garlandref23_vertices : stripF Try.prog [4] v_garlandref23_vertices Try.f26 = some (c_garlandref23_vertices, [(.tmp 4)]) := by kernel_rfl
theorem go_garlandref23_vertices {L : List (List Nat)} {args : List AVal} {h : Heap} {Q : AVal → Heap → Prop} (hl : args.length = 2) (H : Wlk Try.prog [4] Try.f26.ntmps v_garlandref23_vertices L c_garlandref23_vertices (ends L [(.tmp 4)] Q) (entry v_garlandref23_vertices args h)) : ACalls Try.prog L n_garlandref23_vertices args h Q :=
  acalls_of_strip mix Try.func26 s_garlandref23_vertices (by rw [hl]; exact Nat.le_of_ble_eq_true rfl) H
def c_garlandhelp_In_int__r0 : List GOp := [(none, (.asg 4 (.c (.bool false)) true))]
def c_garlandhelp_In_int__r1 : List GOp := [(none, (.asg 5 (.c (.int .i64 0)) true))]
def c_garlandhelp_In_int__r2 : List GOp := [(none, (.r (.mov 6 (.t 5)))),
  (none, (.r (.mov 7 (.t 0)))),
  (none, (.r (.len 8 (.t 7)))),
  (none, (.r (.bin 9 .lss 0 (.t 6) (.t 8))))]
def c_garlandhelp_In_int__r3 : List GOp := [(none, (.r (.mov 12 (.t 0)))),
  (none, (.r (.mov 13 (.t 5)))),
  (none, (.r (.idxA 14 (.t 12) (.t 13) 1))),
  (none, (.r (.ld 15 (.t 14) 1 false))),
  (none, (.r (.mov 16 (.t 1)))),
  (none, (.r (.bin 17 .eql 0 (.t 15) (.t 16))))]
def c_garlandhelp_In_int__r4 : List GOp := [(none, (.asg 4 (.c (.bool true)) true))]
def c_garlandhelp_In_int__r5 : List GOp := [(none, (.r (.mov 10 (.t 5)))),
  (none, (.r (.bin 11 .add 0 (.t 10) (.c (.int .i64 1))))),
  (none, (.asg 5 (.t 11) true))]
def c_garlandhelp_In_int__r6 : List GOp := [(none, (.asg 4 (.c (.bool false)) true))]
def v_garlandhelp_In_int_ : List Nat := [0, 1, 4, 5, 9, 17]
def c_garlandhelp_In_int_ : ACode :=
  (.seq
  (.reg [0, 1, 4, 5, 9, 17] c_garlandhelp_In_int__r0 v_garlandhelp_In_int_)
  (.seq
  (.seq
  (.reg [0, 1, 4, 5, 9, 17] c_garlandhelp_In_int__r1 v_garlandhelp_In_int_)
  (.blk 0 (.loop (.seq
  (.seq
  (.reg [0, 1, 4, 5, 17] c_garlandhelp_In_int__r2 v_garlandhelp_In_int_)
  (.cond (.t 9) .skip (.exit 0)))
  (.seq
  (.blk 1 (.seq
  (.reg [0, 1, 4, 5, 9] c_garlandhelp_In_int__r3 v_garlandhelp_In_int_)
  (.cond (.t 17) (.seq
  (.reg [0, 1, 4, 5, 9, 17] c_garlandhelp_In_int__r4 v_garlandhelp_In_int_)
  .ret) .skip)))
  (.reg [0, 1, 4, 5, 9, 17] c_garlandhelp_In_int__r5 v_garlandhelp_In_int_))))))
  (.seq
  (.reg [0, 1, 4, 5, 9, 17] c_garlandhelp_In_int__r6 v_garlandhelp_In_int_)
  .ret)))
abbrev n_garlandhelp_In_int_ : Nat := 27
theorem s_garlandhelp_In_int_ : stripF Try.prog [4] v_garlandhelp_In_int_ Try.f27 = some (c_garlandhelp_In_int_, [(.tmp 4)]) := by kernel_rfl
theorem go_garlandhelp_In_int_ {L : List (List Nat)} {args : List AVal} {h : Heap} {Q : AVal → Heap → Prop} (hl : args.length = 2) (H : Wlk Try.prog [4] Try.f27.ntmps v_garlandhelp_In_int_ L c_garlandhelp_In_int_ (ends L [(.tmp 4)] Q) (entry v_garlandhelp_In_int_ args h)) : ACalls Try.prog L n_garlandhelp_In_int_ args h Q :=
  acalls_of_strip mix Try.func27 s_garlandhelp_In_int_ (by rw [hl]; exact Nat.le_of_ble_eq_true rfl) H
def c_garlandref02_Near_r0 : List GOp := [(none, (.box 2 (.t 0))),
  (none, (.asg 4 (.c (.slice none 0 0)) true))]
def c_garlandref02_Near_r1 : List GOp := [(none, (.r (.ld 8 (.t 2) 2 true))),
  (none, (.call 9 (.f 33) [((.t 8), false)])),
  (none, (.r (.notb 10 (.t 9))))]
def c_garlandref02_Near_r2 : List GOp := [(none, (.asg 4 (.c (.slice none 0 0)) true))]
def c_garlandref02_Near_r3 : List GOp := [(none, (.asg 5 (.c (.slice none 0 0)) true)),
  (none, (.asg 6 (.c (.slice none 0 0)) true))]
def c_garlandref02_Near_r4 : List GOp := [(none, (.asg 7 (.c (.int .i64 0)) true))]
def c_garlandref02_Near_r5 : List GOp := [(none, (.r (.mov 11 (.t 7)))),
  (none, (.r (.fldA 12 (.t 2) 1))),
  (none, (.r (.ld 13 (.t 12) 1 false))),
  (none, (.r (.len 14 (.t 13)))),
  (none, (.r (.bin 15 .lss 0 (.t 11) (.t 14))))]
def c_garlandref02_Near_r6 : List GOp := [(none, (.r (.fldA 18 (.t 2) 1))),
  (none, (.r (.ld 19 (.t 18) 1 false))),
  (none, (.r (.mov 20 (.t 7)))),
  (none, (.r (.idxA 21 (.t 19) (.t 20) 2))),
  (none, (.r (.fldA 22 (.t 21) 1))),
  (none, (.r (.ld 23 (.t 22) 1 false))),
  (none, (.r (.mov 24 (.t 1)))),
  (none, (.r (.bin 25 .eql 0 (.t 23) (.t 24))))]
def c_garlandref02_Near_r7 : List GOp := [(none, (.r (.mov 26 (.t 5)))),
  (none, (.r (.fldA 27 (.t 2) 1))),
  (none, (.r (.ld 28 (.t 27) 1 false))),
  (none, (.r (.mov 29 (.t 7)))),
  (none, (.r (.idxA 30 (.t 28) (.t 29) 2))),
  (none, (.r (.fldA 31 (.t 30) 0))),
  (none, (.r (.ld 32 (.t 31) 1 false))),
  (none, (.blds 33 1 1 [((0, 1), ((.t 32), true))] [(.int .i64 0)])),
  (none, (.app 34 (.t 26) (.t 33) 1 8)),
  (none, (.asg 5 (.t 34) true))]
def c_garlandref02_Near_r8 : List GOp := [(none, (.r (.fldA 35 (.t 2) 1))),
  (none, (.r (.ld 36 (.t 35) 1 false))),
  (none, (.r (.mov 37 (.t 7)))),
  (none, (.r (.idxA 38 (.t 36) (.t 37) 2))),
  (none, (.r (.fldA 39 (.t 38) 0))),
  (none, (.r (.ld 40 (.t 39) 1 false))),
  (none, (.r (.mov 41 (.t 1)))),
  (none, (.r (.bin 42 .eql 0 (.t 40) (.t 41))))]
def c_garlandref02_Near_r9 : List GOp := [(none, (.r (.mov 43 (.t 6)))),
  (none, (.r (.fldA 44 (.t 2) 1))),
  (none, (.r (.ld 45 (.t 44) 1 false))),
  (none, (.r (.mov 46 (.t 7)))),
  (none, (.r (.idxA 47 (.t 45) (.t 46) 2))),
  (none, (.r (.fldA 48 (.t 47) 1))),
  (none, (.r (.ld 49 (.t 48) 1 false))),
  (none, (.blds 50 1 1 [((0, 1), ((.t 49), true))] [(.int .i64 0)])),
  (none, (.app 51 (.t 43) (.t 50) 1 8)),
  (none, (.asg 6 (.t 51) true))]
def c_garlandref02_Near_r10 : List GOp := [(none, (.r (.mov 16 (.t 7)))),
  (none, (.r (.bin 17 .add 0 (.t 16) (.c (.int .i64 1))))),
  (none, (.asg 7 (.t 17) true))]
def c_garlandref02_Near_r11 : List GOp := [(none, (.r (.mov 52 (.t 5)))),
  (none, (.r (.mov 53 (.t 6)))),
  (none, (.app 54 (.t 52) (.t 53) 1 8)),
  (none, (.asg 4 (.t 54) true))]
def v_garlandref02_Near : List Nat := [0, 1, 2, 4, 5, 6, 7, 10, 15, 25, 42]
def c_garlandref02_Near : ACode :=
  (.seq
  (.reg [0, 1, 4, 5, 6, 7, 10, 15, 25, 42] c_garlandref02_Near_r0 v_garlandref02_Near)
  (.seq
  (.seq
  (.reg [0, 1, 2, 4, 5, 6, 7, 15, 25, 42] c_garlandref02_Near_r1 v_garlandref02_Near)
  (.cond (.t 10) (.seq
  (.reg [0, 1, 2, 4, 5, 6, 7, 10, 15, 25, 42] c_garlandref02_Near_r2 v_garlandref02_Near)
  .ret) .skip))
  (.seq
  (.reg [0, 1, 2, 4, 5, 6, 7, 10, 15, 25, 42] c_garlandref02_Near_r3 v_garlandref02_Near)
  (.seq
  (.seq
  (.reg [0, 1, 2, 4, 5, 6, 7, 10, 15, 25, 42] c_garlandref02_Near_r4 v_garlandref02_Near)
  (.blk 0 (.loop (.seq
  (.seq
  (.reg [0, 1, 2, 4, 5, 6, 7, 10, 25, 42] c_garlandref02_Near_r5 v_garlandref02_Near)
  (.cond (.t 15) .skip (.exit 0)))
  (.seq
  (.blk 1 (.seq
  (.seq
  (.reg [0, 1, 2, 4, 5, 6, 7, 10, 15, 42] c_garlandref02_Near_r6 v_garlandref02_Near)
  (.cond (.t 25) (.reg [0, 1, 2, 4, 5, 6, 7, 10, 15, 25, 42] c_garlandref02_Near_r7 v_garlandref02_Near) .skip))
  (.seq
  (.reg [0, 1, 2, 4, 5, 6, 7, 10, 15, 25] c_garlandref02_Near_r8 v_garlandref02_Near)
  (.cond (.t 42) (.reg [0, 1, 2, 4, 5, 6, 7, 10, 15, 25, 42] c_garlandref02_Near_r9 v_garlandref02_Near) .skip))))
  (.reg [0, 1, 2, 4, 5, 6, 7, 10, 15, 25, 42] c_garlandref02_Near_r10 v_garlandref02_Near))))))
  (.seq
  (.reg [0, 1, 2, 4, 5, 6, 7, 10, 15, 25, 42] c_garlandref02_Near_r11 v_garlandref02_Near)
  .ret)))))
abbrev n_garlandref02_Near : Nat := 28
theorem s_garlandref02_Near : stripF Try.prog [4] v_garlandref02_Near Try.f28 = some (c_garlandref02_Near, [(.tmp 4)]) := by kernel_rfl
theorem go_garlandref02_Near {L : List (List Nat)} {args : List AVal} {h : Heap} {Q : AVal → Heap → Prop} (hl : args.length = 2) (H : Wlk Try.prog [4] Try.f28.ntmps v_garlandref02_Near L c_garlandref02_Near (ends L [(.tmp 4)] Q) (entry v_garlandref02_Near args h)) : ACalls Try.prog L n_garlandref02_Near args h Q :=
  acalls_of_strip mix Try.func28 s_garlandref02_Near (by rw [hl]; exact Nat.le_of_ble_eq_true rfl) H
def c_garlandref03_Without_r0 : List GOp := [(none, (.box 2 (.t 0))),
  (none, (.asg 4 (.c (.slice none 0 0)) true))]
def c_garlandref03_Without_r1 : List GOp := [(none, (.r (.ld 16 (.t 2) 2 true))),
  (none, (.call 17 (.f 33) [((.t 16), false)])),
  (none, (.r (.notb 18 (.t 17))))]
def c_garlandref03_Without_r2 : List GOp := [(none, (.asg 4 (.c (.slice none 0 0)) true))]
def c_garlandref03_Without_r3 : List GOp := [(none, (.r (.fldA 19 (.t 2) 0))),
  (none, (.r (.ld 20 (.t 19) 1 false))),
  (none, (.mk 21 (.t 20) (.t 20) 1 8 [(.int .i64 0)])),
  (none, (.asg 5 (.t 21) true))]
def c_garlandref03_Without_r4 : List GOp := [(none, (.asg 6 (.c (.int .i64 0)) true))]
def c_garlandref03_Without_r5 : List GOp := [(none, (.r (.mov 22 (.t 6)))),
  (none, (.r (.fldA 23 (.t 2) 0))),
  (none, (.r (.ld 24 (.t 23) 1 false))),
  (none, (.r (.bin 25 .lss 0 (.t 22) (.t 24))))]
def c_garlandref03_Without_r6 : List GOp := [(none, (.r (.mov 28 (.t 5)))),
  (none, (.r (.mov 29 (.t 6)))),
  (none, (.r (.mov 30 (.t 6)))),
  (none, (.r (.idxA 31 (.t 28) (.t 29) 1))),
  (none, (.st (.t 31) (.t 30) 1))]
def c_garlandref03_Without_r7 : List GOp := [(none, (.r (.mov 32 (.t 1)))),
  (none, (.r (.mov 33 (.t 6)))),
  (none, (.call 34 (.f 27) [((.t 32), false), ((.t 33), false)]))]
def c_garlandref03_Without_r8 : List GOp := [(none, (.r (.mov 35 (.t 5)))),
  (none, (.r (.mov 36 (.t 6)))),
  (none, (.r (.idxA 37 (.t 35) (.t 36) 1))),
  (none, (.st (.t 37) (.c (.int .i64 (-(0 + 1)))) 1))]
def c_garlandref03_Without_r9 : List GOp := [(none, (.r (.mov 26 (.t 6)))),
  (none, (.r (.bin 27 .add 0 (.t 26) (.c (.int .i64 1))))),
  (none, (.asg 6 (.t 27) true))]
def c_garlandref03_Without_r10 : List GOp := [(none, (.asg 7 (.c (.bool true)) true))]
def c_garlandref03_Without_r11 : List GOp := [(none, (.r (.mov 38 (.t 7))))]
def c_garlandref03_Without_r12 : List GOp := [(none, (.asg 7 (.c (.bool false)) true))]
def c_garlandref03_Without_r13 : List GOp := [(none, (.asg 8 (.c (.int .i64 0)) true))]
def c_garlandref03_Without_r14 : List GOp := [(none, (.r (.mov 39 (.t 8)))),
  (none, (.r (.fldA 40 (.t 2) 1))),
  (none, (.r (.ld 41 (.t 40) 1 false))),
  (none, (.r (.len 42 (.t 41)))),
  (none, (.r (.bin 43 .lss 0 (.t 39) (.t 42))))]
def c_garlandref03_Without_r15 : Tree := 
  (.take [1, 3, 4, 5, 12, 13] (none, (.r (.fldA 46 (.t 2) 1))) 
  (.take [3, 4, 5, 12, 13] (none, (.r (.ld 47 (.t 46) 1 false))) 
  (.take [3, 4, 5, 12, 13] (none, (.r (.mov 48 (.t 8)))) 
  (.take [4, 5, 12, 13] (none, (.r (.idxA 49 (.t 47) (.t 48) 2))) 
  (.take [5, 12, 13] (none, (.r (.fldA 50 (.t 49) 0))) 
  (.take [12, 13] (none, (.r (.ld 51 (.t 50) 1 false))) 
  (.take [7, 9, 10, 11, 13] (none, (.r (.fldA 52 (.t 2) 1))) 
  (.take [9, 10, 11, 13] (none, (.r (.ld 53 (.t 52) 1 false))) 
  (.take [9, 10, 11, 13] (none, (.r (.mov 54 (.t 8)))) 
  (.take [10, 11, 13] (none, (.r (.idxA 55 (.t 53) (.t 54) 2))) 
  (.take [11, 13] (none, (.r (.fldA 56 (.t 55) 1))) 
  (.take [13] (none, (.r (.ld 57 (.t 56) 1 false))) 
  (.one 12 (none, (.asg 9 (.t 51) true)) 
  (.one 13 (none, (.asg 10 (.t 57) true)) .done))))))))))))))
def c_garlandref03_Without_r16 : Tree := 
  (.take [2, 3, 4, 5, 6, 7, 8, 9, 10, 11, 12, 13, 14, 15, 16, 17, 18, 19, 20, 21, 22] (none, (.r (.mov 58 (.t 5)))) 
  (.take [2, 3, 4, 5, 6, 7, 8, 9, 10, 11, 12, 13, 14, 15, 16, 17, 18, 19, 20, 21, 22] (none, (.r (.mov 59 (.t 9)))) 
  (.take [3, 4, 5, 6, 7, 8, 9, 10, 11, 12, 13, 14, 15, 16, 17, 18, 19, 20, 21, 22] (none, (.r (.idxA 60 (.t 58) (.t 59) 1))) 
  (.take [4, 5, 6, 7, 8, 9, 10, 11, 12, 13, 14, 15, 16, 17, 18, 19, 20, 21, 22] (none, (.r (.ld 61 (.t 60) 1 false))) 
  (.take [5, 6, 7, 8, 9, 10, 11, 12, 13, 14, 15, 16, 17, 18, 19, 20, 21, 22] (none, (.r (.bin 62 .lss 0 (.t 61) (.c (.int .i64 0))))) 
  (.take [6, 7, 8, 9, 10, 11, 12, 13, 14, 15, 16, 17, 18, 19, 20, 21, 22] (none, (.r (.mov 63 (.t 62)))) 
  (.take [8, 9, 10, 11, 12, 13, 14, 15, 16, 17, 18, 19, 20, 21, 22] ((some (63, false)), (.r (.mov 64 (.t 5)))) 
  (.take [8, 9, 10, 11, 12, 13, 14, 15, 16, 17, 18, 19, 20, 21, 22] ((some (63, false)), (.r (.mov 65 (.t 10)))) 
  (.take [9, 10, 11, 12, 13, 14, 15, 16, 17, 18, 19, 20, 21, 22] ((some (63, false)), (.r (.idxA 66 (.t 64) (.t 65) 1))) 
  (.take [10, 11, 12, 13, 14, 15, 16, 17, 18, 19, 20, 21, 22] ((some (63, false)), (.r (.ld 67 (.t 66) 1 false))) 
  (.take [11, 12, 13, 14, 15, 16, 17, 18, 19, 20, 21, 22] ((some (63, false)), (.r (.bin 68 .lss 0 (.t 67) (.c (.int .i64 0))))) 
  (.take [12, 13, 14, 15, 16, 17, 18, 19, 20, 21, 22] (none, (.r (.pick 69 (.t 63) (.c (.bool true)) (.t 68)))) 
  (.take [13, 14, 15, 16, 17, 18, 19, 20, 21, 22] (none, (.r (.mov 70 (.t 69)))) 
  (.take [15, 16, 21, 22] ((some (70, false)), (.r (.mov 71 (.t 5)))) 
  (.take [15, 16, 21, 22] ((some (70, false)), (.r (.mov 72 (.t 9)))) 
  (.take [16, 21, 22] ((some (70, false)), (.r (.idxA 73 (.t 71) (.t 72) 1))) 
  (.take [21, 22] ((some (70, false)), (.r (.ld 74 (.t 73) 1 false))) 
  (.take [19, 20, 21, 22] ((some (70, false)), (.r (.mov 75 (.t 5)))) 
  (.take [19, 20, 21, 22] ((some (70, false)), (.r (.mov 76 (.t 10)))) 
  (.take [20, 21, 22] ((some (70, false)), (.r (.idxA 77 (.t 75) (.t 76) 1))) 
  (.take [21, 22] ((some (70, false)), (.r (.ld 78 (.t 77) 1 false))) 
  (.take [22] ((some (70, false)), (.r (.bin 79 .eql 0 (.t 74) (.t 78)))) 
  (.take [] (none, (.r (.pick 80 (.t 70) (.c (.bool true)) (.t 79)))) .done)))))))))))))))))))))))
def c_garlandref03_Without_r17 : Tree := 
  (.take [2, 3, 8, 9] (none, (.r (.mov 81 (.t 5)))) 
  (.take [2, 3, 8, 9] (none, (.r (.mov 82 (.t 9)))) 
  (.take [3, 8, 9] (none, (.r (.idxA 83 (.t 81) (.t 82) 1))) 
  (.take [8, 9] (none, (.r (.ld 84 (.t 83) 1 false))) 
  (.take [6, 7, 8, 9] (none, (.r (.mov 85 (.t 5)))) 
  (.take [6, 7, 8, 9] (none, (.r (.mov 86 (.t 10)))) 
  (.take [7, 8, 9] (none, (.r (.idxA 87 (.t 85) (.t 86) 1))) 
  (.take [8, 9] (none, (.r (.ld 88 (.t 87) 1 false))) 
  (.take [9] (none, (.r (.mm 89 false (.t 84) (.t 88)))) 
  (.one 9 (none, (.asg 11 (.t 89) true)) .done))))))))))
def c_garlandref03_Without_r18 : List GOp := [(none, (.r (.mov 90 (.t 5)))),
  (none, (.r (.mov 91 (.t 9)))),
  (none, (.r (.mov 92 (.t 5)))),
  (none, (.r (.mov 93 (.t 10)))),
  (none, (.r (.mov 94 (.t 11)))),
  (none, (.r (.mov 95 (.t 11)))),
  (none, (.r (.idxA 96 (.t 90) (.t 91) 1))),
  (none, (.st (.t 96) (.t 94) 1)),
  (none, (.r (.idxA 97 (.t 92) (.t 93) 1))),
  (none, (.st (.t 97) (.t 95) 1))]
def c_garlandref03_Without_r19 : List GOp := [(none, (.asg 7 (.c (.bool true)) true))]
def c_garlandref03_Without_r20 : List GOp := [(none, (.r (.mov 44 (.t 8)))),
  (none, (.r (.bin 45 .add 0 (.t 44) (.c (.int .i64 1))))),
  (none, (.asg 8 (.t 45) true))]
def c_garlandref03_Without_r21 : List GOp := [(none, (.asg 12 (.c (.slice none 0 0)) true))]
def c_garlandref03_Without_r22 : List GOp := [(none, (.asg 13 (.c (.int .i64 0)) true))]
def c_garlandref03_Without_r23 : List GOp := [(none, (.r (.mov 98 (.t 13)))),
  (none, (.r (.fldA 99 (.t 2) 0))),
  (none, (.r (.ld 100 (.t 99) 1 false))),
  (none, (.r (.bin 101 .lss 0 (.t 98) (.t 100))))]
def c_garlandref03_Without_r24 : List GOp := [(none, (.r (.mov 104 (.t 5)))),
  (none, (.r (.mov 105 (.t 13)))),
  (none, (.r (.idxA 106 (.t 104) (.t 105) 1))),
  (none, (.r (.ld 107 (.t 106) 1 false))),
  (none, (.r (.mov 108 (.t 13)))),
  (none, (.r (.bin 109 .neq 0 (.t 107) (.t 108))))]
def c_garlandref03_Without_r25 : List GOp := [(none, (.asg 14 (.c (.slice none 0 0)) true))]
def c_garlandref03_Without_r26 : List GOp := [(none, (.asg 15 (.c (.int .i64 0)) true))]
def c_garlandref03_Without_r27 : List GOp := [(none, (.r (.mov 110 (.t 15)))),
  (none, (.r (.fldA 111 (.t 2) 0))),
  (none, (.r (.ld 112 (.t 111) 1 false))),
  (none, (.r (.bin 113 .lss 0 (.t 110) (.t 112))))]
def c_garlandref03_Without_r28 : List GOp := [(none, (.r (.mov 116 (.t 5)))),
  (none, (.r (.mov 117 (.t 15)))),
  (none, (.r (.idxA 118 (.t 116) (.t 117) 1))),
  (none, (.r (.ld 119 (.t 118) 1 false))),
  (none, (.r (.mov 120 (.t 13)))),
  (none, (.r (.bin 121 .eql 0 (.t 119) (.t 120))))]
def c_garlandref03_Without_r29 : List GOp := [(none, (.r (.mov 122 (.t 14)))),
  (none, (.r (.mov 123 (.t 15)))),
  (none, (.blds 124 1 1 [((0, 1), ((.t 123), true))] [(.int .i64 0)])),
  (none, (.app 125 (.t 122) (.t 124) 1 8)),
  (none, (.asg 14 (.t 125) true))]
def c_garlandref03_Without_r30 : List GOp := [(none, (.r (.mov 114 (.t 15)))),
  (none, (.r (.bin 115 .add 0 (.t 114) (.c (.int .i64 1))))),
  (none, (.asg 15 (.t 115) true))]
def c_garlandref03_Without_r31 : List GOp := [(none, (.r (.mov 126 (.t 12)))),
  (none, (.r (.mov 127 (.t 14)))),
  (none, (.blds 128 1 1 [((0, 1), ((.t 127), true))] [(.slice none 0 0)])),
  (none, (.app 129 (.t 126) (.t 128) 1 24)),
  (none, (.asg 12 (.t 129) true))]
def c_garlandref03_Without_r32 : List GOp := [(none, (.r (.mov 102 (.t 13)))),
  (none, (.r (.bin 103 .add 0 (.t 102) (.c (.int .i64 1))))),
  (none, (.asg 13 (.t 103) true))]
def c_garlandref03_Without_r33 : List GOp := [(none, (.r (.mov 130 (.t 12)))),
  (none, (.asg 4 (.t 130) true))]
def v_garlandref03_Without : List Nat := [0, 1, 2, 4, 5, 6, 7, 8, 9, 10, 11, 12, 13, 14, 15, 18, 25, 34, 38, 43, 80, 101, 109, 113, 121]
def c_garlandref03_Without : ACode :=
  (.seq
  (.reg [0, 1, 4, 5, 6, 7, 8, 9, 10, 11, 12, 13, 14, 15, 18, 25, 34, 38, 43, 80, 101, 109, 113, 121] c_garlandref03_Without_r0 v_garlandref03_Without)
  (.seq
  (.seq
  (.reg [0, 1, 2, 4, 5, 6, 7, 8, 9, 10, 11, 12, 13, 14, 15, 25, 34, 38, 43, 80, 101, 109, 113, 121] c_garlandref03_Without_r1 v_garlandref03_Without)
  (.cond (.t 18) (.seq
  (.reg [0, 1, 2, 4, 5, 6, 7, 8, 9, 10, 11, 12, 13, 14, 15, 18, 25, 34, 38, 43, 80, 101, 109, 113, 121] c_garlandref03_Without_r2 v_garlandref03_Without)
  .ret) .skip))
  (.seq
  (.reg [0, 1, 2, 4, 5, 6, 7, 8, 9, 10, 11, 12, 13, 14, 15, 18, 25, 34, 38, 43, 80, 101, 109, 113, 121] c_garlandref03_Without_r3 v_garlandref03_Without)
  (.seq
  (.seq
  (.reg [0, 1, 2, 4, 5, 6, 7, 8, 9, 10, 11, 12, 13, 14, 15, 18, 25, 34, 38, 43, 80, 101, 109, 113, 121] c_garlandref03_Without_r4 v_garlandref03_Without)
  (.blk 0 (.loop (.seq
  (.seq
  (.reg [0, 1, 2, 4, 5, 6, 7, 8, 9, 10, 11, 12, 13, 14, 15, 18, 34, 38, 43, 80, 101, 109, 113, 121] c_garlandref03_Without_r5 v_garlandref03_Without)
  (.cond (.t 25) .skip (.exit 0)))
  (.seq
  (.blk 1 (.seq
  (.reg [0, 1, 2, 4, 5, 6, 7, 8, 9, 10, 11, 12, 13, 14, 15, 18, 25, 34, 38, 43, 80, 101, 109, 113, 121] c_garlandref03_Without_r6 v_garlandref03_Without)
  (.seq
  (.reg [0, 1, 2, 4, 5, 6, 7, 8, 9, 10, 11, 12, 13, 14, 15, 18, 25, 38, 43, 80, 101, 109, 113, 121] c_garlandref03_Without_r7 v_garlandref03_Without)
  (.cond (.t 34) (.reg [0, 1, 2, 4, 5, 6, 7, 8, 9, 10, 11, 12, 13, 14, 15, 18, 25, 34, 38, 43, 80, 101, 109, 113, 121] c_garlandref03_Without_r8 v_garlandref03_Without) .skip))))
  (.reg [0, 1, 2, 4, 5, 6, 7, 8, 9, 10, 11, 12, 13, 14, 15, 18, 25, 34, 38, 43, 80, 101, 109, 113, 121] c_garlandref03_Without_r9 v_garlandref03_Without))))))
  (.seq
  (.seq
  (.reg [0, 1, 2, 4, 5, 6, 7, 8, 9, 10, 11, 12, 13, 14, 15, 18, 25, 34, 38, 43, 80, 101, 109, 113, 121] c_garlandref03_Without_r10 v_garlandref03_Without)
  (.blk 2 (.loop (.seq
  (.seq
  (.reg [0, 1, 2, 4, 5, 6, 7, 8, 9, 10, 11, 12, 13, 14, 15, 18, 25, 34, 43, 80, 101, 109, 113, 121] c_garlandref03_Without_r11 v_garlandref03_Without)
  (.cond (.t 38) .skip (.exit 2)))
  (.blk 3 (.seq
  (.reg [0, 1, 2, 4, 5, 6, 7, 8, 9, 10, 11, 12, 13, 14, 15, 18, 25, 34, 38, 43, 80, 101, 109, 113, 121] c_garlandref03_Without_r12 v_garlandref03_Without)
  (.seq
  (.reg [0, 1, 2, 4, 5, 6, 7, 8, 9, 10, 11, 12, 13, 14, 15, 18, 25, 34, 38, 43, 80, 101, 109, 113, 121] c_garlandref03_Without_r13 v_garlandref03_Without)
  (.blk 4 (.loop (.seq
  (.seq
  (.reg [0, 1, 2, 4, 5, 6, 7, 8, 9, 10, 11, 12, 13, 14, 15, 18, 25, 34, 38, 80, 101, 109, 113, 121] c_garlandref03_Without_r14 v_garlandref03_Without)
  (.cond (.t 43) .skip (.exit 4)))
  (.seq
  (.blk 5 (.seq
  (.draw [0, 1, 2, 4, 5, 6, 7, 8, 9, 10, 11, 12, 13, 14, 15, 18, 25, 34, 38, 43, 80, 101, 109, 113, 121] c_garlandref03_Without_r15 v_garlandref03_Without)
  (.seq
  (.seq
  (.draw [0, 1, 2, 4, 5, 6, 7, 8, 9, 10, 11, 12, 13, 14, 15, 18, 25, 34, 38, 43, 101, 109, 113, 121] c_garlandref03_Without_r16 v_garlandref03_Without)
  (.cond (.t 80) (.exit 5) .skip))
  (.seq
  (.draw [0, 1, 2, 4, 5, 6, 7, 8, 9, 10, 11, 12, 13, 14, 15, 18, 25, 34, 38, 43, 80, 101, 109, 113, 121] c_garlandref03_Without_r17 v_garlandref03_Without)
  (.seq
  (.reg [0, 1, 2, 4, 5, 6, 7, 8, 9, 10, 11, 12, 13, 14, 15, 18, 25, 34, 38, 43, 80, 101, 109, 113, 121] c_garlandref03_Without_r18 v_garlandref03_Without)
  (.reg [0, 1, 2, 4, 5, 6, 7, 8, 9, 10, 11, 12, 13, 14, 15, 18, 25, 34, 38, 43, 80, 101, 109, 113, 121] c_garlandref03_Without_r19 v_garlandref03_Without))))))
  (.reg [0, 1, 2, 4, 5, 6, 7, 8, 9, 10, 11, 12, 13, 14, 15, 18, 25, 34, 38, 43, 80, 101, 109, 113, 121] c_garlandref03_Without_r20 v_garlandref03_Without))))))))))))
  (.seq
  (.reg [0, 1, 2, 4, 5, 6, 7, 8, 9, 10, 11, 12, 13, 14, 15, 18, 25, 34, 38, 43, 80, 101, 109, 113, 121] c_garlandref03_Without_r21 v_garlandref03_Without)
  (.seq
  (.seq
  (.reg [0, 1, 2, 4, 5, 6, 7, 8, 9, 10, 11, 12, 13, 14, 15, 18, 25, 34, 38, 43, 80, 101, 109, 113, 121] c_garlandref03_Without_r22 v_garlandref03_Without)
  (.blk 6 (.loop (.seq
  (.seq
  (.reg [0, 1, 2, 4, 5, 6, 7, 8, 9, 10, 11, 12, 13, 14, 15, 18, 25, 34, 38, 43, 80, 109, 113, 121] c_garlandref03_Without_r23 v_garlandref03_Without)
  (.cond (.t 101) .skip (.exit 6)))
  (.seq
  (.blk 7 (.seq
  (.seq
  (.reg [0, 1, 2, 4, 5, 6, 7, 8, 9, 10, 11, 12, 13, 14, 15, 18, 25, 34, 38, 43, 80, 101, 113, 121] c_garlandref03_Without_r24 v_garlandref03_Without)
  (.cond (.t 109) (.exit 7) .skip))
  (.seq
  (.reg [0, 1, 2, 4, 5, 6, 7, 8, 9, 10, 11, 12, 13, 14, 15, 18, 25, 34, 38, 43, 80, 101, 109, 113, 121] c_garlandref03_Without_r25 v_garlandref03_Without)
  (.seq
  (.seq
  (.reg [0, 1, 2, 4, 5, 6, 7, 8, 9, 10, 11, 12, 13, 14, 15, 18, 25, 34, 38, 43, 80, 101, 109, 113, 121] c_garlandref03_Without_r26 v_garlandref03_Without)
  (.blk 8 (.loop (.seq
  (.seq
  (.reg [0, 1, 2, 4, 5, 6, 7, 8, 9, 10, 11, 12, 13, 14, 15, 18, 25, 34, 38, 43, 80, 101, 109, 121] c_garlandref03_Without_r27 v_garlandref03_Without)
  (.cond (.t 113) .skip (.exit 8)))
  (.seq
  (.blk 9 (.seq
  (.reg [0, 1, 2, 4, 5, 6, 7, 8, 9, 10, 11, 12, 13, 14, 15, 18, 25, 34, 38, 43, 80, 101, 109, 113] c_garlandref03_Without_r28 v_garlandref03_Without)
  (.cond (.t 121) (.reg [0, 1, 2, 4, 5, 6, 7, 8, 9, 10, 11, 12, 13, 14, 15, 18, 25, 34, 38, 43, 80, 101, 109, 113, 121] c_garlandref03_Without_r29 v_garlandref03_Without) .skip)))
  (.reg [0, 1, 2, 4, 5, 6, 7, 8, 9, 10, 11, 12, 13, 14, 15, 18, 25, 34, 38, 43, 80, 101, 109, 113, 121] c_garlandref03_Without_r30 v_garlandref03_Without))))))
  (.reg [0, 1, 2, 4, 5, 6, 7, 8, 9, 10, 11, 12, 13, 14, 15, 18, 25, 34, 38, 43, 80, 101, 109, 113, 121] c_garlandref03_Without_r31 v_garlandref03_Without)))))
  (.reg [0, 1, 2, 4, 5, 6, 7, 8, 9, 10, 11, 12, 13, 14, 15, 18, 25, 34, 38, 43, 80, 101, 109, 113, 121] c_garlandref03_Without_r32 v_garlandref03_Without))))))
  (.seq
  (.reg [0, 1, 2, 4, 5, 6, 7, 8, 9, 10, 11, 12, 13, 14, 15, 18, 25, 34, 38, 43, 80, 101, 109, 113, 121] c_garlandref03_Without_r33 v_garlandref03_Without)
  .ret))))))))
abbrev n_garlandref03_Without : Nat := 29
theorem s_garlandref03_Without : stripF Try.prog [4] v_garlandref03_Without Try.f29 = some (c_garlandref03_Without, [(.tmp 4)]) := by kernel_rfl
theorem go_garlandref03_Without {L : List (List Nat)} {args : List AVal} {h : Heap} {Q : AVal → Heap → Prop} (hl : args.length = 2) (H : Wlk Try.prog [4] Try.f29.ntmps v_garlandref03_Without L c_garlandref03_Without (ends L [(.tmp 4)] Q) (entry v_garlandref03_Without args h)) : ACalls Try.prog L n_garlandref03_Without args h Q :=
  acalls_of_strip mix Try.func29 s_garlandref03_Without (by rw [hl]; exact Nat.le_of_ble_eq_true rfl) H
def c_graph_Right_r0 : List GOp := [(none, (.box 1 (.t 0))),
  (none, (.asg 2 (.c (.bool false)) true))]
def c_graph_Right_r1 : List GOp := [(none, (.r (.fldA 6 (.t 1) 0))),
  (none, (.r (.ld 7 (.t 6) 1 false))),
  (none, (.r (.bin 8 .lss 0 (.t 7) (.c (.int .i64 0))))),
  (none, (.r (.mov 9 (.t 8)))), ((some (9, false)), (.r (.fldA 10 (.t 1) 0))), ((some (9, false)), (.r (.ld 11 (.t 10) 1 false))), ((some (9, false)), (.r (.bin 12 .gtr 0 (.t 11) (.c (.int .i64 4096))))),
  (none, (.r (.pick 13 (.t 9) (.c (.bool true)) (.t 12)))),
  (none, (.r (.mov 14 (.t 13)))), ((some (14, false)), (.r (.fldA 15 (.t 1) 1))), ((some (14, false)), (.r (.ld 16 (.t 15) 1 false))), ((some (14, false)), (.r (.len 17 (.t 16)))), ((some (14, false)), (.r (.bin 18 .gtr 0 (.t 17) (.c (.int .i64 65536))))),
  (none, (.r (.pick 19 (.t 14) (.c (.bool true)) (.t 18))))]
def c_graph_Right_r2 : List GOp := [(none, (.asg 2 (.c (.bool false)) true))]
def c_graph_Right_r3 : List GOp := [(none, (.bld 20 [] [])),
  (none, (.mkfn 21 (.func 48) [((.t 20), false)] [])),
  (none, (.asg 3 (.t 21) true))]
def c_graph_Right_r4 : List GOp := [(none, (.r (.fldA 22 (.t 1) 1))),
  (none, (.r (.ld 23 (.t 22) 1 false))),
  (none, (.r (.len 24 (.t 23)))),
  (none, (.r (.mov 25 (.c (.int .i64 0)))))]
def c_graph_Right_r5 : List GOp := [(none, (.r (.bin 26 .lss 0 (.t 25) (.t 24))))]
def c_graph_Right_r6 : List GOp := [(none, (.r (.mov 27 (.t 25)))),
  (none, (.r (.idxA 28 (.t 23) (.t 25) 2))),
  (none, (.r (.ld 29 (.t 28) 2 true))),
  (none, (.alloc 5 [(.int .i64 0), (.int .i64 0)])),
  (none, (.asg 4 (.t 27) true)),
  (none, (.st (.t 5) (.t 29) 2))]
def c_graph_Right_r7 : Tree := 
  (.take [1, 2, 3, 4, 5, 6, 7, 8, 9, 10, 11, 12, 13, 14, 15, 16, 17, 18, 19, 20, 21, 22, 23, 24, 25, 26, 27, 28, 29, 30, 31, 32] (none, (.r (.fldA 30 (.t 5) 0))) 
  (.take [2, 3, 4, 5, 6, 7, 8, 9, 10, 11, 12, 13, 14, 15, 16, 17, 18, 19, 20, 21, 22, 23, 24, 25, 26, 27, 28, 29, 30, 31, 32] (none, (.r (.ld 31 (.t 30) 1 false))) 
  (.take [3, 4, 5, 6, 7, 8, 9, 10, 11, 12, 13, 14, 15, 16, 17, 18, 19, 20, 21, 22, 23, 24, 25, 26, 27, 28, 29, 30, 31, 32] (none, (.r (.bin 32 .lss 0 (.t 31) (.c (.int .i64 0))))) 
  (.take [4, 5, 6, 7, 8, 9, 10, 11, 12, 13, 14, 15, 16, 17, 18, 19, 20, 21, 22, 23, 24, 25, 26, 27, 28, 29, 30, 31, 32] (none, (.r (.mov 33 (.t 32)))) 
  (.take [5, 8, 9, 10, 11, 12, 13, 14, 15, 16, 17, 18, 19, 20, 21, 22, 23, 24, 25, 26, 27, 28, 29, 30, 31, 32] ((some (33, false)), (.r (.fldA 34 (.t 5) 0))) 
  (.take [8, 9, 10, 11, 12, 13, 14, 15, 16, 17, 18, 19, 20, 21, 22, 23, 24, 25, 26, 27, 28, 29, 30, 31, 32] ((some (33, false)), (.r (.ld 35 (.t 34) 1 false))) 
  (.take [7, 8, 9, 10, 11, 12, 13, 14, 15, 16, 17, 18, 19, 20, 21, 22, 23, 24, 25, 26, 27, 28, 29, 30, 31, 32] ((some (33, false)), (.r (.fldA 36 (.t 5) 1))) 
  (.take [8, 9, 10, 11, 12, 13, 14, 15, 16, 17, 18, 19, 20, 21, 22, 23, 24, 25, 26, 27, 28, 29, 30, 31, 32] ((some (33, false)), (.r (.ld 37 (.t 36) 1 false))) 
  (.take [9, 10, 11, 12, 13, 14, 15, 16, 17, 18, 19, 20, 21, 22, 23, 24, 25, 26, 27, 28, 29, 30, 31, 32] ((some (33, false)), (.r (.bin 38 .geq 0 (.t 35) (.t 37)))) 
  (.take [10, 11, 12, 13, 14, 15, 16, 17, 18, 19, 20, 21, 22, 23, 24, 25, 26, 27, 28, 29, 30, 31, 32] (none, (.r (.pick 39 (.t 33) (.c (.bool true)) (.t 38)))) 
  (.take [11, 12, 13, 14, 15, 16, 17, 18, 19, 20, 21, 22, 23, 24, 25, 26, 27, 28, 29, 30, 31, 32] (none, (.r (.mov 40 (.t 39)))) 
  (.take [12, 15, 16, 17, 18, 19, 20, 21, 22, 23, 24, 25, 26, 27, 28, 29, 30, 31, 32] ((some (40, false)), (.r (.fldA 41 (.t 5) 1))) 
  (.take [15, 16, 17, 18, 19, 20, 21, 22, 23, 24, 25, 26, 27, 28, 29, 30, 31, 32] ((some (40, false)), (.r (.ld 42 (.t 41) 1 false))) 
  (.take [14, 15, 16, 17, 18, 19, 20, 21, 22, 23, 24, 25, 26, 27, 28, 29, 30, 31, 32] ((some (40, false)), (.r (.fldA 43 (.t 1) 0))) 
  (.take [15, 16, 17, 18, 19, 20, 21, 22, 23, 24, 25, 26, 27, 28, 29, 30, 31, 32] ((some (40, false)), (.r (.ld 44 (.t 43) 1 false))) 
  (.take [16, 17, 18, 19, 20, 21, 22, 23, 24, 25, 26, 27, 28, 29, 30, 31, 32] ((some (40, false)), (.r (.bin 45 .geq 0 (.t 42) (.t 44)))) 
  (.take [17, 18, 19, 20, 21, 22, 23, 24, 25, 26, 27, 28, 29, 30, 31, 32] (none, (.r (.pick 46 (.t 40) (.c (.bool true)) (.t 45)))) 
  (.take [18, 19, 20, 21, 22, 23, 24, 25, 26, 27, 28, 29, 30, 31, 32] (none, (.r (.mov 47 (.t 46)))) 
  (.take [19, 20, 21, 22, 23, 24, 25, 26, 27, 28, 29, 30, 31, 32] ((some (47, false)), (.r (.mov 48 (.t 4)))) 
  (.take [20, 21, 22, 23, 24, 25, 26, 27, 28, 29, 30, 31, 32] ((some (47, false)), (.r (.bin 49 .gtr 0 (.t 48) (.c (.int .i64 0))))) 
  (.take [21, 22, 23, 24, 25, 26, 27, 28, 29, 30, 31, 32] ((some (47, false)), (.r (.mov 50 (.t 49)))) 
  (.take [29, 30, 31, 32] ((some (50, true)), (.r (.mov 51 (.t 3)))) 
  (.take [23, 26, 27, 29, 30, 31, 32] ((some (50, true)), (.r (.fldA 52 (.t 1) 1))) 
  (.take [26, 27, 29, 30, 31, 32] ((some (50, true)), (.r (.ld 53 (.t 52) 1 false))) 
  (.take [25, 26, 27, 29, 30, 31, 32] ((some (50, true)), (.r (.mov 54 (.t 4)))) 
  (.take [26, 27, 29, 30, 31, 32] ((some (50, true)), (.r (.bin 55 .sub 0 (.t 54) (.c (.int .i64 1))))) 
  (.take [27, 29, 30, 31, 32] ((some (50, true)), (.r (.idxA 56 (.t 53) (.t 55) 2))) 
  (.take [29, 30, 31, 32] ((some (50, true)), (.r (.ld 57 (.t 56) 2 true))) 
  (.take [29, 30, 31, 32] ((some (50, true)), (.r (.ld 58 (.t 5) 2 true))) 
  (.one 29 ((some (50, true)), (.call 59 (.t 51) [((.t 57), false), ((.t 58), false)])) 
  (.take [31, 32] ((some (50, true)), (.r (.bin 60 .geq 0 (.t 59) (.c (.int .i64 0))))) 
  (.take [32] ((some (47, false)), (.r (.pick 61 (.t 50) (.t 60) (.c (.bool false))))) 
  (.take [] (none, (.r (.pick 62 (.t 47) (.c (.bool true)) (.t 61)))) .done)))))))))))))))))))))))))))))))))
def c_graph_Right_r8 : List GOp := [(none, (.asg 2 (.c (.bool false)) true))]
def c_graph_Right_r9 : List GOp := [(none, (.r (.bin 63 .add 0 (.t 25) (.c (.int .i64 1))))),
  (none, (.asg 25 (.t 63) true))]
def c_graph_Right_r10 : List GOp := [(none, (.asg 2 (.c (.bool true)) true))]
def v_graph_Right : List Nat := [0, 1, 2, 3, 4, 5, 19, 23, 24, 25, 26, 62]
def c_graph_Right : ACode :=
  (.seq
  (.reg [0, 2, 3, 4, 5, 19, 23, 24, 25, 26, 62] c_graph_Right_r0 v_graph_Right)
  (.seq
  (.seq
  (.reg [0, 1, 2, 3, 4, 5, 23, 24, 25, 26, 62] c_graph_Right_r1 v_graph_Right)
  (.cond (.t 19) (.seq
  (.reg [0, 1, 2, 3, 4, 5, 19, 23, 24, 25, 26, 62] c_graph_Right_r2 v_graph_Right)
  .ret) .skip))
  (.seq
  (.reg [0, 1, 2, 3, 4, 5, 19, 23, 24, 25, 26, 62] c_graph_Right_r3 v_graph_Right)
  (.seq
  (.seq
  (.reg [0, 1, 2, 3, 4, 5, 19, 26, 62] c_graph_Right_r4 v_graph_Right)
  (.blk 0 (.loop (.seq
  (.reg [0, 1, 2, 3, 4, 5, 19, 23, 24, 25, 62] c_graph_Right_r5 v_graph_Right)
  (.seq
  (.cond (.t 26) .skip (.exit 0))
  (.seq
  (.blk 1 (.seq
  (.reg [0, 1, 2, 3, 4, 19, 23, 24, 25, 26, 62] c_graph_Right_r6 v_graph_Right)
  (.seq
  (.draw [0, 1, 2, 3, 4, 5, 19, 23, 24, 25, 26] c_graph_Right_r7 v_graph_Right)
  (.cond (.t 62) (.seq
  (.reg [0, 1, 2, 3, 4, 5, 19, 23, 24, 25, 26, 62] c_graph_Right_r8 v_graph_Right)
  .ret) .skip))))
  (.reg [0, 1, 2, 3, 4, 5, 19, 23, 24, 25, 26, 62] c_graph_Right_r9 v_graph_Right)))))))
  (.seq
  (.reg [0, 1, 2, 3, 4, 5, 19, 23, 24, 25, 26, 62] c_graph_Right_r10 v_graph_Right)
  .ret)))))
abbrev n_graph_Right : Nat := 30
theorem s_graph_Right : stripF Try.prog [2] v_graph_Right Try.f30 = some (c_graph_Right, [(.tmp 2)]) := by kernel_rfl
theorem go_graph_Right {L : List (List Nat)} {args : List AVal} {h : Heap} {Q : AVal → Heap → Prop} (hl : args.length = 1) (H : Wlk Try.prog [2] Try.f30.ntmps v_graph_Right L c_graph_Right (ends L [(.tmp 2)] Q) (entry v_graph_Right args h)) : ACalls Try.prog L n_graph_Right args h Q :=
  acalls_of_strip mix Try.func30 s_graph_Right (by rw [hl]; exact Nat.le_of_ble_eq_true rfl) H
def c_slices_ContainsFunc___int_int__r0 : List GOp := [(none, (.asg 4 (.c (.bool false)) true))]
def c_slices_ContainsFunc___int_int__r1 : List GOp := [(none, (.r (.mov 5 (.t 0)))),
  (none, (.r (.mov 6 (.t 1)))),
  (none, (.call 7 (.f 49) [((.t 5), false), ((.t 6), false)])),
  (none, (.r (.bin 8 .geq 0 (.t 7) (.c (.int .i64 0))))),
  (none, (.asg 4 (.t 8) true))]
def v_slices_ContainsFunc___int_int_ : List Nat := [0, 1, 4]
def c_slices_ContainsFunc___int_int_ : ACode :=
  (.seq
  (.reg [0, 1, 4] c_slices_ContainsFunc___int_int__r0 v_slices_ContainsFunc___int_int_)
  (.seq
  (.reg [0, 1, 4] c_slices_ContainsFunc___int_int__r1 v_slices_ContainsFunc___int_int_)
  .ret))
abbrev n_slices_ContainsFunc___int_int_ : Nat := 31
theorem s_slices_ContainsFunc___int_int_ : stripF Try.prog [4] v_slices_ContainsFunc___int_int_ Try.f31 = some (c_slices_ContainsFunc___int_int_, [(.tmp 4)]) := by kernel_rfl
theorem go_slices_ContainsFunc___int_int_ {L : List (List Nat)} {args : List AVal} {h : Heap} {Q : AVal → Heap → Prop} (hl : args.length = 2) (H : Wlk Try.prog [4] Try.f31.ntmps v_slices_ContainsFunc___int_int_ L c_slices_ContainsFunc___int_int_ (ends L [(.tmp 4)] Q) (entry v_slices_ContainsFunc___int_int_ args h)) : ACalls Try.prog L n_slices_ContainsFunc___int_int_ args h Q :=
  acalls_of_strip mix Try.func31 s_slices_ContainsFunc___int_int_ (by rw [hl]; exact Nat.le_of_ble_eq_true rfl) H
def c_tutte_Right_1_r0 : List GOp := [(none, (.asg 2 (.c (.bool false)) true))]
def c_tutte_Right_1_r1 : List GOp := [(none, (.r (.mov 3 (.t 0)))),
  (none, (.r (.bin 4 .lss 0 (.t 3) (.c (.int .i64 0))))),
  (none, (.r (.mov 5 (.t 4)))), ((some (5, false)), (.r (.mov 6 (.t 0)))), ((some (5, false)), (.r (.bin 7 .gtr 0 (.t 6) (.c (.int .i64 4096))))),
  (none, (.r (.pick 8 (.t 5) (.c (.bool true)) (.t 7)))),
  (none, (.asg 2 (.t 8) true))]
def v_tutte_Right_1 : List Nat := [0, 2]
def c_tutte_Right_1 : ACode :=
  (.seq
  (.reg [0, 2] c_tutte_Right_1_r0 v_tutte_Right_1)
  (.seq
  (.reg [0, 2] c_tutte_Right_1_r1 v_tutte_Right_1)
  .ret))
abbrev n_tutte_Right_1 : Nat := 32
theorem s_tutte_Right_1 : stripF Try.prog [2] v_tutte_Right_1 Try.f32 = some (c_tutte_Right_1, [(.tmp 2)]) := by kernel_rfl
theorem go_tutte_Right_1 {L : List (List Nat)} {args : List AVal} {h : Heap} {Q : AVal → Heap → Prop} (hl : args.length = 1) (H : Wlk Try.prog [2] Try.f32.ntmps v_tutte_Right_1 L c_tutte_Right_1 (ends L [(.tmp 2)] Q) (entry v_tutte_Right_1 args h)) : ACalls Try.prog L n_tutte_Right_1 args h Q :=
  acalls_of_strip mix Try.func32 s_tutte_Right_1 (by rw [hl]; exact Nat.le_of_ble_eq_true rfl) H
def c_garlandref02_Right_r0 : List GOp := [(none, (.box 1 (.t 0))),
  (none, (.asg 2 (.c (.bool false)) true))]
def c_garlandref02_Right_r1 : List GOp := [(none, (.r (.fldA 5 (.t 1) 0))),
  (none, (.r (.ld 6 (.t 5) 1 false))),
  (none, (.r (.bin 7 .lss 0 (.t 6) (.c (.int .i64 0))))),
  (none, (.r (.mov 8 (.t 7)))), ((some (8, false)), (.r (.fldA 9 (.t 1) 0))), ((some (8, false)), (.r (.ld 10 (.t 9) 1 false))), ((some (8, false)), (.r (.bin 11 .gtr 0 (.t 10) (.c (.int .i64 4096))))),
  (none, (.r (.pick 12 (.t 8) (.c (.bool true)) (.t 11)))),
  (none, (.r (.mov 13 (.t 12)))), ((some (13, false)), (.r (.fldA 14 (.t 1) 1))), ((some (13, false)), (.r (.ld 15 (.t 14) 1 false))), ((some (13, false)), (.r (.len 16 (.t 15)))), ((some (13, false)), (.r (.bin 17 .gtr 0 (.t 16) (.c (.int .i64 65536))))),
  (none, (.r (.pick 18 (.t 13) (.c (.bool true)) (.t 17))))]
def c_garlandref02_Right_r2 : List GOp := [(none, (.asg 2 (.c (.bool false)) true))]
def c_garlandref02_Right_r3 : List GOp := [(none, (.asg 3 (.c (.int .i64 0)) true))]
def c_garlandref02_Right_r4 : List GOp := [(none, (.r (.mov 19 (.t 3)))),
  (none, (.r (.fldA 20 (.t 1) 1))),
  (none, (.r (.ld 21 (.t 20) 1 false))),
  (none, (.r (.len 22 (.t 21)))),
  (none, (.r (.bin 23 .lss 0 (.t 19) (.t 22))))]
def c_garlandref02_Right_r5 : List GOp := [(none, (.r (.fldA 26 (.t 1) 1))),
  (none, (.r (.ld 27 (.t 26) 1 false))),
  (none, (.r (.mov 28 (.t 3)))),
  (none, (.r (.idxA 29 (.t 27) (.t 28) 2))),
  (none, (.r (.ld 30 (.t 29) 2 true))),
  (none, (.alloc 4 [(.int .i64 0), (.int .i64 0)])),
  (none, (.st (.t 4) (.t 30) 2))]
def c_garlandref02_Right_r6 : List GOp := [(none, (.r (.fldA 31 (.t 4) 0))),
  (none, (.r (.ld 32 (.t 31) 1 false))),
  (none, (.r (.bin 33 .lss 0 (.t 32) (.c (.int .i64 0))))),
  (none, (.r (.mov 34 (.t 33)))), ((some (34, false)), (.r (.fldA 35 (.t 4) 0))), ((some (34, false)), (.r (.ld 36 (.t 35) 1 false))), ((some (34, false)), (.r (.fldA 37 (.t 4) 1))), ((some (34, false)), (.r (.ld 38 (.t 37) 1 false))), ((some (34, false)), (.r (.bin 39 .geq 0 (.t 36) (.t 38)))),
  (none, (.r (.pick 40 (.t 34) (.c (.bool true)) (.t 39)))),
  (none, (.r (.mov 41 (.t 40)))), ((some (41, false)), (.r (.fldA 42 (.t 4) 1))), ((some (41, false)), (.r (.ld 43 (.t 42) 1 false))), ((some (41, false)), (.r (.fldA 44 (.t 1) 0))), ((some (41, false)), (.r (.ld 45 (.t 44) 1 false))), ((some (41, false)), (.r (.bin 46 .geq 0 (.t 43) (.t 45)))),
  (none, (.r (.pick 47 (.t 41) (.c (.bool true)) (.t 46))))]
def c_garlandref02_Right_r7 : List GOp := [(none, (.asg 2 (.c (.bool false)) true))]
def c_garlandref02_Right_r8 : Tree := 
  (.take [1, 2, 3, 4, 5, 6, 7, 8, 9, 10, 11, 12] (none, (.r (.mov 48 (.t 3)))) 
  (.take [2, 3, 4, 5, 6, 7, 8, 9, 10, 11, 12] (none, (.r (.bin 49 .gtr 0 (.t 48) (.c (.int .i64 0))))) 
  (.take [3, 4, 5, 6, 7, 8, 9, 10, 11, 12] (none, (.r (.mov 50 (.t 49)))) 
  (.take [4, 7, 8, 10, 11, 12] ((some (50, true)), (.r (.fldA 51 (.t 1) 1))) 
  (.take [7, 8, 10, 11, 12] ((some (50, true)), (.r (.ld 52 (.t 51) 1 false))) 
  (.take [6, 7, 8, 10, 11, 12] ((some (50, true)), (.r (.mov 53 (.t 3)))) 
  (.take [7, 8, 10, 11, 12] ((some (50, true)), (.r (.bin 54 .sub 0 (.t 53) (.c (.int .i64 1))))) 
  (.take [8, 10, 11, 12] ((some (50, true)), (.r (.idxA 55 (.t 52) (.t 54) 2))) 
  (.take [10, 11, 12] ((some (50, true)), (.r (.ld 56 (.t 55) 2 true))) 
  (.take [10, 11, 12] ((some (50, true)), (.r (.ld 57 (.t 4) 2 true))) 
  (.one 10 ((some (50, true)), (.call 58 (.f 50) [((.t 56), false), ((.t 57), false)])) 
  (.take [12] ((some (50, true)), (.r (.notb 59 (.t 58)))) 
  (.take [] (none, (.r (.pick 60 (.t 50) (.t 59) (.c (.bool false))))) .done)))))))))))))
def c_garlandref02_Right_r9 : List GOp := [(none, (.asg 2 (.c (.bool false)) true))]
def c_garlandref02_Right_r10 : List GOp := [(none, (.r (.mov 24 (.t 3)))),
  (none, (.r (.bin 25 .add 0 (.t 24) (.c (.int .i64 1))))),
  (none, (.asg 3 (.t 25) true))]
def c_garlandref02_Right_r11 : List GOp := [(none, (.asg 2 (.c (.bool true)) true))]
def v_garlandref02_Right : List Nat := [0, 1, 2, 3, 4, 18, 23, 47, 60]
def c_garlandref02_Right : ACode :=
  (.seq
  (.reg [0, 2, 3, 4, 18, 23, 47, 60] c_garlandref02_Right_r0 v_garlandref02_Right)
  (.seq
  (.seq
  (.reg [0, 1, 2, 3, 4, 23, 47, 60] c_garlandref02_Right_r1 v_garlandref02_Right)
  (.cond (.t 18) (.seq
  (.reg [0, 1, 2, 3, 4, 18, 23, 47, 60] c_garlandref02_Right_r2 v_garlandref02_Right)
  .ret) .skip))
  (.seq
  (.seq
  (.reg [0, 1, 2, 3, 4, 18, 23, 47, 60] c_garlandref02_Right_r3 v_garlandref02_Right)
  (.blk 0 (.loop (.seq
  (.seq
  (.reg [0, 1, 2, 3, 4, 18, 47, 60] c_garlandref02_Right_r4 v_garlandref02_Right)
  (.cond (.t 23) .skip (.exit 0)))
  (.seq
  (.blk 1 (.seq
  (.reg [0, 1, 2, 3, 18, 23, 47, 60] c_garlandref02_Right_r5 v_garlandref02_Right)
  (.seq
  (.seq
  (.reg [0, 1, 2, 3, 4, 18, 23, 60] c_garlandref02_Right_r6 v_garlandref02_Right)
  (.cond (.t 47) (.seq
  (.reg [0, 1, 2, 3, 4, 18, 23, 47, 60] c_garlandref02_Right_r7 v_garlandref02_Right)
  .ret) .skip))
  (.seq
  (.draw [0, 1, 2, 3, 4, 18, 23, 47] c_garlandref02_Right_r8 v_garlandref02_Right)
  (.cond (.t 60) (.seq
  (.reg [0, 1, 2, 3, 4, 18, 23, 47, 60] c_garlandref02_Right_r9 v_garlandref02_Right)
  .ret) .skip)))))
  (.reg [0, 1, 2, 3, 4, 18, 23, 47, 60] c_garlandref02_Right_r10 v_garlandref02_Right))))))
  (.seq
  (.reg [0, 1, 2, 3, 4, 18, 23, 47, 60] c_garlandref02_Right_r11 v_garlandref02_Right)
  .ret))))
abbrev n_garlandref02_Right : Nat := 33
theorem s_garlandref02_Right : stripF Try.prog [2] v_garlandref02_Right Try.f33 = some (c_garlandref02_Right, [(.tmp 2)]) := by kernel_rfl
theorem go_garlandref02_Right {L : List (List Nat)} {args : List AVal} {h : Heap} {Q : AVal → Heap → Prop} (hl : args.length = 1) (H : Wlk Try.prog [2] Try.f33.ntmps v_garlandref02_Right L c_garlandref02_Right (ends L [(.tmp 2)] Q) (entry v_garlandref02_Right args h)) : ACalls Try.prog L n_garlandref02_Right args h Q :=
  acalls_of_strip mix Try.func33 s_garlandref02_Right (by rw [hl]; exact Nat.le_of_ble_eq_true rfl) H
def c_slices_Clone___int_int__r0 : List GOp := [(none, (.asg 2 (.c (.slice none 0 0)) true))]
def c_slices_Clone___int_int__r1 : List GOp := [(none, (.r (.mov 3 (.t 0)))),
  (none, (.r (.bin 4 .eql 3 (.t 3) (.c (.slice none 0 0)))))]
def c_slices_Clone___int_int__r2 : List GOp := [(none, (.asg 2 (.c (.slice none 0 0)) true))]
def c_slices_Clone___int_int__r3 : List GOp := [(none, (.blds 5 0 1 [] [(.int .i64 0)])),
  (none, (.r (.mov 6 (.t 0)))),
  (none, (.app 7 (.t 5) (.t 6) 1 8)),
  (none, (.asg 2 (.t 7) true))]
def v_slices_Clone___int_int_ : List Nat := [0, 2, 4]
def c_slices_Clone___int_int_ : ACode :=
  (.seq
  (.reg [0, 2, 4] c_slices_Clone___int_int__r0 v_slices_Clone___int_int_)
  (.seq
  (.seq
  (.reg [0, 2] c_slices_Clone___int_int__r1 v_slices_Clone___int_int_)
  (.cond (.t 4) (.seq
  (.reg [0, 2, 4] c_slices_Clone___int_int__r2 v_slices_Clone___int_int_)
  .ret) .skip))
  (.seq
  (.reg [0, 2, 4] c_slices_Clone___int_int__r3 v_slices_Clone___int_int_)
  .ret)))
abbrev n_slices_Clone___int_int_ : Nat := 34
theorem s_slices_Clone___int_int_ : stripF Try.prog [2] v_slices_Clone___int_int_ Try.f34 = some (c_slices_Clone___int_int_, [(.tmp 2)]) := by kernel_rfl
theorem go_slices_Clone___int_int_ {L : List (List Nat)} {args : List AVal} {h : Heap} {Q : AVal → Heap → Prop} (hl : args.length = 1) (H : Wlk Try.prog [2] Try.f34.ntmps v_slices_Clone___int_int_ L c_slices_Clone___int_int_ (ends L [(.tmp 2)] Q) (entry v_slices_Clone___int_int_ args h)) : ACalls Try.prog L n_slices_Clone___int_int_ args h Q :=
  acalls_of_strip mix Try.func34 s_slices_Clone___int_int_ (by rw [hl]; exact Nat.le_of_ble_eq_true rfl) H
def c_graph_Has_r0 : List GOp := [(none, (.box 3 (.t 0))),
  (none, (.asg 6 (.c (.bool false)) true))]
def c_graph_Has_r1 : List GOp := [(none, (.r (.ld 7 (.t 3) 2 true))),
  (none, (.r (.mov 8 (.t 1)))),
  (none, (.r (.mov 9 (.t 2)))),
  (none, (.call 10 (.f 51) [((.t 7), false), ((.t 8), false), ((.t 9), false)])),
  (none, (.r (.bin 11 .geq 0 (.t 10) (.c (.int .i64 0))))),
  (none, (.asg 6 (.t 11) true))]
def v_graph_Has : List Nat := [0, 1, 2, 3, 6]
def c_graph_Has : ACode :=
  (.seq
  (.reg [0, 1, 2, 6] c_graph_Has_r0 v_graph_Has)
  (.seq
  (.reg [0, 1, 2, 3, 6] c_graph_Has_r1 v_graph_Has)
  .ret))
abbrev n_graph_Has : Nat := 35
theorem s_graph_Has : stripF Try.prog [6] v_graph_Has Try.f35 = some (c_graph_Has, [(.tmp 6)]) := by kernel_rfl
theorem go_graph_Has {L : List (List Nat)} {args : List AVal} {h : Heap} {Q : AVal → Heap → Prop} (hl : args.length = 3) (H : Wlk Try.prog [6] Try.f35.ntmps v_graph_Has L c_graph_Has (ends L [(.tmp 6)] Q) (entry v_graph_Has args h)) : ACalls Try.prog L n_graph_Has args h Q :=
  acalls_of_strip mix Try.func35 s_graph_Has (by rw [hl]; exact Nat.le_of_ble_eq_true rfl) H
def c_cmp_Or_int__r0 : List GOp := [(none, (.asg 2 (.c (.int .i64 0)) true))]
def c_cmp_Or_int__r1 : List GOp := [(none, (.asg 3 (.c (.int .i64 0)) true))]
def c_cmp_Or_int__r2 : List GOp := [(none, (.r (.mov 6 (.t 0)))),
  (none, (.r (.len 7 (.t 6)))),
  (none, (.r (.mov 8 (.c (.int .i64 0)))))]
def c_cmp_Or_int__r3 : List GOp := [(none, (.r (.bin 9 .lss 0 (.t 8) (.t 7))))]
def c_cmp_Or_int__r4 : List GOp := [(none, (.r (.idxA 10 (.t 6) (.t 8) 1))),
  (none, (.r (.ld 11 (.t 10) 1 false))),
  (none, (.asg 5 (.t 11) true))]
def c_cmp_Or_int__r5 : List GOp := [(none, (.r (.mov 12 (.t 5)))),
  (none, (.r (.mov 13 (.t 3)))),
  (none, (.r (.bin 14 .neq 0 (.t 12) (.t 13))))]
def c_cmp_Or_int__r6 : List GOp := [(none, (.r (.mov 15 (.t 5)))),
  (none, (.asg 2 (.t 15) true))]
def c_cmp_Or_int__r7 : List GOp := [(none, (.r (.bin 16 .add 0 (.t 8) (.c (.int .i64 1))))),
  (none, (.asg 8 (.t 16) true))]
def c_cmp_Or_int__r8 : List GOp := [(none, (.r (.mov 17 (.t 3)))),
  (none, (.asg 2 (.t 17) true))]
def v_cmp_Or_int_ : List Nat := [0, 2, 3, 5, 6, 7, 8, 9, 14]
def c_cmp_Or_int_ : ACode :=
  (.seq
  (.reg [0, 2, 3, 5, 6, 7, 8, 9, 14] c_cmp_Or_int__r0 v_cmp_Or_int_)
  (.seq
  (.reg [0, 2, 3, 5, 6, 7, 8, 9, 14] c_cmp_Or_int__r1 v_cmp_Or_int_)
  (.seq
  (.seq
  (.reg [0, 2, 3, 5, 9, 14] c_cmp_Or_int__r2 v_cmp_Or_int_)
  (.blk 0 (.loop (.seq
  (.reg [0, 2, 3, 5, 6, 7, 8, 14] c_cmp_Or_int__r3 v_cmp_Or_int_)
  (.seq
  (.cond (.t 9) .skip (.exit 0))
  (.seq
  (.blk 1 (.seq
  (.reg [0, 2, 3, 5, 6, 7, 8, 9, 14] c_cmp_Or_int__r4 v_cmp_Or_int_)
  (.seq
  (.reg [0, 2, 3, 5, 6, 7, 8, 9] c_cmp_Or_int__r5 v_cmp_Or_int_)
  (.cond (.t 14) (.seq
  (.reg [0, 2, 3, 5, 6, 7, 8, 9, 14] c_cmp_Or_int__r6 v_cmp_Or_int_)
  .ret) .skip))))
  (.reg [0, 2, 3, 5, 6, 7, 8, 9, 14] c_cmp_Or_int__r7 v_cmp_Or_int_)))))))
  (.seq
  (.reg [0, 2, 3, 5, 6, 7, 8, 9, 14] c_cmp_Or_int__r8 v_cmp_Or_int_)
  .ret))))
abbrev n_cmp_Or_int_ : Nat := 36
theorem s_cmp_Or_int_ : stripF Try.prog [2] v_cmp_Or_int_ Try.f36 = some (c_cmp_Or_int_, [(.tmp 2)]) := by kernel_rfl
theorem go_cmp_Or_int_ {L : List (List Nat)} {args : List AVal} {h : Heap} {Q : AVal → Heap → Prop} (hl : args.length = 1) (H : Wlk Try.prog [2] Try.f36.ntmps v_cmp_Or_int_ L c_cmp_Or_int_ (ends L [(.tmp 2)] Q) (entry v_cmp_Or_int_ args h)) : ACalls Try.prog L n_cmp_Or_int_ args h Q :=
  acalls_of_strip mix Try.func36 s_cmp_Or_int_ (by rw [hl]; exact Nat.le_of_ble_eq_true rfl) H
def c_cmp_Compare_int__r0 : List GOp := [(none, (.asg 4 (.c (.int .i64 0)) true))]
def c_cmp_Compare_int__r1 : List GOp := [(none, (.r (.mov 7 (.t 0)))),
  (none, (.call 8 (.f 52) [((.t 7), false)])),
  (none, (.asg 5 (.t 8) true))]
def c_cmp_Compare_int__r2 : List GOp := [(none, (.r (.mov 9 (.t 1)))),
  (none, (.call 10 (.f 52) [((.t 9), false)])),
  (none, (.asg 6 (.t 10) true))]
def c_cmp_Compare_int__r3 : List GOp := [(none, (.r (.mov 11 (.t 5))))]
def c_cmp_Compare_int__r4 : List GOp := [(none, (.r (.mov 12 (.t 6))))]
def c_cmp_Compare_int__r5 : List GOp := [(none, (.asg 4 (.c (.int .i64 0)) true))]
def c_cmp_Compare_int__r6 : List GOp := [(none, (.asg 4 (.c (.int .i64 (-(0 + 1)))) true))]
def c_cmp_Compare_int__r7 : List GOp := [(none, (.r (.mov 13 (.t 6))))]
def c_cmp_Compare_int__r8 : List GOp := [(none, (.asg 4 (.c (.int .i64 1)) true))]
def c_cmp_Compare_int__r9 : List GOp := [(none, (.r (.mov 14 (.t 0)))),
  (none, (.r (.mov 15 (.t 1)))),
  (none, (.r (.bin 16 .lss 0 (.t 14) (.t 15))))]
def c_cmp_Compare_int__r10 : List GOp := [(none, (.asg 4 (.c (.int .i64 (-(0 + 1)))) true))]
def c_cmp_Compare_int__r11 : List GOp := [(none, (.r (.mov 17 (.t 0)))),
  (none, (.r (.mov 18 (.t 1)))),
  (none, (.r (.bin 19 .gtr 0 (.t 17) (.t 18))))]
def c_cmp_Compare_int__r12 : List GOp := [(none, (.asg 4 (.c (.int .i64 1)) true))]
def c_cmp_Compare_int__r13 : List GOp := [(none, (.asg 4 (.c (.int .i64 0)) true))]
def v_cmp_Compare_int_ : List Nat := [0, 1, 4, 5, 6, 11, 12, 13, 16, 19]
def c_cmp_Compare_int_ : ACode :=
  (.seq
  (.reg [0, 1, 4, 5, 6, 11, 12, 13, 16, 19] c_cmp_Compare_int__r0 v_cmp_Compare_int_)
  (.seq
  (.reg [0, 1, 4, 5, 6, 11, 12, 13, 16, 19] c_cmp_Compare_int__r1 v_cmp_Compare_int_)
  (.seq
  (.reg [0, 1, 4, 5, 6, 11, 12, 13, 16, 19] c_cmp_Compare_int__r2 v_cmp_Compare_int_)
  (.seq
  (.seq
  (.reg [0, 1, 4, 5, 6, 12, 13, 16, 19] c_cmp_Compare_int__r3 v_cmp_Compare_int_)
  (.cond (.t 11) (.seq
  (.seq
  (.reg [0, 1, 4, 5, 6, 11, 13, 16, 19] c_cmp_Compare_int__r4 v_cmp_Compare_int_)
  (.cond (.t 12) (.seq
  (.reg [0, 1, 4, 5, 6, 11, 12, 13, 16, 19] c_cmp_Compare_int__r5 v_cmp_Compare_int_)
  .ret) .skip))
  (.seq
  (.reg [0, 1, 4, 5, 6, 11, 12, 13, 16, 19] c_cmp_Compare_int__r6 v_cmp_Compare_int_)
  .ret)) .skip))
  (.seq
  (.seq
  (.reg [0, 1, 4, 5, 6, 11, 12, 16, 19] c_cmp_Compare_int__r7 v_cmp_Compare_int_)
  (.cond (.t 13) (.seq
  (.reg [0, 1, 4, 5, 6, 11, 12, 13, 16, 19] c_cmp_Compare_int__r8 v_cmp_Compare_int_)
  .ret) .skip))
  (.seq
  (.seq
  (.reg [0, 1, 4, 5, 6, 11, 12, 13, 19] c_cmp_Compare_int__r9 v_cmp_Compare_int_)
  (.cond (.t 16) (.seq
  (.reg [0, 1, 4, 5, 6, 11, 12, 13, 16, 19] c_cmp_Compare_int__r10 v_cmp_Compare_int_)
  .ret) .skip))
  (.seq
  (.seq
  (.reg [0, 1, 4, 5, 6, 11, 12, 13, 16] c_cmp_Compare_int__r11 v_cmp_Compare_int_)
  (.cond (.t 19) (.seq
  (.reg [0, 1, 4, 5, 6, 11, 12, 13, 16, 19] c_cmp_Compare_int__r12 v_cmp_Compare_int_)
  .ret) .skip))
  (.seq
  (.reg [0, 1, 4, 5, 6, 11, 12, 13, 16, 19] c_cmp_Compare_int__r13 v_cmp_Compare_int_)
  .ret))))))))
abbrev n_cmp_Compare_int_ : Nat := 37
theorem s_cmp_Compare_int_ : stripF Try.prog [4] v_cmp_Compare_int_ Try.f37 = some (c_cmp_Compare_int_, [(.tmp 4)]) := by kernel_rfl
theorem go_cmp_Compare_int_ {L : List (List Nat)} {args : List AVal} {h : Heap} {Q : AVal → Heap → Prop} (hl : args.length = 2) (H : Wlk Try.prog [4] Try.f37.ntmps v_cmp_Compare_int_ L c_cmp_Compare_int_ (ends L [(.tmp 4)] Q) (entry v_cmp_Compare_int_ args h)) : ACalls Try.prog L n_cmp_Compare_int_ args h Q :=
  acalls_of_strip mix Try.func37 s_cmp_Compare_int_ (by rw [hl]; exact Nat.le_of_ble_eq_true rfl) H
def c_tutte_IsFactor_1_r0 : List GOp := [(none, (.asg 2 (.c (.bool false)) true))]
def c_tutte_IsFactor_1_r1 : List GOp := [(none, (.r (.mov 3 (.t 0)))),
  (none, (.r (.bin 4 .neq 0 (.t 3) (.c (.int .i64 0))))),
  (none, (.asg 2 (.t 4) true))]
def v_tutte_IsFactor_1 : List Nat := [0, 2]
def c_tutte_IsFactor_1 : ACode :=
  (.seq
  (.reg [0, 2] c_tutte_IsFactor_1_r0 v_tutte_IsFactor_1)
  (.seq
  (.reg [0, 2] c_tutte_IsFactor_1_r1 v_tutte_IsFactor_1)
  .ret))
abbrev n_tutte_IsFactor_1 : Nat := 38
theorem s_tutte_IsFactor_1 : stripF Try.prog [2] v_tutte_IsFactor_1 Try.f38 = some (c_tutte_IsFactor_1, [(.tmp 2)]) := by kernel_rfl
theorem go_tutte_IsFactor_1 {L : List (List Nat)} {args : List AVal} {h : Heap} {Q : AVal → Heap → Prop} (hl : args.length = 1) (H : Wlk Try.prog [2] Try.f38.ntmps v_tutte_IsFactor_1 L c_tutte_IsFactor_1 (ends L [(.tmp 2)] Q) (entry v_tutte_IsFactor_1 args h)) : ACalls Try.prog L n_tutte_IsFactor_1 args h Q :=
  acalls_of_strip mix Try.func38 s_tutte_IsFactor_1 (by rw [hl]; exact Nat.le_of_ble_eq_true rfl) H
def c_garlandref02_Has_r0 : List GOp := [(none, (.box 3 (.t 0))),
  (none, (.asg 6 (.c (.bool false)) true))]
def c_garlandref02_Has_r1 : List GOp := [(none, (.r (.ld 7 (.t 3) 2 true))),
  (none, (.r (.mov 8 (.t 1)))),
  (none, (.r (.mov 9 (.t 2)))),
  (none, (.call 10 (.f 53) [((.t 7), false), ((.t 8), false), ((.t 9), false)])),
  (none, (.r (.bin 11 .geq 0 (.t 10) (.c (.int .i64 0))))),
  (none, (.asg 6 (.t 11) true))]
def v_garlandref02_Has : List Nat := [0, 1, 2, 3, 6]
def c_garlandref02_Has : ACode :=
  (.seq
  (.reg [0, 1, 2, 6] c_garlandref02_Has_r0 v_garlandref02_Has)
  (.seq
  (.reg [0, 1, 2, 3, 6] c_garlandref02_Has_r1 v_garlandref02_Has)
  .ret))
abbrev n_garlandref02_Has : Nat := 39
theorem s_garlandref02_Has : stripF Try.prog [6] v_garlandref02_Has Try.f39 = some (c_garlandref02_Has, [(.tmp 6)]) := by kernel_rfl
theorem go_garlandref02_Has {L : List (List Nat)} {args : List AVal} {h : Heap} {Q : AVal → Heap → Prop} (hl : args.length = 3) (H : Wlk Try.prog [6] Try.f39.ntmps v_garlandref02_Has L c_garlandref02_Has (ends L [(.tmp 6)] Q) (entry v_garlandref02_Has args h)) : ACalls Try.prog L n_garlandref02_Has args h Q :=
  acalls_of_strip mix Try.func39 s_garlandref02_Has (by rw [hl]; exact Nat.le_of_ble_eq_true rfl) H
def c_garlandhelp_Plain_int__r0 : List GOp := [(none, (.asg 4 (.c (.bool false)) true))]
def c_garlandhelp_Plain_int__r1 : List GOp := [(none, (.r (.mov 5 (.t 0)))),
  (none, (.r (.mov 6 (.t 1)))),
  (none, (.call 7 (.f 54) [((.t 5), false), ((.t 6), false), ((.f 55), false)])),
  (none, (.asg 4 (.t 7) true))]
def v_garlandhelp_Plain_int_ : List Nat := [0, 1, 4]
def c_garlandhelp_Plain_int_ : ACode :=
  (.seq
  (.reg [0, 1, 4] c_garlandhelp_Plain_int__r0 v_garlandhelp_Plain_int_)
  (.seq
  (.reg [0, 1, 4] c_garlandhelp_Plain_int__r1 v_garlandhelp_Plain_int_)
  .ret))
abbrev n_garlandhelp_Plain_int_ : Nat := 40
theorem s_garlandhelp_Plain_int_ : stripF Try.prog [4] v_garlandhelp_Plain_int_ Try.f40 = some (c_garlandhelp_Plain_int_, [(.tmp 4)]) := by kernel_rfl
theorem go_garlandhelp_Plain_int_ {L : List (List Nat)} {args : List AVal} {h : Heap} {Q : AVal → Heap → Prop} (hl : args.length = 2) (H : Wlk Try.prog [4] Try.f40.ntmps v_garlandhelp_Plain_int_ L c_garlandhelp_Plain_int_ (ends L [(.tmp 4)] Q) (entry v_garlandhelp_Plain_int_ args h)) : ACalls Try.prog L n_garlandhelp_Plain_int_ args h Q :=
  acalls_of_strip mix Try.func40 s_garlandhelp_Plain_int_ (by rw [hl]; exact Nat.le_of_ble_eq_true rfl) H
def c_garlandhelp_Plain_api_Edge__r0 : List GOp := [(none, (.asg 4 (.c (.bool false)) true))]
def c_garlandhelp_Plain_api_Edge__r1 : List GOp := [(none, (.r (.mov 5 (.t 0)))),
  (none, (.r (.mov 6 (.t 1)))),
  (none, (.call 7 (.f 56) [((.t 5), false), ((.t 6), false), ((.f 57), false)])),
  (none, (.asg 4 (.t 7) true))]
def v_garlandhelp_Plain_api_Edge_ : List Nat := [0, 1, 4]
def c_garlandhelp_Plain_api_Edge_ : ACode :=
  (.seq
  (.reg [0, 1, 4] c_garlandhelp_Plain_api_Edge__r0 v_garlandhelp_Plain_api_Edge_)
  (.seq
  (.reg [0, 1, 4] c_garlandhelp_Plain_api_Edge__r1 v_garlandhelp_Plain_api_Edge_)
  .ret))
abbrev n_garlandhelp_Plain_api_Edge_ : Nat := 41
theorem s_garlandhelp_Plain_api_Edge_ : stripF Try.prog [4] v_garlandhelp_Plain_api_Edge_ Try.f41 = some (c_garlandhelp_Plain_api_Edge_, [(.tmp 4)]) := by kernel_rfl
theorem go_garlandhelp_Plain_api_Edge_ {L : List (List Nat)} {args : List AVal} {h : Heap} {Q : AVal → Heap → Prop} (hl : args.length = 2) (H : Wlk Try.prog [4] Try.f41.ntmps v_garlandhelp_Plain_api_Edge_ L c_garlandhelp_Plain_api_Edge_ (ends L [(.tmp 4)] Q) (entry v_garlandhelp_Plain_api_Edge_ args h)) : ACalls Try.prog L n_garlandhelp_Plain_api_Edge_ args h Q :=
  acalls_of_strip mix Try.func41 s_garlandhelp_Plain_api_Edge_ (by rw [hl]; exact Nat.le_of_ble_eq_true rfl) H
def c_garlandref02_Is_r0 : List GOp := [(none, (.box 2 (.t 0))),
  (none, (.asg 4 (.c (.bool false)) true))]
def c_garlandref02_Is_r1 : List GOp := [(none, (.r (.mov 5 (.t 1)))),
  (none, (.r (.bin 6 .geq 0 (.t 5) (.c (.int .i64 0))))),
  (none, (.r (.mov 7 (.t 6)))), ((some (7, true)), (.r (.mov 8 (.t 1)))), ((some (7, true)), (.r (.fldA 9 (.t 2) 0))), ((some (7, true)), (.r (.ld 10 (.t 9) 1 false))), ((some (7, true)), (.r (.bin 11 .lss 0 (.t 8) (.t 10)))),
  (none, (.r (.pick 12 (.t 7) (.t 11) (.c (.bool false))))),
  (none, (.asg 4 (.t 12) true))]
def v_garlandref02_Is : List Nat := [0, 1, 2, 4]
def c_garlandref02_Is : ACode :=
  (.seq
  (.reg [0, 1, 4] c_garlandref02_Is_r0 v_garlandref02_Is)
  (.seq
  (.reg [0, 1, 2, 4] c_garlandref02_Is_r1 v_garlandref02_Is)
  .ret))
abbrev n_garlandref02_Is : Nat := 42
theorem s_garlandref02_Is : stripF Try.prog [4] v_garlandref02_Is Try.f42 = some (c_garlandref02_Is, [(.tmp 4)]) := by kernel_rfl
theorem go_garlandref02_Is {L : List (List Nat)} {args : List AVal} {h : Heap} {Q : AVal → Heap → Prop} (hl : args.length = 2) (H : Wlk Try.prog [4] Try.f42.ntmps v_garlandref02_Is L c_garlandref02_Is (ends L [(.tmp 4)] Q) (entry v_garlandref02_Is args h)) : ACalls Try.prog L n_garlandref02_Is args h Q :=
  acalls_of_strip mix Try.func42 s_garlandref02_Is (by rw [hl]; exact Nat.le_of_ble_eq_true rfl) H
def c_garlandref02_turned_r0 : List GOp := [(none, (.alloc 4 [(.int .i64 0), (.int .i64 0)]))]
def c_garlandref02_turned_r1 : List GOp := [(none, (.r (.mov 5 (.t 0)))),
  (none, (.r (.mov 6 (.t 1)))),
  (none, (.r (.bin 7 .gtr 0 (.t 5) (.t 6))))]
def c_garlandref02_turned_r2 : List GOp := [(none, (.r (.mov 8 (.t 1)))),
  (none, (.r (.mov 9 (.t 0)))),
  (none, (.bld 10 [((0, 1), ((.t 8), true)), ((1, 1), ((.t 9), true))] [(.int .i64 0), (.int .i64 0)])),
  (none, (.st (.t 4) (.t 10) 2))]
def c_garlandref02_turned_r3 : List GOp := [(none, (.r (.mov 11 (.t 0)))),
  (none, (.r (.mov 12 (.t 1)))),
  (none, (.bld 13 [((0, 1), ((.t 11), true)), ((1, 1), ((.t 12), true))] [(.int .i64 0), (.int .i64 0)])),
  (none, (.st (.t 4) (.t 13) 2))]
def v_garlandref02_turned : List Nat := [0, 1, 4, 7]
def c_garlandref02_turned : ACode :=
  (.seq
  (.reg [0, 1, 7] c_garlandref02_turned_r0 v_garlandref02_turned)
  (.seq
  (.seq
  (.reg [0, 1, 4] c_garlandref02_turned_r1 v_garlandref02_turned)
  (.cond (.t 7) (.seq
  (.reg [0, 1, 4, 7] c_garlandref02_turned_r2 v_garlandref02_turned)
  .ret) .skip))
  (.seq
  (.reg [0, 1, 4, 7] c_garlandref02_turned_r3 v_garlandref02_turned)
  .ret)))
abbrev n_garlandref02_turned : Nat := 44
theorem s_garlandref02_turned : stripF Try.prog [] v_garlandref02_turned Try.f44 = some (c_garlandref02_turned, [(.cell 4 2 true)]) := by kernel_rfl
theorem go_garlandref02_turned {L : List (List Nat)} {args : List AVal} {h : Heap} {Q : AVal → Heap → Prop} (hl : args.length = 2) (H : Wlk Try.prog [] Try.f44.ntmps v_garlandref02_turned L c_garlandref02_turned (ends L [(.cell 4 2 true)] Q) (entry v_garlandref02_turned args h)) : ACalls Try.prog L n_garlandref02_turned args h Q :=
  acalls_of_strip mix Try.func44 s_garlandref02_turned (by rw [hl]; exact Nat.le_of_ble_eq_true rfl) H
def c_pieces_walk_piece_r0 : List GOp := [(none, (.asg 4 (.c (.slice none 0 0)) true))]
def c_pieces_walk_piece_r1 : List GOp := [(none, (.r (.mov 9 (.t 0)))),
  (none, (.mkfn 10 (.func 58) [((.t 9), false)] [])),
  (none, (.asg 5 (.t 10) true))]
def c_pieces_walk_piece_r2 : List GOp := [(none, (.r (.mov 11 (.t 0)))),
  (none, (.r (.nilck 12 (.t 11)))),
  (none, (.r (.fldA 13 (.t 12) 2))),
  (none, (.st (.t 13) (.c (.slice none 0 0)) 1))]
def c_pieces_walk_piece_r3 : List GOp := [(none, (.r (.mov 14 (.t 5)))),
  (none, (.r (.mov 15 (.t 1)))),
  (none, (.call 16 (.t 14) [((.t 15), false)]))]
def c_pieces_walk_piece_r4 : List GOp := [(none, (.r (.mov 17 (.t 0)))),
  (none, (.r (.nilck 18 (.t 17)))),
  (none, (.r (.fldA 19 (.t 18) 3))),
  (none, (.r (.ld 20 (.t 19) 1 false))),
  (none, (.r (.len 21 (.t 20)))),
  (none, (.r (.bin 22 .gtr 0 (.t 21) (.c (.int .i64 0)))))]
def c_pieces_walk_piece_r5 : Tree := 
  (.take [1, 2, 3, 10, 11, 12] (none, (.r (.mov 23 (.t 0)))) 
  (.take [2, 3, 10, 11, 12] (none, (.r (.nilck 24 (.t 23)))) 
  (.take [3, 10, 11, 12] (none, (.r (.fldA 25 (.t 24) 3))) 
  (.take [10, 11, 12] (none, (.r (.ld 26 (.t 25) 1 false))) 
  (.take [5, 6, 7, 8, 9, 10, 11, 12] (none, (.r (.mov 27 (.t 0)))) 
  (.take [6, 7, 8, 9, 10, 11, 12] (none, (.r (.nilck 28 (.t 27)))) 
  (.take [7, 8, 9, 10, 11, 12] (none, (.r (.fldA 29 (.t 28) 3))) 
  (.take [8, 9, 10, 11, 12] (none, (.r (.ld 30 (.t 29) 1 false))) 
  (.take [9, 10, 11, 12] (none, (.r (.len 31 (.t 30)))) 
  (.take [10, 11, 12] (none, (.r (.bin 32 .sub 0 (.t 31) (.c (.int .i64 1))))) 
  (.take [11, 12] (none, (.r (.idxA 33 (.t 26) (.t 32) 1))) 
  (.take [12] (none, (.r (.ld 34 (.t 33) 1 false))) 
  (.one 12 (none, (.asg 6 (.t 34) true)) .done)))))))))))))
def c_pieces_walk_piece_r6 : Tree := 
  (.take [12, 13, 14] (none, (.r (.mov 35 (.t 0)))) 
  (.take [2, 3, 4, 11, 12, 13, 14] (none, (.r (.mov 36 (.t 0)))) 
  (.take [3, 4, 11, 12, 13, 14] (none, (.r (.nilck 37 (.t 36)))) 
  (.take [4, 11, 12, 13, 14] (none, (.r (.fldA 38 (.t 37) 3))) 
  (.take [11, 12, 13, 14] (none, (.r (.ld 39 (.t 38) 1 false))) 
  (.take [6, 7, 8, 9, 10, 11, 12, 13, 14] (none, (.r (.mov 40 (.t 0)))) 
  (.take [7, 8, 9, 10, 11, 12, 13, 14] (none, (.r (.nilck 41 (.t 40)))) 
  (.take [8, 9, 10, 11, 12, 13, 14] (none, (.r (.fldA 42 (.t 41) 3))) 
  (.take [9, 10, 11, 12, 13, 14] (none, (.r (.ld 43 (.t 42) 1 false))) 
  (.take [10, 11, 12, 13, 14] (none, (.r (.len 44 (.t 43)))) 
  (.take [11, 12, 13, 14] (none, (.r (.bin 45 .sub 0 (.t 44) (.c (.int .i64 1))))) 
  (.one 11 (none, (.slc 46 (.t 39) none (some (.t 45)) 1)) 
  (.take [13, 14] (none, (.r (.nilck 47 (.t 35)))) 
  (.take [14] (none, (.r (.fldA 48 (.t 47) 3))) 
  (.one 14 (none, (.st (.t 48) (.t 46) 1)) .done)))))))))))))))
def c_pieces_walk_piece_r7 : List GOp := [(none, (.r (.mov 49 (.t 0)))),
  (none, (.r (.nilck 50 (.t 49)))),
  (none, (.r (.fldA 51 (.t 50) 0))),
  (none, (.r (.ld 52 (.t 51) 1 false))),
  (none, (.r (.mov 53 (.t 6)))),
  (none, (.r (.idxA 54 (.t 52) (.t 53) 1))),
  (none, (.r (.ld 55 (.t 54) 1 false))),
  (none, (.r (.len 56 (.t 55)))),
  (none, (.r (.mov 57 (.c (.int .i64 0)))))]
def c_pieces_walk_piece_r8 : List GOp := [(none, (.r (.bin 58 .lss 0 (.t 57) (.t 56))))]
def c_pieces_walk_piece_r9 : List GOp := [(none, (.r (.idxA 59 (.t 55) (.t 57) 1))),
  (none, (.r (.ld 60 (.t 59) 1 false))),
  (none, (.asg 8 (.t 60) true))]
def c_pieces_walk_piece_r10 : List GOp := [(none, (.r (.mov 61 (.t 5)))),
  (none, (.r (.mov 62 (.t 8)))),
  (none, (.call 63 (.t 61) [((.t 62), false)]))]
def c_pieces_walk_piece_r11 : List GOp := [(none, (.r (.bin 64 .add 0 (.t 57) (.c (.int .i64 1))))),
  (none, (.asg 57 (.t 64) true))]
def c_pieces_walk_piece_r12 : List GOp := [(none, (.r (.mov 65 (.t 0)))),
  (none, (.r (.nilck 66 (.t 65)))),
  (none, (.r (.fldA 67 (.t 66) 2))),
  (none, (.r (.ld 68 (.t 67) 1 false))),
  (none, (.call 69 (.f 59) [((.t 68), false)]))]
def c_pieces_walk_piece_r13 : List GOp := [(none, (.r (.mov 70 (.t 0)))),
  (none, (.r (.nilck 71 (.t 70)))),
  (none, (.r (.fldA 72 (.t 71) 2))),
  (none, (.r (.ld 73 (.t 72) 1 false))),
  (none, (.asg 4 (.t 73) true))]
def v_pieces_walk_piece : List Nat := [0, 1, 4, 5, 6, 8, 22, 55, 56, 57, 58]
def c_pieces_walk_piece : ACode :=
  (.seq
  (.reg [0, 1, 4, 5, 6, 8, 22, 55, 56, 57, 58] c_pieces_walk_piece_r0 v_pieces_walk_piece)
  (.seq
  (.reg [0, 1, 4, 5, 6, 8, 22, 55, 56, 57, 58] c_pieces_walk_piece_r1 v_pieces_walk_piece)
  (.seq
  (.reg [0, 1, 4, 5, 6, 8, 22, 55, 56, 57, 58] c_pieces_walk_piece_r2 v_pieces_walk_piece)
  (.seq
  (.reg [0, 1, 4, 5, 6, 8, 22, 55, 56, 57, 58] c_pieces_walk_piece_r3 v_pieces_walk_piece)
  (.seq
  (.blk 0 (.loop (.seq
  (.seq
  (.reg [0, 1, 4, 5, 6, 8, 55, 56, 57, 58] c_pieces_walk_piece_r4 v_pieces_walk_piece)
  (.cond (.t 22) .skip (.exit 0)))
  (.blk 1 (.seq
  (.draw [0, 1, 4, 5, 6, 8, 22, 55, 56, 57, 58] c_pieces_walk_piece_r5 v_pieces_walk_piece)
  (.seq
  (.draw [0, 1, 4, 5, 6, 8, 22, 55, 56, 57, 58] c_pieces_walk_piece_r6 v_pieces_walk_piece)
  (.seq
  (.reg [0, 1, 4, 5, 6, 8, 22, 58] c_pieces_walk_piece_r7 v_pieces_walk_piece)
  (.blk 2 (.loop (.seq
  (.reg [0, 1, 4, 5, 6, 8, 22, 55, 56, 57] c_pieces_walk_piece_r8 v_pieces_walk_piece)
  (.seq
  (.cond (.t 58) .skip (.exit 2))
  (.seq
  (.blk 3 (.seq
  (.reg [0, 1, 4, 5, 6, 8, 22, 55, 56, 57, 58] c_pieces_walk_piece_r9 v_pieces_walk_piece)
  (.reg [0, 1, 4, 5, 6, 8, 22, 55, 56, 57, 58] c_pieces_walk_piece_r10 v_pieces_walk_piece)))
  (.reg [0, 1, 4, 5, 6, 8, 22, 55, 56, 57, 58] c_pieces_walk_piece_r11 v_pieces_walk_piece)))))))))))))
  (.seq
  (.reg [0, 1, 4, 5, 6, 8, 22, 55, 56, 57, 58] c_pieces_walk_piece_r12 v_pieces_walk_piece)
  (.seq
  (.reg [0, 1, 4, 5, 6, 8, 22, 55, 56, 57, 58] c_pieces_walk_piece_r13 v_pieces_walk_piece)
  .ret)))))))
abbrev n_pieces_walk_piece : Nat := 45
theorem s_pieces_walk_piece : stripF Try.prog [4] v_pieces_walk_piece Try.f45 = some (c_pieces_walk_piece, [(.tmp 4)]) := by kernel_rfl
theorem go_pieces_walk_piece {L : List (List Nat)} {args : List AVal} {h : Heap} {Q : AVal → Heap → Prop} (hl : args.length = 2) (H : Wlk Try.prog [4] Try.f45.ntmps v_pieces_walk_piece L c_pieces_walk_piece (ends L [(.tmp 4)] Q) (entry v_pieces_walk_piece args h)) : ACalls Try.prog L n_pieces_walk_piece args h Q :=
  acalls_of_strip mix Try.func45 s_pieces_walk_piece (by rw [hl]; exact Nat.le_of_ble_eq_true rfl) H
def c_slices_Grow___int_int__r0 : List GOp := [(none, (.asg 4 (.c (.slice none 0 0)) true))]
def c_slices_Grow___int_int__r1 : List GOp := [(none, (.r (.mov 5 (.t 1)))),
  (none, (.r (.bin 6 .lss 0 (.t 5) (.c (.int .i64 0)))))]
def c_slices_Grow___int_int__r2 : List GOp := [(none, (.bad (some 7))),
  (none, (.bad none))]
def c_slices_Grow___int_int__r3 : List GOp := [(none, (.r (.mov 8 (.t 1)))),
  (none, (.r (.mov 9 (.t 0)))),
  (none, (.capq 10 (.t 9))),
  (none, (.r (.mov 11 (.t 0)))),
  (none, (.r (.len 12 (.t 11)))),
  (none, (.r (.bin 13 .sub 0 (.t 10) (.t 12)))),
  (none, (.r (.bin 14 .sub 0 (.t 8) (.t 13)))),
  (none, (.asg 1 (.t 14) true))]
def c_slices_Grow___int_int__r4 : List GOp := [(none, (.r (.mov 15 (.t 1)))),
  (none, (.r (.bin 16 .gtr 0 (.t 15) (.c (.int .i64 0)))))]
def c_slices_Grow___int_int__r5 : List GOp := [(none, (.r (.mov 17 (.t 0)))),
  (none, (.r (.mov 18 (.t 0)))),
  (none, (.capq 19 (.t 18))),
  (none, (.slc 20 (.t 17) none (some (.t 19)) 1)),
  (none, (.r (.mov 21 (.t 1)))),
  (none, (.appz 22 (.t 20) (.t 21) 1 8 [(.int .i64 0)])),
  (none, (.r (.mov 23 (.t 0)))),
  (none, (.r (.len 24 (.t 23)))),
  (none, (.slc 25 (.t 22) none (some (.t 24)) 1)),
  (none, (.asg 0 (.t 25) true))]
def c_slices_Grow___int_int__r6 : List GOp := [(none, (.r (.mov 26 (.t 0)))),
  (none, (.asg 4 (.t 26) true))]
def v_slices_Grow___int_int_ : List Nat := [0, 1, 4, 6, 16]
def c_slices_Grow___int_int_ : ACode :=
  (.seq
  (.reg [0, 1, 4, 6, 16] c_slices_Grow___int_int__r0 v_slices_Grow___int_int_)
  (.seq
  (.seq
  (.reg [0, 1, 4, 16] c_slices_Grow___int_int__r1 v_slices_Grow___int_int_)
  (.cond (.t 6) (.reg [0, 1, 4, 6, 16] c_slices_Grow___int_int__r2 v_slices_Grow___int_int_) .skip))
  (.seq
  (.seq
  (.reg [0, 1, 4, 6, 16] c_slices_Grow___int_int__r3 v_slices_Grow___int_int_)
  (.seq
  (.reg [0, 1, 4, 6] c_slices_Grow___int_int__r4 v_slices_Grow___int_int_)
  (.cond (.t 16) (.reg [0, 1, 4, 6, 16] c_slices_Grow___int_int__r5 v_slices_Grow___int_int_) .skip)))
  (.seq
  (.reg [0, 1, 4, 6, 16] c_slices_Grow___int_int__r6 v_slices_Grow___int_int_)
  .ret))))
abbrev n_slices_Grow___int_int_ : Nat := 46
theorem s_slices_Grow___int_int_ : stripF Try.prog [4] v_slices_Grow___int_int_ Try.f46 = some (c_slices_Grow___int_int_, [(.tmp 4)]) := by kernel_rfl
theorem go_slices_Grow___int_int_ {L : List (List Nat)} {args : List AVal} {h : Heap} {Q : AVal → Heap → Prop} (hl : args.length = 2) (H : Wlk Try.prog [4] Try.f46.ntmps v_slices_Grow___int_int_ L c_slices_Grow___int_int_ (ends L [(.tmp 4)] Q) (entry v_slices_Grow___int_int_ args h)) : ACalls Try.prog L n_slices_Grow___int_int_ args h Q :=
  acalls_of_strip mix Try.func46 s_slices_Grow___int_int_ (by rw [hl]; exact Nat.le_of_ble_eq_true rfl) H
def c_garlandhelp_Rises_r0 : List GOp := [(none, (.asg 2 (.c (.bool false)) true))]
def c_garlandhelp_Rises_r1 : List GOp := [(none, (.asg 3 (.c (.int .i64 1)) true))]
def c_garlandhelp_Rises_r2 : List GOp := [(none, (.r (.mov 4 (.t 3)))),
  (none, (.r (.mov 5 (.t 0)))),
  (none, (.r (.len 6 (.t 5)))),
  (none, (.r (.bin 7 .lss 0 (.t 4) (.t 6))))]
def c_garlandhelp_Rises_r3 : Tree := 
  (.take [2, 3, 9] (none, (.r (.mov 10 (.t 0)))) 
  (.take [2, 3, 9] (none, (.r (.mov 11 (.t 3)))) 
  (.take [3, 9] (none, (.r (.idxA 12 (.t 10) (.t 11) 1))) 
  (.take [9] (none, (.r (.ld 13 (.t 12) 1 false))) 
  (.take [7, 8, 9] (none, (.r (.mov 14 (.t 0)))) 
  (.take [6, 7, 8, 9] (none, (.r (.mov 15 (.t 3)))) 
  (.take [7, 8, 9] (none, (.r (.bin 16 .sub 0 (.t 15) (.c (.int .i64 1))))) 
  (.take [8, 9] (none, (.r (.idxA 17 (.t 14) (.t 16) 1))) 
  (.take [9] (none, (.r (.ld 18 (.t 17) 1 false))) 
  (.take [] (none, (.r (.bin 19 .leq 0 (.t 13) (.t 18)))) .done))))))))))
def c_garlandhelp_Rises_r4 : List GOp := [(none, (.asg 2 (.c (.bool false)) true))]
def c_garlandhelp_Rises_r5 : List GOp := [(none, (.r (.mov 8 (.t 3)))),
  (none, (.r (.bin 9 .add 0 (.t 8) (.c (.int .i64 1))))),
  (none, (.asg 3 (.t 9) true))]
def c_garlandhelp_Rises_r6 : List GOp := [(none, (.asg 2 (.c (.bool true)) true))]
def v_garlandhelp_Rises : List Nat := [0, 2, 3, 7, 19]
def c_garlandhelp_Rises : ACode :=
  (.seq
  (.reg [0, 2, 3, 7, 19] c_garlandhelp_Rises_r0 v_garlandhelp_Rises)
  (.seq
  (.seq
  (.reg [0, 2, 3, 7, 19] c_garlandhelp_Rises_r1 v_garlandhelp_Rises)
  (.blk 0 (.loop (.seq
  (.seq
  (.reg [0, 2, 3, 19] c_garlandhelp_Rises_r2 v_garlandhelp_Rises)
  (.cond (.t 7) .skip (.exit 0)))
  (.seq
  (.blk 1 (.seq
  (.draw [0, 2, 3, 7] c_garlandhelp_Rises_r3 v_garlandhelp_Rises)
  (.cond (.t 19) (.seq
  (.reg [0, 2, 3, 7, 19] c_garlandhelp_Rises_r4 v_garlandhelp_Rises)
  .ret) .skip)))
  (.reg [0, 2, 3, 7, 19] c_garlandhelp_Rises_r5 v_garlandhelp_Rises))))))
  (.seq
  (.reg [0, 2, 3, 7, 19] c_garlandhelp_Rises_r6 v_garlandhelp_Rises)
  .ret)))
abbrev n_garlandhelp_Rises : Nat := 47
theorem s_garlandhelp_Rises : stripF Try.prog [2] v_garlandhelp_Rises Try.f47 = some (c_garlandhelp_Rises, [(.tmp 2)]) := by kernel_rfl
theorem go_garlandhelp_Rises {L : List (List Nat)} {args : List AVal} {h : Heap} {Q : AVal → Heap → Prop} (hl : args.length = 1) (H : Wlk Try.prog [2] Try.f47.ntmps v_garlandhelp_Rises L c_garlandhelp_Rises (ends L [(.tmp 2)] Q) (entry v_garlandhelp_Rises args h)) : ACalls Try.prog L n_garlandhelp_Rises args h Q :=
  acalls_of_strip mix Try.func47 s_garlandhelp_Rises (by rw [hl]; exact Nat.le_of_ble_eq_true rfl) H
def c_graph_order_compare_r0 : List GOp := [(none, (.box 3 (.t 0))),
  (none, (.box 4 (.t 1))),
  (none, (.box 5 (.t 2))),
  (none, (.asg 6 (.c (.int .i64 0)) true))]
def c_graph_order_compare_r1 : Tree := 
  (.take [1, 4, 9, 10, 11, 12] (none, (.r (.fldA 7 (.t 4) 0))) 
  (.take [4, 9, 10, 11, 12] (none, (.r (.ld 8 (.t 7) 1 false))) 
  (.take [3, 4, 9, 10, 11, 12] (none, (.r (.fldA 9 (.t 5) 0))) 
  (.take [4, 9, 10, 11, 12] (none, (.r (.ld 10 (.t 9) 1 false))) 
  (.take [6, 9, 10, 11, 12] (none, (.r (.fldA 12 (.t 4) 1))) 
  (.take [9, 10, 11, 12] (none, (.r (.ld 13 (.t 12) 1 false))) 
  (.take [8, 9, 10, 11, 12] (none, (.r (.fldA 14 (.t 5) 1))) 
  (.take [9, 10, 11, 12] (none, (.r (.ld 15 (.t 14) 1 false))) 
  (.one 4 (none, (.call 11 (.f 37) [((.t 8), false), ((.t 10), false)])) 
  (.one 9 (none, (.call 16 (.f 37) [((.t 13), false), ((.t 15), false)])) 
  (.one 10 (none, (.blds 17 2 1 [((0, 1), ((.t 11), true)), ((1, 1), ((.t 16), true))] [(.int .i64 0)])) 
  (.one 11 (none, (.call 18 (.f 36) [((.t 17), false)])) 
  (.one 12 (none, (.asg 6 (.t 18) true)) .done)))))))))))))
def v_graph_order_compare : List Nat := [0, 1, 2, 4, 5, 6]
def c_graph_order_compare : ACode :=
  (.seq
  (.reg [0, 1, 2, 6] c_graph_order_compare_r0 v_graph_order_compare)
  (.seq
  (.draw [0, 1, 2, 4, 5, 6] c_graph_order_compare_r1 v_graph_order_compare)
  .ret))
abbrev n_graph_order_compare : Nat := 48
theorem s_graph_order_compare : stripF Try.prog [6] v_graph_order_compare Try.f48 = some (c_graph_order_compare, [(.tmp 6)]) := by kernel_rfl
theorem go_graph_order_compare {L : List (List Nat)} {args : List AVal} {h : Heap} {Q : AVal → Heap → Prop} (hl : args.length = 3) (H : Wlk Try.prog [6] Try.f48.ntmps v_graph_order_compare L c_graph_order_compare (ends L [(.tmp 6)] Q) (entry v_graph_order_compare args h)) : ACalls Try.prog L n_graph_order_compare args h Q :=
  acalls_of_strip mix Try.func48 s_graph_order_compare (by rw [hl]; exact Nat.le_of_ble_eq_true rfl) H
def c_slices_IndexFunc___int_int__r0 : List GOp := [(none, (.asg 4 (.c (.int .i64 0)) true))]
def c_slices_IndexFunc___int_int__r1 : List GOp := [(none, (.r (.mov 6 (.t 0)))),
  (none, (.r (.len 7 (.t 6)))),
  (none, (.r (.mov 8 (.c (.int .i64 0)))))]
def c_slices_IndexFunc___int_int__r2 : List GOp := [(none, (.r (.bin 9 .lss 0 (.t 8) (.t 7))))]
def c_slices_IndexFunc___int_int__r3 : List GOp := [(none, (.r (.mov 10 (.t 8)))),
  (none, (.asg 5 (.t 10) true))]
def c_slices_IndexFunc___int_int__r4 : List GOp := [(none, (.r (.mov 11 (.t 1)))),
  (none, (.r (.mov 12 (.t 0)))),
  (none, (.r (.mov 13 (.t 5)))),
  (none, (.r (.idxA 14 (.t 12) (.t 13) 1))),
  (none, (.r (.ld 15 (.t 14) 1 false))),
  (none, (.call 16 (.t 11) [((.t 15), false)]))]
def c_slices_IndexFunc___int_int__r5 : List GOp := [(none, (.r (.mov 17 (.t 5)))),
  (none, (.asg 4 (.t 17) true))]
def c_slices_IndexFunc___int_int__r6 : List GOp := [(none, (.r (.bin 18 .add 0 (.t 8) (.c (.int .i64 1))))),
  (none, (.asg 8 (.t 18) true))]
def c_slices_IndexFunc___int_int__r7 : List GOp := [(none, (.asg 4 (.c (.int .i64 (-(0 + 1)))) true))]
def v_slices_IndexFunc___int_int_ : List Nat := [0, 1, 4, 5, 7, 8, 9, 16]
def c_slices_IndexFunc___int_int_ : ACode :=
  (.seq
  (.reg [0, 1, 4, 5, 7, 8, 9, 16] c_slices_IndexFunc___int_int__r0 v_slices_IndexFunc___int_int_)
  (.seq
  (.seq
  (.reg [0, 1, 4, 5, 9, 16] c_slices_IndexFunc___int_int__r1 v_slices_IndexFunc___int_int_)
  (.blk 0 (.loop (.seq
  (.reg [0, 1, 4, 5, 7, 8, 16] c_slices_IndexFunc___int_int__r2 v_slices_IndexFunc___int_int_)
  (.seq
  (.cond (.t 9) .skip (.exit 0))
  (.seq
  (.blk 1 (.seq
  (.reg [0, 1, 4, 5, 7, 8, 9, 16] c_slices_IndexFunc___int_int__r3 v_slices_IndexFunc___int_int_)
  (.seq
  (.reg [0, 1, 4, 5, 7, 8, 9] c_slices_IndexFunc___int_int__r4 v_slices_IndexFunc___int_int_)
  (.cond (.t 16) (.seq
  (.reg [0, 1, 4, 5, 7, 8, 9, 16] c_slices_IndexFunc___int_int__r5 v_slices_IndexFunc___int_int_)
  .ret) .skip))))
  (.reg [0, 1, 4, 5, 7, 8, 9, 16] c_slices_IndexFunc___int_int__r6 v_slices_IndexFunc___int_int_)))))))
  (.seq
  (.reg [0, 1, 4, 5, 7, 8, 9, 16] c_slices_IndexFunc___int_int__r7 v_slices_IndexFunc___int_int_)
  .ret)))
abbrev n_slices_IndexFunc___int_int_ : Nat := 49
theorem s_slices_IndexFunc___int_int_ : stripF Try.prog [4] v_slices_IndexFunc___int_int_ Try.f49 = some (c_slices_IndexFunc___int_int_, [(.tmp 4)]) := by kernel_rfl
theorem go_slices_IndexFunc___int_int_ {L : List (List Nat)} {args : List AVal} {h : Heap} {Q : AVal → Heap → Prop} (hl : args.length = 2) (H : Wlk Try.prog [4] Try.f49.ntmps v_slices_IndexFunc___int_int_ L c_slices_IndexFunc___int_int_ (ends L [(.tmp 4)] Q) (entry v_slices_IndexFunc___int_int_ args h)) : ACalls Try.prog L n_slices_IndexFunc___int_int_ args h Q :=
  acalls_of_strip mix Try.func49 s_slices_IndexFunc___int_int_ (by rw [hl]; exact Nat.le_of_ble_eq_true rfl) H
def c_garlandref02_ahead_r0 : List GOp := [(none, (.box 2 (.t 0))),
  (none, (.box 3 (.t 1))),
  (none, (.asg 4 (.c (.bool false)) true))]
def c_garlandref02_ahead_r1 : List GOp := [(none, (.r (.fldA 5 (.t 2) 0))),
  (none, (.r (.ld 6 (.t 5) 1 false))),
  (none, (.r (.fldA 7 (.t 3) 0))),
  (none, (.r (.ld 8 (.t 7) 1 false))),
  (none, (.r (.bin 9 .lss 0 (.t 6) (.t 8)))),
  (none, (.r (.mov 10 (.t 9)))), ((some (10, false)), (.r (.fldA 11 (.t 2) 0))), ((some (10, false)), (.r (.ld 12 (.t 11) 1 false))), ((some (10, false)), (.r (.fldA 13 (.t 3) 0))), ((some (10, false)), (.r (.ld 14 (.t 13) 1 false))), ((some (10, false)), (.r (.bin 15 .eql 0 (.t 12) (.t 14)))), ((some (10, false)), (.r (.mov 16 (.t 15)))), ((some (16, true)), (.r (.fldA 17 (.t 2) 1))), ((some (16, true)), (.r (.ld 18 (.t 17) 1 false))), ((some (16, true)), (.r (.fldA 19 (.t 3) 1))), ((some (16, true)), (.r (.ld 20 (.t 19) 1 false))), ((some (16, true)), (.r (.bin 21 .lss 0 (.t 18) (.t 20)))), ((some (10, false)), (.r (.pick 22 (.t 16) (.t 21) (.c (.bool false))))),
  (none, (.r (.pick 23 (.t 10) (.c (.bool true)) (.t 22)))),
  (none, (.asg 4 (.t 23) true))]
def v_garlandref02_ahead : List Nat := [0, 1, 2, 3, 4]
def c_garlandref02_ahead : ACode :=
  (.seq
  (.reg [0, 1, 4] c_garlandref02_ahead_r0 v_garlandref02_ahead)
  (.seq
  (.reg [0, 1, 2, 3, 4] c_garlandref02_ahead_r1 v_garlandref02_ahead)
  .ret))
abbrev n_garlandref02_ahead : Nat := 50
theorem s_garlandref02_ahead : stripF Try.prog [4] v_garlandref02_ahead Try.f50 = some (c_garlandref02_ahead, [(.tmp 4)]) := by kernel_rfl
theorem go_garlandref02_ahead {L : List (List Nat)} {args : List AVal} {h : Heap} {Q : AVal → Heap → Prop} (hl : args.length = 2) (H : Wlk Try.prog [4] Try.f50.ntmps v_garlandref02_ahead L c_garlandref02_ahead (ends L [(.tmp 4)] Q) (entry v_garlandref02_ahead args h)) : ACalls Try.prog L n_garlandref02_ahead args h Q :=
  acalls_of_strip mix Try.func50 s_garlandref02_ahead (by rw [hl]; exact Nat.le_of_ble_eq_true rfl) H
def c_graph_Index_r0 : List GOp := [(none, (.box 3 (.t 0))),
  (none, (.asg 6 (.c (.int .i64 0)) true))]
def c_graph_Index_r1 : List GOp := [(none, (.r (.ld 9 (.t 3) 2 true))),
  (none, (.call 10 (.f 30) [((.t 9), false)])),
  (none, (.r (.notb 11 (.t 10))))]
def c_graph_Index_r2 : List GOp := [(none, (.asg 6 (.c (.int .i64 (-(0 + 1)))) true))]
def c_graph_Index_r3 : List GOp := [(none, (.r (.ld 13 (.t 3) 2 true))),
  (none, (.r (.mov 14 (.t 1)))),
  (none, (.r (.mov 15 (.t 2)))),
  (none, (.call 16 (.f 60) [((.t 13), false), ((.t 14), false), ((.t 15), false)])),
  (none, (.r (.mov 12 (.t 16)))),
  (none, (.r (.ext 17 (.t 12) 0))),
  (none, (.r (.ext 18 (.t 12) 1))),
  (none, (.asg 7 (.t 17) true)),
  (none, (.asg 8 (.t 18) true))]
def c_graph_Index_r4 : List GOp := [(none, (.r (.mov 19 (.t 8)))),
  (none, (.r (.notb 20 (.t 19))))]
def c_graph_Index_r5 : List GOp := [(none, (.asg 6 (.c (.int .i64 (-(0 + 1)))) true))]
def c_graph_Index_r6 : List GOp := [(none, (.r (.mov 21 (.t 7)))),
  (none, (.asg 6 (.t 21) true))]
def v_graph_Index : List Nat := [0, 1, 2, 3, 6, 7, 8, 11, 20]
def c_graph_Index : ACode :=
  (.seq
  (.reg [0, 1, 2, 6, 7, 8, 11, 20] c_graph_Index_r0 v_graph_Index)
  (.seq
  (.seq
  (.reg [0, 1, 2, 3, 6, 7, 8, 20] c_graph_Index_r1 v_graph_Index)
  (.cond (.t 11) (.seq
  (.reg [0, 1, 2, 3, 6, 7, 8, 11, 20] c_graph_Index_r2 v_graph_Index)
  .ret) .skip))
  (.seq
  (.reg [0, 1, 2, 3, 6, 7, 8, 11, 20] c_graph_Index_r3 v_graph_Index)
  (.seq
  (.seq
  (.reg [0, 1, 2, 3, 6, 7, 8, 11] c_graph_Index_r4 v_graph_Index)
  (.cond (.t 20) (.seq
  (.reg [0, 1, 2, 3, 6, 7, 8, 11, 20] c_graph_Index_r5 v_graph_Index)
  .ret) .skip))
  (.seq
  (.reg [0, 1, 2, 3, 6, 7, 8, 11, 20] c_graph_Index_r6 v_graph_Index)
  .ret)))))
abbrev n_graph_Index : Nat := 51
theorem s_graph_Index : stripF Try.prog [6] v_graph_Index Try.f51 = some (c_graph_Index, [(.tmp 6)]) := by kernel_rfl
theorem go_graph_Index {L : List (List Nat)} {args : List AVal} {h : Heap} {Q : AVal → Heap → Prop} (hl : args.length = 3) (H : Wlk Try.prog [6] Try.f51.ntmps v_graph_Index L c_graph_Index (ends L [(.tmp 6)] Q) (entry v_graph_Index args h)) : ACalls Try.prog L n_graph_Index args h Q :=
  acalls_of_strip mix Try.func51 s_graph_Index (by rw [hl]; exact Nat.le_of_ble_eq_true rfl) H
def c_cmp_isNaN_int__r0 : List GOp := [(none, (.asg 2 (.c (.bool false)) true))]
def c_cmp_isNaN_int__r1 : List GOp := [(none, (.r (.mov 3 (.t 0)))),
  (none, (.r (.mov 4 (.t 0)))),
  (none, (.r (.bin 5 .neq 0 (.t 3) (.t 4)))),
  (none, (.asg 2 (.t 5) true))]
def v_cmp_isNaN_int_ : List Nat := [0, 2]
def c_cmp_isNaN_int_ : ACode :=
  (.seq
  (.reg [0, 2] c_cmp_isNaN_int__r0 v_cmp_isNaN_int_)
  (.seq
  (.reg [0, 2] c_cmp_isNaN_int__r1 v_cmp_isNaN_int_)
  .ret))
abbrev n_cmp_isNaN_int_ : Nat := 52
theorem s_cmp_isNaN_int_ : stripF Try.prog [2] v_cmp_isNaN_int_ Try.f52 = some (c_cmp_isNaN_int_, [(.tmp 2)]) := by kernel_rfl
theorem go_cmp_isNaN_int_ {L : List (List Nat)} {args : List AVal} {h : Heap} {Q : AVal → Heap → Prop} (hl : args.length = 1) (H : Wlk Try.prog [2] Try.f52.ntmps v_cmp_isNaN_int_ L c_cmp_isNaN_int_ (ends L [(.tmp 2)] Q) (entry v_cmp_isNaN_int_ args h)) : ACalls Try.prog L n_cmp_isNaN_int_ args h Q :=
  acalls_of_strip mix Try.func52 s_cmp_isNaN_int_ (by rw [hl]; exact Nat.le_of_ble_eq_true rfl) H
def c_garlandref02_Index_r0 : List GOp := [(none, (.box 3 (.t 0))),
  (none, (.asg 6 (.c (.int .i64 0)) true))]
def c_garlandref02_Index_r1 : List GOp := [(none, (.r (.ld 9 (.t 3) 2 true))),
  (none, (.call 10 (.f 33) [((.t 9), false)])),
  (none, (.r (.notb 11 (.t 10))))]
def c_garlandref02_Index_r2 : List GOp := [(none, (.asg 6 (.c (.int .i64 (-(0 + 1)))) true))]
def c_garlandref02_Index_r3 : List GOp := [(none, (.r (.mov 12 (.t 1)))),
  (none, (.r (.mov 13 (.t 2)))),
  (none, (.call 14 (.f 44) [((.t 12), false), ((.t 13), false)])),
  (none, (.alloc 7 [(.int .i64 0), (.int .i64 0)])),
  (none, (.st (.t 7) (.t 14) 2))]
def c_garlandref02_Index_r4 : List GOp := [(none, (.asg 8 (.c (.int .i64 0)) true))]
def c_garlandref02_Index_r5 : List GOp := [(none, (.r (.mov 15 (.t 8)))),
  (none, (.r (.fldA 16 (.t 3) 1))),
  (none, (.r (.ld 17 (.t 16) 1 false))),
  (none, (.r (.len 18 (.t 17)))),
  (none, (.r (.bin 19 .lss 0 (.t 15) (.t 18))))]
def c_garlandref02_Index_r6 : Tree := 
  (.take [1, 3, 4, 6] (none, (.r (.fldA 22 (.t 3) 1))) 
  (.take [3, 4, 6] (none, (.r (.ld 23 (.t 22) 1 false))) 
  (.take [3, 4, 6] (none, (.r (.mov 24 (.t 8)))) 
  (.take [4, 6] (none, (.r (.idxA 25 (.t 23) (.t 24) 2))) 
  (.take [6] (none, (.r (.ld 26 (.t 25) 2 true))) 
  (.take [6] (none, (.r (.ld 27 (.t 7) 2 true))) 
  (.take [] (none, (.r (.bin 28 .eql 8 (.t 26) (.t 27)))) .done)))))))
def c_garlandref02_Index_r7 : List GOp := [(none, (.r (.mov 29 (.t 8)))),
  (none, (.asg 6 (.t 29) true))]
def c_garlandref02_Index_r8 : List GOp := [(none, (.r (.mov 20 (.t 8)))),
  (none, (.r (.bin 21 .add 0 (.t 20) (.c (.int .i64 1))))),
  (none, (.asg 8 (.t 21) true))]
def c_garlandref02_Index_r9 : List GOp := [(none, (.asg 6 (.c (.int .i64 (-(0 + 1)))) true))]
def v_garlandref02_Index : List Nat := [0, 1, 2, 3, 6, 7, 8, 11, 19, 28]
def c_garlandref02_Index : ACode :=
  (.seq
  (.reg [0, 1, 2, 6, 7, 8, 11, 19, 28] c_garlandref02_Index_r0 v_garlandref02_Index)
  (.seq
  (.seq
  (.reg [0, 1, 2, 3, 6, 7, 8, 19, 28] c_garlandref02_Index_r1 v_garlandref02_Index)
  (.cond (.t 11) (.seq
  (.reg [0, 1, 2, 3, 6, 7, 8, 11, 19, 28] c_garlandref02_Index_r2 v_garlandref02_Index)
  .ret) .skip))
  (.seq
  (.reg [0, 1, 2, 3, 6, 8, 11, 19, 28] c_garlandref02_Index_r3 v_garlandref02_Index)
  (.seq
  (.seq
  (.reg [0, 1, 2, 3, 6, 7, 8, 11, 19, 28] c_garlandref02_Index_r4 v_garlandref02_Index)
  (.blk 0 (.loop (.seq
  (.seq
  (.reg [0, 1, 2, 3, 6, 7, 8, 11, 28] c_garlandref02_Index_r5 v_garlandref02_Index)
  (.cond (.t 19) .skip (.exit 0)))
  (.seq
  (.blk 1 (.seq
  (.draw [0, 1, 2, 3, 6, 7, 8, 11, 19] c_garlandref02_Index_r6 v_garlandref02_Index)
  (.cond (.t 28) (.seq
  (.reg [0, 1, 2, 3, 6, 7, 8, 11, 19, 28] c_garlandref02_Index_r7 v_garlandref02_Index)
  .ret) .skip)))
  (.reg [0, 1, 2, 3, 6, 7, 8, 11, 19, 28] c_garlandref02_Index_r8 v_garlandref02_Index))))))
  (.seq
  (.reg [0, 1, 2, 3, 6, 7, 8, 11, 19, 28] c_garlandref02_Index_r9 v_garlandref02_Index)
  .ret)))))
abbrev n_garlandref02_Index : Nat := 53
theorem s_garlandref02_Index : stripF Try.prog [6] v_garlandref02_Index Try.f53 = some (c_garlandref02_Index, [(.tmp 6)]) := by kernel_rfl
theorem go_garlandref02_Index {L : List (List Nat)} {args : List AVal} {h : Heap} {Q : AVal → Heap → Prop} (hl : args.length = 3) (H : Wlk Try.prog [6] Try.f53.ntmps v_garlandref02_Index L c_garlandref02_Index (ends L [(.tmp 6)] Q) (entry v_garlandref02_Index args h)) : ACalls Try.prog L n_garlandref02_Index args h Q :=
  acalls_of_strip mix Try.func53 s_garlandref02_Index (by rw [hl]; exact Nat.le_of_ble_eq_true rfl) H
def c_garlandhelp_Same_int__r0 : List GOp := [(none, (.asg 6 (.c (.bool false)) true))]
def c_garlandhelp_Same_int__r1 : List GOp := [(none, (.r (.mov 8 (.t 0)))),
  (none, (.r (.len 9 (.t 8)))),
  (none, (.r (.mov 10 (.t 1)))),
  (none, (.r (.len 11 (.t 10)))),
  (none, (.r (.bin 12 .neq 0 (.t 9) (.t 11))))]
def c_garlandhelp_Same_int__r2 : List GOp := [(none, (.asg 6 (.c (.bool false)) true))]
def c_garlandhelp_Same_int__r3 : List GOp := [(none, (.asg 7 (.c (.int .i64 0)) true))]
def c_garlandhelp_Same_int__r4 : List GOp := [(none, (.r (.mov 13 (.t 7)))),
  (none, (.r (.mov 14 (.t 0)))),
  (none, (.r (.len 15 (.t 14)))),
  (none, (.r (.bin 16 .lss 0 (.t 13) (.t 15))))]
def c_garlandhelp_Same_int__r5 : Tree := 
  (.take [9, 10] (none, (.r (.mov 19 (.t 2)))) 
  (.take [3, 4, 9, 10] (none, (.r (.mov 20 (.t 0)))) 
  (.take [3, 4, 9, 10] (none, (.r (.mov 21 (.t 7)))) 
  (.take [4, 9, 10] (none, (.r (.idxA 22 (.t 20) (.t 21) 1))) 
  (.take [9, 10] (none, (.r (.ld 23 (.t 22) 1 false))) 
  (.take [7, 8, 9, 10] (none, (.r (.mov 24 (.t 1)))) 
  (.take [7, 8, 9, 10] (none, (.r (.mov 25 (.t 7)))) 
  (.take [8, 9, 10] (none, (.r (.idxA 26 (.t 24) (.t 25) 1))) 
  (.take [9, 10] (none, (.r (.ld 27 (.t 26) 1 false))) 
  (.one 9 (none, (.call 28 (.t 19) [((.t 23), false), ((.t 27), false)])) 
  (.take [] (none, (.r (.notb 29 (.t 28)))) .done)))))))))))
def c_garlandhelp_Same_int__r6 : List GOp := [(none, (.asg 6 (.c (.bool false)) true))]
def c_garlandhelp_Same_int__r7 : List GOp := [(none, (.r (.mov 17 (.t 7)))),
  (none, (.r (.bin 18 .add 0 (.t 17) (.c (.int .i64 1))))),
  (none, (.asg 7 (.t 18) true))]
def c_garlandhelp_Same_int__r8 : List GOp := [(none, (.asg 6 (.c (.bool true)) true))]
def v_garlandhelp_Same_int_ : List Nat := [0, 1, 2, 6, 7, 12, 16, 29]
def c_garlandhelp_Same_int_ : ACode :=
  (.seq
  (.reg [0, 1, 2, 6, 7, 12, 16, 29] c_garlandhelp_Same_int__r0 v_garlandhelp_Same_int_)
  (.seq
  (.seq
  (.reg [0, 1, 2, 6, 7, 16, 29] c_garlandhelp_Same_int__r1 v_garlandhelp_Same_int_)
  (.cond (.t 12) (.seq
  (.reg [0, 1, 2, 6, 7, 12, 16, 29] c_garlandhelp_Same_int__r2 v_garlandhelp_Same_int_)
  .ret) .skip))
  (.seq
  (.seq
  (.reg [0, 1, 2, 6, 7, 12, 16, 29] c_garlandhelp_Same_int__r3 v_garlandhelp_Same_int_)
  (.blk 0 (.loop (.seq
  (.seq
  (.reg [0, 1, 2, 6, 7, 12, 29] c_garlandhelp_Same_int__r4 v_garlandhelp_Same_int_)
  (.cond (.t 16) .skip (.exit 0)))
  (.seq
  (.blk 1 (.seq
  (.draw [0, 1, 2, 6, 7, 12, 16] c_garlandhelp_Same_int__r5 v_garlandhelp_Same_int_)
  (.cond (.t 29) (.seq
  (.reg [0, 1, 2, 6, 7, 12, 16, 29] c_garlandhelp_Same_int__r6 v_garlandhelp_Same_int_)
  .ret) .skip)))
  (.reg [0, 1, 2, 6, 7, 12, 16, 29] c_garlandhelp_Same_int__r7 v_garlandhelp_Same_int_))))))
  (.seq
  (.reg [0, 1, 2, 6, 7, 12, 16, 29] c_garlandhelp_Same_int__r8 v_garlandhelp_Same_int_)
  .ret))))
abbrev n_garlandhelp_Same_int_ : Nat := 54
theorem s_garlandhelp_Same_int_ : stripF Try.prog [6] v_garlandhelp_Same_int_ Try.f54 = some (c_garlandhelp_Same_int_, [(.tmp 6)]) := by kernel_rfl
theorem go_garlandhelp_Same_int_ {L : List (List Nat)} {args : List AVal} {h : Heap} {Q : AVal → Heap → Prop} (hl : args.length = 3) (H : Wlk Try.prog [6] Try.f54.ntmps v_garlandhelp_Same_int_ L c_garlandhelp_Same_int_ (ends L [(.tmp 6)] Q) (entry v_garlandhelp_Same_int_ args h)) : ACalls Try.prog L n_garlandhelp_Same_int_ args h Q :=
  acalls_of_strip mix Try.func54 s_garlandhelp_Same_int_ (by rw [hl]; exact Nat.le_of_ble_eq_true rfl) H
def c_garlandhelp_Plain_int__1_r0 : List GOp := [(none, (.asg 4 (.c (.bool false)) true))]
def c_garlandhelp_Plain_int__1_r1 : List GOp := [(none, (.r (.mov 5 (.t 0)))),
  (none, (.r (.mov 6 (.t 1)))),
  (none, (.r (.bin 7 .eql 0 (.t 5) (.t 6)))),
  (none, (.asg 4 (.t 7) true))]
def v_garlandhelp_Plain_int__1 : List Nat := [0, 1, 4]
def c_garlandhelp_Plain_int__1 : ACode :=
  (.seq
  (.reg [0, 1, 4] c_garlandhelp_Plain_int__1_r0 v_garlandhelp_Plain_int__1)
  (.seq
  (.reg [0, 1, 4] c_garlandhelp_Plain_int__1_r1 v_garlandhelp_Plain_int__1)
  .ret))
abbrev n_garlandhelp_Plain_int__1 : Nat := 55
theorem s_garlandhelp_Plain_int__1 : stripF Try.prog [4] v_garlandhelp_Plain_int__1 Try.f55 = some (c_garlandhelp_Plain_int__1, [(.tmp 4)]) := by kernel_rfl
theorem go_garlandhelp_Plain_int__1 {L : List (List Nat)} {args : List AVal} {h : Heap} {Q : AVal → Heap → Prop} (hl : args.length = 2) (H : Wlk Try.prog [4] Try.f55.ntmps v_garlandhelp_Plain_int__1 L c_garlandhelp_Plain_int__1 (ends L [(.tmp 4)] Q) (entry v_garlandhelp_Plain_int__1 args h)) : ACalls Try.prog L n_garlandhelp_Plain_int__1 args h Q :=
  acalls_of_strip mix Try.func55 s_garlandhelp_Plain_int__1 (by rw [hl]; exact Nat.le_of_ble_eq_true rfl) H
def c_garlandhelp_Same_api_Edge__r0 : List GOp := [(none, (.asg 6 (.c (.bool false)) true))]
def c_garlandhelp_Same_api_Edge__r1 : List GOp := [(none, (.r (.mov 8 (.t 0)))),
  (none, (.r (.len 9 (.t 8)))),
  (none, (.r (.mov 10 (.t 1)))),
  (none, (.r (.len 11 (.t 10)))),
  (none, (.r (.bin 12 .neq 0 (.t 9) (.t 11))))]
def c_garlandhelp_Same_api_Edge__r2 : List GOp := [(none, (.asg 6 (.c (.bool false)) true))]
def c_garlandhelp_Same_api_Edge__r3 : List GOp := [(none, (.asg 7 (.c (.int .i64 0)) true))]
def c_garlandhelp_Same_api_Edge__r4 : List GOp := [(none, (.r (.mov 13 (.t 7)))),
  (none, (.r (.mov 14 (.t 0)))),
  (none, (.r (.len 15 (.t 14)))),
  (none, (.r (.bin 16 .lss 0 (.t 13) (.t 15))))]
def c_garlandhelp_Same_api_Edge__r5 : Tree := 
  (.take [9, 10] (none, (.r (.mov 19 (.t 2)))) 
  (.take [3, 4, 9, 10] (none, (.r (.mov 20 (.t 0)))) 
  (.take [3, 4, 9, 10] (none, (.r (.mov 21 (.t 7)))) 
  (.take [4, 9, 10] (none, (.r (.idxA 22 (.t 20) (.t 21) 2))) 
  (.take [9, 10] (none, (.r (.ld 23 (.t 22) 2 true))) 
  (.take [7, 8, 9, 10] (none, (.r (.mov 24 (.t 1)))) 
  (.take [7, 8, 9, 10] (none, (.r (.mov 25 (.t 7)))) 
  (.take [8, 9, 10] (none, (.r (.idxA 26 (.t 24) (.t 25) 2))) 
  (.take [9, 10] (none, (.r (.ld 27 (.t 26) 2 true))) 
  (.one 9 (none, (.call 28 (.t 19) [((.t 23), false), ((.t 27), false)])) 
  (.take [] (none, (.r (.notb 29 (.t 28)))) .done)))))))))))
def c_garlandhelp_Same_api_Edge__r6 : List GOp := [(none, (.asg 6 (.c (.bool false)) true))]
def c_garlandhelp_Same_api_Edge__r7 : List GOp := [(none, (.r (.mov 17 (.t 7)))),
  (none, (.r (.bin 18 .add 0 (.t 17) (.c (.int .i64 1))))),
  (none, (.asg 7 (.t 18) true))]
def c_garlandhelp_Same_api_Edge__r8 : List GOp := [(none, (.asg 6 (.c (.bool true)) true))]
def v_garlandhelp_Same_api_Edge_ : List Nat := [0, 1, 2, 6, 7, 12, 16, 29]
def c_garlandhelp_Same_api_Edge_ : ACode :=
  (.seq
  (.reg [0, 1, 2, 6, 7, 12, 16, 29] c_garlandhelp_Same_api_Edge__r0 v_garlandhelp_Same_api_Edge_)
  (.seq
  (.seq
  (.reg [0, 1, 2, 6, 7, 16, 29] c_garlandhelp_Same_api_Edge__r1 v_garlandhelp_Same_api_Edge_)
  (.cond (.t 12) (.seq
  (.reg [0, 1, 2, 6, 7, 12, 16, 29] c_garlandhelp_Same_api_Edge__r2 v_garlandhelp_Same_api_Edge_)
  .ret) .skip))
  (.seq
  (.seq
  (.reg [0, 1, 2, 6, 7, 12, 16, 29] c_garlandhelp_Same_api_Edge__r3 v_garlandhelp_Same_api_Edge_)
  (.blk 0 (.loop (.seq
  (.seq
  (.reg [0, 1, 2, 6, 7, 12, 29] c_garlandhelp_Same_api_Edge__r4 v_garlandhelp_Same_api_Edge_)
  (.cond (.t 16) .skip (.exit 0)))
  (.seq
  (.blk 1 (.seq
  (.draw [0, 1, 2, 6, 7, 12, 16] c_garlandhelp_Same_api_Edge__r5 v_garlandhelp_Same_api_Edge_)
  (.cond (.t 29) (.seq
  (.reg [0, 1, 2, 6, 7, 12, 16, 29] c_garlandhelp_Same_api_Edge__r6 v_garlandhelp_Same_api_Edge_)
  .ret) .skip)))
  (.reg [0, 1, 2, 6, 7, 12, 16, 29] c_garlandhelp_Same_api_Edge__r7 v_garlandhelp_Same_api_Edge_))))))
  (.seq
  (.reg [0, 1, 2, 6, 7, 12, 16, 29] c_garlandhelp_Same_api_Edge__r8 v_garlandhelp_Same_api_Edge_)
  .ret))))
abbrev n_garlandhelp_Same_api_Edge_ : Nat := 56
theorem s_garlandhelp_Same_api_Edge_ : stripF Try.prog [6] v_garlandhelp_Same_api_Edge_ Try.f56 = some (c_garlandhelp_Same_api_Edge_, [(.tmp 6)]) := by kernel_rfl
theorem go_garlandhelp_Same_api_Edge_ {L : List (List Nat)} {args : List AVal} {h : Heap} {Q : AVal → Heap → Prop} (hl : args.length = 3) (H : Wlk Try.prog [6] Try.f56.ntmps v_garlandhelp_Same_api_Edge_ L c_garlandhelp_Same_api_Edge_ (ends L [(.tmp 6)] Q) (entry v_garlandhelp_Same_api_Edge_ args h)) : ACalls Try.prog L n_garlandhelp_Same_api_Edge_ args h Q :=
  acalls_of_strip mix Try.func56 s_garlandhelp_Same_api_Edge_ (by rw [hl]; exact Nat.le_of_ble_eq_true rfl) H
def c_garlandhelp_Plain_api_Edge__1_r0 : List GOp := [(none, (.box 2 (.t 0))),
  (none, (.box 3 (.t 1))),
  (none, (.asg 4 (.c (.bool false)) true))]
def c_garlandhelp_Plain_api_Edge__1_r1 : List GOp := [(none, (.r (.ld 5 (.t 2) 2 true))),
  (none, (.r (.ld 6 (.t 3) 2 true))),
  (none, (.r (.bin 7 .eql 8 (.t 5) (.t 6)))),
  (none, (.asg 4 (.t 7) true))]
def v_garlandhelp_Plain_api_Edge__1 : List Nat := [0, 1, 2, 3, 4]
def c_garlandhelp_Plain_api_Edge__1 : ACode :=
  (.seq
  (.reg [0, 1, 4] c_garlandhelp_Plain_api_Edge__1_r0 v_garlandhelp_Plain_api_Edge__1)
  (.seq
  (.reg [0, 1, 2, 3, 4] c_garlandhelp_Plain_api_Edge__1_r1 v_garlandhelp_Plain_api_Edge__1)
  .ret))
abbrev n_garlandhelp_Plain_api_Edge__1 : Nat := 57
theorem s_garlandhelp_Plain_api_Edge__1 : stripF Try.prog [4] v_garlandhelp_Plain_api_Edge__1 Try.f57 = some (c_garlandhelp_Plain_api_Edge__1, [(.tmp 4)]) := by kernel_rfl
theorem go_garlandhelp_Plain_api_Edge__1 {L : List (List Nat)} {args : List AVal} {h : Heap} {Q : AVal → Heap → Prop} (hl : args.length = 2) (H : Wlk Try.prog [4] Try.f57.ntmps v_garlandhelp_Plain_api_Edge__1 L c_garlandhelp_Plain_api_Edge__1 (ends L [(.tmp 4)] Q) (entry v_garlandhelp_Plain_api_Edge__1 args h)) : ACalls Try.prog L n_garlandhelp_Plain_api_Edge__1 args h Q :=
  acalls_of_strip mix Try.func57 s_garlandhelp_Plain_api_Edge__1 (by rw [hl]; exact Nat.le_of_ble_eq_true rfl) H
def c_pieces_walk_come_r0 : List GOp := [(none, (.r (.mov 4 (.t 0)))),
  (none, (.r (.nilck 5 (.t 4)))),
  (none, (.r (.fldA 6 (.t 5) 1))),
  (none, (.r (.ld 7 (.t 6) 1 false))),
  (none, (.r (.mov 8 (.t 1)))),
  (none, (.r (.idxA 9 (.t 7) (.t 8) 1))),
  (none, (.r (.ld 10 (.t 9) 1 false))),
  (none, (.r (.notb 11 (.t 10))))]
def c_pieces_walk_come_r1 : List GOp := [(none, (.r (.mov 12 (.t 0)))),
  (none, (.r (.nilck 13 (.t 12)))),
  (none, (.r (.fldA 14 (.t 13) 1))),
  (none, (.r (.ld 15 (.t 14) 1 false))),
  (none, (.r (.mov 16 (.t 1)))),
  (none, (.r (.idxA 17 (.t 15) (.t 16) 1))),
  (none, (.st (.t 17) (.c (.bool true)) 1))]
def c_pieces_walk_come_r2 : List GOp := [(none, (.r (.mov 18 (.t 0)))),
  (none, (.r (.mov 19 (.t 0)))),
  (none, (.r (.nilck 20 (.t 19)))),
  (none, (.r (.fldA 21 (.t 20) 2))),
  (none, (.r (.ld 22 (.t 21) 1 false))),
  (none, (.r (.mov 23 (.t 1)))),
  (none, (.blds 24 1 1 [((0, 1), ((.t 23), true))] [(.int .i64 0)])),
  (none, (.app 25 (.t 22) (.t 24) 1 8)),
  (none, (.r (.nilck 26 (.t 18)))),
  (none, (.r (.fldA 27 (.t 26) 2))),
  (none, (.st (.t 27) (.t 25) 1))]
def c_pieces_walk_come_r3 : List GOp := [(none, (.r (.mov 28 (.t 0)))),
  (none, (.r (.mov 29 (.t 0)))),
  (none, (.r (.nilck 30 (.t 29)))),
  (none, (.r (.fldA 31 (.t 30) 3))),
  (none, (.r (.ld 32 (.t 31) 1 false))),
  (none, (.r (.mov 33 (.t 1)))),
  (none, (.blds 34 1 1 [((0, 1), ((.t 33), true))] [(.int .i64 0)])),
  (none, (.app 35 (.t 32) (.t 34) 1 8)),
  (none, (.r (.nilck 36 (.t 28)))),
  (none, (.r (.fldA 37 (.t 36) 3))),
  (none, (.st (.t 37) (.t 35) 1))]
def v_pieces_walk_come : List Nat := [0, 1, 11]
def c_pieces_walk_come : ACode :=
  (.seq
  (.reg [0, 1] c_pieces_walk_come_r0 v_pieces_walk_come)
  (.cond (.t 11) (.seq
  (.reg [0, 1, 11] c_pieces_walk_come_r1 v_pieces_walk_come)
  (.seq
  (.reg [0, 1, 11] c_pieces_walk_come_r2 v_pieces_walk_come)
  (.reg [0, 1, 11] c_pieces_walk_come_r3 v_pieces_walk_come))) .skip))
abbrev n_pieces_walk_come : Nat := 58
theorem s_pieces_walk_come : stripF Try.prog [] v_pieces_walk_come Try.f58 = some (c_pieces_walk_come, []) := by kernel_rfl
theorem go_pieces_walk_come {L : List (List Nat)} {args : List AVal} {h : Heap} {Q : AVal → Heap → Prop} (hl : args.length = 2) (H : Wlk Try.prog [] Try.f58.ntmps v_pieces_walk_come L c_pieces_walk_come (ends L [] Q) (entry v_pieces_walk_come args h)) : ACalls Try.prog L n_pieces_walk_come args h Q :=
  acalls_of_strip mix Try.func58 s_pieces_walk_come (by rw [hl]; exact Nat.le_of_ble_eq_true rfl) H
abbrev n_slices_Sort___int_int_ : Nat := 59
def c_graph_place_r0 : List GOp := [(none, (.box 3 (.t 0))),
  (none, (.asg 6 (.c (.int .i64 0)) true)),
  (none, (.asg 7 (.c (.bool false)) true))]
def c_graph_place_r1 : Tree := 
  (.take [1, 7, 8, 9, 10, 11] (none, (.r (.fldA 8 (.t 3) 1))) 
  (.take [7, 8, 9, 10, 11] (none, (.r (.ld 9 (.t 8) 1 false))) 
  (.take [4, 7, 8, 9, 10, 11] (none, (.r (.mov 10 (.t 1)))) 
  (.take [4, 7, 8, 9, 10, 11] (none, (.r (.mov 11 (.t 2)))) (.two 4 (none, (.call 12 (.f 64) [((.t 10), false), ((.t 11), false)])) 
  (.one 5 (none, (.bld 13 [] [])) 
  (.one 6 (none, (.mkfn 14 (.func 48) [((.t 13), false)] [])) 
  (.one 7 (none, (.call 15 (.f 63) [((.t 9), false), ((.t 12), false), ((.t 14), false)])) 
  (.take [10, 11] (none, (.r (.ext 16 (.t 15) 0))) 
  (.take [10, 11] (none, (.r (.ext 17 (.t 15) 1))) 
  (.one 10 (none, (.asg 6 (.t 16) true)) 
  (.one 11 (none, (.asg 7 (.t 17) true)) .done))))))) 5 (none, (.bld 13 [] [])) (.two 4 (none, (.call 12 (.f 64) [((.t 10), false), ((.t 11), false)])) 
  (.one 6 (none, (.mkfn 14 (.func 48) [((.t 13), false)] [])) 
  (.one 7 (none, (.call 15 (.f 63) [((.t 9), false), ((.t 12), false), ((.t 14), false)])) 
  (.take [10, 11] (none, (.r (.ext 16 (.t 15) 0))) 
  (.take [10, 11] (none, (.r (.ext 17 (.t 15) 1))) 
  (.one 10 (none, (.asg 6 (.t 16) true)) 
  (.one 11 (none, (.asg 7 (.t 17) true)) .done)))))) 6 (none, (.mkfn 14 (.func 48) [((.t 13), false)] [])) 
  (.one 4 (none, (.call 12 (.f 64) [((.t 10), false), ((.t 11), false)])) 
  (.one 7 (none, (.call 15 (.f 63) [((.t 9), false), ((.t 12), false), ((.t 14), false)])) 
  (.take [10, 11] (none, (.r (.ext 16 (.t 15) 0))) 
  (.take [10, 11] (none, (.r (.ext 17 (.t 15) 1))) 
  (.one 10 (none, (.asg 6 (.t 16) true)) 
  (.one 11 (none, (.asg 7 (.t 17) true)) .done))))))))))))
def v_graph_place : List Nat := [0, 1, 2, 3, 6, 7]
def c_graph_place : ACode :=
  (.seq
  (.reg [0, 1, 2, 6, 7] c_graph_place_r0 v_graph_place)
  (.seq
  (.draw [0, 1, 2, 3, 6, 7] c_graph_place_r1 v_graph_place)
  .ret))
abbrev n_graph_place : Nat := 60
theorem s_graph_place : stripF Try.prog [6, 7] v_graph_place Try.f60 = some (c_graph_place, [(.tmp 6), (.tmp 7)]) := by kernel_rfl
theorem go_graph_place {L : List (List Nat)} {args : List AVal} {h : Heap} {Q : AVal → Heap → Prop} (hl : args.length = 3) (H : Wlk Try.prog [6, 7] Try.f60.ntmps v_graph_place L c_graph_place (ends L [(.tmp 6), (.tmp 7)] Q) (entry v_graph_place args h)) : ACalls Try.prog L n_graph_place args h Q :=
  acalls_of_strip mix Try.func60 s_graph_place (by rw [hl]; exact Nat.le_of_ble_eq_true rfl) H
def c_slices_BinarySearchFunc___api_Edge_api_Edge_api_Edge__r0 : List GOp := [(none, (.box 4 (.t 1))),
  (none, (.asg 6 (.c (.int .i64 0)) true)),
  (none, (.asg 7 (.c (.bool false)) true))]
def c_slices_BinarySearchFunc___api_Edge_api_Edge_api_Edge__r1 : List GOp := [(none, (.r (.mov 12 (.t 0)))),
  (none, (.r (.len 13 (.t 12)))),
  (none, (.asg 8 (.t 13) true))]
def c_slices_BinarySearchFunc___api_Edge_api_Edge_api_Edge__r2 : List GOp := [(none, (.r (.mov 14 (.t 8)))),
  (none, (.asg 9 (.c (.int .i64 0)) true)),
  (none, (.asg 10 (.t 14) true))]
def c_slices_BinarySearchFunc___api_Edge_api_Edge_api_Edge__r3 : List GOp := [(none, (.r (.mov 15 (.t 9)))),
  (none, (.r (.mov 16 (.t 10)))),
  (none, (.r (.bin 17 .lss 0 (.t 15) (.t 16))))]
def c_slices_BinarySearchFunc___api_Edge_api_Edge_api_Edge__r4 : List GOp := [(none, (.r (.mov 18 (.t 9)))),
  (none, (.r (.mov 19 (.t 10)))),
  (none, (.r (.bin 20 .add 0 (.t 18) (.t 19)))),
  (none, (.r (.conv 21 .u64 (.t 20)))),
  (none, (.r (.bin 22 .shr 0 (.t 21) (.c (.int .u64 1))))),
  (none, (.r (.conv 23 .i64 (.t 22)))),
  (none, (.asg 11 (.t 23) true))]
def c_slices_BinarySearchFunc___api_Edge_api_Edge_api_Edge__r5 : Tree := 
  (.take [6, 7] (none, (.r (.mov 24 (.t 2)))) 
  (.take [3, 4, 6, 7] (none, (.r (.mov 25 (.t 0)))) 
  (.take [3, 4, 6, 7] (none, (.r (.mov 26 (.t 11)))) 
  (.take [4, 6, 7] (none, (.r (.idxA 27 (.t 25) (.t 26) 2))) 
  (.take [6, 7] (none, (.r (.ld 28 (.t 27) 2 true))) 
  (.take [6, 7] (none, (.r (.ld 29 (.t 4) 2 true))) 
  (.one 6 (none, (.call 30 (.t 24) [((.t 28), false), ((.t 29), false)])) 
  (.take [] (none, (.r (.bin 31 .lss 0 (.t 30) (.c (.int .i64 0))))) .done))))))))
def c_slices_BinarySearchFunc___api_Edge_api_Edge_api_Edge__r6 : List GOp := [(none, (.r (.mov 32 (.t 11)))),
  (none, (.r (.bin 33 .add 0 (.t 32) (.c (.int .i64 1))))),
  (none, (.asg 9 (.t 33) true))]
def c_slices_BinarySearchFunc___api_Edge_api_Edge_api_Edge__r7 : List GOp := [(none, (.r (.mov 34 (.t 11)))),
  (none, (.asg 10 (.t 34) true))]
def c_slices_BinarySearchFunc___api_Edge_api_Edge_api_Edge__r8 : Tree := 
  (.take [14, 15] (none, (.r (.mov 35 (.t 9)))) 
  (.take [3, 4, 5, 6, 7, 8, 9, 10, 11, 12, 13, 14, 15] (none, (.r (.mov 36 (.t 9)))) 
  (.take [3, 4, 5, 6, 7, 8, 9, 10, 11, 12, 13, 14, 15] (none, (.r (.mov 37 (.t 8)))) 
  (.take [4, 5, 6, 7, 8, 9, 10, 11, 12, 13, 14, 15] (none, (.r (.bin 38 .lss 0 (.t 36) (.t 37)))) 
  (.take [5, 6, 7, 8, 9, 10, 11, 12, 13, 14, 15] (none, (.r (.mov 39 (.t 38)))) 
  (.take [11, 12, 13, 14, 15] ((some (39, true)), (.r (.mov 40 (.t 2)))) 
  (.take [8, 9, 11, 12, 13, 14, 15] ((some (39, true)), (.r (.mov 41 (.t 0)))) 
  (.take [8, 9, 11, 12, 13, 14, 15] ((some (39, true)), (.r (.mov 42 (.t 9)))) 
  (.take [9, 11, 12, 13, 14, 15] ((some (39, true)), (.r (.idxA 43 (.t 41) (.t 42) 2))) 
  (.take [11, 12, 13, 14, 15] ((some (39, true)), (.r (.ld 44 (.t 43) 2 true))) 
  (.take [11, 12, 13, 14, 15] ((some (39, true)), (.r (.ld 45 (.t 4) 2 true))) 
  (.one 11 ((some (39, true)), (.call 46 (.t 40) [((.t 44), false), ((.t 45), false)])) 
  (.take [13, 15] ((some (39, true)), (.r (.bin 47 .eql 0 (.t 46) (.c (.int .i64 0))))) 
  (.take [15] (none, (.r (.pick 48 (.t 39) (.t 47) (.c (.bool false))))) 
  (.one 14 (none, (.asg 6 (.t 35) true)) 
  (.one 15 (none, (.asg 7 (.t 48) true)) .done))))))))))))))))
def v_slices_BinarySearchFunc___api_Edge_api_Edge_api_Edge_ : List Nat := [0, 1, 2, 4, 6, 7, 8, 9, 10, 11, 17, 31]
def c_slices_BinarySearchFunc___api_Edge_api_Edge_api_Edge_ : ACode :=
  (.seq
  (.reg [0, 1, 2, 6, 7, 8, 9, 10, 11, 17, 31] c_slices_BinarySearchFunc___api_Edge_api_Edge_api_Edge__r0 v_slices_BinarySearchFunc___api_Edge_api_Edge_api_Edge_)
  (.seq
  (.reg [0, 1, 2, 4, 6, 7, 8, 9, 10, 11, 17, 31] c_slices_BinarySearchFunc___api_Edge_api_Edge_api_Edge__r1 v_slices_BinarySearchFunc___api_Edge_api_Edge_api_Edge_)
  (.seq
  (.reg [0, 1, 2, 4, 6, 7, 8, 9, 10, 11, 17, 31] c_slices_BinarySearchFunc___api_Edge_api_Edge_api_Edge__r2 v_slices_BinarySearchFunc___api_Edge_api_Edge_api_Edge_)
  (.seq
  (.blk 0 (.loop (.seq
  (.seq
  (.reg [0, 1, 2, 4, 6, 7, 8, 9, 10, 11, 31] c_slices_BinarySearchFunc___api_Edge_api_Edge_api_Edge__r3 v_slices_BinarySearchFunc___api_Edge_api_Edge_api_Edge_)
  (.cond (.t 17) .skip (.exit 0)))
  (.blk 1 (.seq
  (.reg [0, 1, 2, 4, 6, 7, 8, 9, 10, 11, 17, 31] c_slices_BinarySearchFunc___api_Edge_api_Edge_api_Edge__r4 v_slices_BinarySearchFunc___api_Edge_api_Edge_api_Edge_)
  (.seq
  (.draw [0, 1, 2, 4, 6, 7, 8, 9, 10, 11, 17] c_slices_BinarySearchFunc___api_Edge_api_Edge_api_Edge__r5 v_slices_BinarySearchFunc___api_Edge_api_Edge_api_Edge_)
  (.cond (.t 31) (.reg [0, 1, 2, 4, 6, 7, 8, 9, 10, 11, 17, 31] c_slices_BinarySearchFunc___api_Edge_api_Edge_api_Edge__r6 v_slices_BinarySearchFunc___api_Edge_api_Edge_api_Edge_) (.reg [0, 1, 2, 4, 6, 7, 8, 9, 10, 11, 17, 31] c_slices_BinarySearchFunc___api_Edge_api_Edge_api_Edge__r7 v_slices_BinarySearchFunc___api_Edge_api_Edge_api_Edge_))))))))
  (.seq
  (.draw [0, 1, 2, 4, 6, 7, 8, 9, 10, 11, 17, 31] c_slices_BinarySearchFunc___api_Edge_api_Edge_api_Edge__r8 v_slices_BinarySearchFunc___api_Edge_api_Edge_api_Edge_)
  .ret)))))
abbrev n_slices_BinarySearchFunc___api_Edge_api_Edge_api_Edge_ : Nat := 63
theorem s_slices_BinarySearchFunc___api_Edge_api_Edge_api_Edge_ : stripF Try.prog [6, 7] v_slices_BinarySearchFunc___api_Edge_api_Edge_api_Edge_ Try.f63 = some (c_slices_BinarySearchFunc___api_Edge_api_Edge_api_Edge_, [(.tmp 6), (.tmp 7)]) := by kernel_rfl
theorem go_slices_BinarySearchFunc___api_Edge_api_Edge_api_Edge_ {L : List (List Nat)} {args : List AVal} {h : Heap} {Q : AVal → Heap → Prop} (hl : args.length = 3) (H : Wlk Try.prog [6, 7] Try.f63.ntmps v_slices_BinarySearchFunc___api_Edge_api_Edge_api_Edge_ L c_slices_BinarySearchFunc___api_Edge_api_Edge_api_Edge_ (ends L [(.tmp 6), (.tmp 7)] Q) (entry v_slices_BinarySearchFunc___api_Edge_api_Edge_api_Edge_ args h)) : ACalls Try.prog L n_slices_BinarySearchFunc___api_Edge_api_Edge_api_Edge_ args h Q :=
  acalls_of_strip mix Try.func63 s_slices_BinarySearchFunc___api_Edge_api_Edge_api_Edge_ (by rw [hl]; exact Nat.le_of_ble_eq_true rfl) H
def c_graph_edge_r0 : List GOp := [(none, (.alloc 4 [(.int .i64 0), (.int .i64 0)]))]
def c_graph_edge_r1 : List GOp := [(none, (.r (.mov 5 (.t 0)))),
  (none, (.r (.mov 6 (.t 1)))),
  (none, (.r (.mm 7 false (.t 5) (.t 6)))),
  (none, (.r (.mov 8 (.t 0)))),
  (none, (.r (.mov 9 (.t 1)))),
  (none, (.r (.mm 10 true (.t 8) (.t 9)))),
  (none, (.bld 11 [((0, 1), ((.t 7), true)), ((1, 1), ((.t 10), true))] [(.int .i64 0), (.int .i64 0)])),
  (none, (.st (.t 4) (.t 11) 2))]
def v_graph_edge : List Nat := [0, 1, 4]
def c_graph_edge : ACode :=
  (.seq
  (.reg [0, 1] c_graph_edge_r0 v_graph_edge)
  (.seq
  (.reg [0, 1, 4] c_graph_edge_r1 v_graph_edge)
  .ret))
abbrev n_graph_edge : Nat := 64
theorem s_graph_edge : stripF Try.prog [] v_graph_edge Try.f64 = some (c_graph_edge, [(.cell 4 2 true)]) := by kernel_rfl
theorem go_graph_edge {L : List (List Nat)} {args : List AVal} {h : Heap} {Q : AVal → Heap → Prop} (hl : args.length = 2) (H : Wlk Try.prog [] Try.f64.ntmps v_graph_edge L c_graph_edge (ends L [(.cell 4 2 true)] Q) (entry v_graph_edge args h)) : ACalls Try.prog L n_graph_edge args h Q :=
  acalls_of_strip mix Try.func64 s_graph_edge (by rw [hl]; exact Nat.le_of_ble_eq_true rfl) H
end Go.Proofs.Ytepjcfbigcfkfaa
