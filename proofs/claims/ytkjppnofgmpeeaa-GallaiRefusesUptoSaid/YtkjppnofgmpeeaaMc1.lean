/- What is no graph is refused. -/
import Derived.Test.YtkjppnofgmpeeaaRows
import Derived.Test.YtkjppnofgmpeeaaGjonmfj5
set_option linter.all false

namespace Go.Proofs.Ytkjppnofgmpeeaa
open Go Go.Ga
theorem mix : Try.prog.follows .mixedOrders = true := by kernel_rfl
def c_garlandlaw14_GallaiRefuses_r0 : List GOp := [(none, (.box 1 (.t 0))),
  (none, (.asg 2 (.c (.bool false)) true))]
def c_garlandlaw14_GallaiRefuses_r1 : List GOp := [(none, (.r (.fldA 7 (.t 1) 1))),
  (none, (.r (.ld 8 (.t 7) 1 false))),
  (none, (.r (.len 9 (.t 8)))),
  (none, (.r (.bin 10 .gtr 0 (.t 9) (.c (.int .i64 60))))),
  (none, (.r (.mov 11 (.t 10)))), ((some (11, false)), (.r (.fldA 12 (.t 1) 0))), ((some (11, false)), (.r (.ld 13 (.t 12) 1 false))), ((some (11, false)), (.r (.bin 14 .gtr 0 (.t 13) (.c (.int .i64 60))))),
  (none, (.r (.pick 15 (.t 11) (.c (.bool true)) (.t 14))))]
def c_garlandlaw14_GallaiRefuses_r2 : List GOp := [(none, (.call 16 (.f 10) [])),
  (none, (.asg 2 (.t 16) true))]
def c_garlandlaw14_GallaiRefuses_r3 : List GOp := [(none, (.r (.ld 18 (.t 1) 2 true))),
  (none, (.call 19 (.f 11) [((.t 18), false)])),
  (none, (.r (.mov 17 (.t 19)))),
  (none, (.r (.ext 20 (.t 17) 0))),
  (none, (.r (.ext 21 (.t 17) 1))),
  (none, (.alloc 3 [(.slice none 0 0), (.slice none 0 0), (.slice none 0 0)])),
  (none, (.st (.t 3) (.t 20) 3)),
  (none, (.asg 4 (.t 21) true))]
def c_garlandlaw14_GallaiRefuses_r4 : List GOp := [(none, (.r (.ld 23 (.t 1) 2 true))),
  (none, (.call 24 (.f 20) [((.t 23), false)])),
  (none, (.r (.mov 22 (.t 24)))),
  (none, (.r (.ext 25 (.t 22) 0))),
  (none, (.r (.ext 26 (.t 22) 1))),
  (none, (.asg 5 (.t 25) true)),
  (none, (.asg 6 (.t 26) true))]
def c_garlandlaw14_GallaiRefuses_r5 : List GOp := [(none, (.r (.ld 27 (.t 1) 2 true))),
  (none, (.call 28 (.f 23) [((.t 27), false)]))]
def c_garlandlaw14_GallaiRefuses_r6 : List GOp := [(none, (.call 29 (.f 10) [])),
  (none, (.r (.mov 30 (.t 29)))), ((some (30, true)), (.r (.mov 31 (.t 4)))), ((some (30, true)), (.r (.bin 32 .eql 0 (.t 31) (.c (.int .i64 0))))),
  (none, (.r (.pick 33 (.t 30) (.t 32) (.c (.bool false))))),
  (none, (.r (.mov 34 (.t 33)))), ((some (34, true)), (.r (.mov 35 (.t 6)))), ((some (34, true)), (.r (.bin 36 .eql 0 (.t 35) (.c (.int .i64 0))))),
  (none, (.r (.pick 37 (.t 34) (.t 36) (.c (.bool false))))),
  (none, (.r (.mov 38 (.t 37)))), ((some (38, true)), (.r (.fldA 39 (.t 3) 0))), ((some (38, true)), (.r (.ld 40 (.t 39) 1 false))), ((some (38, true)), (.r (.len 41 (.t 40)))), ((some (38, true)), (.r (.fldA 42 (.t 3) 1))), ((some (38, true)), (.r (.ld 43 (.t 42) 1 false))), ((some (38, true)), (.r (.len 44 (.t 43)))), ((some (38, true)), (.r (.bin 45 .add 0 (.t 41) (.t 44)))), ((some (38, true)), (.r (.fldA 46 (.t 3) 2))), ((some (38, true)), (.r (.ld 47 (.t 46) 1 false))), ((some (38, true)), (.r (.len 48 (.t 47)))), ((some (38, true)), (.r (.bin 49 .add 0 (.t 45) (.t 48)))), ((some (38, true)), (.r (.fldA 50 (.t 1) 0))), ((some (38, true)), (.r (.ld 51 (.t 50) 1 false))), ((some (38, true)), (.r (.bin 52 .eql 0 (.t 49) (.t 51)))),
  (none, (.r (.pick 53 (.t 38) (.t 52) (.c (.bool false))))),
  (none, (.asg 2 (.t 53) true))]
def c_garlandlaw14_GallaiRefuses_r7 : List GOp := [(none, (.call 54 (.f 10) [])),
  (none, (.r (.mov 55 (.t 54)))), ((some (55, true)), (.r (.mov 56 (.t 4)))), ((some (55, true)), (.r (.bin 57 .eql 0 (.t 56) (.c (.int .i64 3))))),
  (none, (.r (.pick 58 (.t 55) (.t 57) (.c (.bool false))))),
  (none, (.r (.mov 59 (.t 58)))), ((some (59, true)), (.r (.mov 60 (.t 6)))), ((some (59, true)), (.r (.bin 61 .eql 0 (.t 60) (.c (.int .i64 3))))),
  (none, (.r (.pick 62 (.t 59) (.t 61) (.c (.bool false))))),
  (none, (.r (.mov 63 (.t 62)))), ((some (63, true)), (.r (.ld 64 (.t 3) 3 true))), ((some (63, true)), (.bld 65 [] [(.slice none 0 0), (.slice none 0 0), (.slice none 0 0)])), ((some (63, true)), (.call 66 (.f 17) [((.t 64), false), ((.t 65), false)])),
  (none, (.r (.pick 67 (.t 63) (.t 66) (.c (.bool false))))),
  (none, (.r (.mov 68 (.t 67)))), ((some (68, true)), (.r (.mov 69 (.t 5)))), ((some (68, true)), (.r (.len 70 (.t 69)))), ((some (68, true)), (.r (.bin 71 .eql 0 (.t 70) (.c (.int .i64 0))))),
  (none, (.r (.pick 72 (.t 68) (.t 71) (.c (.bool false))))),
  (none, (.asg 2 (.t 72) true))]
def v_garlandlaw14_GallaiRefuses : List Nat := [0, 1, 2, 3, 4, 5, 6, 15, 28]
def c_garlandlaw14_GallaiRefuses : ACode :=
  (.seq
  (.reg [0, 2, 3, 4, 5, 6, 15, 28] c_garlandlaw14_GallaiRefuses_r0 v_garlandlaw14_GallaiRefuses)
  (.seq
  (.seq
  (.reg [0, 1, 2, 3, 4, 5, 6, 28] c_garlandlaw14_GallaiRefuses_r1 v_garlandlaw14_GallaiRefuses)
  (.cond (.t 15) (.seq
  (.reg [0, 1, 2, 3, 4, 5, 6, 15, 28] c_garlandlaw14_GallaiRefuses_r2 v_garlandlaw14_GallaiRefuses)
  .ret) .skip))
  (.seq
  (.reg [0, 1, 2, 4, 5, 6, 15, 28] c_garlandlaw14_GallaiRefuses_r3 v_garlandlaw14_GallaiRefuses)
  (.seq
  (.reg [0, 1, 2, 3, 4, 5, 6, 15, 28] c_garlandlaw14_GallaiRefuses_r4 v_garlandlaw14_GallaiRefuses)
  (.seq
  (.seq
  (.reg [0, 1, 2, 3, 4, 5, 6, 15] c_garlandlaw14_GallaiRefuses_r5 v_garlandlaw14_GallaiRefuses)
  (.cond (.t 28) (.seq
  (.reg [0, 1, 2, 3, 4, 5, 6, 15, 28] c_garlandlaw14_GallaiRefuses_r6 v_garlandlaw14_GallaiRefuses)
  .ret) .skip))
  (.seq
  (.reg [0, 1, 2, 3, 4, 5, 6, 15, 28] c_garlandlaw14_GallaiRefuses_r7 v_garlandlaw14_GallaiRefuses)
  .ret))))))
abbrev n_garlandlaw14_GallaiRefuses : Nat := 7
theorem s_garlandlaw14_GallaiRefuses : stripF Try.prog [2] v_garlandlaw14_GallaiRefuses Try.f7 = some (c_garlandlaw14_GallaiRefuses, [(.tmp 2)]) := by kernel_rfl
theorem go_garlandlaw14_GallaiRefuses {L : List (List Nat)} {args : List AVal} {h : Heap} {Q : AVal → Heap → Prop} (hl : args.length = 1) (H : Wlk Try.prog [2] Try.f7.ntmps v_garlandlaw14_GallaiRefuses L c_garlandlaw14_GallaiRefuses (ends L [(.tmp 2)] Q) (entry v_garlandlaw14_GallaiRefuses args h)) : ACalls Try.prog L n_garlandlaw14_GallaiRefuses args h Q :=
  acalls_of_strip mix Try.func7 s_garlandlaw14_GallaiRefuses (by rw [hl]; exact Nat.le_of_ble_eq_true rfl) H
def c_garlandlaw14_awake_r0 : List GOp := [(none, (.asg 0 (.c (.bool false)) true))]
def c_garlandlaw14_awake_r1 : List GOp := [(none, (.bld 4 [((0, 1), ((.c (.int .i64 0)), true)), ((1, 1), ((.c (.int .i64 1)), true))] [(.int .i64 0), (.int .i64 0)])),
  (none, (.bld 5 [((0, 1), ((.c (.int .i64 0)), true)), ((1, 1), ((.c (.int .i64 2)), true))] [(.int .i64 0), (.int .i64 0)])),
  (none, (.blds 6 2 2 [((0, 2), ((.t 4), true)), ((2, 2), ((.t 5), true))] [(.int .i64 0), (.int .i64 0)])),
  (none, (.bld 7 [((0, 1), ((.c (.int .i64 3)), true)), ((1, 1), ((.t 6), true))] [(.int .i64 0), (.slice none 0 0)])),
  (none, (.call 8 (.f 11) [((.t 7), false)])),
  (none, (.r (.mov 3 (.t 8)))),
  (none, (.r (.ext 9 (.t 3) 0))),
  (none, (.r (.ext 10 (.t 3) 1))),
  (none, (.alloc 1 [(.slice none 0 0), (.slice none 0 0), (.slice none 0 0)])),
  (none, (.st (.t 1) (.t 9) 3)),
  (none, (.asg 2 (.t 10) true))]
def c_garlandlaw14_awake_r2 : List GOp := [(none, (.r (.mov 11 (.t 2)))),
  (none, (.r (.bin 12 .eql 0 (.t 11) (.c (.int .i64 0))))),
  (none, (.r (.mov 13 (.t 12)))), ((some (13, true)), (.r (.ld 14 (.t 1) 3 true))), ((some (13, true)), (.blds 15 2 1 [((0, 1), ((.c (.int .i64 1)), true)), ((1, 1), ((.c (.int .i64 2)), true))] [(.int .i64 0)])), ((some (13, true)), (.blds 16 1 1 [((0, 1), ((.c (.int .i64 0)), true))] [(.int .i64 0)])), ((some (13, true)), (.bld 17 [((0, 1), ((.t 15), true)), ((1, 1), ((.t 16), true))] [(.slice none 0 0), (.slice none 0 0), (.slice none 0 0)])), ((some (13, true)), (.call 18 (.f 17) [((.t 14), false), ((.t 17), false)])),
  (none, (.r (.pick 19 (.t 13) (.t 18) (.c (.bool false))))),
  (none, (.asg 0 (.t 19) true))]
def v_garlandlaw14_awake : List Nat := [0, 1, 2]
def c_garlandlaw14_awake : ACode :=
  (.seq
  (.reg [0, 1, 2] c_garlandlaw14_awake_r0 v_garlandlaw14_awake)
  (.seq
  (.reg [0, 2] c_garlandlaw14_awake_r1 v_garlandlaw14_awake)
  (.seq
  (.reg [0, 1, 2] c_garlandlaw14_awake_r2 v_garlandlaw14_awake)
  .ret)))
abbrev n_garlandlaw14_awake : Nat := 10
theorem s_garlandlaw14_awake : stripF Try.prog [0] v_garlandlaw14_awake Try.f10 = some (c_garlandlaw14_awake, [(.tmp 0)]) := by kernel_rfl
theorem go_garlandlaw14_awake {L : List (List Nat)} {args : List AVal} {h : Heap} {Q : AVal → Heap → Prop} (hl : args.length = 0) (H : Wlk Try.prog [0] Try.f10.ntmps v_garlandlaw14_awake L c_garlandlaw14_awake (ends L [(.tmp 0)] Q) (entry v_garlandlaw14_awake args h)) : ACalls Try.prog L n_garlandlaw14_awake args h Q :=
  acalls_of_strip mix Try.func10 s_garlandlaw14_awake (by rw [hl]; exact Nat.le_of_ble_eq_true rfl) H
def c_gallai_Of_r0 : List GOp := [(none, (.box 1 (.t 0))),
  (none, (.alloc 2 [(.slice none 0 0), (.slice none 0 0), (.slice none 0 0)])),
  (none, (.asg 3 (.c (.int .i64 0)) true))]
def c_gallai_Of_r1 : List GOp := [(none, (.r (.ld 9 (.t 1) 2 true))),
  (none, (.call 10 (.f 29) [((.t 9), false)])),
  (none, (.r (.mov 8 (.t 10)))),
  (none, (.r (.ext 11 (.t 8) 0))),
  (none, (.r (.ext 12 (.t 8) 1))),
  (none, (.r (.ext 13 (.t 8) 2))),
  (none, (.asg 4 (.t 11) true)),
  (none, (.asg 5 (.t 12) true)),
  (none, (.asg 6 (.t 13) true))]
def c_gallai_Of_r2 : List GOp := [(none, (.r (.mov 14 (.t 6)))),
  (none, (.r (.bin 15 .neq 0 (.t 14) (.c (.int .i64 0)))))]
def c_gallai_Of_r3 : List GOp := [(none, (.bld 16 [] [(.slice none 0 0), (.slice none 0 0), (.slice none 0 0)])),
  (none, (.r (.mov 17 (.t 6)))),
  (none, (.st (.t 2) (.t 16) 3)),
  (none, (.asg 3 (.t 17) true))]
def c_gallai_Of_r4 : List GOp := [(none, (.r (.mov 18 (.t 4)))),
  (none, (.mkfn 19 (.func 30) [((.t 18), false)] [])),
  (none, (.asg 7 (.t 19) true))]
def c_gallai_Of_r5 : List GOp := [(none, (.r (.mov 20 (.t 7)))),
  (none, (.call 21 (.t 20) [((.c (.int .i64 1)), false)])),
  (none, (.r (.mov 22 (.t 7)))),
  (none, (.call 23 (.t 22) [((.c (.int .i64 2)), false)])),
  (none, (.r (.mov 24 (.t 7)))),
  (none, (.call 25 (.t 24) [((.c (.int .i64 0)), false)])),
  (none, (.bld 26 [((0, 1), ((.t 21), true)), ((1, 1), ((.t 23), true)), ((2, 1), ((.t 25), true))] [(.slice none 0 0), (.slice none 0 0), (.slice none 0 0)])),
  (none, (.st (.t 2) (.t 26) 3)),
  (none, (.asg 3 (.c (.int .i64 0)) true))]
def v_gallai_Of : List Nat := [0, 1, 2, 3, 4, 5, 6, 7, 15]
def c_gallai_Of : ACode :=
  (.seq
  (.reg [0, 3, 4, 5, 6, 7, 15] c_gallai_Of_r0 v_gallai_Of)
  (.seq
  (.reg [0, 1, 2, 3, 4, 5, 6, 7, 15] c_gallai_Of_r1 v_gallai_Of)
  (.seq
  (.seq
  (.reg [0, 1, 2, 3, 4, 5, 6, 7] c_gallai_Of_r2 v_gallai_Of)
  (.cond (.t 15) (.seq
  (.reg [0, 1, 2, 3, 4, 5, 6, 7, 15] c_gallai_Of_r3 v_gallai_Of)
  .ret) .skip))
  (.seq
  (.reg [0, 1, 2, 3, 4, 5, 6, 7, 15] c_gallai_Of_r4 v_gallai_Of)
  (.seq
  (.reg [0, 1, 2, 3, 4, 5, 6, 7, 15] c_gallai_Of_r5 v_gallai_Of)
  .ret)))))
abbrev n_gallai_Of : Nat := 11
theorem s_gallai_Of : stripF Try.prog [3] v_gallai_Of Try.f11 = some (c_gallai_Of, [(.cell 2 3 true), (.tmp 3)]) := by kernel_rfl
theorem go_gallai_Of {L : List (List Nat)} {args : List AVal} {h : Heap} {Q : AVal → Heap → Prop} (hl : args.length = 1) (H : Wlk Try.prog [3] Try.f11.ntmps v_gallai_Of L c_gallai_Of (ends L [(.cell 2 3 true), (.tmp 3)] Q) (entry v_gallai_Of args h)) : ACalls Try.prog L n_gallai_Of args h Q :=
  acalls_of_strip mix Try.func11 s_gallai_Of (by rw [hl]; exact Nat.le_of_ble_eq_true rfl) H
def c_garlandhelp_Plain_int__r0 : List GOp := [(none, (.asg 4 (.c (.bool false)) true))]
def c_garlandhelp_Plain_int__r1 : List GOp := [(none, (.r (.mov 5 (.t 0)))),
  (none, (.r (.mov 6 (.t 1)))),
  (none, (.call 7 (.f 32) [((.t 5), false), ((.t 6), false), ((.f 33), false)])),
  (none, (.asg 4 (.t 7) true))]
def v_garlandhelp_Plain_int_ : List Nat := [0, 1, 4]
def c_garlandhelp_Plain_int_ : ACode :=
  (.seq
  (.reg [0, 1, 4] c_garlandhelp_Plain_int__r0 v_garlandhelp_Plain_int_)
  (.seq
  (.reg [0, 1, 4] c_garlandhelp_Plain_int__r1 v_garlandhelp_Plain_int_)
  .ret))
abbrev n_garlandhelp_Plain_int_ : Nat := 14
theorem s_garlandhelp_Plain_int_ : stripF Try.prog [4] v_garlandhelp_Plain_int_ Try.f14 = some (c_garlandhelp_Plain_int_, [(.tmp 4)]) := by kernel_rfl
theorem go_garlandhelp_Plain_int_ {L : List (List Nat)} {args : List AVal} {h : Heap} {Q : AVal → Heap → Prop} (hl : args.length = 2) (H : Wlk Try.prog [4] Try.f14.ntmps v_garlandhelp_Plain_int_ L c_garlandhelp_Plain_int_ (ends L [(.tmp 4)] Q) (entry v_garlandhelp_Plain_int_ args h)) : ACalls Try.prog L n_garlandhelp_Plain_int_ args h Q :=
  acalls_of_strip mix Try.func14 s_garlandhelp_Plain_int_ (by rw [hl]; exact Nat.le_of_ble_eq_true rfl) H
def c_garlandhelp_Triple_r0 : List GOp := [(none, (.box 2 (.t 0))),
  (none, (.box 3 (.t 1))),
  (none, (.asg 4 (.c (.bool false)) true))]
def c_garlandhelp_Triple_r1 : List GOp := [(none, (.r (.fldA 5 (.t 2) 0))),
  (none, (.r (.ld 6 (.t 5) 1 false))),
  (none, (.r (.fldA 7 (.t 3) 0))),
  (none, (.r (.ld 8 (.t 7) 1 false))),
  (none, (.call 9 (.f 14) [((.t 6), false), ((.t 8), false)])),
  (none, (.r (.mov 10 (.t 9)))), ((some (10, true)), (.r (.fldA 11 (.t 2) 1))), ((some (10, true)), (.r (.ld 12 (.t 11) 1 false))), ((some (10, true)), (.r (.fldA 13 (.t 3) 1))), ((some (10, true)), (.r (.ld 14 (.t 13) 1 false))), ((some (10, true)), (.call 15 (.f 14) [((.t 12), false), ((.t 14), false)])),
  (none, (.r (.pick 16 (.t 10) (.t 15) (.c (.bool false))))),
  (none, (.r (.mov 17 (.t 16)))), ((some (17, true)), (.r (.fldA 18 (.t 2) 2))), ((some (17, true)), (.r (.ld 19 (.t 18) 1 false))), ((some (17, true)), (.r (.fldA 20 (.t 3) 2))), ((some (17, true)), (.r (.ld 21 (.t 20) 1 false))), ((some (17, true)), (.call 22 (.f 14) [((.t 19), false), ((.t 21), false)])),
  (none, (.r (.pick 23 (.t 17) (.t 22) (.c (.bool false))))),
  (none, (.asg 4 (.t 23) true))]
def v_garlandhelp_Triple : List Nat := [0, 1, 2, 3, 4]
def c_garlandhelp_Triple : ACode :=
  (.seq
  (.reg [0, 1, 4] c_garlandhelp_Triple_r0 v_garlandhelp_Triple)
  (.seq
  (.reg [0, 1, 2, 3, 4] c_garlandhelp_Triple_r1 v_garlandhelp_Triple)
  .ret))
abbrev n_garlandhelp_Triple : Nat := 17
theorem s_garlandhelp_Triple : stripF Try.prog [4] v_garlandhelp_Triple Try.f17 = some (c_garlandhelp_Triple, [(.tmp 4)]) := by kernel_rfl
theorem go_garlandhelp_Triple {L : List (List Nat)} {args : List AVal} {h : Heap} {Q : AVal → Heap → Prop} (hl : args.length = 2) (H : Wlk Try.prog [4] Try.f17.ntmps v_garlandhelp_Triple L c_garlandhelp_Triple (ends L [(.tmp 4)] Q) (entry v_garlandhelp_Triple args h)) : ACalls Try.prog L n_garlandhelp_Triple args h Q :=
  acalls_of_strip mix Try.func17 s_garlandhelp_Triple (by rw [hl]; exact Nat.le_of_ble_eq_true rfl) H
def c_gallai_Pieces_r0 : List GOp := [(none, (.box 1 (.t 0))),
  (none, (.asg 2 (.c (.slice none 0 0)) true)),
  (none, (.asg 3 (.c (.int .i64 0)) true))]
def c_gallai_Pieces_r1 : List GOp := [(none, (.r (.ld 7 (.t 1) 2 true))),
  (none, (.call 8 (.f 11) [((.t 7), false)])),
  (none, (.r (.mov 6 (.t 8)))),
  (none, (.r (.ext 9 (.t 6) 0))),
  (none, (.r (.ext 10 (.t 6) 1))),
  (none, (.alloc 4 [(.slice none 0 0), (.slice none 0 0), (.slice none 0 0)])),
  (none, (.st (.t 4) (.t 9) 3)),
  (none, (.asg 5 (.t 10) true))]
def c_gallai_Pieces_r2 : List GOp := [(none, (.r (.mov 11 (.t 5)))),
  (none, (.r (.bin 12 .neq 0 (.t 11) (.c (.int .i64 0)))))]
def c_gallai_Pieces_r3 : List GOp := [(none, (.r (.mov 13 (.t 5)))),
  (none, (.asg 2 (.c (.slice none 0 0)) true)),
  (none, (.asg 3 (.t 13) true))]
def c_gallai_Pieces_r4 : Tree := 
  (.take [7, 8, 9] (none, (.r (.ld 14 (.t 1) 2 true))) 
  (.take [2, 5, 6, 7, 8, 9] (none, (.r (.fldA 15 (.t 4) 1))) 
  (.take [5, 6, 7, 8, 9] (none, (.r (.ld 16 (.t 15) 1 false))) 
  (.take [4, 5, 6, 7, 8, 9] (none, (.r (.fldA 17 (.t 4) 2))) 
  (.take [5, 6, 7, 8, 9] (none, (.r (.ld 18 (.t 17) 1 false))) 
  (.one 5 (none, (.blds 19 2 1 [((0, 1), ((.t 16), true)), ((1, 1), ((.t 18), true))] [(.slice none 0 0)])) 
  (.one 6 (none, (.call 20 (.f 35) [((.t 19), false)])) 
  (.one 7 (none, (.call 21 (.f 34) [((.t 14), false), ((.t 20), false)])) 
  (.one 8 (none, (.asg 2 (.t 21) true)) 
  (.one 9 (none, (.asg 3 (.c (.int .i64 0)) true)) .done))))))))))
def v_gallai_Pieces : List Nat := [0, 1, 2, 3, 4, 5, 12]
def c_gallai_Pieces : ACode :=
  (.seq
  (.reg [0, 2, 3, 4, 5, 12] c_gallai_Pieces_r0 v_gallai_Pieces)
  (.seq
  (.reg [0, 1, 2, 3, 5, 12] c_gallai_Pieces_r1 v_gallai_Pieces)
  (.seq
  (.seq
  (.reg [0, 1, 2, 3, 4, 5] c_gallai_Pieces_r2 v_gallai_Pieces)
  (.cond (.t 12) (.seq
  (.reg [0, 1, 2, 3, 4, 5, 12] c_gallai_Pieces_r3 v_gallai_Pieces)
  .ret) .skip))
  (.seq
  (.draw [0, 1, 2, 3, 4, 5, 12] c_gallai_Pieces_r4 v_gallai_Pieces)
  .ret))))
abbrev n_gallai_Pieces : Nat := 20
theorem s_gallai_Pieces : stripF Try.prog [2, 3] v_gallai_Pieces Try.f20 = some (c_gallai_Pieces, [(.tmp 2), (.tmp 3)]) := by kernel_rfl
theorem go_gallai_Pieces {L : List (List Nat)} {args : List AVal} {h : Heap} {Q : AVal → Heap → Prop} (hl : args.length = 1) (H : Wlk Try.prog [2, 3] Try.f20.ntmps v_gallai_Pieces L c_gallai_Pieces (ends L [(.tmp 2), (.tmp 3)] Q) (entry v_gallai_Pieces args h)) : ACalls Try.prog L n_gallai_Pieces args h Q :=
  acalls_of_strip mix Try.func20 s_gallai_Pieces (by rw [hl]; exact Nat.le_of_ble_eq_true rfl) H
def c_garlandref02_Right_r0 : List GOp := [(none, (.box 1 (.t 0))),
  (none, (.asg 2 (.c (.bool false)) true))]
def c_garlandref02_Right_r1 : List GOp := [(none, (.r (.fldA 5 (.t 1) 0))),
  (none, (.r (.ld 6 (.t 5) 1 false))),
  (none, (.r (.bin 7 .lss 0 (.t 6) (.c (.int .i64 0))))),
  (none, (.r (.mov 8 (.t 7)))), ((some (8, false)), (.r (.fldA 9 (.t 1) 0))), ((some (8, false)), (.r (.ld 10 (.t 9) 1 false))), ((some (8, false)), (.r (.bin 11 .gtr 0 (.t 10) (.c (.int .i64 4096))))),
  (none, (.r (.pick 12 (.t 8) (.c (.bool true)) (.t 11)))),
  (none, (.r (.mov 13 (.t 12)))), ((some (13, false)), (.r (.fldA 14 (.t 1) 1))), ((some (13, false)), (.r (.ld 15 (.t 14) 1 false))), ((some (13, false)), (.r (.len 16 (.t 15)))), ((some (13, false)), (.r (.bin 17 .gtr 0 (.t 16) (.c (.int .i64 65536))))),
  (none, (.r (.pick 18 (.t 13) (.c (.bool true)) (.t 17))))]
def c_garlandref02_Right_r2 : List GOp := [(none, (.asg 2 (.c (.bool false)) true))]
def c_garlandref02_Right_r3 : List GOp := [(none, (.asg 3 (.c (.int .i64 0)) true))]
def c_garlandref02_Right_r4 : List GOp := [(none, (.r (.mov 19 (.t 3)))),
  (none, (.r (.fldA 20 (.t 1) 1))),
  (none, (.r (.ld 21 (.t 20) 1 false))),
  (none, (.r (.len 22 (.t 21)))),
  (none, (.r (.bin 23 .lss 0 (.t 19) (.t 22))))]
def c_garlandref02_Right_r5 : List GOp := [(none, (.r (.fldA 26 (.t 1) 1))),
  (none, (.r (.ld 27 (.t 26) 1 false))),
  (none, (.r (.mov 28 (.t 3)))),
  (none, (.r (.idxA 29 (.t 27) (.t 28) 2))),
  (none, (.r (.ld 30 (.t 29) 2 true))),
  (none, (.alloc 4 [(.int .i64 0), (.int .i64 0)])),
  (none, (.st (.t 4) (.t 30) 2))]
def c_garlandref02_Right_r6 : List GOp := [(none, (.r (.fldA 31 (.t 4) 0))),
  (none, (.r (.ld 32 (.t 31) 1 false))),
  (none, (.r (.bin 33 .lss 0 (.t 32) (.c (.int .i64 0))))),
  (none, (.r (.mov 34 (.t 33)))), ((some (34, false)), (.r (.fldA 35 (.t 4) 0))), ((some (34, false)), (.r (.ld 36 (.t 35) 1 false))), ((some (34, false)), (.r (.fldA 37 (.t 4) 1))), ((some (34, false)), (.r (.ld 38 (.t 37) 1 false))), ((some (34, false)), (.r (.bin 39 .geq 0 (.t 36) (.t 38)))),
  (none, (.r (.pick 40 (.t 34) (.c (.bool true)) (.t 39)))),
  (none, (.r (.mov 41 (.t 40)))), ((some (41, false)), (.r (.fldA 42 (.t 4) 1))), ((some (41, false)), (.r (.ld 43 (.t 42) 1 false))), ((some (41, false)), (.r (.fldA 44 (.t 1) 0))), ((some (41, false)), (.r (.ld 45 (.t 44) 1 false))), ((some (41, false)), (.r (.bin 46 .geq 0 (.t 43) (.t 45)))),
  (none, (.r (.pick 47 (.t 41) (.c (.bool true)) (.t 46))))]
def c_garlandref02_Right_r7 : List GOp := [(none, (.asg 2 (.c (.bool false)) true))]
def c_garlandref02_Right_r8 : Tree := 
  (.take [1, 2, 3, 4, 5, 6, 7, 8, 9, 10, 11, 12] (none, (.r (.mov 48 (.t 3)))) 
  (.take [2, 3, 4, 5, 6, 7, 8, 9, 10, 11, 12] (none, (.r (.bin 49 .gtr 0 (.t 48) (.c (.int .i64 0))))) 
  (.take [3, 4, 5, 6, 7, 8, 9, 10, 11, 12] (none, (.r (.mov 50 (.t 49)))) 
  (.take [4, 7, 8, 10, 11, 12] ((some (50, true)), (.r (.fldA 51 (.t 1) 1))) 
  (.take [7, 8, 10, 11, 12] ((some (50, true)), (.r (.ld 52 (.t 51) 1 false))) 
  (.take [6, 7, 8, 10, 11, 12] ((some (50, true)), (.r (.mov 53 (.t 3)))) 
  (.take [7, 8, 10, 11, 12] ((some (50, true)), (.r (.bin 54 .sub 0 (.t 53) (.c (.int .i64 1))))) 
  (.take [8, 10, 11, 12] ((some (50, true)), (.r (.idxA 55 (.t 52) (.t 54) 2))) 
  (.take [10, 11, 12] ((some (50, true)), (.r (.ld 56 (.t 55) 2 true))) 
  (.take [10, 11, 12] ((some (50, true)), (.r (.ld 57 (.t 4) 2 true))) 
  (.one 10 ((some (50, true)), (.call 58 (.f 37) [((.t 56), false), ((.t 57), false)])) 
  (.take [12] ((some (50, true)), (.r (.notb 59 (.t 58)))) 
  (.take [] (none, (.r (.pick 60 (.t 50) (.t 59) (.c (.bool false))))) .done)))))))))))))
def c_garlandref02_Right_r9 : List GOp := [(none, (.asg 2 (.c (.bool false)) true))]
def c_garlandref02_Right_r10 : List GOp := [(none, (.r (.mov 24 (.t 3)))),
  (none, (.r (.bin 25 .add 0 (.t 24) (.c (.int .i64 1))))),
  (none, (.asg 3 (.t 25) true))]
def c_garlandref02_Right_r11 : List GOp := [(none, (.asg 2 (.c (.bool true)) true))]
def v_garlandref02_Right : List Nat := [0, 1, 2, 3, 4, 18, 23, 47, 60]
def c_garlandref02_Right : ACode :=
  (.seq
  (.reg [0, 2, 3, 4, 18, 23, 47, 60] c_garlandref02_Right_r0 v_garlandref02_Right)
  (.seq
  (.seq
  (.reg [0, 1, 2, 3, 4, 23, 47, 60] c_garlandref02_Right_r1 v_garlandref02_Right)
  (.cond (.t 18) (.seq
  (.reg [0, 1, 2, 3, 4, 18, 23, 47, 60] c_garlandref02_Right_r2 v_garlandref02_Right)
  .ret) .skip))
  (.seq
  (.seq
  (.reg [0, 1, 2, 3, 4, 18, 23, 47, 60] c_garlandref02_Right_r3 v_garlandref02_Right)
  (.blk 0 (.loop (.seq
  (.seq
  (.reg [0, 1, 2, 3, 4, 18, 47, 60] c_garlandref02_Right_r4 v_garlandref02_Right)
  (.cond (.t 23) .skip (.exit 0)))
  (.seq
  (.blk 1 (.seq
  (.reg [0, 1, 2, 3, 18, 23, 47, 60] c_garlandref02_Right_r5 v_garlandref02_Right)
  (.seq
  (.seq
  (.reg [0, 1, 2, 3, 4, 18, 23, 60] c_garlandref02_Right_r6 v_garlandref02_Right)
  (.cond (.t 47) (.seq
  (.reg [0, 1, 2, 3, 4, 18, 23, 47, 60] c_garlandref02_Right_r7 v_garlandref02_Right)
  .ret) .skip))
  (.seq
  (.draw [0, 1, 2, 3, 4, 18, 23, 47] c_garlandref02_Right_r8 v_garlandref02_Right)
  (.cond (.t 60) (.seq
  (.reg [0, 1, 2, 3, 4, 18, 23, 47, 60] c_garlandref02_Right_r9 v_garlandref02_Right)
  .ret) .skip)))))
  (.reg [0, 1, 2, 3, 4, 18, 23, 47, 60] c_garlandref02_Right_r10 v_garlandref02_Right))))))
  (.seq
  (.reg [0, 1, 2, 3, 4, 18, 23, 47, 60] c_garlandref02_Right_r11 v_garlandref02_Right)
  .ret))))
abbrev n_garlandref02_Right : Nat := 23
theorem s_garlandref02_Right : stripF Try.prog [2] v_garlandref02_Right Try.f23 = some (c_garlandref02_Right, [(.tmp 2)]) := by kernel_rfl
theorem go_garlandref02_Right {L : List (List Nat)} {args : List AVal} {h : Heap} {Q : AVal → Heap → Prop} (hl : args.length = 1) (H : Wlk Try.prog [2] Try.f23.ntmps v_garlandref02_Right L c_garlandref02_Right (ends L [(.tmp 2)] Q) (entry v_garlandref02_Right args h)) : ACalls Try.prog L n_garlandref02_Right args h Q :=
  acalls_of_strip mix Try.func23 s_garlandref02_Right (by rw [hl]; exact Nat.le_of_ble_eq_true rfl) H
def c_single_Largest_r0 : List GOp := [(none, (.box 1 (.t 0))),
  (none, (.asg 2 (.c (.slice none 0 0)) true)),
  (none, (.alloc 3 [(.int .i64 0), (.int .i64 0)])),
  (none, (.asg 4 (.c (.int .i64 0)) true))]
def c_single_Largest_r1 : List GOp := [(none, (.r (.ld 8 (.t 1) 2 true))),
  (none, (.call 9 (.f 38) [((.t 8), false)])),
  (none, (.r (.notb 10 (.t 9))))]
def c_single_Largest_r2 : List GOp := [(none, (.bld 11 [] [(.int .i64 0), (.int .i64 0)])),
  (none, (.asg 2 (.c (.slice none 0 0)) true)),
  (none, (.st (.t 3) (.t 11) 2)),
  (none, (.asg 4 (.c (.int .i64 3)) true))]
def c_single_Largest_r3 : List GOp := [(none, (.r (.ld 12 (.t 1) 2 true))),
  (none, (.call 13 (.f 39) [((.t 12), false)])),
  (none, (.asg 5 (.t 13) true))]
def c_single_Largest_r4 : List GOp := [(none, (.r (.fldA 15 (.t 1) 0))),
  (none, (.r (.ld 16 (.t 15) 1 false))),
  (none, (.r (.fldA 17 (.t 1) 1))),
  (none, (.r (.ld 18 (.t 17) 1 false))),
  (none, (.call 19 (.f 41) [((.t 16), false), ((.t 18), false)])),
  (none, (.r (.mov 20 (.t 5)))),
  (none, (.call 21 (.f 40) [((.t 19), false), ((.t 20), false)])),
  (none, (.r (.mov 14 (.t 21)))),
  (none, (.r (.ext 22 (.t 14) 0))),
  (none, (.r (.ext 23 (.t 14) 1))),
  (none, (.alloc 7 [(.int .i64 0), (.int .i64 0)])),
  (none, (.asg 6 (.t 22) true)),
  (none, (.st (.t 7) (.t 23) 2))]
def c_single_Largest_r5 : Tree := 
  (.take [2, 3, 4] (none, (.r (.mov 24 (.t 5)))) 
  (.take [3, 4] (none, (.r (.ld 25 (.t 7) 2 true))) 
  (.one 2 (none, (.asg 2 (.t 24) true)) 
  (.one 3 (none, (.st (.t 3) (.t 25) 2)) 
  (.one 4 (none, (.asg 4 (.c (.int .i64 0)) true)) .done)))))
def v_single_Largest : List Nat := [0, 1, 2, 3, 4, 5, 6, 7, 10]
def c_single_Largest : ACode :=
  (.seq
  (.reg [0, 2, 4, 5, 6, 7, 10] c_single_Largest_r0 v_single_Largest)
  (.seq
  (.seq
  (.reg [0, 1, 2, 3, 4, 5, 6, 7] c_single_Largest_r1 v_single_Largest)
  (.cond (.t 10) (.seq
  (.reg [0, 1, 2, 3, 4, 5, 6, 7, 10] c_single_Largest_r2 v_single_Largest)
  .ret) .skip))
  (.seq
  (.reg [0, 1, 2, 3, 4, 5, 6, 7, 10] c_single_Largest_r3 v_single_Largest)
  (.seq
  (.reg [0, 1, 2, 3, 4, 5, 6, 10] c_single_Largest_r4 v_single_Largest)
  (.seq
  (.draw [0, 1, 2, 3, 4, 5, 6, 7, 10] c_single_Largest_r5 v_single_Largest)
  .ret)))))
abbrev n_single_Largest : Nat := 25
theorem s_single_Largest : stripF Try.prog [2, 4] v_single_Largest Try.f25 = some (c_single_Largest, [(.tmp 2), (.cell 3 2 true), (.tmp 4)]) := by kernel_rfl
theorem go_single_Largest {L : List (List Nat)} {args : List AVal} {h : Heap} {Q : AVal → Heap → Prop} (hl : args.length = 1) (H : Wlk Try.prog [2, 4] Try.f25.ntmps v_single_Largest L c_single_Largest (ends L [(.tmp 2), (.cell 3 2 true), (.tmp 4)] Q) (entry v_single_Largest args h)) : ACalls Try.prog L n_single_Largest args h Q :=
  acalls_of_strip mix Try.func25 s_single_Largest (by rw [hl]; exact Nat.le_of_ble_eq_true rfl) H
def c_barrier_Labels_r0 : List GOp := [(none, (.box 1 (.t 0))),
  (none, (.asg 2 (.c (.slice none 0 0)) true)),
  (none, (.asg 3 (.c (.slice none 0 0)) true)),
  (none, (.asg 4 (.c (.int .i64 0)) true))]
def c_barrier_Labels_r1 : List GOp := [(none, (.r (.ld 11 (.t 1) 2 true))),
  (none, (.call 12 (.f 25) [((.t 11), false)])),
  (none, (.r (.mov 10 (.t 12)))),
  (none, (.r (.ext 13 (.t 10) 0))),
  (none, (.r (.ext 14 (.t 10) 1))),
  (none, (.r (.ext 15 (.t 10) 2))),
  (none, (.alloc 6 [(.int .i64 0), (.int .i64 0)])),
  (none, (.asg 5 (.t 13) true)),
  (none, (.st (.t 6) (.t 14) 2)),
  (none, (.asg 7 (.t 15) true))]
def c_barrier_Labels_r2 : List GOp := [(none, (.r (.mov 16 (.t 7)))),
  (none, (.r (.bin 17 .neq 0 (.t 16) (.c (.int .i64 0)))))]
def c_barrier_Labels_r3 : List GOp := [(none, (.r (.mov 18 (.t 7)))),
  (none, (.asg 2 (.c (.slice none 0 0)) true)),
  (none, (.asg 3 (.c (.slice none 0 0)) true)),
  (none, (.asg 4 (.t 18) true))]
def c_barrier_Labels_r4 : List GOp := [(none, (.r (.ld 20 (.t 1) 2 true))),
  (none, (.r (.mov 21 (.t 5)))),
  (none, (.call 22 (.f 49) [((.t 20), false), ((.t 21), false)])),
  (none, (.r (.mov 19 (.t 22)))),
  (none, (.r (.ext 23 (.t 19) 0))),
  (none, (.r (.ext 24 (.t 19) 1))),
  (none, (.r (.ext 25 (.t 19) 2))),
  (none, (.asg 8 (.t 23) true)),
  (none, (.asg 9 (.t 24) true)),
  (none, (.asg 7 (.t 25) true))]
def c_barrier_Labels_r5 : List GOp := [(none, (.r (.mov 26 (.t 9)))),
  (none, (.r (.mov 27 (.t 5)))),
  (none, (.r (.mov 28 (.t 7)))),
  (none, (.asg 2 (.t 26) true)),
  (none, (.asg 3 (.t 27) true)),
  (none, (.asg 4 (.t 28) true))]
def v_barrier_Labels : List Nat := [0, 1, 2, 3, 4, 5, 7, 8, 9, 17]
def c_barrier_Labels : ACode :=
  (.seq
  (.reg [0, 2, 3, 4, 5, 7, 8, 9, 17] c_barrier_Labels_r0 v_barrier_Labels)
  (.seq
  (.reg [0, 1, 2, 3, 4, 5, 7, 8, 9, 17] c_barrier_Labels_r1 v_barrier_Labels)
  (.seq
  (.seq
  (.reg [0, 1, 2, 3, 4, 5, 7, 8, 9] c_barrier_Labels_r2 v_barrier_Labels)
  (.cond (.t 17) (.seq
  (.reg [0, 1, 2, 3, 4, 5, 7, 8, 9, 17] c_barrier_Labels_r3 v_barrier_Labels)
  .ret) .skip))
  (.seq
  (.reg [0, 1, 2, 3, 4, 5, 7, 8, 9, 17] c_barrier_Labels_r4 v_barrier_Labels)
  (.seq
  (.reg [0, 1, 2, 3, 4, 5, 7, 8, 9, 17] c_barrier_Labels_r5 v_barrier_Labels)
  .ret)))))
abbrev n_barrier_Labels : Nat := 29
theorem s_barrier_Labels : stripF Try.prog [2, 3, 4] v_barrier_Labels Try.f29 = some (c_barrier_Labels, [(.tmp 2), (.tmp 3), (.tmp 4)]) := by kernel_rfl
theorem go_barrier_Labels {L : List (List Nat)} {args : List AVal} {h : Heap} {Q : AVal → Heap → Prop} (hl : args.length = 1) (H : Wlk Try.prog [2, 3, 4] Try.f29.ntmps v_barrier_Labels L c_barrier_Labels (ends L [(.tmp 2), (.tmp 3), (.tmp 4)] Q) (entry v_barrier_Labels args h)) : ACalls Try.prog L n_barrier_Labels args h Q :=
  acalls_of_strip mix Try.func29 s_barrier_Labels (by rw [hl]; exact Nat.le_of_ble_eq_true rfl) H
def c_gallai_labels_such_r0 : List GOp := [(none, (.asg 4 (.c (.slice none 0 0)) true))]
def c_gallai_labels_such_r1 : List GOp := [(none, (.r (.mov 5 (.t 0)))),
  (none, (.r (.mov 6 (.t 1)))),
  (none, (.call 7 (.f 50) [((.t 5), false), ((.t 6), false)])),
  (none, (.asg 4 (.t 7) true))]
def v_gallai_labels_such : List Nat := [0, 1, 4]
def c_gallai_labels_such : ACode :=
  (.seq
  (.reg [0, 1, 4] c_gallai_labels_such_r0 v_gallai_labels_such)
  (.seq
  (.reg [0, 1, 4] c_gallai_labels_such_r1 v_gallai_labels_such)
  .ret))
abbrev n_gallai_labels_such : Nat := 30
theorem s_gallai_labels_such : stripF Try.prog [4] v_gallai_labels_such Try.f30 = some (c_gallai_labels_such, [(.tmp 4)]) := by kernel_rfl
theorem go_gallai_labels_such {L : List (List Nat)} {args : List AVal} {h : Heap} {Q : AVal → Heap → Prop} (hl : args.length = 2) (H : Wlk Try.prog [4] Try.f30.ntmps v_gallai_labels_such L c_gallai_labels_such (ends L [(.tmp 4)] Q) (entry v_gallai_labels_such args h)) : ACalls Try.prog L n_gallai_labels_such args h Q :=
  acalls_of_strip mix Try.func30 s_gallai_labels_such (by rw [hl]; exact Nat.le_of_ble_eq_true rfl) H
def c_garlandhelp_Same_int__r0 : List GOp := [(none, (.asg 6 (.c (.bool false)) true))]
def c_garlandhelp_Same_int__r1 : List GOp := [(none, (.r (.mov 8 (.t 0)))),
  (none, (.r (.len 9 (.t 8)))),
  (none, (.r (.mov 10 (.t 1)))),
  (none, (.r (.len 11 (.t 10)))),
  (none, (.r (.bin 12 .neq 0 (.t 9) (.t 11))))]
def c_garlandhelp_Same_int__r2 : List GOp := [(none, (.asg 6 (.c (.bool false)) true))]
def c_garlandhelp_Same_int__r3 : List GOp := [(none, (.asg 7 (.c (.int .i64 0)) true))]
def c_garlandhelp_Same_int__r4 : List GOp := [(none, (.r (.mov 13 (.t 7)))),
  (none, (.r (.mov 14 (.t 0)))),
  (none, (.r (.len 15 (.t 14)))),
  (none, (.r (.bin 16 .lss 0 (.t 13) (.t 15))))]
def c_garlandhelp_Same_int__r5 : Tree := 
  (.take [9, 10] (none, (.r (.mov 19 (.t 2)))) 
  (.take [3, 4, 9, 10] (none, (.r (.mov 20 (.t 0)))) 
  (.take [3, 4, 9, 10] (none, (.r (.mov 21 (.t 7)))) 
  (.take [4, 9, 10] (none, (.r (.idxA 22 (.t 20) (.t 21) 1))) 
  (.take [9, 10] (none, (.r (.ld 23 (.t 22) 1 false))) 
  (.take [7, 8, 9, 10] (none, (.r (.mov 24 (.t 1)))) 
  (.take [7, 8, 9, 10] (none, (.r (.mov 25 (.t 7)))) 
  (.take [8, 9, 10] (none, (.r (.idxA 26 (.t 24) (.t 25) 1))) 
  (.take [9, 10] (none, (.r (.ld 27 (.t 26) 1 false))) 
  (.one 9 (none, (.call 28 (.t 19) [((.t 23), false), ((.t 27), false)])) 
  (.take [] (none, (.r (.notb 29 (.t 28)))) .done)))))))))))
def c_garlandhelp_Same_int__r6 : List GOp := [(none, (.asg 6 (.c (.bool false)) true))]
def c_garlandhelp_Same_int__r7 : List GOp := [(none, (.r (.mov 17 (.t 7)))),
  (none, (.r (.bin 18 .add 0 (.t 17) (.c (.int .i64 1))))),
  (none, (.asg 7 (.t 18) true))]
def c_garlandhelp_Same_int__r8 : List GOp := [(none, (.asg 6 (.c (.bool true)) true))]
def v_garlandhelp_Same_int_ : List Nat := [0, 1, 2, 6, 7, 12, 16, 29]
def c_garlandhelp_Same_int_ : ACode :=
  (.seq
  (.reg [0, 1, 2, 6, 7, 12, 16, 29] c_garlandhelp_Same_int__r0 v_garlandhelp_Same_int_)
  (.seq
  (.seq
  (.reg [0, 1, 2, 6, 7, 16, 29] c_garlandhelp_Same_int__r1 v_garlandhelp_Same_int_)
  (.cond (.t 12) (.seq
  (.reg [0, 1, 2, 6, 7, 12, 16, 29] c_garlandhelp_Same_int__r2 v_garlandhelp_Same_int_)
  .ret) .skip))
  (.seq
  (.seq
  (.reg [0, 1, 2, 6, 7, 12, 16, 29] c_garlandhelp_Same_int__r3 v_garlandhelp_Same_int_)
  (.blk 0 (.loop (.seq
  (.seq
  (.reg [0, 1, 2, 6, 7, 12, 29] c_garlandhelp_Same_int__r4 v_garlandhelp_Same_int_)
  (.cond (.t 16) .skip (.exit 0)))
  (.seq
  (.blk 1 (.seq
  (.draw [0, 1, 2, 6, 7, 12, 16] c_garlandhelp_Same_int__r5 v_garlandhelp_Same_int_)
  (.cond (.t 29) (.seq
  (.reg [0, 1, 2, 6, 7, 12, 16, 29] c_garlandhelp_Same_int__r6 v_garlandhelp_Same_int_)
  .ret) .skip)))
  (.reg [0, 1, 2, 6, 7, 12, 16, 29] c_garlandhelp_Same_int__r7 v_garlandhelp_Same_int_))))))
  (.seq
  (.reg [0, 1, 2, 6, 7, 12, 16, 29] c_garlandhelp_Same_int__r8 v_garlandhelp_Same_int_)
  .ret))))
abbrev n_garlandhelp_Same_int_ : Nat := 32
theorem s_garlandhelp_Same_int_ : stripF Try.prog [6] v_garlandhelp_Same_int_ Try.f32 = some (c_garlandhelp_Same_int_, [(.tmp 6)]) := by kernel_rfl
theorem go_garlandhelp_Same_int_ {L : List (List Nat)} {args : List AVal} {h : Heap} {Q : AVal → Heap → Prop} (hl : args.length = 3) (H : Wlk Try.prog [6] Try.f32.ntmps v_garlandhelp_Same_int_ L c_garlandhelp_Same_int_ (ends L [(.tmp 6)] Q) (entry v_garlandhelp_Same_int_ args h)) : ACalls Try.prog L n_garlandhelp_Same_int_ args h Q :=
  acalls_of_strip mix Try.func32 s_garlandhelp_Same_int_ (by rw [hl]; exact Nat.le_of_ble_eq_true rfl) H
def c_garlandhelp_Plain_int__1_r0 : List GOp := [(none, (.asg 4 (.c (.bool false)) true))]
def c_garlandhelp_Plain_int__1_r1 : List GOp := [(none, (.r (.mov 5 (.t 0)))),
  (none, (.r (.mov 6 (.t 1)))),
  (none, (.r (.bin 7 .eql 0 (.t 5) (.t 6)))),
  (none, (.asg 4 (.t 7) true))]
def v_garlandhelp_Plain_int__1 : List Nat := [0, 1, 4]
def c_garlandhelp_Plain_int__1 : ACode :=
  (.seq
  (.reg [0, 1, 4] c_garlandhelp_Plain_int__1_r0 v_garlandhelp_Plain_int__1)
  (.seq
  (.reg [0, 1, 4] c_garlandhelp_Plain_int__1_r1 v_garlandhelp_Plain_int__1)
  .ret))
abbrev n_garlandhelp_Plain_int__1 : Nat := 33
theorem s_garlandhelp_Plain_int__1 : stripF Try.prog [4] v_garlandhelp_Plain_int__1 Try.f33 = some (c_garlandhelp_Plain_int__1, [(.tmp 4)]) := by kernel_rfl
theorem go_garlandhelp_Plain_int__1 {L : List (List Nat)} {args : List AVal} {h : Heap} {Q : AVal → Heap → Prop} (hl : args.length = 2) (H : Wlk Try.prog [4] Try.f33.ntmps v_garlandhelp_Plain_int__1 L c_garlandhelp_Plain_int__1 (ends L [(.tmp 4)] Q) (entry v_garlandhelp_Plain_int__1 args h)) : ACalls Try.prog L n_garlandhelp_Plain_int__1 args h Q :=
  acalls_of_strip mix Try.func33 s_garlandhelp_Plain_int__1 (by rw [hl]; exact Nat.le_of_ble_eq_true rfl) H
def c_pieces_Without_r0 : List GOp := [(none, (.box 2 (.t 0))),
  (none, (.asg 4 (.c (.slice none 0 0)) true))]
def c_pieces_Without_r1 : List GOp := [(none, (.r (.ld 5 (.t 2) 2 true))),
  (none, (.call 6 (.f 38) [((.t 5), false)])),
  (none, (.r (.notb 7 (.t 6))))]
def c_pieces_Without_r2 : List GOp := [(none, (.asg 4 (.c (.slice none 0 0)) true))]
def c_pieces_Without_r3 : List GOp := [(none, (.r (.fldA 8 (.t 2) 0))),
  (none, (.r (.ld 9 (.t 8) 1 false))),
  (none, (.r (.fldA 10 (.t 2) 1))),
  (none, (.r (.ld 11 (.t 10) 1 false))),
  (none, (.call 12 (.f 41) [((.t 9), false), ((.t 11), false)])),
  (none, (.r (.mov 13 (.t 1)))),
  (none, (.call 14 (.f 51) [((.t 12), false), ((.t 13), false)])),
  (none, (.asg 4 (.t 14) true))]
def v_pieces_Without : List Nat := [0, 1, 2, 4, 7]
def c_pieces_Without : ACode :=
  (.seq
  (.reg [0, 1, 4, 7] c_pieces_Without_r0 v_pieces_Without)
  (.seq
  (.seq
  (.reg [0, 1, 2, 4] c_pieces_Without_r1 v_pieces_Without)
  (.cond (.t 7) (.seq
  (.reg [0, 1, 2, 4, 7] c_pieces_Without_r2 v_pieces_Without)
  .ret) .skip))
  (.seq
  (.reg [0, 1, 2, 4, 7] c_pieces_Without_r3 v_pieces_Without)
  .ret)))
abbrev n_pieces_Without : Nat := 34
theorem s_pieces_Without : stripF Try.prog [4] v_pieces_Without Try.f34 = some (c_pieces_Without, [(.tmp 4)]) := by kernel_rfl
theorem go_pieces_Without {L : List (List Nat)} {args : List AVal} {h : Heap} {Q : AVal → Heap → Prop} (hl : args.length = 2) (H : Wlk Try.prog [4] Try.f34.ntmps v_pieces_Without L c_pieces_Without (ends L [(.tmp 4)] Q) (entry v_pieces_Without args h)) : ACalls Try.prog L n_pieces_Without args h Q :=
  acalls_of_strip mix Try.func34 s_pieces_Without (by rw [hl]; exact Nat.le_of_ble_eq_true rfl) H
def c_slices_Concat___int_int__r0 : List GOp := [(none, (.asg 2 (.c (.slice none 0 0)) true))]
def c_slices_Concat___int_int__r1 : List GOp := [(none, (.asg 3 (.c (.int .i64 0)) true))]
def c_slices_Concat___int_int__r2 : List GOp := [(none, (.r (.mov 9 (.t 0)))),
  (none, (.r (.len 10 (.t 9)))),
  (none, (.r (.mov 11 (.c (.int .i64 0)))))]
def c_slices_Concat___int_int__r3 : List GOp := [(none, (.r (.bin 12 .lss 0 (.t 11) (.t 10))))]
def c_slices_Concat___int_int__r4 : List GOp := [(none, (.r (.idxA 13 (.t 9) (.t 11) 1))),
  (none, (.r (.ld 14 (.t 13) 1 false))),
  (none, (.asg 5 (.t 14) true))]
def c_slices_Concat___int_int__r5 : List GOp := [(none, (.r (.mov 15 (.t 3)))),
  (none, (.r (.mov 16 (.t 5)))),
  (none, (.r (.len 17 (.t 16)))),
  (none, (.r (.bin 18 .add 0 (.t 15) (.t 17)))),
  (none, (.asg 3 (.t 18) true))]
def c_slices_Concat___int_int__r6 : List GOp := [(none, (.r (.mov 19 (.t 3)))),
  (none, (.r (.bin 20 .lss 0 (.t 19) (.c (.int .i64 0)))))]
def c_slices_Concat___int_int__r7 : List GOp := [(none, (.bad (some 21))),
  (none, (.bad none))]
def c_slices_Concat___int_int__r8 : List GOp := [(none, (.r (.bin 22 .add 0 (.t 11) (.c (.int .i64 1))))),
  (none, (.asg 11 (.t 22) true))]
def c_slices_Concat___int_int__r9 : List GOp := [(none, (.r (.mov 23 (.t 3)))),
  (none, (.call 24 (.f 52) [((.c (.slice none 0 0)), false), ((.t 23), false)])),
  (none, (.asg 6 (.t 24) true))]
def c_slices_Concat___int_int__r10 : List GOp := [(none, (.r (.mov 25 (.t 0)))),
  (none, (.r (.len 26 (.t 25)))),
  (none, (.r (.mov 27 (.c (.int .i64 0)))))]
def c_slices_Concat___int_int__r11 : List GOp := [(none, (.r (.bin 28 .lss 0 (.t 27) (.t 26))))]
def c_slices_Concat___int_int__r12 : List GOp := [(none, (.r (.idxA 29 (.t 25) (.t 27) 1))),
  (none, (.r (.ld 30 (.t 29) 1 false))),
  (none, (.asg 8 (.t 30) true))]
def c_slices_Concat___int_int__r13 : List GOp := [(none, (.r (.mov 31 (.t 6)))),
  (none, (.r (.mov 32 (.t 8)))),
  (none, (.app 33 (.t 31) (.t 32) 1 8)),
  (none, (.asg 6 (.t 33) true))]
def c_slices_Concat___int_int__r14 : List GOp := [(none, (.r (.bin 34 .add 0 (.t 27) (.c (.int .i64 1))))),
  (none, (.asg 27 (.t 34) true))]
def c_slices_Concat___int_int__r15 : List GOp := [(none, (.r (.mov 35 (.t 6)))),
  (none, (.asg 2 (.t 35) true))]
def v_slices_Concat___int_int_ : List Nat := [0, 2, 3, 5, 6, 8, 9, 10, 11, 12, 20, 25, 26, 27, 28]
def c_slices_Concat___int_int_ : ACode :=
  (.seq
  (.reg [0, 2, 3, 5, 6, 8, 9, 10, 11, 12, 20, 25, 26, 27, 28] c_slices_Concat___int_int__r0 v_slices_Concat___int_int_)
  (.seq
  (.reg [0, 2, 3, 5, 6, 8, 9, 10, 11, 12, 20, 25, 26, 27, 28] c_slices_Concat___int_int__r1 v_slices_Concat___int_int_)
  (.seq
  (.seq
  (.reg [0, 2, 3, 5, 6, 8, 12, 20, 25, 26, 27, 28] c_slices_Concat___int_int__r2 v_slices_Concat___int_int_)
  (.blk 0 (.loop (.seq
  (.reg [0, 2, 3, 5, 6, 8, 9, 10, 11, 20, 25, 26, 27, 28] c_slices_Concat___int_int__r3 v_slices_Concat___int_int_)
  (.seq
  (.cond (.t 12) .skip (.exit 0))
  (.seq
  (.blk 1 (.seq
  (.reg [0, 2, 3, 5, 6, 8, 9, 10, 11, 12, 20, 25, 26, 27, 28] c_slices_Concat___int_int__r4 v_slices_Concat___int_int_)
  (.seq
  (.reg [0, 2, 3, 5, 6, 8, 9, 10, 11, 12, 20, 25, 26, 27, 28] c_slices_Concat___int_int__r5 v_slices_Concat___int_int_)
  (.seq
  (.reg [0, 2, 3, 5, 6, 8, 9, 10, 11, 12, 25, 26, 27, 28] c_slices_Concat___int_int__r6 v_slices_Concat___int_int_)
  (.cond (.t 20) (.reg [0, 2, 3, 5, 6, 8, 9, 10, 11, 12, 20, 25, 26, 27, 28] c_slices_Concat___int_int__r7 v_slices_Concat___int_int_) .skip)))))
  (.reg [0, 2, 3, 5, 6, 8, 9, 10, 11, 12, 20, 25, 26, 27, 28] c_slices_Concat___int_int__r8 v_slices_Concat___int_int_)))))))
  (.seq
  (.reg [0, 2, 3, 5, 6, 8, 9, 10, 11, 12, 20, 25, 26, 27, 28] c_slices_Concat___int_int__r9 v_slices_Concat___int_int_)
  (.seq
  (.seq
  (.reg [0, 2, 3, 5, 6, 8, 9, 10, 11, 12, 20, 28] c_slices_Concat___int_int__r10 v_slices_Concat___int_int_)
  (.blk 2 (.loop (.seq
  (.reg [0, 2, 3, 5, 6, 8, 9, 10, 11, 12, 20, 25, 26, 27] c_slices_Concat___int_int__r11 v_slices_Concat___int_int_)
  (.seq
  (.cond (.t 28) .skip (.exit 2))
  (.seq
  (.blk 3 (.seq
  (.reg [0, 2, 3, 5, 6, 8, 9, 10, 11, 12, 20, 25, 26, 27, 28] c_slices_Concat___int_int__r12 v_slices_Concat___int_int_)
  (.reg [0, 2, 3, 5, 6, 8, 9, 10, 11, 12, 20, 25, 26, 27, 28] c_slices_Concat___int_int__r13 v_slices_Concat___int_int_)))
  (.reg [0, 2, 3, 5, 6, 8, 9, 10, 11, 12, 20, 25, 26, 27, 28] c_slices_Concat___int_int__r14 v_slices_Concat___int_int_)))))))
  (.seq
  (.reg [0, 2, 3, 5, 6, 8, 9, 10, 11, 12, 20, 25, 26, 27, 28] c_slices_Concat___int_int__r15 v_slices_Concat___int_int_)
  .ret))))))
abbrev n_slices_Concat___int_int_ : Nat := 35
theorem s_slices_Concat___int_int_ : stripF Try.prog [2] v_slices_Concat___int_int_ Try.f35 = some (c_slices_Concat___int_int_, [(.tmp 2)]) := by kernel_rfl
theorem go_slices_Concat___int_int_ {L : List (List Nat)} {args : List AVal} {h : Heap} {Q : AVal → Heap → Prop} (hl : args.length = 1) (H : Wlk Try.prog [2] Try.f35.ntmps v_slices_Concat___int_int_ L c_slices_Concat___int_int_ (ends L [(.tmp 2)] Q) (entry v_slices_Concat___int_int_ args h)) : ACalls Try.prog L n_slices_Concat___int_int_ args h Q :=
  acalls_of_strip mix Try.func35 s_slices_Concat___int_int_ (by rw [hl]; exact Nat.le_of_ble_eq_true rfl) H
def c_garlandref02_ahead_r0 : List GOp := [(none, (.box 2 (.t 0))),
  (none, (.box 3 (.t 1))),
  (none, (.asg 4 (.c (.bool false)) true))]
def c_garlandref02_ahead_r1 : List GOp := [(none, (.r (.fldA 5 (.t 2) 0))),
  (none, (.r (.ld 6 (.t 5) 1 false))),
  (none, (.r (.fldA 7 (.t 3) 0))),
  (none, (.r (.ld 8 (.t 7) 1 false))),
  (none, (.r (.bin 9 .lss 0 (.t 6) (.t 8)))),
  (none, (.r (.mov 10 (.t 9)))), ((some (10, false)), (.r (.fldA 11 (.t 2) 0))), ((some (10, false)), (.r (.ld 12 (.t 11) 1 false))), ((some (10, false)), (.r (.fldA 13 (.t 3) 0))), ((some (10, false)), (.r (.ld 14 (.t 13) 1 false))), ((some (10, false)), (.r (.bin 15 .eql 0 (.t 12) (.t 14)))), ((some (10, false)), (.r (.mov 16 (.t 15)))), ((some (16, true)), (.r (.fldA 17 (.t 2) 1))), ((some (16, true)), (.r (.ld 18 (.t 17) 1 false))), ((some (16, true)), (.r (.fldA 19 (.t 3) 1))), ((some (16, true)), (.r (.ld 20 (.t 19) 1 false))), ((some (16, true)), (.r (.bin 21 .lss 0 (.t 18) (.t 20)))), ((some (10, false)), (.r (.pick 22 (.t 16) (.t 21) (.c (.bool false))))),
  (none, (.r (.pick 23 (.t 10) (.c (.bool true)) (.t 22)))),
  (none, (.asg 4 (.t 23) true))]
def v_garlandref02_ahead : List Nat := [0, 1, 2, 3, 4]
def c_garlandref02_ahead : ACode :=
  (.seq
  (.reg [0, 1, 4] c_garlandref02_ahead_r0 v_garlandref02_ahead)
  (.seq
  (.reg [0, 1, 2, 3, 4] c_garlandref02_ahead_r1 v_garlandref02_ahead)
  .ret))
abbrev n_garlandref02_ahead : Nat := 37
theorem s_garlandref02_ahead : stripF Try.prog [4] v_garlandref02_ahead Try.f37 = some (c_garlandref02_ahead, [(.tmp 4)]) := by kernel_rfl
theorem go_garlandref02_ahead {L : List (List Nat)} {args : List AVal} {h : Heap} {Q : AVal → Heap → Prop} (hl : args.length = 2) (H : Wlk Try.prog [4] Try.f37.ntmps v_garlandref02_ahead L c_garlandref02_ahead (ends L [(.tmp 4)] Q) (entry v_garlandref02_ahead args h)) : ACalls Try.prog L n_garlandref02_ahead args h Q :=
  acalls_of_strip mix Try.func37 s_garlandref02_ahead (by rw [hl]; exact Nat.le_of_ble_eq_true rfl) H
def c_graph_Right_r0 : List GOp := [(none, (.box 1 (.t 0))),
  (none, (.asg 2 (.c (.bool false)) true))]
def c_graph_Right_r1 : List GOp := [(none, (.r (.fldA 6 (.t 1) 0))),
  (none, (.r (.ld 7 (.t 6) 1 false))),
  (none, (.r (.bin 8 .lss 0 (.t 7) (.c (.int .i64 0))))),
  (none, (.r (.mov 9 (.t 8)))), ((some (9, false)), (.r (.fldA 10 (.t 1) 0))), ((some (9, false)), (.r (.ld 11 (.t 10) 1 false))), ((some (9, false)), (.r (.bin 12 .gtr 0 (.t 11) (.c (.int .i64 4096))))),
  (none, (.r (.pick 13 (.t 9) (.c (.bool true)) (.t 12)))),
  (none, (.r (.mov 14 (.t 13)))), ((some (14, false)), (.r (.fldA 15 (.t 1) 1))), ((some (14, false)), (.r (.ld 16 (.t 15) 1 false))), ((some (14, false)), (.r (.len 17 (.t 16)))), ((some (14, false)), (.r (.bin 18 .gtr 0 (.t 17) (.c (.int .i64 65536))))),
  (none, (.r (.pick 19 (.t 14) (.c (.bool true)) (.t 18))))]
def c_graph_Right_r2 : List GOp := [(none, (.asg 2 (.c (.bool false)) true))]
def c_graph_Right_r3 : List GOp := [(none, (.bld 20 [] [])),
  (none, (.mkfn 21 (.func 53) [((.t 20), false)] [])),
  (none, (.asg 3 (.t 21) true))]
def c_graph_Right_r4 : List GOp := [(none, (.r (.fldA 22 (.t 1) 1))),
  (none, (.r (.ld 23 (.t 22) 1 false))),
  (none, (.r (.len 24 (.t 23)))),
  (none, (.r (.mov 25 (.c (.int .i64 0)))))]
def c_graph_Right_r5 : List GOp := [(none, (.r (.bin 26 .lss 0 (.t 25) (.t 24))))]
def c_graph_Right_r6 : List GOp := [(none, (.r (.mov 27 (.t 25)))),
  (none, (.r (.idxA 28 (.t 23) (.t 25) 2))),
  (none, (.r (.ld 29 (.t 28) 2 true))),
  (none, (.alloc 5 [(.int .i64 0), (.int .i64 0)])),
  (none, (.asg 4 (.t 27) true)),
  (none, (.st (.t 5) (.t 29) 2))]
def c_graph_Right_r7 : Tree := 
  (.take [1, 2, 3, 4, 5, 6, 7, 8, 9, 10, 11, 12, 13, 14, 15, 16, 17, 18, 19, 20, 21, 22, 23, 24, 25, 26, 27, 28, 29, 30, 31, 32] (none, (.r (.fldA 30 (.t 5) 0))) 
  (.take [2, 3, 4, 5, 6, 7, 8, 9, 10, 11, 12, 13, 14, 15, 16, 17, 18, 19, 20, 21, 22, 23, 24, 25, 26, 27, 28, 29, 30, 31, 32] (none, (.r (.ld 31 (.t 30) 1 false))) 
  (.take [3, 4, 5, 6, 7, 8, 9, 10, 11, 12, 13, 14, 15, 16, 17, 18, 19, 20, 21, 22, 23, 24, 25, 26, 27, 28, 29, 30, 31, 32] (none, (.r (.bin 32 .lss 0 (.t 31) (.c (.int .i64 0))))) 
  (.take [4, 5, 6, 7, 8, 9, 10, 11, 12, 13, 14, 15, 16, 17, 18, 19, 20, 21, 22, 23, 24, 25, 26, 27, 28, 29, 30, 31, 32] (none, (.r (.mov 33 (.t 32)))) 
  (.take [5, 8, 9, 10, 11, 12, 13, 14, 15, 16, 17, 18, 19, 20, 21, 22, 23, 24, 25, 26, 27, 28, 29, 30, 31, 32] ((some (33, false)), (.r (.fldA 34 (.t 5) 0))) 
  (.take [8, 9, 10, 11, 12, 13, 14, 15, 16, 17, 18, 19, 20, 21, 22, 23, 24, 25, 26, 27, 28, 29, 30, 31, 32] ((some (33, false)), (.r (.ld 35 (.t 34) 1 false))) 
  (.take [7, 8, 9, 10, 11, 12, 13, 14, 15, 16, 17, 18, 19, 20, 21, 22, 23, 24, 25, 26, 27, 28, 29, 30, 31, 32] ((some (33, false)), (.r (.fldA 36 (.t 5) 1))) 
  (.take [8, 9, 10, 11, 12, 13, 14, 15, 16, 17, 18, 19, 20, 21, 22, 23, 24, 25, 26, 27, 28, 29, 30, 31, 32] ((some (33, false)), (.r (.ld 37 (.t 36) 1 false))) 
  (.take [9, 10, 11, 12, 13, 14, 15, 16, 17, 18, 19, 20, 21, 22, 23, 24, 25, 26, 27, 28, 29, 30, 31, 32] ((some (33, false)), (.r (.bin 38 .geq 0 (.t 35) (.t 37)))) 
  (.take [10, 11, 12, 13, 14, 15, 16, 17, 18, 19, 20, 21, 22, 23, 24, 25, 26, 27, 28, 29, 30, 31, 32] (none, (.r (.pick 39 (.t 33) (.c (.bool true)) (.t 38)))) 
  (.take [11, 12, 13, 14, 15, 16, 17, 18, 19, 20, 21, 22, 23, 24, 25, 26, 27, 28, 29, 30, 31, 32] (none, (.r (.mov 40 (.t 39)))) 
  (.take [12, 15, 16, 17, 18, 19, 20, 21, 22, 23, 24, 25, 26, 27, 28, 29, 30, 31, 32] ((some (40, false)), (.r (.fldA 41 (.t 5) 1))) 
  (.take [15, 16, 17, 18, 19, 20, 21, 22, 23, 24, 25, 26, 27, 28, 29, 30, 31, 32] ((some (40, false)), (.r (.ld 42 (.t 41) 1 false))) 
  (.take [14, 15, 16, 17, 18, 19, 20, 21, 22, 23, 24, 25, 26, 27, 28, 29, 30, 31, 32] ((some (40, false)), (.r (.fldA 43 (.t 1) 0))) 
  (.take [15, 16, 17, 18, 19, 20, 21, 22, 23, 24, 25, 26, 27, 28, 29, 30, 31, 32] ((some (40, false)), (.r (.ld 44 (.t 43) 1 false))) 
  (.take [16, 17, 18, 19, 20, 21, 22, 23, 24, 25, 26, 27, 28, 29, 30, 31, 32] ((some (40, false)), (.r (.bin 45 .geq 0 (.t 42) (.t 44)))) 
  (.take [17, 18, 19, 20, 21, 22, 23, 24, 25, 26, 27, 28, 29, 30, 31, 32] (none, (.r (.pick 46 (.t 40) (.c (.bool true)) (.t 45)))) 
  (.take [18, 19, 20, 21, 22, 23, 24, 25, 26, 27, 28, 29, 30, 31, 32] (none, (.r (.mov 47 (.t 46)))) 
  (.take [19, 20, 21, 22, 23, 24, 25, 26, 27, 28, 29, 30, 31, 32] ((some (47, false)), (.r (.mov 48 (.t 4)))) 
  (.take [20, 21, 22, 23, 24, 25, 26, 27, 28, 29, 30, 31, 32] ((some (47, false)), (.r (.bin 49 .gtr 0 (.t 48) (.c (.int .i64 0))))) 
  (.take [21, 22, 23, 24, 25, 26, 27, 28, 29, 30, 31, 32] ((some (47, false)), (.r (.mov 50 (.t 49)))) 
  (.take [29, 30, 31, 32] ((some (50, true)), (.r (.mov 51 (.t 3)))) 
  (.take [23, 26, 27, 29, 30, 31, 32] ((some (50, true)), (.r (.fldA 52 (.t 1) 1))) 
  (.take [26, 27, 29, 30, 31, 32] ((some (50, true)), (.r (.ld 53 (.t 52) 1 false))) 
  (.take [25, 26, 27, 29, 30, 31, 32] ((some (50, true)), (.r (.mov 54 (.t 4)))) 
  (.take [26, 27, 29, 30, 31, 32] ((some (50, true)), (.r (.bin 55 .sub 0 (.t 54) (.c (.int .i64 1))))) 
  (.take [27, 29, 30, 31, 32] ((some (50, true)), (.r (.idxA 56 (.t 53) (.t 55) 2))) 
  (.take [29, 30, 31, 32] ((some (50, true)), (.r (.ld 57 (.t 56) 2 true))) 
  (.take [29, 30, 31, 32] ((some (50, true)), (.r (.ld 58 (.t 5) 2 true))) 
  (.one 29 ((some (50, true)), (.call 59 (.t 51) [((.t 57), false), ((.t 58), false)])) 
  (.take [31, 32] ((some (50, true)), (.r (.bin 60 .geq 0 (.t 59) (.c (.int .i64 0))))) 
  (.take [32] ((some (47, false)), (.r (.pick 61 (.t 50) (.t 60) (.c (.bool false))))) 
  (.take [] (none, (.r (.pick 62 (.t 47) (.c (.bool true)) (.t 61)))) .done)))))))))))))))))))))))))))))))))
def c_graph_Right_r8 : List GOp := [(none, (.asg 2 (.c (.bool false)) true))]
def c_graph_Right_r9 : List GOp := [(none, (.r (.bin 63 .add 0 (.t 25) (.c (.int .i64 1))))),
  (none, (.asg 25 (.t 63) true))]
def c_graph_Right_r10 : List GOp := [(none, (.asg 2 (.c (.bool true)) true))]
def v_graph_Right : List Nat := [0, 1, 2, 3, 4, 5, 19, 23, 24, 25, 26, 62]
def c_graph_Right : ACode :=
  (.seq
  (.reg [0, 2, 3, 4, 5, 19, 23, 24, 25, 26, 62] c_graph_Right_r0 v_graph_Right)
  (.seq
  (.seq
  (.reg [0, 1, 2, 3, 4, 5, 23, 24, 25, 26, 62] c_graph_Right_r1 v_graph_Right)
  (.cond (.t 19) (.seq
  (.reg [0, 1, 2, 3, 4, 5, 19, 23, 24, 25, 26, 62] c_graph_Right_r2 v_graph_Right)
  .ret) .skip))
  (.seq
  (.reg [0, 1, 2, 3, 4, 5, 19, 23, 24, 25, 26, 62] c_graph_Right_r3 v_graph_Right)
  (.seq
  (.seq
  (.reg [0, 1, 2, 3, 4, 5, 19, 26, 62] c_graph_Right_r4 v_graph_Right)
  (.blk 0 (.loop (.seq
  (.reg [0, 1, 2, 3, 4, 5, 19, 23, 24, 25, 62] c_graph_Right_r5 v_graph_Right)
  (.seq
  (.cond (.t 26) .skip (.exit 0))
  (.seq
  (.blk 1 (.seq
  (.reg [0, 1, 2, 3, 4, 19, 23, 24, 25, 26, 62] c_graph_Right_r6 v_graph_Right)
  (.seq
  (.draw [0, 1, 2, 3, 4, 5, 19, 23, 24, 25, 26] c_graph_Right_r7 v_graph_Right)
  (.cond (.t 62) (.seq
  (.reg [0, 1, 2, 3, 4, 5, 19, 23, 24, 25, 26, 62] c_graph_Right_r8 v_graph_Right)
  .ret) .skip))))
  (.reg [0, 1, 2, 3, 4, 5, 19, 23, 24, 25, 26, 62] c_graph_Right_r9 v_graph_Right)))))))
  (.seq
  (.reg [0, 1, 2, 3, 4, 5, 19, 23, 24, 25, 26, 62] c_graph_Right_r10 v_graph_Right)
  .ret)))))
abbrev n_graph_Right : Nat := 38
theorem s_graph_Right : stripF Try.prog [2] v_graph_Right Try.f38 = some (c_graph_Right, [(.tmp 2)]) := by kernel_rfl
theorem go_graph_Right {L : List (List Nat)} {args : List AVal} {h : Heap} {Q : AVal → Heap → Prop} (hl : args.length = 1) (H : Wlk Try.prog [2] Try.f38.ntmps v_graph_Right L c_graph_Right (ends L [(.tmp 2)] Q) (entry v_graph_Right args h)) : ACalls Try.prog L n_graph_Right args h Q :=
  acalls_of_strip mix Try.func38 s_graph_Right (by rw [hl]; exact Nat.le_of_ble_eq_true rfl) H
def c_greedy_First_r0 : List GOp := [(none, (.box 1 (.t 0))),
  (none, (.asg 2 (.c (.slice none 0 0)) true))]
def c_greedy_First_r1 : List GOp := [(none, (.r (.ld 8 (.t 1) 2 true))),
  (none, (.call 9 (.f 54) [((.t 8), false)])),
  (none, (.bld 10 [((0, 1), ((.t 9), true))] [(.slice none 0 0)])),
  (none, (.alloc 3 [(.slice none 0 0)])),
  (none, (.st (.t 3) (.t 10) 1))]
def c_greedy_First_r2 : List GOp := [(none, (.r (.fldA 11 (.t 3) 0))),
  (none, (.r (.ld 12 (.t 11) 1 false))),
  (none, (.r (.len 13 (.t 12)))),
  (none, (.r (.bin 14 .eql 0 (.t 13) (.c (.int .i64 0)))))]
def c_greedy_First_r3 : List GOp := [(none, (.asg 2 (.c (.slice none 0 0)) true))]
def c_greedy_First_r4 : List GOp := [(none, (.r (.fldA 15 (.t 1) 0))),
  (none, (.r (.ld 16 (.t 15) 1 false))),
  (none, (.r (.fldA 17 (.t 1) 1))),
  (none, (.r (.ld 18 (.t 17) 1 false))),
  (none, (.call 19 (.f 41) [((.t 16), false), ((.t 18), false)])),
  (none, (.asg 4 (.t 19) true))]
def c_greedy_First_r5 : List GOp := [(none, (.r (.fldA 20 (.t 3) 0))),
  (none, (.r (.ld 21 (.t 20) 1 false))),
  (none, (.r (.len 22 (.t 21)))),
  (none, (.r (.mov 23 (.c (.int .i64 0)))))]
def c_greedy_First_r6 : List GOp := [(none, (.r (.bin 24 .lss 0 (.t 23) (.t 22))))]
def c_greedy_First_r7 : List GOp := [(none, (.r (.mov 25 (.t 23)))),
  (none, (.asg 5 (.t 25) true))]
def c_greedy_First_r8 : List GOp := [(none, (.r (.ld 26 (.t 3) 1 true))),
  (none, (.r (.mov 27 (.t 5)))),
  (none, (.call 28 (.f 55) [((.t 26), false), ((.t 27), false)])),
  (none, (.r (.notb 29 (.t 28))))]
def c_greedy_First_r9 : Tree := 
  (.take [2, 3, 6, 7] (none, (.r (.mov 30 (.t 4)))) 
  (.take [2, 3, 6, 7] (none, (.r (.mov 31 (.t 5)))) 
  (.take [3, 6, 7] (none, (.r (.idxA 32 (.t 30) (.t 31) 1))) 
  (.take [6, 7] (none, (.r (.ld 33 (.t 32) 1 false))) 
  (.take [5, 6, 7] (none, (.r (.ld 34 (.t 3) 1 true))) 
  (.one 5 (none, (.mkfn 35 (.func 55) [((.t 34), false)] [])) 
  (.one 6 (none, (.call 36 (.f 56) [((.t 33), false), ((.t 35), false)])) 
  (.one 7 (none, (.asg 6 (.t 36) true)) .done))))))))
def c_greedy_First_r10 : List GOp := [(none, (.r (.mov 37 (.t 6)))),
  (none, (.r (.bin 38 .geq 0 (.t 37) (.c (.int .i64 0)))))]
def c_greedy_First_r11 : List GOp := [(none, (.r (.mov 39 (.t 4)))),
  (none, (.r (.mov 40 (.t 5)))),
  (none, (.r (.idxA 41 (.t 39) (.t 40) 1))),
  (none, (.r (.ld 42 (.t 41) 1 false))),
  (none, (.r (.mov 43 (.t 6)))),
  (none, (.r (.idxA 44 (.t 42) (.t 43) 1))),
  (none, (.r (.ld 45 (.t 44) 1 false))),
  (none, (.asg 7 (.t 45) true))]
def c_greedy_First_r12 : Tree := 
  (.take [1, 8, 9, 10, 11] (none, (.r (.fldA 46 (.t 3) 0))) 
  (.take [8, 9, 10, 11] (none, (.r (.ld 47 (.t 46) 1 false))) 
  (.take [8, 9, 10, 11] (none, (.r (.mov 48 (.t 5)))) 
  (.take [4, 10, 11] (none, (.r (.fldA 49 (.t 3) 0))) 
  (.take [10, 11] (none, (.r (.ld 50 (.t 49) 1 false))) 
  (.take [10, 11] (none, (.r (.mov 51 (.t 7)))) 
  (.take [8, 9, 10, 11] (none, (.r (.mov 52 (.t 7)))) 
  (.take [10, 11] (none, (.r (.mov 53 (.t 5)))) 
  (.take [9, 10, 11] (none, (.r (.idxA 54 (.t 47) (.t 48) 1))) 
  (.one 9 (none, (.st (.t 54) (.t 52) 1)) 
  (.take [11] (none, (.r (.idxA 55 (.t 50) (.t 51) 1))) 
  (.one 11 (none, (.st (.t 55) (.t 53) 1)) .done))))))))))))
def c_greedy_First_r13 : List GOp := [(none, (.r (.bin 56 .add 0 (.t 23) (.c (.int .i64 1))))),
  (none, (.asg 23 (.t 56) true))]
def c_greedy_First_r14 : List GOp := [(none, (.r (.fldA 57 (.t 3) 0))),
  (none, (.r (.ld 58 (.t 57) 1 false))),
  (none, (.asg 2 (.t 58) true))]
def v_greedy_First : List Nat := [0, 1, 2, 3, 4, 5, 6, 7, 14, 22, 23, 24, 29, 38]
def c_greedy_First : ACode :=
  (.seq
  (.reg [0, 2, 3, 4, 5, 6, 7, 14, 22, 23, 24, 29, 38] c_greedy_First_r0 v_greedy_First)
  (.seq
  (.reg [0, 1, 2, 4, 5, 6, 7, 14, 22, 23, 24, 29, 38] c_greedy_First_r1 v_greedy_First)
  (.seq
  (.seq
  (.reg [0, 1, 2, 3, 4, 5, 6, 7, 22, 23, 24, 29, 38] c_greedy_First_r2 v_greedy_First)
  (.cond (.t 14) (.seq
  (.reg [0, 1, 2, 3, 4, 5, 6, 7, 14, 22, 23, 24, 29, 38] c_greedy_First_r3 v_greedy_First)
  .ret) .skip))
  (.seq
  (.reg [0, 1, 2, 3, 4, 5, 6, 7, 14, 22, 23, 24, 29, 38] c_greedy_First_r4 v_greedy_First)
  (.seq
  (.seq
  (.reg [0, 1, 2, 3, 4, 5, 6, 7, 14, 24, 29, 38] c_greedy_First_r5 v_greedy_First)
  (.blk 0 (.loop (.seq
  (.reg [0, 1, 2, 3, 4, 5, 6, 7, 14, 22, 23, 29, 38] c_greedy_First_r6 v_greedy_First)
  (.seq
  (.cond (.t 24) .skip (.exit 0))
  (.seq
  (.blk 1 (.seq
  (.reg [0, 1, 2, 3, 4, 5, 6, 7, 14, 22, 23, 24, 29, 38] c_greedy_First_r7 v_greedy_First)
  (.seq
  (.seq
  (.reg [0, 1, 2, 3, 4, 5, 6, 7, 14, 22, 23, 24, 38] c_greedy_First_r8 v_greedy_First)
  (.cond (.t 29) (.exit 1) .skip))
  (.seq
  (.draw [0, 1, 2, 3, 4, 5, 6, 7, 14, 22, 23, 24, 29, 38] c_greedy_First_r9 v_greedy_First)
  (.seq
  (.reg [0, 1, 2, 3, 4, 5, 6, 7, 14, 22, 23, 24, 29] c_greedy_First_r10 v_greedy_First)
  (.cond (.t 38) (.seq
  (.reg [0, 1, 2, 3, 4, 5, 6, 7, 14, 22, 23, 24, 29, 38] c_greedy_First_r11 v_greedy_First)
  (.draw [0, 1, 2, 3, 4, 5, 6, 7, 14, 22, 23, 24, 29, 38] c_greedy_First_r12 v_greedy_First)) .skip))))))
  (.reg [0, 1, 2, 3, 4, 5, 6, 7, 14, 22, 23, 24, 29, 38] c_greedy_First_r13 v_greedy_First)))))))
  (.seq
  (.reg [0, 1, 2, 3, 4, 5, 6, 7, 14, 22, 23, 24, 29, 38] c_greedy_First_r14 v_greedy_First)
  .ret))))))
abbrev n_greedy_First : Nat := 39
theorem s_greedy_First : stripF Try.prog [2] v_greedy_First Try.f39 = some (c_greedy_First, [(.tmp 2)]) := by kernel_rfl
theorem go_greedy_First {L : List (List Nat)} {args : List AVal} {h : Heap} {Q : AVal → Heap → Prop} (hl : args.length = 1) (H : Wlk Try.prog [2] Try.f39.ntmps v_greedy_First L c_greedy_First (ends L [(.tmp 2)] Q) (entry v_greedy_First args h)) : ACalls Try.prog L n_greedy_First args h Q :=
  acalls_of_strip mix Try.func39 s_greedy_First (by rw [hl]; exact Nat.le_of_ble_eq_true rfl) H
def c_single_Enlarge_r0 : List GOp := [(none, (.asg 4 (.c (.slice none 0 0)) true)),
  (none, (.alloc 5 [(.int .i64 0), (.int .i64 0)]))]
def c_single_Enlarge_r1 : List GOp := [(none, (.alloc 6 [(.int .i64 0), (.int .i64 0)]))]
def c_single_Enlarge_r2 : List GOp := [(none, (.r (.mov 11 (.t 0)))),
  (none, (.r (.mov 12 (.t 1)))),
  (none, (.call 13 (.f 57) [((.t 11), false), ((.t 12), false)])),
  (none, (.r (.mov 10 (.t 13)))),
  (none, (.r (.ext 14 (.t 10) 0))),
  (none, (.r (.ext 15 (.t 10) 1))),
  (none, (.r (.ext 16 (.t 10) 2))),
  (none, (.asg 7 (.t 14) true)),
  (none, (.asg 8 (.t 15) true)),
  (none, (.asg 9 (.t 16) true))]
def c_single_Enlarge_r3 : List GOp := [(none, (.r (.fldA 17 (.t 6) 0))),
  (none, (.r (.ld 18 (.t 17) 1 false))),
  (none, (.r (.bin 19 .add 0 (.t 18) (.c (.int .i64 1))))),
  (none, (.r (.fldA 20 (.t 6) 1))),
  (none, (.r (.ld 21 (.t 20) 1 false))),
  (none, (.r (.mov 22 (.t 9)))),
  (none, (.r (.mm 23 true (.t 21) (.t 22)))),
  (none, (.bld 24 [((0, 1), ((.t 19), true)), ((1, 1), ((.t 23), true))] [(.int .i64 0), (.int .i64 0)])),
  (none, (.st (.t 6) (.t 24) 2))]
def c_single_Enlarge_r4 : List GOp := [(none, (.r (.mov 25 (.t 7)))),
  (none, (.r (.bin 26 .eql 3 (.t 25) (.c (.slice none 0 0)))))]
def c_single_Enlarge_r5 : Tree := 
  (.take [2, 3] (none, (.r (.mov 27 (.t 8)))) 
  (.take [3] (none, (.r (.ld 28 (.t 6) 2 true))) 
  (.one 2 (none, (.asg 4 (.t 27) true)) 
  (.one 3 (none, (.st (.t 5) (.t 28) 2)) .done))))
def c_single_Enlarge_r6 : List GOp := [(none, (.r (.mov 29 (.t 1)))),
  (none, (.r (.mov 30 (.t 7)))),
  (none, (.call 31 (.f 58) [((.t 29), false), ((.t 30), false)]))]
def v_single_Enlarge : List Nat := [0, 1, 4, 5, 6, 7, 8, 9, 26]
def c_single_Enlarge : ACode :=
  (.seq
  (.reg [0, 1, 4, 6, 7, 8, 9, 26] c_single_Enlarge_r0 v_single_Enlarge)
  (.seq
  (.reg [0, 1, 4, 5, 7, 8, 9, 26] c_single_Enlarge_r1 v_single_Enlarge)
  (.blk 0 (.loop (.blk 1 (.seq
  (.reg [0, 1, 4, 5, 6, 7, 8, 9, 26] c_single_Enlarge_r2 v_single_Enlarge)
  (.seq
  (.reg [0, 1, 4, 5, 6, 7, 8, 9, 26] c_single_Enlarge_r3 v_single_Enlarge)
  (.seq
  (.seq
  (.reg [0, 1, 4, 5, 6, 7, 8, 9] c_single_Enlarge_r4 v_single_Enlarge)
  (.cond (.t 26) (.seq
  (.draw [0, 1, 4, 5, 6, 7, 8, 9, 26] c_single_Enlarge_r5 v_single_Enlarge)
  .ret) .skip))
  (.reg [0, 1, 4, 5, 6, 7, 8, 9, 26] c_single_Enlarge_r6 v_single_Enlarge)))))))))
abbrev n_single_Enlarge : Nat := 40
theorem s_single_Enlarge : stripF Try.prog [4] v_single_Enlarge Try.f40 = some (c_single_Enlarge, [(.tmp 4), (.cell 5 2 true)]) := by kernel_rfl
theorem go_single_Enlarge {L : List (List Nat)} {args : List AVal} {h : Heap} {Q : AVal → Heap → Prop} (hl : args.length = 2) (H : Wlk Try.prog [4] Try.f40.ntmps v_single_Enlarge L c_single_Enlarge (ends L [(.tmp 4), (.cell 5 2 true)] Q) (entry v_single_Enlarge args h)) : ACalls Try.prog L n_single_Enlarge args h Q :=
  acalls_of_strip mix Try.func40 s_single_Enlarge (by rw [hl]; exact Nat.le_of_ble_eq_true rfl) H
def c_graph_Lists_r0 : List GOp := [(none, (.asg 4 (.c (.slice none 0 0)) true))]
def c_graph_Lists_r1 : List GOp := [(none, (.r (.mov 10 (.t 0)))),
  (none, (.mk 11 (.t 10) (.t 10) 1 24 [(.slice none 0 0)])),
  (none, (.asg 5 (.t 11) true))]
def c_graph_Lists_r2 : List GOp := [(none, (.r (.mov 12 (.t 1)))),
  (none, (.r (.len 13 (.t 12)))),
  (none, (.r (.mov 14 (.c (.int .i64 0)))))]
def c_graph_Lists_r3 : List GOp := [(none, (.r (.bin 15 .lss 0 (.t 14) (.t 13))))]
def c_graph_Lists_r4 : List GOp := [(none, (.r (.idxA 16 (.t 12) (.t 14) 2))),
  (none, (.r (.ld 17 (.t 16) 2 true))),
  (none, (.alloc 7 [(.int .i64 0), (.int .i64 0)])),
  (none, (.st (.t 7) (.t 17) 2))]
def c_graph_Lists_r5 : Tree := 
  (.take [12, 13] (none, (.r (.mov 18 (.t 5)))) 
  (.take [2, 12, 13] (none, (.r (.fldA 19 (.t 7) 1))) 
  (.take [12, 13] (none, (.r (.ld 20 (.t 19) 1 false))) 
  (.take [6, 7, 11, 12, 13] (none, (.r (.mov 21 (.t 5)))) 
  (.take [5, 6, 7, 11, 12, 13] (none, (.r (.fldA 22 (.t 7) 1))) 
  (.take [6, 7, 11, 12, 13] (none, (.r (.ld 23 (.t 22) 1 false))) 
  (.take [7, 11, 12, 13] (none, (.r (.idxA 24 (.t 21) (.t 23) 1))) 
  (.take [11, 12, 13] (none, (.r (.ld 25 (.t 24) 1 false))) 
  (.take [9, 10, 11, 12, 13] (none, (.r (.fldA 26 (.t 7) 0))) 
  (.take [10, 11, 12, 13] (none, (.r (.ld 27 (.t 26) 1 false))) 
  (.one 10 (none, (.blds 28 1 1 [((0, 1), ((.t 27), true))] [(.int .i64 0)])) 
  (.one 11 (none, (.app 29 (.t 25) (.t 28) 1 8)) 
  (.take [13] (none, (.r (.idxA 30 (.t 18) (.t 20) 1))) 
  (.one 13 (none, (.st (.t 30) (.t 29) 1)) .done))))))))))))))
def c_graph_Lists_r6 : List GOp := [(none, (.r (.bin 31 .add 0 (.t 14) (.c (.int .i64 1))))),
  (none, (.asg 14 (.t 31) true))]
def c_graph_Lists_r7 : List GOp := [(none, (.r (.mov 32 (.t 1)))),
  (none, (.r (.len 33 (.t 32)))),
  (none, (.r (.mov 34 (.c (.int .i64 0)))))]
def c_graph_Lists_r8 : List GOp := [(none, (.r (.bin 35 .lss 0 (.t 34) (.t 33))))]
def c_graph_Lists_r9 : List GOp := [(none, (.r (.idxA 36 (.t 32) (.t 34) 2))),
  (none, (.r (.ld 37 (.t 36) 2 true))),
  (none, (.alloc 9 [(.int .i64 0), (.int .i64 0)])),
  (none, (.st (.t 9) (.t 37) 2))]
def c_graph_Lists_r10 : Tree := 
  (.take [12, 13] (none, (.r (.mov 38 (.t 5)))) 
  (.take [2, 12, 13] (none, (.r (.fldA 39 (.t 9) 0))) 
  (.take [12, 13] (none, (.r (.ld 40 (.t 39) 1 false))) 
  (.take [6, 7, 11, 12, 13] (none, (.r (.mov 41 (.t 5)))) 
  (.take [5, 6, 7, 11, 12, 13] (none, (.r (.fldA 42 (.t 9) 0))) 
  (.take [6, 7, 11, 12, 13] (none, (.r (.ld 43 (.t 42) 1 false))) 
  (.take [7, 11, 12, 13] (none, (.r (.idxA 44 (.t 41) (.t 43) 1))) 
  (.take [11, 12, 13] (none, (.r (.ld 45 (.t 44) 1 false))) 
  (.take [9, 10, 11, 12, 13] (none, (.r (.fldA 46 (.t 9) 1))) 
  (.take [10, 11, 12, 13] (none, (.r (.ld 47 (.t 46) 1 false))) 
  (.one 10 (none, (.blds 48 1 1 [((0, 1), ((.t 47), true))] [(.int .i64 0)])) 
  (.one 11 (none, (.app 49 (.t 45) (.t 48) 1 8)) 
  (.take [13] (none, (.r (.idxA 50 (.t 38) (.t 40) 1))) 
  (.one 13 (none, (.st (.t 50) (.t 49) 1)) .done))))))))))))))
def c_graph_Lists_r11 : List GOp := [(none, (.r (.bin 51 .add 0 (.t 34) (.c (.int .i64 1))))),
  (none, (.asg 34 (.t 51) true))]
def c_graph_Lists_r12 : List GOp := [(none, (.r (.mov 52 (.t 5)))),
  (none, (.asg 4 (.t 52) true))]
def v_graph_Lists : List Nat := [0, 1, 4, 5, 7, 9, 12, 13, 14, 15, 32, 33, 34, 35]
def c_graph_Lists : ACode :=
  (.seq
  (.reg [0, 1, 4, 5, 7, 9, 12, 13, 14, 15, 32, 33, 34, 35] c_graph_Lists_r0 v_graph_Lists)
  (.seq
  (.reg [0, 1, 4, 5, 7, 9, 12, 13, 14, 15, 32, 33, 34, 35] c_graph_Lists_r1 v_graph_Lists)
  (.seq
  (.seq
  (.reg [0, 1, 4, 5, 7, 9, 15, 32, 33, 34, 35] c_graph_Lists_r2 v_graph_Lists)
  (.blk 0 (.loop (.seq
  (.reg [0, 1, 4, 5, 7, 9, 12, 13, 14, 32, 33, 34, 35] c_graph_Lists_r3 v_graph_Lists)
  (.seq
  (.cond (.t 15) .skip (.exit 0))
  (.seq
  (.blk 1 (.seq
  (.reg [0, 1, 4, 5, 9, 12, 13, 14, 15, 32, 33, 34, 35] c_graph_Lists_r4 v_graph_Lists)
  (.draw [0, 1, 4, 5, 7, 9, 12, 13, 14, 15, 32, 33, 34, 35] c_graph_Lists_r5 v_graph_Lists)))
  (.reg [0, 1, 4, 5, 7, 9, 12, 13, 14, 15, 32, 33, 34, 35] c_graph_Lists_r6 v_graph_Lists)))))))
  (.seq
  (.seq
  (.reg [0, 1, 4, 5, 7, 9, 12, 13, 14, 15, 35] c_graph_Lists_r7 v_graph_Lists)
  (.blk 2 (.loop (.seq
  (.reg [0, 1, 4, 5, 7, 9, 12, 13, 14, 15, 32, 33, 34] c_graph_Lists_r8 v_graph_Lists)
  (.seq
  (.cond (.t 35) .skip (.exit 2))
  (.seq
  (.blk 3 (.seq
  (.reg [0, 1, 4, 5, 7, 12, 13, 14, 15, 32, 33, 34, 35] c_graph_Lists_r9 v_graph_Lists)
  (.draw [0, 1, 4, 5, 7, 9, 12, 13, 14, 15, 32, 33, 34, 35] c_graph_Lists_r10 v_graph_Lists)))
  (.reg [0, 1, 4, 5, 7, 9, 12, 13, 14, 15, 32, 33, 34, 35] c_graph_Lists_r11 v_graph_Lists)))))))
  (.seq
  (.reg [0, 1, 4, 5, 7, 9, 12, 13, 14, 15, 32, 33, 34, 35] c_graph_Lists_r12 v_graph_Lists)
  .ret)))))
abbrev n_graph_Lists : Nat := 41
theorem s_graph_Lists : stripF Try.prog [4] v_graph_Lists Try.f41 = some (c_graph_Lists, [(.tmp 4)]) := by kernel_rfl
theorem go_graph_Lists {L : List (List Nat)} {args : List AVal} {h : Heap} {Q : AVal → Heap → Prop} (hl : args.length = 2) (H : Wlk Try.prog [4] Try.f41.ntmps v_graph_Lists L c_graph_Lists (ends L [(.tmp 4)] Q) (entry v_graph_Lists args h)) : ACalls Try.prog L n_graph_Lists args h Q :=
  acalls_of_strip mix Try.func41 s_graph_Lists (by rw [hl]; exact Nat.le_of_ble_eq_true rfl) H
def c_single_Path_r0 : List GOp := [(none, (.box 2 (.t 0))),
  (none, (.asg 4 (.c (.slice none 0 0)) true)),
  (none, (.asg 5 (.c (.slice none 0 0)) true)),
  (none, (.asg 6 (.c (.int .i64 0)) true))]
def c_single_Path_r1 : List GOp := [(none, (.r (.ld 11 (.t 2) 2 true))),
  (none, (.call 12 (.f 38) [((.t 11), false)])),
  (none, (.r (.notb 13 (.t 12)))),
  (none, (.asg 10 (.t 13) true))]
def c_single_Path_r2 : List GOp := [(none, (.asg 4 (.c (.slice none 0 0)) true)),
  (none, (.asg 5 (.c (.slice none 0 0)) true)),
  (none, (.asg 6 (.c (.int .i64 3)) true))]
def c_single_Path_r3 : List GOp := [(none, (.r (.ld 15 (.t 2) 2 true))),
  (none, (.r (.mov 16 (.t 1)))),
  (none, (.call 17 (.f 62) [((.t 15), false), ((.t 16), false)])),
  (none, (.r (.notb 18 (.t 17)))),
  (none, (.asg 14 (.t 18) true))]
def c_single_Path_r4 : List GOp := [(none, (.asg 4 (.c (.slice none 0 0)) true)),
  (none, (.asg 5 (.c (.slice none 0 0)) true)),
  (none, (.asg 6 (.c (.int .i64 9)) true))]
def c_single_Path_r5 : List GOp := [(none, (.r (.fldA 20 (.t 2) 0))),
  (none, (.r (.ld 21 (.t 20) 1 false))),
  (none, (.r (.fldA 22 (.t 2) 1))),
  (none, (.r (.ld 23 (.t 22) 1 false))),
  (none, (.call 24 (.f 41) [((.t 21), false), ((.t 23), false)])),
  (none, (.r (.mov 25 (.t 1)))),
  (none, (.call 26 (.f 57) [((.t 24), false), ((.t 25), false)])),
  (none, (.r (.mov 19 (.t 26)))),
  (none, (.r (.ext 27 (.t 19) 0))),
  (none, (.r (.ext 28 (.t 19) 1))),
  (none, (.r (.ext 29 (.t 19) 2))),
  (none, (.asg 7 (.t 27) true)),
  (none, (.asg 8 (.t 28) true)),
  (none, (.asg 9 (.t 29) true))]
def c_single_Path_r6 : List GOp := [(none, (.r (.mov 30 (.t 7)))),
  (none, (.r (.mov 31 (.t 8)))),
  (none, (.asg 4 (.t 30) true)),
  (none, (.asg 5 (.t 31) true)),
  (none, (.asg 6 (.c (.int .i64 0)) true))]
def v_single_Path : List Nat := [0, 1, 2, 4, 5, 6, 7, 8, 9, 10, 14]
def c_single_Path : ACode :=
  (.seq
  (.reg [0, 1, 4, 5, 6, 7, 8, 9, 10, 14] c_single_Path_r0 v_single_Path)
  (.seq
  (.blk 0 (.seq
  (.reg [0, 1, 2, 4, 5, 6, 7, 8, 9, 10, 14] c_single_Path_r1 v_single_Path)
  (.cond (.t 10) (.seq
  (.reg [0, 1, 2, 4, 5, 6, 7, 8, 9, 10, 14] c_single_Path_r2 v_single_Path)
  .ret) (.seq
  (.reg [0, 1, 2, 4, 5, 6, 7, 8, 9, 10, 14] c_single_Path_r3 v_single_Path)
  (.cond (.t 14) (.seq
  (.reg [0, 1, 2, 4, 5, 6, 7, 8, 9, 10, 14] c_single_Path_r4 v_single_Path)
  .ret) .skip)))))
  (.seq
  (.reg [0, 1, 2, 4, 5, 6, 7, 8, 9, 10, 14] c_single_Path_r5 v_single_Path)
  (.seq
  (.reg [0, 1, 2, 4, 5, 6, 7, 8, 9, 10, 14] c_single_Path_r6 v_single_Path)
  .ret))))
abbrev n_single_Path : Nat := 49
theorem s_single_Path : stripF Try.prog [4, 5, 6] v_single_Path Try.f49 = some (c_single_Path, [(.tmp 4), (.tmp 5), (.tmp 6)]) := by kernel_rfl
theorem go_single_Path {L : List (List Nat)} {args : List AVal} {h : Heap} {Q : AVal → Heap → Prop} (hl : args.length = 2) (H : Wlk Try.prog [4, 5, 6] Try.f49.ntmps v_single_Path L c_single_Path (ends L [(.tmp 4), (.tmp 5), (.tmp 6)] Q) (entry v_single_Path args h)) : ACalls Try.prog L n_single_Path args h Q :=
  acalls_of_strip mix Try.func49 s_single_Path (by rw [hl]; exact Nat.le_of_ble_eq_true rfl) H
def c_barrier_Such_r0 : List GOp := [(none, (.asg 4 (.c (.slice none 0 0)) true))]
def c_barrier_Such_r1 : List GOp := [(none, (.asg 5 (.c (.slice none 0 0)) true))]
def c_barrier_Such_r2 : List GOp := [(none, (.r (.mov 8 (.t 0)))),
  (none, (.r (.len 9 (.t 8)))),
  (none, (.r (.mov 10 (.c (.int .i64 0)))))]
def c_barrier_Such_r3 : List GOp := [(none, (.r (.bin 11 .lss 0 (.t 10) (.t 9))))]
def c_barrier_Such_r4 : List GOp := [(none, (.r (.mov 12 (.t 10)))),
  (none, (.r (.idxA 13 (.t 8) (.t 10) 1))),
  (none, (.r (.ld 14 (.t 13) 1 false))),
  (none, (.asg 6 (.t 12) true)),
  (none, (.asg 7 (.t 14) true))]
def c_barrier_Such_r5 : List GOp := [(none, (.r (.mov 15 (.t 7)))),
  (none, (.r (.mov 16 (.t 1)))),
  (none, (.r (.bin 17 .eql 0 (.t 15) (.t 16))))]
def c_barrier_Such_r6 : List GOp := [(none, (.r (.mov 18 (.t 5)))),
  (none, (.r (.mov 19 (.t 6)))),
  (none, (.blds 20 1 1 [((0, 1), ((.t 19), true))] [(.int .i64 0)])),
  (none, (.app 21 (.t 18) (.t 20) 1 8)),
  (none, (.asg 5 (.t 21) true))]
def c_barrier_Such_r7 : List GOp := [(none, (.r (.bin 22 .add 0 (.t 10) (.c (.int .i64 1))))),
  (none, (.asg 10 (.t 22) true))]
def c_barrier_Such_r8 : List GOp := [(none, (.r (.mov 23 (.t 5)))),
  (none, (.asg 4 (.t 23) true))]
def v_barrier_Such : List Nat := [0, 1, 4, 5, 6, 7, 8, 9, 10, 11, 17]
def c_barrier_Such : ACode :=
  (.seq
  (.reg [0, 1, 4, 5, 6, 7, 8, 9, 10, 11, 17] c_barrier_Such_r0 v_barrier_Such)
  (.seq
  (.reg [0, 1, 4, 5, 6, 7, 8, 9, 10, 11, 17] c_barrier_Such_r1 v_barrier_Such)
  (.seq
  (.seq
  (.reg [0, 1, 4, 5, 6, 7, 11, 17] c_barrier_Such_r2 v_barrier_Such)
  (.blk 0 (.loop (.seq
  (.reg [0, 1, 4, 5, 6, 7, 8, 9, 10, 17] c_barrier_Such_r3 v_barrier_Such)
  (.seq
  (.cond (.t 11) .skip (.exit 0))
  (.seq
  (.blk 1 (.seq
  (.reg [0, 1, 4, 5, 6, 7, 8, 9, 10, 11, 17] c_barrier_Such_r4 v_barrier_Such)
  (.seq
  (.reg [0, 1, 4, 5, 6, 7, 8, 9, 10, 11] c_barrier_Such_r5 v_barrier_Such)
  (.cond (.t 17) (.reg [0, 1, 4, 5, 6, 7, 8, 9, 10, 11, 17] c_barrier_Such_r6 v_barrier_Such) .skip))))
  (.reg [0, 1, 4, 5, 6, 7, 8, 9, 10, 11, 17] c_barrier_Such_r7 v_barrier_Such)))))))
  (.seq
  (.reg [0, 1, 4, 5, 6, 7, 8, 9, 10, 11, 17] c_barrier_Such_r8 v_barrier_Such)
  .ret))))
abbrev n_barrier_Such : Nat := 50
theorem s_barrier_Such : stripF Try.prog [4] v_barrier_Such Try.f50 = some (c_barrier_Such, [(.tmp 4)]) := by kernel_rfl
theorem go_barrier_Such {L : List (List Nat)} {args : List AVal} {h : Heap} {Q : AVal → Heap → Prop} (hl : args.length = 2) (H : Wlk Try.prog [4] Try.f50.ntmps v_barrier_Such L c_barrier_Such (ends L [(.tmp 4)] Q) (entry v_barrier_Such args h)) : ACalls Try.prog L n_barrier_Such args h Q :=
  acalls_of_strip mix Try.func50 s_barrier_Such (by rw [hl]; exact Nat.le_of_ble_eq_true rfl) H
def c_pieces_Of_r0 : List GOp := [(none, (.asg 4 (.c (.slice none 0 0)) true))]
def c_pieces_Of_r1 : List GOp := [(none, (.r (.mov 10 (.t 0)))),
  (none, (.r (.mov 11 (.t 0)))),
  (none, (.r (.len 12 (.t 11)))),
  (none, (.mk 13 (.t 12) (.t 12) 1 1 [(.bool false)])),
  (none, (.bld 14 [((0, 1), ((.t 10), true)), ((1, 1), ((.t 13), true))] [(.slice none 0 0), (.slice none 0 0), (.slice none 0 0), (.slice none 0 0)])),
  (none, (.box 15 (.t 14))),
  (none, (.asg 5 (.t 15) true))]
def c_pieces_Of_r2 : List GOp := [(none, (.r (.mov 16 (.t 1)))),
  (none, (.r (.len 17 (.t 16)))),
  (none, (.r (.mov 18 (.c (.int .i64 0)))))]
def c_pieces_Of_r3 : List GOp := [(none, (.r (.bin 19 .lss 0 (.t 18) (.t 17))))]
def c_pieces_Of_r4 : List GOp := [(none, (.r (.idxA 20 (.t 16) (.t 18) 1))),
  (none, (.r (.ld 21 (.t 20) 1 false))),
  (none, (.asg 7 (.t 21) true))]
def c_pieces_Of_r5 : List GOp := [(none, (.r (.mov 22 (.t 7)))),
  (none, (.r (.bin 23 .geq 0 (.t 22) (.c (.int .i64 0))))),
  (none, (.r (.mov 24 (.t 23)))), ((some (24, true)), (.r (.mov 25 (.t 7)))), ((some (24, true)), (.r (.mov 26 (.t 0)))), ((some (24, true)), (.r (.len 27 (.t 26)))), ((some (24, true)), (.r (.bin 28 .lss 0 (.t 25) (.t 27)))),
  (none, (.r (.pick 29 (.t 24) (.t 28) (.c (.bool false)))))]
def c_pieces_Of_r6 : List GOp := [(none, (.r (.mov 30 (.t 5)))),
  (none, (.r (.nilck 31 (.t 30)))),
  (none, (.r (.fldA 32 (.t 31) 1))),
  (none, (.r (.ld 33 (.t 32) 1 false))),
  (none, (.r (.mov 34 (.t 7)))),
  (none, (.r (.idxA 35 (.t 33) (.t 34) 1))),
  (none, (.st (.t 35) (.c (.bool true)) 1))]
def c_pieces_Of_r7 : List GOp := [(none, (.r (.bin 36 .add 0 (.t 18) (.c (.int .i64 1))))),
  (none, (.asg 18 (.t 36) true))]
def c_pieces_Of_r8 : List GOp := [(none, (.asg 8 (.c (.slice none 0 0)) true))]
def c_pieces_Of_r9 : List GOp := [(none, (.r (.mov 37 (.t 0)))),
  (none, (.r (.len 38 (.t 37)))),
  (none, (.r (.mov 39 (.c (.int .i64 0)))))]
def c_pieces_Of_r10 : List GOp := [(none, (.r (.bin 40 .lss 0 (.t 39) (.t 38))))]
def c_pieces_Of_r11 : List GOp := [(none, (.r (.mov 41 (.t 39)))),
  (none, (.asg 9 (.t 41) true))]
def c_pieces_Of_r12 : List GOp := [(none, (.r (.mov 42 (.t 5)))),
  (none, (.r (.nilck 43 (.t 42)))),
  (none, (.r (.fldA 44 (.t 43) 1))),
  (none, (.r (.ld 45 (.t 44) 1 false))),
  (none, (.r (.mov 46 (.t 9)))),
  (none, (.r (.idxA 47 (.t 45) (.t 46) 1))),
  (none, (.r (.ld 48 (.t 47) 1 false))),
  (none, (.r (.notb 49 (.t 48))))]
def c_pieces_Of_r13 : List GOp := [(none, (.r (.mov 50 (.t 8)))),
  (none, (.r (.mov 51 (.t 5)))),
  (none, (.r (.mov 52 (.t 9)))),
  (none, (.call 53 (.f 63) [((.t 51), false), ((.t 52), false)])),
  (none, (.blds 54 1 1 [((0, 1), ((.t 53), true))] [(.slice none 0 0)])),
  (none, (.app 55 (.t 50) (.t 54) 1 24)),
  (none, (.asg 8 (.t 55) true))]
def c_pieces_Of_r14 : List GOp := [(none, (.r (.bin 56 .add 0 (.t 39) (.c (.int .i64 1))))),
  (none, (.asg 39 (.t 56) true))]
def c_pieces_Of_r15 : List GOp := [(none, (.r (.mov 57 (.t 8)))),
  (none, (.asg 4 (.t 57) true))]
def v_pieces_Of : List Nat := [0, 1, 4, 5, 7, 8, 9, 16, 17, 18, 19, 29, 38, 39, 40, 49]
def c_pieces_Of : ACode :=
  (.seq
  (.reg [0, 1, 4, 5, 7, 8, 9, 16, 17, 18, 19, 29, 38, 39, 40, 49] c_pieces_Of_r0 v_pieces_Of)
  (.seq
  (.reg [0, 1, 4, 5, 7, 8, 9, 16, 17, 18, 19, 29, 38, 39, 40, 49] c_pieces_Of_r1 v_pieces_Of)
  (.seq
  (.seq
  (.reg [0, 1, 4, 5, 7, 8, 9, 19, 29, 38, 39, 40, 49] c_pieces_Of_r2 v_pieces_Of)
  (.blk 0 (.loop (.seq
  (.reg [0, 1, 4, 5, 7, 8, 9, 16, 17, 18, 29, 38, 39, 40, 49] c_pieces_Of_r3 v_pieces_Of)
  (.seq
  (.cond (.t 19) .skip (.exit 0))
  (.seq
  (.blk 1 (.seq
  (.reg [0, 1, 4, 5, 7, 8, 9, 16, 17, 18, 19, 29, 38, 39, 40, 49] c_pieces_Of_r4 v_pieces_Of)
  (.seq
  (.reg [0, 1, 4, 5, 7, 8, 9, 16, 17, 18, 19, 38, 39, 40, 49] c_pieces_Of_r5 v_pieces_Of)
  (.cond (.t 29) (.reg [0, 1, 4, 5, 7, 8, 9, 16, 17, 18, 19, 29, 38, 39, 40, 49] c_pieces_Of_r6 v_pieces_Of) .skip))))
  (.reg [0, 1, 4, 5, 7, 8, 9, 16, 17, 18, 19, 29, 38, 39, 40, 49] c_pieces_Of_r7 v_pieces_Of)))))))
  (.seq
  (.reg [0, 1, 4, 5, 7, 8, 9, 16, 17, 18, 19, 29, 38, 39, 40, 49] c_pieces_Of_r8 v_pieces_Of)
  (.seq
  (.seq
  (.reg [0, 1, 4, 5, 7, 8, 9, 16, 17, 18, 19, 29, 40, 49] c_pieces_Of_r9 v_pieces_Of)
  (.blk 2 (.loop (.seq
  (.reg [0, 1, 4, 5, 7, 8, 9, 16, 17, 18, 19, 29, 38, 39, 49] c_pieces_Of_r10 v_pieces_Of)
  (.seq
  (.cond (.t 40) .skip (.exit 2))
  (.seq
  (.blk 3 (.seq
  (.reg [0, 1, 4, 5, 7, 8, 9, 16, 17, 18, 19, 29, 38, 39, 40, 49] c_pieces_Of_r11 v_pieces_Of)
  (.seq
  (.reg [0, 1, 4, 5, 7, 8, 9, 16, 17, 18, 19, 29, 38, 39, 40] c_pieces_Of_r12 v_pieces_Of)
  (.cond (.t 49) (.reg [0, 1, 4, 5, 7, 8, 9, 16, 17, 18, 19, 29, 38, 39, 40, 49] c_pieces_Of_r13 v_pieces_Of) .skip))))
  (.reg [0, 1, 4, 5, 7, 8, 9, 16, 17, 18, 19, 29, 38, 39, 40, 49] c_pieces_Of_r14 v_pieces_Of)))))))
  (.seq
  (.reg [0, 1, 4, 5, 7, 8, 9, 16, 17, 18, 19, 29, 38, 39, 40, 49] c_pieces_Of_r15 v_pieces_Of)
  .ret))))))
abbrev n_pieces_Of : Nat := 51
theorem s_pieces_Of : stripF Try.prog [4] v_pieces_Of Try.f51 = some (c_pieces_Of, [(.tmp 4)]) := by kernel_rfl
theorem go_pieces_Of {L : List (List Nat)} {args : List AVal} {h : Heap} {Q : AVal → Heap → Prop} (hl : args.length = 2) (H : Wlk Try.prog [4] Try.f51.ntmps v_pieces_Of L c_pieces_Of (ends L [(.tmp 4)] Q) (entry v_pieces_Of args h)) : ACalls Try.prog L n_pieces_Of args h Q :=
  acalls_of_strip mix Try.func51 s_pieces_Of (by rw [hl]; exact Nat.le_of_ble_eq_true rfl) H
def c_slices_Grow___int_int__r0 : List GOp := [(none, (.asg 4 (.c (.slice none 0 0)) true))]
def c_slices_Grow___int_int__r1 : List GOp := [(none, (.r (.mov 5 (.t 1)))),
  (none, (.r (.bin 6 .lss 0 (.t 5) (.c (.int .i64 0)))))]
def c_slices_Grow___int_int__r2 : List GOp := [(none, (.bad (some 7))),
  (none, (.bad none))]
def c_slices_Grow___int_int__r3 : List GOp := [(none, (.r (.mov 8 (.t 1)))),
  (none, (.r (.mov 9 (.t 0)))),
  (none, (.capq 10 (.t 9))),
  (none, (.r (.mov 11 (.t 0)))),
  (none, (.r (.len 12 (.t 11)))),
  (none, (.r (.bin 13 .sub 0 (.t 10) (.t 12)))),
  (none, (.r (.bin 14 .sub 0 (.t 8) (.t 13)))),
  (none, (.asg 1 (.t 14) true))]
def c_slices_Grow___int_int__r4 : List GOp := [(none, (.r (.mov 15 (.t 1)))),
  (none, (.r (.bin 16 .gtr 0 (.t 15) (.c (.int .i64 0)))))]
def c_slices_Grow___int_int__r5 : List GOp := [(none, (.r (.mov 17 (.t 0)))),
  (none, (.r (.mov 18 (.t 0)))),
  (none, (.capq 19 (.t 18))),
  (none, (.slc 20 (.t 17) none (some (.t 19)) 1)),
  (none, (.r (.mov 21 (.t 1)))),
  (none, (.appz 22 (.t 20) (.t 21) 1 8 [(.int .i64 0)])),
  (none, (.r (.mov 23 (.t 0)))),
  (none, (.r (.len 24 (.t 23)))),
  (none, (.slc 25 (.t 22) none (some (.t 24)) 1)),
  (none, (.asg 0 (.t 25) true))]
def c_slices_Grow___int_int__r6 : List GOp := [(none, (.r (.mov 26 (.t 0)))),
  (none, (.asg 4 (.t 26) true))]
def v_slices_Grow___int_int_ : List Nat := [0, 1, 4, 6, 16]
def c_slices_Grow___int_int_ : ACode :=
  (.seq
  (.reg [0, 1, 4, 6, 16] c_slices_Grow___int_int__r0 v_slices_Grow___int_int_)
  (.seq
  (.seq
  (.reg [0, 1, 4, 16] c_slices_Grow___int_int__r1 v_slices_Grow___int_int_)
  (.cond (.t 6) (.reg [0, 1, 4, 6, 16] c_slices_Grow___int_int__r2 v_slices_Grow___int_int_) .skip))
  (.seq
  (.seq
  (.reg [0, 1, 4, 6, 16] c_slices_Grow___int_int__r3 v_slices_Grow___int_int_)
  (.seq
  (.reg [0, 1, 4, 6] c_slices_Grow___int_int__r4 v_slices_Grow___int_int_)
  (.cond (.t 16) (.reg [0, 1, 4, 6, 16] c_slices_Grow___int_int__r5 v_slices_Grow___int_int_) .skip)))
  (.seq
  (.reg [0, 1, 4, 6, 16] c_slices_Grow___int_int__r6 v_slices_Grow___int_int_)
  .ret))))
abbrev n_slices_Grow___int_int_ : Nat := 52
theorem s_slices_Grow___int_int_ : stripF Try.prog [4] v_slices_Grow___int_int_ Try.f52 = some (c_slices_Grow___int_int_, [(.tmp 4)]) := by kernel_rfl
theorem go_slices_Grow___int_int_ {L : List (List Nat)} {args : List AVal} {h : Heap} {Q : AVal → Heap → Prop} (hl : args.length = 2) (H : Wlk Try.prog [4] Try.f52.ntmps v_slices_Grow___int_int_ L c_slices_Grow___int_int_ (ends L [(.tmp 4)] Q) (entry v_slices_Grow___int_int_ args h)) : ACalls Try.prog L n_slices_Grow___int_int_ args h Q :=
  acalls_of_strip mix Try.func52 s_slices_Grow___int_int_ (by rw [hl]; exact Nat.le_of_ble_eq_true rfl) H
def c_graph_order_compare_r0 : List GOp := [(none, (.box 3 (.t 0))),
  (none, (.box 4 (.t 1))),
  (none, (.box 5 (.t 2))),
  (none, (.asg 6 (.c (.int .i64 0)) true))]
def c_graph_order_compare_r1 : Tree := 
  (.take [1, 4, 9, 10, 11, 12] (none, (.r (.fldA 7 (.t 4) 0))) 
  (.take [4, 9, 10, 11, 12] (none, (.r (.ld 8 (.t 7) 1 false))) 
  (.take [3, 4, 9, 10, 11, 12] (none, (.r (.fldA 9 (.t 5) 0))) 
  (.take [4, 9, 10, 11, 12] (none, (.r (.ld 10 (.t 9) 1 false))) 
  (.take [6, 9, 10, 11, 12] (none, (.r (.fldA 12 (.t 4) 1))) 
  (.take [9, 10, 11, 12] (none, (.r (.ld 13 (.t 12) 1 false))) 
  (.take [8, 9, 10, 11, 12] (none, (.r (.fldA 14 (.t 5) 1))) 
  (.take [9, 10, 11, 12] (none, (.r (.ld 15 (.t 14) 1 false))) 
  (.one 4 (none, (.call 11 (.f 65) [((.t 8), false), ((.t 10), false)])) 
  (.one 9 (none, (.call 16 (.f 65) [((.t 13), false), ((.t 15), false)])) 
  (.one 10 (none, (.blds 17 2 1 [((0, 1), ((.t 11), true)), ((1, 1), ((.t 16), true))] [(.int .i64 0)])) 
  (.one 11 (none, (.call 18 (.f 64) [((.t 17), false)])) 
  (.one 12 (none, (.asg 6 (.t 18) true)) .done)))))))))))))
def v_graph_order_compare : List Nat := [0, 1, 2, 4, 5, 6]
def c_graph_order_compare : ACode :=
  (.seq
  (.reg [0, 1, 2, 6] c_graph_order_compare_r0 v_graph_order_compare)
  (.seq
  (.draw [0, 1, 2, 4, 5, 6] c_graph_order_compare_r1 v_graph_order_compare)
  .ret))
abbrev n_graph_order_compare : Nat := 53
theorem s_graph_order_compare : stripF Try.prog [6] v_graph_order_compare Try.f53 = some (c_graph_order_compare, [(.tmp 6)]) := by kernel_rfl
theorem go_graph_order_compare {L : List (List Nat)} {args : List AVal} {h : Heap} {Q : AVal → Heap → Prop} (hl : args.length = 3) (H : Wlk Try.prog [6] Try.f53.ntmps v_graph_order_compare L c_graph_order_compare (ends L [(.tmp 6)] Q) (entry v_graph_order_compare args h)) : ACalls Try.prog L n_graph_order_compare args h Q :=
  acalls_of_strip mix Try.func53 s_graph_order_compare (by rw [hl]; exact Nat.le_of_ble_eq_true rfl) H
def c_mates_None_r0 : List GOp := [(none, (.box 1 (.t 0))),
  (none, (.asg 2 (.c (.slice none 0 0)) true))]
def c_mates_None_r1 : List GOp := [(none, (.r (.ld 3 (.t 1) 2 true))),
  (none, (.call 4 (.f 38) [((.t 3), false)])),
  (none, (.r (.notb 5 (.t 4))))]
def c_mates_None_r2 : List GOp := [(none, (.asg 2 (.c (.slice none 0 0)) true))]
def c_mates_None_r3 : List GOp := [(none, (.blds 6 1 1 [((0, 1), ((.c (.int .i64 (-(0 + 1)))), true))] [(.int .i64 0)])),
  (none, (.r (.fldA 7 (.t 1) 0))),
  (none, (.r (.ld 8 (.t 7) 1 false))),
  (none, (.call 9 (.f 66) [((.t 6), false), ((.t 8), false)])),
  (none, (.asg 2 (.t 9) true))]
def v_mates_None : List Nat := [0, 1, 2, 5]
def c_mates_None : ACode :=
  (.seq
  (.reg [0, 2, 5] c_mates_None_r0 v_mates_None)
  (.seq
  (.seq
  (.reg [0, 1, 2] c_mates_None_r1 v_mates_None)
  (.cond (.t 5) (.seq
  (.reg [0, 1, 2, 5] c_mates_None_r2 v_mates_None)
  .ret) .skip))
  (.seq
  (.reg [0, 1, 2, 5] c_mates_None_r3 v_mates_None)
  .ret)))
abbrev n_mates_None : Nat := 54
theorem s_mates_None : stripF Try.prog [2] v_mates_None Try.f54 = some (c_mates_None, [(.tmp 2)]) := by kernel_rfl
theorem go_mates_None {L : List (List Nat)} {args : List AVal} {h : Heap} {Q : AVal → Heap → Prop} (hl : args.length = 1) (H : Wlk Try.prog [2] Try.f54.ntmps v_mates_None L c_mates_None (ends L [(.tmp 2)] Q) (entry v_mates_None args h)) : ACalls Try.prog L n_mates_None args h Q :=
  acalls_of_strip mix Try.func54 s_mates_None (by rw [hl]; exact Nat.le_of_ble_eq_true rfl) H
def c_greedy_search_free_r0 : List GOp := [(none, (.box 2 (.t 0))),
  (none, (.asg 4 (.c (.bool false)) true))]
def c_greedy_search_free_r1 : List GOp := [(none, (.r (.fldA 5 (.t 2) 0))),
  (none, (.r (.ld 6 (.t 5) 1 false))),
  (none, (.r (.mov 7 (.t 1)))),
  (none, (.r (.idxA 8 (.t 6) (.t 7) 1))),
  (none, (.r (.ld 9 (.t 8) 1 false))),
  (none, (.r (.bin 10 .lss 0 (.t 9) (.c (.int .i64 0))))),
  (none, (.asg 4 (.t 10) true))]
def v_greedy_search_free : List Nat := [0, 1, 2, 4]
def c_greedy_search_free : ACode :=
  (.seq
  (.reg [0, 1, 4] c_greedy_search_free_r0 v_greedy_search_free)
  (.seq
  (.reg [0, 1, 2, 4] c_greedy_search_free_r1 v_greedy_search_free)
  .ret))
abbrev n_greedy_search_free : Nat := 55
theorem s_greedy_search_free : stripF Try.prog [4] v_greedy_search_free Try.f55 = some (c_greedy_search_free, [(.tmp 4)]) := by kernel_rfl
theorem go_greedy_search_free {L : List (List Nat)} {args : List AVal} {h : Heap} {Q : AVal → Heap → Prop} (hl : args.length = 2) (H : Wlk Try.prog [4] Try.f55.ntmps v_greedy_search_free L c_greedy_search_free (ends L [(.tmp 4)] Q) (entry v_greedy_search_free args h)) : ACalls Try.prog L n_greedy_search_free args h Q :=
  acalls_of_strip mix Try.func55 s_greedy_search_free (by rw [hl]; exact Nat.le_of_ble_eq_true rfl) H
def c_slices_IndexFunc___int_int__r0 : List GOp := [(none, (.asg 4 (.c (.int .i64 0)) true))]
def c_slices_IndexFunc___int_int__r1 : List GOp := [(none, (.r (.mov 6 (.t 0)))),
  (none, (.r (.len 7 (.t 6)))),
  (none, (.r (.mov 8 (.c (.int .i64 0)))))]
def c_slices_IndexFunc___int_int__r2 : List GOp := [(none, (.r (.bin 9 .lss 0 (.t 8) (.t 7))))]
def c_slices_IndexFunc___int_int__r3 : List GOp := [(none, (.r (.mov 10 (.t 8)))),
  (none, (.asg 5 (.t 10) true))]
def c_slices_IndexFunc___int_int__r4 : List GOp := [(none, (.r (.mov 11 (.t 1)))),
  (none, (.r (.mov 12 (.t 0)))),
  (none, (.r (.mov 13 (.t 5)))),
  (none, (.r (.idxA 14 (.t 12) (.t 13) 1))),
  (none, (.r (.ld 15 (.t 14) 1 false))),
  (none, (.call 16 (.t 11) [((.t 15), false)]))]
def c_slices_IndexFunc___int_int__r5 : List GOp := [(none, (.r (.mov 17 (.t 5)))),
  (none, (.asg 4 (.t 17) true))]
def c_slices_IndexFunc___int_int__r6 : List GOp := [(none, (.r (.bin 18 .add 0 (.t 8) (.c (.int .i64 1))))),
  (none, (.asg 8 (.t 18) true))]
def c_slices_IndexFunc___int_int__r7 : List GOp := [(none, (.asg 4 (.c (.int .i64 (-(0 + 1)))) true))]
def v_slices_IndexFunc___int_int_ : List Nat := [0, 1, 4, 5, 7, 8, 9, 16]
def c_slices_IndexFunc___int_int_ : ACode :=
  (.seq
  (.reg [0, 1, 4, 5, 7, 8, 9, 16] c_slices_IndexFunc___int_int__r0 v_slices_IndexFunc___int_int_)
  (.seq
  (.seq
  (.reg [0, 1, 4, 5, 9, 16] c_slices_IndexFunc___int_int__r1 v_slices_IndexFunc___int_int_)
  (.blk 0 (.loop (.seq
  (.reg [0, 1, 4, 5, 7, 8, 16] c_slices_IndexFunc___int_int__r2 v_slices_IndexFunc___int_int_)
  (.seq
  (.cond (.t 9) .skip (.exit 0))
  (.seq
  (.blk 1 (.seq
  (.reg [0, 1, 4, 5, 7, 8, 9, 16] c_slices_IndexFunc___int_int__r3 v_slices_IndexFunc___int_int_)
  (.seq
  (.reg [0, 1, 4, 5, 7, 8, 9] c_slices_IndexFunc___int_int__r4 v_slices_IndexFunc___int_int_)
  (.cond (.t 16) (.seq
  (.reg [0, 1, 4, 5, 7, 8, 9, 16] c_slices_IndexFunc___int_int__r5 v_slices_IndexFunc___int_int_)
  .ret) .skip))))
  (.reg [0, 1, 4, 5, 7, 8, 9, 16] c_slices_IndexFunc___int_int__r6 v_slices_IndexFunc___int_int_)))))))
  (.seq
  (.reg [0, 1, 4, 5, 7, 8, 9, 16] c_slices_IndexFunc___int_int__r7 v_slices_IndexFunc___int_int_)
  .ret)))
abbrev n_slices_IndexFunc___int_int_ : Nat := 56
theorem s_slices_IndexFunc___int_int_ : stripF Try.prog [4] v_slices_IndexFunc___int_int_ Try.f56 = some (c_slices_IndexFunc___int_int_, [(.tmp 4)]) := by kernel_rfl
theorem go_slices_IndexFunc___int_int_ {L : List (List Nat)} {args : List AVal} {h : Heap} {Q : AVal → Heap → Prop} (hl : args.length = 2) (H : Wlk Try.prog [4] Try.f56.ntmps v_slices_IndexFunc___int_int_ L c_slices_IndexFunc___int_int_ (ends L [(.tmp 4)] Q) (entry v_slices_IndexFunc___int_int_ args h)) : ACalls Try.prog L n_slices_IndexFunc___int_int_ args h Q :=
  acalls_of_strip mix Try.func56 s_slices_IndexFunc___int_int_ (by rw [hl]; exact Nat.le_of_ble_eq_true rfl) H
def c_single_Search_r0 : List GOp := [(none, (.asg 4 (.c (.slice none 0 0)) true)),
  (none, (.asg 5 (.c (.slice none 0 0)) true)),
  (none, (.asg 6 (.c (.int .i64 0)) true))]
def c_single_Search_r1 : List GOp := [(none, (.r (.mov 14 (.t 0)))),
  (none, (.r (.mov 15 (.t 1)))),
  (none, (.call 16 (.f 67) [((.t 14), false), ((.t 15), false)])),
  (none, (.asg 7 (.t 16) true))]
def c_single_Search_r2 : List GOp := [(none, (.r (.mov 17 (.t 7)))),
  (none, (.mkfn 18 (.func 68) [((.t 17), false)] [])),
  (none, (.asg 8 (.t 18) true))]
def c_single_Search_r3 : List GOp := [(none, (.r (.mov 20 (.t 7)))),
  (none, (.call 21 (.f 69) [((.t 20), false)])),
  (none, (.r (.mov 19 (.t 21)))),
  (none, (.r (.ext 22 (.t 19) 0))),
  (none, (.r (.ext 23 (.t 19) 1))),
  (none, (.asg 9 (.t 22) true)),
  (none, (.asg 10 (.t 23) true))]
def c_single_Search_r4 : List GOp := [(none, (.r (.mov 24 (.t 10))))]
def c_single_Search_r5 : List GOp := [(none, (.r (.mov 30 (.t 0)))),
  (none, (.r (.mov 31 (.t 9)))),
  (none, (.r (.idxA 32 (.t 30) (.t 31) 1))),
  (none, (.r (.ld 33 (.t 32) 1 false))),
  (none, (.r (.len 34 (.t 33)))),
  (none, (.r (.mov 35 (.c (.int .i64 0)))))]
def c_single_Search_r6 : List GOp := [(none, (.r (.bin 36 .lss 0 (.t 35) (.t 34))))]
def c_single_Search_r7 : List GOp := [(none, (.r (.idxA 37 (.t 33) (.t 35) 1))),
  (none, (.r (.ld 38 (.t 37) 1 false))),
  (none, (.asg 12 (.t 38) true))]
def c_single_Search_r8 : List GOp := [(none, (.r (.mov 39 (.t 7)))),
  (none, (.r (.mov 40 (.t 9)))),
  (none, (.r (.mov 41 (.t 12)))),
  (none, (.call 42 (.f 70) [((.t 39), false), ((.t 40), false), ((.t 41), false)]))]
def c_single_Search_r9 : List GOp := [(none, (.r (.bin 44 .eql 0 (.t 42) (.c (.int .i64 1))))),
  (none, (.asg 43 (.t 44) true))]
def c_single_Search_r10 : List GOp := [(none, (.r (.mov 45 (.t 7)))),
  (none, (.r (.mov 46 (.t 9)))),
  (none, (.r (.mov 47 (.t 12)))),
  (none, (.call 48 (.f 71) [((.t 45), false), ((.t 46), false), ((.t 47), false)]))]
def c_single_Search_r11 : List GOp := [(none, (.r (.bin 50 .eql 0 (.t 42) (.c (.int .i64 2))))),
  (none, (.asg 49 (.t 50) true))]
def c_single_Search_r12 : List GOp := [(none, (.r (.mov 51 (.t 8)))),
  (none, (.r (.mov 52 (.t 9)))),
  (none, (.call 53 (.t 51) [((.t 52), false)])),
  (none, (.r (.mov 54 (.t 8)))),
  (none, (.r (.mov 55 (.t 12)))),
  (none, (.call 56 (.t 54) [((.t 55), false)])),
  (none, (.r (.bin 57 .eql 0 (.t 53) (.t 56))))]
def c_single_Search_r13 : List GOp := [(none, (.r (.mov 58 (.t 7)))),
  (none, (.r (.mov 59 (.t 9)))),
  (none, (.r (.mov 60 (.t 12)))),
  (none, (.call 61 (.f 72) [((.t 58), false), ((.t 59), false), ((.t 60), false)])),
  (none, (.asg 13 (.t 61) true))]
def c_single_Search_r14 : List GOp := [(none, (.r (.mov 62 (.t 13)))),
  (none, (.r (.bin 63 .neq 3 (.t 62) (.c (.slice none 0 0)))))]
def c_single_Search_r15 : Tree := 
  (.take [5, 6, 7] (none, (.r (.mov 64 (.t 13)))) 
  (.take [2, 3, 4, 7] (none, (.r (.mov 65 (.t 7)))) 
  (.take [3, 4, 7] (none, (.r (.nilck 66 (.t 65)))) 
  (.take [4, 7] (none, (.r (.fldA 67 (.t 66) 15))) 
  (.take [7] (none, (.r (.ld 68 (.t 67) 1 false))) 
  (.one 5 (none, (.asg 4 (.t 64) true)) 
  (.one 6 (none, (.asg 5 (.c (.slice none 0 0)) true)) 
  (.one 7 (none, (.asg 6 (.t 68) true)) .done))))))))
def c_single_Search_r16 : List GOp := [(none, (.r (.bin 69 .add 0 (.t 35) (.c (.int .i64 1))))),
  (none, (.asg 35 (.t 69) true))]
def c_single_Search_r17 : List GOp := [(none, (.r (.mov 26 (.t 7)))),
  (none, (.call 27 (.f 69) [((.t 26), false)])),
  (none, (.r (.mov 25 (.t 27)))),
  (none, (.r (.ext 28 (.t 25) 0))),
  (none, (.r (.ext 29 (.t 25) 1))),
  (none, (.asg 9 (.t 28) true)),
  (none, (.asg 10 (.t 29) true))]
def c_single_Search_r18 : Tree := 
  (.take [1, 6, 7, 8] (none, (.r (.mov 70 (.t 7)))) 
  (.take [3, 4, 5, 8] (none, (.r (.mov 72 (.t 7)))) 
  (.take [4, 5, 8] (none, (.r (.nilck 73 (.t 72)))) 
  (.take [5, 8] (none, (.r (.fldA 74 (.t 73) 15))) 
  (.take [8] (none, (.r (.ld 75 (.t 74) 1 false))) 
  (.one 1 (none, (.call 71 (.f 73) [((.t 70), false)])) 
  (.one 6 (none, (.asg 4 (.c (.slice none 0 0)) true)) 
  (.one 7 (none, (.asg 5 (.t 71) true)) 
  (.one 8 (none, (.asg 6 (.t 75) true)) .done)))))))))
def v_single_Search : List Nat := [0, 1, 4, 5, 6, 7, 8, 9, 10, 12, 13, 24, 33, 34, 35, 36, 42, 43, 49, 57, 63]
def c_single_Search : ACode :=
  (.seq
  (.reg [0, 1, 4, 5, 6, 7, 8, 9, 10, 12, 13, 24, 33, 34, 35, 36, 42, 43, 49, 57, 63] c_single_Search_r0 v_single_Search)
  (.seq
  (.reg [0, 1, 4, 5, 6, 7, 8, 9, 10, 12, 13, 24, 33, 34, 35, 36, 42, 43, 49, 57, 63] c_single_Search_r1 v_single_Search)
  (.seq
  (.reg [0, 1, 4, 5, 6, 7, 8, 9, 10, 12, 13, 24, 33, 34, 35, 36, 42, 43, 49, 57, 63] c_single_Search_r2 v_single_Search)
  (.seq
  (.seq
  (.reg [0, 1, 4, 5, 6, 7, 8, 9, 10, 12, 13, 24, 33, 34, 35, 36, 42, 43, 49, 57, 63] c_single_Search_r3 v_single_Search)
  (.blk 0 (.loop (.seq
  (.seq
  (.reg [0, 1, 4, 5, 6, 7, 8, 9, 10, 12, 13, 33, 34, 35, 36, 42, 43, 49, 57, 63] c_single_Search_r4 v_single_Search)
  (.cond (.t 24) .skip (.exit 0)))
  (.seq
  (.blk 1 (.seq
  (.reg [0, 1, 4, 5, 6, 7, 8, 9, 10, 12, 13, 24, 36, 42, 43, 49, 57, 63] c_single_Search_r5 v_single_Search)
  (.blk 2 (.loop (.seq
  (.reg [0, 1, 4, 5, 6, 7, 8, 9, 10, 12, 13, 24, 33, 34, 35, 42, 43, 49, 57, 63] c_single_Search_r6 v_single_Search)
  (.seq
  (.cond (.t 36) .skip (.exit 2))
  (.seq
  (.blk 3 (.seq
  (.reg [0, 1, 4, 5, 6, 7, 8, 9, 10, 12, 13, 24, 33, 34, 35, 36, 42, 43, 49, 57, 63] c_single_Search_r7 v_single_Search)
  (.seq
  (.reg [0, 1, 4, 5, 6, 7, 8, 9, 10, 12, 13, 24, 33, 34, 35, 36, 43, 49, 57, 63] c_single_Search_r8 v_single_Search)
  (.blk 4 (.seq
  (.reg [0, 1, 4, 5, 6, 7, 8, 9, 10, 12, 13, 24, 33, 34, 35, 36, 42, 43, 49, 57, 63] c_single_Search_r9 v_single_Search)
  (.cond (.t 43) (.reg [0, 1, 4, 5, 6, 7, 8, 9, 10, 12, 13, 24, 33, 34, 35, 36, 42, 43, 49, 57, 63] c_single_Search_r10 v_single_Search) (.seq
  (.reg [0, 1, 4, 5, 6, 7, 8, 9, 10, 12, 13, 24, 33, 34, 35, 36, 42, 43, 49, 57, 63] c_single_Search_r11 v_single_Search)
  (.cond (.t 49) (.seq
  (.seq
  (.reg [0, 1, 4, 5, 6, 7, 8, 9, 10, 12, 13, 24, 33, 34, 35, 36, 42, 43, 49, 63] c_single_Search_r12 v_single_Search)
  (.cond (.t 57) (.exit 3) .skip))
  (.seq
  (.reg [0, 1, 4, 5, 6, 7, 8, 9, 10, 12, 13, 24, 33, 34, 35, 36, 42, 43, 49, 57, 63] c_single_Search_r13 v_single_Search)
  (.seq
  (.reg [0, 1, 4, 5, 6, 7, 8, 9, 10, 12, 13, 24, 33, 34, 35, 36, 42, 43, 49, 57] c_single_Search_r14 v_single_Search)
  (.cond (.t 63) (.seq
  (.draw [0, 1, 4, 5, 6, 7, 8, 9, 10, 12, 13, 24, 33, 34, 35, 36, 42, 43, 49, 57, 63] c_single_Search_r15 v_single_Search)
  .ret) .skip)))) .skip))))))))
  (.reg [0, 1, 4, 5, 6, 7, 8, 9, 10, 12, 13, 24, 33, 34, 35, 36, 42, 43, 49, 57, 63] c_single_Search_r16 v_single_Search))))))))
  (.reg [0, 1, 4, 5, 6, 7, 8, 9, 10, 12, 13, 24, 33, 34, 35, 36, 42, 43, 49, 57, 63] c_single_Search_r17 v_single_Search))))))
  (.seq
  (.draw [0, 1, 4, 5, 6, 7, 8, 9, 10, 12, 13, 24, 33, 34, 35, 36, 42, 43, 49, 57, 63] c_single_Search_r18 v_single_Search)
  .ret)))))
abbrev n_single_Search : Nat := 57
theorem s_single_Search : stripF Try.prog [4, 5, 6] v_single_Search Try.f57 = some (c_single_Search, [(.tmp 4), (.tmp 5), (.tmp 6)]) := by kernel_rfl
theorem go_single_Search {L : List (List Nat)} {args : List AVal} {h : Heap} {Q : AVal → Heap → Prop} (hl : args.length = 2) (H : Wlk Try.prog [4, 5, 6] Try.f57.ntmps v_single_Search L c_single_Search (ends L [(.tmp 4), (.tmp 5), (.tmp 6)] Q) (entry v_single_Search args h)) : ACalls Try.prog L n_single_Search args h Q :=
  acalls_of_strip mix Try.func57 s_single_Search (by rw [hl]; exact Nat.le_of_ble_eq_true rfl) H
def c_walk_Turn_r0 : List GOp := [(none, (.asg 4 (.c (.int .i64 1)) true))]
def c_walk_Turn_r1 : List GOp := [(none, (.r (.mov 5 (.t 4)))),
  (none, (.r (.mov 6 (.t 1)))),
  (none, (.r (.len 7 (.t 6)))),
  (none, (.r (.bin 8 .lss 0 (.t 5) (.t 7))))]
def c_walk_Turn_r2 : Tree := 
  (.take [20, 21, 22, 23] (none, (.r (.mov 11 (.t 0)))) 
  (.take [4, 5, 20, 21, 22, 23] (none, (.r (.mov 12 (.t 1)))) 
  (.take [3, 4, 5, 20, 21, 22, 23] (none, (.r (.mov 13 (.t 4)))) 
  (.take [4, 5, 20, 21, 22, 23] (none, (.r (.bin 14 .sub 0 (.t 13) (.c (.int .i64 1))))) 
  (.take [5, 20, 21, 22, 23] (none, (.r (.idxA 15 (.t 12) (.t 14) 1))) 
  (.take [20, 21, 22, 23] (none, (.r (.ld 16 (.t 15) 1 false))) 
  (.take [22, 23] (none, (.r (.mov 17 (.t 0)))) 
  (.take [9, 10, 20, 21, 22, 23] (none, (.r (.mov 18 (.t 1)))) 
  (.take [9, 10, 20, 21, 22, 23] (none, (.r (.mov 19 (.t 4)))) 
  (.take [10, 20, 21, 22, 23] (none, (.r (.idxA 20 (.t 18) (.t 19) 1))) 
  (.take [20, 21, 22, 23] (none, (.r (.ld 21 (.t 20) 1 false))) 
  (.take [13, 14, 20, 21, 22, 23] (none, (.r (.mov 22 (.t 1)))) 
  (.take [13, 14, 20, 21, 22, 23] (none, (.r (.mov 23 (.t 4)))) 
  (.take [14, 20, 21, 22, 23] (none, (.r (.idxA 24 (.t 22) (.t 23) 1))) 
  (.take [20, 21, 22, 23] (none, (.r (.ld 25 (.t 24) 1 false))) 
  (.take [18, 19, 20, 21, 22, 23] (none, (.r (.mov 26 (.t 1)))) 
  (.take [17, 18, 19, 20, 21, 22, 23] (none, (.r (.mov 27 (.t 4)))) 
  (.take [18, 19, 20, 21, 22, 23] (none, (.r (.bin 28 .sub 0 (.t 27) (.c (.int .i64 1))))) 
  (.take [19, 20, 21, 22, 23] (none, (.r (.idxA 29 (.t 26) (.t 28) 1))) 
  (.take [20, 21, 22, 23] (none, (.r (.ld 30 (.t 29) 1 false))) 
  (.take [21, 22, 23] (none, (.r (.idxA 31 (.t 11) (.t 16) 1))) 
  (.one 21 (none, (.st (.t 31) (.t 25) 1)) 
  (.take [23] (none, (.r (.idxA 32 (.t 17) (.t 21) 1))) 
  (.one 23 (none, (.st (.t 32) (.t 30) 1)) .done))))))))))))))))))))))))
def c_walk_Turn_r3 : List GOp := [(none, (.r (.mov 9 (.t 4)))),
  (none, (.r (.bin 10 .add 0 (.t 9) (.c (.int .i64 2))))),
  (none, (.asg 4 (.t 10) true))]
def v_walk_Turn : List Nat := [0, 1, 4, 8]
def c_walk_Turn : ACode :=
  (.seq
  (.reg [0, 1, 4, 8] c_walk_Turn_r0 v_walk_Turn)
  (.blk 0 (.loop (.seq
  (.seq
  (.reg [0, 1, 4] c_walk_Turn_r1 v_walk_Turn)
  (.cond (.t 8) .skip (.exit 0)))
  (.seq
  (.blk 1 (.draw [0, 1, 4, 8] c_walk_Turn_r2 v_walk_Turn))
  (.reg [0, 1, 4, 8] c_walk_Turn_r3 v_walk_Turn))))))
abbrev n_walk_Turn : Nat := 58
theorem s_walk_Turn : stripF Try.prog [] v_walk_Turn Try.f58 = some (c_walk_Turn, []) := by kernel_rfl
theorem go_walk_Turn {L : List (List Nat)} {args : List AVal} {h : Heap} {Q : AVal → Heap → Prop} (hl : args.length = 2) (H : Wlk Try.prog [] Try.f58.ntmps v_walk_Turn L c_walk_Turn (ends L [] Q) (entry v_walk_Turn args h)) : ACalls Try.prog L n_walk_Turn args h Q :=
  acalls_of_strip mix Try.func58 s_walk_Turn (by rw [hl]; exact Nat.le_of_ble_eq_true rfl) H
def c_mates_Right_r0 : List GOp := [(none, (.box 2 (.t 0))),
  (none, (.asg 4 (.c (.bool false)) true))]
def c_mates_Right_r1 : List GOp := [(none, (.r (.ld 10 (.t 2) 2 true))),
  (none, (.call 11 (.f 38) [((.t 10), false)])),
  (none, (.r (.notb 12 (.t 11)))),
  (none, (.r (.mov 13 (.t 12)))), ((some (13, false)), (.r (.mov 14 (.t 1)))), ((some (13, false)), (.r (.len 15 (.t 14)))), ((some (13, false)), (.r (.fldA 16 (.t 2) 0))), ((some (13, false)), (.r (.ld 17 (.t 16) 1 false))), ((some (13, false)), (.r (.bin 18 .neq 0 (.t 15) (.t 17)))),
  (none, (.r (.pick 19 (.t 13) (.c (.bool true)) (.t 18))))]
def c_mates_Right_r2 : List GOp := [(none, (.asg 4 (.c (.bool false)) true))]
def c_mates_Right_r3 : List GOp := [(none, (.r (.fldA 20 (.t 2) 0))),
  (none, (.r (.ld 21 (.t 20) 1 false))),
  (none, (.mk 22 (.t 21) (.t 21) 1 1 [(.bool false)])),
  (none, (.asg 5 (.t 22) true))]
def c_mates_Right_r4 : List GOp := [(none, (.r (.fldA 23 (.t 2) 1))),
  (none, (.r (.ld 24 (.t 23) 1 false))),
  (none, (.r (.len 25 (.t 24)))),
  (none, (.r (.mov 26 (.c (.int .i64 0)))))]
def c_mates_Right_r5 : List GOp := [(none, (.r (.bin 27 .lss 0 (.t 26) (.t 25))))]
def c_mates_Right_r6 : List GOp := [(none, (.r (.idxA 28 (.t 24) (.t 26) 2))),
  (none, (.r (.ld 29 (.t 28) 2 true))),
  (none, (.alloc 7 [(.int .i64 0), (.int .i64 0)])),
  (none, (.st (.t 7) (.t 29) 2))]
def c_mates_Right_r7 : Tree := 
  (.take [3, 4, 7, 8, 9, 10, 11, 12, 13, 14, 15, 16, 17] (none, (.r (.mov 30 (.t 1)))) 
  (.take [2, 3, 4, 7, 8, 9, 10, 11, 12, 13, 14, 15, 16, 17] (none, (.r (.fldA 31 (.t 7) 0))) 
  (.take [3, 4, 7, 8, 9, 10, 11, 12, 13, 14, 15, 16, 17] (none, (.r (.ld 32 (.t 31) 1 false))) 
  (.take [4, 7, 8, 9, 10, 11, 12, 13, 14, 15, 16, 17] (none, (.r (.idxA 33 (.t 30) (.t 32) 1))) 
  (.take [7, 8, 9, 10, 11, 12, 13, 14, 15, 16, 17] (none, (.r (.ld 34 (.t 33) 1 false))) 
  (.take [6, 7, 8, 9, 10, 11, 12, 13, 14, 15, 16, 17] (none, (.r (.fldA 35 (.t 7) 1))) 
  (.take [7, 8, 9, 10, 11, 12, 13, 14, 15, 16, 17] (none, (.r (.ld 36 (.t 35) 1 false))) 
  (.take [8, 9, 10, 11, 12, 13, 14, 15, 16, 17] (none, (.r (.bin 37 .eql 0 (.t 34) (.t 36)))) 
  (.take [9, 10, 11, 12, 13, 14, 15, 16, 17] (none, (.r (.mov 38 (.t 37)))) 
  (.take [12, 13, 16, 17] ((some (38, true)), (.r (.mov 39 (.t 1)))) 
  (.take [11, 12, 13, 16, 17] ((some (38, true)), (.r (.fldA 40 (.t 7) 1))) 
  (.take [12, 13, 16, 17] ((some (38, true)), (.r (.ld 41 (.t 40) 1 false))) 
  (.take [13, 16, 17] ((some (38, true)), (.r (.idxA 42 (.t 39) (.t 41) 1))) 
  (.take [16, 17] ((some (38, true)), (.r (.ld 43 (.t 42) 1 false))) 
  (.take [15, 16, 17] ((some (38, true)), (.r (.fldA 44 (.t 7) 0))) 
  (.take [16, 17] ((some (38, true)), (.r (.ld 45 (.t 44) 1 false))) 
  (.take [17] ((some (38, true)), (.r (.bin 46 .eql 0 (.t 43) (.t 45)))) 
  (.take [] (none, (.r (.pick 47 (.t 38) (.t 46) (.c (.bool false))))) .done))))))))))))))))))
def c_mates_Right_r8 : Tree := 
  (.take [6, 7, 8, 9] (none, (.r (.mov 48 (.t 5)))) 
  (.take [2, 6, 7, 8, 9] (none, (.r (.fldA 49 (.t 7) 0))) 
  (.take [6, 7, 8, 9] (none, (.r (.ld 50 (.t 49) 1 false))) 
  (.take [8, 9] (none, (.r (.mov 51 (.t 5)))) 
  (.take [5, 8, 9] (none, (.r (.fldA 52 (.t 7) 1))) 
  (.take [8, 9] (none, (.r (.ld 53 (.t 52) 1 false))) 
  (.take [7, 8, 9] (none, (.r (.idxA 54 (.t 48) (.t 50) 1))) 
  (.one 7 (none, (.st (.t 54) (.c (.bool true)) 1)) 
  (.take [9] (none, (.r (.idxA 55 (.t 51) (.t 53) 1))) 
  (.one 9 (none, (.st (.t 55) (.c (.bool true)) 1)) .done))))))))))
def c_mates_Right_r9 : List GOp := [(none, (.r (.bin 56 .add 0 (.t 26) (.c (.int .i64 1))))),
  (none, (.asg 26 (.t 56) true))]
def c_mates_Right_r10 : List GOp := [(none, (.r (.mov 57 (.t 1)))),
  (none, (.r (.len 58 (.t 57)))),
  (none, (.r (.mov 59 (.c (.int .i64 0)))))]
def c_mates_Right_r11 : List GOp := [(none, (.r (.bin 60 .lss 0 (.t 59) (.t 58))))]
def c_mates_Right_r12 : List GOp := [(none, (.r (.mov 61 (.t 59)))),
  (none, (.r (.idxA 62 (.t 57) (.t 59) 1))),
  (none, (.r (.ld 63 (.t 62) 1 false))),
  (none, (.asg 8 (.t 61) true)),
  (none, (.asg 9 (.t 63) true))]
def c_mates_Right_r13 : List GOp := [(none, (.r (.mov 64 (.t 9)))),
  (none, (.r (.bin 65 .neq 0 (.t 64) (.c (.int .i64 (-(0 + 1))))))),
  (none, (.r (.mov 66 (.t 65)))), ((some (66, true)), (.r (.mov 67 (.t 5)))), ((some (66, true)), (.r (.mov 68 (.t 8)))), ((some (66, true)), (.r (.idxA 69 (.t 67) (.t 68) 1))), ((some (66, true)), (.r (.ld 70 (.t 69) 1 false))), ((some (66, true)), (.r (.notb 71 (.t 70)))),
  (none, (.r (.pick 72 (.t 66) (.t 71) (.c (.bool false)))))]
def c_mates_Right_r14 : List GOp := [(none, (.asg 4 (.c (.bool false)) true))]
def c_mates_Right_r15 : List GOp := [(none, (.r (.bin 73 .add 0 (.t 59) (.c (.int .i64 1))))),
  (none, (.asg 59 (.t 73) true))]
def c_mates_Right_r16 : List GOp := [(none, (.asg 4 (.c (.bool true)) true))]
def v_mates_Right : List Nat := [0, 1, 2, 4, 5, 7, 8, 9, 19, 24, 25, 26, 27, 47, 57, 58, 59, 60, 72]
def c_mates_Right : ACode :=
  (.seq
  (.reg [0, 1, 4, 5, 7, 8, 9, 19, 24, 25, 26, 27, 47, 57, 58, 59, 60, 72] c_mates_Right_r0 v_mates_Right)
  (.seq
  (.seq
  (.reg [0, 1, 2, 4, 5, 7, 8, 9, 24, 25, 26, 27, 47, 57, 58, 59, 60, 72] c_mates_Right_r1 v_mates_Right)
  (.cond (.t 19) (.seq
  (.reg [0, 1, 2, 4, 5, 7, 8, 9, 19, 24, 25, 26, 27, 47, 57, 58, 59, 60, 72] c_mates_Right_r2 v_mates_Right)
  .ret) .skip))
  (.seq
  (.reg [0, 1, 2, 4, 5, 7, 8, 9, 19, 24, 25, 26, 27, 47, 57, 58, 59, 60, 72] c_mates_Right_r3 v_mates_Right)
  (.seq
  (.seq
  (.reg [0, 1, 2, 4, 5, 7, 8, 9, 19, 27, 47, 57, 58, 59, 60, 72] c_mates_Right_r4 v_mates_Right)
  (.blk 0 (.loop (.seq
  (.reg [0, 1, 2, 4, 5, 7, 8, 9, 19, 24, 25, 26, 47, 57, 58, 59, 60, 72] c_mates_Right_r5 v_mates_Right)
  (.seq
  (.cond (.t 27) .skip (.exit 0))
  (.seq
  (.blk 1 (.seq
  (.reg [0, 1, 2, 4, 5, 8, 9, 19, 24, 25, 26, 27, 47, 57, 58, 59, 60, 72] c_mates_Right_r6 v_mates_Right)
  (.seq
  (.draw [0, 1, 2, 4, 5, 7, 8, 9, 19, 24, 25, 26, 27, 57, 58, 59, 60, 72] c_mates_Right_r7 v_mates_Right)
  (.cond (.t 47) (.draw [0, 1, 2, 4, 5, 7, 8, 9, 19, 24, 25, 26, 27, 47, 57, 58, 59, 60, 72] c_mates_Right_r8 v_mates_Right) .skip))))
  (.reg [0, 1, 2, 4, 5, 7, 8, 9, 19, 24, 25, 26, 27, 47, 57, 58, 59, 60, 72] c_mates_Right_r9 v_mates_Right)))))))
  (.seq
  (.seq
  (.reg [0, 1, 2, 4, 5, 7, 8, 9, 19, 24, 25, 26, 27, 47, 60, 72] c_mates_Right_r10 v_mates_Right)
  (.blk 2 (.loop (.seq
  (.reg [0, 1, 2, 4, 5, 7, 8, 9, 19, 24, 25, 26, 27, 47, 57, 58, 59, 72] c_mates_Right_r11 v_mates_Right)
  (.seq
  (.cond (.t 60) .skip (.exit 2))
  (.seq
  (.blk 3 (.seq
  (.reg [0, 1, 2, 4, 5, 7, 8, 9, 19, 24, 25, 26, 27, 47, 57, 58, 59, 60, 72] c_mates_Right_r12 v_mates_Right)
  (.seq
  (.reg [0, 1, 2, 4, 5, 7, 8, 9, 19, 24, 25, 26, 27, 47, 57, 58, 59, 60] c_mates_Right_r13 v_mates_Right)
  (.cond (.t 72) (.seq
  (.reg [0, 1, 2, 4, 5, 7, 8, 9, 19, 24, 25, 26, 27, 47, 57, 58, 59, 60, 72] c_mates_Right_r14 v_mates_Right)
  .ret) .skip))))
  (.reg [0, 1, 2, 4, 5, 7, 8, 9, 19, 24, 25, 26, 27, 47, 57, 58, 59, 60, 72] c_mates_Right_r15 v_mates_Right)))))))
  (.seq
  (.reg [0, 1, 2, 4, 5, 7, 8, 9, 19, 24, 25, 26, 27, 47, 57, 58, 59, 60, 72] c_mates_Right_r16 v_mates_Right)
  .ret))))))
abbrev n_mates_Right : Nat := 62
theorem s_mates_Right : stripF Try.prog [4] v_mates_Right Try.f62 = some (c_mates_Right, [(.tmp 4)]) := by kernel_rfl
theorem go_mates_Right {L : List (List Nat)} {args : List AVal} {h : Heap} {Q : AVal → Heap → Prop} (hl : args.length = 2) (H : Wlk Try.prog [4] Try.f62.ntmps v_mates_Right L c_mates_Right (ends L [(.tmp 4)] Q) (entry v_mates_Right args h)) : ACalls Try.prog L n_mates_Right args h Q :=
  acalls_of_strip mix Try.func62 s_mates_Right (by rw [hl]; exact Nat.le_of_ble_eq_true rfl) H
def c_pieces_walk_piece_r0 : List GOp := [(none, (.asg 4 (.c (.slice none 0 0)) true))]
def c_pieces_walk_piece_r1 : List GOp := [(none, (.r (.mov 9 (.t 0)))),
  (none, (.mkfn 10 (.func 74) [((.t 9), false)] [])),
  (none, (.asg 5 (.t 10) true))]
def c_pieces_walk_piece_r2 : List GOp := [(none, (.r (.mov 11 (.t 0)))),
  (none, (.r (.nilck 12 (.t 11)))),
  (none, (.r (.fldA 13 (.t 12) 2))),
  (none, (.st (.t 13) (.c (.slice none 0 0)) 1))]
def c_pieces_walk_piece_r3 : List GOp := [(none, (.r (.mov 14 (.t 5)))),
  (none, (.r (.mov 15 (.t 1)))),
  (none, (.call 16 (.t 14) [((.t 15), false)]))]
def c_pieces_walk_piece_r4 : List GOp := [(none, (.r (.mov 17 (.t 0)))),
  (none, (.r (.nilck 18 (.t 17)))),
  (none, (.r (.fldA 19 (.t 18) 3))),
  (none, (.r (.ld 20 (.t 19) 1 false))),
  (none, (.r (.len 21 (.t 20)))),
  (none, (.r (.bin 22 .gtr 0 (.t 21) (.c (.int .i64 0)))))]
def c_pieces_walk_piece_r5 : Tree := 
  (.take [1, 2, 3, 10, 11, 12] (none, (.r (.mov 23 (.t 0)))) 
  (.take [2, 3, 10, 11, 12] (none, (.r (.nilck 24 (.t 23)))) 
  (.take [3, 10, 11, 12] (none, (.r (.fldA 25 (.t 24) 3))) 
  (.take [10, 11, 12] (none, (.r (.ld 26 (.t 25) 1 false))) 
  (.take [5, 6, 7, 8, 9, 10, 11, 12] (none, (.r (.mov 27 (.t 0)))) 
  (.take [6, 7, 8, 9, 10, 11, 12] (none, (.r (.nilck 28 (.t 27)))) 
  (.take [7, 8, 9, 10, 11, 12] (none, (.r (.fldA 29 (.t 28) 3))) 
  (.take [8, 9, 10, 11, 12] (none, (.r (.ld 30 (.t 29) 1 false))) 
  (.take [9, 10, 11, 12] (none, (.r (.len 31 (.t 30)))) 
  (.take [10, 11, 12] (none, (.r (.bin 32 .sub 0 (.t 31) (.c (.int .i64 1))))) 
  (.take [11, 12] (none, (.r (.idxA 33 (.t 26) (.t 32) 1))) 
  (.take [12] (none, (.r (.ld 34 (.t 33) 1 false))) 
  (.one 12 (none, (.asg 6 (.t 34) true)) .done)))))))))))))
def c_pieces_walk_piece_r6 : Tree := 
  (.take [12, 13, 14] (none, (.r (.mov 35 (.t 0)))) 
  (.take [2, 3, 4, 11, 12, 13, 14] (none, (.r (.mov 36 (.t 0)))) 
  (.take [3, 4, 11, 12, 13, 14] (none, (.r (.nilck 37 (.t 36)))) 
  (.take [4, 11, 12, 13, 14] (none, (.r (.fldA 38 (.t 37) 3))) 
  (.take [11, 12, 13, 14] (none, (.r (.ld 39 (.t 38) 1 false))) 
  (.take [6, 7, 8, 9, 10, 11, 12, 13, 14] (none, (.r (.mov 40 (.t 0)))) 
  (.take [7, 8, 9, 10, 11, 12, 13, 14] (none, (.r (.nilck 41 (.t 40)))) 
  (.take [8, 9, 10, 11, 12, 13, 14] (none, (.r (.fldA 42 (.t 41) 3))) 
  (.take [9, 10, 11, 12, 13, 14] (none, (.r (.ld 43 (.t 42) 1 false))) 
  (.take [10, 11, 12, 13, 14] (none, (.r (.len 44 (.t 43)))) 
  (.take [11, 12, 13, 14] (none, (.r (.bin 45 .sub 0 (.t 44) (.c (.int .i64 1))))) 
  (.one 11 (none, (.slc 46 (.t 39) none (some (.t 45)) 1)) 
  (.take [13, 14] (none, (.r (.nilck 47 (.t 35)))) 
  (.take [14] (none, (.r (.fldA 48 (.t 47) 3))) 
  (.one 14 (none, (.st (.t 48) (.t 46) 1)) .done)))))))))))))))
def c_pieces_walk_piece_r7 : List GOp := [(none, (.r (.mov 49 (.t 0)))),
  (none, (.r (.nilck 50 (.t 49)))),
  (none, (.r (.fldA 51 (.t 50) 0))),
  (none, (.r (.ld 52 (.t 51) 1 false))),
  (none, (.r (.mov 53 (.t 6)))),
  (none, (.r (.idxA 54 (.t 52) (.t 53) 1))),
  (none, (.r (.ld 55 (.t 54) 1 false))),
  (none, (.r (.len 56 (.t 55)))),
  (none, (.r (.mov 57 (.c (.int .i64 0)))))]
def c_pieces_walk_piece_r8 : List GOp := [(none, (.r (.bin 58 .lss 0 (.t 57) (.t 56))))]
def c_pieces_walk_piece_r9 : List GOp := [(none, (.r (.idxA 59 (.t 55) (.t 57) 1))),
  (none, (.r (.ld 60 (.t 59) 1 false))),
  (none, (.asg 8 (.t 60) true))]
def c_pieces_walk_piece_r10 : List GOp := [(none, (.r (.mov 61 (.t 5)))),
  (none, (.r (.mov 62 (.t 8)))),
  (none, (.call 63 (.t 61) [((.t 62), false)]))]
def c_pieces_walk_piece_r11 : List GOp := [(none, (.r (.bin 64 .add 0 (.t 57) (.c (.int .i64 1))))),
  (none, (.asg 57 (.t 64) true))]
def c_pieces_walk_piece_r12 : List GOp := [(none, (.r (.mov 65 (.t 0)))),
  (none, (.r (.nilck 66 (.t 65)))),
  (none, (.r (.fldA 67 (.t 66) 2))),
  (none, (.r (.ld 68 (.t 67) 1 false))),
  (none, (.call 69 (.f 75) [((.t 68), false)]))]
def c_pieces_walk_piece_r13 : List GOp := [(none, (.r (.mov 70 (.t 0)))),
  (none, (.r (.nilck 71 (.t 70)))),
  (none, (.r (.fldA 72 (.t 71) 2))),
  (none, (.r (.ld 73 (.t 72) 1 false))),
  (none, (.asg 4 (.t 73) true))]
def v_pieces_walk_piece : List Nat := [0, 1, 4, 5, 6, 8, 22, 55, 56, 57, 58]
def c_pieces_walk_piece : ACode :=
  (.seq
  (.reg [0, 1, 4, 5, 6, 8, 22, 55, 56, 57, 58] c_pieces_walk_piece_r0 v_pieces_walk_piece)
  (.seq
  (.reg [0, 1, 4, 5, 6, 8, 22, 55, 56, 57, 58] c_pieces_walk_piece_r1 v_pieces_walk_piece)
  (.seq
  (.reg [0, 1, 4, 5, 6, 8, 22, 55, 56, 57, 58] c_pieces_walk_piece_r2 v_pieces_walk_piece)
  (.seq
  (.reg [0, 1, 4, 5, 6, 8, 22, 55, 56, 57, 58] c_pieces_walk_piece_r3 v_pieces_walk_piece)
  (.seq
  (.blk 0 (.loop (.seq
  (.seq
  (.reg [0, 1, 4, 5, 6, 8, 55, 56, 57, 58] c_pieces_walk_piece_r4 v_pieces_walk_piece)
  (.cond (.t 22) .skip (.exit 0)))
  (.blk 1 (.seq
  (.draw [0, 1, 4, 5, 6, 8, 22, 55, 56, 57, 58] c_pieces_walk_piece_r5 v_pieces_walk_piece)
  (.seq
  (.draw [0, 1, 4, 5, 6, 8, 22, 55, 56, 57, 58] c_pieces_walk_piece_r6 v_pieces_walk_piece)
  (.seq
  (.reg [0, 1, 4, 5, 6, 8, 22, 58] c_pieces_walk_piece_r7 v_pieces_walk_piece)
  (.blk 2 (.loop (.seq
  (.reg [0, 1, 4, 5, 6, 8, 22, 55, 56, 57] c_pieces_walk_piece_r8 v_pieces_walk_piece)
  (.seq
  (.cond (.t 58) .skip (.exit 2))
  (.seq
  (.blk 3 (.seq
  (.reg [0, 1, 4, 5, 6, 8, 22, 55, 56, 57, 58] c_pieces_walk_piece_r9 v_pieces_walk_piece)
  (.reg [0, 1, 4, 5, 6, 8, 22, 55, 56, 57, 58] c_pieces_walk_piece_r10 v_pieces_walk_piece)))
  (.reg [0, 1, 4, 5, 6, 8, 22, 55, 56, 57, 58] c_pieces_walk_piece_r11 v_pieces_walk_piece)))))))))))))
  (.seq
  (.reg [0, 1, 4, 5, 6, 8, 22, 55, 56, 57, 58] c_pieces_walk_piece_r12 v_pieces_walk_piece)
  (.seq
  (.reg [0, 1, 4, 5, 6, 8, 22, 55, 56, 57, 58] c_pieces_walk_piece_r13 v_pieces_walk_piece)
  .ret)))))))
abbrev n_pieces_walk_piece : Nat := 63
theorem s_pieces_walk_piece : stripF Try.prog [4] v_pieces_walk_piece Try.f63 = some (c_pieces_walk_piece, [(.tmp 4)]) := by kernel_rfl
theorem go_pieces_walk_piece {L : List (List Nat)} {args : List AVal} {h : Heap} {Q : AVal → Heap → Prop} (hl : args.length = 2) (H : Wlk Try.prog [4] Try.f63.ntmps v_pieces_walk_piece L c_pieces_walk_piece (ends L [(.tmp 4)] Q) (entry v_pieces_walk_piece args h)) : ACalls Try.prog L n_pieces_walk_piece args h Q :=
  acalls_of_strip mix Try.func63 s_pieces_walk_piece (by rw [hl]; exact Nat.le_of_ble_eq_true rfl) H
def c_cmp_Or_int__r0 : List GOp := [(none, (.asg 2 (.c (.int .i64 0)) true))]
def c_cmp_Or_int__r1 : List GOp := [(none, (.asg 3 (.c (.int .i64 0)) true))]
def c_cmp_Or_int__r2 : List GOp := [(none, (.r (.mov 6 (.t 0)))),
  (none, (.r (.len 7 (.t 6)))),
  (none, (.r (.mov 8 (.c (.int .i64 0)))))]
def c_cmp_Or_int__r3 : List GOp := [(none, (.r (.bin 9 .lss 0 (.t 8) (.t 7))))]
def c_cmp_Or_int__r4 : List GOp := [(none, (.r (.idxA 10 (.t 6) (.t 8) 1))),
  (none, (.r (.ld 11 (.t 10) 1 false))),
  (none, (.asg 5 (.t 11) true))]
def c_cmp_Or_int__r5 : List GOp := [(none, (.r (.mov 12 (.t 5)))),
  (none, (.r (.mov 13 (.t 3)))),
  (none, (.r (.bin 14 .neq 0 (.t 12) (.t 13))))]
def c_cmp_Or_int__r6 : List GOp := [(none, (.r (.mov 15 (.t 5)))),
  (none, (.asg 2 (.t 15) true))]
def c_cmp_Or_int__r7 : List GOp := [(none, (.r (.bin 16 .add 0 (.t 8) (.c (.int .i64 1))))),
  (none, (.asg 8 (.t 16) true))]
def c_cmp_Or_int__r8 : List GOp := [(none, (.r (.mov 17 (.t 3)))),
  (none, (.asg 2 (.t 17) true))]
def v_cmp_Or_int_ : List Nat := [0, 2, 3, 5, 6, 7, 8, 9, 14]
def c_cmp_Or_int_ : ACode :=
  (.seq
  (.reg [0, 2, 3, 5, 6, 7, 8, 9, 14] c_cmp_Or_int__r0 v_cmp_Or_int_)
  (.seq
  (.reg [0, 2, 3, 5, 6, 7, 8, 9, 14] c_cmp_Or_int__r1 v_cmp_Or_int_)
  (.seq
  (.seq
  (.reg [0, 2, 3, 5, 9, 14] c_cmp_Or_int__r2 v_cmp_Or_int_)
  (.blk 0 (.loop (.seq
  (.reg [0, 2, 3, 5, 6, 7, 8, 14] c_cmp_Or_int__r3 v_cmp_Or_int_)
  (.seq
  (.cond (.t 9) .skip (.exit 0))
  (.seq
  (.blk 1 (.seq
  (.reg [0, 2, 3, 5, 6, 7, 8, 9, 14] c_cmp_Or_int__r4 v_cmp_Or_int_)
  (.seq
  (.reg [0, 2, 3, 5, 6, 7, 8, 9] c_cmp_Or_int__r5 v_cmp_Or_int_)
  (.cond (.t 14) (.seq
  (.reg [0, 2, 3, 5, 6, 7, 8, 9, 14] c_cmp_Or_int__r6 v_cmp_Or_int_)
  .ret) .skip))))
  (.reg [0, 2, 3, 5, 6, 7, 8, 9, 14] c_cmp_Or_int__r7 v_cmp_Or_int_)))))))
  (.seq
  (.reg [0, 2, 3, 5, 6, 7, 8, 9, 14] c_cmp_Or_int__r8 v_cmp_Or_int_)
  .ret))))
abbrev n_cmp_Or_int_ : Nat := 64
theorem s_cmp_Or_int_ : stripF Try.prog [2] v_cmp_Or_int_ Try.f64 = some (c_cmp_Or_int_, [(.tmp 2)]) := by kernel_rfl
theorem go_cmp_Or_int_ {L : List (List Nat)} {args : List AVal} {h : Heap} {Q : AVal → Heap → Prop} (hl : args.length = 1) (H : Wlk Try.prog [2] Try.f64.ntmps v_cmp_Or_int_ L c_cmp_Or_int_ (ends L [(.tmp 2)] Q) (entry v_cmp_Or_int_ args h)) : ACalls Try.prog L n_cmp_Or_int_ args h Q :=
  acalls_of_strip mix Try.func64 s_cmp_Or_int_ (by rw [hl]; exact Nat.le_of_ble_eq_true rfl) H
def c_cmp_Compare_int__r0 : List GOp := [(none, (.asg 4 (.c (.int .i64 0)) true))]
def c_cmp_Compare_int__r1 : List GOp := [(none, (.r (.mov 7 (.t 0)))),
  (none, (.call 8 (.f 76) [((.t 7), false)])),
  (none, (.asg 5 (.t 8) true))]
def c_cmp_Compare_int__r2 : List GOp := [(none, (.r (.mov 9 (.t 1)))),
  (none, (.call 10 (.f 76) [((.t 9), false)])),
  (none, (.asg 6 (.t 10) true))]
def c_cmp_Compare_int__r3 : List GOp := [(none, (.r (.mov 11 (.t 5))))]
def c_cmp_Compare_int__r4 : List GOp := [(none, (.r (.mov 12 (.t 6))))]
def c_cmp_Compare_int__r5 : List GOp := [(none, (.asg 4 (.c (.int .i64 0)) true))]
def c_cmp_Compare_int__r6 : List GOp := [(none, (.asg 4 (.c (.int .i64 (-(0 + 1)))) true))]
def c_cmp_Compare_int__r7 : List GOp := [(none, (.r (.mov 13 (.t 6))))]
def c_cmp_Compare_int__r8 : List GOp := [(none, (.asg 4 (.c (.int .i64 1)) true))]
def c_cmp_Compare_int__r9 : List GOp := [(none, (.r (.mov 14 (.t 0)))),
  (none, (.r (.mov 15 (.t 1)))),
  (none, (.r (.bin 16 .lss 0 (.t 14) (.t 15))))]
def c_cmp_Compare_int__r10 : List GOp := [(none, (.asg 4 (.c (.int .i64 (-(0 + 1)))) true))]
def c_cmp_Compare_int__r11 : List GOp := [(none, (.r (.mov 17 (.t 0)))),
  (none, (.r (.mov 18 (.t 1)))),
  (none, (.r (.bin 19 .gtr 0 (.t 17) (.t 18))))]
def c_cmp_Compare_int__r12 : List GOp := [(none, (.asg 4 (.c (.int .i64 1)) true))]
def c_cmp_Compare_int__r13 : List GOp := [(none, (.asg 4 (.c (.int .i64 0)) true))]
def v_cmp_Compare_int_ : List Nat := [0, 1, 4, 5, 6, 11, 12, 13, 16, 19]
def c_cmp_Compare_int_ : ACode :=
  (.seq
  (.reg [0, 1, 4, 5, 6, 11, 12, 13, 16, 19] c_cmp_Compare_int__r0 v_cmp_Compare_int_)
  (.seq
  (.reg [0, 1, 4, 5, 6, 11, 12, 13, 16, 19] c_cmp_Compare_int__r1 v_cmp_Compare_int_)
  (.seq
  (.reg [0, 1, 4, 5, 6, 11, 12, 13, 16, 19] c_cmp_Compare_int__r2 v_cmp_Compare_int_)
  (.seq
  (.seq
  (.reg [0, 1, 4, 5, 6, 12, 13, 16, 19] c_cmp_Compare_int__r3 v_cmp_Compare_int_)
  (.cond (.t 11) (.seq
  (.seq
  (.reg [0, 1, 4, 5, 6, 11, 13, 16, 19] c_cmp_Compare_int__r4 v_cmp_Compare_int_)
  (.cond (.t 12) (.seq
  (.reg [0, 1, 4, 5, 6, 11, 12, 13, 16, 19] c_cmp_Compare_int__r5 v_cmp_Compare_int_)
  .ret) .skip))
  (.seq
  (.reg [0, 1, 4, 5, 6, 11, 12, 13, 16, 19] c_cmp_Compare_int__r6 v_cmp_Compare_int_)
  .ret)) .skip))
  (.seq
  (.seq
  (.reg [0, 1, 4, 5, 6, 11, 12, 16, 19] c_cmp_Compare_int__r7 v_cmp_Compare_int_)
  (.cond (.t 13) (.seq
  (.reg [0, 1, 4, 5, 6, 11, 12, 13, 16, 19] c_cmp_Compare_int__r8 v_cmp_Compare_int_)
  .ret) .skip))
  (.seq
  (.seq
  (.reg [0, 1, 4, 5, 6, 11, 12, 13, 19] c_cmp_Compare_int__r9 v_cmp_Compare_int_)
  (.cond (.t 16) (.seq
  (.reg [0, 1, 4, 5, 6, 11, 12, 13, 16, 19] c_cmp_Compare_int__r10 v_cmp_Compare_int_)
  .ret) .skip))
  (.seq
  (.seq
  (.reg [0, 1, 4, 5, 6, 11, 12, 13, 16] c_cmp_Compare_int__r11 v_cmp_Compare_int_)
  (.cond (.t 19) (.seq
  (.reg [0, 1, 4, 5, 6, 11, 12, 13, 16, 19] c_cmp_Compare_int__r12 v_cmp_Compare_int_)
  .ret) .skip))
  (.seq
  (.reg [0, 1, 4, 5, 6, 11, 12, 13, 16, 19] c_cmp_Compare_int__r13 v_cmp_Compare_int_)
  .ret))))))))
abbrev n_cmp_Compare_int_ : Nat := 65
theorem s_cmp_Compare_int_ : stripF Try.prog [4] v_cmp_Compare_int_ Try.f65 = some (c_cmp_Compare_int_, [(.tmp 4)]) := by kernel_rfl
theorem go_cmp_Compare_int_ {L : List (List Nat)} {args : List AVal} {h : Heap} {Q : AVal → Heap → Prop} (hl : args.length = 2) (H : Wlk Try.prog [4] Try.f65.ntmps v_cmp_Compare_int_ L c_cmp_Compare_int_ (ends L [(.tmp 4)] Q) (entry v_cmp_Compare_int_ args h)) : ACalls Try.prog L n_cmp_Compare_int_ args h Q :=
  acalls_of_strip mix Try.func65 s_cmp_Compare_int_ (by rw [hl]; exact Nat.le_of_ble_eq_true rfl) H
def c_slices_Repeat___int_int__r0 : List GOp := [(none, (.asg 4 (.c (.slice none 0 0)) true))]
def c_slices_Repeat___int_int__r1 : List GOp := [(none, (.r (.mov 9 (.t 1)))),
  (none, (.r (.bin 10 .lss 0 (.t 9) (.c (.int .i64 0)))))]
def c_slices_Repeat___int_int__r2 : List GOp := [(none, (.bad (some 11))),
  (none, (.bad none))]
def c_slices_Repeat___int_int__r3 : List GOp := [(none, (.r (.mov 13 (.t 0)))),
  (none, (.r (.len 14 (.t 13)))),
  (none, (.r (.conv 15 .u64 (.t 14)))),
  (none, (.r (.mov 16 (.t 1)))),
  (none, (.r (.conv 17 .u64 (.t 16)))),
  (none, (.call 18 (.f 77) [((.t 15), false), ((.t 17), false)])),
  (none, (.r (.mov 12 (.t 18)))),
  (none, (.r (.ext 19 (.t 12) 0))),
  (none, (.r (.ext 20 (.t 12) 1))),
  (none, (.asg 5 (.t 19) true)),
  (none, (.asg 6 (.t 20) true))]
def c_slices_Repeat___int_int__r4 : List GOp := [(none, (.r (.mov 21 (.t 5)))),
  (none, (.r (.bin 22 .gtr 0 (.t 21) (.c (.int .u64 0))))),
  (none, (.r (.mov 23 (.t 22)))), ((some (23, false)), (.r (.mov 24 (.t 6)))), ((some (23, false)), (.r (.bin 25 .gtr 0 (.t 24) (.c (.int .u64 9223372036854775807))))),
  (none, (.r (.pick 26 (.t 23) (.c (.bool true)) (.t 25))))]
def c_slices_Repeat___int_int__r5 : List GOp := [(none, (.bad (some 27))),
  (none, (.bad none))]
def c_slices_Repeat___int_int__r6 : List GOp := [(none, (.r (.mov 28 (.t 6)))),
  (none, (.r (.conv 29 .i64 (.t 28)))),
  (none, (.mk 30 (.t 29) (.t 29) 1 8 [(.int .i64 0)])),
  (none, (.asg 7 (.t 30) true))]
def c_slices_Repeat___int_int__r7 : List GOp := [(none, (.r (.mov 31 (.t 7)))),
  (none, (.r (.mov 32 (.t 0)))),
  (none, (.cpy 33 (.t 31) (.t 32) 1)),
  (none, (.asg 8 (.t 33) true))]
def c_slices_Repeat___int_int__r8 : List GOp := [(none, (.r (.mov 34 (.t 8)))),
  (none, (.r (.mov 35 (.t 7)))),
  (none, (.r (.len 36 (.t 35)))),
  (none, (.r (.bin 37 .lss 0 (.t 34) (.t 36))))]
def c_slices_Repeat___int_int__r9 : Tree := 
  (.take [8, 9] (none, (.r (.mov 38 (.t 8)))) 
  (.take [3, 7, 8, 9] (none, (.r (.mov 39 (.t 7)))) 
  (.take [3, 7, 8, 9] (none, (.r (.mov 40 (.t 8)))) 
  (.take [6, 7, 8, 9] (none, (.r (.mov 42 (.t 7)))) 
  (.take [6, 7, 8, 9] (none, (.r (.mov 43 (.t 8)))) (.two 3 (none, (.slc 41 (.t 39) (some (.t 40)) none 1)) 
  (.one 6 (none, (.slc 44 (.t 42) none (some (.t 43)) 1)) 
  (.one 7 (none, (.cpy 45 (.t 41) (.t 44) 1)) 
  (.take [9] (none, (.r (.bin 46 .add 0 (.t 38) (.t 45)))) 
  (.one 9 (none, (.asg 8 (.t 46) true)) .done)))) 6 (none, (.slc 44 (.t 42) none (some (.t 43)) 1)) 
  (.one 3 (none, (.slc 41 (.t 39) (some (.t 40)) none 1)) 
  (.one 7 (none, (.cpy 45 (.t 41) (.t 44) 1)) 
  (.take [9] (none, (.r (.bin 46 .add 0 (.t 38) (.t 45)))) 
  (.one 9 (none, (.asg 8 (.t 46) true)) .done))))))))))
def c_slices_Repeat___int_int__r10 : List GOp := [(none, (.r (.mov 47 (.t 7)))),
  (none, (.asg 4 (.t 47) true))]
def v_slices_Repeat___int_int_ : List Nat := [0, 1, 4, 5, 6, 7, 8, 10, 26, 37]
def c_slices_Repeat___int_int_ : ACode :=
  (.seq
  (.reg [0, 1, 4, 5, 6, 7, 8, 10, 26, 37] c_slices_Repeat___int_int__r0 v_slices_Repeat___int_int_)
  (.seq
  (.seq
  (.reg [0, 1, 4, 5, 6, 7, 8, 26, 37] c_slices_Repeat___int_int__r1 v_slices_Repeat___int_int_)
  (.cond (.t 10) (.reg [0, 1, 4, 5, 6, 7, 8, 10, 26, 37] c_slices_Repeat___int_int__r2 v_slices_Repeat___int_int_) .skip))
  (.seq
  (.reg [0, 1, 4, 5, 6, 7, 8, 10, 26, 37] c_slices_Repeat___int_int__r3 v_slices_Repeat___int_int_)
  (.seq
  (.seq
  (.reg [0, 1, 4, 5, 6, 7, 8, 10, 37] c_slices_Repeat___int_int__r4 v_slices_Repeat___int_int_)
  (.cond (.t 26) (.reg [0, 1, 4, 5, 6, 7, 8, 10, 26, 37] c_slices_Repeat___int_int__r5 v_slices_Repeat___int_int_) .skip))
  (.seq
  (.reg [0, 1, 4, 5, 6, 7, 8, 10, 26, 37] c_slices_Repeat___int_int__r6 v_slices_Repeat___int_int_)
  (.seq
  (.reg [0, 1, 4, 5, 6, 7, 8, 10, 26, 37] c_slices_Repeat___int_int__r7 v_slices_Repeat___int_int_)
  (.seq
  (.blk 0 (.loop (.seq
  (.seq
  (.reg [0, 1, 4, 5, 6, 7, 8, 10, 26] c_slices_Repeat___int_int__r8 v_slices_Repeat___int_int_)
  (.cond (.t 37) .skip (.exit 0)))
  (.blk 1 (.draw [0, 1, 4, 5, 6, 7, 8, 10, 26, 37] c_slices_Repeat___int_int__r9 v_slices_Repeat___int_int_)))))
  (.seq
  (.reg [0, 1, 4, 5, 6, 7, 8, 10, 26, 37] c_slices_Repeat___int_int__r10 v_slices_Repeat___int_int_)
  .ret))))))))
abbrev n_slices_Repeat___int_int_ : Nat := 66
theorem s_slices_Repeat___int_int_ : stripF Try.prog [4] v_slices_Repeat___int_int_ Try.f66 = some (c_slices_Repeat___int_int_, [(.tmp 4)]) := by kernel_rfl
theorem go_slices_Repeat___int_int_ {L : List (List Nat)} {args : List AVal} {h : Heap} {Q : AVal → Heap → Prop} (hl : args.length = 2) (H : Wlk Try.prog [4] Try.f66.ntmps v_slices_Repeat___int_int_ L c_slices_Repeat___int_int_ (ends L [(.tmp 4)] Q) (entry v_slices_Repeat___int_int_ args h)) : ACalls Try.prog L n_slices_Repeat___int_int_ args h Q :=
  acalls_of_strip mix Try.func66 s_slices_Repeat___int_int_ (by rw [hl]; exact Nat.le_of_ble_eq_true rfl) H
def c_forest_New_r0 : List GOp := [(none, (.asg 4 (.c (.pointer none)) true))]
def c_forest_New_r1 : List GOp := [(none, (.r (.mov 8 (.t 0)))),
  (none, (.r (.len 9 (.t 8)))),
  (none, (.asg 5 (.t 9) true))]
def c_forest_New_r2 : Tree := 
  (.take [24, 25, 26] (none, (.r (.mov 10 (.t 0)))) 
  (.take [24, 25, 26] (none, (.r (.mov 11 (.t 1)))) 
  (.take [3, 24, 25, 26] (none, (.r (.mov 12 (.t 5)))) 
  (.take [5, 24, 25, 26] (none, (.r (.mov 14 (.t 5)))) 
  (.take [7, 24, 25, 26] (none, (.r (.mov 16 (.t 5)))) 
  (.take [9, 24, 25, 26] (none, (.r (.mov 18 (.t 5)))) 
  (.take [11, 24, 25, 26] (none, (.r (.mov 20 (.t 5)))) 
  (.take [13, 24, 25, 26] (none, (.r (.mov 22 (.t 5)))) 
  (.take [15, 24, 25, 26] (none, (.r (.mov 24 (.t 5)))) 
  (.take [17, 24, 25, 26] (none, (.r (.mov 26 (.t 5)))) 
  (.take [19, 24, 25, 26] (none, (.r (.mov 28 (.t 5)))) 
  (.take [21, 24, 25, 26] (none, (.r (.mov 30 (.t 5)))) 
  (.take [23, 24, 25, 26] (none, (.r (.mov 32 (.t 5)))) (.many [(3, (none, (.mk 13 (.t 12) (.t 12) 1 8 [(.int .i64 0)]))), (5, (none, (.mk 15 (.t 14) (.t 14) 1 1 [(.bool false)]))), (7, (none, (.mk 17 (.t 16) (.t 16) 1 8 [(.int .i64 0)]))), (9, (none, (.mk 19 (.t 18) (.t 18) 1 8 [(.int .i64 0)]))), (11, (none, (.mk 21 (.t 20) (.t 20) 1 8 [(.int .i64 0)]))), (13, (none, (.mk 23 (.t 22) (.t 22) 1 8 [(.int .i64 0)]))), (15, (none, (.mk 25 (.t 24) (.t 24) 2 16 [(.int .i64 0), (.int .i64 0)]))), (17, (none, (.mk 27 (.t 26) (.t 26) 1 1 [(.bool false)]))), (19, (none, (.mk 29 (.t 28) (.t 28) 1 8 [(.int .i64 0)]))), (21, (none, (.mk 31 (.t 30) (.t 30) 1 8 [(.int .i64 0)]))), (23, (none, (.mk 33 (.t 32) (.t 32) 1 8 [(.int .i64 0)])))] 
  (.one 24 (none, (.bld 34 [((0, 1), ((.t 10), true)), ((1, 1), ((.t 11), true)), ((2, 1), ((.t 13), true)), ((3, 1), ((.t 15), true)), ((4, 1), ((.t 17), true)), ((5, 1), ((.t 19), true)), ((6, 1), ((.t 21), true)), ((7, 1), ((.t 23), true)), ((8, 1), ((.t 25), true)), ((9, 1), ((.t 27), true)), ((10, 1), ((.t 29), true)), ((11, 1), ((.t 31), true)), ((12, 1), ((.t 33), true))] [(.slice none 0 0), (.slice none 0 0), (.slice none 0 0), (.slice none 0 0), (.slice none 0 0), (.slice none 0 0), (.slice none 0 0), (.slice none 0 0), (.slice none 0 0), (.slice none 0 0), (.slice none 0 0), (.slice none 0 0), (.slice none 0 0), (.int .i64 0), (.slice none 0 0), (.int .i64 0)])) 
  (.one 25 (none, (.box 35 (.t 34))) 
  (.one 26 (none, (.asg 6 (.t 35) true)) .done)))))))))))))))))
def c_forest_New_r3 : List GOp := [(none, (.r (.mov 36 (.t 5)))),
  (none, (.r (.mov 37 (.c (.int .i64 0)))))]
def c_forest_New_r4 : List GOp := [(none, (.r (.bin 38 .lss 0 (.t 37) (.t 36))))]
def c_forest_New_r5 : List GOp := [(none, (.r (.mov 39 (.t 37)))),
  (none, (.asg 7 (.t 39) true))]
def c_forest_New_r6 : Tree := 
  (.take [1, 2, 3, 17, 18, 19, 20, 21, 22] (none, (.r (.mov 40 (.t 6)))) 
  (.take [2, 3, 17, 18, 19, 20, 21, 22] (none, (.r (.nilck 41 (.t 40)))) 
  (.take [3, 17, 18, 19, 20, 21, 22] (none, (.r (.fldA 42 (.t 41) 10))) 
  (.take [17, 18, 19, 20, 21, 22] (none, (.r (.ld 43 (.t 42) 1 false))) 
  (.take [17, 18, 19, 20, 21, 22] (none, (.r (.mov 44 (.t 7)))) 
  (.take [6, 7, 8, 17, 18, 19, 20, 21, 22] (none, (.r (.mov 45 (.t 6)))) 
  (.take [7, 8, 17, 18, 19, 20, 21, 22] (none, (.r (.nilck 46 (.t 45)))) 
  (.take [8, 17, 18, 19, 20, 21, 22] (none, (.r (.fldA 47 (.t 46) 11))) 
  (.take [17, 18, 19, 20, 21, 22] (none, (.r (.ld 48 (.t 47) 1 false))) 
  (.take [19, 20, 21, 22] (none, (.r (.mov 49 (.t 7)))) 
  (.take [11, 12, 13, 17, 18, 19, 20, 21, 22] (none, (.r (.mov 50 (.t 6)))) 
  (.take [12, 13, 17, 18, 19, 20, 21, 22] (none, (.r (.nilck 51 (.t 50)))) 
  (.take [13, 17, 18, 19, 20, 21, 22] (none, (.r (.fldA 52 (.t 51) 7))) 
  (.take [17, 18, 19, 20, 21, 22] (none, (.r (.ld 53 (.t 52) 1 false))) 
  (.take [21, 22] (none, (.r (.mov 54 (.t 7)))) 
  (.take [17, 18, 19, 20, 21, 22] (none, (.r (.mov 55 (.t 7)))) 
  (.take [19, 20, 21, 22] (none, (.r (.mov 56 (.t 7)))) 
  (.take [18, 19, 20, 21, 22] (none, (.r (.idxA 57 (.t 43) (.t 44) 1))) 
  (.one 18 (none, (.st (.t 57) (.t 55) 1)) 
  (.take [20, 21, 22] (none, (.r (.idxA 58 (.t 48) (.t 49) 1))) 
  (.one 20 (none, (.st (.t 58) (.t 56) 1)) 
  (.take [22] (none, (.r (.idxA 59 (.t 53) (.t 54) 1))) 
  (.one 22 (none, (.st (.t 59) (.c (.int .i64 (-(0 + 1)))) 1)) .done)))))))))))))))))))))))
def c_forest_New_r7 : List GOp := [(none, (.r (.mov 60 (.t 1)))),
  (none, (.r (.mov 61 (.t 7)))),
  (none, (.r (.idxA 62 (.t 60) (.t 61) 1))),
  (none, (.r (.ld 63 (.t 62) 1 false))),
  (none, (.r (.bin 64 .eql 0 (.t 63) (.c (.int .i64 (-(0 + 1)))))))]
def c_forest_New_r8 : List GOp := [(none, (.r (.mov 65 (.t 6)))),
  (none, (.r (.nilck 66 (.t 65)))),
  (none, (.r (.fldA 67 (.t 66) 7))),
  (none, (.r (.ld 68 (.t 67) 1 false))),
  (none, (.r (.mov 69 (.t 7)))),
  (none, (.r (.mov 70 (.t 7)))),
  (none, (.r (.idxA 71 (.t 68) (.t 69) 1))),
  (none, (.st (.t 71) (.t 70) 1))]
def c_forest_New_r9 : List GOp := [(none, (.r (.mov 72 (.t 6)))),
  (none, (.r (.mov 73 (.t 7)))),
  (none, (.call 74 (.f 78) [((.t 72), false), ((.t 73), false), ((.c (.int .i64 0)), false), ((.c (.int .i64 1)), false)]))]
def c_forest_New_r10 : List GOp := [(none, (.r (.bin 75 .add 0 (.t 37) (.c (.int .i64 1))))),
  (none, (.asg 37 (.t 75) true))]
def c_forest_New_r11 : List GOp := [(none, (.r (.mov 76 (.t 6)))),
  (none, (.asg 4 (.t 76) true))]
def v_forest_New : List Nat := [0, 1, 4, 5, 6, 7, 36, 37, 38, 64]
def c_forest_New : ACode :=
  (.seq
  (.reg [0, 1, 4, 5, 6, 7, 36, 37, 38, 64] c_forest_New_r0 v_forest_New)
  (.seq
  (.reg [0, 1, 4, 5, 6, 7, 36, 37, 38, 64] c_forest_New_r1 v_forest_New)
  (.seq
  (.draw [0, 1, 4, 5, 6, 7, 36, 37, 38, 64] c_forest_New_r2 v_forest_New)
  (.seq
  (.seq
  (.reg [0, 1, 4, 5, 6, 7, 38, 64] c_forest_New_r3 v_forest_New)
  (.blk 0 (.loop (.seq
  (.reg [0, 1, 4, 5, 6, 7, 36, 37, 64] c_forest_New_r4 v_forest_New)
  (.seq
  (.cond (.t 38) .skip (.exit 0))
  (.seq
  (.blk 1 (.seq
  (.reg [0, 1, 4, 5, 6, 7, 36, 37, 38, 64] c_forest_New_r5 v_forest_New)
  (.seq
  (.draw [0, 1, 4, 5, 6, 7, 36, 37, 38, 64] c_forest_New_r6 v_forest_New)
  (.seq
  (.reg [0, 1, 4, 5, 6, 7, 36, 37, 38] c_forest_New_r7 v_forest_New)
  (.cond (.t 64) (.seq
  (.reg [0, 1, 4, 5, 6, 7, 36, 37, 38, 64] c_forest_New_r8 v_forest_New)
  (.reg [0, 1, 4, 5, 6, 7, 36, 37, 38, 64] c_forest_New_r9 v_forest_New)) .skip)))))
  (.reg [0, 1, 4, 5, 6, 7, 36, 37, 38, 64] c_forest_New_r10 v_forest_New)))))))
  (.seq
  (.reg [0, 1, 4, 5, 6, 7, 36, 37, 38, 64] c_forest_New_r11 v_forest_New)
  .ret)))))
abbrev n_forest_New : Nat := 67
theorem s_forest_New : stripF Try.prog [4] v_forest_New Try.f67 = some (c_forest_New, [(.tmp 4)]) := by kernel_rfl
theorem go_forest_New {L : List (List Nat)} {args : List AVal} {h : Heap} {Q : AVal → Heap → Prop} (hl : args.length = 2) (H : Wlk Try.prog [4] Try.f67.ntmps v_forest_New L c_forest_New (ends L [(.tmp 4)] Q) (entry v_forest_New args h)) : ACalls Try.prog L n_forest_New args h Q :=
  acalls_of_strip mix Try.func67 s_forest_New (by rw [hl]; exact Nat.le_of_ble_eq_true rfl) H
def c_forest_Forest_Base_r0 : List GOp := [(none, (.asg 4 (.c (.int .i64 0)) true))]
def c_forest_Forest_Base_r1 : Tree := 
  (.take [1, 2, 3, 7, 8, 9] (none, (.r (.mov 5 (.t 0)))) 
  (.take [2, 3, 7, 8, 9] (none, (.r (.nilck 6 (.t 5)))) 
  (.take [3, 7, 8, 9] (none, (.r (.fldA 7 (.t 6) 11))) 
  (.take [7, 8, 9] (none, (.r (.ld 8 (.t 7) 1 false))) 
  (.take [6, 7, 8, 9] (none, (.r (.mov 9 (.t 0)))) 
  (.take [6, 7, 8, 9] (none, (.r (.mov 10 (.t 1)))) 
  (.one 6 (none, (.call 11 (.f 79) [((.t 9), false), ((.t 10), false)])) 
  (.take [8, 9] (none, (.r (.idxA 12 (.t 8) (.t 11) 1))) 
  (.take [9] (none, (.r (.ld 13 (.t 12) 1 false))) 
  (.one 9 (none, (.asg 4 (.t 13) true)) .done))))))))))
def v_forest_Forest_Base : List Nat := [0, 1, 4]
def c_forest_Forest_Base : ACode :=
  (.seq
  (.reg [0, 1, 4] c_forest_Forest_Base_r0 v_forest_Forest_Base)
  (.seq
  (.draw [0, 1, 4] c_forest_Forest_Base_r1 v_forest_Forest_Base)
  .ret))
abbrev n_forest_Forest_Base : Nat := 68
theorem s_forest_Forest_Base : stripF Try.prog [4] v_forest_Forest_Base Try.f68 = some (c_forest_Forest_Base, [(.tmp 4)]) := by kernel_rfl
theorem go_forest_Forest_Base {L : List (List Nat)} {args : List AVal} {h : Heap} {Q : AVal → Heap → Prop} (hl : args.length = 2) (H : Wlk Try.prog [4] Try.f68.ntmps v_forest_Forest_Base L c_forest_Forest_Base (ends L [(.tmp 4)] Q) (entry v_forest_Forest_Base args h)) : ACalls Try.prog L n_forest_Forest_Base args h Q :=
  acalls_of_strip mix Try.func68 s_forest_Forest_Base (by rw [hl]; exact Nat.le_of_ble_eq_true rfl) H
def c_forest_Forest_Next_r0 : List GOp := [(none, (.asg 2 (.c (.int .i64 0)) true)),
  (none, (.asg 3 (.c (.bool false)) true))]
def c_forest_Forest_Next_r1 : List GOp := [(none, (.r (.mov 5 (.t 0)))),
  (none, (.r (.nilck 6 (.t 5)))),
  (none, (.r (.fldA 7 (.t 6) 14))),
  (none, (.r (.ld 8 (.t 7) 1 false))),
  (none, (.r (.len 9 (.t 8)))),
  (none, (.r (.bin 10 .eql 0 (.t 9) (.c (.int .i64 0)))))]
def c_forest_Forest_Next_r2 : List GOp := [(none, (.asg 2 (.c (.int .i64 0)) true)),
  (none, (.asg 3 (.c (.bool false)) true))]
def c_forest_Forest_Next_r3 : List GOp := [(none, (.r (.mov 11 (.t 0)))),
  (none, (.r (.nilck 12 (.t 11)))),
  (none, (.r (.fldA 13 (.t 12) 14))),
  (none, (.r (.ld 14 (.t 13) 1 false))),
  (none, (.r (.idxA 15 (.t 14) (.c (.int .i64 0)) 1))),
  (none, (.r (.ld 16 (.t 15) 1 false))),
  (none, (.asg 4 (.t 16) true))]
def c_forest_Forest_Next_r4 : List GOp := [(none, (.r (.mov 17 (.t 0)))),
  (none, (.r (.mov 18 (.t 0)))),
  (none, (.r (.nilck 19 (.t 18)))),
  (none, (.r (.fldA 20 (.t 19) 14))),
  (none, (.r (.ld 21 (.t 20) 1 false))),
  (none, (.slc 22 (.t 21) (some (.c (.int .i64 1))) none 1)),
  (none, (.r (.nilck 23 (.t 17)))),
  (none, (.r (.fldA 24 (.t 23) 14))),
  (none, (.st (.t 24) (.t 22) 1))]
def c_forest_Forest_Next_r5 : List GOp := [(none, (.r (.mov 25 (.t 4)))),
  (none, (.asg 2 (.t 25) true)),
  (none, (.asg 3 (.c (.bool true)) true))]
def v_forest_Forest_Next : List Nat := [0, 2, 3, 4, 10]
def c_forest_Forest_Next : ACode :=
  (.seq
  (.reg [0, 2, 3, 4, 10] c_forest_Forest_Next_r0 v_forest_Forest_Next)
  (.seq
  (.seq
  (.reg [0, 2, 3, 4] c_forest_Forest_Next_r1 v_forest_Forest_Next)
  (.cond (.t 10) (.seq
  (.reg [0, 2, 3, 4, 10] c_forest_Forest_Next_r2 v_forest_Forest_Next)
  .ret) .skip))
  (.seq
  (.reg [0, 2, 3, 4, 10] c_forest_Forest_Next_r3 v_forest_Forest_Next)
  (.seq
  (.reg [0, 2, 3, 4, 10] c_forest_Forest_Next_r4 v_forest_Forest_Next)
  (.seq
  (.reg [0, 2, 3, 4, 10] c_forest_Forest_Next_r5 v_forest_Forest_Next)
  .ret)))))
abbrev n_forest_Forest_Next : Nat := 69
theorem s_forest_Forest_Next : stripF Try.prog [2, 3] v_forest_Forest_Next Try.f69 = some (c_forest_Forest_Next, [(.tmp 2), (.tmp 3)]) := by kernel_rfl
theorem go_forest_Forest_Next {L : List (List Nat)} {args : List AVal} {h : Heap} {Q : AVal → Heap → Prop} (hl : args.length = 1) (H : Wlk Try.prog [2, 3] Try.f69.ntmps v_forest_Forest_Next L c_forest_Forest_Next (ends L [(.tmp 2), (.tmp 3)] Q) (entry v_forest_Forest_Next args h)) : ACalls Try.prog L n_forest_Forest_Next args h Q :=
  acalls_of_strip mix Try.func69 s_forest_Forest_Next (by rw [hl]; exact Nat.le_of_ble_eq_true rfl) H
def c_forest_Forest_Look_r0 : List GOp := [(none, (.asg 6 (.c (.int .i64 0)) true))]
def c_forest_Forest_Look_r1 : List GOp := [(none, (.r (.mov 7 (.t 0)))),
  (none, (.r (.nilck 8 (.t 7)))),
  (none, (.r (.fldA 9 (.t 8) 15))),
  (none, (.r (.ld 10 (.t 9) 1 false))),
  (none, (.r (.bin 11 .add 0 (.t 10) (.c (.int .i64 1))))),
  (none, (.r (.nilck 12 (.t 7)))),
  (none, (.r (.fldA 13 (.t 12) 15))),
  (none, (.st (.t 13) (.t 11) 1))]
def c_forest_Forest_Look_r2 : List GOp := [(none, (.r (.mov 15 (.t 2)))),
  (none, (.r (.mov 16 (.t 0)))),
  (none, (.r (.nilck 17 (.t 16)))),
  (none, (.r (.fldA 18 (.t 17) 1))),
  (none, (.r (.ld 19 (.t 18) 1 false))),
  (none, (.r (.mov 20 (.t 1)))),
  (none, (.r (.idxA 21 (.t 19) (.t 20) 1))),
  (none, (.r (.ld 22 (.t 21) 1 false))),
  (none, (.r (.bin 23 .eql 0 (.t 15) (.t 22)))),
  (none, (.r (.mov 24 (.t 23)))), ((some (24, false)), (.r (.mov 25 (.t 0)))), ((some (24, false)), (.r (.mov 26 (.t 1)))), ((some (24, false)), (.call 27 (.f 80) [((.t 25), false), ((.t 26), false)])),
  (none, (.r (.pick 28 (.t 24) (.c (.bool true)) (.t 27)))),
  (none, (.r (.mov 29 (.t 28)))), ((some (29, false)), (.r (.mov 30 (.t 0)))), ((some (29, false)), (.r (.mov 31 (.t 2)))), ((some (29, false)), (.call 32 (.f 80) [((.t 30), false), ((.t 31), false)])),
  (none, (.r (.pick 33 (.t 29) (.c (.bool true)) (.t 32)))),
  (none, (.asg 14 (.t 33) true))]
def c_forest_Forest_Look_r3 : List GOp := [(none, (.asg 6 (.c (.int .i64 0)) true))]
def c_forest_Forest_Look_r4 : List GOp := [(none, (.r (.mov 35 (.t 0)))),
  (none, (.r (.nilck 36 (.t 35)))),
  (none, (.r (.fldA 37 (.t 36) 2))),
  (none, (.r (.ld 38 (.t 37) 1 false))),
  (none, (.r (.mov 39 (.t 2)))),
  (none, (.r (.idxA 40 (.t 38) (.t 39) 1))),
  (none, (.r (.ld 41 (.t 40) 1 false))),
  (none, (.r (.bin 42 .eql 0 (.t 41) (.c (.int .i64 0))))),
  (none, (.asg 34 (.t 42) true))]
def c_forest_Forest_Look_r5 : List GOp := [(none, (.asg 6 (.c (.int .i64 1)) true))]
def c_forest_Forest_Look_r6 : List GOp := [(none, (.r (.mov 44 (.t 0)))),
  (none, (.r (.nilck 45 (.t 44)))),
  (none, (.r (.fldA 46 (.t 45) 3))),
  (none, (.r (.ld 47 (.t 46) 1 false))),
  (none, (.r (.mov 48 (.t 2)))),
  (none, (.r (.idxA 49 (.t 47) (.t 48) 1))),
  (none, (.r (.ld 50 (.t 49) 1 false))),
  (none, (.r (.mov 51 (.t 50)))), ((some (51, true)), (.r (.mov 52 (.t 0)))), ((some (51, true)), (.r (.mov 53 (.t 1)))), ((some (51, true)), (.call 54 (.f 68) [((.t 52), false), ((.t 53), false)])), ((some (51, true)), (.r (.mov 55 (.t 0)))), ((some (51, true)), (.r (.mov 56 (.t 2)))), ((some (51, true)), (.call 57 (.f 68) [((.t 55), false), ((.t 56), false)])), ((some (51, true)), (.r (.bin 58 .neq 0 (.t 54) (.t 57)))),
  (none, (.r (.pick 59 (.t 51) (.t 58) (.c (.bool false))))),
  (none, (.asg 43 (.t 59) true))]
def c_forest_Forest_Look_r7 : List GOp := [(none, (.asg 6 (.c (.int .i64 2)) true))]
def c_forest_Forest_Look_r8 : List GOp := [(none, (.asg 6 (.c (.int .i64 0)) true))]
def v_forest_Forest_Look : List Nat := [0, 1, 2, 6, 14, 34, 43]
def c_forest_Forest_Look : ACode :=
  (.seq
  (.reg [0, 1, 2, 6, 14, 34, 43] c_forest_Forest_Look_r0 v_forest_Forest_Look)
  (.seq
  (.reg [0, 1, 2, 6, 14, 34, 43] c_forest_Forest_Look_r1 v_forest_Forest_Look)
  (.seq
  (.blk 0 (.seq
  (.reg [0, 1, 2, 6, 14, 34, 43] c_forest_Forest_Look_r2 v_forest_Forest_Look)
  (.cond (.t 14) (.seq
  (.reg [0, 1, 2, 6, 14, 34, 43] c_forest_Forest_Look_r3 v_forest_Forest_Look)
  .ret) (.seq
  (.reg [0, 1, 2, 6, 14, 34, 43] c_forest_Forest_Look_r4 v_forest_Forest_Look)
  (.cond (.t 34) (.seq
  (.reg [0, 1, 2, 6, 14, 34, 43] c_forest_Forest_Look_r5 v_forest_Forest_Look)
  .ret) (.seq
  (.reg [0, 1, 2, 6, 14, 34, 43] c_forest_Forest_Look_r6 v_forest_Forest_Look)
  (.cond (.t 43) (.seq
  (.reg [0, 1, 2, 6, 14, 34, 43] c_forest_Forest_Look_r7 v_forest_Forest_Look)
  .ret) .skip)))))))
  (.seq
  (.reg [0, 1, 2, 6, 14, 34, 43] c_forest_Forest_Look_r8 v_forest_Forest_Look)
  .ret))))
abbrev n_forest_Forest_Look : Nat := 70
theorem s_forest_Forest_Look : stripF Try.prog [6] v_forest_Forest_Look Try.f70 = some (c_forest_Forest_Look, [(.tmp 6)]) := by kernel_rfl
theorem go_forest_Forest_Look {L : List (List Nat)} {args : List AVal} {h : Heap} {Q : AVal → Heap → Prop} (hl : args.length = 3) (H : Wlk Try.prog [6] Try.f70.ntmps v_forest_Forest_Look L c_forest_Forest_Look (ends L [(.tmp 6)] Q) (entry v_forest_Forest_Look args h)) : ACalls Try.prog L n_forest_Forest_Look args h Q :=
  acalls_of_strip mix Try.func70 s_forest_Forest_Look (by rw [hl]; exact Nat.le_of_ble_eq_true rfl) H
def c_forest_Forest_Grow_r0 : Tree := 
  (.take [1, 2, 3, 36, 37, 38, 39, 40, 41, 42, 43] (none, (.r (.mov 7 (.t 0)))) 
  (.take [2, 3, 36, 37, 38, 39, 40, 41, 42, 43] (none, (.r (.nilck 8 (.t 7)))) 
  (.take [3, 36, 37, 38, 39, 40, 41, 42, 43] (none, (.r (.fldA 9 (.t 8) 2))) 
  (.take [36, 37, 38, 39, 40, 41, 42, 43] (none, (.r (.ld 10 (.t 9) 1 false))) 
  (.take [36, 37, 38, 39, 40, 41, 42, 43] (none, (.r (.mov 11 (.t 2)))) 
  (.take [6, 7, 8, 36, 37, 38, 39, 40, 41, 42, 43] (none, (.r (.mov 12 (.t 0)))) 
  (.take [7, 8, 36, 37, 38, 39, 40, 41, 42, 43] (none, (.r (.nilck 13 (.t 12)))) 
  (.take [8, 36, 37, 38, 39, 40, 41, 42, 43] (none, (.r (.fldA 14 (.t 13) 6))) 
  (.take [36, 37, 38, 39, 40, 41, 42, 43] (none, (.r (.ld 15 (.t 14) 1 false))) 
  (.take [38, 39, 40, 41, 42, 43] (none, (.r (.mov 16 (.t 2)))) 
  (.take [11, 12, 13, 36, 37, 38, 39, 40, 41, 42, 43] (none, (.r (.mov 17 (.t 0)))) 
  (.take [12, 13, 36, 37, 38, 39, 40, 41, 42, 43] (none, (.r (.nilck 18 (.t 17)))) 
  (.take [13, 36, 37, 38, 39, 40, 41, 42, 43] (none, (.r (.fldA 19 (.t 18) 7))) 
  (.take [36, 37, 38, 39, 40, 41, 42, 43] (none, (.r (.ld 20 (.t 19) 1 false))) 
  (.take [40, 41, 42, 43] (none, (.r (.mov 21 (.t 2)))) 
  (.take [16, 17, 18, 36, 37, 38, 39, 40, 41, 42, 43] (none, (.r (.mov 22 (.t 0)))) 
  (.take [17, 18, 36, 37, 38, 39, 40, 41, 42, 43] (none, (.r (.nilck 23 (.t 22)))) 
  (.take [18, 36, 37, 38, 39, 40, 41, 42, 43] (none, (.r (.fldA 24 (.t 23) 5))) 
  (.take [36, 37, 38, 39, 40, 41, 42, 43] (none, (.r (.ld 25 (.t 24) 1 false))) 
  (.take [42, 43] (none, (.r (.mov 26 (.t 2)))) 
  (.take [38, 39, 40, 41, 42, 43] (none, (.r (.mov 27 (.t 1)))) 
  (.take [22, 23, 24, 26, 27, 36, 37, 38, 39, 40, 41, 42, 43] (none, (.r (.mov 28 (.t 0)))) 
  (.take [23, 24, 26, 27, 36, 37, 38, 39, 40, 41, 42, 43] (none, (.r (.nilck 29 (.t 28)))) 
  (.take [24, 26, 27, 36, 37, 38, 39, 40, 41, 42, 43] (none, (.r (.fldA 30 (.t 29) 7))) 
  (.take [26, 27, 36, 37, 38, 39, 40, 41, 42, 43] (none, (.r (.ld 31 (.t 30) 1 false))) 
  (.take [26, 27, 36, 37, 38, 39, 40, 41, 42, 43] (none, (.r (.mov 32 (.t 1)))) 
  (.take [27, 36, 37, 38, 39, 40, 41, 42, 43] (none, (.r (.idxA 33 (.t 31) (.t 32) 1))) 
  (.take [36, 37, 38, 39, 40, 41, 42, 43] (none, (.r (.ld 34 (.t 33) 1 false))) 
  (.take [29, 30, 31, 33, 34, 35, 36, 37, 38, 39, 40, 41, 42, 43] (none, (.r (.mov 35 (.t 0)))) 
  (.take [30, 31, 33, 34, 35, 36, 37, 38, 39, 40, 41, 42, 43] (none, (.r (.nilck 36 (.t 35)))) 
  (.take [31, 33, 34, 35, 36, 37, 38, 39, 40, 41, 42, 43] (none, (.r (.fldA 37 (.t 36) 4))) 
  (.take [33, 34, 35, 36, 37, 38, 39, 40, 41, 42, 43] (none, (.r (.ld 38 (.t 37) 1 false))) 
  (.take [33, 34, 35, 36, 37, 38, 39, 40, 41, 42, 43] (none, (.r (.mov 39 (.t 1)))) 
  (.take [34, 35, 36, 37, 38, 39, 40, 41, 42, 43] (none, (.r (.idxA 40 (.t 38) (.t 39) 1))) 
  (.take [35, 36, 37, 38, 39, 40, 41, 42, 43] (none, (.r (.ld 41 (.t 40) 1 false))) 
  (.take [42, 43] (none, (.r (.bin 42 .add 0 (.t 41) (.c (.int .i64 1))))) 
  (.take [37, 38, 39, 40, 41, 42, 43] (none, (.r (.idxA 43 (.t 10) (.t 11) 1))) 
  (.one 37 (none, (.st (.t 43) (.c (.int .i64 2)) 1)) 
  (.take [39, 40, 41, 42, 43] (none, (.r (.idxA 44 (.t 15) (.t 16) 1))) 
  (.one 39 (none, (.st (.t 44) (.t 27) 1)) 
  (.take [41, 42, 43] (none, (.r (.idxA 45 (.t 20) (.t 21) 1))) 
  (.one 41 (none, (.st (.t 45) (.t 34) 1)) 
  (.take [43] (none, (.r (.idxA 46 (.t 25) (.t 26) 1))) 
  (.one 43 (none, (.st (.t 46) (.t 42) 1)) .done))))))))))))))))))))))))))))))))))))))))))))
def c_forest_Forest_Grow_r1 : List GOp := [(none, (.r (.mov 47 (.t 0)))),
  (none, (.r (.nilck 48 (.t 47)))),
  (none, (.r (.fldA 49 (.t 48) 1))),
  (none, (.r (.ld 50 (.t 49) 1 false))),
  (none, (.r (.mov 51 (.t 2)))),
  (none, (.r (.idxA 52 (.t 50) (.t 51) 1))),
  (none, (.r (.ld 53 (.t 52) 1 false))),
  (none, (.asg 6 (.t 53) true))]
def c_forest_Forest_Grow_r2 : Tree := 
  (.take [1, 2, 3, 12, 13] (none, (.r (.mov 54 (.t 0)))) 
  (.take [2, 3, 12, 13] (none, (.r (.nilck 55 (.t 54)))) 
  (.take [3, 12, 13] (none, (.r (.fldA 56 (.t 55) 7))) 
  (.take [12, 13] (none, (.r (.ld 57 (.t 56) 1 false))) 
  (.take [12, 13] (none, (.r (.mov 58 (.t 6)))) 
  (.take [6, 7, 8, 10, 11, 12, 13] (none, (.r (.mov 59 (.t 0)))) 
  (.take [7, 8, 10, 11, 12, 13] (none, (.r (.nilck 60 (.t 59)))) 
  (.take [8, 10, 11, 12, 13] (none, (.r (.fldA 61 (.t 60) 7))) 
  (.take [10, 11, 12, 13] (none, (.r (.ld 62 (.t 61) 1 false))) 
  (.take [10, 11, 12, 13] (none, (.r (.mov 63 (.t 1)))) 
  (.take [11, 12, 13] (none, (.r (.idxA 64 (.t 62) (.t 63) 1))) 
  (.take [12, 13] (none, (.r (.ld 65 (.t 64) 1 false))) 
  (.take [13] (none, (.r (.idxA 66 (.t 57) (.t 58) 1))) 
  (.one 13 (none, (.st (.t 66) (.t 65) 1)) .done))))))))))))))
def c_forest_Forest_Grow_r3 : List GOp := [(none, (.r (.mov 67 (.t 0)))),
  (none, (.r (.mov 68 (.t 6)))),
  (none, (.r (.mov 69 (.t 0)))),
  (none, (.r (.nilck 70 (.t 69)))),
  (none, (.r (.fldA 71 (.t 70) 4))),
  (none, (.r (.ld 72 (.t 71) 1 false))),
  (none, (.r (.mov 73 (.t 1)))),
  (none, (.r (.idxA 74 (.t 72) (.t 73) 1))),
  (none, (.r (.ld 75 (.t 74) 1 false))),
  (none, (.r (.bin 76 .add 0 (.t 75) (.c (.int .i64 2))))),
  (none, (.call 77 (.f 78) [((.t 67), false), ((.t 68), false), ((.t 76), false), ((.c (.int .i64 1)), false)]))]
def v_forest_Forest_Grow : List Nat := [0, 1, 2, 6]
def c_forest_Forest_Grow : ACode :=
  (.seq
  (.draw [0, 1, 2, 6] c_forest_Forest_Grow_r0 v_forest_Forest_Grow)
  (.seq
  (.reg [0, 1, 2, 6] c_forest_Forest_Grow_r1 v_forest_Forest_Grow)
  (.seq
  (.draw [0, 1, 2, 6] c_forest_Forest_Grow_r2 v_forest_Forest_Grow)
  (.reg [0, 1, 2, 6] c_forest_Forest_Grow_r3 v_forest_Forest_Grow))))
abbrev n_forest_Forest_Grow : Nat := 71
theorem s_forest_Forest_Grow : stripF Try.prog [] v_forest_Forest_Grow Try.f71 = some (c_forest_Forest_Grow, []) := by kernel_rfl
theorem go_forest_Forest_Grow {L : List (List Nat)} {args : List AVal} {h : Heap} {Q : AVal → Heap → Prop} (hl : args.length = 3) (H : Wlk Try.prog [] Try.f71.ntmps v_forest_Forest_Grow L c_forest_Forest_Grow (ends L [] Q) (entry v_forest_Forest_Grow args h)) : ACalls Try.prog L n_forest_Forest_Grow args h Q :=
  acalls_of_strip mix Try.func71 s_forest_Forest_Grow (by rw [hl]; exact Nat.le_of_ble_eq_true rfl) H
def c_forest_Forest_Join_r0 : List GOp := [(none, (.asg 6 (.c (.slice none 0 0)) true))]
def c_forest_Forest_Join_r1 : Tree := 
  (.take [1, 2, 3, 5, 6, 14] (none, (.r (.mov 9 (.t 0)))) 
  (.take [2, 3, 5, 6, 14] (none, (.r (.nilck 10 (.t 9)))) 
  (.take [3, 5, 6, 14] (none, (.r (.fldA 11 (.t 10) 7))) 
  (.take [5, 6, 14] (none, (.r (.ld 12 (.t 11) 1 false))) 
  (.take [5, 6, 14] (none, (.r (.mov 13 (.t 1)))) 
  (.take [6, 14] (none, (.r (.idxA 14 (.t 12) (.t 13) 1))) 
  (.take [14] (none, (.r (.ld 15 (.t 14) 1 false))) 
  (.take [8, 9, 10, 12, 13, 14] (none, (.r (.mov 16 (.t 0)))) 
  (.take [9, 10, 12, 13, 14] (none, (.r (.nilck 17 (.t 16)))) 
  (.take [10, 12, 13, 14] (none, (.r (.fldA 18 (.t 17) 7))) 
  (.take [12, 13, 14] (none, (.r (.ld 19 (.t 18) 1 false))) 
  (.take [12, 13, 14] (none, (.r (.mov 20 (.t 2)))) 
  (.take [13, 14] (none, (.r (.idxA 21 (.t 19) (.t 20) 1))) 
  (.take [14] (none, (.r (.ld 22 (.t 21) 1 false))) 
  (.take [] (none, (.r (.bin 23 .neq 0 (.t 15) (.t 22)))) .done)))))))))))))))
def c_forest_Forest_Join_r2 : List GOp := [(none, (.r (.mov 24 (.t 0)))),
  (none, (.r (.mov 25 (.t 1)))),
  (none, (.r (.mov 26 (.t 0)))),
  (none, (.r (.nilck 27 (.t 26)))),
  (none, (.r (.fldA 28 (.t 27) 7))),
  (none, (.r (.ld 29 (.t 28) 1 false))),
  (none, (.r (.mov 30 (.t 1)))),
  (none, (.r (.idxA 31 (.t 29) (.t 30) 1))),
  (none, (.r (.ld 32 (.t 31) 1 false))),
  (none, (.call 33 (.f 82) [((.t 24), false), ((.t 25), false), ((.t 32), false)])),
  (none, (.call 34 (.f 81) [((.t 33), false)])),
  (none, (.asg 7 (.t 34) true))]
def c_forest_Forest_Join_r3 : List GOp := [(none, (.r (.mov 35 (.t 7)))),
  (none, (.r (.mov 36 (.t 0)))),
  (none, (.r (.mov 37 (.t 2)))),
  (none, (.r (.mov 38 (.t 0)))),
  (none, (.r (.nilck 39 (.t 38)))),
  (none, (.r (.fldA 40 (.t 39) 7))),
  (none, (.r (.ld 41 (.t 40) 1 false))),
  (none, (.r (.mov 42 (.t 2)))),
  (none, (.r (.idxA 43 (.t 41) (.t 42) 1))),
  (none, (.r (.ld 44 (.t 43) 1 false))),
  (none, (.call 45 (.f 82) [((.t 36), false), ((.t 37), false), ((.t 44), false)])),
  (none, (.app 46 (.t 35) (.t 45) 1 8)),
  (none, (.asg 7 (.t 46) true))]
def c_forest_Forest_Join_r4 : Tree := 
  (.take [1, 2, 3, 22, 23, 24, 25] (none, (.r (.mov 47 (.t 0)))) 
  (.take [2, 3, 22, 23, 24, 25] (none, (.r (.nilck 48 (.t 47)))) 
  (.take [3, 22, 23, 24, 25] (none, (.r (.fldA 49 (.t 48) 9))) 
  (.take [22, 23, 24, 25] (none, (.r (.ld 50 (.t 49) 1 false))) 
  (.take [5, 6, 7, 9, 10, 22, 23, 24, 25] (none, (.r (.mov 51 (.t 0)))) 
  (.take [6, 7, 9, 10, 22, 23, 24, 25] (none, (.r (.nilck 52 (.t 51)))) 
  (.take [7, 9, 10, 22, 23, 24, 25] (none, (.r (.fldA 53 (.t 52) 7))) 
  (.take [9, 10, 22, 23, 24, 25] (none, (.r (.ld 54 (.t 53) 1 false))) 
  (.take [9, 10, 22, 23, 24, 25] (none, (.r (.mov 55 (.t 1)))) 
  (.take [10, 22, 23, 24, 25] (none, (.r (.idxA 56 (.t 54) (.t 55) 1))) 
  (.take [22, 23, 24, 25] (none, (.r (.ld 57 (.t 56) 1 false))) 
  (.take [12, 13, 14, 22, 23, 24, 25] (none, (.r (.mov 58 (.t 0)))) 
  (.take [13, 14, 22, 23, 24, 25] (none, (.r (.nilck 59 (.t 58)))) 
  (.take [14, 22, 23, 24, 25] (none, (.r (.fldA 60 (.t 59) 9))) 
  (.take [22, 23, 24, 25] (none, (.r (.ld 61 (.t 60) 1 false))) 
  (.take [16, 17, 18, 20, 21, 22, 23, 24, 25] (none, (.r (.mov 62 (.t 0)))) 
  (.take [17, 18, 20, 21, 22, 23, 24, 25] (none, (.r (.nilck 63 (.t 62)))) 
  (.take [18, 20, 21, 22, 23, 24, 25] (none, (.r (.fldA 64 (.t 63) 7))) 
  (.take [20, 21, 22, 23, 24, 25] (none, (.r (.ld 65 (.t 64) 1 false))) 
  (.take [20, 21, 22, 23, 24, 25] (none, (.r (.mov 66 (.t 2)))) 
  (.take [21, 22, 23, 24, 25] (none, (.r (.idxA 67 (.t 65) (.t 66) 1))) 
  (.take [22, 23, 24, 25] (none, (.r (.ld 68 (.t 67) 1 false))) 
  (.take [23, 24, 25] (none, (.r (.idxA 69 (.t 50) (.t 57) 1))) 
  (.one 23 (none, (.st (.t 69) (.c (.bool true)) 1)) 
  (.take [25] (none, (.r (.idxA 70 (.t 61) (.t 68) 1))) 
  (.one 25 (none, (.st (.t 70) (.c (.bool true)) 1)) .done))))))))))))))))))))))))))
def c_forest_Forest_Join_r5 : List GOp := [(none, (.r (.mov 71 (.t 7)))),
  (none, (.asg 6 (.t 71) true))]
def c_forest_Forest_Join_r6 : List GOp := [(none, (.r (.mov 72 (.t 0)))),
  (none, (.r (.mov 73 (.t 0)))),
  (none, (.r (.mov 74 (.t 1)))),
  (none, (.call 75 (.f 68) [((.t 73), false), ((.t 74), false)])),
  (none, (.r (.mov 76 (.t 0)))),
  (none, (.r (.mov 77 (.t 2)))),
  (none, (.call 78 (.f 68) [((.t 76), false), ((.t 77), false)])),
  (none, (.call 79 (.f 83) [((.t 72), false), ((.t 75), false), ((.t 78), false)])),
  (none, (.asg 8 (.t 79) true))]
def c_forest_Forest_Join_r7 : List GOp := [(none, (.r (.mov 80 (.t 0)))),
  (none, (.r (.mov 81 (.t 1)))),
  (none, (.r (.mov 82 (.t 2)))),
  (none, (.r (.mov 83 (.t 8)))),
  (none, (.call 84 (.f 84) [((.t 80), false), ((.t 81), false), ((.t 82), false), ((.t 83), false)]))]
def c_forest_Forest_Join_r8 : List GOp := [(none, (.r (.mov 85 (.t 0)))),
  (none, (.r (.mov 86 (.t 2)))),
  (none, (.r (.mov 87 (.t 1)))),
  (none, (.r (.mov 88 (.t 8)))),
  (none, (.call 89 (.f 84) [((.t 85), false), ((.t 86), false), ((.t 87), false), ((.t 88), false)]))]
def c_forest_Forest_Join_r9 : List GOp := [(none, (.asg 6 (.c (.slice none 0 0)) true))]
def v_forest_Forest_Join : List Nat := [0, 1, 2, 6, 7, 8, 23]
def c_forest_Forest_Join : ACode :=
  (.seq
  (.reg [0, 1, 2, 6, 7, 8, 23] c_forest_Forest_Join_r0 v_forest_Forest_Join)
  (.seq
  (.seq
  (.draw [0, 1, 2, 6, 7, 8] c_forest_Forest_Join_r1 v_forest_Forest_Join)
  (.cond (.t 23) (.seq
  (.reg [0, 1, 2, 6, 7, 8, 23] c_forest_Forest_Join_r2 v_forest_Forest_Join)
  (.seq
  (.reg [0, 1, 2, 6, 7, 8, 23] c_forest_Forest_Join_r3 v_forest_Forest_Join)
  (.seq
  (.draw [0, 1, 2, 6, 7, 8, 23] c_forest_Forest_Join_r4 v_forest_Forest_Join)
  (.seq
  (.reg [0, 1, 2, 6, 7, 8, 23] c_forest_Forest_Join_r5 v_forest_Forest_Join)
  .ret)))) .skip))
  (.seq
  (.reg [0, 1, 2, 6, 7, 8, 23] c_forest_Forest_Join_r6 v_forest_Forest_Join)
  (.seq
  (.reg [0, 1, 2, 6, 7, 8, 23] c_forest_Forest_Join_r7 v_forest_Forest_Join)
  (.seq
  (.reg [0, 1, 2, 6, 7, 8, 23] c_forest_Forest_Join_r8 v_forest_Forest_Join)
  (.seq
  (.reg [0, 1, 2, 6, 7, 8, 23] c_forest_Forest_Join_r9 v_forest_Forest_Join)
  .ret))))))
abbrev n_forest_Forest_Join : Nat := 72
theorem s_forest_Forest_Join : stripF Try.prog [6] v_forest_Forest_Join Try.f72 = some (c_forest_Forest_Join, [(.tmp 6)]) := by kernel_rfl
theorem go_forest_Forest_Join {L : List (List Nat)} {args : List AVal} {h : Heap} {Q : AVal → Heap → Prop} (hl : args.length = 3) (H : Wlk Try.prog [6] Try.f72.ntmps v_forest_Forest_Join L c_forest_Forest_Join (ends L [(.tmp 6)] Q) (entry v_forest_Forest_Join args h)) : ACalls Try.prog L n_forest_Forest_Join args h Q :=
  acalls_of_strip mix Try.func72 s_forest_Forest_Join (by rw [hl]; exact Nat.le_of_ble_eq_true rfl) H
def c_forest_Forest_Labels_r0 : List GOp := [(none, (.asg 2 (.c (.slice none 0 0)) true))]
def c_forest_Forest_Labels_r1 : List GOp := [(none, (.r (.mov 5 (.t 0)))),
  (none, (.r (.nilck 6 (.t 5)))),
  (none, (.r (.fldA 7 (.t 6) 2))),
  (none, (.r (.ld 8 (.t 7) 1 false))),
  (none, (.r (.len 9 (.t 8)))),
  (none, (.mk 10 (.t 9) (.t 9) 1 8 [(.int .i64 0)])),
  (none, (.asg 3 (.t 10) true))]
def c_forest_Forest_Labels_r2 : List GOp := [(none, (.r (.mov 11 (.t 3)))),
  (none, (.r (.len 12 (.t 11)))),
  (none, (.r (.mov 13 (.c (.int .i64 0)))))]
def c_forest_Forest_Labels_r3 : List GOp := [(none, (.r (.bin 14 .lss 0 (.t 13) (.t 12))))]
def c_forest_Forest_Labels_r4 : List GOp := [(none, (.r (.mov 15 (.t 13)))),
  (none, (.asg 4 (.t 15) true))]
def c_forest_Forest_Labels_r5 : List GOp := [(none, (.r (.mov 16 (.t 3)))),
  (none, (.r (.mov 17 (.t 4)))),
  (none, (.r (.mov 18 (.t 0)))),
  (none, (.r (.nilck 19 (.t 18)))),
  (none, (.r (.fldA 20 (.t 19) 2))),
  (none, (.r (.ld 21 (.t 20) 1 false))),
  (none, (.r (.mov 22 (.t 4)))),
  (none, (.r (.idxA 23 (.t 21) (.t 22) 1))),
  (none, (.r (.ld 24 (.t 23) 1 false))),
  (none, (.r (.idxA 25 (.t 16) (.t 17) 1))),
  (none, (.st (.t 25) (.t 24) 1))]
def c_forest_Forest_Labels_r6 : List GOp := [(none, (.r (.mov 26 (.t 0)))),
  (none, (.r (.nilck 27 (.t 26)))),
  (none, (.r (.fldA 28 (.t 27) 3))),
  (none, (.r (.ld 29 (.t 28) 1 false))),
  (none, (.r (.mov 30 (.t 4)))),
  (none, (.r (.idxA 31 (.t 29) (.t 30) 1))),
  (none, (.r (.ld 32 (.t 31) 1 false)))]
def c_forest_Forest_Labels_r7 : List GOp := [(none, (.r (.mov 33 (.t 3)))),
  (none, (.r (.mov 34 (.t 4)))),
  (none, (.r (.idxA 35 (.t 33) (.t 34) 1))),
  (none, (.st (.t 35) (.c (.int .i64 1)) 1))]
def c_forest_Forest_Labels_r8 : List GOp := [(none, (.r (.bin 36 .add 0 (.t 13) (.c (.int .i64 1))))),
  (none, (.asg 13 (.t 36) true))]
def c_forest_Forest_Labels_r9 : List GOp := [(none, (.r (.mov 37 (.t 3)))),
  (none, (.asg 2 (.t 37) true))]
def v_forest_Forest_Labels : List Nat := [0, 2, 3, 4, 12, 13, 14, 32]
def c_forest_Forest_Labels : ACode :=
  (.seq
  (.reg [0, 2, 3, 4, 12, 13, 14, 32] c_forest_Forest_Labels_r0 v_forest_Forest_Labels)
  (.seq
  (.reg [0, 2, 3, 4, 12, 13, 14, 32] c_forest_Forest_Labels_r1 v_forest_Forest_Labels)
  (.seq
  (.seq
  (.reg [0, 2, 3, 4, 14, 32] c_forest_Forest_Labels_r2 v_forest_Forest_Labels)
  (.blk 0 (.loop (.seq
  (.reg [0, 2, 3, 4, 12, 13, 32] c_forest_Forest_Labels_r3 v_forest_Forest_Labels)
  (.seq
  (.cond (.t 14) .skip (.exit 0))
  (.seq
  (.blk 1 (.seq
  (.reg [0, 2, 3, 4, 12, 13, 14, 32] c_forest_Forest_Labels_r4 v_forest_Forest_Labels)
  (.seq
  (.reg [0, 2, 3, 4, 12, 13, 14, 32] c_forest_Forest_Labels_r5 v_forest_Forest_Labels)
  (.seq
  (.reg [0, 2, 3, 4, 12, 13, 14] c_forest_Forest_Labels_r6 v_forest_Forest_Labels)
  (.cond (.t 32) (.reg [0, 2, 3, 4, 12, 13, 14, 32] c_forest_Forest_Labels_r7 v_forest_Forest_Labels) .skip)))))
  (.reg [0, 2, 3, 4, 12, 13, 14, 32] c_forest_Forest_Labels_r8 v_forest_Forest_Labels)))))))
  (.seq
  (.reg [0, 2, 3, 4, 12, 13, 14, 32] c_forest_Forest_Labels_r9 v_forest_Forest_Labels)
  .ret))))
abbrev n_forest_Forest_Labels : Nat := 73
theorem s_forest_Forest_Labels : stripF Try.prog [2] v_forest_Forest_Labels Try.f73 = some (c_forest_Forest_Labels, [(.tmp 2)]) := by kernel_rfl
theorem go_forest_Forest_Labels {L : List (List Nat)} {args : List AVal} {h : Heap} {Q : AVal → Heap → Prop} (hl : args.length = 1) (H : Wlk Try.prog [2] Try.f73.ntmps v_forest_Forest_Labels L c_forest_Forest_Labels (ends L [(.tmp 2)] Q) (entry v_forest_Forest_Labels args h)) : ACalls Try.prog L n_forest_Forest_Labels args h Q :=
  acalls_of_strip mix Try.func73 s_forest_Forest_Labels (by rw [hl]; exact Nat.le_of_ble_eq_true rfl) H
def c_pieces_walk_come_r0 : List GOp := [(none, (.r (.mov 4 (.t 0)))),
  (none, (.r (.nilck 5 (.t 4)))),
  (none, (.r (.fldA 6 (.t 5) 1))),
  (none, (.r (.ld 7 (.t 6) 1 false))),
  (none, (.r (.mov 8 (.t 1)))),
  (none, (.r (.idxA 9 (.t 7) (.t 8) 1))),
  (none, (.r (.ld 10 (.t 9) 1 false))),
  (none, (.r (.notb 11 (.t 10))))]
def c_pieces_walk_come_r1 : List GOp := [(none, (.r (.mov 12 (.t 0)))),
  (none, (.r (.nilck 13 (.t 12)))),
  (none, (.r (.fldA 14 (.t 13) 1))),
  (none, (.r (.ld 15 (.t 14) 1 false))),
  (none, (.r (.mov 16 (.t 1)))),
  (none, (.r (.idxA 17 (.t 15) (.t 16) 1))),
  (none, (.st (.t 17) (.c (.bool true)) 1))]
def c_pieces_walk_come_r2 : List GOp := [(none, (.r (.mov 18 (.t 0)))),
  (none, (.r (.mov 19 (.t 0)))),
  (none, (.r (.nilck 20 (.t 19)))),
  (none, (.r (.fldA 21 (.t 20) 2))),
  (none, (.r (.ld 22 (.t 21) 1 false))),
  (none, (.r (.mov 23 (.t 1)))),
  (none, (.blds 24 1 1 [((0, 1), ((.t 23), true))] [(.int .i64 0)])),
  (none, (.app 25 (.t 22) (.t 24) 1 8)),
  (none, (.r (.nilck 26 (.t 18)))),
  (none, (.r (.fldA 27 (.t 26) 2))),
  (none, (.st (.t 27) (.t 25) 1))]
def c_pieces_walk_come_r3 : List GOp := [(none, (.r (.mov 28 (.t 0)))),
  (none, (.r (.mov 29 (.t 0)))),
  (none, (.r (.nilck 30 (.t 29)))),
  (none, (.r (.fldA 31 (.t 30) 3))),
  (none, (.r (.ld 32 (.t 31) 1 false))),
  (none, (.r (.mov 33 (.t 1)))),
  (none, (.blds 34 1 1 [((0, 1), ((.t 33), true))] [(.int .i64 0)])),
  (none, (.app 35 (.t 32) (.t 34) 1 8)),
  (none, (.r (.nilck 36 (.t 28)))),
  (none, (.r (.fldA 37 (.t 36) 3))),
  (none, (.st (.t 37) (.t 35) 1))]
def v_pieces_walk_come : List Nat := [0, 1, 11]
def c_pieces_walk_come : ACode :=
  (.seq
  (.reg [0, 1] c_pieces_walk_come_r0 v_pieces_walk_come)
  (.cond (.t 11) (.seq
  (.reg [0, 1, 11] c_pieces_walk_come_r1 v_pieces_walk_come)
  (.seq
  (.reg [0, 1, 11] c_pieces_walk_come_r2 v_pieces_walk_come)
  (.reg [0, 1, 11] c_pieces_walk_come_r3 v_pieces_walk_come))) .skip))
abbrev n_pieces_walk_come : Nat := 74
theorem s_pieces_walk_come : stripF Try.prog [] v_pieces_walk_come Try.f74 = some (c_pieces_walk_come, []) := by kernel_rfl
theorem go_pieces_walk_come {L : List (List Nat)} {args : List AVal} {h : Heap} {Q : AVal → Heap → Prop} (hl : args.length = 2) (H : Wlk Try.prog [] Try.f74.ntmps v_pieces_walk_come L c_pieces_walk_come (ends L [] Q) (entry v_pieces_walk_come args h)) : ACalls Try.prog L n_pieces_walk_come args h Q :=
  acalls_of_strip mix Try.func74 s_pieces_walk_come (by rw [hl]; exact Nat.le_of_ble_eq_true rfl) H
abbrev n_slices_Sort___int_int_ : Nat := 75
def c_cmp_isNaN_int__r0 : List GOp := [(none, (.asg 2 (.c (.bool false)) true))]
def c_cmp_isNaN_int__r1 : List GOp := [(none, (.r (.mov 3 (.t 0)))),
  (none, (.r (.mov 4 (.t 0)))),
  (none, (.r (.bin 5 .neq 0 (.t 3) (.t 4)))),
  (none, (.asg 2 (.t 5) true))]
def v_cmp_isNaN_int_ : List Nat := [0, 2]
def c_cmp_isNaN_int_ : ACode :=
  (.seq
  (.reg [0, 2] c_cmp_isNaN_int__r0 v_cmp_isNaN_int_)
  (.seq
  (.reg [0, 2] c_cmp_isNaN_int__r1 v_cmp_isNaN_int_)
  .ret))
abbrev n_cmp_isNaN_int_ : Nat := 76
theorem s_cmp_isNaN_int_ : stripF Try.prog [2] v_cmp_isNaN_int_ Try.f76 = some (c_cmp_isNaN_int_, [(.tmp 2)]) := by kernel_rfl
theorem go_cmp_isNaN_int_ {L : List (List Nat)} {args : List AVal} {h : Heap} {Q : AVal → Heap → Prop} (hl : args.length = 1) (H : Wlk Try.prog [2] Try.f76.ntmps v_cmp_isNaN_int_ L c_cmp_isNaN_int_ (ends L [(.tmp 2)] Q) (entry v_cmp_isNaN_int_ args h)) : ACalls Try.prog L n_cmp_isNaN_int_ args h Q :=
  acalls_of_strip mix Try.func76 s_cmp_isNaN_int_ (by rw [hl]; exact Nat.le_of_ble_eq_true rfl) H
def c_math_bits_Mul_r0 : List GOp := [(none, (.asg 4 (.c (.int .u64 0)) true)),
  (none, (.asg 5 (.c (.int .u64 0)) true))]
def c_math_bits_Mul_r1 : List GOp := [(none, (.r (.mov 11 (.t 0)))),
  (none, (.r (.conv 12 .u32 (.t 11)))),
  (none, (.r (.mov 13 (.t 1)))),
  (none, (.r (.conv 14 .u32 (.t 13)))),
  (none, (.call 15 (.f 87) [((.t 12), false), ((.t 14), false)])),
  (none, (.r (.mov 10 (.t 15)))),
  (none, (.r (.ext 16 (.t 10) 0))),
  (none, (.r (.ext 17 (.t 10) 1))),
  (none, (.asg 6 (.t 16) true)),
  (none, (.asg 7 (.t 17) true))]
def c_math_bits_Mul_r2 : List GOp := [(none, (.r (.mov 18 (.t 6)))),
  (none, (.r (.conv 19 .u64 (.t 18)))),
  (none, (.r (.mov 20 (.t 7)))),
  (none, (.r (.conv 21 .u64 (.t 20)))),
  (none, (.asg 4 (.t 19) true)),
  (none, (.asg 5 (.t 21) true))]
def c_math_bits_Mul_r3 : List GOp := [(none, (.r (.mov 23 (.t 0)))),
  (none, (.r (.mov 24 (.t 1)))),
  (none, (.call 25 (.f 88) [((.t 23), false), ((.t 24), false)])),
  (none, (.r (.mov 22 (.t 25)))),
  (none, (.r (.ext 26 (.t 22) 0))),
  (none, (.r (.ext 27 (.t 22) 1))),
  (none, (.asg 8 (.t 26) true)),
  (none, (.asg 9 (.t 27) true))]
def c_math_bits_Mul_r4 : List GOp := [(none, (.r (.mov 28 (.t 8)))),
  (none, (.r (.mov 29 (.t 9)))),
  (none, (.asg 4 (.t 28) true)),
  (none, (.asg 5 (.t 29) true))]
def v_math_bits_Mul : List Nat := [0, 1, 4, 5, 6, 7, 8, 9]
def c_math_bits_Mul : ACode :=
  (.seq
  (.reg [0, 1, 4, 5, 6, 7, 8, 9] c_math_bits_Mul_r0 v_math_bits_Mul)
  (.seq
  (.cond (.c (.bool false)) (.seq
  (.reg [0, 1, 4, 5, 6, 7, 8, 9] c_math_bits_Mul_r1 v_math_bits_Mul)
  (.seq
  (.reg [0, 1, 4, 5, 6, 7, 8, 9] c_math_bits_Mul_r2 v_math_bits_Mul)
  .ret)) .skip)
  (.seq
  (.reg [0, 1, 4, 5, 6, 7, 8, 9] c_math_bits_Mul_r3 v_math_bits_Mul)
  (.seq
  (.reg [0, 1, 4, 5, 6, 7, 8, 9] c_math_bits_Mul_r4 v_math_bits_Mul)
  .ret))))
abbrev n_math_bits_Mul : Nat := 77
theorem s_math_bits_Mul : stripF Try.prog [4, 5] v_math_bits_Mul Try.f77 = some (c_math_bits_Mul, [(.tmp 4), (.tmp 5)]) := by kernel_rfl
theorem go_math_bits_Mul {L : List (List Nat)} {args : List AVal} {h : Heap} {Q : AVal → Heap → Prop} (hl : args.length = 2) (H : Wlk Try.prog [4, 5] Try.f77.ntmps v_math_bits_Mul L c_math_bits_Mul (ends L [(.tmp 4), (.tmp 5)] Q) (entry v_math_bits_Mul args h)) : ACalls Try.prog L n_math_bits_Mul args h Q :=
  acalls_of_strip mix Try.func77 s_math_bits_Mul (by rw [hl]; exact Nat.le_of_ble_eq_true rfl) H
def c_forest_Forest_raise_r0 : Tree := 
  (.take [1, 2, 3, 11, 12, 13, 14] (none, (.r (.mov 8 (.t 0)))) 
  (.take [2, 3, 11, 12, 13, 14] (none, (.r (.nilck 9 (.t 8)))) 
  (.take [3, 11, 12, 13, 14] (none, (.r (.fldA 10 (.t 9) 3))) 
  (.take [11, 12, 13, 14] (none, (.r (.ld 11 (.t 10) 1 false))) 
  (.take [11, 12, 13, 14] (none, (.r (.mov 12 (.t 1)))) 
  (.take [6, 7, 8, 11, 12, 13, 14] (none, (.r (.mov 13 (.t 0)))) 
  (.take [7, 8, 11, 12, 13, 14] (none, (.r (.nilck 14 (.t 13)))) 
  (.take [8, 11, 12, 13, 14] (none, (.r (.fldA 15 (.t 14) 4))) 
  (.take [11, 12, 13, 14] (none, (.r (.ld 16 (.t 15) 1 false))) 
  (.take [13, 14] (none, (.r (.mov 17 (.t 1)))) 
  (.take [13, 14] (none, (.r (.mov 18 (.t 2)))) 
  (.take [12, 13, 14] (none, (.r (.idxA 19 (.t 11) (.t 12) 1))) 
  (.one 12 (none, (.st (.t 19) (.c (.bool true)) 1)) 
  (.take [14] (none, (.r (.idxA 20 (.t 16) (.t 17) 1))) 
  (.one 14 (none, (.st (.t 20) (.t 18) 1)) .done)))))))))))))))
def c_forest_Forest_raise_r1 : List GOp := [(none, (.r (.mov 21 (.t 0)))),
  (none, (.r (.nilck 22 (.t 21)))),
  (none, (.r (.fldA 23 (.t 22) 2))),
  (none, (.r (.ld 24 (.t 23) 1 false))),
  (none, (.r (.mov 25 (.t 1)))),
  (none, (.r (.idxA 26 (.t 24) (.t 25) 1))),
  (none, (.r (.ld 27 (.t 26) 1 false))),
  (none, (.r (.bin 28 .eql 0 (.t 27) (.c (.int .i64 0)))))]
def c_forest_Forest_raise_r2 : List GOp := [(none, (.r (.mov 29 (.t 0)))),
  (none, (.r (.nilck 30 (.t 29)))),
  (none, (.r (.fldA 31 (.t 30) 2))),
  (none, (.r (.ld 32 (.t 31) 1 false))),
  (none, (.r (.mov 33 (.t 1)))),
  (none, (.r (.mov 34 (.t 3)))),
  (none, (.r (.idxA 35 (.t 32) (.t 33) 1))),
  (none, (.st (.t 35) (.t 34) 1))]
def c_forest_Forest_raise_r3 : List GOp := [(none, (.r (.mov 36 (.t 0)))),
  (none, (.r (.mov 37 (.t 0)))),
  (none, (.r (.nilck 38 (.t 37)))),
  (none, (.r (.fldA 39 (.t 38) 14))),
  (none, (.r (.ld 40 (.t 39) 1 false))),
  (none, (.r (.mov 41 (.t 1)))),
  (none, (.blds 42 1 1 [((0, 1), ((.t 41), true))] [(.int .i64 0)])),
  (none, (.app 43 (.t 40) (.t 42) 1 8)),
  (none, (.r (.nilck 44 (.t 36)))),
  (none, (.r (.fldA 45 (.t 44) 14))),
  (none, (.st (.t 45) (.t 43) 1))]
def v_forest_Forest_raise : List Nat := [0, 1, 2, 3, 28]
def c_forest_Forest_raise : ACode :=
  (.seq
  (.draw [0, 1, 2, 3, 28] c_forest_Forest_raise_r0 v_forest_Forest_raise)
  (.seq
  (.seq
  (.reg [0, 1, 2, 3] c_forest_Forest_raise_r1 v_forest_Forest_raise)
  (.cond (.t 28) (.reg [0, 1, 2, 3, 28] c_forest_Forest_raise_r2 v_forest_Forest_raise) .skip))
  (.reg [0, 1, 2, 3, 28] c_forest_Forest_raise_r3 v_forest_Forest_raise)))
abbrev n_forest_Forest_raise : Nat := 78
theorem s_forest_Forest_raise : stripF Try.prog [] v_forest_Forest_raise Try.f78 = some (c_forest_Forest_raise, []) := by kernel_rfl
theorem go_forest_Forest_raise {L : List (List Nat)} {args : List AVal} {h : Heap} {Q : AVal → Heap → Prop} (hl : args.length = 4) (H : Wlk Try.prog [] Try.f78.ntmps v_forest_Forest_raise L c_forest_Forest_raise (ends L [] Q) (entry v_forest_Forest_raise args h)) : ACalls Try.prog L n_forest_Forest_raise args h Q :=
  acalls_of_strip mix Try.func78 s_forest_Forest_raise (by rw [hl]; exact Nat.le_of_ble_eq_true rfl) H
def c_forest_Forest_first_r0 : List GOp := [(none, (.asg 4 (.c (.int .i64 0)) true))]
def c_forest_Forest_first_r1 : List GOp := [(none, (.r (.mov 5 (.t 0)))),
  (none, (.r (.nilck 6 (.t 5)))),
  (none, (.r (.fldA 7 (.t 6) 10))),
  (none, (.r (.ld 8 (.t 7) 1 false))),
  (none, (.r (.mov 9 (.t 1)))),
  (none, (.r (.idxA 10 (.t 8) (.t 9) 1))),
  (none, (.r (.ld 11 (.t 10) 1 false))),
  (none, (.r (.mov 12 (.t 1)))),
  (none, (.r (.bin 13 .neq 0 (.t 11) (.t 12))))]
def c_forest_Forest_first_r2 : Tree := 
  (.take [1, 2, 3, 18, 19] (none, (.r (.mov 14 (.t 0)))) 
  (.take [2, 3, 18, 19] (none, (.r (.nilck 15 (.t 14)))) 
  (.take [3, 18, 19] (none, (.r (.fldA 16 (.t 15) 10))) 
  (.take [18, 19] (none, (.r (.ld 17 (.t 16) 1 false))) 
  (.take [18, 19] (none, (.r (.mov 18 (.t 1)))) 
  (.take [6, 7, 8, 16, 17, 18, 19] (none, (.r (.mov 19 (.t 0)))) 
  (.take [7, 8, 16, 17, 18, 19] (none, (.r (.nilck 20 (.t 19)))) 
  (.take [8, 16, 17, 18, 19] (none, (.r (.fldA 21 (.t 20) 10))) 
  (.take [16, 17, 18, 19] (none, (.r (.ld 22 (.t 21) 1 false))) 
  (.take [10, 11, 12, 14, 15, 16, 17, 18, 19] (none, (.r (.mov 23 (.t 0)))) 
  (.take [11, 12, 14, 15, 16, 17, 18, 19] (none, (.r (.nilck 24 (.t 23)))) 
  (.take [12, 14, 15, 16, 17, 18, 19] (none, (.r (.fldA 25 (.t 24) 10))) 
  (.take [14, 15, 16, 17, 18, 19] (none, (.r (.ld 26 (.t 25) 1 false))) 
  (.take [14, 15, 16, 17, 18, 19] (none, (.r (.mov 27 (.t 1)))) 
  (.take [15, 16, 17, 18, 19] (none, (.r (.idxA 28 (.t 26) (.t 27) 1))) 
  (.take [16, 17, 18, 19] (none, (.r (.ld 29 (.t 28) 1 false))) 
  (.take [17, 18, 19] (none, (.r (.idxA 30 (.t 22) (.t 29) 1))) 
  (.take [18, 19] (none, (.r (.ld 31 (.t 30) 1 false))) 
  (.take [19] (none, (.r (.idxA 32 (.t 17) (.t 18) 1))) 
  (.one 19 (none, (.st (.t 32) (.t 31) 1)) .done))))))))))))))))))))
def c_forest_Forest_first_r3 : List GOp := [(none, (.r (.mov 33 (.t 0)))),
  (none, (.r (.nilck 34 (.t 33)))),
  (none, (.r (.fldA 35 (.t 34) 10))),
  (none, (.r (.ld 36 (.t 35) 1 false))),
  (none, (.r (.mov 37 (.t 1)))),
  (none, (.r (.idxA 38 (.t 36) (.t 37) 1))),
  (none, (.r (.ld 39 (.t 38) 1 false))),
  (none, (.asg 1 (.t 39) true))]
def c_forest_Forest_first_r4 : List GOp := [(none, (.r (.mov 40 (.t 1)))),
  (none, (.asg 4 (.t 40) true))]
def v_forest_Forest_first : List Nat := [0, 1, 4, 13]
def c_forest_Forest_first : ACode :=
  (.seq
  (.reg [0, 1, 4, 13] c_forest_Forest_first_r0 v_forest_Forest_first)
  (.seq
  (.blk 0 (.loop (.seq
  (.seq
  (.reg [0, 1, 4] c_forest_Forest_first_r1 v_forest_Forest_first)
  (.cond (.t 13) .skip (.exit 0)))
  (.blk 1 (.seq
  (.draw [0, 1, 4, 13] c_forest_Forest_first_r2 v_forest_Forest_first)
  (.reg [0, 1, 4, 13] c_forest_Forest_first_r3 v_forest_Forest_first))))))
  (.seq
  (.reg [0, 1, 4, 13] c_forest_Forest_first_r4 v_forest_Forest_first)
  .ret)))
abbrev n_forest_Forest_first : Nat := 79
theorem s_forest_Forest_first : stripF Try.prog [4] v_forest_Forest_first Try.f79 = some (c_forest_Forest_first, [(.tmp 4)]) := by kernel_rfl
theorem go_forest_Forest_first {L : List (List Nat)} {args : List AVal} {h : Heap} {Q : AVal → Heap → Prop} (hl : args.length = 2) (H : Wlk Try.prog [4] Try.f79.ntmps v_forest_Forest_first L c_forest_Forest_first (ends L [(.tmp 4)] Q) (entry v_forest_Forest_first args h)) : ACalls Try.prog L n_forest_Forest_first args h Q :=
  acalls_of_strip mix Try.func79 s_forest_Forest_first (by rw [hl]; exact Nat.le_of_ble_eq_true rfl) H
def c_forest_Forest_Gone_r0 : List GOp := [(none, (.asg 4 (.c (.bool false)) true))]
def c_forest_Forest_Gone_r1 : Tree := 
  (.take [1, 2, 3, 5, 6, 7, 8, 9, 10, 11, 12, 13, 14, 15, 16, 17, 18, 19, 20, 21, 22, 23] (none, (.r (.mov 5 (.t 0)))) 
  (.take [2, 3, 5, 6, 7, 8, 9, 10, 11, 12, 13, 14, 15, 16, 17, 18, 19, 20, 21, 22, 23] (none, (.r (.nilck 6 (.t 5)))) 
  (.take [3, 5, 6, 7, 8, 9, 10, 11, 12, 13, 14, 15, 16, 17, 18, 19, 20, 21, 22, 23] (none, (.r (.fldA 7 (.t 6) 7))) 
  (.take [5, 6, 7, 8, 9, 10, 11, 12, 13, 14, 15, 16, 17, 18, 19, 20, 21, 22, 23] (none, (.r (.ld 8 (.t 7) 1 false))) 
  (.take [5, 6, 7, 8, 9, 10, 11, 12, 13, 14, 15, 16, 17, 18, 19, 20, 21, 22, 23] (none, (.r (.mov 9 (.t 1)))) 
  (.take [6, 7, 8, 9, 10, 11, 12, 13, 14, 15, 16, 17, 18, 19, 20, 21, 22, 23] (none, (.r (.idxA 10 (.t 8) (.t 9) 1))) 
  (.take [7, 8, 9, 10, 11, 12, 13, 14, 15, 16, 17, 18, 19, 20, 21, 22, 23] (none, (.r (.ld 11 (.t 10) 1 false))) 
  (.take [8, 9, 10, 11, 12, 13, 14, 15, 16, 17, 18, 19, 20, 21, 22, 23] (none, (.r (.bin 12 .neq 0 (.t 11) (.c (.int .i64 (-(0 + 1))))))) 
  (.take [9, 10, 11, 12, 13, 14, 15, 16, 17, 18, 19, 20, 21, 22, 23] (none, (.r (.mov 13 (.t 12)))) 
  (.take [10, 11, 12, 20, 21, 22, 23] ((some (13, true)), (.r (.mov 14 (.t 0)))) 
  (.take [11, 12, 20, 21, 22, 23] ((some (13, true)), (.r (.nilck 15 (.t 14)))) 
  (.take [12, 20, 21, 22, 23] ((some (13, true)), (.r (.fldA 16 (.t 15) 9))) 
  (.take [20, 21, 22, 23] ((some (13, true)), (.r (.ld 17 (.t 16) 1 false))) 
  (.take [14, 15, 16, 18, 19, 20, 21, 22, 23] ((some (13, true)), (.r (.mov 18 (.t 0)))) 
  (.take [15, 16, 18, 19, 20, 21, 22, 23] ((some (13, true)), (.r (.nilck 19 (.t 18)))) 
  (.take [16, 18, 19, 20, 21, 22, 23] ((some (13, true)), (.r (.fldA 20 (.t 19) 7))) 
  (.take [18, 19, 20, 21, 22, 23] ((some (13, true)), (.r (.ld 21 (.t 20) 1 false))) 
  (.take [18, 19, 20, 21, 22, 23] ((some (13, true)), (.r (.mov 22 (.t 1)))) 
  (.take [19, 20, 21, 22, 23] ((some (13, true)), (.r (.idxA 23 (.t 21) (.t 22) 1))) 
  (.take [20, 21, 22, 23] ((some (13, true)), (.r (.ld 24 (.t 23) 1 false))) 
  (.take [21, 22, 23] ((some (13, true)), (.r (.idxA 25 (.t 17) (.t 24) 1))) 
  (.take [22, 23] ((some (13, true)), (.r (.ld 26 (.t 25) 1 false))) 
  (.take [23] (none, (.r (.pick 27 (.t 13) (.t 26) (.c (.bool false))))) 
  (.one 23 (none, (.asg 4 (.t 27) true)) .done))))))))))))))))))))))))
def v_forest_Forest_Gone : List Nat := [0, 1, 4]
def c_forest_Forest_Gone : ACode :=
  (.seq
  (.reg [0, 1, 4] c_forest_Forest_Gone_r0 v_forest_Forest_Gone)
  (.seq
  (.draw [0, 1, 4] c_forest_Forest_Gone_r1 v_forest_Forest_Gone)
  .ret))
abbrev n_forest_Forest_Gone : Nat := 80
theorem s_forest_Forest_Gone : stripF Try.prog [4] v_forest_Forest_Gone Try.f80 = some (c_forest_Forest_Gone, [(.tmp 4)]) := by kernel_rfl
theorem go_forest_Forest_Gone {L : List (List Nat)} {args : List AVal} {h : Heap} {Q : AVal → Heap → Prop} (hl : args.length = 2) (H : Wlk Try.prog [4] Try.f80.ntmps v_forest_Forest_Gone L c_forest_Forest_Gone (ends L [(.tmp 4)] Q) (entry v_forest_Forest_Gone args h)) : ACalls Try.prog L n_forest_Forest_Gone args h Q :=
  acalls_of_strip mix Try.func80 s_forest_Forest_Gone (by rw [hl]; exact Nat.le_of_ble_eq_true rfl) H
def c_forest_turned_r0 : List GOp := [(none, (.asg 2 (.c (.slice none 0 0)) true))]
def c_forest_turned_r1 : List GOp := [(none, (.r (.mov 5 (.t 0)))),
  (none, (.r (.len 6 (.t 5)))),
  (none, (.r (.bin 7 .sub 0 (.t 6) (.c (.int .i64 1))))),
  (none, (.asg 3 (.c (.int .i64 0)) true)),
  (none, (.asg 4 (.t 7) true))]
def c_forest_turned_r2 : List GOp := [(none, (.r (.mov 8 (.t 3)))),
  (none, (.r (.mov 9 (.t 4)))),
  (none, (.r (.bin 10 .lss 0 (.t 8) (.t 9))))]
def c_forest_turned_r3 : Tree := 
  (.take [12, 13, 14, 15] (none, (.r (.mov 15 (.t 0)))) 
  (.take [12, 13, 14, 15] (none, (.r (.mov 16 (.t 3)))) 
  (.take [14, 15] (none, (.r (.mov 17 (.t 0)))) 
  (.take [14, 15] (none, (.r (.mov 18 (.t 4)))) 
  (.take [6, 7, 12, 13, 14, 15] (none, (.r (.mov 19 (.t 0)))) 
  (.take [6, 7, 12, 13, 14, 15] (none, (.r (.mov 20 (.t 4)))) 
  (.take [7, 12, 13, 14, 15] (none, (.r (.idxA 21 (.t 19) (.t 20) 1))) 
  (.take [12, 13, 14, 15] (none, (.r (.ld 22 (.t 21) 1 false))) 
  (.take [10, 11, 12, 13, 14, 15] (none, (.r (.mov 23 (.t 0)))) 
  (.take [10, 11, 12, 13, 14, 15] (none, (.r (.mov 24 (.t 3)))) 
  (.take [11, 12, 13, 14, 15] (none, (.r (.idxA 25 (.t 23) (.t 24) 1))) 
  (.take [12, 13, 14, 15] (none, (.r (.ld 26 (.t 25) 1 false))) 
  (.take [13, 14, 15] (none, (.r (.idxA 27 (.t 15) (.t 16) 1))) 
  (.one 13 (none, (.st (.t 27) (.t 22) 1)) 
  (.take [15] (none, (.r (.idxA 28 (.t 17) (.t 18) 1))) 
  (.one 15 (none, (.st (.t 28) (.t 26) 1)) .done))))))))))))))))
def c_forest_turned_r4 : List GOp := [(none, (.r (.mov 11 (.t 3)))),
  (none, (.r (.bin 12 .add 0 (.t 11) (.c (.int .i64 1))))),
  (none, (.r (.mov 13 (.t 4)))),
  (none, (.r (.bin 14 .sub 0 (.t 13) (.c (.int .i64 1))))),
  (none, (.asg 3 (.t 12) true)),
  (none, (.asg 4 (.t 14) true))]
def c_forest_turned_r5 : List GOp := [(none, (.r (.mov 29 (.t 0)))),
  (none, (.asg 2 (.t 29) true))]
def v_forest_turned : List Nat := [0, 2, 3, 4, 10]
def c_forest_turned : ACode :=
  (.seq
  (.reg [0, 2, 3, 4, 10] c_forest_turned_r0 v_forest_turned)
  (.seq
  (.seq
  (.reg [0, 2, 3, 4, 10] c_forest_turned_r1 v_forest_turned)
  (.blk 0 (.loop (.seq
  (.seq
  (.reg [0, 2, 3, 4] c_forest_turned_r2 v_forest_turned)
  (.cond (.t 10) .skip (.exit 0)))
  (.seq
  (.blk 1 (.draw [0, 2, 3, 4, 10] c_forest_turned_r3 v_forest_turned))
  (.reg [0, 2, 3, 4, 10] c_forest_turned_r4 v_forest_turned))))))
  (.seq
  (.reg [0, 2, 3, 4, 10] c_forest_turned_r5 v_forest_turned)
  .ret)))
abbrev n_forest_turned : Nat := 81
theorem s_forest_turned : stripF Try.prog [2] v_forest_turned Try.f81 = some (c_forest_turned, [(.tmp 2)]) := by kernel_rfl
theorem go_forest_turned {L : List (List Nat)} {args : List AVal} {h : Heap} {Q : AVal → Heap → Prop} (hl : args.length = 1) (H : Wlk Try.prog [2] Try.f81.ntmps v_forest_turned L c_forest_turned (ends L [(.tmp 2)] Q) (entry v_forest_turned args h)) : ACalls Try.prog L n_forest_turned args h Q :=
  acalls_of_strip mix Try.func81 s_forest_turned (by rw [hl]; exact Nat.le_of_ble_eq_true rfl) H
def c_forest_Forest_way_r0 : List GOp := [(none, (.asg 6 (.c (.slice none 0 0)) true))]
def c_forest_Forest_way_r1 : List GOp := [(none, (.asg 7 (.c (.slice none 0 0)) true))]
def c_forest_Forest_way_r2 : List GOp := [(none, (.r (.mov 9 (.t 7)))),
  (none, (.r (.mov 10 (.t 1)))),
  (none, (.blds 11 1 1 [((0, 1), ((.t 10), true))] [(.int .i64 0)])),
  (none, (.app 12 (.t 9) (.t 11) 1 8)),
  (none, (.asg 7 (.t 12) true))]
def c_forest_Forest_way_r3 : List GOp := [(none, (.r (.mov 37 (.t 1)))),
  (none, (.r (.mov 38 (.t 2)))),
  (none, (.r (.bin 39 .eql 0 (.t 37) (.t 38)))),
  (none, (.asg 36 (.t 39) true))]
def c_forest_Forest_way_r4 : List GOp := [(none, (.r (.mov 40 (.t 7)))),
  (none, (.asg 6 (.t 40) true))]
def c_forest_Forest_way_r5 : List GOp := [(none, (.r (.mov 42 (.t 0)))),
  (none, (.r (.nilck 43 (.t 42)))),
  (none, (.r (.fldA 44 (.t 43) 2))),
  (none, (.r (.ld 45 (.t 44) 1 false))),
  (none, (.r (.mov 46 (.t 1)))),
  (none, (.r (.idxA 47 (.t 45) (.t 46) 1))),
  (none, (.r (.ld 48 (.t 47) 1 false))),
  (none, (.r (.bin 49 .eql 0 (.t 48) (.c (.int .i64 1))))),
  (none, (.asg 41 (.t 49) true))]
def c_forest_Forest_way_r6 : List GOp := [(none, (.r (.mov 50 (.t 7)))),
  (none, (.r (.mov 51 (.t 0)))),
  (none, (.r (.nilck 52 (.t 51)))),
  (none, (.r (.fldA 53 (.t 52) 1))),
  (none, (.r (.ld 54 (.t 53) 1 false))),
  (none, (.r (.mov 55 (.t 1)))),
  (none, (.r (.idxA 56 (.t 54) (.t 55) 1))),
  (none, (.r (.ld 57 (.t 56) 1 false))),
  (none, (.blds 58 1 1 [((0, 1), ((.t 57), true))] [(.int .i64 0)])),
  (none, (.app 59 (.t 50) (.t 58) 1 8)),
  (none, (.asg 7 (.t 59) true))]
def c_forest_Forest_way_r7 : Tree := 
  (.take [1, 2, 3, 11, 12, 13] (none, (.r (.mov 60 (.t 0)))) 
  (.take [2, 3, 11, 12, 13] (none, (.r (.nilck 61 (.t 60)))) 
  (.take [3, 11, 12, 13] (none, (.r (.fldA 62 (.t 61) 6))) 
  (.take [11, 12, 13] (none, (.r (.ld 63 (.t 62) 1 false))) 
  (.take [5, 6, 7, 9, 10, 11, 12, 13] (none, (.r (.mov 64 (.t 0)))) 
  (.take [6, 7, 9, 10, 11, 12, 13] (none, (.r (.nilck 65 (.t 64)))) 
  (.take [7, 9, 10, 11, 12, 13] (none, (.r (.fldA 66 (.t 65) 1))) 
  (.take [9, 10, 11, 12, 13] (none, (.r (.ld 67 (.t 66) 1 false))) 
  (.take [9, 10, 11, 12, 13] (none, (.r (.mov 68 (.t 1)))) 
  (.take [10, 11, 12, 13] (none, (.r (.idxA 69 (.t 67) (.t 68) 1))) 
  (.take [11, 12, 13] (none, (.r (.ld 70 (.t 69) 1 false))) 
  (.take [12, 13] (none, (.r (.idxA 71 (.t 63) (.t 70) 1))) 
  (.take [13] (none, (.r (.ld 72 (.t 71) 1 false))) 
  (.one 13 (none, (.asg 1 (.t 72) true)) .done))))))))))))))
def c_forest_Forest_way_r8 : List GOp := [(none, (.r (.mov 13 (.t 0)))),
  (none, (.r (.nilck 14 (.t 13)))),
  (none, (.r (.fldA 15 (.t 14) 8))),
  (none, (.r (.ld 16 (.t 15) 1 false))),
  (none, (.r (.mov 17 (.t 1)))),
  (none, (.r (.idxA 18 (.t 16) (.t 17) 2))),
  (none, (.r (.ld 19 (.t 18) 2 true))),
  (none, (.alloc 8 [(.int .i64 0), (.int .i64 0)])),
  (none, (.st (.t 8) (.t 19) 2))]
def c_forest_Forest_way_r9 : Tree := 
  (.take [13, 14] (none, (.r (.mov 20 (.t 7)))) 
  (.take [11, 12, 13, 14] (none, (.r (.mov 21 (.t 0)))) 
  (.take [3, 11, 12, 13, 14] (none, (.r (.idxP 22 (.t 8) (.c (.int .i64 0)) 2 1))) 
  (.take [11, 12, 13, 14] (none, (.r (.ld 23 (.t 22) 1 false))) 
  (.take [5, 6, 7, 9, 10, 11, 12, 13, 14] (none, (.r (.mov 24 (.t 0)))) 
  (.take [6, 7, 9, 10, 11, 12, 13, 14] (none, (.r (.nilck 25 (.t 24)))) 
  (.take [7, 9, 10, 11, 12, 13, 14] (none, (.r (.fldA 26 (.t 25) 1))) 
  (.take [9, 10, 11, 12, 13, 14] (none, (.r (.ld 27 (.t 26) 1 false))) 
  (.take [9, 10, 11, 12, 13, 14] (none, (.r (.mov 28 (.t 1)))) 
  (.take [10, 11, 12, 13, 14] (none, (.r (.idxA 29 (.t 27) (.t 28) 1))) 
  (.take [11, 12, 13, 14] (none, (.r (.ld 30 (.t 29) 1 false))) 
  (.one 11 (none, (.call 31 (.f 82) [((.t 21), false), ((.t 23), false), ((.t 30), false)])) 
  (.one 12 (none, (.call 32 (.f 81) [((.t 31), false)])) 
  (.one 13 (none, (.app 33 (.t 20) (.t 32) 1 8)) 
  (.one 14 (none, (.asg 7 (.t 33) true)) .done)))))))))))))))
def c_forest_Forest_way_r10 : List GOp := [(none, (.r (.idxP 34 (.t 8) (.c (.int .i64 1)) 2 1))),
  (none, (.r (.ld 35 (.t 34) 1 false))),
  (none, (.asg 1 (.t 35) true))]
def v_forest_Forest_way : List Nat := [0, 1, 2, 6, 7, 8, 36, 41]
def c_forest_Forest_way : ACode :=
  (.seq
  (.reg [0, 1, 2, 6, 7, 8, 36, 41] c_forest_Forest_way_r0 v_forest_Forest_way)
  (.seq
  (.reg [0, 1, 2, 6, 7, 8, 36, 41] c_forest_Forest_way_r1 v_forest_Forest_way)
  (.blk 0 (.loop (.blk 1 (.seq
  (.reg [0, 1, 2, 6, 7, 8, 36, 41] c_forest_Forest_way_r2 v_forest_Forest_way)
  (.blk 2 (.seq
  (.reg [0, 1, 2, 6, 7, 8, 36, 41] c_forest_Forest_way_r3 v_forest_Forest_way)
  (.cond (.t 36) (.seq
  (.reg [0, 1, 2, 6, 7, 8, 36, 41] c_forest_Forest_way_r4 v_forest_Forest_way)
  .ret) (.seq
  (.reg [0, 1, 2, 6, 7, 8, 36, 41] c_forest_Forest_way_r5 v_forest_Forest_way)
  (.cond (.t 41) (.seq
  (.reg [0, 1, 2, 6, 7, 8, 36, 41] c_forest_Forest_way_r6 v_forest_Forest_way)
  (.draw [0, 1, 2, 6, 7, 8, 36, 41] c_forest_Forest_way_r7 v_forest_Forest_way)) (.seq
  (.reg [0, 1, 2, 6, 7, 36, 41] c_forest_Forest_way_r8 v_forest_Forest_way)
  (.seq
  (.draw [0, 1, 2, 6, 7, 8, 36, 41] c_forest_Forest_way_r9 v_forest_Forest_way)
  (.reg [0, 1, 2, 6, 7, 8, 36, 41] c_forest_Forest_way_r10 v_forest_Forest_way))))))))))))))
abbrev n_forest_Forest_way : Nat := 82
theorem s_forest_Forest_way : stripF Try.prog [6] v_forest_Forest_way Try.f82 = some (c_forest_Forest_way, [(.tmp 6)]) := by kernel_rfl
theorem go_forest_Forest_way {L : List (List Nat)} {args : List AVal} {h : Heap} {Q : AVal → Heap → Prop} (hl : args.length = 3) (H : Wlk Try.prog [6] Try.f82.ntmps v_forest_Forest_way L c_forest_Forest_way (ends L [(.tmp 6)] Q) (entry v_forest_Forest_way args h)) : ACalls Try.prog L n_forest_Forest_way args h Q :=
  acalls_of_strip mix Try.func82 s_forest_Forest_way (by rw [hl]; exact Nat.le_of_ble_eq_true rfl) H
def c_forest_Forest_meet_r0 : List GOp := [(none, (.asg 6 (.c (.int .i64 0)) true))]
def c_forest_Forest_meet_r1 : List GOp := [(none, (.r (.mov 7 (.t 0)))),
  (none, (.r (.nilck 8 (.t 7)))),
  (none, (.r (.fldA 9 (.t 8) 13))),
  (none, (.r (.ld 10 (.t 9) 1 false))),
  (none, (.r (.bin 11 .add 0 (.t 10) (.c (.int .i64 1))))),
  (none, (.r (.nilck 12 (.t 7)))),
  (none, (.r (.fldA 13 (.t 12) 13))),
  (none, (.st (.t 13) (.t 11) 1))]
def c_forest_Forest_meet_r2 : List GOp := [(none, (.r (.mov 14 (.t 1)))),
  (none, (.r (.bin 15 .neq 0 (.t 14) (.c (.int .i64 (-(0 + 1)))))))]
def c_forest_Forest_meet_r3 : Tree := 
  (.take [1, 2, 3, 5, 6, 11] (none, (.r (.mov 16 (.t 0)))) 
  (.take [2, 3, 5, 6, 11] (none, (.r (.nilck 17 (.t 16)))) 
  (.take [3, 5, 6, 11] (none, (.r (.fldA 18 (.t 17) 12))) 
  (.take [5, 6, 11] (none, (.r (.ld 19 (.t 18) 1 false))) 
  (.take [5, 6, 11] (none, (.r (.mov 20 (.t 1)))) 
  (.take [6, 11] (none, (.r (.idxA 21 (.t 19) (.t 20) 1))) 
  (.take [11] (none, (.r (.ld 22 (.t 21) 1 false))) 
  (.take [8, 9, 10, 11] (none, (.r (.mov 23 (.t 0)))) 
  (.take [9, 10, 11] (none, (.r (.nilck 24 (.t 23)))) 
  (.take [10, 11] (none, (.r (.fldA 25 (.t 24) 13))) 
  (.take [11] (none, (.r (.ld 26 (.t 25) 1 false))) 
  (.take [] (none, (.r (.bin 27 .eql 0 (.t 22) (.t 26)))) .done))))))))))))
def c_forest_Forest_meet_r4 : List GOp := [(none, (.r (.mov 28 (.t 1)))),
  (none, (.asg 6 (.t 28) true))]
def c_forest_Forest_meet_r5 : Tree := 
  (.take [1, 2, 3, 9, 10] (none, (.r (.mov 29 (.t 0)))) 
  (.take [2, 3, 9, 10] (none, (.r (.nilck 30 (.t 29)))) 
  (.take [3, 9, 10] (none, (.r (.fldA 31 (.t 30) 12))) 
  (.take [9, 10] (none, (.r (.ld 32 (.t 31) 1 false))) 
  (.take [9, 10] (none, (.r (.mov 33 (.t 1)))) 
  (.take [6, 7, 8, 9, 10] (none, (.r (.mov 34 (.t 0)))) 
  (.take [7, 8, 9, 10] (none, (.r (.nilck 35 (.t 34)))) 
  (.take [8, 9, 10] (none, (.r (.fldA 36 (.t 35) 13))) 
  (.take [9, 10] (none, (.r (.ld 37 (.t 36) 1 false))) 
  (.take [10] (none, (.r (.idxA 38 (.t 32) (.t 33) 1))) 
  (.one 10 (none, (.st (.t 38) (.t 37) 1)) .done)))))))))))
def c_forest_Forest_meet_r6 : List GOp := [(none, (.r (.mov 39 (.t 0)))),
  (none, (.r (.mov 40 (.t 1)))),
  (none, (.call 41 (.f 89) [((.t 39), false), ((.t 40), false)])),
  (none, (.asg 1 (.t 41) true))]
def c_forest_Forest_meet_r7 : List GOp := [(none, (.r (.mov 42 (.t 2)))),
  (none, (.r (.mov 43 (.t 1)))),
  (none, (.asg 1 (.t 42) true)),
  (none, (.asg 2 (.t 43) true))]
def v_forest_Forest_meet : List Nat := [0, 1, 2, 6, 15, 27]
def c_forest_Forest_meet : ACode :=
  (.seq
  (.reg [0, 1, 2, 6, 15, 27] c_forest_Forest_meet_r0 v_forest_Forest_meet)
  (.seq
  (.reg [0, 1, 2, 6, 15, 27] c_forest_Forest_meet_r1 v_forest_Forest_meet)
  (.blk 0 (.loop (.blk 1 (.seq
  (.seq
  (.reg [0, 1, 2, 6, 27] c_forest_Forest_meet_r2 v_forest_Forest_meet)
  (.cond (.t 15) (.seq
  (.seq
  (.draw [0, 1, 2, 6, 15] c_forest_Forest_meet_r3 v_forest_Forest_meet)
  (.cond (.t 27) (.seq
  (.reg [0, 1, 2, 6, 15, 27] c_forest_Forest_meet_r4 v_forest_Forest_meet)
  .ret) .skip))
  (.seq
  (.draw [0, 1, 2, 6, 15, 27] c_forest_Forest_meet_r5 v_forest_Forest_meet)
  (.reg [0, 1, 2, 6, 15, 27] c_forest_Forest_meet_r6 v_forest_Forest_meet))) .skip))
  (.reg [0, 1, 2, 6, 15, 27] c_forest_Forest_meet_r7 v_forest_Forest_meet)))))))
abbrev n_forest_Forest_meet : Nat := 83
theorem s_forest_Forest_meet : stripF Try.prog [6] v_forest_Forest_meet Try.f83 = some (c_forest_Forest_meet, [(.tmp 6)]) := by kernel_rfl
theorem go_forest_Forest_meet {L : List (List Nat)} {args : List AVal} {h : Heap} {Q : AVal → Heap → Prop} (hl : args.length = 3) (H : Wlk Try.prog [6] Try.f83.ntmps v_forest_Forest_meet L c_forest_Forest_meet (ends L [(.tmp 6)] Q) (entry v_forest_Forest_meet args h)) : ACalls Try.prog L n_forest_Forest_meet args h Q :=
  acalls_of_strip mix Try.func83 s_forest_Forest_meet (by rw [hl]; exact Nat.le_of_ble_eq_true rfl) H
def c_forest_Forest_shrink_r0 : Tree := 
  (.take [1, 2, 3, 5, 6, 14, 15, 16] (none, (.r (.mov 12 (.t 0)))) 
  (.take [2, 3, 5, 6, 14, 15, 16] (none, (.r (.nilck 13 (.t 12)))) 
  (.take [3, 5, 6, 14, 15, 16] (none, (.r (.fldA 14 (.t 13) 4))) 
  (.take [5, 6, 14, 15, 16] (none, (.r (.ld 15 (.t 14) 1 false))) 
  (.take [5, 6, 14, 15, 16] (none, (.r (.mov 16 (.t 1)))) 
  (.take [6, 14, 15, 16] (none, (.r (.idxA 17 (.t 15) (.t 16) 1))) 
  (.take [14, 15, 16] (none, (.r (.ld 18 (.t 17) 1 false))) 
  (.take [8, 9, 10, 12, 13, 14, 15, 16] (none, (.r (.mov 19 (.t 0)))) 
  (.take [9, 10, 12, 13, 14, 15, 16] (none, (.r (.nilck 20 (.t 19)))) 
  (.take [10, 12, 13, 14, 15, 16] (none, (.r (.fldA 21 (.t 20) 4))) 
  (.take [12, 13, 14, 15, 16] (none, (.r (.ld 22 (.t 21) 1 false))) 
  (.take [12, 13, 14, 15, 16] (none, (.r (.mov 23 (.t 2)))) 
  (.take [13, 14, 15, 16] (none, (.r (.idxA 24 (.t 22) (.t 23) 1))) 
  (.take [14, 15, 16] (none, (.r (.ld 25 (.t 24) 1 false))) 
  (.take [15, 16] (none, (.r (.bin 26 .add 0 (.t 18) (.t 25)))) 
  (.take [16] (none, (.r (.bin 27 .add 0 (.t 26) (.c (.int .i64 1))))) 
  (.one 16 (none, (.asg 8 (.t 27) true)) .done)))))))))))))))))
def c_forest_Forest_shrink_r1 : List GOp := [(none, (.r (.mov 28 (.t 0)))),
  (none, (.r (.mov 29 (.t 1)))),
  (none, (.call 30 (.f 68) [((.t 28), false), ((.t 29), false)])),
  (none, (.asg 9 (.t 30) true))]
def c_forest_Forest_shrink_r2 : List GOp := [(none, (.r (.mov 31 (.t 9)))),
  (none, (.r (.mov 32 (.t 3)))),
  (none, (.r (.bin 33 .neq 0 (.t 31) (.t 32))))]
def c_forest_Forest_shrink_r3 : List GOp := [(none, (.r (.mov 34 (.t 0)))),
  (none, (.r (.nilck 35 (.t 34)))),
  (none, (.r (.fldA 36 (.t 35) 1))),
  (none, (.r (.ld 37 (.t 36) 1 false))),
  (none, (.r (.mov 38 (.t 9)))),
  (none, (.r (.idxA 39 (.t 37) (.t 38) 1))),
  (none, (.r (.ld 40 (.t 39) 1 false))),
  (none, (.asg 10 (.t 40) true))]
def c_forest_Forest_shrink_r4 : List GOp := [(none, (.r (.mov 41 (.t 0)))),
  (none, (.r (.nilck 42 (.t 41)))),
  (none, (.r (.fldA 43 (.t 42) 3))),
  (none, (.r (.ld 44 (.t 43) 1 false))),
  (none, (.r (.mov 45 (.t 10)))),
  (none, (.r (.idxA 46 (.t 44) (.t 45) 1))),
  (none, (.r (.ld 47 (.t 46) 1 false))),
  (none, (.r (.notb 48 (.t 47))))]
def c_forest_Forest_shrink_r5 : List GOp := [(none, (.r (.mov 49 (.t 0)))),
  (none, (.r (.nilck 50 (.t 49)))),
  (none, (.r (.fldA 51 (.t 50) 8))),
  (none, (.r (.ld 52 (.t 51) 1 false))),
  (none, (.r (.mov 53 (.t 10)))),
  (none, (.r (.mov 54 (.t 1)))),
  (none, (.r (.mov 55 (.t 2)))),
  (none, (.bld 56 [((0, 1), ((.t 54), true)), ((1, 1), ((.t 55), true))] [(.int .i64 0), (.int .i64 0)])),
  (none, (.r (.idxA 57 (.t 52) (.t 53) 2))),
  (none, (.st (.t 57) (.t 56) 2))]
def c_forest_Forest_shrink_r6 : List GOp := [(none, (.r (.mov 58 (.t 0)))),
  (none, (.r (.mov 59 (.t 10)))),
  (none, (.r (.mov 60 (.t 8)))),
  (none, (.r (.mov 61 (.t 0)))),
  (none, (.r (.nilck 62 (.t 61)))),
  (none, (.r (.fldA 63 (.t 62) 5))),
  (none, (.r (.ld 64 (.t 63) 1 false))),
  (none, (.r (.mov 65 (.t 10)))),
  (none, (.r (.idxA 66 (.t 64) (.t 65) 1))),
  (none, (.r (.ld 67 (.t 66) 1 false))),
  (none, (.r (.bin 68 .sub 0 (.t 60) (.t 67)))),
  (none, (.call 69 (.f 78) [((.t 58), false), ((.t 59), false), ((.t 68), false), ((.c (.int .i64 2)), false)]))]
def c_forest_Forest_shrink_r7 : List GOp := [(none, (.r (.mov 70 (.t 0)))),
  (none, (.r (.mov 71 (.t 0)))),
  (none, (.r (.nilck 72 (.t 71)))),
  (none, (.r (.fldA 73 (.t 72) 6))),
  (none, (.r (.ld 74 (.t 73) 1 false))),
  (none, (.r (.mov 75 (.t 10)))),
  (none, (.r (.idxA 76 (.t 74) (.t 75) 1))),
  (none, (.r (.ld 77 (.t 76) 1 false))),
  (none, (.call 78 (.f 68) [((.t 70), false), ((.t 77), false)])),
  (none, (.asg 11 (.t 78) true))]
def c_forest_Forest_shrink_r8 : List GOp := [(none, (.r (.mov 79 (.t 0)))),
  (none, (.r (.mov 80 (.t 9)))),
  (none, (.r (.mov 81 (.t 10)))),
  (none, (.r (.mov 82 (.t 3)))),
  (none, (.call 83 (.f 90) [((.t 79), false), ((.t 80), false), ((.t 81), false), ((.t 82), false)]))]
def c_forest_Forest_shrink_r9 : List GOp := [(none, (.r (.mov 84 (.t 0)))),
  (none, (.r (.mov 85 (.t 10)))),
  (none, (.r (.mov 86 (.t 0)))),
  (none, (.r (.nilck 87 (.t 86)))),
  (none, (.r (.fldA 88 (.t 87) 6))),
  (none, (.r (.ld 89 (.t 88) 1 false))),
  (none, (.r (.mov 90 (.t 10)))),
  (none, (.r (.idxA 91 (.t 89) (.t 90) 1))),
  (none, (.r (.ld 92 (.t 91) 1 false))),
  (none, (.r (.mov 93 (.t 3)))),
  (none, (.call 94 (.f 90) [((.t 84), false), ((.t 85), false), ((.t 92), false), ((.t 93), false)]))]
def c_forest_Forest_shrink_r10 : List GOp := [(none, (.r (.mov 95 (.t 11)))),
  (none, (.asg 9 (.t 95) true))]
def v_forest_Forest_shrink : List Nat := [0, 1, 2, 3, 8, 9, 10, 11, 33, 48]
def c_forest_Forest_shrink : ACode :=
  (.seq
  (.draw [0, 1, 2, 3, 8, 9, 10, 11, 33, 48] c_forest_Forest_shrink_r0 v_forest_Forest_shrink)
  (.seq
  (.reg [0, 1, 2, 3, 8, 9, 10, 11, 33, 48] c_forest_Forest_shrink_r1 v_forest_Forest_shrink)
  (.blk 0 (.loop (.seq
  (.seq
  (.reg [0, 1, 2, 3, 8, 9, 10, 11, 48] c_forest_Forest_shrink_r2 v_forest_Forest_shrink)
  (.cond (.t 33) .skip (.exit 0)))
  (.blk 1 (.seq
  (.reg [0, 1, 2, 3, 8, 9, 10, 11, 33, 48] c_forest_Forest_shrink_r3 v_forest_Forest_shrink)
  (.seq
  (.seq
  (.reg [0, 1, 2, 3, 8, 9, 10, 11, 33] c_forest_Forest_shrink_r4 v_forest_Forest_shrink)
  (.cond (.t 48) (.seq
  (.reg [0, 1, 2, 3, 8, 9, 10, 11, 33, 48] c_forest_Forest_shrink_r5 v_forest_Forest_shrink)
  (.reg [0, 1, 2, 3, 8, 9, 10, 11, 33, 48] c_forest_Forest_shrink_r6 v_forest_Forest_shrink)) .skip))
  (.seq
  (.reg [0, 1, 2, 3, 8, 9, 10, 11, 33, 48] c_forest_Forest_shrink_r7 v_forest_Forest_shrink)
  (.seq
  (.reg [0, 1, 2, 3, 8, 9, 10, 11, 33, 48] c_forest_Forest_shrink_r8 v_forest_Forest_shrink)
  (.seq
  (.reg [0, 1, 2, 3, 8, 9, 10, 11, 33, 48] c_forest_Forest_shrink_r9 v_forest_Forest_shrink)
  (.reg [0, 1, 2, 3, 8, 9, 10, 11, 33, 48] c_forest_Forest_shrink_r10 v_forest_Forest_shrink))))))))))))
abbrev n_forest_Forest_shrink : Nat := 84
theorem s_forest_Forest_shrink : stripF Try.prog [] v_forest_Forest_shrink Try.f84 = some (c_forest_Forest_shrink, []) := by kernel_rfl
theorem go_forest_Forest_shrink {L : List (List Nat)} {args : List AVal} {h : Heap} {Q : AVal → Heap → Prop} (hl : args.length = 4) (H : Wlk Try.prog [] Try.f84.ntmps v_forest_Forest_shrink L c_forest_Forest_shrink (ends L [] Q) (entry v_forest_Forest_shrink args h)) : ACalls Try.prog L n_forest_Forest_shrink args h Q :=
  acalls_of_strip mix Try.func84 s_forest_Forest_shrink (by rw [hl]; exact Nat.le_of_ble_eq_true rfl) H
def c_forest_Forest_above_r0 : List GOp := [(none, (.asg 4 (.c (.int .i64 0)) true))]
def c_forest_Forest_above_r1 : List GOp := [(none, (.r (.mov 5 (.t 0)))),
  (none, (.r (.nilck 6 (.t 5)))),
  (none, (.r (.fldA 7 (.t 6) 1))),
  (none, (.r (.ld 8 (.t 7) 1 false))),
  (none, (.r (.mov 9 (.t 1)))),
  (none, (.r (.idxA 10 (.t 8) (.t 9) 1))),
  (none, (.r (.ld 11 (.t 10) 1 false))),
  (none, (.r (.bin 12 .eql 0 (.t 11) (.c (.int .i64 (-(0 + 1)))))))]
def c_forest_Forest_above_r2 : List GOp := [(none, (.asg 4 (.c (.int .i64 (-(0 + 1)))) true))]
def c_forest_Forest_above_r3 : Tree := 
  (.take [14, 15] (none, (.r (.mov 13 (.t 0)))) 
  (.take [2, 3, 4, 12, 13, 14, 15] (none, (.r (.mov 14 (.t 0)))) 
  (.take [3, 4, 12, 13, 14, 15] (none, (.r (.nilck 15 (.t 14)))) 
  (.take [4, 12, 13, 14, 15] (none, (.r (.fldA 16 (.t 15) 6))) 
  (.take [12, 13, 14, 15] (none, (.r (.ld 17 (.t 16) 1 false))) 
  (.take [6, 7, 8, 10, 11, 12, 13, 14, 15] (none, (.r (.mov 18 (.t 0)))) 
  (.take [7, 8, 10, 11, 12, 13, 14, 15] (none, (.r (.nilck 19 (.t 18)))) 
  (.take [8, 10, 11, 12, 13, 14, 15] (none, (.r (.fldA 20 (.t 19) 1))) 
  (.take [10, 11, 12, 13, 14, 15] (none, (.r (.ld 21 (.t 20) 1 false))) 
  (.take [10, 11, 12, 13, 14, 15] (none, (.r (.mov 22 (.t 1)))) 
  (.take [11, 12, 13, 14, 15] (none, (.r (.idxA 23 (.t 21) (.t 22) 1))) 
  (.take [12, 13, 14, 15] (none, (.r (.ld 24 (.t 23) 1 false))) 
  (.take [13, 14, 15] (none, (.r (.idxA 25 (.t 17) (.t 24) 1))) 
  (.take [14, 15] (none, (.r (.ld 26 (.t 25) 1 false))) 
  (.one 14 (none, (.call 27 (.f 68) [((.t 13), false), ((.t 26), false)])) 
  (.one 15 (none, (.asg 4 (.t 27) true)) .done))))))))))))))))
def v_forest_Forest_above : List Nat := [0, 1, 4, 12]
def c_forest_Forest_above : ACode :=
  (.seq
  (.reg [0, 1, 4, 12] c_forest_Forest_above_r0 v_forest_Forest_above)
  (.seq
  (.seq
  (.reg [0, 1, 4] c_forest_Forest_above_r1 v_forest_Forest_above)
  (.cond (.t 12) (.seq
  (.reg [0, 1, 4, 12] c_forest_Forest_above_r2 v_forest_Forest_above)
  .ret) .skip))
  (.seq
  (.draw [0, 1, 4, 12] c_forest_Forest_above_r3 v_forest_Forest_above)
  .ret)))
abbrev n_forest_Forest_above : Nat := 89
theorem s_forest_Forest_above : stripF Try.prog [4] v_forest_Forest_above Try.f89 = some (c_forest_Forest_above, [(.tmp 4)]) := by kernel_rfl
theorem go_forest_Forest_above {L : List (List Nat)} {args : List AVal} {h : Heap} {Q : AVal → Heap → Prop} (hl : args.length = 2) (H : Wlk Try.prog [4] Try.f89.ntmps v_forest_Forest_above L c_forest_Forest_above (ends L [(.tmp 4)] Q) (entry v_forest_Forest_above args h)) : ACalls Try.prog L n_forest_Forest_above args h Q :=
  acalls_of_strip mix Try.func89 s_forest_Forest_above (by rw [hl]; exact Nat.le_of_ble_eq_true rfl) H
def c_forest_Forest_unite_r0 : List GOp := [(none, (.r (.mov 10 (.t 0)))),
  (none, (.r (.mov 11 (.t 1)))),
  (none, (.call 12 (.f 79) [((.t 10), false), ((.t 11), false)])),
  (none, (.r (.mov 13 (.t 0)))),
  (none, (.r (.mov 14 (.t 2)))),
  (none, (.call 15 (.f 79) [((.t 13), false), ((.t 14), false)])),
  (none, (.asg 8 (.t 12) true)),
  (none, (.asg 9 (.t 15) true))]
def c_forest_Forest_unite_r1 : List GOp := [(none, (.r (.mov 16 (.t 0)))),
  (none, (.r (.nilck 17 (.t 16)))),
  (none, (.r (.fldA 18 (.t 17) 10))),
  (none, (.r (.ld 19 (.t 18) 1 false))),
  (none, (.r (.mov 20 (.t 8)))),
  (none, (.r (.mov 21 (.t 9)))),
  (none, (.r (.idxA 22 (.t 19) (.t 20) 1))),
  (none, (.st (.t 22) (.t 21) 1))]
def c_forest_Forest_unite_r2 : List GOp := [(none, (.r (.mov 23 (.t 0)))),
  (none, (.r (.nilck 24 (.t 23)))),
  (none, (.r (.fldA 25 (.t 24) 11))),
  (none, (.r (.ld 26 (.t 25) 1 false))),
  (none, (.r (.mov 27 (.t 9)))),
  (none, (.r (.mov 28 (.t 3)))),
  (none, (.r (.idxA 29 (.t 26) (.t 27) 1))),
  (none, (.st (.t 29) (.t 28) 1))]
def v_forest_Forest_unite : List Nat := [0, 1, 2, 3, 8, 9]
def c_forest_Forest_unite : ACode :=
  (.seq
  (.reg [0, 1, 2, 3, 8, 9] c_forest_Forest_unite_r0 v_forest_Forest_unite)
  (.seq
  (.reg [0, 1, 2, 3, 8, 9] c_forest_Forest_unite_r1 v_forest_Forest_unite)
  (.reg [0, 1, 2, 3, 8, 9] c_forest_Forest_unite_r2 v_forest_Forest_unite)))
abbrev n_forest_Forest_unite : Nat := 90
theorem s_forest_Forest_unite : stripF Try.prog [] v_forest_Forest_unite Try.f90 = some (c_forest_Forest_unite, []) := by kernel_rfl
theorem go_forest_Forest_unite {L : List (List Nat)} {args : List AVal} {h : Heap} {Q : AVal → Heap → Prop} (hl : args.length = 4) (H : Wlk Try.prog [] Try.f90.ntmps v_forest_Forest_unite L c_forest_Forest_unite (ends L [] Q) (entry v_forest_Forest_unite args h)) : ACalls Try.prog L n_forest_Forest_unite args h Q :=
  acalls_of_strip mix Try.func90 s_forest_Forest_unite (by rw [hl]; exact Nat.le_of_ble_eq_true rfl) H
end Go.Proofs.Ytkjppnofgmpeeaa

namespace Go.Ga.Gl
open Go Go.Ga
abbrev Es := List (Nat × Nat)
def lexlt (a b : Nat × Nat) : Prop := a.1 < b.1 ∨ a.1 = b.1 ∧ a.2 < b.2
instance (a b : Nat × Nat) : Decidable (lexlt a b) := inferInstanceAs (Decidable (a.1 < b.1 ∨ a.1 = b.1 ∧ a.2 < b.2))
structure GR (n : Nat) (es : Es) : Prop where
  hn : n ≤ 4096
  hm : es.length ≤ 65536
  ok : ∀ e ∈ es, e.1 < e.2 ∧ e.2 < n
  up : es.Pairwise lexlt
def castE (l : Es) : List (Int × Int) := l.map fun e => ((e.1 : Int), (e.2 : Int))
theorem castE_len (l : Es) : (castE l).length = l.length := by simp [castE]
theorem castE_get {l : Es} {k : Nat} {a b : Nat} (h : l[k]? = some (a, b)) : (castE l)[k]? = some ((a : Int), (b : Int)) := by simp [castE, h]
def okAt (n : Int) (es : List (Int × Int)) (i : Nat) : Bool :=
  let e := es.getD i (0, 0)
  let p := es.getD (i - 1) (0, 0)
  decide (0 ≤ e.1) && decide (e.1 < e.2) && decide (e.2 < n) && (decide (i = 0) || (decide (p.1 < e.1) || decide (p.1 = e.1) && decide (p.2 < e.2)))
def rightB (n : Int) (es : List (Int × Int)) : Bool :=
  decide (0 ≤ n) && decide (n ≤ 4096) && decide (es.length ≤ 65536) && (List.range es.length).all (okAt n es)
theorem rightB_false {n : Int} {es : List (Int × Int)} {i : Nat} (hi : i < es.length) (h : okAt n es i = false) : rightB n es = false := by
  have : (List.range es.length).all (okAt n es) = false := by
    rw [Bool.eq_false_iff]
    intro h1
    rw [List.all_eq_true] at h1
    have := h1 i (List.mem_range.2 hi)
    rw [h] at this; cases this
  simp [rightB, this]
theorem rightB_true {n : Int} {es : List (Int × Int)} (h0 : 0 ≤ n) (h1 : n ≤ 4096) (h2 : es.length ≤ 65536) (h : ∀ i, i < es.length → okAt n es i = true) : rightB n es = true := by
  simp only [rightB, Bool.and_eq_true, decide_eq_true_eq, List.all_eq_true, List.mem_range]
  exact ⟨⟨⟨h0, h1⟩, h2⟩, h⟩
theorem pairwise_of_next {α : Type} {R : α → α → Prop} (ht : ∀ a b c, R a b → R b c → R a c) : ∀ {l : List α}, (∀ i a b, l[i]? = some a → l[i + 1]? = some b → R a b) → l.Pairwise R
  | [], _ => .nil
  | [a], _ => by simp
  | a :: b :: l, h => by
    have ih : (b :: l).Pairwise R := pairwise_of_next ht fun i x y hx hy => h (i + 1) x y hx hy
    have hab : R a b := h 0 a b rfl rfl
    refine List.Pairwise.cons ?_ ih
    intro c hc
    cases hc with
    | head => exact hab
    | tail _ hc => exact ht a b c hab (List.rel_of_pairwise_cons ih hc)
theorem lexlt_trans (a b c : Nat × Nat) (h1 : lexlt a b) (h2 : lexlt b c) : lexlt a c := by
  unfold lexlt at *; omega
theorem lexlt_irrefl (a : Nat × Nat) : ¬ lexlt a a := by unfold lexlt; omega
theorem getD_castE (es : Es) (i : Nat) : (castE es).getD i (0, 0) = (((es.getD i (0, 0)).1 : Int), ((es.getD i (0, 0)).2 : Int)) := by
  simp only [castE, List.getD_eq_getElem?_getD, List.getElem?_map]
  cases es[i]? <;> rfl
theorem okAt_cast (n : Nat) (es : Es) (i : Nat) : okAt (n : Int) (castE es) i = true ↔
    (es.getD i (0, 0)).1 < (es.getD i (0, 0)).2 ∧ (es.getD i (0, 0)).2 < n ∧ (i = 0 ∨ lexlt (es.getD (i - 1) (0, 0)) (es.getD i (0, 0))) := by
  simp only [okAt, getD_castE, lexlt, Bool.and_eq_true, Bool.or_eq_true, decide_eq_true_eq]
  omega
theorem rightB_GR {n : Nat} {es : Es} (g : GR n es) : rightB n (castE es) = true := by
  refine rightB_true (by omega) (by have := g.hn; omega) (by rw [castE_len]; exact g.hm) fun i hi => ?_
  rw [castE_len] at hi
  rw [okAt_cast]
  have hmem : es.getD i (0, 0) ∈ es := by
    rw [List.getD_eq_getElem?_getD, List.getElem?_eq_getElem hi]; exact List.getElem_mem hi
  have h1 := g.ok _ hmem
  refine ⟨h1.1, h1.2, ?_⟩
  cases i with
  | zero => exact .inl rfl
  | succ i =>
    right
    have := List.pairwise_iff_getElem.1 g.up i (i + 1) (by omega) hi (by omega)
    simpa [List.getD_eq_getElem?_getD, List.getElem?_eq_getElem hi, List.getElem?_eq_getElem (show i < es.length by omega)] using this
theorem GR_rightB {n : Nat} {es : Es} (h : rightB n (castE es) = true) : GR n es := by
  simp only [rightB, Bool.and_eq_true, decide_eq_true_eq, List.all_eq_true, List.mem_range, castE_len] at h
  obtain ⟨⟨⟨_, h1⟩, h2⟩, h3⟩ := h
  have h4 : ∀ i, i < es.length → (es.getD i (0, 0)).1 < (es.getD i (0, 0)).2 ∧ (es.getD i (0, 0)).2 < n ∧ (i = 0 ∨ lexlt (es.getD (i - 1) (0, 0)) (es.getD i (0, 0))) :=
    fun i hi => (okAt_cast n es i).1 (h3 i hi)
  refine ⟨by omega, h2, ?_, ?_⟩
  · intro e he
    obtain ⟨i, hi, rfl⟩ := List.mem_iff_getElem.1 he
    have := h4 i hi
    rw [List.getD_eq_getElem?_getD, List.getElem?_eq_getElem hi] at this
    exact ⟨this.1, this.2.1⟩
  · refine pairwise_of_next lexlt_trans fun i a b ha hb => ?_
    have hi : i + 1 < es.length := (List.getElem?_eq_some_iff.1 hb).1
    have := (h4 (i + 1) hi).2.2
    rw [List.getD_eq_getElem?_getD, List.getD_eq_getElem?_getD, hb, Nat.add_sub_cancel, ha] at this
    exact this.resolve_left (by omega)
theorem right_nat {n : Int} {es : List (Int × Int)} (h : rightB n es = true) : ∃ (N : Nat) (es' : Es), n = N ∧ es = castE es' ∧ GR N es' := by
  have h' := h
  simp only [rightB, Bool.and_eq_true, decide_eq_true_eq, List.all_eq_true, List.mem_range] at h
  obtain ⟨⟨⟨h0, h1⟩, h2⟩, h3⟩ := h
  have e : es = castE (es.map fun e => (e.1.toNat, e.2.toNat)) := by
    apply List.ext_getElem (by simp [castE])
    intro i hi hi'
    have := h3 i hi
    simp only [okAt, Bool.and_eq_true, decide_eq_true_eq, List.getD_eq_getElem?_getD, List.getElem?_eq_getElem hi, Option.getD_some] at this
    obtain ⟨⟨⟨a, b⟩, c⟩, _⟩ := this
    simp only [castE, List.getElem_map]
    apply Prod.ext
    · show _ = ((es[i].1.toNat : Nat) : Int); omega
    · show _ = ((es[i].2.toNat : Nat) : Int); omega
  refine ⟨n.toNat, _, by omega, e, ?_⟩
  apply GR_rightB
  rw [← e, show ((n.toNat : Nat) : Int) = n by omega]
  exact h'
theorem GR.nodup {n : Nat} {es : Es} (g : GR n es) : es.Nodup := g.up.imp fun {a b} h e => by subst e; exact lexlt_irrefl _ h
def putE (l : Es) (e : Nat × Nat) : Es := (l.filter fun x => decide (lexlt x e)) ++ e :: (l.filter fun x => !decide (lexlt x e))
theorem putE_mem {l : Es} {e x : Nat × Nat} : x ∈ putE l e ↔ x = e ∨ x ∈ l := by
  simp only [putE, List.mem_append, List.mem_filter, List.mem_cons]
  by_cases h : lexlt x e <;> simp [h]
  constructor
  · rintro (h | h)
    · exact .inr h
    · exact .inl h
  · rintro (rfl | h)
    · exact absurd h (lexlt_irrefl _)
    · exact .inl h
theorem putE_len (l : Es) (e : Nat × Nat) : (putE l e).length = l.length + 1 := by
  have : ∀ (p : Nat × Nat → Bool), (l.filter p).length + (l.filter fun x => !p x).length = l.length := by
    intro p
    induction l with
    | nil => rfl
    | cons a l ih =>
      cases h : p a <;> simp [h] <;> omega
  simp only [putE, List.length_append, List.length_cons]
  have := this fun x => decide (lexlt x e)
  omega
theorem GR.put {n : Nat} {es : Es} (g : GR n es) {e : Nat × Nat} (h1 : e.1 < e.2) (h2 : e.2 < n) (h3 : e ∉ es) (h4 : es.length < 65536) : GR n (putE es e) := by
  refine ⟨g.hn, by rw [putE_len]; omega, ?_, ?_⟩
  · intro x hx
    rcases putE_mem.1 hx with rfl | hx
    · exact ⟨h1, h2⟩
    · exact g.ok x hx
  · refine List.pairwise_append.2 ⟨g.up.filter _, List.pairwise_cons.2 ⟨?_, g.up.filter _⟩, ?_⟩
    · intro x hx
      simp only [List.mem_filter, Bool.not_eq_true', decide_eq_false_iff_not] at hx
      have : x ≠ e := fun h => h3 (h ▸ hx.1)
      have h5 : ¬ (x.1 = e.1 ∧ x.2 = e.2) := fun h => this (Prod.ext h.1 h.2)
      have h6 := hx.2
      unfold lexlt at *
      omega
    · intro x hx y hy
      simp only [List.mem_filter, decide_eq_true_eq] at hx
      have hxe : lexlt x e := hx.2
      simp only [List.mem_cons, List.mem_filter, Bool.not_eq_true', decide_eq_false_iff_not] at hy
      rcases hy with rfl | hy
      · exact hxe
      · refine lexlt_trans _ e _ hxe ?_
        have : y ≠ e := fun h => h3 (h ▸ hy.1)
        have h5 : ¬ (y.1 = e.1 ∧ y.2 = e.2) := fun h => this (Prod.ext h.1 h.2)
        have h6 := hy.2
        unfold lexlt at *
        omega
def lowOf (es : Es) (v : Nat) : List Nat := (es.filter fun e => decide (e.2 = v)).map (·.1)
def highOf (es : Es) (v : Nat) : List Nat := (es.filter fun e => decide (e.1 = v)).map (·.2)
def nearOf (es : Es) (v : Nat) : List Nat := lowOf es v ++ highOf es v
def near (n : Nat) (es : Es) : List (List Nat) := (List.range n).map (nearOf es)
def adj (es : Es) (a b : Nat) : Prop := (a, b) ∈ es ∨ (b, a) ∈ es
theorem adj_symm {es : Es} {a b : Nat} (h : adj es a b) : adj es b a := h.symm
theorem nearOf_mem {es : Es} {v w : Nat} : w ∈ nearOf es v ↔ adj es v w := by
  simp only [nearOf, lowOf, highOf, List.mem_append, List.mem_map, List.mem_filter, decide_eq_true_eq, adj]
  constructor
  · rintro (⟨⟨a, b⟩, ⟨h, h1⟩, h2⟩ | ⟨⟨a, b⟩, ⟨h, h1⟩, h2⟩)
    · right; simp at h1 h2; subst h1 h2; exact h
    · left; simp at h1 h2; subst h1 h2; exact h
  · rintro (h | h)
    · exact .inr ⟨(v, w), ⟨h, rfl⟩, rfl⟩
    · exact .inl ⟨(w, v), ⟨h, rfl⟩, rfl⟩
theorem near_len (n : Nat) (es : Es) : (near n es).length = n := by simp [near]
theorem near_get {n : Nat} {es : Es} {v : Nat} (h : v < n) : (near n es)[v]? = some (nearOf es v) := by simp [near, h]
end Go.Ga.Gl

namespace Go.Ga.Gl
open Go Go.Ga
def Flat (es : Es) (O : Nat → Prop) (f : Nat → Nat) : Prop := ∀ a b, adj es a b → ¬ O a → ¬ O b → f a = f b
structure IsPieces (n : Nat) (es : Es) (O : Nat → Prop) (ps : List (List Nat)) : Prop where
  mem : ∀ v, (∃ p ∈ ps, v ∈ p) ↔ v < n ∧ ¬ O v
  ne : ∀ p ∈ ps, p ≠ []
  inc : ∀ p ∈ ps, p.Pairwise (· < ·)
  heads : ps.Pairwise fun p q => ∀ a ∈ p.head?, ∀ b ∈ q.head?, a < b
  disj : ps.Pairwise fun p q => ∀ v ∈ p, v ∉ q
  edge : ∀ p ∈ ps, ∀ a ∈ p, ∀ b, adj es a b → b < n → ¬ O b → b ∈ p
  conn : ∀ p ∈ ps, ∀ f, Flat es O f → ∀ a ∈ p, ∀ b ∈ p, f a = f b
theorem GR.adj_lt {n : Nat} {es : Es} (g : GR n es) : ∀ a b, adj es a b → a < n ∧ b < n := by
  intro a b h
  rcases h with h | h
  · obtain ⟨h1, h2⟩ := g.ok _ h; simp only at h1 h2; exact ⟨by omega, h2⟩
  · obtain ⟨h1, h2⟩ := g.ok _ h; simp only at h1 h2; exact ⟨h2, by omega⟩
theorem piece_len {n : Nat} {es : Es} {O : Nat → Prop} {ps : List (List Nat)} (P : IsPieces n es O ps) {p : List Nat} (hp : p ∈ ps) : p.length ≤ n := by
  have := (List.pairwise_iff_getElem.1 (P.inc p hp))
  have key : ∀ (m : Nat) (q : List Nat), q.Pairwise (· < ·) → (∀ x ∈ q, m ≤ x ∧ x < n) → q.length ≤ n - m := by
    intro m q
    induction q generalizing m with
    | nil => intro _ _; exact Nat.zero_le _
    | cons a q ih =>
      intro h1 h2
      have h1' := List.pairwise_cons.1 h1
      have ha := h2 a (List.mem_cons_self ..)
      have := ih (a + 1) h1'.2 fun x hx => ⟨h1'.1 x hx, (h2 x (List.mem_cons_of_mem _ hx)).2⟩
      simp only [List.length_cons]; omega
  have := key 0 p (P.inc p hp) fun x hx => ⟨Nat.zero_le _, ((P.mem x).1 ⟨p, hp, hx⟩).1⟩
  omega
theorem pieces_len {n : Nat} {es : Es} {O : Nat → Prop} {ps : List (List Nat)} (P : IsPieces n es O ps) : ps.length ≤ n := by
  have h : (ps.map fun p => p.headD 0).Pairwise (· < ·) := by
    refine List.pairwise_map.2 (P.heads.imp_of_mem fun {p q} hp hq h => ?_)
    have h1 := P.ne p hp; have h2 := P.ne q hq
    cases p with
    | nil => exact absurd rfl h1
    | cons a p => cases q with
      | nil => exact absurd rfl h2
      | cons b q => exact h a rfl b rfl
  have h2 : ∀ x ∈ ps.map fun p => p.headD 0, x < n := by
    intro x hx
    obtain ⟨p, hp, rfl⟩ := List.mem_map.1 hx
    cases p with
    | nil => exact absurd rfl (P.ne _ hp)
    | cons a p => exact ((P.mem a).1 ⟨_, hp, List.mem_cons_self ..⟩).1
  have key : ∀ (m : Nat) (q : List Nat), q.Pairwise (· < ·) → (∀ x ∈ q, m ≤ x ∧ x < n) → q.length ≤ n - m := by
    intro m q
    induction q generalizing m with
    | nil => intro _ _; exact Nat.zero_le _
    | cons a q ih =>
      intro h1 h2
      have h1' := List.pairwise_cons.1 h1
      have ha := h2 a (List.mem_cons_self ..)
      have := ih (a + 1) h1'.2 fun x hx => ⟨h1'.1 x hx, (h2 x (List.mem_cons_of_mem _ hx)).2⟩
      simp only [List.length_cons]; omega
  have := key 0 _ h fun x hx => ⟨Nat.zero_le _, h2 x hx⟩
  simpa using this
end Go.Ga.Gl
