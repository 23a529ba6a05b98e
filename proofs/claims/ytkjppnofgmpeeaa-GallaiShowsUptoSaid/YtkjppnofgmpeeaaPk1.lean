/- The set A shows that a largest matching is one: there are as many pieces of D as vertices of A, and as many more as vertices without a mate; all that have none are in D. -/
import Derived.Test.YtkjppnofgmpeeaaRows
import Derived.Test.YtkjppnofgmpeeaaGohmjhm5
set_option linter.all false

namespace Go.Proofs.Ytkjppnofgmpeeaa
open Go Go.Ga
theorem mix :Try.prog.follows .mixedOrders=true:=by kernel_rfl
def zd6 :List zn:=[oO 8]
def zd5 :List zn:=[oM 20 0,oM 21 1,oM 22 2,oC3 23 24 20 21 22,(none,.alloc 9 [.int .i64 0,.slice none 0 0]),oW 9 23 2]
def KQ :List zn:=[oM 24 3,oE 25 24,oB 26 .gtr 25 2]
def zd4 :List zn:=[oM 27 0,oM 28 3,(none,.call 29 (.f 9) [(.t 27,false),(.t 28,false),(.c (.int .i64 50),false),(.c (.int .i64 60),false)]),oW 9 29 2]
def KP :List zn:=[oT 31 9 2,oC 32 11 31,oM 30 32,oY 33 30 0,oY 34 30 1,(none,.alloc 10 [.slice none 0 0,.slice none 0 0,.slice none 0 0]),oW 10 33 3,oS 11 34]
def KO :List zn:=[oT 36 9 2,oC 37 20 36,oM 35 37,oY 38 35 0,oY 39 35 1,oS 12 38,oS 13 39]
def KN :List zn:=[oT 41 9 2,oC 42 25 41,oM 40 42,oY 43 40 0,oY 44 40 1,oY 45 40 2,(none,.alloc 15 [.int .i64 0,.int .i64 0]),oS 14 43,oW 15 44 2,oS 16 45]
def Wa :List zn:=[(none,.call 46 (.f 10) []),(none,.r (.notb 47 (.t 46))),oM 48 47,oK 48 false 49 11,gI 48 false 50 .neq 49 0,oQ 51 48 50,oM 52 51,oK 52 false 53 13,gI 52 false 54 .neq 53 0,oQ 55 52 54,oM 56 55,oK 56 false 57 16,gI 56 false 58 .neq 57 0,oQ 59 56 58,oM 60 59,
 (some (60,false),.r (.ld 61 (.t 9) 2 true)),oK 60 false 62 14,(some (60,false),.r (.fldA 63 (.t 10) 1)),Qg 60 false 64 63 1,(some (60,false),.call 65 (.f 26) [(.t 61,false),(.t 62,false),(.t 64,false)]),(some (60,false),.r (.notb 66 (.t 65))),oQ 67 60 66]
def zjl :List zn:=[oO 8]
def w9 :List zn:=[oM 68 14,oC 69 27 68,oS 17 69]
def yW :List zn:=[oI 18 0]
def JI :List zn:=[oM 70 18,oM 71 17,oE 72 71,oD 73 .lss 70 72]
def yV :Zi:=.take [1,6,7] (oF 76 10 0) (.take [6,7] (oL 77 76 1) (.take [4,5,6,7] (oM 78 17) (.take [4,5,6,7] (oM 79 18) (.take [5,6,7] (oX 80 78 79 1) (.take [6,7] (oL 81 80 1) (.one 6 (qF 82 13 77 81) (.take [] (none,.r (.notb 83 (.t 82))) .done)))))))
def zhy :List zn:=[oO 8]
def yU :List zn:=[oM 74 18,oB 75 .add 74 1,oS 18 75]
def yT :List zn:=[oI 19 0]
def JH :List zn:=[oM 84 19,oM 85 12,oE 86 85,oD 87 .lss 84 86]
def yS :List zn:=[oM 90 12,oM 91 19,oX 92 90 91 1,oL 93 92 1,oE 94 93,oB 95 .rem 94 2,oB 96 .eql 95 0]
def zhx :List zn:=[oO 8]
def yR :List zn:=[oM 88 19,oB 89 .add 88 1,oS 19 89]
def yQ :List zn:=[oM 97 12,oE 98 97,oF 99 10 1,oL 100 99 1,oE 101 100,oM 102 17,oE 103 102,oD 104 .add 101 103,oD 105 .eql 98 104,oS 8 105]
def jJ :List Nat:=[0,1,2,3,8,9,10,11,12,13,14,16,17,18,19,26,67,73,83,87,96]
def znz :zC:=.seq (.reg jJ zd6 jJ) (.seq (.reg [0,1,2,3,8,10,11,12,13,14,16,17,18,19,26,67,73,83,87,96] zd5 jJ) (.seq (.seq (.reg [0,1,2,3,8,9,10,11,
 12,13,14,16,17,18,19,67,73,83,87,96] KQ jJ) (.cond (.t 26) (.reg jJ zd4 jJ) .skip)) (.seq (.reg [0,1,2,3,8,9,11,12,13,14,16,17,18,19,26,67,73,83,87,96] KP jJ) (.seq (.reg jJ KO jJ) (.seq (.reg jJ KN jJ) (.seq (.seq (.reg [0,
 1,2,3,8,9,10,11,12,13,14,16,17,18,19,26,73,83,87,96] Wa jJ) (.cond (.t 67) (.seq (.reg jJ zjl jJ) .ret) .skip)) (.seq (.reg jJ w9 jJ) (.seq (.seq (.reg jJ yW jJ) (.blk 0 (.loop (.seq (.seq (.reg [0,
 1,2,3,8,9,10,11,12,13,14,16,17,18,19,26,67,83,87,96] JI jJ) (.cond (.t 73) .skip (.exit 0))) (.seq (.blk 1 (.seq (.draw [0,1,2,3,8,9,10,11,12,13,14,16,17,18,19,26,67,73,87,96] yV jJ) (.cond (.t 83) (.seq (.reg jJ zhy jJ) .ret) .skip))) (.reg jJ yU jJ)))))) (.seq (.seq (.reg jJ yT jJ) (.blk 2 (.loop (.seq (.seq (.reg [0,
 1,2,3,8,9,10,11,12,13,14,16,17,18,19,26,67,73,83,96] JH jJ) (.cond (.t 87) .skip (.exit 2))) (.seq (.blk 3 (.seq (.reg [0,1,2,3,8,9,10,11,12,13,14,16,17,18,19,26,67,73,83,87] yS jJ) (.cond (.t 96) (.seq (.reg jJ zhx jJ) .ret) .skip))) (.reg jJ yR jJ)))))) (.seq (.reg jJ yQ jJ) .ret))))))))))
abbrev znl :Nat:=8
theorem znr :jK Try.prog Try.f8.ntmps 4 [8] jJ [(.tmp 8)] znz znl:=jU mix Try.func8 (by kernel_rfl) rfl
def zd3 :List zn:=[(none,.alloc 8 [.int .i64 0,.slice none 0 0])]
def zd2 :List zn:=[oM 13 0,(none,.r (.conv 14 .u64 (.t 13))),oM 15 2,oB 16 .add 15 1,(none,.r (.conv 17 .u64 (.t 16))),oD 18 .rem 14 17,(none,.r (.conv 19 .i64 (.t 18))),oS 0 19]
def zd1 :List zn:=[oM 20 0,(none,.bld 21 [((0,1),(.t 20,true))] [.int .i64 0,.slice none 0 0]),(none,.alloc 9 [.int .i64 0,.slice none 0 0]),oW 9 21 2]
def zd0 :List zn:=[oI 10 0]
def Yv :List zn:=[oM 22 10,oB 23 .add 22 1,oM 24 1,oE 25 24,oD 26 .lss 23 25,oM 27 26,(some (27,true),.r (.fldA 28 (.t 9) 1)),Qg 27 true 29 28 1,(some (27,true),.r (.len 30 (.t 29))),oK 27 true 31 3,Vm 27 true 32 .lss 30 31,oP 33 27 32,oM 34 33,oK 34 true 35 0,gI 34 true 36 .gtr 35 0,
 oP 37 34 36,oM 38 37,oK 38 true 39 10,gI 38 true 40 .lss 39 400,oP 41 38 40]
def zdZ :Zi:=.take [20,21,22,23,25,26] (oT 45 9 2) (.take [3,4,5,8,9,20,21,22,23,25,26] (oM 46 1) (.take [3,4,5,8,9,20,21,22,23,25,26] (oM 47 10) (.take [4,5,8,9,20,21,22,23,25,26] (oX 48 46 47 1) (.take [5,8,9,20,21,22,23,25,26] (oL 49 48 1) (.take [8,9,20,21,22,23,25,26] (none,
 .r (.conv 50 .u64 (.t 49))) (.take [7,8,9,20,21,22,23,25,26] (oM 51 0) (.take [8,9,20,21,22,23,25,26] (none,.r (.conv 52 .u64 (.t 51))) (.take [9,20,21,22,23,25,26] (oD 53 .rem 50 52) (.take [20,21,22,23,25,26] (none,.r (.conv 54 .i64 (.t 53))) (.take [13,14,15,18,19,20,21,22,23,25,26] (oM 55 1) (.take [12,
 13,14,15,18,19,20,21,22,23,25,26] (oM 56 10) (.take [13,14,15,18,19,20,21,22,23,25,26] (oB 57 .add 56 1) (.take [14,15,18,19,20,21,22,23,25,26] (oX 58 55 57 1) (.take [15,18,19,20,21,22,23,25,26] (oL 59 58 1) (.take [18,19,20,21,22,23,25,26] (none,.r (.conv 60 .u64 (.t 59))) (.take [17,18,19,20,21,22,
 23,25,26] (oM 61 0) (.take [18,19,20,21,22,23,25,26] (none,.r (.conv 62 .u64 (.t 61))) (.take [19,20,21,22,23,25,26] (oD 63 .rem 60 62) (.take [20,21,22,23,25,26] (none,.r (.conv 64 .i64 (.t 63))) (.two 20 (oC3 65 28 45 54 64) (.take [22,23,25,26] (oM 44 65) (.take [25,26] (oY 66 44 0) (.take [26] (oY 67 44 1) (.one 24 (none,
 .alloc 11 [.int .i64 0,.slice none 0 0]) (.one 25 (oW 11 66 2) (.one 26 (oS 12 67) .done)))))) 24 (none,.alloc 11 [.int .i64 0,.slice none 0 0]) (.one 20 (oC3 65 28 45 54 64) (.take [22,23,25,26] (oM 44 65) (.take [25,26] (oY 66 44 0) (.take [26] (oY 67 44 1) (.one 25 (oW 11 66 2) (.one 26 (oS 12 67) .done))))))))))))))))))))))))))
def w8 :List zn:=[oM 68 12,oB 69 .eql 68 0]
def KM :List zn:=[oT 70 11 2,oW 9 70 2]
def w7 :List zn:=[oM 42 10,oB 43 .add 42 2,oS 10 43]
def w6 :List zn:=[oT 71 9 2,oW 8 71 2]
def yj :List Nat:=[0,1,2,3,8,9,10,11,12,41,69]
def zny :zC:=.seq (.reg [0,1,2,3,9,10,11,12,41,69] zd3 yj) (.seq (.reg yj zd2 yj) (.seq (.reg [0,1,2,3,8,10,11,12,41,69] zd1 yj) (.seq (.seq (.reg yj zd0 yj) (.blk 0 (.loop (.seq (.seq (.reg [0,
 1,2,3,8,9,10,11,12,69] Yv yj) (.cond (.t 41) .skip (.exit 0))) (.seq (.blk 1 (.seq (.draw [0,1,2,3,8,9,10,12,41,69] zdZ yj) (.seq (.reg [0,1,2,3,8,9,10,11,12,41] w8 yj) (.cond (.t 69) (.reg yj KM yj) .skip)))) (.reg yj w7 yj)))))) (.seq (.reg yj w6 yj) .ret))))
abbrev znk :Nat:=9
theorem znq :jK Try.prog Try.f9.ntmps 4 [] yj [(.cell 8 2 true)] zny znk:=jU mix Try.func9 (by kernel_rfl) rfl
def zbV :List zn:=[oO 0]
def zbU :List zn:=[(none,.bld 4 [((0,1),(.c (.int .i64 0),true)),((1,1),(.c (.int .i64 1),true))] [.int .i64 0,.int .i64 0]),(none,.bld 5 [((0,1),(.c (.int .i64 0),true)),((1,1),(.c (.int .i64 2),true))] [.int .i64 0,.int .i64 0]),(none,.blds 6 2 2 [((0,2),(.t 4,true)),((2,2),(.t 5,
 true))] [.int .i64 0,.int .i64 0]),(none,.bld 7 [((0,1),(.c (.int .i64 3),true)),((1,1),(.t 6,true))] [.int .i64 0,.slice none 0 0]),oC 8 11 7,oM 3 8,oY 9 3 0,oY 10 3 1,(none,.alloc 1 [.slice none 0 0,.slice none 0 0,.slice none 0 0]),oW 1 9 3,oS 2 10]
def zbT :List zn:=[oM 11 2,oB 12 .eql 11 0,oM 13 12,(some (13,true),.r (.ld 14 (.t 1) 3 true)),(some (13,true),.blds 15 2 1 [((0,1),(.c (.int .i64 1),true)),((1,1),(.c (.int .i64 2),true))] [.int .i64 0]),(some (13,true),.blds 16 1 1 [((0,1),(.c (.int .i64 0),true))] [.int .i64 0]),
 (some (13,true),.bld 17 [((0,1),(.t 15,true)),((1,1),(.t 16,true))] [.slice none 0 0,.slice none 0 0,.slice none 0 0]),(some (13,true),.call 18 (.f 17) [(.t 14,false),(.t 17,false)]),oP 19 13 18,oS 0 19]
def Xh :List Nat:=[0,1,2]
def zlt :zC:=.seq (.reg Xh zbV Xh) (.seq (.reg [0,2] zbU Xh) (.seq (.reg Xh zbT Xh) .ret))
abbrev zko :Nat:=10
theorem zmX :jK Try.prog Try.f10.ntmps 0 [0] Xh [(.tmp 0)] zlt zko:=jU mix Try.func10 (by kernel_rfl) rfl
def zbS :List zn:=[(none,.box 1 (.t 0)),(none,.alloc 2 [.slice none 0 0,.slice none 0 0,.slice none 0 0]),oI 3 0]
def zbR :List zn:=[oT 9 1 2,oC 10 29 9,oM 8 10,oY 11 8 0,oY 12 8 1,oY 13 8 2,oS 4 11,oS 5 12,oS 6 13]
def UY :List zn:=[oM 14 6,oB 15 .neq 14 0]
def zhZ :List zn:=[(none,.bld 16 [] [.slice none 0 0,.slice none 0 0,.slice none 0 0]),oM 17 6,oW 2 16 3,oS 3 17]
def UX :List zn:=[oM 18 4,(none,.mkfn 19 (.func 30) [(.t 18,false)] []),oS 7 19]
def UW :List zn:=[oM 20 7,(none,.call 21 (.t 20) [(.c (.int .i64 1),false)]),oM 22 7,(none,.call 23 (.t 22) [(.c (.int .i64 2),false)]),oM 24 7,(none,.call 25 (.t 24) [(.c (.int .i64 0),false)]),(none,.bld 26 [((0,1),(.t 21,true)),((1,1),(.t 23,true)),((2,1),(.t 25,true))] [.slice none 0 0,
 .slice none 0 0,.slice none 0 0]),oW 2 26 3,oI 3 0]
def yc :List Nat:=[0,1,2,3,4,5,6,7,15]
def zls :zC:=.seq (.reg [0,3,4,5,6,7,15] zbS yc) (.seq (.reg yc zbR yc) (.seq (.seq (.reg [0,1,2,3,4,5,6,7] UY yc) (.cond (.t 15) (.seq (.reg yc zhZ yc) .ret) .skip)) (.seq (.reg yc UX yc) (.seq (.reg yc UW yc) .ret))))
abbrev zgR :Nat:=11
theorem zmW :jK Try.prog Try.f11.ntmps 1 [3] yc [(.cell 2 3 true),(.tmp 3)] zls zgR:=jU mix Try.func11 (by kernel_rfl) rfl
def zbQ :List zn:=[oO 4]
def zbP :List zn:=[oI 5 0]
def zbO :List zn:=[oM 6 5,oM 7 0,oE 8 7,oD 9 .lss 6 8]
def zbN :List zn:=[oM 12 0,oM 13 5,oX 14 12 13 1,oL 15 14 1,oM 16 1,oD 17 .eql 15 16]
def zbM :List zn:=[(none,.asg 4 (.c (.bool true)) true)]
def zbL :List zn:=[oM 10 5,oB 11 .add 10 1,oS 5 11]
def zbK :List zn:=[oO 4]
def qM :List Nat:=[0,1,4,5,9,17]
def zlr :zC:=.seq (.reg qM zbQ qM) (.seq (.seq (.reg qM zbP qM) (.blk 0 (.loop (.seq (.seq (.reg [0,1,4,5,17] zbO qM) (.cond (.t 9) .skip (.exit 0))) (.seq (.blk 1 (.seq (.reg [0,
 1,4,5,9] zbN qM) (.cond (.t 17) (.seq (.reg qM zbM qM) .ret) .skip))) (.reg qM zbL qM)))))) (.seq (.reg qM zbK qM) .ret))
abbrev zgQ :Nat:=13
theorem zmV :jK Try.prog Try.f13.ntmps 2 [4] qM [(.tmp 4)] zlr zgQ:=jU mix Try.func13 (by kernel_rfl) rfl
def zbJ :List zn:=[oO 4]
def zbI :List zn:=[oM 5 0,oM 6 1,(none,.call 7 (.f 32) [(.t 5,false),(.t 6,false),(.f 33,false)]),oS 4 7]
def vM :List Nat:=[0,1,4]
def zlq :zC:=.seq (.reg vM zbJ vM) (.seq (.reg vM zbI vM) .ret)
abbrev zgP :Nat:=14
theorem zmU :jK Try.prog Try.f14.ntmps 2 [4] vM [(.tmp 4)] zlq zgP:=jU mix Try.func14 (by kernel_rfl) rfl
def zbH :List zn:=[(none,.box 2 (.t 0)),(none,.box 3 (.t 1)),oO 4]
def zbG :List zn:=[oF 5 2 0,oL 6 5 1,oF 7 3 0,oL 8 7 1,qF 9 14 6 8,oM 10 9,(some (10,true),.r (.fldA 11 (.t 2) 1)),Qg 10 true 12 11 1,(some (10,true),.r (.fldA 13 (.t 3) 1)),Qg 10 true 14 13 1,(some (10,true),.call 15 (.f 14) [(.t 12,false),(.t 14,false)]),oP 16 10 15,oM 17 16,
 (some (17,true),.r (.fldA 18 (.t 2) 2)),Qg 17 true 19 18 1,(some (17,true),.r (.fldA 20 (.t 3) 2)),Qg 17 true 21 20 1,(some (17,true),.call 22 (.f 14) [(.t 19,false),(.t 21,false)]),oP 23 17 22,oS 4 23]
def K6 :List Nat:=[0,1,2,3,4]
def zlp :zC:=.seq (.reg [0,1,4] zbH K6) (.seq (.reg K6 zbG K6) .ret)
abbrev zkn :Nat:=17
theorem zmT :jK Try.prog Try.f17.ntmps 2 [4] K6 [(.tmp 4)] zlp zkn:=jU mix Try.func17 (by kernel_rfl) rfl
def zbF :List zn:=[(none,.box 1 (.t 0)),oZ 2,oI 3 0]
def zbE :List zn:=[oT 7 1 2,oC 8 11 7,oM 6 8,oY 9 6 0,oY 10 6 1,(none,.alloc 4 [.slice none 0 0,.slice none 0 0,.slice none 0 0]),oW 4 9 3,oS 5 10]
def zbD :List zn:=[oM 11 5,oB 12 .neq 11 0]
def zhY :List zn:=[oM 13 5,oZ 2,oS 3 13]
def zbC :Zi:=.take [7,8,9] (oT 14 1 2) (.take [2,5,6,7,8,9] (oF 15 4 1) (.take [5,6,7,8,9] (oL 16 15 1) (.take [4,5,6,7,8,9] (oF 17 4 2) (.take [5,6,7,8,9] (oL 18 17 1) (.one 5 (none,.blds 19 2 1 [((0,1),(.t 16,true)),((1,1),(.t 18,true))] [.slice none 0 0]) (.one 6 (oC 20 35 19) (.one 7 (qF 21 34 14 20) (.one 8 (oS 2 21) (.one 9 (oI 3 0) .done)))))))))
def wC :List Nat:=[0,1,2,3,4,5,12]
def zlo :zC:=.seq (.reg [0,2,3,4,5,12] zbF wC) (.seq (.reg [0,1,2,3,5,12] zbE wC) (.seq (.seq (.reg [0,1,2,3,4,5] zbD wC) (.cond (.t 12) (.seq (.reg wC zhY wC) .ret) .skip)) (.seq (.draw wC zbC wC) .ret)))
abbrev zkm :Nat:=20
theorem zmS :jK Try.prog Try.f20.ntmps 1 [2,3] wC [(.tmp 2),(.tmp 3)] zlo zkm:=jU mix Try.func20 (by kernel_rfl) rfl
def UV :List zn:=[(none,.box 2 (.t 0)),oZ 4]
def UU :List zn:=[oT 16 2 2,oC 17 23 16,(none,.r (.notb 18 (.t 17)))]
def zbB :List zn:=[oZ 4]
def zbA :List zn:=[oF 19 2 0,oL 20 19 1,(none,.mk 21 (.t 20) (.t 20) 1 8 [.int .i64 0]),oS 5 21]
def zbz :List zn:=[oI 6 0]
def zby :List zn:=[oM 22 6,oF 23 2 0,oL 24 23 1,oD 25 .lss 22 24]
def zbx :List zn:=[oM 28 5,oM 29 6,oM 30 6,oX 31 28 29 1,oW 31 30 1]
def zbw :List zn:=[oM 32 1,oM 33 6,qF 34 13 32 33]
def zbv :List zn:=[oM 35 5,oM 36 6,oX 37 35 36 1,(none,.st (.t 37) (.c (.int .i64 (- (0+1)))) 1)]
def UT :List zn:=[oM 26 6,oB 27 .add 26 1,oS 6 27]
def k9 :List zn:=[(none,.asg 7 (.c (.bool true)) true)]
def k8 :List zn:=[oM 38 7]
def k7 :List zn:=[oO 7]
def k0 :List zn:=[oI 8 0]
def kZ :List zn:=[oM 39 8,oF 40 2 1,oL 41 40 1,oE 42 41,oD 43 .lss 39 42]
def kY :Zi:=.take [1,3,4,5,12,13] (oF 46 2 1) (.take [3,4,5,12,13] (oL 47 46 1) (.take [3,4,5,12,13] (oM 48 8) (.take [4,5,12,13] (oX 49 47 48 2) (.take [5,12,13] (oF 50 49 0) (.take [12,13] (oL 51 50 1) (.take [7,9,10,11,13] (oF 52 2 1) (.take [9,10,11,13] (oL 53 52 1) (.take [9,
 10,11,13] (oM 54 8) (.take [10,11,13] (oX 55 53 54 2) (.take [11,13] (oF 56 55 1) (.take [13] (oL 57 56 1) (.one 12 (oS 9 51) (.one 13 (oS 10 57) .done)))))))))))))
def QE :Zi:=.take [2,3,4,5,6,7,8,9,10,11,12,13,14,15,16,17,18,19,20,21,22] (oM 58 5) (.take [2,3,4,5,6,7,8,9,10,11,12,13,14,15,16,17,18,19,20,21,22] (oM 59 9) (.take [3,4,5,6,7,8,9,10,11,12,13,14,15,16,17,18,19,20,21,22] (oX 60 58 59 1) (.take [4,5,6,7,8,9,10,11,12,13,14,15,
 16,17,18,19,20,21,22] (oL 61 60 1) (.take [5,6,7,8,9,10,11,12,13,14,15,16,17,18,19,20,21,22] (oB 62 .lss 61 0) (.take [6,7,8,9,10,11,12,13,14,15,16,17,18,19,20,21,22] (oM 63 62) (.take [8,9,10,11,12,13,14,15,16,17,18,19,20,21,22] (oK 63 false 64 5) (.take [8,9,10,11,12,13,14,15,16,17,18,19,20,21,22] (oK 63 false 65 10) (.take [9,
 10,11,12,13,14,15,16,17,18,19,20,21,22] (some (63,false),.r (.idxA 66 (.t 64) (.t 65) 1)) (.take [10,11,12,13,14,15,16,17,18,19,20,21,22] (Qg 63 false 67 66 1) (.take [11,12,13,14,15,16,17,18,19,20,21,22] (gI 63 false 68 .lss 67 0) (.take [12,13,14,15,16,17,18,19,20,21,22] (oQ 69 63 68) (.take [13,
 14,15,16,17,18,19,20,21,22] (oM 70 69) (.take [15,16,21,22] (oK 70 false 71 5) (.take [15,16,21,22] (oK 70 false 72 9) (.take [16,21,22] (some (70,false),.r (.idxA 73 (.t 71) (.t 72) 1)) (.take [21,22] (Qg 70 false 74 73 1) (.take [19,20,21,22] (oK 70 false 75 5) (.take [19,20,21,22] (oK 70 false 76 10) (.take [20,
 21,22] (some (70,false),.r (.idxA 77 (.t 75) (.t 76) 1)) (.take [21,22] (Qg 70 false 78 77 1) (.take [22] (Vm 70 false 79 .eql 74 78) (.take [] (oQ 80 70 79) .done))))))))))))))))))))))
def kX :Zi:=.take [2,3,8,9] (oM 81 5) (.take [2,3,8,9] (oM 82 9) (.take [3,8,9] (oX 83 81 82 1) (.take [8,9] (oL 84 83 1) (.take [6,7,8,9] (oM 85 5) (.take [6,7,8,9] (oM 86 10) (.take [7,8,9] (oX 87 85 86 1) (.take [8,9] (oL 88 87 1) (.take [9] (none,.r (.mm 89 false (.t 84) (.t 88))) (.one 9 (oS 11 89) .done)))))))))
def kW :List zn:=[oM 90 5,oM 91 9,oM 92 5,oM 93 10,oM 94 11,oM 95 11,oX 96 90 91 1,oW 96 94 1,oX 97 92 93 1,oW 97 95 1]
def kV :List zn:=[(none,.asg 7 (.c (.bool true)) true)]
def QD :List zn:=[oM 44 8,oB 45 .add 44 1,oS 8 45]
def kU :List zn:=[oZ 12]
def kT :List zn:=[oI 13 0]
def kS :List zn:=[oM 98 13,oF 99 2 0,oL 100 99 1,oD 101 .lss 98 100]
def kR :List zn:=[oM 104 5,oM 105 13,oX 106 104 105 1,oL 107 106 1,oM 108 13,oD 109 .neq 107 108]
def kQ :List zn:=[oZ 14]
def kP :List zn:=[oI 15 0]
def kO :List zn:=[oM 110 15,oF 111 2 0,oL 112 111 1,oD 113 .lss 110 112]
def kN :List zn:=[oM 116 5,oM 117 15,oX 118 116 117 1,oL 119 118 1,oM 120 13,oD 121 .eql 119 120]
def kM :List zn:=[oM 122 14,oM 123 15,(none,.blds 124 1 1 [((0,1),(.t 123,true))] [.int .i64 0]),(none,.app 125 (.t 122) (.t 124) 1 8),oS 14 125]
def xi :List zn:=[oM 114 15,oB 115 .add 114 1,oS 15 115]
def kL :List zn:=[oM 126 12,oM 127 14,(none,.blds 128 1 1 [((0,1),(.t 127,true))] [.slice none 0 0]),(none,.app 129 (.t 126) (.t 128) 1 24),oS 12 129]
def xh :List zn:=[oM 102 13,oB 103 .add 102 1,oS 13 103]
def kK :List zn:=[oM 130 12,oS 4 130]
def zY :List Nat:=[0,1,2,4,5,6,7,8,9,10,11,12,13,14,15,18,25,34,38,43,80,101,109,113,121]
def zhX :zC:=.seq (.reg [0,1,4,5,6,7,8,9,10,11,12,13,14,15,18,25,34,38,43,80,101,109,113,121] UV zY) (.seq (.seq (.reg [0,1,2,4,5,6,7,8,9,10,11,12,13,14,15,25,34,38,43,80,101,109,113,121] UU zY) (.cond (.t 18) (.seq (.reg zY zbB zY) .ret) .skip)) (.seq (.reg zY zbA zY) (.seq (.seq (.reg zY zbz zY) (.blk 0 (.loop (.seq (.seq (.reg [0,
 1,2,4,5,6,7,8,9,10,11,12,13,14,15,18,34,38,43,80,101,109,113,121] zby zY) (.cond (.t 25) .skip (.exit 0))) (.seq (.blk 1 (.seq (.reg zY zbx zY) (.seq (.reg [0,1,2,4,5,6,7,8,9,10,11,12,13,14,15,18,25,
 38,43,80,101,109,113,121] zbw zY) (.cond (.t 34) (.reg zY zbv zY) .skip)))) (.reg zY UT zY)))))) (.seq (.seq (.reg zY k9 zY) (.blk 2 (.loop (.seq (.seq (.reg [0,
 1,2,4,5,6,7,8,9,10,11,12,13,14,15,18,25,34,43,80,101,109,113,121] k8 zY) (.cond (.t 38) .skip (.exit 2))) (.blk 3 (.seq (.reg zY k7 zY) (.seq (.reg zY k0 zY) (.blk 4 (.loop (.seq (.seq (.reg [0,
 1,2,4,5,6,7,8,9,10,11,12,13,14,15,18,25,34,38,80,101,109,113,121] kZ zY) (.cond (.t 43) .skip (.exit 4))) (.seq (.blk 5 (.seq (.draw zY kY zY) (.seq (.seq (.draw [0,1,2,4,5,6,7,8,9,10,11,12,13,
 14,15,18,25,34,38,43,101,109,113,121] QE zY) (.cond (.t 80) (.exit 5) .skip)) (.seq (.draw zY kX zY) (.seq (.reg zY kW zY) (.reg zY kV zY)))))) (.reg zY QD zY)))))))))))) (.seq (.reg zY kU zY) (.seq (.seq (.reg zY kT zY) (.blk 6 (.loop (.seq (.seq (.reg [0,
 1,2,4,5,6,7,8,9,10,11,12,13,14,15,18,25,34,38,43,80,109,113,121] kS zY) (.cond (.t 101) .skip (.exit 6))) (.seq (.blk 7 (.seq (.seq (.reg [0,1,2,4,5,6,7,8,9,10,11,12,13,14,15,18,25,34,38,43,80,101,113,121] kR zY) (.cond (.t 109) (.exit 7) .skip)) (.seq (.reg zY kQ zY) (.seq (.seq (.reg zY kP zY) (.blk 8 (.loop (.seq (.seq (.reg [0,
 1,2,4,5,6,7,8,9,10,11,12,13,14,15,18,25,34,38,43,80,101,109,121] kO zY) (.cond (.t 113) .skip (.exit 8))) (.seq (.blk 9 (.seq (.reg [0,1,2,4,5,6,7,8,9,10,11,12,13,14,15,18,25,34,38,43,80,101,109,113] kN zY) (.cond (.t 121) (.reg zY kM zY) .skip))) (.reg zY xi zY)))))) (.reg zY kL zY))))) (.reg zY xh zY)))))) (.seq (.reg zY kK zY) .ret)))))))
abbrev zdK :Nat:=22
theorem zhm :jK Try.prog Try.f22.ntmps 2 [4] zY [(.tmp 4)] zhX zdK:=jU mix Try.func22 (by kernel_rfl) rfl
def zbu :List zn:=[(none,.box 1 (.t 0)),oO 2]
def Yc :List zn:=[oF 5 1 0,oL 6 5 1,oB 7 .lss 6 0,oM 8 7,(some (8,false),.r (.fldA 9 (.t 1) 0)),Qg 8 false 10 9 1,gI 8 false 11 .gtr 10 4096,oQ 12 8 11,oM 13 12,(some (13,false),.r (.fldA 14 (.t 1) 1)),Qg 13 false 15 14 1,(some (13,false),.r (.len 16 (.t 15))),gI 13 false 17 .gtr 16 65536,
 oQ 18 13 17]
def Ws :List zn:=[oO 2]
def zbt :List zn:=[oI 3 0]
def zbs :List zn:=[oM 19 3,oF 20 1 1,oL 21 20 1,oE 22 21,oD 23 .lss 19 22]
def zbr :List zn:=[oF 26 1 1,oL 27 26 1,oM 28 3,oX 29 27 28 2,oT 30 29 2,(none,.alloc 4 [.int .i64 0,.int .i64 0]),oW 4 30 2]
def Yb :List zn:=[oF 31 4 0,oL 32 31 1,oB 33 .lss 32 0,oM 34 33,(some (34,false),.r (.fldA 35 (.t 4) 0)),Qg 34 false 36 35 1,(some (34,false),.r (.fldA 37 (.t 4) 1)),Qg 34 false 38 37 1,Vm 34 false 39 .geq 36 38,oQ 40 34 39,oM 41 40,(some (41,false),.r (.fldA 42 (.t 4) 1)),
 Qg 41 false 43 42 1,(some (41,false),.r (.fldA 44 (.t 1) 0)),Qg 41 false 45 44 1,Vm 41 false 46 .geq 43 45,oQ 47 41 46]
def Wr :List zn:=[oO 2]
def US :Zi:=.take [1,2,3,4,5,6,7,8,9,10,11,12] (oM 48 3) (.take [2,3,4,5,6,7,8,9,10,11,12] (oB 49 .gtr 48 0) (.take [3,4,5,6,7,8,9,10,11,12] (oM 50 49) (.take [4,7,8,10,11,12] (some (50,true),.r (.fldA 51 (.t 1) 1)) (.take [7,8,10,11,12] (Qg 50 true 52 51 1) (.take [6,7,8,10,
 11,12] (oK 50 true 53 3) (.take [7,8,10,11,12] (gI 50 true 54 .sub 53 1) (.take [8,10,11,12] (some (50,true),.r (.idxA 55 (.t 52) (.t 54) 2)) (.take [10,11,12] (some (50,true),.r (.ld 56 (.t 55) 2 true)) (.take [10,11,12] (some (50,true),.r (.ld 57 (.t 4) 2 true)) (.one 10 (some (50,true),.call 58 (.f 37) [(.t 56,
 false),(.t 57,false)]) (.take [12] (some (50,true),.r (.notb 59 (.t 58))) (.take [] (oP 60 50 59) .done))))))))))))
def zbq :List zn:=[oO 2]
def xg :List zn:=[oM 24 3,oB 25 .add 24 1,oS 3 25]
def kJ :List zn:=[(none,.asg 2 (.c (.bool true)) true)]
def Jm :List Nat:=[0,1,2,3,4,18,23,47,60]
def zln :zC:=.seq (.reg [0,2,3,4,18,23,47,60] zbu Jm) (.seq (.seq (.reg [0,1,2,3,4,23,47,60] Yc Jm) (.cond (.t 18) (.seq (.reg Jm Ws Jm) .ret) .skip)) (.seq (.seq (.reg Jm zbt Jm) (.blk 0 (.loop (.seq (.seq (.reg [0,
 1,2,3,4,18,47,60] zbs Jm) (.cond (.t 23) .skip (.exit 0))) (.seq (.blk 1 (.seq (.reg [0,1,2,3,18,23,47,60] zbr Jm) (.seq (.seq (.reg [0,1,2,3,4,18,23,60] Yb Jm) (.cond (.t 47) (.seq (.reg Jm Wr Jm) .ret) .skip)) (.seq (.draw [0,
 1,2,3,4,18,23,47] US Jm) (.cond (.t 60) (.seq (.reg Jm zbq Jm) .ret) .skip))))) (.reg Jm xg Jm)))))) (.seq (.reg Jm kJ Jm) .ret)))
abbrev zkl :Nat:=23
theorem zmR :jK Try.prog Try.f23.ntmps 1 [2] Jm [(.tmp 2)] zln zkl:=jU mix Try.func23 (by kernel_rfl) rfl
def zbp :List zn:=[(none,.alloc 6 [.int .i64 0,.slice none 0 0])]
def zbo :List zn:=[oM 14 0,(none,.r (.conv 15 .u64 (.t 14))),(none,.r (.bin 16 .rem 0 (.t 15) (.c (.int .u64 300)))),(none,.r (.conv 17 .i64 (.t 16))),(none,.r (.bin 18 .add 0 (.c (.int .i64 3)) (.t 17))),oS 0 18]
def zbn :List zn:=[oM 19 1,(none,.r (.conv 20 .u64 (.t 19))),oM 21 0,(none,.r (.conv 22 .u64 (.t 21))),oD 23 .rem 20 22,(none,.r (.conv 24 .i64 (.t 23))),(none,.r (.bin 25 .add 0 (.c (.int .i64 2)) (.t 24))),oS 1 25]
def zbm :List zn:=[oZ 7]
def zbl :List zn:=[oM 26 0,(none,.bld 27 [((0,1),(.t 26,true))] [.int .i64 0,.slice none 0 0]),(none,.alloc 8 [.int .i64 0,.slice none 0 0]),oW 8 27 2]
def zbk :List zn:=[oI 9 0]
def UR :List zn:=[oM 28 9,oM 29 0,oD 30 .lss 28 29]
def zbj :List zn:=[oM 33 7,oM 34 9,oM 35 9,oB 36 .add 35 1,oM 37 0,oD 38 .rem 36 37,(none,.bld 39 [((0,1),(.t 34,true)),((1,1),(.t 38,true))] [.int .i64 0,.int .i64 0]),(none,.blds 40 1 2 [((0,2),(.t 39,true))] [.int .i64 0,.int .i64 0]),(none,.app 41 (.t 33) (.t 40) 2 16),oS 7 41]
def zbi :List zn:=[oM 31 9,oB 32 .add 31 1,oS 9 32]
def zbh :List zn:=[oI 10 0]
def xf :List zn:=[oM 42 10,oM 43 2,(none,.r (.conv 44 .u64 (.t 43))),(none,.r (.bin 45 .rem 0 (.t 44) (.c (.int .u64 60)))),(none,.r (.conv 46 .i64 (.t 45))),oD 47 .lss 42 46]
def kI :Zi:=.take [13,14] (oM 50 7) (.take [2,4,11,12,13,14] (oM 51 10) (.take [4,11,12,13,14] (oB 52 .mul 51 7) (.take [4,11,12,13,14] (oM 53 0) (.take [11,12,13,14] (oD 54 .rem 52 53) (.take [6,8,10,11,12,13,14] (oM 55 10) (.take [8,10,11,12,13,14] (oB 56 .mul 55 7) (.take [8,
 10,11,12,13,14] (oM 57 1) (.take [10,11,12,13,14] (oD 58 .add 56 57) (.take [10,11,12,13,14] (oM 59 0) (.take [11,12,13,14] (oD 60 .rem 58 59) (.one 11 (none,.bld 61 [((0,1),(.t 54,true)),((1,1),(.t 60,true))] [.int .i64 0,.int .i64 0]) (.one 12 (none,.blds 62 1 2 [((0,2),(.t 61,true))] [.int .i64 0,
 .int .i64 0]) (.one 13 (none,.app 63 (.t 50) (.t 62) 2 16) (.one 14 (oS 7 63) .done))))))))))))))
def kH :List zn:=[oM 48 10,oB 49 .add 48 1,oS 10 49]
def kG :List zn:=[oI 11 0]
def xe :List zn:=[oM 64 11,oM 65 7,oE 66 65,oD 67 .lss 64 66]
def kF :Zi:=.take [11,12,13,14,16,17] (oT 71 8 2) (.take [3,4,5,11,12,13,14,16,17] (oM 72 7) (.take [3,4,5,11,12,13,14,16,17] (oM 73 11) (.take [4,5,11,12,13,14,16,17] (oX 74 72 73 2) (.take [5,11,12,13,14,16,17] (oF 75 74 0) (.take [11,12,13,14,16,17] (oL 76 75 1) (.take [8,9,
 10,11,12,13,14,16,17] (oM 77 7) (.take [8,9,10,11,12,13,14,16,17] (oM 78 11) (.take [9,10,11,12,13,14,16,17] (oX 79 77 78 2) (.take [10,11,12,13,14,16,17] (oF 80 79 1) (.take [11,12,13,14,16,17] (oL 81 80 1) (.two 11 (oC3 82 28 71 76 81) (.take [13,14,16,17] (oM 70 82) (.take [16,17] (oY 83 70 0) (.take [17] (oY 84 70 1) (.one 15 (none,
 .alloc 12 [.int .i64 0,.slice none 0 0]) (.one 16 (oW 12 83 2) (.one 17 (oS 13 84) .done)))))) 15 (none,.alloc 12 [.int .i64 0,.slice none 0 0]) (.one 11 (oC3 82 28 71 76 81) (.take [13,14,16,17] (oM 70 82) (.take [16,17] (oY 83 70 0) (.take [17] (oY 84 70 1) (.one 16 (oW 12 83 2) (.one 17 (oS 13 84) .done)))))))))))))))))
def QC :List zn:=[oM 85 13,oB 86 .eql 85 0]
def xd :List zn:=[oT 87 12 2,oW 8 87 2]
def QB :List zn:=[oM 68 11,oB 69 .add 68 1,oS 11 69]
def kE :List zn:=[oT 88 8 2,oW 6 88 2]
def ZM :List Nat:=[0,1,2,6,7,8,9,10,11,12,13,30,47,67,86]
def zlm :zC:=.seq (.reg [0,1,2,7,8,9,10,11,12,13,30,47,67,86] zbp ZM) (.seq (.reg ZM zbo ZM) (.seq (.reg ZM zbn ZM) (.seq (.reg ZM zbm ZM) (.seq (.reg [0,
 1,2,6,7,9,10,11,12,13,30,47,67,86] zbl ZM) (.seq (.seq (.reg ZM zbk ZM) (.blk 0 (.loop (.seq (.seq (.reg [0,1,2,6,7,8,9,10,11,12,13,47,67,86] UR ZM) (.cond (.t 30) .skip (.exit 0))) (.seq (.blk 1 (.reg ZM zbj ZM)) (.reg ZM zbi ZM)))))) (.seq (.seq (.reg ZM zbh ZM) (.blk 2 (.loop (.seq (.seq (.reg [0,
 1,2,6,7,8,9,10,11,12,13,30,67,86] xf ZM) (.cond (.t 47) .skip (.exit 2))) (.seq (.blk 3 (.draw ZM kI ZM)) (.reg ZM kH ZM)))))) (.seq (.seq (.reg ZM kG ZM) (.blk 4 (.loop (.seq (.seq (.reg [0,
 1,2,6,7,8,9,10,11,12,13,30,47,86] xe ZM) (.cond (.t 67) .skip (.exit 4))) (.seq (.blk 5 (.seq (.draw [0,1,2,6,7,8,9,10,11,13,30,47,67,86] kF ZM) (.seq (.reg [0,1,2,6,7,8,9,10,11,12,13,30,47,67] QC ZM) (.cond (.t 86) (.reg ZM xd ZM) .skip)))) (.reg ZM QB ZM)))))) (.seq (.reg ZM kE ZM) .ret))))))))
abbrev zkk :Nat:=24
theorem zmQ :jK Try.prog Try.f24.ntmps 3 [] ZM [(.cell 6 2 true)] zlm zkk:=jU mix Try.func24 (by kernel_rfl) rfl
def zbg :List zn:=[(none,.box 1 (.t 0)),oZ 2,(none,.alloc 3 [.int .i64 0,.int .i64 0]),oI 4 0]
def zbf :List zn:=[oT 8 1 2,oC 9 38 8,(none,.r (.notb 10 (.t 9)))]
def zhW :List zn:=[(none,.bld 11 [] [.int .i64 0,.int .i64 0]),oZ 2,oW 3 11 2,oI 4 3]
def zbe :List zn:=[oT 12 1 2,oC 13 39 12,oS 5 13]
def UQ :List zn:=[oF 15 1 0,oL 16 15 1,oF 17 1 1,oL 18 17 1,qF 19 41 16 18,oM 20 5,qF 21 40 19 20,oM 14 21,oY 22 14 0,oY 23 14 1,(none,.alloc 7 [.int .i64 0,.int .i64 0]),oS 6 22,oW 7 23 2]
def UP :Zi:=.take [2,3,4] (oM 24 5) (.take [3,4] (oT 25 7 2) (.one 2 (oS 2 24) (.one 3 (oW 3 25 2) (.one 4 (oI 4 0) .done))))
def yl :List Nat:=[0,1,2,3,4,5,6,7,10]
def zll :zC:=.seq (.reg [0,2,4,5,6,7,10] zbg yl) (.seq (.seq (.reg [0,1,2,3,4,5,6,7] zbf yl) (.cond (.t 10) (.seq (.reg yl zhW yl) .ret) .skip)) (.seq (.reg yl zbe yl) (.seq (.reg [0,
 1,2,3,4,5,6,10] UQ yl) (.seq (.draw yl UP yl) .ret))))
abbrev zkj :Nat:=25
theorem zmP :jK Try.prog Try.f25.ntmps 1 [2,4] yl [(.tmp 2),(.cell 3 2 true),(.tmp 4)] zll zkj:=jU mix Try.func25 (by kernel_rfl) rfl
def zbd :List zn:=[(none,.box 3 (.t 0)),oO 6]
def zbc :List zn:=[oT 10 3 2,oM 11 2,qF 12 42 10 11,oM 9 12,oY 13 9 0,oY 14 9 1,oS 7 13,oS 8 14]
def Wq :Zi:=.take [2,3,4,5,6,7,8,9,10,11,12,13,14,15,16,17] (oT 15 3 2) (.take [2,3,4,5,6,7,8,9,10,11,12,13,14,15,16,17] (oM 16 1) (.one 2 (qF 17 43 15 16) (.take [4,5,6,7,8,9,10,11,12,13,14,15,16,17] (oM 18 17) (.take [5,6,7,8,9,10,11,12,13,14,15,16,17] (oK 18 true 19 8) (.take [6,
 7,8,9,10,11,12,13,14,15,16,17] (gI 18 true 20 .eql 19 0) (.take [7,8,9,10,11,12,13,14,15,16,17] (oP 21 18 20) (.take [8,9,10,11,12,13,14,15,16,17] (oM 22 21) (.take [9,10,15,16,17] (oK 22 true 23 1) (.take [12,14,15,16,17] (some (22,true),.r (.fldA 26 (.t 3) 0)) (.take [14,15,16,17] (Qg 22 true 27 26 1) (.take [14,
 15,16,17] (oK 22 true 28 7) (.take [15,16,17] (Vm 22 true 29 .sub 27 28) (.one 9 (some (22,true),.call 24 (.f 44) [(.t 23,false)]) (.take [15,16,17] (some (22,true),.r (.bin 25 .mul 0 (.c (.int .i64 2)) (.t 24))) (.take [16,17] (Vm 22 true 30 .eql 25 29) (.take [17] (oP 31 22 30) (.one 17 (oS 6 31) .done)))))))))))))))))
def Xg :List Nat:=[0,1,2,3,6,7,8]
def zlk :zC:=.seq (.reg [0,1,2,6,7,8] zbd Xg) (.seq (.reg Xg zbc Xg) (.seq (.draw Xg Wq Xg) .ret))
abbrev zdJ :Nat:=26
theorem zmO :jK Try.prog Try.f26.ntmps 3 [6] Xg [(.tmp 6)] zlk zdJ:=jU mix Try.func26 (by kernel_rfl) rfl
def zbb :List zn:=[oZ 2]
def zba :List zn:=[oZ 3]
def za9 :List zn:=[oI 4 0]
def UO :List zn:=[oM 5 4,oM 6 0,oE 7 6,oD 8 .lss 5 7]
def UN :List zn:=[oM 11 0,oM 12 4,oX 13 11 12 1,oL 14 13 1,(none,.r (.bin 15 .eql 0 (.t 14) (.c (.int .i64 (- (0+1))))))]
def za8 :List zn:=[oM 16 3,oM 17 4,(none,.blds 18 1 1 [((0,1),(.t 17,true))] [.int .i64 0]),(none,.app 19 (.t 16) (.t 18) 1 8),oS 3 19]
def UM :List zn:=[oM 9 4,oB 10 .add 9 1,oS 4 10]
def za7 :List zn:=[oM 20 3,oS 2 20]
def qe :List Nat:=[0,2,3,4,8,15]
def zlj :zC:=.seq (.reg qe zbb qe) (.seq (.reg qe zba qe) (.seq (.seq (.reg qe za9 qe) (.blk 0 (.loop (.seq (.seq (.reg [0,
 2,3,4,15] UO qe) (.cond (.t 8) .skip (.exit 0))) (.seq (.blk 1 (.seq (.reg [0,2,3,4,8] UN qe) (.cond (.t 15) (.reg qe za8 qe) .skip))) (.reg qe UM qe)))))) (.seq (.reg qe za7 qe) .ret)))
abbrev zki :Nat:=27
theorem zmN :jK Try.prog Try.f27.ntmps 1 [2] qe [(.tmp 2)] zlj zki:=jU mix Try.func27 (by kernel_rfl) rfl
def za6 :List zn:=[(none,.box 3 (.t 0)),(none,.alloc 6 [.int .i64 0,.slice none 0 0]),oI 7 0]
def za5 :List zn:=[oT 9 3 2,oC 10 23 9,(none,.r (.notb 11 (.t 10))),oS 8 11]
def zhV :List zn:=[(none,.bld 12 [] [.int .i64 0,.slice none 0 0]),oW 6 12 2,oI 7 3]
def Ya :List zn:=[oT 14 3 2,oM 15 1,qF 16 45 14 15,(none,.r (.notb 17 (.t 16))),oM 18 17,(some (18,false),.r (.ld 19 (.t 3) 2 true)),oK 18 false 20 2,(some (18,false),.call 21 (.f 45) [(.t 19,false),(.t 20,false)]),(some (18,false),.r (.notb 22 (.t 21))),oQ 23 18 22,oS 13 23]
def y9 :List zn:=[(none,.bld 24 [] [.int .i64 0,.slice none 0 0]),oW 6 24 2,oI 7 4]
def UL :List zn:=[oM 26 1,oM 27 2,oD 28 .eql 26 27,oS 25 28]
def za4 :List zn:=[(none,.bld 29 [] [.int .i64 0,.slice none 0 0]),oW 6 29 2,oI 7 5]
def za3 :List zn:=[oT 31 3 2,oM 32 1,oM 33 2,oC3 34 46 31 32 33,oS 30 34]
def za2 :List zn:=[(none,.bld 35 [] [.int .i64 0,.slice none 0 0]),oW 6 35 2,oI 7 6]
def UK :List zn:=[oF 37 3 1,oL 38 37 1,oE 39 38,oB 40 .geq 39 65536,oS 36 40]
def kD :List zn:=[(none,.bld 41 [] [.int .i64 0,.slice none 0 0]),oW 6 41 2,oI 7 8]
def kC :Zi:=.take [1,8,9,10] (oF 42 3 0) (.take [8,9,10] (oL 43 42 1) (.take [3,7,8,9,10] (oF 44 3 1) (.take [7,8,9,10] (oL 45 44 1) (.take [6,7,8,9,10] (oM 46 1) (.take [6,7,8,9,10] (oM 47 2) (.one 6 (qF 48 48 46 47) (.one 7 (qF 49 47 45 48) (.one 8 (none,.bld 50 [((0,1),(.t 43,
 true)),((1,1),(.t 49,true))] [.int .i64 0,.slice none 0 0]) (.one 9 (oW 6 50 2) (.one 10 (oI 7 0) .done))))))))))
def jv :List Nat:=[0,1,2,3,6,7,8,13,25,30,36]
def zli :zC:=.seq (.reg [0,1,2,7,8,13,25,30,36] za6 jv) (.seq (.blk 0 (.seq (.reg jv za5 jv) (.cond (.t 8) (.seq (.reg jv zhV jv) .ret) (.seq (.reg jv Ya jv) (.cond (.t 13) (.seq (.reg jv y9 jv) .ret) (.seq (.reg jv UL jv) (.cond (.t 25) (.seq (.reg jv za4 jv) .ret) (.seq (.reg jv za3 jv) (.cond (.t 30) (.seq (.reg jv za2 jv) .ret) (.seq (.reg jv UK jv) (.cond (.t 36) (.seq (.reg jv kD jv) .ret) .skip))))))))))) (.seq (.draw jv kC jv) .ret))
abbrev zkh :Nat:=28
theorem zmM :jK Try.prog Try.f28.ntmps 3 [7] jv [(.cell 6 2 true),(.tmp 7)] zli zkh:=jU mix Try.func28 (by kernel_rfl) rfl
def za1 :List zn:=[(none,.box 1 (.t 0)),oZ 2,oZ 3,oI 4 0]
def za0 :List zn:=[oT 11 1 2,oC 12 25 11,oM 10 12,oY 13 10 0,oY 14 10 1,oY 15 10 2,(none,.alloc 6 [.int .i64 0,.int .i64 0]),oS 5 13,oW 6 14 2,oS 7 15]
def UJ :List zn:=[oM 16 7,oB 17 .neq 16 0]
def zhU :List zn:=[oM 18 7,oZ 2,oZ 3,oS 4 18]
def UI :List zn:=[oT 20 1 2,oM 21 5,qF 22 49 20 21,oM 19 22,oY 23 19 0,oY 24 19 1,oY 25 19 2,oS 8 23,oS 9 24,oS 7 25]
def UH :List zn:=[oM 26 9,oM 27 5,oM 28 7,oS 2 26,oS 3 27,oS 4 28]
def yb :List Nat:=[0,1,2,3,4,5,7,8,9,17]
def zlh :zC:=.seq (.reg [0,2,3,4,5,7,8,9,17] za1 yb) (.seq (.reg yb za0 yb) (.seq (.seq (.reg [0,1,2,3,4,5,7,8,9] UJ yb) (.cond (.t 17) (.seq (.reg yb zhU yb) .ret) .skip)) (.seq (.reg yb UI yb) (.seq (.reg yb UH yb) .ret))))
abbrev zkg :Nat:=29
theorem zmL :jK Try.prog Try.f29.ntmps 1 [2,3,4] yb [(.tmp 2),(.tmp 3),(.tmp 4)] zlh zkg:=jU mix Try.func29 (by kernel_rfl) rfl
def zaZ :List zn:=[oZ 4]
def zaY :List zn:=[oM 5 0,oM 6 1,qF 7 50 5 6,oS 4 7]
def vL :List Nat:=[0,1,4]
def zlg :zC:=.seq (.reg vL zaZ vL) (.seq (.reg vL zaY vL) .ret)
abbrev zkf :Nat:=30
theorem zmK :jK Try.prog Try.f30.ntmps 2 [4] vL [(.tmp 4)] zlg zkf:=jU mix Try.func30 (by kernel_rfl) rfl
def zaX :List zn:=[oO 6]
def zaW :List zn:=[oM 8 0,oE 9 8,oM 10 1,oE 11 10,oD 12 .neq 9 11]
def zaV :List zn:=[oO 6]
def zaU :List zn:=[oI 7 0]
def zaT :List zn:=[oM 13 7,oM 14 0,oE 15 14,oD 16 .lss 13 15]
def zaS :Zi:=.take [9,10] (oM 19 2) (.take [3,4,9,10] (oM 20 0) (.take [3,4,9,10] (oM 21 7) (.take [4,9,10] (oX 22 20 21 1) (.take [9,10] (oL 23 22 1) (.take [7,8,9,10] (oM 24 1) (.take [7,8,9,10] (oM 25 7) (.take [8,9,10] (oX 26 24 25 1) (.take [9,10] (oL 27 26 1) (.one 9 (none,
 .call 28 (.t 19) [(.t 23,false),(.t 27,false)]) (.take [] (none,.r (.notb 29 (.t 28))) .done))))))))))
def zaR :List zn:=[oO 6]
def zaQ :List zn:=[oM 17 7,oB 18 .add 17 1,oS 7 18]
def zaP :List zn:=[(none,.asg 6 (.c (.bool true)) true)]
def J1 :List Nat:=[0,1,2,6,7,12,16,29]
def zlf :zC:=.seq (.reg J1 zaX J1) (.seq (.seq (.reg [0,1,2,6,7,16,29] zaW J1) (.cond (.t 12) (.seq (.reg J1 zaV J1) .ret) .skip)) (.seq (.seq (.reg J1 zaU J1) (.blk 0 (.loop (.seq (.seq (.reg [0,
 1,2,6,7,12,29] zaT J1) (.cond (.t 16) .skip (.exit 0))) (.seq (.blk 1 (.seq (.draw [0,1,2,6,7,12,16] zaS J1) (.cond (.t 29) (.seq (.reg J1 zaR J1) .ret) .skip))) (.reg J1 zaQ J1)))))) (.seq (.reg J1 zaP J1) .ret)))
abbrev zke :Nat:=32
theorem zmJ :jK Try.prog Try.f32.ntmps 3 [6] J1 [(.tmp 6)] zlf zke:=jU mix Try.func32 (by kernel_rfl) rfl
def zaO :List zn:=[oO 4]
def zaN :List zn:=[oM 5 0,oM 6 1,oD 7 .eql 5 6,oS 4 7]
def vK :List Nat:=[0,1,4]
def zle :zC:=.seq (.reg vK zaO vK) (.seq (.reg vK zaN vK) .ret)
abbrev zdI :Nat:=33
theorem zmI :jK Try.prog Try.f33.ntmps 2 [4] vK [(.tmp 4)] zle zdI:=jU mix Try.func33 (by kernel_rfl) rfl
def zaM :List zn:=[(none,.box 2 (.t 0)),oZ 4]
def zaL :List zn:=[oT 5 2 2,oC 6 38 5,(none,.r (.notb 7 (.t 6)))]
def zhT :List zn:=[oZ 4]
def zaK :List zn:=[oF 8 2 0,oL 9 8 1,oF 10 2 1,oL 11 10 1,qF 12 41 9 11,oM 13 1,qF 14 51 12 13,oS 4 14]
def xw :List Nat:=[0,1,2,4,7]
def zld :zC:=.seq (.reg [0,1,4,7] zaM xw) (.seq (.seq (.reg [0,1,2,4] zaL xw) (.cond (.t 7) (.seq (.reg xw zhT xw) .ret) .skip)) (.seq (.reg xw zaK xw) .ret))
abbrev zkd :Nat:=34
theorem zmH :jK Try.prog Try.f34.ntmps 2 [4] xw [(.tmp 4)] zld zkd:=jU mix Try.func34 (by kernel_rfl) rfl
def zaJ :List zn:=[oZ 2]
def zaI :List zn:=[oI 3 0]
def zaH :List zn:=[oM 9 0,oE 10 9,(none,.r (.mov 11 (.c (.int .i64 0))))]
def zaG :List zn:=[oD 12 .lss 11 10]
def UG :List zn:=[oX 13 9 11 1,oL 14 13 1,oS 5 14]
def UF :List zn:=[oM 15 3,oM 16 5,oE 17 16,oD 18 .add 15 17,oS 3 18]
def UE :List zn:=[oM 19 3,oB 20 .lss 19 0]
def zhS :List zn:=[(none,.bad (some 21)),(none,.bad none)]
def UD :List zn:=[oB 22 .add 11 1,oS 11 22]
def zaF :List zn:=[oM 23 3,(none,.call 24 (.f 52) [(.c (.slice none 0 0),false),(.t 23,false)]),oS 6 24]
def kB :List zn:=[oM 25 0,oE 26 25,(none,.r (.mov 27 (.c (.int .i64 0))))]
def kA :List zn:=[oD 28 .lss 27 26]
def xc :List zn:=[oX 29 25 27 1,oL 30 29 1,oS 8 30]
def xb :List zn:=[oM 31 6,oM 32 8,(none,.app 33 (.t 31) (.t 32) 1 8),oS 6 33]
def xa :List zn:=[oB 34 .add 27 1,oS 27 34]
def kz :List zn:=[oM 35 6,oS 2 35]
def Z7 :List Nat:=[0,2,3,5,6,8,9,10,11,12,20,25,26,27,28]
def zlc :zC:=.seq (.reg Z7 zaJ Z7) (.seq (.reg Z7 zaI Z7) (.seq (.seq (.reg [0,2,3,5,6,8,12,20,25,26,27,28] zaH Z7) (.blk 0 (.loop (.seq (.reg [0,
 2,3,5,6,8,9,10,11,20,25,26,27,28] zaG Z7) (.seq (.cond (.t 12) .skip (.exit 0)) (.seq (.blk 1 (.seq (.reg Z7 UG Z7) (.seq (.reg Z7 UF Z7) (.seq (.reg [0,
 2,3,5,6,8,9,10,11,12,25,26,27,28] UE Z7) (.cond (.t 20) (.reg Z7 zhS Z7) .skip))))) (.reg Z7 UD Z7))))))) (.seq (.reg Z7 zaF Z7) (.seq (.seq (.reg [0,
 2,3,5,6,8,9,10,11,12,20,28] kB Z7) (.blk 2 (.loop (.seq (.reg [0,2,3,5,6,8,9,10,11,12,20,25,26,27] kA Z7) (.seq (.cond (.t 28) .skip (.exit 2)) (.seq (.blk 3 (.seq (.reg Z7 xc Z7) (.reg Z7 xb Z7))) (.reg Z7 xa Z7))))))) (.seq (.reg Z7 kz Z7) .ret)))))
abbrev zgO :Nat:=35
theorem zmG :jK Try.prog Try.f35.ntmps 1 [2] Z7 [(.tmp 2)] zlc zgO:=jU mix Try.func35 (by kernel_rfl) rfl
def zaE :List zn:=[(none,.box 2 (.t 0)),(none,.box 3 (.t 1)),oO 4]
def Wp :List zn:=[oF 5 2 0,oL 6 5 1,oF 7 3 0,oL 8 7 1,oD 9 .lss 6 8,oM 10 9,(some (10,false),.r (.fldA 11 (.t 2) 0)),Qg 10 false 12 11 1,(some (10,false),.r (.fldA 13 (.t 3) 0)),Qg 10 false 14 13 1,Vm 10 false 15 .eql 12 14,oK 10 false 16 15,(some (16,true),.r (.fldA 17 (.t 2) 1)),
 Qg 16 true 18 17 1,(some (16,true),.r (.fldA 19 (.t 3) 1)),Qg 16 true 20 19 1,Vm 16 true 21 .lss 18 20,(some (10,false),.r (.pick 22 (.t 16) (.t 21) (.c (.bool false)))),oQ 23 10 22,oS 4 23]
def K5 :List Nat:=[0,1,2,3,4]
def zlb :zC:=.seq (.reg [0,1,4] zaE K5) (.seq (.reg K5 Wp K5) .ret)
abbrev zkc :Nat:=37
theorem zmF :jK Try.prog Try.f37.ntmps 2 [4] K5 [(.tmp 4)] zlb zkc:=jU mix Try.func37 (by kernel_rfl) rfl
def zaD :List zn:=[(none,.box 1 (.t 0)),oO 2]
def y8 :List zn:=[oF 6 1 0,oL 7 6 1,oB 8 .lss 7 0,oM 9 8,(some (9,false),.r (.fldA 10 (.t 1) 0)),Qg 9 false 11 10 1,gI 9 false 12 .gtr 11 4096,oQ 13 9 12,oM 14 13,(some (14,false),.r (.fldA 15 (.t 1) 1)),Qg 14 false 16 15 1,(some (14,false),.r (.len 17 (.t 16))),gI 14 false 18 .gtr 17 65536,
 oQ 19 14 18]
def Wo :List zn:=[oO 2]
def zaC :List zn:=[(none,.bld 20 [] []),(none,.mkfn 21 (.func 53) [(.t 20,false)] []),oS 3 21]
def zaB :List zn:=[oF 22 1 1,oL 23 22 1,oE 24 23,(none,.r (.mov 25 (.c (.int .i64 0))))]
def zaA :List zn:=[oD 26 .lss 25 24]
def zaz :List zn:=[oM 27 25,oX 28 23 25 2,oT 29 28 2,(none,.alloc 5 [.int .i64 0,.int .i64 0]),oS 4 27,oW 5 29 2]
def QA :Zi:=.take [1,2,3,4,5,6,7,8,9,10,11,12,13,14,15,16,17,18,19,20,21,22,23,24,25,26,27,28,29,30,31,32] (oF 30 5 0) (.take [2,3,4,5,6,7,8,9,10,11,12,13,14,15,16,17,18,19,20,21,22,23,24,25,26,27,28,29,30,31,32] (oL 31 30 1) (.take [3,4,5,6,7,8,9,10,11,12,13,14,15,16,17,18,19,20,21,
 22,23,24,25,26,27,28,29,30,31,32] (oB 32 .lss 31 0) (.take [4,5,6,7,8,9,10,11,12,13,14,15,16,17,18,19,20,21,22,23,24,25,26,27,28,29,30,31,32] (oM 33 32) (.take [5,8,9,10,11,12,13,14,15,16,17,18,19,20,21,22,23,24,25,26,27,28,29,30,31,32] (some (33,false),.r (.fldA 34 (.t 5) 0)) (.take [8,9,10,11,12,13,
 14,15,16,17,18,19,20,21,22,23,24,25,26,27,28,29,30,31,32] (Qg 33 false 35 34 1) (.take [7,8,9,10,11,12,13,14,15,16,17,18,19,20,21,22,23,24,25,26,27,28,29,30,31,32] (some (33,false),.r (.fldA 36 (.t 5) 1)) (.take [8,9,10,11,12,13,14,15,16,17,18,19,20,21,22,23,24,25,26,27,28,29,30,31,32] (Qg 33 false 37 36 1) (.take [9,
 10,11,12,13,14,15,16,17,18,19,20,21,22,23,24,25,26,27,28,29,30,31,32] (Vm 33 false 38 .geq 35 37) (.take [10,11,12,13,14,15,16,17,18,19,20,21,22,23,24,25,26,27,28,29,30,31,32] (oQ 39 33 38) (.take [11,12,13,14,15,16,17,18,19,20,21,22,23,24,25,26,27,28,29,30,31,32] (oM 40 39) (.take [12,15,16,17,18,19,
 20,21,22,23,24,25,26,27,28,29,30,31,32] (some (40,false),.r (.fldA 41 (.t 5) 1)) (.take [15,16,17,18,19,20,21,22,23,24,25,26,27,28,29,30,31,32] (Qg 40 false 42 41 1) (.take [14,15,16,17,18,19,20,21,22,23,24,25,26,27,28,29,30,31,32] (some (40,false),.r (.fldA 43 (.t 1) 0)) (.take [15,16,17,18,19,20,21,
 22,23,24,25,26,27,28,29,30,31,32] (Qg 40 false 44 43 1) (.take [16,17,18,19,20,21,22,23,24,25,26,27,28,29,30,31,32] (Vm 40 false 45 .geq 42 44) (.take [17,18,19,20,21,22,23,24,25,26,27,28,29,30,31,32] (oQ 46 40 45) (.take [18,19,20,21,22,23,24,25,26,27,28,29,30,31,32] (oM 47 46) (.take [19,20,21,22,
 23,24,25,26,27,28,29,30,31,32] (oK 47 false 48 4) (.take [20,21,22,23,24,25,26,27,28,29,30,31,32] (gI 47 false 49 .gtr 48 0) (.take [21,22,23,24,25,26,27,28,29,30,31,32] (oK 47 false 50 49) (.take [29,30,31,32] (oK 50 true 51 3) (.take [23,26,27,29,30,31,32] (some (50,true),.r (.fldA 52 (.t 1) 1)) (.take [26,
 27,29,30,31,32] (Qg 50 true 53 52 1) (.take [25,26,27,29,30,31,32] (oK 50 true 54 4) (.take [26,27,29,30,31,32] (gI 50 true 55 .sub 54 1) (.take [27,29,30,31,32] (some (50,true),.r (.idxA 56 (.t 53) (.t 55) 2)) (.take [29,30,31,32] (some (50,true),.r (.ld 57 (.t 56) 2 true)) (.take [29,30,31,32] (some (50,
 true),.r (.ld 58 (.t 5) 2 true)) (.one 29 (some (50,true),.call 59 (.t 51) [(.t 57,false),(.t 58,false)]) (.take [31,32] (gI 50 true 60 .geq 59 0) (.take [32] (some (47,false),.r (.pick 61 (.t 50) (.t 60) (.c (.bool false)))) (.take [] (oQ 62 47 61) .done))))))))))))))))))))))))))))))))
def y7 :List zn:=[oO 2]
def UC :List zn:=[oB 63 .add 25 1,oS 25 63]
def ky :List zn:=[(none,.asg 2 (.c (.bool true)) true)]
def JN :List Nat:=[0,1,2,3,4,5,19,23,24,25,26,62]
def zla :zC:=.seq (.reg [0,2,3,4,5,19,23,24,25,26,62] zaD JN) (.seq (.seq (.reg [0,1,2,3,4,5,23,24,25,26,62] y8 JN) (.cond (.t 19) (.seq (.reg JN Wo JN) .ret) .skip)) (.seq (.reg JN zaC JN) (.seq (.seq (.reg [0,
 1,2,3,4,5,19,26,62] zaB JN) (.blk 0 (.loop (.seq (.reg [0,1,2,3,4,5,19,23,24,25,62] zaA JN) (.seq (.cond (.t 26) .skip (.exit 0)) (.seq (.blk 1 (.seq (.reg [0,1,2,3,4,19,23,24,25,26,62] zaz JN) (.seq (.draw [0,1,2,3,4,5,19,23,24,
 25,26] QA JN) (.cond (.t 62) (.seq (.reg JN y7 JN) .ret) .skip)))) (.reg JN UC JN))))))) (.seq (.reg JN ky JN) .ret))))
abbrev zkb :Nat:=38
theorem zmE :jK Try.prog Try.f38.ntmps 1 [2] JN [(.tmp 2)] zla zkb:=jU mix Try.func38 (by kernel_rfl) rfl
def zay :List zn:=[(none,.box 1 (.t 0)),oZ 2]
def zax :List zn:=[oT 8 1 2,oC 9 54 8,(none,.bld 10 [((0,1),(.t 9,true))] [.slice none 0 0]),(none,.alloc 3 [.slice none 0 0]),oW 3 10 1]
def UB :List zn:=[oF 11 3 0,oL 12 11 1,oE 13 12,oB 14 .eql 13 0]
def zaw :List zn:=[oZ 2]
def zav :List zn:=[oF 15 1 0,oL 16 15 1,oF 17 1 1,oL 18 17 1,qF 19 41 16 18,oS 4 19]
def zau :List zn:=[oF 20 3 0,oL 21 20 1,oE 22 21,(none,.r (.mov 23 (.c (.int .i64 0))))]
def UA :List zn:=[oD 24 .lss 23 22]
def zat :List zn:=[oM 25 23,oS 5 25]
def Uz :List zn:=[oT 26 3 1,oM 27 5,qF 28 55 26 27,(none,.r (.notb 29 (.t 28)))]
def zas :Zi:=.take [2,3,6,7] (oM 30 4) (.take [2,3,6,7] (oM 31 5) (.take [3,6,7] (oX 32 30 31 1) (.take [6,7] (oL 33 32 1) (.take [5,6,7] (oT 34 3 1) (.one 5 (none,.mkfn 35 (.func 55) [(.t 34,false)] []) (.one 6 (qF 36 56 33 35) (.one 7 (oS 6 36) .done)))))))
def W9 :List zn:=[oM 37 6,oB 38 .geq 37 0]
def kx :List zn:=[oM 39 4,oM 40 5,oX 41 39 40 1,oL 42 41 1,oM 43 6,oX 44 42 43 1,oL 45 44 1,oS 7 45]
def kw :Zi:=.take [1,8,9,10,11] (oF 46 3 0) (.take [8,9,10,11] (oL 47 46 1) (.take [8,9,10,11] (oM 48 5) (.take [4,10,11] (oF 49 3 0) (.take [10,11] (oL 50 49 1) (.take [10,11] (oM 51 7) (.take [8,9,10,11] (oM 52 7) (.take [10,11] (oM 53 5) (.take [9,10,11] (oX 54 47 48 1) (.one 9 (oW 54 52 1) (.take [11] (oX 55 50 51 1) (.one 11 (oW 55 53 1) .done)))))))))))
def Yy :List zn:=[oB 56 .add 23 1,oS 23 56]
def ku :List zn:=[oF 57 3 0,oL 58 57 1,oS 2 58]
def ju :List Nat:=[0,1,2,3,4,5,6,7,14,22,23,24,29,38]
def zk9 :zC:=.seq (.reg [0,2,3,4,5,6,7,14,22,23,24,29,38] zay ju) (.seq (.reg [0,1,2,4,5,6,7,14,22,23,24,29,38] zax ju) (.seq (.seq (.reg [0,1,2,3,4,5,6,7,22,23,24,29,38] UB ju) (.cond (.t 14) (.seq (.reg ju zaw ju) .ret) .skip)) (.seq (.reg ju zav ju) (.seq (.seq (.reg [0,
 1,2,3,4,5,6,7,14,24,29,38] zau ju) (.blk 0 (.loop (.seq (.reg [0,1,2,3,4,5,6,7,14,22,23,29,38] UA ju) (.seq (.cond (.t 24) .skip (.exit 0)) (.seq (.blk 1 (.seq (.reg ju zat ju) (.seq (.seq (.reg [0,1,2,3,4,5,6,
 7,14,22,23,24,38] Uz ju) (.cond (.t 29) (.exit 1) .skip)) (.seq (.draw ju zas ju) (.seq (.reg [0,1,2,3,4,5,6,7,14,22,23,24,29] W9 ju) (.cond (.t 38) (.seq (.reg ju kx ju) (.draw ju kw ju)) .skip)))))) (.reg ju Yy ju))))))) (.seq (.reg ju ku ju) .ret)))))
abbrev zka :Nat:=39
theorem zmD :jK Try.prog Try.f39.ntmps 1 [2] ju [(.tmp 2)] zk9 zka:=jU mix Try.func39 (by kernel_rfl) rfl
def Uy :List zn:=[oZ 4,(none,.alloc 5 [.int .i64 0,.int .i64 0])]
def Ux :List zn:=[(none,.alloc 6 [.int .i64 0,.int .i64 0])]
def Uw :List zn:=[oM 11 0,oM 12 1,qF 13 57 11 12,oM 10 13,oY 14 10 0,oY 15 10 1,oY 16 10 2,oS 7 14,oS 8 15,oS 9 16]
def Wn :List zn:=[oF 17 6 0,oL 18 17 1,oB 19 .add 18 1,oF 20 6 1,oL 21 20 1,oM 22 9,(none,.r (.mm 23 true (.t 21) (.t 22))),(none,.bld 24 [((0,1),(.t 19,true)),((1,1),(.t 23,true))] [.int .i64 0,.int .i64 0]),oW 6 24 2]
def Wm :List zn:=[oM 25 7,(none,.r (.bin 26 .eql 3 (.t 25) (.c (.slice none 0 0))))]
def Uv :Zi:=.take [2,3] (oM 27 8) (.take [3] (oT 28 6 2) (.one 2 (oS 4 27) (.one 3 (oW 5 28 2) .done)))
def zar :List zn:=[oM 29 1,oM 30 7,qF 31 58 29 30]
def qL :List Nat:=[0,1,4,5,6,7,8,9,26]
def zhR :zC:=.seq (.reg [0,1,4,6,7,8,9,26] Uy qL) (.seq (.reg [0,1,4,5,7,8,9,26] Ux qL) (.blk 0 (.loop (.blk 1 (.seq (.reg qL Uw qL) (.seq (.reg qL Wn qL) (.seq (.seq (.reg [0,
 1,4,5,6,7,8,9] Wm qL) (.cond (.t 26) (.seq (.draw qL Uv qL) .ret) .skip)) (.reg qL zar qL))))))))
abbrev zgN :Nat:=40
theorem zhl :jK Try.prog Try.f40.ntmps 2 [4] qL [(.tmp 4),(.cell 5 2 true)] zhR zgN:=jU mix Try.func40 (by kernel_rfl) rfl
def zaq :List zn:=[oZ 4]
def zap :List zn:=[oM 10 0,(none,.mk 11 (.t 10) (.t 10) 1 24 [.slice none 0 0]),oS 5 11]
def zao :List zn:=[oM 12 1,oE 13 12,(none,.r (.mov 14 (.c (.int .i64 0))))]
def zan :List zn:=[oD 15 .lss 14 13]
def zam :List zn:=[oX 16 12 14 2,oT 17 16 2,(none,.alloc 7 [.int .i64 0,.int .i64 0]),oW 7 17 2]
def zal :Zi:=.take [12,13] (oM 18 5) (.take [2,12,13] (oF 19 7 1) (.take [12,13] (oL 20 19 1) (.take [6,7,11,12,13] (oM 21 5) (.take [5,6,7,11,12,13] (oF 22 7 1) (.take [6,7,11,12,13] (oL 23 22 1) (.take [7,11,12,13] (oX 24 21 23 1) (.take [11,12,13] (oL 25 24 1) (.take [9,10,11,12,13] (oF 26 7 0) (.take [10,
 11,12,13] (oL 27 26 1) (.one 10 (none,.blds 28 1 1 [((0,1),(.t 27,true))] [.int .i64 0]) (.one 11 (none,.app 29 (.t 25) (.t 28) 1 8) (.take [13] (oX 30 18 20 1) (.one 13 (oW 30 29 1) .done)))))))))))))
def zak :List zn:=[oB 31 .add 14 1,oS 14 31]
def zaj :List zn:=[oM 32 1,oE 33 32,(none,.r (.mov 34 (.c (.int .i64 0))))]
def zai :List zn:=[oD 35 .lss 34 33]
def zah :List zn:=[oX 36 32 34 2,oT 37 36 2,(none,.alloc 9 [.int .i64 0,.int .i64 0]),oW 9 37 2]
def kr :Zi:=.take [12,13] (oM 38 5) (.take [2,12,13] (oF 39 9 0) (.take [12,13] (oL 40 39 1) (.take [6,7,11,12,13] (oM 41 5) (.take [5,6,7,11,12,13] (oF 42 9 0) (.take [6,7,11,12,13] (oL 43 42 1) (.take [7,11,12,13] (oX 44 41 43 1) (.take [11,12,13] (oL 45 44 1) (.take [9,10,11,12,
 13] (oF 46 9 1) (.take [10,11,12,13] (oL 47 46 1) (.one 10 (none,.blds 48 1 1 [((0,1),(.t 47,true))] [.int .i64 0]) (.one 11 (none,.app 49 (.t 45) (.t 48) 1 8) (.take [13] (oX 50 38 40 1) (.one 13 (oW 50 49 1) .done)))))))))))))
def kq :List zn:=[oB 51 .add 34 1,oS 34 51]
def kp :List zn:=[oM 52 5,oS 4 52]
def j0 :List Nat:=[0,1,4,5,7,9,12,13,14,15,32,33,34,35]
def zk8 :zC:=.seq (.reg j0 zaq j0) (.seq (.reg j0 zap j0) (.seq (.seq (.reg [0,1,4,5,7,9,15,32,33,34,35] zao j0) (.blk 0 (.loop (.seq (.reg [0,1,4,5,7,9,12,13,14,32,33,34,35] zan j0) (.seq (.cond (.t 15) .skip (.exit 0)) (.seq (.blk 1 (.seq (.reg [0,
 1,4,5,9,12,13,14,15,32,33,34,35] zam j0) (.draw j0 zal j0))) (.reg j0 zak j0))))))) (.seq (.seq (.reg [0,1,4,5,7,9,12,13,14,15,35] zaj j0) (.blk 2 (.loop (.seq (.reg [0,1,4,5,7,9,12,13,
 14,15,32,33,34] zai j0) (.seq (.cond (.t 35) .skip (.exit 2)) (.seq (.blk 3 (.seq (.reg [0,1,4,5,7,12,13,14,15,32,33,34,35] zah j0) (.draw j0 kr j0))) (.reg j0 kq j0))))))) (.seq (.reg j0 kp j0) .ret))))
abbrev zj9 :Nat:=41
theorem zmC :jK Try.prog Try.f41.ntmps 2 [4] j0 [(.tmp 4)] zk8 zj9:=jU mix Try.func41 (by kernel_rfl) rfl
def Uu :List zn:=[(none,.box 2 (.t 0)),oI 4 0,oI 5 0]
def Ut :List zn:=[oT 8 2 2,oC 9 23 8,(none,.r (.notb 10 (.t 9)))]
def zag :List zn:=[oI 4 0,oI 5 3]
def zaf :List zn:=[oI 6 0]
def Us :List zn:=[oM 11 6,oM 12 1,oE 13 12,oD 14 .lss 11 13]
def Ur :Zi:=.take [5,6] (oT 17 2 2) (.take [3,4,5,6] (oM 18 1) (.take [3,4,5,6] (oM 19 6) (.take [4,5,6] (oX 20 18 19 1) (.take [5,6] (oL 21 20 1) (.one 5 (qF 22 45 17 21) (.take [] (none,.r (.notb 23 (.t 22))) .done))))))
def zae :List zn:=[oI 4 0,oI 5 4]
def zad :List zn:=[oM 15 6,oB 16 .add 15 1,oS 6 16]
def zac :List zn:=[oI 7 0]
def Uq :List zn:=[oM 24 7,oM 25 1,oE 26 25,oD 27 .lss 24 26]
def W8 :Zi:=.take [2,7] (oM 30 1) (.take [2,7] (oM 31 7) (.take [5,6,7] (oM 33 1) (.take [5,6,7] (oM 34 7) (.take [6,7] (oX 35 33 34 1) (.take [7] (oL 36 35 1) (.one 2 (none,.slc 32 (.t 30) none (some (.t 31)) 1) (.one 7 (qF 37 13 32 36) .done)))))))
def ko :List zn:=[oI 4 0,oI 5 6]
def kn :List zn:=[oM 28 7,oB 29 .add 28 1,oS 7 29]
def km :List zn:=[oT 38 2 2,oM 39 1,qF 40 59 38 39,oM 41 1,oE 42 41,oD 43 .sub 40 42,oS 4 43,oI 5 0]
def jt :List Nat:=[0,1,2,4,5,6,7,10,14,23,27,37]
def zhQ :zC:=.seq (.reg [0,1,4,5,6,7,10,14,23,27,37] Uu jt) (.seq (.seq (.reg [0,1,2,4,5,6,7,14,23,27,37] Ut jt) (.cond (.t 10) (.seq (.reg jt zag jt) .ret) .skip)) (.seq (.seq (.reg jt zaf jt) (.blk 0 (.loop (.seq (.seq (.reg [0,
 1,2,4,5,6,7,10,23,27,37] Us jt) (.cond (.t 14) .skip (.exit 0))) (.seq (.blk 1 (.seq (.draw [0,1,2,4,5,6,7,10,14,27,37] Ur jt) (.cond (.t 23) (.seq (.reg jt zae jt) .ret) .skip))) (.reg jt zad jt)))))) (.seq (.seq (.reg jt zac jt) (.blk 2 (.loop (.seq (.seq (.reg [0,
 1,2,4,5,6,7,10,14,23,37] Uq jt) (.cond (.t 27) .skip (.exit 2))) (.seq (.blk 3 (.seq (.draw [0,1,2,4,5,6,7,10,14,23,27] W8 jt) (.cond (.t 37) (.seq (.reg jt ko jt) .ret) .skip))) (.reg jt kn jt)))))) (.seq (.reg jt km jt) .ret))))
abbrev zj8 :Nat:=42
theorem zhk :jK Try.prog Try.f42.ntmps 2 [4,5] jt [(.tmp 4),(.tmp 5)] zhQ zj8:=jU mix Try.func42 (by kernel_rfl) rfl
def Up :List zn:=[(none,.box 2 (.t 0)),oO 4]
def Wl :List zn:=[oT 7 2 2,oC 8 23 7,(none,.r (.notb 9 (.t 8))),oM 10 9,oK 10 false 11 1,(some (10,false),.r (.len 12 (.t 11))),(some (10,false),.r (.fldA 13 (.t 2) 0)),Qg 10 false 14 13 1,Vm 10 false 15 .neq 12 14,oQ 16 10 15]
def Uo :List zn:=[oO 4]
def zab :List zn:=[oI 5 0]
def Un :List zn:=[oM 17 5,oF 18 2 0,oL 19 18 1,oD 20 .lss 17 19]
def zaa :List zn:=[oM 23 1,oM 24 5,oX 25 23 24 1,oL 26 25 1,oS 6 26]
def y6 :List zn:=[oM 27 6,(none,.r (.bin 28 .neq 0 (.t 27) (.c (.int .i64 (- (0+1)))))),oM 29 28,(some (29,true),.r (.ld 30 (.t 2) 2 true)),oK 29 true 31 5,oK 29 true 32 6,(some (29,true),.call 33 (.f 46) [(.t 30,false),(.t 31,false),(.t 32,false)]),(some (29,true),.r (.notb 34 (.t 33))),
 oK 29 true 35 34,oK 35 false 36 1,oK 35 false 37 6,(some (35,false),.r (.idxA 38 (.t 36) (.t 37) 1)),Qg 35 false 39 38 1,oK 35 false 40 5,Vm 35 false 41 .neq 39 40,(some (29,true),.r (.pick 42 (.t 35) (.c (.bool true)) (.t 41))),oP 43 29 42]
def Um :List zn:=[oO 4]
def Ul :List zn:=[oM 21 5,oB 22 .add 21 1,oS 5 22]
def O9 :List zn:=[(none,.asg 4 (.c (.bool true)) true)]
def Jy :List Nat:=[0,1,2,4,5,6,16,20,43]
def zhP :zC:=.seq (.reg [0,1,4,5,6,16,20,43] Up Jy) (.seq (.seq (.reg [0,1,2,4,5,6,20,43] Wl Jy) (.cond (.t 16) (.seq (.reg Jy Uo Jy) .ret) .skip)) (.seq (.seq (.reg Jy zab Jy) (.blk 0 (.loop (.seq (.seq (.reg [0,
 1,2,4,5,6,16,43] Un Jy) (.cond (.t 20) .skip (.exit 0))) (.seq (.blk 1 (.seq (.reg Jy zaa Jy) (.seq (.reg [0,1,2,4,5,6,16,20] y6 Jy) (.cond (.t 43) (.seq (.reg Jy Um Jy) .ret) .skip)))) (.reg Jy Ul Jy)))))) (.seq (.reg Jy O9 Jy) .ret)))
abbrev zdH :Nat:=43
theorem zhj :jK Try.prog Try.f43.ntmps 2 [4] Jy [(.tmp 4)] zhP zdH:=jU mix Try.func43 (by kernel_rfl) rfl
def O8 :List zn:=[oI 2 0]
def O7 :List zn:=[oM 3 0,oC 4 60 3,oE 5 4,oS 2 5]
def vJ :List Nat:=[0,2]
def zk7 :zC:=.seq (.reg vJ O8 vJ) (.seq (.reg vJ O7 vJ) .ret)
abbrev zj7 :Nat:=44
theorem zmB :jK Try.prog Try.f44.ntmps 1 [2] vJ [(.tmp 2)] zk7 zj7:=jU mix Try.func44 (by kernel_rfl) rfl
def O6 :List zn:=[(none,.box 2 (.t 0)),oO 4]
def Uk :List zn:=[oM 5 1,oB 6 .geq 5 0,oM 7 6,oK 7 true 8 1,(some (7,true),.r (.fldA 9 (.t 2) 0)),Qg 7 true 10 9 1,Vm 7 true 11 .lss 8 10,oP 12 7 11,oS 4 12]
def K4 :List Nat:=[0,1,2,4]
def zk6 :zC:=.seq (.reg [0,1,4] O6 K4) (.seq (.reg K4 Uk K4) .ret)
abbrev zj6 :Nat:=45
theorem zmA :jK Try.prog Try.f45.ntmps 2 [4] K4 [(.tmp 4)] zk6 zj6:=jU mix Try.func45 (by kernel_rfl) rfl
def O5 :List zn:=[(none,.box 3 (.t 0)),oO 6]
def O4 :List zn:=[oT 7 3 2,oM 8 1,oM 9 2,oC3 10 61 7 8 9,oB 11 .geq 10 0,oS 6 11]
def K3 :List Nat:=[0,1,2,3,6]
def zk5 :zC:=.seq (.reg [0,1,2,6] O5 K3) (.seq (.reg K3 O4 K3) .ret)
abbrev zj5 :Nat:=46
theorem zmz :jK Try.prog Try.f46.ntmps 3 [6] K3 [(.tmp 6)] zk5 zj5:=jU mix Try.func46 (by kernel_rfl) rfl
def O2 :List zn:=[(none,.box 3 (.t 1)),oZ 4]
def O1 :List zn:=[oM 6 0,oE 7 6,oS 5 7]
def Uj :Zi:=.take [1,2,3,4,5,6,7,8,9,10] (oM 8 5) (.take [2,3,4,5,6,7,8,9,10] (oB 9 .gtr 8 0) (.take [3,4,5,6,7,8,9,10] (oM 10 9) (.take [9,10] (some (10,true),.r (.ld 11 (.t 3) 2 true)) (.take [7,8,9,10] (oK 10 true 12 0) (.take [6,7,8,9,10] (oK 10 true 13 5) (.take [7,8,9,10] (gI 10 true 14 .sub 13 1) (.take [8,
 9,10] (some (10,true),.r (.idxA 15 (.t 12) (.t 14) 2)) (.take [9,10] (some (10,true),.r (.ld 16 (.t 15) 2 true)) (.one 9 (some (10,true),.call 17 (.f 37) [(.t 11,false),(.t 16,false)]) (.take [] (oP 18 10 17) .done))))))))))
def OZ :List zn:=[oM 19 5,oB 20 .sub 19 1,oS 5 20]
def OY :Zi:=.take [2,3,6,10,11] (oM 21 0) (.take [2,3,6,10,11] (oM 22 5) (.take [5,6,10,11] (oT 25 3 2) (.take [9,10,11] (oM 28 0) (.take [9,10,11] (oM 29 5) (.three 2 (none,.slc 23 (.t 21) none (some (.t 22)) 2) (.three 3 (none,.app 24 (.c (.slice none 0 0)) (.t 23) 2 16) (.two 5 (none,
 .blds 26 1 2 [((0,2),(.t 25,true))] [.int .i64 0,.int .i64 0]) (.two 6 (none,.app 27 (.t 24) (.t 26) 2 16) (.one 9 (none,.slc 30 (.t 28) (some (.t 29)) none 2) (.one 10 (none,.app 31 (.t 27) (.t 30) 2 16) (.one 11 (oS 4 31) .done))) 9 (none,.slc 30 (.t 28) (some (.t 29)) none 2) (.one 6 (none,.app 27 (.t 24) (.t 26) 2 16) (.one 10 (none,
 .app 31 (.t 27) (.t 30) 2 16) (.one 11 (oS 4 31) .done)))) 9 (none,.slc 30 (.t 28) (some (.t 29)) none 2) (.one 5 (none,.blds 26 1 2 [((0,2),(.t 25,true))] [.int .i64 0,.int .i64 0]) (.one 6 (none,.app 27 (.t 24) (.t 26) 2 16) (.one 10 (none,.app 31 (.t 27) (.t 30) 2 16) (.one 11 (oS 4 31) .done))))) 5 (none,
 .blds 26 1 2 [((0,2),(.t 25,true))] [.int .i64 0,.int .i64 0]) (.two 3 (none,.app 24 (.c (.slice none 0 0)) (.t 23) 2 16) (.two 6 (none,.app 27 (.t 24) (.t 26) 2 16) (.one 9 (none,.slc 30 (.t 28) (some (.t 29)) none 2) (.one 10 (none,.app 31 (.t 27) (.t 30) 2 16) (.one 11 (oS 4 31) .done))) 9 (none,.slc 30 (.t 28) (some (.t 29)) none 2) (.one 6 (none,
 .app 27 (.t 24) (.t 26) 2 16) (.one 10 (none,.app 31 (.t 27) (.t 30) 2 16) (.one 11 (oS 4 31) .done)))) 9 (none,.slc 30 (.t 28) (some (.t 29)) none 2) (.one 3 (none,.app 24 (.c (.slice none 0 0)) (.t 23) 2 16) (.one 6 (none,.app 27 (.t 24) (.t 26) 2 16) (.one 10 (none,.app 31 (.t 27) (.t 30) 2 16) (.one 11 (oS 4 31) .done))))) 9 (none,
 .slc 30 (.t 28) (some (.t 29)) none 2) (.two 3 (none,.app 24 (.c (.slice none 0 0)) (.t 23) 2 16) (.one 5 (none,.blds 26 1 2 [((0,2),(.t 25,true))] [.int .i64 0,.int .i64 0]) (.one 6 (none,.app 27 (.t 24) (.t 26) 2 16) (.one 10 (none,.app 31 (.t 27) (.t 30) 2 16) (.one 11 (oS 4 31) .done)))) 5 (none,
 .blds 26 1 2 [((0,2),(.t 25,true))] [.int .i64 0,.int .i64 0]) (.one 3 (none,.app 24 (.c (.slice none 0 0)) (.t 23) 2 16) (.one 6 (none,.app 27 (.t 24) (.t 26) 2 16) (.one 10 (none,.app 31 (.t 27) (.t 30) 2 16) (.one 11 (oS 4 31) .done)))))) 5 (none,.blds 26 1 2 [((0,2),(.t 25,true))] [.int .i64 0,.int .i64 0]) (.two 2 (none,
 .slc 23 (.t 21) none (some (.t 22)) 2) (.two 3 (none,.app 24 (.c (.slice none 0 0)) (.t 23) 2 16) (.two 6 (none,.app 27 (.t 24) (.t 26) 2 16) (.one 9 (none,.slc 30 (.t 28) (some (.t 29)) none 2) (.one 10 (none,.app 31 (.t 27) (.t 30) 2 16) (.one 11 (oS 4 31) .done))) 9 (none,.slc 30 (.t 28) (some (.t 29)) none 2) (.one 6 (none,
 .app 27 (.t 24) (.t 26) 2 16) (.one 10 (none,.app 31 (.t 27) (.t 30) 2 16) (.one 11 (oS 4 31) .done)))) 9 (none,.slc 30 (.t 28) (some (.t 29)) none 2) (.one 3 (none,.app 24 (.c (.slice none 0 0)) (.t 23) 2 16) (.one 6 (none,.app 27 (.t 24) (.t 26) 2 16) (.one 10 (none,.app 31 (.t 27) (.t 30) 2 16) (.one 11 (oS 4 31) .done))))) 9 (none,
 .slc 30 (.t 28) (some (.t 29)) none 2) (.one 2 (none,.slc 23 (.t 21) none (some (.t 22)) 2) (.one 3 (none,.app 24 (.c (.slice none 0 0)) (.t 23) 2 16) (.one 6 (none,.app 27 (.t 24) (.t 26) 2 16) (.one 10 (none,.app 31 (.t 27) (.t 30) 2 16) (.one 11 (oS 4 31) .done)))))) 9 (none,.slc 30 (.t 28) (some (.t 29)) none 2) (.two 2 (none,
 .slc 23 (.t 21) none (some (.t 22)) 2) (.two 3 (none,.app 24 (.c (.slice none 0 0)) (.t 23) 2 16) (.one 5 (none,.blds 26 1 2 [((0,2),(.t 25,true))] [.int .i64 0,.int .i64 0]) (.one 6 (none,.app 27 (.t 24) (.t 26) 2 16) (.one 10 (none,.app 31 (.t 27) (.t 30) 2 16) (.one 11 (oS 4 31) .done)))) 5 (none,
 .blds 26 1 2 [((0,2),(.t 25,true))] [.int .i64 0,.int .i64 0]) (.one 3 (none,.app 24 (.c (.slice none 0 0)) (.t 23) 2 16) (.one 6 (none,.app 27 (.t 24) (.t 26) 2 16) (.one 10 (none,.app 31 (.t 27) (.t 30) 2 16) (.one 11 (oS 4 31) .done))))) 5 (none,.blds 26 1 2 [((0,2),(.t 25,true))] [.int .i64 0,.int .i64 0]) (.one 2 (none,
 .slc 23 (.t 21) none (some (.t 22)) 2) (.one 3 (none,.app 24 (.c (.slice none 0 0)) (.t 23) 2 16) (.one 6 (none,.app 27 (.t 24) (.t 26) 2 16) (.one 10 (none,.app 31 (.t 27) (.t 30) 2 16) (.one 11 (oS 4 31) .done)))))))))))
def YK :List Nat:=[0,1,3,4,5,18]
def zk4 :zC:=.seq (.reg [0,1,4,5,18] O2 YK) (.seq (.reg YK O1 YK) (.seq (.blk 0 (.loop (.seq (.seq (.draw [0,1,3,4,5] Uj YK) (.cond (.t 18) .skip (.exit 0))) (.blk 1 (.reg YK OZ YK))))) (.seq (.draw YK OY YK) .ret)))
abbrev zgM :Nat:=47
theorem zmy :jK Try.prog Try.f47.ntmps 2 [4] YK [(.tmp 4)] zk4 zgM:=jU mix Try.func47 (by kernel_rfl) rfl
def OX :List zn:=[(none,.alloc 4 [.int .i64 0,.int .i64 0])]
def OW :List zn:=[oM 5 0,oM 6 1,oD 7 .gtr 5 6]
def OV :List zn:=[oM 8 1,oM 9 0,(none,.bld 10 [((0,1),(.t 8,true)),((1,1),(.t 9,true))] [.int .i64 0,.int .i64 0]),oW 4 10 2]
def OU :List zn:=[oM 11 0,oM 12 1,(none,.bld 13 [((0,1),(.t 11,true)),((1,1),(.t 12,true))] [.int .i64 0,.int .i64 0]),oW 4 13 2]
def xv :List Nat:=[0,1,4,7]
def zk3 :zC:=.seq (.reg [0,1,7] OX xv) (.seq (.seq (.reg [0,1,4] OW xv) (.cond (.t 7) (.seq (.reg xv OV xv) .ret) .skip)) (.seq (.reg xv OU xv) .ret))
abbrev zj4 :Nat:=48
theorem zmx :jK Try.prog Try.f48.ntmps 2 [] xv [(.cell 4 2 true)] zk3 zj4:=jU mix Try.func48 (by kernel_rfl) rfl
def OT :List zn:=[(none,.box 2 (.t 0)),oZ 4,oZ 5,oI 6 0]
def OS :List zn:=[oT 11 2 2,oC 12 38 11,(none,.r (.notb 13 (.t 12))),oS 10 13]
def zhO :List zn:=[oZ 4,oZ 5,oI 6 3]
def OR :List zn:=[oT 15 2 2,oM 16 1,qF 17 62 15 16,(none,.r (.notb 18 (.t 17))),oS 14 18]
def zhN :List zn:=[oZ 4,oZ 5,oI 6 9]
def OQ :List zn:=[oF 20 2 0,oL 21 20 1,oF 22 2 1,oL 23 22 1,qF 24 41 21 23,oM 25 1,qF 26 57 24 25,oM 19 26,oY 27 19 0,oY 28 19 1,oY 29 19 2,oS 7 27,oS 8 28,oS 9 29]
def OP :List zn:=[oM 30 7,oM 31 8,oS 4 30,oS 5 31,oI 6 0]
def qt :List Nat:=[0,1,2,4,5,6,7,8,9,10,14]
def zk2 :zC:=.seq (.reg [0,1,4,5,6,7,8,9,10,14] OT qt) (.seq (.blk 0 (.seq (.reg qt OS qt) (.cond (.t 10) (.seq (.reg qt zhO qt) .ret) (.seq (.reg qt OR qt) (.cond (.t 14) (.seq (.reg qt zhN qt) .ret) .skip))))) (.seq (.reg qt OQ qt) (.seq (.reg qt OP qt) .ret)))
abbrev zj3 :Nat:=49
theorem zmw :jK Try.prog Try.f49.ntmps 2 [4,5,6] qt [(.tmp 4),(.tmp 5),(.tmp 6)] zk2 zj3:=jU mix Try.func49 (by kernel_rfl) rfl
def OO :List zn:=[oZ 4]
def ON :List zn:=[oZ 5]
def OM :List zn:=[oM 8 0,oE 9 8,(none,.r (.mov 10 (.c (.int .i64 0))))]
def Ui :List zn:=[oD 11 .lss 10 9]
def OL :List zn:=[oM 12 10,oX 13 8 10 1,oL 14 13 1,oS 6 12,oS 7 14]
def Uh :List zn:=[oM 15 7,oM 16 1,oD 17 .eql 15 16]
def OK :List zn:=[oM 18 5,oM 19 6,(none,.blds 20 1 1 [((0,1),(.t 19,true))] [.int .i64 0]),(none,.app 21 (.t 18) (.t 20) 1 8),oS 5 21]
def Ug :List zn:=[oB 22 .add 10 1,oS 10 22]
def OJ :List zn:=[oM 23 5,oS 4 23]
def J0 :List Nat:=[0,1,4,5,6,7,8,9,10,11,17]
def zk1 :zC:=.seq (.reg J0 OO J0) (.seq (.reg J0 ON J0) (.seq (.seq (.reg [0,1,4,5,6,7,11,17] OM J0) (.blk 0 (.loop (.seq (.reg [0,1,4,5,6,7,8,9,10,17] Ui J0) (.seq (.cond (.t 11) .skip (.exit 0)) (.seq (.blk 1 (.seq (.reg J0 OL J0) (.seq (.reg [0,
 1,4,5,6,7,8,9,10,11] Uh J0) (.cond (.t 17) (.reg J0 OK J0) .skip)))) (.reg J0 Ug J0))))))) (.seq (.reg J0 OJ J0) .ret)))
abbrev zj2 :Nat:=50
theorem zmv :jK Try.prog Try.f50.ntmps 2 [4] J0 [(.tmp 4)] zk1 zj2:=jU mix Try.func50 (by kernel_rfl) rfl
def OH :List zn:=[oZ 4]
def OG :List zn:=[oM 10 0,oM 11 0,oE 12 11,(none,.mk 13 (.t 12) (.t 12) 1 1 [.bool false]),(none,.bld 14 [((0,1),(.t 10,true)),((1,1),(.t 13,true))] [.slice none 0 0,.slice none 0 0,.slice none 0 0,.slice none 0 0]),(none,.box 15 (.t 14)),oS 5 15]
def OF :List zn:=[oM 16 1,oE 17 16,(none,.r (.mov 18 (.c (.int .i64 0))))]
def OE :List zn:=[oD 19 .lss 18 17]
def OD :List zn:=[oX 20 16 18 1,oL 21 20 1,oS 7 21]
def Wj :List zn:=[oM 22 7,oB 23 .geq 22 0,oM 24 23,oK 24 true 25 7,oK 24 true 26 0,(some (24,true),.r (.len 27 (.t 26))),Vm 24 true 28 .lss 25 27,oP 29 24 28]
def OC :List zn:=[oM 30 5,oN 31 30,oF 32 31 1,oL 33 32 1,oM 34 7,oX 35 33 34 1,(none,.st (.t 35) (.c (.bool true)) 1)]
def Wi :List zn:=[oB 36 .add 18 1,oS 18 36]
def OB :List zn:=[oZ 8]
def OA :List zn:=[oM 37 0,oE 38 37,(none,.r (.mov 39 (.c (.int .i64 0))))]
def kj :List zn:=[oD 40 .lss 39 38]
def ki :List zn:=[oM 41 39,oS 9 41]
def kh :List zn:=[oM 42 5,oN 43 42,oF 44 43 1,oL 45 44 1,oM 46 9,oX 47 45 46 1,oL 48 47 1,(none,.r (.notb 49 (.t 48)))]
def kg :List zn:=[oM 50 8,oM 51 5,oM 52 9,qF 53 63 51 52,(none,.blds 54 1 1 [((0,1),(.t 53,true))] [.slice none 0 0]),(none,.app 55 (.t 50) (.t 54) 1 24),oS 8 55]
def W7 :List zn:=[oB 56 .add 39 1,oS 39 56]
def kf :List zn:=[oM 57 8,oS 4 57]
def je :List Nat:=[0,1,4,5,7,8,9,16,17,18,19,29,38,39,40,49]
def zk0 :zC:=.seq (.reg je OH je) (.seq (.reg je OG je) (.seq (.seq (.reg [0,1,4,5,7,8,9,19,29,38,39,40,49] OF je) (.blk 0 (.loop (.seq (.reg [0,1,4,5,7,8,9,16,17,18,29,38,39,40,49] OE je) (.seq (.cond (.t 19) .skip (.exit 0)) (.seq (.blk 1 (.seq (.reg je OD je) (.seq (.reg [0,
 1,4,5,7,8,9,16,17,18,19,38,39,40,49] Wj je) (.cond (.t 29) (.reg je OC je) .skip)))) (.reg je Wi je))))))) (.seq (.reg je OB je) (.seq (.seq (.reg [0,1,4,5,7,8,9,16,17,18,19,29,40,49] OA je) (.blk 2 (.loop (.seq (.reg [0,
 1,4,5,7,8,9,16,17,18,19,29,38,39,49] kj je) (.seq (.cond (.t 40) .skip (.exit 2)) (.seq (.blk 3 (.seq (.reg je ki je) (.seq (.reg [0,1,4,5,7,8,9,16,17,18,19,29,38,39,40] kh je) (.cond (.t 49) (.reg je kg je) .skip)))) (.reg je W7 je))))))) (.seq (.reg je kf je) .ret)))))
abbrev zgL :Nat:=51
theorem zmu :jK Try.prog Try.f51.ntmps 2 [4] je [(.tmp 4)] zk0 zgL:=jU mix Try.func51 (by kernel_rfl) rfl
def Oz :List zn:=[oZ 4]
def Oy :List zn:=[oM 5 1,oB 6 .lss 5 0]
def zhM :List zn:=[(none,.bad (some 7)),(none,.bad none)]
def Ox :List zn:=[oM 8 1,oM 9 0,(none,.capq 10 (.t 9)),oM 11 0,oE 12 11,oD 13 .sub 10 12,oD 14 .sub 8 13,oS 1 14]
def Ow :List zn:=[oM 15 1,oB 16 .gtr 15 0]
def Ov :List zn:=[oM 17 0,oM 18 0,(none,.capq 19 (.t 18)),(none,.slc 20 (.t 17) none (some (.t 19)) 1),oM 21 1,(none,.appz 22 (.t 20) (.t 21) 1 8 [.int .i64 0]),oM 23 0,oE 24 23,(none,.slc 25 (.t 22) none (some (.t 24)) 1),oS 0 25]
def Ue :List zn:=[oM 26 0,oS 4 26]
def qK :List Nat:=[0,1,4,6,16]
def zkZ :zC:=.seq (.reg qK Oz qK) (.seq (.seq (.reg [0,1,4,16] Oy qK) (.cond (.t 6) (.reg qK zhM qK) .skip)) (.seq (.seq (.reg qK Ox qK) (.seq (.reg [0,
 1,4,6] Ow qK) (.cond (.t 16) (.reg qK Ov qK) .skip))) (.seq (.reg qK Ue qK) .ret)))
abbrev zj1 :Nat:=52
theorem zmt :jK Try.prog Try.f52.ntmps 2 [4] qK [(.tmp 4)] zkZ zj1:=jU mix Try.func52 (by kernel_rfl) rfl
def Ou :List zn:=[(none,.box 3 (.t 0)),(none,.box 4 (.t 1)),(none,.box 5 (.t 2)),oI 6 0]
def Ot :Zi:=.take [1,4,9,10,11,12] (oF 7 4 0) (.take [4,9,10,11,12] (oL 8 7 1) (.take [3,4,9,10,11,12] (oF 9 5 0) (.take [4,9,10,11,12] (oL 10 9 1) (.take [6,9,10,11,12] (oF 12 4 1) (.take [9,10,11,12] (oL 13 12 1) (.take [8,9,10,11,12] (oF 14 5 1) (.take [9,10,11,12] (oL 15 14 1) (.one 4 (qF 11 65 8 10) (.one 9 (qF 16 65 13 15) (.one 10 (none,
 .blds 17 2 1 [((0,1),(.t 11,true)),((1,1),(.t 16,true))] [.int .i64 0]) (.one 11 (oC 18 64 17) (.one 12 (oS 6 18) .done))))))))))))
def K2 :List Nat:=[0,1,2,4,5,6]
def zkY :zC:=.seq (.reg [0,1,2,6] Ou K2) (.seq (.draw K2 Ot K2) .ret)
abbrev zj0 :Nat:=53
theorem zms :jK Try.prog Try.f53.ntmps 3 [6] K2 [(.tmp 6)] zkY zj0:=jU mix Try.func53 (by kernel_rfl) rfl
def Oq :List zn:=[(none,.box 1 (.t 0)),oZ 2]
def Oo :List zn:=[oT 3 1 2,oC 4 38 3,(none,.r (.notb 5 (.t 4)))]
def zhL :List zn:=[oZ 2]
def Om :List zn:=[(none,.blds 6 1 1 [((0,1),(.c (.int .i64 (- (0+1))),true))] [.int .i64 0]),oF 7 1 0,oL 8 7 1,qF 9 66 6 8,oS 2 9]
def xu :List Nat:=[0,1,2,5]
def zkX :zC:=.seq (.reg [0,2,5] Oq xu) (.seq (.seq (.reg [0,1,2] Oo xu) (.cond (.t 5) (.seq (.reg xu zhL xu) .ret) .skip)) (.seq (.reg xu Om xu) .ret))
abbrev zjZ :Nat:=54
theorem zmr :jK Try.prog Try.f54.ntmps 1 [2] xu [(.tmp 2)] zkX zjZ:=jU mix Try.func54 (by kernel_rfl) rfl
def Ol :List zn:=[(none,.box 2 (.t 0)),oO 4]
def Ok :List zn:=[oF 5 2 0,oL 6 5 1,oM 7 1,oX 8 6 7 1,oL 9 8 1,oB 10 .lss 9 0,oS 4 10]
def K1 :List Nat:=[0,1,2,4]
def zkW :zC:=.seq (.reg [0,1,4] Ol K1) (.seq (.reg K1 Ok K1) .ret)
abbrev zgK :Nat:=55
theorem zmq :jK Try.prog Try.f55.ntmps 2 [4] K1 [(.tmp 4)] zkW zgK:=jU mix Try.func55 (by kernel_rfl) rfl
def Oj :List zn:=[oI 4 0]
def Oh :List zn:=[oM 6 0,oE 7 6,(none,.r (.mov 8 (.c (.int .i64 0))))]
def Ud :List zn:=[oD 9 .lss 8 7]
def Og :List zn:=[oM 10 8,oS 5 10]
def Oe :List zn:=[oM 11 1,oM 12 0,oM 13 5,oX 14 12 13 1,oL 15 14 1,(none,.call 16 (.t 11) [(.t 15,false)])]
def Od :List zn:=[oM 17 5,oS 4 17]
def Oc :List zn:=[oB 18 .add 8 1,oS 8 18]
def Ob :List zn:=[(none,.asg 4 (.c (.int .i64 (- (0+1)))) true)]
def qr :List Nat:=[0,1,4,5,7,8,9,16]
def zkV :zC:=.seq (.reg qr Oj qr) (.seq (.seq (.reg [0,1,4,5,9,16] Oh qr) (.blk 0 (.loop (.seq (.reg [0,1,4,5,7,8,16] Ud qr) (.seq (.cond (.t 9) .skip (.exit 0)) (.seq (.blk 1 (.seq (.reg qr Og qr) (.seq (.reg [0,
 1,4,5,7,8,9] Oe qr) (.cond (.t 16) (.seq (.reg qr Od qr) .ret) .skip)))) (.reg qr Oc qr))))))) (.seq (.reg qr Ob qr) .ret))
abbrev zjY :Nat:=56
theorem zmp :jK Try.prog Try.f56.ntmps 2 [4] qr [(.tmp 4)] zkV zjY:=jU mix Try.func56 (by kernel_rfl) rfl
def Oa :List zn:=[oZ 4,oZ 5,oI 6 0]
def o9 :List zn:=[oM 14 0,oM 15 1,qF 16 67 14 15,oS 7 16]
def o8 :List zn:=[oM 17 7,(none,.mkfn 18 (.func 68) [(.t 17,false)] []),oS 8 18]
def o7 :List zn:=[oM 20 7,oC 21 69 20,oM 19 21,oY 22 19 0,oY 23 19 1,oS 9 22,oS 10 23]
def o0 :List zn:=[oM 24 10]
def oV :List zn:=[oM 30 0,oM 31 9,oX 32 30 31 1,oL 33 32 1,oE 34 33,(none,.r (.mov 35 (.c (.int .i64 0))))]
def Qy :List zn:=[oD 36 .lss 35 34]
def y5 :List zn:=[oX 37 33 35 1,oL 38 37 1,oS 12 38]
def y4 :List zn:=[oM 39 7,oM 40 9,oM 41 12,oC3 42 70 39 40 41]
def yZ :List zn:=[oB 44 .eql 42 1,oS 43 44]
def ke :List zn:=[oM 45 7,oM 46 9,oM 47 12,oC3 48 71 45 46 47]
def Yx :List zn:=[oB 50 .eql 42 2,oS 49 50]
def kb :List zn:=[oM 51 8,oM 52 9,(none,.call 53 (.t 51) [(.t 52,false)]),oM 54 8,oM 55 12,(none,.call 56 (.t 54) [(.t 55,false)]),oD 57 .eql 53 56]
def W6 :List zn:=[oM 58 7,oM 59 9,oM 60 12,oC3 61 72 58 59 60,oS 13 61]
def W5 :List zn:=[oM 62 13,(none,.r (.bin 63 .neq 3 (.t 62) (.c (.slice none 0 0))))]
def ka :Zi:=.take [5,6,7] (oM 64 13) (.take [2,3,4,7] (oM 65 7) (.take [3,4,7] (oN 66 65) (.take [4,7] (oF 67 66 15) (.take [7] (oL 68 67 1) (.one 5 (oS 4 64) (.one 6 (oZ 5) (.one 7 (oS 6 68) .done)))))))
def Qz :List zn:=[oB 69 .add 35 1,oS 35 69]
def V9 :List zn:=[oM 26 7,oC 27 69 26,oM 25 27,oY 28 25 0,oY 29 25 1,oS 9 28,oS 10 29]
def V8 :Zi:=.take [1,6,7,8] (oM 70 7) (.take [3,4,5,8] (oM 72 7) (.take [4,5,8] (oN 73 72) (.take [5,8] (oF 74 73 15) (.take [8] (oL 75 74 1) (.one 1 (oC 71 73 70) (.one 6 (oZ 4) (.one 7 (oS 5 71) (.one 8 (oS 6 75) .done))))))))
def ZQ :List Nat:=[0,1,4,5,6,7,8,9,10,12,13,24,33,34,35,36,42,43,49,57,63]
def zkU :zC:=.seq (.reg ZQ Oa ZQ) (.seq (.reg ZQ o9 ZQ) (.seq (.reg ZQ o8 ZQ) (.seq (.seq (.reg ZQ o7 ZQ) (.blk 0 (.loop (.seq (.seq (.reg [0,
 1,4,5,6,7,8,9,10,12,13,33,34,35,36,42,43,49,57,63] o0 ZQ) (.cond (.t 24) .skip (.exit 0))) (.seq (.blk 1 (.seq (.reg [0,1,4,5,6,7,8,9,10,12,13,24,36,42,43,49,57,63] oV ZQ) (.blk 2 (.loop (.seq (.reg [0,1,4,5,6,7,8,9,10,12,13,24,33,34,35,42,43,
 49,57,63] Qy ZQ) (.seq (.cond (.t 36) .skip (.exit 2)) (.seq (.blk 3 (.seq (.reg ZQ y5 ZQ) (.seq (.reg [0,1,4,5,6,7,8,9,10,12,13,24,33,34,35,36,43,49,57,63] y4 ZQ) (.blk 4 (.seq (.reg ZQ yZ ZQ) (.cond (.t 43) (.reg ZQ ke ZQ) (.seq (.reg ZQ Yx ZQ) (.cond (.t 49) (.seq (.seq (.reg [0,
 1,4,5,6,7,8,9,10,12,13,24,33,34,35,36,42,43,49,63] kb ZQ) (.cond (.t 57) (.exit 3) .skip)) (.seq (.reg ZQ W6 ZQ) (.seq (.reg [0,1,4,5,6,7,8,9,10,12,13,24,33,34,35,36,42,43,49,57] W5 ZQ) (.cond (.t 63) (.seq (.draw ZQ ka ZQ) .ret) .skip)))) .skip)))))))) (.reg ZQ Qz ZQ)))))))) (.reg ZQ V9 ZQ)))))) (.seq (.draw ZQ V8 ZQ) .ret))))
abbrev zgJ :Nat:=57
theorem zmo :jK Try.prog Try.f57.ntmps 2 [4,5,6] ZQ [(.tmp 4),(.tmp 5),(.tmp 6)] zkU zgJ:=jU mix Try.func57 (by kernel_rfl) rfl
def oU :List zn:=[oI 4 1]
def Uc :List zn:=[oM 5 4,oM 6 1,oE 7 6,oD 8 .lss 5 7]
def oR :Zi:=.take [20,21,22,23] (oM 11 0) (.take [4,5,20,21,22,23] (oM 12 1) (.take [3,4,5,20,21,22,23] (oM 13 4) (.take [4,5,20,21,22,23] (oB 14 .sub 13 1) (.take [5,20,21,22,23] (oX 15 12 14 1) (.take [20,21,22,23] (oL 16 15 1) (.take [22,23] (oM 17 0) (.take [9,10,20,21,22,23] (oM 18 1) (.take [9,
 10,20,21,22,23] (oM 19 4) (.take [10,20,21,22,23] (oX 20 18 19 1) (.take [20,21,22,23] (oL 21 20 1) (.take [13,14,20,21,22,23] (oM 22 1) (.take [13,14,20,21,22,23] (oM 23 4) (.take [14,20,21,22,23] (oX 24 22 23 1) (.take [20,21,22,23] (oL 25 24 1) (.take [18,19,20,21,22,23] (oM 26 1) (.take [17,18,19,
 20,21,22,23] (oM 27 4) (.take [18,19,20,21,22,23] (oB 28 .sub 27 1) (.take [19,20,21,22,23] (oX 29 26 28 1) (.take [20,21,22,23] (oL 30 29 1) (.take [21,22,23] (oX 31 11 16 1) (.one 21 (oW 31 25 1) (.take [23] (oX 32 17 21 1) (.one 23 (oW 32 30 1) .done)))))))))))))))))))))))
def oJ :List zn:=[oM 9 4,oB 10 .add 9 2,oS 4 10]
def wB :List Nat:=[0,1,4,8]
def zkT :zC:=.seq (.reg wB oU wB) (.blk 0 (.loop (.seq (.seq (.reg [0,1,4] Uc wB) (.cond (.t 8) .skip (.exit 0))) (.seq (.blk 1 (.draw wB oR wB)) (.reg wB oJ wB)))))
abbrev zjX :Nat:=58
theorem zmn :jK Try.prog Try.f58.ntmps 2 [] wB [] zkT zjX:=jU mix Try.func58 (by kernel_rfl) rfl
def oH :List zn:=[(none,.box 2 (.t 0)),oI 4 0]
def oG :List zn:=[oI 5 0]
def oA :List zn:=[oT 8 2 2,oM 9 1,qF 10 22 8 9,oS 6 10]
def oz :List zn:=[oI 7 0]
def ou :List zn:=[oM 11 7,oM 12 6,oE 13 12,oD 14 .lss 11 13]
def ot :List zn:=[oM 17 5,oM 18 6,oM 19 7,oX 20 18 19 1,oL 21 20 1,oE 22 21,oB 23 .rem 22 2,oD 24 .add 17 23,oS 5 24]
def oq :List zn:=[oM 15 7,oB 16 .add 15 1,oS 7 16]
def oo :List zn:=[oM 25 5,oS 4 25]
def qd :List Nat:=[0,1,2,4,5,6,7,14]
def zkS :zC:=.seq (.reg [0,1,4,5,6,7,14] oH qd) (.seq (.reg qd oG qd) (.seq (.reg qd oA qd) (.seq (.seq (.reg qd oz qd) (.blk 0 (.loop (.seq (.seq (.reg [0,
 1,2,4,5,6,7] ou qd) (.cond (.t 14) .skip (.exit 0))) (.seq (.blk 1 (.reg qd ot qd)) (.reg qd oq qd)))))) (.seq (.reg qd oo qd) .ret))))
abbrev zjW :Nat:=59
theorem zmm :jK Try.prog Try.f59.ntmps 2 [4] qd [(.tmp 4)] zkS zjW:=jU mix Try.func59 (by kernel_rfl) rfl
def om :List zn:=[oZ 2]
def oh :List zn:=[oZ 3]
def og :List zn:=[oI 4 0]
def Ub :List zn:=[oM 6 4,oM 7 0,oE 8 7,oD 9 .lss 6 8]
def oe :List zn:=[oM 12 0,oM 13 4,oX 14 12 13 1,oL 15 14 1,oS 5 15]
def yY :List zn:=[oM 16 5,oM 17 4,oD 18 .gtr 16 17,oM 19 18,oK 19 true 20 5,oK 19 true 21 0,(some (19,true),.r (.len 22 (.t 21))),Vm 19 true 23 .lss 20 22,oP 24 19 23,oM 25 24,oK 25 true 26 0,oK 25 true 27 5,(some (25,true),.r (.idxA 28 (.t 26) (.t 27) 1)),Qg 25 true 29 28 1,
 oK 25 true 30 4,Vm 25 true 31 .eql 29 30,oP 32 25 31]
def P9 :List zn:=[oM 33 3,oM 34 4,oM 35 5,(none,.bld 36 [((0,1),(.t 34,true)),((1,1),(.t 35,true))] [.int .i64 0,.int .i64 0]),(none,.blds 37 1 2 [((0,2),(.t 36,true))] [.int .i64 0,.int .i64 0]),(none,.app 38 (.t 33) (.t 37) 2 16),oS 3 38]
def yX :List zn:=[oM 10 4,oB 11 .add 10 1,oS 4 11]
def P8 :List zn:=[oM 39 3,oS 2 39]
def JM :List Nat:=[0,2,3,4,5,9,32]
def zkR :zC:=.seq (.reg JM om JM) (.seq (.reg JM oh JM) (.seq (.seq (.reg JM og JM) (.blk 0 (.loop (.seq (.seq (.reg [0,
 2,3,4,5,32] Ub JM) (.cond (.t 9) .skip (.exit 0))) (.seq (.blk 1 (.seq (.reg JM oe JM) (.seq (.reg [0,2,3,4,5,9] yY JM) (.cond (.t 32) (.reg JM P9 JM) .skip)))) (.reg JM yX JM)))))) (.seq (.reg JM P8 JM) .ret)))
abbrev zjV :Nat:=60
theorem zml :jK Try.prog Try.f60.ntmps 1 [2] JM [(.tmp 2)] zkR zjV:=jU mix Try.func60 (by kernel_rfl) rfl
def P7 :List zn:=[(none,.box 3 (.t 0)),oI 6 0]
def P6 :List zn:=[oT 9 3 2,oC 10 23 9,(none,.r (.notb 11 (.t 10)))]
def P5 :List zn:=[(none,.asg 6 (.c (.int .i64 (- (0+1)))) true)]
def PZ :List zn:=[oM 12 1,oM 13 2,qF 14 48 12 13,(none,.alloc 7 [.int .i64 0,.int .i64 0]),oW 7 14 2]
def PW :List zn:=[oI 8 0]
def PV :List zn:=[oM 15 8,oF 16 3 1,oL 17 16 1,oE 18 17,oD 19 .lss 15 18]
def PU :Zi:=.take [1,3,4,6] (oF 22 3 1) (.take [3,4,6] (oL 23 22 1) (.take [3,4,6] (oM 24 8) (.take [4,6] (oX 25 23 24 2) (.take [6] (oT 26 25 2) (.take [6] (oT 27 7 2) (.take [] (none,.r (.bin 28 .eql 8 (.t 26) (.t 27))) .done))))))
def PS :List zn:=[oM 29 8,oS 6 29]
def PR :List zn:=[oM 20 8,oB 21 .add 20 1,oS 8 21]
def PQ :List zn:=[(none,.asg 6 (.c (.int .i64 (- (0+1)))) true)]
def JZ :List Nat:=[0,1,2,3,6,7,8,11,19,28]
def zkQ :zC:=.seq (.reg [0,1,2,6,7,8,11,19,28] P7 JZ) (.seq (.seq (.reg [0,1,2,3,6,7,8,19,28] P6 JZ) (.cond (.t 11) (.seq (.reg JZ P5 JZ) .ret) .skip)) (.seq (.reg [0,
 1,2,3,6,8,11,19,28] PZ JZ) (.seq (.seq (.reg JZ PW JZ) (.blk 0 (.loop (.seq (.seq (.reg [0,1,2,3,6,7,8,11,28] PV JZ) (.cond (.t 19) .skip (.exit 0))) (.seq (.blk 1 (.seq (.draw [0,
 1,2,3,6,7,8,11,19] PU JZ) (.cond (.t 28) (.seq (.reg JZ PS JZ) .ret) .skip))) (.reg JZ PR JZ)))))) (.seq (.reg JZ PQ JZ) .ret))))
abbrev zjU :Nat:=61
theorem zmk :jK Try.prog Try.f61.ntmps 3 [6] JZ [(.tmp 6)] zkQ zjU:=jU mix Try.func61 (by kernel_rfl) rfl
def PP :List zn:=[(none,.box 2 (.t 0)),oO 4]
def PO :List zn:=[oT 10 2 2,oC 11 38 10,(none,.r (.notb 12 (.t 11))),oM 13 12,oK 13 false 14 1,(some (13,false),.r (.len 15 (.t 14))),(some (13,false),.r (.fldA 16 (.t 2) 0)),Qg 13 false 17 16 1,Vm 13 false 18 .neq 15 17,oQ 19 13 18]
def zhK :List zn:=[oO 4]
def PN :List zn:=[oF 20 2 0,oL 21 20 1,(none,.mk 22 (.t 21) (.t 21) 1 1 [.bool false]),oS 5 22]
def PM :List zn:=[oF 23 2 1,oL 24 23 1,oE 25 24,(none,.r (.mov 26 (.c (.int .i64 0))))]
def Ua :List zn:=[oD 27 .lss 26 25]
def PL :List zn:=[oX 28 24 26 2,oT 29 28 2,(none,.alloc 7 [.int .i64 0,.int .i64 0]),oW 7 29 2]
def Wh :Zi:=.take [3,4,7,8,9,10,11,12,13,14,15,16,17] (oM 30 1) (.take [2,3,4,7,8,9,10,11,12,13,14,15,16,17] (oF 31 7 0) (.take [3,4,7,8,9,10,11,12,13,14,15,16,17] (oL 32 31 1) (.take [4,7,8,9,10,11,12,13,14,15,16,17] (oX 33 30 32 1) (.take [7,8,9,10,11,12,13,14,15,16,17] (oL 34 33 1) (.take [6,
 7,8,9,10,11,12,13,14,15,16,17] (oF 35 7 1) (.take [7,8,9,10,11,12,13,14,15,16,17] (oL 36 35 1) (.take [8,9,10,11,12,13,14,15,16,17] (oD 37 .eql 34 36) (.take [9,10,11,12,13,14,15,16,17] (oM 38 37) (.take [12,13,16,17] (oK 38 true 39 1) (.take [11,12,13,16,17] (some (38,true),.r (.fldA 40 (.t 7) 1)) (.take [12,
 13,16,17] (Qg 38 true 41 40 1) (.take [13,16,17] (some (38,true),.r (.idxA 42 (.t 39) (.t 41) 1)) (.take [16,17] (Qg 38 true 43 42 1) (.take [15,16,17] (some (38,true),.r (.fldA 44 (.t 7) 0)) (.take [16,17] (Qg 38 true 45 44 1) (.take [17] (Vm 38 true 46 .eql 43 45) (.take [] (oP 47 38 46) .done)))))))))))))))))
def PK :Zi:=.take [6,7,8,9] (oM 48 5) (.take [2,6,7,8,9] (oF 49 7 0) (.take [6,7,8,9] (oL 50 49 1) (.take [8,9] (oM 51 5) (.take [5,8,9] (oF 52 7 1) (.take [8,9] (oL 53 52 1) (.take [7,8,9] (oX 54 48 50 1) (.one 7 (none,.st (.t 54) (.c (.bool true)) 1) (.take [9] (oX 55 51 53 1) (.one 9 (none,
 .st (.t 55) (.c (.bool true)) 1) .done)))))))))
def Wg :List zn:=[oB 56 .add 26 1,oS 26 56]
def V7 :List zn:=[oM 57 1,oE 58 57,(none,.r (.mov 59 (.c (.int .i64 0))))]
def W4 :List zn:=[oD 60 .lss 59 58]
def V6 :List zn:=[oM 61 59,oX 62 57 59 1,oL 63 62 1,oS 8 61,oS 9 63]
def Yw :List zn:=[oM 64 9,(none,.r (.bin 65 .neq 0 (.t 64) (.c (.int .i64 (- (0+1)))))),oM 66 65,oK 66 true 67 5,oK 66 true 68 8,(some (66,true),.r (.idxA 69 (.t 67) (.t 68) 1)),Qg 66 true 70 69 1,(some (66,true),.r (.notb 71 (.t 70))),oP 72 66 71]
def V5 :List zn:=[oO 4]
def W0 :List zn:=[oB 73 .add 59 1,oS 59 73]
def V4 :List zn:=[(none,.asg 4 (.c (.bool true)) true)]
def jh :List Nat:=[0,1,2,4,5,7,8,9,19,24,25,26,27,47,57,58,59,60,72]
def zkP :zC:=.seq (.reg [0,1,4,5,7,8,9,19,24,25,26,27,47,57,58,59,60,72] PP jh) (.seq (.seq (.reg [0,1,2,4,5,7,8,9,24,25,26,27,47,57,58,59,60,72] PO jh) (.cond (.t 19) (.seq (.reg jh zhK jh) .ret) .skip)) (.seq (.reg jh PN jh) (.seq (.seq (.reg [0,
 1,2,4,5,7,8,9,19,27,47,57,58,59,60,72] PM jh) (.blk 0 (.loop (.seq (.reg [0,1,2,4,5,7,8,9,19,24,25,26,47,57,58,59,60,72] Ua jh) (.seq (.cond (.t 27) .skip (.exit 0)) (.seq (.blk 1 (.seq (.reg [0,1,2,4,5,8,9,19,24,25,26,27,47,57,58,59,60,72] PL jh) (.seq (.draw [0,
 1,2,4,5,7,8,9,19,24,25,26,27,57,58,59,60,72] Wh jh) (.cond (.t 47) (.draw jh PK jh) .skip)))) (.reg jh Wg jh))))))) (.seq (.seq (.reg [0,1,2,4,5,7,8,9,19,24,25,26,27,47,60,72] V7 jh) (.blk 2 (.loop (.seq (.reg [0,
 1,2,4,5,7,8,9,19,24,25,26,27,47,57,58,59,72] W4 jh) (.seq (.cond (.t 60) .skip (.exit 2)) (.seq (.blk 3 (.seq (.reg jh V6 jh) (.seq (.reg [0,1,2,4,5,7,8,9,19,24,25,26,27,47,57,58,59,60] Yw jh) (.cond (.t 72) (.seq (.reg jh V5 jh) .ret) .skip)))) (.reg jh W0 jh))))))) (.seq (.reg jh V4 jh) .ret)))))
abbrev zjT :Nat:=62
theorem zmj :jK Try.prog Try.f62.ntmps 2 [4] jh [(.tmp 4)] zkP zjT:=jU mix Try.func62 (by kernel_rfl) rfl
def PJ :List zn:=[oZ 4]
def PI :List zn:=[oM 9 0,(none,.mkfn 10 (.func 74) [(.t 9,false)] []),oS 5 10]
def PH :List zn:=[oM 11 0,oN 12 11,oF 13 12 2,(none,.st (.t 13) (.c (.slice none 0 0)) 1)]
def PG :List zn:=[oM 14 5,oM 15 1,(none,.call 16 (.t 14) [(.t 15,false)])]
def u9 :List zn:=[oM 17 0,oN 18 17,oF 19 18 3,oL 20 19 1,oE 21 20,oB 22 .gtr 21 0]
def PF :Zi:=.take [1,2,3,10,11,12] (oM 23 0) (.take [2,3,10,11,12] (oN 24 23) (.take [3,10,11,12] (oF 25 24 3) (.take [10,11,12] (oL 26 25 1) (.take [5,6,7,8,9,10,11,12] (oM 27 0) (.take [6,7,8,9,10,11,12] (oN 28 27) (.take [7,8,9,10,11,12] (oF 29 28 3) (.take [8,9,10,11,12] (oL 30 29 1) (.take [9,
 10,11,12] (oE 31 30) (.take [10,11,12] (oB 32 .sub 31 1) (.take [11,12] (oX 33 26 32 1) (.take [12] (oL 34 33 1) (.one 12 (oS 6 34) .done))))))))))))
def PE :Zi:=.take [12,13,14] (oM 35 0) (.take [2,3,4,11,12,13,14] (oM 36 0) (.take [3,4,11,12,13,14] (oN 37 36) (.take [4,11,12,13,14] (oF 38 37 3) (.take [11,12,13,14] (oL 39 38 1) (.take [6,7,8,9,10,11,12,13,14] (oM 40 0) (.take [7,8,9,10,11,12,13,14] (oN 41 40) (.take [8,9,
 10,11,12,13,14] (oF 42 41 3) (.take [9,10,11,12,13,14] (oL 43 42 1) (.take [10,11,12,13,14] (oE 44 43) (.take [11,12,13,14] (oB 45 .sub 44 1) (.one 11 (none,.slc 46 (.t 39) none (some (.t 45)) 1) (.take [13,14] (oN 47 35) (.take [14] (oF 48 47 3) (.one 14 (oW 48 46 1) .done))))))))))))))
def PD :List zn:=[oM 49 0,oN 50 49,oF 51 50 0,oL 52 51 1,oM 53 6,oX 54 52 53 1,oL 55 54 1,oE 56 55,(none,.r (.mov 57 (.c (.int .i64 0))))]
def PC :List zn:=[oD 58 .lss 57 56]
def PB :List zn:=[oX 59 55 57 1,oL 60 59 1,oS 8 60]
def V3 :List zn:=[oM 61 5,oM 62 8,(none,.call 63 (.t 61) [(.t 62,false)])]
def V0 :List zn:=[oB 64 .add 57 1,oS 57 64]
def VZ :List zn:=[oM 65 0,oN 66 65,oF 67 66 2,oL 68 67 1,oC 69 75 68]
def VY :List zn:=[oM 70 0,oN 71 70,oF 72 71 2,oL 73 72 1,oS 4 73]
def jg :List Nat:=[0,1,4,5,6,8,22,55,56,57,58]
def zkO :zC:=.seq (.reg jg PJ jg) (.seq (.reg jg PI jg) (.seq (.reg jg PH jg) (.seq (.reg jg PG jg) (.seq (.blk 0 (.loop (.seq (.seq (.reg [0,
 1,4,5,6,8,55,56,57,58] u9 jg) (.cond (.t 22) .skip (.exit 0))) (.blk 1 (.seq (.draw jg PF jg) (.seq (.draw jg PE jg) (.seq (.reg [0,1,4,5,6,8,22,58] PD jg) (.blk 2 (.loop (.seq (.reg [0,
 1,4,5,6,8,22,55,56,57] PC jg) (.seq (.cond (.t 58) .skip (.exit 2)) (.seq (.blk 3 (.seq (.reg jg PB jg) (.reg jg V3 jg))) (.reg jg V0 jg))))))))))))) (.seq (.reg jg VZ jg) (.seq (.reg jg VY jg) .ret))))))
abbrev zjS :Nat:=63
theorem zmi :jK Try.prog Try.f63.ntmps 2 [4] jg [(.tmp 4)] zkO zjS:=jU mix Try.func63 (by kernel_rfl) rfl
def PA :List zn:=[oI 2 0]
def Py :List zn:=[oI 3 0]
def Px :List zn:=[oM 6 0,oE 7 6,(none,.r (.mov 8 (.c (.int .i64 0))))]
def Pv :List zn:=[oD 9 .lss 8 7]
def Pu :List zn:=[oX 10 6 8 1,oL 11 10 1,oS 5 11]
def Ps :List zn:=[oM 12 5,oM 13 3,oD 14 .neq 12 13]
def Pr :List zn:=[oM 15 5,oS 2 15]
def Pq :List zn:=[oB 16 .add 8 1,oS 8 16]
def Pp :List zn:=[oM 17 3,oS 2 17]
def JY :List Nat:=[0,2,3,5,6,7,8,9,14]
def zkN :zC:=.seq (.reg JY PA JY) (.seq (.reg JY Py JY) (.seq (.seq (.reg [0,2,3,5,9,14] Px JY) (.blk 0 (.loop (.seq (.reg [0,2,3,5,6,7,8,14] Pv JY) (.seq (.cond (.t 9) .skip (.exit 0)) (.seq (.blk 1 (.seq (.reg JY Pu JY) (.seq (.reg [0,
 2,3,5,6,7,8,9] Ps JY) (.cond (.t 14) (.seq (.reg JY Pr JY) .ret) .skip)))) (.reg JY Pq JY))))))) (.seq (.reg JY Pp JY) .ret)))
abbrev zjR :Nat:=64
theorem zmh :jK Try.prog Try.f64.ntmps 1 [2] JY [(.tmp 2)] zkN zjR:=jU mix Try.func64 (by kernel_rfl) rfl
def Pn :List zn:=[oI 4 0]
def Pm :List zn:=[oM 7 0,oC 8 76 7,oS 5 8]
def Pl :List zn:=[oM 9 1,oC 10 76 9,oS 6 10]
def Pk :List zn:=[oM 11 5]
def zhJ :List zn:=[oM 12 6]
def zhI :List zn:=[oI 4 0]
def zhH :List zn:=[(none,.asg 4 (.c (.int .i64 (- (0+1)))) true)]
def Pj :List zn:=[oM 13 6]
def zhG :List zn:=[oI 4 1]
def Pi :List zn:=[oM 14 0,oM 15 1,oD 16 .lss 14 15]
def VX :List zn:=[(none,.asg 4 (.c (.int .i64 (- (0+1)))) true)]
def VW :List zn:=[oM 17 0,oM 18 1,oD 19 .gtr 17 18]
def VV :List zn:=[oI 4 1]
def VU :List zn:=[oI 4 0]
def jr :List Nat:=[0,1,4,5,6,11,12,13,16,19]
def zkM :zC:=.seq (.reg jr Pn jr) (.seq (.reg jr Pm jr) (.seq (.reg jr Pl jr) (.seq (.seq (.reg [0,1,4,5,6,12,13,16,19] Pk jr) (.cond (.t 11) (.seq (.seq (.reg [0,
 1,4,5,6,11,13,16,19] zhJ jr) (.cond (.t 12) (.seq (.reg jr zhI jr) .ret) .skip)) (.seq (.reg jr zhH jr) .ret)) .skip)) (.seq (.seq (.reg [0,1,4,5,6,11,12,16,19] Pj jr) (.cond (.t 13) (.seq (.reg jr zhG jr) .ret) .skip)) (.seq (.seq (.reg [0,
 1,4,5,6,11,12,13,19] Pi jr) (.cond (.t 16) (.seq (.reg jr VX jr) .ret) .skip)) (.seq (.seq (.reg [0,1,4,5,6,11,12,13,16] VW jr) (.cond (.t 19) (.seq (.reg jr VV jr) .ret) .skip)) (.seq (.reg jr VU jr) .ret)))))))
abbrev zjQ :Nat:=65
theorem zmg :jK Try.prog Try.f65.ntmps 2 [4] jr [(.tmp 4)] zkM zjQ:=jU mix Try.func65 (by kernel_rfl) rfl
def Ph :List zn:=[oZ 4]
def Pg :List zn:=[oM 9 1,oB 10 .lss 9 0]
def zhF :List zn:=[(none,.bad (some 11)),(none,.bad none)]
def Pf :List zn:=[oM 13 0,oE 14 13,(none,.r (.conv 15 .u64 (.t 14))),oM 16 1,(none,.r (.conv 17 .u64 (.t 16))),qF 18 77 15 17,oM 12 18,oY 19 12 0,oY 20 12 1,oS 5 19,oS 6 20]
def Pe :List zn:=[oM 21 5,(none,.r (.bin 22 .gtr 0 (.t 21) (.c (.int .u64 0)))),oM 23 22,oK 23 false 24 6,(some (23,false),.r (.bin 25 .gtr 0 (.t 24) (.c (.int .u64 9223372036854775807)))),oQ 26 23 25]
def zhE :List zn:=[(none,.bad (some 27)),(none,.bad none)]
def Pd :List zn:=[oM 28 6,(none,.r (.conv 29 .i64 (.t 28))),(none,.mk 30 (.t 29) (.t 29) 1 8 [.int .i64 0]),oS 7 30]
def u7 :List zn:=[oM 31 7,oM 32 0,(none,.cpy 33 (.t 31) (.t 32) 1),oS 8 33]
def Wf :List zn:=[oM 34 8,oM 35 7,oE 36 35,oD 37 .lss 34 36]
def Pc :Zi:=.take [8,9] (oM 38 8) (.take [3,7,8,9] (oM 39 7) (.take [3,7,8,9] (oM 40 8) (.take [6,7,8,9] (oM 42 7) (.take [6,7,8,9] (oM 43 8) (.two 3 (none,.slc 41 (.t 39) (some (.t 40)) none 1) (.one 6 (none,.slc 44 (.t 42) none (some (.t 43)) 1) (.one 7 (none,.cpy 45 (.t 41) (.t 44) 1) (.take [9] (oD 46 .add 38 45) (.one 9 (oS 8 46) .done)))) 6 (none,
 .slc 44 (.t 42) none (some (.t 43)) 1) (.one 3 (none,.slc 41 (.t 39) (some (.t 40)) none 1) (.one 7 (none,.cpy 45 (.t 41) (.t 44) 1) (.take [9] (oD 46 .add 38 45) (.one 9 (oS 8 46) .done)))))))))
def WZ :List zn:=[oM 47 7,oS 4 47]
def Jb :List Nat:=[0,1,4,5,6,7,8,10,26,37]
def zkL :zC:=.seq (.reg Jb Ph Jb) (.seq (.seq (.reg [0,1,4,5,6,7,8,26,37] Pg Jb) (.cond (.t 10) (.reg Jb zhF Jb) .skip)) (.seq (.reg Jb Pf Jb) (.seq (.seq (.reg [0,
 1,4,5,6,7,8,10,37] Pe Jb) (.cond (.t 26) (.reg Jb zhE Jb) .skip)) (.seq (.reg Jb Pd Jb) (.seq (.reg Jb u7 Jb) (.seq (.blk 0 (.loop (.seq (.seq (.reg [0,
 1,4,5,6,7,8,10,26] Wf Jb) (.cond (.t 37) .skip (.exit 0))) (.blk 1 (.draw Jb Pc Jb))))) (.seq (.reg Jb WZ Jb) .ret)))))))
abbrev zjP :Nat:=66
theorem zmf :jK Try.prog Try.f66.ntmps 2 [4] Jb [(.tmp 4)] zkL zjP:=jU mix Try.func66 (by kernel_rfl) rfl
def Pb :List zn:=[(none,.asg 4 (.c (.pointer none)) true)]
def Pa :List zn:=[oM 8 0,oE 9 8,oS 5 9]
def p9 :Zi:=.take [24,25,26] (oM 10 0) (.take [24,25,26] (oM 11 1) (.take [3,24,25,26] (oM 12 5) (.take [5,24,25,26] (oM 14 5) (.take [7,24,25,26] (oM 16 5) (.take [9,24,25,26] (oM 18 5) (.take [11,24,25,26] (oM 20 5) (.take [13,24,25,26] (oM 22 5) (.take [15,24,25,26] (oM 24 5) (.take [17,
 24,25,26] (oM 26 5) (.take [19,24,25,26] (oM 28 5) (.take [21,24,25,26] (oM 30 5) (.take [23,24,25,26] (oM 32 5) (.many [(3,(none,.mk 13 (.t 12) (.t 12) 1 8 [.int .i64 0])),(5,(none,.mk 15 (.t 14) (.t 14) 1 1 [.bool false])),(7,(none,.mk 17 (.t 16) (.t 16) 1 8 [.int .i64 0])),(9,(none,.mk 19 (.t 18) (.t 18) 1 8 [.int .i64 0])),
 (11,(none,.mk 21 (.t 20) (.t 20) 1 8 [.int .i64 0])),(13,(none,.mk 23 (.t 22) (.t 22) 1 8 [.int .i64 0])),(15,(none,.mk 25 (.t 24) (.t 24) 2 16 [.int .i64 0,.int .i64 0])),(17,(none,.mk 27 (.t 26) (.t 26) 1 1 [.bool false])),(19,(none,.mk 29 (.t 28) (.t 28) 1 8 [.int .i64 0])),(21,(none,.mk 31 (.t 30) (.t 30) 1 8 [.int .i64 0])),
 (23,(none,.mk 33 (.t 32) (.t 32) 1 8 [.int .i64 0]))] (.one 24 (none,.bld 34 [((0,1),(.t 10,true)),((1,1),(.t 11,true)),((2,1),(.t 13,true)),((3,1),(.t 15,true)),((4,1),(.t 17,true)),((5,1),(.t 19,true)),((6,1),(.t 21,true)),((7,1),(.t 23,true)),((8,1),(.t 25,true)),((9,1),(.t 27,true)),((10,1),(.t 29,
 true)),((11,1),(.t 31,true)),((12,1),(.t 33,true))] [.slice none 0 0,.slice none 0 0,.slice none 0 0,.slice none 0 0,.slice none 0 0,.slice none 0 0,.slice none 0 0,.slice none 0 0,.slice none 0 0,.slice none 0 0,.slice none 0 0,.slice none 0 0,.slice none 0 0,.int .i64 0,.slice none 0 0,.int .i64 0]) (.one 25 (none,
 .box 35 (.t 34)) (.one 26 (oS 6 35) .done))))))))))))))))
def p8 :List zn:=[oM 36 5,(none,.r (.mov 37 (.c (.int .i64 0))))]
def u6 :List zn:=[oD 38 .lss 37 36]
def p7 :List zn:=[oM 39 37,oS 7 39]
def p6 :Zi:=.take [1,2,3,17,18,19,20,21,22] (oM 40 6) (.take [2,3,17,18,19,20,21,22] (oN 41 40) (.take [3,17,18,19,20,21,22] (oF 42 41 10) (.take [17,18,19,20,21,22] (oL 43 42 1) (.take [17,18,19,20,21,22] (oM 44 7) (.take [6,7,8,17,18,19,20,21,22] (oM 45 6) (.take [7,8,17,18,19,20,21,
 22] (oN 46 45) (.take [8,17,18,19,20,21,22] (oF 47 46 11) (.take [17,18,19,20,21,22] (oL 48 47 1) (.take [19,20,21,22] (oM 49 7) (.take [11,12,13,17,18,19,20,21,22] (oM 50 6) (.take [12,13,17,18,19,20,21,22] (oN 51 50) (.take [13,17,18,19,20,21,22] (oF 52 51 7) (.take [17,18,19,20,21,22] (oL 53 52 1) (.take [21,
 22] (oM 54 7) (.take [17,18,19,20,21,22] (oM 55 7) (.take [19,20,21,22] (oM 56 7) (.take [18,19,20,21,22] (oX 57 43 44 1) (.one 18 (oW 57 55 1) (.take [20,21,22] (oX 58 48 49 1) (.one 20 (oW 58 56 1) (.take [22] (oX 59 53 54 1) (.one 22 (none,.st (.t 59) (.c (.int .i64 (- (0+1)))) 1) .done))))))))))))))))))))))
def u5 :List zn:=[oM 60 1,oM 61 7,oX 62 60 61 1,oL 63 62 1,(none,.r (.bin 64 .eql 0 (.t 63) (.c (.int .i64 (- (0+1))))))]
def p5 :List zn:=[oM 65 6,oN 66 65,oF 67 66 7,oL 68 67 1,oM 69 7,oM 70 7,oX 71 68 69 1,oW 71 70 1]
def pZ :List zn:=[oM 72 6,oM 73 7,(none,.call 74 (.f 78) [(.t 72,false),(.t 73,false),(.c (.int .i64 0),false),(.c (.int .i64 1),false)])]
def WY :List zn:=[oB 75 .add 37 1,oS 37 75]
def VT :List zn:=[oM 76 6,oS 4 76]
def jN :List Nat:=[0,1,4,5,6,7,36,37,38,64]
def zkK :zC:=.seq (.reg jN Pb jN) (.seq (.reg jN Pa jN) (.seq (.draw jN p9 jN) (.seq (.seq (.reg [0,1,4,5,6,7,38,64] p8 jN) (.blk 0 (.loop (.seq (.reg [0,1,4,5,6,7,36,
 37,64] u6 jN) (.seq (.cond (.t 38) .skip (.exit 0)) (.seq (.blk 1 (.seq (.reg jN p7 jN) (.seq (.draw jN p6 jN) (.seq (.reg [0,1,4,5,6,7,36,37,38] u5 jN) (.cond (.t 64) (.seq (.reg jN p5 jN) (.reg jN pZ jN)) .skip))))) (.reg jN WY jN))))))) (.seq (.reg jN VT jN) .ret))))
abbrev zjO :Nat:=67
theorem zme :jK Try.prog Try.f67.ntmps 2 [4] jN [(.tmp 4)] zkK zjO:=jU mix Try.func67 (by kernel_rfl) rfl
def pY :List zn:=[oI 4 0]
def pX :Zi:=.take [1,2,3,7,8,9] (oM 5 0) (.take [2,3,7,8,9] (oN 6 5) (.take [3,7,8,9] (oF 7 6 11) (.take [7,8,9] (oL 8 7 1) (.take [6,7,8,9] (oM 9 0) (.take [6,7,8,9] (oM 10 1) (.one 6 (qF 11 79 9 10) (.take [8,9] (oX 12 8 11 1) (.take [9] (oL 13 12 1) (.one 9 (oS 4 13) .done)))))))))
def vI :List Nat:=[0,1,4]
def zkJ :zC:=.seq (.reg vI pY vI) (.seq (.draw vI pX vI) .ret)
abbrev gM :Nat:=68
theorem zmd :jK Try.prog Try.f68.ntmps 2 [4] vI [(.tmp 4)] zkJ gM:=jU mix Try.func68 (by kernel_rfl) rfl
def u4 :List zn:=[oI 2 0,oO 3]
def u0 :List zn:=[oM 5 0,oN 6 5,oF 7 6 14,oL 8 7 1,oE 9 8,oB 10 .eql 9 0]
def pW :List zn:=[oI 2 0,oO 3]
def pV :List zn:=[oM 11 0,oN 12 11,oF 13 12 14,oL 14 13 1,(none,.r (.idxA 15 (.t 14) (.c (.int .i64 0)) 1)),oL 16 15 1,oS 4 16]
def pU :List zn:=[oM 17 0,oM 18 0,oN 19 18,oF 20 19 14,oL 21 20 1,(none,.slc 22 (.t 21) (some (.c (.int .i64 1))) none 1),oN 23 17,oF 24 23 14,oW 24 22 1]
def pT :List zn:=[oM 25 4,oS 2 25,(none,.asg 3 (.c (.bool true)) true)]
def qJ :List Nat:=[0,2,3,4,10]
def zhD :zC:=.seq (.reg qJ u4 qJ) (.seq (.seq (.reg [0,2,3,4] u0 qJ) (.cond (.t 10) (.seq (.reg qJ pW qJ) .ret) .skip)) (.seq (.reg qJ pV qJ) (.seq (.reg qJ pU qJ) (.seq (.reg qJ pT qJ) .ret))))
abbrev zdG :Nat:=69
theorem zhi :jK Try.prog Try.f69.ntmps 1 [2,3] qJ [(.tmp 2),(.tmp 3)] zhD zdG:=jU mix Try.func69 (by kernel_rfl) rfl
def pS :List zn:=[oI 6 0]
def pR :List zn:=[oM 7 0,oN 8 7,oF 9 8 15,oL 10 9 1,oB 11 .add 10 1,oN 12 7,oF 13 12 15,oW 13 11 1]
def uZ :List zn:=[oM 15 2,oM 16 0,oN 17 16,oF 18 17 1,oL 19 18 1,oM 20 1,oX 21 19 20 1,oL 22 21 1,oD 23 .eql 15 22,oM 24 23,oK 24 false 25 0,oK 24 false 26 1,(some (24,false),.call 27 (.f 80) [(.t 25,false),(.t 26,false)]),oQ 28 24 27,oM 29 28,oK 29 false 30 0,oK 29 false 31 2,
 (some (29,false),.call 32 (.f 80) [(.t 30,false),(.t 31,false)]),oQ 33 29 32,oS 14 33]
def pQ :List zn:=[oI 6 0]
def uY :List zn:=[oM 35 0,oN 36 35,oF 37 36 2,oL 38 37 1,oM 39 2,oX 40 38 39 1,oL 41 40 1,oB 42 .eql 41 0,oS 34 42]
def pP :List zn:=[oI 6 1]
def We :List zn:=[oM 44 0,oN 45 44,oF 46 45 3,oL 47 46 1,oM 48 2,oX 49 47 48 1,oL 50 49 1,oM 51 50,oK 51 true 52 0,oK 51 true 53 1,(some (51,true),.call 54 (.f 68) [(.t 52,false),(.t 53,false)]),oK 51 true 55 0,oK 51 true 56 2,(some (51,true),.call 57 (.f 68) [(.t 55,false),(.t 56,
 false)]),Vm 51 true 58 .neq 54 57,oP 59 51 58,oS 43 59]
def pO :List zn:=[oI 6 2]
def uX :List zn:=[oI 6 0]
def Jl :List Nat:=[0,1,2,6,14,34,43]
def zkI :zC:=.seq (.reg Jl pS Jl) (.seq (.reg Jl pR Jl) (.seq (.blk 0 (.seq (.reg Jl uZ Jl) (.cond (.t 14) (.seq (.reg Jl pQ Jl) .ret) (.seq (.reg Jl uY Jl) (.cond (.t 34) (.seq (.reg Jl pP Jl) .ret) (.seq (.reg Jl We Jl) (.cond (.t 43) (.seq (.reg Jl pO Jl) .ret) .skip))))))) (.seq (.reg Jl uX Jl) .ret)))
abbrev zjN :Nat:=70
theorem zmc :jK Try.prog Try.f70.ntmps 3 [6] Jl [(.tmp 6)] zkI zjN:=jU mix Try.func70 (by kernel_rfl) rfl
def pN :Zi:=.take [1,2,3,36,37,38,39,40,41,42,43] (oM 7 0) (.take [2,3,36,37,38,39,40,41,42,43] (oN 8 7) (.take [3,36,37,38,39,40,41,42,43] (oF 9 8 2) (.take [36,37,38,39,40,41,42,43] (oL 10 9 1) (.take [36,37,38,39,40,41,42,43] (oM 11 2) (.take [6,7,8,36,37,38,39,40,41,42,43] (oM 12 0) (.take [7,
 8,36,37,38,39,40,41,42,43] (oN 13 12) (.take [8,36,37,38,39,40,41,42,43] (oF 14 13 6) (.take [36,37,38,39,40,41,42,43] (oL 15 14 1) (.take [38,39,40,41,42,43] (oM 16 2) (.take [11,12,13,36,37,38,39,40,41,42,43] (oM 17 0) (.take [12,13,36,37,38,39,40,41,42,43] (oN 18 17) (.take [13,36,37,38,39,40,41,42,
 43] (oF 19 18 7) (.take [36,37,38,39,40,41,42,43] (oL 20 19 1) (.take [40,41,42,43] (oM 21 2) (.take [16,17,18,36,37,38,39,40,41,42,43] (oM 22 0) (.take [17,18,36,37,38,39,40,41,42,43] (oN 23 22) (.take [18,36,37,38,39,40,41,42,43] (oF 24 23 5) (.take [36,37,38,39,40,41,42,43] (oL 25 24 1) (.take [42,
 43] (oM 26 2) (.take [38,39,40,41,42,43] (oM 27 1) (.take [22,23,24,26,27,36,37,38,39,40,41,42,43] (oM 28 0) (.take [23,24,26,27,36,37,38,39,40,41,42,43] (oN 29 28) (.take [24,26,27,36,37,38,39,40,41,42,43] (oF 30 29 7) (.take [26,27,36,37,38,39,40,41,42,43] (oL 31 30 1) (.take [26,27,36,37,38,39,40,
 41,42,43] (oM 32 1) (.take [27,36,37,38,39,40,41,42,43] (oX 33 31 32 1) (.take [36,37,38,39,40,41,42,43] (oL 34 33 1) (.take [29,30,31,33,34,35,36,37,38,39,40,41,42,43] (oM 35 0) (.take [30,31,33,34,35,36,37,38,39,40,41,42,43] (oN 36 35) (.take [31,33,34,35,36,37,38,39,40,41,42,43] (oF 37 36 4) (.take [33,
 34,35,36,37,38,39,40,41,42,43] (oL 38 37 1) (.take [33,34,35,36,37,38,39,40,41,42,43] (oM 39 1) (.take [34,35,36,37,38,39,40,41,42,43] (oX 40 38 39 1) (.take [35,36,37,38,39,40,41,42,43] (oL 41 40 1) (.take [42,43] (oB 42 .add 41 1) (.take [37,38,39,40,41,42,43] (oX 43 10 11 1) (.one 37 (none,.st (.t 43) (.c (.int .i64 2)) 1) (.take [39,
 40,41,42,43] (oX 44 15 16 1) (.one 39 (oW 44 27 1) (.take [41,42,43] (oX 45 20 21 1) (.one 41 (oW 45 34 1) (.take [43] (oX 46 25 26 1) (.one 43 (oW 46 42 1) .done)))))))))))))))))))))))))))))))))))))))))))
def pM :List zn:=[oM 47 0,oN 48 47,oF 49 48 1,oL 50 49 1,oM 51 2,oX 52 50 51 1,oL 53 52 1,oS 6 53]
def pL :Zi:=.take [1,2,3,12,13] (oM 54 0) (.take [2,3,12,13] (oN 55 54) (.take [3,12,13] (oF 56 55 7) (.take [12,13] (oL 57 56 1) (.take [12,13] (oM 58 6) (.take [6,7,8,10,11,12,13] (oM 59 0) (.take [7,8,10,11,12,13] (oN 60 59) (.take [8,10,11,12,13] (oF 61 60 7) (.take [10,11,
 12,13] (oL 62 61 1) (.take [10,11,12,13] (oM 63 1) (.take [11,12,13] (oX 64 62 63 1) (.take [12,13] (oL 65 64 1) (.take [13] (oX 66 57 58 1) (.one 13 (oW 66 65 1) .done)))))))))))))
def pK :List zn:=[oM 67 0,oM 68 6,oM 69 0,oN 70 69,oF 71 70 4,oL 72 71 1,oM 73 1,oX 74 72 73 1,oL 75 74 1,oB 76 .add 75 2,(none,.call 77 (.f 78) [(.t 67,false),(.t 68,false),(.t 76,false),(.c (.int .i64 1),false)])]
def YJ :List Nat:=[0,1,2,6]
def zkH :zC:=.seq (.draw YJ pN YJ) (.seq (.reg YJ pM YJ) (.seq (.draw YJ pL YJ) (.reg YJ pK YJ)))
abbrev zjM :Nat:=71
theorem zmb :jK Try.prog Try.f71.ntmps 3 [] YJ [] zkH zjM:=jU mix Try.func71 (by kernel_rfl) rfl
def uW :List zn:=[oZ 6]
def uV :Zi:=.take [1,2,3,5,6,14] (oM 9 0) (.take [2,3,5,6,14] (oN 10 9) (.take [3,5,6,14] (oF 11 10 7) (.take [5,6,14] (oL 12 11 1) (.take [5,6,14] (oM 13 1) (.take [6,14] (oX 14 12 13 1) (.take [14] (oL 15 14 1) (.take [8,9,10,12,13,14] (oM 16 0) (.take [9,10,12,13,14] (oN 17 16) (.take [10,
 12,13,14] (oF 18 17 7) (.take [12,13,14] (oL 19 18 1) (.take [12,13,14] (oM 20 2) (.take [13,14] (oX 21 19 20 1) (.take [14] (oL 22 21 1) (.take [] (oD 23 .neq 15 22) .done))))))))))))))
def pJ :List zn:=[oM 24 0,oM 25 1,oM 26 0,oN 27 26,oF 28 27 7,oL 29 28 1,oM 30 1,oX 31 29 30 1,oL 32 31 1,oC3 33 82 24 25 32,oC 34 81 33,oS 7 34]
def pI :List zn:=[oM 35 7,oM 36 0,oM 37 2,oM 38 0,oN 39 38,oF 40 39 7,oL 41 40 1,oM 42 2,oX 43 41 42 1,oL 44 43 1,oC3 45 82 36 37 44,(none,.app 46 (.t 35) (.t 45) 1 8),oS 7 46]
def pH :Zi:=.take [1,2,3,22,23,24,25] (oM 47 0) (.take [2,3,22,23,24,25] (oN 48 47) (.take [3,22,23,24,25] (oF 49 48 9) (.take [22,23,24,25] (oL 50 49 1) (.take [5,6,7,9,10,22,23,24,25] (oM 51 0) (.take [6,7,9,10,22,23,24,25] (oN 52 51) (.take [7,9,10,22,23,24,25] (oF 53 52 7) (.take [9,
 10,22,23,24,25] (oL 54 53 1) (.take [9,10,22,23,24,25] (oM 55 1) (.take [10,22,23,24,25] (oX 56 54 55 1) (.take [22,23,24,25] (oL 57 56 1) (.take [12,13,14,22,23,24,25] (oM 58 0) (.take [13,14,22,23,24,25] (oN 59 58) (.take [14,22,23,24,25] (oF 60 59 9) (.take [22,23,24,25] (oL 61 60 1) (.take [16,17,
 18,20,21,22,23,24,25] (oM 62 0) (.take [17,18,20,21,22,23,24,25] (oN 63 62) (.take [18,20,21,22,23,24,25] (oF 64 63 7) (.take [20,21,22,23,24,25] (oL 65 64 1) (.take [20,21,22,23,24,25] (oM 66 2) (.take [21,22,23,24,25] (oX 67 65 66 1) (.take [22,23,24,25] (oL 68 67 1) (.take [23,24,25] (oX 69 50 57 1) (.one 23 (none,
 .st (.t 69) (.c (.bool true)) 1) (.take [25] (oX 70 61 68 1) (.one 25 (none,.st (.t 70) (.c (.bool true)) 1) .done)))))))))))))))))))))))))
def pG :List zn:=[oM 71 7,oS 6 71]
def pF :List zn:=[oM 72 0,oM 73 0,oM 74 1,qF 75 68 73 74,oM 76 0,oM 77 2,qF 78 68 76 77,oC3 79 83 72 75 78,oS 8 79]
def pE :List zn:=[oM 80 0,oM 81 1,oM 82 2,oM 83 8,(none,.call 84 (.f 84) [(.t 80,false),(.t 81,false),(.t 82,false),(.t 83,false)])]
def pD :List zn:=[oM 85 0,oM 86 2,oM 87 1,oM 88 8,(none,.call 89 (.f 84) [(.t 85,false),(.t 86,false),(.t 87,false),(.t 88,false)])]
def pC :List zn:=[oZ 6]
def jZ :List Nat:=[0,1,2,6,7,8,23]
def zhC :zC:=.seq (.reg jZ uW jZ) (.seq (.seq (.draw [0,1,2,6,7,8] uV jZ) (.cond (.t 23) (.seq (.reg jZ pJ jZ) (.seq (.reg jZ pI jZ) (.seq (.draw jZ pH jZ) (.seq (.reg jZ pG jZ) .ret)))) .skip)) (.seq (.reg jZ pF jZ) (.seq (.reg jZ pE jZ) (.seq (.reg jZ pD jZ) (.seq (.reg jZ pC jZ) .ret)))))
abbrev zgI :Nat:=72
theorem zhh :jK Try.prog Try.f72.ntmps 3 [6] jZ [(.tmp 6)] zhC zgI:=jU mix Try.func72 (by kernel_rfl) rfl
def pB :List zn:=[oZ 2]
def pA :List zn:=[oM 5 0,oN 6 5,oF 7 6 2,oL 8 7 1,oE 9 8,(none,.mk 10 (.t 9) (.t 9) 1 8 [.int .i64 0]),oS 3 10]
def pz :List zn:=[oM 11 3,oE 12 11,(none,.r (.mov 13 (.c (.int .i64 0))))]
def uU :List zn:=[oD 14 .lss 13 12]
def py :List zn:=[oM 15 13,oS 4 15]
def px :List zn:=[oM 16 3,oM 17 4,oM 18 0,oN 19 18,oF 20 19 2,oL 21 20 1,oM 22 4,oX 23 21 22 1,oL 24 23 1,oX 25 16 17 1,oW 25 24 1]
def uT :List zn:=[oM 26 0,oN 27 26,oF 28 27 3,oL 29 28 1,oM 30 4,oX 31 29 30 1,oL 32 31 1]
def pw :List zn:=[oM 33 3,oM 34 4,oX 35 33 34 1,(none,.st (.t 35) (.c (.int .i64 1)) 1)]
def uS :List zn:=[oB 36 .add 13 1,oS 13 36]
def pv :List zn:=[oM 37 3,oS 2 37]
def Jx :List Nat:=[0,2,3,4,12,13,14,32]
def zkG :zC:=.seq (.reg Jx pB Jx) (.seq (.reg Jx pA Jx) (.seq (.seq (.reg [0,2,3,4,14,32] pz Jx) (.blk 0 (.loop (.seq (.reg [0,
 2,3,4,12,13,32] uU Jx) (.seq (.cond (.t 14) .skip (.exit 0)) (.seq (.blk 1 (.seq (.reg Jx py Jx) (.seq (.reg Jx px Jx) (.seq (.reg [0,
 2,3,4,12,13,14] uT Jx) (.cond (.t 32) (.reg Jx pw Jx) .skip))))) (.reg Jx uS Jx))))))) (.seq (.reg Jx pv Jx) .ret)))
abbrev zjL :Nat:=73
theorem zma :jK Try.prog Try.f73.ntmps 1 [2] Jx [(.tmp 2)] zkG zjL:=jU mix Try.func73 (by kernel_rfl) rfl
def pu :List zn:=[oM 4 0,oN 5 4,oF 6 5 1,oL 7 6 1,oM 8 1,oX 9 7 8 1,oL 10 9 1,(none,.r (.notb 11 (.t 10)))]
def pq :List zn:=[oM 12 0,oN 13 12,oF 14 13 1,oL 15 14 1,oM 16 1,oX 17 15 16 1,(none,.st (.t 17) (.c (.bool true)) 1)]
def pp :List zn:=[oM 18 0,oM 19 0,oN 20 19,oF 21 20 2,oL 22 21 1,oM 23 1,(none,.blds 24 1 1 [((0,1),(.t 23,true))] [.int .i64 0]),(none,.app 25 (.t 22) (.t 24) 1 8),oN 26 18,oF 27 26 2,oW 27 25 1]
def pn :List zn:=[oM 28 0,oM 29 0,oN 30 29,oF 31 30 3,oL 32 31 1,oM 33 1,(none,.blds 34 1 1 [((0,1),(.t 33,true))] [.int .i64 0]),(none,.app 35 (.t 32) (.t 34) 1 8),oN 36 28,oF 37 36 3,oW 37 35 1]
def wA :List Nat:=[0,1,11]
def zkF :zC:=.seq (.reg [0,1] pu wA) (.cond (.t 11) (.seq (.reg wA pq wA) (.seq (.reg wA pp wA) (.reg wA pn wA))) .skip)
abbrev zjK :Nat:=74
theorem zl9 :jK Try.prog Try.f74.ntmps 2 [] wA [] zkF zjK:=jU mix Try.func74 (by kernel_rfl) rfl
abbrev zjJ :Nat:=75
def pm :List zn:=[oO 2]
def pj :List zn:=[oM 3 0,oM 4 0,oD 5 .neq 3 4,oS 2 5]
def vH :List Nat:=[0,2]
def zkE :zC:=.seq (.reg vH pm vH) (.seq (.reg vH pj vH) .ret)
abbrev zjI :Nat:=76
theorem zl8 :jK Try.prog Try.f76.ntmps 1 [2] vH [(.tmp 2)] zkE zjI:=jU mix Try.func76 (by kernel_rfl) rfl
def pi :List zn:=[(none,.asg 4 (.c (.int .u64 0)) true),(none,.asg 5 (.c (.int .u64 0)) true)]
def zhB :List zn:=[oM 11 0,(none,.r (.conv 12 .u32 (.t 11))),oM 13 1,(none,.r (.conv 14 .u32 (.t 13))),qF 15 87 12 14,oM 10 15,oY 16 10 0,oY 17 10 1,oS 6 16,oS 7 17]
def zhA :List zn:=[oM 18 6,(none,.r (.conv 19 .u64 (.t 18))),oM 20 7,(none,.r (.conv 21 .u64 (.t 20))),oS 4 19,oS 5 21]
def ph :List zn:=[oM 23 0,oM 24 1,qF 25 88 23 24,oM 22 25,oY 26 22 0,oY 27 22 1,oS 8 26,oS 9 27]
def pg :List zn:=[oM 28 8,oM 29 9,oS 4 28,oS 5 29]
def ya :List Nat:=[0,1,4,5,6,7,8,9]
def zkD :zC:=.seq (.reg ya pi ya) (.seq (.cond (.c (.bool false)) (.seq (.reg ya zhB ya) (.seq (.reg ya zhA ya) .ret)) .skip) (.seq (.reg ya ph ya) (.seq (.reg ya pg ya) .ret)))
abbrev zjH :Nat:=77
theorem zl7 :jK Try.prog Try.f77.ntmps 2 [4,5] ya [(.tmp 4),(.tmp 5)] zkD zjH:=jU mix Try.func77 (by kernel_rfl) rfl
def pf :Zi:=.take [1,2,3,11,12,13,14] (oM 8 0) (.take [2,3,11,12,13,14] (oN 9 8) (.take [3,11,12,13,14] (oF 10 9 3) (.take [11,12,13,14] (oL 11 10 1) (.take [11,12,13,14] (oM 12 1) (.take [6,7,8,11,12,13,14] (oM 13 0) (.take [7,8,11,12,13,14] (oN 14 13) (.take [8,11,12,13,14] (oF 15 14 4) (.take [11,
 12,13,14] (oL 16 15 1) (.take [13,14] (oM 17 1) (.take [13,14] (oM 18 2) (.take [12,13,14] (oX 19 11 12 1) (.one 12 (none,.st (.t 19) (.c (.bool true)) 1) (.take [14] (oX 20 16 17 1) (.one 14 (oW 20 18 1) .done))))))))))))))
def uR :List zn:=[oM 21 0,oN 22 21,oF 23 22 2,oL 24 23 1,oM 25 1,oX 26 24 25 1,oL 27 26 1,oB 28 .eql 27 0]
def pe :List zn:=[oM 29 0,oN 30 29,oF 31 30 2,oL 32 31 1,oM 33 1,oM 34 3,oX 35 32 33 1,oW 35 34 1]
def uQ :List zn:=[oM 36 0,oM 37 0,oN 38 37,oF 39 38 14,oL 40 39 1,oM 41 1,(none,.blds 42 1 1 [((0,1),(.t 41,true))] [.int .i64 0]),(none,.app 43 (.t 40) (.t 42) 1 8),oN 44 36,oF 45 44 14,oW 45 43 1]
def wz :List Nat:=[0,1,2,3,28]
def zkC :zC:=.seq (.draw wz pf wz) (.seq (.seq (.reg [0,1,2,3] uR wz) (.cond (.t 28) (.reg wz pe wz) .skip)) (.reg wz uQ wz))
abbrev zgH :Nat:=78
theorem zl6 :jK Try.prog Try.f78.ntmps 4 [] wz [] zkC zgH:=jU mix Try.func78 (by kernel_rfl) rfl
def pd :List zn:=[oI 4 0]
def uP :List zn:=[oM 5 0,oN 6 5,oF 7 6 10,oL 8 7 1,oM 9 1,oX 10 8 9 1,oL 11 10 1,oM 12 1,oD 13 .neq 11 12]
def pc :Zi:=.take [1,2,3,18,19] (oM 14 0) (.take [2,3,18,19] (oN 15 14) (.take [3,18,19] (oF 16 15 10) (.take [18,19] (oL 17 16 1) (.take [18,19] (oM 18 1) (.take [6,7,8,16,17,18,19] (oM 19 0) (.take [7,8,16,17,18,19] (oN 20 19) (.take [8,16,17,18,19] (oF 21 20 10) (.take [16,
 17,18,19] (oL 22 21 1) (.take [10,11,12,14,15,16,17,18,19] (oM 23 0) (.take [11,12,14,15,16,17,18,19] (oN 24 23) (.take [12,14,15,16,17,18,19] (oF 25 24 10) (.take [14,15,16,17,18,19] (oL 26 25 1) (.take [14,15,16,17,18,19] (oM 27 1) (.take [15,16,17,18,19] (oX 28 26 27 1) (.take [16,17,18,19] (oL 29 28 1) (.take [17,
 18,19] (oX 30 22 29 1) (.take [18,19] (oL 31 30 1) (.take [19] (oX 32 17 18 1) (.one 19 (oW 32 31 1) .done)))))))))))))))))))
def G9 :List zn:=[oM 33 0,oN 34 33,oF 35 34 10,oL 36 35 1,oM 37 1,oX 38 36 37 1,oL 39 38 1,oS 1 39]
def G8 :List zn:=[oM 40 1,oS 4 40]
def yk :List Nat:=[0,1,4,13]
def zkB :zC:=.seq (.reg yk pd yk) (.seq (.blk 0 (.loop (.seq (.seq (.reg [0,1,4] uP yk) (.cond (.t 13) .skip (.exit 0))) (.blk 1 (.seq (.draw yk pc yk) (.reg yk G9 yk)))))) (.seq (.reg yk G8 yk) .ret))
abbrev zjG :Nat:=79
theorem zl5 :jK Try.prog Try.f79.ntmps 2 [4] yk [(.tmp 4)] zkB zjG:=jU mix Try.func79 (by kernel_rfl) rfl
def G7 :List zn:=[oO 4]
def uO :Zi:=.take [1,2,3,5,6,7,8,9,10,11,12,13,14,15,16,17,18,19,20,21,22,23] (oM 5 0) (.take [2,3,5,6,7,8,9,10,11,12,13,14,15,16,17,18,19,20,21,22,23] (oN 6 5) (.take [3,5,6,7,8,9,10,11,12,13,14,15,16,17,18,19,20,21,22,23] (oF 7 6 7) (.take [5,6,7,8,9,10,11,12,13,14,15,16,17,
 18,19,20,21,22,23] (oL 8 7 1) (.take [5,6,7,8,9,10,11,12,13,14,15,16,17,18,19,20,21,22,23] (oM 9 1) (.take [6,7,8,9,10,11,12,13,14,15,16,17,18,19,20,21,22,23] (oX 10 8 9 1) (.take [7,8,9,10,11,12,13,14,15,16,17,18,19,20,21,22,23] (oL 11 10 1) (.take [8,9,10,11,12,13,14,15,16,17,18,19,20,21,22,23] (none,
 .r (.bin 12 .neq 0 (.t 11) (.c (.int .i64 (- (0+1)))))) (.take [9,10,11,12,13,14,15,16,17,18,19,20,21,22,23] (oM 13 12) (.take [10,11,12,20,21,22,23] (oK 13 true 14 0) (.take [11,12,20,21,22,23] (some (13,true),.r (.nilck 15 (.t 14))) (.take [12,20,21,22,23] (some (13,true),.r (.fldA 16 (.t 15) 9)) (.take [20,
 21,22,23] (Qg 13 true 17 16 1) (.take [14,15,16,18,19,20,21,22,23] (oK 13 true 18 0) (.take [15,16,18,19,20,21,22,23] (some (13,true),.r (.nilck 19 (.t 18))) (.take [16,18,19,20,21,22,23] (some (13,true),.r (.fldA 20 (.t 19) 7)) (.take [18,19,20,21,22,23] (Qg 13 true 21 20 1) (.take [18,19,20,21,22,
 23] (oK 13 true 22 1) (.take [19,20,21,22,23] (some (13,true),.r (.idxA 23 (.t 21) (.t 22) 1)) (.take [20,21,22,23] (Qg 13 true 24 23 1) (.take [21,22,23] (some (13,true),.r (.idxA 25 (.t 17) (.t 24) 1)) (.take [22,23] (Qg 13 true 26 25 1) (.take [23] (oP 27 13 26) (.one 23 (oS 4 27) .done)))))))))))))))))))))))
def vG :List Nat:=[0,1,4]
def zkA :zC:=.seq (.reg vG G7 vG) (.seq (.draw vG uO vG) .ret)
abbrev zjF :Nat:=80
theorem zl4 :jK Try.prog Try.f80.ntmps 2 [4] vG [(.tmp 4)] zkA zjF:=jU mix Try.func80 (by kernel_rfl) rfl
def G6 :List zn:=[oZ 2]
def G5 :List zn:=[oM 5 0,oE 6 5,oB 7 .sub 6 1,oI 3 0,oS 4 7]
def uN :List zn:=[oM 8 3,oM 9 4,oD 10 .lss 8 9]
def G4 :Zi:=.take [12,13,14,15] (oM 15 0) (.take [12,13,14,15] (oM 16 3) (.take [14,15] (oM 17 0) (.take [14,15] (oM 18 4) (.take [6,7,12,13,14,15] (oM 19 0) (.take [6,7,12,13,14,15] (oM 20 4) (.take [7,12,13,14,15] (oX 21 19 20 1) (.take [12,13,14,15] (oL 22 21 1) (.take [10,11,12,
 13,14,15] (oM 23 0) (.take [10,11,12,13,14,15] (oM 24 3) (.take [11,12,13,14,15] (oX 25 23 24 1) (.take [12,13,14,15] (oL 26 25 1) (.take [13,14,15] (oX 27 15 16 1) (.one 13 (oW 27 22 1) (.take [15] (oX 28 17 18 1) (.one 15 (oW 28 26 1) .done)))))))))))))))
def G3 :List zn:=[oM 11 3,oB 12 .add 11 1,oM 13 4,oB 14 .sub 13 1,oS 3 12,oS 4 14]
def G0 :List zn:=[oM 29 0,oS 2 29]
def Qh :List Nat:=[0,2,3,4,10]
def zkz :zC:=.seq (.reg Qh G6 Qh) (.seq (.seq (.reg Qh G5 Qh) (.blk 0 (.loop (.seq (.seq (.reg [0,2,3,4] uN Qh) (.cond (.t 10) .skip (.exit 0))) (.seq (.blk 1 (.draw Qh G4 Qh)) (.reg Qh G3 Qh)))))) (.seq (.reg Qh G0 Qh) .ret))
abbrev zjE :Nat:=81
theorem zl3 :jK Try.prog Try.f81.ntmps 1 [2] Qh [(.tmp 2)] zkz zjE:=jU mix Try.func81 (by kernel_rfl) rfl
def GZ :List zn:=[oZ 6]
def GY :List zn:=[oZ 7]
def GX :List zn:=[oM 9 7,oM 10 1,(none,.blds 11 1 1 [((0,1),(.t 10,true))] [.int .i64 0]),(none,.app 12 (.t 9) (.t 11) 1 8),oS 7 12]
def Wd :List zn:=[oM 37 1,oM 38 2,oD 39 .eql 37 38,oS 36 39]
def GW :List zn:=[oM 40 7,oS 6 40]
def uM :List zn:=[oM 42 0,oN 43 42,oF 44 43 2,oL 45 44 1,oM 46 1,oX 47 45 46 1,oL 48 47 1,oB 49 .eql 48 1,oS 41 49]
def GV :List zn:=[oM 50 7,oM 51 0,oN 52 51,oF 53 52 1,oL 54 53 1,oM 55 1,oX 56 54 55 1,oL 57 56 1,(none,.blds 58 1 1 [((0,1),(.t 57,true))] [.int .i64 0]),(none,.app 59 (.t 50) (.t 58) 1 8),oS 7 59]
def GU :Zi:=.take [1,2,3,11,12,13] (oM 60 0) (.take [2,3,11,12,13] (oN 61 60) (.take [3,11,12,13] (oF 62 61 6) (.take [11,12,13] (oL 63 62 1) (.take [5,6,7,9,10,11,12,13] (oM 64 0) (.take [6,7,9,10,11,12,13] (oN 65 64) (.take [7,9,10,11,12,13] (oF 66 65 1) (.take [9,10,11,12,13] (oL 67 66 1) (.take [9,
 10,11,12,13] (oM 68 1) (.take [10,11,12,13] (oX 69 67 68 1) (.take [11,12,13] (oL 70 69 1) (.take [12,13] (oX 71 63 70 1) (.take [13] (oL 72 71 1) (.one 13 (oS 1 72) .done)))))))))))))
def GT :List zn:=[oM 13 0,oN 14 13,oF 15 14 8,oL 16 15 1,oM 17 1,oX 18 16 17 2,oT 19 18 2,(none,.alloc 8 [.int .i64 0,.int .i64 0]),oW 8 19 2]
def GS :Zi:=.take [13,14] (oM 20 7) (.take [11,12,13,14] (oM 21 0) (.take [3,11,12,13,14] (none,.r (.idxP 22 (.t 8) (.c (.int .i64 0)) 2 1)) (.take [11,12,13,14] (oL 23 22 1) (.take [5,6,7,9,10,11,12,13,14] (oM 24 0) (.take [6,7,9,10,11,12,13,14] (oN 25 24) (.take [7,9,10,11,12,
 13,14] (oF 26 25 1) (.take [9,10,11,12,13,14] (oL 27 26 1) (.take [9,10,11,12,13,14] (oM 28 1) (.take [10,11,12,13,14] (oX 29 27 28 1) (.take [11,12,13,14] (oL 30 29 1) (.one 11 (oC3 31 82 21 23 30) (.one 12 (oC 32 81 31) (.one 13 (none,.app 33 (.t 20) (.t 32) 1 8) (.one 14 (oS 7 33) .done))))))))))))))
def VS :List zn:=[(none,.r (.idxP 34 (.t 8) (.c (.int .i64 1)) 2 1)),oL 35 34 1,oS 1 35]
def jM :List Nat:=[0,1,2,6,7,8,36,41]
def zky :zC:=.seq (.reg jM GZ jM) (.seq (.reg jM GY jM) (.blk 0 (.loop (.blk 1 (.seq (.reg jM GX jM) (.blk 2 (.seq (.reg jM Wd jM) (.cond (.t 36) (.seq (.reg jM GW jM) .ret) (.seq (.reg jM uM jM) (.cond (.t 41) (.seq (.reg jM GV jM) (.draw jM GU jM)) (.seq (.reg [0,
 1,2,6,7,36,41] GT jM) (.seq (.draw jM GS jM) (.reg jM VS jM)))))))))))))
abbrev zjD :Nat:=82
theorem zl2 :jK Try.prog Try.f82.ntmps 3 [6] jM [(.tmp 6)] zky zjD:=jU mix Try.func82 (by kernel_rfl) rfl
def GQ :List zn:=[oI 6 0]
def GP :List zn:=[oM 7 0,oN 8 7,oF 9 8 13,oL 10 9 1,oB 11 .add 10 1,oN 12 7,oF 13 12 13,oW 13 11 1]
def uL :List zn:=[oM 14 1,(none,.r (.bin 15 .neq 0 (.t 14) (.c (.int .i64 (- (0+1))))))]
def uK :Zi:=.take [1,2,3,5,6,11] (oM 16 0) (.take [2,3,5,6,11] (oN 17 16) (.take [3,5,6,11] (oF 18 17 12) (.take [5,6,11] (oL 19 18 1) (.take [5,6,11] (oM 20 1) (.take [6,11] (oX 21 19 20 1) (.take [11] (oL 22 21 1) (.take [8,9,10,11] (oM 23 0) (.take [9,10,11] (oN 24 23) (.take [10,
 11] (oF 25 24 13) (.take [11] (oL 26 25 1) (.take [] (oD 27 .eql 22 26) .done)))))))))))
def GO :List zn:=[oM 28 1,oS 6 28]
def GN :Zi:=.take [1,2,3,9,10] (oM 29 0) (.take [2,3,9,10] (oN 30 29) (.take [3,9,10] (oF 31 30 12) (.take [9,10] (oL 32 31 1) (.take [9,10] (oM 33 1) (.take [6,7,8,9,10] (oM 34 0) (.take [7,8,9,10] (oN 35 34) (.take [8,9,10] (oF 36 35 13) (.take [9,10] (oL 37 36 1) (.take [10] (oX 38 32 33 1) (.one 10 (oW 38 37 1) .done))))))))))
def uJ :List zn:=[oM 39 0,oM 40 1,qF 41 89 39 40,oS 1 41]
def Wb :List zn:=[oM 42 2,oM 43 1,oS 1 42,oS 2 43]
def qc :List Nat:=[0,1,2,6,15,27]
def zkx :zC:=.seq (.reg qc GQ qc) (.seq (.reg qc GP qc) (.blk 0 (.loop (.blk 1 (.seq (.seq (.reg [0,1,2,6,27] uL qc) (.cond (.t 15) (.seq (.seq (.draw [0,
 1,2,6,15] uK qc) (.cond (.t 27) (.seq (.reg qc GO qc) .ret) .skip)) (.seq (.draw qc GN qc) (.reg qc uJ qc))) .skip)) (.reg qc Wb qc))))))
abbrev zjC :Nat:=83
theorem zl1 :jK Try.prog Try.f83.ntmps 3 [6] qc [(.tmp 6)] zkx zjC:=jU mix Try.func83 (by kernel_rfl) rfl
def GM :Zi:=.take [1,2,3,5,6,14,15,16] (oM 12 0) (.take [2,3,5,6,14,15,16] (oN 13 12) (.take [3,5,6,14,15,16] (oF 14 13 4) (.take [5,6,14,15,16] (oL 15 14 1) (.take [5,6,14,15,16] (oM 16 1) (.take [6,14,15,16] (oX 17 15 16 1) (.take [14,15,16] (oL 18 17 1) (.take [8,9,10,12,
 13,14,15,16] (oM 19 0) (.take [9,10,12,13,14,15,16] (oN 20 19) (.take [10,12,13,14,15,16] (oF 21 20 4) (.take [12,13,14,15,16] (oL 22 21 1) (.take [12,13,14,15,16] (oM 23 2) (.take [13,14,15,16] (oX 24 22 23 1) (.take [14,15,16] (oL 25 24 1) (.take [15,16] (oD 26 .add 18 25) (.take [16] (oB 27 .add 26 1) (.one 16 (oS 8 27) .done))))))))))))))))
def GL :List zn:=[oM 28 0,oM 29 1,qF 30 68 28 29,oS 9 30]
def uI :List zn:=[oM 31 9,oM 32 3,oD 33 .neq 31 32]
def GK :List zn:=[oM 34 0,oN 35 34,oF 36 35 1,oL 37 36 1,oM 38 9,oX 39 37 38 1,oL 40 39 1,oS 10 40]
def GJ :List zn:=[oM 41 0,oN 42 41,oF 43 42 3,oL 44 43 1,oM 45 10,oX 46 44 45 1,oL 47 46 1,(none,.r (.notb 48 (.t 47)))]
def GI :List zn:=[oM 49 0,oN 50 49,oF 51 50 8,oL 52 51 1,oM 53 10,oM 54 1,oM 55 2,(none,.bld 56 [((0,1),(.t 54,true)),((1,1),(.t 55,true))] [.int .i64 0,.int .i64 0]),oX 57 52 53 2,oW 57 56 2]
def GH :List zn:=[oM 58 0,oM 59 10,oM 60 8,oM 61 0,oN 62 61,oF 63 62 5,oL 64 63 1,oM 65 10,oX 66 64 65 1,oL 67 66 1,oD 68 .sub 60 67,(none,.call 69 (.f 78) [(.t 58,false),(.t 59,false),(.t 68,false),(.c (.int .i64 2),false)])]
def GG :List zn:=[oM 70 0,oM 71 0,oN 72 71,oF 73 72 6,oL 74 73 1,oM 75 10,oX 76 74 75 1,oL 77 76 1,qF 78 68 70 77,oS 11 78]
def GF :List zn:=[oM 79 0,oM 80 9,oM 81 10,oM 82 3,(none,.call 83 (.f 90) [(.t 79,false),(.t 80,false),(.t 81,false),(.t 82,false)])]
def GE :List zn:=[oM 84 0,oM 85 10,oM 86 0,oN 87 86,oF 88 87 6,oL 89 88 1,oM 90 10,oX 91 89 90 1,oL 92 91 1,oM 93 3,(none,.call 94 (.f 90) [(.t 84,false),(.t 85,false),(.t 92,false),(.t 93,false)])]
def VR :List zn:=[oM 95 11,oS 9 95]
def jY :List Nat:=[0,1,2,3,8,9,10,11,33,48]
def zkw :zC:=.seq (.draw jY GM jY) (.seq (.reg jY GL jY) (.blk 0 (.loop (.seq (.seq (.reg [0,1,2,3,8,9,10,11,48] uI jY) (.cond (.t 33) .skip (.exit 0))) (.blk 1 (.seq (.reg jY GK jY) (.seq (.seq (.reg [0,
 1,2,3,8,9,10,11,33] GJ jY) (.cond (.t 48) (.seq (.reg jY GI jY) (.reg jY GH jY)) .skip)) (.seq (.reg jY GG jY) (.seq (.reg jY GF jY) (.seq (.reg jY GE jY) (.reg jY VR jY)))))))))))
abbrev zjB :Nat:=84
theorem zl0 :jK Try.prog Try.f84.ntmps 4 [] jY [] zkw zjB:=jU mix Try.func84 (by kernel_rfl) rfl
def GD :List zn:=[(none,.asg 4 (.c (.int .u64 0)) true),(none,.asg 5 (.c (.int .u64 0)) true)]
def GC :List zn:=[oM 14 0,(none,.r (.bin 15 .and 0 (.t 14) (.c (.int .u64 4294967295)))),oS 6 15]
def GB :List zn:=[oM 16 0,(none,.r (.bin 17 .shr 0 (.t 16) (.c (.int .u64 32)))),oS 7 17]
def GA :List zn:=[oM 18 1,(none,.r (.bin 19 .and 0 (.t 18) (.c (.int .u64 4294967295)))),oS 8 19]
def Gz :List zn:=[oM 20 1,(none,.r (.bin 21 .shr 0 (.t 20) (.c (.int .u64 32)))),oS 9 21]
def Gy :List zn:=[oM 22 6,oM 23 8,oD 24 .mul 22 23,oS 10 24]
def Gx :List zn:=[oM 25 7,oM 26 8,oD 27 .mul 25 26,oM 28 10,(none,.r (.bin 29 .shr 0 (.t 28) (.c (.int .u64 32)))),oD 30 .add 27 29,oS 11 30]
def Gw :List zn:=[oM 31 11,(none,.r (.bin 32 .and 0 (.t 31) (.c (.int .u64 4294967295)))),oS 12 32]
def Gv :List zn:=[oM 33 11,(none,.r (.bin 34 .shr 0 (.t 33) (.c (.int .u64 32)))),oS 13 34]
def Gu :List zn:=[oM 35 12,oM 36 6,oM 37 9,oD 38 .mul 36 37,oD 39 .add 35 38,oS 12 39]
def VQ :List zn:=[oM 40 7,oM 41 9,oD 42 .mul 40 41,oM 43 13,oD 44 .add 42 43,oM 45 12,(none,.r (.bin 46 .shr 0 (.t 45) (.c (.int .u64 32)))),oD 47 .add 44 46,oS 4 47]
def VP :List zn:=[oM 48 0,oM 49 1,oD 50 .mul 48 49,oS 5 50]
def jn :List Nat:=[0,1,4,5,6,7,8,9,10,11,12,13]
def zkv :zC:=.seq (.reg jn GD jn) (.seq (.reg jn GC jn) (.seq (.reg jn GB jn) (.seq (.reg jn GA jn) (.seq (.reg jn Gz jn) (.seq (.reg jn Gy jn) (.seq (.reg jn Gx jn) (.seq (.reg jn Gw jn) (.seq (.reg jn Gv jn) (.seq (.reg jn Gu jn) (.seq (.reg jn VQ jn) (.seq (.reg jn VP jn) .ret)))))))))))
abbrev zjA :Nat:=88
theorem zlZ :jK Try.prog Try.f88.ntmps 2 [4,5] jn [(.tmp 4),(.tmp 5)] zkv zjA:=jU mix Try.func88 (by kernel_rfl) rfl
def uH :List zn:=[oI 4 0]
def uG :List zn:=[oM 5 0,oN 6 5,oF 7 6 1,oL 8 7 1,oM 9 1,oX 10 8 9 1,oL 11 10 1,(none,.r (.bin 12 .eql 0 (.t 11) (.c (.int .i64 (- (0+1))))))]
def Gt :List zn:=[(none,.asg 4 (.c (.int .i64 (- (0+1)))) true)]
def Gs :Zi:=.take [14,15] (oM 13 0) (.take [2,3,4,12,13,14,15] (oM 14 0) (.take [3,4,12,13,14,15] (oN 15 14) (.take [4,12,13,14,15] (oF 16 15 6) (.take [12,13,14,15] (oL 17 16 1) (.take [6,7,8,10,11,12,13,14,15] (oM 18 0) (.take [7,8,10,11,12,13,14,15] (oN 19 18) (.take [8,10,
 11,12,13,14,15] (oF 20 19 1) (.take [10,11,12,13,14,15] (oL 21 20 1) (.take [10,11,12,13,14,15] (oM 22 1) (.take [11,12,13,14,15] (oX 23 21 22 1) (.take [12,13,14,15] (oL 24 23 1) (.take [13,14,15] (oX 25 17 24 1) (.take [14,15] (oL 26 25 1) (.one 14 (qF 27 68 13 26) (.one 15 (oS 4 27) .done)))))))))))))))
def YI :List Nat:=[0,1,4,12]
def zhz :zC:=.seq (.reg YI uH YI) (.seq (.seq (.reg [0,1,4] uG YI) (.cond (.t 12) (.seq (.reg YI Gt YI) .ret) .skip)) (.seq (.draw YI Gs YI) .ret))
abbrev zgG :Nat:=89
theorem zhg :jK Try.prog Try.f89.ntmps 2 [4] YI [(.tmp 4)] zhz zgG:=jU mix Try.func89 (by kernel_rfl) rfl
def Gr :List zn:=[oM 10 0,oM 11 1,qF 12 79 10 11,oM 13 0,oM 14 2,qF 15 79 13 14,oS 8 12,oS 9 15]
def Gq :List zn:=[oM 16 0,oN 17 16,oF 18 17 10,oL 19 18 1,oM 20 8,oM 21 9,oX 22 19 20 1,oW 22 21 1]
def Gp :List zn:=[oM 23 0,oN 24 23,oF 25 24 11,oL 26 25 1,oM 27 9,oM 28 3,oX 29 26 27 1,oW 29 28 1]
def xr :List Nat:=[0,1,2,3,8,9]
def zku :zC:=.seq (.reg xr Gr xr) (.seq (.reg xr Gq xr) (.reg xr Gp xr))
abbrev zgF :Nat:=90
theorem zlY :jK Try.prog Try.f90.ntmps 4 [] xr [] zku zgF:=jU mix Try.func90 (by kernel_rfl) rfl
end Go.Proofs.Ytkjppnofgmpeeaa

namespace Go.Ga.Gl
open Go Go.Ga
abbrev Es :=List (Nat×Nat)
def Z3 (a b:Nat×Nat):Prop:=a.1<b.1∨a.1=b.1∧a.2<b.2
instance (a b:Nat×Nat):Decidable (Z3 a b):=inferInstanceAs (Decidable (a.1<b.1∨a.1=b.1∧a.2<b.2))
structure GR (n:Nat)(es:Es):Prop where
 hn:n≤4096
 hm:es.length≤65536
 ok:∀e∈es,e.1<e.2∧e.2<n
 up:es.Pairwise Z3
def zB (l:Es):List (Int×Int):=l.map fun e=>((e.1:Int),(e.2:Int))
theorem zA (l:Es):(zB l).length=l.length:=by simp[zB]
theorem Qx {l:Es}{k:Nat}{a b:Nat}(h:l[k]?=some (a,b)):(zB l)[k]?=some ((a:Int),(b:Int)):=by simp[zB,h]
theorem zdc (l:Es)(k:Nat):(zB l).drop k=zB (l.drop k):=by simp[zB]
theorem castE_append (l m:Es):zB (l++m)=zB l++zB m:=by simp[zB]
def J9 (n:Int)(es:List (Int×Int))(i:Nat):Bool:=
 let e:=es.getD i (0,0)
 let p:=es.getD (i - 1) (0,0)
 decide (0≤e.1)&&decide (e.1<e.2)&&decide (e.2<n)&&(decide (i=0)||(decide (p.1<e.1)||decide (p.1=e.1)&&decide (p.2<e.2)))
def Zf (n:Int)(es:List (Int×Int)):Bool:=
 decide (0≤n)&&decide (n≤4096)&&decide (es.length≤65536)&&(List.range es.length).all (J9 n es)
theorem Z9 {n:Int}{es:List (Int×Int)}{i:Nat}(hi:i<es.length)(h:J9 n es i=false):Zf n es=false:=by
 have:(List.range es.length).all (J9 n es)=false:=by
  rw[Bool.eq_false_iff]
  intro h1
  rw[List.all_eq_true] at h1
  have:=h1 i (List.mem_range.2 hi)
  rw[h] at this;cases this
 simp[Zf,this]
theorem yA {n:Int}{es:List (Int×Int)}(h0:0≤n)(h1:n≤4096)(h2:es.length≤65536)(h:∀i,i<es.length→J9 n es i=true):Zf n es=true:=by
 simp only[Zf,Bool.and_eq_true,decide_eq_true_eq,List.all_eq_true,List.mem_range]
 exact⟨⟨⟨h0,h1⟩,h2⟩,h⟩
theorem Qn {α:Type}{R:α→α→Prop}(ht:∀a b c,R a b→R b c→R a c):∀{l:List α},(∀i a b,l[i]?=some a→l[i+1]?=some b→R a b)→l.Pairwise R
 |[],_=> .nil
 |[a],_=>by simp
 | a::b::l,h=>by
   have ih:(b::l).Pairwise R:=Qn ht fun i x y hx hy=>h (i+1) x y hx hy
   have hab:R a b:=h 0 a b rfl rfl
   refine List.Pairwise.cons ?_ ih
   intro c hc
   cases hc with
   |head=>exact hab
   |tail _ hc=>exact ht a b c hab (List.rel_of_pairwise_cons ih hc)
theorem qV (a b c:Nat×Nat)(h1:Z3 a b)(h2:Z3 b c):Z3 a c:=by
 unfold Z3 at*;omega
theorem Q3 (a:Nat×Nat):¬Z3 a a:=by unfold Z3;omega
theorem zc4 (es:Es)(i:Nat):(zB es).getD i (0,0)=(((es.getD i (0,0)).1:Int),((es.getD i (0,0)).2:Int)):=by
 simp only[zB,List.getD_eq_getElem?_getD,List.getElem?_map]
 cases es[i]?<;>rfl
theorem Vk (n:Nat)(es:Es)(i:Nat):J9 (n:Int) (zB es) i=true↔
    (es.getD i (0,0)).1<(es.getD i (0,0)).2∧(es.getD i (0,0)).2<n∧(i=0∨Z3 (es.getD (i - 1) (0,0)) (es.getD i (0,0))):=by
  simp only[J9,zc4,Z3,Bool.and_eq_true,Bool.or_eq_true,decide_eq_true_eq]
  omega
theorem Z6 {n:Nat}{es:Es}(g:GR n es):Zf n (zB es)=true:=by
 refine yA (by omega) (by have:=g.hn;omega) (by rw[zA];exact g.hm) fun i hi=>?_
 rw[zA] at hi
 rw[Vk]
 have hmem:es.getD i (0,0)∈es:=by
  rw[List.getD_eq_getElem?_getD,List.getElem?_eq_getElem hi];exact List.getElem_mem hi
 have h1:=g.ok _ hmem
 refine⟨h1.1,h1.2,?_⟩
 cases i with
 |zero=>exact .inl rfl
 | succ i=>
   right
   have:=List.pairwise_iff_getElem.1 g.up i (i+1) (by omega) hi (by omega)
   simpa[List.getD_eq_getElem?_getD,List.getElem?_eq_getElem hi,List.getElem?_eq_getElem (show i<es.length by omega)] using this
theorem Ka {n:Nat}{es:Es}(h:Zf n (zB es)=true):GR n es:=by
 simp only[Zf,Bool.and_eq_true,decide_eq_true_eq,List.all_eq_true,List.mem_range,zA] at h
 obtain⟨⟨⟨_,h1⟩,h2⟩,h3⟩:=h
 have h4:∀i,i<es.length→(es.getD i (0,0)).1<(es.getD i (0,0)).2∧(es.getD i (0,0)).2<n∧(i=0∨Z3 (es.getD (i - 1) (0,0)) (es.getD i (0,0))):=
  fun i hi=>(Vk n es i).1 (h3 i hi)
 refine⟨by omega,h2,?_,?_⟩
 · intro e he
   obtain⟨i,hi,rfl⟩:=List.mem_iff_getElem.1 he
   have:=h4 i hi
   rw[List.getD_eq_getElem?_getD,List.getElem?_eq_getElem hi] at this
   exact⟨this.1,this.2.1⟩
 · refine Qn qV fun i a b ha hb=>?_
   have hi:i+1<es.length:=(List.getElem?_eq_some_iff.1 hb).1
   have:=(h4 (i+1) hi).2.2
   rw[List.getD_eq_getElem?_getD,List.getD_eq_getElem?_getD,hb,Nat.add_sub_cancel,ha] at this
   exact this.resolve_left (by omega)
theorem WD {n:Int}{es:List (Int×Int)}(h:Zf n es=true):∃(N:Nat) (es':Es),n=N∧es=zB es'∧GR N es':=by
 have h':=h
 simp only[Zf,Bool.and_eq_true,decide_eq_true_eq,List.all_eq_true,List.mem_range] at h
 obtain⟨⟨⟨h0,h1⟩,h2⟩,h3⟩:=h
 have e:es=zB (es.map fun e=>(e.1.toNat,e.2.toNat)):=by
  apply List.ext_getElem (by simp[zB])
  intro i hi hi'
  have:=h3 i hi
  simp only[J9,Bool.and_eq_true,decide_eq_true_eq,List.getD_eq_getElem?_getD,List.getElem?_eq_getElem hi,Option.getD_some] at this
  obtain⟨⟨⟨a,b⟩,c⟩,_⟩:=this
  simp only[zB,List.getElem_map]
  apply Prod.ext
  · show _=((es[i].1.toNat:Nat):Int);omega
  · show _=((es[i].2.toNat:Nat):Int);omega
 refine⟨n.toNat,_,by omega,e,?_⟩
 apply Ka
 rw[←e,show((n.toNat:Nat):Int)=n by omega]
 exact h'
theorem GR.nodup {n:Nat}{es:Es}(g:GR n es):es.Nodup:=g.up.imp fun{a b} h e=>by subst e;exact Q3 _ h
def Y5 (l:Es)(e:Nat×Nat):Es:=(l.filter fun x=>decide (Z3 x e))++e::(l.filter fun x=> !decide (Z3 x e))
theorem zgm {l:Es}{e x:Nat×Nat}:x∈Y5 l e↔x=e∨x∈l:=by
 simp only[Y5,List.mem_append,List.mem_filter,List.mem_cons]
 by_cases h:Z3 x e<;>simp[h]
 constructor
 · rintro(h|h)
   · exact .inr h
   · exact .inl h
 · rintro(rfl|h)
   · exact absurd h (Q3 _)
   · exact .inl h
theorem XF (l:Es)(e:Nat×Nat):(Y5 l e).length=l.length+1:=by
 have:∀(p:Nat×Nat→Bool),(l.filter p).length+(l.filter fun x=> !p x).length=l.length:=by
  intro p
  induction l with
  |nil=>rfl
  | cons a l ih=>
    cases h:p a<;>simp[h]<;>omega
 simp only[Y5,List.length_append,List.length_cons]
 have:=this fun x=>decide (Z3 x e)
 omega
theorem GR.put {n:Nat}{es:Es}(g:GR n es){e:Nat×Nat}(h1:e.1<e.2)(h2:e.2<n)(h3:e∉es)(h4:es.length<65536):GR n (Y5 es e):=by
 refine⟨g.hn,by rw[XF];omega,?_,?_⟩
 · intro x hx
   rcases zgm.1 hx with rfl|hx
   · exact⟨h1,h2⟩
   · exact g.ok x hx
 · refine List.pairwise_append.2 ⟨g.up.filter _,List.pairwise_cons.2 ⟨?_,g.up.filter _⟩,?_⟩
   · intro x hx
     simp only[List.mem_filter,Bool.not_eq_true',decide_eq_false_iff_not] at hx
     have:x≠e:=fun h=>h3 (h▸hx.1)
     have h5:¬(x.1=e.1∧x.2=e.2):=fun h=>this (Prod.ext h.1 h.2)
     have h6:=hx.2
     unfold Z3 at*
     omega
   · intro x hx y hy
     simp only[List.mem_filter,decide_eq_true_eq] at hx
     have hxe:Z3 x e:=hx.2
     simp only[List.mem_cons,List.mem_filter,Bool.not_eq_true',decide_eq_false_iff_not] at hy
     rcases hy with rfl|hy
     · exact hxe
     · refine qV _ e _ hxe ?_
       have:y≠e:=fun h=>h3 (h▸hy.1)
       have h5:¬(y.1=e.1∧y.2=e.2):=fun h=>this (Prod.ext h.1 h.2)
       have h6:=hy.2
       unfold Z3 at*
       omega
theorem zcF {l:Es}{e:Nat×Nat}{k:Nat}(hk:k≤l.length)(h1:∀x∈l.take k,Z3 x e)(h2:∀x∈l.drop k,¬Z3 x e):l.take k++e::l.drop k=Y5 l e:=by
 unfold Y5
 have e1:(l.filter fun x=>decide (Z3 x e))=l.take k:=by
  conv=>lhs;rw[←List.take_append_drop k l]
  rw[List.filter_append,List.filter_eq_self.2 fun x hx=>decide_eq_true (h1 x hx),List.filter_eq_nil_iff.2 fun x hx=>by simpa using h2 x hx,List.append_nil]
 have e2:(l.filter fun x=> !decide (Z3 x e))=l.drop k:=by
  conv=>lhs;rw[←List.take_append_drop k l]
  rw[List.filter_append,List.filter_eq_nil_iff.2 fun x hx=>by simpa using h1 x hx,List.filter_eq_self.2 fun x hx=>by simpa using h2 x hx,List.nil_append]
 rw[e1,e2]
def ZZ (es:Es)(v:Nat):List Nat:=(es.filter fun e=>decide (e.2=v)).map (·.1)
def jd (es:Es)(v:Nat):List Nat:=(es.filter fun e=>decide (e.1=v)).map (·.2)
def Za (es:Es)(v:Nat):List Nat:=ZZ es v++jd es v
def qa (n:Nat)(es:Es):List (List Nat):=(List.range n).map (Za es)
def Zu (es:Es)(a b:Nat):Prop:=(a,b)∈es∨(b,a)∈es
theorem Wv {es:Es}{a b:Nat}(h:Zu es a b):Zu es b a:=h.symm
theorem JS {es:Es}{v w:Nat}:w∈Za es v↔Zu es v w:=by
 simp only[Za,ZZ,jd,List.mem_append,List.mem_map,List.mem_filter,decide_eq_true_eq,Zu]
 constructor
 · rintro(⟨⟨a,b⟩,⟨h,h1⟩,h2⟩|⟨⟨a,b⟩,⟨h,h1⟩,h2⟩)
   · right;simp at h1 h2;subst h1 h2;exact h
   · left;simp at h1 h2;subst h1 h2;exact h
 · rintro(h|h)
   · exact .inr ⟨(v,w),⟨h,rfl⟩,rfl⟩
   · exact .inl ⟨(w,v),⟨h,rfl⟩,rfl⟩
theorem jT (n:Nat)(es:Es):(qa n es).length=n:=by simp[qa]
theorem XO {n:Nat}{es:Es}{v:Nat}(h:v<n):(qa n es)[v]?=some (Za es v):=by simp[qa,h]
def zb5 (es:Es)(O:Nat→Prop)(f:Nat→Nat):Prop:=∀a b,Zu es a b→¬O a→¬O b→f a=f b
structure ZF (n:Nat)(es:Es)(O:Nat→Prop)(ps:List (List Nat)):Prop where
 mem:∀v,(∃p∈ps,v∈p)↔v<n∧¬O v
 ne:∀p∈ps,p≠ []
 inc:∀p∈ps,p.Pairwise (· < ·)
 heads:ps.Pairwise fun p q=>∀a∈p.head?,∀b∈q.head?,a<b
 disj:ps.Pairwise fun p q=>∀v∈p,v∉q
 edge:∀p∈ps,∀a∈p,∀b,Zu es a b→b<n→¬O b→b∈p
 conn:∀p∈ps,∀f,zb5 es O f→∀a∈p,∀b∈p,f a=f b
theorem GR.adj_lt {n:Nat}{es:Es}(g:GR n es):∀a b,Zu es a b→a<n∧b<n:=by
 intro a b h
 rcases h with h|h
 · obtain⟨h1,h2⟩:=g.ok _ h;simp only at h1 h2;exact⟨by omega,h2⟩
 · obtain⟨h1,h2⟩:=g.ok _ h;simp only at h1 h2;exact⟨h2,by omega⟩
theorem zeO {n:Nat}{es:Es}{O:Nat→Prop}{ps:List (List Nat)}(P:ZF n es O ps){p:List Nat}(hp:p∈ps):p.length≤n:=by
 have:=(List.pairwise_iff_getElem.1 (P.inc p hp))
 have key:∀(m:Nat) (q:List Nat),q.Pairwise (· < ·)→(∀x∈q,m≤x∧x<n)→q.length≤n - m:=by
  intro m q
  induction q generalizing m with
  |nil=>intro _ _;exact Nat.zero_le _
  | cons a q ih=>
    intro h1 h2
    have h1':=List.pairwise_cons.1 h1
    have ha:=h2 a (List.mem_cons_self ..)
    have:=ih (a+1) h1'.2 fun x hx=>⟨h1'.1 x hx,(h2 x (List.mem_cons_of_mem _ hx)).2⟩
    simp only[List.length_cons];omega
 have:=key 0 p (P.inc p hp) fun x hx=>⟨Nat.zero_le _,((P.mem x).1 ⟨p,hp,hx⟩).1⟩
 omega
theorem Y7 {n:Nat}{es:Es}{O:Nat→Prop}{ps:List (List Nat)}(P:ZF n es O ps):ps.length≤n:=by
 have h:(ps.map fun p=>p.headD 0).Pairwise (· < ·):=by
  refine List.pairwise_map.2 (P.heads.imp_of_mem fun{p q} hp hq h=>?_)
  have h1:=P.ne p hp;have h2:=P.ne q hq
  cases p with
  |nil=>exact absurd rfl h1
  | cons a p=>cases q with
    |nil=>exact absurd rfl h2
    |cons b q=>exact h a rfl b rfl
 have h2:∀x∈ps.map fun p=>p.headD 0,x<n:=by
  intro x hx
  obtain⟨p,hp,rfl⟩:=List.mem_map.1 hx
  cases p with
  |nil=>exact absurd rfl (P.ne _ hp)
  |cons a p=>exact((P.mem a).1 ⟨_,hp,List.mem_cons_self ..⟩).1
 have key:∀(m:Nat) (q:List Nat),q.Pairwise (· < ·)→(∀x∈q,m≤x∧x<n)→q.length≤n - m:=by
  intro m q
  induction q generalizing m with
  |nil=>intro _ _;exact Nat.zero_le _
  | cons a q ih=>
    intro h1 h2
    have h1':=List.pairwise_cons.1 h1
    have ha:=h2 a (List.mem_cons_self ..)
    have:=ih (a+1) h1'.2 fun x hx=>⟨h1'.1 x hx,(h2 x (List.mem_cons_of_mem _ hx)).2⟩
    simp only[List.length_cons];omega
 have:=key 0 _ h fun x hx=>⟨Nat.zero_le _,h2 x hx⟩
 simpa using this
def Zx (ps:List (List Nat)):Nat:=(ps.map fun p=>p.length%2).sum
abbrev DS :=List Bool×List Nat×List Nat
def come (s:DS)(v:Nat):DS:=if s.1.getD v false=true then s else(s.1.set v true,s.2.1++[v],s.2.2++[v])
def JF (s:DS)(l:List Nat):DS:=l.foldl come s
theorem uE (s:DS)(l:List Nat)(k:Nat)(x:Nat)(h:l[k]?=some x):JF s (l.take (k+1))=come (JF s (l.take k)) x:=by
 rw[List.take_add_one,h]
 simp[JF]
def JQ (d:List Bool):Nat:=(d.filter fun b=> !b).length
theorem wG (d:List Bool)(v x:Nat):(d.set v true).getD x false=true↔d.getD x false=true∨(x=v∧v<d.length):=by
 simp only[List.getD_eq_getElem?_getD,List.getElem?_set]
 by_cases h:v=x
 · subst h
   by_cases h2:v<d.length
   · simp[h2]
   · simp[h2]
 · simp[h,Ne.symm h]
theorem Xj :∀(d:List Bool) (v:Nat),v<d.length→d.getD v false=false→JQ (d.set v true)+1=JQ d
 |[],v,h,_=>by simp at h
 | b::d,0,_,h=>by
   simp at h;subst h;simp[JQ]
 | b::d,v+1,h,h2=>by
   have:=Xj d v (by simpa using h) (by simpa using h2)
   cases b<;>simp[JQ] at*<;>omega
structure WI (n:Nat)(es:Es)(D:List Bool)(v:Nat)(s:DS):Prop where
 len:s.1.length=n
 done:∀x,s.1.getD x false=true↔D.getD x false=true∨x∈s.2.1
 nd:s.2.1.Nodup
 now:∀x∈s.2.1,x<n∧D.getD x false=false
 rest:∀x∈s.2.2,x∈s.2.1
 rl:s.2.2.length≤s.2.1.length
 conn:∀f,zb5 es (fun x=>D.getD x false=true) f→∀x∈s.2.1,f x=f v
theorem ZC :∀{l m:List Nat},l.Nodup→(∀x∈l,x∈m)→l.length≤m.length
 |[],m,_,_=>Nat.zero_le _
 | a::l,m,h,hm=>by
   have h':=List.pairwise_cons.1 h
   have ha:=hm a (List.mem_cons_self ..)
   have:=ZC (l:=l) (m:=m.erase a) h'.2 fun x hx=>(List.mem_erase_of_ne fun e=>h'.1 x hx e.symm).2 (hm x (List.mem_cons_of_mem _ hx))
   rw[List.length_erase_of_mem ha] at this
   have:=List.length_pos_of_mem ha
   simp;omega
theorem WI.size {n:Nat}{es:Es}{D:List Bool}{v:Nat}{s:DS}(w:WI n es D v s):s.2.1.length≤n:=by
 have:=ZC w.nd (m:=List.range n) fun x hx=>List.mem_range.2 (w.now x hx).1
 simpa using this
theorem WI.start {n:Nat}{es:Es}{D:List Bool}{v:Nat}(hD:D.length=n):WI n es D v (D,[],[]):=
 ⟨hD,fun x=>by simp,List.nodup_nil,fun x h=>by simp at h,fun x h=>by simp at h,Nat.le_refl _,fun f _ x h=>by simp at h⟩
theorem WI.come {n:Nat}{es:Es}{D:List Bool}{v:Nat}{s:DS}(w:WI n es D v s){x:Nat}(hx:x<n)(hc:x=v∨∃u∈s.2.1,Zu es u x):WI n es D v (come s x):=by
 unfold Gl.come
 split
 · exact w
 · rename_i h
   have hD:D.getD x false=false:=by
    cases e:D.getD x false with
    |false=>rfl
    |true=>exact absurd ((w.done x).2 (.inl e)) h
   have hn:x∉s.2.1:=fun e=>h ((w.done x).2 (.inr e))
   refine⟨by simpa using w.len,fun y=>?_,?_,?_,?_,by simp;exact w.rl,?_⟩
   · show(s.1.set x true).getD y false=true↔_
     rw[wG,w.done,w.len,List.mem_append,List.mem_singleton]
     constructor
     · rintro(h|h)
       · exact h.imp id .inl
       · exact .inr (.inr h.1)
     · rintro(h|h|h)
       · exact .inl (.inl h)
       · exact .inl (.inr h)
       · exact .inr ⟨h,hx⟩
   · exact List.nodup_append.2 ⟨w.nd,by simp,fun a ha b hb e=>by simp at hb;subst hb;subst e;exact hn ha⟩
   · intro y hy
     rcases List.mem_append.1 hy with hy|hy
     · exact w.now y hy
     · simp at hy;subst hy;exact⟨hx,hD⟩
   · intro y hy
     rcases List.mem_append.1 hy with hy|hy
     · exact List.mem_append_left _ (w.rest y hy)
     · exact List.mem_append_right _ hy
   · intro f hf y hy
     rcases List.mem_append.1 hy with hy|hy
     · exact w.conn f hf y hy
     · simp at hy;subst hy
       rcases hc with rfl|⟨u,hu,ha⟩
       · rfl
       · rw[←w.conn f hf u hu]
         have h1:=(w.now u hu).2
         exact(hf u y ha (by show¬(D.getD u false=true);rw[h1];simp) (by show¬(D.getD y false=true);rw[hD];simp)).symm
theorem VN {s:DS}{x y:Nat}(h:s.1.getD y false=true):(come s x).1.getD y false=true:=by
 unfold come
 split
 · exact h
 · exact(wG _ _ _).2 (.inl h)
theorem zfo {s:DS}{x:Nat}(h:x<s.1.length):(come s x).1.getD x false=true:=by
 unfold come
 split
 · assumption
 · exact(wG _ _ _).2 (.inr ⟨rfl,h⟩)
theorem Gk {s:DS}{x y:Nat}(h:y∈s.2.1):y∈(come s x).2.1:=by
 unfold come
 split
 · exact h
 · exact List.mem_append_left _ h
theorem VM {s:DS}{x y:Nat}(h:y∈(come s x).2.1):y∈s.2.1∨y∈(come s x).2.2:=by
 unfold come at*
 split at h
 · rename_i h1;rw[if_pos h1];exact .inl h
 · rename_i h1;rw[if_neg h1]
   rcases List.mem_append.1 h with h|h
   · exact .inl h
   · exact .inr (List.mem_append_right _ h)
theorem zfn {s:DS}{x y:Nat}(h:y∈s.2.2):y∈(come s x).2.2:=by
 unfold come
 split
 · exact h
 · exact List.mem_append_left _ h
theorem KL {s:DS}{x:Nat}(h:x<s.1.length):2*JQ (come s x).1+(come s x).2.2.length≤2*JQ s.1+s.2.2.length:=by
 unfold come
 split
 · exact Nat.le_refl _
 · rename_i h1
   have:=Xj s.1 x h (by simpa using h1)
   simp only[List.length_append,List.length_singleton]
   omega
def zii (es:Es)(U:Nat→Prop)(s:DS):Prop:=∀x∈s.2.1,x∉s.2.2→¬U x→∀y,Zu es x y→s.1.getD y false=true
structure WJ (n:Nat)(es:Es)(D:List Bool)(v:Nat)(s:DS):Prop extends WI n es D v s where
 gone:zii es (fun _=>False) s
 self:v∈s.2.1
theorem Gj {n:Nat}{es:Es}(hes:∀a b,Zu es a b→a<n∧b<n){D:List Bool}{v u:Nat}{s:DS}(w:WI n es D v s)(hu:u∈s.2.1)(hg:zii es (fun x=>x=u) s):
    ∀k,k≤(Za es u).length→
    WI n es D v (JF s ((Za es u).take k))∧u∈(JF s ((Za es u).take k)).2.1∧zii es (fun x=>x=u) (JF s ((Za es u).take k))∧
    (∀y∈(Za es u).take k,(JF s ((Za es u).take k)).1.getD y false=true)∧
    2*JQ (JF s ((Za es u).take k)).1+(JF s ((Za es u).take k)).2.2.length≤2*JQ s.1+s.2.2.length∧(∀x∈s.2.1,x∈(JF s ((Za es u).take k)).2.1):=by
  intro k
  induction k with
  |zero=>intro _;simp only[List.take_zero,JF,List.foldl_nil];exact⟨w,hu,hg,fun y hy=>by simp at hy,Nat.le_refl _,fun x h=>h⟩
  | succ k ih=>
    intro hk
    obtain⟨h1,h2,h3,h4,h5,h6⟩:=ih (by omega)
    have hx:(Za es u)[k]?=some ((Za es u)[k]'(by omega)):=List.getElem?_eq_getElem _
    generalize (Za es u)[k]'(by omega)=x at hx
    have hax:Zu es u x:=JS.1 (List.mem_iff_getElem?.2 ⟨k,hx⟩)
    have hxn:=(hes u x hax).2
    rw[uE _ _ _ _ hx]
    refine⟨h1.come hxn (.inr ⟨u,h2,hax⟩),Gk h2,?_,?_,Nat.le_trans (KL (by rw[h1.len];exact hxn)) h5,fun x h=>Gk (h6 x h)⟩
    · intro y hy hr hne z hz
      rcases VM hy with hy|hy
      · exact VN (h3 y hy (fun e=>hr (zfn e)) hne z hz)
      · exact absurd hy hr
    · intro y hy
      rw[List.take_add_one,hx] at hy
      rcases List.mem_append.1 hy with hy|hy
      · exact VN (h4 y hy)
      · simp at hy;subst hy;exact zfo (by rw[h1.len];exact hxn)
theorem WJ.step {n:Nat}{es:Es}(hes:∀a b,Zu es a b→a<n∧b<n){D:List Bool}{v u:Nat}{d:List Bool}{nw r:List Nat}(w:WJ n es D v (d,nw,r++[u])):
    WJ n es D v (JF (d,nw,r) (Za es u))∧2*JQ (JF (d,nw,r) (Za es u)).1+(JF (d,nw,r) (Za es u)).2.2.length<2*JQ d+(r++[u]).length:=by
  have w1:WI n es D v (d,nw,r):=⟨w.len,w.done,w.nd,w.now,fun x h=>w.rest x (List.mem_append_left _ h),by have:=w.rl;simp at this⊢;omega,w.conn⟩
  have hu:u∈nw:=w.rest u (List.mem_append_right _ (List.mem_singleton.2 rfl))
  have hg:zii es (fun x=>x=u) (d,nw,r):=fun x hx hr hne y hy=>w.gone x hx (fun e=>by
    rcases List.mem_append.1 e with e|e
    · exact hr e
    · simp at e;exact hne e) (fun e=>e) y hy
  obtain⟨h1,h2,h3,h4,h5,h6⟩:=Gj hes w1 hu hg (Za es u).length (Nat.le_refl _)
  rw[List.take_length] at*
  refine⟨⟨h1,fun x hx hr _ y hy=>?_,h6 v w.self⟩,by simp at h5⊢;omega⟩
  by_cases e:x=u
  · subst e;exact h4 y (JS.2 hy)
  · exact h3 x hx hr e y hy
theorem WJ.start {n:Nat}{es:Es}{D:List Bool}{v:Nat}(hD:D.length=n)(hv:v<n)(h0:D.getD v false=false):WJ n es D v (come (D,[],[]) v):=by
 refine⟨(WI.start hD).come hv (.inl rfl),?_,?_⟩
 · intro x hx hr _ y _
   rcases VM hx with h|h
   · simp at h
   · exact absurd h hr
 · have:¬D.getD v false=true:=by rw[h0];simp
   unfold come;rw[if_neg this];simp
structure KV (n:Nat)(es:Es)(D:List Bool)(v:Nat)(D':List Bool)(p:List Nat):Prop where
 len:D'.length=n
 done:∀x,D'.getD x false=true↔D.getD x false=true∨x∈p
 inc:p.Pairwise (· < ·)
 mem:∀x∈p,x<n∧D.getD x false=false
 self:v∈p
 closed:∀x∈p,∀y,Zu es x y→D'.getD y false=true
 conn:∀f,zb5 es (fun x=>D.getD x false=true) f→∀x∈p,f x=f v
theorem WJ.piece {n:Nat}{es:Es}{D:List Bool}{v:Nat}{d:List Bool}{nw p:List Nat}(w:WJ n es D v (d,nw,[]))(hp:p.Perm nw)(hs:p.Pairwise (· ≤ ·)):KV n es D v d p where
 len:=w.len
 done x:=by rw[w.done,hp.mem_iff]
 inc:=by
  have nd:p.Nodup:=hp.nodup_iff.2 w.nd
  refine(hs.and nd).imp fun{a b} h=>?_
  have:=h.1;have:=h.2;omega
 mem x hx:=w.now x (hp.mem_iff.1 hx)
 self:=hp.mem_iff.2 w.self
 closed x hx y hy:=w.gone x (hp.mem_iff.1 hx) (by simp) (fun e=>e) y hy
 conn f hf x hx:=w.conn f hf x (hp.mem_iff.1 hx)
structure OI (n:Nat)(es:Es)(O:Nat→Prop)(v:Nat)(D:List Bool)(ps:List (List Nat)):Prop where
 len:D.length=n
 done:∀x,x<n→(D.getD x false=true↔O x∨∃p∈ps,x∈p)
 out:∀p∈ps,∀x∈p,x<n∧¬O x
 before:∀x,x<v→x<n→D.getD x false=true
 ne:∀p∈ps,p≠ []
 inc:∀p∈ps,p.Pairwise (· < ·)
 low:∀p∈ps,∀a∈p.head?,a<v
 heads:ps.Pairwise fun p q=>∀a∈p.head?,∀b∈q.head?,a<b
 disj:ps.Pairwise fun p q=>∀v∈p,v∉q
 edge:∀p∈ps,∀a∈p,∀b,Zu es a b→b<n→¬O b→b∈p
 conn:∀p∈ps,∀f,zb5 es O f→∀a∈p,∀b∈p,f a=f b
theorem OI.start {n:Nat}{es:Es}{O:Nat→Prop}{D:List Bool}(hD:D.length=n)(h:∀x,x<n→(D.getD x false=true↔O x)):OI n es O 0 D []:=
 ⟨hD,fun x hx=>by rw[h x hx];simp,fun p hp=>by simp at hp,fun x hx=>by omega,fun p hp=>by simp at hp,fun p hp=>by simp at hp,fun p hp=>by simp at hp,.nil,.nil,fun p hp=>by simp at hp,fun p hp=>by simp at hp⟩
theorem OI.skip {n:Nat}{es:Es}{O:Nat→Prop}{v:Nat}{D:List Bool}{ps:List (List Nat)}(w:OI n es O v D ps)(h:D.getD v false=true):OI n es O (v+1) D ps:=
 { w with
  before:=fun x hx hn=>by
   rcases Nat.lt_or_ge x v with h1|h1
   · exact w.before x h1 hn
   · have:x=v:=by omega
     subst this;exact h
  low:=fun p hp a ha=>Nat.lt_succ_of_lt (w.low p hp a ha)}
theorem OI.take {n:Nat}{es:Es}(hes:∀a b,Zu es a b→a<n∧b<n){O:Nat→Prop}{v:Nat}{D D':List Bool}{ps:List (List Nat)}{p:List Nat}(w:OI n es O v D ps)(hp:KV n es D v D' p):OI n es O (v+1) D' (ps++[p]):=by
 have hO:∀x∈p,¬O x:=fun x hx ho=>by
  have h1:=hp.mem x hx
  have:=(w.done x h1.1).2 (.inl ho)
  rw[h1.2] at this;cases this
 have hsep:∀q∈ps,∀x∈q,x∉p:=fun q hq x hx hxp=>by
  have h1:=hp.mem x hxp
  have:=(w.done x h1.1).2 (.inr ⟨q,hq,hx⟩)
  rw[h1.2] at this;cases this
 have hmin:∀x∈p,v≤x:=fun x hx=>by
  rcases Nat.lt_or_ge x v with h|h
  · have h1:=hp.mem x hx
    have:=w.before x h h1.1
    rw[h1.2] at this;cases this
  · exact h
 have hhead:∀a∈p.head?,a=v:=by
  intro a ha
  cases p with
  |nil=>cases ha
  | cons b p=>
    have e0:b=a:=by simpa using ha
    subst e0
    have h1:=hmin b (List.mem_cons_self ..)
    rcases List.mem_cons.1 hp.self with e|e
    · exact e.symm
    · have:=(List.pairwise_cons.1 hp.inc).1 v e;omega
 refine⟨hp.len,fun x hx=>?_,?_,fun x hx hn=>?_,?_,?_,?_,?_,?_,?_,?_⟩
 · rw[hp.done,w.done x hx]
   simp only[List.mem_append,List.mem_singleton]
   constructor
   · rintro((h|⟨q,h1,h2⟩)|h)
     · exact .inl h
     · exact .inr ⟨q,.inl h1,h2⟩
     · exact .inr ⟨p,.inr rfl,h⟩
   · rintro(h|⟨q,h1|h1,h2⟩)
     · exact .inl (.inl h)
     · exact .inl (.inr ⟨q,h1,h2⟩)
     · subst h1;exact .inr h2
 · intro q hq x hx
   rcases List.mem_append.1 hq with hq|hq
   · exact w.out q hq x hx
   · simp at hq;subst hq;exact⟨(hp.mem x hx).1,hO x hx⟩
 · rw[hp.done]
   rcases Nat.lt_or_ge x v with h1|h1
   · exact .inl (w.before x h1 hn)
   · have:x=v:=by omega
     subst this;exact .inr hp.self
 · intro q hq
   rcases List.mem_append.1 hq with hq|hq
   · exact w.ne q hq
   · simp at hq;subst hq;intro e;rw[e] at hp;exact absurd hp.self (by simp)
 · intro q hq
   rcases List.mem_append.1 hq with hq|hq
   · exact w.inc q hq
   · simp at hq;subst hq;exact hp.inc
 · intro q hq a ha
   rcases List.mem_append.1 hq with hq|hq
   · exact Nat.lt_succ_of_lt (w.low q hq a ha)
   · simp at hq;subst hq;rw[hhead a ha];omega
 · refine List.pairwise_append.2 ⟨w.heads,by simp,fun q hq r hr a ha b hb=>?_⟩
   simp at hr;subst hr
   rw[hhead b hb];exact w.low q hq a ha
 · refine List.pairwise_append.2 ⟨w.disj,by simp,fun q hq r hr x hx=>?_⟩
   simp at hr;subst hr
   exact hsep q hq x hx
 · intro q hq a ha b hab hb hob
   rcases List.mem_append.1 hq with hq|hq
   · exact w.edge q hq a ha b hab hb hob
   · simp at hq;subst hq
     rcases(hp.done b).1 (hp.closed a ha b hab) with h|h
     · rcases(w.done b hb).1 h with h|⟨q,hq,hbq⟩
       · exact absurd h hob
       · exact absurd ha (hsep q hq a (w.edge q hq b hbq a (Wv hab) (hp.mem a ha).1 (hO a ha)))
     · exact h
 · intro q hq f hf a ha b hb
   rcases List.mem_append.1 hq with hq|hq
   · exact w.conn q hq f hf a ha b hb
   · simp at hq;subst hq
     have hf':zb5 es (fun x=>D.getD x false=true) f:=by
      intro x y hxy hx hy
      have hl:=hes x y hxy
      exact hf x y hxy (fun ho=>hx ((w.done x hl.1).2 (.inl ho))) fun ho=>hy ((w.done y hl.2).2 (.inl ho))
     rw[hp.conn f hf' a ha,hp.conn f hf' b hb]
theorem OI.pieces {n:Nat}{es:Es}{O:Nat→Prop}{D:List Bool}{ps:List (List Nat)}(w:OI n es O n D ps):ZF n es O ps where
 mem v:=by
  constructor
  · rintro⟨p,hp,hv⟩;exact w.out p hp v hv
  · rintro⟨h1,h2⟩
    rcases(w.done v h1).1 (w.before v h1 h1) with h|h
    · exact absurd h h2
    · exact h
 ne:=w.ne
 inc:=w.inc
 heads:=w.heads
 disj:=w.disj
 edge:=w.edge
 conn:=w.conn
end Go.Ga.Gl
set_option maxRecDepth 100000
set_option maxHeartbeats 4000000
namespace Go.Proofs.Ytkjppnofgmpeeaa
open Go Go.Ga Go.Ga.Gl
theorem gX (a:Int):zo Try.prog [] zjI [.sc (.int .i64 a)] [] fun r h'=>r= .sc (.bool false)∧h'=[]:=by
 refine zl8 rfl ?_
 unfold zkE vH
 refine za fun KY hKY=>?_
 simp only[go_sem,pm]
 apply hKY
 refine za fun KY hKY=>?_
 simp only[go_sem,pj,ne_eq,not_true_eq_false]
 apply hKY
 refine zj ?_
 simp only[go_sem]
def vz (a b:Int):Int:=if a<b then -1 else if b<a then 1 else 0
theorem uD (a b:Int):zo Try.prog [] zjQ [.sc (.int .i64 a),.sc (.int .i64 b)] [] fun r h'=>r= .sc (.int .i64 (vz a b))∧h'=[]:=by
 refine zmg rfl ?_
 unfold zkM jr
 refine za fun KY hKY=>?_
 simp only[go_sem,Pn]
 apply hKY
 refine za fun KY hKY=>?_
 simp only[go_sem,Pm]
 refine zt rfl (by simp only[go_sem]<;>rfl) ((gX _).mono ?_)
 rintro rr hh ⟨rfl,rfl⟩
 refine⟨rfl,rfl,rfl,?_⟩
 simp only[go_sem]
 apply hKY
 refine za fun KY hKY=>?_
 simp only[go_sem,Pl]
 refine zt rfl (by simp only[go_sem]<;>rfl) ((gX _).mono ?_)
 rintro rr hh ⟨rfl,rfl⟩
 refine⟨rfl,rfl,rfl,?_⟩
 simp only[go_sem]
 apply hKY
 refine zf fun X1 hn1 he1 hr1=>?_
 refine za fun KY hKY=>?_
 simp only[go_sem,Pk]
 apply hKY
 refine Zm ?_
 refine zg ?_
 repeat (first|refine hn1 _ ?_|refine he1 _ _ ?_)
 refine zf fun X2 hn2 he2 hr2=>?_
 refine za fun KY hKY=>?_
 simp only[go_sem,Pj]
 apply hKY
 refine Zm ?_
 refine zg ?_
 repeat (first|refine hn2 _ ?_|refine he2 _ _ ?_|refine hn1 _ ?_|refine he1 _ _ ?_)
 unfold vz
 refine zf fun X3 hn3 he3 hr3=>?_
 refine za fun KY hKY=>?_
 simp only[go_sem,Pi]
 apply hKY
 by_cases h:a<b
 · refine ZE (by first|rfl|(simp only[go_sem,h];try simp(disch:=omega) only[decide_eq_true,decide_eq_false])) ?_
   refine za fun KY hKY=>?_
   simp only[go_sem,VX]
   apply hKY
   refine zj ?_
   repeat (first|refine hr3 _ ?_|refine hr2 _ ?_|refine hr1 _ ?_)
   simp only[go_sem,h]
 · refine Zw (by first|rfl|(simp only[go_sem,h];try simp(disch:=omega) only[decide_eq_true,decide_eq_false])) ?_
   refine zg ?_
   repeat (first|refine hn3 _ ?_|refine he3 _ _ ?_|refine hn2 _ ?_|refine he2 _ _ ?_|refine hn1 _ ?_|refine he1 _ _ ?_)
   refine zf fun X4 hn4 he4 hr4=>?_
   refine za fun KY hKY=>?_
   simp only[go_sem,VW]
   apply hKY
   by_cases h2:b<a
   · refine ZE (by first|rfl|(simp only[go_sem,h2];try simp(disch:=omega) only[decide_eq_true,decide_eq_false])) ?_
     refine za fun KY hKY=>?_
     simp only[go_sem,VV]
     apply hKY
     refine zj ?_
     repeat (first|refine hr4 _ ?_|refine hr3 _ ?_|refine hr2 _ ?_|refine hr1 _ ?_)
     simp only[go_sem,h,h2]
   · refine Zw (by first|rfl|(simp only[go_sem,h2];try simp(disch:=omega) only[decide_eq_true,decide_eq_false])) ?_
     refine zg ?_
     repeat (first|refine hn4 _ ?_|refine he4 _ _ ?_|refine hn3 _ ?_|refine he3 _ _ ?_|refine hn2 _ ?_|refine he2 _ _ ?_|refine hn1 _ ?_|refine he1 _ _ ?_)
     refine za fun KY hKY=>?_
     simp only[go_sem,VU]
     apply hKY
     refine zj ?_
     repeat (first|refine hr4 _ ?_|refine hr3 _ ?_|refine hr2 _ ?_|refine hr1 _ ?_)
     simp only[go_sem,h,h2]
theorem uy :∀{l:List Int} {k:Nat},k<l.length→l.getD k 0≠0→(∀j,j<k→l.getD j 0=0)→l.find? (· ≠0)=some (l.getD k 0)
 |[],k,h,_,_=>by simp at h
 | a::l,0,_,h,_=>by
   have:a≠0:=by simpa using h
   simp[List.find?,this]
 | a::l,k+1,h,h2,hz=>by
   have h0:a=0:=by simpa using hz 0 (by omega)
   subst h0
   have ih:=uy (l:=l) (k:=k) (by simpa using h) (by simpa using h2) fun j hj=>by simpa using hz (j+1) (by omega)
   simp only[List.find?,ne_eq,not_true_eq_false,decide_false]
   simpa using ih
theorem VI :∀{l:List Int},(∀j,j<l.length→l.getD j 0=0)→l.find? (· ≠0)=none
 |[],_=>rfl
 | a::l,hz=>by
   have h0:a=0:=by simpa using hz 0 (by simp)
   subst h0
   have ih:=VI (l:=l) fun j hj=>by simpa using hz (j+1) (by simp;omega)
   simp only[List.find?,ne_eq,not_true_eq_false,decide_false]
   simpa using ih
theorem zni (l:List Int)(hl:l.length≤1000):zo Try.prog [] zjR [.imm 1 (zl l)] [] fun r h'=>r= .sc (.int .i64 ((l.find? (· ≠0)).getD 0))∧h'=[]:=by
 refine zmh rfl ?_
 unfold zkN JY
 refine za fun KY hKY=>?_
 simp only[go_sem,PA]
 apply hKY
 refine za fun KY hKY=>?_
 simp only[go_sem,Py]
 apply hKY
 refine zf fun X1 hn1 he1 hr1=>?_
 refine za fun KY hKY=>?_
 simp only[go_sem,Px]
 apply hKY
 refine zk fun X2 hn2 he2 hf2 hr2=>?_
 try simp only[go_sem]
 refine zL (α:=Nat) [5,9,14] (fun k=>[(8,.sc (.int .i64 (k:Int)))]) (fun k=>[]) (fun k q=>k≤l.length∧q=l.length - k∧∀j,j<k→l.getD j 0=0) (0) (l.length) rfl (by first|(simp only[go_sem,zd,ze];done)|with_reducible rfl|rfl) (⟨by omega,rfl,fun j h=>by omega⟩) ?_
 rintro k q ⟨hk,rfl,hz⟩ X3 hn3 he3 hr3
 simp only[go_sem,zd,ze]
 refine za fun KY hKY=>?_
 simp only[go_sem,Pv]
 apply hKY
 refine zf fun X4 hn4 he4 hr4=>?_
 by_cases h:k<l.length
 · refine ZA ?_
   refine zg ?_
   repeat (first|refine hn4 _ ?_|refine he4 _ _ ?_|refine he3 _ _ ?_|refine hn2 _ ?_|refine he2 _ ?_|refine hf2 _ _ (by decide) ?_|refine hn1 _ ?_|refine he1 _ _ ?_)
   refine zf fun X5 hn5 he5 hr5=>?_
   refine zk fun X6 hn6 he6 hf6 hr6=>?_
   refine za fun KY hKY=>?_
   simp only[go_sem,Pu]
   repeat (simp(disch:=omega) only[if_pos,if_neg,decide_eq_true,decide_eq_false,zJ,zx,zh];try simp only[go_sem])
   apply hKY
   refine za fun KY hKY=>?_
   simp only[go_sem,Ps]
   apply hKY
   by_cases h2:l.getD k 0=0
   · refine Zw (by first|rfl|(simp only[go_sem,h2,ne_eq,not_true_eq_false];try simp(disch:=omega) only[decide_eq_true,decide_eq_false])) ?_
     refine zg ?_
     repeat (first|refine hn6 _ ?_|refine he6 _ ?_|refine hf6 _ _ (by decide) ?_|refine hn5 _ ?_|refine he5 _ _ ?_|refine hn4 _ ?_|refine he4 _ _ ?_|refine he3 _ _ ?_|refine hn2 _ ?_|refine he2 _ ?_|refine hf2 _ _ (by decide) ?_|refine hn1 _ ?_|refine he1 _ _ ?_)
     refine zm fun KY hKY=>?_
     simp only[go_sem,Pq]
     repeat (simp(disch:=omega) only[if_pos,if_neg,decide_eq_true,decide_eq_false,zJ,zx,zh];try simp only[go_sem])
     apply hKY
     repeat (first|refine hn6 _ ?_|refine he6 _ ?_|refine hf6 _ _ (by decide) ?_|refine hn5 _ ?_|refine he5 _ _ ?_|refine hn4 _ ?_|refine he4 _ _ ?_)
     refine hn3 _ (k+1) (l.length - (k+1)) (by omega) (by first|(simp only[go_sem,zd,ze];done)|with_reducible rfl|rfl) ?_
     refine⟨h,rfl,fun j hj=>?_⟩
     rcases Nat.lt_or_ge j k with h3|h3
     · exact hz j h3
     · have:j=k:=by omega
       subst this;exact h2
   · refine ZE (by first|rfl|(simp only[go_sem,h2,ne_eq,not_false_eq_true];try simp(disch:=omega) only[decide_eq_true,decide_eq_false])) ?_
     refine za fun KY hKY=>?_
     simp only[go_sem,Pr]
     apply hKY
     refine zj ?_
     repeat (first|refine hr6 _ ?_|refine hr5 _ ?_|refine hr4 _ ?_|refine hr3 _ ?_|refine hr2 _ ?_|refine hr1 _ ?_)
     simp only[go_sem]
     rw[uy h h2 hz]
     rfl
 · refine Zm ?_
   refine zy ?_
   repeat (first|refine hn4 _ ?_|refine he4 _ _ ?_|refine he3 _ _ ?_|refine hn2 _ ?_|refine he2 _ ?_|refine hf2 _ _ (by decide) ?_|refine hn1 _ ?_|refine he1 _ _ ?_)
   refine za fun KY hKY=>?_
   simp only[go_sem,Pp]
   apply hKY
   refine zj ?_
   repeat (first|refine hr4 _ ?_|refine hr3 _ ?_|refine hr2 _ ?_|refine hr1 _ ?_)
   simp only[go_sem]
   have:k=l.length:=by omega
   subst this
   rw[VI hz]
   rfl
end Go.Proofs.Ytkjppnofgmpeeaa

namespace Go.Ga.Gl
open Go Go.Ga
theorem zhb {p :List Nat}{a:Nat}(h:a∈p.head?):a∈p:=by
 cases p with
 |nil=>cases h
 | cons b p => have:b=a:=by simpa using h
               subst this;exact List.mem_cons_self ..
structure LI (n:Nat)(es:Es)(O:Nat→Prop)(lab:List Int):Prop where
 len:lab.length=n
 out:∀v,v<n→(lab.getD v 0<0↔O v)
 low:∀v,v<n→¬O v→0≤lab.getD v 0∧lab.getD v 0≤v∧¬O (lab.getD v 0).toNat
 conn:∀f,zb5 es O f→∀v,v<n→¬O v→f v=f (lab.getD v 0).toNat
def Jh (lab:List Int):Nat:=(lab.map Int.toNat).sum
theorem wg :∀(lab:List Int) (v:Nat) (k:Int),v<lab.length→Jh (lab.set v k)+(lab.getD v 0).toNat=Jh lab+k.toNat
 |[],v,k,h=>by simp at h
 |x::l,0,k,_=>by simp[Jh];omega
 | x::l,v+1,k,h=>by
   have:=wg l v k (by simpa using h)
   simp[Jh] at*;omega
theorem ZT (l:List Int)(v w:Nat)(k:Int)(h:v<l.length):(l.set v k).getD w 0=if w=v then k else l.getD w 0:=by
 simp only[List.getD_eq_getElem?_getD,List.getElem?_set]
 by_cases e:v=w
 · subst e;simp[h]
 · simp[e,Ne.symm e]
def gU (lab:List Int)(a b:Nat):List Int:=(lab.set a (min (lab.getD a 0) (lab.getD b 0))).set b (min (lab.getD a 0) (lab.getD b 0))
theorem ue {lab:List Int}{a b w:Nat}(ha:a<lab.length)(hb:b<lab.length):(gU lab a b).getD w 0=if w=a∨w=b then min (lab.getD a 0) (lab.getD b 0) else lab.getD w 0:=by
 unfold gU
 rw[ZT _ _ _ _ (by simpa using hb),ZT _ _ _ _ ha]
 by_cases h1:w=b
 · simp[h1]
 · by_cases h2:w=a
   · simp[h2]
   · simp[h1,h2]
theorem LI.step {n:Nat}{es:Es}{O:Nat→Prop}{lab:List Int}(w:LI n es O lab){a b:Nat}(hab:Zu es a b)(han:a<n)(hbn:b<n)(h1:¬lab.getD a 0<0)(h2:¬lab.getD b 0<0):LI n es O (gU lab a b):=by
 have oa:¬O a:=fun h=>h1 ((w.out a han).2 h)
 have ob:¬O b:=fun h=>h2 ((w.out b hbn).2 h)
 have la:=w.low a han oa
 have lb:=w.low b hbn ob
 have hal:a<lab.length:=by rw[w.len];exact han
 have hbl:b<lab.length:=by rw[w.len];exact hbn
 have hk:∃c,(c=a∨c=b)∧min (lab.getD a 0) (lab.getD b 0)=lab.getD c 0:=by
  rcases Int.le_total (lab.getD a 0) (lab.getD b 0) with h|h
  · exact⟨a,.inl rfl,Int.min_eq_left h⟩
  · exact⟨b,.inr rfl,Int.min_eq_right h⟩
 refine⟨by unfold gU;simp[w.len],fun v hv=>?_,fun v hv ho=>?_,fun f hf v hv ho=>?_⟩
 · rw[ue hal hbl]
   split
   · rename_i h
     rcases h with rfl|rfl
     · constructor
       · intro h;omega
       · intro h;exact absurd h oa
     · constructor
       · intro h;omega
       · intro h;exact absurd h ob
   · exact w.out v hv
 · rw[ue hal hbl]
   split
   · rename_i h
     obtain⟨c,hc,e⟩:=hk
     refine⟨by omega,by rcases h with rfl|rfl<;>omega,?_⟩
     rw[e]
     rcases hc with rfl|rfl
     · exact la.2.2
     · exact lb.2.2
   · exact w.low v hv ho
 · rw[ue hal hbl]
   split
   · rename_i h
     obtain⟨c,hc,e⟩:=hk
     rw[e]
     have e1:=hf a b hab oa ob
     have ea:=w.conn f hf a han oa
     have eb:=w.conn f hf b hbn ob
     rcases h with rfl|rfl<;>rcases hc with rfl|rfl
     · exact ea
     · rw[e1,eb]
     · rw[←e1,ea]
     · exact eb
   · exact w.conn f hf v hv ho
theorem zgX {lab:List Int}{a b:Nat}(ha:a<lab.length)(hb:b<lab.length)(hne:a≠b)(h1:¬lab.getD a 0<0)(h2:¬lab.getD b 0<0)(h3:lab.getD a 0≠lab.getD b 0):Jh (gU lab a b)<Jh lab:=by
 unfold gU
 generalize hk:min (lab.getD a 0) (lab.getD b 0)=k
 have e1:=wg lab a k ha
 have e2:=wg (lab.set a k) b k (by simpa using hb)
 rw[ZT _ _ _ _ ha,if_neg (Ne.symm hne)] at e2
 omega
theorem LI.start {n:Nat}{es:Es}{O:Nat→Prop}{lab:List Int}(hl:lab.length=n)(h:∀v,v<n→(O v→lab.getD v 0= -1)∧(¬O v→lab.getD v 0=(v:Int))):LI n es O lab:=by
 refine⟨hl,fun v hv=>?_,fun v hv ho=>?_,fun f _ v hv ho=>?_⟩
 · constructor
   · intro h1
     by_cases ho:O v
     · exact ho
     · have:=(h v hv).2 ho;omega
   · intro ho;have:=(h v hv).1 ho;omega
 · rw[(h v hv).2 ho];exact⟨by omega,by omega,by simpa using ho⟩
 · rw[(h v hv).2 ho];simp
def jb (n:Nat)(lab:List Int)(m:Nat):List (List Nat):=((List.range m).filter fun v:Nat=>decide (lab.getD v 0=(v:Int))).map fun v:Nat=>(List.range n).filter fun w=>decide (lab.getD w 0=(v:Int))
theorem Jr {n:Nat}{lab:List Int}{m:Nat}{p:List Nat}:p∈jb n lab m↔∃v:Nat,v<m∧lab.getD v 0=(v:Int)∧(List.range n).filter (fun w=>decide (lab.getD w 0=(v:Int)))=p:=by
 simp only[jb,List.mem_map,List.mem_filter,List.mem_range,decide_eq_true_eq,and_assoc]
theorem LI.pieces {n:Nat}{es:Es}{O:Nat→Prop}{lab:List Int}(hes:∀a b,Zu es a b→a<n∧b<n)(W:LI n es O lab)(hfix:∀e∈es,lab.getD e.1 0<0∨lab.getD e.2 0<0∨lab.getD e.1 0=lab.getD e.2 0):ZF n es O (jb n lab n):=by
 have hflat:∀a b,Zu es a b→¬O a→¬O b→lab.getD a 0=lab.getD b 0:=by
  intro a b hab ha hb
  have hl:=hes a b hab
  have h1:=W.low a hl.1 ha
  have h2:=W.low b hl.2 hb
  rcases hab with h|h
  · rcases hfix _ h with h|h|h
    · exact absurd h (by simp only;omega)
    · exact absurd h (by simp only;omega)
    · exact h
  · rcases hfix _ h with h|h|h
    · exact absurd h (by simp only;omega)
    · exact absurd h (by simp only;omega)
    · exact h.symm
 have hfl:zb5 es O (fun v=>(lab.getD v 0).toNat):=fun a b hab ha hb=>by
  show(lab.getD a 0).toNat=(lab.getD b 0).toNat
  rw[hflat a b hab ha hb]
 have hid:∀v,v<n→¬O v→lab.getD (lab.getD v 0).toNat 0=lab.getD v 0:=by
  intro v hv ho
  have h1:=W.low v hv ho
  have h2:=W.conn _ hfl v hv ho
  have h3:=W.low (lab.getD v 0).toNat (by omega) h1.2.2
  have h2:(lab.getD v 0).toNat=(lab.getD (lab.getD v 0).toNat 0).toNat:=h2
  omega
 have hm:∀(v w:Nat),w∈(List.range n).filter (fun w=>decide (lab.getD w 0=(v:Int)))↔w<n∧lab.getD w 0=(v:Int):=fun v w=>by
  simp only[List.mem_filter,List.mem_range,decide_eq_true_eq]
 have hno:∀(v w:Nat),w<n→lab.getD w 0=(v:Int)→¬O w:=fun v w hw h ho=>by
  have:=(W.out w hw).2 ho;omega
 have hle:∀(v w:Nat),w<n→lab.getD w 0=(v:Int)→v≤w:=fun v w hw h=>by
  have:=(W.low w hw (hno v w hw h)).2.1;omega
 have hfirst:∀v:Nat,v<n→lab.getD v 0=(v:Int)→∀a∈((List.range n).filter fun w=>decide (lab.getD w 0=(v:Int))).head?,a=v:=by
  intro v hv h a ha
  have h1:=(hm v a).1 (zhb ha)
  have h2:=hle v a h1.1 h1.2
  have h3:a≤v:=by
   have hpw:((List.range n).filter fun w=>decide (lab.getD w 0=(v:Int))).Pairwise (· < ·):=List.pairwise_lt_range.filter _
   have hvm:=(hm v v).2 ⟨hv,h⟩
   generalize (List.range n).filter (fun w=>decide (lab.getD w 0=(v:Int)))=r at ha hpw hvm
   cases r with
   |nil=>cases ha
   | cons b r=>
     have:b=a:=by simpa using ha
     subst this
     rcases List.mem_cons.1 hvm with e|e
     · omega
     · have:=(List.pairwise_cons.1 hpw).1 v e;omega
  omega
 refine⟨fun v=>?_,?_,?_,?_,?_,?_,?_⟩
 · constructor
   · rintro⟨p,hp,hv⟩
     obtain⟨k,_,_,rfl⟩:=Jr.1 hp
     have:=(hm k v).1 hv
     exact⟨this.1,hno k v this.1 this.2⟩
   · rintro⟨hv,ho⟩
     have h1:=W.low v hv ho
     have h2:=hid v hv ho
     refine⟨_,Jr.2 ⟨(lab.getD v 0).toNat,by omega,by rw[h2];omega,rfl⟩,(hm _ v).2 ⟨hv,by omega⟩⟩
 · intro p hp
   obtain⟨k,hk,h,rfl⟩:=Jr.1 hp
   exact List.ne_nil_of_mem ((hm k k).2 ⟨hk,h⟩)
 · intro p hp
   obtain⟨k,_,_,rfl⟩:=Jr.1 hp
   exact List.pairwise_lt_range.filter _
 · unfold jb
   refine List.pairwise_map.2 ((List.pairwise_lt_range.filter _).imp_of_mem fun{u v} hu hv h a ha b hb=>?_)
   simp only[List.mem_filter,List.mem_range,decide_eq_true_eq] at hu hv
   rw[hfirst u hu.1 hu.2 a ha,hfirst v hv.1 hv.2 b hb];exact h
 · unfold jb
   refine List.pairwise_map.2 ((List.pairwise_lt_range.filter _).imp fun{u v} h w hw hw'=>?_)
   have h1:=((hm u w).1 hw).2
   have h2:=((hm v w).1 hw').2
   omega
 · intro p hp a ha b hab hb hob
   obtain⟨k,_,_,rfl⟩:=Jr.1 hp
   have h1:=(hm k a).1 ha
   exact(hm k b).2 ⟨hb,by rw[←hflat a b hab (hno k a h1.1 h1.2) hob];exact h1.2⟩
 · intro p hp f hf a ha b hb
   obtain⟨k,_,_,rfl⟩:=Jr.1 hp
   have h1:=(hm k a).1 ha
   have h2:=(hm k b).1 hb
   rw[W.conn f hf a h1.1 (hno k a h1.1 h1.2),W.conn f hf b h2.1 (hno k b h2.1 h2.2),h1.2,h2.2]
theorem KR (n:Nat)(lab:List Int)(m:Nat):jb n lab (m+1)=if lab.getD m 0=(m:Int) then jb n lab m++[(List.range n).filter fun w=>decide (lab.getD w 0=(m:Int))] else jb n lab m:=by
 unfold jb
 rw[List.range_succ,List.filter_append,List.map_append]
 by_cases h:lab.getD m 0=(m:Int)
 · rw[if_pos h,List.filter_cons_of_pos (by simpa using h)];rfl
 · rw[if_neg h,List.filter_cons_of_neg (by simpa using h)];simp
theorem zbW (n:Nat)(lab:List Int)(m:Nat):(jb n lab m).length≤m:=by
 unfold jb
 rw[List.length_map]
 exact Nat.le_trans (List.length_filter_le _ _) (by simp)
theorem wY (p:Nat→Bool)(m:Nat):(List.range (m+1)).filter p=if p m=true then(List.range m).filter p++[m] else(List.range m).filter p:=by
 rw[List.range_succ,List.filter_append]
 by_cases h:p m=true
 · rw[if_pos h,List.filter_cons_of_pos h];rfl
 · rw[if_neg h,List.filter_cons_of_neg h];simp
def vo (lab:List Int)(u w:Nat):List Nat:=(List.range w).filter fun w=>decide (lab.getD w 0=(u:Int))
theorem zeb (lab:List Int)(u w:Nat):vo lab u (w+1)=if lab.getD w 0=(u:Int) then vo lab u w++[w] else vo lab u w:=by
 unfold vo
 rw[wY]
 simp only[decide_eq_true_eq]
theorem zfD (lab:List Int)(u w:Nat):(vo lab u w).length≤w:=by
 unfold vo
 exact Nat.le_trans (List.length_filter_le _ _) (by simp)
theorem zdd (n:Nat)(lab:List Int)(m:Nat):jb n lab (m+1)=if lab.getD m 0=(m:Int) then jb n lab m++[vo lab m n] else jb n lab m:=KR n lab m
def ow (m:List Int)(x y:Nat):Bool:=decide (m.getD x 0=(y:Int))
def JP (n:Nat)(l:Es):List Bool:=l.foldl (fun m e=>(m.set e.1 true).set e.2 true) (List.replicate n false)
theorem VD (l:List Bool)(v w:Nat)(h:v<l.length):(l.set v true).getD w false=(decide (v=w)||l.getD w false):=by
 simp only[List.getD_eq_getElem?_getD,List.getElem?_set]
 by_cases e:v=w
 · subst e;simp[h]
 · simp[e]
structure Mt (N:Nat)(es:Es)(m:List Int):Prop where
 len:m.length=N
 at_:∀v,v<N→m.getD v 0= -1∨∃w:Nat,m.getD v 0=(w:Int)∧w<N∧w≠v∧Zu es v w∧m.getD w 0=(v:Int)
theorem Mt.back {N:Nat}{es:Es}{m:List Int}(M:Mt N es m){v w:Nat}(hv:v<N)(h:m.getD v 0=(w:Int)):w<N∧w≠v∧Zu es v w∧m.getD w 0=(v:Int):=by
 rcases M.at_ v hv with h1|⟨u,h1,h2⟩
 · omega
 · obtain rfl:u=w:=by omega
   exact h2
theorem Mt.own {N:Nat}{es:Es}{m:List Int}(M:Mt N es m){v w:Nat}(hv:v<N)(hw:w<N):ow m v w=ow m w v:=by
 unfold ow
 by_cases h:m.getD v 0=(w:Int)
 · rw[decide_eq_true h,decide_eq_true (M.back hv h).2.2.2]
 · rw[decide_eq_false h,decide_eq_false]
   intro h2;exact h (M.back hw h2).2.2.2
structure FS where
 lab:Nat→Nat
 out:Nat→Bool
 pr:Nat→Nat
 rt:Nat→Int
 b0:Nat→Nat
 b1:Nat→Nat
 bs:Nat→Nat
abbrev YG :=List (Nat×Nat)
def xS (ps:YG):YG:=(ps.map Prod.swap).reverse
def jz (ps:YG):List Nat:=ps.flatMap fun p=>[p.1,p.2]
def zE (ps:YG)(to:Nat):List Nat:=jz ps++[to]
theorem Vb (p:Nat×Nat)(ps:YG):xS (p::ps)=xS ps++[p.swap]:=by simp[xS]
theorem ZG (p:Nat×Nat)(ps:YG):jz (p::ps)=p.1::p.2::jz ps:=rfl
theorem qp (ps qs:YG):jz (ps++qs)=jz ps++jz qs:=by simp[jz]
theorem VH (ps:YG):jz (xS ps)=(jz ps).reverse:=by
 induction ps with
 |nil=>rfl
 |cons p ps ih=>rw[Vb,qp,ih,ZG];simp[jz]
inductive xN (mt:Nat→Int)(S:FS):Nat→Nat→YG→Prop
 |here (v:Nat):xN mt S v v []
 |even {v to m:Nat} {ps:YG}:v≠to→S.lab v=1→mt v=(m:Int)→S.lab m=2→xN mt S (S.pr m) to ps→xN mt S v to ((v,m)::ps)
 |odd {v to m:Nat} {ps qs:YG}:v≠to→S.out v=true→S.lab v=2→mt v=(m:Int)→xN mt S (S.b0 v) m ps→xN mt S (S.b1 v) to qs→xN mt S v to ((v,m)::(xS ps++qs))
structure zij (S T:FS):Prop where
 lab:∀x,S.lab x≠0→T.lab x=S.lab x
 pr:∀x,S.lab x=2→T.pr x=S.pr x
 out:∀x,S.out x=true→T.out x=true
 b0:∀x,S.out x=true→T.b0 x=S.b0 x
 b1:∀x,S.out x=true→T.b1 x=S.b1 x
theorem xN.goes {mt:Nat→Int}{S T:FS}(h:zij S T){v to:Nat}{ps:YG}(w:xN mt S v to ps):xN mt T v to ps:=by
 induction w with
 |here v=>exact .here v
 |even h1 h2 h3 h4 _ ih=>exact .even h1 (by rw[h.lab _ (by omega)];exact h2) h3 (by rw[h.lab _ (by omega)];exact h4) (by rw[h.pr _ h4];exact ih)
 |odd h1 h2 h3 h4 _ _ ih1 ih2=>exact .odd h1 (h.out _ h2) (by rw[h.lab _ (by omega)];exact h3) h4 (by rw[h.b0 _ h2];exact ih1) (by rw[h.b1 _ h2];exact ih2)
theorem xN.app {mt:Nat→Int}{S:FS}{v x to:Nat}{ps qs:YG}(w:xN mt S v x ps)(u:xN mt S x to qs)(hn:to∉jz ps):xN mt S v to (ps++qs):=by
 induction w with
 |here v=>exact u
 | even h1 h2 h3 h4 _ ih=>
   simp only[ZG,List.mem_cons,not_or] at hn
   exact .even (Ne.symm hn.1) h2 h3 h4 (ih u hn.2.2)
 | odd h1 h2 h3 h4 w1 w2 ih1 ih2=>
   simp only[ZG,qp,List.mem_cons,List.mem_append,not_or] at hn
   rw[List.cons_append,List.append_assoc]
   exact .odd (Ne.symm hn.1) h2 h3 h4 w1 (ih2 u hn.2.2.2)
theorem xN.first {mt:Nat→Int}{S:FS}{v to:Nat}{ps:YG}(w:xN mt S v to ps):v∈zE ps to:=by
 cases w<;>simp[zE,jz]
inductive qI (mt:Nat→Int)(E:Nat→Nat→Prop):Nat→YG→Nat→Prop
 |nil (v:Nat):qI mt E v [] v
 |cons {a c w to:Nat} {ps:YG}:mt a=(c:Int)→E c w→qI mt E w ps to→qI mt E a ((a,c)::ps) to
theorem qI.app {mt:Nat→Int}{E:Nat→Nat→Prop}{v x to:Nat}{ps qs:YG}(h:qI mt E v ps x)(k:qI mt E x qs to):qI mt E v (ps++qs) to:=by
 induction h with
 |nil v=>exact k
 |cons h1 h2 _ ih=>exact .cons h1 h2 (ih k)
theorem qI.rev {mt:Nat→Int}{E:Nat→Nat→Prop}(hm:∀a c:Nat,mt a=(c:Int)→mt c=(a:Int))(hE:∀a c,E a c→E c a){s m:Nat}{ps:YG}(h:qI mt E s ps m):∀{v w to:Nat} {qs:YG},mt v=(m:Int)→E s w→qI mt E w qs to→qI mt E v ((v,m)::(xS ps++qs)) to:=by
 induction h with
 |nil m=>intro v w to qs h1 h2 h3;exact .cons h1 h2 h3
 | cons k1 k2 _ ih=>
   intro v w to qs h1 h2 h3
   rw[Vb,List.append_assoc]
   exact ih h1 (hE _ _ k2) (.cons (hm _ _ k1) h2 h3)
inductive ZD (mt:Nat→Int)(S:FS):Nat→Nat→List Nat→Prop
 |here (b:Nat):ZD mt S b b []
 |up {x m to:Nat} {xs:List Nat}:x≠to→mt x=(m:Int)→ZD mt S (S.bs (S.pr m)) to xs→ZD mt S x to (x::xs)
structure qb (N:Nat)(E:Nat→Nat→Prop)(mt:Nat→Int)(S:FS):Prop where
 o1:∀v,S.out v=true→v<N∧S.lab v≠0
 e1:∀v,S.lab v=1→S.out v=true
 l2:∀v,S.lab v≤2
 fr:∀v,v<N→mt v= -1→S.lab v=1∧S.rt v=(v:Int)
 od:∀v,S.lab v=2→v<N∧∃x:Nat,mt v=(x:Int)∧S.lab x=1∧S.rt x=S.rt v∧S.out (S.pr v)=true∧E v (S.pr v)∧S.rt (S.pr v)=S.rt v
 ev:∀v,S.lab v=1→(mt v= -1∧S.rt v=(v:Int))∨∃m:Nat,mt v=(m:Int)∧S.lab m=2
 bo:∀v,S.out v=true→S.out (S.bs v)=true∧S.lab (S.bs v)=1∧S.bs (S.bs v)=S.bs v∧S.rt (S.bs v)=S.rt v
 bn:∀v,S.out v=false→S.bs v=v
 bm:∀b m:Nat,S.out b=true→S.bs b=b→mt b=(m:Int)→S.out m=false
 bx:∀m x:Nat,S.lab m=2→S.out m=false→mt m=(x:Int)→S.bs x=x
 dp:∃d:Nat→Nat,∀b m:Nat,S.out b=true→S.bs b=b→mt b=(m:Int)→d (S.bs (S.pr m))<d b
 wy:∀v,S.out v=true→∃ps,xN mt S v (S.bs v) ps∧qI mt E v ps (S.bs v)∧(zE ps (S.bs v)).Nodup∧∀x∈zE ps (S.bs v),S.out x=true∧S.bs x=S.bs v
structure Mf (N:Nat)(E:Nat→Nat→Prop)(mt:Nat→Int):Prop where
 at_:∀v,v<N→mt v= -1∨∃w:Nat,mt v=(w:Int)∧w<N
 big:∀v,¬v<N→∀w:Nat,mt v≠(w:Int)
 sy:∀v w:Nat,mt v=(w:Int)→mt w=(v:Int)
 ne:∀v w:Nat,mt v=(w:Int)→w≠v∧E v w
 es:∀v w:Nat,E v w→E w v
 el:∀v w:Nat,E v w→v<N∧w<N∧v≠w
def On (mt:Nat→Int)(S:FS)(xs:List Nat)(to:Nat)(y:Nat):Prop:=(S.out y=true∧(S.bs y∈xs∨S.bs y=to))∨(S.out y=false∧∃x∈xs,mt x=(y:Int))
theorem Yt {N:Nat}{E:Nat→Nat→Prop}{mt:Nat→Int}{S:FS}(M:Mf N E mt)(I:qb N E mt S){d:Nat→Nat}(hd:∀b m:Nat,S.out b=true→S.bs b=b→mt b=(m:Int)→d (S.bs (S.pr m))<d b){c to:Nat}{xs:List Nat}(h:ZD mt S c to xs):
    (S.bs to=to)→∀v,S.out v=true→S.bs v=c→(∀x∈xs,d to<d x∧d x≤d c∧S.out x=true∧S.bs x=x)∧∃ps,xN mt S v to ps∧qI mt E v ps to∧(zE ps to).Nodup∧∀y∈zE ps to,On mt S xs to y:=by
  induction h with
  | here b=>
    intro hb v hv hc
    obtain⟨ps,h1,h2,h3,h4⟩:=I.wy v hv
    rw[hc] at h1 h2 h3 h4
    exact⟨by simp,ps,h1,h2,h3,fun y hy=> .inl ⟨(h4 y hy).1,.inr (h4 y hy).2⟩⟩
  | @up x m to xs hne hm hch ih=>
    intro hb v hv hc
    obtain⟨b1,b2,b3,b4⟩:=I.bo v hv
    rw[hc] at b1 b2 b3 b4
    have hmo:=I.bm x m b1 b3 hm
    have hl:S.lab m=2:=by
      rcases I.ev x b2 with h|⟨m',h1,h2⟩
      · omega
      · obtain rfl:m'=m:=by omega
        exact h2
    obtain⟨_,x',k1,k2,k3,k4,k5,k6⟩:=I.od m hl
    obtain⟨i1,qs,q1,q2,q3,q4⟩:=ih hb (S.pr m) k4 rfl
    have hdx:=hd x m b1 b3 hm
    have hdto:d to≤d (S.bs (S.pr m)):=by
      cases hch with
      |here=>exact Nat.le_refl _
      |up=>exact Nat.le_of_lt (i1 _ (by simp)).1
    have i2:∀y∈xs,d y<d x:=fun y hy=>by have:=(i1 y hy).2.1;omega
    obtain⟨ps,p1,p2,p3,p4⟩:=I.wy v hv
    rw[hc] at p1 p2 p3 p4
    have hmx:=M.sy x m hm
    have hxin:x∉zE qs to:=fun h=>by
      rcases q4 x h with⟨_,h|h⟩|⟨h,_⟩
      · rw[b3] at h;have:=i2 x h;omega
      · rw[b3] at h;omega
      · rw[b1] at h;cases h
    have hmin:m∉zE qs to:=fun h=>by
      rcases q4 m h with⟨h,_⟩|⟨_,y,hy,h⟩
      · rw[hmo] at h;cases h
      · have:=M.sy y m h
        obtain rfl:y=x:=by omega
        have:=i2 y hy;omega
    have hpq:∀y∈zE ps x,y∉zE qs to:=fun y hy h=>by
      obtain⟨y1,y2⟩:=p4 y hy
      rcases q4 y h with⟨_,h|h⟩|⟨h,_⟩
      · rw[y2] at h;have:=i2 x h;omega
      · rw[y2] at h;omega
      · rw[y1] at h;cases h
    have hmp:m∉zE ps x:=fun h=>by have:=(p4 m h).1;rw[hmo] at this;cases this
    have hto:to∉jz ps:=fun h=>by
      have:=(p4 to (List.mem_append.2 (.inl h))).2
      exact hne (by omega)
    refine⟨fun y hy=>?_,ps++((x,m)::qs),p1.app (.even hne b2 hm hl q1) hto,p2.app (.cons hm k5 q2),?_,?_⟩
    · rcases List.mem_cons.1 hy with rfl|hy
      · exact⟨by omega,Nat.le_refl _,b1,b3⟩
      · have:=i1 y hy
        exact⟨this.1,by omega,this.2.2⟩
    · have e:zE (ps++((x,m)::qs)) to=zE ps x++(m::zE qs to):=by simp[zE,qp,ZG]
      rw[e]
      refine List.nodup_append.2 ⟨p3,List.nodup_cons.2 ⟨hmin,q3⟩,?_⟩
      intro y hy z hz e
      subst e
      rcases List.mem_cons.1 hz with rfl|hz
      · exact hmp hy
      · exact hpq y hy hz
    · have e:zE (ps++((x,m)::qs)) to=zE ps x++(m::zE qs to):=by simp[zE,qp,ZG]
      rw[e]
      intro y hy
      rcases List.mem_append.1 hy with hy|hy
      · exact .inl ⟨(p4 y hy).1,.inl (by rw[(p4 y hy).2];simp)⟩
      · rcases List.mem_cons.1 hy with rfl|hy
        · exact .inr ⟨hmo,x,by simp,hm⟩
        · rcases q4 y hy with⟨h1,h2|h2⟩|⟨h1,y',h2,h3⟩
          · exact .inl ⟨h1,.inl (List.mem_cons_of_mem _ h2)⟩
          · exact .inl ⟨h1,.inr h2⟩
          · exact .inr ⟨h1,y',List.mem_cons_of_mem _ h2,h3⟩
theorem qb.base {N:Nat}{E:Nat→Nat→Prop}{mt:Nat→Int}{S:FS}(M:Mf N E mt)(I:qb N E mt S){b:Nat}(ho:S.out b=true)(hb:S.bs b=b):(mt b= -1∧S.rt b=(b:Int))∨∃m:Nat,mt b=(m:Int)∧S.lab m=2∧S.out m=false∧S.out (S.pr m)=true∧E m (S.pr m)∧S.rt (S.pr m)=S.rt b∧S.rt m=S.rt b:=by
 have h1:=(I.bo b ho).2.1
 rw[hb] at h1
 rcases I.ev b h1 with h|⟨m,h2,h3⟩
 · exact .inl h
 · obtain⟨_,x,k1,k2,k3,k4,k5,k6⟩:=I.od m h3
   have:=M.sy b m h2
   obtain rfl:x=b:=by omega
   exact .inr ⟨m,h2,h3,I.bm x m ho hb h2,k4,k5,k6.trans k3.symm,k3.symm⟩
theorem Zy {N:Nat}{E:Nat→Nat→Prop}{mt:Nat→Int}{S:FS}(M:Mf N E mt)(I:qb N E mt S){d:Nat→Nat}(hd:∀b m:Nat,S.out b=true→S.bs b=b→mt b=(m:Int)→d (S.bs (S.pr m))<d b){c to:Nat}{xs:List Nat}(h:ZD mt S c to xs):
    S.out c=true→S.bs c=c→(S.out to=true∧S.bs to=to∧S.rt to=S.rt c)∧∀x∈xs,d to<d x∧d x≤d c∧S.out x=true∧S.bs x=x∧S.rt x=S.rt c:=by
  induction h with
  |here b=>intro h1 h2;exact⟨⟨h1,h2,rfl⟩,by simp⟩
  | @up x m to xs hne hm hch ih=>
    intro h1 h2
    rcases I.base M h1 h2 with⟨h3,_⟩|⟨m',h3,h4,h5,h6,h7,h8,h9⟩
    · omega
    · obtain rfl:m'=m:=by omega
      obtain⟨k1,k2,k3,k4⟩:=I.bo _ h6
      obtain⟨⟨j1,j2,j3⟩,j4⟩:=ih k1 k3
      have hdx:=hd x m' h1 h2 hm
      have hrt:S.rt (S.bs (S.pr m'))=S.rt x:=k4.trans h8
      have hdto:d to≤d (S.bs (S.pr m')):=by
        cases hch with
        |here=>exact Nat.le_refl _
        |up=>exact Nat.le_of_lt (j4 _ (by simp)).1
      refine⟨⟨j1,j2,j3.trans hrt⟩,fun y hy=>?_⟩
      rcases List.mem_cons.1 hy with rfl|hy
      · exact⟨by omega,Nat.le_refl _,h1,h2,rfl⟩
      · obtain⟨i1,i2,i3,i4,i5⟩:=j4 y hy
        exact⟨i1,by omega,i3,i4,i5.trans hrt⟩
theorem q6 {N:Nat}{E:Nat→Nat→Prop}{mt:Nat→Int}{S:FS}(M:Mf N E mt)(I:qb N E mt S){d:Nat→Nat}(hd:∀b m:Nat,S.out b=true→S.bs b=b→mt b=(m:Int)→d (S.bs (S.pr m))<d b){c to:Nat}{xs:List Nat}(h:ZD mt S c to xs):
    S.out c=true→S.bs c=c→∀x∈xs,∃x1 x2,xs=x1++x::x2∧ZD mt S c x x1∧ZD mt S x to (x::x2):=by
  induction h with
  |here b=>intro _ _ x hx;simp at hx
  | @up x0 m to xs hne hm hch ih=>
    intro h1 h2 x hx
    by_cases e:x=x0
    · subst e
      exact⟨[],xs,rfl,.here x,.up hne hm hch⟩
    · have hx:=(List.mem_cons.1 hx).resolve_left e
      rcases I.base M h1 h2 with⟨h3,_⟩|⟨m',h3,h4,h5,h6,h7,h8,h9⟩
      · omega
      · obtain rfl:m'=m:=by omega
        obtain⟨k1,k2,k3,k4⟩:=I.bo _ h6
        obtain⟨x1,x2,rfl,j1,j2⟩:=ih k1 k3 x hx
        exact⟨x0::x1,x2,rfl,.up (Ne.symm e) hm j1,j2⟩
def j9 (mt:Nat→Int)(xs:List Nat)(u:Nat):Bool:=xs.any fun x=>decide (mt x=(u:Int))
theorem Z2 {mt:Nat→Int}{xs:List Nat}{u:Nat}:j9 mt xs u=true↔∃x∈xs,mt x=(u:Int):=by
 unfold j9;simp only[List.any_eq_true,decide_eq_true_eq]
def shr (mt:Nat→Int)(S:FS)(v w b:Nat)(xs:List Nat):FS:=
 {S with
  out:=fun u=>S.out u||j9 mt xs u
  b0:=fun u=>if j9 mt xs u=true then v else S.b0 u
  b1:=fun u=>if j9 mt xs u=true then w else S.b1 u
  bs:=fun u=>if(decide (S.bs u∈xs)||j9 mt xs u)=true then b else S.bs u}
def KE (mt:Nat→Int)(S:FS)(xs ys:List Nat)(u:Nat):Prop:=S.bs u∈xs∨S.bs u∈ys∨(∃x∈xs,mt x=(u:Int))∨∃x∈ys,mt x=(u:Int)
theorem Xq {N:Nat}{E:Nat→Nat→Prop}{mt:Nat→Int}{S:FS}(M:Mf N E mt)(I:qb N E mt S){v w b:Nat}{xs ys:List Nat}(hv:S.out v=true)(hw:S.out w=true)(hvw:E v w)(hb:S.bs b=b)(hX:ZD mt S (S.bs v) b xs)(hY:ZD mt S (S.bs w) b ys)(hdj:∀x∈xs,x∉ys):
    let T:=shr mt (shr mt S v w b xs) w v b ys
    qb N E mt T∧zij S T∧(∀u,T.out u=true↔S.out u=true∨(∃x∈xs,mt x=(u:Int))∨∃x∈ys,mt x=(u:Int))∧(∀u,(KE mt S xs ys u→T.bs u=b)∧(¬KE mt S xs ys u→T.bs u=S.bs u))∧T.bs v=b∧T.bs w=b:=by
  intro T
  obtain⟨d,hd⟩:=I.dp
  obtain⟨v1,v2,v3,v4⟩:=I.bo v hv
  obtain⟨w1,w2,w3,w4⟩:=I.bo w hw
  obtain⟨⟨bo,_,brv⟩,fX⟩:=Zy M I hd hX v1 v3
  obtain⟨⟨_,_,brw⟩,fY⟩:=Zy M I hd hY w1 w3
  have hbX:b∉xs:=fun h=>by have:=(fX b h).1;omega
  have hbY:b∉ys:=fun h=>by have:=(fY b h).1;omega
  have mate:∀(zs:List Nat),(∀x∈zs,S.out x=true∧S.bs x=x)→∀u x:Nat,x∈zs→mt x=(u:Int)→S.out u=false∧S.lab u=2∧S.rt u=S.rt x∧S.bs u=u:=by
    intro zs hz u x hx hm
    rcases I.base M (hz x hx).1 (hz x hx).2 with⟨h3,_⟩|⟨m',h3,h4,h5,h6,h7,h8,h9⟩
    · omega
    · obtain rfl:m'=u:=by omega
      exact⟨h5,h4,h9,I.bn _ h5⟩
  have mX:=mate xs fun x hx=>⟨(fX x hx).2.2.1,(fX x hx).2.2.2.1⟩
  have mY:=mate ys fun x hx=>⟨(fY x hx).2.2.1,(fY x hx).2.2.2.1⟩
  have xo:∀u,S.bs u∈xs→S.out u=true:=fun u h=>by
    cases ho:S.out u with
    |true=>rfl
    |false=>rw[I.bn u ho] at h;rw[(fX u h).2.2.1] at ho;cases ho
  have yo:∀u,S.bs u∈ys→S.out u=true:=fun u h=>by
    cases ho:S.out u with
    |true=>rfl
    |false=>rw[I.bn u ho] at h;rw[(fY u h).2.2.1] at ho;cases ho
  have nmX:∀u,S.out u=true→j9 mt xs u=false:=fun u hu=>by
    rw[Bool.eq_false_iff];intro h
    obtain⟨x,hx,hm⟩:=Z2.1 h
    have:=(mX u x hx hm).1
    rw[hu] at this;cases this
  have nmY:∀u,S.out u=true→j9 mt ys u=false:=fun u hu=>by
    rw[Bool.eq_false_iff];intro h
    obtain⟨x,hx,hm⟩:=Z2.1 h
    have:=(mY u x hx hm).1
    rw[hu] at this;cases this
  have Tout:∀u,T.out u=true↔S.out u=true∨(∃x∈xs,mt x=(u:Int))∨∃x∈ys,mt x=(u:Int):=fun u=>by
    show((S.out u||j9 mt xs u)||j9 mt ys u)=true↔_
    rw[Bool.or_eq_true,Bool.or_eq_true,Z2,Z2,or_assoc]
  have Tbs1:∀u,KE mt S xs ys u→T.bs u=b:=fun u h=>by
    show(if(decide ((if(decide (S.bs u∈xs)||j9 mt xs u)=true then b else S.bs u)∈ys)||j9 mt ys u)=true then b else if(decide (S.bs u∈xs)||j9 mt xs u)=true then b else S.bs u)=b
    by_cases h2:(decide (S.bs u∈xs)||j9 mt xs u)=true
    · rw[if_pos h2];split<;>rfl
    · rw[if_neg h2]
      rw[Bool.or_eq_true,decide_eq_true_iff,not_or] at h2
      rw[if_pos]
      rw[Bool.or_eq_true,decide_eq_true_iff,Z2]
      rcases h with h|h|h|h
      · exact absurd h h2.1
      · exact .inl h
      · exact absurd (Z2.2 h) h2.2
      · exact .inr h
  have Tbs2:∀u,¬KE mt S xs ys u→T.bs u=S.bs u:=fun u h=>by
    have h2:¬(decide (S.bs u∈xs)||j9 mt xs u)=true:=by
      rw[Bool.or_eq_true,decide_eq_true_iff,Z2]
      rintro(h1|h1)
      · exact h (.inl h1)
      · exact h (.inr (.inr (.inl h1)))
    show(if(decide ((if(decide (S.bs u∈xs)||j9 mt xs u)=true then b else S.bs u)∈ys)||j9 mt ys u)=true then b else if(decide (S.bs u∈xs)||j9 mt xs u)=true then b else S.bs u)=S.bs u
    rw[if_neg h2,if_neg]
    rw[Bool.or_eq_true,decide_eq_true_iff,Z2]
    rintro(h1|h1)
    · exact h (.inr (.inl h1))
    · exact h (.inr (.inr (.inr h1)))
  have nJ:∀u,S.out u=true→S.bs u∉xs→S.bs u∉ys→¬KE mt S xs ys u:=fun u hu h1 h2 h=>by
    rcases h with h|h|h|h
    · exact h1 h
    · exact h2 h
    · have:=nmX u hu;rw[Z2.2 h] at this;cases this
    · have:=nmY u hu;rw[Z2.2 h] at this;cases this
  have bJ:¬KE mt S xs ys b:=nJ b bo (by rw[hb];exact hbX) (by rw[hb];exact hbY)
  have Tb:T.bs b=b:=(Tbs2 b bJ).trans hb
  have G:zij S T:={
    lab:=fun _ _=>rfl
    pr:=fun _ _=>rfl
    out:=fun x h=>(Tout x).2 (.inl h)
    b0:=fun x h=>by
      show(if j9 mt ys x=true then w else if j9 mt xs x=true then v else S.b0 x)=S.b0 x
      rw[nmX x h,nmY x h];rfl
    b1:=fun x h=>by
      show(if j9 mt ys x=true then v else if j9 mt xs x=true then w else S.b1 x)=S.b1 x
      rw[nmX x h,nmY x h];rfl}
  have Jrt:∀u,KE mt S xs ys u→S.rt u=S.rt b:=fun u h=>by
    rcases h with h|h|⟨x,hx,hm⟩|⟨x,hx,hm⟩
    · rw[brv,←(fX _ h).2.2.2.2];exact(I.bo u (xo u h)).2.2.2.symm
    · rw[brw,←(fY _ h).2.2.2.2];exact(I.bo u (yo u h)).2.2.2.symm
    · rw[brv,←(fX x hx).2.2.2.2];exact(mX u x hx hm).2.2.1
    · rw[brw,←(fY x hx).2.2.2.2];exact(mY u x hx hm).2.2.1
  have nO:∀u,T.out u=true→¬KE mt S xs ys u→S.out u=true:=fun u h hj=>by
    rcases(Tout u).1 h with h|h|h
    · exact h
    · exact absurd (.inr (.inr (.inl h))) hj
    · exact absurd (.inr (.inr (.inr h))) hj
  have onT:∀zs,(∀z∈zs,z∈xs∨z∈ys)→∀y,On mt S zs b y→T.out y=true∧T.bs y=b:=by
    intro zs hz y hy
    rcases hy with⟨h1,h2|h2⟩|⟨h1,x,h2,h3⟩
    · refine⟨(Tout y).2 (.inl h1),Tbs1 y ?_⟩
      rcases hz _ h2 with h|h
      · exact .inl h
      · exact .inr (.inl h)
    · refine⟨(Tout y).2 (.inl h1),?_⟩
      rw[Tbs2 y (nJ y h1 (by rw[h2];exact hbX) (by rw[h2];exact hbY))];exact h2
    · rcases hz _ h2 with h|h
      · exact⟨(Tout y).2 (.inr (.inl ⟨x,h,h3⟩)),Tbs1 y (.inr (.inr (.inl ⟨x,h,h3⟩)))⟩
      · exact⟨(Tout y).2 (.inr (.inr ⟨x,h,h3⟩)),Tbs1 y (.inr (.inr (.inr ⟨x,h,h3⟩)))⟩
  have wayM:∀(p q:Nat) (zs ts:List Nat),S.out p=true→S.out q=true→E p q→ZD mt S (S.bs p) b zs→ZD mt S (S.bs q) b ts→(∀x∈zs,x∉ts)→(∀z∈zs,z∈xs∨z∈ys)→(∀z∈ts,z∈xs∨z∈ys)→∀u x:Nat,x∈zs→mt x=(u:Int)→T.b0 u=p→T.b1 u=q→
      ∃ps,xN mt T u b ps∧qI mt E u ps b∧(zE ps b).Nodup∧∀y∈zE ps b,T.out y=true∧T.bs y=b:=by
    intro p q zs ts hp hq hpq cz ct hdz hz ht u x hx hm h0 h1
    obtain⟨p1,p2,p3,p4⟩:=I.bo p hp
    obtain⟨q1,q2,q3,q4⟩:=I.bo q hq
    obtain⟨_,fZ⟩:=Zy M I hd cz p1 p3
    obtain⟨_,fT⟩:=Zy M I hd ct q1 q3
    obtain⟨x1,x2,e,c1,c2⟩:=q6 M I hd cz p1 p3 x hx
    obtain⟨fo,fb⟩:S.out x=true∧S.bs x=x:=⟨(fZ x hx).2.2.1,(fZ x hx).2.2.2.1⟩
    obtain⟨e1,ps,a1,a2,a3,a4⟩:=Yt M I hd c1 fb p hp rfl
    obtain⟨_,qs,g1,g2,g3,g4⟩:=Yt M I hd ct hb q hq rfl
    obtain⟨mo,ml,mr,mb⟩:=mate zs (fun x hx=>⟨(fZ x hx).2.2.1,(fZ x hx).2.2.2.1⟩) u x hx hm
    have hux:=M.sy x u hm
    have hub:u≠b:=fun h=>by rw[h,bo] at mo;cases mo
    have hx1:∀z∈x1,z∈zs∧z≠x:=fun z hz=>⟨by rw[e];simp[hz],fun h=>by have:=(e1 z hz).1;subst h;omega⟩
    have hup:u∉zE ps x:=fun h=>by
      rcases a4 u h with⟨h,_⟩|⟨_,z,hz,h⟩
      · rw[mo] at h;cases h
      · have:=M.sy z u h
        exact(hx1 z hz).2 (by omega)
    have huq:u∉zE qs b:=fun h=>by
      rcases g4 u h with⟨h,_⟩|⟨_,z,hz,h⟩
      · rw[mo] at h;cases h
      · have:=M.sy z u h
        obtain rfl:z=x:=by omega
        exact hdz z hx hz
    have hpq':∀y∈zE ps x,y∉zE qs b:=fun y hy h=>by
      have hin:(S.out y=true∧S.bs y∈zs)∨(S.out y=false∧∃z∈zs,mt z=(y:Int)):=by
        rcases a4 y hy with⟨k1,k2|k2⟩|⟨k1,z,k2,k3⟩
        · exact .inl ⟨k1,(hx1 _ k2).1⟩
        · exact .inl ⟨k1,by rw[k2];exact hx⟩
        · exact .inr ⟨k1,z,(hx1 _ k2).1,k3⟩
      rcases hin with⟨k1,k2⟩|⟨k1,z,k2,k3⟩<;>rcases g4 y h with⟨j1,j2|j2⟩|⟨j1,z',j2,j3⟩
      · exact hdz _ k2 j2
      · have:=(fZ _ k2).1;rw[j2] at this;omega
      · rw[k1] at j1;cases j1
      · rw[k1] at j1;cases j1
      · rw[k1] at j1;cases j1
      · have s1:=M.sy z y k3
        have s2:=M.sy z' y j3
        obtain rfl:z=z':=by omega
        exact hdz z k2 j2
    have ev:zE ((u,x)::(xS ps++qs)) b=u::(zE ps x).reverse++zE qs b:=by
      simp[zE,ZG,qp,VH]
    refine⟨(u,x)::(xS ps++qs),.odd hub ((Tout u).2 ?_) ml hux (by rw[h0];exact a1.goes G) (by rw[h1];exact g1.goes G),qI.rev M.sy M.es a2 hux hpq g2,?_,?_⟩
    · rcases hz x hx with h|h
      · exact .inr (.inl ⟨x,h,hm⟩)
      · exact .inr (.inr ⟨x,h,hm⟩)
    · rw[ev]
      refine List.nodup_append.2 ⟨List.nodup_cons.2 ⟨by rw[List.mem_reverse];exact hup,?_⟩,g3,?_⟩
      · exact(List.reverse_perm _).nodup_iff.2 a3
      · intro y hy z hz' e
        subst e
        rcases List.mem_cons.1 hy with rfl|hy
        · exact huq hz'
        · exact hpq' y (List.mem_reverse.1 hy) hz'
    · rw[ev]
      intro y hy
      rcases List.mem_append.1 hy with hy|hy
      · rcases List.mem_cons.1 hy with rfl|hy
        · exact onT zs hz y (.inr ⟨mo,x,hx,hm⟩)
        · refine onT zs hz y ?_
          rcases a4 y (List.mem_reverse.1 hy) with⟨k1,k2|k2⟩|⟨k1,z,k2,k3⟩
          · exact .inl ⟨k1,.inl (hx1 _ k2).1⟩
          · exact .inl ⟨k1,.inl (by rw[k2];exact hx)⟩
          · exact .inr ⟨k1,z,(hx1 _ k2).1,k3⟩
      · exact onT ts ht y (g4 y hy)
  have Tv:∀p zs,S.out p=true→ZD mt S (S.bs p) b zs→(∀z∈zs,z∈xs∨z∈ys)→T.bs p=b:=by
    intro p zs hp hc hz
    generalize hbp:S.bs p=c at hc
    cases hc with
    |here=>rw[Tbs2 p (nJ p hp (by rw[hbp];exact hbX) (by rw[hbp];exact hbY))];exact hbp
    | up=>
      refine Tbs1 p ?_
      rcases hz c (by simp) with h|h
      · exact .inl (by rw[hbp];exact h)
      · exact .inr (.inl (by rw[hbp];exact h))
  refine⟨?_,G,Tout,fun u=>⟨Tbs1 u,Tbs2 u⟩,Tv v xs hv hX fun z h=> .inl h,Tv w ys hw hY fun z h=> .inr h⟩
  refine⟨fun u hu=>?_,fun u hu=>(Tout u).2 (.inl (I.e1 u hu)),I.l2,I.fr,fun u hu=>?_,I.ev,fun u hu=>?_,fun u hu=>?_,fun c m hc hcb hm=>?_,fun m x hl ho hm=>?_,⟨d,fun c m hc hcb hm=>?_⟩,fun u hu=>?_⟩
  · rcases(Tout u).1 hu with h|⟨x,hx,h⟩|⟨x,hx,h⟩
    · exact I.o1 u h
    · have:=(mX u x hx h).2.1
      exact⟨(I.od u this).1,by show S.lab u≠0;omega⟩
    · have:=(mY u x hx h).2.1
      exact⟨(I.od u this).1,by show S.lab u≠0;omega⟩
  · obtain⟨h1,x,k1,k2,k3,k4,k5,k6⟩:=I.od u hu
    exact⟨h1,x,k1,k2,k3,(Tout _).2 (.inl k4),k5,k6⟩
  · by_cases hj:KE mt S xs ys u
    · have hbl:S.lab b=1:=by have:=(I.bo b bo).2.1;rwa [hb] at this
      rw[Tbs1 u hj]
      exact⟨(Tout b).2 (.inl bo),hbl,Tb,(Jrt u hj).symm⟩
    · have ho:=nO u hu hj
      obtain⟨k1,k2,k3,k4⟩:=I.bo u ho
      rw[Tbs2 u hj]
      have hj2:¬KE mt S xs ys (S.bs u):=nJ _ k1 (by rw[k3];exact fun h=>hj (.inl h)) (by rw[k3];exact fun h=>hj (.inr (.inl h)))
      exact⟨(Tout _).2 (.inl k1),k2,(Tbs2 _ hj2).trans k3,k4⟩
  · have ho:S.out u=false:=by
      cases h:S.out u with
      |false=>rfl
      |true=>rw[(Tout u).2 (.inl h)] at hu;cases hu
    have hj:¬KE mt S xs ys u:=fun h=>by
      rcases h with h|h|h|h
      · rw[xo u h] at ho;cases ho
      · rw[yo u h] at ho;cases ho
      · rw[(Tout u).2 (.inr (.inl h))] at hu;cases hu
      · rw[(Tout u).2 (.inr (.inr h))] at hu;cases hu
    exact(Tbs2 u hj).trans (I.bn u ho)
  · have hj:¬KE mt S xs ys c:=fun h=>by
      have:=Tbs1 c h
      rw[hcb] at this
      exact bJ (this▸h)
    have ho:=nO c hc hj
    have hcb':=(Tbs2 c hj).symm.trans hcb
    have hmo:=I.bm c m ho hcb' hm
    cases hT:T.out m with
    |false=>rfl
    | true=>
      rcases(Tout m).1 hT with h|⟨x,hx,h⟩|⟨x,hx,h⟩
      · rw[hmo] at h;cases h
      · have s1:=M.sy c m hm
        have s2:=M.sy x m h
        obtain rfl:x=c:=by omega
        exact absurd (.inl (by rw[hcb'];exact hx)) hj
      · have s1:=M.sy c m hm
        have s2:=M.sy x m h
        obtain rfl:x=c:=by omega
        exact absurd (.inr (.inl (by rw[hcb'];exact hx))) hj
  · have ho':S.out m=false:=by
      cases h:S.out m with
      |false=>rfl
      |true=>rw[(Tout m).2 (.inl h)] at ho;cases ho
    have hbx:=I.bx m x hl ho' hm
    have hmx:=M.sy m x hm
    obtain⟨_,x',k1,k2,_⟩:=I.od m hl
    obtain rfl:x'=x:=by omega
    have hxo:=I.e1 x' k2
    refine(Tbs2 x' (nJ x' hxo (fun h=>?_) fun h=>?_)).trans hbx
    · rw[hbx] at h;rw[(Tout m).2 (.inr (.inl ⟨x',h,hmx⟩))] at ho;cases ho
    · rw[hbx] at h;rw[(Tout m).2 (.inr (.inr ⟨x',h,hmx⟩))] at ho;cases ho
  · have hj:¬KE mt S xs ys c:=fun h=>by
      have:=Tbs1 c h
      rw[hcb] at this
      exact bJ (this▸h)
    have ho:=nO c hc hj
    have hcb':=(Tbs2 c hj).symm.trans hcb
    have h1:=hd c m ho hcb' hm
    show d (T.bs (S.pr m))<d c
    by_cases hp:KE mt S xs ys (S.pr m)
    · rw[Tbs1 _ hp]
      rcases hp with h|h|⟨x,hx,h⟩|⟨x,hx,h⟩
      · have:=(fX _ h).1;omega
      · have:=(fY _ h).1;omega
      · have:=(mX _ x hx h).1
        rcases I.base M ho hcb' with⟨h3,_⟩|⟨m',h3,h4,h5,h6,_⟩
        · omega
        · obtain rfl:m'=m:=by omega
          rw[this] at h6;cases h6
      · have:=(mY _ x hx h).1
        rcases I.base M ho hcb' with⟨h3,_⟩|⟨m',h3,h4,h5,h6,_⟩
        · omega
        · obtain rfl:m'=m:=by omega
          rw[this] at h6;cases h6
    · rw[Tbs2 _ hp];exact h1
  · by_cases hj:KE mt S xs ys u
    · rw[Tbs1 u hj]
      have chainW:∀zs c,(∀z∈zs,z∈xs∨z∈ys)→S.out c=true→S.bs c=c→ZD mt S c b zs→S.bs u∈zs→S.out u=true→∃ps,xN mt T u b ps∧qI mt E u ps b∧(zE ps b).Nodup∧∀y∈zE ps b,T.out y=true∧T.bs y=b:=by
        intro zs c hz hc1 hc2 cz hu2 hu3
        obtain⟨x1,x2,e,c1,c2⟩:=q6 M I hd cz hc1 hc2 _ hu2
        obtain⟨_,ps,a1,a2,a3,a4⟩:=Yt M I hd c2 hb u hu3 rfl
        exact⟨ps,a1.goes G,a2,a3,fun y hy=>onT _ (fun z h=>hz z (by rw[e];exact List.mem_append.2 (.inr h))) y (a4 y hy)⟩
      rcases hj with h|h|⟨x,hx,h⟩|⟨x,hx,h⟩
      · exact chainW xs _ (fun z h=> .inl h) v1 v3 hX h (xo u h)
      · exact chainW ys _ (fun z h=> .inr h) w1 w3 hY h (yo u h)
      · have hny:j9 mt ys u=false:=by
          rw[Bool.eq_false_iff];intro h'
          obtain⟨x',hx',h'⟩:=Z2.1 h'
          have s1:=M.sy x u h
          have s2:=M.sy x' u h'
          obtain rfl:x=x':=by omega
          exact hdj x hx hx'
        have hyx:=Z2.2 ⟨x,hx,h⟩
        exact wayM v w xs ys hv hw hvw hX hY hdj (fun z h=> .inl h) (fun z h=> .inr h) u x hx h
          (by show(if j9 mt ys u=true then w else if j9 mt xs u=true then v else S.b0 u)=v;rw[hny,hyx];rfl)
          (by show(if j9 mt ys u=true then v else if j9 mt xs u=true then w else S.b1 u)=w;rw[hny,hyx];rfl)
      · have hyx:=Z2.2 ⟨x,hx,h⟩
        exact wayM w v ys xs hw hv (M.es _ _ hvw) hY hX (fun y hy h=>hdj y h hy) (fun z h=> .inr h) (fun z h=> .inl h) u x hx h
          (by show(if j9 mt ys u=true then w else if j9 mt xs u=true then v else S.b0 u)=w;rw[hyx];rfl)
          (by show(if j9 mt ys u=true then v else if j9 mt xs u=true then w else S.b1 u)=v;rw[hyx];rfl)
    · have ho:=nO u hu hj
      obtain⟨ps,p1,p2,p3,p4⟩:=I.wy u ho
      rw[Tbs2 u hj]
      refine⟨ps,p1.goes G,p2,p3,fun y hy=>?_⟩
      obtain⟨y1,y2⟩:=p4 y hy
      refine⟨(Tout y).2 (.inl y1),?_⟩
      rw[Tbs2 y (nJ y y1 (by rw[y2];exact fun h=>hj (.inl h)) (by rw[y2];exact fun h=>hj (.inr (.inl h))))];exact y2
end Go.Ga.Gl
