import Derived.Test.YtmmgdilhbkklpaaANC
import Derived.Test.YtmmgdilhbkklpaaProg
import Derived.KernelRfl
namespace Go.Proofs.Ytmmgdilhbkklpaa.X
open Go Go.AM Go.Proofs
/-- dyehouse/dyehouselaw08.PileOrder -/
def A3 : ACode :=
  (.seq
   /- R0 -/ (.ops [.it (.one (.mov 2 (.c (.bool false))))])
   (.seq
    (.seq
     /- R1 -/ (.ops [.it (.one (.mov 8 (.r 0))),
      .it (.one (.len 9 (.r 8))),
      .it (.one (.bin 10 .gtr (.r 9) (.c (.int .i64 (60)))))])
     (.cond (.r 10)
      (.seq
       /- R2 -/ (.ops [.it (.one (.callf (some 11) (.st 6) [])),
      .it (.one (.mov 2 (.r 11)))]) .ret) .skip))
    (.seq
     /- R3 -/ (.post (.ops [.it (.one (.bslo 12 12 2 [])),
      .it (.one (.mov 13 (.r 0))),
      .it (.one (.appd 14 (.r 12) (.r 13) 2 16)),
      .it (.one (.mov 3 (.r 14)))]) (.frz 12))
     (.seq
      /- R4 -/ (.ops [.it (.one (.mov 15 (.r 3))),
      .call (some 16) (.st 7) [(.r 15)] [] [90, 91],
      .it (.one (.mov 17 (.r 0))),
      .it (.one (.len 18 (.r 17))),
      .it (.one (.callo (some 19) (.st 8) [(.r 16), (.r 18)] [90, 91] [])),
      .it (.one (.mov 4 (.r 19)))])
      (.seq
       (.seq
        /- R5 -/ (.ops [.it (.one (.mov 20 (.r 4))),
      .it (.one (.len 21 (.r 20))),
      .it (.one (.mov 22 (.r 0))),
      .it (.one (.len 23 (.r 22))),
      .it (.one (.bin 24 .neq (.r 21) (.r 23))),
      .it (.one (.mov 25 (.r 24))),
      .it (.grp 25 false [.mov 26 (.r 3), .mov 27 (.r 0), .callb (some 28) (.st 9) [(.r 26), (.r 27)], .un 29 .not (.r 28)]),
      .it (.one (.pick 30 (.r 25) (.c (.bool true)) (.r 29)))])
        (.cond (.r 30)
         (.seq
          /- R6 -/ (.ops [.it (.one (.mov 2 (.c (.bool false))))]) .ret) .skip))
       (.seq
        (.seq
         /- R7 -/ (.ops [.it (.one (.mov 5 (.c (.int .i64 (0)))))])
         (.block 0
          (.loop (.pre (.mv [0, 4, 5] [(90, 90), (91, 91)])
           (.seq
            (.seq
             /- R8 -/ (.ops [.it (.one (.mov 31 (.r 5))),
      .it (.one (.mov 32 (.r 4))),
      .it (.one (.len 33 (.r 32))),
      .it (.one (.bin 34 .lss (.r 31) (.r 33)))])
             (.cond (.r 34) .skip (.exit 0)))
            (.seq
             (.block 1
              (.seq
               (.seq
                /- R10 -/ (.draw [[], [0], [0, 1], [0, 1, 2], [0, 1, 2], [0, 1, 2, 4], [0, 1, 2, 3, 4, 5], [0, 1, 2, 3, 4, 5, 6], [0, 1, 2, 3, 4, 5, 6, 7], [0, 1, 2], [0, 1, 2], [0, 1, 2, 9, 10], [0, 1, 2, 9, 10, 11], [0, 1, 2, 9, 10, 11, 12], [0, 1, 2, 3, 4, 5, 6, 7, 8, 9, 10, 11, 12, 13], [0, 1, 2, 3, 4, 5, 6, 7, 8, 9, 10, 11, 12, 13, 14], [0, 1, 2, 3, 4, 5, 6, 7, 8, 9, 10, 11, 12, 13, 14, 15], [0, 1, 2, 3, 4, 5, 6, 7, 8, 9, 10, 11, 12, 13, 14, 15], [0, 1, 2, 3, 4, 5, 6, 7, 8, 9, 10, 11, 12, 13, 14, 15, 17], [0, 1, 2, 3, 4, 5, 6, 7, 8, 9, 10, 11, 12, 13, 14, 15, 16, 17, 18], [0, 1, 2, 3, 4, 5, 6, 7, 8, 9, 10, 11, 12, 13, 14, 15, 16, 17, 18, 19], [0, 1, 2, 3, 4, 5, 6, 7, 8, 9, 10, 11, 12, 13, 14, 15, 16, 17, 18, 19, 20], [0, 1, 2, 3, 4, 5, 6, 7, 8, 9, 10, 11, 12, 13, 14, 15], [0, 1, 2, 3, 4, 5, 6, 7, 8, 9, 10, 11, 12, 13, 14, 15], [0, 1, 2, 3, 4, 5, 6, 7, 8, 9, 10, 11, 12, 13, 14, 15, 22, 23], [0, 1, 2, 3, 4, 5, 6, 7, 8, 9, 10, 11, 12, 13, 14, 15, 22, 23, 24], [0, 1, 2, 3, 4, 5, 6, 7, 8, 9, 10, 11, 12, 13, 14, 15, 22, 23, 24, 25], [0, 1, 2, 3, 4, 5, 6, 7, 8, 9, 10, 11, 12, 13, 14, 15, 16, 17, 18, 19, 20, 21, 22, 23, 24, 25, 26], [0, 1, 2, 3, 4, 5, 6, 7, 8, 9, 10, 11, 12, 13, 14, 15, 16, 17, 18, 19, 20, 21, 22, 23, 24, 25, 26, 27], [0, 1, 2, 3, 4, 5, 6, 7, 8, 9, 10, 11, 12, 13, 14, 15, 16, 17, 18, 19, 20, 21, 22, 23, 24, 25, 26, 27, 28], [0, 1, 2, 3, 4, 5, 6, 7, 8, 9, 10, 11, 12, 13, 14, 15, 16, 17, 18, 19, 20, 21, 22, 23, 24, 25, 26, 27, 28], [0, 1, 2, 3, 4, 5, 6, 7, 8, 9, 10, 11, 12, 13, 14, 15, 16, 17, 18, 19, 20, 21, 22, 23, 24, 25, 26, 27, 28, 30], [0, 1, 2, 3, 4, 5, 6, 7, 8, 9, 10, 11, 12, 13, 14, 15, 16, 17, 18, 19, 20, 21, 22, 23, 24, 25, 26, 27, 28, 29, 30, 31], [0, 1, 2, 3, 4, 5, 6, 7, 8, 9, 10, 11, 12, 13, 14, 15, 16, 17, 18, 19, 20, 21, 22, 23, 24, 25, 26, 27, 28, 29, 30, 31, 32], [0, 1, 2, 3, 4, 5, 6, 7, 8, 9, 10, 11, 12, 13, 14, 15, 16, 17, 18, 19, 20, 21, 22, 23, 24, 25, 26, 27, 28, 29, 30, 31, 32, 33], [0, 1, 2, 3, 4, 5, 6, 7, 8, 9, 10, 11, 12, 13, 14, 15, 16, 17, 18, 19, 20, 21, 22, 23, 24, 25, 26, 27, 28], [0, 1, 2, 3, 4, 5, 6, 7, 8, 9, 10, 11, 12, 13, 14, 15, 16, 17, 18, 19, 20, 21, 22, 23, 24, 25, 26, 27, 28], [0, 1, 2, 3, 4, 5, 6, 7, 8, 9, 10, 11, 12, 13, 14, 15, 16, 17, 18, 19, 20, 21, 22, 23, 24, 25, 26, 27, 28, 35, 36], [0, 1, 2, 3, 4, 5, 6, 7, 8, 9, 10, 11, 12, 13, 14, 15, 16, 17, 18, 19, 20, 21, 22, 23, 24, 25, 26, 27, 28, 35, 36, 37], [0, 1, 2, 3, 4, 5, 6, 7, 8, 9, 10, 11, 12, 13, 14, 15, 16, 17, 18, 19, 20, 21, 22, 23, 24, 25, 26, 27, 28, 35, 36, 37, 38], [0, 1, 2, 3, 4, 5, 6, 7, 8, 9, 10, 11, 12, 13, 14, 15, 16, 17, 18, 19, 20, 21, 22, 23, 24, 25, 26, 27, 28, 29, 30, 31, 32, 33, 34, 35, 36, 37, 38, 39], [0, 1, 2, 3, 4, 5, 6, 7, 8, 9, 10, 11, 12, 13, 14, 15, 16, 17, 18, 19, 20, 21, 22, 23, 24, 25, 26, 27, 28, 29, 30, 31, 32, 33, 34, 35, 36, 37, 38, 39, 40], [0, 1, 2, 3, 4, 5, 6, 7, 8, 9, 10, 11, 12, 13, 14, 15, 16, 17, 18, 19, 20, 21, 22, 23, 24, 25, 26, 27, 28, 29, 30, 31, 32, 33, 34, 35, 36, 37, 38, 39, 40, 41], [0, 1, 2, 3, 4, 5, 6, 7, 8, 9, 10, 11, 12, 13, 14, 15, 16, 17, 18, 19, 20, 21, 22, 23, 24, 25, 26, 27, 28, 29, 30, 31, 32, 33, 34, 35, 36, 37, 38, 39, 40, 41, 42]] [.one (.mov 37 (.r 5)),
      .one (.bin 38 .gtr (.r 37) (.c (.int .i64 (0)))),
      .one (.mov 39 (.r 38)),
      .grp 39 true [.mov 40 (.r 4), .mov 41 (.r 5), .bin 42 .sub (.r 41) (.c (.int .i64 (1))), .idx 43 (.r 40) (.r 42) 2, .fad 44 (.r 43) 0, .load 45 (.r 44) 1 false, .mov 46 (.r 4), .mov 47 (.r 5), .idx 48 (.r 46) (.r 47) 2, .fad 49 (.r 48) 0, .load 50 (.r 49) 1 false, .bin 51 .lss (.r 45) (.r 50), .mov 52 (.r 51)],
      .grp 52 false [.mov 53 (.r 4), .mov 54 (.r 5), .bin 55 .sub (.r 54) (.c (.int .i64 (1))), .idx 56 (.r 53) (.r 55) 2, .fad 57 (.r 56) 0, .load 58 (.r 57) 1 false, .mov 59 (.r 4), .mov 60 (.r 5), .idx 61 (.r 59) (.r 60) 2, .fad 62 (.r 61) 0, .load 63 (.r 62) 1 false, .bin 64 .eql (.r 58) (.r 63), .mov 65 (.r 64)],
      .grp 65 true [.mov 66 (.r 4), .mov 67 (.r 5), .bin 68 .sub (.r 67) (.c (.int .i64 (1))), .idx 69 (.r 66) (.r 68) 2, .fad 70 (.r 69) 1, .load 71 (.r 70) 1 false, .mov 72 (.r 4), .mov 73 (.r 5), .idx 74 (.r 72) (.r 73) 2, .fad 75 (.r 74) 1, .load 76 (.r 75) 1 false, .bin 77 .gtr (.r 71) (.r 76)],
      .grp 52 false [.pick 78 (.r 65) (.r 77) (.c (.bool false))],
      .grp 39 true [.pick 79 (.r 52) (.c (.bool true)) (.r 78)],
      .one (.pick 80 (.r 39) (.r 79) (.c (.bool false)))])
                (.cond (.r 80)
                 (.seq
                  /- R11 -/ (.ops [.it (.one (.mov 2 (.c (.bool false))))]) .ret) .skip))
               (.seq
                /- R12 -/ (.ops [.it (.one (.mov 6 (.c (.int .i64 (0)))))])
                (.seq
                 (.seq
                  /- R13 -/ (.ops [.it (.one (.mov 7 (.c (.int .i64 (0)))))])
                  (.block 2
                   (.loop (.pre (.mv [0, 4, 5, 6, 7] [(90, 90), (91, 91)])
                    (.seq
                     (.seq
                      /- R14 -/ (.ops [.it (.one (.mov 81 (.r 7))),
      .it (.one (.mov 82 (.r 4))),
      .it (.one (.len 83 (.r 82))),
      .it (.one (.bin 84 .lss (.r 81) (.r 83)))])
                      (.cond (.r 84) .skip (.exit 2)))
                     (.seq
                      (.block 3
                       (.seq
                        (.seq
                         /- R16 -/ (.draw [[], [], [0, 1], [0, 1, 2], [], [], [4, 5], [4, 5, 6], [0, 1, 2, 3, 4, 5, 6, 7]] [.one (.mov 87 (.r 4)),
      .one (.mov 88 (.r 7)),
      .one (.idx 89 (.r 87) (.r 88) 2),
      .one (.load 90 (.r 89) 2 true),
      .one (.mov 91 (.r 4)),
      .one (.mov 92 (.r 5)),
      .one (.idx 93 (.r 91) (.r 92) 2),
      .one (.load 94 (.r 93) 2 true),
      .one (.eq 95 false (.strct [.i, .i]) (.r 90) (.r 94))])
                         (.cond (.r 95)
                          /- R17 -/ (.ops [.it (.one (.mov 96 (.r 6))),
      .it (.one (.bin 97 .add (.r 96) (.c (.int .i64 (1))))),
      .it (.one (.mov 6 (.r 97)))]) .skip))
                        (.seq
                         /- R18 -/ (.draw [[], [], [0, 1], [0, 1, 2], [], [], [4, 5], [4, 5, 6], [0, 1, 2, 3, 4, 5, 6, 7]] [.one (.mov 98 (.r 0)),
      .one (.mov 99 (.r 7)),
      .one (.idx 100 (.r 98) (.r 99) 2),
      .one (.load 101 (.r 100) 2 true),
      .one (.mov 102 (.r 4)),
      .one (.mov 103 (.r 5)),
      .one (.idx 104 (.r 102) (.r 103) 2),
      .one (.load 105 (.r 104) 2 true),
      .one (.eq 106 false (.strct [.i, .i]) (.r 101) (.r 105))])
                         (.cond (.r 106)
                          /- R19 -/ (.ops [.it (.one (.mov 107 (.r 6))),
      .it (.one (.bin 108 .sub (.r 107) (.c (.int .i64 (1))))),
      .it (.one (.mov 6 (.r 108)))]) .skip))))
                      /- R15 -/ (.ops [.it (.one (.mov 85 (.r 7))),
      .it (.one (.bin 86 .add (.r 85) (.c (.int .i64 (1))))),
      .it (.one (.mov 7 (.r 86)))])))))))
                 (.seq
                  /- R20 -/ (.ops [.it (.one (.mov 109 (.r 6))),
      .it (.one (.bin 110 .neq (.r 109) (.c (.int .i64 (0)))))])
                  (.cond (.r 110)
                   (.seq
                    /- R21 -/ (.ops [.it (.one (.mov 2 (.c (.bool false))))]) .ret) .skip))))))
             /- R9 -/ (.ops [.it (.one (.mov 35 (.r 5))),
      .it (.one (.bin 36 .add (.r 35) (.c (.int .i64 (1))))),
      .it (.one (.mov 5 (.r 36)))])))))))
        (.seq
         /- R22 -/ (.ops [.it (.one (.callf (some 111) (.st 6) [])),
      .it (.one (.mov 2 (.r 111)))]) .ret)))))))
theorem A3_ok : okFun Try.prog 3 112 0 A3 [.tmp 2] [] = true := by kernel_rfl
/-- dyehouse/dyehouselaw08.PileDoes -/
def A4 : ACode :=
  (.seq
   /- R0 -/ (.ops [.it (.one (.mov 4 (.c (.bool false))))])
   (.seq
    (.seq
     /- R1 -/ (.ops [.it (.one (.mov 23 (.r 0))),
      .it (.one (.len 24 (.r 23))),
      .it (.one (.bin 25 .gtr (.r 24) (.c (.int .i64 (60))))),
      .it (.one (.mov 26 (.r 25))),
      .it (.grp 26 false [.mov 27 (.r 1), .len 28 (.r 27), .bin 29 .gtr (.r 28) (.c (.int .i64 (80)))]),
      .it (.one (.pick 30 (.r 26) (.c (.bool true)) (.r 29)))])
     (.cond (.r 30)
      (.seq
       /- R2 -/ (.ops [.it (.one (.callf (some 31) (.st 6) [])),
      .it (.one (.mov 4 (.r 31)))]) .ret) .skip))
    (.seq
     /- R3 -/ (.ops [.it (.one (.mov 32 (.r 0))),
      .call (some 33) (.st 7) [(.r 32)] [] [90, 91],
      .it (.one (.mov 5 (.r 33)))])
     (.seq
      (.seq
       /- R4 -/ (.ops [.it (.one (.mov 34 (.r 5))),
      .it (.one (.eq 35 false .nil (.r 34) (.c (.nilp))))])
       (.cond (.r 35)
        (.seq
         /- R5 -/ (.ops [.it (.one (.mov 4 (.c (.bool false))))]) .ret) .skip))
      (.seq
       /- R6 -/ (.ops [.it (.one (.bslo 36 36 2 [])),
      .it (.one (.mov 37 (.r 0))),
      .it (.one (.appd 38 (.r 36) (.r 37) 2 16)),
      .it (.one (.mov 6 (.r 38)))])
       (.seq
        (.seq
         /- R7 -/ (.ops [.it (.one (.mov 7 (.c (.int .i64 (0)))))])
         (.block 0
          (.loop (.pre (.mv [1, 5, 6, 7] [(36, 36), (90, 90), (91, 91)])
           (.seq
            (.seq
             /- R8 -/ (.ops [.it (.one (.mov 39 (.r 7))),
      .it (.one (.mov 40 (.r 1))),
      .it (.one (.len 41 (.r 40))),
      .it (.one (.bin 42 .lss (.r 39) (.r 41)))])
             (.cond (.r 42) .skip (.exit 0)))
            (.seq
             (.block 1
              (.seq
               (.seq
                /- R10 -/ (.ops [.it (.one (.mov 45 (.r 1))),
      .it (.one (.mov 46 (.r 7))),
      .it (.one (.idx 47 (.r 45) (.r 46) 4)),
      .it (.one (.fad 48 (.r 47) 0)),
      .it (.one (.load 49 (.r 48) 1 false))])
                (.block 2
                 (.seq
                  /- R11 -/ (.ops [.it (.one (.bin 51 .eql (.r 49) (.c (.int .u8 (0))))),
      .it (.one (.mov 50 (.r 51)))])
                  (.cond (.r 50)
                   (.seq
                    /- R12 -/ (.ops [.it (.one (.mov 52 (.r 5))),
      .it (.one (.mov 53 (.r 1))),
      .it (.one (.mov 54 (.r 7))),
      .it (.one (.idx 55 (.r 53) (.r 54) 4)),
      .it (.one (.fad 56 (.r 55) 1)),
      .it (.one (.load 57 (.r 56) 2 true)),
      .it (.one (.callo (some 58) (.st 10) [(.r 52), (.r 57)] [90, 91] []))])
                    /- R13 -/ (.ops [.it (.one (.mov 59 (.r 6))),
      .it (.one (.mov 60 (.r 1))),
      .it (.one (.mov 61 (.r 7))),
      .it (.one (.idx 62 (.r 60) (.r 61) 4)),
      .it (.one (.fad 63 (.r 62) 1)),
      .it (.one (.load 64 (.r 63) 2 true)),
      .it (.one (.bslp 65 2 [(.r 64)])),
      .it (.one (.appd 66 (.r 59) (.r 65) 2 16)),
      .it (.one (.mov 6 (.r 66)))]))
                   (.seq
                    /- R14 -/ (.ops [.it (.one (.bin 68 .eql (.r 49) (.c (.int .u8 (1))))),
      .it (.one (.mov 67 (.r 68)))])
                    (.cond (.r 67)
                     (.seq
                      /- R15 -/ (.post (.ops [.it (.one (.mov 70 (.r 5))),
      .it (.one (.callo (some 71) (.st 11) [(.r 70)] [90, 91] [])),
      .it (.one (.mov 69 (.r 71))),
      .it (.one (.ext 72 (.r 69) 0)),
      .it (.one (.ext 73 (.r 69) 1)),
      .it (.one (.alloc 8 8 [.int .i64 0, .int .i64 0])),
      .it (.one (.store (.r 8) (.r 72) 2)),
      .it (.one (.mov 9 (.r 73)))]) (.frz 8))
                      (.seq
                       (.alt /- R16 -/ (.post (.ops [.it (.one (.mov 75 (.r 6))),
      .call (some 76) (.st 12) [(.r 75)] [36] [37],
      .it (.one (.mov 74 (.r 76))),
      .it (.one (.ext 77 (.r 74) 0)),
      .it (.one (.ext 78 (.r 74) 1)),
      .it (.one (.ext 79 (.r 74) 2)),
      .it (.one (.alloc 10 10 [.int .i64 0, .int .i64 0])),
      .it (.one (.store (.r 10) (.r 77) 2)),
      .it (.one (.mov 11 (.r 78))),
      .it (.one (.mov 12 (.r 79)))]) (.frz 10))
      /- R16 -/ (.post (.ops [.it (.one (.mov 75 (.r 6))),
      .call (some 76) (.st 12) [(.r 75)] [36] [],
      .it (.one (.mov 74 (.r 76))),
      .it (.one (.ext 77 (.r 74) 0)),
      .it (.one (.ext 78 (.r 74) 1)),
      .it (.one (.ext 79 (.r 74) 2)),
      .it (.one (.alloc 10 10 [.int .i64 0, .int .i64 0])),
      .it (.one (.store (.r 10) (.r 77) 2)),
      .it (.one (.mov 11 (.r 78))),
      .it (.one (.mov 12 (.r 79)))]) (.frz 10)))
                       (.seq
                        (.alt /- R17 -/ (.post (.ops [.it (.one (.mov 80 (.r 11))),
      .it (.one (.mov 6 (.r 80)))]) (.mv [1, 5, 6, 7, 8, 9, 10, 12] [(37, 36), (90, 90), (91, 91)]))
      /- R17 -/ (.ops [.it (.one (.mov 80 (.r 11))),
      .it (.one (.mov 6 (.r 80)))]))
                        (.seq
                         /- R18 -/ (.ops [.it (.one (.load 81 (.r 8) 2 true)),
      .it (.one (.load 82 (.r 10) 2 true)),
      .it (.one (.eq 83 true (.strct [.i, .i]) (.r 81) (.r 82))),
      .it (.one (.mov 84 (.r 83))),
      .it (.grp 84 false [.mov 85 (.r 9), .mov 86 (.r 12), .eq 87 true .bool (.r 85) (.r 86)]),
      .it (.one (.pick 88 (.r 84) (.c (.bool true)) (.r 87)))])
                         (.cond (.r 88)
                          (.seq
                           /- R19 -/ (.ops [.it (.one (.mov 4 (.c (.bool false))))]) .ret) .skip)))))
                     (.seq
                      /- R20 -/ (.ops [.it (.one (.bin 90 .eql (.r 49) (.c (.int .u8 (2))))),
      .it (.one (.mov 89 (.r 90)))])
                      (.cond (.r 89)
                       (.seq
                        /- R21 -/ (.draw [[], [], [], [1, 2], [1, 2, 3], [1, 2, 3, 4], [1, 2, 3, 4, 5], [], [], [7, 8], [7, 8, 9], [7, 8, 9, 10], [7, 8, 9, 10, 11], [0, 1, 2, 3, 4, 5, 6, 7, 8, 9, 10, 11, 12], [0, 1, 2, 3, 4, 5, 6, 7, 8, 9, 10, 11, 12, 13], [0, 1, 2, 3, 4, 5, 6, 7, 8, 9, 10, 11, 12, 13, 14], [0, 1, 2, 3, 4, 5, 6, 7, 8, 9, 10, 11, 12, 13, 14], [0, 1, 2, 3, 4, 5, 6, 7, 8, 9, 10, 11, 12, 13, 14, 15], [0, 1, 2, 3, 4, 5, 6, 7, 8, 9, 10, 11, 12, 13, 14, 15, 16, 17]] [.one (.mov 92 (.r 6)),
      .one (.mov 93 (.r 1)),
      .one (.mov 94 (.r 7)),
      .one (.idx 95 (.r 93) (.r 94) 4),
      .one (.fad 96 (.r 95) 1),
      .one (.fad 97 (.r 96) 1),
      .one (.load 98 (.r 97) 1 false),
      .one (.mov 99 (.r 1)),
      .one (.mov 100 (.r 7)),
      .one (.idx 101 (.r 99) (.r 100) 4),
      .one (.fad 102 (.r 101) 1),
      .one (.fad 103 (.r 102) 0),
      .one (.load 104 (.r 103) 1 false),
      .one (.callo (some 105) (.st 13) [(.r 92), (.r 98), (.r 104)] [36] [37]),
      .one (.mov 91 (.r 105)),
      .one (.ext 106 (.r 91) 0),
      .one (.ext 107 (.r 91) 1),
      .one (.mov 13 (.r 106)),
      .one (.mov 14 (.r 107))])
                        (.seq
                         /- R22 -/ (.post (.ops [.it (.one (.mov 108 (.r 13))),
      .it (.one (.mov 6 (.r 108)))]) (.mv [1, 5, 6, 7, 14] [(37, 36), (90, 90), (91, 91)]))
                         (.seq
                          /- R23 -/ (.draw [[], [], [], [1, 2], [1, 2, 3], [1, 2, 3, 4], [1, 2, 3, 4, 5], [], [], [7, 8], [7, 8, 9], [7, 8, 9, 10], [7, 8, 9, 10, 11], [0, 1, 2, 3, 4, 5, 6, 7, 8, 9, 10, 11, 12], [], [0, 1, 2, 3, 4, 5, 6, 7, 8, 9, 10, 11, 12, 13, 14]] [.one (.mov 109 (.r 5)),
      .one (.mov 110 (.r 1)),
      .one (.mov 111 (.r 7)),
      .one (.idx 112 (.r 110) (.r 111) 4),
      .one (.fad 113 (.r 112) 1),
      .one (.fad 114 (.r 113) 1),
      .one (.load 115 (.r 114) 1 false),
      .one (.mov 116 (.r 1)),
      .one (.mov 117 (.r 7)),
      .one (.idx 118 (.r 116) (.r 117) 4),
      .one (.fad 119 (.r 118) 1),
      .one (.fad 120 (.r 119) 0),
      .one (.load 121 (.r 120) 1 false),
      .one (.callo (some 122) (.st 14) [(.r 109), (.r 115), (.r 121)] [90, 91] []),
      .one (.mov 123 (.r 14)),
      .one (.bin 124 .neq (.r 122) (.r 123))])
                          (.cond (.r 124)
                           (.seq
                            /- R24 -/ (.ops [.it (.one (.mov 4 (.c (.bool false))))]) .ret) .skip))))
                       (.seq
                        /- R25 -/ (.ops [.it (.one (.bin 126 .eql (.r 49) (.c (.int .u8 (3))))),
      .it (.one (.mov 125 (.r 126)))])
                        (.cond (.r 125)
                         (.seq
                          /- R26 -/ (.ops [.it (.one (.mov 127 (.r 5))),
      .it (.one (.mov 128 (.r 1))),
      .it (.one (.mov 129 (.r 7))),
      .it (.one (.idx 130 (.r 128) (.r 129) 4)),
      .it (.one (.fad 131 (.r 130) 3)),
      .it (.one (.load 132 (.r 131) 1 false)),
      .it (.one (.callo (some 133) (.st 8) [(.r 127), (.r 132)] [90, 91] [])),
      .it (.one (.mov 15 (.r 133)))])
                          (.seq
                           (.alt /- R27 -/ (.ops [.it (.one (.mov 135 (.r 6))),
      .it (.one (.mov 136 (.r 1))),
      .it (.one (.mov 137 (.r 7))),
      .it (.one (.idx 138 (.r 136) (.r 137) 4)),
      .it (.one (.fad 139 (.r 138) 3)),
      .it (.one (.load 140 (.r 139) 1 false)),
      .call (some 141) (.st 15) [(.r 135), (.r 140)] [36] [37],
      .it (.one (.mov 134 (.r 141))),
      .it (.one (.ext 142 (.r 134) 0)),
      .it (.one (.ext 143 (.r 134) 1)),
      .it (.one (.mov 16 (.r 142))),
      .it (.one (.mov 17 (.r 143)))])
      /- R27 -/ (.ops [.it (.one (.mov 135 (.r 6))),
      .it (.one (.mov 136 (.r 1))),
      .it (.one (.mov 137 (.r 7))),
      .it (.one (.idx 138 (.r 136) (.r 137) 4)),
      .it (.one (.fad 139 (.r 138) 3)),
      .it (.one (.load 140 (.r 139) 1 false)),
      .call (some 141) (.st 15) [(.r 135), (.r 140)] [36] [],
      .it (.one (.mov 134 (.r 141))),
      .it (.one (.ext 142 (.r 134) 0)),
      .it (.one (.ext 143 (.r 134) 1)),
      .it (.one (.mov 16 (.r 142))),
      .it (.one (.mov 17 (.r 143)))]))
                           (.seq
                            (.alt /- R28 -/ (.post (.ops [.it (.one (.mov 144 (.r 17))),
      .it (.one (.mov 6 (.r 144)))]) (.mv [1, 5, 6, 7, 15, 16] [(37, 36), (90, 90), (91, 91)]))
      /- R28 -/ (.ops [.it (.one (.mov 144 (.r 17))),
      .it (.one (.mov 6 (.r 144)))]))
                            (.seq
                             /- R29 -/ (.ops [.it (.one (.mov 145 (.r 15))),
      .it (.one (.mov 146 (.r 16))),
      .it (.one (.callf (some 147) (.st 9) [(.r 145), (.r 146)])),
      .it (.one (.un 148 .not (.r 147)))])
                             (.cond (.r 148)
                              (.seq
                               /- R30 -/ (.ops [.it (.one (.mov 4 (.c (.bool false))))]) .ret) .skip))))) .skip))))))))))
               (.seq
                /- R31 -/ (.post (.ops [.it (.one (.mov 150 (.r 5))),
      .it (.one (.callb (some 151) (.st 16) [(.r 150)])),
      .it (.one (.mov 149 (.r 151))),
      .it (.one (.ext 152 (.r 149) 0)),
      .it (.one (.ext 153 (.r 149) 1)),
      .it (.one (.alloc 18 18 [.int .i64 0, .int .i64 0])),
      .it (.one (.store (.r 18) (.r 152) 2)),
      .it (.one (.mov 19 (.r 153)))]) (.frz 18))
                (.seq
                 (.alt /- R32 -/ (.post (.ops [.it (.one (.mov 155 (.r 6))),
      .call (some 156) (.st 12) [(.r 155)] [36] [38],
      .it (.one (.mov 154 (.r 156))),
      .it (.one (.ext 157 (.r 154) 0)),
      .it (.one (.ext 158 (.r 154) 1)),
      .it (.one (.ext 159 (.r 154) 2)),
      .it (.one (.alloc 20 20 [.int .i64 0, .int .i64 0])),
      .it (.one (.store (.r 20) (.r 157) 2)),
      .it (.one (.mov 21 (.r 158))),
      .it (.one (.mov 22 (.r 159)))]) (.frz 20))
      /- R32 -/ (.post (.ops [.it (.one (.mov 155 (.r 6))),
      .call (some 156) (.st 12) [(.r 155)] [36] [],
      .it (.one (.mov 154 (.r 156))),
      .it (.one (.ext 157 (.r 154) 0)),
      .it (.one (.ext 158 (.r 154) 1)),
      .it (.one (.ext 159 (.r 154) 2)),
      .it (.one (.alloc 20 20 [.int .i64 0, .int .i64 0])),
      .it (.one (.store (.r 20) (.r 157) 2)),
      .it (.one (.mov 21 (.r 158))),
      .it (.one (.mov 22 (.r 159)))]) (.frz 20)))
                 (.seq
                  /- R33 -/ (.ops [.it (.one (.load 160 (.r 18) 2 true)),
      .it (.one (.load 161 (.r 20) 2 true)),
      .it (.one (.eq 162 true (.strct [.i, .i]) (.r 160) (.r 161))),
      .it (.one (.mov 163 (.r 162))),
      .it (.grp 163 false [.mov 164 (.r 19), .mov 165 (.r 22), .eq 166 true .bool (.r 164) (.r 165)]),
      .it (.one (.pick 167 (.r 163) (.c (.bool true)) (.r 166))),
      .it (.one (.mov 168 (.r 167))),
      .it (.grp 168 false [.mov 169 (.r 5), .callb (some 170) (.st 17) [(.r 169)], .mov 171 (.r 6), .len 172 (.r 171), .bin 173 .neq (.r 170) (.r 172)]),
      .it (.one (.pick 174 (.r 168) (.c (.bool true)) (.r 173)))])
                  (.cond (.r 174)
                   (.seq
                    /- R34 -/ (.ops [.it (.one (.mov 4 (.c (.bool false))))]) .ret) .skip))))))
             /- R9 -/ (.ops [.it (.one (.mov 43 (.r 7))),
      .it (.one (.bin 44 .add (.r 43) (.c (.int .i64 (1))))),
      .it (.one (.mov 7 (.r 44)))])))))))
        (.seq
         /- R35 -/ (.ops [.it (.one (.callf (some 175) (.st 6) [])),
      .it (.one (.mov 4 (.r 175)))]) .ret)))))))
theorem A4_ok : okFun Try.prog 4 176 0 A4 [.tmp 4] [] = true := by kernel_rfl
/-- dyehouse/dyehouselaw08.PileNone -/
def A5 : ACode :=
  (.seq
   /- R0 -/ (.ops [.it (.one (.boxp 2 (.r 0))),
      .it (.one (.mov 4 (.c (.bool false))))])
   (.seq
    /- R1 -/ (.ops [.it (.one (.mov 5 (.c (.nilp))))])
    (.seq
     /- R2 -/ (.ops [.it (.one (.mov 10 (.r 5))),
      .it (.one (.load 11 (.r 2) 2 true)),
      .it (.one (.callf (some 12) (.st 10) [(.r 10), (.r 11)]))])
     (.seq
      /- R3 -/ (.post (.ops [.it (.one (.mov 14 (.r 5))),
      .it (.one (.callf (some 15) (.st 11) [(.r 14)])),
      .it (.one (.mov 13 (.r 15))),
      .it (.one (.ext 16 (.r 13) 0)),
      .it (.one (.ext 17 (.r 13) 1)),
      .it (.one (.alloc 6 6 [.int .i64 0, .int .i64 0])),
      .it (.one (.store (.r 6) (.r 16) 2)),
      .it (.one (.mov 7 (.r 17)))]) (.frz 6))
      (.seq
       /- R4 -/ (.post (.ops [.it (.one (.mov 19 (.r 5))),
      .it (.one (.callb (some 20) (.st 16) [(.r 19)])),
      .it (.one (.mov 18 (.r 20))),
      .it (.one (.ext 21 (.r 18) 0)),
      .it (.one (.ext 22 (.r 18) 1)),
      .it (.one (.alloc 8 8 [.int .i64 0, .int .i64 0])),
      .it (.one (.store (.r 8) (.r 21) 2)),
      .it (.one (.mov 9 (.r 22)))]) (.frz 8))
       (.seq
        /- R5 -/ (.ops [.it (.one (.mov 23 (.r 7))),
      .it (.one (.un 24 .not (.r 23))),
      .it (.one (.mov 25 (.r 24))),
      .it (.grp 25 true [.mov 26 (.r 9), .un 27 .not (.r 26)]),
      .it (.one (.pick 28 (.r 25) (.r 27) (.c (.bool false)))),
      .it (.one (.mov 29 (.r 28))),
      .it (.grp 29 true [.mov 30 (.r 5), .callb (some 31) (.st 17) [(.r 30)], .bin 32 .eql (.r 31) (.c (.int .i64 (0)))]),
      .it (.one (.pick 33 (.r 29) (.r 32) (.c (.bool false)))),
      .it (.one (.mov 34 (.r 33))),
      .it (.grp 34 true [.mov 35 (.r 5), .fad 36 (.r 2) 1, .load 37 (.r 36) 1 false, .mov 38 (.r 1), .callf (some 39) (.st 14) [(.r 35), (.r 37), (.r 38)], .bin 40 .eql (.r 39) (.c (.int .i64 (0)))]),
      .it (.one (.pick 41 (.r 34) (.r 40) (.c (.bool false)))),
      .it (.one (.mov 42 (.r 41))),
      .it (.grp 42 true [.mov 43 (.r 5), .mov 44 (.r 1), .callf (some 45) (.st 8) [(.r 43), (.r 44)], .len 46 (.r 45), .bin 47 .eql (.r 46) (.c (.int .i64 (0)))]),
      .it (.one (.pick 48 (.r 42) (.r 47) (.c (.bool false)))),
      .it (.one (.mov 49 (.r 48))),
      .it (.grp 49 true [.callf (some 50) (.st 6) []]),
      .it (.one (.pick 51 (.r 49) (.r 50) (.c (.bool false)))),
      .it (.one (.mov 4 (.r 51)))]) .ret))))))
theorem A5_ok : okFun Try.prog 5 52 0 A5 [.tmp 4] [] = true := by kernel_rfl
/-- dyehouse/dyehouselaw08.works -/
def A6 : ACode :=
  (.seq
   /- R0 -/ (.ops [.it (.one (.mov 0 (.c (.bool false))))])
   (.seq
    /- R1 -/ (.ops [.it (.one (.build 7 [.int .i64 0, .int .i64 0] [(0, 1, (.c (.int .i64 (2)))), (1, 1, (.c (.int .i64 (5))))])),
      .it (.one (.build 8 [.int .i64 0, .int .i64 0] [(0, 1, (.c (.int .i64 (7)))), (1, 1, (.c (.int .i64 (1))))])),
      .it (.one (.build 9 [.int .i64 0, .int .i64 0] [(0, 1, (.c (.int .i64 (7)))), (1, 1, (.c (.int .i64 (0))))])),
      .it (.one (.bslp 10 2 [(.r 7), (.r 8), (.r 9)])),
      .call (some 11) (.st 7) [(.r 10)] [] [90, 91],
      .it (.one (.mov 1 (.r 11)))])
    (.seq
     (.seq
      /- R2 -/ (.ops [.it (.one (.mov 12 (.r 1))),
      .it (.one (.eq 13 false .nil (.r 12) (.c (.nilp))))])
      (.cond (.r 13)
       (.seq
        /- R3 -/ (.ops [.it (.one (.mov 0 (.c (.bool false))))]) .ret) .skip))
     (.seq
      /- R4 -/ (.post (.ops [.it (.one (.mov 15 (.r 1))),
      .it (.one (.callo (some 16) (.st 11) [(.r 15)] [90, 91] [])),
      .it (.one (.mov 14 (.r 16))),
      .it (.one (.ext 17 (.r 14) 0)),
      .it (.one (.ext 18 (.r 14) 1)),
      .it (.one (.alloc 2 2 [.int .i64 0, .int .i64 0])),
      .it (.one (.store (.r 2) (.r 17) 2)),
      .it (.one (.mov 3 (.r 18)))]) (.frz 2))
      (.seq
       /- R5 -/ (.ops [.it (.one (.mov 19 (.r 1))),
      .it (.one (.callo (some 20) (.st 14) [(.r 19), (.c (.int .i64 (5))), (.c (.int .i64 (9)))] [90, 91] [])),
      .it (.one (.mov 4 (.r 20)))])
       (.seq
        /- R6 -/ (.post (.ops [.it (.one (.mov 22 (.r 1))),
      .it (.one (.callb (some 23) (.st 16) [(.r 22)])),
      .it (.one (.mov 21 (.r 23))),
      .it (.one (.ext 24 (.r 21) 0)),
      .it (.one (.ext 25 (.r 21) 1)),
      .it (.one (.alloc 5 5 [.int .i64 0, .int .i64 0])),
      .it (.one (.store (.r 5) (.r 24) 2)),
      .it (.one (.mov 6 (.r 25)))]) (.frz 5))
        (.seq
         /- R7 -/ (.ops [.it (.one (.load 26 (.r 2) 2 true)),
      .it (.one (.build 27 [.int .i64 0, .int .i64 0] [(0, 1, (.c (.int .i64 (7))))])),
      .it (.one (.eq 28 false (.strct [.i, .i]) (.r 26) (.r 27))),
      .it (.one (.mov 29 (.r 28))),
      .it (.grp 29 true [.mov 30 (.r 3)]),
      .it (.one (.pick 31 (.r 29) (.r 30) (.c (.bool false)))),
      .it (.one (.mov 32 (.r 31))),
      .it (.grp 32 true [.mov 33 (.r 4), .bin 34 .eql (.r 33) (.c (.int .i64 (1)))]),
      .it (.one (.pick 35 (.r 32) (.r 34) (.c (.bool false)))),
      .it (.one (.mov 36 (.r 35))),
      .it (.grp 36 true [.load 37 (.r 5) 2 true, .build 38 [.int .i64 0, .int .i64 0] [(0, 1, (.c (.int .i64 (9)))), (1, 1, (.c (.int .i64 (5))))], .eq 39 false (.strct [.i, .i]) (.r 37) (.r 38)]),
      .it (.one (.pick 40 (.r 36) (.r 39) (.c (.bool false)))),
      .it (.one (.mov 41 (.r 40))),
      .it (.grp 41 true [.mov 42 (.r 6)]),
      .it (.one (.pick 43 (.r 41) (.r 42) (.c (.bool false)))),
      .it (.one (.mov 44 (.r 43))),
      .it (.grp 44 true [.mov 45 (.r 1), .callb (some 46) (.st 17) [(.r 45)], .bin 47 .eql (.r 46) (.c (.int .i64 (2)))]),
      .it (.one (.pick 48 (.r 44) (.r 47) (.c (.bool false)))),
      .it (.one (.mov 49 (.r 48))),
      .it (.grp 49 true [.mov 50 (.r 1), .callo (some 51) (.st 8) [(.r 50), (.c (.int .i64 (1)))] [90, 91] [], .len 52 (.r 51), .bin 53 .eql (.r 52) (.c (.int .i64 (1)))]),
      .it (.one (.pick 54 (.r 49) (.r 53) (.c (.bool false)))),
      .it (.one (.mov 0 (.r 54)))]) .ret)))))))
theorem A6_ok : okFun Try.prog 6 55 0 A6 [.tmp 0] [] = true := by kernel_rfl
/-- dyehouse/pile.New -/
def A7 : ACode :=
  (.seq
   /- R0 -/ (.ops [.it (.one (.mov 2 (.c (.nilp))))])
   (.seq
    /- R1 -/ (.ops [.it (.one (.mov 4 (.r 0))),
      .call (some 5) (.st 18) [(.r 4)] [] [60],
      .it (.one (.buildm 6 [.sl [], .nilf] [(0, 1, (.r 5)), (1, 1, (.c (.fn 19 [])))])),
      .it (.one (.buildm 7 [.sl [], .nilf] [(0, 2, (.r 6))])),
      .it (.one (.boxg 8 8 (.r 7))),
      .it (.one (.mov 3 (.r 8)))])
    (.seq
     /- R2 -/ (.ops [.it (.one (.mov 9 (.r 3))),
      .it (.one (.nilc 10 (.r 9))),
      .it (.one (.fad 11 (.r 10) 0)),
      .it (.one (.mkif 12 56 (.r 11))),
      .it (.one (.callo (some 13) (.st 20) [(.r 12)] [8, 60] []))])
     (.seq
      /- R3 -/ (.ops [.it (.one (.mov 14 (.r 3))),
      .it (.one (.mov 2 (.r 14)))]) .ret))))
theorem A7_ok : okFun Try.prog 7 15 0 A7 [.tmp 2] [8, 60] = true := by kernel_rfl
/-- (*dyehouse/pile.Pile).Drain -/
def A8 : ACode :=
  (.seq
   /- R0 -/ (.ops [.it (.one (.mov 4 (.c (.sl []))))])
   (.seq
    /- R1 -/ (.ops [.it (.one (.nilarr 5 5 2))])
    (.seq
     (.block 0
      (.loop (.pre (.mv [0, 1, 5] [(0, 0), (1, 1), (5, 5)])
       (.seq
        (.seq
         /- R2 -/ (.ops [.it (.one (.mov 8 (.r 5))),
      .it (.one (.len 9 (.r 8))),
      .it (.one (.mov 10 (.r 1))),
      .it (.one (.bin 11 .lss (.r 9) (.r 10)))])
         (.cond (.r 11) .skip (.exit 0)))
        (.block 1
         (.seq
          /- R3 -/ (.post (.ops [.it (.one (.mov 13 (.r 0))),
      .it (.one (.callo (some 14) (.st 11) [(.r 13)] [0, 1] [])),
      .it (.one (.mov 12 (.r 14))),
      .it (.one (.ext 15 (.r 12) 0)),
      .it (.one (.ext 16 (.r 12) 1)),
      .it (.one (.alloc 6 6 [.int .i64 0, .int .i64 0])),
      .it (.one (.store (.r 6) (.r 15) 2)),
      .it (.one (.mov 7 (.r 16)))]) (.frz 6))
          (.seq
           (.seq
            /- R4 -/ (.ops [.it (.one (.mov 17 (.r 7))),
      .it (.one (.un 18 .not (.r 17)))])
            (.cond (.r 18) (.exit 0) .skip))
           /- R5 -/ (.ops [.it (.one (.mov 19 (.r 5))),
      .it (.one (.load 20 (.r 6) 2 true)),
      .it (.one (.bslp 21 2 [(.r 20)])),
      .it (.one (.appd 22 (.r 19) (.r 21) 2 16)),
      .it (.one (.mov 5 (.r 22)))]))))))))
     (.seq
      /- R6 -/ (.post (.ops [.it (.one (.mov 23 (.r 5))),
      .it (.one (.mov 4 (.r 23)))]) (.frz 5)) .ret))))
theorem A8_ok : okFun Try.prog 8 24 2 A8 [.tmp 4] [] = true := by kernel_rfl
/-- dyehouse/dyehouselaw08.same -/
def A9 : ACode :=
  (.seq
   /- R0 -/ (.ops [.it (.one (.mov 4 (.c (.bool false))))])
   (.seq
    (.seq
     /- R1 -/ (.ops [.it (.one (.mov 6 (.r 0))),
      .it (.one (.len 7 (.r 6))),
      .it (.one (.mov 8 (.r 1))),
      .it (.one (.len 9 (.r 8))),
      .it (.one (.bin 10 .neq (.r 7) (.r 9)))])
     (.cond (.r 10)
      (.seq
       /- R2 -/ (.ops [.it (.one (.mov 4 (.c (.bool false))))]) .ret) .skip))
    (.seq
     (.seq
      /- R3 -/ (.ops [.it (.one (.mov 5 (.c (.int .i64 (0)))))])
      (.block 0
       (.loop (.pre (.mv [0, 1, 5] [])
        (.seq
         (.seq
          /- R4 -/ (.ops [.it (.one (.mov 11 (.r 5))),
      .it (.one (.mov 12 (.r 0))),
      .it (.one (.len 13 (.r 12))),
      .it (.one (.bin 14 .lss (.r 11) (.r 13)))])
          (.cond (.r 14) .skip (.exit 0)))
         (.seq
          (.block 1
           (.seq
            /- R6 -/ (.draw [[], [], [0, 1], [0, 1, 2], [], [], [4, 5], [4, 5, 6], [0, 1, 2, 3, 4, 5, 6, 7]] [.one (.mov 17 (.r 0)),
      .one (.mov 18 (.r 5)),
      .one (.idx 19 (.r 17) (.r 18) 2),
      .one (.load 20 (.r 19) 2 true),
      .one (.mov 21 (.r 1)),
      .one (.mov 22 (.r 5)),
      .one (.idx 23 (.r 21) (.r 22) 2),
      .one (.load 24 (.r 23) 2 true),
      .one (.eq 25 true (.strct [.i, .i]) (.r 20) (.r 24))])
            (.cond (.r 25)
             (.seq
              /- R7 -/ (.ops [.it (.one (.mov 4 (.c (.bool false))))]) .ret) .skip)))
          /- R5 -/ (.ops [.it (.one (.mov 15 (.r 5))),
      .it (.one (.bin 16 .add (.r 15) (.c (.int .i64 (1))))),
      .it (.one (.mov 5 (.r 16)))])))))))
     (.seq
      /- R8 -/ (.ops [.it (.one (.mov 4 (.c (.bool true))))]) .ret))))
theorem A9_ok : okFun Try.prog 9 26 0 A9 [.tmp 4] [] = true := by kernel_rfl
/-- (*dyehouse/pile.Pile).Push -/
def A10 : ACode :=
  (.seq
   /- R0 -/ (.ops [.it (.one (.boxp 3 (.r 1)))])
   (.seq
    /- R1 -/ (.ops [.it (.one (.mov 4 (.r 0))),
      .it (.one (.callb (some 5) (.st 21) [(.r 4)]))])
    (.cond (.r 5)
     /- R2 -/ (.draw [[], [0], [0, 1], [0, 1, 2], [], [4], [0, 1, 2, 3, 4, 5]] [.one (.mov 6 (.r 0)),
      .one (.nilc 7 (.r 6)),
      .one (.fad 8 (.r 7) 0),
      .one (.mkif 9 56 (.r 8)),
      .one (.load 10 (.r 3) 2 true),
      .one (.mkif 11 29 (.r 10)),
      .one (.callo (some 12) (.st 22) [(.r 9), (.r 11)] [0, 1] [])]) .skip)))
theorem A10_ok : okFun Try.prog 10 13 2 A10 [] [] = true := by kernel_rfl
/-- (*dyehouse/pile.Pile).Pop -/
def A11 : ACode :=
  (.seq
   /- R0 -/ (.ops [.it (.one (.alloc 2 2 [.int .i64 0, .int .i64 0])),
      .it (.one (.mov 3 (.c (.bool false))))])
   (.seq
    (.seq
     /- R1 -/ (.ops [.it (.one (.mov 6 (.r 0))),
      .it (.one (.callb (some 7) (.st 17) [(.r 6)])),
      .it (.one (.bin 8 .eql (.r 7) (.c (.int .i64 (0)))))])
     (.cond (.r 8)
      (.seq
       /- R2 -/ (.ops [.it (.one (.build 9 [.int .i64 0, .int .i64 0] [])),
      .it (.one (.store (.r 2) (.r 9) 2)),
      .it (.one (.mov 3 (.c (.bool false))))]) .ret) .skip))
    (.seq
     /- R3 -/ (.post (.ops [.it (.one (.mov 11 (.r 0))),
      .it (.one (.nilc 12 (.r 11))),
      .it (.one (.fad 13 (.r 12) 0)),
      .it (.one (.mkif 14 56 (.r 13))),
      .it (.one (.callo (some 15) (.st 23) [(.r 14)] [0, 1] [])),
      .it (.one (.tass 16 29 (.r 15))),
      .it (.one (.mov 10 (.r 16))),
      .it (.one (.ext 17 (.r 10) 0)),
      .it (.one (.ext 18 (.r 10) 1)),
      .it (.one (.alloc 4 4 [.int .i64 0, .int .i64 0])),
      .it (.one (.store (.r 4) (.r 17) 2)),
      .it (.one (.mov 5 (.r 18)))]) (.frz 4))
     (.seq
      /- R4 -/ (.ops [.it (.one (.load 19 (.r 4) 2 true)),
      .it (.one (.mov 20 (.r 5))),
      .it (.one (.store (.r 2) (.r 19) 2)),
      .it (.one (.mov 3 (.r 20)))]) .ret))))
theorem A11_ok : okFun Try.prog 11 21 2 A11 [.cell 2 2 true, .tmp 3] [] = true := by kernel_rfl
/-- dyehouse/dyehouseref08.Pop -/
def A12 : ACode :=
  (.seq
   /- R0 -/ (.ops [.it (.one (.alloc 2 2 [.int .i64 0, .int .i64 0])),
      .it (.one (.mov 3 (.c (.sl [])))),
      .it (.one (.mov 4 (.c (.bool false))))])
   (.seq
    /- R1 -/ (.ops [.it (.one (.mov 7 (.r 0))),
      .it (.one (.callb (some 8) (.st 24) [(.r 7)])),
      .it (.one (.mov 5 (.r 8)))])
    (.seq
     (.seq
      /- R2 -/ (.ops [.it (.one (.mov 9 (.r 5))),
      .it (.one (.bin 10 .lss (.r 9) (.c (.int .i64 (0)))))])
      (.cond (.r 10)
       (.seq
        /- R3 -/ (.ops [.it (.one (.build 11 [.int .i64 0, .int .i64 0] [])),
      .it (.one (.mov 12 (.r 0))),
      .it (.one (.store (.r 2) (.r 11) 2)),
      .it (.one (.mov 3 (.r 12))),
      .it (.one (.mov 4 (.c (.bool false))))]) .ret) .skip))
     (.seq
      /- R4 -/ (.ops [.it (.one (.nilarr 6 6 2))])
      (.seq
       /- R5 -/ (.ops [.it (.one (.mov 13 (.r 6))),
      .it (.one (.mov 14 (.r 0))),
      .it (.one (.mov 15 (.r 5))),
      .it (.one (.slc 16 (.r 14) none (some (.r 15)) 2)),
      .it (.one (.appd 17 (.r 13) (.r 16) 2 16)),
      .it (.one (.mov 6 (.r 17)))])
       (.seq
        /- R6 -/ (.ops [.it (.one (.mov 18 (.r 6))),
      .it (.one (.mov 19 (.r 0))),
      .it (.one (.mov 20 (.r 5))),
      .it (.one (.bin 21 .add (.r 20) (.c (.int .i64 (1))))),
      .it (.one (.slc 22 (.r 19) (some (.r 21)) none 2)),
      .it (.one (.appd 23 (.r 18) (.r 22) 2 16)),
      .it (.one (.mov 6 (.r 23)))])
        (.seq
         /- R7 -/ (.ops [.it (.one (.mov 24 (.r 0))),
      .it (.one (.mov 25 (.r 5))),
      .it (.one (.idx 26 (.r 24) (.r 25) 2)),
      .it (.one (.load 27 (.r 26) 2 true)),
      .it (.one (.mov 28 (.r 6))),
      .it (.one (.store (.r 2) (.r 27) 2)),
      .it (.one (.mov 3 (.r 28))),
      .it (.one (.mov 4 (.c (.bool true))))]) .ret)))))))
theorem A12_ok : okFun Try.prog 12 29 1 A12 [.cell 2 2 true, .tmp 3, .tmp 4] [6] = true := by kernel_rfl
/-- dyehouse/dyehouseref08.Change -/
def A13 : ACode :=
  (.seq
   /- R0 -/ (.ops [.it (.one (.mov 6 (.c (.sl [])))),
      .it (.one (.mov 7 (.c (.int .i64 (0)))))])
   (.seq
    /- R1 -/ (.ops [.it (.one (.nilarr 8 8 2))])
    (.seq
     /- R2 -/ (.ops [.it (.one (.mov 9 (.c (.int .i64 (0)))))])
     (.seq
      (.seq
       /- R3 -/ (.ops [.it (.one (.mov 10 (.c (.int .i64 (0)))))])
       (.block 0
        (.loop (.pre (.mv [0, 1, 2, 8, 9, 10] [(0, 0), (8, 8)])
         (.seq
          (.seq
           /- R4 -/ (.ops [.it (.one (.mov 12 (.r 10))),
      .it (.one (.mov 13 (.r 0))),
      .it (.one (.len 14 (.r 13))),
      .it (.one (.bin 15 .lss (.r 12) (.r 14)))])
           (.cond (.r 15) .skip (.exit 0)))
          (.seq
           (.block 1
            (.seq
             /- R6 -/ (.ops [.it (.one (.mov 18 (.r 0))),
      .it (.one (.mov 19 (.r 10))),
      .it (.one (.idx 20 (.r 18) (.r 19) 2)),
      .it (.one (.load 21 (.r 20) 2 true)),
      .it (.one (.alloc 11 11 [.int .i64 0, .int .i64 0])),
      .it (.one (.store (.r 11) (.r 21) 2))])
             (.seq
              (.seq
               /- R7 -/ (.ops [.it (.one (.fad 22 (.r 11) 1)),
      .it (.one (.load 23 (.r 22) 1 false)),
      .it (.one (.mov 24 (.r 1))),
      .it (.one (.bin 25 .eql (.r 23) (.r 24)))])
               (.cond (.r 25)
                (.seq
                 /- R8 -/ (.ops [.it (.one (.mov 26 (.r 2))),
      .it (.one (.fad 27 (.r 11) 0)),
      .it (.one (.store (.r 27) (.r 26) 1))])
                 /- R9 -/ (.ops [.it (.one (.mov 28 (.r 9))),
      .it (.one (.bin 29 .add (.r 28) (.c (.int .i64 (1))))),
      .it (.one (.mov 9 (.r 29)))])) .skip))
              /- R10 -/ (.ops [.it (.one (.mov 30 (.r 8))),
      .it (.one (.load 31 (.r 11) 2 true)),
      .it (.one (.bslp 32 2 [(.r 31)])),
      .it (.one (.appd 33 (.r 30) (.r 32) 2 16)),
      .it (.one (.mov 8 (.r 33)))]))))
           /- R5 -/ (.ops [.it (.one (.mov 16 (.r 10))),
      .it (.one (.bin 17 .add (.r 16) (.c (.int .i64 (1))))),
      .it (.one (.mov 10 (.r 17)))])))))))
      (.seq
       /- R11 -/ (.ops [.it (.one (.mov 34 (.r 8))),
      .it (.one (.mov 35 (.r 9))),
      .it (.one (.mov 6 (.r 34))),
      .it (.one (.mov 7 (.r 35)))]) .ret)))))
theorem A13_ok : okFun Try.prog 13 36 1 A13 [.tmp 6, .tmp 7] [8] = true := by kernel_rfl
/-- (*dyehouse/pile.Pile).Change -/
def A14 : ACode :=
  (.seq
   /- R0 -/ (.ops [.it (.one (.mov 6 (.c (.int .i64 (0)))))])
   (.seq
    (.seq
     /- R1 -/ (.ops [.it (.one (.mov 9 (.r 0))),
      .it (.one (.callb (some 10) (.st 21) [(.r 9)])),
      .it (.one (.un 11 .not (.r 10)))])
     (.cond (.r 11)
      (.seq
       /- R2 -/ (.ops [.it (.one (.mov 6 (.c (.int .i64 (0)))))]) .ret) .skip))
    (.seq
     /- R3 -/ (.ops [.it (.one (.mov 7 (.c (.int .i64 (0)))))])
     (.seq
      (.seq
       /- R4 -/ (.ops [.it (.one (.mov 12 (.r 0))),
      .it (.one (.nilc 13 (.r 12))),
      .it (.one (.fad 14 (.r 13) 0)),
      .it (.one (.fad 15 (.r 14) 0)),
      .it (.one (.load 16 (.r 15) 1 false)),
      .it (.one (.len 17 (.r 16))),
      .it (.one (.mov 18 (.c (.int .i64 (0)))))])
       (.block 0
        (.loop (.pre (.mv [0, 1, 2, 7, 17, 18] [(0, 0), (1, 1)])
         (.seq
          /- R5 -/ (.ops [.it (.one (.bin 19 .lss (.r 18) (.r 17)))])
          (.seq
           (.cond (.r 19) .skip (.exit 0))
           (.seq
            (.block 1
             (.seq
              /- R6 -/ (.ops [.it (.one (.mov 20 (.r 18))),
      .it (.one (.mov 8 (.r 20)))])
              (.seq
               /- R7 -/ (.ops [.it (.one (.mov 21 (.r 0))),
      .it (.one (.nilc 22 (.r 21))),
      .it (.one (.fad 23 (.r 22) 0)),
      .it (.one (.fad 24 (.r 23) 0)),
      .it (.one (.load 25 (.r 24) 1 false)),
      .it (.one (.mov 26 (.r 8))),
      .it (.one (.idx 27 (.r 25) (.r 26) 2)),
      .it (.one (.fad 28 (.r 27) 1)),
      .it (.one (.load 29 (.r 28) 1 false)),
      .it (.one (.mov 30 (.r 1))),
      .it (.one (.bin 31 .eql (.r 29) (.r 30)))])
               (.cond (.r 31)
                (.seq
                 /- R8 -/ (.ops [.it (.one (.mov 32 (.r 0))),
      .it (.one (.nilc 33 (.r 32))),
      .it (.one (.fad 34 (.r 33) 0)),
      .it (.one (.fad 35 (.r 34) 0)),
      .it (.one (.load 36 (.r 35) 1 false)),
      .it (.one (.mov 37 (.r 8))),
      .it (.one (.mov 38 (.r 2))),
      .it (.one (.idx 39 (.r 36) (.r 37) 2)),
      .it (.one (.fad 40 (.r 39) 0)),
      .it (.one (.store (.r 40) (.r 38) 1))])
                 /- R9 -/ (.ops [.it (.one (.mov 41 (.r 7))),
      .it (.one (.bin 42 .add (.r 41) (.c (.int .i64 (1))))),
      .it (.one (.mov 7 (.r 42)))])) .skip))))
            /- R10 -/ (.ops [.it (.one (.bin 43 .add (.r 18) (.c (.int .i64 (1))))),
      .it (.one (.mov 18 (.r 43)))]))))))))
      (.seq
       /- R11 -/ (.ops [.it (.one (.mov 44 (.r 0))),
      .it (.one (.nilc 45 (.r 44))),
      .it (.one (.fad 46 (.r 45) 0)),
      .it (.one (.mkif 47 56 (.r 46))),
      .it (.one (.callo (some 48) (.st 20) [(.r 47)] [0, 1] []))])
       (.seq
        /- R12 -/ (.ops [.it (.one (.mov 49 (.r 7))),
      .it (.one (.mov 6 (.r 49)))]) .ret))))))
theorem A14_ok : okFun Try.prog 14 50 2 A14 [.tmp 6] [] = true := by kernel_rfl
/-- dyehouse/dyehouselaw08.drain -/
def A15 : ACode :=
  (.seq
   /- R0 -/ (.ops [.it (.one (.mov 4 (.c (.sl [])))),
      .it (.one (.mov 5 (.c (.sl []))))])
   (.seq
    /- R1 -/ (.ops [.it (.one (.nilarr 6 6 2))])
    (.seq
     (.block 0
      (.loop (.pre (.mv [0, 1, 6] [(0, 0), (6, 6), (8, 8)])
       (.seq
        (.seq
         /- R2 -/ (.ops [.it (.one (.mov 10 (.r 6))),
      .it (.one (.len 11 (.r 10))),
      .it (.one (.mov 12 (.r 1))),
      .it (.one (.bin 13 .lss (.r 11) (.r 12)))])
         (.cond (.r 13) .skip (.exit 0)))
        (.block 1
         (.seq
          (.alt /- R3 -/ (.post (.ops [.it (.one (.mov 15 (.r 0))),
      .call (some 16) (.st 12) [(.r 15)] [0] [8],
      .it (.one (.mov 14 (.r 16))),
      .it (.one (.ext 17 (.r 14) 0)),
      .it (.one (.ext 18 (.r 14) 1)),
      .it (.one (.ext 19 (.r 14) 2)),
      .it (.one (.alloc 7 7 [.int .i64 0, .int .i64 0])),
      .it (.one (.store (.r 7) (.r 17) 2)),
      .it (.one (.mov 8 (.r 18))),
      .it (.one (.mov 9 (.r 19)))]) (.frz 7))
      (.alt /- R3 -/ (.post (.ops [.it (.one (.mov 15 (.r 0))),
      .call (some 16) (.st 12) [(.r 15)] [8] [9],
      .it (.one (.mov 14 (.r 16))),
      .it (.one (.ext 17 (.r 14) 0)),
      .it (.one (.ext 18 (.r 14) 1)),
      .it (.one (.ext 19 (.r 14) 2)),
      .it (.one (.alloc 7 7 [.int .i64 0, .int .i64 0])),
      .it (.one (.store (.r 7) (.r 17) 2)),
      .it (.one (.mov 8 (.r 18))),
      .it (.one (.mov 9 (.r 19)))]) (.frz 7))
      (.alt /- R3 -/ (.post (.ops [.it (.one (.mov 15 (.r 0))),
      .call (some 16) (.st 12) [(.r 15)] [0] [],
      .it (.one (.mov 14 (.r 16))),
      .it (.one (.ext 17 (.r 14) 0)),
      .it (.one (.ext 18 (.r 14) 1)),
      .it (.one (.ext 19 (.r 14) 2)),
      .it (.one (.alloc 7 7 [.int .i64 0, .int .i64 0])),
      .it (.one (.store (.r 7) (.r 17) 2)),
      .it (.one (.mov 8 (.r 18))),
      .it (.one (.mov 9 (.r 19)))]) (.frz 7))
      /- R3 -/ (.post (.ops [.it (.one (.mov 15 (.r 0))),
      .call (some 16) (.st 12) [(.r 15)] [8] [],
      .it (.one (.mov 14 (.r 16))),
      .it (.one (.ext 17 (.r 14) 0)),
      .it (.one (.ext 18 (.r 14) 1)),
      .it (.one (.ext 19 (.r 14) 2)),
      .it (.one (.alloc 7 7 [.int .i64 0, .int .i64 0])),
      .it (.one (.store (.r 7) (.r 17) 2)),
      .it (.one (.mov 8 (.r 18))),
      .it (.one (.mov 9 (.r 19)))]) (.frz 7)))))
          (.seq
           (.seq
            /- R4 -/ (.ops [.it (.one (.mov 20 (.r 9))),
      .it (.one (.un 21 .not (.r 20)))])
            (.cond (.r 21) (.exit 0) .skip))
           (.alt /- R5 -/ (.ops [.it (.one (.mov 22 (.r 6))),
      .it (.one (.load 23 (.r 7) 2 true)),
      .it (.one (.bslp 24 2 [(.r 23)])),
      .it (.one (.appd 25 (.r 22) (.r 24) 2 16)),
      .it (.one (.mov 26 (.r 8))),
      .it (.one (.mov 6 (.r 25))),
      .it (.one (.mov 0 (.r 26)))])
      /- R5 -/ (.post (.ops [.it (.one (.mov 22 (.r 6))),
      .it (.one (.load 23 (.r 7) 2 true)),
      .it (.one (.bslp 24 2 [(.r 23)])),
      .it (.one (.appd 25 (.r 22) (.r 24) 2 16)),
      .it (.one (.mov 26 (.r 8))),
      .it (.one (.mov 6 (.r 25))),
      .it (.one (.mov 0 (.r 26)))]) (.mv [0, 1, 6] [(0, 0), (6, 6), (9, 8)]))))))))))
     (.seq
      /- R6 -/ (.post (.ops [.it (.one (.mov 27 (.r 6))),
      .it (.one (.mov 28 (.r 0))),
      .it (.one (.mov 4 (.r 27))),
      .it (.one (.mov 5 (.r 28)))]) (.frz 6)) .ret))))
theorem A15_ok : okFun Try.prog 15 29 1 A15 [.tmp 4, .tmp 5] [8] = true := by kernel_rfl
/-- (*dyehouse/pile.Pile).Peek -/
def A16 : ACode :=
  (.seq
   /- R0 -/ (.ops [.it (.one (.alloc 2 2 [.int .i64 0, .int .i64 0])),
      .it (.one (.mov 3 (.c (.bool false))))])
   (.seq
    (.seq
     /- R1 -/ (.ops [.it (.one (.mov 4 (.r 0))),
      .it (.one (.callb (some 5) (.st 17) [(.r 4)])),
      .it (.one (.bin 6 .eql (.r 5) (.c (.int .i64 (0)))))])
     (.cond (.r 6)
      (.seq
       /- R2 -/ (.ops [.it (.one (.build 7 [.int .i64 0, .int .i64 0] [])),
      .it (.one (.store (.r 2) (.r 7) 2)),
      .it (.one (.mov 3 (.c (.bool false))))]) .ret) .skip))
    (.seq
     /- R3 -/ (.ops [.it (.one (.mov 8 (.r 0))),
      .it (.one (.nilc 9 (.r 8))),
      .it (.one (.fad 10 (.r 9) 0)),
      .it (.one (.fad 11 (.r 10) 0)),
      .it (.one (.load 12 (.r 11) 1 false)),
      .it (.one (.idx 13 (.r 12) (.c (.int .i64 (0))) 2)),
      .it (.one (.load 14 (.r 13) 2 true)),
      .it (.one (.store (.r 2) (.r 14) 2)),
      .it (.one (.mov 3 (.c (.bool true))))]) .ret)))
theorem A16_ok : okFun Try.prog 16 15 0 A16 [.cell 2 2 true, .tmp 3] [] = true := by kernel_rfl
/-- (*dyehouse/pile.Pile).Len -/
def A17 : ACode :=
  (.seq
   /- R0 -/ (.ops [.it (.one (.mov 2 (.c (.int .i64 (0)))))])
   (.seq
    (.seq
     /- R1 -/ (.ops [.it (.one (.mov 3 (.r 0))),
      .it (.one (.callb (some 4) (.st 21) [(.r 3)])),
      .it (.one (.un 5 .not (.r 4)))])
     (.cond (.r 5)
      (.seq
       /- R2 -/ (.ops [.it (.one (.mov 2 (.c (.int .i64 (0)))))]) .ret) .skip))
    (.seq
     /- R3 -/ (.ops [.it (.one (.mov 6 (.r 0))),
      .it (.one (.nilc 7 (.r 6))),
      .it (.one (.fad 8 (.r 7) 0)),
      .it (.one (.callb (some 9) (.st 25) [(.r 8)])),
      .it (.one (.mov 2 (.r 9)))]) .ret)))
theorem A17_ok : okFun Try.prog 17 10 0 A17 [.tmp 2] [] = true := by kernel_rfl
/-- slices.Clone[[]dyehouse/api.Item,dyehouse/api.Item] -/
def A18 : ACode :=
  (.seq
   /- R0 -/ (.ops [.it (.one (.nilarr 2 2 2))])
   (.seq
    (.seq
     /- R1 -/ (.ops [.it (.one (.mov 3 (.r 0))),
      .it (.one (.eqs 4 false (.r 3)))])
     (.cond (.r 4)
      (.seq
       /- R2 -/ (.post (.ops [.it (.one (.nilarr 2 3 2))]) (.mv [2] [(3, 60)])) .ret) .skip))
    (.seq
     /- R3 -/ (.post (.ops [.it (.one (.bslo 5 5 2 [])),
      .it (.one (.mov 6 (.r 0))),
      .it (.one (.appd 7 (.r 5) (.r 6) 2 16)),
      .it (.one (.mov 2 (.r 7)))]) (.mv [2] [(5, 60)])) .ret)))
theorem A18_ok : okFun Try.prog 18 8 0 A18 [.tmp 2] [60] = true := by kernel_rfl
/-- (dyehouse/pile.item).before -/
def A19 : ACode :=
  (.seq
   /- R0 -/ (.ops [.it (.one (.boxp 2 (.r 0))),
      .it (.one (.boxp 3 (.r 1))),
      .it (.one (.mov 4 (.c (.bool false))))])
   (.seq
    (.seq
     /- R1 -/ (.ops [.it (.one (.fad 5 (.r 2) 0)),
      .it (.one (.load 6 (.r 5) 1 false)),
      .it (.one (.fad 7 (.r 3) 0)),
      .it (.one (.load 8 (.r 7) 1 false)),
      .it (.one (.bin 9 .neq (.r 6) (.r 8)))])
     (.cond (.r 9)
      (.seq
       /- R2 -/ (.ops [.it (.one (.fad 10 (.r 2) 0)),
      .it (.one (.load 11 (.r 10) 1 false)),
      .it (.one (.fad 12 (.r 3) 0)),
      .it (.one (.load 13 (.r 12) 1 false)),
      .it (.one (.bin 14 .gtr (.r 11) (.r 13))),
      .it (.one (.mov 4 (.r 14)))]) .ret) .skip))
    (.seq
     /- R3 -/ (.ops [.it (.one (.fad 15 (.r 2) 1)),
      .it (.one (.load 16 (.r 15) 1 false)),
      .it (.one (.fad 17 (.r 3) 1)),
      .it (.one (.load 18 (.r 17) 1 false)),
      .it (.one (.bin 19 .lss (.r 16) (.r 18))),
      .it (.one (.mov 4 (.r 19)))]) .ret)))
theorem A19_ok : okFun Try.prog 19 20 0 A19 [.tmp 4] [] = true := by kernel_rfl
/-- container/heap.Init -/
def A20 : ACode :=
  (.seq
   /- R0 -/ (.ops [.it (.one (.mov 4 (.r 0))),
      .it (.one (.callb (some 5) (.iv (.r 4) 56 "Len" 25) [])),
      .it (.one (.mov 2 (.r 5)))])
   (.seq
    /- R1 -/ (.ops [.it (.one (.mov 6 (.r 2))),
      .it (.one (.bin 7 .quo (.r 6) (.c (.int .i64 (2))))),
      .it (.one (.bin 8 .sub (.r 7) (.c (.int .i64 (1))))),
      .it (.one (.mov 3 (.r 8)))])
    (.block 0
     (.loop (.pre (.mv [0, 2, 3] [(0, 0), (1, 1)])
      (.seq
       (.seq
        /- R2 -/ (.ops [.it (.one (.mov 9 (.r 3))),
      .it (.one (.bin 10 .geq (.r 9) (.c (.int .i64 (0)))))])
        (.cond (.r 10) .skip (.exit 0)))
       (.seq
        (.block 1
         /- R4 -/ (.ops [.it (.one (.mov 13 (.r 0))),
      .it (.one (.mov 14 (.r 3))),
      .it (.one (.mov 15 (.r 2))),
      .it (.one (.callo (some 16) (.st 26) [(.r 13), (.r 14), (.r 15)] [0, 1] []))]))
        /- R3 -/ (.ops [.it (.one (.mov 11 (.r 3))),
      .it (.one (.bin 12 .sub (.r 11) (.c (.int .i64 (1))))),
      .it (.one (.mov 3 (.r 12)))]))))))))
theorem A20_ok : okFun Try.prog 20 17 2 A20 [] [] = true := by kernel_rfl
/-- (*dyehouse/pile.Pile).made -/
def A21 : ACode :=
  (.seq
   /- R0 -/ (.ops [.it (.one (.mov 2 (.c (.bool false))))])
   (.seq
    /- R1 -/ (.ops [.it (.one (.mov 3 (.r 0))),
      .it (.one (.eq 4 true .nil (.r 3) (.c (.nilp)))),
      .it (.one (.mov 5 (.r 4))),
      .it (.grp 5 true [.mov 6 (.r 0), .nilc 7 (.r 6), .fad 8 (.r 7) 0, .fad 9 (.r 8) 1, .load 10 (.r 9) 1 false, .eq 11 true .nilf (.r 10) (.c (.nilf))]),
      .it (.one (.pick 12 (.r 5) (.r 11) (.c (.bool false)))),
      .it (.one (.mov 2 (.r 12)))]) .ret))
theorem A21_ok : okFun Try.prog 21 13 0 A21 [.tmp 2] [] = true := by kernel_rfl
/-- container/heap.Push -/
def A22 : ACode :=
  (.seq
   /- R0 -/ (.ops [.it (.one (.mov 4 (.r 0))),
      .it (.one (.mov 5 (.r 1))),
      .it (.one (.callo (some 6) (.iv (.r 4) 56 "Push" 46) [(.r 5)] [0, 1] []))])
   /- R1 -/ (.ops [.it (.one (.mov 7 (.r 0))),
      .it (.one (.mov 8 (.r 0))),
      .it (.one (.callb (some 9) (.iv (.r 8) 56 "Len" 25) [])),
      .it (.one (.bin 10 .sub (.r 9) (.c (.int .i64 (1))))),
      .it (.one (.callo (some 11) (.st 27) [(.r 7), (.r 10)] [0, 1] []))]))
theorem A22_ok : okFun Try.prog 22 12 2 A22 [] [] = true := by kernel_rfl
/-- container/heap.Pop -/
def A23 : ACode :=
  (.seq
   /- R0 -/ (.ops [.it (.one (.mov 2 (.c (.nili))))])
   (.seq
    /- R1 -/ (.ops [.it (.one (.mov 4 (.r 0))),
      .it (.one (.callb (some 5) (.iv (.r 4) 56 "Len" 25) [])),
      .it (.one (.bin 6 .sub (.r 5) (.c (.int .i64 (1))))),
      .it (.one (.mov 3 (.r 6)))])
    (.seq
     /- R2 -/ (.ops [.it (.one (.mov 7 (.r 0))),
      .it (.one (.mov 8 (.r 3))),
      .it (.one (.callo (some 9) (.iv (.r 7) 56 "Swap" 47) [(.c (.int .i64 (0))), (.r 8)] [0, 1] []))])
     (.seq
      /- R3 -/ (.ops [.it (.one (.mov 10 (.r 0))),
      .it (.one (.mov 11 (.r 3))),
      .it (.one (.callo (some 12) (.st 26) [(.r 10), (.c (.int .i64 (0))), (.r 11)] [0, 1] []))])
      (.seq
       /- R4 -/ (.ops [.it (.one (.mov 13 (.r 0))),
      .it (.one (.callo (some 14) (.iv (.r 13) 56 "Pop" 45) [] [0, 1] [])),
      .it (.one (.mov 2 (.r 14)))]) .ret)))))
theorem A23_ok : okFun Try.prog 23 15 2 A23 [.tmp 2] [] = true := by kernel_rfl
/-- dyehouse/dyehouseref08.first -/
def A24 : ACode :=
  (.seq
   /- R0 -/ (.ops [.it (.one (.mov 2 (.c (.int .i64 (0)))))])
   (.seq
    /- R1 -/ (.ops [.it (.one (.mov 3 (.c (.int .i64 (-1)))))])
    (.seq
     (.seq
      /- R2 -/ (.ops [.it (.one (.mov 4 (.c (.int .i64 (0)))))])
      (.block 0
       (.loop (.pre (.mv [0, 3, 4] [])
        (.seq
         (.seq
          /- R3 -/ (.ops [.it (.one (.mov 5 (.r 4))),
      .it (.one (.mov 6 (.r 0))),
      .it (.one (.len 7 (.r 6))),
      .it (.one (.bin 8 .lss (.r 5) (.r 7)))])
          (.cond (.r 8) .skip (.exit 0)))
         (.seq
          (.block 1
           (.seq
            /- R5 -/ (.draw [[], [0], [0, 1], [0, 1, 2], [0, 1, 2], [0, 1, 2, 3, 4], [0, 1, 2, 3, 4, 5], [0, 1, 2, 3, 4, 5, 6], [0, 1, 2], [0, 1, 2], [0, 1, 2, 8, 9], [0, 1, 2, 8, 9, 10], [0, 1, 2, 8, 9, 10, 11], [0, 1, 2, 3, 4, 5, 6, 7, 8, 9, 10, 11, 12], [0, 1, 2, 3, 4, 5, 6, 7, 8, 9, 10, 11, 12, 13], [0, 1, 2, 3, 4, 5, 6, 7, 8, 9, 10, 11, 12, 13, 14], [0, 1, 2, 3, 4, 5, 6, 7, 8, 9, 10, 11, 12, 13, 14, 15], [0, 1, 2, 3, 4, 5, 6, 7, 8, 9, 10, 11, 12, 13, 14, 15], [0, 1, 2, 3, 4, 5, 6, 7, 8, 9, 10, 11, 12, 13, 14, 15, 16, 17], [0, 1, 2, 3, 4, 5, 6, 7, 8, 9, 10, 11, 12, 13, 14, 15, 16, 17, 18], [0, 1, 2, 3, 4, 5, 6, 7, 8, 9, 10, 11, 12, 13, 14, 15, 16, 17, 18, 19], [0, 1, 2, 3, 4, 5, 6, 7, 8, 9, 10, 11, 12, 13, 14, 15], [0, 1, 2, 3, 4, 5, 6, 7, 8, 9, 10, 11, 12, 13, 14, 15], [0, 1, 2, 3, 4, 5, 6, 7, 8, 9, 10, 11, 12, 13, 14, 15, 21, 22], [0, 1, 2, 3, 4, 5, 6, 7, 8, 9, 10, 11, 12, 13, 14, 15, 21, 22, 23], [0, 1, 2, 3, 4, 5, 6, 7, 8, 9, 10, 11, 12, 13, 14, 15, 21, 22, 23, 24], [0, 1, 2, 3, 4, 5, 6, 7, 8, 9, 10, 11, 12, 13, 14, 15, 16, 17, 18, 19, 20, 21, 22, 23, 24, 25], [0, 1, 2, 3, 4, 5, 6, 7, 8, 9, 10, 11, 12, 13, 14, 15, 16, 17, 18, 19, 20, 21, 22, 23, 24, 25, 26], [0, 1, 2, 3, 4, 5, 6, 7, 8, 9, 10, 11, 12, 13, 14, 15, 16, 17, 18, 19, 20, 21, 22, 23, 24, 25, 26, 27], [0, 1, 2, 3, 4, 5, 6, 7, 8, 9, 10, 11, 12, 13, 14, 15, 16, 17, 18, 19, 20, 21, 22, 23, 24, 25, 26, 27], [0, 1, 2, 3, 4, 5, 6, 7, 8, 9, 10, 11, 12, 13, 14, 15, 16, 17, 18, 19, 20, 21, 22, 23, 24, 25, 26, 27, 28, 29], [0, 1, 2, 3, 4, 5, 6, 7, 8, 9, 10, 11, 12, 13, 14, 15, 16, 17, 18, 19, 20, 21, 22, 23, 24, 25, 26, 27, 28, 29, 30], [0, 1, 2, 3, 4, 5, 6, 7, 8, 9, 10, 11, 12, 13, 14, 15, 16, 17, 18, 19, 20, 21, 22, 23, 24, 25, 26, 27, 28, 29, 30, 31], [0, 1, 2, 3, 4, 5, 6, 7, 8, 9, 10, 11, 12, 13, 14, 15, 16, 17, 18, 19, 20, 21, 22, 23, 24, 25, 26, 27], [0, 1, 2, 3, 4, 5, 6, 7, 8, 9, 10, 11, 12, 13, 14, 15, 16, 17, 18, 19, 20, 21, 22, 23, 24, 25, 26, 27], [0, 1, 2, 3, 4, 5, 6, 7, 8, 9, 10, 11, 12, 13, 14, 15, 16, 17, 18, 19, 20, 21, 22, 23, 24, 25, 26, 27, 33, 34], [0, 1, 2, 3, 4, 5, 6, 7, 8, 9, 10, 11, 12, 13, 14, 15, 16, 17, 18, 19, 20, 21, 22, 23, 24, 25, 26, 27, 33, 34, 35], [0, 1, 2, 3, 4, 5, 6, 7, 8, 9, 10, 11, 12, 13, 14, 15, 16, 17, 18, 19, 20, 21, 22, 23, 24, 25, 26, 27, 33, 34, 35, 36], [0, 1, 2, 3, 4, 5, 6, 7, 8, 9, 10, 11, 12, 13, 14, 15, 16, 17, 18, 19, 20, 21, 22, 23, 24, 25, 26, 27, 28, 29, 30, 31, 32, 33, 34, 35, 36, 37], [0, 1, 2, 3, 4, 5, 6, 7, 8, 9, 10, 11, 12, 13, 14, 15, 16, 17, 18, 19, 20, 21, 22, 23, 24, 25, 26, 27, 28, 29, 30, 31, 32, 33, 34, 35, 36, 37, 38], [0, 1, 2, 3, 4, 5, 6, 7, 8, 9, 10, 11, 12, 13, 14, 15, 16, 17, 18, 19, 20, 21, 22, 23, 24, 25, 26, 27, 28, 29, 30, 31, 32, 33, 34, 35, 36, 37, 38, 39]] [.one (.mov 11 (.r 3)),
      .one (.bin 12 .lss (.r 11) (.c (.int .i64 (0)))),
      .one (.mov 13 (.r 12)),
      .grp 13 false [.mov 14 (.r 0), .mov 15 (.r 4), .idx 16 (.r 14) (.r 15) 2, .fad 17 (.r 16) 0, .load 18 (.r 17) 1 false, .mov 19 (.r 0), .mov 20 (.r 3), .idx 21 (.r 19) (.r 20) 2, .fad 22 (.r 21) 0, .load 23 (.r 22) 1 false, .bin 24 .gtr (.r 18) (.r 23)],
      .one (.pick 25 (.r 13) (.c (.bool true)) (.r 24)),
      .one (.mov 26 (.r 25)),
      .grp 26 false [.mov 27 (.r 0), .mov 28 (.r 4), .idx 29 (.r 27) (.r 28) 2, .fad 30 (.r 29) 0, .load 31 (.r 30) 1 false, .mov 32 (.r 0), .mov 33 (.r 3), .idx 34 (.r 32) (.r 33) 2, .fad 35 (.r 34) 0, .load 36 (.r 35) 1 false, .bin 37 .eql (.r 31) (.r 36), .mov 38 (.r 37)],
      .grp 38 true [.mov 39 (.r 0), .mov 40 (.r 4), .idx 41 (.r 39) (.r 40) 2, .fad 42 (.r 41) 1, .load 43 (.r 42) 1 false, .mov 44 (.r 0), .mov 45 (.r 3), .idx 46 (.r 44) (.r 45) 2, .fad 47 (.r 46) 1, .load 48 (.r 47) 1 false, .bin 49 .lss (.r 43) (.r 48)],
      .grp 26 false [.pick 50 (.r 38) (.r 49) (.c (.bool false))],
      .one (.pick 51 (.r 26) (.c (.bool true)) (.r 50))])
            (.cond (.r 51)
             /- R6 -/ (.ops [.it (.one (.mov 52 (.r 4))),
      .it (.one (.mov 3 (.r 52)))]) .skip)))
          /- R4 -/ (.ops [.it (.one (.mov 9 (.r 4))),
      .it (.one (.bin 10 .add (.r 9) (.c (.int .i64 (1))))),
      .it (.one (.mov 4 (.r 10)))])))))))
     (.seq
      /- R7 -/ (.ops [.it (.one (.mov 53 (.r 3))),
      .it (.one (.mov 2 (.r 53)))]) .ret))))
theorem A24_ok : okFun Try.prog 24 54 0 A24 [.tmp 2] [] = true := by kernel_rfl
/-- (*dyehouse/pile.row).Len -/
def A25 : ACode :=
  (.seq
   /- R0 -/ (.ops [.it (.one (.mov 2 (.c (.int .i64 (0)))))])
   (.seq
    /- R1 -/ (.ops [.it (.one (.mov 3 (.r 0))),
      .it (.one (.nilc 4 (.r 3))),
      .it (.one (.fad 5 (.r 4) 0)),
      .it (.one (.load 6 (.r 5) 1 false)),
      .it (.one (.len 7 (.r 6))),
      .it (.one (.mov 2 (.r 7)))]) .ret))
theorem A25_ok : okFun Try.prog 25 8 0 A25 [.tmp 2] [] = true := by kernel_rfl
/-- container/heap.down -/
def A26 : ACode :=
  (.seq
   /- R0 -/ (.ops [.it (.one (.mov 6 (.c (.bool false))))])
   (.seq
    /- R1 -/ (.ops [.it (.one (.mov 11 (.r 1))),
      .it (.one (.mov 7 (.r 11)))])
    (.seq
     (.block 0
      (.loop (.pre (.mv [0, 1, 2, 7] [(0, 0), (1, 1)])
       (.block 1
        (.seq
         /- R2 -/ (.ops [.it (.one (.mov 12 (.r 7))),
      .it (.one (.bin 13 .mul (.c (.int .i64 (2))) (.r 12))),
      .it (.one (.bin 14 .add (.r 13) (.c (.int .i64 (1))))),
      .it (.one (.mov 8 (.r 14)))])
         (.seq
          (.seq
           /- R3 -/ (.ops [.it (.one (.mov 15 (.r 8))),
      .it (.one (.mov 16 (.r 2))),
      .it (.one (.bin 17 .geq (.r 15) (.r 16))),
      .it (.one (.mov 18 (.r 17))),
      .it (.grp 18 false [.mov 19 (.r 8), .bin 20 .lss (.r 19) (.c (.int .i64 (0)))]),
      .it (.one (.pick 21 (.r 18) (.c (.bool true)) (.r 20)))])
           (.cond (.r 21) (.exit 0) .skip))
          (.seq
           /- R4 -/ (.ops [.it (.one (.mov 22 (.r 8))),
      .it (.one (.mov 9 (.r 22)))])
           (.seq
            (.seq
             /- R5 -/ (.ops [.it (.one (.mov 23 (.r 8))),
      .it (.one (.bin 24 .add (.r 23) (.c (.int .i64 (1))))),
      .it (.one (.mov 10 (.r 24)))])
             (.seq
              /- R6 -/ (.ops [.it (.one (.mov 25 (.r 10))),
      .it (.one (.mov 26 (.r 2))),
      .it (.one (.bin 27 .lss (.r 25) (.r 26))),
      .it (.one (.mov 28 (.r 27))),
      .it (.grp 28 true [.mov 29 (.r 0), .mov 30 (.r 10), .mov 31 (.r 8), .callb (some 32) (.iv (.r 29) 56 "Less" 44) [(.r 30), (.r 31)]]),
      .it (.one (.pick 33 (.r 28) (.r 32) (.c (.bool false))))])
              (.cond (.r 33)
               /- R7 -/ (.ops [.it (.one (.mov 34 (.r 10))),
      .it (.one (.mov 9 (.r 34)))]) .skip)))
            (.seq
             (.seq
              /- R8 -/ (.ops [.it (.one (.mov 35 (.r 0))),
      .it (.one (.mov 36 (.r 9))),
      .it (.one (.mov 37 (.r 7))),
      .it (.one (.callb (some 38) (.iv (.r 35) 56 "Less" 44) [(.r 36), (.r 37)])),
      .it (.one (.un 39 .not (.r 38)))])
              (.cond (.r 39) (.exit 0) .skip))
             (.seq
              /- R9 -/ (.ops [.it (.one (.mov 40 (.r 0))),
      .it (.one (.mov 41 (.r 7))),
      .it (.one (.mov 42 (.r 9))),
      .it (.one (.callo (some 43) (.iv (.r 40) 56 "Swap" 47) [(.r 41), (.r 42)] [0, 1] []))])
              /- R10 -/ (.ops [.it (.one (.mov 44 (.r 9))),
      .it (.one (.mov 7 (.r 44)))])))))))))))
     (.seq
      /- R11 -/ (.ops [.it (.one (.mov 45 (.r 7))),
      .it (.one (.mov 46 (.r 1))),
      .it (.one (.bin 47 .gtr (.r 45) (.r 46))),
      .it (.one (.mov 6 (.r 47)))]) .ret))))
theorem A26_ok : okFun Try.prog 26 48 2 A26 [.tmp 6] [] = true := by kernel_rfl
/-- container/heap.up -/
def A27 : ACode :=
  (.block 0
   (.loop (.pre (.mv [0, 1] [(0, 0), (1, 1)])
    (.block 1
     (.seq
      /- R0 -/ (.ops [.it (.one (.mov 5 (.r 1))),
      .it (.one (.bin 6 .sub (.r 5) (.c (.int .i64 (1))))),
      .it (.one (.bin 7 .quo (.r 6) (.c (.int .i64 (2))))),
      .it (.one (.mov 4 (.r 7)))])
      (.seq
       (.seq
        /- R1 -/ (.ops [.it (.one (.mov 8 (.r 4))),
      .it (.one (.mov 9 (.r 1))),
      .it (.one (.bin 10 .eql (.r 8) (.r 9))),
      .it (.one (.mov 11 (.r 10))),
      .it (.grp 11 false [.mov 12 (.r 0), .mov 13 (.r 1), .mov 14 (.r 4), .callb (some 15) (.iv (.r 12) 56 "Less" 44) [(.r 13), (.r 14)], .un 16 .not (.r 15)]),
      .it (.one (.pick 17 (.r 11) (.c (.bool true)) (.r 16)))])
        (.cond (.r 17) (.exit 0) .skip))
       (.seq
        /- R2 -/ (.ops [.it (.one (.mov 18 (.r 0))),
      .it (.one (.mov 19 (.r 4))),
      .it (.one (.mov 20 (.r 1))),
      .it (.one (.callo (some 21) (.iv (.r 18) 56 "Swap" 47) [(.r 19), (.r 20)] [0, 1] []))])
        /- R3 -/ (.ops [.it (.one (.mov 22 (.r 4))),
      .it (.one (.mov 1 (.r 22)))]))))))))
theorem A27_ok : okFun Try.prog 27 23 2 A27 [] [] = true := by kernel_rfl
/-- (*dyehouse/pile.row).Less -/
def A44 : ACode :=
  (.seq
   /- R0 -/ (.ops [.it (.one (.mov 6 (.c (.bool false))))])
   (.seq
    /- R1 -/ (.draw [[], [0], [0, 1], [0, 1, 2], [], [4], [4, 5], [4, 5, 6], [], [4, 5, 6, 7, 8], [4, 5, 6, 7, 8, 9], [], [11], [11, 12], [11, 12, 13], [], [11, 12, 13, 14, 15], [11, 12, 13, 14, 15, 16], [0, 1, 2, 3, 4, 5, 6, 7, 8, 9, 10, 11, 12, 13, 14, 15, 16, 17], [0, 1, 2, 3, 4, 5, 6, 7, 8, 9, 10, 11, 12, 13, 14, 15, 16, 17, 18]] [.one (.mov 7 (.r 0)),
      .one (.nilc 8 (.r 7)),
      .one (.fad 9 (.r 8) 1),
      .one (.load 10 (.r 9) 1 false),
      .one (.mov 11 (.r 0)),
      .one (.nilc 12 (.r 11)),
      .one (.fad 13 (.r 12) 0),
      .one (.load 14 (.r 13) 1 false),
      .one (.mov 15 (.r 1)),
      .one (.idx 16 (.r 14) (.r 15) 2),
      .one (.load 17 (.r 16) 2 true),
      .one (.mov 18 (.r 0)),
      .one (.nilc 19 (.r 18)),
      .one (.fad 20 (.r 19) 0),
      .one (.load 21 (.r 20) 1 false),
      .one (.mov 22 (.r 2)),
      .one (.idx 23 (.r 21) (.r 22) 2),
      .one (.load 24 (.r 23) 2 true),
      .one (.callf (some 25) (.dy (.r 10)) [(.r 17), (.r 24)]),
      .one (.mov 6 (.r 25))]) .ret))
theorem A44_ok : okFun Try.prog 44 26 0 A44 [.tmp 6] [] = true := by kernel_rfl
/-- (*dyehouse/pile.row).Pop -/
def A45 : ACode :=
  (.seq
   /- R0 -/ (.ops [.it (.one (.mov 2 (.c (.nili))))])
   (.seq
    /- R1 -/ (.ops [.it (.one (.mov 5 (.r 0))),
      .it (.one (.nilc 6 (.r 5))),
      .it (.one (.fad 7 (.r 6) 0)),
      .it (.one (.load 8 (.r 7) 1 false)),
      .it (.one (.len 9 (.r 8))),
      .it (.one (.bin 10 .sub (.r 9) (.c (.int .i64 (1))))),
      .it (.one (.mov 3 (.r 10)))])
    (.seq
     /- R2 -/ (.post (.ops [.it (.one (.mov 11 (.r 0))),
      .it (.one (.nilc 12 (.r 11))),
      .it (.one (.fad 13 (.r 12) 0)),
      .it (.one (.load 14 (.r 13) 1 false)),
      .it (.one (.mov 15 (.r 3))),
      .it (.one (.idx 16 (.r 14) (.r 15) 2)),
      .it (.one (.load 17 (.r 16) 2 true)),
      .it (.one (.alloc 4 4 [.int .i64 0, .int .i64 0])),
      .it (.one (.store (.r 4) (.r 17) 2))]) (.frz 4))
     (.seq
      /- R3 -/ (.ops [.it (.one (.mov 18 (.r 0))),
      .it (.one (.mov 19 (.r 0))),
      .it (.one (.nilc 20 (.r 19))),
      .it (.one (.fad 21 (.r 20) 0)),
      .it (.one (.load 22 (.r 21) 1 false)),
      .it (.one (.mov 23 (.r 3))),
      .it (.one (.slc 24 (.r 22) none (some (.r 23)) 2)),
      .it (.one (.nilc 25 (.r 18))),
      .it (.one (.fad 26 (.r 25) 0)),
      .it (.one (.store (.r 26) (.r 24) 1))])
      (.seq
       /- R4 -/ (.ops [.it (.one (.load 27 (.r 4) 2 true)),
      .it (.one (.mkif 28 29 (.r 27))),
      .it (.one (.mov 2 (.r 28)))]) .ret)))))
theorem A45_ok : okFun Try.prog 45 29 2 A45 [.tmp 2] [] = true := by kernel_rfl
/-- (*dyehouse/pile.row).Push -/
def A46 : ACode :=
  (.seq
   /- R0 -/ (.post (.ops [.it (.one (.mov 7 (.r 1))),
      .it (.one (.tass 8 29 (.r 7))),
      .it (.one (.mov 6 (.r 8))),
      .it (.one (.ext 9 (.r 6) 0)),
      .it (.one (.ext 10 (.r 6) 1)),
      .it (.one (.alloc 4 4 [.int .i64 0, .int .i64 0])),
      .it (.one (.store (.r 4) (.r 9) 2)),
      .it (.one (.mov 5 (.r 10)))]) (.frz 4))
   (.seq
    /- R1 -/ (.ops [.it (.one (.mov 11 (.r 5)))])
    (.cond (.r 11)
     /- R2 -/ (.draw [[], [], [1], [1, 2], [1, 2, 3], [], [5], [1, 2, 3, 4, 5, 6], [0, 1, 2, 3, 4, 5, 6, 7], [0, 1, 2, 3, 4, 5, 6, 7, 8], [0, 1, 2, 3, 4, 5, 6, 7, 8, 9]] [.one (.mov 12 (.r 0)),
      .one (.mov 13 (.r 0)),
      .one (.nilc 14 (.r 13)),
      .one (.fad 15 (.r 14) 0),
      .one (.load 16 (.r 15) 1 false),
      .one (.load 17 (.r 4) 2 true),
      .one (.bslp 18 2 [(.r 17)]),
      .one (.appd 19 (.r 16) (.r 18) 2 16),
      .one (.nilc 20 (.r 12)),
      .one (.fad 21 (.r 20) 0),
      .one (.store (.r 21) (.r 19) 1)]) .skip)))
theorem A46_ok : okFun Try.prog 46 22 2 A46 [] [] = true := by kernel_rfl
/-- (*dyehouse/pile.row).Swap -/
def A47 : ACode :=
  /- R0 -/ (.draw [[], [0], [0, 1], [0, 1, 2], [], [], [5], [5, 6], [5, 6, 7], [], [], [10], [10, 11], [10, 11, 12], [], [10, 11, 12, 13, 14], [10, 11, 12, 13, 14, 15], [], [17], [17, 18], [17, 18, 19], [], [17, 18, 19, 20, 21], [17, 18, 19, 20, 21, 22], [0, 1, 2, 3, 4, 5, 6, 7, 8, 10, 11, 12, 13, 14, 15, 16, 17, 18, 19, 20, 21, 22, 23], [0, 1, 2, 3, 4, 5, 6, 7, 8, 10, 11, 12, 13, 14, 15, 16, 17, 18, 19, 20, 21, 22, 23, 24], [0, 1, 2, 3, 4, 5, 6, 7, 8, 9, 10, 11, 12, 13, 14, 15, 16, 17, 18, 19, 20, 21, 22, 23, 24, 25], [0, 1, 2, 3, 4, 5, 6, 7, 8, 9, 10, 11, 12, 13, 14, 15, 16, 17, 18, 19, 20, 21, 22, 23, 24, 25, 26]] [.one (.mov 6 (.r 0)),
      .one (.nilc 7 (.r 6)),
      .one (.fad 8 (.r 7) 0),
      .one (.load 9 (.r 8) 1 false),
      .one (.mov 10 (.r 1)),
      .one (.mov 11 (.r 0)),
      .one (.nilc 12 (.r 11)),
      .one (.fad 13 (.r 12) 0),
      .one (.load 14 (.r 13) 1 false),
      .one (.mov 15 (.r 2)),
      .one (.mov 16 (.r 0)),
      .one (.nilc 17 (.r 16)),
      .one (.fad 18 (.r 17) 0),
      .one (.load 19 (.r 18) 1 false),
      .one (.mov 20 (.r 2)),
      .one (.idx 21 (.r 19) (.r 20) 2),
      .one (.load 22 (.r 21) 2 true),
      .one (.mov 23 (.r 0)),
      .one (.nilc 24 (.r 23)),
      .one (.fad 25 (.r 24) 0),
      .one (.load 26 (.r 25) 1 false),
      .one (.mov 27 (.r 1)),
      .one (.idx 28 (.r 26) (.r 27) 2),
      .one (.load 29 (.r 28) 2 true),
      .one (.idx 30 (.r 9) (.r 10) 2),
      .one (.store (.r 30) (.r 22) 2),
      .one (.idx 31 (.r 14) (.r 15) 2),
      .one (.store (.r 31) (.r 29) 2)])
theorem A47_ok : okFun Try.prog 47 32 2 A47 [] [] = true := by kernel_rfl
end Go.Proofs.Ytmmgdilhbkklpaa.X
