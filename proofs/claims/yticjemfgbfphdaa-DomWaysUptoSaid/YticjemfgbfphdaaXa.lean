/- Part of a proof: what functions of the program do. -/
import Derived.Test.YticjemfgbfphdaaXam5
import Derived.Test.YticjemfgbfphdaaProg
import Derived.KernelRfl
namespace Go.Proofs.Yticjemfgbfphdaa.X
open Go Go.AM Go.Proofs
/-- dyehouse/dyehouselaw20.DomTells -/
def A3 : ACode :=
  (.seq
   /- R0 -/ (.ops [.it (.one (.boxp 1 (.r 0))),
      .it (.one (.mov 2 (.c (.bool false))))])
   (.seq
    (.seq
     /- R1 -/ (.ops [.it (.one (.load 10 (.r 1) 5 true)),
      .call (some 11) (.st 6) [(.r 10)] [] [],
      .it (.one (.mov 12 (.r 11))),
      .it (.grp 12 false [.fad 13 (.r 1) 4, .load 14 (.r 13) 1 false, .len 15 (.r 14), .bin 16 .gtr (.r 15) (.c (.int .i64 (14)))]),
      .it (.one (.pick 17 (.r 12) (.c (.bool true)) (.r 16)))])
     (.cond (.r 17)
      (.seq
       /- R2 -/ (.ops [.it (.one (.callf (some 18) (.st 7) [])),
      .it (.one (.mov 2 (.r 18)))]) .ret) .skip))
    (.seq
     /- R3 -/ (.ops [.it (.one (.load 19 (.r 1) 5 true)),
      .it (.one (.callf (some 20) (.st 8) [(.r 19)])),
      .it (.one (.mov 3 (.r 20)))])
     (.seq
      /- R4 -/ (.ops [.it (.one (.load 21 (.r 1) 5 true)),
      .it (.one (.callf (some 22) (.st 10) [(.r 21)])),
      .it (.one (.callf (some 23) (.st 9) [(.r 22)])),
      .it (.one (.mov 4 (.r 23)))])
      (.seq
       (.seq
        /- R5 -/ (.ops [.it (.one (.mov 24 (.r 4))),
      .it (.one (.eq 25 false .nil (.r 24) (.c (.nilp))))])
        (.cond (.r 25)
         (.seq
          /- R6 -/ (.ops [.it (.one (.mov 2 (.c (.bool false))))]) .ret) .skip))
       (.seq
        (.seq
         /- R7 -/ (.ops [.it (.one (.mov 5 (.c (.int .i64 (0)))))])
         (.block 0
          (.loop (.pre (.mv [3, 4, 5] [])
           (.seq
            (.seq
             /- R8 -/ (.ops [.it (.one (.mov 26 (.r 5))),
      .it (.one (.mov 27 (.r 3))),
      .it (.one (.len 28 (.r 27))),
      .it (.one (.bin 29 .lss (.r 26) (.r 28)))])
             (.cond (.r 29) .skip (.exit 0)))
            (.seq
             (.block 1
              (.seq
               (.seq
                /- R10 -/ (.ops [.it (.one (.mov 32 (.r 4))),
      .it (.one (.mov 33 (.r 5))),
      .it (.one (.callf (some 34) (.st 11) [(.r 32), (.r 33)])),
      .it (.one (.mov 35 (.r 3))),
      .it (.one (.mov 36 (.r 5))),
      .it (.one (.callf (some 37) (.st 12) [(.r 35), (.r 36)])),
      .it (.one (.bin 38 .neq (.r 34) (.r 37))),
      .it (.one (.mov 39 (.r 38))),
      .it (.grp 39 false [.mov 40 (.r 4), .mov 41 (.r 5), .callf (some 42) (.st 13) [(.r 40), (.r 41)], .mov 43 (.r 3), .mov 44 (.r 5), .callf (some 45) (.st 14) [(.r 43), (.r 44)], .bin 46 .neq (.r 42) (.r 45)]),
      .it (.one (.pick 47 (.r 39) (.c (.bool true)) (.r 46)))])
                (.cond (.r 47)
                 (.seq
                  /- R11 -/ (.ops [.it (.one (.mov 2 (.c (.bool false))))]) .ret) .skip))
               (.seq
                /- R12 -/ (.ops [.it (.one (.mov 48 (.r 4))),
      .it (.one (.mov 49 (.r 5))),
      .it (.one (.callf (some 50) (.st 15) [(.r 48), (.r 49)])),
      .it (.one (.mov 6 (.r 50)))])
                (.seq
                 /- R13 -/ (.ops [.it (.one (.mov 51 (.r 4))),
      .it (.one (.mov 52 (.r 5))),
      .it (.one (.callf (some 53) (.st 16) [(.r 51), (.r 52)])),
      .it (.one (.mov 7 (.r 53)))])
                 (.seq
                  /- R14 -/ (.ops [.it (.one (.mov 8 (.c (.int .i64 (0)))))])
                  (.seq
                   (.seq
                    /- R15 -/ (.ops [.it (.one (.mov 9 (.c (.int .i64 (0)))))])
                    (.block 2
                     (.loop (.pre (.mv [3, 4, 5, 6, 7, 8, 9] [])
                      (.seq
                       (.seq
                        /- R16 -/ (.ops [.it (.one (.mov 54 (.r 9))),
      .it (.one (.mov 55 (.r 3))),
      .it (.one (.len 56 (.r 55))),
      .it (.one (.bin 57 .lss (.r 54) (.r 56)))])
                        (.cond (.r 57) .skip (.exit 2)))
                       (.seq
                        (.block 3
                         (.seq
                          (.seq
                           /- R18 -/ (.ops [.it (.one (.mov 60 (.r 4))),
      .it (.one (.mov 61 (.r 9))),
      .it (.one (.mov 62 (.r 5))),
      .it (.one (.callf (some 63) (.st 17) [(.r 60), (.r 61), (.r 62)])),
      .it (.one (.mov 64 (.r 3))),
      .it (.one (.mov 65 (.r 9))),
      .it (.one (.mov 66 (.r 5))),
      .it (.one (.callf (some 67) (.st 18) [(.r 64), (.r 65), (.r 66)])),
      .it (.one (.eq 68 true .bool (.r 63) (.r 67))),
      .it (.one (.mov 69 (.r 68))),
      .it (.grp 69 false [.mov 70 (.r 6), .mov 71 (.r 9), .callb (some 72) (.st 19) [(.r 70), (.r 71)], .mov 73 (.r 3), .mov 74 (.r 5), .mov 75 (.r 9), .callf (some 76) (.st 18) [(.r 73), (.r 74), (.r 75)], .eq 77 true .bool (.r 72) (.r 76)]),
      .it (.one (.pick 78 (.r 69) (.c (.bool true)) (.r 77)))])
                           (.cond (.r 78)
                            (.seq
                             /- R19 -/ (.ops [.it (.one (.mov 2 (.c (.bool false))))]) .ret) .skip))
                          (.seq
                           /- R20 -/ (.ops [.it (.one (.mov 79 (.r 3))),
      .it (.one (.mov 80 (.r 9))),
      .it (.one (.callf (some 81) (.st 12) [(.r 79), (.r 80)])),
      .it (.one (.mov 82 (.r 5))),
      .it (.one (.bin 83 .eql (.r 81) (.r 82)))])
                           (.cond (.r 83)
                            (.seq
                             (.seq
                              /- R21 -/ (.ops [.it (.one (.mov 84 (.r 8))),
      .it (.one (.mov 85 (.r 7))),
      .it (.one (.len 86 (.r 85))),
      .it (.one (.bin 87 .geq (.r 84) (.r 86))),
      .it (.one (.mov 88 (.r 87))),
      .it (.grp 88 false [.mov 89 (.r 7), .mov 90 (.r 8), .idx 91 (.r 89) (.r 90) 1, .load 92 (.r 91) 1 false, .mov 93 (.r 9), .bin 94 .neq (.r 92) (.r 93)]),
      .it (.one (.pick 95 (.r 88) (.c (.bool true)) (.r 94)))])
                              (.cond (.r 95)
                               (.seq
                                /- R22 -/ (.ops [.it (.one (.mov 2 (.c (.bool false))))]) .ret) .skip))
                             /- R23 -/ (.ops [.it (.one (.mov 96 (.r 8))),
      .it (.one (.bin 97 .add (.r 96) (.c (.int .i64 (1))))),
      .it (.one (.mov 8 (.r 97)))])) .skip))))
                        /- R17 -/ (.ops [.it (.one (.mov 58 (.r 9))),
      .it (.one (.bin 59 .add (.r 58) (.c (.int .i64 (1))))),
      .it (.one (.mov 9 (.r 59)))])))))))
                   (.seq
                    /- R24 -/ (.ops [.it (.one (.mov 98 (.r 8))),
      .it (.one (.mov 99 (.r 7))),
      .it (.one (.len 100 (.r 99))),
      .it (.one (.bin 101 .neq (.r 98) (.r 100)))])
                    (.cond (.r 101)
                     (.seq
                      /- R25 -/ (.ops [.it (.one (.mov 2 (.c (.bool false))))]) .ret) .skip))))))))
             /- R9 -/ (.ops [.it (.one (.mov 30 (.r 5))),
      .it (.one (.bin 31 .add (.r 30) (.c (.int .i64 (1))))),
      .it (.one (.mov 5 (.r 31)))])))))))
        (.seq
         /- R26 -/ (.ops [.it (.one (.callf (some 102) (.st 7) [])),
      .it (.one (.mov 2 (.r 102)))]) .ret)))))))
theorem A3_ok : okFun Try.prog 3 103 0 A3 [.tmp 2] [] = true := by kernel_rfl
/-- dyehouse/dyehouselaw20.DomChain -/
def A4 : ACode :=
  (.seq
   /- R0 -/ (.ops [.it (.one (.boxp 2 (.r 0))),
      .it (.one (.mov 4 (.c (.bool false))))])
   (.seq
    (.seq
     /- R1 -/ (.ops [.it (.one (.load 9 (.r 2) 5 true)),
      .call (some 10) (.st 6) [(.r 9)] [] [],
      .it (.one (.mov 11 (.r 10))),
      .it (.grp 11 false [.fad 12 (.r 2) 4, .load 13 (.r 12) 1 false, .len 14 (.r 13), .bin 15 .gtr (.r 14) (.c (.int .i64 (40)))]),
      .it (.one (.pick 16 (.r 11) (.c (.bool true)) (.r 15)))])
     (.cond (.r 16)
      (.seq
       /- R2 -/ (.ops [.it (.one (.callf (some 17) (.st 7) [])),
      .it (.one (.mov 4 (.r 17)))]) .ret) .skip))
    (.seq
     /- R3 -/ (.ops [.it (.one (.load 18 (.r 2) 5 true)),
      .it (.one (.callf (some 19) (.st 10) [(.r 18)])),
      .it (.one (.callf (some 20) (.st 9) [(.r 19)])),
      .it (.one (.mov 5 (.r 20)))])
     (.seq
      /- R4 -/ (.ops [.it (.one (.mov 21 (.r 5))),
      .it (.one (.mov 22 (.r 1))),
      .it (.one (.callf (some 23) (.st 20) [(.r 21), (.r 22)])),
      .it (.one (.mov 6 (.r 23)))])
      (.seq
       (.seq
        /- R5 -/ (.ops [.it (.one (.mov 7 (.c (.int .i64 (0)))))])
        (.block 0
         (.loop (.pre (.mv [1, 2, 5, 6, 7] [])
          (.seq
           (.seq
            /- R6 -/ (.ops [.it (.one (.mov 24 (.r 7))),
      .it (.one (.mov 25 (.r 6))),
      .it (.one (.len 26 (.r 25))),
      .it (.one (.bin 27 .lss (.r 24) (.r 26)))])
            (.cond (.r 27) .skip (.exit 0)))
           (.seq
            (.block 1
             (.seq
              /- R8 -/ (.draw [[], [0], [0, 1], [0, 1, 2], [0, 1, 2, 3], [0, 1, 2, 3, 4], [0, 1, 2], [0, 1, 2, 3, 4, 5, 6], [0, 1, 2, 3, 4, 5, 6, 7], [0, 1, 2, 3, 4, 5, 6, 7, 8], [0, 1, 2, 3, 4, 5, 6, 7, 8, 9], [0, 1, 2, 3, 4, 5, 6, 7, 8, 9, 10], [0, 1, 2, 3, 4, 5, 6, 7, 8, 9, 10, 11], [0, 1, 2, 3, 4, 5, 6, 7, 8, 9, 10, 11, 12], [0, 1, 2, 3, 4, 5, 6, 7, 8, 9, 10, 11, 12], [0, 1, 2, 3, 4, 5, 6, 7, 8, 9, 10, 11, 12], [0, 1, 2, 3, 4, 5, 6, 7, 8, 9, 10, 11, 12, 15], [0, 1, 2, 3, 4, 5, 6, 7, 8, 9, 10, 11, 12, 14, 15, 16], [0, 1, 2, 3, 4, 5, 6, 7, 8, 9, 10, 11, 12, 14, 15, 16, 17], [0, 1, 2, 3, 4, 5, 6, 7, 8, 9, 10, 11, 12, 13, 14, 15, 16, 17, 18], [0, 1, 2, 3, 4, 5, 6, 7, 8, 9, 10, 11, 12], [0, 1, 2, 3, 4, 5, 6, 7, 8, 9, 10, 11, 12], [0, 1, 2, 3, 4, 5, 6, 7, 8, 9, 10, 11, 12, 20, 21], [0, 1, 2, 3, 4, 5, 6, 7, 8, 9, 10, 11, 12, 20, 21, 22], [0, 1, 2, 3, 4, 5, 6, 7, 8, 9, 10, 11, 12, 13, 14, 15, 16, 17, 18, 19, 20, 21, 22, 23], [0, 1, 2, 3, 4, 5, 6, 7, 8, 9, 10, 11, 12, 13, 14, 15, 16, 17, 18, 19, 20, 21, 22, 23, 24], [0, 1, 2, 3, 4, 5, 6, 7, 8, 9, 10, 11, 12, 13, 14, 15, 16, 17, 18, 19, 20, 21, 22, 23, 24, 25], [0, 1, 2, 3, 4, 5, 6, 7, 8, 9, 10, 11, 12, 13, 14, 15, 16, 17, 18, 19, 20, 21, 22, 23, 24, 25, 26], [0, 1, 2, 3, 4, 5, 6, 7, 8, 9, 10, 11, 12, 13, 14, 15, 16, 17, 18, 19, 20, 21, 22, 23, 24, 25, 26, 27], [0, 1, 2, 3, 4, 5, 6, 7, 8, 9, 10, 11, 12, 13, 14, 15, 16, 17, 18, 19, 20, 21, 22, 23, 24, 25, 26, 27], [0, 1, 2, 3, 4, 5, 6, 7, 8, 9, 10, 11, 12, 13, 14, 15, 16, 17, 18, 19, 20, 21, 22, 23, 24, 25, 26, 27, 29], [0, 1, 2, 3, 4, 5, 6, 7, 8, 9, 10, 11, 12, 13, 14, 15, 16, 17, 18, 19, 20, 21, 22, 23, 24, 25, 26, 27, 29, 30], [0, 1, 2, 3, 4, 5, 6, 7, 8, 9, 10, 11, 12, 13, 14, 15, 16, 17, 18, 19, 20, 21, 22, 23, 24, 25, 26, 27, 28, 29, 30, 31], [0, 1, 2, 3, 4, 5, 6, 7, 8, 9, 10, 11, 12, 13, 14, 15, 16, 17, 18, 19, 20, 21, 22, 23, 24, 25, 26, 27, 28, 29, 30, 31, 32], [0, 1, 2, 3, 4, 5, 6, 7, 8, 9, 10, 11, 12, 13, 14, 15, 16, 17, 18, 19, 20, 21, 22, 23, 24, 25, 26, 27, 28, 29, 30, 31, 32, 33], [0, 1, 2, 3, 4, 5, 6, 7, 8, 9, 10, 11, 12, 13, 14, 15, 16, 17, 18, 19, 20, 21, 22, 23, 24, 25, 26, 27, 28, 29, 30, 31, 32, 33], [0, 1, 2, 3, 4, 5, 6, 7, 8, 9, 10, 11, 12, 13, 14, 15, 16, 17, 18, 19, 20, 21, 22, 23, 24, 25, 26, 27, 28, 29, 30, 31, 32, 33, 34, 35], [0, 1, 2, 3, 4, 5, 6, 7, 8, 9, 10, 11, 12, 13, 14, 15, 16, 17, 18, 19, 20, 21, 22, 23, 24, 25, 26, 27, 28, 29, 30, 31, 32, 33, 34, 35, 36], [0, 1, 2, 3, 4, 5, 6, 7, 8, 9, 10, 11, 12, 13, 14, 15, 16, 17, 18, 19, 20, 21, 22, 23, 24, 25, 26, 27, 28, 29, 30, 31, 32, 33, 34, 35, 36, 37], [0, 1, 2, 3, 4, 5, 6, 7, 8, 9, 10, 11, 12, 13, 14, 15, 16, 17, 18, 19, 20, 21, 22, 23, 24, 25, 26, 27, 28, 29, 30, 31, 32, 33, 34, 35, 36, 37, 38], [0, 1, 2, 3, 4, 5, 6, 7, 8, 9, 10, 11, 12, 13, 14, 15, 16, 17, 18, 19, 20, 21, 22, 23, 24, 25, 26, 27, 28, 29, 30, 31, 32, 33, 34, 35, 36, 37, 38, 39], [0, 1, 2, 3, 4, 5, 6, 7, 8, 9, 10, 11, 12, 13, 14, 15, 16, 17, 18, 19, 20, 21, 22, 23, 24, 25, 26, 27, 28, 29, 30, 31, 32, 33, 34, 35, 36, 37, 38, 39, 40], [0, 1, 2, 3, 4, 5, 6, 7, 8, 9, 10, 11, 12, 13, 14, 15, 16, 17, 18, 19, 20, 21, 22, 23, 24, 25, 26, 27, 28, 29, 30, 31, 32, 33, 34, 35, 36, 37, 38, 39, 40, 41], [0, 1, 2, 3, 4, 5, 6, 7, 8, 9, 10, 11, 12, 13, 14, 15, 16, 17, 18, 19, 20, 21, 22, 23, 24, 25, 26, 27, 28, 29, 30, 31, 32, 33, 34, 35, 36, 37, 38, 39, 40, 41], [0, 1, 2, 3, 4, 5, 6, 7, 8, 9, 10, 11, 12, 13, 14, 15, 16, 17, 18, 19, 20, 21, 22, 23, 24, 25, 26, 27, 28, 29, 30, 31, 32, 33, 34, 35, 36, 37, 38, 39, 40, 41], [0, 1, 2, 3, 4, 5, 6, 7, 8, 9, 10, 11, 12, 13, 14, 15, 16, 17, 18, 19, 20, 21, 22, 23, 24, 25, 26, 27, 28, 29, 30, 31, 32, 33, 34, 35, 36, 37, 38, 39, 40, 41, 43, 44], [0, 1, 2, 3, 4, 5, 6, 7, 8, 9, 10, 11, 12, 13, 14, 15, 16, 17, 18, 19, 20, 21, 22, 23, 24, 25, 26, 27, 28, 29, 30, 31, 32, 33, 34, 35, 36, 37, 38, 39, 40, 41, 43, 44, 45], [0, 1, 2, 3, 4, 5, 6, 7, 8, 9, 10, 11, 12, 13, 14, 15, 16, 17, 18, 19, 20, 21, 22, 23, 24, 25, 26, 27, 28, 29, 30, 31, 32, 33, 34, 35, 36, 37, 38, 39, 40, 41], [0, 1, 2, 3, 4, 5, 6, 7, 8, 9, 10, 11, 12, 13, 14, 15, 16, 17, 18, 19, 20, 21, 22, 23, 24, 25, 26, 27, 28, 29, 30, 31, 32, 33, 34, 35, 36, 37, 38, 39, 40, 41, 42, 43, 44, 45, 46, 47], [0, 1, 2, 3, 4, 5, 6, 7, 8, 9, 10, 11, 12, 13, 14, 15, 16, 17, 18, 19, 20, 21, 22, 23, 24, 25, 26, 27, 28, 29, 30, 31, 32, 33, 34, 35, 36, 37, 38, 39, 40, 41, 42, 43, 44, 45, 46, 47, 48], [0, 1, 2, 3, 4, 5, 6, 7, 8, 9, 10, 11, 12, 13, 14, 15, 16, 17, 18, 19, 20, 21, 22, 23, 24, 25, 26, 27, 28, 29, 30, 31, 32, 33, 34, 35, 36, 37, 38, 39, 40, 41, 42, 43, 44, 45, 46, 47, 48, 49]] [.one (.mov 30 (.r 7)),
      .one (.bin 31 .eql (.r 30) (.c (.int .i64 (0)))),
      .one (.mov 32 (.r 31)),
      .grp 32 true [.mov 33 (.r 6), .idx 34 (.r 33) (.c (.int .i64 (0))) 1, .load 35 (.r 34) 1 false, .mov 36 (.r 1), .bin 37 .neq (.r 35) (.r 36)],
      .one (.pick 38 (.r 32) (.r 37) (.c (.bool false))),
      .one (.mov 39 (.r 38)),
      .grp 39 false [.mov 40 (.r 7), .bin 41 .gtr (.r 40) (.c (.int .i64 (0))), .mov 42 (.r 41)],
      .grp 42 true [.mov 43 (.r 5), .mov 44 (.r 6), .mov 45 (.r 7), .bin 46 .sub (.r 45) (.c (.int .i64 (1))), .idx 47 (.r 44) (.r 46) 1, .load 48 (.r 47) 1 false, .callf (some 49) (.st 11) [(.r 43), (.r 48)], .mov 50 (.r 6), .mov 51 (.r 7), .idx 52 (.r 50) (.r 51) 1, .load 53 (.r 52) 1 false, .bin 54 .neq (.r 49) (.r 53)],
      .grp 39 false [.pick 55 (.r 42) (.r 54) (.c (.bool false))],
      .one (.pick 56 (.r 39) (.c (.bool true)) (.r 55)),
      .one (.mov 57 (.r 56)),
      .grp 57 false [.mov 58 (.r 7), .mov 59 (.r 6), .len 60 (.r 59), .bin 61 .sub (.r 60) (.c (.int .i64 (1))), .bin 62 .eql (.r 58) (.r 61), .mov 63 (.r 62)],
      .grp 63 true [.mov 64 (.r 6), .mov 65 (.r 7), .idx 66 (.r 64) (.r 65) 1, .load 67 (.r 66) 1 false, .bin 68 .neq (.r 67) (.c (.int .i64 (0)))],
      .grp 57 false [.pick 69 (.r 63) (.r 68) (.c (.bool false))],
      .one (.pick 70 (.r 57) (.c (.bool true)) (.r 69)),
      .one (.mov 71 (.r 70)),
      .grp 71 false [.mov 72 (.r 5), .mov 73 (.r 6), .mov 74 (.r 7), .idx 75 (.r 73) (.r 74) 1, .load 76 (.r 75) 1 false, .mov 77 (.r 1), .callf (some 78) (.st 17) [(.r 72), (.r 76), (.r 77)], .un 79 .not (.r 78)],
      .one (.pick 80 (.r 71) (.c (.bool true)) (.r 79))])
              (.cond (.r 80)
               (.seq
                /- R9 -/ (.ops [.it (.one (.mov 4 (.c (.bool false))))]) .ret) .skip)))
            /- R7 -/ (.ops [.it (.one (.mov 28 (.r 7))),
      .it (.one (.bin 29 .add (.r 28) (.c (.int .i64 (1))))),
      .it (.one (.mov 7 (.r 29)))])))))))
       (.seq
        /- R10 -/ (.ops [.it (.one (.load 81 (.r 2) 5 true)),
      .it (.one (.callf (some 82) (.st 8) [(.r 81)])),
      .it (.one (.callf (some 83) (.st 21) [(.r 82), (.c (.int .i64 (0))), (.c (.int .i64 (-1)))])),
      .it (.one (.mov 8 (.r 83)))])
        (.seq
         /- R11 -/ (.ops [.it (.one (.mov 84 (.r 6))),
      .it (.one (.len 85 (.r 84))),
      .it (.one (.bin 86 .gtr (.r 85) (.c (.int .i64 (0))))),
      .it (.one (.mov 87 (.r 1))),
      .it (.one (.bin 88 .geq (.r 87) (.c (.int .i64 (0))))),
      .it (.one (.mov 89 (.r 88))),
      .it (.grp 89 true [.mov 90 (.r 1), .mov 91 (.r 8), .len 92 (.r 91), .bin 93 .lss (.r 90) (.r 92)]),
      .it (.one (.pick 94 (.r 89) (.r 93) (.c (.bool false)))),
      .it (.one (.mov 95 (.r 94))),
      .it (.grp 95 true [.mov 96 (.r 8), .mov 97 (.r 1), .idx 98 (.r 96) (.r 97) 1, .load 99 (.r 98) 1 false]),
      .it (.one (.pick 100 (.r 95) (.r 99) (.c (.bool false)))),
      .it (.one (.eq 101 false .bool (.r 86) (.r 100))),
      .it (.one (.mov 102 (.r 101))),
      .it (.grp 102 true [.callf (some 103) (.st 7) []]),
      .it (.one (.pick 104 (.r 102) (.r 103) (.c (.bool false)))),
      .it (.one (.mov 4 (.r 104)))]) .ret)))))))
theorem A4_ok : okFun Try.prog 4 105 0 A4 [.tmp 4] [] = true := by kernel_rfl
/-- dyehouse/dyehouselaw20.DomWays -/
def A5 : ACode :=
  (.seq
   /- R0 -/ (.ops [.it (.one (.boxp 2 (.r 0))),
      .it (.one (.mov 4 (.c (.bool false))))])
   (.seq
    (.seq
     /- R1 -/ (.ops [.it (.one (.load 13 (.r 2) 4 true)),
      .it (.one (.callf (some 14) (.st 22) [(.r 13)])),
      .it (.one (.mov 15 (.r 14))),
      .it (.grp 15 false [.mov 16 (.r 1), .len 17 (.r 16), .bin 18 .gtr (.r 17) (.c (.int .i64 (30)))]),
      .it (.one (.pick 19 (.r 15) (.c (.bool true)) (.r 18)))])
     (.cond (.r 19)
      (.seq
       /- R2 -/ (.ops [.it (.one (.callf (some 20) (.st 7) [])),
      .it (.one (.mov 4 (.r 20)))]) .ret) .skip))
    (.seq
     /- R3 -/ (.post (.ops [.it (.one (.load 21 (.r 2) 4 true)),
      .it (.one (.callf (some 22) (.st 23) [(.r 21)])),
      .it (.one (.alloc 5 5 [.bool false, .str .empty, .sl [], .sl [], .sl []])),
      .it (.one (.store (.r 5) (.r 22) 5))]) (.frz 5))
     (.seq
      /- R4 -/ (.ops [.it (.one (.load 23 (.r 5) 5 true)),
      .it (.one (.callf (some 24) (.st 10) [(.r 23)])),
      .it (.one (.callf (some 25) (.st 9) [(.r 24)])),
      .it (.one (.mov 6 (.r 25)))])
      (.seq
       /- R5 -/ (.ops [.it (.one (.load 26 (.r 5) 5 true)),
      .it (.one (.callf (some 27) (.st 8) [(.r 26)])),
      .it (.one (.mov 7 (.r 27)))])
       (.seq
        /- R6 -/ (.ops [.it (.one (.nilarr 8 8 1))])
        (.seq
         /- R7 -/ (.ops [.it (.one (.mov 9 (.c (.int .i64 (0)))))])
         (.seq
          (.seq
           /- R8 -/ (.ops [.it (.one (.mov 10 (.c (.int .i64 (0)))))])
           (.block 0
            (.loop (.pre (.mv [1, 6, 7, 8, 9, 10] [(8, 8)])
             (.seq
              (.seq
               /- R9 -/ (.ops [.it (.one (.mov 28 (.r 10))),
      .it (.one (.mov 29 (.r 1))),
      .it (.one (.len 30 (.r 29))),
      .it (.one (.bin 31 .leq (.r 28) (.r 30)))])
               (.cond (.r 31) .skip (.exit 0)))
              (.seq
               (.block 1
                (.seq
                 /- R11 -/ (.ops [.it (.one (.mov 34 (.r 8))),
      .it (.one (.mov 35 (.r 9))),
      .it (.one (.bslp 36 1 [(.r 35)])),
      .it (.one (.appd 37 (.r 34) (.r 36) 1 8)),
      .it (.one (.mov 8 (.r 37)))])
                 (.seq
                  /- R12 -/ (.ops [.it (.one (.mov 38 (.r 6))),
      .it (.one (.mov 39 (.r 9))),
      .it (.one (.callf (some 40) (.st 20) [(.r 38), (.r 39)])),
      .it (.one (.mov 11 (.r 40)))])
                  (.seq
                   (.seq
                    /- R13 -/ (.ops [.it (.one (.mov 41 (.r 11))),
      .it (.one (.len 42 (.r 41))),
      .it (.one (.bin 43 .eql (.r 42) (.c (.int .i64 (0)))))])
                    (.cond (.r 43)
                     (.seq
                      /- R14 -/ (.ops [.it (.one (.mov 4 (.c (.bool false))))]) .ret) .skip))
                   (.seq
                    (.seq
                     /- R15 -/ (.ops [.it (.one (.mov 12 (.c (.int .i64 (0)))))])
                     (.block 2
                      (.loop (.pre (.mv [1, 6, 7, 8, 9, 10, 11, 12] [(8, 8)])
                       (.seq
                        (.seq
                         /- R16 -/ (.ops [.it (.one (.mov 44 (.r 12))),
      .it (.one (.mov 45 (.r 11))),
      .it (.one (.len 46 (.r 45))),
      .it (.one (.bin 47 .lss (.r 44) (.r 46)))])
                         (.cond (.r 47) .skip (.exit 2)))
                        (.seq
                         (.block 3
                          (.seq
                           /- R18 -/ (.ops [.it (.one (.mov 50 (.r 8))),
      .it (.one (.mov 51 (.r 11))),
      .it (.one (.mov 52 (.r 12))),
      .it (.one (.idx 53 (.r 51) (.r 52) 1)),
      .it (.one (.load 54 (.r 53) 1 false)),
      .it (.one (.callb (some 55) (.st 24) [(.r 50), (.r 54)])),
      .it (.one (.un 56 .not (.r 55)))])
                           (.cond (.r 56)
                            (.seq
                             /- R19 -/ (.ops [.it (.one (.mov 4 (.c (.bool false))))]) .ret) .skip)))
                         /- R17 -/ (.ops [.it (.one (.mov 48 (.r 12))),
      .it (.one (.bin 49 .add (.r 48) (.c (.int .i64 (1))))),
      .it (.one (.mov 12 (.r 49)))])))))))
                    (.seq
                     (.seq
                      /- R20 -/ (.ops [.it (.one (.mov 57 (.r 10))),
      .it (.one (.mov 58 (.r 1))),
      .it (.one (.len 59 (.r 58))),
      .it (.one (.bin 60 .eql (.r 57) (.r 59))),
      .it (.one (.mov 61 (.r 60))),
      .it (.grp 61 false [.mov 62 (.r 7), .mov 63 (.r 9), .idx 64 (.r 62) (.r 63) 1, .load 65 (.r 64) 1 false, .len 66 (.r 65), .bin 67 .eql (.r 66) (.c (.int .i64 (0)))]),
      .it (.one (.pick 68 (.r 61) (.c (.bool true)) (.r 67)))])
                      (.cond (.r 68) (.exit 0) .skip))
                     /- R21 -/ (.draw [[], [], [0, 1], [0, 1, 2], [], [], [4, 5], [4, 5, 6], [4, 5, 6, 7], [], [], [9, 10], [9, 10, 11], [9, 10, 11, 12], [4, 5, 6, 7, 8, 9, 10, 11, 12, 13], [0, 1, 2, 3, 4, 5, 6, 7, 8, 9, 10, 11, 12, 13, 14], [0, 1, 2, 3, 4, 5, 6, 7, 8, 9, 10, 11, 12, 13, 14, 15], [0, 1, 2, 3, 4, 5, 6, 7, 8, 9, 10, 11, 12, 13, 14, 15, 16]] [.one (.mov 69 (.r 7)),
      .one (.mov 70 (.r 9)),
      .one (.idx 71 (.r 69) (.r 70) 1),
      .one (.load 72 (.r 71) 1 false),
      .one (.mov 73 (.r 1)),
      .one (.mov 74 (.r 10)),
      .one (.idx 75 (.r 73) (.r 74) 1),
      .one (.load 76 (.r 75) 1 false),
      .one (.conv 77 .i64 (.r 76)),
      .one (.mov 78 (.r 7)),
      .one (.mov 79 (.r 9)),
      .one (.idx 80 (.r 78) (.r 79) 1),
      .one (.load 81 (.r 80) 1 false),
      .one (.len 82 (.r 81)),
      .one (.bin 83 .rem (.r 77) (.r 82)),
      .one (.idx 84 (.r 72) (.r 83) 1),
      .one (.load 85 (.r 84) 1 false),
      .one (.mov 9 (.r 85))])))))))
               /- R10 -/ (.ops [.it (.one (.mov 32 (.r 10))),
      .it (.one (.bin 33 .add (.r 32) (.c (.int .i64 (1))))),
      .it (.one (.mov 10 (.r 33)))])))))))
          (.seq
           /- R22 -/ (.ops [.it (.one (.callf (some 86) (.st 7) [])),
      .it (.one (.mov 4 (.r 86)))]) .ret)))))))))
theorem A5_ok : okFun Try.prog 5 87 0 A5 [.tmp 4] [] = true := by kernel_rfl
/-- dyehouse/dyehouseref12.Large -/
def A6 : ACode :=
  (.seq
   /- R0 -/ (.ops [.it (.one (.boxp 1 (.r 0))),
      .it (.one (.mov 2 (.c (.bool false))))])
   (.seq
    /- R1 -/ (.ops [.it (.one (.fad 8 (.r 1) 1)),
      .it (.one (.load 9 (.r 8) 1 false)),
      .it (.one (.slen 10 (.r 9))),
      .it (.one (.fad 11 (.r 1) 2)),
      .it (.one (.load 12 (.r 11) 1 false)),
      .it (.one (.len 13 (.r 12))),
      .it (.one (.bin 14 .add (.r 10) (.r 13))),
      .it (.one (.fad 15 (.r 1) 3)),
      .it (.one (.load 16 (.r 15) 1 false)),
      .it (.one (.len 17 (.r 16))),
      .it (.one (.bin 18 .add (.r 14) (.r 17))),
      .it (.one (.mov 3 (.r 18)))])
    (.seq
     (.seq
      /- R2 -/ (.ops [.it (.one (.mov 4 (.c (.int .i64 (0)))))])
      (.block 0
       (.loop (.pre (.mv [1, 3, 4] [])
        (.seq
         (.seq
          /- R3 -/ (.ops [.it (.one (.mov 19 (.r 4))),
      .it (.one (.fad 20 (.r 1) 4)),
      .it (.one (.load 21 (.r 20) 1 false)),
      .it (.one (.len 22 (.r 21))),
      .it (.one (.bin 23 .lss (.r 19) (.r 22)))])
          (.cond (.r 23) .skip (.exit 0)))
         (.seq
          (.block 1
           (.seq
            /- R5 -/ (.draw [[], [], [1], [], [1, 2, 3], [1, 2, 3, 4], [1, 2, 3, 4, 5], [1, 2, 3, 4, 5, 6], [0, 1, 2, 3, 4, 5, 6, 7], [], [9], [], [9, 10, 11], [9, 10, 11, 12], [9, 10, 11, 12, 13], [9, 10, 11, 12, 13, 14], [0, 1, 2, 3, 4, 5, 6, 7, 8, 9, 10, 11, 12, 13, 14, 15], [0, 1, 2, 3, 4, 5, 6, 7, 8, 9, 10, 11, 12, 13, 14, 15, 16]] [.one (.mov 26 (.r 3)),
      .one (.fad 27 (.r 1) 4),
      .one (.load 28 (.r 27) 1 false),
      .one (.mov 29 (.r 4)),
      .one (.idx 30 (.r 28) (.r 29) 4),
      .one (.fad 31 (.r 30) 0),
      .one (.load 32 (.r 31) 1 false),
      .one (.slen 33 (.r 32)),
      .one (.bin 34 .add (.r 26) (.r 33)),
      .one (.fad 35 (.r 1) 4),
      .one (.load 36 (.r 35) 1 false),
      .one (.mov 37 (.r 4)),
      .one (.idx 38 (.r 36) (.r 37) 4),
      .one (.fad 39 (.r 38) 2),
      .one (.load 40 (.r 39) 1 false),
      .one (.len 41 (.r 40)),
      .one (.bin 42 .add (.r 34) (.r 41)),
      .one (.mov 3 (.r 42))])
            (.seq
             /- R6 -/ (.ops [.it (.one (.mov 5 (.c (.int .i64 (0)))))])
             (.block 2
              (.loop (.pre (.mv [1, 3, 4, 5] [])
               (.seq
                (.seq
                 /- R7 -/ (.ops [.it (.one (.mov 43 (.r 5))),
      .it (.one (.fad 44 (.r 1) 4)),
      .it (.one (.load 45 (.r 44) 1 false)),
      .it (.one (.mov 46 (.r 4))),
      .it (.one (.idx 47 (.r 45) (.r 46) 4)),
      .it (.one (.fad 48 (.r 47) 3)),
      .it (.one (.load 49 (.r 48) 1 false)),
      .it (.one (.len 50 (.r 49))),
      .it (.one (.bin 51 .lss (.r 43) (.r 50)))])
                 (.cond (.r 51) .skip (.exit 2)))
                (.seq
                 (.block 3
                  (.seq
                   /- R9 -/ (.post (.ops [.it (.one (.fad 54 (.r 1) 4)),
      .it (.one (.load 55 (.r 54) 1 false)),
      .it (.one (.mov 56 (.r 4))),
      .it (.one (.idx 57 (.r 55) (.r 56) 4)),
      .it (.one (.fad 58 (.r 57) 3)),
      .it (.one (.load 59 (.r 58) 1 false)),
      .it (.one (.mov 60 (.r 5))),
      .it (.one (.idx 61 (.r 59) (.r 60) 10)),
      .it (.one (.load 62 (.r 61) 10 true)),
      .it (.one (.alloc 6 6 [.int .i64 0, .int .i64 0, .int .i64 0, .int .i64 0, .int .i64 0, .sl [], .str .empty, .int .i64 0, .sl [], .sl []])),
      .it (.one (.store (.r 6) (.r 62) 10))]) (.frz 6))
                   (.seq
                    /- R10 -/ (.ops [.it (.one (.mov 63 (.r 3))),
      .it (.one (.bin 64 .add (.r 63) (.c (.int .i64 (1))))),
      .it (.one (.fad 65 (.r 6) 5)),
      .it (.one (.load 66 (.r 65) 1 false)),
      .it (.one (.len 67 (.r 66))),
      .it (.one (.bin 68 .add (.r 64) (.r 67))),
      .it (.one (.fad 69 (.r 6) 6)),
      .it (.one (.load 70 (.r 69) 1 false)),
      .it (.one (.slen 71 (.r 70))),
      .it (.one (.bin 72 .add (.r 68) (.r 71))),
      .it (.one (.fad 73 (.r 6) 9)),
      .it (.one (.load 74 (.r 73) 1 false)),
      .it (.one (.len 75 (.r 74))),
      .it (.one (.bin 76 .add (.r 72) (.r 75))),
      .it (.one (.mov 3 (.r 76)))])
                    (.seq
                     /- R11 -/ (.ops [.it (.one (.mov 7 (.c (.int .i64 (0)))))])
                     (.block 4
                      (.loop (.pre (.mv [1, 3, 4, 5, 6, 7] [(6, 6)])
                       (.seq
                        (.seq
                         /- R12 -/ (.ops [.it (.one (.mov 77 (.r 7))),
      .it (.one (.fad 78 (.r 6) 8)),
      .it (.one (.load 79 (.r 78) 1 false)),
      .it (.one (.len 80 (.r 79))),
      .it (.one (.bin 81 .lss (.r 77) (.r 80)))])
                         (.cond (.r 81) .skip (.exit 4)))
                        (.seq
                         (.block 5
                          /- R14 -/ (.ops [.it (.one (.mov 84 (.r 3))),
      .it (.one (.bin 85 .add (.r 84) (.c (.int .i64 (1))))),
      .it (.one (.fad 86 (.r 6) 8)),
      .it (.one (.load 87 (.r 86) 1 false)),
      .it (.one (.mov 88 (.r 7))),
      .it (.one (.idx 89 (.r 87) (.r 88) 1)),
      .it (.one (.load 90 (.r 89) 1 false)),
      .it (.one (.slen 91 (.r 90))),
      .it (.one (.bin 92 .add (.r 85) (.r 91))),
      .it (.one (.mov 3 (.r 92)))]))
                         /- R13 -/ (.ops [.it (.one (.mov 82 (.r 7))),
      .it (.one (.bin 83 .add (.r 82) (.c (.int .i64 (1))))),
      .it (.one (.mov 7 (.r 83)))]))))))))))
                 /- R8 -/ (.ops [.it (.one (.mov 52 (.r 5))),
      .it (.one (.bin 53 .add (.r 52) (.c (.int .i64 (1))))),
      .it (.one (.mov 5 (.r 53)))])))))))))
          /- R4 -/ (.ops [.it (.one (.mov 24 (.r 4))),
      .it (.one (.bin 25 .add (.r 24) (.c (.int .i64 (1))))),
      .it (.one (.mov 4 (.r 25)))])))))))
     (.seq
      /- R15 -/ (.ops [.it (.one (.mov 93 (.r 3))),
      .it (.one (.bin 94 .gtr (.r 93) (.c (.int .i64 (2000))))),
      .it (.one (.mov 95 (.r 94))),
      .it (.grp 95 false [.fad 96 (.r 1) 4, .load 97 (.r 96) 1 false, .len 98 (.r 97), .bin 99 .gtr (.r 98) (.c (.int .i64 (80)))]),
      .it (.one (.pick 100 (.r 95) (.c (.bool true)) (.r 99))),
      .it (.one (.mov 2 (.r 100)))]) .ret))))
theorem A6_ok : okFun Try.prog 6 101 0 A6 [.tmp 2] [] = true := by kernel_rfl
/-- dyehouse/dyehouselaw20.works -/
def A7 : ACode :=
  (.seq
   /- R0 -/ (.ops [.it (.one (.mov 0 (.c (.bool false))))])
   (.seq
    /- R1 -/ (.ops [.it (.one (.mov 1 (.c (.fn 25 []))))])
    (.seq
     /- R2 -/ (.ops [.it (.one (.mov 4 (.r 1))),
      .it (.one (.bslp 5 1 [(.c (.str ⟨#[98]⟩)), (.c (.str ⟨#[99]⟩))])),
      .it (.one (.callf (some 6) (.dy (.r 4)) [(.r 5)])),
      .it (.one (.build 7 [.str .empty, .bool false, .sl [], .sl []] [(0, 1, (.c (.str ⟨#[97]⟩))), (3, 1, (.r 6))])),
      .it (.one (.mov 8 (.r 1))),
      .it (.one (.bslp 9 1 [(.c (.str ⟨#[100]⟩))])),
      .it (.one (.callf (some 10) (.dy (.r 8)) [(.r 9)])),
      .it (.one (.build 11 [.str .empty, .bool false, .sl [], .sl []] [(0, 1, (.c (.str ⟨#[98]⟩))), (3, 1, (.r 10))])),
      .it (.one (.mov 12 (.r 1))),
      .it (.one (.bslp 13 1 [(.c (.str ⟨#[100]⟩))])),
      .it (.one (.callf (some 14) (.dy (.r 12)) [(.r 13)])),
      .it (.one (.build 15 [.str .empty, .bool false, .sl [], .sl []] [(0, 1, (.c (.str ⟨#[99]⟩))), (3, 1, (.r 14))])),
      .it (.one (.build 16 [.str .empty, .bool false, .sl [], .sl []] [(0, 1, (.c (.str ⟨#[100]⟩)))])),
      .it (.one (.build 17 [.str .empty, .bool false, .sl [], .sl []] [(0, 1, (.c (.str ⟨#[101]⟩)))])),
      .it (.one (.bslp 18 4 [(.r 7), (.r 11), (.r 15), (.r 16), (.r 17)])),
      .it (.one (.build 19 [.bool false, .str .empty, .sl [], .sl [], .sl []] [(4, 1, (.r 18))])),
      .it (.one (.callf (some 20) (.st 10) [(.r 19)])),
      .it (.one (.mov 2 (.r 20)))])
     (.seq
      /- R3 -/ (.ops [.it (.one (.mov 21 (.r 2))),
      .it (.one (.callf (some 22) (.st 9) [(.r 21)])),
      .it (.one (.mov 3 (.r 22)))])
      (.seq
       /- R4 -/ (.ops [.it (.one (.mov 23 (.r 3))),
      .it (.one (.eq 24 true .nil (.r 23) (.c (.nilp)))),
      .it (.one (.mov 25 (.r 24))),
      .it (.grp 25 true [.mov 26 (.r 3), .callf (some 27) (.st 11) [(.r 26), (.c (.int .i64 (3)))], .bin 28 .eql (.r 27) (.c (.int .i64 (0)))]),
      .it (.one (.pick 29 (.r 25) (.r 28) (.c (.bool false)))),
      .it (.one (.mov 30 (.r 29))),
      .it (.grp 30 true [.mov 31 (.r 3), .callf (some 32) (.st 11) [(.r 31), (.c (.int .i64 (0)))], .bin 33 .eql (.r 32) (.c (.int .i64 (-1)))]),
      .it (.one (.pick 34 (.r 30) (.r 33) (.c (.bool false)))),
      .it (.one (.mov 35 (.r 34))),
      .it (.grp 35 true [.mov 36 (.r 3), .callf (some 37) (.st 17) [(.r 36), (.c (.int .i64 (0))), (.c (.int .i64 (3)))]]),
      .it (.one (.pick 38 (.r 35) (.r 37) (.c (.bool false)))),
      .it (.one (.mov 39 (.r 38))),
      .it (.grp 39 true [.mov 40 (.r 3), .callf (some 41) (.st 17) [(.r 40), (.c (.int .i64 (1))), (.c (.int .i64 (3)))], .un 42 .not (.r 41)]),
      .it (.one (.pick 43 (.r 39) (.r 42) (.c (.bool false)))),
      .it (.one (.mov 44 (.r 43))),
      .it (.grp 44 true [.mov 45 (.r 3), .callf (some 46) (.st 13) [(.r 45), (.c (.int .i64 (3)))], .bin 47 .eql (.r 46) (.c (.int .i64 (2)))]),
      .it (.one (.pick 48 (.r 44) (.r 47) (.c (.bool false)))),
      .it (.one (.mov 49 (.r 48))),
      .it (.grp 49 true [.mov 50 (.r 3), .callf (some 51) (.st 13) [(.r 50), (.c (.int .i64 (4)))], .bin 52 .eql (.r 51) (.c (.int .i64 (0)))]),
      .it (.one (.pick 53 (.r 49) (.r 52) (.c (.bool false)))),
      .it (.one (.mov 54 (.r 53))),
      .it (.grp 54 true [.mov 55 (.r 3), .callf (some 56) (.st 16) [(.r 55), (.c (.int .i64 (0)))], .len 57 (.r 56), .bin 58 .eql (.r 57) (.c (.int .i64 (3)))]),
      .it (.one (.pick 59 (.r 54) (.r 58) (.c (.bool false)))),
      .it (.one (.mov 60 (.r 59))),
      .it (.grp 60 true [.mov 61 (.r 3), .callf (some 62) (.st 20) [(.r 61), (.c (.int .i64 (3)))], .bslp 63 1 [(.c (.int .i64 (3))), (.c (.int .i64 (0)))], .callf (some 64) (.st 26) [(.r 62), (.r 63)]]),
      .it (.one (.pick 65 (.r 60) (.r 64) (.c (.bool false)))),
      .it (.one (.mov 66 (.r 65))),
      .it (.grp 66 true [.mov 67 (.r 3), .callf (some 68) (.st 15) [(.r 67), (.c (.int .i64 (0)))], .callb (some 69) (.st 27) [(.r 68)], .bin 70 .eql (.r 69) (.c (.int .i64 (4)))]),
      .it (.one (.pick 71 (.r 66) (.r 70) (.c (.bool false)))),
      .it (.one (.mov 0 (.r 71)))]) .ret)))))
theorem A7_ok : okFun Try.prog 7 72 0 A7 [.tmp 0] [] = true := by kernel_rfl
/-- dyehouse/dyehouseref19.Succ -/
def A8 : ACode :=
  (.seq
   /- R0 -/ (.ops [.it (.one (.boxp 1 (.r 0))),
      .it (.one (.mov 2 (.c (.sl []))))])
   (.seq
    /- R1 -/ (.ops [.it (.one (.nilarr 3 3 1))])
    (.seq
     (.seq
      /- R2 -/ (.ops [.it (.one (.mov 4 (.c (.int .i64 (0)))))])
      (.block 0
       (.loop (.pre (.mv [1, 3, 4] [(3, 3)])
        (.seq
         (.seq
          /- R3 -/ (.ops [.it (.one (.mov 10 (.r 4))),
      .it (.one (.fad 11 (.r 1) 4)),
      .it (.one (.load 12 (.r 11) 1 false)),
      .it (.one (.len 13 (.r 12))),
      .it (.one (.bin 14 .lss (.r 10) (.r 13)))])
          (.cond (.r 14) .skip (.exit 0)))
         (.seq
          (.block 1
           (.seq
            /- R5 -/ (.ops [.it (.one (.nilarr 5 5 1))])
            (.seq
             /- R6 -/ (.ops [.it (.one (.fad 17 (.r 1) 4)),
      .it (.one (.load 18 (.r 17) 1 false)),
      .it (.one (.mov 19 (.r 4))),
      .it (.one (.idx 20 (.r 18) (.r 19) 4)),
      .it (.one (.fad 21 (.r 20) 3)),
      .it (.one (.load 22 (.r 21) 1 false)),
      .it (.one (.mov 6 (.r 22)))])
             (.seq
              (.seq
               /- R7 -/ (.ops [.it (.one (.mov 23 (.r 6))),
      .it (.one (.len 24 (.r 23))),
      .it (.one (.bin 25 .gtr (.r 24) (.c (.int .i64 (0))))),
      .it (.one (.mov 26 (.r 25))),
      .it (.grp 26 true [.mov 27 (.r 6), .mov 28 (.r 6), .len 29 (.r 28), .bin 30 .sub (.r 29) (.c (.int .i64 (1))), .idx 31 (.r 27) (.r 30) 10, .fad 32 (.r 31) 0, .load 33 (.r 32) 1 false, .bin 34 .geq (.r 33) (.c (.int .i64 (20)))]),
      .it (.one (.pick 35 (.r 26) (.r 34) (.c (.bool false)))),
      .it (.one (.mov 36 (.r 35))),
      .it (.grp 36 true [.mov 37 (.r 6), .mov 38 (.r 6), .len 39 (.r 38), .bin 40 .sub (.r 39) (.c (.int .i64 (1))), .idx 41 (.r 37) (.r 40) 10, .fad 42 (.r 41) 0, .load 43 (.r 42) 1 false, .bin 44 .leq (.r 43) (.c (.int .i64 (23)))]),
      .it (.one (.pick 45 (.r 36) (.r 44) (.c (.bool false))))])
               (.cond (.r 45)
                (.seq
                 /- R8 -/ (.post (.ops [.it (.one (.mov 46 (.r 6))),
      .it (.one (.mov 47 (.r 6))),
      .it (.one (.len 48 (.r 47))),
      .it (.one (.bin 49 .sub (.r 48) (.c (.int .i64 (1))))),
      .it (.one (.idx 50 (.r 46) (.r 49) 10)),
      .it (.one (.load 51 (.r 50) 10 true)),
      .it (.one (.alloc 7 7 [.int .i64 0, .int .i64 0, .int .i64 0, .int .i64 0, .int .i64 0, .sl [], .str .empty, .int .i64 0, .sl [], .sl []])),
      .it (.one (.store (.r 7) (.r 51) 10))]) (.frz 7))
                 (.seq
                  /- R9 -/ (.ops [.it (.one (.mov 8 (.c (.int .i64 (0)))))])
                  (.block 2
                   (.loop (.pre (.mv [1, 3, 4, 5, 7, 8] [(3, 3), (5, 5), (7, 7)])
                    (.seq
                     (.seq
                      /- R10 -/ (.ops [.it (.one (.mov 52 (.r 8))),
      .it (.one (.fad 53 (.r 7) 8)),
      .it (.one (.load 54 (.r 53) 1 false)),
      .it (.one (.len 55 (.r 54))),
      .it (.one (.bin 56 .lss (.r 52) (.r 55)))])
                      (.cond (.r 56) .skip (.exit 2)))
                     (.seq
                      (.block 3
                       (.seq
                        /- R12 -/ (.draw [[], [], [1], [], [1, 2, 3], [1, 2, 3, 4], [0, 1, 2, 3, 4, 5], [0, 1, 2, 3, 4, 5, 6]] [.one (.load 59 (.r 1) 5 true),
      .one (.fad 60 (.r 7) 8),
      .one (.load 61 (.r 60) 1 false),
      .one (.mov 62 (.r 8)),
      .one (.idx 63 (.r 61) (.r 62) 1),
      .one (.load 64 (.r 63) 1 false),
      .one (.callf (some 65) (.st 28) [(.r 59), (.r 64)]),
      .one (.mov 9 (.r 65))])
                        (.seq
                         /- R13 -/ (.ops [.it (.one (.mov 66 (.r 9))),
      .it (.one (.bin 67 .geq (.r 66) (.c (.int .i64 (0))))),
      .it (.one (.mov 68 (.r 67))),
      .it (.grp 68 true [.mov 69 (.r 5), .mov 70 (.r 9), .callb (some 71) (.st 24) [(.r 69), (.r 70)], .un 72 .not (.r 71)]),
      .it (.one (.pick 73 (.r 68) (.r 72) (.c (.bool false))))])
                         (.cond (.r 73)
                          /- R14 -/ (.ops [.it (.one (.mov 74 (.r 5))),
      .it (.one (.mov 75 (.r 9))),
      .it (.one (.bslp 76 1 [(.r 75)])),
      .it (.one (.appd 77 (.r 74) (.r 76) 1 8)),
      .it (.one (.mov 5 (.r 77)))]) .skip))))
                      /- R11 -/ (.ops [.it (.one (.mov 57 (.r 8))),
      .it (.one (.bin 58 .add (.r 57) (.c (.int .i64 (1))))),
      .it (.one (.mov 8 (.r 58)))])))))))) .skip))
              /- R15 -/ (.pre (.frz 5) (.ops [.it (.one (.mov 78 (.r 3))),
      .it (.one (.mov 79 (.r 5))),
      .it (.one (.bslp 80 1 [(.r 79)])),
      .it (.one (.appd 81 (.r 78) (.r 80) 1 24)),
      .it (.one (.mov 3 (.r 81)))]))))))
          /- R4 -/ (.ops [.it (.one (.mov 15 (.r 4))),
      .it (.one (.bin 16 .add (.r 15) (.c (.int .i64 (1))))),
      .it (.one (.mov 4 (.r 16)))])))))))
     (.seq
      /- R16 -/ (.post (.ops [.it (.one (.mov 82 (.r 3))),
      .it (.one (.mov 2 (.r 82)))]) (.frz 3)) .ret))))
theorem A8_ok : okFun Try.prog 8 83 0 A8 [.tmp 2] [] = true := by kernel_rfl
/-- dyehouse/dom.New -/
def A9 : ACode :=
  (.seq
   /- R0 -/ (.ops [.it (.one (.mov 2 (.c (.nilp))))])
   (.seq
    /- R1 -/ (.draw [[], [0], [0, 1], [], [0, 1, 3], [0, 1, 3, 4], [0, 1, 2, 3, 4, 5], [0, 1, 2, 3, 4, 5, 6], [0, 1, 2, 3, 4, 5, 6, 7]] [.one (.mov 8 (.r 0)),
      .one (.callf (some 9) (.st 29) [(.r 8)]),
      .one (.make 10 10 1 8 [.int .i64 0] (.r 9) (.r 9)),
      .one (.mov 11 (.r 0)),
      .one (.callf (some 12) (.st 29) [(.r 11)]),
      .one (.make 13 13 1 8 [.int .i64 0] (.r 12) (.r 12)),
      .one (.buildm 14 [.sl [], .sl []] [(0, 1, (.r 10)), (1, 1, (.r 13))]),
      .one (.boxg 15 15 (.r 14)),
      .one (.mov 3 (.r 15))])
    (.seq
     (.seq
      /- R2 -/ (.ops [.it (.one (.mov 16 (.r 3))),
      .it (.one (.nilc 17 (.r 16))),
      .it (.one (.fad 18 (.r 17) 0)),
      .it (.one (.load 19 (.r 18) 1 false)),
      .it (.one (.len 20 (.r 19))),
      .it (.one (.mov 21 (.c (.int .i64 (0)))))])
      (.block 0
       (.loop (.pre (.mv [0, 3, 20, 21] [(10, 10), (13, 13), (15, 15)])
        (.seq
         /- R3 -/ (.ops [.it (.one (.bin 22 .lss (.r 21) (.r 20)))])
         (.seq
          (.cond (.r 22) .skip (.exit 0))
          (.seq
           (.block 1
            (.seq
             /- R4 -/ (.ops [.it (.one (.mov 23 (.r 21))),
      .it (.one (.mov 4 (.r 23)))])
             /- R5 -/ (.draw [[], [0], [0, 1], [0, 1, 2], [], [], [5], [5, 6], [5, 6, 7], [], [0, 1, 2, 3, 4, 5, 6, 7, 8], [0, 1, 2, 3, 4, 5, 6, 7, 8, 10], [0, 1, 2, 3, 4, 5, 6, 7, 8, 9, 10, 11], [0, 1, 2, 3, 4, 5, 6, 7, 8, 9, 10, 11, 12]] [.one (.mov 24 (.r 3)),
      .one (.nilc 25 (.r 24)),
      .one (.fad 26 (.r 25) 0),
      .one (.load 27 (.r 26) 1 false),
      .one (.mov 28 (.r 4)),
      .one (.mov 29 (.r 3)),
      .one (.nilc 30 (.r 29)),
      .one (.fad 31 (.r 30) 1),
      .one (.load 32 (.r 31) 1 false),
      .one (.mov 33 (.r 4)),
      .one (.idx 34 (.r 27) (.r 28) 1),
      .one (.store (.r 34) (.c (.int .i64 (-1))) 1),
      .one (.idx 35 (.r 32) (.r 33) 1),
      .one (.store (.r 35) (.c (.int .i64 (-1))) 1)])))
           /- R6 -/ (.ops [.it (.one (.bin 36 .add (.r 21) (.c (.int .i64 (1))))),
      .it (.one (.mov 21 (.r 36)))]))))))))
     (.seq
      /- R7 -/ (.ops [.it (.one (.mov 37 (.r 0))),
      .it (.one (.callf (some 38) (.st 30) [(.r 37)])),
      .it (.one (.mov 5 (.r 38)))])
      (.seq
       (.seq
        /- R8 -/ (.ops [.it (.one (.mov 39 (.r 5))),
      .it (.one (.len 40 (.r 39))),
      .it (.one (.mov 41 (.c (.int .i64 (0)))))])
        (.block 2
         (.loop (.pre (.mv [0, 3, 5, 39, 40, 41] [(10, 10), (13, 13), (15, 15)])
          (.seq
           /- R9 -/ (.ops [.it (.one (.bin 42 .lss (.r 41) (.r 40)))])
           (.seq
            (.cond (.r 42) .skip (.exit 2))
            (.seq
             (.block 3
              (.seq
               /- R10 -/ (.ops [.it (.one (.mov 43 (.r 41))),
      .it (.one (.idx 44 (.r 39) (.r 41) 1)),
      .it (.one (.load 45 (.r 44) 1 false)),
      .it (.one (.mov 6 (.r 43))),
      .it (.one (.mov 7 (.r 45)))])
               /- R11 -/ (.ops [.it (.one (.mov 46 (.r 3))),
      .it (.one (.nilc 47 (.r 46))),
      .it (.one (.fad 48 (.r 47) 1)),
      .it (.one (.load 49 (.r 48) 1 false)),
      .it (.one (.mov 50 (.r 7))),
      .it (.one (.mov 51 (.r 6))),
      .it (.one (.idx 52 (.r 49) (.r 50) 1)),
      .it (.one (.store (.r 52) (.r 51) 1))])))
             /- R12 -/ (.ops [.it (.one (.bin 53 .add (.r 41) (.c (.int .i64 (1))))),
      .it (.one (.mov 41 (.r 53)))]))))))))
       (.seq
        (.seq
         /- R13 -/ (.ops [.it (.one (.mov 54 (.r 5))),
      .it (.one (.len 55 (.r 54))),
      .it (.one (.bin 56 .eql (.r 55) (.c (.int .i64 (0)))))])
         (.cond (.r 56)
          (.seq
           /- R14 -/ (.post (.post (.post (.ops [.it (.one (.mov 57 (.r 3))),
      .it (.one (.mov 2 (.r 57)))]) (.frz 10)) (.frz 13)) (.frz 15)) .ret) .skip))
        (.seq
         /- R15 -/ (.ops [.it (.one (.mov 58 (.r 3))),
      .it (.one (.nilc 59 (.r 58))),
      .it (.one (.fad 60 (.r 59) 0)),
      .it (.one (.load 61 (.r 60) 1 false)),
      .it (.one (.idx 62 (.r 61) (.c (.int .i64 (0))) 1)),
      .it (.one (.store (.r 62) (.c (.int .i64 (0))) 1))])
         (.seq
          (.block 4
           (.loop (.pre (.mv [0, 3, 5] [(10, 10), (13, 13), (15, 15)])
            (.seq
             (.seq
              /- R16 -/ (.ops [.it (.one (.mov 63 (.r 3))),
      .it (.one (.mov 64 (.r 0))),
      .it (.one (.mov 65 (.r 5))),
      .it (.one (.slc 66 (.r 65) (some (.c (.int .i64 (1)))) none 1)),
      .it (.one (.callo (some 67) (.st 31) [(.r 63), (.r 64), (.r 66)] [15, 10, 13] []))])
              (.cond (.r 67) .skip (.exit 4)))
             (.block 5 .skip)))))
          (.seq
           /- R17 -/ (.ops [.it (.one (.mov 68 (.r 3))),
      .it (.one (.nilc 69 (.r 68))),
      .it (.one (.fad 70 (.r 69) 0)),
      .it (.one (.load 71 (.r 70) 1 false)),
      .it (.one (.idx 72 (.r 71) (.c (.int .i64 (0))) 1)),
      .it (.one (.store (.r 72) (.c (.int .i64 (-1))) 1))])
           (.seq
            /- R18 -/ (.post (.post (.post (.ops [.it (.one (.mov 73 (.r 3))),
      .it (.one (.mov 2 (.r 73)))]) (.frz 10)) (.frz 13)) (.frz 15)) .ret))))))))))
theorem A9_ok : okFun Try.prog 9 74 0 A9 [.tmp 2] [] = true := by kernel_rfl
/-- dyehouse/graph.New -/
def A10 : ACode :=
  (.seq
   /- R0 -/ (.ops [.it (.one (.boxp 1 (.r 0))),
      .it (.one (.mov 2 (.c (.nilp))))])
   (.seq
    /- R1 -/ (.draw [[], [0], [0, 1], [0, 1, 2], [], [4], [4, 5], [4, 5, 6], [0, 1, 2, 3, 4, 5, 6, 7], [0, 1, 2, 3, 4, 5, 6, 7, 8], [0, 1, 2, 3, 4, 5, 6, 7, 8, 9]] [.one (.fad 11 (.r 1) 4),
      .one (.load 12 (.r 11) 1 false),
      .one (.len 13 (.r 12)),
      .one (.makeb 14 14 24 (some (1000, 2, 1)) .dead (.r 13) (.r 13)),
      .one (.fad 15 (.r 1) 4),
      .one (.load 16 (.r 15) 1 false),
      .one (.len 17 (.r 16)),
      .one (.makeb 18 18 24 (some (1001, 2, 1)) .dead (.r 17) (.r 17)),
      .one (.buildm 19 [.sl [], .sl []] [(0, 1, (.r 14)), (1, 1, (.r 18))]),
      .one (.boxg 20 20 (.r 19)),
      .one (.mov 3 (.r 20))])
    (.seq
     (.seq
      /- R2 -/ (.ops [.it (.one (.fad 21 (.r 1) 4)),
      .it (.one (.load 22 (.r 21) 1 false)),
      .it (.one (.len 23 (.r 22))),
      .it (.one (.mov 24 (.c (.int .i64 (0)))))])
      (.block 0
       (.loop (.pre (.dyn [])
        (.seq
         /- R3 -/ (.ops [.it (.one (.bin 25 .lss (.r 24) (.r 23)))])
         (.seq
          (.cond (.r 25) .skip (.exit 0))
          (.seq
           (.block 1
            (.seq
             /- R4 -/ (.post (.ops [.it (.one (.mov 26 (.r 24))),
      .it (.one (.idx 27 (.r 22) (.r 24) 4)),
      .it (.one (.load 28 (.r 27) 4 true)),
      .it (.one (.alloc 5 5 [.str .empty, .bool false, .sl [], .sl []])),
      .it (.one (.mov 4 (.r 26))),
      .it (.one (.store (.r 5) (.r 28) 4))]) (.frz 5))
             (.seq
              /- R5 -/ (.post (.ops [.it (.one (.load 30 (.r 5) 4 true)),
      .it (.one (.callf (some 31) (.st 32) [(.r 30)])),
      .it (.one (.mov 29 (.r 31))),
      .it (.one (.ext 32 (.r 29) 0)),
      .it (.one (.ext 33 (.r 29) 1)),
      .it (.one (.alloc 6 6 [.int .i64 0, .int .i64 0, .int .i64 0, .int .i64 0, .int .i64 0, .sl [], .str .empty, .int .i64 0, .sl [], .sl []])),
      .it (.one (.store (.r 6) (.r 32) 10)),
      .it (.one (.mov 7 (.r 33)))]) (.frz 6))
              (.seq
               (.seq
                /- R6 -/ (.ops [.it (.one (.mov 34 (.r 7))),
      .it (.one (.un 35 .not (.r 34)))])
                (.cond (.r 35) (.exit 1) .skip))
               (.seq
                /- R7 -/ (.ops [.it (.one (.fad 36 (.r 6) 8)),
      .it (.one (.load 37 (.r 36) 1 false)),
      .it (.one (.len 38 (.r 37))),
      .it (.one (.mov 39 (.c (.int .i64 (0)))))])
                (.block 2
                 (.loop (.pre (.dyn [])
                  (.seq
                   /- R8 -/ (.ops [.it (.one (.bin 40 .lss (.r 39) (.r 38)))])
                   (.seq
                    (.cond (.r 40) .skip (.exit 2))
                    (.seq
                     (.block 3
                      (.seq
                       /- R9 -/ (.ops [.it (.one (.idx 41 (.r 37) (.r 39) 1)),
      .it (.one (.load 42 (.r 41) 1 false)),
      .it (.one (.mov 9 (.r 42)))])
                       (.seq
                        /- R10 -/ (.ops [.it (.one (.load 43 (.r 1) 5 true)),
      .it (.one (.mov 44 (.r 9))),
      .it (.one (.callf (some 45) (.st 33) [(.r 43), (.r 44)])),
      .it (.one (.mov 10 (.r 45)))])
                        (.seq
                         /- R11 -/ (.ops [.it (.one (.mov 46 (.r 10))),
      .it (.one (.bin 47 .geq (.r 46) (.c (.int .i64 (0))))),
      .it (.one (.mov 48 (.r 47))),
      .it (.grp 48 true [.mov 49 (.r 3), .nilc 50 (.r 49), .fad 51 (.r 50) 0, .load 52 (.r 51) 1 false, .mov 53 (.r 4), .idx 54 (.r 52) (.r 53) 1, .load 55 (.r 54) 1 false, .mov 56 (.r 10), .callb (some 57) (.st 34) [(.r 55), (.r 56)], .un 58 .not (.r 57)]),
      .it (.one (.pick 59 (.r 48) (.r 58) (.c (.bool false))))])
                         (.cond (.r 59)
                          (.seq
                           /- R12 -/ (.draw [[], [0], [0, 1], [0, 1, 2], [], [], [5], [5, 6], [5, 6, 7], [], [5, 6, 7, 8, 9], [5, 6, 7, 8, 9, 10], [], [12], [5, 6, 7, 8, 9, 10, 11, 12, 13], [0, 1, 2, 3, 4, 5, 6, 7, 8, 9, 10, 11, 12, 13, 14], [0, 1, 2, 3, 4, 5, 6, 7, 8, 9, 10, 11, 12, 13, 14, 15]] [.one (.mov 60 (.r 3)),
      .one (.nilc 61 (.r 60)),
      .one (.fad 62 (.r 61) 0),
      .one (.load 63 (.r 62) 1 false),
      .one (.mov 64 (.r 4)),
      .one (.mov 65 (.r 3)),
      .one (.nilc 66 (.r 65)),
      .one (.fad 67 (.r 66) 0),
      .one (.load 68 (.r 67) 1 false),
      .one (.mov 69 (.r 4)),
      .one (.idx 70 (.r 68) (.r 69) 1),
      .one (.load 71 (.r 70) 1 false),
      .one (.mov 72 (.r 10)),
      .one (.bslp 73 1 [(.r 72)]),
      .one (.appd 74 (.r 71) (.r 73) 1 8),
      .one (.idx 75 (.r 63) (.r 64) 1),
      .one (.store (.r 75) (.r 74) 1)])
                           /- R13 -/ (.draw [[], [0], [0, 1], [0, 1, 2], [], [], [5], [5, 6], [5, 6, 7], [], [5, 6, 7, 8, 9], [5, 6, 7, 8, 9, 10], [], [12], [5, 6, 7, 8, 9, 10, 11, 12, 13], [0, 1, 2, 3, 4, 5, 6, 7, 8, 9, 10, 11, 12, 13, 14], [0, 1, 2, 3, 4, 5, 6, 7, 8, 9, 10, 11, 12, 13, 14, 15]] [.one (.mov 76 (.r 3)),
      .one (.nilc 77 (.r 76)),
      .one (.fad 78 (.r 77) 1),
      .one (.load 79 (.r 78) 1 false),
      .one (.mov 80 (.r 10)),
      .one (.mov 81 (.r 3)),
      .one (.nilc 82 (.r 81)),
      .one (.fad 83 (.r 82) 1),
      .one (.load 84 (.r 83) 1 false),
      .one (.mov 85 (.r 10)),
      .one (.idx 86 (.r 84) (.r 85) 1),
      .one (.load 87 (.r 86) 1 false),
      .one (.mov 88 (.r 4)),
      .one (.bslp 89 1 [(.r 88)]),
      .one (.appd 90 (.r 87) (.r 89) 1 8),
      .one (.idx 91 (.r 79) (.r 80) 1),
      .one (.store (.r 91) (.r 90) 1)])) .skip)))))
                     /- R14 -/ (.ops [.it (.one (.bin 92 .add (.r 39) (.c (.int .i64 (1))))),
      .it (.one (.mov 39 (.r 92)))]))))))))))))
           /- R15 -/ (.ops [.it (.one (.bin 93 .add (.r 24) (.c (.int .i64 (1))))),
      .it (.one (.mov 24 (.r 93)))]))))))))
     (.seq
      /- R16 -/ (.post (.ops [.it (.one (.mov 94 (.r 3))),
      .it (.one (.mov 2 (.r 94)))]) (.dyn [])) .ret))))
theorem A10_ok : okFun Try.prog 10 95 0 A10 [.tmp 2] [] = true := by kernel_rfl
/-- (*dyehouse/dom.Tree).Idom -/
def A11 : ACode :=
  (.seq
   /- R0 -/ (.ops [.it (.one (.mov 4 (.c (.int .i64 (0)))))])
   (.seq
    (.seq
     /- R1 -/ (.ops [.it (.one (.mov 5 (.r 0))),
      .it (.one (.mov 6 (.r 1))),
      .it (.one (.callf (some 7) (.st 35) [(.r 5), (.r 6)])),
      .it (.one (.un 8 .not (.r 7)))])
     (.cond (.r 8)
      (.seq
       /- R2 -/ (.ops [.it (.one (.mov 4 (.c (.int .i64 (-1)))))]) .ret) .skip))
    (.seq
     /- R3 -/ (.ops [.it (.one (.mov 9 (.r 0))),
      .it (.one (.nilc 10 (.r 9))),
      .it (.one (.fad 11 (.r 10) 0)),
      .it (.one (.load 12 (.r 11) 1 false)),
      .it (.one (.mov 13 (.r 1))),
      .it (.one (.idx 14 (.r 12) (.r 13) 1)),
      .it (.one (.load 15 (.r 14) 1 false)),
      .it (.one (.mov 4 (.r 15)))]) .ret)))
theorem A11_ok : okFun Try.prog 11 16 0 A11 [.tmp 4] [] = true := by kernel_rfl
/-- dyehouse/dyehouseref20.Idom -/
def A12 : ACode :=
  (.seq
   /- R0 -/ (.ops [.it (.one (.mov 4 (.c (.int .i64 (0)))))])
   (.seq
    /- R1 -/ (.ops [.it (.one (.mov 5 (.c (.int .i64 (-1))))),
      .it (.one (.mov 6 (.c (.int .i64 (0)))))])
    (.seq
     (.seq
      /- R2 -/ (.ops [.it (.one (.mov 7 (.c (.int .i64 (0)))))])
      (.block 0
       (.loop (.pre (.mv [0, 1, 5, 6, 7] [])
        (.seq
         (.seq
          /- R3 -/ (.ops [.it (.one (.mov 8 (.r 7))),
      .it (.one (.mov 9 (.r 0))),
      .it (.one (.len 10 (.r 9))),
      .it (.one (.bin 11 .lss (.r 8) (.r 10)))])
          (.cond (.r 11) .skip (.exit 0)))
         (.seq
          (.block 1
           (.seq
            /- R5 -/ (.ops [.it (.one (.mov 14 (.r 7))),
      .it (.one (.mov 15 (.r 1))),
      .it (.one (.bin 16 .neq (.r 14) (.r 15))),
      .it (.one (.mov 17 (.r 16))),
      .it (.grp 17 true [.mov 18 (.r 0), .mov 19 (.r 7), .mov 20 (.r 1), .callf (some 21) (.st 18) [(.r 18), (.r 19), (.r 20)]]),
      .it (.one (.pick 22 (.r 17) (.r 21) (.c (.bool false)))),
      .it (.one (.mov 23 (.r 22))),
      .it (.grp 23 true [.mov 24 (.r 0), .mov 25 (.r 7), .callf (some 26) (.st 14) [(.r 24), (.r 25)], .mov 27 (.r 6), .bin 28 .gtr (.r 26) (.r 27)]),
      .it (.one (.pick 29 (.r 23) (.r 28) (.c (.bool false))))])
            (.cond (.r 29)
             /- R6 -/ (.ops [.it (.one (.mov 30 (.r 7))),
      .it (.one (.mov 31 (.r 0))),
      .it (.one (.mov 32 (.r 7))),
      .it (.one (.callf (some 33) (.st 14) [(.r 31), (.r 32)])),
      .it (.one (.mov 5 (.r 30))),
      .it (.one (.mov 6 (.r 33)))]) .skip)))
          /- R4 -/ (.ops [.it (.one (.mov 12 (.r 7))),
      .it (.one (.bin 13 .add (.r 12) (.c (.int .i64 (1))))),
      .it (.one (.mov 7 (.r 13)))])))))))
     (.seq
      /- R7 -/ (.ops [.it (.one (.mov 34 (.r 5))),
      .it (.one (.mov 4 (.r 34)))]) .ret))))
theorem A12_ok : okFun Try.prog 12 35 0 A12 [.tmp 4] [] = true := by kernel_rfl
/-- (*dyehouse/dom.Tree).Depth -/
def A13 : ACode :=
  (.seq
   /- R0 -/ (.ops [.it (.one (.mov 4 (.c (.int .i64 (0)))))])
   (.seq
    /- R1 -/ (.ops [.it (.one (.mov 5 (.r 0))),
      .it (.one (.mov 6 (.r 1))),
      .it (.one (.callf (some 7) (.st 20) [(.r 5), (.r 6)])),
      .it (.one (.len 8 (.r 7))),
      .it (.one (.mov 4 (.r 8)))]) .ret))
theorem A13_ok : okFun Try.prog 13 9 0 A13 [.tmp 4] [] = true := by kernel_rfl
/-- dyehouse/dyehouseref20.Count -/
def A14 : ACode :=
  (.seq
   /- R0 -/ (.ops [.it (.one (.mov 4 (.c (.int .i64 (0)))))])
   (.seq
    /- R1 -/ (.ops [.it (.one (.mov 5 (.c (.int .i64 (0)))))])
    (.seq
     (.seq
      /- R2 -/ (.ops [.it (.one (.mov 6 (.c (.int .i64 (0)))))])
      (.block 0
       (.loop (.pre (.mv [0, 1, 5, 6] [])
        (.seq
         (.seq
          /- R3 -/ (.ops [.it (.one (.mov 7 (.r 6))),
      .it (.one (.mov 8 (.r 0))),
      .it (.one (.len 9 (.r 8))),
      .it (.one (.bin 10 .lss (.r 7) (.r 9)))])
          (.cond (.r 10) .skip (.exit 0)))
         (.seq
          (.block 1
           (.seq
            /- R5 -/ (.ops [.it (.one (.mov 13 (.r 0))),
      .it (.one (.mov 14 (.r 6))),
      .it (.one (.mov 15 (.r 1))),
      .it (.one (.callf (some 16) (.st 18) [(.r 13), (.r 14), (.r 15)]))])
            (.cond (.r 16)
             /- R6 -/ (.ops [.it (.one (.mov 17 (.r 5))),
      .it (.one (.bin 18 .add (.r 17) (.c (.int .i64 (1))))),
      .it (.one (.mov 5 (.r 18)))]) .skip)))
          /- R4 -/ (.ops [.it (.one (.mov 11 (.r 6))),
      .it (.one (.bin 12 .add (.r 11) (.c (.int .i64 (1))))),
      .it (.one (.mov 6 (.r 12)))])))))))
     (.seq
      /- R7 -/ (.ops [.it (.one (.mov 19 (.r 5))),
      .it (.one (.mov 4 (.r 19)))]) .ret))))
theorem A14_ok : okFun Try.prog 14 20 0 A14 [.tmp 4] [] = true := by kernel_rfl
/-- (*dyehouse/dom.Tree).Below -/
def A15 : ACode :=
  (.seq
   /- R0 -/ (.ops [.it (.one (.mov 4 (.c (.nilp))))])
   (.seq
    (.seq
     /- R1 -/ (.ops [.it (.one (.mov 10 (.r 0))),
      .it (.one (.eq 11 false .nil (.r 10) (.c (.nilp))))])
     (.cond (.r 11)
      (.seq
       /- R2 -/ (.post (.post (.ops [.it (.one (.callo (some 12) (.st 36) [(.c (.int .i64 (0)))] [] [60, 61])),
      .it (.one (.mov 4 (.r 12)))]) (.frz 61)) (.frz 60)) .ret) .skip))
    (.seq
     /- R3 -/ (.ops [.it (.one (.mov 13 (.r 0))),
      .it (.one (.nilc 14 (.r 13))),
      .it (.one (.fad 15 (.r 14) 0)),
      .it (.one (.load 16 (.r 15) 1 false)),
      .it (.one (.len 17 (.r 16))),
      .it (.one (.callo (some 18) (.st 36) [(.r 17)] [] [60, 61])),
      .it (.one (.mov 5 (.r 18)))])
     (.seq
      /- R4 -/ (.ops [.it (.one (.alloca 6 6 1006 1))])
      (.seq
       /- R5 -/ (.ops [.it (.one (.mkfn 19 37 [(.r 6)])),
      .it (.one (.mov 7 (.r 19)))])
       (.seq
        (.seq
         /- R6 -/ (.ops [.it (.one (.mov 20 (.r 0))),
      .it (.one (.mov 21 (.r 1))),
      .it (.one (.callf (some 22) (.st 35) [(.r 20), (.r 21)]))])
         (.cond (.r 22)
          /- R7 -/ (.ops [.it (.one (.mov 23 (.r 7))),
      .it (.one (.mov 24 (.r 1))),
      .it (.one (.bslp 25 1 [(.r 24)])),
      .it (.one (.callo (some 26) (.dy (.r 23)) [(.r 25)] [6, 1006] []))]) .skip))
        (.seq
         /- R8 -/ (.ops [.it (.one (.mov 27 (.r 0))),
      .it (.one (.mkmv 28 16 [(.r 27)])),
      .it (.one (.mov 8 (.r 28)))])
         (.seq
          (.block 0
           (.loop (.pre (.mv [5, 6, 7, 8] [(6, 6), (60, 60), (61, 61), (1006, 1006)])
            (.seq
             (.seq
              /- R9 -/ (.ops [.it (.one (.load 29 (.r 6) 1 false)),
      .it (.one (.len 30 (.r 29))),
      .it (.one (.bin 31 .gtr (.r 30) (.c (.int .i64 (0)))))])
              (.cond (.r 31) .skip (.exit 0)))
             (.block 1
              (.seq
               /- R10 -/ (.ops [.it (.one (.load 32 (.r 6) 1 false)),
      .it (.one (.idx 33 (.r 32) (.c (.int .i64 (0))) 1)),
      .it (.one (.load 34 (.r 33) 1 false)),
      .it (.one (.mov 9 (.r 34)))])
               (.seq
                /- R11 -/ (.ops [.it (.one (.load 35 (.r 6) 1 false)),
      .it (.one (.slc 36 (.r 35) (some (.c (.int .i64 (1)))) none 1)),
      .it (.one (.store (.r 6) (.r 36) 1))])
                (.seq
                 /- R12 -/ (.ops [.it (.one (.mov 37 (.r 5))),
      .it (.one (.mov 38 (.r 9))),
      .it (.one (.callo (some 39) (.st 38) [(.r 37), (.r 38)] [60, 61] []))])
                 /- R13 -/ (.ops [.it (.one (.mov 40 (.r 7))),
      .it (.one (.mov 41 (.r 8))),
      .it (.one (.mov 42 (.r 9))),
      .it (.one (.callf (some 43) (.dy (.r 41)) [(.r 42)])),
      .it (.one (.callo (some 44) (.dy (.r 40)) [(.r 43)] [6, 1006] []))])))))))))
          (.seq
           /- R14 -/ (.post (.post (.ops [.it (.one (.mov 45 (.r 5))),
      .it (.one (.mov 4 (.r 45)))]) (.frz 61)) (.frz 60)) .ret)))))))))
theorem A15_ok : okFun Try.prog 15 46 0 A15 [.tmp 4] [] = true := by kernel_rfl
/-- (*dyehouse/dom.Tree).Kids -/
def A16 : ACode :=
  (.seq
   /- R0 -/ (.ops [.it (.one (.mov 4 (.c (.sl []))))])
   (.seq
    /- R1 -/ (.ops [.it (.one (.nilarr 5 5 1))])
    (.seq
     (.seq
      /- R2 -/ (.ops [.it (.one (.mov 8 (.r 0))),
      .it (.one (.mov 9 (.r 1))),
      .it (.one (.callf (some 10) (.st 35) [(.r 8), (.r 9)])),
      .it (.one (.un 11 .not (.r 10)))])
      (.cond (.r 11)
       (.seq
        /- R3 -/ (.ops [.it (.one (.mov 4 (.c (.sl []))))]) .ret) .skip))
     (.seq
      (.seq
       /- R4 -/ (.ops [.it (.one (.mov 12 (.r 0))),
      .it (.one (.nilc 13 (.r 12))),
      .it (.one (.fad 14 (.r 13) 0)),
      .it (.one (.load 15 (.r 14) 1 false)),
      .it (.one (.len 16 (.r 15))),
      .it (.one (.mov 17 (.c (.int .i64 (0)))))])
       (.block 0
        (.loop (.pre (.mv [1, 5, 15, 16, 17] [(5, 5)])
         (.seq
          /- R5 -/ (.ops [.it (.one (.bin 18 .lss (.r 17) (.r 16)))])
          (.seq
           (.cond (.r 18) .skip (.exit 0))
           (.seq
            (.block 1
             (.seq
              /- R6 -/ (.ops [.it (.one (.mov 19 (.r 17))),
      .it (.one (.idx 20 (.r 15) (.r 17) 1)),
      .it (.one (.load 21 (.r 20) 1 false)),
      .it (.one (.mov 6 (.r 19))),
      .it (.one (.mov 7 (.r 21)))])
              (.seq
               /- R7 -/ (.ops [.it (.one (.mov 22 (.r 7))),
      .it (.one (.mov 23 (.r 1))),
      .it (.one (.bin 24 .eql (.r 22) (.r 23)))])
               (.cond (.r 24)
                /- R8 -/ (.ops [.it (.one (.mov 25 (.r 5))),
      .it (.one (.mov 26 (.r 6))),
      .it (.one (.bslp 27 1 [(.r 26)])),
      .it (.one (.appd 28 (.r 25) (.r 27) 1 8)),
      .it (.one (.mov 5 (.r 28)))]) .skip))))
            /- R9 -/ (.ops [.it (.one (.bin 29 .add (.r 17) (.c (.int .i64 (1))))),
      .it (.one (.mov 17 (.r 29)))]))))))))
      (.seq
       /- R10 -/ (.post (.ops [.it (.one (.mov 30 (.r 5))),
      .it (.one (.mov 4 (.r 30)))]) (.frz 5)) .ret)))))
theorem A16_ok : okFun Try.prog 16 31 0 A16 [.tmp 4] [] = true := by kernel_rfl
/-- (*dyehouse/dom.Tree).Is -/
def A17 : ACode :=
  (.seq
   /- R0 -/ (.ops [.it (.one (.mov 6 (.c (.bool false))))])
   (.seq
    /- R1 -/ (.ops [.it (.one (.mov 7 (.r 0))),
      .it (.one (.mov 8 (.r 2))),
      .it (.one (.callf (some 9) (.st 20) [(.r 7), (.r 8)])),
      .it (.one (.mov 10 (.r 1))),
      .it (.one (.callf (some 11) (.st 34) [(.r 9), (.r 10)])),
      .it (.one (.mov 6 (.r 11)))]) .ret))
theorem A17_ok : okFun Try.prog 17 12 0 A17 [.tmp 6] [] = true := by kernel_rfl
/-- dyehouse/dyehouseref20.Is -/
def A18 : ACode :=
  (.seq
   /- R0 -/ (.ops [.it (.one (.mov 6 (.c (.bool false))))])
   (.seq
    (.seq
     /- R1 -/ (.ops [.it (.one (.mov 7 (.r 1))),
      .it (.one (.bin 8 .lss (.r 7) (.c (.int .i64 (0))))),
      .it (.one (.mov 9 (.r 8))),
      .it (.grp 9 false [.mov 10 (.r 2), .bin 11 .lss (.r 10) (.c (.int .i64 (0)))]),
      .it (.one (.pick 12 (.r 9) (.c (.bool true)) (.r 11))),
      .it (.one (.mov 13 (.r 12))),
      .it (.grp 13 false [.mov 14 (.r 1), .mov 15 (.r 0), .len 16 (.r 15), .bin 17 .geq (.r 14) (.r 16)]),
      .it (.one (.pick 18 (.r 13) (.c (.bool true)) (.r 17))),
      .it (.one (.mov 19 (.r 18))),
      .it (.grp 19 false [.mov 20 (.r 2), .mov 21 (.r 0), .len 22 (.r 21), .bin 23 .geq (.r 20) (.r 22)]),
      .it (.one (.pick 24 (.r 19) (.c (.bool true)) (.r 23))),
      .it (.one (.mov 25 (.r 24))),
      .it (.grp 25 false [.mov 26 (.r 0), .callf (some 27) (.st 21) [(.r 26), (.c (.int .i64 (0))), (.c (.int .i64 (-1)))], .mov 28 (.r 2), .idx 29 (.r 27) (.r 28) 1, .load 30 (.r 29) 1 false, .un 31 .not (.r 30)]),
      .it (.one (.pick 32 (.r 25) (.c (.bool true)) (.r 31)))])
     (.cond (.r 32)
      (.seq
       /- R2 -/ (.ops [.it (.one (.mov 6 (.c (.bool false))))]) .ret) .skip))
    (.seq
     /- R3 -/ (.ops [.it (.one (.mov 33 (.r 1))),
      .it (.one (.mov 34 (.r 2))),
      .it (.one (.bin 35 .eql (.r 33) (.r 34))),
      .it (.one (.mov 36 (.r 35))),
      .it (.grp 36 false [.mov 37 (.r 0), .mov 38 (.r 1), .callf (some 39) (.st 21) [(.r 37), (.c (.int .i64 (0))), (.r 38)], .mov 40 (.r 2), .idx 41 (.r 39) (.r 40) 1, .load 42 (.r 41) 1 false, .un 43 .not (.r 42)]),
      .it (.one (.pick 44 (.r 36) (.c (.bool true)) (.r 43))),
      .it (.one (.mov 6 (.r 44)))]) .ret)))
theorem A18_ok : okFun Try.prog 18 45 0 A18 [.tmp 6] [] = true := by kernel_rfl
/-- (*dyehouse/bits.Set).Has -/
def A19 : ACode :=
  (.seq
   /- R0 -/ (.ops [.it (.one (.mov 4 (.c (.bool false))))])
   (.seq
    /- R1 -/ (.ops [.it (.one (.mov 5 (.r 0))),
      .it (.one (.mov 6 (.r 1))),
      .it (.one (.callb (some 7) (.st 39) [(.r 5), (.r 6)])),
      .it (.one (.mov 8 (.r 7))),
      .it (.grp 8 true [.mov 9 (.r 0), .nilc 10 (.r 9), .fad 11 (.r 10) 1, .load 12 (.r 11) 1 false, .mov 13 (.r 1), .bin 14 .quo (.r 13) (.c (.int .i64 (64))), .idx 15 (.r 12) (.r 14) 1, .load 16 (.r 15) 1 false, .mov 17 (.r 1), .bin 18 .rem (.r 17) (.c (.int .i64 (64))), .bin 19 .shr (.r 16) (.r 18), .bin 20 .and (.r 19) (.c (.int .u64 (1))), .bin 21 .eql (.r 20) (.c (.int .u64 (1)))]),
      .it (.one (.pick 22 (.r 8) (.r 21) (.c (.bool false)))),
      .it (.one (.mov 4 (.r 22)))]) .ret))
theorem A19_ok : okFun Try.prog 19 23 0 A19 [.tmp 4] [] = true := by kernel_rfl
/-- (*dyehouse/dom.Tree).Over -/
def A20 : ACode :=
  (.seq
   /- R0 -/ (.ops [.it (.one (.mov 4 (.c (.sl []))))])
   (.seq
    /- R1 -/ (.ops [.it (.one (.nilarr 5 5 1))])
    (.seq
     (.block 0
      (.loop (.pre (.mv [0, 1, 5] [(5, 5)])
       (.seq
        (.seq
         /- R2 -/ (.ops [.it (.one (.mov 6 (.r 0))),
      .it (.one (.mov 7 (.r 1))),
      .it (.one (.callf (some 8) (.st 35) [(.r 6), (.r 7)]))])
         (.cond (.r 8) .skip (.exit 0)))
        (.seq
         (.block 1
          /- R4 -/ (.ops [.it (.one (.mov 12 (.r 5))),
      .it (.one (.mov 13 (.r 1))),
      .it (.one (.bslp 14 1 [(.r 13)])),
      .it (.one (.appd 15 (.r 12) (.r 14) 1 8)),
      .it (.one (.mov 5 (.r 15)))]))
         /- R3 -/ (.ops [.it (.one (.mov 9 (.r 0))),
      .it (.one (.mov 10 (.r 1))),
      .it (.one (.callf (some 11) (.st 11) [(.r 9), (.r 10)])),
      .it (.one (.mov 1 (.r 11)))]))))))
     (.seq
      /- R5 -/ (.post (.ops [.it (.one (.mov 16 (.r 5))),
      .it (.one (.mov 4 (.r 16)))]) (.frz 5)) .ret))))
theorem A20_ok : okFun Try.prog 20 17 0 A20 [.tmp 4] [] = true := by kernel_rfl
/-- dyehouse/dyehouseref19.Reach -/
def A21 : ACode :=
  (.seq
   /- R0 -/ (.ops [.it (.one (.mov 6 (.c (.sl []))))])
   (.seq
    /- R1 -/ (.ops [.it (.one (.mov 11 (.r 0))),
      .it (.one (.len 12 (.r 11))),
      .it (.one (.make 13 13 1 1 [.bool false] (.r 12) (.r 12))),
      .it (.one (.mov 7 (.r 13)))])
    (.seq
     (.seq
      /- R2 -/ (.ops [.it (.one (.mov 14 (.r 1))),
      .it (.one (.bin 15 .lss (.r 14) (.c (.int .i64 (0))))),
      .it (.one (.mov 16 (.r 15))),
      .it (.grp 16 false [.mov 17 (.r 1), .mov 18 (.r 0), .len 19 (.r 18), .bin 20 .geq (.r 17) (.r 19)]),
      .it (.one (.pick 21 (.r 16) (.c (.bool true)) (.r 20))),
      .it (.one (.mov 22 (.r 21))),
      .it (.grp 22 false [.mov 23 (.r 1), .mov 24 (.r 2), .bin 25 .eql (.r 23) (.r 24)]),
      .it (.one (.pick 26 (.r 22) (.c (.bool true)) (.r 25)))])
      (.cond (.r 26)
       (.seq
        /- R3 -/ (.post (.ops [.it (.one (.mov 27 (.r 7))),
      .it (.one (.mov 6 (.r 27)))]) (.frz 13)) .ret) .skip))
     (.seq
      /- R4 -/ (.ops [.it (.one (.mov 28 (.r 7))),
      .it (.one (.mov 29 (.r 1))),
      .it (.one (.idx 30 (.r 28) (.r 29) 1)),
      .it (.one (.store (.r 30) (.c (.bool true)) 1))])
      (.seq
       (.seq
        /- R5 -/ (.ops [.it (.one (.mov 8 (.c (.int .i64 (0)))))])
        (.block 0
         (.loop (.pre (.mv [0, 2, 7, 8] [(13, 13)])
          (.seq
           (.seq
            /- R6 -/ (.ops [.it (.one (.mov 31 (.r 8))),
      .it (.one (.mov 32 (.r 0))),
      .it (.one (.len 33 (.r 32))),
      .it (.one (.bin 34 .lss (.r 31) (.r 33)))])
            (.cond (.r 34) .skip (.exit 0)))
           (.seq
            (.block 1
             (.seq
              /- R8 -/ (.ops [.it (.one (.mov 9 (.c (.int .i64 (0)))))])
              (.block 2
               (.loop (.pre (.mv [0, 2, 7, 8, 9] [(13, 13)])
                (.seq
                 (.seq
                  /- R9 -/ (.ops [.it (.one (.mov 37 (.r 9))),
      .it (.one (.mov 38 (.r 0))),
      .it (.one (.len 39 (.r 38))),
      .it (.one (.bin 40 .lss (.r 37) (.r 39)))])
                  (.cond (.r 40) .skip (.exit 2)))
                 (.seq
                  (.block 3
                   (.seq
                    /- R11 -/ (.ops [.it (.one (.mov 10 (.c (.int .i64 (0)))))])
                    (.block 4
                     (.loop (.pre (.mv [0, 2, 7, 8, 9, 10] [(13, 13)])
                      (.seq
                       (.seq
                        /- R12 -/ (.ops [.it (.one (.mov 43 (.r 7))),
      .it (.one (.mov 44 (.r 9))),
      .it (.one (.idx 45 (.r 43) (.r 44) 1)),
      .it (.one (.load 46 (.r 45) 1 false)),
      .it (.one (.mov 47 (.r 46))),
      .it (.grp 47 true [.mov 48 (.r 10), .mov 49 (.r 0), .mov 50 (.r 9), .idx 51 (.r 49) (.r 50) 1, .load 52 (.r 51) 1 false, .len 53 (.r 52), .bin 54 .lss (.r 48) (.r 53)]),
      .it (.one (.pick 55 (.r 47) (.r 54) (.c (.bool false))))])
                        (.cond (.r 55) .skip (.exit 4)))
                       (.seq
                        (.block 5
                         (.seq
                          /- R14 -/ (.ops [.it (.one (.mov 58 (.r 0))),
      .it (.one (.mov 59 (.r 9))),
      .it (.one (.idx 60 (.r 58) (.r 59) 1)),
      .it (.one (.load 61 (.r 60) 1 false)),
      .it (.one (.mov 62 (.r 10))),
      .it (.one (.idx 63 (.r 61) (.r 62) 1)),
      .it (.one (.load 64 (.r 63) 1 false)),
      .it (.one (.mov 65 (.r 2))),
      .it (.one (.bin 66 .neq (.r 64) (.r 65)))])
                          (.cond (.r 66)
                           /- R15 -/ (.ops [.it (.one (.mov 67 (.r 7))),
      .it (.one (.mov 68 (.r 0))),
      .it (.one (.mov 69 (.r 9))),
      .it (.one (.idx 70 (.r 68) (.r 69) 1)),
      .it (.one (.load 71 (.r 70) 1 false)),
      .it (.one (.mov 72 (.r 10))),
      .it (.one (.idx 73 (.r 71) (.r 72) 1)),
      .it (.one (.load 74 (.r 73) 1 false)),
      .it (.one (.idx 75 (.r 67) (.r 74) 1)),
      .it (.one (.store (.r 75) (.c (.bool true)) 1))]) .skip)))
                        /- R13 -/ (.ops [.it (.one (.mov 56 (.r 10))),
      .it (.one (.bin 57 .add (.r 56) (.c (.int .i64 (1))))),
      .it (.one (.mov 10 (.r 57)))]))))))))
                  /- R10 -/ (.ops [.it (.one (.mov 41 (.r 9))),
      .it (.one (.bin 42 .add (.r 41) (.c (.int .i64 (1))))),
      .it (.one (.mov 9 (.r 42)))]))))))))
            /- R7 -/ (.ops [.it (.one (.mov 35 (.r 8))),
      .it (.one (.bin 36 .add (.r 35) (.c (.int .i64 (1))))),
      .it (.one (.mov 8 (.r 36)))])))))))
       (.seq
        /- R16 -/ (.post (.ops [.it (.one (.mov 76 (.r 7))),
      .it (.one (.mov 6 (.r 76)))]) (.frz 13)) .ret))))))
theorem A21_ok : okFun Try.prog 21 77 0 A21 [.tmp 6] [] = true := by kernel_rfl
/-- dyehouse/dyehouseref12.Many -/
def A22 : ACode :=
  (.seq
   /- R0 -/ (.ops [.it (.one (.boxp 1 (.r 0))),
      .it (.one (.mov 2 (.c (.bool false))))])
   (.seq
    /- R1 -/ (.ops [.it (.one (.mov 3 (.c (.int .i64 (0)))))])
    (.seq
     (.seq
      /- R2 -/ (.ops [.it (.one (.mov 4 (.c (.int .i64 (0)))))])
      (.block 0
       (.loop (.pre (.mv [1, 3, 4] [])
        (.seq
         (.seq
          /- R3 -/ (.ops [.it (.one (.mov 5 (.r 4))),
      .it (.one (.fad 6 (.r 1) 3)),
      .it (.one (.load 7 (.r 6) 1 false)),
      .it (.one (.len 8 (.r 7))),
      .it (.one (.bin 9 .lss (.r 5) (.r 8)))])
          (.cond (.r 9) .skip (.exit 0)))
         (.seq
          (.block 1
           /- R5 -/ (.ops [.it (.one (.mov 12 (.r 3))),
      .it (.one (.bin 13 .add (.r 12) (.c (.int .i64 (1))))),
      .it (.one (.fad 14 (.r 1) 3)),
      .it (.one (.load 15 (.r 14) 1 false)),
      .it (.one (.mov 16 (.r 4))),
      .it (.one (.idx 17 (.r 15) (.r 16) 5)),
      .it (.one (.fad 18 (.r 17) 0)),
      .it (.one (.load 19 (.r 18) 1 false)),
      .it (.one (.len 20 (.r 19))),
      .it (.one (.bin 21 .add (.r 13) (.r 20))),
      .it (.one (.mov 3 (.r 21)))]))
          /- R4 -/ (.ops [.it (.one (.mov 10 (.r 4))),
      .it (.one (.bin 11 .add (.r 10) (.c (.int .i64 (1))))),
      .it (.one (.mov 4 (.r 11)))])))))))
     (.seq
      /- R6 -/ (.ops [.it (.one (.fad 22 (.r 1) 3)),
      .it (.one (.load 23 (.r 22) 1 false)),
      .it (.one (.len 24 (.r 23))),
      .it (.one (.bin 25 .gtr (.r 24) (.c (.int .i64 (9))))),
      .it (.one (.mov 26 (.r 25))),
      .it (.grp 26 false [.mov 27 (.r 3), .bin 28 .gtr (.r 27) (.c (.int .i64 (60)))]),
      .it (.one (.pick 29 (.r 26) (.c (.bool true)) (.r 28))),
      .it (.one (.mov 2 (.r 29)))]) .ret))))
theorem A22_ok : okFun Try.prog 22 30 0 A22 [.tmp 2] [] = true := by kernel_rfl
/-- dyehouse/dyehouseref12.Make -/
def A23 : ACode :=
  (.seq
   /- R0 -/ (.ops [.it (.one (.boxp 1 (.r 0))),
      .it (.one (.alloc 2 2 [.bool false, .str .empty, .sl [], .sl [], .sl []]))])
   (.seq
    /- R1 -/ (.post (.post (.post (.post (.post (.post (.ops [.it (.one (.build 17 [.bool false, .str .empty, .yl 0, .yl 0, .yl 0] [(1, 1, (.c (.str ⟨#[102]⟩)))])),
      .it (.one (.build 18 [.bool false, .str .empty, .yl 0, .yl 0, .yl 0, .yl 0, .yl 0, .yl 0] [(0, 5, (.r 17))])),
      .it (.one (.boxg 19 19 (.r 18))),
      .it (.one (.mov 3 (.r 19)))]) (.nilb 19 2 1002 2)) (.nilb 19 3 1003 4)) (.nilb 19 4 1004 4)) (.nilb 19 5 1005 1)) (.nilb 19 6 1006 1)) (.nilb 19 7 1007 1))
    (.seq
     /- R2 -/ (.post (.ops [.it (.one (.fad 20 (.r 1) 0)),
      .it (.one (.load 21 (.r 20) 1 false)),
      .it (.one (.conv 22 .i64 (.r 21))),
      .it (.one (.bin 23 .rem (.r 22) (.c (.int .i64 (6))))),
      .it (.one (.bin 24 .add (.c (.int .i64 (1))) (.r 23))),
      .it (.one (.fad 25 (.r 1) 1)),
      .it (.one (.load 26 (.r 25) 1 false)),
      .it (.one (.conv 27 .i64 (.r 26))),
      .it (.one (.bin 28 .rem (.r 27) (.c (.int .i64 (3))))),
      .it (.one (.bin 29 .add (.c (.int .i64 (1))) (.r 28))),
      .it (.one (.build 30 [.int .i64 0, .int .i64 0] [(0, 1, (.r 24)), (1, 1, (.r 29))])),
      .it (.one (.alloc 4 4 [.int .i64 0, .int .i64 0])),
      .it (.one (.store (.r 4) (.r 30) 2))]) (.frz 4))
     (.seq
      (.seq
       /- R3 -/ (.ops [.it (.one (.mov 5 (.c (.int .i64 (0)))))])
       (.block 0
        (.loop (.pre (.mv [1, 2, 3, 4, 5] [(2, 2), (19, 19), (1002, 1002), (1003, 1003), (1004, 1004), (1005, 1005), (1006, 1006), (1007, 1007)])
         (.seq
          (.seq
           /- R4 -/ (.ops [.it (.one (.mov 31 (.r 5))),
      .it (.one (.bin 32 .lss (.r 31) (.c (.int .i64 (2)))))])
           (.cond (.r 32) .skip (.exit 0)))
          (.seq
           (.block 1
            (.seq
             /- R6 -/ (.ops [.it (.one (.mov 6 (.c (.int .i64 (0)))))])
             (.block 2
              (.loop (.pre (.mv [1, 2, 3, 4, 5, 6] [(2, 2), (19, 19), (1002, 1002), (1003, 1003), (1004, 1004), (1005, 1005), (1006, 1006), (1007, 1007)])
               (.seq
                (.seq
                 /- R7 -/ (.ops [.it (.one (.mov 35 (.r 6))),
      .it (.one (.mov 36 (.r 5))),
      .it (.one (.aix 37 (.r 4) (.r 36) 1 2)),
      .it (.one (.load 38 (.r 37) 1 false)),
      .it (.one (.bin 39 .lss (.r 35) (.r 38)))])
                 (.cond (.r 39) .skip (.exit 2)))
                (.seq
                 (.block 3
                  /- R9 -/ (.draw [[], [], [], [], [2], [2, 4], [2, 3, 4, 5], [2, 3, 4, 5, 6], [], [8], [], [8, 9, 10], [8, 9, 10, 11], [2, 3, 4, 5, 6, 7, 8, 9, 10, 11, 12], [0], [0, 14], [0, 1, 2, 3, 4, 5, 6, 7, 8, 9, 10, 11, 12, 13, 14, 15], [0, 1, 2, 3, 4, 5, 6, 7, 8, 9, 10, 11, 12, 13, 14, 15, 16]] [.one (.mov 42 (.r 3)),
      .one (.mov 43 (.r 5)),
      .one (.mov 44 (.r 3)),
      .one (.mov 45 (.r 5)),
      .one (.nilc 46 (.r 44)),
      .one (.fad 47 (.r 46) 5),
      .one (.aix 48 (.r 47) (.r 45) 1 2),
      .one (.load 49 (.r 48) 1 false),
      .one (.mov 50 (.r 6)),
      .one (.bin 51 .mul (.c (.int .i64 (2))) (.r 50)),
      .one (.mov 52 (.r 5)),
      .one (.bin 53 .add (.r 51) (.r 52)),
      .one (.bslp 54 1 [(.r 53)]),
      .one (.appd 55 (.r 49) (.r 54) 1 8),
      .one (.nilc 56 (.r 42)),
      .one (.fad 57 (.r 56) 5),
      .one (.aix 58 (.r 57) (.r 43) 1 2),
      .one (.store (.r 58) (.r 55) 1)]))
                 /- R8 -/ (.ops [.it (.one (.mov 40 (.r 6))),
      .it (.one (.bin 41 .add (.r 40) (.c (.int .i64 (1))))),
      .it (.one (.mov 6 (.r 41)))]))))))))
           /- R5 -/ (.ops [.it (.one (.mov 33 (.r 5))),
      .it (.one (.bin 34 .add (.r 33) (.c (.int .i64 (1))))),
      .it (.one (.mov 5 (.r 34)))])))))))
      (.seq
       (.seq
        /- R10 -/ (.ops [.it (.one (.mov 7 (.c (.int .i64 (0)))))])
        (.block 4
         (.loop (.pre (.mv [1, 2, 3, 4, 7] [(2, 2), (19, 19), (1002, 1002), (1003, 1003), (1004, 1004), (1005, 1005), (1006, 1006), (1007, 1007)])
          (.seq
           (.seq
            /- R11 -/ (.ops [.it (.one (.mov 59 (.r 7))),
      .it (.one (.bin 60 .lss (.r 59) (.c (.int .i64 (12)))))])
            (.cond (.r 60) .skip (.exit 4)))
           (.seq
            (.block 5
             (.seq
              /- R13 -/ (.ops [.it (.one (.mov 63 (.r 7))),
      .it (.one (.bin 64 .rem (.r 63) (.c (.int .i64 (2))))),
      .it (.one (.mov 8 (.r 64)))])
              (.seq
               /- R14 -/ (.ops [.it (.one (.mov 65 (.r 7))),
      .it (.one (.bin 66 .quo (.r 65) (.c (.int .i64 (2))))),
      .it (.one (.mov 67 (.r 8))),
      .it (.one (.aix 68 (.r 4) (.r 67) 1 2)),
      .it (.one (.load 69 (.r 68) 1 false)),
      .it (.one (.bin 70 .lss (.r 66) (.r 69)))])
               (.cond (.r 70)
                /- R15 -/ (.ops [.it (.one (.mov 71 (.r 3))),
      .it (.one (.mov 72 (.r 3))),
      .it (.one (.nilc 73 (.r 72))),
      .it (.one (.fad 74 (.r 73) 0)),
      .it (.one (.fad 75 (.r 74) 2)),
      .it (.one (.load 76 (.r 75) 1 false)),
      .it (.one (.mov 77 (.r 7))),
      .it (.one (.mov 78 (.r 8))),
      .it (.one (.build 79 [.int .i64 0, .int .i64 0] [(0, 1, (.r 77)), (1, 1, (.r 78))])),
      .it (.one (.bslp 80 2 [(.r 79)])),
      .it (.one (.appd 81 (.r 76) (.r 80) 2 16)),
      .it (.one (.nilc 82 (.r 71))),
      .it (.one (.fad 83 (.r 82) 0)),
      .it (.one (.fad 84 (.r 83) 2)),
      .it (.one (.store (.r 84) (.r 81) 1))]) .skip))))
            /- R12 -/ (.ops [.it (.one (.mov 61 (.r 7))),
      .it (.one (.bin 62 .add (.r 61) (.c (.int .i64 (1))))),
      .it (.one (.mov 7 (.r 62)))])))))))
       (.seq
        /- R16 -/ (.ops [.it (.one (.nilarr 9 9 10))])
        (.seq
         (.seq
          /- R17 -/ (.ops [.it (.one (.mov 10 (.c (.int .i64 (0)))))])
          (.block 6
           (.loop (.pre (.mv [1, 2, 3, 9, 10] [(2, 2), (9, 9), (19, 19), (1002, 1002), (1003, 1003), (1004, 1004), (1005, 1005), (1006, 1006), (1007, 1007)])
            (.seq
             (.seq
              /- R18 -/ (.ops [.it (.one (.mov 85 (.r 10))),
      .it (.one (.mov 86 (.r 3))),
      .it (.one (.nilc 87 (.r 86))),
      .it (.one (.fad 88 (.r 87) 0)),
      .it (.one (.fad 89 (.r 88) 2)),
      .it (.one (.load 90 (.r 89) 1 false)),
      .it (.one (.len 91 (.r 90))),
      .it (.one (.bin 92 .lss (.r 85) (.r 91)))])
              (.cond (.r 92) .skip (.exit 6)))
             (.seq
              (.block 7
               (.seq
                /- R20 -/ (.ops [.it (.one (.mov 95 (.r 3))),
      .it (.one (.nilc 96 (.r 95))),
      .it (.one (.fad 97 (.r 96) 0)),
      .it (.one (.fad 98 (.r 97) 2)),
      .it (.one (.load 99 (.r 98) 1 false)),
      .it (.one (.mov 100 (.r 10))),
      .it (.one (.idx 101 (.r 99) (.r 100) 2)),
      .it (.one (.fad 102 (.r 101) 0)),
      .it (.one (.load 103 (.r 102) 1 false)),
      .it (.one (.mov 11 (.r 103)))])
                (.seq
                 /- R21 -/ (.draw [[], [], [1], [1, 2], [], [4], [4, 5], [4, 5, 6], [4, 5, 6, 7], [4, 5, 6, 7, 8], [4, 5, 6, 7, 8, 9], [1, 2, 3, 4, 5, 6, 7, 8, 9, 10], [0, 1, 2, 3, 4, 5, 6, 7, 8, 9, 10, 11]] [.one (.mov 104 (.r 10)),
      .one (.fad 105 (.r 1) 2),
      .one (.load 106 (.r 105) 1 false),
      .one (.conv 107 .i64 (.r 106)),
      .one (.mov 108 (.r 3)),
      .one (.nilc 109 (.r 108)),
      .one (.fad 110 (.r 109) 0),
      .one (.fad 111 (.r 110) 2),
      .one (.load 112 (.r 111) 1 false),
      .one (.len 113 (.r 112)),
      .one (.bin 114 .add (.r 113) (.c (.int .i64 (1)))),
      .one (.bin 115 .rem (.r 107) (.r 114)),
      .one (.bin 116 .lss (.r 104) (.r 115))])
                 (.cond (.r 116)
                  (.seq
                   /- R22 -/ (.draw [[], [], [1], [1, 2], [1, 2, 3], [1, 2, 3, 4], [], [6], [6, 7], [1, 2, 3, 4, 5, 6, 7, 8], [0, 1, 2, 3, 4, 5, 6, 7, 8, 9], [0, 1, 2, 3, 4, 5, 6, 7, 8, 9, 10], [0, 1, 2, 3, 4, 5, 6, 7, 8, 9, 10, 11], [0, 1, 2, 3, 4, 5, 6, 7, 8, 9, 10, 11, 12]] [.one (.mov 117 (.r 3)),
      .one (.mov 118 (.r 3)),
      .one (.nilc 119 (.r 118)),
      .one (.fad 120 (.r 119) 0),
      .one (.fad 121 (.r 120) 3),
      .one (.load 122 (.r 121) 1 false),
      .one (.mov 123 (.r 11)),
      .one (.callf (some 124) (.st 40) [(.r 123)]),
      .one (.bslp 125 4 [(.r 124)]),
      .one (.appd 126 (.r 122) (.r 125) 4 32),
      .one (.nilc 127 (.r 117)),
      .one (.fad 128 (.r 127) 0),
      .one (.fad 129 (.r 128) 3),
      .one (.store (.r 129) (.r 126) 1)])
                   /- R23 -/ (.ops [.it (.one (.mov 130 (.r 3))),
      .it (.one (.mov 131 (.r 3))),
      .it (.one (.nilc 132 (.r 131))),
      .it (.one (.fad 133 (.r 132) 7)),
      .it (.one (.load 134 (.r 133) 1 false)),
      .it (.one (.mov 135 (.r 11))),
      .it (.one (.bslp 136 1 [(.r 135)])),
      .it (.one (.appd 137 (.r 134) (.r 136) 1 8)),
      .it (.one (.nilc 138 (.r 130))),
      .it (.one (.fad 139 (.r 138) 7)),
      .it (.one (.store (.r 139) (.r 137) 1))]))
                  (.seq
                   /- R24 -/ (.ops [.it (.one (.mov 140 (.r 10))),
      .it (.one (.bin 141 .lss (.r 140) (.c (.int .i64 (2))))),
      .it (.one (.mov 142 (.r 141))),
      .it (.grp 142 false [.mov 143 (.r 10), .bin 144 .add (.r 143) (.c (.int .i64 (2))), .mov 145 (.r 3), .nilc 146 (.r 145), .fad 147 (.r 146) 0, .fad 148 (.r 147) 2, .load 149 (.r 148) 1 false, .len 150 (.r 149), .bin 151 .lss (.r 144) (.r 150)]),
      .it (.one (.pick 152 (.r 142) (.c (.bool true)) (.r 151)))])
                   (.cond (.r 152)
                    (.seq
                     /- R25 -/ (.ops [.it (.one (.mov 153 (.r 9))),
      .it (.one (.mov 154 (.r 11))),
      .it (.one (.callf (some 155) (.st 40) [(.r 154)])),
      .it (.one (.mov 156 (.r 11))),
      .it (.one (.bin 157 .mul (.c (.int .i64 (3))) (.r 156))),
      .it (.one (.callf (some 158) (.st 41) [(.r 157)])),
      .it (.one (.bslp 159 4 [(.r 158)])),
      .it (.one (.build 160 [.int .i64 0, .int .i64 0, .int .i64 0, .int .i64 0, .int .i64 0, .sl [], .str .empty, .int .i64 0, .sl [], .sl []] [(0, 1, (.c (.int .i64 (16)))), (1, 4, (.r 155)), (5, 1, (.r 159))])),
      .it (.one (.bslp 161 10 [(.r 160)])),
      .it (.one (.appd 162 (.r 153) (.r 161) 10 136)),
      .it (.one (.mov 9 (.r 162)))])
                     /- R26 -/ (.ops [.it (.one (.mov 163 (.r 3))),
      .it (.one (.mov 164 (.r 3))),
      .it (.one (.nilc 165 (.r 164))),
      .it (.one (.fad 166 (.r 165) 7)),
      .it (.one (.load 167 (.r 166) 1 false)),
      .it (.one (.mov 168 (.r 11))),
      .it (.one (.bslp 169 1 [(.r 168)])),
      .it (.one (.appd 170 (.r 167) (.r 169) 1 8)),
      .it (.one (.nilc 171 (.r 163))),
      .it (.one (.fad 172 (.r 171) 7)),
      .it (.one (.store (.r 172) (.r 170) 1))])) .skip))))))
              /- R19 -/ (.ops [.it (.one (.mov 93 (.r 10))),
      .it (.one (.bin 94 .add (.r 93) (.c (.int .i64 (1))))),
      .it (.one (.mov 10 (.r 94)))])))))))
         (.seq
          /- R27 -/ (.pre (.frz 1002) (.pre (.frz 1003) (.pre (.frz 1005) (.pre (.frz 1006) (.post (.ops [.it (.one (.bslo 173 173 1 [])),
      .it (.one (.mov 174 (.r 3))),
      .it (.one (.nilc 175 (.r 174))),
      .it (.one (.fad 176 (.r 175) 7)),
      .it (.one (.load 177 (.r 176) 1 false)),
      .it (.one (.appd 178 (.r 173) (.r 177) 1 8)),
      .it (.one (.mov 12 (.r 178)))]) (.frz 173))))))
          (.seq
           /- R28 -/ (.ops [.it (.one (.fad 179 (.r 1) 3)),
      .it (.one (.load 180 (.r 179) 1 false)),
      .it (.one (.len 181 (.r 180))),
      .it (.one (.mxn 182 true (.r 181) (.c (.int .i64 (1))))),
      .it (.one (.mov 13 (.r 182)))])
           (.seq
            (.seq
             /- R29 -/ (.ops [.it (.one (.mov 14 (.c (.int .i64 (0)))))])
             (.block 8
              (.loop (.pre (.mv [1, 2, 3, 9, 12, 13, 14] [(2, 2), (9, 9), (19, 19), (1004, 1004), (1007, 1007)])
               (.seq
                (.seq
                 /- R30 -/ (.ops [.it (.one (.mov 183 (.r 14))),
      .it (.one (.mov 184 (.r 13))),
      .it (.one (.bin 185 .lss (.r 183) (.r 184)))])
                 (.cond (.r 185) .skip (.exit 8)))
                (.seq
                 (.block 9
                  (.seq
                   /- R32 -/ (.ops [.it (.one (.build 188 [.sl [], .int .u8 0, .int .u8 0, .int .u8 0, .int .u8 0] [])),
      .it (.one (.alloc 15 15 [.sl [], .int .u8 0, .int .u8 0, .int .u8 0, .int .u8 0])),
      .it (.one (.store (.r 15) (.r 188) 5))])
                   (.join
                    (.seq
                     /- R33 -/ (.ops [.it (.one (.mov 189 (.r 14))),
      .it (.one (.fad 190 (.r 1) 3)),
      .it (.one (.load 191 (.r 190) 1 false)),
      .it (.one (.len 192 (.r 191))),
      .it (.one (.bin 193 .lss (.r 189) (.r 192)))])
                     (.cond (.r 193)
                      /- R34 -/ (.ops [.it (.one (.fad 194 (.r 1) 3)),
      .it (.one (.load 195 (.r 194) 1 false)),
      .it (.one (.mov 196 (.r 14))),
      .it (.one (.idx 197 (.r 195) (.r 196) 5)),
      .it (.one (.load 198 (.r 197) 5 true)),
      .it (.one (.store (.r 15) (.r 198) 5))]) .skip))
                    (.pre (.mv [1, 2, 3, 9, 12, 13, 14, 15] [(2, 2), (9, 9), (15, 15), (19, 19), (1004, 1004), (1007, 1007)])
                    (.seq
                     /- R35 -/ (.ops [.it (.one (.mov 199 (.r 3))),
      .it (.one (.bslo 200 200 1 [])),
      .it (.one (.mov 201 (.r 12))),
      .it (.one (.appd 202 (.r 200) (.r 201) 1 8)),
      .it (.one (.nilc 203 (.r 199))),
      .it (.one (.fad 204 (.r 203) 7)),
      .it (.one (.store (.r 204) (.r 202) 1))])
                     (.seq
                      (.seq
                       /- R36 -/ (.ops [.it (.one (.mov 16 (.c (.int .i64 (0)))))])
                       (.block 10
                        (.loop (.pre (.mv [1, 2, 3, 9, 12, 13, 14, 15, 16] [(2, 2), (9, 9), (15, 15), (19, 19), (1004, 1004), (200, 200)])
                         (.seq
                          (.seq
                           /- R37 -/ (.ops [.it (.one (.mov 205 (.r 16))),
      .it (.one (.fad 206 (.r 15) 0)),
      .it (.one (.load 207 (.r 206) 1 false)),
      .it (.one (.len 208 (.r 207))),
      .it (.one (.bin 209 .lss (.r 205) (.r 208)))])
                           (.cond (.r 209) .skip (.exit 10)))
                          (.seq
                           (.block 11
                            /- R39 -/ (.ops [.it (.one (.mov 212 (.r 9))),
      .it (.one (.mov 213 (.r 3))),
      .it (.one (.fad 214 (.r 15) 0)),
      .it (.one (.load 215 (.r 214) 1 false)),
      .it (.one (.mov 216 (.r 16))),
      .it (.one (.idx 217 (.r 215) (.r 216) 5)),
      .it (.one (.load 218 (.r 217) 5 true)),
      .it (.one (.callo (some 219) (.st 42) [(.r 213), (.r 218)] [19, 1004, 200] [])),
      .it (.one (.bslp 220 10 [(.r 219)])),
      .it (.one (.appd 221 (.r 212) (.r 220) 10 136)),
      .it (.one (.mov 9 (.r 221)))]))
                           /- R38 -/ (.ops [.it (.one (.mov 210 (.r 16))),
      .it (.one (.bin 211 .add (.r 210) (.c (.int .i64 (1))))),
      .it (.one (.mov 16 (.r 211)))])))))))
                      (.seq
                       /- R40 -/ (.ops [.it (.one (.mov 222 (.r 9))),
      .it (.one (.mov 223 (.r 3))),
      .it (.one (.load 224 (.r 15) 5 true)),
      .it (.one (.mov 225 (.r 14))),
      .it (.one (.mov 226 (.r 13))),
      .it (.one (.callo (some 227) (.st 43) [(.r 223), (.r 224), (.r 225), (.r 226)] [19, 1004, 200] [])),
      .it (.one (.bslp 228 10 [(.r 227)])),
      .it (.one (.appd 229 (.r 222) (.r 228) 10 136)),
      .it (.one (.mov 9 (.r 229)))])
                       (.seq
                        /- R41 -/ (.pre (.frz 9) (.draw [[], [], [1], [1, 2], [1, 2, 3], [1, 2, 3, 4], [], [6], [], [6, 7, 8], [6, 7, 8, 9], [1, 2, 3, 4, 5, 6, 7, 8, 9, 10], [0, 1, 2, 3, 4, 5, 6, 7, 8, 9, 10, 11], [0, 1, 2, 3, 4, 5, 6, 7, 8, 9, 10, 11, 12], [0, 1, 2, 3, 4, 5, 6, 7, 8, 9, 10, 11, 12, 13], [0, 1, 2, 3, 4, 5, 6, 7, 8, 9, 10, 11, 12, 13, 14]] [.one (.mov 230 (.r 3)),
      .one (.mov 231 (.r 3)),
      .one (.nilc 232 (.r 231)),
      .one (.fad 233 (.r 232) 0),
      .one (.fad 234 (.r 233) 4),
      .one (.load 235 (.r 234) 1 false),
      .one (.mov 236 (.r 14)),
      .one (.callf (some 237) (.st 44) [(.r 236)]),
      .one (.mov 238 (.r 9)),
      .one (.build 239 [.str .empty, .bool false, .sl [], .sl []] [(0, 1, (.r 237)), (3, 1, (.r 238))]),
      .one (.bslp 240 4 [(.r 239)]),
      .one (.appd 241 (.r 235) (.r 240) 4 72),
      .one (.nilc 242 (.r 230)),
      .one (.fad 243 (.r 242) 0),
      .one (.fad 244 (.r 243) 4),
      .one (.store (.r 244) (.r 241) 1)]))
                        /- R42 -/ (.post (.ops [.it (.one (.nilarr 9 9 10))]) (.mv [1, 2, 3, 9, 12, 13, 14] [(2, 2), (9, 9), (19, 19), (1004, 1004), (200, 1007)]))))))))))
                 /- R31 -/ (.ops [.it (.one (.mov 186 (.r 14))),
      .it (.one (.bin 187 .add (.r 186) (.c (.int .i64 (1))))),
      .it (.one (.mov 14 (.r 187)))])))))))
            (.seq
             /- R43 -/ (.pre (.frz 1004) (.ops [.it (.one (.mov 245 (.r 3))),
      .it (.one (.nilc 246 (.r 245))),
      .it (.one (.fad 247 (.r 246) 0)),
      .it (.one (.load 248 (.r 247) 5 true)),
      .it (.one (.store (.r 2) (.r 248) 5))])) .ret)))))))))))
theorem A23_ok : okFun Try.prog 23 249 0 A23 [.cell 2 5 true] [] = true := by kernel_rfl
/-- dyehouse/dyehouseref12.In -/
def A24 : ACode :=
  (.seq
   /- R0 -/ (.ops [.it (.one (.mov 4 (.c (.bool false))))])
   (.seq
    (.seq
     /- R1 -/ (.ops [.it (.one (.mov 5 (.c (.int .i64 (0)))))])
     (.block 0
      (.loop (.pre (.mv [0, 1, 5] [])
       (.seq
        (.seq
         /- R2 -/ (.ops [.it (.one (.mov 6 (.r 5))),
      .it (.one (.mov 7 (.r 0))),
      .it (.one (.len 8 (.r 7))),
      .it (.one (.bin 9 .lss (.r 6) (.r 8)))])
         (.cond (.r 9) .skip (.exit 0)))
        (.seq
         (.block 1
          (.seq
           /- R4 -/ (.ops [.it (.one (.mov 12 (.r 0))),
      .it (.one (.mov 13 (.r 5))),
      .it (.one (.idx 14 (.r 12) (.r 13) 1)),
      .it (.one (.load 15 (.r 14) 1 false)),
      .it (.one (.mov 16 (.r 1))),
      .it (.one (.bin 17 .eql (.r 15) (.r 16)))])
           (.cond (.r 17)
            (.seq
             /- R5 -/ (.ops [.it (.one (.mov 4 (.c (.bool true))))]) .ret) .skip)))
         /- R3 -/ (.ops [.it (.one (.mov 10 (.r 5))),
      .it (.one (.bin 11 .add (.r 10) (.c (.int .i64 (1))))),
      .it (.one (.mov 5 (.r 11)))])))))))
    (.seq
     /- R6 -/ (.ops [.it (.one (.mov 4 (.c (.bool false))))]) .ret)))
theorem A24_ok : okFun Try.prog 24 18 0 A24 [.tmp 4] [] = true := by kernel_rfl
/-- dyehouse/dyehouselaw20.works$1 -/
def A25 : ACode :=
  (.seq
   /- R0 -/ (.ops [.it (.one (.mov 2 (.c (.sl []))))])
   (.seq
    /- R1 -/ (.ops [.it (.one (.mov 3 (.r 0))),
      .it (.one (.build 4 [.int .i64 0, .int .i64 0, .int .i64 0, .int .i64 0, .int .i64 0, .sl [], .str .empty, .int .i64 0, .sl [], .sl []] [(0, 1, (.c (.int .i64 (21)))), (8, 1, (.r 3))])),
      .it (.one (.bslp 5 10 [(.r 4)])),
      .it (.one (.mov 2 (.r 5)))]) .ret))
theorem A25_ok : okFun Try.prog 25 6 0 A25 [.tmp 2] [] = true := by kernel_rfl
/-- dyehouse/dyehouseref12.Ints -/
def A26 : ACode :=
  (.seq
   /- R0 -/ (.ops [.it (.one (.mov 4 (.c (.bool false))))])
   (.seq
    (.seq
     /- R1 -/ (.ops [.it (.one (.mov 6 (.r 0))),
      .it (.one (.len 7 (.r 6))),
      .it (.one (.mov 8 (.r 1))),
      .it (.one (.len 9 (.r 8))),
      .it (.one (.bin 10 .neq (.r 7) (.r 9)))])
     (.cond (.r 10)
      (.seq
       /- R2 -/ (.ops [.it (.one (.mov 4 (.c (.bool false))))]) .ret) .skip))
    (.seq
     (.seq
      /- R3 -/ (.ops [.it (.one (.mov 5 (.c (.int .i64 (0)))))])
      (.block 0
       (.loop (.pre (.mv [0, 1, 5] [])
        (.seq
         (.seq
          /- R4 -/ (.ops [.it (.one (.mov 11 (.r 5))),
      .it (.one (.mov 12 (.r 0))),
      .it (.one (.len 13 (.r 12))),
      .it (.one (.bin 14 .lss (.r 11) (.r 13)))])
          (.cond (.r 14) .skip (.exit 0)))
         (.seq
          (.block 1
           (.seq
            /- R6 -/ (.draw [[], [], [0, 1], [0, 1, 2], [], [], [4, 5], [4, 5, 6], [0, 1, 2, 3, 4, 5, 6, 7]] [.one (.mov 17 (.r 0)),
      .one (.mov 18 (.r 5)),
      .one (.idx 19 (.r 17) (.r 18) 1),
      .one (.load 20 (.r 19) 1 false),
      .one (.mov 21 (.r 1)),
      .one (.mov 22 (.r 5)),
      .one (.idx 23 (.r 21) (.r 22) 1),
      .one (.load 24 (.r 23) 1 false),
      .one (.bin 25 .neq (.r 20) (.r 24))])
            (.cond (.r 25)
             (.seq
              /- R7 -/ (.ops [.it (.one (.mov 4 (.c (.bool false))))]) .ret) .skip)))
          /- R5 -/ (.ops [.it (.one (.mov 15 (.r 5))),
      .it (.one (.bin 16 .add (.r 15) (.c (.int .i64 (1))))),
      .it (.one (.mov 5 (.r 16)))])))))))
     (.seq
      /- R8 -/ (.ops [.it (.one (.mov 4 (.c (.bool true))))]) .ret))))
theorem A26_ok : okFun Try.prog 26 26 0 A26 [.tmp 4] [] = true := by kernel_rfl
/-- (*dyehouse/bits.Set).Count -/
def A27 : ACode :=
  (.seq
   /- R0 -/ (.ops [.it (.one (.mov 2 (.c (.int .i64 (0)))))])
   (.seq
    (.seq
     /- R1 -/ (.ops [.it (.one (.mov 6 (.r 0))),
      .it (.one (.eq 7 false .nil (.r 6) (.c (.nilp))))])
     (.cond (.r 7)
      (.seq
       /- R2 -/ (.ops [.it (.one (.mov 2 (.c (.int .i64 (0)))))]) .ret) .skip))
    (.seq
     /- R3 -/ (.ops [.it (.one (.mov 3 (.c (.int .i64 (0)))))])
     (.seq
      (.seq
       /- R4 -/ (.ops [.it (.one (.mov 8 (.r 0))),
      .it (.one (.nilc 9 (.r 8))),
      .it (.one (.fad 10 (.r 9) 1)),
      .it (.one (.load 11 (.r 10) 1 false)),
      .it (.one (.len 12 (.r 11))),
      .it (.one (.mov 13 (.c (.int .i64 (0)))))])
       (.block 0
        (.loop (.pre (.mv [3, 11, 12, 13] [])
         (.seq
          /- R5 -/ (.ops [.it (.one (.bin 14 .lss (.r 13) (.r 12)))])
          (.seq
           (.cond (.r 14) .skip (.exit 0))
           (.seq
            (.block 1
             (.seq
              /- R6 -/ (.ops [.it (.one (.idx 15 (.r 11) (.r 13) 1)),
      .it (.one (.load 16 (.r 15) 1 false)),
      .it (.one (.mov 5 (.r 16)))])
              /- R7 -/ (.ops [.it (.one (.mov 17 (.r 3))),
      .it (.one (.mov 18 (.r 5))),
      .it (.one (.callf (some 19) (.st 45) [(.r 18)])),
      .it (.one (.bin 20 .add (.r 17) (.r 19))),
      .it (.one (.mov 3 (.r 20)))])))
            /- R8 -/ (.ops [.it (.one (.bin 21 .add (.r 13) (.c (.int .i64 (1))))),
      .it (.one (.mov 13 (.r 21)))]))))))))
      (.seq
       /- R9 -/ (.ops [.it (.one (.mov 22 (.r 3))),
      .it (.one (.mov 2 (.r 22)))]) .ret)))))
theorem A27_ok : okFun Try.prog 27 23 0 A27 [.tmp 2] [] = true := by kernel_rfl
/-- dyehouse/dyehouseref12.Find -/
def A28 : ACode :=
  (.seq
   /- R0 -/ (.ops [.it (.one (.boxp 2 (.r 0))),
      .it (.one (.mov 4 (.c (.int .i64 (0)))))])
   (.seq
    (.seq
     /- R1 -/ (.ops [.it (.one (.mov 5 (.c (.int .i64 (0)))))])
     (.block 0
      (.loop (.pre (.mv [1, 2, 5] [])
       (.seq
        (.seq
         /- R2 -/ (.ops [.it (.one (.mov 6 (.r 5))),
      .it (.one (.fad 7 (.r 2) 4)),
      .it (.one (.load 8 (.r 7) 1 false)),
      .it (.one (.len 9 (.r 8))),
      .it (.one (.bin 10 .lss (.r 6) (.r 9)))])
         (.cond (.r 10) .skip (.exit 0)))
        (.seq
         (.block 1
          (.seq
           /- R4 -/ (.ops [.it (.one (.fad 13 (.r 2) 4)),
      .it (.one (.load 14 (.r 13) 1 false)),
      .it (.one (.mov 15 (.r 5))),
      .it (.one (.idx 16 (.r 14) (.r 15) 4)),
      .it (.one (.fad 17 (.r 16) 0)),
      .it (.one (.load 18 (.r 17) 1 false)),
      .it (.one (.mov 19 (.r 1))),
      .it (.one (.bin 20 .eql (.r 18) (.r 19)))])
           (.cond (.r 20)
            (.seq
             /- R5 -/ (.ops [.it (.one (.mov 21 (.r 5))),
      .it (.one (.mov 4 (.r 21)))]) .ret) .skip)))
         /- R3 -/ (.ops [.it (.one (.mov 11 (.r 5))),
      .it (.one (.bin 12 .add (.r 11) (.c (.int .i64 (1))))),
      .it (.one (.mov 5 (.r 12)))])))))))
    (.seq
     /- R6 -/ (.ops [.it (.one (.mov 4 (.c (.int .i64 (-1)))))]) .ret)))
theorem A28_ok : okFun Try.prog 28 22 0 A28 [.tmp 4] [] = true := by kernel_rfl
/-- (*dyehouse/graph.Graph).Len -/
def A29 : ACode :=
  (.seq
   /- R0 -/ (.ops [.it (.one (.mov 2 (.c (.int .i64 (0)))))])
   (.seq
    (.seq
     /- R1 -/ (.ops [.it (.one (.mov 3 (.r 0))),
      .it (.one (.eq 4 false .nil (.r 3) (.c (.nilp))))])
     (.cond (.r 4)
      (.seq
       /- R2 -/ (.ops [.it (.one (.mov 2 (.c (.int .i64 (0)))))]) .ret) .skip))
    (.seq
     /- R3 -/ (.ops [.it (.one (.mov 5 (.r 0))),
      .it (.one (.nilc 6 (.r 5))),
      .it (.one (.fad 7 (.r 6) 0)),
      .it (.one (.load 8 (.r 7) 1 false)),
      .it (.one (.len 9 (.r 8))),
      .it (.one (.mov 2 (.r 9)))]) .ret)))
theorem A29_ok : okFun Try.prog 29 10 0 A29 [.tmp 2] [] = true := by kernel_rfl
/-- (*dyehouse/graph.Graph).Order -/
def A30 : ACode :=
  (.seq
   /- R0 -/ (.ops [.it (.one (.mov 2 (.c (.sl []))))])
   (.seq
    (.seq
     /- R1 -/ (.ops [.it (.one (.mov 4 (.r 0))),
      .it (.one (.callf (some 5) (.st 29) [(.r 4)])),
      .it (.one (.bin 6 .eql (.r 5) (.c (.int .i64 (0)))))])
     (.cond (.r 6)
      (.seq
       /- R2 -/ (.ops [.it (.one (.mov 2 (.c (.sl []))))]) .ret) .skip))
    (.seq
     /- R3 -/ (.ops [.it (.one (.mov 7 (.r 0))),
      .it (.one (.callo (some 8) (.st 46) [(.r 7)] [] [70])),
      .it (.one (.mov 3 (.r 8)))])
     (.seq
      /- R4 -/ (.ops [.it (.one (.mov 9 (.r 3))),
      .it (.one (.callo (some 10) (.st 47) [(.r 9)] [70] []))])
      (.seq
       /- R5 -/ (.post (.ops [.it (.one (.mov 11 (.r 3))),
      .it (.one (.mov 2 (.r 11)))]) (.frz 70)) .ret)))))
theorem A30_ok : okFun Try.prog 30 12 0 A30 [.tmp 2] [] = true := by kernel_rfl
/-- (*dyehouse/dom.Tree).round -/
def A31 : ACode :=
  (.seq
   /- R0 -/ (.ops [.it (.one (.mov 6 (.c (.bool false))))])
   (.seq
    /- R1 -/ (.ops [.it (.one (.mov 7 (.c (.bool false))))])
    (.seq
     (.seq
      /- R2 -/ (.ops [.it (.one (.mov 13 (.r 2))),
      .it (.one (.len 14 (.r 13))),
      .it (.one (.mov 15 (.c (.int .i64 (0)))))])
      (.block 0
       (.loop (.pre (.mv [0, 1, 7, 13, 14, 15] [(0, 0), (1, 1), (2, 2)])
        (.seq
         /- R3 -/ (.ops [.it (.one (.bin 16 .lss (.r 15) (.r 14)))])
         (.seq
          (.cond (.r 16) .skip (.exit 0))
          (.seq
           (.block 1
            (.seq
             /- R4 -/ (.ops [.it (.one (.idx 17 (.r 13) (.r 15) 1)),
      .it (.one (.load 18 (.r 17) 1 false)),
      .it (.one (.mov 9 (.r 18)))])
             (.seq
              /- R5 -/ (.ops [.it (.one (.mov 10 (.c (.int .i64 (-1)))))])
              (.seq
               (.seq
                /- R6 -/ (.ops [.it (.one (.mov 19 (.r 1))),
      .it (.one (.mov 20 (.r 9))),
      .it (.one (.callf (some 21) (.st 48) [(.r 19), (.r 20)])),
      .it (.one (.len 22 (.r 21))),
      .it (.one (.mov 23 (.c (.int .i64 (0)))))])
                (.block 2
                 (.loop (.pre (.mv [0, 1, 7, 9, 10, 13, 14, 15, 21, 22, 23] [(0, 0), (1, 1), (2, 2)])
                  (.seq
                   /- R7 -/ (.ops [.it (.one (.bin 24 .lss (.r 23) (.r 22)))])
                   (.seq
                    (.cond (.r 24) .skip (.exit 2))
                    (.seq
                     (.block 3
                      (.seq
                       /- R8 -/ (.ops [.it (.one (.idx 25 (.r 21) (.r 23) 1)),
      .it (.one (.load 26 (.r 25) 1 false)),
      .it (.one (.mov 12 (.r 26)))])
                       (.block 4
                        (.seq
                         /- R10 -/ (.ops [.it (.one (.mov 32 (.r 0))),
      .it (.one (.nilc 33 (.r 32))),
      .it (.one (.fad 34 (.r 33) 1)),
      .it (.one (.load 35 (.r 34) 1 false)),
      .it (.one (.mov 36 (.r 12))),
      .it (.one (.idx 37 (.r 35) (.r 36) 1)),
      .it (.one (.load 38 (.r 37) 1 false)),
      .it (.one (.bin 39 .eql (.r 38) (.c (.int .i64 (-1))))),
      .it (.one (.mov 40 (.r 39))),
      .it (.grp 40 false [.mov 41 (.r 0), .nilc 42 (.r 41), .fad 43 (.r 42) 0, .load 44 (.r 43) 1 false, .mov 45 (.r 12), .idx 46 (.r 44) (.r 45) 1, .load 47 (.r 46) 1 false, .bin 48 .eql (.r 47) (.c (.int .i64 (-1)))]),
      .it (.one (.pick 49 (.r 40) (.c (.bool true)) (.r 48))),
      .it (.one (.mov 31 (.r 49)))])
                         (.cond (.r 31) .skip
                          (.seq
                           /- R11 -/ (.ops [.it (.one (.mov 51 (.r 10))),
      .it (.one (.bin 52 .eql (.r 51) (.c (.int .i64 (-1))))),
      .it (.one (.mov 50 (.r 52)))])
                           (.cond (.r 50)
                            /- R12 -/ (.ops [.it (.one (.mov 53 (.r 12))),
      .it (.one (.mov 10 (.r 53)))])
                            /- R9 -/ (.ops [.it (.one (.mov 27 (.r 0))),
      .it (.one (.mov 28 (.r 10))),
      .it (.one (.mov 29 (.r 12))),
      .it (.one (.callb (some 30) (.st 49) [(.r 27), (.r 28), (.r 29)])),
      .it (.one (.mov 10 (.r 30)))]))))))))
                     /- R13 -/ (.ops [.it (.one (.bin 54 .add (.r 23) (.c (.int .i64 (1))))),
      .it (.one (.mov 23 (.r 54)))]))))))))
               (.seq
                /- R14 -/ (.ops [.it (.one (.mov 55 (.r 0))),
      .it (.one (.nilc 56 (.r 55))),
      .it (.one (.fad 57 (.r 56) 0)),
      .it (.one (.load 58 (.r 57) 1 false)),
      .it (.one (.mov 59 (.r 9))),
      .it (.one (.idx 60 (.r 58) (.r 59) 1)),
      .it (.one (.load 61 (.r 60) 1 false)),
      .it (.one (.mov 62 (.r 10))),
      .it (.one (.bin 63 .neq (.r 61) (.r 62)))])
                (.cond (.r 63)
                 (.seq
                  /- R15 -/ (.ops [.it (.one (.mov 64 (.r 0))),
      .it (.one (.nilc 65 (.r 64))),
      .it (.one (.fad 66 (.r 65) 0)),
      .it (.one (.load 67 (.r 66) 1 false)),
      .it (.one (.mov 68 (.r 9))),
      .it (.one (.mov 69 (.r 10))),
      .it (.one (.idx 70 (.r 67) (.r 68) 1)),
      .it (.one (.store (.r 70) (.r 69) 1))])
                  /- R16 -/ (.ops [.it (.one (.mov 7 (.c (.bool true))))])) .skip))))))
           /- R17 -/ (.ops [.it (.one (.bin 71 .add (.r 15) (.c (.int .i64 (1))))),
      .it (.one (.mov 15 (.r 71)))]))))))))
     (.seq
      /- R18 -/ (.ops [.it (.one (.mov 72 (.r 7))),
      .it (.one (.mov 6 (.r 72)))]) .ret))))
theorem A31_ok : okFun Try.prog 31 73 3 A31 [.tmp 6] [] = true := by kernel_rfl
/-- dyehouse/graph.last -/
def A32 : ACode :=
  (.seq
   /- R0 -/ (.ops [.it (.one (.boxp 1 (.r 0))),
      .it (.one (.alloc 2 2 [.int .i64 0, .int .i64 0, .int .i64 0, .int .i64 0, .int .i64 0, .sl [], .str .empty, .int .i64 0, .sl [], .sl []])),
      .it (.one (.mov 3 (.c (.bool false))))])
   (.seq
    (.seq
     /- R1 -/ (.ops [.it (.one (.fad 5 (.r 1) 3)),
      .it (.one (.load 6 (.r 5) 1 false)),
      .it (.one (.len 7 (.r 6))),
      .it (.one (.bin 8 .eql (.r 7) (.c (.int .i64 (0)))))])
     (.cond (.r 8)
      (.seq
       /- R2 -/ (.ops [.it (.one (.build 9 [.int .i64 0, .int .i64 0, .int .i64 0, .int .i64 0, .int .i64 0, .sl [], .str .empty, .int .i64 0, .sl [], .sl []] [])),
      .it (.one (.store (.r 2) (.r 9) 10)),
      .it (.one (.mov 3 (.c (.bool false))))]) .ret) .skip))
    (.seq
     /- R3 -/ (.post (.ops [.it (.one (.fad 10 (.r 1) 3)),
      .it (.one (.load 11 (.r 10) 1 false)),
      .it (.one (.fad 12 (.r 1) 3)),
      .it (.one (.load 13 (.r 12) 1 false)),
      .it (.one (.len 14 (.r 13))),
      .it (.one (.bin 15 .sub (.r 14) (.c (.int .i64 (1))))),
      .it (.one (.idx 16 (.r 11) (.r 15) 10)),
      .it (.one (.load 17 (.r 16) 10 true)),
      .it (.one (.alloc 4 4 [.int .i64 0, .int .i64 0, .int .i64 0, .int .i64 0, .int .i64 0, .sl [], .str .empty, .int .i64 0, .sl [], .sl []])),
      .it (.one (.store (.r 4) (.r 17) 10))]) (.frz 4))
     (.seq
      /- R4 -/ (.draw [[], [], [1], [1, 2], [0, 1, 2, 3], [0, 1, 2, 3, 4]] [.one (.load 18 (.r 4) 10 true),
      .one (.fad 19 (.r 4) 0),
      .one (.load 20 (.r 19) 1 false),
      .one (.callf (some 21) (.st 50) [(.r 20)]),
      .one (.store (.r 2) (.r 18) 10),
      .one (.mov 3 (.r 21))]) .ret))))
theorem A32_ok : okFun Try.prog 32 22 0 A32 [.cell 2 10 true, .tmp 3] [] = true := by kernel_rfl
/-- dyehouse/ir.Find -/
def A33 : ACode :=
  (.seq
   /- R0 -/ (.ops [.it (.one (.boxp 2 (.r 0))),
      .it (.one (.boxp 3 (.r 1))),
      .it (.one (.mov 4 (.c (.int .i64 (0)))))])
   (.seq
    /- R1 -/ (.ops [.it (.one (.fad 5 (.r 2) 4)),
      .it (.one (.load 6 (.r 5) 1 false)),
      .it (.one (.mkfn 7 52 [(.r 3)])),
      .it (.one (.callf (some 8) (.st 51) [(.r 6), (.r 7)])),
      .it (.one (.mov 4 (.r 8)))]) .ret))
theorem A33_ok : okFun Try.prog 33 9 0 A33 [.tmp 4] [] = true := by kernel_rfl
/-- slices.Contains[[]int,int] -/
def A34 : ACode :=
  (.seq
   /- R0 -/ (.ops [.it (.one (.mov 4 (.c (.bool false))))])
   (.seq
    /- R1 -/ (.ops [.it (.one (.mov 5 (.r 0))),
      .it (.one (.mov 6 (.r 1))),
      .it (.one (.callf (some 7) (.st 53) [(.r 5), (.r 6)])),
      .it (.one (.bin 8 .geq (.r 7) (.c (.int .i64 (0))))),
      .it (.one (.mov 4 (.r 8)))]) .ret))
theorem A34_ok : okFun Try.prog 34 9 0 A34 [.tmp 4] [] = true := by kernel_rfl
/-- (*dyehouse/dom.Tree).in -/
def A35 : ACode :=
  (.seq
   /- R0 -/ (.ops [.it (.one (.mov 4 (.c (.bool false))))])
   (.seq
    /- R1 -/ (.ops [.it (.one (.mov 5 (.r 0))),
      .it (.one (.eq 6 true .nil (.r 5) (.c (.nilp)))),
      .it (.one (.mov 7 (.r 6))),
      .it (.grp 7 true [.mov 8 (.r 1), .bin 9 .geq (.r 8) (.c (.int .i64 (0)))]),
      .it (.one (.pick 10 (.r 7) (.r 9) (.c (.bool false)))),
      .it (.one (.mov 11 (.r 10))),
      .it (.grp 11 true [.mov 12 (.r 1), .mov 13 (.r 0), .nilc 14 (.r 13), .fad 15 (.r 14) 1, .load 16 (.r 15) 1 false, .len 17 (.r 16), .bin 18 .lss (.r 12) (.r 17)]),
      .it (.one (.pick 19 (.r 11) (.r 18) (.c (.bool false)))),
      .it (.one (.mov 20 (.r 19))),
      .it (.grp 20 true [.mov 21 (.r 0), .nilc 22 (.r 21), .fad 23 (.r 22) 1, .load 24 (.r 23) 1 false, .mov 25 (.r 1), .idx 26 (.r 24) (.r 25) 1, .load 27 (.r 26) 1 false, .bin 28 .neq (.r 27) (.c (.int .i64 (-1)))]),
      .it (.one (.pick 29 (.r 20) (.r 28) (.c (.bool false)))),
      .it (.one (.mov 4 (.r 29)))]) .ret))
theorem A35_ok : okFun Try.prog 35 30 0 A35 [.tmp 4] [] = true := by kernel_rfl
/-- dyehouse/bits.New -/
def A36 : ACode :=
  (.seq
   /- R0 -/ (.ops [.it (.one (.mov 2 (.c (.nilp))))])
   (.seq
    /- R1 -/ (.ops [.it (.one (.mov 3 (.r 0))),
      .it (.one (.mxn 4 true (.r 3) (.c (.int .i64 (0))))),
      .it (.one (.mov 0 (.r 4)))])
    (.seq
     /- R2 -/ (.ops [.it (.one (.mov 5 (.r 0))),
      .it (.one (.mov 6 (.r 0))),
      .it (.one (.bin 7 .add (.r 6) (.c (.int .i64 (64))))),
      .it (.one (.bin 8 .sub (.r 7) (.c (.int .i64 (1))))),
      .it (.one (.bin 9 .quo (.r 8) (.c (.int .i64 (64))))),
      .it (.one (.make 10 10 1 8 [.int .u64 0] (.r 9) (.r 9))),
      .it (.one (.buildm 11 [.int .i64 0, .sl []] [(0, 1, (.r 5)), (1, 1, (.r 10))])),
      .it (.one (.boxg 12 12 (.r 11))),
      .it (.one (.mov 2 (.r 12)))]) .ret)))
theorem A36_ok : okFun Try.prog 36 13 0 A36 [.tmp 2] [12, 10] = true := by kernel_rfl
/-- (*dyehouse/dom.Tree).Below$1 -/
def A37 : ACode :=
  /- R0 -/ (.ops [.it (.one (.load 3 (.r 1) 1 false)),
      .it (.one (.mov 4 (.r 0))),
      .it (.one (.appd 5 (.r 3) (.r 4) 1 8)),
      .it (.one (.store (.r 1) (.r 5) 1))])
theorem A37_ok : okFun Try.prog 37 6 2 A37 [] [] = true := by kernel_rfl
/-- (*dyehouse/bits.Set).Add -/
def A38 : ACode :=
  (.seq
   /- R0 -/ (.ops [.it (.one (.mov 4 (.c (.bool false))))])
   (.seq
    (.seq
     /- R1 -/ (.ops [.it (.one (.mov 5 (.r 0))),
      .it (.one (.mov 6 (.r 1))),
      .it (.one (.callb (some 7) (.st 39) [(.r 5), (.r 6)])),
      .it (.one (.un 8 .not (.r 7))),
      .it (.one (.mov 9 (.r 8))),
      .it (.grp 9 false [.mov 10 (.r 0), .mov 11 (.r 1), .callb (some 12) (.st 19) [(.r 10), (.r 11)]]),
      .it (.one (.pick 13 (.r 9) (.c (.bool true)) (.r 12)))])
     (.cond (.r 13)
      (.seq
       /- R2 -/ (.ops [.it (.one (.mov 4 (.c (.bool false))))]) .ret) .skip))
    (.seq
     /- R3 -/ (.draw [[], [0], [0, 1], [0, 1, 2], [], [4], [0, 1, 2, 3, 4, 5], [0, 1, 2, 3, 4, 5, 6], [], [8], [8, 9], [0, 1, 2, 3, 4, 5, 6, 7, 8, 9, 10], [0, 1, 2, 3, 4, 5, 6, 7, 8, 9, 10, 11], [0, 1, 2, 3, 4, 5, 6, 7, 8, 9, 10, 11, 12]] [.one (.mov 14 (.r 0)),
      .one (.nilc 15 (.r 14)),
      .one (.fad 16 (.r 15) 1),
      .one (.load 17 (.r 16) 1 false),
      .one (.mov 18 (.r 1)),
      .one (.bin 19 .quo (.r 18) (.c (.int .i64 (64)))),
      .one (.idx 20 (.r 17) (.r 19) 1),
      .one (.load 21 (.r 20) 1 false),
      .one (.mov 22 (.r 1)),
      .one (.bin 23 .rem (.r 22) (.c (.int .i64 (64)))),
      .one (.bin 24 .shl (.c (.int .u64 (1))) (.r 23)),
      .one (.bin 25 .or (.r 21) (.r 24)),
      .one (.idx 26 (.r 17) (.r 19) 1),
      .one (.store (.r 26) (.r 25) 1)])
     (.seq
      /- R4 -/ (.ops [.it (.one (.mov 4 (.c (.bool true))))]) .ret))))
theorem A38_ok : okFun Try.prog 38 27 2 A38 [.tmp 4] [] = true := by kernel_rfl
/-- (*dyehouse/bits.Set).in -/
def A39 : ACode :=
  (.seq
   /- R0 -/ (.ops [.it (.one (.mov 4 (.c (.bool false))))])
   (.seq
    /- R1 -/ (.ops [.it (.one (.mov 5 (.r 0))),
      .it (.one (.eq 6 true .nil (.r 5) (.c (.nilp)))),
      .it (.one (.mov 7 (.r 6))),
      .it (.grp 7 true [.mov 8 (.r 1), .bin 9 .geq (.r 8) (.c (.int .i64 (0)))]),
      .it (.one (.pick 10 (.r 7) (.r 9) (.c (.bool false)))),
      .it (.one (.mov 11 (.r 10))),
      .it (.grp 11 true [.mov 12 (.r 1), .mov 13 (.r 0), .nilc 14 (.r 13), .fad 15 (.r 14) 0, .load 16 (.r 15) 1 false, .bin 17 .lss (.r 12) (.r 16)]),
      .it (.one (.pick 18 (.r 11) (.r 17) (.c (.bool false)))),
      .it (.one (.mov 4 (.r 18)))]) .ret))
theorem A39_ok : okFun Try.prog 39 19 0 A39 [.tmp 4] [] = true := by kernel_rfl
/-- dyehouse/dyehouseref12.vreg -/
def A40 : ACode :=
  (.seq
   /- R0 -/ (.ops [.it (.one (.alloc 2 2 [.int .i64 0, .int .i64 0, .int .i64 0, .int .i64 0]))])
   (.seq
    /- R1 -/ (.ops [.it (.one (.mov 3 (.r 0))),
      .it (.one (.build 4 [.int .i64 0, .int .i64 0, .int .i64 0, .int .i64 0] [(0, 1, (.c (.int .i64 (1)))), (2, 1, (.r 3))])),
      .it (.one (.store (.r 2) (.r 4) 4))]) .ret))
theorem A40_ok : okFun Try.prog 40 5 0 A40 [.cell 2 4 true] [] = true := by kernel_rfl
/-- dyehouse/dyehouseref12.imm -/
def A41 : ACode :=
  (.seq
   /- R0 -/ (.ops [.it (.one (.alloc 2 2 [.int .i64 0, .int .i64 0, .int .i64 0, .int .i64 0]))])
   (.seq
    /- R1 -/ (.ops [.it (.one (.mov 3 (.r 0))),
      .it (.one (.build 4 [.int .i64 0, .int .i64 0, .int .i64 0, .int .i64 0] [(0, 1, (.c (.int .i64 (4)))), (2, 1, (.r 3))])),
      .it (.one (.store (.r 2) (.r 4) 4))]) .ret))
theorem A41_ok : okFun Try.prog 41 5 0 A41 [.cell 2 4 true] [] = true := by kernel_rfl
/-- (*dyehouse/dyehouseref12.maker).instr -/
def A42 : ACode :=
  (.seq
   /- R0 -/ (.ops [.it (.one (.boxp 3 (.r 1))),
      .it (.one (.alloc 4 4 [.int .i64 0, .int .i64 0, .int .i64 0, .int .i64 0, .int .i64 0, .sl [], .str .empty, .int .i64 0, .sl [], .sl []]))])
   (.seq
    /- R1 -/ (.ops [.it (.one (.fad 8 (.r 3) 0)),
      .it (.one (.load 9 (.r 8) 1 false)),
      .it (.one (.conv 10 .i64 (.r 9))),
      .it (.one (.bin 11 .rem (.r 10) (.c (.int .i64 (19))))),
      .it (.one (.bin 12 .add (.c (.int .i64 (1))) (.r 11))),
      .it (.one (.mov 5 (.r 12)))])
    (.seq
     /- R2 -/ (.ops [.it (.one (.mov 13 (.r 5))),
      .it (.one (.build 14 [.int .i64 (0), .int .i64 (0), .int .i64 (0), .int .i64 (0), .int .i64 (0), .yl 0, .str .empty, .int .i64 (0), .sl [], .sl []] [(0, 1, (.r 13))])),
      .it (.one (.allocm 6 6 [.int .i64 0, .int .i64 0, .int .i64 0, .int .i64 0, .int .i64 0, .sl [], .str .empty, .int .i64 0, .sl [], .sl []])),
      .it (.one (.store (.r 6) (.r 14) 10))])
     (.seq
      (.seq
       /- R3 -/ (.ops [.it (.one (.mov 15 (.r 5)))])
       (.block 0
        (.seq
         /- R8 -/ (.ops [.it (.one (.bin 43 .eql (.r 15) (.c (.int .i64 (16))))),
      .it (.one (.mov 42 (.r 43)))])
         (.cond (.r 42)
          (.seq
           /- R9 -/ (.ops [.it (.one (.fad 44 (.r 3) 4)),
      .it (.one (.load 45 (.r 44) 1 false)),
      .it (.one (.conv 46 .i64 (.r 45))),
      .it (.one (.callf (some 47) (.st 41) [(.r 46)])),
      .it (.one (.bslo 48 1006 4 [(.r 47)])),
      .it (.one (.fad 49 (.r 6) 5)),
      .it (.one (.store (.r 49) (.r 48) 1))])
           (.seq
            (.seq
             /- R10 -/ (.ops [.it (.one (.fad 50 (.r 3) 3)),
      .it (.one (.load 51 (.r 50) 1 false)),
      .it (.one (.bin 52 .rem (.r 51) (.c (.int .u8 (3))))),
      .it (.one (.bin 53 .gtr (.r 52) (.c (.int .u8 (0)))))])
             (.cond (.r 53)
              /- R11 -/ (.draw [[], [0], [], [], [3], [3, 4], [3, 4, 5], [3, 4, 5, 6], [], [8], [2, 3, 4, 5, 6, 7, 8, 9], [0, 1, 2, 3, 4, 5, 6, 7, 8, 9, 10], [0, 1, 2, 3, 4, 5, 6, 7, 8, 9, 10, 11]] [.one (.fad 54 (.r 6) 5),
      .one (.load 55 (.r 54) 1 false),
      .one (.mov 56 (.r 0)),
      .one (.fad 57 (.r 3) 3),
      .one (.load 58 (.r 57) 1 false),
      .one (.bin 59 .rem (.r 58) (.c (.int .u8 (3)))),
      .one (.conv 60 .i64 (.r 59)),
      .one (.bin 61 .sub (.r 60) (.c (.int .i64 (1)))),
      .one (.fad 62 (.r 3) 2),
      .one (.load 63 (.r 62) 1 false),
      .one (.callb (some 64) (.st 54) [(.r 56), (.r 61), (.r 63)]),
      .one (.idx 65 (.r 55) (.c (.int .i64 (0))) 4),
      .one (.store (.r 65) (.r 64) 4)]) .skip))
            /- R12 -/ (.ops [.it (.one (.mov 66 (.r 0))),
      .it (.one (.fad 67 (.r 3) 1)),
      .it (.one (.load 68 (.r 67) 1 false)),
      .it (.one (.conv 69 .i64 (.r 68))),
      .it (.one (.bin 70 .rem (.r 69) (.c (.int .i64 (2))))),
      .it (.one (.fad 71 (.r 3) 1)),
      .it (.one (.load 72 (.r 71) 1 false)),
      .it (.one (.bin 73 .quo (.r 72) (.c (.int .u8 (2))))),
      .it (.one (.callo (some 74) (.st 55) [(.r 66), (.r 70), (.r 73)] [0, 1, 2] [])),
      .it (.one (.fad 75 (.r 6) 1)),
      .it (.one (.store (.r 75) (.r 74) 4))])))
          (.seq
           /- R13 -/ (.ops [.it (.one (.bin 77 .eql (.r 15) (.c (.int .i64 (17))))),
      .it (.one (.mov 76 (.r 77)))])
           (.cond (.r 76)
            (.seq
             /- R14 -/ (.ops [.it (.one (.mov 78 (.r 0))),
      .it (.one (.fad 79 (.r 3) 2)),
      .it (.one (.load 80 (.r 79) 1 false)),
      .it (.one (.callb (some 81) (.st 54) [(.r 78), (.c (.int .i64 (1))), (.r 80)])),
      .it (.one (.bslo 82 1006 4 [(.r 81)])),
      .it (.one (.fad 83 (.r 6) 5)),
      .it (.one (.store (.r 83) (.r 82) 1))])
             (.seq
              /- R15 -/ (.ops [.it (.one (.fad 84 (.r 3) 4)),
      .it (.one (.load 85 (.r 84) 1 false)),
      .it (.one (.conv 86 .i64 (.r 85))),
      .it (.one (.bin 87 .rem (.r 86) (.c (.int .i64 (8))))),
      .it (.one (.fad 88 (.r 6) 7)),
      .it (.one (.store (.r 88) (.r 87) 1))])
              /- R16 -/ (.ops [.it (.one (.mov 89 (.r 0))),
      .it (.one (.fad 90 (.r 3) 1)),
      .it (.one (.load 91 (.r 90) 1 false)),
      .it (.one (.callo (some 92) (.st 55) [(.r 89), (.c (.int .i64 (0))), (.r 91)] [0, 1, 2] [])),
      .it (.one (.fad 93 (.r 6) 1)),
      .it (.one (.store (.r 93) (.r 92) 4))])))
            (.seq
             /- R17 -/ (.ops [.it (.one (.bin 95 .eql (.r 15) (.c (.int .i64 (18))))),
      .it (.one (.mov 94 (.r 95)))])
             (.cond (.r 94)
              (.seq
               /- R18 -/ (.draw [[], [], [1], [0, 1, 2], [], [], [5], [0, 1, 2, 3, 4, 5, 6], [0, 1, 2, 3, 4, 5, 6, 7], [0, 1, 2, 3, 4, 5, 6, 7, 8], [0, 1, 2, 3, 4, 5, 6, 7, 8, 9]] [.one (.mov 96 (.r 0)),
      .one (.fad 97 (.r 3) 3),
      .one (.load 98 (.r 97) 1 false),
      .one (.callb (some 99) (.st 54) [(.r 96), (.c (.int .i64 (0))), (.r 98)]),
      .one (.mov 100 (.r 0)),
      .one (.fad 101 (.r 3) 2),
      .one (.load 102 (.r 101) 1 false),
      .one (.callb (some 103) (.st 54) [(.r 100), (.c (.int .i64 (1))), (.r 102)]),
      .one (.bslo 104 1006 4 [(.r 99), (.r 103)]),
      .one (.fad 105 (.r 6) 5),
      .one (.store (.r 105) (.r 104) 1)])
               /- R19 -/ (.ops [.it (.one (.fad 106 (.r 3) 4)),
      .it (.one (.load 107 (.r 106) 1 false)),
      .it (.one (.conv 108 .i64 (.r 107))),
      .it (.one (.bin 109 .rem (.r 108) (.c (.int .i64 (8))))),
      .it (.one (.fad 110 (.r 6) 7)),
      .it (.one (.store (.r 110) (.r 109) 1))]))
              (.seq
               /- R20 -/ (.ops [.it (.one (.bin 112 .eql (.r 15) (.c (.int .i64 (19))))),
      .it (.one (.mov 111 (.r 112)))])
               (.cond (.r 111)
                (.seq
                 /- R21 -/ (.pre (.nilb 6 5 1006 4) (.ops [.it (.one (.bslp 113 1 [(.c (.str ⟨#[102]⟩)), (.c (.str ⟨#[103]⟩)), (.c (.str ⟨#[112, 117, 116, 10]⟩))])),
      .it (.one (.fad 114 (.r 3) 2)),
      .it (.one (.load 115 (.r 114) 1 false)),
      .it (.one (.conv 116 .i64 (.r 115))),
      .it (.one (.bin 117 .rem (.r 116) (.c (.int .i64 (3))))),
      .it (.one (.idx 118 (.r 113) (.r 117) 1)),
      .it (.one (.load 119 (.r 118) 1 false)),
      .it (.one (.fad 120 (.r 6) 6)),
      .it (.one (.store (.r 120) (.r 119) 1))]))
                 (.seq
                  (.seq
                   /- R22 -/ (.ops [.it (.one (.mov 7 (.c (.int .i64 (0)))))])
                   (.block 1
                    (.loop (.pre (.mv [0, 3, 4, 6, 7] [(0, 0), (1, 1), (2, 2), (4, 4), (6, 6), (1006, 1006)])
                     (.seq
                      (.seq
                       /- R23 -/ (.ops [.it (.one (.mov 121 (.r 7))),
      .it (.one (.fad 122 (.r 3) 3)),
      .it (.one (.load 123 (.r 122) 1 false)),
      .it (.one (.conv 124 .i64 (.r 123))),
      .it (.one (.bin 125 .rem (.r 124) (.c (.int .i64 (4))))),
      .it (.one (.bin 126 .lss (.r 121) (.r 125)))])
                       (.cond (.r 126) .skip (.exit 1)))
                      (.seq
                       (.block 2
                        (.seq
                         /- R25 -/ (.ops [.it (.one (.fad 129 (.r 3) 4)),
      .it (.one (.load 130 (.r 129) 1 false)),
      .it (.one (.conv 131 .i64 (.r 130))),
      .it (.one (.mov 132 (.r 7))),
      .it (.one (.bin 133 .add (.r 131) (.r 132))),
      .it (.one (.bin 134 .rem (.r 133) (.c (.int .i64 (3))))),
      .it (.one (.bin 135 .eql (.r 134) (.c (.int .i64 (0)))))])
                         (.cond (.r 135)
                          /- R26 -/ (.draw [[], [0], [], [2], [2, 3], [2, 3, 4], [2, 3, 4, 5], [0, 1, 2, 3, 4, 5, 6], [0, 1, 2, 3, 4, 5, 6, 7], [0, 1, 2, 3, 4, 5, 6, 7, 8]] [.one (.fad 136 (.r 6) 5),
      .one (.load 137 (.r 136) 1 false),
      .one (.fad 138 (.r 3) 4),
      .one (.load 139 (.r 138) 1 false),
      .one (.conv 140 .i64 (.r 139)),
      .one (.callf (some 141) (.st 41) [(.r 140)]),
      .one (.bslp 142 4 [(.r 141)]),
      .one (.appd 143 (.r 137) (.r 142) 4 32),
      .one (.fad 144 (.r 6) 5),
      .one (.store (.r 144) (.r 143) 1)])
                          /- R27 -/ (.draw [[], [0], [], [], [3], [], [5], [], [7], [5, 6, 7, 8], [3, 4, 5, 6, 7, 8, 9], [2, 3, 4, 5, 6, 7, 8, 9, 10], [2, 3, 4, 5, 6, 7, 8, 9, 10, 11], [0, 1, 2, 3, 4, 5, 6, 7, 8, 9, 10, 11, 12], [0, 1, 2, 3, 4, 5, 6, 7, 8, 9, 10, 11, 12, 13], [0, 1, 2, 3, 4, 5, 6, 7, 8, 9, 10, 11, 12, 13, 14]] [.one (.fad 145 (.r 6) 5),
      .one (.load 146 (.r 145) 1 false),
      .one (.mov 147 (.r 0)),
      .one (.fad 148 (.r 3) 2),
      .one (.load 149 (.r 148) 1 false),
      .one (.mov 150 (.r 7)),
      .one (.conv 151 .u8 (.r 150)),
      .one (.fad 152 (.r 3) 3),
      .one (.load 153 (.r 152) 1 false),
      .one (.bin 154 .mul (.r 151) (.r 153)),
      .one (.bin 155 .add (.r 149) (.r 154)),
      .one (.callb (some 156) (.st 54) [(.r 147), (.c (.int .i64 (0))), (.r 155)]),
      .one (.bslp 157 4 [(.r 156)]),
      .one (.appd 158 (.r 146) (.r 157) 4 32),
      .one (.fad 159 (.r 6) 5),
      .one (.store (.r 159) (.r 158) 1)]))))
                       /- R24 -/ (.ops [.it (.one (.mov 127 (.r 7))),
      .it (.one (.bin 128 .add (.r 127) (.c (.int .i64 (1))))),
      .it (.one (.mov 7 (.r 128)))])))))))
                  (.seq
                   /- R28 -/ (.ops [.it (.one (.fad 160 (.r 3) 1)),
      .it (.one (.load 161 (.r 160) 1 false)),
      .it (.one (.bin 162 .rem (.r 161) (.c (.int .u8 (3))))),
      .it (.one (.bin 163 .gtr (.r 162) (.c (.int .u8 (0)))))])
                   (.cond (.r 163)
                    /- R29 -/ (.ops [.it (.one (.mov 164 (.r 0))),
      .it (.one (.fad 165 (.r 3) 1)),
      .it (.one (.load 166 (.r 165) 1 false)),
      .it (.one (.callo (some 167) (.st 55) [(.r 164), (.c (.int .i64 (0))), (.r 166)] [0, 1, 2] [])),
      .it (.one (.fad 168 (.r 6) 1)),
      .it (.one (.store (.r 168) (.r 167) 4))]) .skip))))
                (.seq
                 /- R4 -/ (.draw [[], [], [1], [0, 1, 2], [], [4], [4, 5], [0, 1, 2, 3, 4, 5, 6], [0, 1, 2, 3, 4, 5, 6, 7], [0, 1, 2, 3, 4, 5, 6, 7, 8], [0, 1, 2, 3, 4, 5, 6, 7, 8, 9]] [.one (.mov 16 (.r 0)),
      .one (.fad 17 (.r 3) 2),
      .one (.load 18 (.r 17) 1 false),
      .one (.callb (some 19) (.st 54) [(.r 16), (.c (.int .i64 (0))), (.r 18)]),
      .one (.fad 20 (.r 3) 4),
      .one (.load 21 (.r 20) 1 false),
      .one (.conv 22 .i64 (.r 21)),
      .one (.callf (some 23) (.st 41) [(.r 22)]),
      .one (.bslo 24 1006 4 [(.r 19), (.r 23)]),
      .one (.fad 25 (.r 6) 5),
      .one (.store (.r 25) (.r 24) 1)])
                 (.seq
                  (.seq
                   /- R5 -/ (.ops [.it (.one (.fad 26 (.r 3) 3)),
      .it (.one (.load 27 (.r 26) 1 false)),
      .it (.one (.bin 28 .rem (.r 27) (.c (.int .u8 (3))))),
      .it (.one (.bin 29 .gtr (.r 28) (.c (.int .u8 (0)))))])
                   (.cond (.r 29)
                    /- R6 -/ (.draw [[], [0], [], [], [3], [2, 3, 4], [0, 1, 2, 3, 4, 5], [0, 1, 2, 3, 4, 5, 6]] [.one (.fad 30 (.r 6) 5),
      .one (.load 31 (.r 30) 1 false),
      .one (.mov 32 (.r 0)),
      .one (.fad 33 (.r 3) 3),
      .one (.load 34 (.r 33) 1 false),
      .one (.callb (some 35) (.st 54) [(.r 32), (.c (.int .i64 (0))), (.r 34)]),
      .one (.idx 36 (.r 31) (.c (.int .i64 (1))) 4),
      .one (.store (.r 36) (.r 35) 4)]) .skip))
                  /- R7 -/ (.ops [.it (.one (.mov 37 (.r 0))),
      .it (.one (.fad 38 (.r 3) 1)),
      .it (.one (.load 39 (.r 38) 1 false)),
      .it (.one (.callo (some 40) (.st 55) [(.r 37), (.c (.int .i64 (0))), (.r 39)] [0, 1, 2] [])),
      .it (.one (.fad 41 (.r 6) 1)),
      .it (.one (.store (.r 41) (.r 40) 4))])))))))))))))
      (.seq
       /- R30 -/ (.pre (.frz 1006) (.ops [.it (.one (.load 169 (.r 6) 10 true)),
      .it (.one (.store (.r 4) (.r 169) 10))])) .ret)))))
theorem A42_ok : okFun Try.prog 42 170 3 A42 [.cell 4 10 true] [] = true := by kernel_rfl
/-- (*dyehouse/dyehouseref12.maker).last -/
def A43 : ACode :=
  (.seq
   /- R0 -/ (.ops [.it (.one (.boxp 5 (.r 1))),
      .it (.one (.alloc 8 8 [.int .i64 0, .int .i64 0, .int .i64 0, .int .i64 0, .int .i64 0, .sl [], .str .empty, .int .i64 0, .sl [], .sl []]))])
   (.seq
    /- R1 -/ (.ops [.it (.one (.mov 12 (.r 0))),
      .it (.one (.fad 13 (.r 5) 4)),
      .it (.one (.load 14 (.r 13) 1 false)),
      .it (.one (.callb (some 15) (.st 54) [(.r 12), (.c (.int .i64 (0))), (.r 14)])),
      .it (.one (.alloc 9 9 [.int .i64 0, .int .i64 0, .int .i64 0, .int .i64 0])),
      .it (.one (.store (.r 9) (.r 15) 4))])
    (.join
     (.seq
      /- R2 -/ (.ops [.it (.one (.mov 16 (.r 3))),
      .it (.one (.bin 17 .eql (.r 16) (.c (.int .i64 (1))))),
      .it (.one (.mov 18 (.r 17))),
      .it (.grp 18 false [.mov 19 (.r 2), .mov 20 (.r 3), .bin 21 .sub (.r 20) (.c (.int .i64 (1))), .bin 22 .eql (.r 19) (.r 21), .mov 23 (.r 22)]),
      .it (.grp 23 true [.fad 24 (.r 5) 1, .load 25 (.r 24) 1 false, .bin 26 .rem (.r 25) (.c (.int .u8 (3))), .bin 27 .eql (.r 26) (.c (.int .u8 (0)))]),
      .it (.grp 18 false [.pick 28 (.r 23) (.r 27) (.c (.bool false))]),
      .it (.one (.pick 29 (.r 18) (.c (.bool true)) (.r 28)))])
      (.cond (.r 29)
       (.seq
        (.seq
         /- R3 -/ (.ops [.it (.one (.fad 30 (.r 5) 4)),
      .it (.one (.load 31 (.r 30) 1 false)),
      .it (.one (.bin 32 .rem (.r 31) (.c (.int .u8 (7))))),
      .it (.one (.bin 33 .eql (.r 32) (.c (.int .u8 (6)))))])
         (.cond (.r 33)
          /- R4 -/ (.ops [.it (.one (.fad 34 (.r 5) 4)),
      .it (.one (.load 35 (.r 34) 1 false)),
      .it (.one (.conv 36 .i64 (.r 35))),
      .it (.one (.callf (some 37) (.st 41) [(.r 36)])),
      .it (.one (.store (.r 9) (.r 37) 4))]) .skip))
        (.seq
         /- R5 -/ (.ops [.it (.one (.load 38 (.r 9) 4 true)),
      .it (.one (.bslp 39 4 [(.r 38)])),
      .it (.one (.build 40 [.int .i64 0, .int .i64 0, .int .i64 0, .int .i64 0, .int .i64 0, .sl [], .str .empty, .int .i64 0, .sl [], .sl []] [(0, 1, (.c (.int .i64 (23)))), (5, 1, (.r 39))])),
      .it (.one (.store (.r 8) (.r 40) 10))]) .ret)) .skip))
     (.pre (.mv [2, 3, 5, 8, 9] [(0, 0), (1, 1), (2, 2), (8, 8), (9, 9)])
     (.seq
      /- R6 -/ (.ops [.it (.one (.fad 41 (.r 5) 2)),
      .it (.one (.load 42 (.r 41) 1 false)),
      .it (.one (.mov 43 (.r 3))),
      .it (.one (.callf (some 44) (.st 56) [(.r 42), (.r 43)])),
      .it (.one (.mov 10 (.r 44)))])
      (.join
       (.seq
        /- R7 -/ (.ops [.it (.one (.mov 45 (.r 2))),
      .it (.one (.mov 46 (.r 3))),
      .it (.one (.bin 47 .sub (.r 46) (.c (.int .i64 (1))))),
      .it (.one (.bin 48 .lss (.r 45) (.r 47)))])
        (.cond (.r 48)
         /- R8 -/ (.ops [.it (.one (.mov 49 (.r 2))),
      .it (.one (.bin 50 .add (.r 49) (.c (.int .i64 (1))))),
      .it (.one (.callf (some 51) (.st 44) [(.r 50)])),
      .it (.one (.mov 10 (.r 51)))]) .skip))
       (.pre (.mv [3, 5, 8, 9, 10] [(0, 0), (1, 1), (2, 2), (8, 8), (9, 9)])
       (.seq
        (.seq
         /- R9 -/ (.ops [.it (.one (.fad 52 (.r 5) 1)),
      .it (.one (.load 53 (.r 52) 1 false)),
      .it (.one (.bin 54 .rem (.r 53) (.c (.int .u8 (4)))))])
         (.block 0
          (.seq
           (.seq
            /- R10 -/ (.ops [.it (.one (.bin 56 .eql (.r 54) (.c (.int .u8 (0))))),
      .it (.one (.mov 55 (.r 56)))])
            (.cond (.r 55) .skip
             /- R11 -/ (.ops [.it (.one (.bin 57 .eql (.r 54) (.c (.int .u8 (1))))),
      .it (.one (.mov 55 (.r 57)))])))
           (.cond (.r 55)
            (.seq
             (.seq
              /- R12 -/ (.ops [.it (.one (.fad 58 (.r 5) 1)),
      .it (.one (.load 59 (.r 58) 1 false)),
      .it (.one (.bin 60 .rem (.r 59) (.c (.int .u8 (8))))),
      .it (.one (.bin 61 .lss (.r 60) (.c (.int .u8 (4)))))])
              (.cond (.r 61)
               (.seq
                /- R13 -/ (.draw [[], [0], [], [], [3], [], [3, 4, 5], [2, 3, 4, 5, 6], [0, 1, 2, 3, 4, 5, 6, 7], [0, 1, 2, 3, 4, 5, 6, 7, 8]] [.one (.load 62 (.r 9) 4 true),
      .one (.bslp 63 4 [(.r 62)]),
      .one (.mov 64 (.r 10)),
      .one (.fad 65 (.r 5) 3),
      .one (.load 66 (.r 65) 1 false),
      .one (.mov 67 (.r 3)),
      .one (.callf (some 68) (.st 56) [(.r 66), (.r 67)]),
      .one (.bslp 69 1 [(.r 64), (.r 68)]),
      .one (.build 70 [.int .i64 0, .int .i64 0, .int .i64 0, .int .i64 0, .int .i64 0, .sl [], .str .empty, .int .i64 0, .sl [], .sl []] [(0, 1, (.c (.int .i64 (21)))), (5, 1, (.r 63)), (8, 1, (.r 69))]),
      .one (.store (.r 8) (.r 70) 10)]) .ret) .skip))
             (.seq
              /- R14 -/ (.draw [[], [0], [], [2], [], [2, 3, 4], [], [2, 3, 4, 5, 6], [0, 1, 2, 3, 4, 5, 6, 7], [0, 1, 2, 3, 4, 5, 6, 7, 8]] [.one (.load 71 (.r 9) 4 true),
      .one (.bslp 72 4 [(.r 71)]),
      .one (.fad 73 (.r 5) 3),
      .one (.load 74 (.r 73) 1 false),
      .one (.mov 75 (.r 3)),
      .one (.callf (some 76) (.st 56) [(.r 74), (.r 75)]),
      .one (.mov 77 (.r 10)),
      .one (.bslp 78 1 [(.r 76), (.r 77)]),
      .one (.build 79 [.int .i64 0, .int .i64 0, .int .i64 0, .int .i64 0, .int .i64 0, .sl [], .str .empty, .int .i64 0, .sl [], .sl []] [(0, 1, (.c (.int .i64 (21)))), (5, 1, (.r 72)), (8, 1, (.r 78))]),
      .one (.store (.r 8) (.r 79) 10)]) .ret))
            (.seq
             /- R15 -/ (.ops [.it (.one (.bin 81 .eql (.r 54) (.c (.int .u8 (2))))),
      .it (.one (.mov 80 (.r 81)))])
             (.cond (.r 80)
              (.seq
               /- R16 -/ (.draw [[], [0], [], [2], [2, 3], [2, 3, 4], [2, 3, 4, 5], [], [7], [], [7, 8, 9], [], [11], [], [7, 8, 9, 10, 11, 12, 13], [], [7, 8, 9, 10, 11, 12, 13, 14, 15], [0, 1, 2, 3, 4, 5, 6, 7, 8, 9, 10, 11, 12, 13, 14, 15, 16], [], [0, 1, 2, 3, 4, 5, 6, 7, 8, 9, 10, 11, 12, 13, 14, 15, 16, 17, 18]] [.one (.load 82 (.r 9) 4 true),
      .one (.bslp 83 4 [(.r 82)]),
      .one (.fad 84 (.r 5) 2),
      .one (.load 85 (.r 84) 1 false),
      .one (.conv 86 .i64 (.r 85)),
      .one (.bin 87 .rem (.r 86) (.c (.int .i64 (3)))),
      .one (.bslp 88 1 [(.r 87), (.c (.int .i64 (5)))]),
      .one (.fad 89 (.r 5) 2),
      .one (.load 90 (.r 89) 1 false),
      .one (.mov 91 (.r 3)),
      .one (.callf (some 92) (.st 56) [(.r 90), (.r 91)]),
      .one (.fad 93 (.r 5) 3),
      .one (.load 94 (.r 93) 1 false),
      .one (.mov 95 (.r 3)),
      .one (.callf (some 96) (.st 56) [(.r 94), (.r 95)]),
      .one (.mov 97 (.r 10)),
      .one (.bslp 98 1 [(.r 92), (.r 96), (.r 97)]),
      .one (.build 99 [.int .i64 0, .int .i64 0, .int .i64 0, .int .i64 0, .int .i64 0, .sl [], .str .empty, .int .i64 0, .sl [], .sl []] [(0, 1, (.c (.int .i64 (22)))), (5, 1, (.r 83)), (9, 1, (.r 88)), (8, 1, (.r 98))]),
      .one (.alloc 11 11 [.int .i64 0, .int .i64 0, .int .i64 0, .int .i64 0, .int .i64 0, .sl [], .str .empty, .int .i64 0, .sl [], .sl []]),
      .one (.store (.r 11) (.r 99) 10)])
               (.seq
                (.seq
                 /- R17 -/ (.ops [.it (.one (.fad 100 (.r 5) 4)),
      .it (.one (.load 101 (.r 100) 1 false)),
      .it (.one (.bin 102 .rem (.r 101) (.c (.int .u8 (2))))),
      .it (.one (.bin 103 .eql (.r 102) (.c (.int .u8 (0)))))])
                 (.cond (.r 103)
                  /- R18 -/ (.draw [[], [0], [0, 1], [], [3], [], [3, 4, 5], [], [3, 4, 5, 6, 7], [0, 1, 2], [0, 1, 2, 3, 4, 5, 6, 9], [0, 1, 2, 3, 4, 5, 6, 7, 8, 9, 10], [0, 1, 2, 3, 4, 5, 6, 7, 8, 9, 10, 11]] [.one (.fad 104 (.r 11) 9),
      .one (.load 105 (.r 104) 1 false),
      .one (.slc 106 (.r 105) none (some (.c (.int .i64 (1)))) 1),
      .one (.fad 107 (.r 5) 3),
      .one (.load 108 (.r 107) 1 false),
      .one (.mov 109 (.r 3)),
      .one (.callf (some 110) (.st 56) [(.r 108), (.r 109)]),
      .one (.mov 111 (.r 10)),
      .one (.bslp 112 1 [(.r 110), (.r 111)]),
      .one (.fad 113 (.r 11) 9),
      .one (.store (.r 113) (.r 106) 1),
      .one (.fad 114 (.r 11) 8),
      .one (.store (.r 114) (.r 112) 1)]) .skip))
                (.seq
                 /- R19 -/ (.ops [.it (.one (.load 115 (.r 11) 10 true)),
      .it (.one (.store (.r 8) (.r 115) 10))]) .ret))) .skip))))))
        (.seq
         /- R20 -/ (.ops [.it (.one (.mov 116 (.r 10))),
      .it (.one (.bslp 117 1 [(.r 116)])),
      .it (.one (.build 118 [.int .i64 0, .int .i64 0, .int .i64 0, .int .i64 0, .int .i64 0, .sl [], .str .empty, .int .i64 0, .sl [], .sl []] [(0, 1, (.c (.int .i64 (20)))), (8, 1, (.r 117))])),
      .it (.one (.store (.r 8) (.r 118) 10))]) .ret)))))))))
theorem A43_ok : okFun Try.prog 43 119 3 A43 [.cell 8 10 true] [] = true := by kernel_rfl
/-- dyehouse/dyehouseref12.label -/
def A44 : ACode :=
  (.seq
   /- R0 -/ (.ops [.it (.one (.mov 2 (.c (.str ⟨#[]⟩))))])
   (.seq
    (.seq
     /- R1 -/ (.ops [.it (.one (.mov 3 (.r 0))),
      .it (.one (.bin 4 .eql (.r 3) (.c (.int .i64 (0)))))])
     (.cond (.r 4)
      (.seq
       /- R2 -/ (.ops [.it (.one (.mov 2 (.c (.str ⟨#[101, 110, 116, 114, 121]⟩))))]) .ret) .skip))
    (.seq
     /- R3 -/ (.ops [.it (.one (.mov 5 (.r 0))),
      .it (.one (.mov 6 (.r 0))),
      .it (.one (.bin 7 .add (.r 6) (.c (.int .i64 (1))))),
      .it (.one (.sslc 8 (.c (.str ⟨#[48, 49, 50, 51, 52, 53, 54, 55, 56, 57]⟩)) (some (.r 5)) (some (.r 7)))),
      .it (.one (.bin 9 .add (.c (.str ⟨#[98]⟩)) (.r 8))),
      .it (.one (.mov 2 (.r 9)))]) .ret)))
theorem A44_ok : okFun Try.prog 44 10 0 A44 [.tmp 2] [] = true := by kernel_rfl
/-- math/bits.OnesCount64 -/
def A45 : ACode :=
  (.seq
   /- R0 -/ (.ops [.it (.one (.mov 2 (.c (.int .i64 (0)))))])
   (.seq
    /- R1 -/ (.ops [.it (.one (.mov 3 (.r 0))),
      .it (.one (.bin 4 .shr (.r 3) (.c (.int .u64 (1))))),
      .it (.one (.bin 5 .and (.r 4) (.c (.int .u64 (6148914691236517205))))),
      .it (.one (.mov 6 (.r 0))),
      .it (.one (.bin 7 .and (.r 6) (.c (.int .u64 (6148914691236517205))))),
      .it (.one (.bin 8 .add (.r 5) (.r 7))),
      .it (.one (.mov 0 (.r 8)))])
    (.seq
     /- R2 -/ (.ops [.it (.one (.mov 9 (.r 0))),
      .it (.one (.bin 10 .shr (.r 9) (.c (.int .u64 (2))))),
      .it (.one (.bin 11 .and (.r 10) (.c (.int .u64 (3689348814741910323))))),
      .it (.one (.mov 12 (.r 0))),
      .it (.one (.bin 13 .and (.r 12) (.c (.int .u64 (3689348814741910323))))),
      .it (.one (.bin 14 .add (.r 11) (.r 13))),
      .it (.one (.mov 0 (.r 14)))])
     (.seq
      /- R3 -/ (.ops [.it (.one (.mov 15 (.r 0))),
      .it (.one (.bin 16 .shr (.r 15) (.c (.int .u64 (4))))),
      .it (.one (.mov 17 (.r 0))),
      .it (.one (.bin 18 .add (.r 16) (.r 17))),
      .it (.one (.bin 19 .and (.r 18) (.c (.int .u64 (1085102592571150095))))),
      .it (.one (.mov 0 (.r 19)))])
      (.seq
       /- R4 -/ (.ops [.it (.one (.mov 20 (.r 0))),
      .it (.one (.mov 21 (.r 0))),
      .it (.one (.bin 22 .shr (.r 21) (.c (.int .u64 (8))))),
      .it (.one (.bin 23 .add (.r 20) (.r 22))),
      .it (.one (.mov 0 (.r 23)))])
       (.seq
        /- R5 -/ (.ops [.it (.one (.mov 24 (.r 0))),
      .it (.one (.mov 25 (.r 0))),
      .it (.one (.bin 26 .shr (.r 25) (.c (.int .u64 (16))))),
      .it (.one (.bin 27 .add (.r 24) (.r 26))),
      .it (.one (.mov 0 (.r 27)))])
        (.seq
         /- R6 -/ (.ops [.it (.one (.mov 28 (.r 0))),
      .it (.one (.mov 29 (.r 0))),
      .it (.one (.bin 30 .shr (.r 29) (.c (.int .u64 (32))))),
      .it (.one (.bin 31 .add (.r 28) (.r 30))),
      .it (.one (.mov 0 (.r 31)))])
         (.seq
          /- R7 -/ (.ops [.it (.one (.mov 32 (.r 0))),
      .it (.one (.conv 33 .i64 (.r 32))),
      .it (.one (.bin 34 .and (.r 33) (.c (.int .i64 (127))))),
      .it (.one (.mov 2 (.r 34)))]) .ret))))))))
theorem A45_ok : okFun Try.prog 45 35 0 A45 [.tmp 2] [] = true := by kernel_rfl
/-- (*dyehouse/graph.Graph).post -/
def A46 : ACode :=
  (.seq
   /- R0 -/ (.ops [.it (.one (.mov 2 (.c (.sl []))))])
   (.seq
    /- R1 -/ (.ops [.it (.one (.mov 10 (.r 0))),
      .it (.one (.callf (some 11) (.st 29) [(.r 10)])),
      .it (.one (.callo (some 12) (.st 36) [(.r 11)] [] [60, 61])),
      .it (.one (.allocm 3 3 [.nilp])),
      .it (.one (.store (.r 3) (.r 12) 1))])
    (.seq
     /- R2 -/ (.ops [.it (.one (.nilarr 4 4 1))])
     (.seq
      /- R3 -/ (.ops [.it (.one (.alloca 5 5 1005 2))])
      (.seq
       /- R4 -/ (.ops [.it (.one (.mkfn 13 57 [(.r 3), (.r 5)])),
      .it (.one (.mov 6 (.r 13)))])
       (.seq
        /- R5 -/ (.ops [.it (.one (.mov 14 (.r 6))),
      .it (.one (.callo (some 15) (.dy (.r 14)) [(.c (.int .i64 (0)))] [3, 60, 61, 5, 1005] []))])
        (.seq
         (.block 0
          (.loop (.pre (.mv [0, 4, 5, 6] [(3, 3), (4, 4), (5, 5), (60, 60), (61, 61), (1005, 1005)])
           (.seq
            (.seq
             /- R6 -/ (.ops [.it (.one (.load 16 (.r 5) 1 false)),
      .it (.one (.len 17 (.r 16))),
      .it (.one (.bin 18 .gtr (.r 17) (.c (.int .i64 (0)))))])
             (.cond (.r 18) .skip (.exit 0)))
            (.block 1
             (.seq
              /- R7 -/ (.ops [.it (.one (.load 19 (.r 5) 1 false)),
      .it (.one (.load 20 (.r 5) 1 false)),
      .it (.one (.len 21 (.r 20))),
      .it (.one (.bin 22 .sub (.r 21) (.c (.int .i64 (1))))),
      .it (.one (.idx 23 (.r 19) (.r 22) 2)),
      .it (.one (.mov 7 (.r 23)))])
              (.seq
               /- R8 -/ (.draw [[], [0], [0, 1], [0, 1, 2], [], [4], [4, 5], [4, 5, 6], [0, 1, 2, 3], [0, 1, 2, 3, 4, 5, 6, 7, 8]] [.one (.mov 24 (.r 7)),
      .one (.nilc 25 (.r 24)),
      .one (.aix 26 (.r 25) (.c (.int .i64 (0))) 1 2),
      .one (.load 27 (.r 26) 1 false),
      .one (.mov 28 (.r 7)),
      .one (.nilc 29 (.r 28)),
      .one (.aix 30 (.r 29) (.c (.int .i64 (1))) 1 2),
      .one (.load 31 (.r 30) 1 false),
      .one (.mov 8 (.r 27)),
      .one (.mov 9 (.r 31))])
               (.seq
                (.seq
                 /- R9 -/ (.ops [.it (.one (.mov 32 (.r 9))),
      .it (.one (.mov 33 (.r 0))),
      .it (.one (.nilc 34 (.r 33))),
      .it (.one (.fad 35 (.r 34) 0)),
      .it (.one (.load 36 (.r 35) 1 false)),
      .it (.one (.mov 37 (.r 8))),
      .it (.one (.idx 38 (.r 36) (.r 37) 1)),
      .it (.one (.load 39 (.r 38) 1 false)),
      .it (.one (.len 40 (.r 39))),
      .it (.one (.bin 41 .eql (.r 32) (.r 40)))])
                 (.cond (.r 41)
                  (.seq
                   /- R10 -/ (.ops [.it (.one (.load 42 (.r 5) 1 false)),
      .it (.one (.load 43 (.r 5) 1 false)),
      .it (.one (.len 44 (.r 43))),
      .it (.one (.bin 45 .sub (.r 44) (.c (.int .i64 (1))))),
      .it (.one (.slc 46 (.r 42) none (some (.r 45)) 2)),
      .it (.one (.store (.r 5) (.r 46) 1))])
                   (.seq
                    /- R11 -/ (.ops [.it (.one (.mov 47 (.r 4))),
      .it (.one (.mov 48 (.r 8))),
      .it (.one (.bslp 49 1 [(.r 48)])),
      .it (.one (.appd 50 (.r 47) (.r 49) 1 8)),
      .it (.one (.mov 4 (.r 50)))]) (.exit 1))) .skip))
                (.seq
                 /- R12 -/ (.draw [[], [0], [0, 1], [0, 1, 2], [0, 1, 2, 3], [0], [0, 1, 2, 3, 4, 5], [0, 1, 2, 3, 4, 5, 6]] [.one (.mov 51 (.r 7)),
      .one (.nilc 52 (.r 51)),
      .one (.aix 53 (.r 52) (.c (.int .i64 (1))) 1 2),
      .one (.load 54 (.r 53) 1 false),
      .one (.bin 55 .add (.r 54) (.c (.int .i64 (1)))),
      .one (.nilc 56 (.r 51)),
      .one (.aix 57 (.r 56) (.c (.int .i64 (1))) 1 2),
      .one (.store (.r 57) (.r 55) 1)])
                 /- R13 -/ (.ops [.it (.one (.mov 58 (.r 6))),
      .it (.one (.mov 59 (.r 0))),
      .it (.one (.nilc 60 (.r 59))),
      .it (.one (.fad 61 (.r 60) 0)),
      .it (.one (.load 62 (.r 61) 1 false)),
      .it (.one (.mov 63 (.r 8))),
      .it (.one (.idx 64 (.r 62) (.r 63) 1)),
      .it (.one (.load 65 (.r 64) 1 false)),
      .it (.one (.mov 66 (.r 9))),
      .it (.one (.idx 67 (.r 65) (.r 66) 1)),
      .it (.one (.load 68 (.r 67) 1 false)),
      .it (.one (.callo (some 69) (.dy (.r 58)) [(.r 68)] [3, 60, 61, 5, 1005] []))]))))))))))
         (.seq
          /- R14 -/ (.ops [.it (.one (.mov 70 (.r 4))),
      .it (.one (.mov 2 (.r 70)))]) .ret))))))))
theorem A46_ok : okFun Try.prog 46 71 0 A46 [.tmp 2] [4] = true := by kernel_rfl
/-- slices.Reverse[[]int,int] -/
def A47 : ACode :=
  (.seq
   /- R0 -/ (.ops [.it (.one (.mov 4 (.r 0))),
      .it (.one (.len 5 (.r 4))),
      .it (.one (.bin 6 .sub (.r 5) (.c (.int .i64 (1))))),
      .it (.one (.mov 2 (.c (.int .i64 (0))))),
      .it (.one (.mov 3 (.r 6)))])
   (.block 0
    (.loop (.pre (.mv [0, 2, 3] [(0, 0)])
     (.seq
      (.seq
       /- R1 -/ (.ops [.it (.one (.mov 7 (.r 2))),
      .it (.one (.mov 8 (.r 3))),
      .it (.one (.bin 9 .lss (.r 7) (.r 8)))])
       (.cond (.r 9) .skip (.exit 0)))
      (.seq
       (.block 1
        /- R3 -/ (.draw [[], [], [], [], [], [], [4, 5], [4, 5, 6], [], [], [8, 9], [8, 9, 10], [0, 1, 4, 5, 6, 7, 8, 9, 10, 11], [0, 1, 4, 5, 6, 7, 8, 9, 10, 11, 12], [0, 1, 2, 3, 4, 5, 6, 7, 8, 9, 10, 11, 12, 13], [0, 1, 2, 3, 4, 5, 6, 7, 8, 9, 10, 11, 12, 13, 14]] [.one (.mov 14 (.r 0)),
      .one (.mov 15 (.r 2)),
      .one (.mov 16 (.r 0)),
      .one (.mov 17 (.r 3)),
      .one (.mov 18 (.r 0)),
      .one (.mov 19 (.r 3)),
      .one (.idx 20 (.r 18) (.r 19) 1),
      .one (.load 21 (.r 20) 1 false),
      .one (.mov 22 (.r 0)),
      .one (.mov 23 (.r 2)),
      .one (.idx 24 (.r 22) (.r 23) 1),
      .one (.load 25 (.r 24) 1 false),
      .one (.idx 26 (.r 14) (.r 15) 1),
      .one (.store (.r 26) (.r 21) 1),
      .one (.idx 27 (.r 16) (.r 17) 1),
      .one (.store (.r 27) (.r 25) 1)]))
       /- R2 -/ (.ops [.it (.one (.mov 10 (.r 2))),
      .it (.one (.bin 11 .add (.r 10) (.c (.int .i64 (1))))),
      .it (.one (.mov 12 (.r 3))),
      .it (.one (.bin 13 .sub (.r 12) (.c (.int .i64 (1))))),
      .it (.one (.mov 2 (.r 11))),
      .it (.one (.mov 3 (.r 13)))])))))))
theorem A47_ok : okFun Try.prog 47 28 1 A47 [] [] = true := by kernel_rfl
/-- (*dyehouse/graph.Graph).Pred -/
def A48 : ACode :=
  (.seq
   /- R0 -/ (.ops [.it (.one (.mov 4 (.c (.sl []))))])
   (.seq
    /- R1 -/ (.ops [.it (.one (.mov 5 (.r 0))),
      .it (.one (.mov 6 (.r 1))),
      .it (.one (.callf (some 7) (.st 58) [(.r 5), (.r 6), (.c (.int .i64 (1)))])),
      .it (.one (.mov 4 (.r 7)))]) .ret))
theorem A48_ok : okFun Try.prog 48 8 0 A48 [.tmp 4] [] = true := by kernel_rfl
/-- (*dyehouse/dom.Tree).meet -/
def A49 : ACode :=
  (.seq
   /- R0 -/ (.ops [.it (.one (.mov 6 (.c (.int .i64 (0)))))])
   (.seq
    (.block 0
     (.loop (.pre (.mv [0, 1, 2] [])
      (.seq
       (.seq
        /- R1 -/ (.ops [.it (.one (.mov 7 (.r 1))),
      .it (.one (.mov 8 (.r 2))),
      .it (.one (.bin 9 .neq (.r 7) (.r 8)))])
        (.cond (.r 9) .skip (.exit 0)))
       (.block 1
        (.seq
         (.block 2
          (.loop (.pre (.mv [0, 1, 2] [])
           (.seq
            (.seq
             /- R2 -/ (.draw [[], [0], [0, 1], [0, 1, 2], [], [0, 1, 2, 3, 4], [0, 1, 2, 3, 4, 5], [], [7], [7, 8], [7, 8, 9], [], [7, 8, 9, 10, 11], [7, 8, 9, 10, 11, 12], [0, 1, 2, 3, 4, 5, 6, 7, 8, 9, 10, 11, 12, 13]] [.one (.mov 10 (.r 0)),
      .one (.nilc 11 (.r 10)),
      .one (.fad 12 (.r 11) 1),
      .one (.load 13 (.r 12) 1 false),
      .one (.mov 14 (.r 1)),
      .one (.idx 15 (.r 13) (.r 14) 1),
      .one (.load 16 (.r 15) 1 false),
      .one (.mov 17 (.r 0)),
      .one (.nilc 18 (.r 17)),
      .one (.fad 19 (.r 18) 1),
      .one (.load 20 (.r 19) 1 false),
      .one (.mov 21 (.r 2)),
      .one (.idx 22 (.r 20) (.r 21) 1),
      .one (.load 23 (.r 22) 1 false),
      .one (.bin 24 .gtr (.r 16) (.r 23))])
             (.cond (.r 24) .skip (.exit 2)))
            (.block 3
             /- R3 -/ (.ops [.it (.one (.mov 25 (.r 0))),
      .it (.one (.nilc 26 (.r 25))),
      .it (.one (.fad 27 (.r 26) 0)),
      .it (.one (.load 28 (.r 27) 1 false)),
      .it (.one (.mov 29 (.r 1))),
      .it (.one (.idx 30 (.r 28) (.r 29) 1)),
      .it (.one (.load 31 (.r 30) 1 false)),
      .it (.one (.mov 1 (.r 31)))]))))))
         (.block 4
          (.loop (.pre (.mv [0, 1, 2] [])
           (.seq
            (.seq
             /- R4 -/ (.draw [[], [0], [0, 1], [0, 1, 2], [], [0, 1, 2, 3, 4], [0, 1, 2, 3, 4, 5], [], [7], [7, 8], [7, 8, 9], [], [7, 8, 9, 10, 11], [7, 8, 9, 10, 11, 12], [0, 1, 2, 3, 4, 5, 6, 7, 8, 9, 10, 11, 12, 13]] [.one (.mov 32 (.r 0)),
      .one (.nilc 33 (.r 32)),
      .one (.fad 34 (.r 33) 1),
      .one (.load 35 (.r 34) 1 false),
      .one (.mov 36 (.r 2)),
      .one (.idx 37 (.r 35) (.r 36) 1),
      .one (.load 38 (.r 37) 1 false),
      .one (.mov 39 (.r 0)),
      .one (.nilc 40 (.r 39)),
      .one (.fad 41 (.r 40) 1),
      .one (.load 42 (.r 41) 1 false),
      .one (.mov 43 (.r 1)),
      .one (.idx 44 (.r 42) (.r 43) 1),
      .one (.load 45 (.r 44) 1 false),
      .one (.bin 46 .gtr (.r 38) (.r 45))])
             (.cond (.r 46) .skip (.exit 4)))
            (.block 5
             /- R5 -/ (.ops [.it (.one (.mov 47 (.r 0))),
      .it (.one (.nilc 48 (.r 47))),
      .it (.one (.fad 49 (.r 48) 0)),
      .it (.one (.load 50 (.r 49) 1 false)),
      .it (.one (.mov 51 (.r 2))),
      .it (.one (.idx 52 (.r 50) (.r 51) 1)),
      .it (.one (.load 53 (.r 52) 1 false)),
      .it (.one (.mov 2 (.r 53)))]))))))))))))
    (.seq
     /- R6 -/ (.ops [.it (.one (.mov 54 (.r 1))),
      .it (.one (.mov 6 (.r 54)))]) .ret)))
theorem A49_ok : okFun Try.prog 49 55 0 A49 [.tmp 6] [] = true := by kernel_rfl
/-- dyehouse/op.Last -/
def A50 : ACode :=
  (.seq
   /- R0 -/ (.ops [.it (.one (.mov 2 (.c (.bool false))))])
   (.seq
    /- R1 -/ (.ops [.it (.one (.mov 3 (.r 0))),
      .it (.one (.bin 4 .geq (.r 3) (.c (.int .i64 (20))))),
      .it (.one (.mov 5 (.r 4))),
      .it (.grp 5 true [.mov 6 (.r 0), .bin 7 .leq (.r 6) (.c (.int .i64 (23)))]),
      .it (.one (.pick 8 (.r 5) (.r 7) (.c (.bool false)))),
      .it (.one (.mov 2 (.r 8)))]) .ret))
theorem A50_ok : okFun Try.prog 50 9 0 A50 [.tmp 2] [] = true := by kernel_rfl
/-- slices.IndexFunc[[]dyehouse/api.Block,dyehouse/api.Block] -/
def A51 : ACode :=
  (.seq
   /- R0 -/ (.ops [.it (.one (.mov 4 (.c (.int .i64 (0)))))])
   (.seq
    (.seq
     /- R1 -/ (.ops [.it (.one (.mov 6 (.r 0))),
      .it (.one (.len 7 (.r 6))),
      .it (.one (.mov 8 (.c (.int .i64 (0)))))])
     (.block 0
      (.loop (.pre (.mv [0, 1, 7, 8] [])
       (.seq
        /- R2 -/ (.ops [.it (.one (.bin 9 .lss (.r 8) (.r 7)))])
        (.seq
         (.cond (.r 9) .skip (.exit 0))
         (.seq
          (.block 1
           (.seq
            /- R3 -/ (.ops [.it (.one (.mov 10 (.r 8))),
      .it (.one (.mov 5 (.r 10)))])
            (.seq
             /- R4 -/ (.ops [.it (.one (.mov 11 (.r 1))),
      .it (.one (.mov 12 (.r 0))),
      .it (.one (.mov 13 (.r 5))),
      .it (.one (.idx 14 (.r 12) (.r 13) 4)),
      .it (.one (.load 15 (.r 14) 4 true)),
      .it (.one (.callf (some 16) (.dy (.r 11)) [(.r 15)]))])
             (.cond (.r 16)
              (.seq
               /- R5 -/ (.ops [.it (.one (.mov 17 (.r 5))),
      .it (.one (.mov 4 (.r 17)))]) .ret) .skip))))
          /- R6 -/ (.ops [.it (.one (.bin 18 .add (.r 8) (.c (.int .i64 (1))))),
      .it (.one (.mov 8 (.r 18)))]))))))))
    (.seq
     /- R7 -/ (.ops [.it (.one (.mov 4 (.c (.int .i64 (-1)))))]) .ret)))
theorem A51_ok : okFun Try.prog 51 19 0 A51 [.tmp 4] [] = true := by kernel_rfl
/-- dyehouse/ir.Find$1 -/
def A52 : ACode :=
  (.seq
   /- R0 -/ (.ops [.it (.one (.boxp 2 (.r 0))),
      .it (.one (.mov 3 (.c (.bool false))))])
   (.seq
    /- R1 -/ (.ops [.it (.one (.fad 4 (.r 2) 0)),
      .it (.one (.load 5 (.r 4) 1 false)),
      .it (.one (.load 6 (.r 1) 1 false)),
      .it (.one (.bin 7 .eql (.r 5) (.r 6))),
      .it (.one (.mov 3 (.r 7)))]) .ret))
theorem A52_ok : okFun Try.prog 52 8 0 A52 [.tmp 3] [] = true := by kernel_rfl
/-- slices.Index[[]int,int] -/
def A53 : ACode :=
  (.seq
   /- R0 -/ (.ops [.it (.one (.mov 4 (.c (.int .i64 (0)))))])
   (.seq
    (.seq
     /- R1 -/ (.ops [.it (.one (.mov 6 (.r 0))),
      .it (.one (.len 7 (.r 6))),
      .it (.one (.mov 8 (.c (.int .i64 (0)))))])
     (.block 0
      (.loop (.pre (.mv [0, 1, 7, 8] [])
       (.seq
        /- R2 -/ (.ops [.it (.one (.bin 9 .lss (.r 8) (.r 7)))])
        (.seq
         (.cond (.r 9) .skip (.exit 0))
         (.seq
          (.block 1
           (.seq
            /- R3 -/ (.ops [.it (.one (.mov 10 (.r 8))),
      .it (.one (.mov 5 (.r 10)))])
            (.seq
             /- R4 -/ (.ops [.it (.one (.mov 11 (.r 1))),
      .it (.one (.mov 12 (.r 0))),
      .it (.one (.mov 13 (.r 5))),
      .it (.one (.idx 14 (.r 12) (.r 13) 1)),
      .it (.one (.load 15 (.r 14) 1 false)),
      .it (.one (.bin 16 .eql (.r 11) (.r 15)))])
             (.cond (.r 16)
              (.seq
               /- R5 -/ (.ops [.it (.one (.mov 17 (.r 5))),
      .it (.one (.mov 4 (.r 17)))]) .ret) .skip))))
          /- R6 -/ (.ops [.it (.one (.bin 18 .add (.r 8) (.c (.int .i64 (1))))),
      .it (.one (.mov 8 (.r 18)))]))))))))
    (.seq
     /- R7 -/ (.ops [.it (.one (.mov 4 (.c (.int .i64 (-1)))))]) .ret)))
theorem A53_ok : okFun Try.prog 53 19 0 A53 [.tmp 4] [] = true := by kernel_rfl
/-- (*dyehouse/dyehouseref12.maker).use -/
def A54 : ACode :=
  (.seq
   /- R0 -/ (.ops [.it (.one (.alloc 6 6 [.int .i64 0, .int .i64 0, .int .i64 0, .int .i64 0]))])
   (.seq
    /- R1 -/ (.ops [.it (.one (.mov 9 (.r 0))),
      .it (.one (.mov 10 (.r 1))),
      .it (.one (.nilc 11 (.r 9))),
      .it (.one (.fad 12 (.r 11) 5)),
      .it (.one (.aix 13 (.r 12) (.r 10) 1 2)),
      .it (.one (.load 14 (.r 13) 1 false)),
      .it (.one (.mov 7 (.r 14)))])
    (.seq
     /- R2 -/ (.ops [.it (.one (.mov 15 (.r 7))),
      .it (.one (.mov 16 (.r 2))),
      .it (.one (.conv 17 .i64 (.r 16))),
      .it (.one (.mov 18 (.r 7))),
      .it (.one (.len 19 (.r 18))),
      .it (.one (.bin 20 .rem (.r 17) (.r 19))),
      .it (.one (.idx 21 (.r 15) (.r 20) 1)),
      .it (.one (.load 22 (.r 21) 1 false)),
      .it (.one (.mov 8 (.r 22)))])
     (.seq
      (.seq
       /- R3 -/ (.ops [.it (.one (.mov 23 (.r 0))),
      .it (.one (.nilc 24 (.r 23))),
      .it (.one (.fad 25 (.r 24) 7)),
      .it (.one (.load 26 (.r 25) 1 false)),
      .it (.one (.mov 27 (.r 8))),
      .it (.one (.callb (some 28) (.st 24) [(.r 26), (.r 27)])),
      .it (.one (.un 29 .not (.r 28)))])
       (.cond (.r 29)
        /- R4 -/ (.ops [.it (.one (.mov 30 (.r 7))),
      .it (.one (.idx 31 (.r 30) (.c (.int .i64 (0))) 1)),
      .it (.one (.load 32 (.r 31) 1 false)),
      .it (.one (.mov 8 (.r 32)))]) .skip))
      (.seq
       /- R5 -/ (.ops [.it (.one (.mov 33 (.r 8))),
      .it (.one (.callf (some 34) (.st 40) [(.r 33)])),
      .it (.one (.store (.r 6) (.r 34) 4))]) .ret)))))
theorem A54_ok : okFun Try.prog 54 35 0 A54 [.cell 6 4 true] [] = true := by kernel_rfl
/-- (*dyehouse/dyehouseref12.maker).give -/
def A55 : ACode :=
  (.seq
   /- R0 -/ (.ops [.it (.one (.alloc 6 6 [.int .i64 0, .int .i64 0, .int .i64 0, .int .i64 0]))])
   (.seq
    /- R1 -/ (.ops [.it (.one (.mov 9 (.r 0))),
      .it (.one (.mov 10 (.r 1))),
      .it (.one (.nilc 11 (.r 9))),
      .it (.one (.fad 12 (.r 11) 5)),
      .it (.one (.aix 13 (.r 12) (.r 10) 1 2)),
      .it (.one (.load 14 (.r 13) 1 false)),
      .it (.one (.mov 7 (.r 14)))])
    (.seq
     /- R2 -/ (.ops [.it (.one (.mov 15 (.r 7))),
      .it (.one (.mov 16 (.r 2))),
      .it (.one (.conv 17 .i64 (.r 16))),
      .it (.one (.mov 18 (.r 7))),
      .it (.one (.len 19 (.r 18))),
      .it (.one (.bin 20 .rem (.r 17) (.r 19))),
      .it (.one (.idx 21 (.r 15) (.r 20) 1)),
      .it (.one (.load 22 (.r 21) 1 false)),
      .it (.one (.mov 8 (.r 22)))])
     (.seq
      (.seq
       /- R3 -/ (.ops [.it (.one (.mov 23 (.r 0))),
      .it (.one (.nilc 24 (.r 23))),
      .it (.one (.fad 25 (.r 24) 7)),
      .it (.one (.load 26 (.r 25) 1 false)),
      .it (.one (.mov 27 (.r 8))),
      .it (.one (.callb (some 28) (.st 24) [(.r 26), (.r 27)])),
      .it (.one (.un 29 .not (.r 28)))])
       (.cond (.r 29)
        /- R4 -/ (.ops [.it (.one (.mov 30 (.r 0))),
      .it (.one (.mov 31 (.r 0))),
      .it (.one (.nilc 32 (.r 31))),
      .it (.one (.fad 33 (.r 32) 7)),
      .it (.one (.load 34 (.r 33) 1 false)),
      .it (.one (.mov 35 (.r 8))),
      .it (.one (.bslp 36 1 [(.r 35)])),
      .it (.one (.appd 37 (.r 34) (.r 36) 1 8)),
      .it (.one (.nilc 38 (.r 30))),
      .it (.one (.fad 39 (.r 38) 7)),
      .it (.one (.store (.r 39) (.r 37) 1))]) .skip))
      (.seq
       /- R5 -/ (.ops [.it (.one (.mov 40 (.r 8))),
      .it (.one (.callf (some 41) (.st 40) [(.r 40)])),
      .it (.one (.store (.r 6) (.r 41) 4))]) .ret)))))
theorem A55_ok : okFun Try.prog 55 42 3 A55 [.cell 6 4 true] [] = true := by kernel_rfl
/-- dyehouse/dyehouseref12.goal -/
def A56 : ACode :=
  (.seq
   /- R0 -/ (.ops [.it (.one (.mov 4 (.c (.str ⟨#[]⟩))))])
   (.seq
    /- R1 -/ (.ops [.it (.one (.mov 5 (.r 0))),
      .it (.one (.conv 6 .i64 (.r 5))),
      .it (.one (.mov 7 (.r 1))),
      .it (.one (.bin 8 .sub (.r 7) (.c (.int .i64 (1))))),
      .it (.one (.bin 9 .rem (.r 6) (.r 8))),
      .it (.one (.bin 10 .add (.c (.int .i64 (1))) (.r 9))),
      .it (.one (.callf (some 11) (.st 44) [(.r 10)])),
      .it (.one (.mov 4 (.r 11)))]) .ret))
theorem A56_ok : okFun Try.prog 56 12 0 A56 [.tmp 4] [] = true := by kernel_rfl
/-- (*dyehouse/graph.Graph).post$1 -/
def A57 : ACode :=
  (.seq
   /- R0 -/ (.ops [.it (.one (.load 4 (.r 1) 1 false)),
      .it (.one (.mov 5 (.r 0))),
      .it (.one (.callo (some 6) (.st 38) [(.r 4), (.r 5)] [1, 2] []))])
   (.cond (.r 6)
    /- R1 -/ (.ops [.it (.one (.load 7 (.r 2) 1 false)),
      .it (.one (.mov 8 (.r 0))),
      .it (.one (.build 9 [.int .i64 0, .int .i64 0] [(0, 1, (.r 8)), (1, 1, (.c (.int .i64 (0))))])),
      .it (.one (.bslp 10 2 [(.r 9)])),
      .it (.one (.appd 11 (.r 7) (.r 10) 2 16)),
      .it (.one (.store (.r 2) (.r 11) 1))]) .skip))
theorem A57_ok : okFun Try.prog 57 12 5 A57 [] [] = true := by kernel_rfl
/-- (*dyehouse/graph.Graph).list -/
def A58 : ACode :=
  (.seq
   /- R0 -/ (.ops [.it (.one (.mov 6 (.c (.sl []))))])
   (.seq
    (.seq
     /- R1 -/ (.ops [.it (.one (.mov 7 (.r 1))),
      .it (.one (.bin 8 .lss (.r 7) (.c (.int .i64 (0))))),
      .it (.one (.mov 9 (.r 8))),
      .it (.grp 9 false [.mov 10 (.r 1), .mov 11 (.r 0), .callf (some 12) (.st 29) [(.r 11)], .bin 13 .geq (.r 10) (.r 12)]),
      .it (.one (.pick 14 (.r 9) (.c (.bool true)) (.r 13)))])
     (.cond (.r 14)
      (.seq
       /- R2 -/ (.ops [.it (.one (.mov 6 (.c (.sl []))))]) .ret) .skip))
    (.seq
     /- R3 -/ (.draw [[], [0], [0, 1], [0, 1, 2], [], [4], [4, 5], [4, 5, 6], [0, 1, 2, 3, 4, 5, 6, 7], [], [0, 1, 2, 3, 4, 5, 6, 7, 8, 9], [], [0, 1, 2, 3, 4, 5, 6, 7, 8, 9, 10, 11], [0, 1, 2, 3, 4, 5, 6, 7, 8, 9, 10, 11, 12], [0, 1, 2, 3, 4, 5, 6, 7, 8, 9, 10, 11, 12, 13], [0, 1, 2, 3, 4, 5, 6, 7, 8, 9, 10, 11, 12, 13, 14]] [.one (.mov 15 (.r 0)),
      .one (.nilc 16 (.r 15)),
      .one (.fad 17 (.r 16) 0),
      .one (.load 18 (.r 17) 1 false),
      .one (.mov 19 (.r 0)),
      .one (.nilc 20 (.r 19)),
      .one (.fad 21 (.r 20) 1),
      .one (.load 22 (.r 21) 1 false),
      .one (.build 23 [.sl [], .sl []] [(0, 1, (.r 18)), (1, 1, (.r 22))]),
      .one (.mov 24 (.r 2)),
      .one (.vidx 25 (.r 23) (.r 24) 1 2 false),
      .one (.mov 26 (.r 1)),
      .one (.idx 27 (.r 25) (.r 26) 1),
      .one (.load 28 (.r 27) 1 false),
      .one (.callf (some 29) (.st 59) [(.r 28)]),
      .one (.mov 6 (.r 29))]) .ret)))
theorem A58_ok : okFun Try.prog 58 30 0 A58 [.tmp 6] [] = true := by kernel_rfl
/-- slices.Clone[[]int,int] -/
def A59 : ACode :=
  (.seq
   /- R0 -/ (.ops [.it (.one (.mov 2 (.c (.sl []))))])
   (.seq
    (.seq
     /- R1 -/ (.ops [.it (.one (.mov 3 (.r 0))),
      .it (.one (.eqs 4 false (.r 3)))])
     (.cond (.r 4)
      (.seq
       /- R2 -/ (.ops [.it (.one (.mov 2 (.c (.sl []))))]) .ret) .skip))
    (.seq
     /- R3 -/ (.post (.ops [.it (.one (.bslo 5 5 1 [])),
      .it (.one (.mov 6 (.r 0))),
      .it (.one (.appd 7 (.r 5) (.r 6) 1 8)),
      .it (.one (.mov 2 (.r 7)))]) (.frz 5)) .ret)))
theorem A59_ok : okFun Try.prog 59 8 0 A59 [.tmp 2] [] = true := by kernel_rfl
end Go.Proofs.Yticjemfgbfphdaa.X
