/- Part of a proof: what functions of the program do. -/
import Derived.Test.YtcpjfjdlifjbhaaXam5
import Derived.Test.YtcpjfjdlifjbhaaProg
import Derived.KernelRfl
namespace Go.Proofs.Ytcpjfjdlifjbhaa.X
open Go Go.AM Go.Proofs
/-- dyehouse/dyehouselaw27.SlotTells -/
def A3 : ACode :=
  (.seq
   /- R0 -/ (.ops [.it (.one (.mov 4 (.c (.bool false))))])
   (.seq
    (.seq
     /- R1 -/ (.ops [.it (.one (.mov 16 (.r 0))),
      .it (.one (.len 17 (.r 16))),
      .it (.one (.bin 18 .gtr (.r 17) (.c (.int .i64 (40)))))])
     (.cond (.r 18)
      (.seq
       /- R2 -/ (.ops [.it (.one (.callf (some 19) (.st 5) [])),
      .it (.one (.mov 4 (.r 19)))]) .ret) .skip))
    (.seq
     /- R3 -/ (.ops [.it (.one (.mov 21 (.r 0))),
      .it (.one (.mov 22 (.r 1))),
      .it (.one (.callf (some 23) (.st 6) [(.r 21), (.r 22)])),
      .it (.one (.mov 20 (.r 23))),
      .it (.one (.ext 24 (.r 20) 0)),
      .it (.one (.ext 25 (.r 20) 1)),
      .it (.one (.mov 5 (.r 24))),
      .it (.one (.mov 6 (.r 25)))])
     (.seq
      /- R4 -/ (.ops [.it (.one (.mov 27 (.r 0))),
      .it (.one (.mov 28 (.r 1))),
      .it (.one (.callf (some 29) (.st 7) [(.r 27), (.r 28)])),
      .it (.one (.mov 26 (.r 29))),
      .it (.one (.ext 30 (.r 26) 0)),
      .it (.one (.ext 31 (.r 26) 1)),
      .it (.one (.mov 7 (.r 30))),
      .it (.one (.mov 8 (.r 31)))])
      (.seq
       /- R5 -/ (.ops [.it (.one (.mov 32 (.r 0))),
      .it (.one (.callf (some 33) (.st 8) [(.r 32)])),
      .it (.one (.mov 9 (.r 33)))])
       (.seq
        /- R6 -/ (.ops [.it (.one (.mov 34 (.r 0))),
      .it (.one (.callf (some 35) (.st 9) [(.r 34)])),
      .it (.one (.mov 10 (.r 35)))])
        (.seq
         /- R7 -/ (.ops [.it (.one (.mov 11 (.c (.int .i64 (0)))))])
         (.seq
          (.seq
           /- R8 -/ (.ops [.it (.one (.mov 12 (.c (.int .i64 (0)))))])
           (.block 0
            (.loop (.pre (.mv [0, 5, 6, 7, 8, 9, 10, 11, 12] [])
             (.seq
              (.seq
               /- R9 -/ (.ops [.it (.one (.mov 36 (.r 12))),
      .it (.one (.mov 37 (.r 10))),
      .it (.one (.len 38 (.r 37))),
      .it (.one (.bin 39 .lss (.r 36) (.r 38)))])
               (.cond (.r 39) .skip (.exit 0)))
              (.seq
               (.block 1
                (.seq
                 /- R11 -/ (.ops [.it (.one (.nilarr 13 13 1))])
                 (.seq
                  (.seq
                   /- R12 -/ (.ops [.it (.one (.mov 14 (.c (.int .i64 (0)))))])
                   (.block 2
                    (.loop (.pre (.mv [0, 5, 6, 7, 8, 9, 10, 11, 12, 13, 14] [(13, 13)])
                     (.seq
                      (.seq
                       /- R13 -/ (.ops [.it (.one (.mov 42 (.r 14))),
      .it (.one (.mov 43 (.r 0))),
      .it (.one (.len 44 (.r 43))),
      .it (.one (.bin 45 .lss (.r 42) (.r 44)))])
                       (.cond (.r 45) .skip (.exit 2)))
                      (.seq
                       (.block 3
                        (.seq
                         /- R15 -/ (.draw [[], [], [0, 1], [0, 1, 2], [0, 1, 2, 3], [0, 1, 2, 3, 4], [0, 1, 2, 3, 4, 5], [0, 1, 2, 3, 4, 5, 6], [0, 1, 2, 3, 4, 5, 6, 7], [0, 1, 2, 3, 4, 5, 6, 7], [0, 1, 2, 3, 4, 5, 6, 7, 8, 9], [0, 1, 2, 3, 4, 5, 6, 7, 8, 9, 10], [0, 1, 2, 3, 4, 5, 6, 7, 8, 9, 10, 11], [0, 1, 2, 3, 4, 5, 6, 7, 8, 9, 10, 11, 12], [0, 1, 2, 3, 4, 5, 6, 7], [0, 1, 2, 3, 4, 5, 6, 7], [0, 1, 2, 3, 4, 5, 6, 7, 14, 15], [0, 1, 2, 3, 4, 5, 6, 7, 14, 15, 16], [0, 1, 2, 3, 4, 5, 6, 7, 8, 9, 10, 11, 12, 13, 14, 15, 16, 17], [0, 1, 2, 3, 4, 5, 6, 7, 8, 9, 10, 11, 12, 13, 14, 15, 16, 17, 18], [0, 1, 2, 3, 4, 5, 6, 7, 8, 9, 10, 11, 12, 13, 14, 15, 16, 17, 18, 19], [0, 1, 2, 3, 4, 5, 6, 7, 8, 9, 10, 11, 12, 13, 14, 15, 16, 17, 18, 19, 20], [0, 1, 2, 3, 4, 5, 6, 7, 8, 9, 10, 11, 12, 13, 14, 15, 16, 17, 18, 19, 20], [0, 1, 2, 3, 4, 5, 6, 7, 8, 9, 10, 11, 12, 13, 14, 15, 16, 17, 18, 19, 20], [0, 1, 2, 3, 4, 5, 6, 7, 8, 9, 10, 11, 12, 13, 14, 15, 16, 17, 18, 19, 20, 22, 23], [0, 1, 2, 3, 4, 5, 6, 7, 8, 9, 10, 11, 12, 13, 14, 15, 16, 17, 18, 19, 20, 22, 23, 24], [0, 1, 2, 3, 4, 5, 6, 7, 8, 9, 10, 11, 12, 13, 14, 15, 16, 17, 18, 19, 20, 22, 23, 24, 25], [0, 1, 2, 3, 4, 5, 6, 7, 8, 9, 10, 11, 12, 13, 14, 15, 16, 17, 18, 19, 20, 21, 22, 23, 24, 25, 26], [0, 1, 2, 3, 4, 5, 6, 7, 8, 9, 10, 11, 12, 13, 14, 15, 16, 17, 18, 19, 20, 21, 22, 23, 24, 25, 26, 27], [0, 1, 2, 3, 4, 5, 6, 7, 8, 9, 10, 11, 12, 13, 14, 15, 16, 17, 18, 19, 20, 21, 22, 23, 24, 25, 26, 27, 28]] [.one (.mov 48 (.r 0)),
      .one (.mov 49 (.r 14)),
      .one (.idx 50 (.r 48) (.r 49) 6),
      .one (.fad 51 (.r 50) 3),
      .one (.fad 52 (.r 51) 0),
      .one (.load 53 (.r 52) 1 false),
      .one (.bin 54 .eql (.r 53) (.c (.int .i64 (3)))),
      .one (.mov 55 (.r 54)),
      .grp 55 true [.mov 56 (.r 0), .mov 57 (.r 14), .idx 58 (.r 56) (.r 57) 6, .fad 59 (.r 58) 3, .fad 60 (.r 59) 2, .load 61 (.r 60) 1 false, .mov 62 (.r 10), .mov 63 (.r 12), .idx 64 (.r 62) (.r 63) 1, .load 65 (.r 64) 1 false, .bin 66 .eql (.r 61) (.r 65)],
      .one (.pick 67 (.r 55) (.r 66) (.c (.bool false))),
      .one (.mov 68 (.r 67)),
      .grp 68 true [.mov 69 (.r 13), .mov 70 (.r 0), .mov 71 (.r 14), .idx 72 (.r 70) (.r 71) 6, .fad 73 (.r 72) 0, .load 74 (.r 73) 1 false, .callb (some 75) (.st 10) [(.r 69), (.r 74)], .un 76 .not (.r 75)],
      .one (.pick 77 (.r 68) (.r 76) (.c (.bool false)))])
                         (.cond (.r 77)
                          /- R16 -/ (.ops [.it (.one (.mov 78 (.r 13))),
      .it (.one (.mov 79 (.r 0))),
      .it (.one (.mov 80 (.r 14))),
      .it (.one (.idx 81 (.r 79) (.r 80) 6)),
      .it (.one (.fad 82 (.r 81) 0)),
      .it (.one (.load 83 (.r 82) 1 false)),
      .it (.one (.bslp 84 1 [(.r 83)])),
      .it (.one (.appd 85 (.r 78) (.r 84) 1 8)),
      .it (.one (.mov 13 (.r 85)))]) .skip)))
                       /- R14 -/ (.ops [.it (.one (.mov 46 (.r 14))),
      .it (.one (.bin 47 .add (.r 46) (.c (.int .i64 (1))))),
      .it (.one (.mov 14 (.r 47)))])))))))
                  (.seq
                   (.seq
                    /- R17 -/ (.ops [.it (.one (.mov 86 (.r 9))),
      .it (.one (.mov 87 (.r 10))),
      .it (.one (.mov 88 (.r 12))),
      .it (.one (.idx 89 (.r 87) (.r 88) 1)),
      .it (.one (.load 90 (.r 89) 1 false)),
      .it (.one (.callf (some 91) (.st 10) [(.r 86), (.r 90)])),
      .it (.one (.mov 92 (.r 13))),
      .it (.one (.len 93 (.r 92))),
      .it (.one (.bin 94 .gtr (.r 93) (.c (.int .i64 (1))))),
      .it (.one (.eq 95 true .bool (.r 91) (.r 94)))])
                    (.cond (.r 95)
                     (.seq
                      /- R18 -/ (.ops [.it (.one (.mov 4 (.c (.bool false))))]) .ret) .skip))
                   (.seq
                    /- R19 -/ (.ops [.it (.one (.mov 96 (.r 13))),
      .it (.one (.len 97 (.r 96))),
      .it (.one (.bin 98 .gtr (.r 97) (.c (.int .i64 (1)))))])
                    (.cond (.r 98)
                     /- R20 -/ (.ops [.it (.one (.mov 99 (.r 11))),
      .it (.one (.bin 100 .add (.r 99) (.c (.int .i64 (1))))),
      .it (.one (.mov 11 (.r 100)))]) .skip))))))
               /- R10 -/ (.ops [.it (.one (.mov 40 (.r 12))),
      .it (.one (.bin 41 .add (.r 40) (.c (.int .i64 (1))))),
      .it (.one (.mov 12 (.r 41)))])))))))
          (.seq
           (.seq
            /- R21 -/ (.ops [.it (.one (.mov 15 (.c (.int .i64 (1)))))])
            (.block 4
             (.loop (.pre (.mv [0, 5, 6, 7, 8, 9, 10, 11, 15] [])
              (.seq
               (.seq
                /- R22 -/ (.ops [.it (.one (.mov 101 (.r 15))),
      .it (.one (.mov 102 (.r 9))),
      .it (.one (.len 103 (.r 102))),
      .it (.one (.bin 104 .lss (.r 101) (.r 103)))])
                (.cond (.r 104) .skip (.exit 4)))
               (.seq
                (.block 5
                 (.seq
                  /- R24 -/ (.draw [[], [], [1], [0, 1, 2], [0, 1, 2, 3], [], [], [5, 6], [5, 6, 7], [0, 1, 2, 3, 4, 5, 6, 7, 8]] [.one (.mov 107 (.r 9)),
      .one (.mov 108 (.r 15)),
      .one (.bin 109 .sub (.r 108) (.c (.int .i64 (1)))),
      .one (.idx 110 (.r 107) (.r 109) 1),
      .one (.load 111 (.r 110) 1 false),
      .one (.mov 112 (.r 9)),
      .one (.mov 113 (.r 15)),
      .one (.idx 114 (.r 112) (.r 113) 1),
      .one (.load 115 (.r 114) 1 false),
      .one (.bin 116 .geq (.r 111) (.r 115))])
                  (.cond (.r 116)
                   (.seq
                    /- R25 -/ (.ops [.it (.one (.mov 4 (.c (.bool false))))]) .ret) .skip)))
                /- R23 -/ (.ops [.it (.one (.mov 105 (.r 15))),
      .it (.one (.bin 106 .add (.r 105) (.c (.int .i64 (1))))),
      .it (.one (.mov 15 (.r 106)))])))))))
           (.seq
            /- R26 -/ (.ops [.it (.one (.mov 117 (.r 0))),
      .it (.one (.callf (some 118) (.st 12) [(.r 117)])),
      .it (.one (.mov 119 (.r 10))),
      .it (.one (.callf (some 120) (.st 11) [(.r 118), (.r 119)])),
      .it (.one (.mov 121 (.r 120))),
      .it (.grp 121 true [.mov 122 (.r 0), .callf (some 123) (.st 13) [(.r 122)], .mov 124 (.r 0), .callf (some 125) (.st 14) [(.r 124)], .eq 126 false .bool (.r 123) (.r 125)]),
      .it (.one (.pick 127 (.r 121) (.r 126) (.c (.bool false)))),
      .it (.one (.mov 128 (.r 127))),
      .it (.grp 128 true [.mov 129 (.r 5), .mov 130 (.r 7), .bin 131 .eql (.r 129) (.r 130)]),
      .it (.one (.pick 132 (.r 128) (.r 131) (.c (.bool false)))),
      .it (.one (.mov 133 (.r 132))),
      .it (.grp 133 true [.mov 134 (.r 6), .mov 135 (.r 8), .eq 136 false .bool (.r 134) (.r 135)]),
      .it (.one (.pick 137 (.r 133) (.r 136) (.c (.bool false)))),
      .it (.one (.mov 138 (.r 137))),
      .it (.grp 138 true [.mov 139 (.r 0), .callf (some 140) (.st 15) [(.r 139)], .mov 141 (.r 0), .callf (some 142) (.st 16) [(.r 141)], .bin 143 .eql (.r 140) (.r 142)]),
      .it (.one (.pick 144 (.r 138) (.r 143) (.c (.bool false)))),
      .it (.one (.mov 145 (.r 144))),
      .it (.grp 145 true [.mov 146 (.r 11), .mov 147 (.r 9), .len 148 (.r 147), .bin 149 .eql (.r 146) (.r 148)]),
      .it (.one (.pick 150 (.r 145) (.r 149) (.c (.bool false)))),
      .it (.one (.mov 151 (.r 150))),
      .it (.grp 151 true [.callf (some 152) (.st 5) []]),
      .it (.one (.pick 153 (.r 151) (.r 152) (.c (.bool false)))),
      .it (.one (.mov 4 (.r 153)))]) .ret))))))))))
theorem A3_ok : okFun Try.prog 3 154 0 A3 [.tmp 4] [] = true := by kernel_rfl
/-- dyehouse/dyehouselaw27.SlotNumbers -/
def A4 : ACode :=
  (.seq
   /- R0 -/ (.ops [.it (.one (.mov 2 (.c (.bool false))))])
   (.seq
    (.seq
     /- R1 -/ (.ops [.it (.one (.mov 9 (.r 0))),
      .it (.one (.len 10 (.r 9))),
      .it (.one (.bin 11 .gtr (.r 10) (.c (.int .i64 (40)))))])
     (.cond (.r 11)
      (.seq
       /- R2 -/ (.ops [.it (.one (.callf (some 12) (.st 5) [])),
      .it (.one (.mov 2 (.r 12)))]) .ret) .skip))
    (.seq
     /- R3 -/ (.ops [.it (.one (.mov 13 (.r 0))),
      .it (.one (.callf (some 14) (.st 17) [(.r 13)])),
      .it (.one (.mov 3 (.r 14)))])
     (.seq
      (.seq
       /- R4 -/ (.ops [.it (.one (.mov 15 (.r 3))),
      .it (.one (.len 16 (.r 15))),
      .it (.one (.mov 17 (.r 0))),
      .it (.one (.len 18 (.r 17))),
      .it (.one (.bin 19 .neq (.r 16) (.r 18))),
      .it (.one (.mov 20 (.r 19))),
      .it (.grp 20 false [.mov 21 (.r 3), .callf (some 22) (.st 14) [(.r 21)], .un 23 .not (.r 22)]),
      .it (.one (.pick 24 (.r 20) (.c (.bool true)) (.r 23)))])
       (.cond (.r 24)
        (.seq
         /- R5 -/ (.ops [.it (.one (.mov 2 (.c (.bool false))))]) .ret) .skip))
      (.seq
       /- R6 -/ (.ops [.it (.one (.mov 25 (.r 0))),
      .it (.one (.callf (some 26) (.st 14) [(.r 25)])),
      .it (.one (.mov 4 (.r 26)))])
       (.seq
        (.seq
         /- R7 -/ (.ops [.it (.one (.mov 5 (.c (.int .i64 (0)))))])
         (.block 0
          (.loop (.pre (.mv [0, 3, 4, 5] [])
           (.seq
            (.seq
             /- R8 -/ (.ops [.it (.one (.mov 27 (.r 5))),
      .it (.one (.mov 28 (.r 0))),
      .it (.one (.len 29 (.r 28))),
      .it (.one (.bin 30 .lss (.r 27) (.r 29)))])
             (.cond (.r 30) .skip (.exit 0)))
            (.seq
             (.block 1
              (.seq
               /- R10 -/ (.draw [[], [], [0, 1], [0, 1, 2], [], [], [4, 5], [4, 5, 6], [], [], [0, 1, 2, 3, 8, 9], [0, 1, 2, 3, 4, 5, 6, 7, 8, 9, 10]] [.one (.mov 33 (.r 0)),
      .one (.mov 34 (.r 5)),
      .one (.idx 35 (.r 33) (.r 34) 6),
      .one (.load 36 (.r 35) 6 true),
      .one (.mov 37 (.r 3)),
      .one (.mov 38 (.r 5)),
      .one (.idx 39 (.r 37) (.r 38) 6),
      .one (.load 40 (.r 39) 6 true),
      .one (.alloc 6 6 [.int .i64 0, .int .i64 0, .int .i64 0, .int .i64 0, .int .i64 0, .int .i64 0]),
      .one (.alloc 7 7 [.int .i64 0, .int .i64 0, .int .i64 0, .int .i64 0, .int .i64 0, .int .i64 0]),
      .one (.store (.r 6) (.r 36) 6),
      .one (.store (.r 7) (.r 40) 6)])
               (.seq
                (.seq
                 /- R11 -/ (.ops [.it (.one (.fad 41 (.r 6) 3)),
      .it (.one (.fad 42 (.r 41) 0)),
      .it (.one (.load 43 (.r 42) 1 false)),
      .it (.one (.bin 44 .neq (.r 43) (.c (.int .i64 (3))))),
      .it (.one (.mov 45 (.r 44))),
      .it (.grp 45 false [.mov 46 (.r 4)]),
      .it (.one (.pick 47 (.r 45) (.c (.bool true)) (.r 46)))])
                 (.cond (.r 47)
                  (.seq
                   (.seq
                    /- R12 -/ (.ops [.it (.one (.load 48 (.r 6) 6 true)),
      .it (.one (.load 49 (.r 7) 6 true)),
      .it (.one (.eq 50 true (.strct [.i, .i, .i, .i, .i, .i]) (.r 48) (.r 49)))])
                    (.cond (.r 50)
                     (.seq
                      /- R13 -/ (.ops [.it (.one (.mov 2 (.c (.bool false))))]) .ret) .skip)) (.exit 1)) .skip))
                (.seq
                 /- R14 -/ (.ops [.it (.one (.fad 51 (.r 6) 3)),
      .it (.one (.fad 52 (.r 51) 2)),
      .it (.one (.store (.r 52) (.c (.int .i64 (0))) 1)),
      .it (.one (.fad 53 (.r 7) 3)),
      .it (.one (.fad 54 (.r 53) 2)),
      .it (.one (.store (.r 54) (.c (.int .i64 (0))) 1))])
                 (.seq
                  (.seq
                   /- R15 -/ (.ops [.it (.one (.load 55 (.r 6) 6 true)),
      .it (.one (.load 56 (.r 7) 6 true)),
      .it (.one (.eq 57 true (.strct [.i, .i, .i, .i, .i, .i]) (.r 55) (.r 56)))])
                   (.cond (.r 57)
                    (.seq
                     /- R16 -/ (.ops [.it (.one (.mov 2 (.c (.bool false))))]) .ret) .skip))
                  (.seq
                   /- R17 -/ (.ops [.it (.one (.mov 8 (.c (.int .i64 (0)))))])
                   (.block 2
                    (.loop (.pre (.mv [0, 3, 4, 5, 8] [])
                     (.seq
                      (.seq
                       /- R18 -/ (.ops [.it (.one (.mov 58 (.r 8))),
      .it (.one (.mov 59 (.r 0))),
      .it (.one (.len 60 (.r 59))),
      .it (.one (.bin 61 .lss (.r 58) (.r 60)))])
                       (.cond (.r 61) .skip (.exit 2)))
                      (.seq
                       (.block 3
                        (.seq
                         /- R20 -/ (.draw [[], [], [0, 1], [0, 1, 2], [0, 1, 2, 3], [0, 1, 2, 3, 4], [0, 1, 2, 3, 4, 5], [0, 1, 2, 3, 4, 5, 6], [0, 1, 2, 3, 4, 5, 6, 7], [0, 1, 2, 3, 4, 5, 6, 7], [0, 1, 2, 3, 4, 5, 6, 7, 8, 9], [0, 1, 2, 3, 4, 5, 6, 7, 8, 9, 10], [0, 1, 2, 3, 4, 5, 6, 7, 8, 9, 10, 11], [0, 1, 2, 3, 4, 5, 6, 7, 8, 9, 10, 11, 12], [0, 1, 2, 3, 4, 5, 6, 7], [0, 1, 2, 3, 4, 5, 6, 7], [0, 1, 2, 3, 4, 5, 6, 7, 14, 15], [0, 1, 2, 3, 4, 5, 6, 7, 14, 15, 16], [0, 1, 2, 3, 4, 5, 6, 7, 14, 15, 16, 17], [0, 1, 2, 3, 4, 5, 6, 7, 14, 15, 16, 17, 18], [0, 1, 2, 3, 4, 5, 6, 7, 8, 9, 10, 11, 12, 13, 14, 15, 16, 17, 18, 19], [0, 1, 2, 3, 4, 5, 6, 7], [0, 1, 2, 3, 4, 5, 6, 7], [0, 1, 2, 3, 4, 5, 6, 7, 21, 22], [0, 1, 2, 3, 4, 5, 6, 7, 21, 22, 23], [0, 1, 2, 3, 4, 5, 6, 7, 21, 22, 23, 24], [0, 1, 2, 3, 4, 5, 6, 7, 21, 22, 23, 24, 25], [0, 1, 2, 3, 4, 5, 6, 7], [0, 1, 2, 3, 4, 5, 6, 7], [0, 1, 2, 3, 4, 5, 6, 7, 27, 28], [0, 1, 2, 3, 4, 5, 6, 7, 27, 28, 29], [0, 1, 2, 3, 4, 5, 6, 7, 27, 28, 29, 30], [0, 1, 2, 3, 4, 5, 6, 7, 27, 28, 29, 30, 31], [0, 1, 2, 3, 4, 5, 6, 7, 21, 22, 23, 24, 25, 26, 27, 28, 29, 30, 31, 32], [0, 1, 2, 3, 4, 5, 6, 7, 8, 9, 10, 11, 12, 13, 14, 15, 16, 17, 18, 19, 20, 21, 22, 23, 24, 25, 26, 27, 28, 29, 30, 31, 32, 33], [0, 1, 2, 3, 4, 5, 6, 7, 8, 9, 10, 11, 12, 13, 14, 15, 16, 17, 18, 19, 20, 21, 22, 23, 24, 25, 26, 27, 28, 29, 30, 31, 32, 33, 34]] [.one (.mov 64 (.r 0)),
      .one (.mov 65 (.r 8)),
      .one (.idx 66 (.r 64) (.r 65) 6),
      .one (.fad 67 (.r 66) 3),
      .one (.fad 68 (.r 67) 0),
      .one (.load 69 (.r 68) 1 false),
      .one (.bin 70 .eql (.r 69) (.c (.int .i64 (3)))),
      .one (.mov 71 (.r 70)),
      .grp 71 true [.mov 72 (.r 0), .mov 73 (.r 8), .idx 74 (.r 72) (.r 73) 6, .fad 75 (.r 74) 3, .fad 76 (.r 75) 2, .load 77 (.r 76) 1 false, .mov 78 (.r 0), .mov 79 (.r 5), .idx 80 (.r 78) (.r 79) 6, .fad 81 (.r 80) 3, .fad 82 (.r 81) 2, .load 83 (.r 82) 1 false, .bin 84 .eql (.r 77) (.r 83), .mov 85 (.r 3), .mov 86 (.r 8), .idx 87 (.r 85) (.r 86) 6, .fad 88 (.r 87) 3, .fad 89 (.r 88) 2, .load 90 (.r 89) 1 false, .mov 91 (.r 3), .mov 92 (.r 5), .idx 93 (.r 91) (.r 92) 6, .fad 94 (.r 93) 3, .fad 95 (.r 94) 2, .load 96 (.r 95) 1 false, .bin 97 .eql (.r 90) (.r 96), .eq 98 true .bool (.r 84) (.r 97)],
      .one (.pick 99 (.r 71) (.r 98) (.c (.bool false)))])
                         (.cond (.r 99)
                          (.seq
                           /- R21 -/ (.ops [.it (.one (.mov 2 (.c (.bool false))))]) .ret) .skip)))
                       /- R19 -/ (.ops [.it (.one (.mov 62 (.r 8))),
      .it (.one (.bin 63 .add (.r 62) (.c (.int .i64 (1))))),
      .it (.one (.mov 8 (.r 63)))]))))))))))))
             /- R9 -/ (.ops [.it (.one (.mov 31 (.r 5))),
      .it (.one (.bin 32 .add (.r 31) (.c (.int .i64 (1))))),
      .it (.one (.mov 5 (.r 32)))])))))))
        (.seq
         /- R22 -/ (.ops [.it (.one (.callf (some 100) (.st 5) [])),
      .it (.one (.mov 2 (.r 100)))]) .ret)))))))
theorem A4_ok : okFun Try.prog 4 101 0 A4 [.tmp 2] [] = true := by kernel_rfl
/-- dyehouse/dyehouselaw27.works -/
def A5 : ACode :=
  (.seq
   /- R0 -/ (.ops [.it (.one (.mov 0 (.c (.bool false))))])
   (.seq
    /- R1 -/ (.ops [.it (.one (.callf (some 5) (.st 18) [(.c (.int .i64 (4)))])),
      .it (.one (.build 6 [.int .i64 0, .int .i64 0, .int .i64 0, .int .i64 0, .int .i64 0, .int .i64 0] [(0, 1, (.c (.int .i64 (1)))), (1, 1, (.c (.int .i64 (6)))), (2, 1, (.c (.int .i64 (9)))), (3, 3, (.r 5))])),
      .it (.one (.callf (some 7) (.st 18) [(.c (.int .i64 (7)))])),
      .it (.one (.build 8 [.int .i64 0, .int .i64 0, .int .i64 0, .int .i64 0, .int .i64 0, .int .i64 0] [(0, 1, (.c (.int .i64 (2)))), (1, 1, (.c (.int .i64 (0)))), (2, 1, (.c (.int .i64 (3)))), (3, 3, (.r 7))])),
      .it (.one (.callf (some 9) (.st 18) [(.c (.int .i64 (4)))])),
      .it (.one (.build 10 [.int .i64 0, .int .i64 0, .int .i64 0, .int .i64 0, .int .i64 0, .int .i64 0] [(0, 1, (.c (.int .i64 (2)))), (1, 1, (.c (.int .i64 (5)))), (2, 1, (.c (.int .i64 (6)))), (3, 3, (.r 9))])),
      .it (.one (.build 11 [.int .i64 0, .int .i64 0, .int .i64 0] [(0, 1, (.c (.int .i64 (2)))), (2, 1, (.c (.int .i64 (9))))])),
      .it (.one (.build 12 [.int .i64 0, .int .i64 0, .int .i64 0, .int .i64 0, .int .i64 0, .int .i64 0] [(0, 1, (.c (.int .i64 (3)))), (1, 1, (.c (.int .i64 (0)))), (2, 1, (.c (.int .i64 (1)))), (3, 3, (.r 11))])),
      .it (.one (.bslp 13 6 [(.r 6), (.r 8), (.r 10), (.r 12)])),
      .it (.one (.mov 1 (.r 13)))])
    (.seq
     /- R2 -/ (.ops [.it (.one (.mov 14 (.r 1))),
      .it (.one (.callf (some 15) (.st 17) [(.r 14)])),
      .it (.one (.mov 2 (.r 15)))])
     (.seq
      /- R3 -/ (.ops [.it (.one (.mov 17 (.r 1))),
      .it (.one (.callf (some 18) (.st 6) [(.r 17), (.c (.int .i64 (2)))])),
      .it (.one (.mov 16 (.r 18))),
      .it (.one (.ext 19 (.r 16) 0)),
      .it (.one (.ext 20 (.r 16) 1)),
      .it (.one (.mov 3 (.r 19))),
      .it (.one (.mov 4 (.r 20)))])
      (.seq
       /- R4 -/ (.draw [[], [0], [], [0, 1, 2], [0, 1, 2, 3], [0, 1, 2, 3, 4], [0, 1, 2, 3, 4, 5], [0, 1, 2, 3, 4, 5, 6], [0, 1, 2, 3, 4, 5, 6, 7], [0, 1, 2, 3, 4, 5, 6, 7, 8], [0, 1, 2, 3, 4, 5, 6, 7, 8, 9], [0, 1, 2, 3, 4, 5, 6, 7, 8, 9, 10], [0, 1, 2, 3, 4, 5, 6, 7, 8, 9, 10, 11], [0, 1, 2, 3, 4, 5, 6, 7, 8, 9, 10, 11, 12], [0, 1, 2, 3, 4, 5, 6, 7, 8, 9, 10, 11, 12, 13], [0, 1, 2, 3, 4, 5, 6, 7, 8, 9, 10, 11, 12, 13, 14], [0, 1, 2, 3, 4, 5, 6, 7, 8, 9, 10, 11, 12, 13, 14, 15], [0, 1, 2, 3, 4, 5, 6, 7, 8, 9, 10, 11, 12, 13, 14, 15, 16], [0, 1, 2, 3, 4, 5, 6, 7, 8, 9, 10, 11, 12, 13, 14, 15, 16, 17], [0, 1, 2, 3, 4, 5, 6, 7, 8, 9, 10, 11, 12, 13, 14, 15, 16, 17, 18], [0, 1, 2, 3, 4, 5, 6, 7, 8, 9, 10, 11, 12, 13, 14, 15, 16, 17, 18, 19], [0, 1, 2, 3, 4, 5, 6, 7, 8, 9, 10, 11, 12, 13, 14, 15, 16, 17, 18, 19, 20], [0, 1, 2, 3, 4, 5, 6, 7, 8, 9, 10, 11, 12, 13, 14, 15, 16, 17, 18, 19, 20, 21], [0, 1, 2, 3, 4, 5, 6, 7, 8, 9, 10, 11, 12, 13, 14, 15, 16, 17, 18], [0, 1, 2, 3, 4, 5, 6, 7, 8, 9, 10, 11, 12, 13, 14, 15, 16, 17, 18, 19, 20, 21, 22, 23], [0, 1, 2, 3, 4, 5, 6, 7, 8, 9, 10, 11, 12, 13, 14, 15, 16, 17, 18, 19, 20, 21, 22, 23, 24], [0, 1, 2, 3, 4, 5, 6, 7, 8, 9, 10, 11, 12, 13, 14, 15, 16, 17, 18, 19, 20, 21, 22, 23, 24, 25], [0, 1, 2, 3, 4, 5, 6, 7, 8, 9, 10, 11, 12, 13, 14, 15, 16, 17, 18, 19, 20, 21, 22, 23, 24, 25, 26], [0, 1, 2, 3, 4, 5, 6, 7, 8, 9, 10, 11, 12, 13, 14, 15, 16, 17, 18, 19, 20, 21, 22, 23, 24, 25, 26, 27], [0, 1, 2, 3, 4, 5, 6, 7, 8, 9, 10, 11, 12, 13, 14, 15, 16, 17, 18, 19, 20, 21, 22, 23, 24, 25, 26, 27, 28], [0, 1, 2, 3, 4, 5, 6, 7, 8, 9, 10, 11, 12, 13, 14, 15, 16, 17, 18, 19, 20, 21, 22, 23, 24, 25, 26, 27, 28, 29], [0, 1, 2, 3, 4, 5, 6, 7, 8, 9, 10, 11, 12, 13, 14, 15, 16, 17, 18, 19, 20, 21, 22, 23, 24, 25, 26, 27, 28, 29, 30], [0, 1, 2, 3, 4, 5, 6, 7, 8, 9, 10, 11, 12, 13, 14, 15, 16, 17, 18, 19, 20, 21, 22, 23, 24, 25, 26, 27, 28, 29, 30, 31], [0, 1, 2, 3, 4, 5, 6, 7, 8, 9, 10, 11, 12, 13, 14, 15, 16, 17, 18, 19, 20, 21, 22, 23, 24, 25, 26, 27, 28, 29, 30, 31, 32], [0, 1, 2, 3, 4, 5, 6, 7, 8, 9, 10, 11, 12, 13, 14, 15, 16, 17, 18, 19, 20, 21, 22, 23, 24, 25, 26, 27, 28, 29, 30, 31, 32, 33], [0, 1, 2, 3, 4, 5, 6, 7, 8, 9, 10, 11, 12, 13, 14, 15, 16, 17, 18, 19, 20, 21, 22, 23, 24, 25, 26, 27, 28, 29, 30, 31, 32, 33, 34], [0, 1, 2, 3, 4, 5, 6, 7, 8, 9, 10, 11, 12, 13, 14, 15, 16, 17, 18, 19, 20, 21, 22, 23, 24, 25, 26, 27, 28, 29, 30, 31, 32, 33, 34, 35], [0, 1, 2, 3, 4, 5, 6, 7, 8, 9, 10, 11, 12, 13, 14, 15, 16, 17, 18, 19, 20, 21, 22, 23, 24, 25, 26, 27, 28, 29, 30, 31, 32, 33, 34, 35, 36], [0, 1, 2, 3, 4, 5, 6, 7, 8, 9, 10, 11, 12, 13, 14, 15, 16, 17, 18, 19, 20, 21, 22, 23, 24, 25, 26, 27, 28, 29, 30, 31, 32, 33, 34, 35, 36, 37], [0, 1, 2, 3, 4, 5, 6, 7, 8, 9, 10, 11, 12, 13, 14, 15, 16, 17, 18, 19, 20, 21, 22, 23, 24, 25, 26, 27, 28, 29, 30, 31, 32, 33, 34, 35, 36, 37, 38], [0, 1, 2, 3, 4, 5, 6, 7, 8, 9, 10, 11, 12, 13, 14, 15, 16, 17, 18, 19, 20, 21, 22, 23, 24, 25, 26, 27, 28, 29, 30, 31, 32, 33, 34, 35, 36, 37, 38, 39], [0, 1, 2, 3, 4, 5, 6, 7, 8, 9, 10, 11, 12, 13, 14, 15, 16, 17, 18, 19, 20, 21, 22, 23, 24, 25, 26, 27, 28, 29, 30, 31, 32, 33, 34, 35, 36, 37, 38], [0, 1, 2, 3, 4, 5, 6, 7, 8, 9, 10, 11, 12, 13, 14, 15, 16, 17, 18, 19, 20, 21, 22, 23, 24, 25, 26, 27, 28, 29, 30, 31, 32, 33, 34, 35, 36, 37, 38, 39, 40, 41], [0, 1, 2, 3, 4, 5, 6, 7, 8, 9, 10, 11, 12, 13, 14, 15, 16, 17, 18, 19, 20, 21, 22, 23, 24, 25, 26, 27, 28, 29, 30, 31, 32, 33, 34, 35, 36, 37, 38, 39, 40, 41, 42], [0, 1, 2, 3, 4, 5, 6, 7, 8, 9, 10, 11, 12, 13, 14, 15, 16, 17, 18, 19, 20, 21, 22, 23, 24, 25, 26, 27, 28, 29, 30, 31, 32, 33, 34, 35, 36, 37, 38, 39, 40, 41, 42, 43]] [.one (.mov 21 (.r 1)),
      .one (.callf (some 22) (.st 12) [(.r 21)]),
      .one (.bslp 23 1 [(.c (.int .i64 (7))), (.c (.int .i64 (4)))]),
      .one (.callf (some 24) (.st 11) [(.r 22), (.r 23)]),
      .one (.mov 25 (.r 24)),
      .grp 25 true [.mov 26 (.r 1), .callf (some 27) (.st 13) [(.r 26)], .un 28 .not (.r 27)],
      .one (.pick 29 (.r 25) (.r 28) (.c (.bool false))),
      .one (.mov 30 (.r 29)),
      .grp 30 true [.mov 31 (.r 2), .callf (some 32) (.st 13) [(.r 31)]],
      .one (.pick 33 (.r 30) (.r 32) (.c (.bool false))),
      .one (.mov 34 (.r 33)),
      .grp 34 true [.mov 35 (.r 2), .len 36 (.r 35), .bin 37 .eql (.r 36) (.c (.int .i64 (4)))],
      .one (.pick 38 (.r 34) (.r 37) (.c (.bool false))),
      .one (.mov 39 (.r 38)),
      .grp 39 true [.mov 40 (.r 2), .idx 41 (.r 40) (.c (.int .i64 (0))) 6, .fad 42 (.r 41) 3, .load 43 (.r 42) 3 true, .callf (some 44) (.st 18) [(.c (.int .i64 (1)))], .eq 45 false (.strct [.i, .i, .i]) (.r 43) (.r 44)],
      .one (.pick 46 (.r 39) (.r 45) (.c (.bool false))),
      .one (.mov 47 (.r 46)),
      .grp 47 true [.mov 48 (.r 3), .bin 49 .eql (.r 48) (.c (.int .i64 (7)))],
      .one (.pick 50 (.r 47) (.r 49) (.c (.bool false))),
      .one (.mov 51 (.r 50)),
      .grp 51 true [.mov 52 (.r 4)],
      .one (.pick 53 (.r 51) (.r 52) (.c (.bool false))),
      .one (.mov 54 (.r 53)),
      .grp 54 true [.mov 55 (.r 1), .callf (some 56) (.st 15) [(.r 55)], .bin 57 .eql (.r 56) (.c (.int .i64 (2)))],
      .one (.pick 58 (.r 54) (.r 57) (.c (.bool false))),
      .one (.mov 59 (.r 58)),
      .grp 59 true [.mov 60 (.r 1), .callf (some 61) (.st 8) [(.r 60)], .bslp 62 1 [(.c (.int .i64 (4)))], .callf (some 63) (.st 11) [(.r 61), (.r 62)]],
      .one (.pick 64 (.r 59) (.r 63) (.c (.bool false))),
      .one (.mov 0 (.r 64))]) .ret)))))
theorem A5_ok : okFun Try.prog 5 65 0 A5 [.tmp 0] [] = true := by kernel_rfl
/-- dyehouse/slot.Home -/
def A6 : ACode :=
  (.seq
   /- R0 -/ (.ops [.it (.one (.mov 4 (.c (.int .i64 (0))))),
      .it (.one (.mov 5 (.c (.bool false))))])
   (.seq
    (.seq
     /- R1 -/ (.ops [.it (.one (.mov 8 (.r 0))),
      .it (.one (.len 9 (.r 8))),
      .it (.one (.mov 10 (.c (.int .i64 (0)))))])
     (.block 0
      (.loop (.pre (.mv [1, 8, 9, 10] [])
       (.seq
        /- R2 -/ (.ops [.it (.one (.bin 11 .lss (.r 10) (.r 9)))])
        (.seq
         (.cond (.r 11) .skip (.exit 0))
         (.seq
          (.block 1
           (.seq
            /- R3 -/ (.post (.ops [.it (.one (.idx 12 (.r 8) (.r 10) 6)),
      .it (.one (.load 13 (.r 12) 6 true)),
      .it (.one (.alloc 7 7 [.int .i64 0, .int .i64 0, .int .i64 0, .int .i64 0, .int .i64 0, .int .i64 0])),
      .it (.one (.store (.r 7) (.r 13) 6))]) (.frz 7))
            (.seq
             /- R4 -/ (.ops [.it (.one (.fad 14 (.r 7) 0)),
      .it (.one (.load 15 (.r 14) 1 false)),
      .it (.one (.mov 16 (.r 1))),
      .it (.one (.bin 17 .eql (.r 15) (.r 16))),
      .it (.one (.mov 18 (.r 17))),
      .it (.grp 18 true [.fad 19 (.r 7) 3, .fad 20 (.r 19) 0, .load 21 (.r 20) 1 false, .bin 22 .eql (.r 21) (.c (.int .i64 (3)))]),
      .it (.one (.pick 23 (.r 18) (.r 22) (.c (.bool false))))])
             (.cond (.r 23)
              (.seq
               /- R5 -/ (.ops [.it (.one (.fad 24 (.r 7) 3)),
      .it (.one (.fad 25 (.r 24) 2)),
      .it (.one (.load 26 (.r 25) 1 false)),
      .it (.one (.mov 4 (.r 26))),
      .it (.one (.mov 5 (.c (.bool true))))]) .ret) .skip))))
          /- R6 -/ (.ops [.it (.one (.bin 27 .add (.r 10) (.c (.int .i64 (1))))),
      .it (.one (.mov 10 (.r 27)))]))))))))
    (.seq
     /- R7 -/ (.ops [.it (.one (.mov 4 (.c (.int .i64 (0))))),
      .it (.one (.mov 5 (.c (.bool false))))]) .ret)))
theorem A6_ok : okFun Try.prog 6 28 0 A6 [.tmp 4, .tmp 5] [] = true := by kernel_rfl
/-- dyehouse/dyehouseref27.Home -/
def A7 : ACode :=
  (.seq
   /- R0 -/ (.ops [.it (.one (.mov 4 (.c (.int .i64 (0))))),
      .it (.one (.mov 5 (.c (.bool false))))])
   (.seq
    (.seq
     /- R1 -/ (.ops [.it (.one (.mov 6 (.c (.int .i64 (0)))))])
     (.block 0
      (.loop (.pre (.mv [0, 1, 6] [])
       (.seq
        (.seq
         /- R2 -/ (.ops [.it (.one (.mov 7 (.r 6))),
      .it (.one (.mov 8 (.r 0))),
      .it (.one (.len 9 (.r 8))),
      .it (.one (.bin 10 .lss (.r 7) (.r 9)))])
         (.cond (.r 10) .skip (.exit 0)))
        (.seq
         (.block 1
          (.seq
           /- R4 -/ (.ops [.it (.one (.mov 13 (.r 0))),
      .it (.one (.mov 14 (.r 6))),
      .it (.one (.idx 15 (.r 13) (.r 14) 6)),
      .it (.one (.fad 16 (.r 15) 0)),
      .it (.one (.load 17 (.r 16) 1 false)),
      .it (.one (.mov 18 (.r 1))),
      .it (.one (.bin 19 .eql (.r 17) (.r 18))),
      .it (.one (.mov 20 (.r 19))),
      .it (.grp 20 true [.mov 21 (.r 0), .mov 22 (.r 6), .idx 23 (.r 21) (.r 22) 6, .fad 24 (.r 23) 3, .fad 25 (.r 24) 0, .load 26 (.r 25) 1 false, .bin 27 .eql (.r 26) (.c (.int .i64 (3)))]),
      .it (.one (.pick 28 (.r 20) (.r 27) (.c (.bool false))))])
           (.cond (.r 28)
            (.seq
             /- R5 -/ (.ops [.it (.one (.mov 29 (.r 0))),
      .it (.one (.mov 30 (.r 6))),
      .it (.one (.idx 31 (.r 29) (.r 30) 6)),
      .it (.one (.fad 32 (.r 31) 3)),
      .it (.one (.fad 33 (.r 32) 2)),
      .it (.one (.load 34 (.r 33) 1 false)),
      .it (.one (.mov 4 (.r 34))),
      .it (.one (.mov 5 (.c (.bool true))))]) .ret) .skip)))
         /- R3 -/ (.ops [.it (.one (.mov 11 (.r 6))),
      .it (.one (.bin 12 .add (.r 11) (.c (.int .i64 (1))))),
      .it (.one (.mov 6 (.r 12)))])))))))
    (.seq
     /- R6 -/ (.ops [.it (.one (.mov 4 (.c (.int .i64 (0))))),
      .it (.one (.mov 5 (.c (.bool false))))]) .ret)))
theorem A7_ok : okFun Try.prog 7 35 0 A7 [.tmp 4, .tmp 5] [] = true := by kernel_rfl
/-- dyehouse/slot.Shared -/
def A8 : ACode :=
  (.seq
   /- R0 -/ (.ops [.it (.one (.boxp 1 (.r 0))),
      .it (.one (.mov 2 (.c (.sl []))))])
   (.seq
    /- R1 -/ (.ops [.it (.one (.mkfn 9 19 [(.r 1)])),
      .it (.one (.mov 3 (.r 9)))])
    (.seq
     /- R2 -/ (.ops [.it (.one (.nilarr 4 4 1))])
     (.seq
      (.seq
       /- R3 -/ (.ops [.it (.one (.load 10 (.r 1) 1 false)),
      .it (.one (.callf (some 11) (.st 12) [(.r 10)])),
      .it (.one (.len 12 (.r 11))),
      .it (.one (.mov 13 (.c (.int .i64 (0)))))])
       (.block 0
        (.loop (.pre (.mv [3, 4, 11, 12, 13] [(4, 4)])
         (.seq
          /- R4 -/ (.ops [.it (.one (.bin 14 .lss (.r 13) (.r 12)))])
          (.seq
           (.cond (.r 14) .skip (.exit 0))
           (.seq
            (.block 1
             (.seq
              /- R5 -/ (.ops [.it (.one (.idx 15 (.r 11) (.r 13) 1)),
      .it (.one (.load 16 (.r 15) 1 false)),
      .it (.one (.mov 6 (.r 16)))])
              (.seq
               /- R6 -/ (.ops [.it (.one (.mov 18 (.r 3))),
      .it (.one (.mov 19 (.r 6))),
      .it (.one (.callf (some 20) (.dy (.r 18)) [(.r 19)])),
      .it (.one (.mov 17 (.r 20))),
      .it (.one (.ext 21 (.r 17) 0)),
      .it (.one (.ext 22 (.r 17) 1)),
      .it (.one (.mov 7 (.r 21))),
      .it (.one (.mov 8 (.r 22)))])
               (.seq
                /- R7 -/ (.ops [.it (.one (.mov 23 (.r 8)))])
                (.cond (.r 23)
                 /- R8 -/ (.ops [.it (.one (.mov 24 (.r 4))),
      .it (.one (.mov 25 (.r 6))),
      .it (.one (.bslp 26 1 [(.r 25)])),
      .it (.one (.appd 27 (.r 24) (.r 26) 1 8)),
      .it (.one (.mov 4 (.r 27)))]) .skip)))))
            /- R9 -/ (.ops [.it (.one (.bin 28 .add (.r 13) (.c (.int .i64 (1))))),
      .it (.one (.mov 13 (.r 28)))]))))))))
      (.seq
       /- R10 -/ (.ops [.it (.one (.mov 29 (.r 4))),
      .call (some 30) (.st 24) [(.r 29)] [4] []])
       (.seq
        /- R11 -/ (.post (.ops [.it (.one (.mov 31 (.r 4))),
      .it (.one (.mov 2 (.r 31)))]) (.frz 4)) .ret))))))
theorem A8_ok : okFun Try.prog 8 32 0 A8 [.tmp 2] [] = true := by kernel_rfl
/-- dyehouse/dyehouseref27.Used -/
def A9 : ACode :=
  (.seq
   /- R0 -/ (.ops [.it (.one (.mov 2 (.c (.sl []))))])
   (.seq
    /- R1 -/ (.ops [.it (.one (.nilarr 3 3 1))])
    (.block 0
     (.loop (.pre (.mv [0, 3] [(3, 3)])
      (.block 1
       (.seq
        /- R2 -/ (.ops [.it (.one (.mov 4 (.c (.int .i64 (-1)))))])
        (.seq
         (.seq
          /- R3 -/ (.ops [.it (.one (.mov 5 (.c (.int .i64 (0)))))])
          (.block 2
           (.loop (.pre (.mv [0, 3, 4, 5] [(3, 3)])
            (.seq
             (.seq
              /- R4 -/ (.ops [.it (.one (.mov 6 (.r 5))),
      .it (.one (.mov 7 (.r 0))),
      .it (.one (.len 8 (.r 7))),
      .it (.one (.bin 9 .lss (.r 6) (.r 8)))])
              (.cond (.r 9) .skip (.exit 2)))
             (.seq
              (.block 3
               (.seq
                (.seq
                 /- R6 -/ (.ops [.it (.one (.mov 12 (.r 0))),
      .it (.one (.mov 13 (.r 5))),
      .it (.one (.idx 14 (.r 12) (.r 13) 6)),
      .it (.one (.fad 15 (.r 14) 3)),
      .it (.one (.fad 16 (.r 15) 0)),
      .it (.one (.load 17 (.r 16) 1 false)),
      .it (.one (.bin 18 .neq (.r 17) (.c (.int .i64 (3))))),
      .it (.one (.mov 19 (.r 18))),
      .it (.grp 19 false [.mov 20 (.r 3), .mov 21 (.r 0), .mov 22 (.r 5), .idx 23 (.r 21) (.r 22) 6, .fad 24 (.r 23) 3, .fad 25 (.r 24) 2, .load 26 (.r 25) 1 false, .callb (some 27) (.st 10) [(.r 20), (.r 26)]]),
      .it (.one (.pick 28 (.r 19) (.c (.bool true)) (.r 27)))])
                 (.cond (.r 28) (.exit 3) .skip))
                (.seq
                 /- R7 -/ (.draw [[], [0], [0, 1], [0, 1, 2], [0, 1, 2], [0, 1, 2, 3, 4], [0, 1, 2, 3, 4, 5], [0, 1, 2, 3, 4, 5, 6], [0, 1, 2], [0, 1, 2], [0, 1, 2, 8, 9], [0, 1, 2, 8, 9, 10], [0, 1, 2, 8, 9, 10, 11], [0, 1, 2, 3, 4, 5, 6, 7, 8, 9, 10, 11, 12], [0, 1, 2, 3, 4, 5, 6, 7, 8, 9, 10, 11, 12, 13], [0, 1, 2, 3, 4, 5, 6, 7, 8, 9, 10, 11, 12, 13, 14], [0, 1, 2, 3, 4, 5, 6, 7, 8, 9, 10, 11, 12, 13, 14, 15], [0, 1, 2, 3, 4, 5, 6, 7, 8, 9, 10, 11, 12, 13, 14, 15], [0, 1, 2, 3, 4, 5, 6, 7, 8, 9, 10, 11, 12, 13, 14, 15, 16, 17], [0, 1, 2, 3, 4, 5, 6, 7, 8, 9, 10, 11, 12, 13, 14, 15, 16, 17, 18], [0, 1, 2, 3, 4, 5, 6, 7, 8, 9, 10, 11, 12, 13, 14, 15, 16, 17, 18, 19], [0, 1, 2, 3, 4, 5, 6, 7, 8, 9, 10, 11, 12, 13, 14, 15], [0, 1, 2, 3, 4, 5, 6, 7, 8, 9, 10, 11, 12, 13, 14, 15], [0, 1, 2, 3, 4, 5, 6, 7, 8, 9, 10, 11, 12, 13, 14, 15, 21, 22], [0, 1, 2, 3, 4, 5, 6, 7, 8, 9, 10, 11, 12, 13, 14, 15, 21, 22, 23], [0, 1, 2, 3, 4, 5, 6, 7, 8, 9, 10, 11, 12, 13, 14, 15, 21, 22, 23, 24], [0, 1, 2, 3, 4, 5, 6, 7, 8, 9, 10, 11, 12, 13, 14, 15, 16, 17, 18, 19, 20, 21, 22, 23, 24, 25], [0, 1, 2, 3, 4, 5, 6, 7, 8, 9, 10, 11, 12, 13, 14, 15, 16, 17, 18, 19, 20, 21, 22, 23, 24, 25, 26], [0, 1, 2, 3, 4, 5, 6, 7, 8, 9, 10, 11, 12, 13, 14, 15, 16, 17, 18, 19, 20, 21, 22, 23, 24, 25, 26, 27], [0, 1, 2, 3, 4, 5, 6, 7, 8, 9, 10, 11, 12, 13, 14, 15, 16, 17, 18, 19, 20, 21, 22, 23, 24, 25, 26, 27], [0, 1, 2, 3, 4, 5, 6, 7, 8, 9, 10, 11, 12, 13, 14, 15, 16, 17, 18, 19, 20, 21, 22, 23, 24, 25, 26, 27, 28, 29], [0, 1, 2, 3, 4, 5, 6, 7, 8, 9, 10, 11, 12, 13, 14, 15, 16, 17, 18, 19, 20, 21, 22, 23, 24, 25, 26, 27, 28, 29, 30], [0, 1, 2, 3, 4, 5, 6, 7, 8, 9, 10, 11, 12, 13, 14, 15, 16, 17, 18, 19, 20, 21, 22, 23, 24, 25, 26, 27, 28, 29, 30, 31], [0, 1, 2, 3, 4, 5, 6, 7, 8, 9, 10, 11, 12, 13, 14, 15, 16, 17, 18, 19, 20, 21, 22, 23, 24, 25, 26, 27], [0, 1, 2, 3, 4, 5, 6, 7, 8, 9, 10, 11, 12, 13, 14, 15, 16, 17, 18, 19, 20, 21, 22, 23, 24, 25, 26, 27], [0, 1, 2, 3, 4, 5, 6, 7, 8, 9, 10, 11, 12, 13, 14, 15, 16, 17, 18, 19, 20, 21, 22, 23, 24, 25, 26, 27, 33, 34], [0, 1, 2, 3, 4, 5, 6, 7, 8, 9, 10, 11, 12, 13, 14, 15, 16, 17, 18, 19, 20, 21, 22, 23, 24, 25, 26, 27, 33, 34, 35], [0, 1, 2, 3, 4, 5, 6, 7, 8, 9, 10, 11, 12, 13, 14, 15, 16, 17, 18, 19, 20, 21, 22, 23, 24, 25, 26, 27, 33, 34, 35, 36], [0, 1, 2, 3, 4, 5, 6, 7, 8, 9, 10, 11, 12, 13, 14, 15, 16, 17, 18, 19, 20, 21, 22, 23, 24, 25, 26, 27, 28, 29, 30, 31, 32, 33, 34, 35, 36, 37], [0, 1, 2, 3, 4, 5, 6, 7, 8, 9, 10, 11, 12, 13, 14, 15, 16, 17, 18, 19, 20, 21, 22, 23, 24, 25, 26, 27, 28, 29, 30, 31, 32, 33, 34, 35, 36, 37, 38], [0, 1, 2, 3, 4, 5, 6, 7, 8, 9, 10, 11, 12, 13, 14, 15, 16, 17, 18, 19, 20, 21, 22, 23, 24, 25, 26, 27, 28, 29, 30, 31, 32, 33, 34, 35, 36, 37, 38, 39]] [.one (.mov 29 (.r 4)),
      .one (.bin 30 .lss (.r 29) (.c (.int .i64 (0)))),
      .one (.mov 31 (.r 30)),
      .grp 31 false [.mov 32 (.r 0), .mov 33 (.r 5), .idx 34 (.r 32) (.r 33) 6, .fad 35 (.r 34) 1, .load 36 (.r 35) 1 false, .mov 37 (.r 0), .mov 38 (.r 4), .idx 39 (.r 37) (.r 38) 6, .fad 40 (.r 39) 1, .load 41 (.r 40) 1 false, .bin 42 .lss (.r 36) (.r 41)],
      .one (.pick 43 (.r 31) (.c (.bool true)) (.r 42)),
      .one (.mov 44 (.r 43)),
      .grp 44 false [.mov 45 (.r 0), .mov 46 (.r 5), .idx 47 (.r 45) (.r 46) 6, .fad 48 (.r 47) 1, .load 49 (.r 48) 1 false, .mov 50 (.r 0), .mov 51 (.r 4), .idx 52 (.r 50) (.r 51) 6, .fad 53 (.r 52) 1, .load 54 (.r 53) 1 false, .bin 55 .eql (.r 49) (.r 54), .mov 56 (.r 55)],
      .grp 56 true [.mov 57 (.r 0), .mov 58 (.r 5), .idx 59 (.r 57) (.r 58) 6, .fad 60 (.r 59) 0, .load 61 (.r 60) 1 false, .mov 62 (.r 0), .mov 63 (.r 4), .idx 64 (.r 62) (.r 63) 6, .fad 65 (.r 64) 0, .load 66 (.r 65) 1 false, .bin 67 .lss (.r 61) (.r 66)],
      .grp 44 false [.pick 68 (.r 56) (.r 67) (.c (.bool false))],
      .one (.pick 69 (.r 44) (.c (.bool true)) (.r 68))])
                 (.cond (.r 69)
                  /- R8 -/ (.ops [.it (.one (.mov 70 (.r 5))),
      .it (.one (.mov 4 (.r 70)))]) .skip))))
              /- R5 -/ (.ops [.it (.one (.mov 10 (.r 5))),
      .it (.one (.bin 11 .add (.r 10) (.c (.int .i64 (1))))),
      .it (.one (.mov 5 (.r 11)))])))))))
         (.seq
          (.seq
           /- R9 -/ (.ops [.it (.one (.mov 71 (.r 4))),
      .it (.one (.bin 72 .lss (.r 71) (.c (.int .i64 (0)))))])
           (.cond (.r 72)
            (.seq
             /- R10 -/ (.post (.ops [.it (.one (.mov 73 (.r 3))),
      .it (.one (.mov 2 (.r 73)))]) (.frz 3)) .ret) .skip))
          /- R11 -/ (.ops [.it (.one (.mov 74 (.r 3))),
      .it (.one (.mov 75 (.r 0))),
      .it (.one (.mov 76 (.r 4))),
      .it (.one (.idx 77 (.r 75) (.r 76) 6)),
      .it (.one (.fad 78 (.r 77) 3)),
      .it (.one (.fad 79 (.r 78) 2)),
      .it (.one (.load 80 (.r 79) 1 false)),
      .it (.one (.bslp 81 1 [(.r 80)])),
      .it (.one (.appd 82 (.r 74) (.r 81) 1 8)),
      .it (.one (.mov 3 (.r 82)))]))))))))))
theorem A9_ok : okFun Try.prog 9 83 0 A9 [.tmp 2] [] = true := by kernel_rfl
/-- dyehouse/dyehouseref12.In -/
def A10 : ACode :=
  (.seq
   /- R0 -/ (.ops [.it (.one (.mov 4 (.c (.bool false))))])
   (.seq
    (.seq
     /- R1 -/ (.ops [.it (.one (.mov 5 (.c (.int .i64 (0)))))])
     (.block 0
      (.loop (.pre (.mv [0, 1, 5] [])
       (.seq
        (.seq
         /- R2 -/ (.ops [.it (.one (.mov 6 (.r 5))),
      .it (.one (.mov 7 (.r 0))),
      .it (.one (.len 8 (.r 7))),
      .it (.one (.bin 9 .lss (.r 6) (.r 8)))])
         (.cond (.r 9) .skip (.exit 0)))
        (.seq
         (.block 1
          (.seq
           /- R4 -/ (.ops [.it (.one (.mov 12 (.r 0))),
      .it (.one (.mov 13 (.r 5))),
      .it (.one (.idx 14 (.r 12) (.r 13) 1)),
      .it (.one (.load 15 (.r 14) 1 false)),
      .it (.one (.mov 16 (.r 1))),
      .it (.one (.bin 17 .eql (.r 15) (.r 16)))])
           (.cond (.r 17)
            (.seq
             /- R5 -/ (.ops [.it (.one (.mov 4 (.c (.bool true))))]) .ret) .skip)))
         /- R3 -/ (.ops [.it (.one (.mov 10 (.r 5))),
      .it (.one (.bin 11 .add (.r 10) (.c (.int .i64 (1))))),
      .it (.one (.mov 5 (.r 11)))])))))))
    (.seq
     /- R6 -/ (.ops [.it (.one (.mov 4 (.c (.bool false))))]) .ret)))
theorem A10_ok : okFun Try.prog 10 18 0 A10 [.tmp 4] [] = true := by kernel_rfl
/-- dyehouse/dyehouseref12.Ints -/
def A11 : ACode :=
  (.seq
   /- R0 -/ (.ops [.it (.one (.mov 4 (.c (.bool false))))])
   (.seq
    (.seq
     /- R1 -/ (.ops [.it (.one (.mov 6 (.r 0))),
      .it (.one (.len 7 (.r 6))),
      .it (.one (.mov 8 (.r 1))),
      .it (.one (.len 9 (.r 8))),
      .it (.one (.bin 10 .neq (.r 7) (.r 9)))])
     (.cond (.r 10)
      (.seq
       /- R2 -/ (.ops [.it (.one (.mov 4 (.c (.bool false))))]) .ret) .skip))
    (.seq
     (.seq
      /- R3 -/ (.ops [.it (.one (.mov 5 (.c (.int .i64 (0)))))])
      (.block 0
       (.loop (.pre (.mv [0, 1, 5] [])
        (.seq
         (.seq
          /- R4 -/ (.ops [.it (.one (.mov 11 (.r 5))),
      .it (.one (.mov 12 (.r 0))),
      .it (.one (.len 13 (.r 12))),
      .it (.one (.bin 14 .lss (.r 11) (.r 13)))])
          (.cond (.r 14) .skip (.exit 0)))
         (.seq
          (.block 1
           (.seq
            /- R6 -/ (.draw [[], [], [0, 1], [0, 1, 2], [], [], [4, 5], [4, 5, 6], [0, 1, 2, 3, 4, 5, 6, 7]] [.one (.mov 17 (.r 0)),
      .one (.mov 18 (.r 5)),
      .one (.idx 19 (.r 17) (.r 18) 1),
      .one (.load 20 (.r 19) 1 false),
      .one (.mov 21 (.r 1)),
      .one (.mov 22 (.r 5)),
      .one (.idx 23 (.r 21) (.r 22) 1),
      .one (.load 24 (.r 23) 1 false),
      .one (.bin 25 .neq (.r 20) (.r 24))])
            (.cond (.r 25)
             (.seq
              /- R7 -/ (.ops [.it (.one (.mov 4 (.c (.bool false))))]) .ret) .skip)))
          /- R5 -/ (.ops [.it (.one (.mov 15 (.r 5))),
      .it (.one (.bin 16 .add (.r 15) (.c (.int .i64 (1))))),
      .it (.one (.mov 5 (.r 16)))])))))))
     (.seq
      /- R8 -/ (.ops [.it (.one (.mov 4 (.c (.bool true))))]) .ret))))
theorem A11_ok : okFun Try.prog 11 26 0 A11 [.tmp 4] [] = true := by kernel_rfl
/-- dyehouse/slot.Used -/
def A12 : ACode :=
  (.seq
   /- R0 -/ (.ops [.it (.one (.mov 2 (.c (.sl []))))])
   (.seq
    /- R1 -/ (.ops [.it (.one (.nilarr 3 3 1))])
    (.seq
     (.seq
      /- R2 -/ (.ops [.it (.one (.mov 6 (.r 0))),
      .it (.one (.callf (some 7) (.st 25) [(.r 6)])),
      .it (.one (.len 8 (.r 7))),
      .it (.one (.mov 9 (.c (.int .i64 (0)))))])
      (.block 0
       (.loop (.pre (.mv [3, 7, 8, 9] [(3, 3)])
        (.seq
         /- R3 -/ (.ops [.it (.one (.bin 10 .lss (.r 9) (.r 8)))])
         (.seq
          (.cond (.r 10) .skip (.exit 0))
          (.seq
           (.block 1
            (.seq
             /- R4 -/ (.post (.ops [.it (.one (.idx 11 (.r 7) (.r 9) 6)),
      .it (.one (.load 12 (.r 11) 6 true)),
      .it (.one (.alloc 5 5 [.int .i64 0, .int .i64 0, .int .i64 0, .int .i64 0, .int .i64 0, .int .i64 0])),
      .it (.one (.store (.r 5) (.r 12) 6))]) (.frz 5))
             (.seq
              /- R5 -/ (.ops [.it (.one (.fad 13 (.r 5) 3)),
      .it (.one (.fad 14 (.r 13) 0)),
      .it (.one (.load 15 (.r 14) 1 false)),
      .it (.one (.bin 16 .eql (.r 15) (.c (.int .i64 (3))))),
      .it (.one (.mov 17 (.r 16))),
      .it (.grp 17 true [.mov 18 (.r 3), .fad 19 (.r 5) 3, .fad 20 (.r 19) 2, .load 21 (.r 20) 1 false, .callb (some 22) (.st 26) [(.r 18), (.r 21)], .un 23 .not (.r 22)]),
      .it (.one (.pick 24 (.r 17) (.r 23) (.c (.bool false))))])
              (.cond (.r 24)
               /- R6 -/ (.ops [.it (.one (.mov 25 (.r 3))),
      .it (.one (.fad 26 (.r 5) 3)),
      .it (.one (.fad 27 (.r 26) 2)),
      .it (.one (.load 28 (.r 27) 1 false)),
      .it (.one (.bslp 29 1 [(.r 28)])),
      .it (.one (.appd 30 (.r 25) (.r 29) 1 8)),
      .it (.one (.mov 3 (.r 30)))]) .skip))))
           /- R7 -/ (.ops [.it (.one (.bin 31 .add (.r 9) (.c (.int .i64 (1))))),
      .it (.one (.mov 9 (.r 31)))]))))))))
     (.seq
      /- R8 -/ (.post (.ops [.it (.one (.mov 32 (.r 3))),
      .it (.one (.mov 2 (.r 32)))]) (.frz 3)) .ret))))
theorem A12_ok : okFun Try.prog 12 33 0 A12 [.tmp 2] [] = true := by kernel_rfl
/-- dyehouse/slot.Dense -/
def A13 : ACode :=
  (.seq
   /- R0 -/ (.ops [.it (.one (.mov 2 (.c (.bool false))))])
   (.seq
    (.seq
     /- R1 -/ (.ops [.it (.one (.mov 5 (.r 0))),
      .it (.one (.callf (some 6) (.st 12) [(.r 5)])),
      .it (.one (.len 7 (.r 6))),
      .it (.one (.mov 8 (.c (.int .i64 (0)))))])
     (.block 0
      (.loop (.pre (.mv [6, 7, 8] [])
       (.seq
        /- R2 -/ (.ops [.it (.one (.bin 9 .lss (.r 8) (.r 7)))])
        (.seq
         (.cond (.r 9) .skip (.exit 0))
         (.seq
          (.block 1
           (.seq
            /- R3 -/ (.ops [.it (.one (.mov 10 (.r 8))),
      .it (.one (.idx 11 (.r 6) (.r 8) 1)),
      .it (.one (.load 12 (.r 11) 1 false)),
      .it (.one (.mov 3 (.r 10))),
      .it (.one (.mov 4 (.r 12)))])
            (.seq
             /- R4 -/ (.ops [.it (.one (.mov 13 (.r 3))),
      .it (.one (.mov 14 (.r 4))),
      .it (.one (.bin 15 .neq (.r 13) (.r 14)))])
             (.cond (.r 15)
              (.seq
               /- R5 -/ (.ops [.it (.one (.mov 2 (.c (.bool false))))]) .ret) .skip))))
          /- R6 -/ (.ops [.it (.one (.bin 16 .add (.r 8) (.c (.int .i64 (1))))),
      .it (.one (.mov 8 (.r 16)))]))))))))
    (.seq
     /- R7 -/ (.ops [.it (.one (.mov 2 (.c (.bool true))))]) .ret)))
theorem A13_ok : okFun Try.prog 13 17 0 A13 [.tmp 2] [] = true := by kernel_rfl
/-- dyehouse/dyehouseref27.Dense -/
def A14 : ACode :=
  (.seq
   /- R0 -/ (.ops [.it (.one (.mov 2 (.c (.bool false))))])
   (.seq
    /- R1 -/ (.ops [.it (.one (.mov 5 (.r 0))),
      .it (.one (.callf (some 6) (.st 9) [(.r 5)])),
      .it (.one (.mov 3 (.r 6)))])
    (.seq
     (.seq
      /- R2 -/ (.ops [.it (.one (.mov 4 (.c (.int .i64 (0)))))])
      (.block 0
       (.loop (.pre (.mv [3, 4] [])
        (.seq
         (.seq
          /- R3 -/ (.ops [.it (.one (.mov 7 (.r 4))),
      .it (.one (.mov 8 (.r 3))),
      .it (.one (.len 9 (.r 8))),
      .it (.one (.bin 10 .lss (.r 7) (.r 9)))])
          (.cond (.r 10) .skip (.exit 0)))
         (.seq
          (.block 1
           (.seq
            /- R5 -/ (.ops [.it (.one (.mov 13 (.r 3))),
      .it (.one (.mov 14 (.r 4))),
      .it (.one (.idx 15 (.r 13) (.r 14) 1)),
      .it (.one (.load 16 (.r 15) 1 false)),
      .it (.one (.mov 17 (.r 4))),
      .it (.one (.bin 18 .neq (.r 16) (.r 17)))])
            (.cond (.r 18)
             (.seq
              /- R6 -/ (.ops [.it (.one (.mov 2 (.c (.bool false))))]) .ret) .skip)))
          /- R4 -/ (.ops [.it (.one (.mov 11 (.r 4))),
      .it (.one (.bin 12 .add (.r 11) (.c (.int .i64 (1))))),
      .it (.one (.mov 4 (.r 12)))])))))))
     (.seq
      /- R7 -/ (.ops [.it (.one (.mov 2 (.c (.bool true))))]) .ret))))
theorem A14_ok : okFun Try.prog 14 19 0 A14 [.tmp 2] [] = true := by kernel_rfl
/-- dyehouse/slot.Stray -/
def A15 : ACode :=
  (.seq
   /- R0 -/ (.ops [.it (.one (.boxp 1 (.r 0))),
      .it (.one (.mov 2 (.c (.int .i64 (0)))))])
   (.seq
    /- R1 -/ (.ops [.it (.one (.load 3 (.r 1) 1 false)),
      .it (.one (.mkfn 4 27 [(.r 1)])),
      .it (.one (.callf (some 5) (.st 20) [(.r 3), (.r 4)])),
      .it (.one (.mov 2 (.r 5)))]) .ret))
theorem A15_ok : okFun Try.prog 15 6 0 A15 [.tmp 2] [] = true := by kernel_rfl
/-- dyehouse/dyehouseref27.Stray -/
def A16 : ACode :=
  (.seq
   /- R0 -/ (.ops [.it (.one (.mov 2 (.c (.int .i64 (0)))))])
   (.seq
    (.seq
     /- R1 -/ (.ops [.it (.one (.mov 3 (.c (.int .i64 (0)))))])
     (.block 0
      (.loop (.pre (.mv [0, 3] [])
       (.seq
        (.seq
         /- R2 -/ (.ops [.it (.one (.mov 6 (.r 3))),
      .it (.one (.mov 7 (.r 0))),
      .it (.one (.len 8 (.r 7))),
      .it (.one (.bin 9 .lss (.r 6) (.r 8)))])
         (.cond (.r 9) .skip (.exit 0)))
        (.seq
         (.block 1
          (.seq
           /- R4 -/ (.ops [.it (.one (.mov 13 (.r 0))),
      .it (.one (.mov 14 (.r 0))),
      .it (.one (.mov 15 (.r 3))),
      .it (.one (.idx 16 (.r 14) (.r 15) 6)),
      .it (.one (.fad 17 (.r 16) 0)),
      .it (.one (.load 18 (.r 17) 1 false)),
      .it (.one (.callf (some 19) (.st 7) [(.r 13), (.r 18)])),
      .it (.one (.mov 12 (.r 19))),
      .it (.one (.ext 20 (.r 12) 0)),
      .it (.one (.ext 21 (.r 12) 1)),
      .it (.one (.mov 4 (.r 20))),
      .it (.one (.mov 5 (.r 21)))])
           (.seq
            /- R5 -/ (.ops [.it (.one (.mov 22 (.r 0))),
      .it (.one (.mov 23 (.r 3))),
      .it (.one (.idx 24 (.r 22) (.r 23) 6)),
      .it (.one (.fad 25 (.r 24) 3)),
      .it (.one (.fad 26 (.r 25) 0)),
      .it (.one (.load 27 (.r 26) 1 false)),
      .it (.one (.bin 28 .eql (.r 27) (.c (.int .i64 (3))))),
      .it (.one (.mov 29 (.r 28))),
      .it (.grp 29 true [.mov 30 (.r 0), .mov 31 (.r 3), .idx 32 (.r 30) (.r 31) 6, .fad 33 (.r 32) 3, .fad 34 (.r 33) 2, .load 35 (.r 34) 1 false, .mov 36 (.r 4), .bin 37 .neq (.r 35) (.r 36)]),
      .it (.one (.pick 38 (.r 29) (.r 37) (.c (.bool false))))])
            (.cond (.r 38)
             (.seq
              /- R6 -/ (.ops [.it (.one (.mov 39 (.r 3))),
      .it (.one (.mov 2 (.r 39)))]) .ret) .skip))))
         /- R3 -/ (.ops [.it (.one (.mov 10 (.r 3))),
      .it (.one (.bin 11 .add (.r 10) (.c (.int .i64 (1))))),
      .it (.one (.mov 3 (.r 11)))])))))))
    (.seq
     /- R7 -/ (.ops [.it (.one (.mov 2 (.c (.int .i64 (-1)))))]) .ret)))
theorem A16_ok : okFun Try.prog 16 40 0 A16 [.tmp 2] [] = true := by kernel_rfl
/-- dyehouse/slot.Number -/
def A17 : ACode :=
  (.seq
   /- R0 -/ (.ops [.it (.one (.mov 2 (.c (.sl []))))])
   (.seq
    /- R1 -/ (.post (.ops [.it (.one (.mov 4 (.r 0))),
      .it (.one (.callf (some 5) (.st 12) [(.r 4)])),
      .it (.one (.alloc 3 3 [.sl []])),
      .it (.one (.store (.r 3) (.r 5) 1))]) (.frz 3))
    (.seq
     /- R2 -/ (.ops [.it (.one (.mov 6 (.r 0))),
      .it (.one (.mkfn 7 29 [(.r 3)])),
      .it (.one (.callf (some 8) (.st 28) [(.r 6), (.r 7)])),
      .it (.one (.mov 2 (.r 8)))]) .ret)))
theorem A17_ok : okFun Try.prog 17 9 0 A17 [.tmp 2] [] = true := by kernel_rfl
/-- dyehouse/dyehouselaw27.s -/
def A18 : ACode :=
  (.seq
   /- R0 -/ (.ops [.it (.one (.alloc 2 2 [.int .i64 0, .int .i64 0, .int .i64 0]))])
   (.seq
    /- R1 -/ (.ops [.it (.one (.mov 3 (.r 0))),
      .it (.one (.build 4 [.int .i64 0, .int .i64 0, .int .i64 0] [(0, 1, (.c (.int .i64 (3)))), (2, 1, (.r 3))])),
      .it (.one (.store (.r 2) (.r 4) 3))]) .ret))
theorem A18_ok : okFun Try.prog 18 5 0 A18 [.cell 2 3 true] [] = true := by kernel_rfl
/-- dyehouse/slot.Shared$1 -/
def A19 : ACode :=
  (.seq
   /- R0 -/ (.ops [.it (.one (.boxp 2 (.r 0))),
      .it (.one (.alloc 3 3 [.int .i64 0])),
      .it (.one (.mov 4 (.c (.bool false))))])
   (.seq
    /- R1 -/ (.ops [.it (.one (.load 6 (.r 1) 1 false)),
      .it (.one (.mkfn 7 21 [(.r 2)])),
      .it (.one (.callf (some 8) (.st 20) [(.r 6), (.r 7)])),
      .it (.one (.mov 5 (.r 8)))])
    (.seq
     /- R2 -/ (.ops [.it (.one (.load 9 (.r 1) 1 false)),
      .it (.one (.mov 10 (.r 5))),
      .it (.one (.idx 11 (.r 9) (.r 10) 6)),
      .it (.one (.fad 12 (.r 11) 0)),
      .it (.one (.load 13 (.r 12) 1 false)),
      .it (.one (.store (.r 3) (.r 13) 1))])
     (.seq
      /- R3 -/ (.draw [[], [], [], [1, 2], [0, 1, 2, 3], [0, 1, 2, 3, 4]] [.one (.load 14 (.r 3) 1 false),
      .one (.load 15 (.r 1) 1 false),
      .one (.mkfn 16 23 [(.r 2), (.r 3)]),
      .one (.callb (some 17) (.st 22) [(.r 15), (.r 16)]),
      .one (.store (.r 3) (.r 14) 1),
      .one (.mov 4 (.r 17))]) .ret))))
theorem A19_ok : okFun Try.prog 19 18 0 A19 [.cell 3 1 false, .tmp 4] [] = true := by kernel_rfl
/-- slices.IndexFunc[[]dyehouse/api.Seg,dyehouse/api.Seg] -/
def A20 : ACode :=
  (.seq
   /- R0 -/ (.ops [.it (.one (.mov 4 (.c (.int .i64 (0)))))])
   (.seq
    (.seq
     /- R1 -/ (.ops [.it (.one (.mov 6 (.r 0))),
      .it (.one (.len 7 (.r 6))),
      .it (.one (.mov 8 (.c (.int .i64 (0)))))])
     (.block 0
      (.loop (.pre (.mv [0, 1, 7, 8] [])
       (.seq
        /- R2 -/ (.ops [.it (.one (.bin 9 .lss (.r 8) (.r 7)))])
        (.seq
         (.cond (.r 9) .skip (.exit 0))
         (.seq
          (.block 1
           (.seq
            /- R3 -/ (.ops [.it (.one (.mov 10 (.r 8))),
      .it (.one (.mov 5 (.r 10)))])
            (.seq
             /- R4 -/ (.ops [.it (.one (.mov 11 (.r 1))),
      .it (.one (.mov 12 (.r 0))),
      .it (.one (.mov 13 (.r 5))),
      .it (.one (.idx 14 (.r 12) (.r 13) 6)),
      .it (.one (.load 15 (.r 14) 6 true)),
      .it (.one (.callf (some 16) (.dy (.r 11)) [(.r 15)]))])
             (.cond (.r 16)
              (.seq
               /- R5 -/ (.ops [.it (.one (.mov 17 (.r 5))),
      .it (.one (.mov 4 (.r 17)))]) .ret) .skip))))
          /- R6 -/ (.ops [.it (.one (.bin 18 .add (.r 8) (.c (.int .i64 (1))))),
      .it (.one (.mov 8 (.r 18)))]))))))))
    (.seq
     /- R7 -/ (.ops [.it (.one (.mov 4 (.c (.int .i64 (-1)))))]) .ret)))
theorem A20_ok : okFun Try.prog 20 19 0 A20 [.tmp 4] [] = true := by kernel_rfl
/-- dyehouse/slot.Shared$1$1 -/
def A21 : ACode :=
  (.seq
   /- R0 -/ (.ops [.it (.one (.boxp 2 (.r 0))),
      .it (.one (.mov 3 (.c (.bool false))))])
   (.seq
    /- R1 -/ (.ops [.it (.one (.fad 4 (.r 2) 3)),
      .it (.one (.fad 5 (.r 4) 0)),
      .it (.one (.load 6 (.r 5) 1 false)),
      .it (.one (.bin 7 .eql (.r 6) (.c (.int .i64 (3))))),
      .it (.one (.mov 8 (.r 7))),
      .it (.grp 8 true [.fad 9 (.r 2) 3, .fad 10 (.r 9) 2, .load 11 (.r 10) 1 false, .load 12 (.r 1) 1 false, .bin 13 .eql (.r 11) (.r 12)]),
      .it (.one (.pick 14 (.r 8) (.r 13) (.c (.bool false)))),
      .it (.one (.mov 3 (.r 14)))]) .ret))
theorem A21_ok : okFun Try.prog 21 15 0 A21 [.tmp 3] [] = true := by kernel_rfl
/-- slices.ContainsFunc[[]dyehouse/api.Seg,dyehouse/api.Seg] -/
def A22 : ACode :=
  (.seq
   /- R0 -/ (.ops [.it (.one (.mov 4 (.c (.bool false))))])
   (.seq
    /- R1 -/ (.ops [.it (.one (.mov 5 (.r 0))),
      .it (.one (.mov 6 (.r 1))),
      .it (.one (.callf (some 7) (.st 20) [(.r 5), (.r 6)])),
      .it (.one (.bin 8 .geq (.r 7) (.c (.int .i64 (0))))),
      .it (.one (.mov 4 (.r 8)))]) .ret))
theorem A22_ok : okFun Try.prog 22 9 0 A22 [.tmp 4] [] = true := by kernel_rfl
/-- dyehouse/slot.Shared$1$2 -/
def A23 : ACode :=
  (.seq
   /- R0 -/ (.ops [.it (.one (.boxp 3 (.r 0))),
      .it (.one (.mov 4 (.c (.bool false))))])
   (.seq
    /- R1 -/ (.ops [.it (.one (.fad 5 (.r 3) 3)),
      .it (.one (.fad 6 (.r 5) 0)),
      .it (.one (.load 7 (.r 6) 1 false)),
      .it (.one (.bin 8 .eql (.r 7) (.c (.int .i64 (3))))),
      .it (.one (.mov 9 (.r 8))),
      .it (.grp 9 true [.fad 10 (.r 3) 3, .fad 11 (.r 10) 2, .load 12 (.r 11) 1 false, .load 13 (.r 1) 1 false, .bin 14 .eql (.r 12) (.r 13)]),
      .it (.one (.pick 15 (.r 9) (.r 14) (.c (.bool false)))),
      .it (.one (.mov 16 (.r 15))),
      .it (.grp 16 true [.fad 17 (.r 3) 0, .load 18 (.r 17) 1 false, .load 19 (.r 2) 1 false, .bin 20 .neq (.r 18) (.r 19)]),
      .it (.one (.pick 21 (.r 16) (.r 20) (.c (.bool false)))),
      .it (.one (.mov 4 (.r 21)))]) .ret))
theorem A23_ok : okFun Try.prog 23 22 0 A23 [.tmp 4] [] = true := by kernel_rfl
/-- slices.Sort[[]int,int] -/
def A24 : ACode :=
  (.seq
   /- R0 -/ (.ops [.it (.one (.mov 3 (.r 0))),
      .it (.one (.len 4 (.r 3))),
      .it (.one (.mov 2 (.r 4)))])
   /- R1 -/ (.ops [.it (.one (.mov 5 (.r 0))),
      .it (.one (.mov 6 (.r 2))),
      .it (.one (.mov 7 (.r 2))),
      .it (.one (.conv 8 .u64 (.r 7))),
      .it (.one (.callf (some 9) (.st 32) [(.r 8)])),
      .call (some 10) (.st 31) [(.r 5), (.c (.int .i64 (0))), (.r 6), (.r 9)] [0] []]))
theorem A24_ok : okFun Try.prog 24 11 1 A24 [] [] = true := by kernel_rfl
/-- dyehouse/slot.byUse -/
def A25 : ACode :=
  (.seq
   /- R0 -/ (.ops [.it (.one (.mov 2 (.c (.sl []))))])
   (.seq
    /- R1 -/ (.ops [.it (.one (.mov 3 (.r 0))),
      .it (.one (.callf (some 4) (.st 34) [(.r 3)])),
      .it (.one (.callf (some 5) (.st 33) [(.r 4), (.c (.fn 35 []))])),
      .it (.one (.mov 2 (.r 5)))]) .ret))
theorem A25_ok : okFun Try.prog 25 6 0 A25 [.tmp 2] [] = true := by kernel_rfl
/-- slices.Contains[[]int,int] -/
def A26 : ACode :=
  (.seq
   /- R0 -/ (.ops [.it (.one (.mov 4 (.c (.bool false))))])
   (.seq
    /- R1 -/ (.ops [.it (.one (.mov 5 (.r 0))),
      .it (.one (.mov 6 (.r 1))),
      .it (.one (.callf (some 7) (.st 30) [(.r 5), (.r 6)])),
      .it (.one (.bin 8 .geq (.r 7) (.c (.int .i64 (0))))),
      .it (.one (.mov 4 (.r 8)))]) .ret))
theorem A26_ok : okFun Try.prog 26 9 0 A26 [.tmp 4] [] = true := by kernel_rfl
/-- dyehouse/slot.Stray$1 -/
def A27 : ACode :=
  (.seq
   /- R0 -/ (.ops [.it (.one (.boxp 2 (.r 0))),
      .it (.one (.mov 3 (.c (.bool false))))])
   (.seq
    /- R1 -/ (.ops [.it (.one (.load 7 (.r 1) 1 false)),
      .it (.one (.fad 8 (.r 2) 0)),
      .it (.one (.load 9 (.r 8) 1 false)),
      .it (.one (.callf (some 10) (.st 6) [(.r 7), (.r 9)])),
      .it (.one (.mov 6 (.r 10))),
      .it (.one (.ext 11 (.r 6) 0)),
      .it (.one (.ext 12 (.r 6) 1)),
      .it (.one (.mov 4 (.r 11))),
      .it (.one (.mov 5 (.r 12)))])
    (.seq
     /- R2 -/ (.ops [.it (.one (.fad 13 (.r 2) 3)),
      .it (.one (.fad 14 (.r 13) 0)),
      .it (.one (.load 15 (.r 14) 1 false)),
      .it (.one (.bin 16 .eql (.r 15) (.c (.int .i64 (3))))),
      .it (.one (.mov 17 (.r 16))),
      .it (.grp 17 true [.fad 18 (.r 2) 3, .fad 19 (.r 18) 2, .load 20 (.r 19) 1 false, .mov 21 (.r 4), .bin 22 .neq (.r 20) (.r 21)]),
      .it (.one (.pick 23 (.r 17) (.r 22) (.c (.bool false)))),
      .it (.one (.mov 3 (.r 23)))]) .ret)))
theorem A27_ok : okFun Try.prog 27 24 0 A27 [.tmp 3] [] = true := by kernel_rfl
/-- dyehouse/slot.turned -/
def A28 : ACode :=
  (.seq
   /- R0 -/ (.ops [.it (.one (.mov 4 (.c (.sl []))))])
   (.seq
    /- R1 -/ (.ops [.it (.one (.nilarr 5 5 6))])
    (.seq
     (.seq
      /- R2 -/ (.ops [.it (.one (.mov 8 (.r 0))),
      .it (.one (.len 9 (.r 8))),
      .it (.one (.mov 10 (.c (.int .i64 (0)))))])
      (.block 0
       (.loop (.pre (.mv [1, 5, 8, 9, 10] [(5, 5)])
        (.seq
         /- R3 -/ (.ops [.it (.one (.bin 11 .lss (.r 10) (.r 9)))])
         (.seq
          (.cond (.r 11) .skip (.exit 0))
          (.seq
           (.block 1
            (.seq
             /- R4 -/ (.ops [.it (.one (.idx 12 (.r 8) (.r 10) 6)),
      .it (.one (.load 13 (.r 12) 6 true)),
      .it (.one (.alloc 7 7 [.int .i64 0, .int .i64 0, .int .i64 0, .int .i64 0, .int .i64 0, .int .i64 0])),
      .it (.one (.store (.r 7) (.r 13) 6))])
             (.seq
              (.seq
               /- R5 -/ (.ops [.it (.one (.fad 14 (.r 7) 3)),
      .it (.one (.fad 15 (.r 14) 0)),
      .it (.one (.load 16 (.r 15) 1 false)),
      .it (.one (.bin 17 .eql (.r 16) (.c (.int .i64 (3)))))])
               (.cond (.r 17)
                /- R6 -/ (.ops [.it (.one (.mov 18 (.r 1))),
      .it (.one (.fad 19 (.r 7) 3)),
      .it (.one (.fad 20 (.r 19) 2)),
      .it (.one (.load 21 (.r 20) 1 false)),
      .it (.one (.callf (some 22) (.dy (.r 18)) [(.r 21)])),
      .it (.one (.fad 23 (.r 7) 3)),
      .it (.one (.fad 24 (.r 23) 2)),
      .it (.one (.store (.r 24) (.r 22) 1))]) .skip))
              /- R7 -/ (.ops [.it (.one (.mov 25 (.r 5))),
      .it (.one (.load 26 (.r 7) 6 true)),
      .it (.one (.bslp 27 6 [(.r 26)])),
      .it (.one (.appd 28 (.r 25) (.r 27) 6 48)),
      .it (.one (.mov 5 (.r 28)))]))))
           /- R8 -/ (.ops [.it (.one (.bin 29 .add (.r 10) (.c (.int .i64 (1))))),
      .it (.one (.mov 10 (.r 29)))]))))))))
     (.seq
      /- R9 -/ (.post (.ops [.it (.one (.mov 30 (.r 5))),
      .it (.one (.mov 4 (.r 30)))]) (.frz 5)) .ret))))
theorem A28_ok : okFun Try.prog 28 31 0 A28 [.tmp 4] [] = true := by kernel_rfl
/-- dyehouse/slot.Number$1 -/
def A29 : ACode :=
  (.seq
   /- R0 -/ (.ops [.it (.one (.mov 3 (.c (.int .i64 (0)))))])
   (.seq
    /- R1 -/ (.ops [.it (.one (.load 4 (.r 1) 1 false)),
      .it (.one (.mov 5 (.r 0))),
      .it (.one (.callf (some 6) (.st 30) [(.r 4), (.r 5)])),
      .it (.one (.mov 3 (.r 6)))]) .ret))
theorem A29_ok : okFun Try.prog 29 7 0 A29 [.tmp 3] [] = true := by kernel_rfl
/-- slices.Index[[]int,int] -/
def A30 : ACode :=
  (.seq
   /- R0 -/ (.ops [.it (.one (.mov 4 (.c (.int .i64 (0)))))])
   (.seq
    (.seq
     /- R1 -/ (.ops [.it (.one (.mov 6 (.r 0))),
      .it (.one (.len 7 (.r 6))),
      .it (.one (.mov 8 (.c (.int .i64 (0)))))])
     (.block 0
      (.loop (.pre (.mv [0, 1, 7, 8] [])
       (.seq
        /- R2 -/ (.ops [.it (.one (.bin 9 .lss (.r 8) (.r 7)))])
        (.seq
         (.cond (.r 9) .skip (.exit 0))
         (.seq
          (.block 1
           (.seq
            /- R3 -/ (.ops [.it (.one (.mov 10 (.r 8))),
      .it (.one (.mov 5 (.r 10)))])
            (.seq
             /- R4 -/ (.ops [.it (.one (.mov 11 (.r 1))),
      .it (.one (.mov 12 (.r 0))),
      .it (.one (.mov 13 (.r 5))),
      .it (.one (.idx 14 (.r 12) (.r 13) 1)),
      .it (.one (.load 15 (.r 14) 1 false)),
      .it (.one (.bin 16 .eql (.r 11) (.r 15)))])
             (.cond (.r 16)
              (.seq
               /- R5 -/ (.ops [.it (.one (.mov 17 (.r 5))),
      .it (.one (.mov 4 (.r 17)))]) .ret) .skip))))
          /- R6 -/ (.ops [.it (.one (.bin 18 .add (.r 8) (.c (.int .i64 (1))))),
      .it (.one (.mov 8 (.r 18)))]))))))))
    (.seq
     /- R7 -/ (.ops [.it (.one (.mov 4 (.c (.int .i64 (-1)))))]) .ret)))
theorem A30_ok : okFun Try.prog 30 19 0 A30 [.tmp 4] [] = true := by kernel_rfl
/-- slices.pdqsortOrdered[int] -/
def A31 : ACode :=
  (.seq
   /- R0 -/ (.ops [.it (.one (.mov 8 (.c (.bool true))))])
   (.seq
    /- R1 -/ (.ops [.it (.one (.mov 9 (.c (.bool true))))])
    (.block 0
     (.loop (.pre (.mv [0, 1, 2, 3, 8, 9] [(0, 0)])
      (.block 1
       (.seq
        /- R2 -/ (.ops [.it (.one (.mov 19 (.r 2))),
      .it (.one (.mov 20 (.r 1))),
      .it (.one (.bin 21 .sub (.r 19) (.r 20))),
      .it (.one (.mov 10 (.r 21)))])
        (.seq
         (.seq
          /- R3 -/ (.ops [.it (.one (.mov 22 (.r 10))),
      .it (.one (.bin 23 .leq (.r 22) (.c (.int .i64 (12)))))])
          (.cond (.r 23)
           (.seq
            /- R4 -/ (.ops [.it (.one (.mov 24 (.r 0))),
      .it (.one (.mov 25 (.r 1))),
      .it (.one (.mov 26 (.r 2))),
      .call (some 27) (.st 38) [(.r 24), (.r 25), (.r 26)] [0] []]) .ret) .skip))
         (.seq
          (.seq
           /- R5 -/ (.ops [.it (.one (.mov 28 (.r 3))),
      .it (.one (.bin 29 .eql (.r 28) (.c (.int .i64 (0)))))])
           (.cond (.r 29)
            (.seq
             /- R6 -/ (.ops [.it (.one (.mov 30 (.r 0))),
      .it (.one (.mov 31 (.r 1))),
      .it (.one (.mov 32 (.r 2))),
      .it (.one (.callb (some 33) (.st 39) [(.r 30), (.r 31), (.r 32)]))]) .ret) .skip))
          (.seq
           (.seq
            /- R7 -/ (.ops [.it (.one (.mov 34 (.r 8))),
      .it (.one (.un 35 .not (.r 34)))])
            (.cond (.r 35)
             (.seq
              /- R8 -/ (.ops [.it (.one (.mov 36 (.r 0))),
      .it (.one (.mov 37 (.r 1))),
      .it (.one (.mov 38 (.r 2))),
      .it (.one (.callb (some 39) (.st 40) [(.r 36), (.r 37), (.r 38)]))])
              /- R9 -/ (.ops [.it (.one (.mov 40 (.r 3))),
      .it (.one (.bin 41 .sub (.r 40) (.c (.int .i64 (1))))),
      .it (.one (.mov 3 (.r 41)))])) .skip))
           (.seq
            /- R10 -/ (.ops [.it (.one (.mov 43 (.r 0))),
      .it (.one (.mov 44 (.r 1))),
      .it (.one (.mov 45 (.r 2))),
      .it (.one (.callb (some 46) (.st 41) [(.r 43), (.r 44), (.r 45)])),
      .it (.one (.mov 42 (.r 46))),
      .it (.one (.ext 47 (.r 42) 0)),
      .it (.one (.ext 48 (.r 42) 1)),
      .it (.one (.mov 11 (.r 47))),
      .it (.one (.mov 12 (.r 48)))])
            (.seq
             (.seq
              /- R11 -/ (.ops [.it (.one (.mov 49 (.r 12))),
      .it (.one (.bin 50 .eql (.r 49) (.c (.int .i64 (2)))))])
              (.cond (.r 50)
               (.seq
                /- R12 -/ (.ops [.it (.one (.mov 51 (.r 0))),
      .it (.one (.mov 52 (.r 1))),
      .it (.one (.mov 53 (.r 2))),
      .it (.one (.callb (some 54) (.st 42) [(.r 51), (.r 52), (.r 53)]))])
                (.seq
                 /- R13 -/ (.ops [.it (.one (.mov 55 (.r 2))),
      .it (.one (.bin 56 .sub (.r 55) (.c (.int .i64 (1))))),
      .it (.one (.mov 57 (.r 11))),
      .it (.one (.mov 58 (.r 1))),
      .it (.one (.bin 59 .sub (.r 57) (.r 58))),
      .it (.one (.bin 60 .sub (.r 56) (.r 59))),
      .it (.one (.mov 11 (.r 60)))])
                 /- R14 -/ (.ops [.it (.one (.mov 12 (.c (.int .i64 (1)))))]))) .skip))
             (.seq
              (.seq
               /- R15 -/ (.ops [.it (.one (.mov 61 (.r 8))),
      .it (.one (.mov 62 (.r 61))),
      .it (.grp 62 true [.mov 63 (.r 9)]),
      .it (.one (.pick 64 (.r 62) (.r 63) (.c (.bool false)))),
      .it (.one (.mov 65 (.r 64))),
      .it (.grp 65 true [.mov 66 (.r 12), .bin 67 .eql (.r 66) (.c (.int .i64 (1)))]),
      .it (.one (.pick 68 (.r 65) (.r 67) (.c (.bool false))))])
               (.cond (.r 68)
                (.seq
                 /- R16 -/ (.ops [.it (.one (.mov 69 (.r 0))),
      .it (.one (.mov 70 (.r 1))),
      .it (.one (.mov 71 (.r 2))),
      .it (.one (.callb (some 72) (.st 43) [(.r 69), (.r 70), (.r 71)]))])
                 (.cond (.r 72) .ret .skip)) .skip))
              (.seq
               (.seq
                /- R17 -/ (.draw [[], [0], [0, 1], [0, 1, 2], [0, 1, 2], [0, 1, 2, 4], [0, 1, 2, 3, 4, 5], [0, 1, 2, 3, 4, 5, 6], [0, 1, 2], [0, 1, 2], [0, 1, 2, 8, 9], [0, 1, 2, 8, 9, 10], [0, 1, 2, 3, 4, 5, 6, 7, 8, 9, 10, 11], [0, 1, 2, 3, 4, 5, 6, 7, 8, 9, 10, 11, 12], [0, 1, 2, 3, 4, 5, 6, 7, 8, 9, 10, 11, 12, 13]] [.one (.mov 73 (.r 1)),
      .one (.bin 74 .gtr (.r 73) (.c (.int .i64 (0)))),
      .one (.mov 75 (.r 74)),
      .grp 75 true [.mov 76 (.r 0), .mov 77 (.r 1), .bin 78 .sub (.r 77) (.c (.int .i64 (1))), .idx 79 (.r 76) (.r 78) 1, .load 80 (.r 79) 1 false, .mov 81 (.r 0), .mov 82 (.r 11), .idx 83 (.r 81) (.r 82) 1, .load 84 (.r 83) 1 false, .callf (some 85) (.st 44) [(.r 80), (.r 84)], .un 86 .not (.r 85)],
      .one (.pick 87 (.r 75) (.r 86) (.c (.bool false)))])
                (.cond (.r 87)
                 (.seq
                  /- R18 -/ (.ops [.it (.one (.mov 88 (.r 0))),
      .it (.one (.mov 89 (.r 1))),
      .it (.one (.mov 90 (.r 2))),
      .it (.one (.mov 91 (.r 11))),
      .it (.one (.callb (some 92) (.st 45) [(.r 88), (.r 89), (.r 90), (.r 91)])),
      .it (.one (.mov 13 (.r 92)))])
                  (.seq
                   /- R19 -/ (.ops [.it (.one (.mov 93 (.r 13))),
      .it (.one (.mov 1 (.r 93)))]) (.exit 1))) .skip))
               (.seq
                /- R20 -/ (.ops [.it (.one (.mov 95 (.r 0))),
      .it (.one (.mov 96 (.r 1))),
      .it (.one (.mov 97 (.r 2))),
      .it (.one (.mov 98 (.r 11))),
      .it (.one (.callb (some 99) (.st 46) [(.r 95), (.r 96), (.r 97), (.r 98)])),
      .it (.one (.mov 94 (.r 99))),
      .it (.one (.ext 100 (.r 94) 0)),
      .it (.one (.ext 101 (.r 94) 1)),
      .it (.one (.mov 14 (.r 100))),
      .it (.one (.mov 15 (.r 101)))])
                (.seq
                 /- R21 -/ (.ops [.it (.one (.mov 102 (.r 15))),
      .it (.one (.mov 9 (.r 102)))])
                 (.seq
                  /- R22 -/ (.ops [.it (.one (.mov 103 (.r 14))),
      .it (.one (.mov 104 (.r 1))),
      .it (.one (.bin 105 .sub (.r 103) (.r 104))),
      .it (.one (.mov 106 (.r 2))),
      .it (.one (.mov 107 (.r 14))),
      .it (.one (.bin 108 .sub (.r 106) (.r 107))),
      .it (.one (.mov 16 (.r 105))),
      .it (.one (.mov 17 (.r 108)))])
                  (.seq
                   /- R23 -/ (.ops [.it (.one (.mov 109 (.r 10))),
      .it (.one (.bin 110 .quo (.r 109) (.c (.int .i64 (8))))),
      .it (.one (.mov 18 (.r 110)))])
                   (.seq
                    /- R24 -/ (.ops [.it (.one (.mov 111 (.r 16))),
      .it (.one (.mov 112 (.r 17))),
      .it (.one (.bin 113 .lss (.r 111) (.r 112)))])
                    (.cond (.r 113)
                     (.seq
                      /- R25 -/ (.ops [.it (.one (.mov 114 (.r 16))),
      .it (.one (.mov 115 (.r 18))),
      .it (.one (.bin 116 .geq (.r 114) (.r 115))),
      .it (.one (.mov 8 (.r 116)))])
                      (.seq
                       /- R26 -/ (.ops [.it (.one (.mov 117 (.r 0))),
      .it (.one (.mov 118 (.r 1))),
      .it (.one (.mov 119 (.r 14))),
      .it (.one (.mov 120 (.r 3))),
      .it (.one (.callb (some 121) (.st 31) [(.r 117), (.r 118), (.r 119), (.r 120)]))])
                       /- R27 -/ (.ops [.it (.one (.mov 122 (.r 14))),
      .it (.one (.bin 123 .add (.r 122) (.c (.int .i64 (1))))),
      .it (.one (.mov 1 (.r 123)))])))
                     (.seq
                      /- R28 -/ (.ops [.it (.one (.mov 124 (.r 17))),
      .it (.one (.mov 125 (.r 18))),
      .it (.one (.bin 126 .geq (.r 124) (.r 125))),
      .it (.one (.mov 8 (.r 126)))])
                      (.seq
                       /- R29 -/ (.ops [.it (.one (.mov 127 (.r 0))),
      .it (.one (.mov 128 (.r 14))),
      .it (.one (.bin 129 .add (.r 128) (.c (.int .i64 (1))))),
      .it (.one (.mov 130 (.r 2))),
      .it (.one (.mov 131 (.r 3))),
      .it (.one (.callb (some 132) (.st 31) [(.r 127), (.r 129), (.r 130), (.r 131)]))])
                       /- R30 -/ (.ops [.it (.one (.mov 133 (.r 14))),
      .it (.one (.mov 2 (.r 133)))])))))))))))))))))))))))
theorem A31_ok : okFun Try.prog 31 134 1 A31 [] [] = true := by kernel_rfl
/-- math/bits.Len -/
def A32 : ACode :=
  (.seq
   /- R0 -/ (.ops [.it (.one (.mov 2 (.c (.int .i64 (0)))))])
   (.seq
    (.cond (.c (.bool false))
     (.seq
      /- R1 -/ (.ops [.it (.one (.mov 3 (.r 0))),
      .it (.one (.conv 4 .u32 (.r 3))),
      .it (.one (.callf (some 5) (.st 47) [(.r 4)])),
      .it (.one (.mov 2 (.r 5)))]) .ret) .skip)
    (.seq
     /- R2 -/ (.ops [.it (.one (.mov 6 (.r 0))),
      .it (.one (.callf (some 7) (.st 48) [(.r 6)])),
      .it (.one (.mov 2 (.r 7)))]) .ret)))
theorem A32_ok : okFun Try.prog 32 8 0 A32 [.tmp 2] [] = true := by kernel_rfl
/-- slices.SortedStableFunc[dyehouse/api.Seg] -/
def A33 : ACode :=
  (.seq
   /- R0 -/ (.ops [.it (.one (.mov 4 (.c (.sl []))))])
   (.seq
    /- R1 -/ (.ops [.it (.one (.mov 6 (.r 0))),
      .it (.one (.callo (some 7) (.st 49) [(.r 6)] [] [60])),
      .it (.one (.mov 5 (.r 7)))])
    (.seq
     /- R2 -/ (.ops [.it (.one (.mov 8 (.r 5))),
      .it (.one (.mov 9 (.r 1))),
      .call (some 10) (.st 50) [(.r 8), (.r 9)] [60] []])
     (.seq
      /- R3 -/ (.post (.ops [.it (.one (.mov 11 (.r 5))),
      .it (.one (.mov 4 (.r 11)))]) (.frz 60)) .ret))))
theorem A33_ok : okFun Try.prog 33 12 0 A33 [.tmp 4] [] = true := by kernel_rfl
/-- slices.Values[[]dyehouse/api.Seg,dyehouse/api.Seg] -/
def A34 : ACode :=
  (.seq
   /- R0 -/ (.ops [.it (.one (.boxp 1 (.r 0))),
      .it (.one (.mov 2 (.c (.nilf))))])
   (.seq
    /- R1 -/ (.ops [.it (.one (.mkfn 3 51 [(.r 1)])),
      .it (.one (.mov 2 (.r 3)))]) .ret))
theorem A34_ok : okFun Try.prog 34 4 0 A34 [.tmp 2] [] = true := by kernel_rfl
/-- dyehouse/slot.byUse$1 -/
def A35 : ACode :=
  (.seq
   /- R0 -/ (.ops [.it (.one (.boxp 2 (.r 0))),
      .it (.one (.boxp 3 (.r 1))),
      .it (.one (.mov 4 (.c (.int .i64 (0)))))])
   (.seq
    /- R1 -/ (.draw [[], [0], [], [2], [0, 1, 2, 3], [], [5], [], [7], [0, 1, 2, 3, 4, 5, 6, 7, 8], [0, 1, 2, 3, 4, 5, 6, 7, 8, 9], [0, 1, 2, 3, 4, 5, 6, 7, 8, 9, 10], [0, 1, 2, 3, 4, 5, 6, 7, 8, 9, 10, 11]] [.one (.fad 5 (.r 2) 1),
      .one (.load 6 (.r 5) 1 false),
      .one (.fad 7 (.r 3) 1),
      .one (.load 8 (.r 7) 1 false),
      .one (.callf (some 9) (.st 37) [(.r 6), (.r 8)]),
      .one (.fad 10 (.r 2) 0),
      .one (.load 11 (.r 10) 1 false),
      .one (.fad 12 (.r 3) 0),
      .one (.load 13 (.r 12) 1 false),
      .one (.callf (some 14) (.st 37) [(.r 11), (.r 13)]),
      .one (.bslp 15 1 [(.r 9), (.r 14)]),
      .one (.callf (some 16) (.st 36) [(.r 15)]),
      .one (.mov 4 (.r 16))]) .ret))
theorem A35_ok : okFun Try.prog 35 17 0 A35 [.tmp 4] [] = true := by kernel_rfl
/-- cmp.Or[int] -/
def A36 : ACode :=
  (.seq
   /- R0 -/ (.ops [.it (.one (.mov 2 (.c (.int .i64 (0)))))])
   (.seq
    /- R1 -/ (.ops [.it (.one (.mov 3 (.c (.int .i64 (0)))))])
    (.seq
     (.seq
      /- R2 -/ (.ops [.it (.one (.mov 6 (.r 0))),
      .it (.one (.len 7 (.r 6))),
      .it (.one (.mov 8 (.c (.int .i64 (0)))))])
      (.block 0
       (.loop (.pre (.mv [3, 6, 7, 8] [])
        (.seq
         /- R3 -/ (.ops [.it (.one (.bin 9 .lss (.r 8) (.r 7)))])
         (.seq
          (.cond (.r 9) .skip (.exit 0))
          (.seq
           (.block 1
            (.seq
             /- R4 -/ (.ops [.it (.one (.idx 10 (.r 6) (.r 8) 1)),
      .it (.one (.load 11 (.r 10) 1 false)),
      .it (.one (.mov 5 (.r 11)))])
             (.seq
              /- R5 -/ (.ops [.it (.one (.mov 12 (.r 5))),
      .it (.one (.mov 13 (.r 3))),
      .it (.one (.bin 14 .neq (.r 12) (.r 13)))])
              (.cond (.r 14)
               (.seq
                /- R6 -/ (.ops [.it (.one (.mov 15 (.r 5))),
      .it (.one (.mov 2 (.r 15)))]) .ret) .skip))))
           /- R7 -/ (.ops [.it (.one (.bin 16 .add (.r 8) (.c (.int .i64 (1))))),
      .it (.one (.mov 8 (.r 16)))]))))))))
     (.seq
      /- R8 -/ (.ops [.it (.one (.mov 17 (.r 3))),
      .it (.one (.mov 2 (.r 17)))]) .ret))))
theorem A36_ok : okFun Try.prog 36 18 0 A36 [.tmp 2] [] = true := by kernel_rfl
/-- cmp.Compare[int] -/
def A37 : ACode :=
  (.seq
   /- R0 -/ (.ops [.it (.one (.mov 4 (.c (.int .i64 (0)))))])
   (.seq
    /- R1 -/ (.ops [.it (.one (.mov 7 (.r 0))),
      .it (.one (.callf (some 8) (.st 52) [(.r 7)])),
      .it (.one (.mov 5 (.r 8)))])
    (.seq
     /- R2 -/ (.ops [.it (.one (.mov 9 (.r 1))),
      .it (.one (.callf (some 10) (.st 52) [(.r 9)])),
      .it (.one (.mov 6 (.r 10)))])
     (.seq
      (.seq
       /- R3 -/ (.ops [.it (.one (.mov 11 (.r 5)))])
       (.cond (.r 11)
        (.seq
         (.seq
          /- R4 -/ (.ops [.it (.one (.mov 12 (.r 6)))])
          (.cond (.r 12)
           (.seq
            /- R5 -/ (.ops [.it (.one (.mov 4 (.c (.int .i64 (0)))))]) .ret) .skip))
         (.seq
          /- R6 -/ (.ops [.it (.one (.mov 4 (.c (.int .i64 (-1)))))]) .ret)) .skip))
      (.seq
       (.seq
        /- R7 -/ (.ops [.it (.one (.mov 13 (.r 6)))])
        (.cond (.r 13)
         (.seq
          /- R8 -/ (.ops [.it (.one (.mov 4 (.c (.int .i64 (1)))))]) .ret) .skip))
       (.seq
        (.seq
         /- R9 -/ (.ops [.it (.one (.mov 14 (.r 0))),
      .it (.one (.mov 15 (.r 1))),
      .it (.one (.bin 16 .lss (.r 14) (.r 15)))])
         (.cond (.r 16)
          (.seq
           /- R10 -/ (.ops [.it (.one (.mov 4 (.c (.int .i64 (-1)))))]) .ret) .skip))
        (.seq
         (.seq
          /- R11 -/ (.ops [.it (.one (.mov 17 (.r 0))),
      .it (.one (.mov 18 (.r 1))),
      .it (.one (.bin 19 .gtr (.r 17) (.r 18)))])
          (.cond (.r 19)
           (.seq
            /- R12 -/ (.ops [.it (.one (.mov 4 (.c (.int .i64 (1)))))]) .ret) .skip))
         (.seq
          /- R13 -/ (.ops [.it (.one (.mov 4 (.c (.int .i64 (0)))))]) .ret))))))))
theorem A37_ok : okFun Try.prog 37 20 0 A37 [.tmp 4] [] = true := by kernel_rfl
/-- slices.insertionSortOrdered[int] -/
def A38 : ACode :=
  (.seq
   /- R0 -/ (.ops [.it (.one (.mov 8 (.r 1))),
      .it (.one (.bin 9 .add (.r 8) (.c (.int .i64 (1))))),
      .it (.one (.mov 6 (.r 9)))])
   (.block 0
    (.loop (.pre (.mv [0, 1, 2, 6] [(0, 0)])
     (.seq
      (.seq
       /- R1 -/ (.ops [.it (.one (.mov 10 (.r 6))),
      .it (.one (.mov 11 (.r 2))),
      .it (.one (.bin 12 .lss (.r 10) (.r 11)))])
       (.cond (.r 12) .skip (.exit 0)))
      (.seq
       (.block 1
        (.seq
         /- R3 -/ (.ops [.it (.one (.mov 15 (.r 6))),
      .it (.one (.mov 7 (.r 15)))])
         (.block 2
          (.loop (.pre (.mv [0, 1, 2, 6, 7] [(0, 0)])
           (.seq
            (.seq
             /- R4 -/ (.draw [[], [], [0, 1], [0, 1, 2], [0, 1, 2, 3], [0, 1, 2, 3], [0, 1, 2, 3, 4, 5], [0, 1, 2, 3, 4, 5, 6], [0, 1, 2, 3], [0, 1, 2, 3], [0, 1, 2, 3, 9], [0, 1, 2, 3, 8, 9, 10], [0, 1, 2, 3, 8, 9, 10, 11], [0, 1, 2, 3, 4, 5, 6, 7, 8, 9, 10, 11, 12], [0, 1, 2, 3, 4, 5, 6, 7, 8, 9, 10, 11, 12, 13]] [.one (.mov 16 (.r 7)),
      .one (.mov 17 (.r 1)),
      .one (.bin 18 .gtr (.r 16) (.r 17)),
      .one (.mov 19 (.r 18)),
      .grp 19 true [.mov 20 (.r 0), .mov 21 (.r 7), .idx 22 (.r 20) (.r 21) 1, .load 23 (.r 22) 1 false, .mov 24 (.r 0), .mov 25 (.r 7), .bin 26 .sub (.r 25) (.c (.int .i64 (1))), .idx 27 (.r 24) (.r 26) 1, .load 28 (.r 27) 1 false, .callf (some 29) (.st 44) [(.r 23), (.r 28)]],
      .one (.pick 30 (.r 19) (.r 29) (.c (.bool false)))])
             (.cond (.r 30) .skip (.exit 2)))
            (.seq
             (.block 3
              /- R6 -/ (.draw [[], [], [], [], [3], [], [], [6], [5, 6, 7], [5, 6, 7, 8], [], [], [10, 11], [10, 11, 12], [0, 1, 5, 6, 7, 8, 9, 10, 11, 12, 13], [0, 1, 5, 6, 7, 8, 9, 10, 11, 12, 13, 14], [0, 1, 2, 3, 4, 5, 6, 7, 8, 9, 10, 11, 12, 13, 14, 15], [0, 1, 2, 3, 4, 5, 6, 7, 8, 9, 10, 11, 12, 13, 14, 15, 16]] [.one (.mov 33 (.r 0)),
      .one (.mov 34 (.r 7)),
      .one (.mov 35 (.r 0)),
      .one (.mov 36 (.r 7)),
      .one (.bin 37 .sub (.r 36) (.c (.int .i64 (1)))),
      .one (.mov 38 (.r 0)),
      .one (.mov 39 (.r 7)),
      .one (.bin 40 .sub (.r 39) (.c (.int .i64 (1)))),
      .one (.idx 41 (.r 38) (.r 40) 1),
      .one (.load 42 (.r 41) 1 false),
      .one (.mov 43 (.r 0)),
      .one (.mov 44 (.r 7)),
      .one (.idx 45 (.r 43) (.r 44) 1),
      .one (.load 46 (.r 45) 1 false),
      .one (.idx 47 (.r 33) (.r 34) 1),
      .one (.store (.r 47) (.r 42) 1),
      .one (.idx 48 (.r 35) (.r 37) 1),
      .one (.store (.r 48) (.r 46) 1)]))
             /- R5 -/ (.ops [.it (.one (.mov 31 (.r 7))),
      .it (.one (.bin 32 .sub (.r 31) (.c (.int .i64 (1))))),
      .it (.one (.mov 7 (.r 32)))]))))))))
       /- R2 -/ (.ops [.it (.one (.mov 13 (.r 6))),
      .it (.one (.bin 14 .add (.r 13) (.c (.int .i64 (1))))),
      .it (.one (.mov 6 (.r 14)))])))))))
theorem A38_ok : okFun Try.prog 38 49 1 A38 [] [] = true := by kernel_rfl
/-- slices.heapSortOrdered[int] -/
def A39 : ACode :=
  (.seq
   /- R0 -/ (.ops [.it (.one (.mov 11 (.r 1))),
      .it (.one (.mov 6 (.r 11)))])
   (.seq
    /- R1 -/ (.ops [.it (.one (.mov 7 (.c (.int .i64 (0)))))])
    (.seq
     /- R2 -/ (.ops [.it (.one (.mov 12 (.r 2))),
      .it (.one (.mov 13 (.r 1))),
      .it (.one (.bin 14 .sub (.r 12) (.r 13))),
      .it (.one (.mov 8 (.r 14)))])
     (.seq
      (.seq
       /- R3 -/ (.ops [.it (.one (.mov 15 (.r 8))),
      .it (.one (.bin 16 .sub (.r 15) (.c (.int .i64 (1))))),
      .it (.one (.bin 17 .quo (.r 16) (.c (.int .i64 (2))))),
      .it (.one (.mov 9 (.r 17)))])
       (.block 0
        (.loop (.pre (.mv [0, 6, 7, 8, 9] [])
         (.seq
          (.seq
           /- R4 -/ (.ops [.it (.one (.mov 18 (.r 9))),
      .it (.one (.bin 19 .geq (.r 18) (.c (.int .i64 (0)))))])
           (.cond (.r 19) .skip (.exit 0)))
          (.seq
           (.block 1
            /- R6 -/ (.ops [.it (.one (.mov 22 (.r 0))),
      .it (.one (.mov 23 (.r 9))),
      .it (.one (.mov 24 (.r 8))),
      .it (.one (.mov 25 (.r 6))),
      .it (.one (.callf (some 26) (.st 53) [(.r 22), (.r 23), (.r 24), (.r 25)]))]))
           /- R5 -/ (.ops [.it (.one (.mov 20 (.r 9))),
      .it (.one (.bin 21 .sub (.r 20) (.c (.int .i64 (1))))),
      .it (.one (.mov 9 (.r 21)))])))))))
      (.seq
       /- R7 -/ (.ops [.it (.one (.mov 27 (.r 8))),
      .it (.one (.bin 28 .sub (.r 27) (.c (.int .i64 (1))))),
      .it (.one (.mov 10 (.r 28)))])
       (.block 2
        (.loop (.pre (.mv [0, 6, 7, 10] [])
         (.seq
          (.seq
           /- R8 -/ (.ops [.it (.one (.mov 29 (.r 10))),
      .it (.one (.bin 30 .geq (.r 29) (.c (.int .i64 (0)))))])
           (.cond (.r 30) .skip (.exit 2)))
          (.seq
           (.block 3
            (.seq
             /- R10 -/ (.draw [[], [], [], [], [], [3, 4], [], [], [], [7, 8], [6, 7, 8, 9], [6, 7, 8, 9, 10], [], [], [12, 13], [12, 13, 14], [0, 1, 6, 7, 8, 9, 10, 11, 12, 13, 14, 15], [0, 1, 6, 7, 8, 9, 10, 11, 12, 13, 14, 15, 16], [0, 1, 2, 3, 4, 5, 6, 7, 8, 9, 10, 11, 12, 13, 14, 15, 16, 17], [0, 1, 2, 3, 4, 5, 6, 7, 8, 9, 10, 11, 12, 13, 14, 15, 16, 17, 18]] [.one (.mov 33 (.r 0)),
      .one (.mov 34 (.r 6)),
      .one (.mov 35 (.r 0)),
      .one (.mov 36 (.r 6)),
      .one (.mov 37 (.r 10)),
      .one (.bin 38 .add (.r 36) (.r 37)),
      .one (.mov 39 (.r 0)),
      .one (.mov 40 (.r 6)),
      .one (.mov 41 (.r 10)),
      .one (.bin 42 .add (.r 40) (.r 41)),
      .one (.idx 43 (.r 39) (.r 42) 1),
      .one (.load 44 (.r 43) 1 false),
      .one (.mov 45 (.r 0)),
      .one (.mov 46 (.r 6)),
      .one (.idx 47 (.r 45) (.r 46) 1),
      .one (.load 48 (.r 47) 1 false),
      .one (.idx 49 (.r 33) (.r 34) 1),
      .one (.store (.r 49) (.r 44) 1),
      .one (.idx 50 (.r 35) (.r 38) 1),
      .one (.store (.r 50) (.r 48) 1)])
             /- R11 -/ (.ops [.it (.one (.mov 51 (.r 0))),
      .it (.one (.mov 52 (.r 7))),
      .it (.one (.mov 53 (.r 10))),
      .it (.one (.mov 54 (.r 6))),
      .it (.one (.callf (some 55) (.st 53) [(.r 51), (.r 52), (.r 53), (.r 54)]))])))
           /- R9 -/ (.ops [.it (.one (.mov 31 (.r 10))),
      .it (.one (.bin 32 .sub (.r 31) (.c (.int .i64 (1))))),
      .it (.one (.mov 10 (.r 32)))])))))))))))
theorem A39_ok : okFun Try.prog 39 56 0 A39 [] [] = true := by kernel_rfl
/-- slices.breakPatternsOrdered[int] -/
def A40 : ACode :=
  (.seq
   /- R0 -/ (.ops [.it (.one (.mov 11 (.r 2))),
      .it (.one (.mov 12 (.r 1))),
      .it (.one (.bin 13 .sub (.r 11) (.r 12))),
      .it (.one (.mov 6 (.r 13)))])
   (.seq
    /- R1 -/ (.ops [.it (.one (.mov 14 (.r 6))),
      .it (.one (.bin 15 .geq (.r 14) (.c (.int .i64 (8)))))])
    (.cond (.r 15)
     (.seq
      /- R2 -/ (.ops [.it (.one (.mov 16 (.r 6))),
      .it (.one (.conv 17 .u64 (.r 16))),
      .it (.one (.alloc 7 7 [.int .u64 0])),
      .it (.one (.store (.r 7) (.r 17) 1))])
      (.seq
       /- R3 -/ (.ops [.it (.one (.mov 18 (.r 6))),
      .it (.one (.callf (some 19) (.st 54) [(.r 18)])),
      .it (.one (.mov 8 (.r 19)))])
       (.seq
        /- R4 -/ (.ops [.it (.one (.mov 20 (.r 1))),
      .it (.one (.mov 21 (.r 6))),
      .it (.one (.bin 22 .quo (.r 21) (.c (.int .i64 (4))))),
      .it (.one (.bin 23 .mul (.r 22) (.c (.int .i64 (2))))),
      .it (.one (.bin 24 .add (.r 20) (.r 23))),
      .it (.one (.bin 25 .sub (.r 24) (.c (.int .i64 (1))))),
      .it (.one (.mov 9 (.r 25)))])
        (.block 0
         (.loop (.pre (.mv [0, 1, 6, 7, 8, 9] [(7, 7)])
          (.seq
           (.seq
            /- R5 -/ (.ops [.it (.one (.mov 26 (.r 9))),
      .it (.one (.mov 27 (.r 1))),
      .it (.one (.mov 28 (.r 6))),
      .it (.one (.bin 29 .quo (.r 28) (.c (.int .i64 (4))))),
      .it (.one (.bin 30 .mul (.r 29) (.c (.int .i64 (2))))),
      .it (.one (.bin 31 .add (.r 27) (.r 30))),
      .it (.one (.bin 32 .add (.r 31) (.c (.int .i64 (1))))),
      .it (.one (.bin 33 .leq (.r 26) (.r 32)))])
            (.cond (.r 33) .skip (.exit 0)))
           (.seq
            (.block 1
             (.seq
              /- R7 -/ (.ops [.it (.one (.callb (some 36) (.st 55) [(.r 7)])),
      .it (.one (.mov 37 (.r 8))),
      .it (.one (.bin 38 .sub (.r 37) (.c (.int .u64 (1))))),
      .it (.one (.bin 39 .and (.r 36) (.r 38))),
      .it (.one (.conv 40 .i64 (.r 39))),
      .it (.one (.mov 10 (.r 40)))])
              (.seq
               (.seq
                /- R8 -/ (.ops [.it (.one (.mov 41 (.r 10))),
      .it (.one (.mov 42 (.r 6))),
      .it (.one (.bin 43 .geq (.r 41) (.r 42)))])
                (.cond (.r 43)
                 /- R9 -/ (.ops [.it (.one (.mov 44 (.r 10))),
      .it (.one (.mov 45 (.r 6))),
      .it (.one (.bin 46 .sub (.r 44) (.r 45))),
      .it (.one (.mov 10 (.r 46)))]) .skip))
               /- R10 -/ (.draw [[], [], [], [], [], [3, 4], [], [], [], [7, 8], [6, 7, 8, 9], [6, 7, 8, 9, 10], [], [], [12, 13], [12, 13, 14], [0, 1, 6, 7, 8, 9, 10, 11, 12, 13, 14, 15], [0, 1, 6, 7, 8, 9, 10, 11, 12, 13, 14, 15, 16], [0, 1, 2, 3, 4, 5, 6, 7, 8, 9, 10, 11, 12, 13, 14, 15, 16, 17], [0, 1, 2, 3, 4, 5, 6, 7, 8, 9, 10, 11, 12, 13, 14, 15, 16, 17, 18]] [.one (.mov 47 (.r 0)),
      .one (.mov 48 (.r 9)),
      .one (.mov 49 (.r 0)),
      .one (.mov 50 (.r 1)),
      .one (.mov 51 (.r 10)),
      .one (.bin 52 .add (.r 50) (.r 51)),
      .one (.mov 53 (.r 0)),
      .one (.mov 54 (.r 1)),
      .one (.mov 55 (.r 10)),
      .one (.bin 56 .add (.r 54) (.r 55)),
      .one (.idx 57 (.r 53) (.r 56) 1),
      .one (.load 58 (.r 57) 1 false),
      .one (.mov 59 (.r 0)),
      .one (.mov 60 (.r 9)),
      .one (.idx 61 (.r 59) (.r 60) 1),
      .one (.load 62 (.r 61) 1 false),
      .one (.idx 63 (.r 47) (.r 48) 1),
      .one (.store (.r 63) (.r 58) 1),
      .one (.idx 64 (.r 49) (.r 52) 1),
      .one (.store (.r 64) (.r 62) 1)]))))
            /- R6 -/ (.ops [.it (.one (.mov 34 (.r 9))),
      .it (.one (.bin 35 .add (.r 34) (.c (.int .i64 (1))))),
      .it (.one (.mov 9 (.r 35)))]))))))))) .skip)))
theorem A40_ok : okFun Try.prog 40 65 0 A40 [] [] = true := by kernel_rfl
/-- slices.choosePivotOrdered[int] -/
def A41 : ACode :=
  (.seq
   /- R0 -/ (.ops [.it (.one (.mov 6 (.c (.int .i64 (0))))),
      .it (.one (.mov 7 (.c (.int .i64 (0)))))])
   (.seq
    /- R1 -/ (.ops [.it (.one (.mov 13 (.r 2))),
      .it (.one (.mov 14 (.r 1))),
      .it (.one (.bin 15 .sub (.r 13) (.r 14))),
      .it (.one (.mov 8 (.r 15)))])
    (.seq
     /- R2 -/ (.ops [.it (.one (.alloc 9 9 [.int .i64 0]))])
     (.seq
      /- R3 -/ (.ops [.it (.one (.mov 16 (.r 1))),
      .it (.one (.mov 17 (.r 8))),
      .it (.one (.bin 18 .quo (.r 17) (.c (.int .i64 (4))))),
      .it (.one (.bin 19 .mul (.r 18) (.c (.int .i64 (1))))),
      .it (.one (.bin 20 .add (.r 16) (.r 19))),
      .it (.one (.mov 10 (.r 20)))])
      (.seq
       /- R4 -/ (.ops [.it (.one (.mov 21 (.r 1))),
      .it (.one (.mov 22 (.r 8))),
      .it (.one (.bin 23 .quo (.r 22) (.c (.int .i64 (4))))),
      .it (.one (.bin 24 .mul (.r 23) (.c (.int .i64 (2))))),
      .it (.one (.bin 25 .add (.r 21) (.r 24))),
      .it (.one (.mov 11 (.r 25)))])
       (.seq
        /- R5 -/ (.ops [.it (.one (.mov 26 (.r 1))),
      .it (.one (.mov 27 (.r 8))),
      .it (.one (.bin 28 .quo (.r 27) (.c (.int .i64 (4))))),
      .it (.one (.bin 29 .mul (.r 28) (.c (.int .i64 (3))))),
      .it (.one (.bin 30 .add (.r 26) (.r 29))),
      .it (.one (.mov 12 (.r 30)))])
        (.seq
         (.seq
          /- R6 -/ (.ops [.it (.one (.mov 31 (.r 8))),
      .it (.one (.bin 32 .geq (.r 31) (.c (.int .i64 (8)))))])
          (.cond (.r 32)
           (.seq
            (.seq
             /- R7 -/ (.ops [.it (.one (.mov 33 (.r 8))),
      .it (.one (.bin 34 .geq (.r 33) (.c (.int .i64 (50)))))])
             (.cond (.r 34)
              (.seq
               /- R8 -/ (.ops [.it (.one (.mov 35 (.r 0))),
      .it (.one (.mov 36 (.r 10))),
      .it (.one (.callb (some 37) (.st 56) [(.r 35), (.r 36), (.r 9)])),
      .it (.one (.mov 10 (.r 37)))])
               (.seq
                /- R9 -/ (.ops [.it (.one (.mov 38 (.r 0))),
      .it (.one (.mov 39 (.r 11))),
      .it (.one (.callb (some 40) (.st 56) [(.r 38), (.r 39), (.r 9)])),
      .it (.one (.mov 11 (.r 40)))])
                /- R10 -/ (.ops [.it (.one (.mov 41 (.r 0))),
      .it (.one (.mov 42 (.r 12))),
      .it (.one (.callb (some 43) (.st 56) [(.r 41), (.r 42), (.r 9)])),
      .it (.one (.mov 12 (.r 43)))]))) .skip))
            /- R11 -/ (.ops [.it (.one (.mov 44 (.r 0))),
      .it (.one (.mov 45 (.r 10))),
      .it (.one (.mov 46 (.r 11))),
      .it (.one (.mov 47 (.r 12))),
      .it (.one (.callb (some 48) (.st 57) [(.r 44), (.r 45), (.r 46), (.r 47), (.r 9)])),
      .it (.one (.mov 11 (.r 48)))])) .skip))
         (.seq
          /- R12 -/ (.ops [.it (.one (.load 49 (.r 9) 1 false))])
          (.block 0
           (.seq
            /- R14 -/ (.ops [.it (.one (.bin 52 .eql (.r 49) (.c (.int .i64 (0))))),
      .it (.one (.mov 51 (.r 52)))])
            (.cond (.r 51)
             (.seq
              /- R15 -/ (.ops [.it (.one (.mov 53 (.r 11))),
      .it (.one (.mov 6 (.r 53))),
      .it (.one (.mov 7 (.c (.int .i64 (1)))))]) .ret)
             (.seq
              /- R16 -/ (.ops [.it (.one (.bin 55 .eql (.r 49) (.c (.int .i64 (12))))),
      .it (.one (.mov 54 (.r 55)))])
              (.cond (.r 54)
               (.seq
                /- R17 -/ (.ops [.it (.one (.mov 56 (.r 11))),
      .it (.one (.mov 6 (.r 56))),
      .it (.one (.mov 7 (.c (.int .i64 (2)))))]) .ret)
               (.seq
                /- R13 -/ (.ops [.it (.one (.mov 50 (.r 11))),
      .it (.one (.mov 6 (.r 50))),
      .it (.one (.mov 7 (.c (.int .i64 (0)))))]) .ret))))))))))))))
theorem A41_ok : okFun Try.prog 41 57 0 A41 [.tmp 6, .tmp 7] [] = true := by kernel_rfl
/-- slices.reverseRangeOrdered[int] -/
def A42 : ACode :=
  (.seq
   /- R0 -/ (.ops [.it (.one (.mov 8 (.r 1))),
      .it (.one (.mov 6 (.r 8)))])
   (.seq
    /- R1 -/ (.ops [.it (.one (.mov 9 (.r 2))),
      .it (.one (.bin 10 .sub (.r 9) (.c (.int .i64 (1))))),
      .it (.one (.mov 7 (.r 10)))])
    (.block 0
     (.loop (.pre (.mv [0, 6, 7] [])
      (.seq
       (.seq
        /- R2 -/ (.ops [.it (.one (.mov 11 (.r 6))),
      .it (.one (.mov 12 (.r 7))),
      .it (.one (.bin 13 .lss (.r 11) (.r 12)))])
        (.cond (.r 13) .skip (.exit 0)))
       (.block 1
        (.seq
         /- R3 -/ (.draw [[], [], [], [], [], [], [4, 5], [4, 5, 6], [], [], [8, 9], [8, 9, 10], [0, 1, 4, 5, 6, 7, 8, 9, 10, 11], [0, 1, 4, 5, 6, 7, 8, 9, 10, 11, 12], [0, 1, 2, 3, 4, 5, 6, 7, 8, 9, 10, 11, 12, 13], [0, 1, 2, 3, 4, 5, 6, 7, 8, 9, 10, 11, 12, 13, 14]] [.one (.mov 14 (.r 0)),
      .one (.mov 15 (.r 6)),
      .one (.mov 16 (.r 0)),
      .one (.mov 17 (.r 7)),
      .one (.mov 18 (.r 0)),
      .one (.mov 19 (.r 7)),
      .one (.idx 20 (.r 18) (.r 19) 1),
      .one (.load 21 (.r 20) 1 false),
      .one (.mov 22 (.r 0)),
      .one (.mov 23 (.r 6)),
      .one (.idx 24 (.r 22) (.r 23) 1),
      .one (.load 25 (.r 24) 1 false),
      .one (.idx 26 (.r 14) (.r 15) 1),
      .one (.store (.r 26) (.r 21) 1),
      .one (.idx 27 (.r 16) (.r 17) 1),
      .one (.store (.r 27) (.r 25) 1)])
         (.seq
          /- R4 -/ (.ops [.it (.one (.mov 28 (.r 6))),
      .it (.one (.bin 29 .add (.r 28) (.c (.int .i64 (1))))),
      .it (.one (.mov 6 (.r 29)))])
          /- R5 -/ (.ops [.it (.one (.mov 30 (.r 7))),
      .it (.one (.bin 31 .sub (.r 30) (.c (.int .i64 (1))))),
      .it (.one (.mov 7 (.r 31)))]))))))))))
theorem A42_ok : okFun Try.prog 42 32 0 A42 [] [] = true := by kernel_rfl
/-- slices.partialInsertionSortOrdered[int] -/
def A43 : ACode :=
  (.seq
   /- R0 -/ (.ops [.it (.one (.mov 6 (.c (.bool false))))])
   (.seq
    /- R1 -/ (.ops [.it (.one (.mov 11 (.r 1))),
      .it (.one (.bin 12 .add (.r 11) (.c (.int .i64 (1))))),
      .it (.one (.mov 7 (.r 12)))])
    (.seq
     (.seq
      /- R2 -/ (.ops [.it (.one (.mov 8 (.c (.int .i64 (0)))))])
      (.block 0
       (.loop (.pre (.mv [0, 1, 2, 7, 8] [])
        (.seq
         (.seq
          /- R3 -/ (.ops [.it (.one (.mov 13 (.r 8))),
      .it (.one (.bin 14 .lss (.r 13) (.c (.int .i64 (5)))))])
          (.cond (.r 14) .skip (.exit 0)))
         (.seq
          (.block 1
           (.seq
            (.block 2
             (.loop (.pre (.mv [0, 1, 2, 7, 8] [])
              (.seq
               (.seq
                /- R5 -/ (.draw [[], [], [0, 1], [0, 1, 2], [0, 1, 2, 3], [0, 1, 2, 3], [0, 1, 2, 3, 4, 5], [0, 1, 2, 3, 4, 5, 6], [0, 1, 2, 3], [0, 1, 2, 3], [0, 1, 2, 3, 9], [0, 1, 2, 3, 8, 9, 10], [0, 1, 2, 3, 8, 9, 10, 11], [0, 1, 2, 3, 4, 5, 6, 7, 8, 9, 10, 11, 12], [0, 1, 2, 3, 4, 5, 6, 7, 8, 9, 10, 11, 12, 13], [0, 1, 2, 3, 4, 5, 6, 7, 8, 9, 10, 11, 12, 13, 14]] [.one (.mov 17 (.r 7)),
      .one (.mov 18 (.r 2)),
      .one (.bin 19 .lss (.r 17) (.r 18)),
      .one (.mov 20 (.r 19)),
      .grp 20 true [.mov 21 (.r 0), .mov 22 (.r 7), .idx 23 (.r 21) (.r 22) 1, .load 24 (.r 23) 1 false, .mov 25 (.r 0), .mov 26 (.r 7), .bin 27 .sub (.r 26) (.c (.int .i64 (1))), .idx 28 (.r 25) (.r 27) 1, .load 29 (.r 28) 1 false, .callf (some 30) (.st 44) [(.r 24), (.r 29)], .un 31 .not (.r 30)],
      .one (.pick 32 (.r 20) (.r 31) (.c (.bool false)))])
                (.cond (.r 32) .skip (.exit 2)))
               (.block 3
                /- R6 -/ (.ops [.it (.one (.mov 33 (.r 7))),
      .it (.one (.bin 34 .add (.r 33) (.c (.int .i64 (1))))),
      .it (.one (.mov 7 (.r 34)))]))))))
            (.seq
             (.seq
              /- R7 -/ (.ops [.it (.one (.mov 35 (.r 7))),
      .it (.one (.mov 36 (.r 2))),
      .it (.one (.bin 37 .eql (.r 35) (.r 36)))])
              (.cond (.r 37)
               (.seq
                /- R8 -/ (.ops [.it (.one (.mov 6 (.c (.bool true))))]) .ret) .skip))
             (.seq
              (.seq
               /- R9 -/ (.ops [.it (.one (.mov 38 (.r 2))),
      .it (.one (.mov 39 (.r 1))),
      .it (.one (.bin 40 .sub (.r 38) (.r 39))),
      .it (.one (.bin 41 .lss (.r 40) (.c (.int .i64 (50)))))])
               (.cond (.r 41)
                (.seq
                 /- R10 -/ (.ops [.it (.one (.mov 6 (.c (.bool false))))]) .ret) .skip))
              (.seq
               /- R11 -/ (.draw [[], [], [], [], [3], [], [], [6], [5, 6, 7], [5, 6, 7, 8], [], [], [10, 11], [10, 11, 12], [0, 1, 5, 6, 7, 8, 9, 10, 11, 12, 13], [0, 1, 5, 6, 7, 8, 9, 10, 11, 12, 13, 14], [0, 1, 2, 3, 4, 5, 6, 7, 8, 9, 10, 11, 12, 13, 14, 15], [0, 1, 2, 3, 4, 5, 6, 7, 8, 9, 10, 11, 12, 13, 14, 15, 16]] [.one (.mov 42 (.r 0)),
      .one (.mov 43 (.r 7)),
      .one (.mov 44 (.r 0)),
      .one (.mov 45 (.r 7)),
      .one (.bin 46 .sub (.r 45) (.c (.int .i64 (1)))),
      .one (.mov 47 (.r 0)),
      .one (.mov 48 (.r 7)),
      .one (.bin 49 .sub (.r 48) (.c (.int .i64 (1)))),
      .one (.idx 50 (.r 47) (.r 49) 1),
      .one (.load 51 (.r 50) 1 false),
      .one (.mov 52 (.r 0)),
      .one (.mov 53 (.r 7)),
      .one (.idx 54 (.r 52) (.r 53) 1),
      .one (.load 55 (.r 54) 1 false),
      .one (.idx 56 (.r 42) (.r 43) 1),
      .one (.store (.r 56) (.r 51) 1),
      .one (.idx 57 (.r 44) (.r 46) 1),
      .one (.store (.r 57) (.r 55) 1)])
               (.seq
                (.seq
                 /- R12 -/ (.ops [.it (.one (.mov 58 (.r 7))),
      .it (.one (.mov 59 (.r 1))),
      .it (.one (.bin 60 .sub (.r 58) (.r 59))),
      .it (.one (.bin 61 .geq (.r 60) (.c (.int .i64 (2)))))])
                 (.cond (.r 61)
                  (.seq
                   /- R13 -/ (.ops [.it (.one (.mov 62 (.r 7))),
      .it (.one (.bin 63 .sub (.r 62) (.c (.int .i64 (1))))),
      .it (.one (.mov 9 (.r 63)))])
                   (.block 4
                    (.loop (.pre (.mv [0, 1, 2, 7, 8, 9] [])
                     (.seq
                      (.seq
                       /- R14 -/ (.ops [.it (.one (.mov 64 (.r 9))),
      .it (.one (.bin 65 .geq (.r 64) (.c (.int .i64 (1)))))])
                       (.cond (.r 65) .skip (.exit 4)))
                      (.seq
                       (.block 5
                        (.seq
                         (.seq
                          /- R16 -/ (.draw [[], [], [0, 1], [0, 1, 2], [], [], [5], [4, 5, 6], [4, 5, 6, 7], [0, 1, 2, 3, 4, 5, 6, 7, 8], [0, 1, 2, 3, 4, 5, 6, 7, 8, 9]] [.one (.mov 68 (.r 0)),
      .one (.mov 69 (.r 9)),
      .one (.idx 70 (.r 68) (.r 69) 1),
      .one (.load 71 (.r 70) 1 false),
      .one (.mov 72 (.r 0)),
      .one (.mov 73 (.r 9)),
      .one (.bin 74 .sub (.r 73) (.c (.int .i64 (1)))),
      .one (.idx 75 (.r 72) (.r 74) 1),
      .one (.load 76 (.r 75) 1 false),
      .one (.callf (some 77) (.st 44) [(.r 71), (.r 76)]),
      .one (.un 78 .not (.r 77))])
                          (.cond (.r 78) (.exit 4) .skip))
                         /- R17 -/ (.draw [[], [], [], [], [3], [], [], [6], [5, 6, 7], [5, 6, 7, 8], [], [], [10, 11], [10, 11, 12], [0, 1, 5, 6, 7, 8, 9, 10, 11, 12, 13], [0, 1, 5, 6, 7, 8, 9, 10, 11, 12, 13, 14], [0, 1, 2, 3, 4, 5, 6, 7, 8, 9, 10, 11, 12, 13, 14, 15], [0, 1, 2, 3, 4, 5, 6, 7, 8, 9, 10, 11, 12, 13, 14, 15, 16]] [.one (.mov 79 (.r 0)),
      .one (.mov 80 (.r 9)),
      .one (.mov 81 (.r 0)),
      .one (.mov 82 (.r 9)),
      .one (.bin 83 .sub (.r 82) (.c (.int .i64 (1)))),
      .one (.mov 84 (.r 0)),
      .one (.mov 85 (.r 9)),
      .one (.bin 86 .sub (.r 85) (.c (.int .i64 (1)))),
      .one (.idx 87 (.r 84) (.r 86) 1),
      .one (.load 88 (.r 87) 1 false),
      .one (.mov 89 (.r 0)),
      .one (.mov 90 (.r 9)),
      .one (.idx 91 (.r 89) (.r 90) 1),
      .one (.load 92 (.r 91) 1 false),
      .one (.idx 93 (.r 79) (.r 80) 1),
      .one (.store (.r 93) (.r 88) 1),
      .one (.idx 94 (.r 81) (.r 83) 1),
      .one (.store (.r 94) (.r 92) 1)])))
                       /- R15 -/ (.ops [.it (.one (.mov 66 (.r 9))),
      .it (.one (.bin 67 .sub (.r 66) (.c (.int .i64 (1))))),
      .it (.one (.mov 9 (.r 67)))]))))))) .skip))
                (.seq
                 /- R18 -/ (.ops [.it (.one (.mov 95 (.r 2))),
      .it (.one (.mov 96 (.r 7))),
      .it (.one (.bin 97 .sub (.r 95) (.r 96))),
      .it (.one (.bin 98 .geq (.r 97) (.c (.int .i64 (2)))))])
                 (.cond (.r 98)
                  (.seq
                   /- R19 -/ (.ops [.it (.one (.mov 99 (.r 7))),
      .it (.one (.bin 100 .add (.r 99) (.c (.int .i64 (1))))),
      .it (.one (.mov 10 (.r 100)))])
                   (.block 6
                    (.loop (.pre (.mv [0, 1, 2, 7, 8, 10] [])
                     (.seq
                      (.seq
                       /- R20 -/ (.ops [.it (.one (.mov 101 (.r 10))),
      .it (.one (.mov 102 (.r 2))),
      .it (.one (.bin 103 .lss (.r 101) (.r 102)))])
                       (.cond (.r 103) .skip (.exit 6)))
                      (.seq
                       (.block 7
                        (.seq
                         (.seq
                          /- R22 -/ (.draw [[], [], [0, 1], [0, 1, 2], [], [], [5], [4, 5, 6], [4, 5, 6, 7], [0, 1, 2, 3, 4, 5, 6, 7, 8], [0, 1, 2, 3, 4, 5, 6, 7, 8, 9]] [.one (.mov 106 (.r 0)),
      .one (.mov 107 (.r 10)),
      .one (.idx 108 (.r 106) (.r 107) 1),
      .one (.load 109 (.r 108) 1 false),
      .one (.mov 110 (.r 0)),
      .one (.mov 111 (.r 10)),
      .one (.bin 112 .sub (.r 111) (.c (.int .i64 (1)))),
      .one (.idx 113 (.r 110) (.r 112) 1),
      .one (.load 114 (.r 113) 1 false),
      .one (.callf (some 115) (.st 44) [(.r 109), (.r 114)]),
      .one (.un 116 .not (.r 115))])
                          (.cond (.r 116) (.exit 6) .skip))
                         /- R23 -/ (.draw [[], [], [], [], [3], [], [], [6], [5, 6, 7], [5, 6, 7, 8], [], [], [10, 11], [10, 11, 12], [0, 1, 5, 6, 7, 8, 9, 10, 11, 12, 13], [0, 1, 5, 6, 7, 8, 9, 10, 11, 12, 13, 14], [0, 1, 2, 3, 4, 5, 6, 7, 8, 9, 10, 11, 12, 13, 14, 15], [0, 1, 2, 3, 4, 5, 6, 7, 8, 9, 10, 11, 12, 13, 14, 15, 16]] [.one (.mov 117 (.r 0)),
      .one (.mov 118 (.r 10)),
      .one (.mov 119 (.r 0)),
      .one (.mov 120 (.r 10)),
      .one (.bin 121 .sub (.r 120) (.c (.int .i64 (1)))),
      .one (.mov 122 (.r 0)),
      .one (.mov 123 (.r 10)),
      .one (.bin 124 .sub (.r 123) (.c (.int .i64 (1)))),
      .one (.idx 125 (.r 122) (.r 124) 1),
      .one (.load 126 (.r 125) 1 false),
      .one (.mov 127 (.r 0)),
      .one (.mov 128 (.r 10)),
      .one (.idx 129 (.r 127) (.r 128) 1),
      .one (.load 130 (.r 129) 1 false),
      .one (.idx 131 (.r 117) (.r 118) 1),
      .one (.store (.r 131) (.r 126) 1),
      .one (.idx 132 (.r 119) (.r 121) 1),
      .one (.store (.r 132) (.r 130) 1)])))
                       /- R21 -/ (.ops [.it (.one (.mov 104 (.r 10))),
      .it (.one (.bin 105 .add (.r 104) (.c (.int .i64 (1))))),
      .it (.one (.mov 10 (.r 105)))]))))))) .skip))))))))
          /- R4 -/ (.ops [.it (.one (.mov 15 (.r 8))),
      .it (.one (.bin 16 .add (.r 15) (.c (.int .i64 (1))))),
      .it (.one (.mov 8 (.r 16)))])))))))
     (.seq
      /- R24 -/ (.ops [.it (.one (.mov 6 (.c (.bool false))))]) .ret))))
theorem A43_ok : okFun Try.prog 43 133 0 A43 [.tmp 6] [] = true := by kernel_rfl
/-- cmp.Less[int] -/
def A44 : ACode :=
  (.seq
   /- R0 -/ (.ops [.it (.one (.mov 4 (.c (.bool false))))])
   (.seq
    /- R1 -/ (.ops [.it (.one (.mov 5 (.r 0))),
      .it (.one (.callf (some 6) (.st 52) [(.r 5)])),
      .it (.one (.mov 7 (.r 6))),
      .it (.grp 7 true [.mov 8 (.r 1), .callf (some 9) (.st 52) [(.r 8)], .un 10 .not (.r 9)]),
      .it (.one (.pick 11 (.r 7) (.r 10) (.c (.bool false)))),
      .it (.one (.mov 12 (.r 11))),
      .it (.grp 12 false [.mov 13 (.r 0), .mov 14 (.r 1), .bin 15 .lss (.r 13) (.r 14)]),
      .it (.one (.pick 16 (.r 12) (.c (.bool true)) (.r 15))),
      .it (.one (.mov 4 (.r 16)))]) .ret))
theorem A44_ok : okFun Try.prog 44 17 0 A44 [.tmp 4] [] = true := by kernel_rfl
/-- slices.partitionEqualOrdered[int] -/
def A45 : ACode :=
  (.seq
   /- R0 -/ (.ops [.it (.one (.mov 8 (.c (.int .i64 (0)))))])
   (.seq
    /- R1 -/ (.draw [[], [], [], [], [], [], [4, 5], [4, 5, 6], [], [], [8, 9], [8, 9, 10], [0, 1, 4, 5, 6, 7, 8, 9, 10, 11], [0, 1, 4, 5, 6, 7, 8, 9, 10, 11, 12], [0, 1, 2, 3, 4, 5, 6, 7, 8, 9, 10, 11, 12, 13], [0, 1, 2, 3, 4, 5, 6, 7, 8, 9, 10, 11, 12, 13, 14]] [.one (.mov 11 (.r 0)),
      .one (.mov 12 (.r 1)),
      .one (.mov 13 (.r 0)),
      .one (.mov 14 (.r 3)),
      .one (.mov 15 (.r 0)),
      .one (.mov 16 (.r 3)),
      .one (.idx 17 (.r 15) (.r 16) 1),
      .one (.load 18 (.r 17) 1 false),
      .one (.mov 19 (.r 0)),
      .one (.mov 20 (.r 1)),
      .one (.idx 21 (.r 19) (.r 20) 1),
      .one (.load 22 (.r 21) 1 false),
      .one (.idx 23 (.r 11) (.r 12) 1),
      .one (.store (.r 23) (.r 18) 1),
      .one (.idx 24 (.r 13) (.r 14) 1),
      .one (.store (.r 24) (.r 22) 1)])
    (.seq
     /- R2 -/ (.ops [.it (.one (.mov 25 (.r 1))),
      .it (.one (.bin 26 .add (.r 25) (.c (.int .i64 (1))))),
      .it (.one (.mov 27 (.r 2))),
      .it (.one (.bin 28 .sub (.r 27) (.c (.int .i64 (1))))),
      .it (.one (.mov 9 (.r 26))),
      .it (.one (.mov 10 (.r 28)))])
     (.seq
      (.block 0
       (.loop (.pre (.mv [0, 1, 9, 10] [])
        (.block 1
         (.seq
          (.block 2
           (.loop (.pre (.mv [0, 1, 9, 10] [])
            (.seq
             (.seq
              /- R3 -/ (.draw [[], [], [0, 1], [0, 1, 2], [0, 1, 2, 3], [0, 1, 2, 3], [0, 1, 2, 3, 4, 5], [0, 1, 2, 3, 4, 5, 6], [0, 1, 2, 3], [0, 1, 2, 3], [0, 1, 2, 3, 8, 9], [0, 1, 2, 3, 8, 9, 10], [0, 1, 2, 3, 4, 5, 6, 7, 8, 9, 10, 11], [0, 1, 2, 3, 4, 5, 6, 7, 8, 9, 10, 11, 12], [0, 1, 2, 3, 4, 5, 6, 7, 8, 9, 10, 11, 12, 13]] [.one (.mov 29 (.r 9)),
      .one (.mov 30 (.r 10)),
      .one (.bin 31 .leq (.r 29) (.r 30)),
      .one (.mov 32 (.r 31)),
      .grp 32 true [.mov 33 (.r 0), .mov 34 (.r 1), .idx 35 (.r 33) (.r 34) 1, .load 36 (.r 35) 1 false, .mov 37 (.r 0), .mov 38 (.r 9), .idx 39 (.r 37) (.r 38) 1, .load 40 (.r 39) 1 false, .callf (some 41) (.st 44) [(.r 36), (.r 40)], .un 42 .not (.r 41)],
      .one (.pick 43 (.r 32) (.r 42) (.c (.bool false)))])
              (.cond (.r 43) .skip (.exit 2)))
             (.block 3
              /- R4 -/ (.ops [.it (.one (.mov 44 (.r 9))),
      .it (.one (.bin 45 .add (.r 44) (.c (.int .i64 (1))))),
      .it (.one (.mov 9 (.r 45)))]))))))
          (.seq
           (.block 4
            (.loop (.pre (.mv [0, 1, 9, 10] [])
             (.seq
              (.seq
               /- R5 -/ (.draw [[], [], [0, 1], [0, 1, 2], [0, 1, 2, 3], [0, 1, 2, 3], [0, 1, 2, 3, 4, 5], [0, 1, 2, 3, 4, 5, 6], [0, 1, 2, 3], [0, 1, 2, 3], [0, 1, 2, 3, 8, 9], [0, 1, 2, 3, 8, 9, 10], [0, 1, 2, 3, 4, 5, 6, 7, 8, 9, 10, 11], [0, 1, 2, 3, 4, 5, 6, 7, 8, 9, 10, 11, 12]] [.one (.mov 46 (.r 9)),
      .one (.mov 47 (.r 10)),
      .one (.bin 48 .leq (.r 46) (.r 47)),
      .one (.mov 49 (.r 48)),
      .grp 49 true [.mov 50 (.r 0), .mov 51 (.r 1), .idx 52 (.r 50) (.r 51) 1, .load 53 (.r 52) 1 false, .mov 54 (.r 0), .mov 55 (.r 10), .idx 56 (.r 54) (.r 55) 1, .load 57 (.r 56) 1 false, .callf (some 58) (.st 44) [(.r 53), (.r 57)]],
      .one (.pick 59 (.r 49) (.r 58) (.c (.bool false)))])
               (.cond (.r 59) .skip (.exit 4)))
              (.block 5
               /- R6 -/ (.ops [.it (.one (.mov 60 (.r 10))),
      .it (.one (.bin 61 .sub (.r 60) (.c (.int .i64 (1))))),
      .it (.one (.mov 10 (.r 61)))]))))))
           (.seq
            (.seq
             /- R7 -/ (.ops [.it (.one (.mov 62 (.r 9))),
      .it (.one (.mov 63 (.r 10))),
      .it (.one (.bin 64 .gtr (.r 62) (.r 63)))])
             (.cond (.r 64) (.exit 0) .skip))
            (.seq
             /- R8 -/ (.draw [[], [], [], [], [], [], [4, 5], [4, 5, 6], [], [], [8, 9], [8, 9, 10], [0, 1, 4, 5, 6, 7, 8, 9, 10, 11], [0, 1, 4, 5, 6, 7, 8, 9, 10, 11, 12], [0, 1, 2, 3, 4, 5, 6, 7, 8, 9, 10, 11, 12, 13], [0, 1, 2, 3, 4, 5, 6, 7, 8, 9, 10, 11, 12, 13, 14]] [.one (.mov 65 (.r 0)),
      .one (.mov 66 (.r 9)),
      .one (.mov 67 (.r 0)),
      .one (.mov 68 (.r 10)),
      .one (.mov 69 (.r 0)),
      .one (.mov 70 (.r 10)),
      .one (.idx 71 (.r 69) (.r 70) 1),
      .one (.load 72 (.r 71) 1 false),
      .one (.mov 73 (.r 0)),
      .one (.mov 74 (.r 9)),
      .one (.idx 75 (.r 73) (.r 74) 1),
      .one (.load 76 (.r 75) 1 false),
      .one (.idx 77 (.r 65) (.r 66) 1),
      .one (.store (.r 77) (.r 72) 1),
      .one (.idx 78 (.r 67) (.r 68) 1),
      .one (.store (.r 78) (.r 76) 1)])
             (.seq
              /- R9 -/ (.ops [.it (.one (.mov 79 (.r 9))),
      .it (.one (.bin 80 .add (.r 79) (.c (.int .i64 (1))))),
      .it (.one (.mov 9 (.r 80)))])
              /- R10 -/ (.ops [.it (.one (.mov 81 (.r 10))),
      .it (.one (.bin 82 .sub (.r 81) (.c (.int .i64 (1))))),
      .it (.one (.mov 10 (.r 82)))]))))))))))
      (.seq
       /- R11 -/ (.ops [.it (.one (.mov 83 (.r 9))),
      .it (.one (.mov 8 (.r 83)))]) .ret)))))
theorem A45_ok : okFun Try.prog 45 84 0 A45 [.tmp 8] [] = true := by kernel_rfl
/-- slices.partitionOrdered[int] -/
def A46 : ACode :=
  (.seq
   /- R0 -/ (.ops [.it (.one (.mov 8 (.c (.int .i64 (0))))),
      .it (.one (.mov 9 (.c (.bool false))))])
   (.seq
    /- R1 -/ (.draw [[], [], [], [], [], [], [4, 5], [4, 5, 6], [], [], [8, 9], [8, 9, 10], [0, 1, 4, 5, 6, 7, 8, 9, 10, 11], [0, 1, 4, 5, 6, 7, 8, 9, 10, 11, 12], [0, 1, 2, 3, 4, 5, 6, 7, 8, 9, 10, 11, 12, 13], [0, 1, 2, 3, 4, 5, 6, 7, 8, 9, 10, 11, 12, 13, 14]] [.one (.mov 12 (.r 0)),
      .one (.mov 13 (.r 1)),
      .one (.mov 14 (.r 0)),
      .one (.mov 15 (.r 3)),
      .one (.mov 16 (.r 0)),
      .one (.mov 17 (.r 3)),
      .one (.idx 18 (.r 16) (.r 17) 1),
      .one (.load 19 (.r 18) 1 false),
      .one (.mov 20 (.r 0)),
      .one (.mov 21 (.r 1)),
      .one (.idx 22 (.r 20) (.r 21) 1),
      .one (.load 23 (.r 22) 1 false),
      .one (.idx 24 (.r 12) (.r 13) 1),
      .one (.store (.r 24) (.r 19) 1),
      .one (.idx 25 (.r 14) (.r 15) 1),
      .one (.store (.r 25) (.r 23) 1)])
    (.seq
     /- R2 -/ (.ops [.it (.one (.mov 26 (.r 1))),
      .it (.one (.bin 27 .add (.r 26) (.c (.int .i64 (1))))),
      .it (.one (.mov 28 (.r 2))),
      .it (.one (.bin 29 .sub (.r 28) (.c (.int .i64 (1))))),
      .it (.one (.mov 10 (.r 27))),
      .it (.one (.mov 11 (.r 29)))])
     (.seq
      (.block 0
       (.loop (.pre (.mv [0, 1, 10, 11] [])
        (.seq
         (.seq
          /- R3 -/ (.draw [[], [], [0, 1], [0, 1, 2], [0, 1, 2, 3], [0, 1, 2, 3], [0, 1, 2, 3, 4, 5], [0, 1, 2, 3, 4, 5, 6], [0, 1, 2, 3], [0, 1, 2, 3], [0, 1, 2, 3, 8, 9], [0, 1, 2, 3, 8, 9, 10], [0, 1, 2, 3, 4, 5, 6, 7, 8, 9, 10, 11], [0, 1, 2, 3, 4, 5, 6, 7, 8, 9, 10, 11, 12]] [.one (.mov 30 (.r 10)),
      .one (.mov 31 (.r 11)),
      .one (.bin 32 .leq (.r 30) (.r 31)),
      .one (.mov 33 (.r 32)),
      .grp 33 true [.mov 34 (.r 0), .mov 35 (.r 10), .idx 36 (.r 34) (.r 35) 1, .load 37 (.r 36) 1 false, .mov 38 (.r 0), .mov 39 (.r 1), .idx 40 (.r 38) (.r 39) 1, .load 41 (.r 40) 1 false, .callf (some 42) (.st 44) [(.r 37), (.r 41)]],
      .one (.pick 43 (.r 33) (.r 42) (.c (.bool false)))])
          (.cond (.r 43) .skip (.exit 0)))
         (.block 1
          /- R4 -/ (.ops [.it (.one (.mov 44 (.r 10))),
      .it (.one (.bin 45 .add (.r 44) (.c (.int .i64 (1))))),
      .it (.one (.mov 10 (.r 45)))]))))))
      (.seq
       (.block 2
        (.loop (.pre (.mv [0, 1, 10, 11] [])
         (.seq
          (.seq
           /- R5 -/ (.draw [[], [], [0, 1], [0, 1, 2], [0, 1, 2, 3], [0, 1, 2, 3], [0, 1, 2, 3, 4, 5], [0, 1, 2, 3, 4, 5, 6], [0, 1, 2, 3], [0, 1, 2, 3], [0, 1, 2, 3, 8, 9], [0, 1, 2, 3, 8, 9, 10], [0, 1, 2, 3, 4, 5, 6, 7, 8, 9, 10, 11], [0, 1, 2, 3, 4, 5, 6, 7, 8, 9, 10, 11, 12], [0, 1, 2, 3, 4, 5, 6, 7, 8, 9, 10, 11, 12, 13]] [.one (.mov 46 (.r 10)),
      .one (.mov 47 (.r 11)),
      .one (.bin 48 .leq (.r 46) (.r 47)),
      .one (.mov 49 (.r 48)),
      .grp 49 true [.mov 50 (.r 0), .mov 51 (.r 11), .idx 52 (.r 50) (.r 51) 1, .load 53 (.r 52) 1 false, .mov 54 (.r 0), .mov 55 (.r 1), .idx 56 (.r 54) (.r 55) 1, .load 57 (.r 56) 1 false, .callf (some 58) (.st 44) [(.r 53), (.r 57)], .un 59 .not (.r 58)],
      .one (.pick 60 (.r 49) (.r 59) (.c (.bool false)))])
           (.cond (.r 60) .skip (.exit 2)))
          (.block 3
           /- R6 -/ (.ops [.it (.one (.mov 61 (.r 11))),
      .it (.one (.bin 62 .sub (.r 61) (.c (.int .i64 (1))))),
      .it (.one (.mov 11 (.r 62)))]))))))
       (.seq
        (.seq
         /- R7 -/ (.ops [.it (.one (.mov 63 (.r 10))),
      .it (.one (.mov 64 (.r 11))),
      .it (.one (.bin 65 .gtr (.r 63) (.r 64)))])
         (.cond (.r 65)
          (.seq
           /- R8 -/ (.draw [[], [], [], [], [], [], [4, 5], [4, 5, 6], [], [], [8, 9], [8, 9, 10], [0, 1, 4, 5, 6, 7, 8, 9, 10, 11], [0, 1, 4, 5, 6, 7, 8, 9, 10, 11, 12], [0, 1, 2, 3, 4, 5, 6, 7, 8, 9, 10, 11, 12, 13], [0, 1, 2, 3, 4, 5, 6, 7, 8, 9, 10, 11, 12, 13, 14]] [.one (.mov 66 (.r 0)),
      .one (.mov 67 (.r 11)),
      .one (.mov 68 (.r 0)),
      .one (.mov 69 (.r 1)),
      .one (.mov 70 (.r 0)),
      .one (.mov 71 (.r 1)),
      .one (.idx 72 (.r 70) (.r 71) 1),
      .one (.load 73 (.r 72) 1 false),
      .one (.mov 74 (.r 0)),
      .one (.mov 75 (.r 11)),
      .one (.idx 76 (.r 74) (.r 75) 1),
      .one (.load 77 (.r 76) 1 false),
      .one (.idx 78 (.r 66) (.r 67) 1),
      .one (.store (.r 78) (.r 73) 1),
      .one (.idx 79 (.r 68) (.r 69) 1),
      .one (.store (.r 79) (.r 77) 1)])
           (.seq
            /- R9 -/ (.ops [.it (.one (.mov 80 (.r 11))),
      .it (.one (.mov 8 (.r 80))),
      .it (.one (.mov 9 (.c (.bool true))))]) .ret)) .skip))
        (.seq
         /- R10 -/ (.draw [[], [], [], [], [], [], [4, 5], [4, 5, 6], [], [], [8, 9], [8, 9, 10], [0, 1, 4, 5, 6, 7, 8, 9, 10, 11], [0, 1, 4, 5, 6, 7, 8, 9, 10, 11, 12], [0, 1, 2, 3, 4, 5, 6, 7, 8, 9, 10, 11, 12, 13], [0, 1, 2, 3, 4, 5, 6, 7, 8, 9, 10, 11, 12, 13, 14]] [.one (.mov 81 (.r 0)),
      .one (.mov 82 (.r 10)),
      .one (.mov 83 (.r 0)),
      .one (.mov 84 (.r 11)),
      .one (.mov 85 (.r 0)),
      .one (.mov 86 (.r 11)),
      .one (.idx 87 (.r 85) (.r 86) 1),
      .one (.load 88 (.r 87) 1 false),
      .one (.mov 89 (.r 0)),
      .one (.mov 90 (.r 10)),
      .one (.idx 91 (.r 89) (.r 90) 1),
      .one (.load 92 (.r 91) 1 false),
      .one (.idx 93 (.r 81) (.r 82) 1),
      .one (.store (.r 93) (.r 88) 1),
      .one (.idx 94 (.r 83) (.r 84) 1),
      .one (.store (.r 94) (.r 92) 1)])
         (.seq
          /- R11 -/ (.ops [.it (.one (.mov 95 (.r 10))),
      .it (.one (.bin 96 .add (.r 95) (.c (.int .i64 (1))))),
      .it (.one (.mov 10 (.r 96)))])
          (.seq
           /- R12 -/ (.ops [.it (.one (.mov 97 (.r 11))),
      .it (.one (.bin 98 .sub (.r 97) (.c (.int .i64 (1))))),
      .it (.one (.mov 11 (.r 98)))])
           (.seq
            (.block 4
             (.loop (.pre (.mv [0, 1, 10, 11] [])
              (.block 5
               (.seq
                (.block 6
                 (.loop (.pre (.mv [0, 1, 10, 11] [])
                  (.seq
                   (.seq
                    /- R13 -/ (.draw [[], [], [0, 1], [0, 1, 2], [0, 1, 2, 3], [0, 1, 2, 3], [0, 1, 2, 3, 4, 5], [0, 1, 2, 3, 4, 5, 6], [0, 1, 2, 3], [0, 1, 2, 3], [0, 1, 2, 3, 8, 9], [0, 1, 2, 3, 8, 9, 10], [0, 1, 2, 3, 4, 5, 6, 7, 8, 9, 10, 11], [0, 1, 2, 3, 4, 5, 6, 7, 8, 9, 10, 11, 12]] [.one (.mov 99 (.r 10)),
      .one (.mov 100 (.r 11)),
      .one (.bin 101 .leq (.r 99) (.r 100)),
      .one (.mov 102 (.r 101)),
      .grp 102 true [.mov 103 (.r 0), .mov 104 (.r 10), .idx 105 (.r 103) (.r 104) 1, .load 106 (.r 105) 1 false, .mov 107 (.r 0), .mov 108 (.r 1), .idx 109 (.r 107) (.r 108) 1, .load 110 (.r 109) 1 false, .callf (some 111) (.st 44) [(.r 106), (.r 110)]],
      .one (.pick 112 (.r 102) (.r 111) (.c (.bool false)))])
                    (.cond (.r 112) .skip (.exit 6)))
                   (.block 7
                    /- R14 -/ (.ops [.it (.one (.mov 113 (.r 10))),
      .it (.one (.bin 114 .add (.r 113) (.c (.int .i64 (1))))),
      .it (.one (.mov 10 (.r 114)))]))))))
                (.seq
                 (.block 8
                  (.loop (.pre (.mv [0, 1, 10, 11] [])
                   (.seq
                    (.seq
                     /- R15 -/ (.draw [[], [], [0, 1], [0, 1, 2], [0, 1, 2, 3], [0, 1, 2, 3], [0, 1, 2, 3, 4, 5], [0, 1, 2, 3, 4, 5, 6], [0, 1, 2, 3], [0, 1, 2, 3], [0, 1, 2, 3, 8, 9], [0, 1, 2, 3, 8, 9, 10], [0, 1, 2, 3, 4, 5, 6, 7, 8, 9, 10, 11], [0, 1, 2, 3, 4, 5, 6, 7, 8, 9, 10, 11, 12], [0, 1, 2, 3, 4, 5, 6, 7, 8, 9, 10, 11, 12, 13]] [.one (.mov 115 (.r 10)),
      .one (.mov 116 (.r 11)),
      .one (.bin 117 .leq (.r 115) (.r 116)),
      .one (.mov 118 (.r 117)),
      .grp 118 true [.mov 119 (.r 0), .mov 120 (.r 11), .idx 121 (.r 119) (.r 120) 1, .load 122 (.r 121) 1 false, .mov 123 (.r 0), .mov 124 (.r 1), .idx 125 (.r 123) (.r 124) 1, .load 126 (.r 125) 1 false, .callf (some 127) (.st 44) [(.r 122), (.r 126)], .un 128 .not (.r 127)],
      .one (.pick 129 (.r 118) (.r 128) (.c (.bool false)))])
                     (.cond (.r 129) .skip (.exit 8)))
                    (.block 9
                     /- R16 -/ (.ops [.it (.one (.mov 130 (.r 11))),
      .it (.one (.bin 131 .sub (.r 130) (.c (.int .i64 (1))))),
      .it (.one (.mov 11 (.r 131)))]))))))
                 (.seq
                  (.seq
                   /- R17 -/ (.ops [.it (.one (.mov 132 (.r 10))),
      .it (.one (.mov 133 (.r 11))),
      .it (.one (.bin 134 .gtr (.r 132) (.r 133)))])
                   (.cond (.r 134) (.exit 4) .skip))
                  (.seq
                   /- R18 -/ (.draw [[], [], [], [], [], [], [4, 5], [4, 5, 6], [], [], [8, 9], [8, 9, 10], [0, 1, 4, 5, 6, 7, 8, 9, 10, 11], [0, 1, 4, 5, 6, 7, 8, 9, 10, 11, 12], [0, 1, 2, 3, 4, 5, 6, 7, 8, 9, 10, 11, 12, 13], [0, 1, 2, 3, 4, 5, 6, 7, 8, 9, 10, 11, 12, 13, 14]] [.one (.mov 135 (.r 0)),
      .one (.mov 136 (.r 10)),
      .one (.mov 137 (.r 0)),
      .one (.mov 138 (.r 11)),
      .one (.mov 139 (.r 0)),
      .one (.mov 140 (.r 11)),
      .one (.idx 141 (.r 139) (.r 140) 1),
      .one (.load 142 (.r 141) 1 false),
      .one (.mov 143 (.r 0)),
      .one (.mov 144 (.r 10)),
      .one (.idx 145 (.r 143) (.r 144) 1),
      .one (.load 146 (.r 145) 1 false),
      .one (.idx 147 (.r 135) (.r 136) 1),
      .one (.store (.r 147) (.r 142) 1),
      .one (.idx 148 (.r 137) (.r 138) 1),
      .one (.store (.r 148) (.r 146) 1)])
                   (.seq
                    /- R19 -/ (.ops [.it (.one (.mov 149 (.r 10))),
      .it (.one (.bin 150 .add (.r 149) (.c (.int .i64 (1))))),
      .it (.one (.mov 10 (.r 150)))])
                    /- R20 -/ (.ops [.it (.one (.mov 151 (.r 11))),
      .it (.one (.bin 152 .sub (.r 151) (.c (.int .i64 (1))))),
      .it (.one (.mov 11 (.r 152)))]))))))))))
            (.seq
             /- R21 -/ (.draw [[], [], [], [], [], [], [4, 5], [4, 5, 6], [], [], [8, 9], [8, 9, 10], [0, 1, 4, 5, 6, 7, 8, 9, 10, 11], [0, 1, 4, 5, 6, 7, 8, 9, 10, 11, 12], [0, 1, 2, 3, 4, 5, 6, 7, 8, 9, 10, 11, 12, 13], [0, 1, 2, 3, 4, 5, 6, 7, 8, 9, 10, 11, 12, 13, 14]] [.one (.mov 153 (.r 0)),
      .one (.mov 154 (.r 11)),
      .one (.mov 155 (.r 0)),
      .one (.mov 156 (.r 1)),
      .one (.mov 157 (.r 0)),
      .one (.mov 158 (.r 1)),
      .one (.idx 159 (.r 157) (.r 158) 1),
      .one (.load 160 (.r 159) 1 false),
      .one (.mov 161 (.r 0)),
      .one (.mov 162 (.r 11)),
      .one (.idx 163 (.r 161) (.r 162) 1),
      .one (.load 164 (.r 163) 1 false),
      .one (.idx 165 (.r 153) (.r 154) 1),
      .one (.store (.r 165) (.r 160) 1),
      .one (.idx 166 (.r 155) (.r 156) 1),
      .one (.store (.r 166) (.r 164) 1)])
             (.seq
              /- R22 -/ (.ops [.it (.one (.mov 167 (.r 11))),
      .it (.one (.mov 8 (.r 167))),
      .it (.one (.mov 9 (.c (.bool false))))]) .ret))))))))))))
theorem A46_ok : okFun Try.prog 46 168 0 A46 [.tmp 8, .tmp 9] [] = true := by kernel_rfl
/-- math/bits.Len32 -/
def A47 : ACode :=
  (.seq
   /- R0 -/ (.ops [.it (.one (.mov 2 (.c (.int .i64 (0)))))])
   (.seq
    (.seq
     /- R1 -/ (.ops [.it (.one (.mov 3 (.r 0))),
      .it (.one (.bin 4 .geq (.r 3) (.c (.int .u32 (65536)))))])
     (.cond (.r 4)
      (.seq
       /- R2 -/ (.ops [.it (.one (.mov 5 (.r 0))),
      .it (.one (.bin 6 .shr (.r 5) (.c (.int .u64 (16))))),
      .it (.one (.mov 0 (.r 6)))])
       /- R3 -/ (.ops [.it (.one (.mov 2 (.c (.int .i64 (16)))))])) .skip))
    (.seq
     (.seq
      /- R4 -/ (.ops [.it (.one (.mov 7 (.r 0))),
      .it (.one (.bin 8 .geq (.r 7) (.c (.int .u32 (256)))))])
      (.cond (.r 8)
       (.seq
        /- R5 -/ (.ops [.it (.one (.mov 9 (.r 0))),
      .it (.one (.bin 10 .shr (.r 9) (.c (.int .u64 (8))))),
      .it (.one (.mov 0 (.r 10)))])
        /- R6 -/ (.ops [.it (.one (.mov 11 (.r 2))),
      .it (.one (.bin 12 .add (.r 11) (.c (.int .i64 (8))))),
      .it (.one (.mov 2 (.r 12)))])) .skip))
     (.seq
      /- R7 -/ (.ops [.it (.one (.mov 13 (.r 2))),
      .it (.one (.mov 14 (.r 0))),
      .it (.one (.conv 15 .u8 (.r 14))),
      .it (.one (.sidx 16 (.c (.str ⟨#[0, 1, 2, 2, 3, 3, 3, 3, 4, 4, 4, 4, 4, 4, 4, 4, 5, 5, 5, 5, 5, 5, 5, 5, 5, 5, 5, 5, 5, 5, 5, 5, 6, 6, 6, 6, 6, 6, 6, 6, 6, 6, 6, 6, 6, 6, 6, 6, 6, 6, 6, 6, 6, 6, 6, 6, 6, 6, 6, 6, 6, 6, 6, 6, 7, 7, 7, 7, 7, 7, 7, 7, 7, 7, 7, 7, 7, 7, 7, 7, 7, 7, 7, 7, 7, 7, 7, 7, 7, 7, 7, 7, 7, 7, 7, 7, 7, 7, 7, 7, 7, 7, 7, 7, 7, 7, 7, 7, 7, 7, 7, 7, 7, 7, 7, 7, 7, 7, 7, 7, 7, 7, 7, 7, 7, 7, 7, 7, 8, 8, 8, 8, 8, 8, 8, 8, 8, 8, 8, 8, 8, 8, 8, 8, 8, 8, 8, 8, 8, 8, 8, 8, 8, 8, 8, 8, 8, 8, 8, 8, 8, 8, 8, 8, 8, 8, 8, 8, 8, 8, 8, 8, 8, 8, 8, 8, 8, 8, 8, 8, 8, 8, 8, 8, 8, 8, 8, 8, 8, 8, 8, 8, 8, 8, 8, 8, 8, 8, 8, 8, 8, 8, 8, 8, 8, 8, 8, 8, 8, 8, 8, 8, 8, 8, 8, 8, 8, 8, 8, 8, 8, 8, 8, 8, 8, 8, 8, 8, 8, 8, 8, 8, 8, 8, 8, 8, 8, 8, 8, 8, 8, 8, 8, 8, 8, 8, 8, 8, 8, 8, 8, 8, 8, 8, 8, 8]⟩)) (.r 15))),
      .it (.one (.conv 17 .i64 (.r 16))),
      .it (.one (.bin 18 .add (.r 13) (.r 17))),
      .it (.one (.mov 2 (.r 18)))]) .ret))))
theorem A47_ok : okFun Try.prog 47 19 0 A47 [.tmp 2] [] = true := by kernel_rfl
/-- math/bits.Len64 -/
def A48 : ACode :=
  (.seq
   /- R0 -/ (.ops [.it (.one (.mov 2 (.c (.int .i64 (0)))))])
   (.seq
    (.seq
     /- R1 -/ (.ops [.it (.one (.mov 3 (.r 0))),
      .it (.one (.bin 4 .geq (.r 3) (.c (.int .u64 (4294967296)))))])
     (.cond (.r 4)
      (.seq
       /- R2 -/ (.ops [.it (.one (.mov 5 (.r 0))),
      .it (.one (.bin 6 .shr (.r 5) (.c (.int .u64 (32))))),
      .it (.one (.mov 0 (.r 6)))])
       /- R3 -/ (.ops [.it (.one (.mov 2 (.c (.int .i64 (32)))))])) .skip))
    (.seq
     (.seq
      /- R4 -/ (.ops [.it (.one (.mov 7 (.r 0))),
      .it (.one (.bin 8 .geq (.r 7) (.c (.int .u64 (65536)))))])
      (.cond (.r 8)
       (.seq
        /- R5 -/ (.ops [.it (.one (.mov 9 (.r 0))),
      .it (.one (.bin 10 .shr (.r 9) (.c (.int .u64 (16))))),
      .it (.one (.mov 0 (.r 10)))])
        /- R6 -/ (.ops [.it (.one (.mov 11 (.r 2))),
      .it (.one (.bin 12 .add (.r 11) (.c (.int .i64 (16))))),
      .it (.one (.mov 2 (.r 12)))])) .skip))
     (.seq
      (.seq
       /- R7 -/ (.ops [.it (.one (.mov 13 (.r 0))),
      .it (.one (.bin 14 .geq (.r 13) (.c (.int .u64 (256)))))])
       (.cond (.r 14)
        (.seq
         /- R8 -/ (.ops [.it (.one (.mov 15 (.r 0))),
      .it (.one (.bin 16 .shr (.r 15) (.c (.int .u64 (8))))),
      .it (.one (.mov 0 (.r 16)))])
         /- R9 -/ (.ops [.it (.one (.mov 17 (.r 2))),
      .it (.one (.bin 18 .add (.r 17) (.c (.int .i64 (8))))),
      .it (.one (.mov 2 (.r 18)))])) .skip))
      (.seq
       /- R10 -/ (.ops [.it (.one (.mov 19 (.r 2))),
      .it (.one (.mov 20 (.r 0))),
      .it (.one (.conv 21 .u8 (.r 20))),
      .it (.one (.sidx 22 (.c (.str ⟨#[0, 1, 2, 2, 3, 3, 3, 3, 4, 4, 4, 4, 4, 4, 4, 4, 5, 5, 5, 5, 5, 5, 5, 5, 5, 5, 5, 5, 5, 5, 5, 5, 6, 6, 6, 6, 6, 6, 6, 6, 6, 6, 6, 6, 6, 6, 6, 6, 6, 6, 6, 6, 6, 6, 6, 6, 6, 6, 6, 6, 6, 6, 6, 6, 7, 7, 7, 7, 7, 7, 7, 7, 7, 7, 7, 7, 7, 7, 7, 7, 7, 7, 7, 7, 7, 7, 7, 7, 7, 7, 7, 7, 7, 7, 7, 7, 7, 7, 7, 7, 7, 7, 7, 7, 7, 7, 7, 7, 7, 7, 7, 7, 7, 7, 7, 7, 7, 7, 7, 7, 7, 7, 7, 7, 7, 7, 7, 7, 8, 8, 8, 8, 8, 8, 8, 8, 8, 8, 8, 8, 8, 8, 8, 8, 8, 8, 8, 8, 8, 8, 8, 8, 8, 8, 8, 8, 8, 8, 8, 8, 8, 8, 8, 8, 8, 8, 8, 8, 8, 8, 8, 8, 8, 8, 8, 8, 8, 8, 8, 8, 8, 8, 8, 8, 8, 8, 8, 8, 8, 8, 8, 8, 8, 8, 8, 8, 8, 8, 8, 8, 8, 8, 8, 8, 8, 8, 8, 8, 8, 8, 8, 8, 8, 8, 8, 8, 8, 8, 8, 8, 8, 8, 8, 8, 8, 8, 8, 8, 8, 8, 8, 8, 8, 8, 8, 8, 8, 8, 8, 8, 8, 8, 8, 8, 8, 8, 8, 8, 8, 8, 8, 8, 8, 8, 8, 8]⟩)) (.r 21))),
      .it (.one (.conv 23 .i64 (.r 22))),
      .it (.one (.bin 24 .add (.r 19) (.r 23))),
      .it (.one (.mov 2 (.r 24)))]) .ret)))))
theorem A48_ok : okFun Try.prog 48 25 0 A48 [.tmp 2] [] = true := by kernel_rfl
/-- slices.Collect[dyehouse/api.Seg] -/
def A49 : ACode :=
  (.seq
   /- R0 -/ (.ops [.it (.one (.mov 2 (.c (.sl []))))])
   (.seq
    /- R1 -/ (.ops [.it (.one (.mov 3 (.r 0))),
      .it (.one (.callo (some 4) (.st 58) [(.c (.yl 0)), (.r 3)] [] [60])),
      .it (.one (.mov 2 (.r 4)))]) .ret))
theorem A49_ok : okFun Try.prog 49 5 0 A49 [.tmp 2] [60] = true := by kernel_rfl
/-- slices.SortStableFunc[[]dyehouse/api.Seg,dyehouse/api.Seg] -/
def A50 : ACode :=
  /- R0 -/ (.ops [.it (.one (.mov 4 (.r 0))),
      .it (.one (.mov 5 (.r 0))),
      .it (.one (.len 6 (.r 5))),
      .it (.one (.mov 7 (.r 1))),
      .call (some 8) (.st 59) [(.r 4), (.r 6), (.r 7)] [0] []])
theorem A50_ok : okFun Try.prog 50 9 1 A50 [] [] = true := by kernel_rfl
/-- slices.Values[[]dyehouse/api.Seg,dyehouse/api.Seg]$1 -/
def A51 : ACode :=
  (.seq
   /- R0 -/ (.ops [.it (.one (.load 5 (.r 1) 1 false)),
      .it (.one (.len 6 (.r 5))),
      .it (.one (.mov 7 (.c (.int .i64 (0)))))])
   (.block 0
    (.loop (.pre (.mv [0, 5, 6, 7] [])
     (.seq
      /- R1 -/ (.ops [.it (.one (.bin 8 .lss (.r 7) (.r 6)))])
      (.seq
       (.cond (.r 8) .skip (.exit 0))
       (.seq
        (.block 1
         (.seq
          /- R2 -/ (.post (.ops [.it (.one (.idx 9 (.r 5) (.r 7) 6)),
      .it (.one (.load 10 (.r 9) 6 true)),
      .it (.one (.alloc 4 4 [.int .i64 0, .int .i64 0, .int .i64 0, .int .i64 0, .int .i64 0, .int .i64 0])),
      .it (.one (.store (.r 4) (.r 10) 6))]) (.frz 4))
          (.seq
           /- R3 -/ (.ops [.it (.one (.mov 11 (.r 0))),
      .it (.one (.load 12 (.r 4) 6 true)),
      .it (.one (.callf (some 13) (.dy (.r 11)) [(.r 12)])),
      .it (.one (.un 14 .not (.r 13)))])
           (.cond (.r 14) .ret .skip))))
        /- R4 -/ (.ops [.it (.one (.bin 15 .add (.r 7) (.c (.int .i64 (1))))),
      .it (.one (.mov 7 (.r 15)))]))))))))
theorem A51_ok : okFun Try.prog 51 16 0 A51 [] [] = true := by kernel_rfl
/-- cmp.isNaN[int] -/
def A52 : ACode :=
  (.seq
   /- R0 -/ (.ops [.it (.one (.mov 2 (.c (.bool false))))])
   (.seq
    /- R1 -/ (.ops [.it (.one (.mov 3 (.r 0))),
      .it (.one (.mov 4 (.r 0))),
      .it (.one (.bin 5 .neq (.r 3) (.r 4))),
      .it (.one (.mov 2 (.r 5)))]) .ret))
theorem A52_ok : okFun Try.prog 52 6 0 A52 [.tmp 2] [] = true := by kernel_rfl
/-- slices.siftDownOrdered[int] -/
def A53 : ACode :=
  (.seq
   /- R0 -/ (.ops [.it (.one (.mov 10 (.r 1))),
      .it (.one (.mov 8 (.r 10)))])
   (.block 0
    (.loop (.pre (.mv [0, 2, 3, 8] [])
     (.block 1
      (.seq
       /- R1 -/ (.ops [.it (.one (.mov 11 (.r 8))),
      .it (.one (.bin 12 .mul (.c (.int .i64 (2))) (.r 11))),
      .it (.one (.bin 13 .add (.r 12) (.c (.int .i64 (1))))),
      .it (.one (.mov 9 (.r 13)))])
       (.seq
        (.seq
         /- R2 -/ (.ops [.it (.one (.mov 14 (.r 9))),
      .it (.one (.mov 15 (.r 2))),
      .it (.one (.bin 16 .geq (.r 14) (.r 15)))])
         (.cond (.r 16) (.exit 0) .skip))
        (.seq
         (.seq
          /- R3 -/ (.draw [[], [0], [], [0, 1, 2], [0, 1, 2, 3], [0, 1, 2, 3, 4], [0, 1, 2, 3, 4], [0, 1, 2, 3, 4], [0, 1, 2, 3, 4, 6, 7], [0, 1, 2, 3, 4, 5, 6, 7, 8], [0, 1, 2, 3, 4, 5, 6, 7, 8, 9], [0, 1, 2, 3, 4], [0, 1, 2, 3, 4], [0, 1, 2, 3, 4], [0, 1, 2, 3, 4, 12, 13], [0, 1, 2, 3, 4, 12, 13, 14], [0, 1, 2, 3, 4, 11, 12, 13, 14, 15], [0, 1, 2, 3, 4, 11, 12, 13, 14, 15, 16], [0, 1, 2, 3, 4, 5, 6, 7, 8, 9, 10, 11, 12, 13, 14, 15, 16, 17], [0, 1, 2, 3, 4, 5, 6, 7, 8, 9, 10, 11, 12, 13, 14, 15, 16, 17, 18]] [.one (.mov 17 (.r 9)),
      .one (.bin 18 .add (.r 17) (.c (.int .i64 (1)))),
      .one (.mov 19 (.r 2)),
      .one (.bin 20 .lss (.r 18) (.r 19)),
      .one (.mov 21 (.r 20)),
      .grp 21 true [.mov 22 (.r 0), .mov 23 (.r 3), .mov 24 (.r 9), .bin 25 .add (.r 23) (.r 24), .idx 26 (.r 22) (.r 25) 1, .load 27 (.r 26) 1 false, .mov 28 (.r 0), .mov 29 (.r 3), .mov 30 (.r 9), .bin 31 .add (.r 29) (.r 30), .bin 32 .add (.r 31) (.c (.int .i64 (1))), .idx 33 (.r 28) (.r 32) 1, .load 34 (.r 33) 1 false, .callf (some 35) (.st 44) [(.r 27), (.r 34)]],
      .one (.pick 36 (.r 21) (.r 35) (.c (.bool false)))])
          (.cond (.r 36)
           /- R4 -/ (.ops [.it (.one (.mov 37 (.r 9))),
      .it (.one (.bin 38 .add (.r 37) (.c (.int .i64 (1))))),
      .it (.one (.mov 9 (.r 38)))]) .skip))
         (.seq
          (.seq
           /- R5 -/ (.draw [[], [], [], [1, 2], [0, 1, 2, 3], [0, 1, 2, 3, 4], [], [], [], [7, 8], [6, 7, 8, 9], [6, 7, 8, 9, 10], [0, 1, 2, 3, 4, 5, 6, 7, 8, 9, 10, 11], [0, 1, 2, 3, 4, 5, 6, 7, 8, 9, 10, 11, 12]] [.one (.mov 39 (.r 0)),
      .one (.mov 40 (.r 3)),
      .one (.mov 41 (.r 8)),
      .one (.bin 42 .add (.r 40) (.r 41)),
      .one (.idx 43 (.r 39) (.r 42) 1),
      .one (.load 44 (.r 43) 1 false),
      .one (.mov 45 (.r 0)),
      .one (.mov 46 (.r 3)),
      .one (.mov 47 (.r 9)),
      .one (.bin 48 .add (.r 46) (.r 47)),
      .one (.idx 49 (.r 45) (.r 48) 1),
      .one (.load 50 (.r 49) 1 false),
      .one (.callf (some 51) (.st 44) [(.r 44), (.r 50)]),
      .one (.un 52 .not (.r 51))])
           (.cond (.r 52) .ret .skip))
          (.seq
           /- R6 -/ (.draw [[], [], [], [1, 2], [], [], [], [5, 6], [], [], [], [9, 10], [8, 9, 10, 11], [8, 9, 10, 11, 12], [], [], [], [15, 16], [14, 15, 16, 17], [14, 15, 16, 17, 18], [0, 1, 2, 3, 8, 9, 10, 11, 12, 13, 14, 15, 16, 17, 18, 19], [0, 1, 2, 3, 8, 9, 10, 11, 12, 13, 14, 15, 16, 17, 18, 19, 20], [0, 1, 2, 3, 4, 5, 6, 7, 8, 9, 10, 11, 12, 13, 14, 15, 16, 17, 18, 19, 20, 21], [0, 1, 2, 3, 4, 5, 6, 7, 8, 9, 10, 11, 12, 13, 14, 15, 16, 17, 18, 19, 20, 21, 22]] [.one (.mov 53 (.r 0)),
      .one (.mov 54 (.r 3)),
      .one (.mov 55 (.r 8)),
      .one (.bin 56 .add (.r 54) (.r 55)),
      .one (.mov 57 (.r 0)),
      .one (.mov 58 (.r 3)),
      .one (.mov 59 (.r 9)),
      .one (.bin 60 .add (.r 58) (.r 59)),
      .one (.mov 61 (.r 0)),
      .one (.mov 62 (.r 3)),
      .one (.mov 63 (.r 9)),
      .one (.bin 64 .add (.r 62) (.r 63)),
      .one (.idx 65 (.r 61) (.r 64) 1),
      .one (.load 66 (.r 65) 1 false),
      .one (.mov 67 (.r 0)),
      .one (.mov 68 (.r 3)),
      .one (.mov 69 (.r 8)),
      .one (.bin 70 .add (.r 68) (.r 69)),
      .one (.idx 71 (.r 67) (.r 70) 1),
      .one (.load 72 (.r 71) 1 false),
      .one (.idx 73 (.r 53) (.r 56) 1),
      .one (.store (.r 73) (.r 66) 1),
      .one (.idx 74 (.r 57) (.r 60) 1),
      .one (.store (.r 74) (.r 72) 1)])
           /- R7 -/ (.ops [.it (.one (.mov 75 (.r 9))),
      .it (.one (.mov 8 (.r 75)))])))))))))))
theorem A53_ok : okFun Try.prog 53 76 0 A53 [] [] = true := by kernel_rfl
/-- slices.nextPowerOfTwo -/
def A54 : ACode :=
  (.seq
   /- R0 -/ (.ops [.it (.one (.mov 2 (.c (.int .u64 (0)))))])
   (.seq
    /- R1 -/ (.ops [.it (.one (.mov 3 (.r 0))),
      .it (.one (.conv 4 .u64 (.r 3))),
      .it (.one (.callf (some 5) (.st 32) [(.r 4)])),
      .it (.one (.bin 6 .shl (.c (.int .u64 (1))) (.r 5))),
      .it (.one (.mov 2 (.r 6)))]) .ret))
theorem A54_ok : okFun Try.prog 54 7 0 A54 [.tmp 2] [] = true := by kernel_rfl
/-- (*slices.xorshift).Next -/
def A55 : ACode :=
  (.seq
   /- R0 -/ (.ops [.it (.one (.mov 2 (.c (.int .u64 (0)))))])
   (.seq
    /- R1 -/ (.draw [[], [0], [0, 1], [], [3], [3, 4], [3, 4, 5], [0, 1, 2, 3, 4, 5, 6], [0, 1, 2, 3, 4, 5, 6, 7], [0, 1, 2, 3, 4, 5, 6, 7, 8]] [.one (.mov 3 (.r 0)),
      .one (.nilc 4 (.r 3)),
      .one (.load 5 (.r 4) 1 false),
      .one (.mov 6 (.r 0)),
      .one (.nilc 7 (.r 6)),
      .one (.load 8 (.r 7) 1 false),
      .one (.bin 9 .shl (.r 8) (.c (.int .u64 (13)))),
      .one (.bin 10 .xor (.r 5) (.r 9)),
      .one (.nilc 11 (.r 3)),
      .one (.store (.r 11) (.r 10) 1)])
    (.seq
     /- R2 -/ (.draw [[], [0], [0, 1], [], [3], [3, 4], [3, 4, 5], [0, 1, 2, 3, 4, 5, 6], [0, 1, 2, 3, 4, 5, 6, 7], [0, 1, 2, 3, 4, 5, 6, 7, 8]] [.one (.mov 12 (.r 0)),
      .one (.nilc 13 (.r 12)),
      .one (.load 14 (.r 13) 1 false),
      .one (.mov 15 (.r 0)),
      .one (.nilc 16 (.r 15)),
      .one (.load 17 (.r 16) 1 false),
      .one (.bin 18 .shr (.r 17) (.c (.int .u64 (7)))),
      .one (.bin 19 .xor (.r 14) (.r 18)),
      .one (.nilc 20 (.r 12)),
      .one (.store (.r 20) (.r 19) 1)])
     (.seq
      /- R3 -/ (.draw [[], [0], [0, 1], [], [3], [3, 4], [3, 4, 5], [0, 1, 2, 3, 4, 5, 6], [0, 1, 2, 3, 4, 5, 6, 7], [0, 1, 2, 3, 4, 5, 6, 7, 8]] [.one (.mov 21 (.r 0)),
      .one (.nilc 22 (.r 21)),
      .one (.load 23 (.r 22) 1 false),
      .one (.mov 24 (.r 0)),
      .one (.nilc 25 (.r 24)),
      .one (.load 26 (.r 25) 1 false),
      .one (.bin 27 .shl (.r 26) (.c (.int .u64 (17)))),
      .one (.bin 28 .xor (.r 23) (.r 27)),
      .one (.nilc 29 (.r 21)),
      .one (.store (.r 29) (.r 28) 1)])
      (.seq
       /- R4 -/ (.ops [.it (.one (.mov 30 (.r 0))),
      .it (.one (.nilc 31 (.r 30))),
      .it (.one (.load 32 (.r 31) 1 false)),
      .it (.one (.mov 2 (.r 32)))]) .ret)))))
theorem A55_ok : okFun Try.prog 55 33 0 A55 [.tmp 2] [] = true := by kernel_rfl
/-- slices.medianAdjacentOrdered[int] -/
def A56 : ACode :=
  (.seq
   /- R0 -/ (.ops [.it (.one (.mov 6 (.c (.int .i64 (0)))))])
   (.seq
    /- R1 -/ (.ops [.it (.one (.mov 7 (.r 0))),
      .it (.one (.mov 8 (.r 1))),
      .it (.one (.bin 9 .sub (.r 8) (.c (.int .i64 (1))))),
      .it (.one (.mov 10 (.r 1))),
      .it (.one (.mov 11 (.r 1))),
      .it (.one (.bin 12 .add (.r 11) (.c (.int .i64 (1))))),
      .it (.one (.mov 13 (.r 2))),
      .it (.one (.callf (some 14) (.st 57) [(.r 7), (.r 9), (.r 10), (.r 12), (.r 13)])),
      .it (.one (.mov 6 (.r 14)))]) .ret))
theorem A56_ok : okFun Try.prog 56 15 0 A56 [.tmp 6] [] = true := by kernel_rfl
/-- slices.medianOrdered[int] -/
def A57 : ACode :=
  (.seq
   /- R0 -/ (.ops [.it (.one (.mov 10 (.c (.int .i64 (0)))))])
   (.seq
    /- R1 -/ (.ops [.it (.one (.mov 12 (.r 0))),
      .it (.one (.mov 13 (.r 1))),
      .it (.one (.mov 14 (.r 2))),
      .it (.one (.mov 15 (.r 4))),
      .it (.one (.callf (some 16) (.st 60) [(.r 12), (.r 13), (.r 14), (.r 15)])),
      .it (.one (.mov 11 (.r 16))),
      .it (.one (.ext 17 (.r 11) 0)),
      .it (.one (.ext 18 (.r 11) 1)),
      .it (.one (.mov 1 (.r 17))),
      .it (.one (.mov 2 (.r 18)))])
    (.seq
     /- R2 -/ (.ops [.it (.one (.mov 20 (.r 0))),
      .it (.one (.mov 21 (.r 2))),
      .it (.one (.mov 22 (.r 3))),
      .it (.one (.mov 23 (.r 4))),
      .it (.one (.callf (some 24) (.st 60) [(.r 20), (.r 21), (.r 22), (.r 23)])),
      .it (.one (.mov 19 (.r 24))),
      .it (.one (.ext 25 (.r 19) 0)),
      .it (.one (.ext 26 (.r 19) 1)),
      .it (.one (.mov 2 (.r 25))),
      .it (.one (.mov 3 (.r 26)))])
     (.seq
      /- R3 -/ (.ops [.it (.one (.mov 28 (.r 0))),
      .it (.one (.mov 29 (.r 1))),
      .it (.one (.mov 30 (.r 2))),
      .it (.one (.mov 31 (.r 4))),
      .it (.one (.callf (some 32) (.st 60) [(.r 28), (.r 29), (.r 30), (.r 31)])),
      .it (.one (.mov 27 (.r 32))),
      .it (.one (.ext 33 (.r 27) 0)),
      .it (.one (.ext 34 (.r 27) 1)),
      .it (.one (.mov 1 (.r 33))),
      .it (.one (.mov 2 (.r 34)))])
      (.seq
       /- R4 -/ (.ops [.it (.one (.mov 35 (.r 2))),
      .it (.one (.mov 10 (.r 35)))]) .ret)))))
theorem A57_ok : okFun Try.prog 57 36 0 A57 [.tmp 10] [] = true := by kernel_rfl
/-- slices.AppendSeq[[]dyehouse/api.Seg,dyehouse/api.Seg] -/
def A58 : ACode :=
  (.seq
   /- R0 -/ (.pre (.nil 0 2000 6) (.ops [.it (.one (.boxo 2 2 (.r 0))),
      .it (.one (.mov 4 (.c (.sl []))))]))
   (.seq
    (.seq
     /- R1 -/ (.ops [.it (.one (.mov 6 (.r 1)))])
     (.block 0
      (.rfunc [2, 2000] (.r 6) [7]
       /- R2 -/ (.post (.ops [.it (.one (.alloc 5 5 [.int .i64 0, .int .i64 0, .int .i64 0, .int .i64 0, .int .i64 0, .int .i64 0])),
      .it (.one (.store (.r 5) (.r 7) 6))]) (.frz 5))
       (.post
        (.block 1
         /- R3 -/ (.ops [.it (.one (.load 8 (.r 2) 1 false)),
      .it (.one (.load 9 (.r 5) 6 true)),
      .it (.one (.bslp 10 6 [(.r 9)])),
      .it (.one (.appd 11 (.r 8) (.r 10) 6 48)),
      .it (.one (.store (.r 2) (.r 11) 1))])) (.mv [] [(2, 2), (2000, 2000)])))))
    (.seq
     /- R4 -/ (.ops [.it (.one (.load 12 (.r 2) 1 false)),
      .it (.one (.mov 4 (.r 12)))]) .ret)))
theorem A58_ok : okFunK Try.prog 58 13 0 [2, 2000] A58 [.tmp 4] [2000] = true := by kernel_rfl
/-- slices.stableCmpFunc[dyehouse/api.Seg] -/
def A59 : ACode :=
  (.seq
   /- R0 -/ (.ops [.it (.one (.mov 6 (.c (.int .i64 (20)))))])
   (.seq
    /- R1 -/ (.ops [.it (.one (.mov 10 (.r 6))),
      .it (.one (.mov 7 (.c (.int .i64 (0))))),
      .it (.one (.mov 8 (.r 10)))])
    (.seq
     (.block 0
      (.loop (.pre (.mv [0, 1, 2, 6, 7, 8] [(0, 0)])
       (.seq
        (.seq
         /- R2 -/ (.ops [.it (.one (.mov 11 (.r 8))),
      .it (.one (.mov 12 (.r 1))),
      .it (.one (.bin 13 .leq (.r 11) (.r 12)))])
         (.cond (.r 13) .skip (.exit 0)))
        (.block 1
         (.seq
          /- R3 -/ (.ops [.it (.one (.mov 14 (.r 0))),
      .it (.one (.mov 15 (.r 7))),
      .it (.one (.mov 16 (.r 8))),
      .it (.one (.mov 17 (.r 2))),
      .call (some 18) (.st 61) [(.r 14), (.r 15), (.r 16), (.r 17)] [0] []])
          (.seq
           /- R4 -/ (.ops [.it (.one (.mov 19 (.r 8))),
      .it (.one (.mov 7 (.r 19)))])
           /- R5 -/ (.ops [.it (.one (.mov 20 (.r 8))),
      .it (.one (.mov 21 (.r 6))),
      .it (.one (.bin 22 .add (.r 20) (.r 21))),
      .it (.one (.mov 8 (.r 22)))]))))))))
     (.seq
      /- R6 -/ (.ops [.it (.one (.mov 23 (.r 0))),
      .it (.one (.mov 24 (.r 7))),
      .it (.one (.mov 25 (.r 1))),
      .it (.one (.mov 26 (.r 2))),
      .call (some 27) (.st 61) [(.r 23), (.r 24), (.r 25), (.r 26)] [0] []])
      (.block 2
       (.loop (.pre (.mv [0, 1, 2, 6] [(0, 0)])
        (.seq
         (.seq
          /- R7 -/ (.ops [.it (.one (.mov 28 (.r 6))),
      .it (.one (.mov 29 (.r 1))),
      .it (.one (.bin 30 .lss (.r 28) (.r 29)))])
          (.cond (.r 30) .skip (.exit 2)))
         (.block 3
          (.seq
           /- R8 -/ (.ops [.it (.one (.mov 31 (.r 6))),
      .it (.one (.bin 32 .mul (.c (.int .i64 (2))) (.r 31))),
      .it (.one (.mov 7 (.c (.int .i64 (0))))),
      .it (.one (.mov 8 (.r 32)))])
           (.seq
            (.block 4
             (.loop (.pre (.mv [0, 1, 2, 6, 7, 8] [(0, 0)])
              (.seq
               (.seq
                /- R9 -/ (.ops [.it (.one (.mov 33 (.r 8))),
      .it (.one (.mov 34 (.r 1))),
      .it (.one (.bin 35 .leq (.r 33) (.r 34)))])
                (.cond (.r 35) .skip (.exit 4)))
               (.block 5
                (.seq
                 /- R10 -/ (.ops [.it (.one (.mov 36 (.r 0))),
      .it (.one (.mov 37 (.r 7))),
      .it (.one (.mov 38 (.r 7))),
      .it (.one (.mov 39 (.r 6))),
      .it (.one (.bin 40 .add (.r 38) (.r 39))),
      .it (.one (.mov 41 (.r 8))),
      .it (.one (.mov 42 (.r 2))),
      .call (some 43) (.st 62) [(.r 36), (.r 37), (.r 40), (.r 41), (.r 42)] [0] []])
                 (.seq
                  /- R11 -/ (.ops [.it (.one (.mov 44 (.r 8))),
      .it (.one (.mov 7 (.r 44)))])
                  /- R12 -/ (.ops [.it (.one (.mov 45 (.r 8))),
      .it (.one (.mov 46 (.r 6))),
      .it (.one (.bin 47 .mul (.c (.int .i64 (2))) (.r 46))),
      .it (.one (.bin 48 .add (.r 45) (.r 47))),
      .it (.one (.mov 8 (.r 48)))]))))))))
            (.seq
             (.seq
              /- R13 -/ (.ops [.it (.one (.mov 49 (.r 7))),
      .it (.one (.mov 50 (.r 6))),
      .it (.one (.bin 51 .add (.r 49) (.r 50))),
      .it (.one (.mov 9 (.r 51)))])
              (.seq
               /- R14 -/ (.ops [.it (.one (.mov 52 (.r 9))),
      .it (.one (.mov 53 (.r 1))),
      .it (.one (.bin 54 .lss (.r 52) (.r 53)))])
               (.cond (.r 54)
                /- R15 -/ (.ops [.it (.one (.mov 55 (.r 0))),
      .it (.one (.mov 56 (.r 7))),
      .it (.one (.mov 57 (.r 9))),
      .it (.one (.mov 58 (.r 1))),
      .it (.one (.mov 59 (.r 2))),
      .call (some 60) (.st 62) [(.r 55), (.r 56), (.r 57), (.r 58), (.r 59)] [0] []]) .skip)))
             /- R16 -/ (.ops [.it (.one (.mov 61 (.r 6))),
      .it (.one (.bin 62 .mul (.r 61) (.c (.int .i64 (2))))),
      .it (.one (.mov 6 (.r 62)))])))))))))))))
theorem A59_ok : okFun Try.prog 59 63 1 A59 [] [] = true := by kernel_rfl
/-- slices.order2Ordered[int] -/
def A60 : ACode :=
  (.seq
   /- R0 -/ (.ops [.it (.one (.mov 8 (.c (.int .i64 (0))))),
      .it (.one (.mov 9 (.c (.int .i64 (0)))))])
   (.seq
    (.seq
     /- R1 -/ (.draw [[], [], [0, 1], [0, 1, 2], [], [], [4, 5], [4, 5, 6], [0, 1, 2, 3, 4, 5, 6, 7]] [.one (.mov 10 (.r 0)),
      .one (.mov 11 (.r 2)),
      .one (.idx 12 (.r 10) (.r 11) 1),
      .one (.load 13 (.r 12) 1 false),
      .one (.mov 14 (.r 0)),
      .one (.mov 15 (.r 1)),
      .one (.idx 16 (.r 14) (.r 15) 1),
      .one (.load 17 (.r 16) 1 false),
      .one (.callf (some 18) (.st 44) [(.r 13), (.r 17)])])
     (.cond (.r 18)
      (.seq
       /- R2 -/ (.ops [.it (.one (.mov 19 (.r 3))),
      .it (.one (.nilc 20 (.r 19))),
      .it (.one (.load 21 (.r 20) 1 false)),
      .it (.one (.bin 22 .add (.r 21) (.c (.int .i64 (1))))),
      .it (.one (.nilc 23 (.r 19))),
      .it (.one (.store (.r 23) (.r 22) 1))])
       (.seq
        /- R3 -/ (.ops [.it (.one (.mov 24 (.r 2))),
      .it (.one (.mov 25 (.r 1))),
      .it (.one (.mov 8 (.r 24))),
      .it (.one (.mov 9 (.r 25)))]) .ret)) .skip))
    (.seq
     /- R4 -/ (.ops [.it (.one (.mov 26 (.r 1))),
      .it (.one (.mov 27 (.r 2))),
      .it (.one (.mov 8 (.r 26))),
      .it (.one (.mov 9 (.r 27)))]) .ret)))
theorem A60_ok : okFun Try.prog 60 28 0 A60 [.tmp 8, .tmp 9] [] = true := by kernel_rfl
/-- slices.insertionSortCmpFunc[dyehouse/api.Seg] -/
def A61 : ACode :=
  (.seq
   /- R0 -/ (.ops [.it (.one (.mov 10 (.r 1))),
      .it (.one (.bin 11 .add (.r 10) (.c (.int .i64 (1))))),
      .it (.one (.mov 8 (.r 11)))])
   (.block 0
    (.loop (.pre (.mv [0, 1, 2, 3, 8] [(0, 0)])
     (.seq
      (.seq
       /- R1 -/ (.ops [.it (.one (.mov 12 (.r 8))),
      .it (.one (.mov 13 (.r 2))),
      .it (.one (.bin 14 .lss (.r 12) (.r 13)))])
       (.cond (.r 14) .skip (.exit 0)))
      (.seq
       (.block 1
        (.seq
         /- R3 -/ (.ops [.it (.one (.mov 17 (.r 8))),
      .it (.one (.mov 9 (.r 17)))])
         (.block 2
          (.loop (.pre (.mv [0, 1, 2, 3, 8, 9] [(0, 0)])
           (.seq
            (.seq
             /- R4 -/ (.draw [[], [], [0, 1], [0, 1, 2], [0, 1, 2, 3], [0, 1, 2, 3], [0, 1, 2, 3], [0, 1, 2, 3, 5, 6], [0, 1, 2, 3, 5, 6, 7], [0, 1, 2, 3], [0, 1, 2, 3], [0, 1, 2, 3, 10], [0, 1, 2, 3, 9, 10, 11], [0, 1, 2, 3, 9, 10, 11, 12], [0, 1, 2, 3, 4, 5, 6, 7, 8, 9, 10, 11, 12, 13], [0, 1, 2, 3, 4, 5, 6, 7, 8, 9, 10, 11, 12, 13, 14], [0, 1, 2, 3, 4, 5, 6, 7, 8, 9, 10, 11, 12, 13, 14, 15]] [.one (.mov 18 (.r 9)),
      .one (.mov 19 (.r 1)),
      .one (.bin 20 .gtr (.r 18) (.r 19)),
      .one (.mov 21 (.r 20)),
      .grp 21 true [.mov 22 (.r 3), .mov 23 (.r 0), .mov 24 (.r 9), .idx 25 (.r 23) (.r 24) 6, .load 26 (.r 25) 6 true, .mov 27 (.r 0), .mov 28 (.r 9), .bin 29 .sub (.r 28) (.c (.int .i64 (1))), .idx 30 (.r 27) (.r 29) 6, .load 31 (.r 30) 6 true, .callf (some 32) (.dy (.r 22)) [(.r 26), (.r 31)], .bin 33 .lss (.r 32) (.c (.int .i64 (0)))],
      .one (.pick 34 (.r 21) (.r 33) (.c (.bool false)))])
             (.cond (.r 34) .skip (.exit 2)))
            (.seq
             (.block 3
              /- R6 -/ (.draw [[], [], [], [], [3], [], [], [6], [5, 6, 7], [5, 6, 7, 8], [], [], [10, 11], [10, 11, 12], [0, 1, 5, 6, 7, 8, 9, 10, 11, 12, 13], [0, 1, 5, 6, 7, 8, 9, 10, 11, 12, 13, 14], [0, 1, 2, 3, 4, 5, 6, 7, 8, 9, 10, 11, 12, 13, 14, 15], [0, 1, 2, 3, 4, 5, 6, 7, 8, 9, 10, 11, 12, 13, 14, 15, 16]] [.one (.mov 37 (.r 0)),
      .one (.mov 38 (.r 9)),
      .one (.mov 39 (.r 0)),
      .one (.mov 40 (.r 9)),
      .one (.bin 41 .sub (.r 40) (.c (.int .i64 (1)))),
      .one (.mov 42 (.r 0)),
      .one (.mov 43 (.r 9)),
      .one (.bin 44 .sub (.r 43) (.c (.int .i64 (1)))),
      .one (.idx 45 (.r 42) (.r 44) 6),
      .one (.load 46 (.r 45) 6 true),
      .one (.mov 47 (.r 0)),
      .one (.mov 48 (.r 9)),
      .one (.idx 49 (.r 47) (.r 48) 6),
      .one (.load 50 (.r 49) 6 true),
      .one (.idx 51 (.r 37) (.r 38) 6),
      .one (.store (.r 51) (.r 46) 6),
      .one (.idx 52 (.r 39) (.r 41) 6),
      .one (.store (.r 52) (.r 50) 6)]))
             /- R5 -/ (.ops [.it (.one (.mov 35 (.r 9))),
      .it (.one (.bin 36 .sub (.r 35) (.c (.int .i64 (1))))),
      .it (.one (.mov 9 (.r 36)))]))))))))
       /- R2 -/ (.ops [.it (.one (.mov 15 (.r 8))),
      .it (.one (.bin 16 .add (.r 15) (.c (.int .i64 (1))))),
      .it (.one (.mov 8 (.r 16)))])))))))
theorem A61_ok : okFun Try.prog 61 53 1 A61 [] [] = true := by kernel_rfl
/-- slices.symMergeCmpFunc[dyehouse/api.Seg] -/
def A62 : ACode :=
  (.seq
   (.seq
    /- R0 -/ (.ops [.it (.one (.mov 25 (.r 2))),
      .it (.one (.mov 26 (.r 1))),
      .it (.one (.bin 27 .sub (.r 25) (.r 26))),
      .it (.one (.bin 28 .eql (.r 27) (.c (.int .i64 (1)))))])
    (.cond (.r 28)
     (.seq
      /- R1 -/ (.ops [.it (.one (.mov 29 (.r 2))),
      .it (.one (.mov 10 (.r 29)))])
      (.seq
       /- R2 -/ (.ops [.it (.one (.mov 30 (.r 3))),
      .it (.one (.mov 11 (.r 30)))])
       (.seq
        (.block 0
         (.loop (.pre (.mv [0, 1, 4, 10, 11] [(0, 0)])
          (.seq
           (.seq
            /- R3 -/ (.ops [.it (.one (.mov 31 (.r 10))),
      .it (.one (.mov 32 (.r 11))),
      .it (.one (.bin 33 .lss (.r 31) (.r 32)))])
            (.cond (.r 33) .skip (.exit 0)))
           (.block 1
            (.seq
             /- R4 -/ (.ops [.it (.one (.mov 34 (.r 10))),
      .it (.one (.mov 35 (.r 11))),
      .it (.one (.bin 36 .add (.r 34) (.r 35))),
      .it (.one (.conv 37 .u64 (.r 36))),
      .it (.one (.bin 38 .shr (.r 37) (.c (.int .u64 (1))))),
      .it (.one (.conv 39 .i64 (.r 38))),
      .it (.one (.mov 12 (.r 39)))])
             (.seq
              /- R5 -/ (.draw [[], [], [], [1, 2], [1, 2, 3], [], [], [5, 6], [5, 6, 7], [0, 1, 2, 3, 4, 5, 6, 7, 8], [0, 1, 2, 3, 4, 5, 6, 7, 8, 9]] [.one (.mov 40 (.r 4)),
      .one (.mov 41 (.r 0)),
      .one (.mov 42 (.r 12)),
      .one (.idx 43 (.r 41) (.r 42) 6),
      .one (.load 44 (.r 43) 6 true),
      .one (.mov 45 (.r 0)),
      .one (.mov 46 (.r 1)),
      .one (.idx 47 (.r 45) (.r 46) 6),
      .one (.load 48 (.r 47) 6 true),
      .one (.callf (some 49) (.dy (.r 40)) [(.r 44), (.r 48)]),
      .one (.bin 50 .lss (.r 49) (.c (.int .i64 (0))))])
              (.cond (.r 50)
               /- R6 -/ (.ops [.it (.one (.mov 51 (.r 12))),
      .it (.one (.bin 52 .add (.r 51) (.c (.int .i64 (1))))),
      .it (.one (.mov 10 (.r 52)))])
               /- R7 -/ (.ops [.it (.one (.mov 53 (.r 12))),
      .it (.one (.mov 11 (.r 53)))])))))))))
        (.seq
         (.seq
          /- R8 -/ (.ops [.it (.one (.mov 54 (.r 1))),
      .it (.one (.mov 13 (.r 54)))])
          (.block 2
           (.loop (.pre (.mv [0, 10, 13] [(0, 0)])
            (.seq
             (.seq
              /- R9 -/ (.ops [.it (.one (.mov 55 (.r 13))),
      .it (.one (.mov 56 (.r 10))),
      .it (.one (.bin 57 .sub (.r 56) (.c (.int .i64 (1))))),
      .it (.one (.bin 58 .lss (.r 55) (.r 57)))])
              (.cond (.r 58) .skip (.exit 2)))
             (.seq
              (.block 3
               /- R11 -/ (.draw [[], [], [], [], [3], [], [], [6], [5, 6, 7], [5, 6, 7, 8], [], [], [10, 11], [10, 11, 12], [0, 1, 5, 6, 7, 8, 9, 10, 11, 12, 13], [0, 1, 5, 6, 7, 8, 9, 10, 11, 12, 13, 14], [0, 1, 2, 3, 4, 5, 6, 7, 8, 9, 10, 11, 12, 13, 14, 15], [0, 1, 2, 3, 4, 5, 6, 7, 8, 9, 10, 11, 12, 13, 14, 15, 16]] [.one (.mov 61 (.r 0)),
      .one (.mov 62 (.r 13)),
      .one (.mov 63 (.r 0)),
      .one (.mov 64 (.r 13)),
      .one (.bin 65 .add (.r 64) (.c (.int .i64 (1)))),
      .one (.mov 66 (.r 0)),
      .one (.mov 67 (.r 13)),
      .one (.bin 68 .add (.r 67) (.c (.int .i64 (1)))),
      .one (.idx 69 (.r 66) (.r 68) 6),
      .one (.load 70 (.r 69) 6 true),
      .one (.mov 71 (.r 0)),
      .one (.mov 72 (.r 13)),
      .one (.idx 73 (.r 71) (.r 72) 6),
      .one (.load 74 (.r 73) 6 true),
      .one (.idx 75 (.r 61) (.r 62) 6),
      .one (.store (.r 75) (.r 70) 6),
      .one (.idx 76 (.r 63) (.r 65) 6),
      .one (.store (.r 76) (.r 74) 6)]))
              /- R10 -/ (.ops [.it (.one (.mov 59 (.r 13))),
      .it (.one (.bin 60 .add (.r 59) (.c (.int .i64 (1))))),
      .it (.one (.mov 13 (.r 60)))]))))))) .ret)))) .skip))
   (.seq
    (.seq
     /- R12 -/ (.ops [.it (.one (.mov 77 (.r 3))),
      .it (.one (.mov 78 (.r 2))),
      .it (.one (.bin 79 .sub (.r 77) (.r 78))),
      .it (.one (.bin 80 .eql (.r 79) (.c (.int .i64 (1)))))])
     (.cond (.r 80)
      (.seq
       /- R13 -/ (.ops [.it (.one (.mov 81 (.r 1))),
      .it (.one (.mov 14 (.r 81)))])
       (.seq
        /- R14 -/ (.ops [.it (.one (.mov 82 (.r 2))),
      .it (.one (.mov 15 (.r 82)))])
        (.seq
         (.block 4
          (.loop (.pre (.mv [0, 2, 4, 14, 15] [(0, 0)])
           (.seq
            (.seq
             /- R15 -/ (.ops [.it (.one (.mov 83 (.r 14))),
      .it (.one (.mov 84 (.r 15))),
      .it (.one (.bin 85 .lss (.r 83) (.r 84)))])
             (.cond (.r 85) .skip (.exit 4)))
            (.block 5
             (.seq
              /- R16 -/ (.ops [.it (.one (.mov 86 (.r 14))),
      .it (.one (.mov 87 (.r 15))),
      .it (.one (.bin 88 .add (.r 86) (.r 87))),
      .it (.one (.conv 89 .u64 (.r 88))),
      .it (.one (.bin 90 .shr (.r 89) (.c (.int .u64 (1))))),
      .it (.one (.conv 91 .i64 (.r 90))),
      .it (.one (.mov 16 (.r 91)))])
              (.seq
               /- R17 -/ (.draw [[], [], [], [1, 2], [1, 2, 3], [], [], [5, 6], [5, 6, 7], [0, 1, 2, 3, 4, 5, 6, 7, 8], [0, 1, 2, 3, 4, 5, 6, 7, 8, 9], [0, 1, 2, 3, 4, 5, 6, 7, 8, 9, 10]] [.one (.mov 92 (.r 4)),
      .one (.mov 93 (.r 0)),
      .one (.mov 94 (.r 2)),
      .one (.idx 95 (.r 93) (.r 94) 6),
      .one (.load 96 (.r 95) 6 true),
      .one (.mov 97 (.r 0)),
      .one (.mov 98 (.r 16)),
      .one (.idx 99 (.r 97) (.r 98) 6),
      .one (.load 100 (.r 99) 6 true),
      .one (.callf (some 101) (.dy (.r 92)) [(.r 96), (.r 100)]),
      .one (.bin 102 .lss (.r 101) (.c (.int .i64 (0)))),
      .one (.un 103 .not (.r 102))])
               (.cond (.r 103)
                /- R18 -/ (.ops [.it (.one (.mov 104 (.r 16))),
      .it (.one (.bin 105 .add (.r 104) (.c (.int .i64 (1))))),
      .it (.one (.mov 14 (.r 105)))])
                /- R19 -/ (.ops [.it (.one (.mov 106 (.r 16))),
      .it (.one (.mov 15 (.r 106)))])))))))))
         (.seq
          (.seq
           /- R20 -/ (.ops [.it (.one (.mov 107 (.r 2))),
      .it (.one (.mov 17 (.r 107)))])
           (.block 6
            (.loop (.pre (.mv [0, 14, 17] [(0, 0)])
             (.seq
              (.seq
               /- R21 -/ (.ops [.it (.one (.mov 108 (.r 17))),
      .it (.one (.mov 109 (.r 14))),
      .it (.one (.bin 110 .gtr (.r 108) (.r 109)))])
               (.cond (.r 110) .skip (.exit 6)))
              (.seq
               (.block 7
                /- R23 -/ (.draw [[], [], [], [], [3], [], [], [6], [5, 6, 7], [5, 6, 7, 8], [], [], [10, 11], [10, 11, 12], [0, 1, 5, 6, 7, 8, 9, 10, 11, 12, 13], [0, 1, 5, 6, 7, 8, 9, 10, 11, 12, 13, 14], [0, 1, 2, 3, 4, 5, 6, 7, 8, 9, 10, 11, 12, 13, 14, 15], [0, 1, 2, 3, 4, 5, 6, 7, 8, 9, 10, 11, 12, 13, 14, 15, 16]] [.one (.mov 113 (.r 0)),
      .one (.mov 114 (.r 17)),
      .one (.mov 115 (.r 0)),
      .one (.mov 116 (.r 17)),
      .one (.bin 117 .sub (.r 116) (.c (.int .i64 (1)))),
      .one (.mov 118 (.r 0)),
      .one (.mov 119 (.r 17)),
      .one (.bin 120 .sub (.r 119) (.c (.int .i64 (1)))),
      .one (.idx 121 (.r 118) (.r 120) 6),
      .one (.load 122 (.r 121) 6 true),
      .one (.mov 123 (.r 0)),
      .one (.mov 124 (.r 17)),
      .one (.idx 125 (.r 123) (.r 124) 6),
      .one (.load 126 (.r 125) 6 true),
      .one (.idx 127 (.r 113) (.r 114) 6),
      .one (.store (.r 127) (.r 122) 6),
      .one (.idx 128 (.r 115) (.r 117) 6),
      .one (.store (.r 128) (.r 126) 6)]))
               /- R22 -/ (.ops [.it (.one (.mov 111 (.r 17))),
      .it (.one (.bin 112 .sub (.r 111) (.c (.int .i64 (1))))),
      .it (.one (.mov 17 (.r 112)))]))))))) .ret)))) .skip))
    (.seq
     /- R24 -/ (.ops [.it (.one (.mov 129 (.r 1))),
      .it (.one (.mov 130 (.r 3))),
      .it (.one (.bin 131 .add (.r 129) (.r 130))),
      .it (.one (.conv 132 .u64 (.r 131))),
      .it (.one (.bin 133 .shr (.r 132) (.c (.int .u64 (1))))),
      .it (.one (.conv 134 .i64 (.r 133))),
      .it (.one (.mov 18 (.r 134)))])
     (.seq
      /- R25 -/ (.ops [.it (.one (.mov 135 (.r 18))),
      .it (.one (.mov 136 (.r 2))),
      .it (.one (.bin 137 .add (.r 135) (.r 136))),
      .it (.one (.mov 19 (.r 137)))])
      (.seq
       /- R26 -/ (.ops [.it (.one (.mov 20 (.c (.int .i64 (0))))),
      .it (.one (.mov 21 (.c (.int .i64 (0)))))])
       (.seq
        (.seq
         /- R27 -/ (.ops [.it (.one (.mov 138 (.r 2))),
      .it (.one (.mov 139 (.r 18))),
      .it (.one (.bin 140 .gtr (.r 138) (.r 139)))])
         (.cond (.r 140)
          (.seq
           /- R28 -/ (.ops [.it (.one (.mov 141 (.r 19))),
      .it (.one (.mov 142 (.r 3))),
      .it (.one (.bin 143 .sub (.r 141) (.r 142))),
      .it (.one (.mov 20 (.r 143)))])
           /- R29 -/ (.ops [.it (.one (.mov 144 (.r 18))),
      .it (.one (.mov 21 (.r 144)))]))
          (.seq
           /- R30 -/ (.ops [.it (.one (.mov 145 (.r 1))),
      .it (.one (.mov 20 (.r 145)))])
           /- R31 -/ (.ops [.it (.one (.mov 146 (.r 2))),
      .it (.one (.mov 21 (.r 146)))]))))
        (.seq
         /- R32 -/ (.ops [.it (.one (.mov 147 (.r 19))),
      .it (.one (.bin 148 .sub (.r 147) (.c (.int .i64 (1))))),
      .it (.one (.mov 22 (.r 148)))])
         (.seq
          (.block 8
           (.loop (.pre (.mv [0, 1, 2, 3, 4, 18, 19, 20, 21, 22] [(0, 0)])
            (.seq
             (.seq
              /- R33 -/ (.ops [.it (.one (.mov 149 (.r 20))),
      .it (.one (.mov 150 (.r 21))),
      .it (.one (.bin 151 .lss (.r 149) (.r 150)))])
              (.cond (.r 151) .skip (.exit 8)))
             (.block 9
              (.seq
               /- R34 -/ (.ops [.it (.one (.mov 152 (.r 20))),
      .it (.one (.mov 153 (.r 21))),
      .it (.one (.bin 154 .add (.r 152) (.r 153))),
      .it (.one (.conv 155 .u64 (.r 154))),
      .it (.one (.bin 156 .shr (.r 155) (.c (.int .u64 (1))))),
      .it (.one (.conv 157 .i64 (.r 156))),
      .it (.one (.mov 23 (.r 157)))])
               (.seq
                /- R35 -/ (.draw [[], [], [], [], [2, 3], [1, 2, 3, 4], [1, 2, 3, 4, 5], [], [], [7, 8], [7, 8, 9], [0, 1, 2, 3, 4, 5, 6, 7, 8, 9, 10], [0, 1, 2, 3, 4, 5, 6, 7, 8, 9, 10, 11], [0, 1, 2, 3, 4, 5, 6, 7, 8, 9, 10, 11, 12]] [.one (.mov 158 (.r 4)),
      .one (.mov 159 (.r 0)),
      .one (.mov 160 (.r 22)),
      .one (.mov 161 (.r 23)),
      .one (.bin 162 .sub (.r 160) (.r 161)),
      .one (.idx 163 (.r 159) (.r 162) 6),
      .one (.load 164 (.r 163) 6 true),
      .one (.mov 165 (.r 0)),
      .one (.mov 166 (.r 23)),
      .one (.idx 167 (.r 165) (.r 166) 6),
      .one (.load 168 (.r 167) 6 true),
      .one (.callf (some 169) (.dy (.r 158)) [(.r 164), (.r 168)]),
      .one (.bin 170 .lss (.r 169) (.c (.int .i64 (0)))),
      .one (.un 171 .not (.r 170))])
                (.cond (.r 171)
                 /- R36 -/ (.ops [.it (.one (.mov 172 (.r 23))),
      .it (.one (.bin 173 .add (.r 172) (.c (.int .i64 (1))))),
      .it (.one (.mov 20 (.r 173)))])
                 /- R37 -/ (.ops [.it (.one (.mov 174 (.r 23))),
      .it (.one (.mov 21 (.r 174)))])))))))))
          (.seq
           /- R38 -/ (.ops [.it (.one (.mov 175 (.r 19))),
      .it (.one (.mov 176 (.r 20))),
      .it (.one (.bin 177 .sub (.r 175) (.r 176))),
      .it (.one (.mov 24 (.r 177)))])
           (.seq
            (.seq
             /- R39 -/ (.ops [.it (.one (.mov 178 (.r 20))),
      .it (.one (.mov 179 (.r 2))),
      .it (.one (.bin 180 .lss (.r 178) (.r 179))),
      .it (.one (.mov 181 (.r 180))),
      .it (.grp 181 true [.mov 182 (.r 2), .mov 183 (.r 24), .bin 184 .lss (.r 182) (.r 183)]),
      .it (.one (.pick 185 (.r 181) (.r 184) (.c (.bool false))))])
             (.cond (.r 185)
              /- R40 -/ (.ops [.it (.one (.mov 186 (.r 0))),
      .it (.one (.mov 187 (.r 20))),
      .it (.one (.mov 188 (.r 2))),
      .it (.one (.mov 189 (.r 24))),
      .it (.one (.mov 190 (.r 4))),
      .call (some 191) (.st 63) [(.r 186), (.r 187), (.r 188), (.r 189), (.r 190)] [0] []]) .skip))
            (.seq
             (.seq
              /- R41 -/ (.ops [.it (.one (.mov 192 (.r 1))),
      .it (.one (.mov 193 (.r 20))),
      .it (.one (.bin 194 .lss (.r 192) (.r 193))),
      .it (.one (.mov 195 (.r 194))),
      .it (.grp 195 true [.mov 196 (.r 20), .mov 197 (.r 18), .bin 198 .lss (.r 196) (.r 197)]),
      .it (.one (.pick 199 (.r 195) (.r 198) (.c (.bool false))))])
              (.cond (.r 199)
               /- R42 -/ (.ops [.it (.one (.mov 200 (.r 0))),
      .it (.one (.mov 201 (.r 1))),
      .it (.one (.mov 202 (.r 20))),
      .it (.one (.mov 203 (.r 18))),
      .it (.one (.mov 204 (.r 4))),
      .call (some 205) (.st 62) [(.r 200), (.r 201), (.r 202), (.r 203), (.r 204)] [0] []]) .skip))
             (.seq
              /- R43 -/ (.ops [.it (.one (.mov 206 (.r 18))),
      .it (.one (.mov 207 (.r 24))),
      .it (.one (.bin 208 .lss (.r 206) (.r 207))),
      .it (.one (.mov 209 (.r 208))),
      .it (.grp 209 true [.mov 210 (.r 24), .mov 211 (.r 3), .bin 212 .lss (.r 210) (.r 211)]),
      .it (.one (.pick 213 (.r 209) (.r 212) (.c (.bool false))))])
              (.cond (.r 213)
               /- R44 -/ (.ops [.it (.one (.mov 214 (.r 0))),
      .it (.one (.mov 215 (.r 18))),
      .it (.one (.mov 216 (.r 24))),
      .it (.one (.mov 217 (.r 3))),
      .it (.one (.mov 218 (.r 4))),
      .call (some 219) (.st 62) [(.r 214), (.r 215), (.r 216), (.r 217), (.r 218)] [0] []]) .skip)))))))))))))
theorem A62_ok : okFun Try.prog 62 220 1 A62 [] [] = true := by kernel_rfl
/-- slices.rotateCmpFunc[dyehouse/api.Seg] -/
def A63 : ACode :=
  (.seq
   /- R0 -/ (.ops [.it (.one (.mov 12 (.r 2))),
      .it (.one (.mov 13 (.r 1))),
      .it (.one (.bin 14 .sub (.r 12) (.r 13))),
      .it (.one (.mov 10 (.r 14)))])
   (.seq
    /- R1 -/ (.ops [.it (.one (.mov 15 (.r 3))),
      .it (.one (.mov 16 (.r 2))),
      .it (.one (.bin 17 .sub (.r 15) (.r 16))),
      .it (.one (.mov 11 (.r 17)))])
    (.seq
     (.block 0
      (.loop (.pre (.mv [0, 2, 4, 10, 11] [(0, 0)])
       (.seq
        (.seq
         /- R2 -/ (.ops [.it (.one (.mov 18 (.r 10))),
      .it (.one (.mov 19 (.r 11))),
      .it (.one (.bin 20 .neq (.r 18) (.r 19)))])
         (.cond (.r 20) .skip (.exit 0)))
        (.block 1
         (.seq
          /- R3 -/ (.ops [.it (.one (.mov 21 (.r 10))),
      .it (.one (.mov 22 (.r 11))),
      .it (.one (.bin 23 .gtr (.r 21) (.r 22)))])
          (.cond (.r 23)
           (.seq
            /- R4 -/ (.ops [.it (.one (.mov 24 (.r 0))),
      .it (.one (.mov 25 (.r 2))),
      .it (.one (.mov 26 (.r 10))),
      .it (.one (.bin 27 .sub (.r 25) (.r 26))),
      .it (.one (.mov 28 (.r 2))),
      .it (.one (.mov 29 (.r 11))),
      .it (.one (.mov 30 (.r 4))),
      .call (some 31) (.st 64) [(.r 24), (.r 27), (.r 28), (.r 29), (.r 30)] [0] []])
            /- R5 -/ (.ops [.it (.one (.mov 32 (.r 10))),
      .it (.one (.mov 33 (.r 11))),
      .it (.one (.bin 34 .sub (.r 32) (.r 33))),
      .it (.one (.mov 10 (.r 34)))]))
           (.seq
            /- R6 -/ (.ops [.it (.one (.mov 35 (.r 0))),
      .it (.one (.mov 36 (.r 2))),
      .it (.one (.mov 37 (.r 10))),
      .it (.one (.bin 38 .sub (.r 36) (.r 37))),
      .it (.one (.mov 39 (.r 2))),
      .it (.one (.mov 40 (.r 11))),
      .it (.one (.bin 41 .add (.r 39) (.r 40))),
      .it (.one (.mov 42 (.r 10))),
      .it (.one (.bin 43 .sub (.r 41) (.r 42))),
      .it (.one (.mov 44 (.r 10))),
      .it (.one (.mov 45 (.r 4))),
      .call (some 46) (.st 64) [(.r 35), (.r 38), (.r 43), (.r 44), (.r 45)] [0] []])
            /- R7 -/ (.ops [.it (.one (.mov 47 (.r 11))),
      .it (.one (.mov 48 (.r 10))),
      .it (.one (.bin 49 .sub (.r 47) (.r 48))),
      .it (.one (.mov 11 (.r 49)))])))))))))
     /- R8 -/ (.ops [.it (.one (.mov 50 (.r 0))),
      .it (.one (.mov 51 (.r 2))),
      .it (.one (.mov 52 (.r 10))),
      .it (.one (.bin 53 .sub (.r 51) (.r 52))),
      .it (.one (.mov 54 (.r 2))),
      .it (.one (.mov 55 (.r 10))),
      .it (.one (.mov 56 (.r 4))),
      .call (some 57) (.st 64) [(.r 50), (.r 53), (.r 54), (.r 55), (.r 56)] [0] []]))))
theorem A63_ok : okFun Try.prog 63 58 1 A63 [] [] = true := by kernel_rfl
/-- slices.swapRangeCmpFunc[dyehouse/api.Seg] -/
def A64 : ACode :=
  (.seq
   /- R0 -/ (.ops [.it (.one (.mov 10 (.c (.int .i64 (0)))))])
   (.block 0
    (.loop (.pre (.mv [0, 1, 2, 3, 10] [(0, 0)])
     (.seq
      (.seq
       /- R1 -/ (.ops [.it (.one (.mov 11 (.r 10))),
      .it (.one (.mov 12 (.r 3))),
      .it (.one (.bin 13 .lss (.r 11) (.r 12)))])
       (.cond (.r 13) .skip (.exit 0)))
      (.seq
       (.block 1
        /- R3 -/ (.draw [[], [], [], [1, 2], [], [], [], [5, 6], [], [], [], [9, 10], [8, 9, 10, 11], [8, 9, 10, 11, 12], [], [], [], [15, 16], [14, 15, 16, 17], [14, 15, 16, 17, 18], [0, 1, 2, 3, 8, 9, 10, 11, 12, 13, 14, 15, 16, 17, 18, 19], [0, 1, 2, 3, 8, 9, 10, 11, 12, 13, 14, 15, 16, 17, 18, 19, 20], [0, 1, 2, 3, 4, 5, 6, 7, 8, 9, 10, 11, 12, 13, 14, 15, 16, 17, 18, 19, 20, 21], [0, 1, 2, 3, 4, 5, 6, 7, 8, 9, 10, 11, 12, 13, 14, 15, 16, 17, 18, 19, 20, 21, 22]] [.one (.mov 16 (.r 0)),
      .one (.mov 17 (.r 1)),
      .one (.mov 18 (.r 10)),
      .one (.bin 19 .add (.r 17) (.r 18)),
      .one (.mov 20 (.r 0)),
      .one (.mov 21 (.r 2)),
      .one (.mov 22 (.r 10)),
      .one (.bin 23 .add (.r 21) (.r 22)),
      .one (.mov 24 (.r 0)),
      .one (.mov 25 (.r 2)),
      .one (.mov 26 (.r 10)),
      .one (.bin 27 .add (.r 25) (.r 26)),
      .one (.idx 28 (.r 24) (.r 27) 6),
      .one (.load 29 (.r 28) 6 true),
      .one (.mov 30 (.r 0)),
      .one (.mov 31 (.r 1)),
      .one (.mov 32 (.r 10)),
      .one (.bin 33 .add (.r 31) (.r 32)),
      .one (.idx 34 (.r 30) (.r 33) 6),
      .one (.load 35 (.r 34) 6 true),
      .one (.idx 36 (.r 16) (.r 19) 6),
      .one (.store (.r 36) (.r 29) 6),
      .one (.idx 37 (.r 20) (.r 23) 6),
      .one (.store (.r 37) (.r 35) 6)]))
       /- R2 -/ (.ops [.it (.one (.mov 14 (.r 10))),
      .it (.one (.bin 15 .add (.r 14) (.c (.int .i64 (1))))),
      .it (.one (.mov 10 (.r 15)))])))))))
theorem A64_ok : okFun Try.prog 64 38 1 A64 [] [] = true := by kernel_rfl
end Go.Proofs.Ytcpjfjdlifjbhaa.X
