import Derived.Test.YtapfnhhedieebaaANC
import Derived.Test.YtapfnhhedieebaaProg
import Derived.KernelRfl
namespace Go.Proofs.Ytapfnhhedieebaa.X
open Go Go.AM Go.Proofs
/-- dyehouse/dyehouselaw29.MovesOrder -/
def A3 : ACode :=
  (.seq
   /- R0 -/ (.ops [.it (.one (.mov 2 (.c (.bool false))))])
   (.seq
    (.seq
     /- R1 -/ (.ops [.it (.one (.mov 4 (.r 0))),
      .it (.one (.callf (some 5) (.st 6) [(.r 4)])),
      .it (.one (.un 6 .not (.r 5)))])
     (.cond (.r 6)
      (.seq
       /- R2 -/ (.ops [.it (.one (.callf (some 7) (.st 7) [])),
      .it (.one (.mov 2 (.r 7)))]) .ret) .skip))
    (.seq
     (.seq
      /- R3 -/ (.ops [.it (.one (.mov 3 (.c (.int .i64 (0)))))])
      (.block 0
       (.loop (.pre (.mv [0, 3] [])
        (.seq
         (.seq
          /- R4 -/ (.ops [.it (.one (.mov 8 (.r 3))),
      .it (.one (.mov 9 (.r 0))),
      .it (.one (.len 10 (.r 9))),
      .it (.one (.bin 11 .lss (.r 8) (.r 10)))])
          (.cond (.r 11) .skip (.exit 0)))
         (.seq
          (.block 1
           (.seq
            /- R6 -/ (.draw [[], [], [0, 1], [0, 1, 2], [0, 1, 2, 3], [], [], [5, 6], [5, 6, 7], [0, 1, 2, 3, 4, 5, 6, 7, 8], [0, 1, 2, 3, 4, 5, 6, 7, 8, 9], [0, 1, 2, 3, 4, 5, 6, 7, 8, 9, 10]] [.one (.mov 14 (.r 0)),
      .one (.mov 15 (.r 3)),
      .one (.idx 16 (.r 14) (.r 15) 7),
      .one (.load 17 (.r 16) 7 true),
      .one (.callf (some 18) (.st 9) [(.r 17)]),
      .one (.mov 19 (.r 0)),
      .one (.mov 20 (.r 3)),
      .one (.idx 21 (.r 19) (.r 20) 7),
      .one (.load 22 (.r 21) 7 true),
      .one (.callf (some 23) (.st 10) [(.r 22)]),
      .one (.callf (some 24) (.st 8) [(.r 18), (.r 23)]),
      .one (.un 25 .not (.r 24))])
            (.cond (.r 25)
             (.seq
              /- R7 -/ (.ops [.it (.one (.mov 2 (.c (.bool false))))]) .ret) .skip)))
          /- R5 -/ (.ops [.it (.one (.mov 12 (.r 3))),
      .it (.one (.bin 13 .add (.r 12) (.c (.int .i64 (1))))),
      .it (.one (.mov 3 (.r 13)))])))))))
     (.seq
      /- R8 -/ (.ops [.it (.one (.mov 26 (.r 0))),
      .it (.one (.callf (some 27) (.st 12) [(.r 26)])),
      .it (.one (.mov 28 (.r 0))),
      .it (.one (.callf (some 29) (.st 13) [(.r 28)])),
      .it (.one (.callf (some 30) (.st 11) [(.r 27), (.r 29)])),
      .it (.one (.mov 31 (.r 30))),
      .it (.grp 31 true [.callf (some 32) (.st 7) []]),
      .it (.one (.pick 33 (.r 31) (.r 32) (.c (.bool false)))),
      .it (.one (.mov 2 (.r 33)))]) .ret))))
theorem A3_ok : okFun Try.prog 3 34 0 A3 [.tmp 2] [] = true := by kernel_rfl
/-- dyehouse/dyehouselaw29.MovesMake -/
def A4 : ACode :=
  (.seq
   /- R0 -/ (.ops [.it (.one (.mov 2 (.c (.bool false))))])
   (.seq
    (.seq
     /- R1 -/ (.ops [.it (.one (.mov 12 (.r 0))),
      .it (.one (.callf (some 13) (.st 6) [(.r 12)])),
      .it (.one (.un 14 .not (.r 13)))])
     (.cond (.r 14)
      (.seq
       /- R2 -/ (.ops [.it (.one (.callf (some 15) (.st 7) [])),
      .it (.one (.mov 2 (.r 15)))]) .ret) .skip))
    (.seq
     /- R3 -/ (.ops [.it (.one (.mov 3 (.c (.sl []))))])
     (.seq
      /- R4 -/ (.ops [.it (.one (.nilarr 4 4 3))])
      (.seq
       (.seq
        /- R5 -/ (.ops [.it (.one (.mov 5 (.c (.int .i64 (0)))))])
        (.block 0
         (.loop (.pre (.mv [0, 3, 4, 5] [(4, 4)])
          (.seq
           (.seq
            /- R6 -/ (.ops [.it (.one (.mov 16 (.r 5))),
      .it (.one (.mov 17 (.r 0))),
      .it (.one (.len 18 (.r 17))),
      .it (.one (.bin 19 .lss (.r 16) (.r 18)))])
            (.cond (.r 19) .skip (.exit 0)))
           (.seq
            (.block 1
             (.seq
              (.seq
               /- R8 -/ (.ops [.it (.one (.mov 6 (.c (.int .i64 (0)))))])
               (.block 2
                (.loop (.pre (.mv [0, 3, 4, 5, 6] [(4, 4)])
                 (.seq
                  (.seq
                   /- R9 -/ (.ops [.it (.one (.mov 22 (.r 6))),
      .it (.one (.mov 23 (.r 5))),
      .it (.one (.bin 24 .lss (.r 22) (.r 23)))])
                   (.cond (.r 24) .skip (.exit 2)))
                  (.seq
                   (.block 3
                    (.seq
                     /- R11 -/ (.draw [[], [], [0, 1], [0, 1, 2], [0, 1, 2, 3], [], [], [5, 6], [5, 6, 7], [5, 6, 7, 8], [0, 1, 2, 3, 4, 5, 6, 7, 8, 9]] [.one (.mov 27 (.r 0)),
      .one (.mov 28 (.r 6)),
      .one (.idx 29 (.r 27) (.r 28) 7),
      .one (.fad 30 (.r 29) 4),
      .one (.load 31 (.r 30) 3 true),
      .one (.mov 32 (.r 0)),
      .one (.mov 33 (.r 5)),
      .one (.idx 34 (.r 32) (.r 33) 7),
      .one (.fad 35 (.r 34) 4),
      .one (.load 36 (.r 35) 3 true),
      .one (.eq 37 false (.strct [.i, .i, .i]) (.r 31) (.r 36))])
                     (.cond (.r 37)
                      (.seq
                       /- R12 -/ (.ops [.it (.one (.callf (some 38) (.st 7) [])),
      .it (.one (.mov 2 (.r 38)))]) .ret) .skip)))
                   /- R10 -/ (.ops [.it (.one (.mov 25 (.r 6))),
      .it (.one (.bin 26 .add (.r 25) (.c (.int .i64 (1))))),
      .it (.one (.mov 6 (.r 26)))])))))))
              /- R13 -/ (.draw [[], [], [], [1, 2], [1, 2, 3], [1, 2, 3, 4], [], [], [6, 7], [6, 7, 8], [6, 7, 8, 9], [1, 2, 3, 4, 5, 6, 7, 8, 9, 10], [0, 1, 2, 3, 4, 5, 6, 7, 8, 9, 10, 11], [0, 1, 2, 3, 4, 5, 6, 7, 8, 9, 10, 11, 12]] [.one (.mov 39 (.r 4)),
      .one (.mov 40 (.r 0)),
      .one (.mov 41 (.r 5)),
      .one (.idx 42 (.r 40) (.r 41) 7),
      .one (.fad 43 (.r 42) 1),
      .one (.load 44 (.r 43) 3 true),
      .one (.mov 45 (.r 0)),
      .one (.mov 46 (.r 5)),
      .one (.idx 47 (.r 45) (.r 46) 7),
      .one (.fad 48 (.r 47) 4),
      .one (.load 49 (.r 48) 3 true),
      .one (.bslp 50 3 [(.r 44), (.r 49)]),
      .one (.appd 51 (.r 39) (.r 50) 3 24),
      .one (.mov 4 (.r 51))])))
            /- R7 -/ (.ops [.it (.one (.mov 20 (.r 5))),
      .it (.one (.bin 21 .add (.r 20) (.c (.int .i64 (1))))),
      .it (.one (.mov 5 (.r 21)))])))))))
       (.seq
        (.seq
         /- R14 -/ (.ops [.it (.one (.mov 7 (.c (.int .i64 (0)))))])
         (.block 4
          (.loop (.pre (.mv [0, 3, 4, 7] [(4, 4)])
           (.seq
            (.seq
             /- R15 -/ (.ops [.it (.one (.mov 52 (.r 7))),
      .it (.one (.mov 53 (.r 4))),
      .it (.one (.len 54 (.r 53))),
      .it (.one (.bin 55 .lss (.r 52) (.r 54)))])
             (.cond (.r 55) .skip (.exit 4)))
            (.seq
             (.block 5
              /- R17 -/ (.ops [.it (.one (.mov 58 (.r 3))),
      .it (.one (.mov 59 (.r 4))),
      .it (.one (.mov 60 (.r 7))),
      .it (.one (.idx 61 (.r 59) (.r 60) 3)),
      .it (.one (.load 62 (.r 61) 3 true)),
      .it (.one (.mov 63 (.r 7))),
      .it (.one (.bin 64 .add (.r 63) (.c (.int .i64 (1))))),
      .it (.one (.callf (some 65) (.st 14) [(.r 58), (.r 62), (.r 64)])),
      .it (.one (.mov 3 (.r 65)))]))
             /- R16 -/ (.ops [.it (.one (.mov 56 (.r 7))),
      .it (.one (.bin 57 .add (.r 56) (.c (.int .i64 (1))))),
      .it (.one (.mov 7 (.r 57)))])))))))
        (.seq
         /- R18 -/ (.ops [.it (.one (.mov 66 (.r 3))),
      .it (.one (.mov 8 (.r 66)))])
         (.seq
          /- R19 -/ (.ops [.it (.one (.mov 67 (.r 0))),
      .it (.one (.callf (some 68) (.st 12) [(.r 67)])),
      .it (.one (.mov 9 (.r 68)))])
          (.seq
           (.seq
            /- R20 -/ (.ops [.it (.one (.mov 10 (.c (.int .i64 (0)))))])
            (.block 6
             (.loop (.pre (.mv [0, 3, 8, 9, 10] [])
              (.seq
               (.seq
                /- R21 -/ (.ops [.it (.one (.mov 69 (.r 10))),
      .it (.one (.mov 70 (.r 9))),
      .it (.one (.len 71 (.r 70))),
      .it (.one (.bin 72 .lss (.r 69) (.r 71)))])
                (.cond (.r 72) .skip (.exit 6)))
               (.seq
                (.block 7
                 /- R23 -/ (.ops [.it (.one (.mov 75 (.r 8))),
      .it (.one (.mov 76 (.r 9))),
      .it (.one (.mov 77 (.r 10))),
      .it (.one (.idx 78 (.r 76) (.r 77) 10)),
      .it (.one (.load 79 (.r 78) 10 true)),
      .it (.one (.callf (some 80) (.st 15) [(.r 75), (.r 79)])),
      .it (.one (.mov 8 (.r 80)))]))
                /- R22 -/ (.ops [.it (.one (.mov 73 (.r 10))),
      .it (.one (.bin 74 .add (.r 73) (.c (.int .i64 (1))))),
      .it (.one (.mov 10 (.r 74)))])))))))
           (.seq
            (.seq
             /- R24 -/ (.ops [.it (.one (.mov 11 (.c (.int .i64 (0)))))])
             (.block 8
              (.loop (.pre (.mv [0, 3, 8, 9, 11] [])
               (.seq
                (.seq
                 /- R25 -/ (.ops [.it (.one (.mov 81 (.r 11))),
      .it (.one (.mov 82 (.r 0))),
      .it (.one (.len 83 (.r 82))),
      .it (.one (.bin 84 .lss (.r 81) (.r 83)))])
                 (.cond (.r 84) .skip (.exit 8)))
                (.seq
                 (.block 9
                  (.seq
                   /- R27 -/ (.draw [[], [], [], [1, 2], [1, 2, 3], [1, 2, 3, 4], [0, 1, 2, 3, 4, 5], [], [], [], [8, 9], [8, 9, 10], [8, 9, 10, 11], [0, 1, 2, 3, 4, 5, 6, 7, 8, 9, 10, 11, 12], [0, 1, 2, 3, 4, 5, 6, 7, 8, 9, 10, 11, 12, 13]] [.one (.mov 87 (.r 8)),
      .one (.mov 88 (.r 0)),
      .one (.mov 89 (.r 11)),
      .one (.idx 90 (.r 88) (.r 89) 7),
      .one (.fad 91 (.r 90) 4),
      .one (.load 92 (.r 91) 3 true),
      .one (.callf (some 93) (.st 16) [(.r 87), (.r 92)]),
      .one (.mov 94 (.r 3)),
      .one (.mov 95 (.r 0)),
      .one (.mov 96 (.r 11)),
      .one (.idx 97 (.r 95) (.r 96) 7),
      .one (.fad 98 (.r 97) 1),
      .one (.load 99 (.r 98) 3 true),
      .one (.callf (some 100) (.st 16) [(.r 94), (.r 99)]),
      .one (.bin 101 .neq (.r 93) (.r 100))])
                   (.cond (.r 101)
                    (.seq
                     /- R28 -/ (.ops [.it (.one (.mov 2 (.c (.bool false))))]) .ret) .skip)))
                 /- R26 -/ (.ops [.it (.one (.mov 85 (.r 11))),
      .it (.one (.bin 86 .add (.r 85) (.c (.int .i64 (1))))),
      .it (.one (.mov 11 (.r 86)))])))))))
            (.seq
             /- R29 -/ (.ops [.it (.one (.mov 102 (.r 9))),
      .it (.one (.len 103 (.r 102))),
      .it (.one (.mov 104 (.r 0))),
      .it (.one (.len 105 (.r 104))),
      .it (.one (.bin 106 .leq (.r 103) (.r 105))),
      .it (.one (.mov 107 (.r 106))),
      .it (.grp 107 true [.mov 108 (.r 8), .len 109 (.r 108), .mov 110 (.r 3), .len 111 (.r 110), .bin 112 .eql (.r 109) (.r 111)]),
      .it (.one (.pick 113 (.r 107) (.r 112) (.c (.bool false)))),
      .it (.one (.mov 114 (.r 113))),
      .it (.grp 114 true [.callf (some 115) (.st 7) []]),
      .it (.one (.pick 116 (.r 114) (.r 115) (.c (.bool false)))),
      .it (.one (.mov 2 (.r 116)))]) .ret)))))))))))
theorem A4_ok : okFun Try.prog 4 117 0 A4 [.tmp 2] [] = true := by kernel_rfl
/-- dyehouse/dyehouselaw29.MovesTags -/
def A5 : ACode :=
  (.seq
   /- R0 -/ (.ops [.it (.one (.mov 2 (.c (.bool false))))])
   (.seq
    (.seq
     /- R1 -/ (.ops [.it (.one (.mov 14 (.r 0))),
      .it (.one (.callf (some 15) (.st 6) [(.r 14)])),
      .it (.one (.un 16 .not (.r 15)))])
     (.cond (.r 16)
      (.seq
       /- R2 -/ (.ops [.it (.one (.callf (some 17) (.st 7) [])),
      .it (.one (.mov 2 (.r 17)))]) .ret) .skip))
    (.seq
     (.seq
      /- R3 -/ (.ops [.it (.one (.mov 3 (.c (.int .i64 (0)))))])
      (.block 0
       (.loop (.pre (.mv [0, 3] [])
        (.seq
         (.seq
          /- R4 -/ (.ops [.it (.one (.mov 18 (.r 3))),
      .it (.one (.mov 19 (.r 0))),
      .it (.one (.len 20 (.r 19))),
      .it (.one (.bin 21 .lss (.r 18) (.r 20)))])
          (.cond (.r 21) .skip (.exit 0)))
         (.seq
          (.block 1
           (.seq
            /- R6 -/ (.ops [.it (.one (.mov 4 (.c (.int .i64 (0)))))])
            (.block 2
             (.loop (.pre (.mv [0, 3, 4] [])
              (.seq
               (.seq
                /- R7 -/ (.ops [.it (.one (.mov 24 (.r 4))),
      .it (.one (.mov 25 (.r 3))),
      .it (.one (.bin 26 .lss (.r 24) (.r 25)))])
                (.cond (.r 26) .skip (.exit 2)))
               (.seq
                (.block 3
                 (.seq
                  /- R9 -/ (.draw [[], [], [0, 1], [0, 1, 2], [0, 1, 2, 3], [], [], [5, 6], [5, 6, 7], [5, 6, 7, 8], [0, 1, 2, 3, 4, 5, 6, 7, 8, 9], [0, 1, 2, 3, 4, 5, 6, 7, 8, 9, 10], [0, 1, 2, 3, 4, 5, 6, 7, 8, 9, 10, 11], [0, 1, 2, 3, 4, 5, 6, 7, 8, 9, 10, 11], [0, 1, 2, 3, 4, 5, 6, 7, 8, 9, 10, 11, 12, 13], [0, 1, 2, 3, 4, 5, 6, 7, 8, 9, 10, 11, 12, 13, 14], [0, 1, 2, 3, 4, 5, 6, 7, 8, 9, 10, 11, 12, 13, 14, 15], [0, 1, 2, 3, 4, 5, 6, 7, 8, 9, 10, 11], [0, 1, 2, 3, 4, 5, 6, 7, 8, 9, 10, 11], [0, 1, 2, 3, 4, 5, 6, 7, 8, 9, 10, 11, 17, 18], [0, 1, 2, 3, 4, 5, 6, 7, 8, 9, 10, 11, 17, 18, 19], [0, 1, 2, 3, 4, 5, 6, 7, 8, 9, 10, 11, 17, 18, 19, 20], [0, 1, 2, 3, 4, 5, 6, 7, 8, 9, 10, 11, 12, 13, 14, 15, 16, 17, 18, 19, 20, 21], [0, 1, 2, 3, 4, 5, 6, 7, 8, 9, 10, 11, 12, 13, 14, 15, 16, 17, 18, 19, 20, 21, 22]] [.one (.mov 29 (.r 0)),
      .one (.mov 30 (.r 4)),
      .one (.idx 31 (.r 29) (.r 30) 7),
      .one (.fad 32 (.r 31) 0),
      .one (.load 33 (.r 32) 1 false),
      .one (.mov 34 (.r 0)),
      .one (.mov 35 (.r 3)),
      .one (.idx 36 (.r 34) (.r 35) 7),
      .one (.fad 37 (.r 36) 0),
      .one (.load 38 (.r 37) 1 false),
      .one (.bin 39 .eql (.r 33) (.r 38)),
      .one (.mov 40 (.r 39)),
      .grp 40 false [.mov 41 (.r 0), .mov 42 (.r 4), .idx 43 (.r 41) (.r 42) 7, .fad 44 (.r 43) 1, .load 45 (.r 44) 3 true, .mov 46 (.r 0), .mov 47 (.r 3), .idx 48 (.r 46) (.r 47) 7, .fad 49 (.r 48) 1, .load 50 (.r 49) 3 true, .eq 51 false (.strct [.i, .i, .i]) (.r 45) (.r 50)],
      .one (.pick 52 (.r 40) (.c (.bool true)) (.r 51))])
                  (.cond (.r 52)
                   (.seq
                    /- R10 -/ (.ops [.it (.one (.callf (some 53) (.st 7) [])),
      .it (.one (.mov 2 (.r 53)))]) .ret) .skip)))
                /- R8 -/ (.ops [.it (.one (.mov 27 (.r 4))),
      .it (.one (.bin 28 .add (.r 27) (.c (.int .i64 (1))))),
      .it (.one (.mov 4 (.r 28)))]))))))))
          /- R5 -/ (.ops [.it (.one (.mov 22 (.r 3))),
      .it (.one (.bin 23 .add (.r 22) (.c (.int .i64 (1))))),
      .it (.one (.mov 3 (.r 23)))])))))))
     (.seq
      /- R11 -/ (.ops [.it (.one (.mov 54 (.r 0))),
      .it (.one (.callf (some 55) (.st 12) [(.r 54)])),
      .it (.one (.mov 5 (.r 55)))])
      (.seq
       (.seq
        /- R12 -/ (.ops [.it (.one (.mov 6 (.c (.int .i64 (0)))))])
        (.block 4
         (.loop (.pre (.mv [0, 5, 6] [])
          (.seq
           (.seq
            /- R13 -/ (.ops [.it (.one (.mov 56 (.r 6))),
      .it (.one (.mov 57 (.r 0))),
      .it (.one (.len 58 (.r 57))),
      .it (.one (.bin 59 .lss (.r 56) (.r 58)))])
            (.cond (.r 59) .skip (.exit 4)))
           (.seq
            (.block 5
             (.seq
              /- R15 -/ (.ops [.it (.one (.mov 62 (.r 0))),
      .it (.one (.mov 63 (.r 6))),
      .it (.one (.idx 64 (.r 62) (.r 63) 7)),
      .it (.one (.fad 65 (.r 64) 1)),
      .it (.one (.load 66 (.r 65) 3 true)),
      .it (.one (.alloc 7 7 [.int .i64 0, .int .i64 0, .int .i64 0])),
      .it (.one (.store (.r 7) (.r 66) 3))])
              (.seq
               (.seq
                /- R16 -/ (.ops [.it (.one (.mov 8 (.c (.int .i64 (0)))))])
                (.block 6
                 (.loop (.pre (.mv [0, 5, 6, 7, 8] [(7, 7)])
                  (.seq
                   (.seq
                    /- R17 -/ (.ops [.it (.one (.mov 67 (.r 8))),
      .it (.one (.mov 68 (.r 5))),
      .it (.one (.len 69 (.r 68))),
      .it (.one (.bin 70 .lss (.r 67) (.r 69)))])
                    (.cond (.r 70) .skip (.exit 6)))
                   (.seq
                    (.block 7
                     (.seq
                      /- R19 -/ (.draw [[], [], [0, 1], [0, 1, 2], [0, 1, 2, 3], [0, 1, 2, 3, 4], [], [], [6, 7], [6, 7, 8], [6, 7, 8, 9], [0, 1, 2, 3, 4, 5, 6, 7, 8, 9, 10], [0, 1, 2, 3, 4, 5, 6, 7, 8, 9, 10, 11]] [.one (.mov 73 (.r 5)),
      .one (.mov 74 (.r 8)),
      .one (.idx 75 (.r 73) (.r 74) 10),
      .one (.fad 76 (.r 75) 1),
      .one (.load 77 (.r 76) 4 true),
      .one (.bslo 78 78 4 [(.r 77)]),
      .one (.mov 79 (.r 5)),
      .one (.mov 80 (.r 8)),
      .one (.idx 81 (.r 79) (.r 80) 10),
      .one (.fad 82 (.r 81) 5),
      .one (.load 83 (.r 82) 1 false),
      .one (.appd 84 (.r 78) (.r 83) 4 32),
      .one (.mov 9 (.r 84))])
                      (.seq
                       (.seq
                        /- R20 -/ (.ops [.it (.one (.mov 85 (.r 5))),
      .it (.one (.mov 86 (.r 8))),
      .it (.one (.idx 87 (.r 85) (.r 86) 10)),
      .it (.one (.fad 88 (.r 87) 0)),
      .it (.one (.load 89 (.r 88) 1 false)),
      .it (.one (.bin 90 .neq (.r 89) (.c (.int .i64 (27)))))])
                        (.cond (.r 90)
                         /- R21 -/ (.ops [.it (.one (.mov 91 (.r 9))),
      .it (.one (.slc 92 (.r 91) none (some (.c (.int .i64 (1)))) 4)),
      .it (.one (.mov 9 (.r 92)))]) .skip))
                       (.seq
                        /- R22 -/ (.ops [.it (.one (.mov 10 (.c (.int .i64 (0)))))])
                        (.block 8
                         (.loop (.pre (.mv [0, 5, 6, 7, 8, 9, 10] [(7, 7), (78, 78)])
                          (.seq
                           (.seq
                            /- R23 -/ (.ops [.it (.one (.mov 93 (.r 10))),
      .it (.one (.mov 94 (.r 9))),
      .it (.one (.len 95 (.r 94))),
      .it (.one (.bin 96 .lss (.r 93) (.r 95)))])
                            (.cond (.r 96) .skip (.exit 8)))
                           (.seq
                            (.block 9
                             (.seq
                              /- R25 -/ (.draw [[], [], [0, 1], [0, 1, 2], [0, 1, 2, 3], [0, 1, 2, 3, 4], [0, 1, 2, 3, 4, 5], [0, 1, 2, 3, 4, 5, 6], [0, 1, 2, 3, 4, 5, 6], [0, 1, 2, 3, 4, 5, 6, 7, 8], [0, 1, 2, 3, 4, 5, 6, 7, 8, 9], [0, 1, 2, 3, 4, 5, 6, 7, 8, 9, 10], [0, 1, 2, 3, 4, 5, 6], [0, 1, 2, 3, 4, 5, 6], [0, 1, 2, 3, 4, 5, 6, 12, 13], [0, 1, 2, 3, 4, 5, 6, 12, 13, 14], [0, 1, 2, 3, 4, 5, 6, 12, 13, 14, 15], [0, 1, 2, 3, 4, 5, 6, 7, 8, 9, 10, 11, 12, 13, 14, 15, 16], [0, 1, 2, 3, 4, 5, 6, 7, 8, 9, 10, 11, 12, 13, 14, 15, 16, 17]] [.one (.mov 99 (.r 9)),
      .one (.mov 100 (.r 10)),
      .one (.idx 101 (.r 99) (.r 100) 4),
      .one (.fad 102 (.r 101) 0),
      .one (.load 103 (.r 102) 1 false),
      .one (.bin 104 .neq (.r 103) (.c (.int .i64 (0)))),
      .one (.mov 105 (.r 104)),
      .grp 105 true [.mov 106 (.r 9), .mov 107 (.r 10), .idx 108 (.r 106) (.r 107) 4, .fad 109 (.r 108) 3, .load 110 (.r 109) 1 false, .mov 111 (.r 0), .mov 112 (.r 6), .idx 113 (.r 111) (.r 112) 7, .fad 114 (.r 113) 0, .load 115 (.r 114) 1 false, .bin 116 .eql (.r 110) (.r 115)],
      .one (.pick 117 (.r 105) (.r 116) (.c (.bool false)))])
                              (.cond (.r 117)
                               /- R26 -/ (.draw [[], [], [0, 1], [0, 1, 2], [0, 1, 2, 3], [], [], [5, 6], [5, 6, 7], [5, 6, 7, 8], [], [], [10, 11], [10, 11, 12], [10, 11, 12, 13], [0, 1, 2, 3, 4, 5, 6, 7, 8, 9, 10, 11, 12, 13, 14], [0, 1, 2, 3, 4, 5, 6, 7, 8, 9, 10, 11, 12, 13, 14, 15]] [.one (.mov 118 (.r 9)),
      .one (.mov 119 (.r 10)),
      .one (.idx 120 (.r 118) (.r 119) 4),
      .one (.fad 121 (.r 120) 0),
      .one (.load 122 (.r 121) 1 false),
      .one (.mov 123 (.r 9)),
      .one (.mov 124 (.r 10)),
      .one (.idx 125 (.r 123) (.r 124) 4),
      .one (.fad 126 (.r 125) 1),
      .one (.load 127 (.r 126) 1 false),
      .one (.mov 128 (.r 9)),
      .one (.mov 129 (.r 10)),
      .one (.idx 130 (.r 128) (.r 129) 4),
      .one (.fad 131 (.r 130) 2),
      .one (.load 132 (.r 131) 1 false),
      .one (.build 133 [.int .i64 0, .int .i64 0, .int .i64 0] [(0, 1, (.r 122)), (1, 1, (.r 127)), (2, 1, (.r 132))]),
      .one (.store (.r 7) (.r 133) 3)]) .skip)))
                            /- R24 -/ (.ops [.it (.one (.mov 97 (.r 10))),
      .it (.one (.bin 98 .add (.r 97) (.c (.int .i64 (1))))),
      .it (.one (.mov 10 (.r 98)))]))))))))))
                    /- R18 -/ (.ops [.it (.one (.mov 71 (.r 8))),
      .it (.one (.bin 72 .add (.r 71) (.c (.int .i64 (1))))),
      .it (.one (.mov 8 (.r 72)))])))))))
               (.seq
                /- R27 -/ (.draw [[], [], [], [1, 2], [1, 2, 3], [1, 2, 3, 4], [0, 1, 2, 3, 4, 5]] [.one (.load 134 (.r 7) 3 true),
      .one (.mov 135 (.r 0)),
      .one (.mov 136 (.r 6)),
      .one (.idx 137 (.r 135) (.r 136) 7),
      .one (.fad 138 (.r 137) 4),
      .one (.load 139 (.r 138) 3 true),
      .one (.eq 140 true (.strct [.i, .i, .i]) (.r 134) (.r 139))])
                (.cond (.r 140)
                 (.seq
                  /- R28 -/ (.ops [.it (.one (.mov 2 (.c (.bool false))))]) .ret) .skip)))))
            /- R14 -/ (.ops [.it (.one (.mov 60 (.r 6))),
      .it (.one (.bin 61 .add (.r 60) (.c (.int .i64 (1))))),
      .it (.one (.mov 6 (.r 61)))])))))))
       (.seq
        (.seq
         /- R29 -/ (.ops [.it (.one (.mov 11 (.c (.int .i64 (0)))))])
         (.block 10
          (.loop (.pre (.mv [5, 11] [])
           (.seq
            (.seq
             /- R30 -/ (.ops [.it (.one (.mov 141 (.r 11))),
      .it (.one (.mov 142 (.r 5))),
      .it (.one (.len 143 (.r 142))),
      .it (.one (.bin 144 .lss (.r 141) (.r 143)))])
             (.cond (.r 144) .skip (.exit 10)))
            (.seq
             (.block 11
              (.seq
               /- R32 -/ (.draw [[], [], [0, 1], [0, 1, 2], [0, 1, 2, 3], [0, 1, 2, 3, 4], [], [], [6, 7], [6, 7, 8], [6, 7, 8, 9], [0, 1, 2, 3, 4, 5, 6, 7, 8, 9, 10], [0, 1, 2, 3, 4, 5, 6, 7, 8, 9, 10, 11]] [.one (.mov 147 (.r 5)),
      .one (.mov 148 (.r 11)),
      .one (.idx 149 (.r 147) (.r 148) 10),
      .one (.fad 150 (.r 149) 1),
      .one (.load 151 (.r 150) 4 true),
      .one (.bslo 152 152 4 [(.r 151)]),
      .one (.mov 153 (.r 5)),
      .one (.mov 154 (.r 11)),
      .one (.idx 155 (.r 153) (.r 154) 10),
      .one (.fad 156 (.r 155) 5),
      .one (.load 157 (.r 156) 1 false),
      .one (.appd 158 (.r 152) (.r 157) 4 32),
      .one (.mov 12 (.r 158))])
               (.seq
                /- R33 -/ (.ops [.it (.one (.mov 13 (.c (.int .i64 (0)))))])
                (.block 12
                 (.loop (.pre (.mv [5, 11, 12, 13] [(152, 152)])
                  (.seq
                   (.seq
                    /- R34 -/ (.ops [.it (.one (.mov 159 (.r 13))),
      .it (.one (.mov 160 (.r 12))),
      .it (.one (.len 161 (.r 160))),
      .it (.one (.bin 162 .lss (.r 159) (.r 161)))])
                    (.cond (.r 162) .skip (.exit 12)))
                   (.seq
                    (.block 13
                     (.seq
                      /- R36 -/ (.draw [[], [], [0, 1], [0, 1, 2], [0, 1, 2, 3], [], [5], [], [], [7, 8], [7, 8, 9], [7, 8, 9, 10], [0, 1, 2, 3, 4, 5, 6, 7, 8, 9, 10, 11], [0, 1, 2, 3, 4, 5, 6, 7, 8, 9, 10, 11, 12]] [.one (.mov 165 (.r 5)),
      .one (.mov 166 (.r 11)),
      .one (.idx 167 (.r 165) (.r 166) 10),
      .one (.fad 168 (.r 167) 0),
      .one (.load 169 (.r 168) 1 false),
      .one (.mov 170 (.r 13)),
      .one (.bin 171 .sub (.r 170) (.c (.int .i64 (1)))),
      .one (.mov 172 (.r 12)),
      .one (.mov 173 (.r 13)),
      .one (.idx 174 (.r 172) (.r 173) 4),
      .one (.fad 175 (.r 174) 0),
      .one (.load 176 (.r 175) 1 false),
      .one (.callf (some 177) (.st 17) [(.r 169), (.r 171), (.r 176), (.c (.bool true))]),
      .one (.un 178 .not (.r 177))])
                      (.cond (.r 178)
                       (.seq
                        /- R37 -/ (.ops [.it (.one (.mov 2 (.c (.bool false))))]) .ret) .skip)))
                    /- R35 -/ (.ops [.it (.one (.mov 163 (.r 13))),
      .it (.one (.bin 164 .add (.r 163) (.c (.int .i64 (1))))),
      .it (.one (.mov 13 (.r 164)))])))))))))
             /- R31 -/ (.ops [.it (.one (.mov 145 (.r 11))),
      .it (.one (.bin 146 .add (.r 145) (.c (.int .i64 (1))))),
      .it (.one (.mov 11 (.r 146)))])))))))
        (.seq
         /- R38 -/ (.ops [.it (.one (.callf (some 179) (.st 7) [])),
      .it (.one (.mov 2 (.r 179)))]) .ret)))))))
theorem A5_ok : okFun Try.prog 5 180 0 A5 [.tmp 2] [] = true := by kernel_rfl
/-- dyehouse/dyehouselaw29.plain -/
def A6 : ACode :=
  (.seq
   /- R0 -/ (.ops [.it (.one (.mov 2 (.c (.bool false))))])
   (.seq
    (.seq
     /- R1 -/ (.ops [.it (.one (.mov 3 (.c (.int .i64 (0)))))])
     (.block 0
      (.loop (.pre (.mv [0, 3] [])
       (.seq
        (.seq
         /- R2 -/ (.ops [.it (.one (.mov 6 (.r 3))),
      .it (.one (.mov 7 (.r 0))),
      .it (.one (.len 8 (.r 7))),
      .it (.one (.bin 9 .lss (.r 6) (.r 8)))])
         (.cond (.r 9) .skip (.exit 0)))
        (.seq
         (.block 1
          (.seq
           /- R4 -/ (.post (.post (.draw [[], [], [0, 1], [0, 1, 2], [0, 1, 2, 3], [], [], [5, 6], [5, 6, 7], [5, 6, 7, 8], [], [], [0, 1, 2, 3, 4, 10, 11], [0, 1, 2, 3, 4, 5, 6, 7, 8, 9, 10, 11, 12]] [.one (.mov 12 (.r 0)),
      .one (.mov 13 (.r 3)),
      .one (.idx 14 (.r 12) (.r 13) 7),
      .one (.fad 15 (.r 14) 1),
      .one (.load 16 (.r 15) 3 true),
      .one (.mov 17 (.r 0)),
      .one (.mov 18 (.r 3)),
      .one (.idx 19 (.r 17) (.r 18) 7),
      .one (.fad 20 (.r 19) 4),
      .one (.load 21 (.r 20) 3 true),
      .one (.alloc 4 4 [.int .i64 0, .int .i64 0, .int .i64 0]),
      .one (.alloc 5 5 [.int .i64 0, .int .i64 0, .int .i64 0]),
      .one (.store (.r 4) (.r 16) 3),
      .one (.store (.r 5) (.r 21) 3)]) (.frz 4)) (.frz 5))
           (.seq
            /- R5 -/ (.ops [.it (.one (.fad 22 (.r 4) 0)),
      .it (.one (.load 23 (.r 22) 1 false)),
      .it (.one (.bin 24 .eql (.r 23) (.c (.int .i64 (3))))),
      .it (.one (.mov 25 (.r 24))),
      .it (.grp 25 true [.fad 26 (.r 5) 0, .load 27 (.r 26) 1 false, .bin 28 .eql (.r 27) (.c (.int .i64 (3)))]),
      .it (.one (.pick 29 (.r 25) (.r 28) (.c (.bool false)))),
      .it (.one (.mov 30 (.r 29))),
      .it (.grp 30 true [.load 31 (.r 4) 3 true, .load 32 (.r 5) 3 true, .eq 33 true (.strct [.i, .i, .i]) (.r 31) (.r 32)]),
      .it (.one (.pick 34 (.r 30) (.r 33) (.c (.bool false)))),
      .it (.one (.mov 35 (.r 34))),
      .it (.grp 35 false [.fad 36 (.r 4) 0, .load 37 (.r 36) 1 false, .bin 38 .neq (.r 37) (.c (.int .i64 (3))), .mov 39 (.r 38)]),
      .it (.grp 39 true [.fad 40 (.r 4) 0, .load 41 (.r 40) 1 false, .bin 42 .neq (.r 41) (.c (.int .i64 (2)))]),
      .it (.grp 35 false [.pick 43 (.r 39) (.r 42) (.c (.bool false))]),
      .it (.one (.pick 44 (.r 35) (.c (.bool true)) (.r 43))),
      .it (.one (.mov 45 (.r 44))),
      .it (.grp 45 false [.fad 46 (.r 5) 0, .load 47 (.r 46) 1 false, .bin 48 .neq (.r 47) (.c (.int .i64 (3))), .mov 49 (.r 48)]),
      .it (.grp 49 true [.fad 50 (.r 5) 0, .load 51 (.r 50) 1 false, .bin 52 .neq (.r 51) (.c (.int .i64 (2)))]),
      .it (.grp 45 false [.pick 53 (.r 49) (.r 52) (.c (.bool false))]),
      .it (.one (.pick 54 (.r 45) (.c (.bool true)) (.r 53)))])
            (.cond (.r 54)
             (.seq
              /- R6 -/ (.ops [.it (.one (.mov 2 (.c (.bool false))))]) .ret) .skip))))
         /- R3 -/ (.ops [.it (.one (.mov 10 (.r 3))),
      .it (.one (.bin 11 .add (.r 10) (.c (.int .i64 (1))))),
      .it (.one (.mov 3 (.r 11)))])))))))
    (.seq
     /- R7 -/ (.ops [.it (.one (.mov 55 (.r 0))),
      .it (.one (.len 56 (.r 55))),
      .it (.one (.bin 57 .leq (.r 56) (.c (.int .i64 (30))))),
      .it (.one (.mov 2 (.r 57)))]) .ret)))
theorem A6_ok : okFun Try.prog 6 58 0 A6 [.tmp 2] [] = true := by kernel_rfl
/-- dyehouse/dyehouselaw29.works -/
def A7 : ACode :=
  (.seq
   /- R0 -/ (.ops [.it (.one (.mov 0 (.c (.bool false))))])
   (.seq
    /- R1 -/ (.ops [.it (.one (.callf (some 5) (.st 18) [(.c (.int .i64 (1)))])),
      .it (.one (.callf (some 6) (.st 18) [(.c (.int .i64 (2)))])),
      .it (.one (.build 7 [.int .i64 0, .int .i64 0, .int .i64 0, .int .i64 0, .int .i64 0, .int .i64 0, .int .i64 0] [(0, 1, (.c (.int .i64 (1)))), (1, 3, (.r 5)), (4, 3, (.r 6))])),
      .it (.one (.callf (some 8) (.st 18) [(.c (.int .i64 (2)))])),
      .it (.one (.callf (some 9) (.st 18) [(.c (.int .i64 (1)))])),
      .it (.one (.build 10 [.int .i64 0, .int .i64 0, .int .i64 0, .int .i64 0, .int .i64 0, .int .i64 0, .int .i64 0] [(0, 1, (.c (.int .i64 (2)))), (1, 3, (.r 8)), (4, 3, (.r 9))])),
      .it (.one (.callf (some 11) (.st 18) [(.c (.int .i64 (1)))])),
      .it (.one (.callf (some 12) (.st 18) [(.c (.int .i64 (5)))])),
      .it (.one (.build 13 [.int .i64 0, .int .i64 0, .int .i64 0, .int .i64 0, .int .i64 0, .int .i64 0, .int .i64 0] [(0, 1, (.c (.int .i64 (3)))), (1, 3, (.r 11)), (4, 3, (.r 12))])),
      .it (.one (.build 14 [.int .i64 0, .int .i64 0, .int .i64 0] [(0, 1, (.c (.int .i64 (3))))])),
      .it (.one (.callf (some 15) (.st 18) [(.c (.int .i64 (4)))])),
      .it (.one (.build 16 [.int .i64 0, .int .i64 0, .int .i64 0, .int .i64 0, .int .i64 0, .int .i64 0, .int .i64 0] [(0, 1, (.c (.int .i64 (4)))), (1, 3, (.r 14)), (4, 3, (.r 15))])),
      .it (.one (.callf (some 17) (.st 18) [(.c (.int .i64 (7)))])),
      .it (.one (.callf (some 18) (.st 18) [(.c (.int .i64 (7)))])),
      .it (.one (.build 19 [.int .i64 0, .int .i64 0, .int .i64 0, .int .i64 0, .int .i64 0, .int .i64 0, .int .i64 0] [(0, 1, (.c (.int .i64 (5)))), (1, 3, (.r 17)), (4, 3, (.r 18))])),
      .it (.one (.bslp 20 7 [(.r 7), (.r 10), (.r 13), (.r 16), (.r 19)])),
      .it (.one (.callf (some 21) (.st 12) [(.r 20)])),
      .it (.one (.mov 1 (.r 21)))])
    (.seq
     /- R2 -/ (.post (.ops [.it (.one (.callf (some 22) (.st 18) [(.c (.int .i64 (1)))])),
      .it (.one (.build 23 [.int .i64 0, .int .i64 0, .int .i64 0] [(0, 1, (.c (.int .i64 (3)))), (2, 1, (.c (.int .i64 (2))))])),
      .it (.one (.build 24 [.int .i64 0, .int .i64 0, .int .i64 0, .int .i64 0, .int .i64 0, .int .i64 0, .int .i64 0] [(0, 1, (.c (.int .i64 (3)))), (1, 3, (.r 22)), (4, 3, (.r 23))])),
      .it (.one (.callf (some 25) (.st 9) [(.r 24)])),
      .it (.one (.alloc 2 2 [.int .i64 0, .int .i64 0, .int .i64 0, .int .i64 0, .int .i64 0, .sl [], .str .empty, .int .i64 0, .sl [], .sl []])),
      .it (.one (.store (.r 2) (.r 25) 10))]) (.frz 2))
     (.seq
      /- R3 -/ (.post (.post (.ops [.it (.one (.callf (some 27) (.st 18) [(.c (.int .i64 (1)))])),
      .it (.one (.callf (some 28) (.st 18) [(.c (.int .i64 (2)))])),
      .it (.one (.build 29 [.int .i64 0, .int .i64 0, .int .i64 0, .int .i64 0, .int .i64 0, .int .i64 0, .int .i64 0] [(0, 1, (.c (.int .i64 (1)))), (1, 3, (.r 27)), (4, 3, (.r 28))])),
      .it (.one (.callf (some 30) (.st 18) [(.c (.int .i64 (3)))])),
      .it (.one (.callf (some 31) (.st 18) [(.c (.int .i64 (2)))])),
      .it (.one (.build 32 [.int .i64 0, .int .i64 0, .int .i64 0, .int .i64 0, .int .i64 0, .int .i64 0, .int .i64 0] [(0, 1, (.c (.int .i64 (2)))), (1, 3, (.r 30)), (4, 3, (.r 31))])),
      .it (.one (.callf (some 33) (.st 18) [(.c (.int .i64 (3)))])),
      .it (.one (.callf (some 34) (.st 18) [(.c (.int .i64 (3)))])),
      .it (.one (.build 35 [.int .i64 0, .int .i64 0, .int .i64 0, .int .i64 0, .int .i64 0, .int .i64 0, .int .i64 0] [(0, 1, (.c (.int .i64 (3)))), (1, 3, (.r 33)), (4, 3, (.r 34))])),
      .it (.one (.bslp 36 7 [(.r 29), (.r 32), (.r 35)])),
      .call (some 37) (.st 19) [(.r 36)] [] [60, 61],
      .it (.one (.mov 26 (.r 37))),
      .it (.one (.ext 38 (.r 26) 0)),
      .it (.one (.ext 39 (.r 26) 1)),
      .it (.one (.mov 3 (.r 38))),
      .it (.one (.mov 4 (.r 39)))]) (.frz 60)) (.frz 61))
      (.seq
       /- R4 -/ (.ops [.it (.one (.mov 40 (.r 1))),
      .it (.one (.len 41 (.r 40))),
      .it (.one (.bin 42 .eql (.r 41) (.c (.int .i64 (3))))),
      .it (.one (.mov 43 (.r 42))),
      .it (.grp 43 true [.mov 44 (.r 1), .idx 45 (.r 44) (.c (.int .i64 (0))) 10, .fad 46 (.r 45) 0, .load 47 (.r 46) 1 false, .bin 48 .eql (.r 47) (.c (.int .i64 (24)))]),
      .it (.one (.pick 49 (.r 43) (.r 48) (.c (.bool false)))),
      .it (.one (.mov 50 (.r 49))),
      .it (.grp 50 true [.mov 51 (.r 1), .idx 52 (.r 51) (.c (.int .i64 (0))) 10, .fad 53 (.r 52) 1, .fad 54 (.r 53) 2, .load 55 (.r 54) 1 false, .bin 56 .eql (.r 55) (.c (.int .i64 (5)))]),
      .it (.one (.pick 57 (.r 50) (.r 56) (.c (.bool false)))),
      .it (.one (.mov 58 (.r 57))),
      .it (.grp 58 true [.mov 59 (.r 1), .idx 60 (.r 59) (.c (.int .i64 (1))) 10, .fad 61 (.r 60) 0, .load 62 (.r 61) 1 false, .bin 63 .eql (.r 62) (.c (.int .i64 (26)))]),
      .it (.one (.pick 64 (.r 58) (.r 63) (.c (.bool false)))),
      .it (.one (.mov 65 (.r 64))),
      .it (.grp 65 true [.mov 66 (.r 1), .idx 67 (.r 66) (.c (.int .i64 (2))) 10, .fad 68 (.r 67) 0, .load 69 (.r 68) 1 false, .bin 70 .eql (.r 69) (.c (.int .i64 (27)))]),
      .it (.one (.pick 71 (.r 65) (.r 70) (.c (.bool false)))),
      .it (.one (.mov 72 (.r 71))),
      .it (.grp 72 true [.fad 73 (.r 2) 0, .load 74 (.r 73) 1 false, .bin 75 .eql (.r 74) (.c (.int .i64 (25)))]),
      .it (.one (.pick 76 (.r 72) (.r 75) (.c (.bool false)))),
      .it (.one (.mov 77 (.r 76))),
      .it (.grp 77 true [.mov 78 (.r 3), .len 79 (.r 78), .bin 80 .eql (.r 79) (.c (.int .i64 (1)))]),
      .it (.one (.pick 81 (.r 77) (.r 80) (.c (.bool false)))),
      .it (.one (.mov 82 (.r 81))),
      .it (.grp 82 true [.mov 83 (.r 4), .len 84 (.r 83), .bin 85 .eql (.r 84) (.c (.int .i64 (1)))]),
      .it (.one (.pick 86 (.r 82) (.r 85) (.c (.bool false)))),
      .it (.one (.mov 0 (.r 86)))]) .ret)))))
theorem A7_ok : okFun Try.prog 7 87 0 A7 [.tmp 0] [] = true := by kernel_rfl
/-- dyehouse/dyehouseref12.Instr -/
def A8 : ACode :=
  (.seq
   /- R0 -/ (.ops [.it (.one (.boxp 2 (.r 0))),
      .it (.one (.boxp 3 (.r 1))),
      .it (.one (.mov 4 (.c (.bool false))))])
   (.seq
    /- R1 -/ (.ops [.it (.one (.fad 5 (.r 2) 0)),
      .it (.one (.load 6 (.r 5) 1 false)),
      .it (.one (.fad 7 (.r 3) 0)),
      .it (.one (.load 8 (.r 7) 1 false)),
      .it (.one (.bin 9 .eql (.r 6) (.r 8))),
      .it (.one (.mov 10 (.r 9))),
      .it (.grp 10 true [.fad 11 (.r 2) 1, .load 12 (.r 11) 4 true, .fad 13 (.r 3) 1, .load 14 (.r 13) 4 true, .eq 15 false (.strct [.i, .i, .i, .i]) (.r 12) (.r 14)]),
      .it (.one (.pick 16 (.r 10) (.r 15) (.c (.bool false)))),
      .it (.one (.mov 17 (.r 16))),
      .it (.grp 17 true [.fad 18 (.r 2) 5, .load 19 (.r 18) 1 false, .fad 20 (.r 3) 5, .load 21 (.r 20) 1 false, .callf (some 22) (.st 20) [(.r 19), (.r 21)]]),
      .it (.one (.pick 23 (.r 17) (.r 22) (.c (.bool false)))),
      .it (.one (.mov 24 (.r 23))),
      .it (.grp 24 true [.fad 25 (.r 2) 6, .load 26 (.r 25) 1 false, .fad 27 (.r 3) 6, .load 28 (.r 27) 1 false, .bin 29 .eql (.r 26) (.r 28)]),
      .it (.one (.pick 30 (.r 24) (.r 29) (.c (.bool false)))),
      .it (.one (.mov 31 (.r 30))),
      .it (.grp 31 true [.fad 32 (.r 2) 7, .load 33 (.r 32) 1 false, .fad 34 (.r 3) 7, .load 35 (.r 34) 1 false, .bin 36 .eql (.r 33) (.r 35)]),
      .it (.one (.pick 37 (.r 31) (.r 36) (.c (.bool false)))),
      .it (.one (.mov 38 (.r 37))),
      .it (.grp 38 true [.fad 39 (.r 2) 8, .load 40 (.r 39) 1 false, .fad 41 (.r 3) 8, .load 42 (.r 41) 1 false, .callf (some 43) (.st 21) [(.r 40), (.r 42)]]),
      .it (.one (.pick 44 (.r 38) (.r 43) (.c (.bool false)))),
      .it (.one (.mov 45 (.r 44))),
      .it (.grp 45 true [.fad 46 (.r 2) 9, .load 47 (.r 46) 1 false, .fad 48 (.r 3) 9, .load 49 (.r 48) 1 false, .callf (some 50) (.st 22) [(.r 47), (.r 49)]]),
      .it (.one (.pick 51 (.r 45) (.r 50) (.c (.bool false)))),
      .it (.one (.mov 4 (.r 51)))]) .ret))
theorem A8_ok : okFun Try.prog 8 52 0 A8 [.tmp 4] [] = true := by kernel_rfl
/-- dyehouse/moves.One -/
def A9 : ACode :=
  (.seq
   /- R0 -/ (.ops [.it (.one (.boxp 1 (.r 0))),
      .it (.one (.alloc 2 2 [.int .i64 0, .int .i64 0, .int .i64 0, .int .i64 0, .int .i64 0, .sl [], .str .empty, .int .i64 0, .sl [], .sl []]))])
   (.seq
    /- R1 -/ (.draw [[], [0], [], [2], [0, 1, 2, 3], [], [5], [], [7], [0, 1, 2, 3, 4, 5, 6, 7, 8], [0, 1, 2, 3, 4, 5, 6, 7, 8, 9], [0, 1, 2, 3, 4, 5, 6, 7, 8, 9, 10], [], [0, 1, 2, 3, 4, 5, 6, 7, 8, 9, 10, 11, 12]] [.one (.fad 4 (.r 1) 4),
      .one (.load 5 (.r 4) 3 true),
      .one (.fad 6 (.r 1) 0),
      .one (.load 7 (.r 6) 1 false),
      .one (.callf (some 8) (.st 23) [(.r 5), (.r 7)]),
      .one (.fad 9 (.r 1) 1),
      .one (.load 10 (.r 9) 3 true),
      .one (.fad 11 (.r 1) 0),
      .one (.load 12 (.r 11) 1 false),
      .one (.callf (some 13) (.st 23) [(.r 10), (.r 12)]),
      .one (.bslp 14 4 [(.r 13)]),
      .one (.build 15 [.int .i64 0, .int .i64 0, .int .i64 0, .int .i64 0, .int .i64 0, .sl [], .str .empty, .int .i64 0, .sl [], .sl []] [(0, 1, (.c (.int .i64 (24)))), (1, 4, (.r 8)), (5, 1, (.r 14))]),
      .one (.alloc 3 3 [.int .i64 0, .int .i64 0, .int .i64 0, .int .i64 0, .int .i64 0, .sl [], .str .empty, .int .i64 0, .sl [], .sl []]),
      .one (.store (.r 3) (.r 15) 10)])
    (.seq
     (.block 0
      (.seq
       /- R2 -/ (.ops [.it (.one (.fad 17 (.r 1) 4)),
      .it (.one (.fad 18 (.r 17) 0)),
      .it (.one (.load 19 (.r 18) 1 false)),
      .it (.one (.bin 20 .eql (.r 19) (.c (.int .i64 (3))))),
      .it (.one (.mov 16 (.r 20)))])
       (.cond (.r 16)
        /- R3 -/ (.ops [.it (.one (.fad 21 (.r 3) 0)),
      .it (.one (.store (.r 21) (.c (.int .i64 (25))) 1))])
        (.seq
         /- R4 -/ (.ops [.it (.one (.fad 23 (.r 1) 1)),
      .it (.one (.fad 24 (.r 23) 0)),
      .it (.one (.load 25 (.r 24) 1 false)),
      .it (.one (.bin 26 .eql (.r 25) (.c (.int .i64 (3))))),
      .it (.one (.mov 22 (.r 26)))])
         (.cond (.r 22)
          /- R5 -/ (.ops [.it (.one (.fad 27 (.r 3) 0)),
      .it (.one (.store (.r 27) (.c (.int .i64 (26))) 1))]) .skip)))))
     (.seq
      /- R6 -/ (.ops [.it (.one (.load 28 (.r 3) 10 true)),
      .it (.one (.store (.r 2) (.r 28) 10))]) .ret))))
theorem A9_ok : okFun Try.prog 9 29 0 A9 [.cell 2 10 true] [] = true := by kernel_rfl
/-- dyehouse/dyehouseref29.One -/
def A10 : ACode :=
  (.seq
   /- R0 -/ (.ops [.it (.one (.boxp 1 (.r 0))),
      .it (.one (.alloc 2 2 [.int .i64 0, .int .i64 0, .int .i64 0, .int .i64 0, .int .i64 0, .sl [], .str .empty, .int .i64 0, .sl [], .sl []]))])
   (.seq
    /- R1 -/ (.ops [.it (.one (.mov 3 (.c (.int .i64 (24)))))])
    (.seq
     (.seq
      /- R2 -/ (.ops [.it (.one (.fad 4 (.r 1) 1)),
      .it (.one (.fad 5 (.r 4) 0)),
      .it (.one (.load 6 (.r 5) 1 false)),
      .it (.one (.bin 7 .eql (.r 6) (.c (.int .i64 (3)))))])
      (.cond (.r 7)
       /- R3 -/ (.ops [.it (.one (.mov 3 (.c (.int .i64 (26)))))]) .skip))
     (.seq
      (.seq
       /- R4 -/ (.ops [.it (.one (.fad 8 (.r 1) 4)),
      .it (.one (.fad 9 (.r 8) 0)),
      .it (.one (.load 10 (.r 9) 1 false)),
      .it (.one (.bin 11 .eql (.r 10) (.c (.int .i64 (3)))))])
       (.cond (.r 11)
        /- R5 -/ (.ops [.it (.one (.mov 3 (.c (.int .i64 (25)))))]) .skip))
      (.seq
       /- R6 -/ (.draw [[], [], [1], [], [3], [1, 2, 3, 4], [], [6], [], [8], [1, 2, 3, 4, 5, 6, 7, 8, 9], [1, 2, 3, 4, 5, 6, 7, 8, 9, 10], [0, 1, 2, 3, 4, 5, 6, 7, 8, 9, 10, 11], [0, 1, 2, 3, 4, 5, 6, 7, 8, 9, 10, 11, 12]] [.one (.mov 12 (.r 3)),
      .one (.fad 13 (.r 1) 4),
      .one (.load 14 (.r 13) 3 true),
      .one (.fad 15 (.r 1) 0),
      .one (.load 16 (.r 15) 1 false),
      .one (.callf (some 17) (.st 24) [(.r 14), (.r 16)]),
      .one (.fad 18 (.r 1) 1),
      .one (.load 19 (.r 18) 3 true),
      .one (.fad 20 (.r 1) 0),
      .one (.load 21 (.r 20) 1 false),
      .one (.callf (some 22) (.st 24) [(.r 19), (.r 21)]),
      .one (.bslp 23 4 [(.r 22)]),
      .one (.build 24 [.int .i64 0, .int .i64 0, .int .i64 0, .int .i64 0, .int .i64 0, .sl [], .str .empty, .int .i64 0, .sl [], .sl []] [(0, 1, (.r 12)), (1, 4, (.r 17)), (5, 1, (.r 23))]),
      .one (.store (.r 2) (.r 24) 10)]) .ret)))))
theorem A10_ok : okFun Try.prog 10 25 0 A10 [.cell 2 10 true] [] = true := by kernel_rfl
/-- dyehouse/dyehouseref12.Code -/
def A11 : ACode :=
  (.seq
   /- R0 -/ (.ops [.it (.one (.mov 4 (.c (.bool false))))])
   (.seq
    (.seq
     /- R1 -/ (.ops [.it (.one (.mov 6 (.r 0))),
      .it (.one (.len 7 (.r 6))),
      .it (.one (.mov 8 (.r 1))),
      .it (.one (.len 9 (.r 8))),
      .it (.one (.bin 10 .neq (.r 7) (.r 9)))])
     (.cond (.r 10)
      (.seq
       /- R2 -/ (.ops [.it (.one (.mov 4 (.c (.bool false))))]) .ret) .skip))
    (.seq
     (.seq
      /- R3 -/ (.ops [.it (.one (.mov 5 (.c (.int .i64 (0)))))])
      (.block 0
       (.loop (.pre (.mv [0, 1, 5] [])
        (.seq
         (.seq
          /- R4 -/ (.ops [.it (.one (.mov 11 (.r 5))),
      .it (.one (.mov 12 (.r 0))),
      .it (.one (.len 13 (.r 12))),
      .it (.one (.bin 14 .lss (.r 11) (.r 13)))])
          (.cond (.r 14) .skip (.exit 0)))
         (.seq
          (.block 1
           (.seq
            /- R6 -/ (.draw [[], [], [0, 1], [0, 1, 2], [], [], [4, 5], [4, 5, 6], [0, 1, 2, 3, 4, 5, 6, 7], [0, 1, 2, 3, 4, 5, 6, 7, 8]] [.one (.mov 17 (.r 0)),
      .one (.mov 18 (.r 5)),
      .one (.idx 19 (.r 17) (.r 18) 10),
      .one (.load 20 (.r 19) 10 true),
      .one (.mov 21 (.r 1)),
      .one (.mov 22 (.r 5)),
      .one (.idx 23 (.r 21) (.r 22) 10),
      .one (.load 24 (.r 23) 10 true),
      .one (.callf (some 25) (.st 8) [(.r 20), (.r 24)]),
      .one (.un 26 .not (.r 25))])
            (.cond (.r 26)
             (.seq
              /- R7 -/ (.ops [.it (.one (.mov 4 (.c (.bool false))))]) .ret) .skip)))
          /- R5 -/ (.ops [.it (.one (.mov 15 (.r 5))),
      .it (.one (.bin 16 .add (.r 15) (.c (.int .i64 (1))))),
      .it (.one (.mov 5 (.r 16)))])))))))
     (.seq
      /- R8 -/ (.ops [.it (.one (.mov 4 (.c (.bool true))))]) .ret))))
theorem A11_ok : okFun Try.prog 11 27 0 A11 [.tmp 4] [] = true := by kernel_rfl
/-- dyehouse/moves.Order -/
def A12 : ACode :=
  (.seq
   /- R0 -/ (.ops [.it (.one (.mov 2 (.c (.sl []))))])
   (.scope
    (.seq
     /- R1 -/ (.post (.ops [.it (.one (.mov 13 (.r 0))),
      .call (some 14) (.st 19) [(.r 13)] [] [60, 61],
      .it (.one (.mov 12 (.r 14))),
      .it (.one (.ext 15 (.r 12) 0)),
      .it (.one (.ext 16 (.r 12) 1)),
      .it (.one (.mov 3 (.r 15))),
      .it (.one (.mov 4 (.r 16)))]) (.frz 61))
     (.seq
      /- R2 -/ (.ops [.it (.one (.alloca 5 5 1005 10))])
      (.seq
       /- R3 -/ (.ops [.it (.one (.mkfn 17 25 [(.r 5)])),
      .it (.one (.mov 6 (.r 17)))])
       (.seq (.lbl 0)
        (.seq
         (.block 0
          (.loop (.pre (.mv [3, 4, 5, 6] [(5, 5), (60, 60), (1005, 1005)])
           (.seq
            (.seq
             /- R4 -/ (.ops [.it (.one (.mov 18 (.r 3))),
      .it (.one (.len 19 (.r 18))),
      .it (.one (.bin 20 .gtr (.r 19) (.c (.int .i64 (0)))))])
             (.cond (.r 20) .skip (.exit 0)))
            (.block 1
             (.seq
              (.seq
               /- R5 -/ (.ops [.it (.one (.mov 21 (.r 3))),
      .it (.one (.callb (some 22) (.st 26) [(.r 21)])),
      .it (.one (.mov 7 (.r 22)))])
               (.seq
                /- R6 -/ (.ops [.it (.one (.mov 23 (.r 7))),
      .it (.one (.bin 24 .geq (.r 23) (.c (.int .i64 (0)))))])
                (.cond (.r 24)
                 (.seq
                  /- R7 -/ (.ops [.it (.one (.mov 25 (.r 6))),
      .it (.one (.mov 26 (.r 3))),
      .it (.one (.mov 27 (.r 7))),
      .it (.one (.idx 28 (.r 26) (.r 27) 7)),
      .it (.one (.load 29 (.r 28) 7 true)),
      .it (.one (.callf (some 30) (.st 9) [(.r 29)])),
      .call (some 31) (.dy (.r 25)) [(.r 30)] [5, 1005] []])
                  (.seq
                   /- R8 -/ (.ops [.it (.one (.mov 32 (.r 3))),
      .it (.one (.mov 33 (.r 7))),
      .it (.one (.mov 34 (.r 7))),
      .it (.one (.bin 35 .add (.r 34) (.c (.int .i64 (1))))),
      .call (some 36) (.st 27) [(.r 32), (.r 33), (.r 35)] [60] [],
      .it (.one (.mov 3 (.r 36)))]) (.exit 1))) .skip)))
              (.seq
               /- R9 -/ (.post (.ops [.it (.one (.mov 38 (.r 3))),
      .call (some 39) (.st 28) [(.r 38)] [60] [62],
      .it (.one (.mov 37 (.r 39))),
      .it (.one (.ext 40 (.r 37) 0)),
      .it (.one (.ext 41 (.r 37) 1)),
      .it (.one (.alloc 8 8 [.int .i64 0, .int .i64 0, .int .i64 0, .int .i64 0, .int .i64 0, .sl [], .str .empty, .int .i64 0, .sl [], .sl []])),
      .it (.one (.store (.r 8) (.r 40) 10)),
      .it (.one (.mov 9 (.r 41)))]) (.frz 8))
               (.seq
                /- R10 -/ (.ops [.it (.one (.mov 42 (.r 6))),
      .it (.one (.load 43 (.r 8) 10 true)),
      .call (some 44) (.dy (.r 42)) [(.r 43)] [5, 1005] []])
                /- R11 -/ (.post (.ops [.it (.one (.mov 45 (.r 9))),
      .it (.one (.mov 3 (.r 45)))]) (.mv [3, 4, 5, 6] [(5, 5), (1005, 1005), (62, 60)]))))))))))
         (.seq
          (.seq
           /- R12 -/ (.ops [.it (.one (.mov 46 (.r 4))),
      .it (.one (.len 47 (.r 46))),
      .it (.one (.mov 48 (.c (.int .i64 (0)))))])
           (.block 2
            (.loop (.pre (.mv [5, 6, 46, 47, 48] [(5, 5), (1005, 1005)])
             (.seq
              /- R13 -/ (.ops [.it (.one (.bin 49 .lss (.r 48) (.r 47)))])
              (.seq
               (.cond (.r 49) .skip (.exit 2))
               (.seq
                (.block 3
                 (.seq
                  /- R14 -/ (.post (.ops [.it (.one (.idx 50 (.r 46) (.r 48) 7)),
      .it (.one (.load 51 (.r 50) 7 true)),
      .it (.one (.alloc 11 11 [.int .i64 0, .int .i64 0, .int .i64 0, .int .i64 0, .int .i64 0, .int .i64 0, .int .i64 0])),
      .it (.one (.store (.r 11) (.r 51) 7))]) (.frz 11))
                  /- R15 -/ (.ops [.it (.one (.mov 52 (.r 6))),
      .it (.one (.load 53 (.r 11) 7 true)),
      .it (.one (.callf (some 54) (.st 9) [(.r 53)])),
      .call (some 55) (.dy (.r 52)) [(.r 54)] [5, 1005] []])))
                /- R16 -/ (.ops [.it (.one (.bin 56 .add (.r 48) (.c (.int .i64 (1))))),
      .it (.one (.mov 48 (.r 56)))]))))))))
          (.seq
           /- R17 -/ (.post (.ops [.it (.one (.load 57 (.r 5) 1 false)),
      .it (.one (.mov 2 (.r 57)))]) (.frz 1005)) .ret)))))))))
theorem A12_ok : okFun Try.prog 12 58 0 A12 [.tmp 2] [] = true := by kernel_rfl
/-- dyehouse/dyehouseref29.Order -/
def A13 : ACode :=
  (.seq
   /- R0 -/ (.ops [.it (.one (.mov 2 (.c (.sl []))))])
   (.seq
    /- R1 -/ (.ops [.it (.one (.nilarr 3 3 7)),
      .it (.one (.nilarr 4 4 7))])
    (.seq
     (.seq
      /- R2 -/ (.ops [.it (.one (.mov 5 (.c (.int .i64 (0)))))])
      (.block 0
       (.loop (.pre (.mv [0, 3, 4, 5] [(3, 3), (4, 4)])
        (.seq
         (.seq
          /- R3 -/ (.ops [.it (.one (.mov 15 (.r 5))),
      .it (.one (.mov 16 (.r 0))),
      .it (.one (.len 17 (.r 16))),
      .it (.one (.bin 18 .lss (.r 15) (.r 17)))])
          (.cond (.r 18) .skip (.exit 0)))
         (.seq
          (.block 1
           (.seq
            /- R5 -/ (.ops [.it (.one (.mov 6 (.c (.bool false))))])
            (.seq
             (.seq
              /- R6 -/ (.ops [.it (.one (.mov 7 (.c (.int .i64 (0)))))])
              (.block 2
               (.loop (.pre (.mv [0, 3, 4, 5, 6, 7] [(3, 3), (4, 4)])
                (.seq
                 (.seq
                  /- R7 -/ (.ops [.it (.one (.mov 21 (.r 7))),
      .it (.one (.mov 22 (.r 3))),
      .it (.one (.len 23 (.r 22))),
      .it (.one (.bin 24 .lss (.r 21) (.r 23)))])
                  (.cond (.r 24) .skip (.exit 2)))
                 (.seq
                  (.block 3
                   /- R9 -/ (.draw [[], [0], [0, 1], [0, 1], [0, 1, 2, 3], [0, 1, 2, 3, 4], [0, 1, 2, 3, 4, 5], [0, 1], [0, 1], [0, 1, 7, 8], [0, 1, 7, 8, 9], [0, 1, 7, 8, 9, 10], [0, 1, 2, 3, 4, 5, 6, 7, 8, 9, 10, 11], [0, 1, 2, 3, 4, 5, 6, 7, 8, 9, 10, 11, 12], [0, 1, 2, 3, 4, 5, 6, 7, 8, 9, 10, 11, 12, 13]] [.one (.mov 27 (.r 6)),
      .one (.mov 28 (.r 27)),
      .grp 28 false [.mov 29 (.r 3), .mov 30 (.r 7), .idx 31 (.r 29) (.r 30) 7, .fad 32 (.r 31) 4, .load 33 (.r 32) 3 true, .mov 34 (.r 0), .mov 35 (.r 5), .idx 36 (.r 34) (.r 35) 7, .fad 37 (.r 36) 4, .load 38 (.r 37) 3 true, .eq 39 false (.strct [.i, .i, .i]) (.r 33) (.r 38)],
      .one (.pick 40 (.r 28) (.c (.bool true)) (.r 39)),
      .one (.mov 6 (.r 40))]))
                  /- R8 -/ (.ops [.it (.one (.mov 25 (.r 7))),
      .it (.one (.bin 26 .add (.r 25) (.c (.int .i64 (1))))),
      .it (.one (.mov 7 (.r 26)))])))))))
             (.seq
              /- R10 -/ (.draw [[], [], [0, 1], [0, 1, 2], [0, 1, 2, 3], [], [], [5, 6], [5, 6, 7], [5, 6, 7, 8], [0, 1, 2, 3, 4, 5, 6, 7, 8, 9], [0, 1, 2, 3, 4, 5, 6, 7, 8, 9, 10], [0, 1, 2, 3, 4, 5, 6, 7, 8, 9, 10, 11], [0, 1, 2, 3, 4, 5, 6, 7, 8, 9, 10, 11, 12]] [.one (.mov 41 (.r 0)),
      .one (.mov 42 (.r 5)),
      .one (.idx 43 (.r 41) (.r 42) 7),
      .one (.fad 44 (.r 43) 1),
      .one (.load 45 (.r 44) 3 true),
      .one (.mov 46 (.r 0)),
      .one (.mov 47 (.r 5)),
      .one (.idx 48 (.r 46) (.r 47) 7),
      .one (.fad 49 (.r 48) 4),
      .one (.load 50 (.r 49) 3 true),
      .one (.eq 51 true (.strct [.i, .i, .i]) (.r 45) (.r 50)),
      .one (.mov 52 (.r 51)),
      .grp 52 true [.mov 53 (.r 6)],
      .one (.pick 54 (.r 52) (.r 53) (.c (.bool false)))])
              (.cond (.r 54)
               /- R11 -/ (.ops [.it (.one (.mov 55 (.r 4))),
      .it (.one (.mov 56 (.r 0))),
      .it (.one (.mov 57 (.r 5))),
      .it (.one (.idx 58 (.r 56) (.r 57) 7)),
      .it (.one (.load 59 (.r 58) 7 true)),
      .it (.one (.bslp 60 7 [(.r 59)])),
      .it (.one (.appd 61 (.r 55) (.r 60) 7 56)),
      .it (.one (.mov 4 (.r 61)))])
               (.seq
                /- R12 -/ (.draw [[], [], [0, 1], [0, 1, 2], [0, 1, 2, 3], [], [], [5, 6], [5, 6, 7], [5, 6, 7, 8], [0, 1, 2, 3, 4, 5, 6, 7, 8, 9]] [.one (.mov 62 (.r 0)),
      .one (.mov 63 (.r 5)),
      .one (.idx 64 (.r 62) (.r 63) 7),
      .one (.fad 65 (.r 64) 1),
      .one (.load 66 (.r 65) 3 true),
      .one (.mov 67 (.r 0)),
      .one (.mov 68 (.r 5)),
      .one (.idx 69 (.r 67) (.r 68) 7),
      .one (.fad 70 (.r 69) 4),
      .one (.load 71 (.r 70) 3 true),
      .one (.eq 72 true (.strct [.i, .i, .i]) (.r 66) (.r 71))])
                (.cond (.r 72)
                 /- R13 -/ (.ops [.it (.one (.mov 73 (.r 3))),
      .it (.one (.mov 74 (.r 0))),
      .it (.one (.mov 75 (.r 5))),
      .it (.one (.idx 76 (.r 74) (.r 75) 7)),
      .it (.one (.load 77 (.r 76) 7 true)),
      .it (.one (.bslp 78 7 [(.r 77)])),
      .it (.one (.appd 79 (.r 73) (.r 78) 7 56)),
      .it (.one (.mov 3 (.r 79)))]) .skip)))))))
          /- R4 -/ (.ops [.it (.one (.mov 19 (.r 5))),
      .it (.one (.bin 20 .add (.r 19) (.c (.int .i64 (1))))),
      .it (.one (.mov 5 (.r 20)))])))))))
     (.seq
      /- R14 -/ (.pre (.frz 3) (.pre (.frz 4) (.ops [.it (.one (.nilarr 8 8 10))])))
      (.seq
       (.block 4
        (.loop (.pre (.mv [3, 4, 8] [(8, 8)])
         (.seq
          (.seq
           /- R15 -/ (.ops [.it (.one (.mov 80 (.r 3))),
      .it (.one (.len 81 (.r 80))),
      .it (.one (.bin 82 .gtr (.r 81) (.c (.int .i64 (0)))))])
           (.cond (.r 82) .skip (.exit 4)))
          (.block 5
           (.seq
            /- R16 -/ (.ops [.it (.one (.mov 9 (.c (.int .i64 (0)))))])
            (.seq
             (.block 6
              (.loop (.pre (.mv [3, 4, 8, 9] [(8, 8)])
               (.seq
                (.seq
                 /- R17 -/ (.ops [.it (.one (.mov 83 (.r 9))),
      .it (.one (.mov 84 (.r 3))),
      .it (.one (.len 85 (.r 84))),
      .it (.one (.bin 86 .lss (.r 83) (.r 85))),
      .it (.one (.mov 87 (.r 86))),
      .it (.grp 87 true [.mov 88 (.r 3), .mov 89 (.r 3), .mov 90 (.r 9), .idx 91 (.r 89) (.r 90) 7, .fad 92 (.r 91) 4, .load 93 (.r 92) 3 true, .callb (some 94) (.st 29) [(.r 88), (.r 93)], .bin 95 .geq (.r 94) (.c (.int .i64 (0)))]),
      .it (.one (.pick 96 (.r 87) (.r 95) (.c (.bool false))))])
                 (.cond (.r 96) .skip (.exit 6)))
                (.block 7
                 /- R18 -/ (.ops [.it (.one (.mov 97 (.r 9))),
      .it (.one (.bin 98 .add (.r 97) (.c (.int .i64 (1))))),
      .it (.one (.mov 9 (.r 98)))]))))))
             (.seq
              (.seq
               /- R19 -/ (.ops [.it (.one (.mov 99 (.r 9))),
      .it (.one (.mov 100 (.r 3))),
      .it (.one (.len 101 (.r 100))),
      .it (.one (.bin 102 .lss (.r 99) (.r 101)))])
               (.cond (.r 102)
                (.seq
                 /- R20 -/ (.ops [.it (.one (.mov 103 (.r 8))),
      .it (.one (.mov 104 (.r 3))),
      .it (.one (.mov 105 (.r 9))),
      .it (.one (.idx 106 (.r 104) (.r 105) 7)),
      .it (.one (.load 107 (.r 106) 7 true)),
      .it (.one (.callf (some 108) (.st 10) [(.r 107)])),
      .it (.one (.bslp 109 10 [(.r 108)])),
      .it (.one (.appd 110 (.r 103) (.r 109) 10 136)),
      .it (.one (.mov 8 (.r 110)))])
                 (.seq
                  /- R21 -/ (.ops [.it (.one (.mov 111 (.r 3))),
      .it (.one (.mov 112 (.r 9))),
      .it (.one (.callf (some 113) (.st 30) [(.r 111), (.r 112)])),
      .it (.one (.mov 3 (.r 113)))]) (.exit 5))) .skip))
              (.seq
               /- R22 -/ (.ops [.it (.one (.mov 9 (.c (.int .i64 (0)))))])
               (.seq
                (.block 8
                 (.loop (.pre (.mv [3, 4, 8, 9] [(8, 8)])
                  (.seq
                   (.seq
                    /- R23 -/ (.ops [.it (.one (.mov 114 (.r 9))),
      .it (.one (.bin 115 .add (.r 114) (.c (.int .i64 (1))))),
      .it (.one (.mov 116 (.r 3))),
      .it (.one (.len 117 (.r 116))),
      .it (.one (.bin 118 .lss (.r 115) (.r 117))),
      .it (.one (.mov 119 (.r 118))),
      .it (.grp 119 true [.mov 120 (.r 3), .mov 121 (.r 9), .idx 122 (.r 120) (.r 121) 7, .fad 123 (.r 122) 1, .fad 124 (.r 123) 0, .load 125 (.r 124) 1 false, .bin 126 .neq (.r 125) (.c (.int .i64 (2)))]),
      .it (.one (.pick 127 (.r 119) (.r 126) (.c (.bool false))))])
                    (.cond (.r 127) .skip (.exit 8)))
                   (.block 9
                    /- R24 -/ (.ops [.it (.one (.mov 128 (.r 9))),
      .it (.one (.bin 129 .add (.r 128) (.c (.int .i64 (1))))),
      .it (.one (.mov 9 (.r 129)))]))))))
                (.seq
                 /- R25 -/ (.post (.ops [.it (.one (.mov 130 (.r 3))),
      .it (.one (.mov 131 (.r 9))),
      .it (.one (.idx 132 (.r 130) (.r 131) 7)),
      .it (.one (.load 133 (.r 132) 7 true)),
      .it (.one (.alloc 10 10 [.int .i64 0, .int .i64 0, .int .i64 0, .int .i64 0, .int .i64 0, .int .i64 0, .int .i64 0])),
      .it (.one (.store (.r 10) (.r 133) 7))]) (.frz 10))
                 (.seq
                  /- R26 -/ (.draw [[], [], [1], [], [3], [1, 2, 3, 4], [], [6], [], [], [], [10], [1, 2, 3, 4, 5, 9, 10, 11], [1, 2, 3, 4, 5, 8, 9, 10, 11, 12], [1, 2, 3, 4, 5, 8, 9, 10, 11, 12, 13], [1, 2, 3, 4, 5, 8, 9, 10, 11, 12, 13, 14], [1, 2, 3, 4, 5, 6, 7, 8, 9, 10, 11, 12, 13, 14, 15], [1, 2, 3, 4, 5, 6, 7, 8, 9, 10, 11, 12, 13, 14, 15, 16], [1, 2, 3, 4, 5, 6, 7, 8, 9, 10, 11, 12, 13, 14, 15, 16, 17], [1, 2, 3, 4, 5, 6, 7, 8, 9, 10, 11, 12, 13, 14, 15, 16, 17, 18], [0, 1, 2, 3, 4, 5, 6, 7, 8, 9, 10, 11, 12, 13, 14, 15, 16, 17, 18, 19], [0, 1, 2, 3, 4, 5, 6, 7, 8, 9, 10, 11, 12, 13, 14, 15, 16, 17, 18, 19, 20]] [.one (.mov 134 (.r 8)),
      .one (.fad 135 (.r 10) 4),
      .one (.load 136 (.r 135) 3 true),
      .one (.fad 137 (.r 10) 0),
      .one (.load 138 (.r 137) 1 false),
      .one (.callf (some 139) (.st 24) [(.r 136), (.r 138)]),
      .one (.fad 140 (.r 10) 1),
      .one (.load 141 (.r 140) 3 true),
      .one (.mov 142 (.r 3)),
      .one (.mov 143 (.r 3)),
      .one (.fad 144 (.r 10) 4),
      .one (.load 145 (.r 144) 3 true),
      .one (.callb (some 146) (.st 29) [(.r 143), (.r 145)]),
      .one (.idx 147 (.r 142) (.r 146) 7),
      .one (.fad 148 (.r 147) 0),
      .one (.load 149 (.r 148) 1 false),
      .one (.callf (some 150) (.st 24) [(.r 141), (.r 149)]),
      .one (.bslp 151 4 [(.r 139), (.r 150)]),
      .one (.build 152 [.int .i64 0, .int .i64 0, .int .i64 0, .int .i64 0, .int .i64 0, .sl [], .str .empty, .int .i64 0, .sl [], .sl []] [(0, 1, (.c (.int .i64 (27)))), (5, 1, (.r 151))]),
      .one (.bslp 153 10 [(.r 152)]),
      .one (.appd 154 (.r 134) (.r 153) 10 136),
      .one (.mov 8 (.r 154))])
                  (.seq
                   /- R27 -/ (.ops [.it (.one (.nilarr 11 11 7))])
                   (.seq
                    (.seq
                     /- R28 -/ (.ops [.it (.one (.mov 12 (.c (.int .i64 (0)))))])
                     (.block 10
                      (.loop (.pre (.mv [3, 4, 8, 9, 10, 11, 12] [(8, 8), (11, 11)])
                       (.seq
                        (.seq
                         /- R29 -/ (.ops [.it (.one (.mov 155 (.r 12))),
      .it (.one (.mov 156 (.r 3))),
      .it (.one (.len 157 (.r 156))),
      .it (.one (.bin 158 .lss (.r 155) (.r 157)))])
                         (.cond (.r 158) .skip (.exit 10)))
                        (.seq
                         (.block 11
                          (.seq
                           /- R31 -/ (.ops [.it (.one (.mov 161 (.r 3))),
      .it (.one (.mov 162 (.r 12))),
      .it (.one (.idx 163 (.r 161) (.r 162) 7)),
      .it (.one (.load 164 (.r 163) 7 true)),
      .it (.one (.alloc 13 13 [.int .i64 0, .int .i64 0, .int .i64 0, .int .i64 0, .int .i64 0, .int .i64 0, .int .i64 0])),
      .it (.one (.store (.r 13) (.r 164) 7))])
                           (.seq
                            (.seq
                             /- R32 -/ (.ops [.it (.one (.fad 165 (.r 13) 1)),
      .it (.one (.load 166 (.r 165) 3 true)),
      .it (.one (.fad 167 (.r 10) 4)),
      .it (.one (.load 168 (.r 167) 3 true)),
      .it (.one (.eq 169 false (.strct [.i, .i, .i]) (.r 166) (.r 168)))])
                             (.cond (.r 169)
                              /- R33 -/ (.ops [.it (.one (.fad 170 (.r 10) 1)),
      .it (.one (.load 171 (.r 170) 3 true)),
      .it (.one (.fad 172 (.r 13) 1)),
      .it (.one (.store (.r 172) (.r 171) 3))]) .skip))
                            (.seq
                             /- R34 -/ (.ops [.it (.one (.mov 173 (.r 12))),
      .it (.one (.mov 174 (.r 9))),
      .it (.one (.bin 175 .neq (.r 173) (.r 174))),
      .it (.one (.mov 176 (.r 175))),
      .it (.grp 176 true [.fad 177 (.r 13) 1, .load 178 (.r 177) 3 true, .fad 179 (.r 13) 4, .load 180 (.r 179) 3 true, .eq 181 true (.strct [.i, .i, .i]) (.r 178) (.r 180)]),
      .it (.one (.pick 182 (.r 176) (.r 181) (.c (.bool false))))])
                             (.cond (.r 182)
                              /- R35 -/ (.ops [.it (.one (.mov 183 (.r 11))),
      .it (.one (.load 184 (.r 13) 7 true)),
      .it (.one (.bslp 185 7 [(.r 184)])),
      .it (.one (.appd 186 (.r 183) (.r 185) 7 56)),
      .it (.one (.mov 11 (.r 186)))]) .skip)))))
                         /- R30 -/ (.ops [.it (.one (.mov 159 (.r 12))),
      .it (.one (.bin 160 .add (.r 159) (.c (.int .i64 (1))))),
      .it (.one (.mov 12 (.r 160)))])))))))
                    /- R36 -/ (.post (.ops [.it (.one (.mov 187 (.r 11))),
      .it (.one (.mov 3 (.r 187)))]) (.frz 11))))))))))))))))
       (.seq
        (.seq
         /- R37 -/ (.ops [.it (.one (.mov 14 (.c (.int .i64 (0)))))])
         (.block 12
          (.loop (.pre (.mv [4, 8, 14] [(8, 8)])
           (.seq
            (.seq
             /- R38 -/ (.ops [.it (.one (.mov 188 (.r 14))),
      .it (.one (.mov 189 (.r 4))),
      .it (.one (.len 190 (.r 189))),
      .it (.one (.bin 191 .lss (.r 188) (.r 190)))])
             (.cond (.r 191) .skip (.exit 12)))
            (.seq
             (.block 13
              /- R40 -/ (.ops [.it (.one (.mov 194 (.r 8))),
      .it (.one (.mov 195 (.r 4))),
      .it (.one (.mov 196 (.r 14))),
      .it (.one (.idx 197 (.r 195) (.r 196) 7)),
      .it (.one (.load 198 (.r 197) 7 true)),
      .it (.one (.callf (some 199) (.st 10) [(.r 198)])),
      .it (.one (.bslp 200 10 [(.r 199)])),
      .it (.one (.appd 201 (.r 194) (.r 200) 10 136)),
      .it (.one (.mov 8 (.r 201)))]))
             /- R39 -/ (.ops [.it (.one (.mov 192 (.r 14))),
      .it (.one (.bin 193 .add (.r 192) (.c (.int .i64 (1))))),
      .it (.one (.mov 14 (.r 193)))])))))))
        (.seq
         /- R41 -/ (.post (.ops [.it (.one (.mov 202 (.r 8))),
      .it (.one (.mov 2 (.r 202)))]) (.frz 8)) .ret)))))))
theorem A13_ok : okFun Try.prog 13 203 0 A13 [.tmp 2] [] = true := by kernel_rfl
/-- dyehouse/dyehouseref29.Set -/
def A14 : ACode :=
  (.seq
   /- R0 -/ (.ops [.it (.one (.boxp 4 (.r 1))),
      .it (.one (.mov 6 (.c (.sl []))))])
   (.seq
    /- R1 -/ (.ops [.it (.one (.load 9 (.r 4) 3 true)),
      .it (.one (.mov 10 (.r 2))),
      .it (.one (.build 11 [.int .i64 0, .int .i64 0, .int .i64 0, .int .i64 0] [(0, 3, (.r 9)), (3, 1, (.r 10))])),
      .it (.one (.bslo 12 12 4 [(.r 11)])),
      .it (.one (.mov 7 (.r 12)))])
    (.seq
     (.seq
      /- R2 -/ (.ops [.it (.one (.mov 8 (.c (.int .i64 (0)))))])
      (.block 0
       (.loop (.pre (.mv [0, 4, 7, 8] [(12, 12)])
        (.seq
         (.seq
          /- R3 -/ (.ops [.it (.one (.mov 13 (.r 8))),
      .it (.one (.mov 14 (.r 0))),
      .it (.one (.len 15 (.r 14))),
      .it (.one (.bin 16 .lss (.r 13) (.r 15)))])
          (.cond (.r 16) .skip (.exit 0)))
         (.seq
          (.block 1
           (.seq
            /- R5 -/ (.draw [[], [], [0, 1], [0, 1, 2], [0, 1, 2, 3], [], [0, 1, 2, 3, 4, 5]] [.one (.mov 19 (.r 0)),
      .one (.mov 20 (.r 8)),
      .one (.idx 21 (.r 19) (.r 20) 4),
      .one (.fad 22 (.r 21) 0),
      .one (.load 23 (.r 22) 3 true),
      .one (.load 24 (.r 4) 3 true),
      .one (.eq 25 true (.strct [.i, .i, .i]) (.r 23) (.r 24))])
            (.cond (.r 25)
             /- R6 -/ (.ops [.it (.one (.mov 26 (.r 7))),
      .it (.one (.mov 27 (.r 0))),
      .it (.one (.mov 28 (.r 8))),
      .it (.one (.idx 29 (.r 27) (.r 28) 4)),
      .it (.one (.load 30 (.r 29) 4 true)),
      .it (.one (.bslp 31 4 [(.r 30)])),
      .it (.one (.appd 32 (.r 26) (.r 31) 4 32)),
      .it (.one (.mov 7 (.r 32)))]) .skip)))
          /- R4 -/ (.ops [.it (.one (.mov 17 (.r 8))),
      .it (.one (.bin 18 .add (.r 17) (.c (.int .i64 (1))))),
      .it (.one (.mov 8 (.r 18)))])))))))
     (.seq
      /- R7 -/ (.post (.ops [.it (.one (.mov 33 (.r 7))),
      .it (.one (.mov 6 (.r 33)))]) (.frz 12)) .ret))))
theorem A14_ok : okFun Try.prog 14 34 0 A14 [.tmp 6] [] = true := by kernel_rfl
/-- dyehouse/dyehouseref29.Do -/
def A15 : ACode :=
  (.seq
   /- R0 -/ (.ops [.it (.one (.boxp 3 (.r 1))),
      .it (.one (.mov 4 (.c (.sl []))))])
   (.seq
    (.seq
     /- R1 -/ (.ops [.it (.one (.fad 9 (.r 3) 0)),
      .it (.one (.load 10 (.r 9) 1 false)),
      .it (.one (.bin 11 .eql (.r 10) (.c (.int .i64 (27))))),
      .it (.one (.mov 12 (.r 11))),
      .it (.grp 12 true [.fad 13 (.r 3) 5, .load 14 (.r 13) 1 false, .len 15 (.r 14), .bin 16 .eql (.r 15) (.c (.int .i64 (2)))]),
      .it (.one (.pick 17 (.r 12) (.r 16) (.c (.bool false))))])
     (.cond (.r 17)
      (.seq
       /- R2 -/ (.post (.post (.draw [[], [0], [0, 1], [0, 1, 2], [0, 1, 2, 3], [], [5], [5, 6], [5, 6, 7], [0, 1, 2, 3, 4, 5, 6, 7, 8], [], [], [0, 1, 2, 3, 4, 5, 6, 7, 8, 9, 10, 11], [0, 1, 2, 3, 4, 5, 6, 7, 8, 9, 10, 11, 12]] [.one (.fad 18 (.r 3) 5),
      .one (.load 19 (.r 18) 1 false),
      .one (.idx 20 (.r 19) (.c (.int .i64 (0))) 4),
      .one (.load 21 (.r 20) 4 true),
      .one (.callf (some 22) (.st 31) [(.r 21)]),
      .one (.fad 23 (.r 3) 5),
      .one (.load 24 (.r 23) 1 false),
      .one (.idx 25 (.r 24) (.c (.int .i64 (1))) 4),
      .one (.load 26 (.r 25) 4 true),
      .one (.callf (some 27) (.st 31) [(.r 26)]),
      .one (.alloc 5 5 [.int .i64 0, .int .i64 0, .int .i64 0]),
      .one (.alloc 6 6 [.int .i64 0, .int .i64 0, .int .i64 0]),
      .one (.store (.r 5) (.r 22) 3),
      .one (.store (.r 6) (.r 27) 3)]) (.frz 5)) (.frz 6))
       (.seq
        /- R3 -/ (.draw [[], [], [0, 1], [], [], [0, 1, 2, 3, 4], [0, 1, 2, 3, 4, 5], [0, 1, 2, 3, 4, 5, 6]] [.one (.mov 28 (.r 0)),
      .one (.load 29 (.r 5) 3 true),
      .one (.callf (some 30) (.st 16) [(.r 28), (.r 29)]),
      .one (.mov 31 (.r 0)),
      .one (.load 32 (.r 6) 3 true),
      .one (.callf (some 33) (.st 16) [(.r 31), (.r 32)]),
      .one (.mov 7 (.r 30)),
      .one (.mov 8 (.r 33))])
        (.seq
         /- R4 -/ (.draw [[], [], [], [0, 1, 2], [], [], [0, 1, 2, 3, 4, 5], [0, 1, 2, 3, 4, 5, 6]] [.one (.mov 34 (.r 0)),
      .one (.load 35 (.r 5) 3 true),
      .one (.mov 36 (.r 8)),
      .one (.callf (some 37) (.st 14) [(.r 34), (.r 35), (.r 36)]),
      .one (.load 38 (.r 6) 3 true),
      .one (.mov 39 (.r 7)),
      .one (.callf (some 40) (.st 14) [(.r 37), (.r 38), (.r 39)]),
      .one (.mov 4 (.r 40))]) .ret))) .skip))
    (.seq
     (.seq
      /- R5 -/ (.ops [.it (.one (.fad 41 (.r 3) 5)),
      .it (.one (.load 42 (.r 41) 1 false)),
      .it (.one (.len 43 (.r 42))),
      .it (.one (.bin 44 .eql (.r 43) (.c (.int .i64 (1)))))])
      (.cond (.r 44)
       (.seq
        /- R6 -/ (.draw [[], [], [1], [1, 2], [], [], [5], [5, 6], [5, 6, 7], [1, 2, 3, 5, 6, 7, 8], [1, 2, 3, 4, 5, 6, 7, 8, 9], [0, 1, 2, 3, 4, 5, 6, 7, 8, 9, 10], [0, 1, 2, 3, 4, 5, 6, 7, 8, 9, 10, 11]] [.one (.mov 45 (.r 0)),
      .one (.fad 46 (.r 3) 1),
      .one (.load 47 (.r 46) 4 true),
      .one (.callf (some 48) (.st 31) [(.r 47)]),
      .one (.mov 49 (.r 0)),
      .one (.fad 50 (.r 3) 5),
      .one (.load 51 (.r 50) 1 false),
      .one (.idx 52 (.r 51) (.c (.int .i64 (0))) 4),
      .one (.load 53 (.r 52) 4 true),
      .one (.callf (some 54) (.st 31) [(.r 53)]),
      .one (.callf (some 55) (.st 16) [(.r 49), (.r 54)]),
      .one (.callf (some 56) (.st 14) [(.r 45), (.r 48), (.r 55)]),
      .one (.mov 4 (.r 56))]) .ret) .skip))
     (.seq
      /- R7 -/ (.ops [.it (.one (.mov 57 (.r 0))),
      .it (.one (.mov 4 (.r 57)))]) .ret))))
theorem A15_ok : okFun Try.prog 15 58 0 A15 [.tmp 4] [] = true := by kernel_rfl
/-- dyehouse/dyehouseref29.Get -/
def A16 : ACode :=
  (.seq
   /- R0 -/ (.ops [.it (.one (.boxp 3 (.r 1))),
      .it (.one (.mov 4 (.c (.int .i64 (0)))))])
   (.seq
    (.seq
     /- R1 -/ (.ops [.it (.one (.mov 5 (.c (.int .i64 (0)))))])
     (.block 0
      (.loop (.pre (.mv [0, 3, 5] [])
       (.seq
        (.seq
         /- R2 -/ (.ops [.it (.one (.mov 6 (.r 5))),
      .it (.one (.mov 7 (.r 0))),
      .it (.one (.len 8 (.r 7))),
      .it (.one (.bin 9 .lss (.r 6) (.r 8)))])
         (.cond (.r 9) .skip (.exit 0)))
        (.seq
         (.block 1
          (.seq
           /- R4 -/ (.draw [[], [], [0, 1], [0, 1, 2], [0, 1, 2, 3], [], [0, 1, 2, 3, 4, 5]] [.one (.mov 12 (.r 0)),
      .one (.mov 13 (.r 5)),
      .one (.idx 14 (.r 12) (.r 13) 4),
      .one (.fad 15 (.r 14) 0),
      .one (.load 16 (.r 15) 3 true),
      .one (.load 17 (.r 3) 3 true),
      .one (.eq 18 false (.strct [.i, .i, .i]) (.r 16) (.r 17))])
           (.cond (.r 18)
            (.seq
             /- R5 -/ (.ops [.it (.one (.mov 19 (.r 0))),
      .it (.one (.mov 20 (.r 5))),
      .it (.one (.idx 21 (.r 19) (.r 20) 4)),
      .it (.one (.fad 22 (.r 21) 3)),
      .it (.one (.load 23 (.r 22) 1 false)),
      .it (.one (.mov 4 (.r 23)))]) .ret) .skip)))
         /- R3 -/ (.ops [.it (.one (.mov 10 (.r 5))),
      .it (.one (.bin 11 .add (.r 10) (.c (.int .i64 (1))))),
      .it (.one (.mov 5 (.r 11)))])))))))
    (.seq
     /- R6 -/ (.ops [.it (.one (.mov 4 (.c (.int .i64 (0)))))]) .ret)))
theorem A16_ok : okFun Try.prog 16 24 0 A16 [.tmp 4] [] = true := by kernel_rfl
/-- dyehouse/dyehouseref11.Takes -/
def A17 : ACode :=
  (.seq
   /- R0 -/ (.ops [.it (.one (.mov 8 (.c (.bool false))))])
   (.seq
    /- R1 -/ (.ops [.it (.one (.mov 13 (.r 0))),
      .it (.one (.mov 14 (.r 1))),
      .it (.one (.callf (some 15) (.st 32) [(.r 13), (.r 14)])),
      .it (.one (.mov 9 (.r 15)))])
    (.seq
     /- R2 -/ (.post (.ops [.it (.one (.mov 17 (.r 0))),
      .it (.one (.callf (some 18) (.st 33) [(.r 17)])),
      .it (.one (.mov 16 (.r 18))),
      .it (.one (.ext 19 (.r 16) 0)),
      .it (.one (.ext 20 (.r 16) 1)),
      .it (.one (.alloc 10 10 [.str .empty, .str .empty, .sl [], .int .i64 0, .bool false])),
      .it (.one (.store (.r 10) (.r 19) 5)),
      .it (.one (.mov 11 (.r 20)))]) (.frz 10))
     (.seq
      /- R3 -/ (.ops [.it (.one (.mov 21 (.r 9))),
      .it (.one (.callf (some 22) (.st 34) [(.r 21), (.c (.int .u8 (103)))])),
      .it (.one (.mov 23 (.r 22))),
      .it (.grp 23 false [.mov 24 (.r 9), .callf (some 25) (.st 34) [(.r 24), (.c (.int .u8 (120)))]]),
      .it (.one (.pick 26 (.r 23) (.c (.bool true)) (.r 25))),
      .it (.one (.mov 12 (.r 26)))])
      (.seq
       (.seq
        /- R4 -/ (.ops [.it (.one (.mov 27 (.r 2)))])
        (.block 0
         (.seq
          /- R5 -/ (.ops [.it (.one (.bin 29 .eql (.r 27) (.c (.int .i64 (0))))),
      .it (.one (.mov 28 (.r 29)))])
          (.cond (.r 28)
           (.seq
            /- R6 -/ (.ops [.it (.one (.mov 30 (.r 1))),
      .it (.one (.bin 31 .eql (.r 30) (.c (.int .i64 (-1))))),
      .it (.one (.mov 32 (.r 31))),
      .it (.grp 32 true [.mov 33 (.r 9), .bin 34 .eql (.r 33) (.c (.str ⟨#[]⟩)), .mov 35 (.r 34)]),
      .it (.grp 35 false [.mov 36 (.r 9), .callf (some 37) (.st 34) [(.r 36), (.c (.int .u8 (110)))]]),
      .it (.grp 32 true [.pick 38 (.r 35) (.c (.bool true)) (.r 37)]),
      .it (.one (.pick 39 (.r 32) (.r 38) (.c (.bool false)))),
      .it (.one (.mov 8 (.r 39)))]) .ret)
           (.seq
            /- R7 -/ (.ops [.it (.one (.bin 41 .eql (.r 27) (.c (.int .i64 (1))))),
      .it (.one (.mov 40 (.r 41)))])
            (.cond (.r 40)
             (.seq
              /- R8 -/ (.ops [.it (.one (.mov 42 (.r 3))),
      .it (.one (.un 43 .not (.r 42))),
      .it (.one (.mov 44 (.r 43))),
      .it (.grp 44 true [.fad 45 (.r 10) 4, .load 46 (.r 45) 1 false, .un 47 .not (.r 46)]),
      .it (.one (.pick 48 (.r 44) (.r 47) (.c (.bool false)))),
      .it (.one (.mov 49 (.r 48))),
      .it (.grp 49 true [.mov 50 (.r 12)]),
      .it (.one (.pick 51 (.r 49) (.r 50) (.c (.bool false)))),
      .it (.one (.mov 8 (.r 51)))]) .ret)
             (.seq
              /- R9 -/ (.ops [.it (.one (.bin 53 .eql (.r 27) (.c (.int .i64 (2))))),
      .it (.one (.mov 52 (.r 53)))])
              (.cond (.r 52)
               (.seq
                /- R10 -/ (.ops [.it (.one (.mov 54 (.r 3))),
      .it (.one (.mov 55 (.r 54))),
      .it (.grp 55 true [.mov 56 (.r 12)]),
      .it (.one (.pick 57 (.r 55) (.r 56) (.c (.bool false)))),
      .it (.one (.mov 8 (.r 57)))]) .ret)
               (.seq
                /- R11 -/ (.ops [.it (.one (.bin 59 .eql (.r 27) (.c (.int .i64 (3))))),
      .it (.one (.mov 58 (.r 59)))])
                (.cond (.r 58)
                 (.seq
                  /- R12 -/ (.ops [.it (.one (.mov 60 (.r 3))),
      .it (.one (.mov 61 (.r 60))),
      .it (.grp 61 true [.mov 62 (.r 9), .callf (some 63) (.st 34) [(.r 62), (.c (.int .u8 (115)))]]),
      .it (.one (.pick 64 (.r 61) (.r 63) (.c (.bool false)))),
      .it (.one (.mov 8 (.r 64)))]) .ret)
                 (.seq
                  /- R13 -/ (.ops [.it (.one (.bin 66 .eql (.r 27) (.c (.int .i64 (4))))),
      .it (.one (.mov 65 (.r 66)))])
                  (.cond (.r 65)
                   (.seq
                    /- R14 -/ (.ops [.it (.one (.mov 67 (.r 9))),
      .it (.one (.callf (some 68) (.st 34) [(.r 67), (.c (.int .u8 (105)))])),
      .it (.one (.mov 8 (.r 68)))]) .ret) .skip))))))))))))
       (.seq
        /- R15 -/ (.ops [.it (.one (.mov 8 (.c (.bool false))))]) .ret))))))
theorem A17_ok : okFun Try.prog 17 69 0 A17 [.tmp 8] [] = true := by kernel_rfl
/-- dyehouse/dyehouselaw29.g -/
def A18 : ACode :=
  (.seq
   /- R0 -/ (.ops [.it (.one (.alloc 2 2 [.int .i64 0, .int .i64 0, .int .i64 0]))])
   (.seq
    /- R1 -/ (.ops [.it (.one (.mov 3 (.r 0))),
      .it (.one (.build 4 [.int .i64 0, .int .i64 0, .int .i64 0] [(0, 1, (.c (.int .i64 (2)))), (2, 1, (.r 3))])),
      .it (.one (.store (.r 2) (.r 4) 3))]) .ret))
theorem A18_ok : okFun Try.prog 18 5 0 A18 [.cell 2 3 true] [] = true := by kernel_rfl
/-- dyehouse/moves.Split -/
def A19 : ACode :=
  (.seq
   /- R0 -/ (.ops [.it (.one (.nilarr 2 2 7)),
      .it (.one (.nilarr 3 3 7))])
   (.seq
    (.seq
     /- R1 -/ (.ops [.it (.one (.mov 6 (.r 0))),
      .it (.one (.len 7 (.r 6))),
      .it (.one (.mov 8 (.c (.int .i64 (0)))))])
     (.block 0
      (.loop (.pre (.mv [2, 3, 6, 7, 8] [(2, 2), (3, 3)])
       (.seq
        /- R2 -/ (.ops [.it (.one (.bin 9 .lss (.r 8) (.r 7)))])
        (.seq
         (.cond (.r 9) .skip (.exit 0))
         (.seq
          (.block 1
           (.seq
            /- R3 -/ (.post (.ops [.it (.one (.idx 10 (.r 6) (.r 8) 7)),
      .it (.one (.load 11 (.r 10) 7 true)),
      .it (.one (.alloc 5 5 [.int .i64 0, .int .i64 0, .int .i64 0, .int .i64 0, .int .i64 0, .int .i64 0, .int .i64 0])),
      .it (.one (.store (.r 5) (.r 11) 7))]) (.frz 5))
            (.block 2
             (.seq
              /- R5 -/ (.ops [.it (.one (.fad 17 (.r 5) 1)),
      .it (.one (.load 18 (.r 17) 3 true)),
      .it (.one (.fad 19 (.r 5) 4)),
      .it (.one (.load 20 (.r 19) 3 true)),
      .it (.one (.eq 21 false (.strct [.i, .i, .i]) (.r 18) (.r 20))),
      .it (.one (.mov 16 (.r 21)))])
              (.cond (.r 16) .skip
               (.seq
                /- R6 -/ (.ops [.it (.one (.mov 23 (.r 2))),
      .it (.one (.mkfn 24 36 [(.r 5)])),
      .it (.one (.callb (some 25) (.st 35) [(.r 23), (.r 24)])),
      .it (.one (.mov 22 (.r 25)))])
                (.cond (.r 22)
                 /- R7 -/ (.ops [.it (.one (.mov 26 (.r 3))),
      .it (.one (.load 27 (.r 5) 7 true)),
      .it (.one (.bslp 28 7 [(.r 27)])),
      .it (.one (.appd 29 (.r 26) (.r 28) 7 56)),
      .it (.one (.mov 3 (.r 29)))])
                 /- R4 -/ (.ops [.it (.one (.mov 12 (.r 2))),
      .it (.one (.load 13 (.r 5) 7 true)),
      .it (.one (.bslp 14 7 [(.r 13)])),
      .it (.one (.appd 15 (.r 12) (.r 14) 7 56)),
      .it (.one (.mov 2 (.r 15)))]))))))))
          /- R8 -/ (.ops [.it (.one (.bin 30 .add (.r 8) (.c (.int .i64 (1))))),
      .it (.one (.mov 8 (.r 30)))]))))))))
    (.seq
     /- R9 -/ (.ops [.it (.one (.mov 31 (.r 2))),
      .it (.one (.mov 32 (.r 3))),
      .it (.one (.mov 2 (.r 31))),
      .it (.one (.mov 3 (.r 32)))]) .ret)))
theorem A19_ok : okFun Try.prog 19 33 0 A19 [.tmp 2, .tmp 3] [2, 3] = true := by kernel_rfl
/-- dyehouse/dyehouseref12.same -/
def A20 : ACode :=
  (.seq
   /- R0 -/ (.ops [.it (.one (.mov 4 (.c (.bool false))))])
   (.seq
    (.seq
     /- R1 -/ (.ops [.it (.one (.mov 6 (.r 0))),
      .it (.one (.len 7 (.r 6))),
      .it (.one (.mov 8 (.r 1))),
      .it (.one (.len 9 (.r 8))),
      .it (.one (.bin 10 .neq (.r 7) (.r 9)))])
     (.cond (.r 10)
      (.seq
       /- R2 -/ (.ops [.it (.one (.mov 4 (.c (.bool false))))]) .ret) .skip))
    (.seq
     (.seq
      /- R3 -/ (.ops [.it (.one (.mov 5 (.c (.int .i64 (0)))))])
      (.block 0
       (.loop (.pre (.mv [0, 1, 5] [])
        (.seq
         (.seq
          /- R4 -/ (.ops [.it (.one (.mov 11 (.r 5))),
      .it (.one (.mov 12 (.r 0))),
      .it (.one (.len 13 (.r 12))),
      .it (.one (.bin 14 .lss (.r 11) (.r 13)))])
          (.cond (.r 14) .skip (.exit 0)))
         (.seq
          (.block 1
           (.seq
            /- R6 -/ (.draw [[], [], [0, 1], [0, 1, 2], [], [], [4, 5], [4, 5, 6], [0, 1, 2, 3, 4, 5, 6, 7]] [.one (.mov 17 (.r 0)),
      .one (.mov 18 (.r 5)),
      .one (.idx 19 (.r 17) (.r 18) 4),
      .one (.load 20 (.r 19) 4 true),
      .one (.mov 21 (.r 1)),
      .one (.mov 22 (.r 5)),
      .one (.idx 23 (.r 21) (.r 22) 4),
      .one (.load 24 (.r 23) 4 true),
      .one (.eq 25 true (.strct [.i, .i, .i, .i]) (.r 20) (.r 24))])
            (.cond (.r 25)
             (.seq
              /- R7 -/ (.ops [.it (.one (.mov 4 (.c (.bool false))))]) .ret) .skip)))
          /- R5 -/ (.ops [.it (.one (.mov 15 (.r 5))),
      .it (.one (.bin 16 .add (.r 15) (.c (.int .i64 (1))))),
      .it (.one (.mov 5 (.r 16)))])))))))
     (.seq
      /- R8 -/ (.ops [.it (.one (.mov 4 (.c (.bool true))))]) .ret))))
theorem A20_ok : okFun Try.prog 20 26 0 A20 [.tmp 4] [] = true := by kernel_rfl
/-- dyehouse/dyehouseref12.Texts -/
def A21 : ACode :=
  (.seq
   /- R0 -/ (.ops [.it (.one (.mov 4 (.c (.bool false))))])
   (.seq
    (.seq
     /- R1 -/ (.ops [.it (.one (.mov 6 (.r 0))),
      .it (.one (.len 7 (.r 6))),
      .it (.one (.mov 8 (.r 1))),
      .it (.one (.len 9 (.r 8))),
      .it (.one (.bin 10 .neq (.r 7) (.r 9)))])
     (.cond (.r 10)
      (.seq
       /- R2 -/ (.ops [.it (.one (.mov 4 (.c (.bool false))))]) .ret) .skip))
    (.seq
     (.seq
      /- R3 -/ (.ops [.it (.one (.mov 5 (.c (.int .i64 (0)))))])
      (.block 0
       (.loop (.pre (.mv [0, 1, 5] [])
        (.seq
         (.seq
          /- R4 -/ (.ops [.it (.one (.mov 11 (.r 5))),
      .it (.one (.mov 12 (.r 0))),
      .it (.one (.len 13 (.r 12))),
      .it (.one (.bin 14 .lss (.r 11) (.r 13)))])
          (.cond (.r 14) .skip (.exit 0)))
         (.seq
          (.block 1
           (.seq
            /- R6 -/ (.draw [[], [], [0, 1], [0, 1, 2], [], [], [4, 5], [4, 5, 6], [0, 1, 2, 3, 4, 5, 6, 7]] [.one (.mov 17 (.r 0)),
      .one (.mov 18 (.r 5)),
      .one (.idx 19 (.r 17) (.r 18) 1),
      .one (.load 20 (.r 19) 1 false),
      .one (.mov 21 (.r 1)),
      .one (.mov 22 (.r 5)),
      .one (.idx 23 (.r 21) (.r 22) 1),
      .one (.load 24 (.r 23) 1 false),
      .one (.bin 25 .neq (.r 20) (.r 24))])
            (.cond (.r 25)
             (.seq
              /- R7 -/ (.ops [.it (.one (.mov 4 (.c (.bool false))))]) .ret) .skip)))
          /- R5 -/ (.ops [.it (.one (.mov 15 (.r 5))),
      .it (.one (.bin 16 .add (.r 15) (.c (.int .i64 (1))))),
      .it (.one (.mov 5 (.r 16)))])))))))
     (.seq
      /- R8 -/ (.ops [.it (.one (.mov 4 (.c (.bool true))))]) .ret))))
theorem A21_ok : okFun Try.prog 21 26 0 A21 [.tmp 4] [] = true := by kernel_rfl
/-- dyehouse/dyehouseref12.Ints -/
def A22 : ACode :=
  (.seq
   /- R0 -/ (.ops [.it (.one (.mov 4 (.c (.bool false))))])
   (.seq
    (.seq
     /- R1 -/ (.ops [.it (.one (.mov 6 (.r 0))),
      .it (.one (.len 7 (.r 6))),
      .it (.one (.mov 8 (.r 1))),
      .it (.one (.len 9 (.r 8))),
      .it (.one (.bin 10 .neq (.r 7) (.r 9)))])
     (.cond (.r 10)
      (.seq
       /- R2 -/ (.ops [.it (.one (.mov 4 (.c (.bool false))))]) .ret) .skip))
    (.seq
     (.seq
      /- R3 -/ (.ops [.it (.one (.mov 5 (.c (.int .i64 (0)))))])
      (.block 0
       (.loop (.pre (.mv [0, 1, 5] [])
        (.seq
         (.seq
          /- R4 -/ (.ops [.it (.one (.mov 11 (.r 5))),
      .it (.one (.mov 12 (.r 0))),
      .it (.one (.len 13 (.r 12))),
      .it (.one (.bin 14 .lss (.r 11) (.r 13)))])
          (.cond (.r 14) .skip (.exit 0)))
         (.seq
          (.block 1
           (.seq
            /- R6 -/ (.draw [[], [], [0, 1], [0, 1, 2], [], [], [4, 5], [4, 5, 6], [0, 1, 2, 3, 4, 5, 6, 7]] [.one (.mov 17 (.r 0)),
      .one (.mov 18 (.r 5)),
      .one (.idx 19 (.r 17) (.r 18) 1),
      .one (.load 20 (.r 19) 1 false),
      .one (.mov 21 (.r 1)),
      .one (.mov 22 (.r 5)),
      .one (.idx 23 (.r 21) (.r 22) 1),
      .one (.load 24 (.r 23) 1 false),
      .one (.bin 25 .neq (.r 20) (.r 24))])
            (.cond (.r 25)
             (.seq
              /- R7 -/ (.ops [.it (.one (.mov 4 (.c (.bool false))))]) .ret) .skip)))
          /- R5 -/ (.ops [.it (.one (.mov 15 (.r 5))),
      .it (.one (.bin 16 .add (.r 15) (.c (.int .i64 (1))))),
      .it (.one (.mov 5 (.r 16)))])))))))
     (.seq
      /- R8 -/ (.ops [.it (.one (.mov 4 (.c (.bool true))))]) .ret))))
theorem A22_ok : okFun Try.prog 22 26 0 A22 [.tmp 4] [] = true := by kernel_rfl
/-- dyehouse/ir.Put -/
def A23 : ACode :=
  (.seq
   /- R0 -/ (.ops [.it (.one (.boxp 2 (.r 0))),
      .it (.one (.alloc 4 4 [.int .i64 0, .int .i64 0, .int .i64 0, .int .i64 0]))])
   (.seq
    /- R1 -/ (.ops [.it (.one (.fad 5 (.r 2) 0)),
      .it (.one (.load 6 (.r 5) 1 false)),
      .it (.one (.fad 7 (.r 2) 1)),
      .it (.one (.load 8 (.r 7) 1 false)),
      .it (.one (.fad 9 (.r 2) 2)),
      .it (.one (.load 10 (.r 9) 1 false)),
      .it (.one (.mov 11 (.r 1))),
      .it (.one (.build 12 [.int .i64 0, .int .i64 0, .int .i64 0, .int .i64 0] [(0, 1, (.r 6)), (1, 1, (.r 8)), (2, 1, (.r 10)), (3, 1, (.r 11))])),
      .it (.one (.store (.r 4) (.r 12) 4))]) .ret))
theorem A23_ok : okFun Try.prog 23 13 0 A23 [.cell 4 4 true] [] = true := by kernel_rfl
/-- dyehouse/dyehouseref29.put -/
def A24 : ACode :=
  (.seq
   /- R0 -/ (.ops [.it (.one (.boxp 2 (.r 0))),
      .it (.one (.alloc 4 4 [.int .i64 0, .int .i64 0, .int .i64 0, .int .i64 0]))])
   (.seq
    /- R1 -/ (.ops [.it (.one (.fad 5 (.r 2) 0)),
      .it (.one (.load 6 (.r 5) 1 false)),
      .it (.one (.fad 7 (.r 2) 1)),
      .it (.one (.load 8 (.r 7) 1 false)),
      .it (.one (.fad 9 (.r 2) 2)),
      .it (.one (.load 10 (.r 9) 1 false)),
      .it (.one (.mov 11 (.r 1))),
      .it (.one (.build 12 [.int .i64 0, .int .i64 0, .int .i64 0, .int .i64 0] [(0, 1, (.r 6)), (1, 1, (.r 8)), (2, 1, (.r 10)), (3, 1, (.r 11))])),
      .it (.one (.store (.r 4) (.r 12) 4))]) .ret))
theorem A24_ok : okFun Try.prog 24 13 0 A24 [.cell 4 4 true] [] = true := by kernel_rfl
/-- dyehouse/moves.Order$1 -/
def A25 : ACode :=
  (.seq
   /- R0 -/ (.ops [.it (.one (.boxp 2 (.r 0)))])
   /- R1 -/ (.ops [.it (.one (.load 3 (.r 1) 1 false)),
      .it (.one (.load 4 (.r 2) 10 true)),
      .it (.one (.bslp 5 10 [(.r 4)])),
      .it (.one (.appd 6 (.r 3) (.r 5) 10 136)),
      .it (.one (.store (.r 1) (.r 6) 1))]))
theorem A25_ok : okFun Try.prog 25 7 2 A25 [] [] = true := by kernel_rfl
/-- dyehouse/moves.free -/
def A26 : ACode :=
  (.seq
   /- R0 -/ (.ops [.it (.one (.boxp 1 (.r 0))),
      .it (.one (.mov 2 (.c (.int .i64 (0)))))])
   (.seq
    /- R1 -/ (.ops [.it (.one (.load 3 (.r 1) 1 false)),
      .it (.one (.mkfn 4 38 [(.r 1)])),
      .it (.one (.callf (some 5) (.st 37) [(.r 3), (.r 4)])),
      .it (.one (.mov 2 (.r 5)))]) .ret))
theorem A26_ok : okFun Try.prog 26 6 0 A26 [.tmp 2] [] = true := by kernel_rfl
/-- slices.Delete[[]dyehouse/api.Move,dyehouse/api.Move] -/
def A27 : ACode :=
  (.seq
   /- R0 -/ (.ops [.it (.one (.mov 6 (.c (.sl []))))])
   (.seq
    /- R1 -/ (.ops [.it (.one (.mov 8 (.r 0))),
      .it (.one (.mov 9 (.r 1))),
      .it (.one (.mov 10 (.r 2))),
      .it (.one (.mov 11 (.r 0))),
      .it (.one (.len 12 (.r 11))),
      .it (.one (.slc3 13 (.r 8) (some (.r 9)) (.r 10) (.r 12) 7))])
    (.seq
     (.seq
      /- R2 -/ (.ops [.it (.one (.mov 14 (.r 1))),
      .it (.one (.mov 15 (.r 2))),
      .it (.one (.bin 16 .eql (.r 14) (.r 15)))])
      (.cond (.r 16)
       (.seq
        /- R3 -/ (.ops [.it (.one (.mov 17 (.r 0))),
      .it (.one (.mov 6 (.r 17)))]) .ret) .skip))
     (.seq
      /- R4 -/ (.ops [.it (.one (.mov 18 (.r 0))),
      .it (.one (.len 19 (.r 18))),
      .it (.one (.mov 7 (.r 19)))])
      (.seq
       /- R5 -/ (.draw [[], [], [0, 1], [], [], [3, 4], [0, 1, 2, 3, 4, 5], [0, 1, 2, 3, 4, 5, 6]] [.one (.mov 20 (.r 0)),
      .one (.mov 21 (.r 1)),
      .one (.slc 22 (.r 20) none (some (.r 21)) 7),
      .one (.mov 23 (.r 0)),
      .one (.mov 24 (.r 2)),
      .one (.slc 25 (.r 23) (some (.r 24)) none 7),
      .one (.appd 26 (.r 22) (.r 25) 7 56),
      .one (.mov 0 (.r 26))])
       (.seq
        /- R6 -/ (.ops [.it (.one (.mov 27 (.r 0))),
      .it (.one (.mov 28 (.r 0))),
      .it (.one (.len 29 (.r 28))),
      .it (.one (.mov 30 (.r 7))),
      .it (.one (.slc 31 (.r 27) (some (.r 29)) (some (.r 30)) 7)),
      .it (.one (.clear (.r 31) [.int .i64 0, .int .i64 0, .int .i64 0, .int .i64 0, .int .i64 0, .int .i64 0, .int .i64 0]))])
        (.seq
         /- R7 -/ (.ops [.it (.one (.mov 32 (.r 0))),
      .it (.one (.mov 6 (.r 32)))]) .ret)))))))
theorem A27_ok : okFun Try.prog 27 33 1 A27 [.tmp 6] [] = true := by kernel_rfl
/-- dyehouse/moves.turn -/
def A28 : ACode :=
  (.seq
   /- R0 -/ (.ops [.it (.one (.alloc 2 2 [.int .i64 0, .int .i64 0, .int .i64 0, .int .i64 0, .int .i64 0, .sl [], .str .empty, .int .i64 0, .sl [], .sl []])),
      .it (.one (.mov 3 (.c (.sl []))))])
   (.seq
    /- R1 -/ (.ops [.it (.one (.mov 11 (.r 0))),
      .it (.one (.callb (some 12) (.st 37) [(.r 11), (.c (.fn 40 []))])),
      .it (.one (.mxn 13 true (.r 12) (.c (.int .i64 (0))))),
      .it (.one (.mov 4 (.r 13)))])
    (.seq
     /- R2 -/ (.post (.ops [.it (.one (.mov 14 (.r 0))),
      .it (.one (.mov 15 (.r 4))),
      .it (.one (.idx 16 (.r 14) (.r 15) 7)),
      .it (.one (.load 17 (.r 16) 7 true)),
      .it (.one (.alloc 5 5 [.int .i64 0, .int .i64 0, .int .i64 0, .int .i64 0, .int .i64 0, .int .i64 0, .int .i64 0])),
      .it (.one (.store (.r 5) (.r 17) 7))]) (.frz 5))
     (.seq
      /- R3 -/ (.ops [.it (.one (.mov 18 (.r 0))),
      .it (.one (.mkfn 19 41 [(.r 5)])),
      .it (.one (.callb (some 20) (.st 37) [(.r 18), (.r 19)])),
      .it (.one (.mov 6 (.r 20)))])
      (.seq
       /- R4 -/ (.post (.draw [[], [0], [], [2], [], [4], [], [], [7], [6, 7, 8], [6, 7, 8, 9], [6, 7, 8, 9, 10], [0, 1, 2, 3, 4, 5, 6, 7, 8, 9, 10, 11], [], [0, 1, 2, 3, 4, 5, 6, 7, 8, 9, 10, 11, 12, 13]] [.one (.fad 21 (.r 5) 4),
      .one (.load 22 (.r 21) 3 true),
      .one (.fad 23 (.r 5) 0),
      .one (.load 24 (.r 23) 1 false),
      .one (.fad 25 (.r 5) 1),
      .one (.load 26 (.r 25) 3 true),
      .one (.mov 27 (.r 0)),
      .one (.mov 28 (.r 6)),
      .one (.mxn 29 true (.r 28) (.c (.int .i64 (0)))),
      .one (.idx 30 (.r 27) (.r 29) 7),
      .one (.fad 31 (.r 30) 0),
      .one (.load 32 (.r 31) 1 false),
      .one (.callf (some 33) (.st 42) [(.r 22), (.r 24), (.r 26), (.r 32)]),
      .one (.alloc 7 7 [.int .i64 0, .int .i64 0, .int .i64 0, .int .i64 0, .int .i64 0, .sl [], .str .empty, .int .i64 0, .sl [], .sl []]),
      .one (.store (.r 7) (.r 33) 10)]) (.frz 7))
       (.seq
        /- R5 -/ (.ops [.it (.one (.nilarr 8 8 7))])
        (.seq
         (.seq
          /- R6 -/ (.ops [.it (.one (.mov 34 (.r 0))),
      .it (.one (.len 35 (.r 34))),
      .it (.one (.mov 36 (.c (.int .i64 (0)))))])
          (.block 0
           (.loop (.pre (.mv [2, 4, 5, 7, 8, 34, 35, 36] [(0, 0), (2, 2), (5, 5), (7, 7), (8, 8)])
            (.seq
             /- R7 -/ (.ops [.it (.one (.bin 37 .lss (.r 36) (.r 35)))])
             (.seq
              (.cond (.r 37) .skip (.exit 0))
              (.seq
               (.block 1
                (.seq
                 /- R8 -/ (.ops [.it (.one (.mov 38 (.r 36))),
      .it (.one (.idx 39 (.r 34) (.r 36) 7)),
      .it (.one (.load 40 (.r 39) 7 true)),
      .it (.one (.alloc 10 10 [.int .i64 0, .int .i64 0, .int .i64 0, .int .i64 0, .int .i64 0, .int .i64 0, .int .i64 0])),
      .it (.one (.mov 9 (.r 38))),
      .it (.one (.store (.r 10) (.r 40) 7))])
                 (.seq
                  (.seq
                   /- R9 -/ (.ops [.it (.one (.fad 41 (.r 10) 1)),
      .it (.one (.load 42 (.r 41) 3 true)),
      .it (.one (.fad 43 (.r 5) 4)),
      .it (.one (.load 44 (.r 43) 3 true)),
      .it (.one (.eq 45 false (.strct [.i, .i, .i]) (.r 42) (.r 44)))])
                   (.cond (.r 45)
                    /- R10 -/ (.ops [.it (.one (.fad 46 (.r 5) 1)),
      .it (.one (.load 47 (.r 46) 3 true)),
      .it (.one (.fad 48 (.r 10) 1)),
      .it (.one (.store (.r 48) (.r 47) 3))]) .skip))
                  (.seq
                   /- R11 -/ (.ops [.it (.one (.mov 49 (.r 9))),
      .it (.one (.mov 50 (.r 4))),
      .it (.one (.bin 51 .neq (.r 49) (.r 50))),
      .it (.one (.mov 52 (.r 51))),
      .it (.grp 52 true [.fad 53 (.r 10) 1, .load 54 (.r 53) 3 true, .fad 55 (.r 10) 4, .load 56 (.r 55) 3 true, .eq 57 true (.strct [.i, .i, .i]) (.r 54) (.r 56)]),
      .it (.one (.pick 58 (.r 52) (.r 57) (.c (.bool false))))])
                   (.cond (.r 58)
                    /- R12 -/ (.ops [.it (.one (.mov 59 (.r 8))),
      .it (.one (.load 60 (.r 10) 7 true)),
      .it (.one (.bslp 61 7 [(.r 60)])),
      .it (.one (.appd 62 (.r 59) (.r 61) 7 56)),
      .it (.one (.mov 8 (.r 62)))]) .skip)))))
               /- R13 -/ (.ops [.it (.one (.bin 63 .add (.r 36) (.c (.int .i64 (1))))),
      .it (.one (.mov 36 (.r 63)))]))))))))
         (.seq
          /- R14 -/ (.ops [.it (.one (.load 64 (.r 7) 10 true)),
      .it (.one (.mov 65 (.r 8))),
      .it (.one (.store (.r 2) (.r 64) 10)),
      .it (.one (.mov 3 (.r 65)))]) .ret))))))))
theorem A28_ok : okFun Try.prog 28 66 1 A28 [.cell 2 10 true, .tmp 3] [8] = true := by kernel_rfl
/-- dyehouse/dyehouseref29.from -/
def A29 : ACode :=
  (.seq
   /- R0 -/ (.ops [.it (.one (.boxp 3 (.r 1))),
      .it (.one (.mov 4 (.c (.int .i64 (0)))))])
   (.seq
    (.seq
     /- R1 -/ (.ops [.it (.one (.mov 5 (.c (.int .i64 (0)))))])
     (.block 0
      (.loop (.pre (.mv [0, 3, 5] [])
       (.seq
        (.seq
         /- R2 -/ (.ops [.it (.one (.mov 6 (.r 5))),
      .it (.one (.mov 7 (.r 0))),
      .it (.one (.len 8 (.r 7))),
      .it (.one (.bin 9 .lss (.r 6) (.r 8)))])
         (.cond (.r 9) .skip (.exit 0)))
        (.seq
         (.block 1
          (.seq
           /- R4 -/ (.draw [[], [], [0, 1], [0, 1, 2], [0, 1, 2, 3], [], [0, 1, 2, 3, 4, 5]] [.one (.mov 12 (.r 0)),
      .one (.mov 13 (.r 5)),
      .one (.idx 14 (.r 12) (.r 13) 7),
      .one (.fad 15 (.r 14) 1),
      .one (.load 16 (.r 15) 3 true),
      .one (.load 17 (.r 3) 3 true),
      .one (.eq 18 false (.strct [.i, .i, .i]) (.r 16) (.r 17))])
           (.cond (.r 18)
            (.seq
             /- R5 -/ (.ops [.it (.one (.mov 19 (.r 5))),
      .it (.one (.mov 4 (.r 19)))]) .ret) .skip)))
         /- R3 -/ (.ops [.it (.one (.mov 10 (.r 5))),
      .it (.one (.bin 11 .add (.r 10) (.c (.int .i64 (1))))),
      .it (.one (.mov 5 (.r 11)))])))))))
    (.seq
     /- R6 -/ (.ops [.it (.one (.mov 4 (.c (.int .i64 (-1)))))]) .ret)))
theorem A29_ok : okFun Try.prog 29 20 0 A29 [.tmp 4] [] = true := by kernel_rfl
/-- dyehouse/dyehouseref29.without -/
def A30 : ACode :=
  (.seq
   /- R0 -/ (.ops [.it (.one (.mov 4 (.c (.sl []))))])
   (.seq
    /- R1 -/ (.ops [.it (.one (.nilarr 5 5 7))])
    (.seq
     (.seq
      /- R2 -/ (.ops [.it (.one (.mov 6 (.c (.int .i64 (0)))))])
      (.block 0
       (.loop (.pre (.mv [0, 1, 5, 6] [(5, 5)])
        (.seq
         (.seq
          /- R3 -/ (.ops [.it (.one (.mov 7 (.r 6))),
      .it (.one (.mov 8 (.r 0))),
      .it (.one (.len 9 (.r 8))),
      .it (.one (.bin 10 .lss (.r 7) (.r 9)))])
          (.cond (.r 10) .skip (.exit 0)))
         (.seq
          (.block 1
           (.seq
            /- R5 -/ (.ops [.it (.one (.mov 13 (.r 6))),
      .it (.one (.mov 14 (.r 1))),
      .it (.one (.bin 15 .neq (.r 13) (.r 14)))])
            (.cond (.r 15)
             /- R6 -/ (.ops [.it (.one (.mov 16 (.r 5))),
      .it (.one (.mov 17 (.r 0))),
      .it (.one (.mov 18 (.r 6))),
      .it (.one (.idx 19 (.r 17) (.r 18) 7)),
      .it (.one (.load 20 (.r 19) 7 true)),
      .it (.one (.bslp 21 7 [(.r 20)])),
      .it (.one (.appd 22 (.r 16) (.r 21) 7 56)),
      .it (.one (.mov 5 (.r 22)))]) .skip)))
          /- R4 -/ (.ops [.it (.one (.mov 11 (.r 6))),
      .it (.one (.bin 12 .add (.r 11) (.c (.int .i64 (1))))),
      .it (.one (.mov 6 (.r 12)))])))))))
     (.seq
      /- R7 -/ (.post (.ops [.it (.one (.mov 23 (.r 5))),
      .it (.one (.mov 4 (.r 23)))]) (.frz 5)) .ret))))
theorem A30_ok : okFun Try.prog 30 24 0 A30 [.tmp 4] [] = true := by kernel_rfl
/-- dyehouse/dyehouseref29.at -/
def A31 : ACode :=
  (.seq
   /- R0 -/ (.ops [.it (.one (.boxp 1 (.r 0))),
      .it (.one (.alloc 2 2 [.int .i64 0, .int .i64 0, .int .i64 0]))])
   (.seq
    /- R1 -/ (.ops [.it (.one (.fad 3 (.r 1) 0)),
      .it (.one (.load 4 (.r 3) 1 false)),
      .it (.one (.fad 5 (.r 1) 1)),
      .it (.one (.load 6 (.r 5) 1 false)),
      .it (.one (.fad 7 (.r 1) 2)),
      .it (.one (.load 8 (.r 7) 1 false)),
      .it (.one (.build 9 [.int .i64 0, .int .i64 0, .int .i64 0] [(0, 1, (.r 4)), (1, 1, (.r 6)), (2, 1, (.r 8))])),
      .it (.one (.store (.r 2) (.r 9) 3))]) .ret))
theorem A31_ok : okFun Try.prog 31 10 0 A31 [.cell 2 3 true] [] = true := by kernel_rfl
/-- dyehouse/dyehouseref11.Place -/
def A32 : ACode :=
  (.seq
   /- R0 -/ (.ops [.it (.one (.mov 4 (.c (.str ⟨#[]⟩))))])
   (.seq
    /- R1 -/ (.post (.ops [.it (.one (.mov 8 (.r 0))),
      .it (.one (.callf (some 9) (.st 33) [(.r 8)])),
      .it (.one (.mov 7 (.r 9))),
      .it (.one (.ext 10 (.r 7) 0)),
      .it (.one (.ext 11 (.r 7) 1)),
      .it (.one (.alloc 5 5 [.str .empty, .str .empty, .sl [], .int .i64 0, .bool false])),
      .it (.one (.store (.r 5) (.r 10) 5)),
      .it (.one (.mov 6 (.r 11)))]) (.frz 5))
    (.seq
     (.seq
      /- R2 -/ (.ops [.it (.one (.mov 12 (.r 1))),
      .it (.one (.bin 13 .eql (.r 12) (.c (.int .i64 (-1)))))])
      (.cond (.r 13)
       (.seq
        /- R3 -/ (.ops [.it (.one (.fad 14 (.r 5) 1)),
      .it (.one (.load 15 (.r 14) 1 false)),
      .it (.one (.mov 4 (.r 15)))]) .ret) .skip))
     (.seq
      (.seq
       /- R4 -/ (.ops [.it (.one (.mov 16 (.r 1))),
      .it (.one (.bin 17 .geq (.r 16) (.c (.int .i64 (0))))),
      .it (.one (.mov 18 (.r 17))),
      .it (.grp 18 true [.mov 19 (.r 1), .fad 20 (.r 5) 2, .load 21 (.r 20) 1 false, .len 22 (.r 21), .bin 23 .lss (.r 19) (.r 22)]),
      .it (.one (.pick 24 (.r 18) (.r 23) (.c (.bool false))))])
       (.cond (.r 24)
        (.seq
         /- R5 -/ (.ops [.it (.one (.fad 25 (.r 5) 2)),
      .it (.one (.load 26 (.r 25) 1 false)),
      .it (.one (.mov 27 (.r 1))),
      .it (.one (.idx 28 (.r 26) (.r 27) 1)),
      .it (.one (.load 29 (.r 28) 1 false)),
      .it (.one (.mov 4 (.r 29)))]) .ret) .skip))
      (.seq
       /- R6 -/ (.ops [.it (.one (.mov 4 (.c (.str ⟨#[]⟩))))]) .ret)))))
theorem A32_ok : okFun Try.prog 32 30 0 A32 [.tmp 4] [] = true := by kernel_rfl
/-- dyehouse/dyehouseref11.Find -/
def A33 : ACode :=
  (.seq
   /- R0 -/ (.ops [.it (.one (.alloc 2 2 [.str .empty, .str .empty, .sl [], .int .i64 0, .bool false])),
      .it (.one (.mov 3 (.c (.bool false))))])
   (.seq
    /- R1 -/ (.ops [.it (.one (.callf (some 5) (.st 43) [])),
      .it (.one (.mov 4 (.r 5)))])
    (.seq
     (.seq
      /- R2 -/ (.ops [.it (.one (.mov 6 (.r 0))),
      .it (.one (.bin 7 .lss (.r 6) (.c (.int .i64 (1))))),
      .it (.one (.mov 8 (.r 7))),
      .it (.grp 8 false [.mov 9 (.r 0), .mov 10 (.r 4), .len 11 (.r 10), .bin 12 .gtr (.r 9) (.r 11)]),
      .it (.one (.pick 13 (.r 8) (.c (.bool true)) (.r 12)))])
      (.cond (.r 13)
       (.seq
        /- R3 -/ (.ops [.it (.one (.build 14 [.str .empty, .str .empty, .sl [], .int .i64 0, .bool false] [])),
      .it (.one (.store (.r 2) (.r 14) 5)),
      .it (.one (.mov 3 (.c (.bool false))))]) .ret) .skip))
     (.seq
      /- R4 -/ (.ops [.it (.one (.mov 15 (.r 4))),
      .it (.one (.mov 16 (.r 0))),
      .it (.one (.bin 17 .sub (.r 16) (.c (.int .i64 (1))))),
      .it (.one (.idx 18 (.r 15) (.r 17) 5)),
      .it (.one (.load 19 (.r 18) 5 true)),
      .it (.one (.store (.r 2) (.r 19) 5)),
      .it (.one (.mov 3 (.c (.bool true))))]) .ret))))
theorem A33_ok : okFun Try.prog 33 20 0 A33 [.cell 2 5 true, .tmp 3] [] = true := by kernel_rfl
/-- dyehouse/dyehouseref11.has -/
def A34 : ACode :=
  (.seq
   /- R0 -/ (.ops [.it (.one (.mov 4 (.c (.bool false))))])
   (.seq
    (.seq
     /- R1 -/ (.ops [.it (.one (.mov 5 (.c (.int .i64 (0)))))])
     (.block 0
      (.loop (.pre (.mv [0, 1, 5] [])
       (.seq
        (.seq
         /- R2 -/ (.ops [.it (.one (.mov 6 (.r 5))),
      .it (.one (.mov 7 (.r 0))),
      .it (.one (.slen 8 (.r 7))),
      .it (.one (.bin 9 .lss (.r 6) (.r 8)))])
         (.cond (.r 9) .skip (.exit 0)))
        (.seq
         (.block 1
          (.seq
           /- R4 -/ (.ops [.it (.one (.mov 12 (.r 0))),
      .it (.one (.mov 13 (.r 5))),
      .it (.one (.sidx 14 (.r 12) (.r 13))),
      .it (.one (.mov 15 (.r 1))),
      .it (.one (.bin 16 .eql (.r 14) (.r 15)))])
           (.cond (.r 16)
            (.seq
             /- R5 -/ (.ops [.it (.one (.mov 4 (.c (.bool true))))]) .ret) .skip)))
         /- R3 -/ (.ops [.it (.one (.mov 10 (.r 5))),
      .it (.one (.bin 11 .add (.r 10) (.c (.int .i64 (1))))),
      .it (.one (.mov 5 (.r 11)))])))))))
    (.seq
     /- R6 -/ (.ops [.it (.one (.mov 4 (.c (.bool false))))]) .ret)))
theorem A34_ok : okFun Try.prog 34 17 0 A34 [.tmp 4] [] = true := by kernel_rfl
/-- slices.ContainsFunc[[]dyehouse/api.Move,dyehouse/api.Move] -/
def A35 : ACode :=
  (.seq
   /- R0 -/ (.ops [.it (.one (.mov 4 (.c (.bool false))))])
   (.seq
    /- R1 -/ (.ops [.it (.one (.mov 5 (.r 0))),
      .it (.one (.mov 6 (.r 1))),
      .it (.one (.callf (some 7) (.st 37) [(.r 5), (.r 6)])),
      .it (.one (.bin 8 .geq (.r 7) (.c (.int .i64 (0))))),
      .it (.one (.mov 4 (.r 8)))]) .ret))
theorem A35_ok : okFun Try.prog 35 9 0 A35 [.tmp 4] [] = true := by kernel_rfl
/-- dyehouse/moves.Split$1 -/
def A36 : ACode :=
  (.seq
   /- R0 -/ (.ops [.it (.one (.boxp 2 (.r 0))),
      .it (.one (.mov 3 (.c (.bool false))))])
   (.seq
    /- R1 -/ (.ops [.it (.one (.fad 4 (.r 2) 4)),
      .it (.one (.load 5 (.r 4) 3 true)),
      .it (.one (.fad 6 (.r 1) 4)),
      .it (.one (.load 7 (.r 6) 3 true)),
      .it (.one (.eq 8 false (.strct [.i, .i, .i]) (.r 5) (.r 7))),
      .it (.one (.mov 3 (.r 8)))]) .ret))
theorem A36_ok : okFun Try.prog 36 9 0 A36 [.tmp 3] [] = true := by kernel_rfl
/-- slices.IndexFunc[[]dyehouse/api.Move,dyehouse/api.Move] -/
def A37 : ACode :=
  (.seq
   /- R0 -/ (.ops [.it (.one (.mov 4 (.c (.int .i64 (0)))))])
   (.seq
    (.seq
     /- R1 -/ (.ops [.it (.one (.mov 6 (.r 0))),
      .it (.one (.len 7 (.r 6))),
      .it (.one (.mov 8 (.c (.int .i64 (0)))))])
     (.block 0
      (.loop (.pre (.mv [0, 1, 7, 8] [])
       (.seq
        /- R2 -/ (.ops [.it (.one (.bin 9 .lss (.r 8) (.r 7)))])
        (.seq
         (.cond (.r 9) .skip (.exit 0))
         (.seq
          (.block 1
           (.seq
            /- R3 -/ (.ops [.it (.one (.mov 10 (.r 8))),
      .it (.one (.mov 5 (.r 10)))])
            (.seq
             /- R4 -/ (.ops [.it (.one (.mov 11 (.r 1))),
      .it (.one (.mov 12 (.r 0))),
      .it (.one (.mov 13 (.r 5))),
      .it (.one (.idx 14 (.r 12) (.r 13) 7)),
      .it (.one (.load 15 (.r 14) 7 true)),
      .it (.one (.callf (some 16) (.dy (.r 11)) [(.r 15)]))])
             (.cond (.r 16)
              (.seq
               /- R5 -/ (.ops [.it (.one (.mov 17 (.r 5))),
      .it (.one (.mov 4 (.r 17)))]) .ret) .skip))))
          /- R6 -/ (.ops [.it (.one (.bin 18 .add (.r 8) (.c (.int .i64 (1))))),
      .it (.one (.mov 8 (.r 18)))]))))))))
    (.seq
     /- R7 -/ (.ops [.it (.one (.mov 4 (.c (.int .i64 (-1)))))]) .ret)))
theorem A37_ok : okFun Try.prog 37 19 0 A37 [.tmp 4] [] = true := by kernel_rfl
/-- dyehouse/moves.free$1 -/
def A38 : ACode :=
  (.seq
   /- R0 -/ (.ops [.it (.one (.boxp 2 (.r 0))),
      .it (.one (.mov 3 (.c (.bool false))))])
   (.seq
    /- R1 -/ (.ops [.it (.one (.load 4 (.r 1) 1 false)),
      .it (.one (.mkfn 5 39 [(.r 2)])),
      .it (.one (.callf (some 6) (.st 35) [(.r 4), (.r 5)])),
      .it (.one (.un 7 .not (.r 6))),
      .it (.one (.mov 3 (.r 7)))]) .ret))
theorem A38_ok : okFun Try.prog 38 8 0 A38 [.tmp 3] [] = true := by kernel_rfl
/-- dyehouse/moves.free$1$1 -/
def A39 : ACode :=
  (.seq
   /- R0 -/ (.ops [.it (.one (.boxp 2 (.r 0))),
      .it (.one (.mov 3 (.c (.bool false))))])
   (.seq
    /- R1 -/ (.ops [.it (.one (.fad 4 (.r 2) 1)),
      .it (.one (.load 5 (.r 4) 3 true)),
      .it (.one (.fad 6 (.r 1) 4)),
      .it (.one (.load 7 (.r 6) 3 true)),
      .it (.one (.eq 8 false (.strct [.i, .i, .i]) (.r 5) (.r 7))),
      .it (.one (.mov 3 (.r 8)))]) .ret))
theorem A39_ok : okFun Try.prog 39 9 0 A39 [.tmp 3] [] = true := by kernel_rfl
/-- dyehouse/moves.turn$1 -/
def A40 : ACode :=
  (.seq
   /- R0 -/ (.ops [.it (.one (.boxp 1 (.r 0))),
      .it (.one (.mov 2 (.c (.bool false))))])
   (.seq
    /- R1 -/ (.ops [.it (.one (.fad 3 (.r 1) 1)),
      .it (.one (.fad 4 (.r 3) 0)),
      .it (.one (.load 5 (.r 4) 1 false)),
      .it (.one (.bin 6 .eql (.r 5) (.c (.int .i64 (2))))),
      .it (.one (.mov 2 (.r 6)))]) .ret))
theorem A40_ok : okFun Try.prog 40 7 0 A40 [.tmp 2] [] = true := by kernel_rfl
/-- dyehouse/moves.turn$2 -/
def A41 : ACode :=
  (.seq
   /- R0 -/ (.ops [.it (.one (.boxp 2 (.r 0))),
      .it (.one (.mov 3 (.c (.bool false))))])
   (.seq
    /- R1 -/ (.ops [.it (.one (.fad 4 (.r 2) 1)),
      .it (.one (.load 5 (.r 4) 3 true)),
      .it (.one (.fad 6 (.r 1) 4)),
      .it (.one (.load 7 (.r 6) 3 true)),
      .it (.one (.eq 8 false (.strct [.i, .i, .i]) (.r 5) (.r 7))),
      .it (.one (.mov 3 (.r 8)))]) .ret))
theorem A41_ok : okFun Try.prog 41 9 0 A41 [.tmp 3] [] = true := by kernel_rfl
/-- dyehouse/moves.swap -/
def A42 : ACode :=
  (.seq
   /- R0 -/ (.ops [.it (.one (.boxp 4 (.r 0))),
      .it (.one (.boxp 6 (.r 2))),
      .it (.one (.alloc 8 8 [.int .i64 0, .int .i64 0, .int .i64 0, .int .i64 0, .int .i64 0, .sl [], .str .empty, .int .i64 0, .sl [], .sl []]))])
   (.seq
    /- R1 -/ (.draw [[], [], [0, 1], [], [], [0, 1, 2, 3, 4], [0, 1, 2, 3, 4, 5], [0, 1, 2, 3, 4, 5, 6], [0, 1, 2, 3, 4, 5, 6, 7]] [.one (.load 9 (.r 4) 3 true),
      .one (.mov 10 (.r 1)),
      .one (.callf (some 11) (.st 23) [(.r 9), (.r 10)]),
      .one (.load 12 (.r 6) 3 true),
      .one (.mov 13 (.r 3)),
      .one (.callf (some 14) (.st 23) [(.r 12), (.r 13)]),
      .one (.bslp 15 4 [(.r 11), (.r 14)]),
      .one (.build 16 [.int .i64 0, .int .i64 0, .int .i64 0, .int .i64 0, .int .i64 0, .sl [], .str .empty, .int .i64 0, .sl [], .sl []] [(0, 1, (.c (.int .i64 (27)))), (5, 1, (.r 15))]),
      .one (.store (.r 8) (.r 16) 10)]) .ret))
theorem A42_ok : okFun Try.prog 42 17 0 A42 [.cell 8 10 true] [] = true := by kernel_rfl
/-- dyehouse/dyehouseref11.All -/
def A43 : ACode :=
  (.seq
   /- R0 -/ (.ops [.it (.one (.mov 0 (.c (.sl []))))])
   (.seq
    /- R1 -/ (.ops [.it (.one (.nilarr 1 1 5))])
    (.seq
     /- R2 -/ (.ops [.it (.one (.bslp 4 1 [(.c (.str ⟨#[97, 100, 100]⟩)), (.c (.str ⟨#[115, 117, 98]⟩)), (.c (.str ⟨#[109, 117, 108]⟩)), (.c (.str ⟨#[97, 110, 100]⟩)), (.c (.str ⟨#[111, 114]⟩)), (.c (.str ⟨#[120, 111, 114]⟩)), (.c (.str ⟨#[115, 104, 108]⟩)), (.c (.str ⟨#[115, 104, 114]⟩)), (.c (.str ⟨#[115, 97, 114]⟩)), (.c (.str ⟨#[100, 105, 118]⟩)), (.c (.str ⟨#[114, 101, 109]⟩)), (.c (.str ⟨#[101, 113]⟩)), (.c (.str ⟨#[110, 101]⟩)), (.c (.str ⟨#[108, 116]⟩)), (.c (.str ⟨#[108, 101]⟩))])),
      .it (.one (.mov 2 (.r 4)))])
     (.seq
      (.seq
       /- R3 -/ (.ops [.it (.one (.mov 3 (.c (.int .i64 (0)))))])
       (.block 0
        (.loop (.pre (.mv [1, 2, 3] [(1, 1)])
         (.seq
          (.seq
           /- R4 -/ (.ops [.it (.one (.mov 5 (.r 3))),
      .it (.one (.bin 6 .lss (.r 5) (.c (.int .i64 (15)))))])
           (.cond (.r 6) .skip (.exit 0)))
          (.seq
           (.block 1
            /- R6 -/ (.ops [.it (.one (.mov 9 (.r 1))),
      .it (.one (.mov 10 (.r 2))),
      .it (.one (.mov 11 (.r 3))),
      .it (.one (.idx 12 (.r 10) (.r 11) 1)),
      .it (.one (.load 13 (.r 12) 1 false)),
      .it (.one (.bslp 14 1 [(.c (.str ⟨#[103]⟩)), (.c (.str ⟨#[103, 105]⟩))])),
      .it (.one (.build 15 [.str .empty, .str .empty, .sl [], .int .i64 0, .bool false] [(0, 1, (.r 13)), (1, 1, (.c (.str ⟨#[103]⟩))), (2, 1, (.r 14))])),
      .it (.one (.bslp 16 5 [(.r 15)])),
      .it (.one (.appd 17 (.r 9) (.r 16) 5 72)),
      .it (.one (.mov 1 (.r 17)))]))
           /- R5 -/ (.ops [.it (.one (.mov 7 (.r 3))),
      .it (.one (.bin 8 .add (.r 7) (.c (.int .i64 (1))))),
      .it (.one (.mov 3 (.r 8)))])))))))
      (.seq
       /- R7 -/ (.ops [.it (.one (.mov 18 (.r 1))),
      .it (.one (.bslp 19 1 [(.c (.str ⟨#[103, 120, 105]⟩))])),
      .it (.one (.build 20 [.str .empty, .str .empty, .sl [], .int .i64 0, .bool false] [(0, 1, (.c (.str ⟨#[99, 111, 112, 121]⟩))), (1, 1, (.c (.str ⟨#[103, 120]⟩))), (2, 1, (.r 19))])),
      .it (.one (.bslp 21 5 [(.r 20)])),
      .it (.one (.appd 22 (.r 18) (.r 21) 5 72)),
      .it (.one (.mov 1 (.r 22)))])
       (.seq
        /- R8 -/ (.ops [.it (.one (.mov 23 (.r 1))),
      .it (.one (.bslp 24 1 [(.c (.str ⟨#[120]⟩))])),
      .it (.one (.build 25 [.str .empty, .str .empty, .sl [], .int .i64 0, .bool false] [(0, 1, (.c (.str ⟨#[108, 111, 97, 100]⟩))), (1, 1, (.c (.str ⟨#[103]⟩))), (2, 1, (.r 24))])),
      .it (.one (.bslp 26 5 [(.r 25)])),
      .it (.one (.appd 27 (.r 23) (.r 26) 5 72)),
      .it (.one (.mov 1 (.r 27)))])
        (.seq
         /- R9 -/ (.ops [.it (.one (.mov 28 (.r 1))),
      .it (.one (.bslp 29 1 [(.c (.str ⟨#[103]⟩)), (.c (.str ⟨#[120]⟩))])),
      .it (.one (.build 30 [.str .empty, .str .empty, .sl [], .int .i64 0, .bool false] [(0, 1, (.c (.str ⟨#[115, 116, 111, 114, 101]⟩))), (2, 1, (.r 29))])),
      .it (.one (.bslp 31 5 [(.r 30)])),
      .it (.one (.appd 32 (.r 28) (.r 31) 5 72)),
      .it (.one (.mov 1 (.r 32)))])
         (.seq
          /- R10 -/ (.ops [.it (.one (.mov 33 (.r 1))),
      .it (.one (.bslp 34 1 [(.c (.str ⟨#[103, 105, 115]⟩)), (.c (.str ⟨#[103, 105, 115]⟩)), (.c (.str ⟨#[103, 105, 115]⟩)), (.c (.str ⟨#[103, 105, 115]⟩)), (.c (.str ⟨#[103, 105, 115]⟩)), (.c (.str ⟨#[103, 105, 115]⟩)), (.c (.str ⟨#[103, 105, 115]⟩)), (.c (.str ⟨#[103, 105, 115]⟩))])),
      .it (.one (.build 35 [.str .empty, .str .empty, .sl [], .int .i64 0, .bool false] [(0, 1, (.c (.str ⟨#[99, 97, 108, 108]⟩))), (1, 1, (.c (.str ⟨#[103, 110]⟩))), (2, 1, (.r 34))])),
      .it (.one (.bslp 36 5 [(.r 35)])),
      .it (.one (.appd 37 (.r 33) (.r 36) 5 72)),
      .it (.one (.mov 1 (.r 37)))])
          (.seq
           /- R11 -/ (.ops [.it (.one (.mov 38 (.r 1))),
      .it (.one (.build 39 [.str .empty, .str .empty, .sl [], .int .i64 0, .bool false] [(0, 1, (.c (.str ⟨#[98, 114]⟩))), (3, 1, (.c (.int .i64 (1))))])),
      .it (.one (.bslp 40 5 [(.r 39)])),
      .it (.one (.appd 41 (.r 38) (.r 40) 5 72)),
      .it (.one (.mov 1 (.r 41)))])
           (.seq
            /- R12 -/ (.ops [.it (.one (.mov 42 (.r 1))),
      .it (.one (.bslp 43 1 [(.c (.str ⟨#[103]⟩))])),
      .it (.one (.build 44 [.str .empty, .str .empty, .sl [], .int .i64 0, .bool false] [(0, 1, (.c (.str ⟨#[98, 114, 105, 102]⟩))), (2, 1, (.r 43)), (3, 1, (.c (.int .i64 (2))))])),
      .it (.one (.bslp 45 5 [(.r 44)])),
      .it (.one (.appd 46 (.r 42) (.r 45) 5 72)),
      .it (.one (.mov 1 (.r 46)))])
            (.seq
             /- R13 -/ (.ops [.it (.one (.mov 47 (.r 1))),
      .it (.one (.bslp 48 1 [(.c (.str ⟨#[103]⟩))])),
      .it (.one (.build 49 [.str .empty, .str .empty, .sl [], .int .i64 0, .bool false] [(0, 1, (.c (.str ⟨#[115, 119, 105, 116, 99, 104]⟩))), (2, 1, (.r 48)), (3, 1, (.c (.int .i64 (-1))))])),
      .it (.one (.bslp 50 5 [(.r 49)])),
      .it (.one (.appd 51 (.r 47) (.r 50) 5 72)),
      .it (.one (.mov 1 (.r 51)))])
             (.seq
              /- R14 -/ (.ops [.it (.one (.mov 52 (.r 1))),
      .it (.one (.bslp 53 1 [(.c (.str ⟨#[103, 105]⟩))])),
      .it (.one (.build 54 [.str .empty, .str .empty, .sl [], .int .i64 0, .bool false] [(0, 1, (.c (.str ⟨#[114, 101, 116]⟩))), (2, 1, (.r 53))])),
      .it (.one (.bslp 55 5 [(.r 54)])),
      .it (.one (.appd 56 (.r 52) (.r 55) 5 72)),
      .it (.one (.mov 1 (.r 56)))])
              (.seq
               /- R15 -/ (.ops [.it (.one (.mov 57 (.r 1))),
      .it (.one (.bslp 58 1 [(.c (.str ⟨#[103, 120]⟩))])),
      .it (.one (.build 59 [.str .empty, .str .empty, .sl [], .int .i64 0, .bool false] [(0, 1, (.c (.str ⟨#[109, 111, 118, 101]⟩))), (1, 1, (.c (.str ⟨#[103, 120]⟩))), (2, 1, (.r 58)), (4, 1, (.c (.bool true)))])),
      .it (.one (.bslp 60 5 [(.r 59)])),
      .it (.one (.appd 61 (.r 57) (.r 60) 5 72)),
      .it (.one (.mov 1 (.r 61)))])
               (.seq
                /- R16 -/ (.ops [.it (.one (.mov 62 (.r 1))),
      .it (.one (.bslp 63 1 [(.c (.str ⟨#[103, 120]⟩))])),
      .it (.one (.build 64 [.str .empty, .str .empty, .sl [], .int .i64 0, .bool false] [(0, 1, (.c (.str ⟨#[115, 112, 105, 108, 108]⟩))), (1, 1, (.c (.str ⟨#[115]⟩))), (2, 1, (.r 63)), (4, 1, (.c (.bool true)))])),
      .it (.one (.bslp 65 5 [(.r 64)])),
      .it (.one (.appd 66 (.r 62) (.r 65) 5 72)),
      .it (.one (.mov 1 (.r 66)))])
                (.seq
                 /- R17 -/ (.ops [.it (.one (.mov 67 (.r 1))),
      .it (.one (.bslp 68 1 [(.c (.str ⟨#[115]⟩))])),
      .it (.one (.build 69 [.str .empty, .str .empty, .sl [], .int .i64 0, .bool false] [(0, 1, (.c (.str ⟨#[114, 101, 108, 111, 97, 100]⟩))), (1, 1, (.c (.str ⟨#[103, 120]⟩))), (2, 1, (.r 68)), (4, 1, (.c (.bool true)))])),
      .it (.one (.bslp 70 5 [(.r 69)])),
      .it (.one (.appd 71 (.r 67) (.r 70) 5 72)),
      .it (.one (.mov 1 (.r 71)))])
                 (.seq
                  /- R18 -/ (.ops [.it (.one (.mov 72 (.r 1))),
      .it (.one (.bslp 73 1 [(.c (.str ⟨#[103, 120, 115]⟩)), (.c (.str ⟨#[103, 120, 115]⟩))])),
      .it (.one (.build 74 [.str .empty, .str .empty, .sl [], .int .i64 0, .bool false] [(0, 1, (.c (.str ⟨#[115, 119, 97, 112]⟩))), (2, 1, (.r 73)), (4, 1, (.c (.bool true)))])),
      .it (.one (.bslp 75 5 [(.r 74)])),
      .it (.one (.appd 76 (.r 72) (.r 75) 5 72)),
      .it (.one (.mov 1 (.r 76)))])
                  (.seq
                   /- R19 -/ (.post (.ops [.it (.one (.mov 77 (.r 1))),
      .it (.one (.mov 0 (.r 77)))]) (.frz 1)) .ret)))))))))))))))))
theorem A43_ok : okFun Try.prog 43 78 0 A43 [.tmp 0] [] = true := by kernel_rfl
end Go.Proofs.Ytapfnhhedieebaa.X
