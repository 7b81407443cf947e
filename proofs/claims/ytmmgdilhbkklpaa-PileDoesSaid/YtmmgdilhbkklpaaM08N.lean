import Derived.Test.YtmmgdilhbkklpaaANC
import Derived.Test.YtmmgdilhbkklpaaProg
import Derived.KernelRfl
namespace Go.Proofs.Ytmmgdilhbkklpaa.X
open Go Go.AM Go.Proofs
def B8 : ACode :=
  (.seq
   /- R0 -/ (.ops [.it (.one (.mov 4 (.c (.sl []))))])
   (.seq
    /- R1 -/ (.ops [.it (.one (.nilarr 5 5 2))])
    (.seq
     (.block 0
      (.loop (.pre (.mv [0, 1, 5] [(5, 5)])
       (.seq
        (.seq
         /- R2 -/ (.ops [.it (.one (.mov 8 (.r 5))),
      .it (.one (.len 9 (.r 8))),
      .it (.one (.mov 10 (.r 1))),
      .it (.one (.bin 11 .lss (.r 9) (.r 10)))])
         (.cond (.r 11) .skip (.exit 0)))
        (.block 1
         (.seq
          /- R3 -/ (.post (.ops [.it (.one (.mov 13 (.r 0))),
      .it (.one (.callf (some 14) (.st 11) [(.r 13)])),
      .it (.one (.mov 12 (.r 14))),
      .it (.one (.ext 15 (.r 12) 0)),
      .it (.one (.ext 16 (.r 12) 1)),
      .it (.one (.alloc 6 6 [.int .i64 0, .int .i64 0])),
      .it (.one (.store (.r 6) (.r 15) 2)),
      .it (.one (.mov 7 (.r 16)))]) (.frz 6))
          (.seq
           (.seq
            /- R4 -/ (.ops [.it (.one (.mov 17 (.r 7))),
      .it (.one (.un 18 .not (.r 17)))])
            (.cond (.r 18) (.exit 0) .skip))
           /- R5 -/ (.ops [.it (.one (.mov 19 (.r 5))),
      .it (.one (.load 20 (.r 6) 2 true)),
      .it (.one (.bslp 21 2 [(.r 20)])),
      .it (.one (.appd 22 (.r 19) (.r 21) 2 16)),
      .it (.one (.mov 5 (.r 22)))]))))))))
     (.seq
      /- R6 -/ (.post (.ops [.it (.one (.mov 23 (.r 5))),
      .it (.one (.mov 4 (.r 23)))]) (.frz 5)) .ret))))
theorem B8_ok : okFun Try.prog 8 24 0 B8 [.tmp 4] [] = true := by kernel_rfl
def B10 : ACode :=
  (.seq
   /- R0 -/ (.ops [.it (.one (.boxp 3 (.r 1)))])
   (.seq
    /- R1 -/ (.ops [.it (.one (.mov 4 (.r 0))),
      .it (.one (.callb (some 5) (.st 21) [(.r 4)]))])
    (.cond (.r 5)
     /- R2 -/ (.draw [[], [0], [0, 1], [0, 1, 2], [], [4], [0, 1, 2, 3, 4, 5]] [.one (.mov 6 (.r 0)),
      .one (.nilc 7 (.r 6)),
      .one (.fad 8 (.r 7) 0),
      .one (.mkif 9 56 (.r 8)),
      .one (.load 10 (.r 3) 2 true),
      .one (.mkif 11 29 (.r 10)),
      .one (.callo (some 12) (.st 22) [(.r 9), (.r 11)] [0, 1] [])]) .skip)))
theorem B10_ok : okFun Try.prog 10 13 0 B10 [] [] = true := by kernel_rfl
def B11 : ACode :=
  (.seq
   /- R0 -/ (.ops [.it (.one (.alloc 2 2 [.int .i64 0, .int .i64 0])),
      .it (.one (.mov 3 (.c (.bool false))))])
   (.seq
    (.seq
     /- R1 -/ (.ops [.it (.one (.mov 6 (.r 0))),
      .it (.one (.callb (some 7) (.st 17) [(.r 6)])),
      .it (.one (.bin 8 .eql (.r 7) (.c (.int .i64 (0)))))])
     (.cond (.r 8)
      (.seq
       /- R2 -/ (.ops [.it (.one (.build 9 [.int .i64 0, .int .i64 0] [])),
      .it (.one (.store (.r 2) (.r 9) 2)),
      .it (.one (.mov 3 (.c (.bool false))))]) .ret) .skip))
    (.seq
     /- R3 -/ (.post (.ops [.it (.one (.mov 11 (.r 0))),
      .it (.one (.nilc 12 (.r 11))),
      .it (.one (.fad 13 (.r 12) 0)),
      .it (.one (.mkif 14 56 (.r 13))),
      .it (.one (.callo (some 15) (.st 23) [(.r 14)] [0, 1] [])),
      .it (.one (.tass 16 29 (.r 15))),
      .it (.one (.mov 10 (.r 16))),
      .it (.one (.ext 17 (.r 10) 0)),
      .it (.one (.ext 18 (.r 10) 1)),
      .it (.one (.alloc 4 4 [.int .i64 0, .int .i64 0])),
      .it (.one (.store (.r 4) (.r 17) 2)),
      .it (.one (.mov 5 (.r 18)))]) (.frz 4))
     (.seq
      /- R4 -/ (.ops [.it (.one (.load 19 (.r 4) 2 true)),
      .it (.one (.mov 20 (.r 5))),
      .it (.one (.store (.r 2) (.r 19) 2)),
      .it (.one (.mov 3 (.r 20)))]) .ret))))
theorem B11_ok : okFun Try.prog 11 21 0 B11 [.cell 2 2 true, .tmp 3] [] = true := by kernel_rfl
def B14 : ACode :=
  (.seq
   /- R0 -/ (.ops [.it (.one (.mov 6 (.c (.int .i64 (0)))))])
   (.seq
    (.seq
     /- R1 -/ (.ops [.it (.one (.mov 9 (.r 0))),
      .it (.one (.callb (some 10) (.st 21) [(.r 9)])),
      .it (.one (.un 11 .not (.r 10)))])
     (.cond (.r 11)
      (.seq
       /- R2 -/ (.ops [.it (.one (.mov 6 (.c (.int .i64 (0)))))]) .ret) .skip))
    (.seq
     /- R3 -/ (.ops [.it (.one (.mov 7 (.c (.int .i64 (0)))))])
     (.seq
      (.seq
       /- R4 -/ (.ops [.it (.one (.mov 12 (.r 0))),
      .it (.one (.nilc 13 (.r 12))),
      .it (.one (.fad 14 (.r 13) 0)),
      .it (.one (.fad 15 (.r 14) 0)),
      .it (.one (.load 16 (.r 15) 1 false)),
      .it (.one (.len 17 (.r 16))),
      .it (.one (.mov 18 (.c (.int .i64 (0)))))])
       (.block 0
        (.loop (.pre (.mv [0, 1, 2, 7, 17, 18] [])
         (.seq
          /- R5 -/ (.ops [.it (.one (.bin 19 .lss (.r 18) (.r 17)))])
          (.seq
           (.cond (.r 19) .skip (.exit 0))
           (.seq
            (.block 1
             (.seq
              /- R6 -/ (.ops [.it (.one (.mov 20 (.r 18))),
      .it (.one (.mov 8 (.r 20)))])
              (.seq
               /- R7 -/ (.ops [.it (.one (.mov 21 (.r 0))),
      .it (.one (.nilc 22 (.r 21))),
      .it (.one (.fad 23 (.r 22) 0)),
      .it (.one (.fad 24 (.r 23) 0)),
      .it (.one (.load 25 (.r 24) 1 false)),
      .it (.one (.mov 26 (.r 8))),
      .it (.one (.idx 27 (.r 25) (.r 26) 2)),
      .it (.one (.fad 28 (.r 27) 1)),
      .it (.one (.load 29 (.r 28) 1 false)),
      .it (.one (.mov 30 (.r 1))),
      .it (.one (.bin 31 .eql (.r 29) (.r 30)))])
               (.cond (.r 31)
                (.seq
                 /- R8 -/ (.ops [.it (.one (.mov 32 (.r 0))),
      .it (.one (.nilc 33 (.r 32))),
      .it (.one (.fad 34 (.r 33) 0)),
      .it (.one (.fad 35 (.r 34) 0)),
      .it (.one (.load 36 (.r 35) 1 false)),
      .it (.one (.mov 37 (.r 8))),
      .it (.one (.mov 38 (.r 2))),
      .it (.one (.idx 39 (.r 36) (.r 37) 2)),
      .it (.one (.fad 40 (.r 39) 0)),
      .it (.one (.store (.r 40) (.r 38) 1))])
                 /- R9 -/ (.ops [.it (.one (.mov 41 (.r 7))),
      .it (.one (.bin 42 .add (.r 41) (.c (.int .i64 (1))))),
      .it (.one (.mov 7 (.r 42)))])) .skip))))
            /- R10 -/ (.ops [.it (.one (.bin 43 .add (.r 18) (.c (.int .i64 (1))))),
      .it (.one (.mov 18 (.r 43)))]))))))))
      (.seq
       /- R11 -/ (.ops [.it (.one (.mov 44 (.r 0))),
      .it (.one (.nilc 45 (.r 44))),
      .it (.one (.fad 46 (.r 45) 0)),
      .it (.one (.mkif 47 56 (.r 46))),
      .it (.one (.callo (some 48) (.st 20) [(.r 47)] [0, 1] []))])
       (.seq
        /- R12 -/ (.ops [.it (.one (.mov 49 (.r 7))),
      .it (.one (.mov 6 (.r 49)))]) .ret))))))
theorem B14_ok : okFun Try.prog 14 50 0 B14 [.tmp 6] [] = true := by kernel_rfl
end Go.Proofs.Ytmmgdilhbkklpaa.X
