/- Part of a proof: what functions of the program do. -/
import Derived.Test.YtgbmneoeggdaoaaDoorXam5
import Derived.Test.YtgbmneoeggdaoaaDoorProg
import Derived.KernelRfl
namespace Go.Proofs.YtgbmneoeggdaoaaDoor.X
open Go Go.AM Go.Proofs
/-- dyehouse/dyehouselaw25.LiveTells -/
def A3 : ACode :=
 (.seq
 (.ops [.it (.one (.boxp 3 (.r 0))),
 .it (.one (.mov 6 (.c (.bool false))))])
 (.seq
 (.seq
 (.ops [.it (.one (.load 17 (.r 3) 5 true)),
 .call (some 18) (.st 4) [(.r 17)] [] [],
 .it (.one (.mov 19 (.r 18))),
 .it (.grp 19 false [.fad 20 (.r 3) 4, .load 21 (.r 20) 1 false, .len 22 (.r 21), .bin 23 .gtr (.r 22) (.c (.int .i64 (12)))]),
 .it (.one (.pick 24 (.r 19) (.c (.bool true)) (.r 23))),
 .it (.one (.mov 25 (.r 24))),
 .it (.grp 25 false [.fad 26 (.r 3) 2, .load 27 (.r 26) 1 false, .len 28 (.r 27), .bin 29 .gtr (.r 28) (.c (.int .i64 (20)))]),
 .it (.one (.pick 30 (.r 25) (.c (.bool true)) (.r 29))),
 .it (.one (.mov 31 (.r 30))),
 .it (.grp 31 false [.load 32 (.r 3) 5 true, .callf (some 33) (.st 5) [(.r 32)], .bin 34 .gtr (.r 33) (.c (.int .i64 (60)))]),
 .it (.one (.pick 35 (.r 31) (.c (.bool true)) (.r 34)))])
 (.cond (.r 35)
 (.seq
 (.ops [.it (.one (.callf (some 36) (.st 6) [])),
 .it (.one (.mov 6 (.r 36)))]) .ret) .skip))
 (.seq
 (.ops [.it (.one (.load 37 (.r 3) 5 true)),
 .it (.one (.callf (some 38) (.st 7) [(.r 37)])),
 .it (.one (.mov 7 (.r 38)))])
 (.seq
 (.seq
 (.draw [[], [0], [0, 1], [0, 1, 2], [0, 1, 2], [0, 1, 2, 3, 4], [0, 1, 2], [0, 1, 2], [0, 1, 2, 3, 4, 5, 6, 7], [0, 1, 2, 3, 4, 5, 6, 7, 8], [0, 1, 2, 3, 4, 5, 6, 7, 8, 9]] [.one (.mov 39 (.r 7)),
 .one (.eq 40 false .nil (.r 39) (.c (.nilp))),
 .one (.mov 41 (.r 40)),
 .grp 41 false [.mov 42 (.r 7), .mov 43 (.r 1), .callf (some 44) (.st 9) [(.r 42), (.r 43)], .load 45 (.r 3) 5 true, .mov 46 (.r 1), .callf (some 47) (.st 8) [(.r 44), (.r 45), (.r 46)], .un 48 .not (.r 47)],
 .one (.pick 49 (.r 41) (.c (.bool true)) (.r 48))])
 (.cond (.r 49)
 (.seq
 (.ops [.it (.one (.mov 6 (.c (.bool false))))]) .ret) .skip))
 (.seq
 (.seq
 (.ops [.it (.one (.mov 8 (.c (.int .i64 (0)))))])
 (.block 0
 (.loop (.pre (.mv [2, 3, 7, 8] [])
 (.seq
 (.seq
 (.ops [.it (.one (.mov 50 (.r 8))),
 .it (.one (.fad 51 (.r 3) 4)),
 .it (.one (.load 52 (.r 51) 1 false)),
 .it (.one (.len 53 (.r 52))),
 .it (.one (.bin 54 .lss (.r 50) (.r 53)))])
 (.cond (.r 54) .skip (.exit 0)))
 (.seq
 (.block 1
 (.seq
 (.ops [.it (.one (.mov 57 (.r 7))),
 .it (.one (.mov 58 (.r 8))),
 .it (.one (.callf (some 59) (.st 10) [(.r 57), (.r 58)])),
 .it (.one (.mov 9 (.r 59)))])
 (.seq
 (.ops [.it (.one (.mov 10 (.c (.int .i64 (0)))))])
 (.block 2
 (.loop (.pre (.mv [2, 3, 7, 8, 9, 10] [])
 (.seq
 (.seq
 (.ops [.it (.one (.mov 60 (.r 10))),
 .it (.one (.fad 61 (.r 3) 2)),
 .it (.one (.load 62 (.r 61) 1 false)),
 .it (.one (.len 63 (.r 62))),
 .it (.one (.bin 64 .lss (.r 60) (.r 63)))])
 (.cond (.r 64) .skip (.exit 2)))
 (.seq
 (.block 3
 (.seq
 (.ops [.it (.one (.fad 67 (.r 3) 2)),
 .it (.one (.load 68 (.r 67) 1 false)),
 .it (.one (.mov 69 (.r 10))),
 .it (.one (.idx 70 (.r 68) (.r 69) 2)),
 .it (.one (.fad 71 (.r 70) 0)),
 .it (.one (.load 72 (.r 71) 1 false)),
 .it (.one (.mov 11 (.r 72)))])
 (.seq
 (.seq
 (.draw [[], [], [0, 1], [], [], [], [0, 1, 2, 3, 4, 5], [0, 1, 2, 3, 4, 5, 6]] [.one (.mov 73 (.r 9)),
 .one (.mov 74 (.r 11)),
 .one (.callf (some 75) (.st 11) [(.r 73), (.r 74)]),
 .one (.load 76 (.r 3) 5 true),
 .one (.mov 77 (.r 8)),
 .one (.mov 78 (.r 11)),
 .one (.callf (some 79) (.st 12) [(.r 76), (.r 77), (.c (.int .i64 (0))), (.r 78)]),
 .one (.eq 80 true .bool (.r 75) (.r 79))])
 (.cond (.r 80)
 (.seq
 (.ops [.it (.one (.mov 6 (.c (.bool false))))]) .ret) .skip))
 (.seq
 (.seq
 (.draw [[], [], [0, 1], [], [0, 1, 2, 3], [], [], [], [7], [], [7, 8, 9], [7, 8, 9, 10], [7, 8, 9, 10, 11], [7, 8, 9, 10, 11, 12], [], [0, 1, 2, 3, 4, 5, 6, 7, 8, 9, 10, 11, 12, 13, 14], [0, 1, 2, 3, 4, 5, 6, 7, 8, 9, 10, 11, 12, 13, 14, 15]] [.one (.mov 81 (.r 7)),
 .one (.mov 82 (.r 8)),
 .one (.callf (some 83) (.st 13) [(.r 81), (.r 82)]),
 .one (.mov 84 (.r 11)),
 .one (.callf (some 85) (.st 11) [(.r 83), (.r 84)]),
 .one (.load 86 (.r 3) 5 true),
 .one (.mov 87 (.r 8)),
 .one (.fad 88 (.r 3) 4),
 .one (.load 89 (.r 88) 1 false),
 .one (.mov 90 (.r 8)),
 .one (.idx 91 (.r 89) (.r 90) 4),
 .one (.fad 92 (.r 91) 3),
 .one (.load 93 (.r 92) 1 false),
 .one (.len 94 (.r 93)),
 .one (.mov 95 (.r 11)),
 .one (.callf (some 96) (.st 12) [(.r 86), (.r 87), (.r 94), (.r 95)]),
 .one (.eq 97 true .bool (.r 85) (.r 96))])
 (.cond (.r 97)
 (.seq
 (.ops [.it (.one (.mov 6 (.c (.bool false))))]) .ret) .skip))
 (.seq
 (.ops [.it (.one (.fad 98 (.r 3) 4)),
 .it (.one (.load 99 (.r 98) 1 false)),
 .it (.one (.mov 100 (.r 8))),
 .it (.one (.idx 101 (.r 99) (.r 100) 4)),
 .it (.one (.fad 102 (.r 101) 3)),
 .it (.one (.load 103 (.r 102) 1 false)),
 .it (.one (.len 104 (.r 103))),
 .it (.one (.mov 12 (.r 104)))])
 (.seq
 (.ops [.it (.one (.mov 105 (.r 12))),
 .it (.one (.bin 106 .gtr (.r 105) (.c (.int .i64 (0)))))])
 (.cond (.r 106)
 (.seq
 (.post (.ops [.it (.one (.fad 107 (.r 3) 4)),
 .it (.one (.load 108 (.r 107) 1 false)),
 .it (.one (.mov 109 (.r 8))),
 .it (.one (.idx 110 (.r 108) (.r 109) 4)),
 .it (.one (.fad 111 (.r 110) 3)),
 .it (.one (.load 112 (.r 111) 1 false)),
 .it (.one (.mov 113 (.r 12))),
 .it (.one (.bin 114 .sub (.r 113) (.c (.int .i64 (1))))),
 .it (.one (.idx 115 (.r 112) (.r 114) 10)),
 .it (.one (.fad 116 (.r 115) 1)),
 .it (.one (.load 117 (.r 116) 4 true)),
 .it (.one (.alloc 13 13 [.int .i64 0, .int .i64 0, .int .i64 0, .int .i64 0])),
 .it (.one (.store (.r 13) (.r 117) 4))]) (.frz 13))
 (.seq
 (.draw [[], [], [], [2], [0, 1, 2, 3], [], [0, 1, 2, 3, 4, 5], [], [], [], [], [0, 1, 2, 3, 4, 5, 6, 7, 8, 9, 10], [0, 1, 2, 3, 4, 5, 6, 7, 8, 9, 10, 11], [0, 1, 2, 3, 4, 5, 6, 7, 8, 9, 10, 11, 12], [0, 1, 2, 3, 4, 5, 6, 7, 8, 9, 10, 11, 12, 13], [0, 1, 2, 3, 4, 5, 6, 7, 8, 9, 10, 11, 12, 13, 14], [0, 1, 2, 3, 4, 5, 6, 7, 8, 9, 10, 11, 12, 13, 14, 15], [0, 1, 2, 3, 4, 5, 6, 7, 8, 9, 10, 11, 12, 13, 14, 15, 16], [0, 1, 2, 3, 4, 5, 6, 7, 8, 9, 10, 11, 12, 13, 14, 15, 16, 17], [0, 1, 2, 3, 4, 5, 6, 7, 8, 9, 10, 11, 12, 13, 14, 15, 16], [0, 1, 2, 3, 4, 5, 6, 7, 8, 9, 10, 11, 12, 13, 14, 15, 16, 17, 18, 19], [0, 1, 2, 3, 4, 5, 6, 7, 8, 9, 10, 11, 12, 13, 14, 15, 16, 17, 18, 19, 20], [0, 1, 2, 3, 4, 5, 6, 7, 8, 9, 10, 11, 12, 13, 14, 15, 16, 17, 18, 19, 20, 21], [0, 1, 2, 3, 4, 5, 6, 7, 8, 9, 10, 11, 12, 13, 14, 15, 16, 17, 18, 19, 20, 21, 22]] [.one (.mov 118 (.r 7)),
 .one (.mov 119 (.r 8)),
 .one (.mov 120 (.r 12)),
 .one (.bin 121 .sub (.r 120) (.c (.int .i64 (1)))),
 .one (.callf (some 122) (.st 14) [(.r 118), (.r 119), (.r 121)]),
 .one (.mov 123 (.r 11)),
 .one (.callf (some 124) (.st 11) [(.r 122), (.r 123)]),
 .one (.load 125 (.r 3) 5 true),
 .one (.mov 126 (.r 8)),
 .one (.mov 127 (.r 12)),
 .one (.mov 128 (.r 11)),
 .one (.callf (some 129) (.st 12) [(.r 125), (.r 126), (.r 127), (.r 128)]),
 .one (.mov 130 (.r 129)),
 .grp 130 true [.fad 131 (.r 13) 0, .load 132 (.r 131) 1 false, .bin 133 .neq (.r 132) (.c (.int .i64 (1))), .mov 134 (.r 133)],
 .grp 134 false [.fad 135 (.r 13) 2, .load 136 (.r 135) 1 false, .mov 137 (.r 11), .bin 138 .neq (.r 136) (.r 137)],
 .grp 130 true [.pick 139 (.r 134) (.c (.bool true)) (.r 138)],
 .one (.pick 140 (.r 130) (.r 139) (.c (.bool false))),
 .one (.eq 141 true .bool (.r 124) (.r 140))])
 (.cond (.r 141)
 (.seq
 (.ops [.it (.one (.mov 6 (.c (.bool false))))]) .ret) .skip))) .skip)))))))
 (.ops [.it (.one (.mov 65 (.r 10))),
 .it (.one (.bin 66 .add (.r 65) (.c (.int .i64 (1))))),
 .it (.one (.mov 10 (.r 66)))])))))))))
 (.ops [.it (.one (.mov 55 (.r 8))),
 .it (.one (.bin 56 .add (.r 55) (.c (.int .i64 (1))))),
 .it (.one (.mov 8 (.r 56)))])))))))
 (.seq
 (.ops [.it (.one (.load 142 (.r 3) 5 true)),
 .it (.one (.mov 143 (.r 2))),
 .it (.one (.callf (some 144) (.st 15) [(.r 142), (.r 143)])),
 .it (.one (.mov 14 (.r 144)))])
 (.seq
 (.ops [.it (.one (.mov 145 (.r 7))),
 .it (.one (.mov 146 (.r 2))),
 .it (.one (.callf (some 147) (.st 16) [(.r 145), (.r 146)])),
 .it (.one (.mov 15 (.r 147)))])
 (.seq
 (.seq
 (.ops [.it (.one (.mov 148 (.r 14))),
 .it (.one (.len 149 (.r 148))),
 .it (.one (.mov 150 (.r 15))),
 .it (.one (.len 151 (.r 150))),
 .it (.one (.bin 152 .neq (.r 149) (.r 151)))])
 (.cond (.r 152)
 (.seq
 (.ops [.it (.one (.mov 6 (.c (.bool false))))]) .ret) .skip))
 (.seq
 (.seq
 (.ops [.it (.one (.mov 16 (.c (.int .i64 (0)))))])
 (.block 4
 (.loop (.pre (.mv [3, 7, 14, 15, 16] [])
 (.seq
 (.seq
 (.ops [.it (.one (.mov 153 (.r 16))),
 .it (.one (.mov 154 (.r 14))),
 .it (.one (.len 155 (.r 154))),
 .it (.one (.bin 156 .lss (.r 153) (.r 155)))])
 (.cond (.r 156) .skip (.exit 4)))
 (.seq
 (.block 5
 (.seq
 (.draw [[], [], [0, 1], [0, 1, 2], [], [], [4, 5], [4, 5, 6], [0, 1, 2, 3, 4, 5, 6, 7]] [.one (.mov 159 (.r 14)),
 .one (.mov 160 (.r 16)),
 .one (.idx 161 (.r 159) (.r 160) 2),
 .one (.load 162 (.r 161) 2 true),
 .one (.mov 163 (.r 15)),
 .one (.mov 164 (.r 16)),
 .one (.idx 165 (.r 163) (.r 164) 2),
 .one (.load 166 (.r 165) 2 true),
 .one (.eq 167 true (.strct [.i, .i]) (.r 162) (.r 166))])
 (.cond (.r 167)
 (.seq
 (.ops [.it (.one (.mov 6 (.c (.bool false))))]) .ret) .skip)))
 (.ops [.it (.one (.mov 157 (.r 16))),
 .it (.one (.bin 158 .add (.r 157) (.c (.int .i64 (1))))),
 .it (.one (.mov 16 (.r 158)))])))))))
 (.seq
 (.ops [.it (.one (.mov 168 (.r 7))),
 .it (.one (.callf (some 169) (.st 10) [(.r 168), (.c (.int .i64 (-1)))])),
 .it (.one (.len 170 (.r 169))),
 .it (.one (.bin 171 .eql (.r 170) (.c (.int .i64 (0))))),
 .it (.one (.mov 172 (.r 171))),
 .it (.grp 172 true [.mov 173 (.r 7), .fad 174 (.r 3) 4, .load 175 (.r 174) 1 false, .len 176 (.r 175), .callf (some 177) (.st 13) [(.r 173), (.r 176)], .len 178 (.r 177), .bin 179 .eql (.r 178) (.c (.int .i64 (0)))]),
 .it (.one (.pick 180 (.r 172) (.r 179) (.c (.bool false)))),
 .it (.one (.mov 181 (.r 180))),
 .it (.grp 181 true [.mov 182 (.r 7), .callf (some 183) (.st 14) [(.r 182), (.c (.int .i64 (0))), (.c (.int .i64 (-1)))], .len 184 (.r 183), .bin 185 .eql (.r 184) (.c (.int .i64 (0)))]),
 .it (.one (.pick 186 (.r 181) (.r 185) (.c (.bool false)))),
 .it (.one (.mov 187 (.r 186))),
 .it (.grp 187 true [.callf (some 188) (.st 6) []]),
 .it (.one (.pick 189 (.r 187) (.r 188) (.c (.bool false)))),
 .it (.one (.mov 6 (.r 189)))]) .ret))))))))))
theorem A3_ok : okFun Tryd.prog 3 190 0 A3 [.tmp 6] [] = true := by kernel_rfl
/-- dyehouse/dyehouseref12.Large -/
def A4 : ACode :=
 (.seq
 (.ops [.it (.one (.boxp 1 (.r 0))),
 .it (.one (.mov 2 (.c (.bool false))))])
 (.seq
 (.ops [.it (.one (.fad 8 (.r 1) 1)),
 .it (.one (.load 9 (.r 8) 1 false)),
 .it (.one (.slen 10 (.r 9))),
 .it (.one (.fad 11 (.r 1) 2)),
 .it (.one (.load 12 (.r 11) 1 false)),
 .it (.one (.len 13 (.r 12))),
 .it (.one (.bin 14 .add (.r 10) (.r 13))),
 .it (.one (.fad 15 (.r 1) 3)),
 .it (.one (.load 16 (.r 15) 1 false)),
 .it (.one (.len 17 (.r 16))),
 .it (.one (.bin 18 .add (.r 14) (.r 17))),
 .it (.one (.mov 3 (.r 18)))])
 (.seq
 (.seq
 (.ops [.it (.one (.mov 4 (.c (.int .i64 (0)))))])
 (.block 0
 (.loop (.pre (.mv [1, 3, 4] [])
 (.seq
 (.seq
 (.ops [.it (.one (.mov 19 (.r 4))),
 .it (.one (.fad 20 (.r 1) 4)),
 .it (.one (.load 21 (.r 20) 1 false)),
 .it (.one (.len 22 (.r 21))),
 .it (.one (.bin 23 .lss (.r 19) (.r 22)))])
 (.cond (.r 23) .skip (.exit 0)))
 (.seq
 (.block 1
 (.seq
 (.draw [[], [], [1], [], [1, 2, 3], [1, 2, 3, 4], [1, 2, 3, 4, 5], [1, 2, 3, 4, 5, 6], [0, 1, 2, 3, 4, 5, 6, 7], [], [9], [], [9, 10, 11], [9, 10, 11, 12], [9, 10, 11, 12, 13], [9, 10, 11, 12, 13, 14], [0, 1, 2, 3, 4, 5, 6, 7, 8, 9, 10, 11, 12, 13, 14, 15], [0, 1, 2, 3, 4, 5, 6, 7, 8, 9, 10, 11, 12, 13, 14, 15, 16]] [.one (.mov 26 (.r 3)),
 .one (.fad 27 (.r 1) 4),
 .one (.load 28 (.r 27) 1 false),
 .one (.mov 29 (.r 4)),
 .one (.idx 30 (.r 28) (.r 29) 4),
 .one (.fad 31 (.r 30) 0),
 .one (.load 32 (.r 31) 1 false),
 .one (.slen 33 (.r 32)),
 .one (.bin 34 .add (.r 26) (.r 33)),
 .one (.fad 35 (.r 1) 4),
 .one (.load 36 (.r 35) 1 false),
 .one (.mov 37 (.r 4)),
 .one (.idx 38 (.r 36) (.r 37) 4),
 .one (.fad 39 (.r 38) 2),
 .one (.load 40 (.r 39) 1 false),
 .one (.len 41 (.r 40)),
 .one (.bin 42 .add (.r 34) (.r 41)),
 .one (.mov 3 (.r 42))])
 (.seq
 (.ops [.it (.one (.mov 5 (.c (.int .i64 (0)))))])
 (.block 2
 (.loop (.pre (.mv [1, 3, 4, 5] [])
 (.seq
 (.seq
 (.ops [.it (.one (.mov 43 (.r 5))),
 .it (.one (.fad 44 (.r 1) 4)),
 .it (.one (.load 45 (.r 44) 1 false)),
 .it (.one (.mov 46 (.r 4))),
 .it (.one (.idx 47 (.r 45) (.r 46) 4)),
 .it (.one (.fad 48 (.r 47) 3)),
 .it (.one (.load 49 (.r 48) 1 false)),
 .it (.one (.len 50 (.r 49))),
 .it (.one (.bin 51 .lss (.r 43) (.r 50)))])
 (.cond (.r 51) .skip (.exit 2)))
 (.seq
 (.block 3
 (.seq
 (.post (.ops [.it (.one (.fad 54 (.r 1) 4)),
 .it (.one (.load 55 (.r 54) 1 false)),
 .it (.one (.mov 56 (.r 4))),
 .it (.one (.idx 57 (.r 55) (.r 56) 4)),
 .it (.one (.fad 58 (.r 57) 3)),
 .it (.one (.load 59 (.r 58) 1 false)),
 .it (.one (.mov 60 (.r 5))),
 .it (.one (.idx 61 (.r 59) (.r 60) 10)),
 .it (.one (.load 62 (.r 61) 10 true)),
 .it (.one (.alloc 6 6 [.int .i64 0, .int .i64 0, .int .i64 0, .int .i64 0, .int .i64 0, .sl [], .str .empty, .int .i64 0, .sl [], .sl []])),
 .it (.one (.store (.r 6) (.r 62) 10))]) (.frz 6))
 (.seq
 (.ops [.it (.one (.mov 63 (.r 3))),
 .it (.one (.bin 64 .add (.r 63) (.c (.int .i64 (1))))),
 .it (.one (.fad 65 (.r 6) 5)),
 .it (.one (.load 66 (.r 65) 1 false)),
 .it (.one (.len 67 (.r 66))),
 .it (.one (.bin 68 .add (.r 64) (.r 67))),
 .it (.one (.fad 69 (.r 6) 6)),
 .it (.one (.load 70 (.r 69) 1 false)),
 .it (.one (.slen 71 (.r 70))),
 .it (.one (.bin 72 .add (.r 68) (.r 71))),
 .it (.one (.fad 73 (.r 6) 9)),
 .it (.one (.load 74 (.r 73) 1 false)),
 .it (.one (.len 75 (.r 74))),
 .it (.one (.bin 76 .add (.r 72) (.r 75))),
 .it (.one (.mov 3 (.r 76)))])
 (.seq
 (.ops [.it (.one (.mov 7 (.c (.int .i64 (0)))))])
 (.block 4
 (.loop (.pre (.mv [1, 3, 4, 5, 6, 7] [(6, 6)])
 (.seq
 (.seq
 (.ops [.it (.one (.mov 77 (.r 7))),
 .it (.one (.fad 78 (.r 6) 8)),
 .it (.one (.load 79 (.r 78) 1 false)),
 .it (.one (.len 80 (.r 79))),
 .it (.one (.bin 81 .lss (.r 77) (.r 80)))])
 (.cond (.r 81) .skip (.exit 4)))
 (.seq
 (.block 5
 (.ops [.it (.one (.mov 84 (.r 3))),
 .it (.one (.bin 85 .add (.r 84) (.c (.int .i64 (1))))),
 .it (.one (.fad 86 (.r 6) 8)),
 .it (.one (.load 87 (.r 86) 1 false)),
 .it (.one (.mov 88 (.r 7))),
 .it (.one (.idx 89 (.r 87) (.r 88) 1)),
 .it (.one (.load 90 (.r 89) 1 false)),
 .it (.one (.slen 91 (.r 90))),
 .it (.one (.bin 92 .add (.r 85) (.r 91))),
 .it (.one (.mov 3 (.r 92)))]))
 (.ops [.it (.one (.mov 82 (.r 7))),
 .it (.one (.bin 83 .add (.r 82) (.c (.int .i64 (1))))),
 .it (.one (.mov 7 (.r 83)))]))))))))))
 (.ops [.it (.one (.mov 52 (.r 5))),
 .it (.one (.bin 53 .add (.r 52) (.c (.int .i64 (1))))),
 .it (.one (.mov 5 (.r 53)))])))))))))
 (.ops [.it (.one (.mov 24 (.r 4))),
 .it (.one (.bin 25 .add (.r 24) (.c (.int .i64 (1))))),
 .it (.one (.mov 4 (.r 25)))])))))))
 (.seq
 (.ops [.it (.one (.mov 93 (.r 3))),
 .it (.one (.bin 94 .gtr (.r 93) (.c (.int .i64 (2000))))),
 .it (.one (.mov 95 (.r 94))),
 .it (.grp 95 false [.fad 96 (.r 1) 4, .load 97 (.r 96) 1 false, .len 98 (.r 97), .bin 99 .gtr (.r 98) (.c (.int .i64 (80)))]),
 .it (.one (.pick 100 (.r 95) (.c (.bool true)) (.r 99))),
 .it (.one (.mov 2 (.r 100)))]) .ret))))
theorem A4_ok : okFun Tryd.prog 4 101 0 A4 [.tmp 2] [] = true := by kernel_rfl
/-- dyehouse/dyehouseref24.Count -/
def A5 : ACode :=
 (.seq
 (.ops [.it (.one (.boxp 1 (.r 0))),
 .it (.one (.mov 2 (.c (.int .i64 (0)))))])
 (.seq
 (.ops [.it (.one (.mov 3 (.c (.int .i64 (0)))))])
 (.seq
 (.seq
 (.ops [.it (.one (.mov 4 (.c (.int .i64 (0)))))])
 (.block 0
 (.loop (.pre (.mv [1, 3, 4] [])
 (.seq
 (.seq
 (.ops [.it (.one (.mov 5 (.r 4))),
 .it (.one (.fad 6 (.r 1) 4)),
 .it (.one (.load 7 (.r 6) 1 false)),
 .it (.one (.len 8 (.r 7))),
 .it (.one (.bin 9 .lss (.r 5) (.r 8)))])
 (.cond (.r 9) .skip (.exit 0)))
 (.seq
 (.block 1
 (.ops [.it (.one (.mov 12 (.r 3))),
 .it (.one (.fad 13 (.r 1) 4)),
 .it (.one (.load 14 (.r 13) 1 false)),
 .it (.one (.mov 15 (.r 4))),
 .it (.one (.idx 16 (.r 14) (.r 15) 4)),
 .it (.one (.fad 17 (.r 16) 3)),
 .it (.one (.load 18 (.r 17) 1 false)),
 .it (.one (.len 19 (.r 18))),
 .it (.one (.bin 20 .add (.r 12) (.r 19))),
 .it (.one (.mov 3 (.r 20)))]))
 (.ops [.it (.one (.mov 10 (.r 4))),
 .it (.one (.bin 11 .add (.r 10) (.c (.int .i64 (1))))),
 .it (.one (.mov 4 (.r 11)))])))))))
 (.seq
 (.ops [.it (.one (.mov 21 (.r 3))),
 .it (.one (.mov 2 (.r 21)))]) .ret))))
theorem A5_ok : okFun Tryd.prog 5 22 0 A5 [.tmp 2] [] = true := by kernel_rfl
/-- dyehouse/dyehouselaw25.works -/
def A6 : ACode :=
 (.seq
 (.ops [.it (.one (.mov 0 (.c (.bool false))))])
 (.seq
 (.ops [.it (.one (.mov 1 (.c (.fn 17 []))))])
 (.seq
 (.post (.ops [.it (.one (.build 5 [.int .i64 0, .int .i64 0] [(0, 1, (.c (.int .i64 (1))))])),
 .it (.one (.build 6 [.int .i64 0, .int .i64 0] [(0, 1, (.c (.int .i64 (2))))])),
 .it (.one (.bslp 7 2 [(.r 5), (.r 6)])),
 .it (.one (.mov 8 (.r 1))),
 .it (.one (.callf (some 9) (.dy (.r 8)) [(.c (.int .i64 (2)))])),
 .it (.one (.mov 10 (.r 1))),
 .it (.one (.callf (some 11) (.dy (.r 10)) [(.c (.int .i64 (1)))])),
 .it (.one (.mov 12 (.r 1))),
 .it (.one (.callf (some 13) (.dy (.r 12)) [(.c (.int .i64 (1)))])),
 .it (.one (.bslp 14 4 [(.r 11), (.r 13)])),
 .it (.one (.build 15 [.int .i64 0, .int .i64 0, .int .i64 0, .int .i64 0, .int .i64 0, .sl [], .str .empty, .int .i64 0, .sl [], .sl []] [(0, 1, (.c (.int .i64 (1)))), (1, 4, (.r 9)), (5, 1, (.r 14))])),
 .it (.one (.mov 16 (.r 1))),
 .it (.one (.callf (some 17) (.dy (.r 16)) [(.c (.int .i64 (2)))])),
 .it (.one (.bslp 18 4 [(.r 17)])),
 .it (.one (.bslp 19 1 [(.c (.str ⟨#[98]⟩)), (.c (.str ⟨#[99]⟩))])),
 .it (.one (.build 20 [.int .i64 0, .int .i64 0, .int .i64 0, .int .i64 0, .int .i64 0, .sl [], .str .empty, .int .i64 0, .sl [], .sl []] [(0, 1, (.c (.int .i64 (21)))), (5, 1, (.r 18)), (8, 1, (.r 19))])),
 .it (.one (.bslp 21 10 [(.r 15), (.r 20)])),
 .it (.one (.build 22 [.str .empty, .bool false, .sl [], .sl []] [(0, 1, (.c (.str ⟨#[97]⟩))), (3, 1, (.r 21))])),
 .it (.one (.mov 23 (.r 1))),
 .it (.one (.callf (some 24) (.dy (.r 23)) [(.c (.int .i64 (1)))])),
 .it (.one (.bslp 25 4 [(.r 24)])),
 .it (.one (.build 26 [.int .i64 0, .int .i64 0, .int .i64 0, .int .i64 0, .int .i64 0, .sl [], .str .empty, .int .i64 0, .sl [], .sl []] [(0, 1, (.c (.int .i64 (23)))), (5, 1, (.r 25))])),
 .it (.one (.bslp 27 10 [(.r 26)])),
 .it (.one (.build 28 [.str .empty, .bool false, .sl [], .sl []] [(0, 1, (.c (.str ⟨#[98]⟩))), (3, 1, (.r 27))])),
 .it (.one (.mov 29 (.r 1))),
 .it (.one (.callf (some 30) (.dy (.r 29)) [(.c (.int .i64 (2)))])),
 .it (.one (.bslp 31 4 [(.r 30)])),
 .it (.one (.build 32 [.int .i64 0, .int .i64 0, .int .i64 0, .int .i64 0, .int .i64 0, .sl [], .str .empty, .int .i64 0, .sl [], .sl []] [(0, 1, (.c (.int .i64 (23)))), (5, 1, (.r 31))])),
 .it (.one (.bslp 33 10 [(.r 32)])),
 .it (.one (.build 34 [.str .empty, .bool false, .sl [], .sl []] [(0, 1, (.c (.str ⟨#[99]⟩))), (3, 1, (.r 33))])),
 .it (.one (.bslp 35 4 [(.r 22), (.r 28), (.r 34)])),
 .it (.one (.build 36 [.bool false, .str .empty, .sl [], .sl [], .sl []] [(2, 1, (.r 7)), (4, 1, (.r 35))])),
 .it (.one (.alloc 2 2 [.bool false, .str .empty, .sl [], .sl [], .sl []])),
 .it (.one (.store (.r 2) (.r 36) 5))]) (.frz 2))
 (.seq
 (.ops [.it (.one (.load 37 (.r 2) 5 true)),
 .it (.one (.callf (some 38) (.st 7) [(.r 37)])),
 .it (.one (.mov 3 (.r 38)))])
 (.seq
 (.ops [.it (.one (.mov 39 (.r 3))),
 .it (.one (.callf (some 40) (.st 16) [(.r 39), (.c (.int .i64 (1)))])),
 .it (.one (.mov 4 (.r 40)))])
 (.seq
 (.ops [.it (.one (.mov 41 (.r 3))),
 .it (.one (.callf (some 42) (.st 10) [(.r 41), (.c (.int .i64 (0)))])),
 .it (.one (.bslp 43 1 [(.c (.int .i64 (1)))])),
 .it (.one (.callf (some 44) (.st 18) [(.r 42), (.r 43)])),
 .it (.one (.mov 45 (.r 44))),
 .it (.grp 45 true [.mov 46 (.r 3), .callf (some 47) (.st 13) [(.r 46), (.c (.int .i64 (0)))], .bslp 48 1 [(.c (.int .i64 (1))), (.c (.int .i64 (2)))], .callf (some 49) (.st 18) [(.r 47), (.r 48)]]),
 .it (.one (.pick 50 (.r 45) (.r 49) (.c (.bool false)))),
 .it (.one (.mov 51 (.r 50))),
 .it (.grp 51 true [.mov 52 (.r 3), .callf (some 53) (.st 9) [(.r 52), (.c (.int .i64 (1)))], .bslp 54 1 [(.c (.int .i64 (1))), (.c (.int .i64 (2)))], .callf (some 55) (.st 18) [(.r 53), (.r 54)]]),
 .it (.one (.pick 56 (.r 51) (.r 55) (.c (.bool false)))),
 .it (.one (.mov 57 (.r 56))),
 .it (.grp 57 true [.mov 58 (.r 3), .callf (some 59) (.st 14) [(.r 58), (.c (.int .i64 (0))), (.c (.int .i64 (0)))], .bslp 60 1 [(.c (.int .i64 (1)))], .callf (some 61) (.st 18) [(.r 59), (.r 60)]]),
 .it (.one (.pick 62 (.r 57) (.r 61) (.c (.bool false)))),
 .it (.one (.mov 63 (.r 62))),
 .it (.grp 63 true [.mov 64 (.r 4), .len 65 (.r 64), .bin 66 .eql (.r 65) (.c (.int .i64 (2)))]),
 .it (.one (.pick 67 (.r 63) (.r 66) (.c (.bool false)))),
 .it (.one (.mov 68 (.r 67))),
 .it (.grp 68 true [.mov 69 (.r 4), .idx 70 (.r 69) (.c (.int .i64 (0))) 2, .load 71 (.r 70) 2 true, .build 72 [.int .i64 0, .int .i64 0] [(0, 1, (.c (.int .i64 (0)))), (1, 1, (.c (.int .i64 (3))))], .eq 73 false (.strct [.i, .i]) (.r 71) (.r 72)]),
 .it (.one (.pick 74 (.r 68) (.r 73) (.c (.bool false)))),
 .it (.one (.mov 75 (.r 74))),
 .it (.grp 75 true [.mov 76 (.r 4), .idx 77 (.r 76) (.c (.int .i64 (1))) 2, .load 78 (.r 77) 2 true, .build 79 [.int .i64 0, .int .i64 0] [(0, 1, (.c (.int .i64 (4)))), (1, 1, (.c (.int .i64 (5))))], .eq 80 false (.strct [.i, .i]) (.r 78) (.r 79)]),
 .it (.one (.pick 81 (.r 75) (.r 80) (.c (.bool false)))),
 .it (.one (.mov 82 (.r 81))),
 .it (.grp 82 true [.mov 83 (.r 3), .callf (some 84) (.st 19) [(.r 83), (.c (.int .i64 (0)))], .bin 85 .eql (.r 84) (.c (.int .i64 (2)))]),
 .it (.one (.pick 86 (.r 82) (.r 85) (.c (.bool false)))),
 .it (.one (.mov 0 (.r 86)))]) .ret))))))
theorem A6_ok : okFun Tryd.prog 6 87 0 A6 [.tmp 0] [] = true := by kernel_rfl
/-- dyehouse/live.New -/
def A7 : ACode :=
 (.seq
 (.ops [.it (.one (.boxp 1 (.r 0))),
 .it (.one (.mov 2 (.c (.nilp))))])
 (.seq
 (.post (.post (.post (.post (.post (.draw [[], [], [1], [0, 1, 2], [0, 1, 2, 3], [], [0, 1, 2, 3, 4, 5]] [.one (.load 8 (.r 1) 5 true),
 .one (.load 9 (.r 1) 5 true),
 .one (.callf (some 10) (.st 20) [(.r 9)]),
 .one (.buildm 11 [.bool false, .str .empty, .sl [], .sl [], .sl [], .nilp, .yl 0, .yl 0, .yl 0] [(0, 5, (.r 8)), (5, 1, (.r 10))]),
 .one (.boxg 12 12 (.r 11)),
 .one (.allocm 3 3 [.nilp]),
 .one (.store (.r 3) (.r 12) 1)]) (.nilb 12 6 1012 1)) (.nilb 12 7 1013 1)) (.rar 1013)) (.nilb 12 8 1014 1)) (.rar 1014))
 (.seq
 (.seq
 (.ops [.it (.one (.fad 13 (.r 1) 2)),
 .it (.one (.load 14 (.r 13) 1 false)),
 .it (.one (.len 15 (.r 14))),
 .it (.one (.mov 16 (.c (.int .i64 (0)))))])
 (.block 0
 (.loop (.pre (.mv [1, 3, 14, 15, 16] [(3, 3), (12, 12), (1012, 1012), (1013, 1013), (1014, 1014)])
 (.seq
 (.ops [.it (.one (.bin 17 .lss (.r 16) (.r 15)))])
 (.seq
 (.cond (.r 17) .skip (.exit 0))
 (.seq
 (.block 1
 (.seq
 (.post (.ops [.it (.one (.idx 18 (.r 14) (.r 16) 2)),
 .it (.one (.load 19 (.r 18) 2 true)),
 .it (.one (.alloc 5 5 [.int .i64 0, .int .i64 0])),
 .it (.one (.store (.r 5) (.r 19) 2))]) (.frz 5))
 (.draw [[], [], [1], [1, 2], [1, 2, 3], [], [5], [5, 6], [1, 2, 3, 4, 5, 6, 7], [0, 1, 2, 3, 4, 5, 6, 7, 8], [0, 1, 2, 3, 4, 5, 6, 7, 8, 9], [0, 1, 2, 3, 4, 5, 6, 7, 8, 9, 10]] [.one (.load 20 (.r 3) 1 false),
 .one (.load 21 (.r 3) 1 false),
 .one (.nilc 22 (.r 21)),
 .one (.fad 23 (.r 22) 6),
 .one (.load 24 (.r 23) 1 false),
 .one (.fad 25 (.r 5) 0),
 .one (.load 26 (.r 25) 1 false),
 .one (.bslp 27 1 [(.r 26)]),
 .one (.appd 28 (.r 24) (.r 27) 1 8),
 .one (.nilc 29 (.r 20)),
 .one (.fad 30 (.r 29) 6),
 .one (.store (.r 30) (.r 28) 1)])))
 (.ops [.it (.one (.bin 31 .add (.r 16) (.c (.int .i64 (1))))),
 .it (.one (.mov 16 (.r 31)))]))))))))
 (.seq
 (.ops [.it (.one (.load 32 (.r 3) 1 false)),
 .it (.one (.nilc 33 (.r 32))),
 .it (.one (.fad 34 (.r 33) 6)),
 .it (.one (.load 35 (.r 34) 1 false)),
 .it (.one (.callo (some 36) (.st 21) [(.r 35)] [1012] []))])
 (.seq
 (.draw [[], [], [1], [1, 2], [1, 2, 3], [1, 2, 3, 4], [0, 1, 2, 3, 4, 5], [0, 1, 2, 3, 4, 5, 6], [0, 1, 2, 3, 4, 5, 6, 7]] [.one (.load 37 (.r 3) 1 false),
 .one (.load 38 (.r 3) 1 false),
 .one (.nilc 39 (.r 38)),
 .one (.fad 40 (.r 39) 6),
 .one (.load 41 (.r 40) 1 false),
 .one (.callo (some 42) (.st 22) [(.r 41)] [1012] []),
 .one (.nilc 43 (.r 37)),
 .one (.fad 44 (.r 43) 6),
 .one (.store (.r 44) (.r 42) 1)])
 (.seq
 (.seq
 (.ops [.it (.one (.fad 45 (.r 1) 4)),
 .it (.one (.load 46 (.r 45) 1 false)),
 .it (.one (.len 47 (.r 46))),
 .it (.one (.mov 48 (.c (.int .i64 (0)))))])
 (.block 2
 (.loop (.pre (.dynB 0)
 (.seq
 (.ops [.it (.one (.bin 49 .lss (.r 48) (.r 47)))])
 (.seq
 (.cond (.r 49) .skip (.exit 2))
 (.seq
 (.block 3
 (.seq
 (.post (.draw [[], [], [1], [1, 2], [1, 2, 3], [], [5], [5, 6], [5, 6, 7], [5, 6, 7, 8], [5, 6, 7, 8, 9], [5, 6, 7, 8, 9, 10], [1, 2, 3, 4, 5, 6, 7, 8, 9, 10, 11], [0, 1, 2, 3, 4, 5, 6, 7, 8, 9, 10, 11, 12], [0, 1, 2, 3, 4, 5, 6, 7, 8, 9, 10, 11, 12, 13], [0, 1, 2, 3, 4, 5, 6, 7, 8, 9, 10, 11, 12, 13, 14]] [.one (.load 50 (.r 3) 1 false),
 .one (.load 51 (.r 3) 1 false),
 .one (.nilc 52 (.r 51)),
 .one (.fad 53 (.r 52) 7),
 .one (.load 54 (.r 53) 1 false),
 .one (.load 55 (.r 3) 1 false),
 .one (.nilc 56 (.r 55)),
 .one (.fad 57 (.r 56) 6),
 .one (.load 58 (.r 57) 1 false),
 .one (.len 59 (.r 58)),
 .one (.callo (some 60) (.st 23) [(.r 59)] [] [60, 1060]),
 .one (.bslr 61 2060 (.r 60)),
 .one (.rapp 62 (.r 54) (.r 61) 8),
 .one (.nilc 63 (.r 50)),
 .one (.fad 64 (.r 63) 7),
 .one (.store (.r 64) (.r 62) 1)]) (.dynB 0))
 (.post (.draw [[], [], [1], [1, 2], [1, 2, 3], [], [5], [5, 6], [5, 6, 7], [5, 6, 7, 8], [5, 6, 7, 8, 9], [5, 6, 7, 8, 9, 10], [1, 2, 3, 4, 5, 6, 7, 8, 9, 10, 11], [0, 1, 2, 3, 4, 5, 6, 7, 8, 9, 10, 11, 12], [0, 1, 2, 3, 4, 5, 6, 7, 8, 9, 10, 11, 12, 13], [0, 1, 2, 3, 4, 5, 6, 7, 8, 9, 10, 11, 12, 13, 14]] [.one (.load 65 (.r 3) 1 false),
 .one (.load 66 (.r 3) 1 false),
 .one (.nilc 67 (.r 66)),
 .one (.fad 68 (.r 67) 8),
 .one (.load 69 (.r 68) 1 false),
 .one (.load 70 (.r 3) 1 false),
 .one (.nilc 71 (.r 70)),
 .one (.fad 72 (.r 71) 6),
 .one (.load 73 (.r 72) 1 false),
 .one (.len 74 (.r 73)),
 .one (.callo (some 75) (.st 23) [(.r 74)] [] [75, 1075]),
 .one (.bslr 76 2075 (.r 75)),
 .one (.rapp 77 (.r 69) (.r 76) 8),
 .one (.nilc 78 (.r 65)),
 .one (.fad 79 (.r 78) 8),
 .one (.store (.r 79) (.r 77) 1)]) (.dynB 0))))
 (.ops [.it (.one (.bin 80 .add (.r 48) (.c (.int .i64 (1))))),
 .it (.one (.mov 48 (.r 80)))]))))))))
 (.seq
 (.post (.ops [.it (.one (.load 81 (.r 1) 5 true)),
 .it (.one (.callf (some 82) (.st 24) [(.r 81)])),
 .it (.one (.alloc 6 6 [.nilp])),
 .it (.one (.store (.r 6) (.r 82) 1))]) (.frz 6))
 (.seq
 (.seq
 (.ops [.it (.one (.alloc 7 7 [.bool false])),
 .it (.one (.store (.r 7) (.c (.bool true)) 1))])
 (.block 4
 (.loop (.pre (.dynB 0)
 (.seq
 (.seq
 (.ops [.it (.one (.load 83 (.r 7) 1 false))])
 (.cond (.r 83) .skip (.exit 4)))
 (.seq
 (.block 5
 (.seq
 (.ops [.it (.one (.store (.r 7) (.c (.bool false)) 1))])
 (.ops [.it (.one (.fad 84 (.r 1) 4)),
 .it (.one (.load 85 (.r 84) 1 false)),
 .it (.one (.mkfn 86 26 [(.r 6), (.r 3), (.r 7)])),
 .callg (some 87) (.st 25) [(.r 85), (.r 86)]])))
 (.seq
 (.post (.ops [.it (.one (.load 88 (.r 7) 1 false))]) (.dynB 0))
 (.ops [.it (.one (.alloc 7 7 [.bool false])),
 .it (.one (.store (.r 7) (.r 88) 1))]))))))))
 (.seq
 (.post (.ops [.it (.one (.load 89 (.r 3) 1 false)),
 .it (.one (.mov 2 (.r 89)))]) (.dynB 0)) .ret)))))))))
theorem A7_ok : okFun Tryd.prog 7 90 0 A7 [.tmp 2] [] = true := by kernel_rfl
/-- dyehouse/dyehouselaw25.same -/
def A8 : ACode :=
 (.seq
 (.ops [.it (.one (.boxp 4 (.r 1))),
 .it (.one (.mov 6 (.c (.bool false))))])
 (.seq
 (.ops [.it (.one (.mov 7 (.c (.int .i64 (0)))))])
 (.seq
 (.seq
 (.ops [.it (.one (.mov 8 (.c (.int .i64 (0)))))])
 (.block 0
 (.loop (.pre (.mv [0, 2, 4, 7, 8] [])
 (.seq
 (.seq
 (.ops [.it (.one (.mov 9 (.r 8))),
 .it (.one (.mov 10 (.r 0))),
 .it (.one (.len 11 (.r 10))),
 .it (.one (.bin 12 .lss (.r 9) (.r 11)))])
 (.cond (.r 12) .skip (.exit 0)))
 (.seq
 (.block 1
 (.seq
 (.seq
 (.draw [[], [], [], [], [2, 3], [2, 3, 4], [0, 1, 2, 3, 4, 5], [0, 1, 2, 3, 4, 5, 6], [0, 1, 2, 3, 4, 5, 6, 7], [0, 1, 2, 3, 4, 5, 6, 7, 8], [0, 1, 2, 3, 4, 5, 6, 7, 8, 9], [0, 1, 2, 3, 4, 5, 6, 7, 8, 9, 10], [0, 1, 2, 3, 4, 5, 6, 7, 8, 9, 10, 11], [0, 1, 2, 3, 4, 5, 6, 7, 8, 9, 10, 11], [0, 1, 2, 3, 4, 5, 6, 7, 8, 9, 10, 11, 13], [0, 1, 2, 3, 4, 5, 6, 7, 8, 9, 10, 11, 12, 13, 14], [0, 1, 2, 3, 4, 5, 6, 7, 8, 9, 10, 11, 12, 13, 14, 15], [0, 1, 2, 3, 4, 5, 6, 7, 8, 9, 10, 11], [0, 1, 2, 3, 4, 5, 6, 7, 8, 9, 10, 11], [0, 1, 2, 3, 4, 5, 6, 7, 8, 9, 10, 11, 17, 18], [0, 1, 2, 3, 4, 5, 6, 7, 8, 9, 10, 11, 17, 18, 19], [0, 1, 2, 3, 4, 5, 6, 7, 8, 9, 10, 11, 12, 13, 14, 15, 16, 17, 18, 19, 20], [0, 1, 2, 3, 4, 5, 6, 7, 8, 9, 10, 11, 12, 13, 14, 15, 16, 17, 18, 19, 20, 21], [0, 1, 2, 3, 4, 5, 6, 7, 8, 9, 10, 11, 12, 13, 14, 15, 16, 17, 18, 19, 20, 21, 22]] [.one (.load 15 (.r 4) 5 true),
 .one (.mov 16 (.r 2)),
 .one (.mov 17 (.r 0)),
 .one (.mov 18 (.r 8)),
 .one (.idx 19 (.r 17) (.r 18) 1),
 .one (.load 20 (.r 19) 1 false),
 .one (.callf (some 21) (.st 30) [(.r 15), (.r 16), (.r 20)]),
 .one (.un 22 .not (.r 21)),
 .one (.mov 23 (.r 22)),
 .grp 23 false [.mov 24 (.r 8), .bin 25 .gtr (.r 24) (.c (.int .i64 (0))), .mov 26 (.r 25)],
 .grp 26 true [.mov 27 (.r 0), .mov 28 (.r 8), .bin 29 .sub (.r 28) (.c (.int .i64 (1))), .idx 30 (.r 27) (.r 29) 1, .load 31 (.r 30) 1 false, .mov 32 (.r 0), .mov 33 (.r 8), .idx 34 (.r 32) (.r 33) 1, .load 35 (.r 34) 1 false, .bin 36 .geq (.r 31) (.r 35)],
 .grp 23 false [.pick 37 (.r 26) (.r 36) (.c (.bool false))],
 .one (.pick 38 (.r 23) (.c (.bool true)) (.r 37))])
 (.cond (.r 38)
 (.seq
 (.ops [.it (.one (.mov 6 (.c (.bool false))))]) .ret) .skip))
 (.ops [.it (.one (.mov 39 (.r 7))),
 .it (.one (.bin 40 .add (.r 39) (.c (.int .i64 (1))))),
 .it (.one (.mov 7 (.r 40)))])))
 (.ops [.it (.one (.mov 13 (.r 8))),
 .it (.one (.bin 14 .add (.r 13) (.c (.int .i64 (1))))),
 .it (.one (.mov 8 (.r 14)))])))))))
 (.seq
 (.ops [.it (.one (.mov 41 (.r 7))),
 .it (.one (.load 42 (.r 4) 5 true)),
 .it (.one (.mov 43 (.r 2))),
 .it (.one (.callf (some 44) (.st 31) [(.r 42), (.r 43)])),
 .it (.one (.len 45 (.r 44))),
 .it (.one (.bin 46 .eql (.r 41) (.r 45))),
 .it (.one (.mov 6 (.r 46)))]) .ret))))
theorem A8_ok : okFun Tryd.prog 8 47 0 A8 [.tmp 6] [] = true := by kernel_rfl
/-- (*dyehouse/live.Live).Present -/
def A9 : ACode :=
 (.seq
 (.ops [.it (.one (.mov 4 (.c (.sl []))))])
 (.seq
 (.seq
 (.ops [.it (.one (.mov 6 (.r 0))),
 .it (.one (.eq 7 false .nil (.r 6) (.c (.nilp))))])
 (.cond (.r 7)
 (.seq
 (.ops [.it (.one (.mov 4 (.c (.sl []))))]) .ret) .skip))
 (.seq
 (.ops [.it (.one (.mov 8 (.r 0))),
 .it (.one (.mov 9 (.r 1))),
 .it (.one (.callf (some 10) (.st 32) [(.r 8), (.r 9)])),
 .it (.one (.mov 5 (.r 10)))])
 (.seq
 (.seq
 (.ops [.it (.one (.mov 11 (.r 5))),
 .it (.one (.eq 12 false .nil (.r 11) (.c (.nilp))))])
 (.cond (.r 12)
 (.seq
 (.ops [.it (.one (.mov 4 (.c (.sl []))))]) .ret) .skip))
 (.seq
 (.post (.ops [.it (.one (.mov 13 (.r 0))),
 .it (.one (.mov 14 (.r 5))),
 .it (.one (.callo (some 15) (.st 33) [(.r 13), (.r 14)] [] [15])),
 .it (.one (.mov 4 (.r 15)))]) (.frz 15)) .ret)))))
theorem A9_ok : okFun Tryd.prog 9 16 0 A9 [.tmp 4] [] = true := by kernel_rfl
/-- (*dyehouse/live.Live).In -/
def A10 : ACode :=
 (.seq
 (.ops [.it (.one (.mov 4 (.c (.sl []))))])
 (.seq
 (.seq
 (.ops [.it (.one (.mov 5 (.r 0))),
 .it (.one (.mov 6 (.r 1))),
 .it (.one (.callf (some 7) (.st 34) [(.r 5), (.r 6)])),
 .it (.one (.un 8 .not (.r 7)))])
 (.cond (.r 8)
 (.seq
 (.ops [.it (.one (.mov 4 (.c (.sl []))))]) .ret) .skip))
 (.seq
 (.post (.ops [.it (.one (.mov 9 (.r 0))),
 .it (.one (.mov 10 (.r 0))),
 .it (.one (.nilc 11 (.r 10))),
 .it (.one (.fad 12 (.r 11) 7)),
 .it (.one (.load 13 (.r 12) 1 false)),
 .it (.one (.mov 14 (.r 1))),
 .it (.one (.idx 15 (.r 13) (.r 14) 1)),
 .it (.one (.load 16 (.r 15) 1 false)),
 .it (.one (.callo (some 17) (.st 33) [(.r 9), (.r 16)] [] [17])),
 .it (.one (.mov 4 (.r 17)))]) (.frz 17)) .ret)))
theorem A10_ok : okFun Tryd.prog 10 18 0 A10 [.tmp 4] [] = true := by kernel_rfl
/-- dyehouse/dyehouseref12.In -/
def A11 : ACode :=
 (.seq
 (.ops [.it (.one (.mov 4 (.c (.bool false))))])
 (.seq
 (.seq
 (.ops [.it (.one (.mov 5 (.c (.int .i64 (0)))))])
 (.block 0
 (.loop (.pre (.mv [0, 1, 5] [])
 (.seq
 (.seq
 (.ops [.it (.one (.mov 6 (.r 5))),
 .it (.one (.mov 7 (.r 0))),
 .it (.one (.len 8 (.r 7))),
 .it (.one (.bin 9 .lss (.r 6) (.r 8)))])
 (.cond (.r 9) .skip (.exit 0)))
 (.seq
 (.block 1
 (.seq
 (.ops [.it (.one (.mov 12 (.r 0))),
 .it (.one (.mov 13 (.r 5))),
 .it (.one (.idx 14 (.r 12) (.r 13) 1)),
 .it (.one (.load 15 (.r 14) 1 false)),
 .it (.one (.mov 16 (.r 1))),
 .it (.one (.bin 17 .eql (.r 15) (.r 16)))])
 (.cond (.r 17)
 (.seq
 (.ops [.it (.one (.mov 4 (.c (.bool true))))]) .ret) .skip)))
 (.ops [.it (.one (.mov 10 (.r 5))),
 .it (.one (.bin 11 .add (.r 10) (.c (.int .i64 (1))))),
 .it (.one (.mov 5 (.r 11)))])))))))
 (.seq
 (.ops [.it (.one (.mov 4 (.c (.bool false))))]) .ret)))
theorem A11_ok : okFun Tryd.prog 11 18 0 A11 [.tmp 4] [] = true := by kernel_rfl
/-- dyehouse/dyehouseref25.Wanted -/
def A12 : ACode :=
 (.seq
 (.ops [.it (.one (.boxp 4 (.r 0))),
 .it (.one (.mov 8 (.c (.bool false))))])
 (.seq
 (.draw [[], [], [0, 1], [0, 1, 2], [0, 1, 2, 3], [0, 1, 2, 3], [0, 1, 2, 3, 5], [0, 1, 2, 3], [0, 1, 2, 3], [0, 1, 2, 3], [0, 1, 2, 3], [0, 1, 2, 3, 10], [0, 1, 2, 3, 10, 11], [0, 1, 2, 3, 10, 11, 12], [0, 1, 2, 3, 4, 5, 6, 7, 8, 9, 10, 11, 12, 13], [0, 1, 2, 3, 4, 5, 6, 7, 8, 9, 10, 11, 12, 13, 14], [0, 1, 2, 3, 4, 5, 6, 7, 8, 9, 10, 11, 12, 13, 14, 15]] [.one (.load 9 (.r 4) 5 true),
 .one (.mov 10 (.r 3)),
 .one (.callf (some 11) (.st 35) [(.r 9), (.r 10)]),
 .one (.mov 12 (.r 11)),
 .grp 12 true [.load 13 (.r 4) 5 true, .load 14 (.r 4) 5 true, .callf (some 15) (.st 37) [(.r 14)], .mov 16 (.r 1), .mov 17 (.r 2), .mov 18 (.r 3), .fad 19 (.r 4) 4, .load 20 (.r 19) 1 false, .len 21 (.r 20), .make 22 22 1 1 [.bool false] (.r 21) (.r 21), .callo (some 23) (.st 36) [(.r 13), (.r 15), (.r 16), (.r 17), (.r 18), (.r 22)] [22] []],
 .one (.pick 24 (.r 12) (.r 23) (.c (.bool false))),
 .one (.mov 8 (.r 24))]) .ret))
theorem A12_ok : okFun Tryd.prog 12 25 0 A12 [.tmp 8] [] = true := by kernel_rfl
/-- (*dyehouse/live.Live).Out -/
def A13 : ACode :=
 (.seq
 (.ops [.it (.one (.mov 4 (.c (.sl []))))])
 (.seq
 (.seq
 (.ops [.it (.one (.mov 5 (.r 0))),
 .it (.one (.mov 6 (.r 1))),
 .it (.one (.callf (some 7) (.st 34) [(.r 5), (.r 6)])),
 .it (.one (.un 8 .not (.r 7)))])
 (.cond (.r 8)
 (.seq
 (.ops [.it (.one (.mov 4 (.c (.sl []))))]) .ret) .skip))
 (.seq
 (.post (.ops [.it (.one (.mov 9 (.r 0))),
 .it (.one (.mov 10 (.r 0))),
 .it (.one (.nilc 11 (.r 10))),
 .it (.one (.fad 12 (.r 11) 8)),
 .it (.one (.load 13 (.r 12) 1 false)),
 .it (.one (.mov 14 (.r 1))),
 .it (.one (.idx 15 (.r 13) (.r 14) 1)),
 .it (.one (.load 16 (.r 15) 1 false)),
 .it (.one (.callo (some 17) (.st 33) [(.r 9), (.r 16)] [] [17])),
 .it (.one (.mov 4 (.r 17)))]) (.frz 17)) .ret)))
theorem A13_ok : okFun Tryd.prog 13 18 0 A13 [.tmp 4] [] = true := by kernel_rfl
/-- (*dyehouse/live.Live).Through -/
def A14 : ACode :=
 (.seq
 (.ops [.it (.one (.mov 6 (.c (.sl []))))])
 (.seq
 (.seq
 (.ops [.it (.one (.mov 9 (.r 0))),
 .it (.one (.mov 10 (.r 1))),
 .it (.one (.callf (some 11) (.st 34) [(.r 9), (.r 10)])),
 .it (.one (.un 12 .not (.r 11))),
 .it (.one (.mov 13 (.r 12))),
 .it (.grp 13 false [.mov 14 (.r 0), .nilc 15 (.r 14), .fad 16 (.r 15) 5, .load 17 (.r 16) 1 false, .mov 18 (.r 1), .mov 19 (.r 2), .callf (some 20) (.st 38) [(.r 17), (.r 18), (.r 19)], .bin 21 .lss (.r 20) (.c (.int .i64 (0)))]),
 .it (.one (.pick 22 (.r 13) (.c (.bool true)) (.r 21)))])
 (.cond (.r 22)
 (.seq
 (.ops [.it (.one (.mov 6 (.c (.sl []))))]) .ret) .skip))
 (.seq
 (.ops [.it (.one (.mov 23 (.r 0))),
 .it (.one (.mov 24 (.r 1))),
 .it (.one (.mov 25 (.r 2))),
 .it (.one (.bin 26 .add (.r 25) (.c (.int .i64 (1))))),
 .it (.one (.callo (some 27) (.st 29) [(.r 23), (.r 24), (.r 26)] [] [27, 1027])),
 .it (.one (.mov 7 (.r 27)))])
 (.seq
 (.seq
 (.post (.ops [.it (.one (.mov 28 (.r 0))),
 .it (.one (.nilc 29 (.r 28))),
 .it (.one (.fad 30 (.r 29) 0)),
 .it (.one (.fad 31 (.r 30) 4)),
 .it (.one (.load 32 (.r 31) 1 false)),
 .it (.one (.mov 33 (.r 1))),
 .it (.one (.idx 34 (.r 32) (.r 33) 4)),
 .it (.one (.fad 35 (.r 34) 3)),
 .it (.one (.load 36 (.r 35) 1 false)),
 .it (.one (.mov 37 (.r 2))),
 .it (.one (.idx 38 (.r 36) (.r 37) 10)),
 .it (.one (.fad 39 (.r 38) 1)),
 .it (.one (.load 40 (.r 39) 4 true)),
 .it (.one (.alloc 8 8 [.int .i64 0, .int .i64 0, .int .i64 0, .int .i64 0])),
 .it (.one (.store (.r 8) (.r 40) 4))]) (.frz 8))
 (.seq
 (.ops [.it (.one (.fad 41 (.r 8) 0)),
 .it (.one (.load 42 (.r 41) 1 false)),
 .it (.one (.bin 43 .eql (.r 42) (.c (.int .i64 (1)))))])
 (.cond (.r 43)
 (.ops [.it (.one (.mov 44 (.r 7))),
 .it (.one (.mov 45 (.r 0))),
 .it (.one (.fad 46 (.r 8) 2)),
 .it (.one (.load 47 (.r 46) 1 false)),
 .it (.one (.callf (some 48) (.st 40) [(.r 45), (.r 47)])),
 .it (.one (.callo (some 49) (.st 39) [(.r 44), (.r 48)] [27, 1027] []))]) .skip)))
 (.seq
 (.post (.ops [.it (.one (.mov 50 (.r 0))),
 .it (.one (.mov 51 (.r 7))),
 .it (.one (.callx (some 52) (.st 33) [(.r 50), (.r 51)] [] [52])),
 .it (.one (.mov 6 (.r 52)))]) (.frz 52)) .ret)))))
theorem A14_ok : okFun Tryd.prog 14 53 0 A14 [.tmp 6] [] = true := by kernel_rfl
/-- dyehouse/dyehouseref25.Spans -/
def A15 : ACode :=
 (.seq
 (.ops [.it (.one (.boxp 2 (.r 0))),
 .it (.one (.mov 4 (.c (.sl []))))])
 (.seq
 (.ops [.it (.one (.nilarr 5 5 2))])
 (.seq
 (.ops [.it (.one (.mov 6 (.c (.int .i64 (-2)))))])
 (.seq
 (.ops [.it (.one (.mov 7 (.c (.int .i64 (-1)))))])
 (.seq
 (.seq
 (.ops [.it (.one (.mov 8 (.c (.int .i64 (0)))))])
 (.block 0
 (.loop (.pre (.mv [1, 2, 5, 6, 7, 8] [(5, 5)])
 (.seq
 (.seq
 (.ops [.it (.one (.mov 13 (.r 8))),
 .it (.one (.load 14 (.r 2) 5 true)),
 .it (.one (.callf (some 15) (.st 5) [(.r 14)])),
 .it (.one (.bin 16 .mul (.c (.int .i64 (2))) (.r 15))),
 .it (.one (.bin 17 .lss (.r 13) (.r 16)))])
 (.cond (.r 17) .skip (.exit 0)))
 (.seq
 (.block 1
 (.seq
 (.seq
 (.ops [.it (.one (.load 20 (.r 2) 5 true)),
 .it (.one (.mov 21 (.r 8))),
 .it (.one (.mov 22 (.r 1))),
 .it (.one (.callf (some 23) (.st 30) [(.r 20), (.r 21), (.r 22)])),
 .it (.one (.un 24 .not (.r 23)))])
 (.cond (.r 24) (.exit 1) .skip))
 (.seq
 (.ops [.it (.one (.load 26 (.r 2) 5 true)),
 .it (.one (.mov 27 (.r 8))),
 .it (.one (.callf (some 28) (.st 41) [(.r 26), (.r 27)])),
 .it (.one (.mov 25 (.r 28))),
 .it (.one (.ext 29 (.r 25) 0)),
 .it (.one (.ext 30 (.r 25) 1)),
 .it (.one (.ext 31 (.r 25) 2)),
 .it (.one (.ext 32 (.r 25) 3)),
 .it (.one (.mov 9 (.r 29))),
 .it (.one (.mov 10 (.r 30))),
 .it (.one (.mov 11 (.r 31))),
 .it (.one (.mov 12 (.r 32)))])
 (.seq
 (.seq
 (.ops [.it (.one (.mov 33 (.r 8))),
 .it (.one (.mov 34 (.r 6))),
 .it (.one (.bin 35 .add (.r 34) (.c (.int .i64 (1))))),
 .it (.one (.bin 36 .neq (.r 33) (.r 35))),
 .it (.one (.mov 37 (.r 36))),
 .it (.grp 37 false [.mov 38 (.r 9), .mov 39 (.r 7), .bin 40 .neq (.r 38) (.r 39)]),
 .it (.one (.pick 41 (.r 37) (.c (.bool true)) (.r 40)))])
 (.cond (.r 41)
 (.ops [.it (.one (.mov 42 (.r 5))),
 .it (.one (.mov 43 (.r 8))),
 .it (.one (.mov 44 (.r 8))),
 .it (.one (.bin 45 .add (.r 44) (.c (.int .i64 (1))))),
 .it (.one (.build 46 [.int .i64 0, .int .i64 0] [(0, 1, (.r 43)), (1, 1, (.r 45))])),
 .it (.one (.bslp 47 2 [(.r 46)])),
 .it (.one (.appd 48 (.r 42) (.r 47) 2 16)),
 .it (.one (.mov 5 (.r 48)))]) .skip))
 (.seq
 (.ops [.it (.one (.mov 49 (.r 5))),
 .it (.one (.mov 50 (.r 5))),
 .it (.one (.len 51 (.r 50))),
 .it (.one (.bin 52 .sub (.r 51) (.c (.int .i64 (1))))),
 .it (.one (.mov 53 (.r 8))),
 .it (.one (.bin 54 .add (.r 53) (.c (.int .i64 (1))))),
 .it (.one (.idx 55 (.r 49) (.r 52) 2)),
 .it (.one (.aix 56 (.r 55) (.c (.int .i64 (1))) 1 2)),
 .it (.one (.store (.r 56) (.r 54) 1))])
 (.ops [.it (.one (.mov 57 (.r 8))),
 .it (.one (.mov 58 (.r 9))),
 .it (.one (.mov 6 (.r 57))),
 .it (.one (.mov 7 (.r 58)))]))))))
 (.ops [.it (.one (.mov 18 (.r 8))),
 .it (.one (.bin 19 .add (.r 18) (.c (.int .i64 (1))))),
 .it (.one (.mov 8 (.r 19)))])))))))
 (.seq
 (.post (.ops [.it (.one (.mov 59 (.r 5))),
 .it (.one (.mov 4 (.r 59)))]) (.frz 5)) .ret))))))
theorem A15_ok : okFun Tryd.prog 15 60 0 A15 [.tmp 4] [] = true := by kernel_rfl
/-- (*dyehouse/live.Live).Spans -/
def A16 : ACode :=
 (.seq
 (.ops [.it (.one (.mov 4 (.c (.sl []))))])
 (.seq
 (.ops [.it (.one (.nilarr 5 5 2))])
 (.seq
 (.seq
 (.ops [.it (.one (.mov 11 (.r 0))),
 .it (.one (.eq 12 false .nil (.r 11) (.c (.nilp)))),
 .it (.one (.mov 13 (.r 12))),
 .it (.grp 13 false [.mov 14 (.r 0), .mov 15 (.r 1), .callf (some 16) (.st 40) [(.r 14), (.r 15)], .bin 17 .lss (.r 16) (.c (.int .i64 (0)))]),
 .it (.one (.pick 18 (.r 13) (.c (.bool true)) (.r 17)))])
 (.cond (.r 18)
 (.seq
 (.ops [.it (.one (.mov 4 (.c (.sl []))))]) .ret) .skip))
 (.seq
 (.seq
 (.ops [.it (.one (.mov 19 (.r 0))),
 .it (.one (.nilc 20 (.r 19))),
 .it (.one (.fad 21 (.r 20) 7)),
 .it (.one (.load 22 (.r 21) 1 false)),
 .it (.one (.len 23 (.r 22))),
 .it (.one (.mov 24 (.c (.int .i64 (0)))))])
 (.block 0
 (.loop (.pre (.mv [0, 1, 5, 23, 24] [(5, 5)])
 (.seq
 (.ops [.it (.one (.bin 25 .lss (.r 24) (.r 23)))])
 (.seq
 (.cond (.r 25) .skip (.exit 0))
 (.seq
 (.block 1
 (.seq
 (.ops [.it (.one (.mov 26 (.r 24))),
 .it (.one (.mov 6 (.r 26)))])
 (.seq
 (.ops [.it (.one (.mov 28 (.r 0))),
 .it (.one (.nilc 29 (.r 28))),
 .it (.one (.fad 30 (.r 29) 5)),
 .it (.one (.load 31 (.r 30) 1 false)),
 .it (.one (.mov 32 (.r 6))),
 .it (.one (.callf (some 33) (.st 42) [(.r 31), (.r 32)])),
 .it (.one (.mov 27 (.r 33))),
 .it (.one (.ext 34 (.r 27) 0)),
 .it (.one (.ext 35 (.r 27) 1)),
 .it (.one (.mov 7 (.r 34))),
 .it (.one (.mov 8 (.r 35)))])
 (.seq
 (.ops [.it (.one (.mov 9 (.c (.bool false))))])
 (.seq
 (.ops [.it (.one (.mov 36 (.r 7))),
 .it (.one (.mov 10 (.r 36)))])
 (.block 2
 (.loop (.pre (.mv [0, 1, 5, 8, 9, 10, 23, 24] [(5, 5)])
 (.seq
 (.seq
 (.ops [.it (.one (.mov 37 (.r 10))),
 .it (.one (.mov 38 (.r 8))),
 .it (.one (.bin 39 .lss (.r 37) (.r 38)))])
 (.cond (.r 39) .skip (.exit 2)))
 (.seq
 (.block 3
 (.seq
 (.seq
 (.ops [.it (.one (.mov 42 (.r 0))),
 .it (.one (.mov 43 (.r 10))),
 .it (.one (.callf (some 44) (.st 32) [(.r 42), (.r 43)])),
 .it (.one (.mov 45 (.r 0))),
 .it (.one (.mov 46 (.r 1))),
 .it (.one (.callf (some 47) (.st 40) [(.r 45), (.r 46)])),
 .it (.one (.callb (some 48) (.st 43) [(.r 44), (.r 47)])),
 .it (.one (.un 49 .not (.r 48)))])
 (.cond (.r 49)
 (.seq
 (.ops [.it (.one (.mov 9 (.c (.bool false))))]) (.exit 3)) .skip))
 (.seq
 (.seq
 (.ops [.it (.one (.mov 50 (.r 9))),
 .it (.one (.un 51 .not (.r 50)))])
 (.cond (.r 51)
 (.seq
 (.ops [.it (.one (.mov 52 (.r 5))),
 .it (.one (.mov 53 (.r 10))),
 .it (.one (.mov 54 (.r 10))),
 .it (.one (.build 55 [.int .i64 0, .int .i64 0] [(0, 1, (.r 53)), (1, 1, (.r 54))])),
 .it (.one (.bslp 56 2 [(.r 55)])),
 .it (.one (.appd 57 (.r 52) (.r 56) 2 16)),
 .it (.one (.mov 5 (.r 57)))])
 (.ops [.it (.one (.mov 9 (.c (.bool true))))])) .skip))
 (.ops [.it (.one (.mov 58 (.r 5))),
 .it (.one (.mov 59 (.r 5))),
 .it (.one (.len 60 (.r 59))),
 .it (.one (.bin 61 .sub (.r 60) (.c (.int .i64 (1))))),
 .it (.one (.mov 62 (.r 10))),
 .it (.one (.bin 63 .add (.r 62) (.c (.int .i64 (1))))),
 .it (.one (.idx 64 (.r 58) (.r 61) 2)),
 .it (.one (.aix 65 (.r 64) (.c (.int .i64 (1))) 1 2)),
 .it (.one (.store (.r 65) (.r 63) 1))]))))
 (.ops [.it (.one (.mov 40 (.r 10))),
 .it (.one (.bin 41 .add (.r 40) (.c (.int .i64 (1))))),
 .it (.one (.mov 10 (.r 41)))])))))))))))
 (.ops [.it (.one (.bin 66 .add (.r 24) (.c (.int .i64 (1))))),
 .it (.one (.mov 24 (.r 66)))]))))))))
 (.seq
 (.post (.ops [.it (.one (.mov 67 (.r 5))),
 .it (.one (.mov 4 (.r 67)))]) (.frz 5)) .ret)))))
theorem A16_ok : okFun Tryd.prog 16 68 0 A16 [.tmp 4] [] = true := by kernel_rfl
/-- dyehouse/dyehouselaw25.works$1 -/
def A17 : ACode :=
 (.seq
 (.ops [.it (.one (.alloc 2 2 [.int .i64 0, .int .i64 0, .int .i64 0, .int .i64 0]))])
 (.seq
 (.ops [.it (.one (.mov 3 (.r 0))),
 .it (.one (.build 4 [.int .i64 0, .int .i64 0, .int .i64 0, .int .i64 0] [(0, 1, (.c (.int .i64 (1)))), (2, 1, (.r 3))])),
 .it (.one (.store (.r 2) (.r 4) 4))]) .ret))
theorem A17_ok : okFun Tryd.prog 17 5 0 A17 [.cell 2 4 true] [] = true := by kernel_rfl
/-- dyehouse/dyehouseref12.Ints -/
def A18 : ACode :=
 (.seq
 (.ops [.it (.one (.mov 4 (.c (.bool false))))])
 (.seq
 (.seq
 (.ops [.it (.one (.mov 6 (.r 0))),
 .it (.one (.len 7 (.r 6))),
 .it (.one (.mov 8 (.r 1))),
 .it (.one (.len 9 (.r 8))),
 .it (.one (.bin 10 .neq (.r 7) (.r 9)))])
 (.cond (.r 10)
 (.seq
 (.ops [.it (.one (.mov 4 (.c (.bool false))))]) .ret) .skip))
 (.seq
 (.seq
 (.ops [.it (.one (.mov 5 (.c (.int .i64 (0)))))])
 (.block 0
 (.loop (.pre (.mv [0, 1, 5] [])
 (.seq
 (.seq
 (.ops [.it (.one (.mov 11 (.r 5))),
 .it (.one (.mov 12 (.r 0))),
 .it (.one (.len 13 (.r 12))),
 .it (.one (.bin 14 .lss (.r 11) (.r 13)))])
 (.cond (.r 14) .skip (.exit 0)))
 (.seq
 (.block 1
 (.seq
 (.draw [[], [], [0, 1], [0, 1, 2], [], [], [4, 5], [4, 5, 6], [0, 1, 2, 3, 4, 5, 6, 7]] [.one (.mov 17 (.r 0)),
 .one (.mov 18 (.r 5)),
 .one (.idx 19 (.r 17) (.r 18) 1),
 .one (.load 20 (.r 19) 1 false),
 .one (.mov 21 (.r 1)),
 .one (.mov 22 (.r 5)),
 .one (.idx 23 (.r 21) (.r 22) 1),
 .one (.load 24 (.r 23) 1 false),
 .one (.bin 25 .neq (.r 20) (.r 24))])
 (.cond (.r 25)
 (.seq
 (.ops [.it (.one (.mov 4 (.c (.bool false))))]) .ret) .skip)))
 (.ops [.it (.one (.mov 15 (.r 5))),
 .it (.one (.bin 16 .add (.r 15) (.c (.int .i64 (1))))),
 .it (.one (.mov 5 (.r 16)))])))))))
 (.seq
 (.ops [.it (.one (.mov 4 (.c (.bool true))))]) .ret))))
theorem A18_ok : okFun Tryd.prog 18 26 0 A18 [.tmp 4] [] = true := by kernel_rfl
/-- (*dyehouse/live.Live).Most -/
def A19 : ACode :=
 (.seq
 (.ops [.it (.one (.mov 4 (.c (.int .i64 (0)))))])
 (.seq
 (.seq
 (.ops [.it (.one (.mov 12 (.r 0))),
 .it (.one (.eq 13 false .nil (.r 12) (.c (.nilp))))])
 (.cond (.r 13)
 (.seq
 (.ops [.it (.one (.mov 4 (.c (.int .i64 (0)))))]) .ret) .skip))
 (.seq
 (.ops [.it (.one (.mov 5 (.c (.int .i64 (0)))))])
 (.seq
 (.seq
 (.ops [.it (.one (.mov 14 (.r 0))),
 .it (.one (.nilc 15 (.r 14))),
 .it (.one (.fad 16 (.r 15) 5)),
 .it (.one (.load 17 (.r 16) 1 false)),
 .it (.one (.callf (some 18) (.st 44) [(.r 17)])),
 .it (.one (.bin 19 .mul (.c (.int .i64 (2))) (.r 18))),
 .it (.one (.mov 20 (.c (.int .i64 (0)))))])
 (.block 0
 (.loop (.pre (.mv [0, 1, 5, 19, 20] [])
 (.seq
 (.ops [.it (.one (.bin 21 .lss (.r 20) (.r 19)))])
 (.seq
 (.cond (.r 21) .skip (.exit 0))
 (.seq
 (.block 1
 (.seq
 (.ops [.it (.one (.mov 22 (.r 20))),
 .it (.one (.mov 6 (.r 22)))])
 (.seq
 (.ops [.it (.one (.mov 7 (.c (.int .i64 (0)))))])
 (.seq
 (.seq
 (.ops [.it (.one (.mov 23 (.r 0))),
 .it (.one (.mov 24 (.r 6))),
 .it (.one (.callf (some 25) (.st 9) [(.r 23), (.r 24)])),
 .it (.one (.len 26 (.r 25))),
 .it (.one (.mov 27 (.c (.int .i64 (0)))))])
 (.block 2
 (.loop (.pre (.mv [0, 1, 5, 7, 19, 20, 25, 26, 27] [])
 (.seq
 (.ops [.it (.one (.bin 28 .lss (.r 27) (.r 26)))])
 (.seq
 (.cond (.r 28) .skip (.exit 2))
 (.seq
 (.block 3
 (.seq
 (.ops [.it (.one (.idx 29 (.r 25) (.r 27) 1)),
 .it (.one (.load 30 (.r 29) 1 false)),
 .it (.one (.mov 9 (.r 30)))])
 (.seq
 (.ops [.it (.one (.mov 32 (.r 0))),
 .it (.one (.nilc 33 (.r 32))),
 .it (.one (.fad 34 (.r 33) 0)),
 .it (.one (.load 35 (.r 34) 5 true)),
 .it (.one (.mov 36 (.r 9))),
 .it (.one (.callf (some 37) (.st 45) [(.r 35), (.r 36)])),
 .it (.one (.mov 31 (.r 37))),
 .it (.one (.ext 38 (.r 31) 0)),
 .it (.one (.ext 39 (.r 31) 1)),
 .it (.one (.mov 10 (.r 38))),
 .it (.one (.mov 11 (.r 39)))])
 (.seq
 (.ops [.it (.one (.mov 40 (.r 10))),
 .it (.one (.mov 41 (.r 1))),
 .it (.one (.bin 42 .eql (.r 40) (.r 41)))])
 (.cond (.r 42)
 (.ops [.it (.one (.mov 43 (.r 7))),
 .it (.one (.bin 44 .add (.r 43) (.c (.int .i64 (1))))),
 .it (.one (.mov 7 (.r 44)))]) .skip)))))
 (.ops [.it (.one (.bin 45 .add (.r 27) (.c (.int .i64 (1))))),
 .it (.one (.mov 27 (.r 45)))]))))))))
 (.ops [.it (.one (.mov 46 (.r 5))),
 .it (.one (.mov 47 (.r 7))),
 .it (.one (.mxn 48 true (.r 46) (.r 47))),
 .it (.one (.mov 5 (.r 48)))])))))
 (.ops [.it (.one (.bin 49 .add (.r 20) (.c (.int .i64 (1))))),
 .it (.one (.mov 20 (.r 49)))]))))))))
 (.seq
 (.ops [.it (.one (.mov 50 (.r 5))),
 .it (.one (.mov 4 (.r 50)))]) .ret)))))
theorem A19_ok : okFun Tryd.prog 19 51 0 A19 [.tmp 4] [] = true := by kernel_rfl
/-- dyehouse/point.New -/
def A20 : ACode :=
 (.seq
 (.ops [.it (.one (.boxp 1 (.r 0))),
 .it (.one (.mov 2 (.c (.nilp))))])
 (.seq
 (.ops [.it (.one (.bslo 7 1009 1 [(.c (.int .i64 (0)))])),
 .it (.one (.buildm 8 [.sl []] [(0, 1, (.r 7))])),
 .it (.one (.boxg 9 9 (.r 8))),
 .it (.one (.mov 3 (.r 9)))])
 (.seq
 (.ops [.it (.one (.mov 4 (.c (.int .i64 (0)))))])
 (.seq
 (.seq
 (.ops [.it (.one (.fad 10 (.r 1) 4)),
 .it (.one (.load 11 (.r 10) 1 false)),
 .it (.one (.len 12 (.r 11))),
 .it (.one (.mov 13 (.c (.int .i64 (0)))))])
 (.block 0
 (.loop (.pre (.mv [3, 4, 11, 12, 13] [(9, 9), (1009, 1009)])
 (.seq
 (.ops [.it (.one (.bin 14 .lss (.r 13) (.r 12)))])
 (.seq
 (.cond (.r 14) .skip (.exit 0))
 (.seq
 (.block 1
 (.seq
 (.post (.ops [.it (.one (.idx 15 (.r 11) (.r 13) 4)),
 .it (.one (.load 16 (.r 15) 4 true)),
 .it (.one (.alloc 6 6 [.str .empty, .bool false, .sl [], .sl []])),
 .it (.one (.store (.r 6) (.r 16) 4))]) (.frz 6))
 (.seq
 (.ops [.it (.one (.mov 17 (.r 4))),
 .it (.one (.fad 18 (.r 6) 3)),
 .it (.one (.load 19 (.r 18) 1 false)),
 .it (.one (.len 20 (.r 19))),
 .it (.one (.bin 21 .add (.r 17) (.r 20))),
 .it (.one (.mov 4 (.r 21)))])
 (.ops [.it (.one (.mov 22 (.r 3))),
 .it (.one (.mov 23 (.r 3))),
 .it (.one (.nilc 24 (.r 23))),
 .it (.one (.fad 25 (.r 24) 0)),
 .it (.one (.load 26 (.r 25) 1 false)),
 .it (.one (.mov 27 (.r 4))),
 .it (.one (.bslp 28 1 [(.r 27)])),
 .it (.one (.appd 29 (.r 26) (.r 28) 1 8)),
 .it (.one (.nilc 30 (.r 22))),
 .it (.one (.fad 31 (.r 30) 0)),
 .it (.one (.store (.r 31) (.r 29) 1))]))))
 (.ops [.it (.one (.bin 32 .add (.r 13) (.c (.int .i64 (1))))),
 .it (.one (.mov 13 (.r 32)))]))))))))
 (.seq
 (.post (.post (.ops [.it (.one (.mov 33 (.r 3))),
 .it (.one (.mov 2 (.r 33)))]) (.frz 1009)) (.frz 9)) .ret)))))
theorem A20_ok : okFun Tryd.prog 20 34 0 A20 [.tmp 2] [] = true := by kernel_rfl
/-- slices.Sort[[]int,int] -/
def A21 : ACode :=
 (.seq
 (.ops [.it (.one (.mov 3 (.r 0))),
 .it (.one (.len 4 (.r 3))),
 .it (.one (.mov 2 (.r 4)))])
 (.ops [.it (.one (.mov 5 (.r 0))),
 .it (.one (.mov 6 (.r 2))),
 .it (.one (.mov 7 (.r 2))),
 .it (.one (.conv 8 .u64 (.r 7))),
 .it (.one (.callf (some 9) (.st 47) [(.r 8)])),
 .call (some 10) (.st 46) [(.r 5), (.c (.int .i64 (0))), (.r 6), (.r 9)] [0] []]))
theorem A21_ok : okFun Tryd.prog 21 11 1 A21 [] [] = true := by kernel_rfl
/-- slices.Compact[[]int,int] -/
def A22 : ACode :=
 (.seq
 (.ops [.it (.one (.mov 2 (.c (.sl []))))])
 (.seq
 (.seq
 (.ops [.it (.one (.mov 6 (.r 0))),
 .it (.one (.len 7 (.r 6))),
 .it (.one (.bin 8 .lss (.r 7) (.c (.int .i64 (2)))))])
 (.cond (.r 8)
 (.seq
 (.ops [.it (.one (.mov 9 (.r 0))),
 .it (.one (.mov 2 (.r 9)))]) .ret) .skip))
 (.seq
 (.seq
 (.ops [.it (.one (.mov 3 (.c (.int .i64 (1)))))])
 (.block 0
 (.loop (.pre (.mv [0, 3] [(0, 0)])
 (.seq
 (.seq
 (.ops [.it (.one (.mov 10 (.r 3))),
 .it (.one (.mov 11 (.r 0))),
 .it (.one (.len 12 (.r 11))),
 .it (.one (.bin 13 .lss (.r 10) (.r 12)))])
 (.cond (.r 13) .skip (.exit 0)))
 (.seq
 (.block 1
 (.seq
 (.draw [[], [], [0, 1], [0, 1, 2], [], [], [5], [4, 5, 6], [4, 5, 6, 7], [0, 1, 2, 3, 4, 5, 6, 7, 8]] [.one (.mov 16 (.r 0)),
 .one (.mov 17 (.r 3)),
 .one (.idx 18 (.r 16) (.r 17) 1),
 .one (.load 19 (.r 18) 1 false),
 .one (.mov 20 (.r 0)),
 .one (.mov 21 (.r 3)),
 .one (.bin 22 .sub (.r 21) (.c (.int .i64 (1)))),
 .one (.idx 23 (.r 20) (.r 22) 1),
 .one (.load 24 (.r 23) 1 false),
 .one (.bin 25 .eql (.r 19) (.r 24))])
 (.cond (.r 25)
 (.seq
 (.ops [.it (.one (.mov 26 (.r 0))),
 .it (.one (.mov 27 (.r 3))),
 .it (.one (.slc 28 (.r 26) (some (.r 27)) none 1)),
 .it (.one (.mov 4 (.r 28)))])
 (.seq
 (.seq
 (.ops [.it (.one (.mov 5 (.c (.int .i64 (1)))))])
 (.block 2
 (.loop (.pre (.mv [0, 3, 4, 5] [(0, 0)])
 (.seq
 (.seq
 (.ops [.it (.one (.mov 29 (.r 5))),
 .it (.one (.mov 30 (.r 4))),
 .it (.one (.len 31 (.r 30))),
 .it (.one (.bin 32 .lss (.r 29) (.r 31)))])
 (.cond (.r 32) .skip (.exit 2)))
 (.seq
 (.block 3
 (.seq
 (.draw [[], [], [0, 1], [0, 1, 2], [], [], [5], [4, 5, 6], [4, 5, 6, 7], [0, 1, 2, 3, 4, 5, 6, 7, 8]] [.one (.mov 35 (.r 4)),
 .one (.mov 36 (.r 5)),
 .one (.idx 37 (.r 35) (.r 36) 1),
 .one (.load 38 (.r 37) 1 false),
 .one (.mov 39 (.r 4)),
 .one (.mov 40 (.r 5)),
 .one (.bin 41 .sub (.r 40) (.c (.int .i64 (1)))),
 .one (.idx 42 (.r 39) (.r 41) 1),
 .one (.load 43 (.r 42) 1 false),
 .one (.bin 44 .neq (.r 38) (.r 43))])
 (.cond (.r 44)
 (.seq
 (.ops [.it (.one (.mov 45 (.r 0))),
 .it (.one (.mov 46 (.r 3))),
 .it (.one (.mov 47 (.r 4))),
 .it (.one (.mov 48 (.r 5))),
 .it (.one (.idx 49 (.r 47) (.r 48) 1)),
 .it (.one (.load 50 (.r 49) 1 false)),
 .it (.one (.idx 51 (.r 45) (.r 46) 1)),
 .it (.one (.store (.r 51) (.r 50) 1))])
 (.ops [.it (.one (.mov 52 (.r 3))),
 .it (.one (.bin 53 .add (.r 52) (.c (.int .i64 (1))))),
 .it (.one (.mov 3 (.r 53)))])) .skip)))
 (.ops [.it (.one (.mov 33 (.r 5))),
 .it (.one (.bin 34 .add (.r 33) (.c (.int .i64 (1))))),
 .it (.one (.mov 5 (.r 34)))])))))))
 (.seq
 (.ops [.it (.one (.mov 54 (.r 0))),
 .it (.one (.mov 55 (.r 3))),
 .it (.one (.slc 56 (.r 54) (some (.r 55)) none 1)),
 .it (.one (.clear (.r 56) [.int .i64 0]))])
 (.seq
 (.ops [.it (.one (.mov 57 (.r 0))),
 .it (.one (.mov 58 (.r 3))),
 .it (.one (.slc 59 (.r 57) none (some (.r 58)) 1)),
 .it (.one (.mov 2 (.r 59)))]) .ret)))) .skip)))
 (.ops [.it (.one (.mov 14 (.r 3))),
 .it (.one (.bin 15 .add (.r 14) (.c (.int .i64 (1))))),
 .it (.one (.mov 3 (.r 15)))])))))))
 (.seq
 (.ops [.it (.one (.mov 60 (.r 0))),
 .it (.one (.mov 2 (.r 60)))]) .ret))))
theorem A22_ok : okFun Tryd.prog 22 61 1 A22 [.tmp 2] [] = true := by kernel_rfl
/-- dyehouse/bits.New -/
def A23 : ACode :=
 (.seq
 (.ops [.it (.one (.mov 2 (.c (.nilp))))])
 (.seq
 (.ops [.it (.one (.mov 3 (.r 0))),
 .it (.one (.mxn 4 true (.r 3) (.c (.int .i64 (0))))),
 .it (.one (.mov 0 (.r 4)))])
 (.seq
 (.ops [.it (.one (.mov 5 (.r 0))),
 .it (.one (.mov 6 (.r 0))),
 .it (.one (.bin 7 .add (.r 6) (.c (.int .i64 (64))))),
 .it (.one (.bin 8 .sub (.r 7) (.c (.int .i64 (1))))),
 .it (.one (.bin 9 .quo (.r 8) (.c (.int .i64 (64))))),
 .it (.one (.make 10 10 1 8 [.int .u64 0] (.r 9) (.r 9))),
 .it (.one (.buildm 11 [.int .i64 0, .sl []] [(0, 1, (.r 5)), (1, 1, (.r 10))])),
 .it (.one (.boxg 12 12 (.r 11))),
 .it (.one (.mov 2 (.r 12)))]) .ret)))
theorem A23_ok : okFun Tryd.prog 23 13 0 A23 [.tmp 2] [12, 10] = true := by kernel_rfl
/-- dyehouse/graph.New -/
def A24 : ACode :=
 (.seq
 (.ops [.it (.one (.boxp 1 (.r 0))),
 .it (.one (.mov 2 (.c (.nilp))))])
 (.seq
 (.draw [[], [0], [0, 1], [0, 1, 2], [], [4], [4, 5], [4, 5, 6], [0, 1, 2, 3, 4, 5, 6, 7], [0, 1, 2, 3, 4, 5, 6, 7, 8], [0, 1, 2, 3, 4, 5, 6, 7, 8, 9]] [.one (.fad 11 (.r 1) 4),
 .one (.load 12 (.r 11) 1 false),
 .one (.len 13 (.r 12)),
 .one (.makeb 14 14 24 (some (1000, 2, 1)) .dead (.r 13) (.r 13)),
 .one (.fad 15 (.r 1) 4),
 .one (.load 16 (.r 15) 1 false),
 .one (.len 17 (.r 16)),
 .one (.makeb 18 18 24 (some (1001, 2, 1)) .dead (.r 17) (.r 17)),
 .one (.buildm 19 [.sl [], .sl []] [(0, 1, (.r 14)), (1, 1, (.r 18))]),
 .one (.boxg 20 20 (.r 19)),
 .one (.mov 3 (.r 20))])
 (.seq
 (.seq
 (.ops [.it (.one (.fad 21 (.r 1) 4)),
 .it (.one (.load 22 (.r 21) 1 false)),
 .it (.one (.len 23 (.r 22))),
 .it (.one (.mov 24 (.c (.int .i64 (0)))))])
 (.block 0
 (.loop (.pre (.dyn [])
 (.seq
 (.ops [.it (.one (.bin 25 .lss (.r 24) (.r 23)))])
 (.seq
 (.cond (.r 25) .skip (.exit 0))
 (.seq
 (.block 1
 (.seq
 (.post (.ops [.it (.one (.mov 26 (.r 24))),
 .it (.one (.idx 27 (.r 22) (.r 24) 4)),
 .it (.one (.load 28 (.r 27) 4 true)),
 .it (.one (.alloc 5 5 [.str .empty, .bool false, .sl [], .sl []])),
 .it (.one (.mov 4 (.r 26))),
 .it (.one (.store (.r 5) (.r 28) 4))]) (.frz 5))
 (.seq
 (.post (.ops [.it (.one (.load 30 (.r 5) 4 true)),
 .it (.one (.callf (some 31) (.st 48) [(.r 30)])),
 .it (.one (.mov 29 (.r 31))),
 .it (.one (.ext 32 (.r 29) 0)),
 .it (.one (.ext 33 (.r 29) 1)),
 .it (.one (.alloc 6 6 [.int .i64 0, .int .i64 0, .int .i64 0, .int .i64 0, .int .i64 0, .sl [], .str .empty, .int .i64 0, .sl [], .sl []])),
 .it (.one (.store (.r 6) (.r 32) 10)),
 .it (.one (.mov 7 (.r 33)))]) (.frz 6))
 (.seq
 (.seq
 (.ops [.it (.one (.mov 34 (.r 7))),
 .it (.one (.un 35 .not (.r 34)))])
 (.cond (.r 35) (.exit 1) .skip))
 (.seq
 (.ops [.it (.one (.fad 36 (.r 6) 8)),
 .it (.one (.load 37 (.r 36) 1 false)),
 .it (.one (.len 38 (.r 37))),
 .it (.one (.mov 39 (.c (.int .i64 (0)))))])
 (.block 2
 (.loop (.pre (.dyn [])
 (.seq
 (.ops [.it (.one (.bin 40 .lss (.r 39) (.r 38)))])
 (.seq
 (.cond (.r 40) .skip (.exit 2))
 (.seq
 (.block 3
 (.seq
 (.ops [.it (.one (.idx 41 (.r 37) (.r 39) 1)),
 .it (.one (.load 42 (.r 41) 1 false)),
 .it (.one (.mov 9 (.r 42)))])
 (.seq
 (.ops [.it (.one (.load 43 (.r 1) 5 true)),
 .it (.one (.mov 44 (.r 9))),
 .it (.one (.callf (some 45) (.st 49) [(.r 43), (.r 44)])),
 .it (.one (.mov 10 (.r 45)))])
 (.seq
 (.ops [.it (.one (.mov 46 (.r 10))),
 .it (.one (.bin 47 .geq (.r 46) (.c (.int .i64 (0))))),
 .it (.one (.mov 48 (.r 47))),
 .it (.grp 48 true [.mov 49 (.r 3), .nilc 50 (.r 49), .fad 51 (.r 50) 0, .load 52 (.r 51) 1 false, .mov 53 (.r 4), .idx 54 (.r 52) (.r 53) 1, .load 55 (.r 54) 1 false, .mov 56 (.r 10), .callb (some 57) (.st 50) [(.r 55), (.r 56)], .un 58 .not (.r 57)]),
 .it (.one (.pick 59 (.r 48) (.r 58) (.c (.bool false))))])
 (.cond (.r 59)
 (.seq
 (.draw [[], [0], [0, 1], [0, 1, 2], [], [], [5], [5, 6], [5, 6, 7], [], [5, 6, 7, 8, 9], [5, 6, 7, 8, 9, 10], [], [12], [5, 6, 7, 8, 9, 10, 11, 12, 13], [0, 1, 2, 3, 4, 5, 6, 7, 8, 9, 10, 11, 12, 13, 14], [0, 1, 2, 3, 4, 5, 6, 7, 8, 9, 10, 11, 12, 13, 14, 15]] [.one (.mov 60 (.r 3)),
 .one (.nilc 61 (.r 60)),
 .one (.fad 62 (.r 61) 0),
 .one (.load 63 (.r 62) 1 false),
 .one (.mov 64 (.r 4)),
 .one (.mov 65 (.r 3)),
 .one (.nilc 66 (.r 65)),
 .one (.fad 67 (.r 66) 0),
 .one (.load 68 (.r 67) 1 false),
 .one (.mov 69 (.r 4)),
 .one (.idx 70 (.r 68) (.r 69) 1),
 .one (.load 71 (.r 70) 1 false),
 .one (.mov 72 (.r 10)),
 .one (.bslp 73 1 [(.r 72)]),
 .one (.appd 74 (.r 71) (.r 73) 1 8),
 .one (.idx 75 (.r 63) (.r 64) 1),
 .one (.store (.r 75) (.r 74) 1)])
 (.draw [[], [0], [0, 1], [0, 1, 2], [], [], [5], [5, 6], [5, 6, 7], [], [5, 6, 7, 8, 9], [5, 6, 7, 8, 9, 10], [], [12], [5, 6, 7, 8, 9, 10, 11, 12, 13], [0, 1, 2, 3, 4, 5, 6, 7, 8, 9, 10, 11, 12, 13, 14], [0, 1, 2, 3, 4, 5, 6, 7, 8, 9, 10, 11, 12, 13, 14, 15]] [.one (.mov 76 (.r 3)),
 .one (.nilc 77 (.r 76)),
 .one (.fad 78 (.r 77) 1),
 .one (.load 79 (.r 78) 1 false),
 .one (.mov 80 (.r 10)),
 .one (.mov 81 (.r 3)),
 .one (.nilc 82 (.r 81)),
 .one (.fad 83 (.r 82) 1),
 .one (.load 84 (.r 83) 1 false),
 .one (.mov 85 (.r 10)),
 .one (.idx 86 (.r 84) (.r 85) 1),
 .one (.load 87 (.r 86) 1 false),
 .one (.mov 88 (.r 4)),
 .one (.bslp 89 1 [(.r 88)]),
 .one (.appd 90 (.r 87) (.r 89) 1 8),
 .one (.idx 91 (.r 79) (.r 80) 1),
 .one (.store (.r 91) (.r 90) 1)])) .skip)))))
 (.ops [.it (.one (.bin 92 .add (.r 39) (.c (.int .i64 (1))))),
 .it (.one (.mov 39 (.r 92)))]))))))))))))
 (.ops [.it (.one (.bin 93 .add (.r 24) (.c (.int .i64 (1))))),
 .it (.one (.mov 24 (.r 93)))]))))))))
 (.seq
 (.post (.ops [.it (.one (.mov 94 (.r 3))),
 .it (.one (.mov 2 (.r 94)))]) (.dyn [])) .ret))))
theorem A24_ok : okFun Tryd.prog 24 95 0 A24 [.tmp 2] [] = true := by kernel_rfl
/-- dyehouse/live.backward[dyehouse/api.Block] -/
def A25 : ACode :=
 (.seq
 (.ops [.it (.one (.mov 5 (.r 0))),
 .it (.one (.len 6 (.r 5))),
 .it (.one (.bin 7 .sub (.r 6) (.c (.int .i64 (1))))),
 .it (.one (.mov 4 (.r 7)))])
 (.block 0
 (.loop (.pre (.dynB 1000000000)
 (.seq
 (.seq
 (.ops [.it (.one (.mov 8 (.r 4))),
 .it (.one (.bin 9 .geq (.r 8) (.c (.int .i64 (0)))))])
 (.cond (.r 9) .skip (.exit 0)))
 (.seq
 (.block 1
 (.ops [.it (.one (.mov 12 (.r 1))),
 .it (.one (.mov 13 (.r 4))),
 .it (.one (.mov 14 (.r 0))),
 .it (.one (.mov 15 (.r 4))),
 .it (.one (.idx 16 (.r 14) (.r 15) 4)),
 .it (.one (.load 17 (.r 16) 4 true)),
 .callg (some 18) (.dy (.r 12)) [(.r 13), (.r 17)]]))
 (.ops [.it (.one (.mov 10 (.r 4))),
 .it (.one (.bin 11 .sub (.r 10) (.c (.int .i64 (1))))),
 .it (.one (.mov 4 (.r 11)))])))))))
theorem A25_ok : okFunG Tryd.prog 25 19 1000000000 A25 [] = true := by kernel_rfl
/-- dyehouse/live.New$1 -/
def A26 : ACode :=
 (.seq
 (.ops [.it (.one (.boxp 6 (.r 1)))])
 (.seq
 (.seq
 (.ops [.it (.one (.load 9 (.r 2) 1 false)),
 .it (.one (.mov 10 (.r 0))),
 .it (.one (.callf (some 11) (.st 27) [(.r 9), (.r 10)])),
 .it (.one (.len 12 (.r 11))),
 .it (.one (.mov 13 (.c (.int .i64 (0)))))])
 (.block 0
 (.loop (.pre (.dynB 1000000000)
 (.seq
 (.ops [.it (.one (.bin 14 .lss (.r 13) (.r 12)))])
 (.seq
 (.cond (.r 14) .skip (.exit 0))
 (.seq
 (.block 1
 (.seq
 (.ops [.it (.one (.idx 15 (.r 11) (.r 13) 1)),
 .it (.one (.load 16 (.r 15) 1 false)),
 .it (.one (.mov 8 (.r 16)))])
 (.draw [[], [0], [0, 1], [0, 1, 2], [], [0, 1, 2, 3, 4], [0, 1, 2, 3, 4, 5], [], [7], [7, 8], [7, 8, 9], [], [7, 8, 9, 10, 11], [7, 8, 9, 10, 11, 12], [0, 1, 2, 3, 4, 5, 6, 7, 8, 9, 10, 11, 12, 13]] [.one (.load 17 (.r 3) 1 false),
 .one (.nilc 18 (.r 17)),
 .one (.fad 19 (.r 18) 8),
 .one (.load 20 (.r 19) 1 false),
 .one (.mov 21 (.r 0)),
 .one (.ridx 22 (.r 20) (.r 21)),
 .one (.rload 23 (.r 22)),
 .one (.load 24 (.r 3) 1 false),
 .one (.nilc 25 (.r 24)),
 .one (.fad 26 (.r 25) 7),
 .one (.load 27 (.r 26) 1 false),
 .one (.mov 28 (.r 8)),
 .one (.ridx 29 (.r 27) (.r 28)),
 .one (.rload 30 (.r 29)),
 .one (.calle (some 31) (.st 28) [(.r 23), (.r 30)])])))
 (.ops [.it (.one (.bin 32 .add (.r 13) (.c (.int .i64 (1))))),
 .it (.one (.mov 13 (.r 32)))]))))))))
 (.seq
 (.post (.draw [[], [0], [0, 1], [0, 1, 2], [], [0, 1, 2, 3, 4], [0, 1, 2, 3, 4, 5], [], [], [7, 8], [0, 1, 2, 3, 4, 5, 6, 7, 8, 9]] [.one (.load 33 (.r 3) 1 false),
 .one (.nilc 34 (.r 33)),
 .one (.fad 35 (.r 34) 7),
 .one (.load 36 (.r 35) 1 false),
 .one (.mov 37 (.r 0)),
 .one (.ridx 38 (.r 36) (.r 37)),
 .one (.rload 39 (.r 38)),
 .one (.load 40 (.r 3) 1 false),
 .one (.mov 41 (.r 0)),
 .one (.calle (some 42) (.st 29) [(.r 40), (.r 41), (.c (.int .i64 (0)))]),
 .one (.calle (some 43) (.st 28) [(.r 39), (.r 42)])]) (.dynB 1000000000))
 (.cond (.r 43)
 (.ops [.it (.one (.store (.r 4) (.c (.bool true)) 1))]) .skip))))
theorem A26_ok : okFunG Tryd.prog 26 44 1000000000 A26 [] = true := by kernel_rfl
/-- (*dyehouse/graph.Graph).Succ -/
def A27 : ACode :=
 (.seq
 (.ops [.it (.one (.mov 4 (.c (.sl []))))])
 (.seq
 (.ops [.it (.one (.mov 5 (.r 0))),
 .it (.one (.mov 6 (.r 1))),
 .it (.one (.callf (some 7) (.st 51) [(.r 5), (.r 6), (.c (.int .i64 (0)))])),
 .it (.one (.mov 4 (.r 7)))]) .ret))
theorem A27_ok : okFun Tryd.prog 27 8 0 A27 [.tmp 4] [] = true := by kernel_rfl
/-- (*dyehouse/bits.Set).Or -/
def A28 : ACode :=
 (.seq
 (.ops [.it (.one (.mov 4 (.c (.bool false))))])
 (.seq
 (.ops [.it (.one (.mov 5 (.r 0))),
 .it (.one (.mov 6 (.r 1))),
 .it (.one (.callo (some 7) (.st 52) [(.r 5), (.r 6), (.c (.fn 53 []))] [0, 1] [])),
 .it (.one (.mov 4 (.r 7)))]) .ret))
theorem A28_ok : okFun Tryd.prog 28 8 2 A28 [.tmp 4] [] = true := by kernel_rfl
/-- (*dyehouse/live.Live).upTo -/
def A29 : ACode :=
 (.seq
 (.ops [.it (.one (.boxp 3 (.r 0))),
 .it (.one (.mov 6 (.c (.nilp))))])
 (.seq
 (.ops [.it (.one (.load 8 (.r 3) 1 false)),
 .it (.one (.nilc 9 (.r 8))),
 .it (.one (.fad 10 (.r 9) 8)),
 .it (.one (.load 11 (.r 10) 1 false)),
 .it (.one (.mov 12 (.r 1))),
 .it (.one (.idx 13 (.r 11) (.r 12) 1)),
 .it (.one (.load 14 (.r 13) 1 false)),
 .it (.one (.callo (some 15) (.st 54) [(.r 14)] [] [15, 1015])),
 .it (.one (.allocm 7 7 [.nilp])),
 .it (.one (.store (.r 7) (.r 15) 1))])
 (.seq
 (.ops [.it (.one (.load 16 (.r 3) 1 false)),
 .it (.one (.nilc 17 (.r 16))),
 .it (.one (.fad 18 (.r 17) 0)),
 .it (.one (.fad 19 (.r 18) 4)),
 .it (.one (.load 20 (.r 19) 1 false)),
 .it (.one (.mov 21 (.r 1))),
 .it (.one (.idx 22 (.r 20) (.r 21) 4)),
 .it (.one (.fad 23 (.r 22) 3)),
 .it (.one (.load 24 (.r 23) 1 false)),
 .it (.one (.mov 25 (.r 2))),
 .it (.one (.slc 26 (.r 24) (some (.r 25)) none 10)),
 .it (.one (.mkfn 27 56 [(.r 3), (.r 7)])),
 .it (.one (.callo (some 28) (.st 55) [(.r 26), (.r 27)] [7, 15, 1015] []))])
 (.seq
 (.ops [.it (.one (.load 29 (.r 7) 1 false)),
 .it (.one (.mov 6 (.r 29)))]) .ret))))
theorem A29_ok : okFun Tryd.prog 29 30 0 A29 [.tmp 6] [15, 1015] = true := by kernel_rfl
/-- dyehouse/dyehouseref25.Present -/
def A30 : ACode :=
 (.seq
 (.ops [.it (.one (.boxp 3 (.r 0))),
 .it (.one (.mov 6 (.c (.bool false))))])
 (.seq
 (.ops [.it (.one (.load 13 (.r 3) 5 true)),
 .it (.one (.mov 14 (.r 1))),
 .it (.one (.callf (some 15) (.st 41) [(.r 13), (.r 14)])),
 .it (.one (.mov 12 (.r 15))),
 .it (.one (.ext 16 (.r 12) 0)),
 .it (.one (.ext 17 (.r 12) 1)),
 .it (.one (.ext 18 (.r 12) 2)),
 .it (.one (.ext 19 (.r 12) 3)),
 .it (.one (.mov 7 (.r 16))),
 .it (.one (.mov 8 (.r 17))),
 .it (.one (.mov 9 (.r 18))),
 .it (.one (.mov 10 (.r 19)))])
 (.seq
 (.seq
 (.ops [.it (.one (.mov 20 (.r 10))),
 .it (.one (.un 21 .not (.r 20)))])
 (.cond (.r 21)
 (.seq
 (.ops [.it (.one (.mov 6 (.c (.bool false))))]) .ret) .skip))
 (.seq
 (.seq
 (.ops [.it (.one (.mov 22 (.r 9))),
 .it (.one (.un 23 .not (.r 22)))])
 (.cond (.r 23)
 (.seq
 (.ops [.it (.one (.load 24 (.r 3) 5 true)),
 .it (.one (.mov 25 (.r 7))),
 .it (.one (.mov 26 (.r 8))),
 .it (.one (.mov 27 (.r 2))),
 .it (.one (.callf (some 28) (.st 12) [(.r 24), (.r 25), (.r 26), (.r 27)])),
 .it (.one (.mov 6 (.r 28)))]) .ret) .skip))
 (.seq
 (.post (.ops [.it (.one (.fad 29 (.r 3) 4)),
 .it (.one (.load 30 (.r 29) 1 false)),
 .it (.one (.mov 31 (.r 7))),
 .it (.one (.idx 32 (.r 30) (.r 31) 4)),
 .it (.one (.fad 33 (.r 32) 3)),
 .it (.one (.load 34 (.r 33) 1 false)),
 .it (.one (.mov 35 (.r 8))),
 .it (.one (.idx 36 (.r 34) (.r 35) 10)),
 .it (.one (.fad 37 (.r 36) 1)),
 .it (.one (.load 38 (.r 37) 4 true)),
 .it (.one (.alloc 11 11 [.int .i64 0, .int .i64 0, .int .i64 0, .int .i64 0])),
 .it (.one (.store (.r 11) (.r 38) 4))]) (.frz 11))
 (.seq
 (.ops [.it (.one (.load 39 (.r 3) 5 true)),
 .it (.one (.mov 40 (.r 2))),
 .it (.one (.callf (some 41) (.st 35) [(.r 39), (.r 40)])),
 .it (.one (.mov 42 (.r 41))),
 .it (.grp 42 true [.fad 43 (.r 11) 0, .load 44 (.r 43) 1 false, .bin 45 .eql (.r 44) (.c (.int .i64 (1)))]),
 .it (.one (.pick 46 (.r 42) (.r 45) (.c (.bool false)))),
 .it (.one (.mov 47 (.r 46))),
 .it (.grp 47 true [.fad 48 (.r 11) 2, .load 49 (.r 48) 1 false, .mov 50 (.r 2), .bin 51 .eql (.r 49) (.r 50)]),
 .it (.one (.pick 52 (.r 47) (.r 51) (.c (.bool false)))),
 .it (.one (.mov 53 (.r 52))),
 .it (.grp 53 false [.load 54 (.r 3) 5 true, .mov 55 (.r 7), .mov 56 (.r 8), .bin 57 .add (.r 56) (.c (.int .i64 (1))), .mov 58 (.r 2), .callf (some 59) (.st 12) [(.r 54), (.r 55), (.r 57), (.r 58)]]),
 .it (.one (.pick 60 (.r 53) (.c (.bool true)) (.r 59))),
 .it (.one (.mov 6 (.r 60)))]) .ret))))))
theorem A30_ok : okFun Tryd.prog 30 61 0 A30 [.tmp 6] [] = true := by kernel_rfl
/-- dyehouse/dyehouseref25.All -/
def A31 : ACode :=
 (.seq
 (.ops [.it (.one (.boxp 2 (.r 0))),
 .it (.one (.mov 4 (.c (.sl []))))])
 (.seq
 (.ops [.it (.one (.nilarr 5 5 1))])
 (.seq
 (.seq
 (.ops [.it (.one (.mov 6 (.c (.int .i64 (0)))))])
 (.block 0
 (.loop (.pre (.mv [1, 2, 5, 6] [(5, 5)])
 (.seq
 (.seq
 (.ops [.it (.one (.mov 7 (.r 6))),
 .it (.one (.fad 8 (.r 2) 2)),
 .it (.one (.load 9 (.r 8) 1 false)),
 .it (.one (.len 10 (.r 9))),
 .it (.one (.bin 11 .lss (.r 7) (.r 10)))])
 (.cond (.r 11) .skip (.exit 0)))
 (.seq
 (.block 1
 (.seq
 (.draw [[], [], [], [2], [], [2, 3, 4], [2, 3, 4, 5], [2, 3, 4, 5, 6], [0, 1, 2, 3, 4, 5, 6, 7], [0, 1, 2, 3, 4, 5, 6, 7, 8], [0, 1, 2, 3, 4, 5, 6, 7, 8, 9], [0, 1, 2, 3, 4, 5, 6, 7, 8, 9], [0, 1, 2, 3, 4, 5, 6, 7, 8, 9, 11], [0, 1, 2, 3, 4, 5, 6, 7, 8, 9], [0, 1, 2, 3, 4, 5, 6, 7, 8, 9, 11, 12, 13], [0, 1, 2, 3, 4, 5, 6, 7, 8, 9, 11, 12, 13, 14], [0, 1, 2, 3, 4, 5, 6, 7, 8, 9, 11, 12, 13, 14, 15], [0, 1, 2, 3, 4, 5, 6, 7, 8, 9, 10, 11, 12, 13, 14, 15, 16], [0, 1, 2, 3, 4, 5, 6, 7, 8, 9, 10, 11, 12, 13, 14, 15, 16, 17], [0, 1, 2, 3, 4, 5, 6, 7, 8, 9, 10, 11, 12, 13, 14, 15, 16, 17, 18]] [.one (.load 14 (.r 2) 5 true),
 .one (.mov 15 (.r 1)),
 .one (.fad 16 (.r 2) 2),
 .one (.load 17 (.r 16) 1 false),
 .one (.mov 18 (.r 6)),
 .one (.idx 19 (.r 17) (.r 18) 2),
 .one (.fad 20 (.r 19) 0),
 .one (.load 21 (.r 20) 1 false),
 .one (.callf (some 22) (.st 30) [(.r 14), (.r 15), (.r 21)]),
 .one (.mov 23 (.r 22)),
 .grp 23 true [.mov 24 (.r 5), .fad 25 (.r 2) 2, .load 26 (.r 25) 1 false, .mov 27 (.r 6), .idx 28 (.r 26) (.r 27) 2, .fad 29 (.r 28) 0, .load 30 (.r 29) 1 false, .callb (some 31) (.st 11) [(.r 24), (.r 30)], .un 32 .not (.r 31)],
 .one (.pick 33 (.r 23) (.r 32) (.c (.bool false)))])
 (.cond (.r 33)
 (.ops [.it (.one (.mov 34 (.r 5))),
 .it (.one (.fad 35 (.r 2) 2)),
 .it (.one (.load 36 (.r 35) 1 false)),
 .it (.one (.mov 37 (.r 6))),
 .it (.one (.idx 38 (.r 36) (.r 37) 2)),
 .it (.one (.fad 39 (.r 38) 0)),
 .it (.one (.load 40 (.r 39) 1 false)),
 .it (.one (.bslp 41 1 [(.r 40)])),
 .it (.one (.appd 42 (.r 34) (.r 41) 1 8)),
 .it (.one (.mov 5 (.r 42)))]) .skip)))
 (.ops [.it (.one (.mov 12 (.r 6))),
 .it (.one (.bin 13 .add (.r 12) (.c (.int .i64 (1))))),
 .it (.one (.mov 6 (.r 13)))])))))))
 (.seq
 (.post (.ops [.it (.one (.mov 43 (.r 5))),
 .it (.one (.mov 4 (.r 43)))]) (.frz 5)) .ret))))
theorem A31_ok : okFun Tryd.prog 31 44 0 A31 [.tmp 4] [] = true := by kernel_rfl
/-- (*dyehouse/live.Live).at -/
def A32 : ACode :=
 (.seq
 (.ops [.it (.one (.mov 4 (.c (.nilp))))])
 (.seq
 (.ops [.it (.one (.mov 10 (.r 0))),
 .it (.one (.nilc 11 (.r 10))),
 .it (.one (.fad 12 (.r 11) 5)),
 .it (.one (.load 13 (.r 12) 1 false)),
 .it (.one (.mov 14 (.r 1))),
 .it (.one (.callf (some 15) (.st 58) [(.r 13), (.r 14)])),
 .it (.one (.mov 5 (.r 15)))])
 (.seq
 (.seq
 (.ops [.it (.one (.mov 16 (.r 5))),
 .it (.one (.bin 17 .lss (.r 16) (.c (.int .i64 (0)))))])
 (.cond (.r 17)
 (.seq
 (.ops [.it (.one (.mov 4 (.c (.nilp))))]) .ret) .skip))
 (.seq
 (.ops [.it (.one (.mov 19 (.r 0))),
 .it (.one (.nilc 20 (.r 19))),
 .it (.one (.fad 21 (.r 20) 5)),
 .it (.one (.load 22 (.r 21) 1 false)),
 .it (.one (.mov 23 (.r 1))),
 .it (.one (.bin 24 .quo (.r 23) (.c (.int .i64 (2))))),
 .it (.one (.callf (some 25) (.st 59) [(.r 22), (.r 24)])),
 .it (.one (.mov 18 (.r 25))),
 .it (.one (.ext 26 (.r 18) 0)),
 .it (.one (.ext 27 (.r 18) 1)),
 .it (.one (.mov 6 (.r 26))),
 .it (.one (.mov 7 (.r 27)))])
 (.seq
 (.seq
 (.ops [.it (.one (.mov 28 (.r 1))),
 .it (.one (.bin 29 .rem (.r 28) (.c (.int .i64 (2))))),
 .it (.one (.bin 30 .eql (.r 29) (.c (.int .i64 (0)))))])
 (.cond (.r 30)
 (.seq
 (.post (.post (.ops [.it (.one (.mov 31 (.r 0))),
 .it (.one (.mov 32 (.r 5))),
 .it (.one (.mov 33 (.r 7))),
 .it (.one (.callo (some 34) (.st 29) [(.r 31), (.r 32), (.r 33)] [] [34, 1034])),
 .it (.one (.mov 4 (.r 34)))]) (.frz 1034)) (.frz 34)) .ret) .skip))
 (.seq
 (.ops [.it (.one (.mov 35 (.r 0))),
 .it (.one (.mov 36 (.r 5))),
 .it (.one (.mov 37 (.r 7))),
 .it (.one (.bin 38 .add (.r 37) (.c (.int .i64 (1))))),
 .it (.one (.callo (some 39) (.st 29) [(.r 35), (.r 36), (.r 38)] [] [39, 1039])),
 .it (.one (.mov 8 (.r 39)))])
 (.seq
 (.seq
 (.post (.ops [.it (.one (.mov 40 (.r 0))),
 .it (.one (.nilc 41 (.r 40))),
 .it (.one (.fad 42 (.r 41) 0)),
 .it (.one (.fad 43 (.r 42) 4)),
 .it (.one (.load 44 (.r 43) 1 false)),
 .it (.one (.mov 45 (.r 5))),
 .it (.one (.idx 46 (.r 44) (.r 45) 4)),
 .it (.one (.fad 47 (.r 46) 3)),
 .it (.one (.load 48 (.r 47) 1 false)),
 .it (.one (.mov 49 (.r 7))),
 .it (.one (.idx 50 (.r 48) (.r 49) 10)),
 .it (.one (.fad 51 (.r 50) 1)),
 .it (.one (.load 52 (.r 51) 4 true)),
 .it (.one (.alloc 9 9 [.int .i64 0, .int .i64 0, .int .i64 0, .int .i64 0])),
 .it (.one (.store (.r 9) (.r 52) 4))]) (.frz 9))
 (.seq
 (.ops [.it (.one (.fad 53 (.r 9) 0)),
 .it (.one (.load 54 (.r 53) 1 false)),
 .it (.one (.bin 55 .eql (.r 54) (.c (.int .i64 (1)))))])
 (.cond (.r 55)
 (.ops [.it (.one (.mov 56 (.r 8))),
 .it (.one (.mov 57 (.r 0))),
 .it (.one (.fad 58 (.r 9) 2)),
 .it (.one (.load 59 (.r 58) 1 false)),
 .it (.one (.callf (some 60) (.st 40) [(.r 57), (.r 59)])),
 .it (.one (.callo (some 61) (.st 60) [(.r 56), (.r 60)] [39, 1039] []))]) .skip)))
 (.seq
 (.post (.post (.ops [.it (.one (.mov 62 (.r 8))),
 .it (.one (.mov 4 (.r 62)))]) (.frz 1039)) (.frz 39)) .ret))))))))
theorem A32_ok : okFun Tryd.prog 32 63 0 A32 [.tmp 4] [] = true := by kernel_rfl
/-- (*dyehouse/live.Live).list -/
def A33 : ACode :=
 (.seq
 (.ops [.it (.one (.boxp 2 (.r 0))),
 .it (.one (.mov 4 (.c (.sl []))))])
 (.seq
 (.ops [.it (.one (.alloca 5 5 1005 1))])
 (.seq
 (.seq
 (.ops [.it (.one (.mov 7 (.r 1))),
 .it (.one (.callf (some 8) (.st 61) [(.r 7)]))])
 (.block 0
 (.rfunc [] [5, 1005] (.r 8) [9]
 (.ops [.it (.one (.mov 6 (.r 9)))])
 (.post
 (.block 1
 (.draw [[], [], [1], [1, 2], [1, 2, 3], [], [1, 2, 3, 4, 5], [1, 2, 3, 4, 5, 6], [1, 2, 3, 4, 5, 6, 7], [0, 1, 2, 3, 4, 5, 6, 7, 8], [0, 1, 2, 3, 4, 5, 6, 7, 8, 9]] [.one (.load 10 (.r 5) 1 false),
 .one (.load 11 (.r 2) 1 false),
 .one (.nilc 12 (.r 11)),
 .one (.fad 13 (.r 12) 6),
 .one (.load 14 (.r 13) 1 false),
 .one (.mov 15 (.r 6)),
 .one (.idx 16 (.r 14) (.r 15) 1),
 .one (.load 17 (.r 16) 1 false),
 .one (.bslp 18 1 [(.r 17)]),
 .one (.appd 19 (.r 10) (.r 18) 1 8),
 .one (.store (.r 5) (.r 19) 1)])) (.mv [] [(5, 5), (1005, 1005)])))))
 (.seq
 (.ops [.it (.one (.load 20 (.r 5) 1 false)),
 .it (.one (.mov 4 (.r 20)))]) .ret))))
theorem A33_ok : okFunK Tryd.prog 33 21 0 [5, 1005] A33 [.tmp 4] [1005] = true := by kernel_rfl
/-- (*dyehouse/live.Live).is -/
def A34 : ACode :=
 (.seq
 (.ops [.it (.one (.mov 4 (.c (.bool false))))])
 (.seq
 (.ops [.it (.one (.mov 5 (.r 0))),
 .it (.one (.eq 6 true .nil (.r 5) (.c (.nilp)))),
 .it (.one (.mov 7 (.r 6))),
 .it (.grp 7 true [.mov 8 (.r 1), .bin 9 .geq (.r 8) (.c (.int .i64 (0)))]),
 .it (.one (.pick 10 (.r 7) (.r 9) (.c (.bool false)))),
 .it (.one (.mov 11 (.r 10))),
 .it (.grp 11 true [.mov 12 (.r 1), .mov 13 (.r 0), .nilc 14 (.r 13), .fad 15 (.r 14) 7, .load 16 (.r 15) 1 false, .len 17 (.r 16), .bin 18 .lss (.r 12) (.r 17)]),
 .it (.one (.pick 19 (.r 11) (.r 18) (.c (.bool false)))),
 .it (.one (.mov 4 (.r 19)))]) .ret))
theorem A34_ok : okFun Tryd.prog 34 20 0 A34 [.tmp 4] [] = true := by kernel_rfl
/-- dyehouse/dyehouseref22.Known -/
def A35 : ACode :=
 (.seq
 (.ops [.it (.one (.boxp 2 (.r 0))),
 .it (.one (.mov 4 (.c (.bool false))))])
 (.seq
 (.seq
 (.ops [.it (.one (.mov 5 (.c (.int .i64 (0)))))])
 (.block 0
 (.loop (.pre (.mv [1, 2, 5] [])
 (.seq
 (.seq
 (.ops [.it (.one (.mov 6 (.r 5))),
 .it (.one (.fad 7 (.r 2) 2)),
 .it (.one (.load 8 (.r 7) 1 false)),
 .it (.one (.len 9 (.r 8))),
 .it (.one (.bin 10 .lss (.r 6) (.r 9)))])
 (.cond (.r 10) .skip (.exit 0)))
 (.seq
 (.block 1
 (.seq
 (.ops [.it (.one (.fad 13 (.r 2) 2)),
 .it (.one (.load 14 (.r 13) 1 false)),
 .it (.one (.mov 15 (.r 5))),
 .it (.one (.idx 16 (.r 14) (.r 15) 2)),
 .it (.one (.fad 17 (.r 16) 0)),
 .it (.one (.load 18 (.r 17) 1 false)),
 .it (.one (.mov 19 (.r 1))),
 .it (.one (.bin 20 .eql (.r 18) (.r 19)))])
 (.cond (.r 20)
 (.seq
 (.ops [.it (.one (.mov 4 (.c (.bool true))))]) .ret) .skip)))
 (.ops [.it (.one (.mov 11 (.r 5))),
 .it (.one (.bin 12 .add (.r 11) (.c (.int .i64 (1))))),
 .it (.one (.mov 5 (.r 12)))])))))))
 (.seq
 (.ops [.it (.one (.mov 4 (.c (.bool false))))]) .ret)))
theorem A35_ok : okFun Tryd.prog 35 21 0 A35 [.tmp 4] [] = true := by kernel_rfl
/-- dyehouse/dyehouseref25.search -/
def A36 : ACode :=
 (.seq
 (.ops [.it (.one (.boxp 6 (.r 0))),
 .it (.one (.mov 12 (.c (.bool false))))])
 (.seq
 (.seq
 (.ops [.it (.one (.mov 17 (.r 3))),
 .it (.one (.mov 13 (.r 17)))])
 (.block 0
 (.loop (.pre (.mv [1, 2, 4, 5, 6, 13] [(0, 0)])
 (.seq
 (.seq
 (.ops [.it (.one (.mov 18 (.r 13))),
 .it (.one (.fad 19 (.r 6) 4)),
 .it (.one (.load 20 (.r 19) 1 false)),
 .it (.one (.mov 21 (.r 2))),
 .it (.one (.idx 22 (.r 20) (.r 21) 4)),
 .it (.one (.fad 23 (.r 22) 3)),
 .it (.one (.load 24 (.r 23) 1 false)),
 .it (.one (.len 25 (.r 24))),
 .it (.one (.bin 26 .lss (.r 18) (.r 25)))])
 (.cond (.r 26) .skip (.exit 0)))
 (.seq
 (.block 1
 (.seq
 (.post (.ops [.it (.one (.fad 29 (.r 6) 4)),
 .it (.one (.load 30 (.r 29) 1 false)),
 .it (.one (.mov 31 (.r 2))),
 .it (.one (.idx 32 (.r 30) (.r 31) 4)),
 .it (.one (.fad 33 (.r 32) 3)),
 .it (.one (.load 34 (.r 33) 1 false)),
 .it (.one (.mov 35 (.r 13))),
 .it (.one (.idx 36 (.r 34) (.r 35) 10)),
 .it (.one (.load 37 (.r 36) 10 true)),
 .it (.one (.alloc 14 14 [.int .i64 0, .int .i64 0, .int .i64 0, .int .i64 0, .int .i64 0, .sl [], .str .empty, .int .i64 0, .sl [], .sl []])),
 .it (.one (.store (.r 14) (.r 37) 10))]) (.frz 14))
 (.seq
 (.seq
 (.ops [.it (.one (.load 38 (.r 14) 10 true)),
 .it (.one (.mov 39 (.r 4))),
 .it (.one (.callf (some 40) (.st 62) [(.r 38), (.r 39)]))])
 (.cond (.r 40)
 (.seq
 (.ops [.it (.one (.mov 12 (.c (.bool true))))]) .ret) .skip))
 (.seq
 (.ops [.it (.one (.fad 41 (.r 14) 1)),
 .it (.one (.fad 42 (.r 41) 0)),
 .it (.one (.load 43 (.r 42) 1 false)),
 .it (.one (.bin 44 .eql (.r 43) (.c (.int .i64 (1))))),
 .it (.one (.mov 45 (.r 44))),
 .it (.grp 45 true [.fad 46 (.r 14) 1, .fad 47 (.r 46) 2, .load 48 (.r 47) 1 false, .mov 49 (.r 4), .bin 50 .eql (.r 48) (.r 49)]),
 .it (.one (.pick 51 (.r 45) (.r 50) (.c (.bool false))))])
 (.cond (.r 51)
 (.seq
 (.ops [.it (.one (.mov 12 (.c (.bool false))))]) .ret) .skip)))))
 (.ops [.it (.one (.mov 27 (.r 13))),
 .it (.one (.bin 28 .add (.r 27) (.c (.int .i64 (1))))),
 .it (.one (.mov 13 (.r 28)))])))))))
 (.seq
 (.seq
 (.ops [.it (.one (.mov 15 (.c (.int .i64 (0)))))])
 (.block 2
 (.loop (.pre (.mv [1, 2, 4, 5, 6, 15] [(0, 0)])
 (.seq
 (.seq
 (.ops [.it (.one (.mov 52 (.r 15))),
 .it (.one (.mov 53 (.r 1))),
 .it (.one (.mov 54 (.r 2))),
 .it (.one (.idx 55 (.r 53) (.r 54) 1)),
 .it (.one (.load 56 (.r 55) 1 false)),
 .it (.one (.len 57 (.r 56))),
 .it (.one (.bin 58 .lss (.r 52) (.r 57)))])
 (.cond (.r 58) .skip (.exit 2)))
 (.seq
 (.block 3
 (.seq
 (.ops [.it (.one (.mov 61 (.r 1))),
 .it (.one (.mov 62 (.r 2))),
 .it (.one (.idx 63 (.r 61) (.r 62) 1)),
 .it (.one (.load 64 (.r 63) 1 false)),
 .it (.one (.mov 65 (.r 15))),
 .it (.one (.idx 66 (.r 64) (.r 65) 1)),
 .it (.one (.load 67 (.r 66) 1 false)),
 .it (.one (.mov 16 (.r 67)))])
 (.seq
 (.ops [.it (.one (.mov 68 (.r 5))),
 .it (.one (.mov 69 (.r 16))),
 .it (.one (.idx 70 (.r 68) (.r 69) 1)),
 .it (.one (.load 71 (.r 70) 1 false)),
 .it (.one (.un 72 .not (.r 71)))])
 (.cond (.r 72)
 (.seq
 (.ops [.it (.one (.mov 73 (.r 5))),
 .it (.one (.mov 74 (.r 16))),
 .it (.one (.idx 75 (.r 73) (.r 74) 1)),
 .it (.one (.store (.r 75) (.c (.bool true)) 1))])
 (.seq
 (.ops [.it (.one (.load 76 (.r 6) 5 true)),
 .it (.one (.mov 77 (.r 1))),
 .it (.one (.mov 78 (.r 16))),
 .it (.one (.mov 79 (.r 4))),
 .it (.one (.mov 80 (.r 5))),
 .it (.one (.callo (some 81) (.st 36) [(.r 76), (.r 77), (.r 78), (.c (.int .i64 (0))), (.r 79), (.r 80)] [0] []))])
 (.cond (.r 81)
 (.seq
 (.ops [.it (.one (.mov 12 (.c (.bool true))))]) .ret) .skip))) .skip))))
 (.ops [.it (.one (.mov 59 (.r 15))),
 .it (.one (.bin 60 .add (.r 59) (.c (.int .i64 (1))))),
 .it (.one (.mov 15 (.r 60)))])))))))
 (.seq
 (.ops [.it (.one (.mov 12 (.c (.bool false))))]) .ret))))
theorem A36_ok : okFun Tryd.prog 36 82 1 A36 [.tmp 12] [] = true := by kernel_rfl
/-- dyehouse/dyehouseref19.Succ -/
def A37 : ACode :=
 (.seq
 (.ops [.it (.one (.boxp 1 (.r 0))),
 .it (.one (.mov 2 (.c (.sl []))))])
 (.seq
 (.ops [.it (.one (.nilarr 3 3 1))])
 (.seq
 (.seq
 (.ops [.it (.one (.mov 4 (.c (.int .i64 (0)))))])
 (.block 0
 (.loop (.pre (.mv [1, 3, 4] [(3, 3)])
 (.seq
 (.seq
 (.ops [.it (.one (.mov 10 (.r 4))),
 .it (.one (.fad 11 (.r 1) 4)),
 .it (.one (.load 12 (.r 11) 1 false)),
 .it (.one (.len 13 (.r 12))),
 .it (.one (.bin 14 .lss (.r 10) (.r 13)))])
 (.cond (.r 14) .skip (.exit 0)))
 (.seq
 (.block 1
 (.seq
 (.ops [.it (.one (.nilarr 5 5 1))])
 (.seq
 (.ops [.it (.one (.fad 17 (.r 1) 4)),
 .it (.one (.load 18 (.r 17) 1 false)),
 .it (.one (.mov 19 (.r 4))),
 .it (.one (.idx 20 (.r 18) (.r 19) 4)),
 .it (.one (.fad 21 (.r 20) 3)),
 .it (.one (.load 22 (.r 21) 1 false)),
 .it (.one (.mov 6 (.r 22)))])
 (.seq
 (.seq
 (.ops [.it (.one (.mov 23 (.r 6))),
 .it (.one (.len 24 (.r 23))),
 .it (.one (.bin 25 .gtr (.r 24) (.c (.int .i64 (0))))),
 .it (.one (.mov 26 (.r 25))),
 .it (.grp 26 true [.mov 27 (.r 6), .mov 28 (.r 6), .len 29 (.r 28), .bin 30 .sub (.r 29) (.c (.int .i64 (1))), .idx 31 (.r 27) (.r 30) 10, .fad 32 (.r 31) 0, .load 33 (.r 32) 1 false, .bin 34 .geq (.r 33) (.c (.int .i64 (20)))]),
 .it (.one (.pick 35 (.r 26) (.r 34) (.c (.bool false)))),
 .it (.one (.mov 36 (.r 35))),
 .it (.grp 36 true [.mov 37 (.r 6), .mov 38 (.r 6), .len 39 (.r 38), .bin 40 .sub (.r 39) (.c (.int .i64 (1))), .idx 41 (.r 37) (.r 40) 10, .fad 42 (.r 41) 0, .load 43 (.r 42) 1 false, .bin 44 .leq (.r 43) (.c (.int .i64 (23)))]),
 .it (.one (.pick 45 (.r 36) (.r 44) (.c (.bool false))))])
 (.cond (.r 45)
 (.seq
 (.post (.ops [.it (.one (.mov 46 (.r 6))),
 .it (.one (.mov 47 (.r 6))),
 .it (.one (.len 48 (.r 47))),
 .it (.one (.bin 49 .sub (.r 48) (.c (.int .i64 (1))))),
 .it (.one (.idx 50 (.r 46) (.r 49) 10)),
 .it (.one (.load 51 (.r 50) 10 true)),
 .it (.one (.alloc 7 7 [.int .i64 0, .int .i64 0, .int .i64 0, .int .i64 0, .int .i64 0, .sl [], .str .empty, .int .i64 0, .sl [], .sl []])),
 .it (.one (.store (.r 7) (.r 51) 10))]) (.frz 7))
 (.seq
 (.ops [.it (.one (.mov 8 (.c (.int .i64 (0)))))])
 (.block 2
 (.loop (.pre (.mv [1, 3, 4, 5, 7, 8] [(3, 3), (5, 5), (7, 7)])
 (.seq
 (.seq
 (.ops [.it (.one (.mov 52 (.r 8))),
 .it (.one (.fad 53 (.r 7) 8)),
 .it (.one (.load 54 (.r 53) 1 false)),
 .it (.one (.len 55 (.r 54))),
 .it (.one (.bin 56 .lss (.r 52) (.r 55)))])
 (.cond (.r 56) .skip (.exit 2)))
 (.seq
 (.block 3
 (.seq
 (.draw [[], [], [1], [], [1, 2, 3], [1, 2, 3, 4], [0, 1, 2, 3, 4, 5], [0, 1, 2, 3, 4, 5, 6]] [.one (.load 59 (.r 1) 5 true),
 .one (.fad 60 (.r 7) 8),
 .one (.load 61 (.r 60) 1 false),
 .one (.mov 62 (.r 8)),
 .one (.idx 63 (.r 61) (.r 62) 1),
 .one (.load 64 (.r 63) 1 false),
 .one (.callf (some 65) (.st 63) [(.r 59), (.r 64)]),
 .one (.mov 9 (.r 65))])
 (.seq
 (.ops [.it (.one (.mov 66 (.r 9))),
 .it (.one (.bin 67 .geq (.r 66) (.c (.int .i64 (0))))),
 .it (.one (.mov 68 (.r 67))),
 .it (.grp 68 true [.mov 69 (.r 5), .mov 70 (.r 9), .callb (some 71) (.st 11) [(.r 69), (.r 70)], .un 72 .not (.r 71)]),
 .it (.one (.pick 73 (.r 68) (.r 72) (.c (.bool false))))])
 (.cond (.r 73)
 (.ops [.it (.one (.mov 74 (.r 5))),
 .it (.one (.mov 75 (.r 9))),
 .it (.one (.bslp 76 1 [(.r 75)])),
 .it (.one (.appd 77 (.r 74) (.r 76) 1 8)),
 .it (.one (.mov 5 (.r 77)))]) .skip))))
 (.ops [.it (.one (.mov 57 (.r 8))),
 .it (.one (.bin 58 .add (.r 57) (.c (.int .i64 (1))))),
 .it (.one (.mov 8 (.r 58)))])))))))) .skip))
 (.pre (.frz 5) (.ops [.it (.one (.mov 78 (.r 3))),
 .it (.one (.mov 79 (.r 5))),
 .it (.one (.bslp 80 1 [(.r 79)])),
 .it (.one (.appd 81 (.r 78) (.r 80) 1 24)),
 .it (.one (.mov 3 (.r 81)))]))))))
 (.ops [.it (.one (.mov 15 (.r 4))),
 .it (.one (.bin 16 .add (.r 15) (.c (.int .i64 (1))))),
 .it (.one (.mov 4 (.r 16)))])))))))
 (.seq
 (.post (.ops [.it (.one (.mov 82 (.r 3))),
 .it (.one (.mov 2 (.r 82)))]) (.frz 3)) .ret))))
theorem A37_ok : okFun Tryd.prog 37 83 0 A37 [.tmp 2] [] = true := by kernel_rfl
/-- (*dyehouse/point.Table).Of -/
def A38 : ACode :=
 (.seq
 (.ops [.it (.one (.mov 6 (.c (.int .i64 (0)))))])
 (.seq
 (.seq
 (.ops [.it (.one (.mov 7 (.r 2))),
 .it (.one (.bin 8 .lss (.r 7) (.c (.int .i64 (0))))),
 .it (.one (.mov 9 (.r 8))),
 .it (.grp 9 false [.mov 10 (.r 2), .mov 11 (.r 0), .mov 12 (.r 1), .callf (some 13) (.st 64) [(.r 11), (.r 12)], .bin 14 .geq (.r 10) (.r 13)]),
 .it (.one (.pick 15 (.r 9) (.c (.bool true)) (.r 14)))])
 (.cond (.r 15)
 (.seq
 (.ops [.it (.one (.mov 6 (.c (.int .i64 (-1)))))]) .ret) .skip))
 (.seq
 (.ops [.it (.one (.mov 16 (.r 0))),
 .it (.one (.nilc 17 (.r 16))),
 .it (.one (.fad 18 (.r 17) 0)),
 .it (.one (.load 19 (.r 18) 1 false)),
 .it (.one (.mov 20 (.r 1))),
 .it (.one (.idx 21 (.r 19) (.r 20) 1)),
 .it (.one (.load 22 (.r 21) 1 false)),
 .it (.one (.mov 23 (.r 2))),
 .it (.one (.bin 24 .add (.r 22) (.r 23))),
 .it (.one (.mov 6 (.r 24)))]) .ret)))
theorem A38_ok : okFun Tryd.prog 38 25 0 A38 [.tmp 6] [] = true := by kernel_rfl
/-- (*dyehouse/bits.Set).Drop -/
def A39 : ACode :=
 (.seq
 (.ops [.it (.one (.mov 4 (.c (.bool false))))])
 (.seq
 (.seq
 (.ops [.it (.one (.mov 5 (.r 0))),
 .it (.one (.mov 6 (.r 1))),
 .it (.one (.callb (some 7) (.st 43) [(.r 5), (.r 6)])),
 .it (.one (.un 8 .not (.r 7)))])
 (.cond (.r 8)
 (.seq
 (.ops [.it (.one (.mov 4 (.c (.bool false))))]) .ret) .skip))
 (.seq
 (.draw [[], [0], [0, 1], [0, 1, 2], [], [4], [0, 1, 2, 3, 4, 5], [0, 1, 2, 3, 4, 5, 6], [], [8], [8, 9], [0, 1, 2, 3, 4, 5, 6, 7, 8, 9, 10], [0, 1, 2, 3, 4, 5, 6, 7, 8, 9, 10, 11], [0, 1, 2, 3, 4, 5, 6, 7, 8, 9, 10, 11, 12]] [.one (.mov 9 (.r 0)),
 .one (.nilc 10 (.r 9)),
 .one (.fad 11 (.r 10) 1),
 .one (.load 12 (.r 11) 1 false),
 .one (.mov 13 (.r 1)),
 .one (.bin 14 .quo (.r 13) (.c (.int .i64 (64)))),
 .one (.idx 15 (.r 12) (.r 14) 1),
 .one (.load 16 (.r 15) 1 false),
 .one (.mov 17 (.r 1)),
 .one (.bin 18 .rem (.r 17) (.c (.int .i64 (64)))),
 .one (.bin 19 .shl (.c (.int .u64 (1))) (.r 18)),
 .one (.bin 20 .andNot (.r 16) (.r 19)),
 .one (.idx 21 (.r 12) (.r 14) 1),
 .one (.store (.r 21) (.r 20) 1)])
 (.seq
 (.ops [.it (.one (.mov 4 (.c (.bool true))))]) .ret))))
theorem A39_ok : okFun Tryd.prog 39 22 2 A39 [.tmp 4] [] = true := by kernel_rfl
/-- (*dyehouse/live.Live).place -/
def A40 : ACode :=
 (.seq
 (.ops [.it (.one (.mov 4 (.c (.int .i64 (0)))))])
 (.seq
 (.ops [.it (.one (.mov 8 (.r 0))),
 .it (.one (.nilc 9 (.r 8))),
 .it (.one (.fad 10 (.r 9) 6)),
 .it (.one (.load 11 (.r 10) 1 false)),
 .it (.one (.mov 12 (.r 1))),
 .it (.one (.callf (some 13) (.st 65) [(.r 11), (.r 12)])),
 .it (.one (.mov 7 (.r 13))),
 .it (.one (.ext 14 (.r 7) 0)),
 .it (.one (.ext 15 (.r 7) 1)),
 .it (.one (.mov 5 (.r 14))),
 .it (.one (.mov 6 (.r 15)))])
 (.seq
 (.seq
 (.ops [.it (.one (.mov 16 (.r 6))),
 .it (.one (.un 17 .not (.r 16)))])
 (.cond (.r 17)
 (.seq
 (.ops [.it (.one (.mov 4 (.c (.int .i64 (-1)))))]) .ret) .skip))
 (.seq
 (.ops [.it (.one (.mov 18 (.r 5))),
 .it (.one (.mov 4 (.r 18)))]) .ret))))
theorem A40_ok : okFun Tryd.prog 40 19 0 A40 [.tmp 4] [] = true := by kernel_rfl
/-- dyehouse/dyehouseref24.Point -/
def A41 : ACode :=
 (.seq
 (.ops [.it (.one (.boxp 2 (.r 0))),
 .it (.one (.mov 4 (.c (.int .i64 (0))))),
 .it (.one (.mov 5 (.c (.int .i64 (0))))),
 .it (.one (.mov 6 (.c (.bool false)))),
 .it (.one (.mov 7 (.c (.bool false))))])
 (.seq
 (.ops [.it (.one (.mov 8 (.c (.int .i64 (0)))))])
 (.seq
 (.seq
 (.ops [.it (.one (.mov 9 (.c (.int .i64 (0)))))])
 (.block 0
 (.loop (.pre (.mv [1, 2, 8, 9] [])
 (.seq
 (.seq
 (.ops [.it (.one (.mov 12 (.r 9))),
 .it (.one (.fad 13 (.r 2) 4)),
 .it (.one (.load 14 (.r 13) 1 false)),
 .it (.one (.len 15 (.r 14))),
 .it (.one (.bin 16 .lss (.r 12) (.r 15)))])
 (.cond (.r 16) .skip (.exit 0)))
 (.seq
 (.block 1
 (.seq
 (.ops [.it (.one (.mov 10 (.c (.int .i64 (0)))))])
 (.block 2
 (.loop (.pre (.mv [1, 2, 8, 9, 10] [])
 (.seq
 (.seq
 (.ops [.it (.one (.mov 19 (.r 10))),
 .it (.one (.fad 20 (.r 2) 4)),
 .it (.one (.load 21 (.r 20) 1 false)),
 .it (.one (.mov 22 (.r 9))),
 .it (.one (.idx 23 (.r 21) (.r 22) 4)),
 .it (.one (.fad 24 (.r 23) 3)),
 .it (.one (.load 25 (.r 24) 1 false)),
 .it (.one (.len 26 (.r 25))),
 .it (.one (.bin 27 .lss (.r 19) (.r 26)))])
 (.cond (.r 27) .skip (.exit 2)))
 (.seq
 (.block 3
 (.seq
 (.seq
 (.ops [.it (.one (.mov 30 (.r 1))),
 .it (.one (.mov 31 (.r 8))),
 .it (.one (.bin 32 .mul (.c (.int .i64 (2))) (.r 31))),
 .it (.one (.bin 33 .eql (.r 30) (.r 32)))])
 (.cond (.r 33)
 (.seq
 (.ops [.it (.one (.mov 34 (.r 9))),
 .it (.one (.mov 35 (.r 10))),
 .it (.one (.mov 4 (.r 34))),
 .it (.one (.mov 5 (.r 35))),
 .it (.one (.mov 6 (.c (.bool false)))),
 .it (.one (.mov 7 (.c (.bool true))))]) .ret) .skip))
 (.seq
 (.seq
 (.ops [.it (.one (.mov 36 (.r 1))),
 .it (.one (.mov 37 (.r 8))),
 .it (.one (.bin 38 .mul (.c (.int .i64 (2))) (.r 37))),
 .it (.one (.bin 39 .add (.r 38) (.c (.int .i64 (1))))),
 .it (.one (.bin 40 .eql (.r 36) (.r 39)))])
 (.cond (.r 40)
 (.seq
 (.ops [.it (.one (.mov 41 (.r 10))),
 .it (.one (.fad 42 (.r 2) 4)),
 .it (.one (.load 43 (.r 42) 1 false)),
 .it (.one (.mov 44 (.r 9))),
 .it (.one (.idx 45 (.r 43) (.r 44) 4)),
 .it (.one (.fad 46 (.r 45) 3)),
 .it (.one (.load 47 (.r 46) 1 false)),
 .it (.one (.len 48 (.r 47))),
 .it (.one (.bin 49 .sub (.r 48) (.c (.int .i64 (1))))),
 .it (.one (.bin 50 .eql (.r 41) (.r 49))),
 .it (.one (.mov 11 (.r 50)))])
 (.seq
 (.ops [.it (.one (.mov 51 (.r 9))),
 .it (.one (.mov 52 (.r 10))),
 .it (.one (.mov 53 (.r 11))),
 .it (.one (.un 54 .not (.r 53))),
 .it (.one (.mov 4 (.r 51))),
 .it (.one (.mov 5 (.r 52))),
 .it (.one (.mov 6 (.c (.bool true)))),
 .it (.one (.mov 7 (.r 54)))]) .ret)) .skip))
 (.ops [.it (.one (.mov 55 (.r 8))),
 .it (.one (.bin 56 .add (.r 55) (.c (.int .i64 (1))))),
 .it (.one (.mov 8 (.r 56)))]))))
 (.ops [.it (.one (.mov 28 (.r 10))),
 .it (.one (.bin 29 .add (.r 28) (.c (.int .i64 (1))))),
 .it (.one (.mov 10 (.r 29)))]))))))))
 (.ops [.it (.one (.mov 17 (.r 9))),
 .it (.one (.bin 18 .add (.r 17) (.c (.int .i64 (1))))),
 .it (.one (.mov 9 (.r 18)))])))))))
 (.seq
 (.ops [.it (.one (.mov 4 (.c (.int .i64 (-1))))),
 .it (.one (.mov 5 (.c (.int .i64 (-1))))),
 .it (.one (.mov 6 (.c (.bool false)))),
 .it (.one (.mov 7 (.c (.bool false))))]) .ret))))
theorem A41_ok : okFun Tryd.prog 41 57 0 A41 [.tmp 4, .tmp 5, .tmp 6, .tmp 7] [] = true := by kernel_rfl
/-- (*dyehouse/point.Table).Span -/
def A42 : ACode :=
 (.seq
 (.ops [.it (.one (.mov 4 (.c (.int .i64 (0))))),
 .it (.one (.mov 5 (.c (.int .i64 (0)))))])
 (.seq
 (.ops [.it (.one (.mov 7 (.r 0))),
 .it (.one (.mov 8 (.r 1))),
 .it (.one (.callf (some 9) (.st 64) [(.r 7), (.r 8)])),
 .it (.one (.mov 6 (.r 9)))])
 (.seq
 (.seq
 (.ops [.it (.one (.mov 10 (.r 6))),
 .it (.one (.bin 11 .eql (.r 10) (.c (.int .i64 (0)))))])
 (.cond (.r 11)
 (.seq
 (.ops [.it (.one (.mov 4 (.c (.int .i64 (0))))),
 .it (.one (.mov 5 (.c (.int .i64 (0)))))]) .ret) .skip))
 (.seq
 (.ops [.it (.one (.mov 12 (.r 0))),
 .it (.one (.mov 13 (.r 1))),
 .it (.one (.callf (some 14) (.st 66) [(.r 12), (.r 13), (.c (.int .i64 (0)))])),
 .it (.one (.mov 15 (.r 0))),
 .it (.one (.mov 16 (.r 1))),
 .it (.one (.mov 17 (.r 6))),
 .it (.one (.bin 18 .sub (.r 17) (.c (.int .i64 (1))))),
 .it (.one (.callf (some 19) (.st 66) [(.r 15), (.r 16), (.r 18)])),
 .it (.one (.bin 20 .add (.r 19) (.c (.int .i64 (1))))),
 .it (.one (.mov 4 (.r 14))),
 .it (.one (.mov 5 (.r 20)))]) .ret))))
theorem A42_ok : okFun Tryd.prog 42 21 0 A42 [.tmp 4, .tmp 5] [] = true := by kernel_rfl
/-- (*dyehouse/bits.Set).Has -/
def A43 : ACode :=
 (.seq
 (.ops [.it (.one (.mov 4 (.c (.bool false))))])
 (.seq
 (.ops [.it (.one (.mov 5 (.r 0))),
 .it (.one (.mov 6 (.r 1))),
 .it (.one (.callb (some 7) (.st 67) [(.r 5), (.r 6)])),
 .it (.one (.mov 8 (.r 7))),
 .it (.grp 8 true [.mov 9 (.r 0), .nilc 10 (.r 9), .fad 11 (.r 10) 1, .load 12 (.r 11) 1 false, .mov 13 (.r 1), .bin 14 .quo (.r 13) (.c (.int .i64 (64))), .idx 15 (.r 12) (.r 14) 1, .load 16 (.r 15) 1 false, .mov 17 (.r 1), .bin 18 .rem (.r 17) (.c (.int .i64 (64))), .bin 19 .shr (.r 16) (.r 18), .bin 20 .and (.r 19) (.c (.int .u64 (1))), .bin 21 .eql (.r 20) (.c (.int .u64 (1)))]),
 .it (.one (.pick 22 (.r 8) (.r 21) (.c (.bool false)))),
 .it (.one (.mov 4 (.r 22)))]) .ret))
theorem A43_ok : okFun Tryd.prog 43 23 0 A43 [.tmp 4] [] = true := by kernel_rfl
/-- (*dyehouse/point.Table).Count -/
def A44 : ACode :=
 (.seq
 (.ops [.it (.one (.mov 2 (.c (.int .i64 (0)))))])
 (.seq
 (.seq
 (.ops [.it (.one (.mov 3 (.r 0))),
 .it (.one (.eq 4 false .nil (.r 3) (.c (.nilp))))])
 (.cond (.r 4)
 (.seq
 (.ops [.it (.one (.mov 2 (.c (.int .i64 (0)))))]) .ret) .skip))
 (.seq
 (.draw [[], [0], [0, 1], [0, 1, 2], [], [4], [0, 1, 2, 3, 4, 5], [0, 1, 2, 3, 4, 5, 6]] [.one (.mov 5 (.r 0)),
 .one (.nilc 6 (.r 5)),
 .one (.fad 7 (.r 6) 0),
 .one (.load 8 (.r 7) 1 false),
 .one (.mov 9 (.r 0)),
 .one (.callf (some 10) (.st 69) [(.r 9)]),
 .one (.callf (some 11) (.st 68) [(.r 8), (.r 10), (.c (.int .i64 (0)))]),
 .one (.mov 2 (.r 11))]) .ret)))
theorem A44_ok : okFun Tryd.prog 44 12 0 A44 [.tmp 2] [] = true := by kernel_rfl
/-- dyehouse/ir.Class -/
def A45 : ACode :=
 (.seq
 (.ops [.it (.one (.boxp 2 (.r 0))),
 .it (.one (.mov 4 (.c (.int .i64 (0))))),
 .it (.one (.mov 5 (.c (.bool false))))])
 (.seq
 (.seq
 (.ops [.it (.one (.fad 8 (.r 2) 2)),
 .it (.one (.load 9 (.r 8) 1 false)),
 .it (.one (.len 10 (.r 9))),
 .it (.one (.mov 11 (.c (.int .i64 (0)))))])
 (.block 0
 (.loop (.pre (.mv [1, 9, 10, 11] [])
 (.seq
 (.ops [.it (.one (.bin 12 .lss (.r 11) (.r 10)))])
 (.seq
 (.cond (.r 12) .skip (.exit 0))
 (.seq
 (.block 1
 (.seq
 (.post (.ops [.it (.one (.idx 13 (.r 9) (.r 11) 2)),
 .it (.one (.load 14 (.r 13) 2 true)),
 .it (.one (.alloc 7 7 [.int .i64 0, .int .i64 0])),
 .it (.one (.store (.r 7) (.r 14) 2))]) (.frz 7))
 (.seq
 (.ops [.it (.one (.fad 15 (.r 7) 0)),
 .it (.one (.load 16 (.r 15) 1 false)),
 .it (.one (.mov 17 (.r 1))),
 .it (.one (.bin 18 .eql (.r 16) (.r 17)))])
 (.cond (.r 18)
 (.seq
 (.ops [.it (.one (.fad 19 (.r 7) 1)),
 .it (.one (.load 20 (.r 19) 1 false)),
 .it (.one (.mov 4 (.r 20))),
 .it (.one (.mov 5 (.c (.bool true))))]) .ret) .skip))))
 (.ops [.it (.one (.bin 21 .add (.r 11) (.c (.int .i64 (1))))),
 .it (.one (.mov 11 (.r 21)))]))))))))
 (.seq
 (.ops [.it (.one (.mov 4 (.c (.int .i64 (0))))),
 .it (.one (.mov 5 (.c (.bool false))))]) .ret)))
theorem A45_ok : okFun Tryd.prog 45 22 0 A45 [.tmp 4, .tmp 5] [] = true := by kernel_rfl
/-- slices.pdqsortOrdered[int] -/
def A46 : ACode :=
 (.seq
 (.ops [.it (.one (.mov 8 (.c (.bool true))))])
 (.seq
 (.ops [.it (.one (.mov 9 (.c (.bool true))))])
 (.block 0
 (.loop (.pre (.mv [0, 1, 2, 3, 8, 9] [(0, 0)])
 (.block 1
 (.seq
 (.ops [.it (.one (.mov 19 (.r 2))),
 .it (.one (.mov 20 (.r 1))),
 .it (.one (.bin 21 .sub (.r 19) (.r 20))),
 .it (.one (.mov 10 (.r 21)))])
 (.seq
 (.seq
 (.ops [.it (.one (.mov 22 (.r 10))),
 .it (.one (.bin 23 .leq (.r 22) (.c (.int .i64 (12)))))])
 (.cond (.r 23)
 (.seq
 (.ops [.it (.one (.mov 24 (.r 0))),
 .it (.one (.mov 25 (.r 1))),
 .it (.one (.mov 26 (.r 2))),
 .call (some 27) (.st 70) [(.r 24), (.r 25), (.r 26)] [0] []]) .ret) .skip))
 (.seq
 (.seq
 (.ops [.it (.one (.mov 28 (.r 3))),
 .it (.one (.bin 29 .eql (.r 28) (.c (.int .i64 (0)))))])
 (.cond (.r 29)
 (.seq
 (.ops [.it (.one (.mov 30 (.r 0))),
 .it (.one (.mov 31 (.r 1))),
 .it (.one (.mov 32 (.r 2))),
 .it (.one (.callb (some 33) (.st 71) [(.r 30), (.r 31), (.r 32)]))]) .ret) .skip))
 (.seq
 (.seq
 (.ops [.it (.one (.mov 34 (.r 8))),
 .it (.one (.un 35 .not (.r 34)))])
 (.cond (.r 35)
 (.seq
 (.ops [.it (.one (.mov 36 (.r 0))),
 .it (.one (.mov 37 (.r 1))),
 .it (.one (.mov 38 (.r 2))),
 .it (.one (.callb (some 39) (.st 72) [(.r 36), (.r 37), (.r 38)]))])
 (.ops [.it (.one (.mov 40 (.r 3))),
 .it (.one (.bin 41 .sub (.r 40) (.c (.int .i64 (1))))),
 .it (.one (.mov 3 (.r 41)))])) .skip))
 (.seq
 (.ops [.it (.one (.mov 43 (.r 0))),
 .it (.one (.mov 44 (.r 1))),
 .it (.one (.mov 45 (.r 2))),
 .it (.one (.callb (some 46) (.st 73) [(.r 43), (.r 44), (.r 45)])),
 .it (.one (.mov 42 (.r 46))),
 .it (.one (.ext 47 (.r 42) 0)),
 .it (.one (.ext 48 (.r 42) 1)),
 .it (.one (.mov 11 (.r 47))),
 .it (.one (.mov 12 (.r 48)))])
 (.seq
 (.seq
 (.ops [.it (.one (.mov 49 (.r 12))),
 .it (.one (.bin 50 .eql (.r 49) (.c (.int .i64 (2)))))])
 (.cond (.r 50)
 (.seq
 (.ops [.it (.one (.mov 51 (.r 0))),
 .it (.one (.mov 52 (.r 1))),
 .it (.one (.mov 53 (.r 2))),
 .it (.one (.callb (some 54) (.st 74) [(.r 51), (.r 52), (.r 53)]))])
 (.seq
 (.ops [.it (.one (.mov 55 (.r 2))),
 .it (.one (.bin 56 .sub (.r 55) (.c (.int .i64 (1))))),
 .it (.one (.mov 57 (.r 11))),
 .it (.one (.mov 58 (.r 1))),
 .it (.one (.bin 59 .sub (.r 57) (.r 58))),
 .it (.one (.bin 60 .sub (.r 56) (.r 59))),
 .it (.one (.mov 11 (.r 60)))])
 (.ops [.it (.one (.mov 12 (.c (.int .i64 (1)))))]))) .skip))
 (.seq
 (.seq
 (.ops [.it (.one (.mov 61 (.r 8))),
 .it (.one (.mov 62 (.r 61))),
 .it (.grp 62 true [.mov 63 (.r 9)]),
 .it (.one (.pick 64 (.r 62) (.r 63) (.c (.bool false)))),
 .it (.one (.mov 65 (.r 64))),
 .it (.grp 65 true [.mov 66 (.r 12), .bin 67 .eql (.r 66) (.c (.int .i64 (1)))]),
 .it (.one (.pick 68 (.r 65) (.r 67) (.c (.bool false))))])
 (.cond (.r 68)
 (.seq
 (.ops [.it (.one (.mov 69 (.r 0))),
 .it (.one (.mov 70 (.r 1))),
 .it (.one (.mov 71 (.r 2))),
 .it (.one (.callb (some 72) (.st 75) [(.r 69), (.r 70), (.r 71)]))])
 (.cond (.r 72) .ret .skip)) .skip))
 (.seq
 (.seq
 (.draw [[], [0], [0, 1], [0, 1, 2], [0, 1, 2], [0, 1, 2, 4], [0, 1, 2, 3, 4, 5], [0, 1, 2, 3, 4, 5, 6], [0, 1, 2], [0, 1, 2], [0, 1, 2, 8, 9], [0, 1, 2, 8, 9, 10], [0, 1, 2, 3, 4, 5, 6, 7, 8, 9, 10, 11], [0, 1, 2, 3, 4, 5, 6, 7, 8, 9, 10, 11, 12], [0, 1, 2, 3, 4, 5, 6, 7, 8, 9, 10, 11, 12, 13]] [.one (.mov 73 (.r 1)),
 .one (.bin 74 .gtr (.r 73) (.c (.int .i64 (0)))),
 .one (.mov 75 (.r 74)),
 .grp 75 true [.mov 76 (.r 0), .mov 77 (.r 1), .bin 78 .sub (.r 77) (.c (.int .i64 (1))), .idx 79 (.r 76) (.r 78) 1, .load 80 (.r 79) 1 false, .mov 81 (.r 0), .mov 82 (.r 11), .idx 83 (.r 81) (.r 82) 1, .load 84 (.r 83) 1 false, .callf (some 85) (.st 76) [(.r 80), (.r 84)], .un 86 .not (.r 85)],
 .one (.pick 87 (.r 75) (.r 86) (.c (.bool false)))])
 (.cond (.r 87)
 (.seq
 (.ops [.it (.one (.mov 88 (.r 0))),
 .it (.one (.mov 89 (.r 1))),
 .it (.one (.mov 90 (.r 2))),
 .it (.one (.mov 91 (.r 11))),
 .it (.one (.callb (some 92) (.st 77) [(.r 88), (.r 89), (.r 90), (.r 91)])),
 .it (.one (.mov 13 (.r 92)))])
 (.seq
 (.ops [.it (.one (.mov 93 (.r 13))),
 .it (.one (.mov 1 (.r 93)))]) (.exit 1))) .skip))
 (.seq
 (.ops [.it (.one (.mov 95 (.r 0))),
 .it (.one (.mov 96 (.r 1))),
 .it (.one (.mov 97 (.r 2))),
 .it (.one (.mov 98 (.r 11))),
 .it (.one (.callb (some 99) (.st 78) [(.r 95), (.r 96), (.r 97), (.r 98)])),
 .it (.one (.mov 94 (.r 99))),
 .it (.one (.ext 100 (.r 94) 0)),
 .it (.one (.ext 101 (.r 94) 1)),
 .it (.one (.mov 14 (.r 100))),
 .it (.one (.mov 15 (.r 101)))])
 (.seq
 (.ops [.it (.one (.mov 102 (.r 15))),
 .it (.one (.mov 9 (.r 102)))])
 (.seq
 (.ops [.it (.one (.mov 103 (.r 14))),
 .it (.one (.mov 104 (.r 1))),
 .it (.one (.bin 105 .sub (.r 103) (.r 104))),
 .it (.one (.mov 106 (.r 2))),
 .it (.one (.mov 107 (.r 14))),
 .it (.one (.bin 108 .sub (.r 106) (.r 107))),
 .it (.one (.mov 16 (.r 105))),
 .it (.one (.mov 17 (.r 108)))])
 (.seq
 (.ops [.it (.one (.mov 109 (.r 10))),
 .it (.one (.bin 110 .quo (.r 109) (.c (.int .i64 (8))))),
 .it (.one (.mov 18 (.r 110)))])
 (.seq
 (.ops [.it (.one (.mov 111 (.r 16))),
 .it (.one (.mov 112 (.r 17))),
 .it (.one (.bin 113 .lss (.r 111) (.r 112)))])
 (.cond (.r 113)
 (.seq
 (.ops [.it (.one (.mov 114 (.r 16))),
 .it (.one (.mov 115 (.r 18))),
 .it (.one (.bin 116 .geq (.r 114) (.r 115))),
 .it (.one (.mov 8 (.r 116)))])
 (.seq
 (.ops [.it (.one (.mov 117 (.r 0))),
 .it (.one (.mov 118 (.r 1))),
 .it (.one (.mov 119 (.r 14))),
 .it (.one (.mov 120 (.r 3))),
 .it (.one (.callb (some 121) (.st 46) [(.r 117), (.r 118), (.r 119), (.r 120)]))])
 (.ops [.it (.one (.mov 122 (.r 14))),
 .it (.one (.bin 123 .add (.r 122) (.c (.int .i64 (1))))),
 .it (.one (.mov 1 (.r 123)))])))
 (.seq
 (.ops [.it (.one (.mov 124 (.r 17))),
 .it (.one (.mov 125 (.r 18))),
 .it (.one (.bin 126 .geq (.r 124) (.r 125))),
 .it (.one (.mov 8 (.r 126)))])
 (.seq
 (.ops [.it (.one (.mov 127 (.r 0))),
 .it (.one (.mov 128 (.r 14))),
 .it (.one (.bin 129 .add (.r 128) (.c (.int .i64 (1))))),
 .it (.one (.mov 130 (.r 2))),
 .it (.one (.mov 131 (.r 3))),
 .it (.one (.callb (some 132) (.st 46) [(.r 127), (.r 129), (.r 130), (.r 131)]))])
 (.ops [.it (.one (.mov 133 (.r 14))),
 .it (.one (.mov 2 (.r 133)))])))))))))))))))))))))))
theorem A46_ok : okFun Tryd.prog 46 134 1 A46 [] [] = true := by kernel_rfl
/-- math/bits.Len -/
def A47 : ACode :=
 (.seq
 (.ops [.it (.one (.mov 2 (.c (.int .i64 (0)))))])
 (.seq
 (.cond (.c (.bool false))
 (.seq
 (.ops [.it (.one (.mov 3 (.r 0))),
 .it (.one (.conv 4 .u32 (.r 3))),
 .it (.one (.callf (some 5) (.st 79) [(.r 4)])),
 .it (.one (.mov 2 (.r 5)))]) .ret) .skip)
 (.seq
 (.ops [.it (.one (.mov 6 (.r 0))),
 .it (.one (.callf (some 7) (.st 80) [(.r 6)])),
 .it (.one (.mov 2 (.r 7)))]) .ret)))
theorem A47_ok : okFun Tryd.prog 47 8 0 A47 [.tmp 2] [] = true := by kernel_rfl
/-- dyehouse/graph.last -/
def A48 : ACode :=
 (.seq
 (.ops [.it (.one (.boxp 1 (.r 0))),
 .it (.one (.alloc 2 2 [.int .i64 0, .int .i64 0, .int .i64 0, .int .i64 0, .int .i64 0, .sl [], .str .empty, .int .i64 0, .sl [], .sl []])),
 .it (.one (.mov 3 (.c (.bool false))))])
 (.seq
 (.seq
 (.ops [.it (.one (.fad 5 (.r 1) 3)),
 .it (.one (.load 6 (.r 5) 1 false)),
 .it (.one (.len 7 (.r 6))),
 .it (.one (.bin 8 .eql (.r 7) (.c (.int .i64 (0)))))])
 (.cond (.r 8)
 (.seq
 (.ops [.it (.one (.build 9 [.int .i64 0, .int .i64 0, .int .i64 0, .int .i64 0, .int .i64 0, .sl [], .str .empty, .int .i64 0, .sl [], .sl []] [])),
 .it (.one (.store (.r 2) (.r 9) 10)),
 .it (.one (.mov 3 (.c (.bool false))))]) .ret) .skip))
 (.seq
 (.post (.ops [.it (.one (.fad 10 (.r 1) 3)),
 .it (.one (.load 11 (.r 10) 1 false)),
 .it (.one (.fad 12 (.r 1) 3)),
 .it (.one (.load 13 (.r 12) 1 false)),
 .it (.one (.len 14 (.r 13))),
 .it (.one (.bin 15 .sub (.r 14) (.c (.int .i64 (1))))),
 .it (.one (.idx 16 (.r 11) (.r 15) 10)),
 .it (.one (.load 17 (.r 16) 10 true)),
 .it (.one (.alloc 4 4 [.int .i64 0, .int .i64 0, .int .i64 0, .int .i64 0, .int .i64 0, .sl [], .str .empty, .int .i64 0, .sl [], .sl []])),
 .it (.one (.store (.r 4) (.r 17) 10))]) (.frz 4))
 (.seq
 (.draw [[], [], [1], [1, 2], [0, 1, 2, 3], [0, 1, 2, 3, 4]] [.one (.load 18 (.r 4) 10 true),
 .one (.fad 19 (.r 4) 0),
 .one (.load 20 (.r 19) 1 false),
 .one (.callf (some 21) (.st 81) [(.r 20)]),
 .one (.store (.r 2) (.r 18) 10),
 .one (.mov 3 (.r 21))]) .ret))))
theorem A48_ok : okFun Tryd.prog 48 22 0 A48 [.cell 2 10 true, .tmp 3] [] = true := by kernel_rfl
/-- dyehouse/ir.Find -/
def A49 : ACode :=
 (.seq
 (.ops [.it (.one (.boxp 2 (.r 0))),
 .it (.one (.boxp 3 (.r 1))),
 .it (.one (.mov 4 (.c (.int .i64 (0)))))])
 (.seq
 (.ops [.it (.one (.fad 5 (.r 2) 4)),
 .it (.one (.load 6 (.r 5) 1 false)),
 .it (.one (.mkfn 7 83 [(.r 3)])),
 .it (.one (.callf (some 8) (.st 82) [(.r 6), (.r 7)])),
 .it (.one (.mov 4 (.r 8)))]) .ret))
theorem A49_ok : okFun Tryd.prog 49 9 0 A49 [.tmp 4] [] = true := by kernel_rfl
/-- slices.Contains[[]int,int] -/
def A50 : ACode :=
 (.seq
 (.ops [.it (.one (.mov 4 (.c (.bool false))))])
 (.seq
 (.ops [.it (.one (.mov 5 (.r 0))),
 .it (.one (.mov 6 (.r 1))),
 .it (.one (.callf (some 7) (.st 84) [(.r 5), (.r 6)])),
 .it (.one (.bin 8 .geq (.r 7) (.c (.int .i64 (0))))),
 .it (.one (.mov 4 (.r 8)))]) .ret))
theorem A50_ok : okFun Tryd.prog 50 9 0 A50 [.tmp 4] [] = true := by kernel_rfl
/-- (*dyehouse/graph.Graph).list -/
def A51 : ACode :=
 (.seq
 (.ops [.it (.one (.mov 6 (.c (.sl []))))])
 (.seq
 (.seq
 (.ops [.it (.one (.mov 7 (.r 1))),
 .it (.one (.bin 8 .lss (.r 7) (.c (.int .i64 (0))))),
 .it (.one (.mov 9 (.r 8))),
 .it (.grp 9 false [.mov 10 (.r 1), .mov 11 (.r 0), .callf (some 12) (.st 85) [(.r 11)], .bin 13 .geq (.r 10) (.r 12)]),
 .it (.one (.pick 14 (.r 9) (.c (.bool true)) (.r 13)))])
 (.cond (.r 14)
 (.seq
 (.ops [.it (.one (.mov 6 (.c (.sl []))))]) .ret) .skip))
 (.seq
 (.draw [[], [0], [0, 1], [0, 1, 2], [], [4], [4, 5], [4, 5, 6], [0, 1, 2, 3, 4, 5, 6, 7], [], [0, 1, 2, 3, 4, 5, 6, 7, 8, 9], [], [0, 1, 2, 3, 4, 5, 6, 7, 8, 9, 10, 11], [0, 1, 2, 3, 4, 5, 6, 7, 8, 9, 10, 11, 12], [0, 1, 2, 3, 4, 5, 6, 7, 8, 9, 10, 11, 12, 13], [0, 1, 2, 3, 4, 5, 6, 7, 8, 9, 10, 11, 12, 13, 14]] [.one (.mov 15 (.r 0)),
 .one (.nilc 16 (.r 15)),
 .one (.fad 17 (.r 16) 0),
 .one (.load 18 (.r 17) 1 false),
 .one (.mov 19 (.r 0)),
 .one (.nilc 20 (.r 19)),
 .one (.fad 21 (.r 20) 1),
 .one (.load 22 (.r 21) 1 false),
 .one (.build 23 [.sl [], .sl []] [(0, 1, (.r 18)), (1, 1, (.r 22))]),
 .one (.mov 24 (.r 2)),
 .one (.vidx 25 (.r 23) (.r 24) 1 2 false),
 .one (.mov 26 (.r 1)),
 .one (.idx 27 (.r 25) (.r 26) 1),
 .one (.load 28 (.r 27) 1 false),
 .one (.callf (some 29) (.st 86) [(.r 28)]),
 .one (.mov 6 (.r 29))]) .ret)))
theorem A51_ok : okFun Tryd.prog 51 30 0 A51 [.tmp 6] [] = true := by kernel_rfl
/-- (*dyehouse/bits.Set).each -/
def A52 : ACode :=
 (.seq
 (.ops [.it (.one (.mov 6 (.c (.bool false))))])
 (.seq
 (.seq
 (.ops [.it (.one (.mov 12 (.r 0))),
 .it (.one (.eq 13 false .nil (.r 12) (.c (.nilp)))),
 .it (.one (.mov 14 (.r 13))),
 .it (.grp 14 false [.mov 15 (.r 1), .eq 16 false .nil (.r 15) (.c (.nilp))]),
 .it (.one (.pick 17 (.r 14) (.c (.bool true)) (.r 16)))])
 (.cond (.r 17)
 (.seq
 (.ops [.it (.one (.mov 6 (.c (.bool false))))]) .ret) .skip))
 (.seq
 (.ops [.it (.one (.mov 7 (.c (.bool false))))])
 (.seq
 (.seq
 (.ops [.it (.one (.mov 18 (.r 0))),
 .it (.one (.nilc 19 (.r 18))),
 .it (.one (.fad 20 (.r 19) 1)),
 .it (.one (.load 21 (.r 20) 1 false)),
 .it (.one (.len 22 (.r 21))),
 .it (.one (.mov 23 (.c (.int .i64 (0)))))])
 (.block 0
 (.loop (.pre (.mv [0, 1, 2, 7, 21, 22, 23] [(0, 0), (1, 1)])
 (.seq
 (.ops [.it (.one (.bin 24 .lss (.r 23) (.r 22)))])
 (.seq
 (.cond (.r 24) .skip (.exit 0))
 (.seq
 (.block 1
 (.seq
 (.ops [.it (.one (.mov 25 (.r 23))),
 .it (.one (.idx 26 (.r 21) (.r 23) 1)),
 .it (.one (.load 27 (.r 26) 1 false)),
 .it (.one (.mov 8 (.r 25))),
 .it (.one (.mov 9 (.r 27)))])
 (.seq
 (.ops [.it (.one (.mov 10 (.c (.int .u64 (0)))))])
 (.seq
 (.seq
 (.ops [.it (.one (.mov 28 (.r 8))),
 .it (.one (.mov 29 (.r 1))),
 .it (.one (.nilc 30 (.r 29))),
 .it (.one (.fad 31 (.r 30) 1)),
 .it (.one (.load 32 (.r 31) 1 false)),
 .it (.one (.len 33 (.r 32))),
 .it (.one (.bin 34 .lss (.r 28) (.r 33)))])
 (.cond (.r 34)
 (.ops [.it (.one (.mov 35 (.r 1))),
 .it (.one (.nilc 36 (.r 35))),
 .it (.one (.fad 37 (.r 36) 1)),
 .it (.one (.load 38 (.r 37) 1 false)),
 .it (.one (.mov 39 (.r 8))),
 .it (.one (.idx 40 (.r 38) (.r 39) 1)),
 .it (.one (.load 41 (.r 40) 1 false)),
 .it (.one (.mov 10 (.r 41)))]) .skip))
 (.seq
 (.ops [.it (.one (.mov 42 (.r 2))),
 .it (.one (.mov 43 (.r 9))),
 .it (.one (.mov 44 (.r 10))),
 .it (.one (.callf (some 45) (.dy (.r 42)) [(.r 43), (.r 44)])),
 .it (.one (.mov 46 (.r 0))),
 .it (.one (.mov 47 (.r 8))),
 .it (.one (.callb (some 48) (.st 87) [(.r 46), (.r 47)])),
 .it (.one (.bin 49 .and (.r 45) (.r 48))),
 .it (.one (.mov 11 (.r 49)))])
 (.seq
 (.ops [.it (.one (.mov 50 (.r 7))),
 .it (.one (.mov 51 (.r 50))),
 .it (.grp 51 false [.mov 52 (.r 11), .mov 53 (.r 9), .bin 54 .neq (.r 52) (.r 53)]),
 .it (.one (.pick 55 (.r 51) (.c (.bool true)) (.r 54))),
 .it (.one (.mov 7 (.r 55)))])
 (.ops [.it (.one (.mov 56 (.r 0))),
 .it (.one (.nilc 57 (.r 56))),
 .it (.one (.fad 58 (.r 57) 1)),
 .it (.one (.load 59 (.r 58) 1 false)),
 .it (.one (.mov 60 (.r 8))),
 .it (.one (.mov 61 (.r 11))),
 .it (.one (.idx 62 (.r 59) (.r 60) 1)),
 .it (.one (.store (.r 62) (.r 61) 1))])))))))
 (.ops [.it (.one (.bin 63 .add (.r 23) (.c (.int .i64 (1))))),
 .it (.one (.mov 23 (.r 63)))]))))))))
 (.seq
 (.ops [.it (.one (.mov 64 (.r 7))),
 .it (.one (.mov 6 (.r 64)))]) .ret)))))
theorem A52_ok : okFun Tryd.prog 52 65 2 A52 [.tmp 6] [] = true := by kernel_rfl
/-- (*dyehouse/bits.Set).Or$1 -/
def A53 : ACode :=
 (.seq
 (.ops [.it (.one (.mov 4 (.c (.int .u64 (0)))))])
 (.seq
 (.ops [.it (.one (.mov 5 (.r 0))),
 .it (.one (.mov 6 (.r 1))),
 .it (.one (.bin 7 .or (.r 5) (.r 6))),
 .it (.one (.mov 4 (.r 7)))]) .ret))
theorem A53_ok : okFun Tryd.prog 53 8 0 A53 [.tmp 4] [] = true := by kernel_rfl
/-- (*dyehouse/bits.Set).Copy -/
def A54 : ACode :=
 (.seq
 (.ops [.it (.one (.mov 2 (.c (.nilp))))])
 (.seq
 (.seq
 (.ops [.it (.one (.mov 3 (.r 0))),
 .it (.one (.eq 4 false .nil (.r 3) (.c (.nilp))))])
 (.cond (.r 4)
 (.seq
 (.ops [.it (.one (.mov 2 (.c (.nilp))))]) .ret) .skip))
 (.seq
 (.draw [[], [0], [0, 1], [0, 1, 2], [], [4], [4, 5], [4, 5, 6], [4, 5, 6, 7], [0, 1, 2, 3, 4, 5, 6, 7, 8], [0, 1, 2, 3, 4, 5, 6, 7, 8, 9], [0, 1, 2, 3, 4, 5, 6, 7, 8, 9, 10]] [.one (.mov 5 (.r 0)),
 .one (.nilc 6 (.r 5)),
 .one (.fad 7 (.r 6) 0),
 .one (.load 8 (.r 7) 1 false),
 .one (.mov 9 (.r 0)),
 .one (.nilc 10 (.r 9)),
 .one (.fad 11 (.r 10) 1),
 .one (.load 12 (.r 11) 1 false),
 .one (.callo (some 13) (.st 88) [(.r 12)] [] [13]),
 .one (.buildm 14 [.int .i64 (0), .sl []] [(0, 1, (.r 8)), (1, 1, (.r 13))]),
 .one (.boxg 15 15 (.r 14)),
 .one (.mov 2 (.r 15))]) .ret)))
theorem A54_ok : okFun Tryd.prog 54 16 0 A54 [.tmp 2] [15, 13] = true := by kernel_rfl
/-- dyehouse/live.backward[dyehouse/api.Instr] -/
def A55 : ACode :=
 (.seq
 (.ops [.it (.one (.mov 5 (.r 0))),
 .it (.one (.len 6 (.r 5))),
 .it (.one (.bin 7 .sub (.r 6) (.c (.int .i64 (1))))),
 .it (.one (.mov 4 (.r 7)))])
 (.block 0
 (.loop (.pre (.mv [0, 1, 4] [(0, 0), (1, 1), (2, 2)])
 (.seq
 (.seq
 (.ops [.it (.one (.mov 8 (.r 4))),
 .it (.one (.bin 9 .geq (.r 8) (.c (.int .i64 (0)))))])
 (.cond (.r 9) .skip (.exit 0)))
 (.seq
 (.block 1
 (.ops [.it (.one (.mov 12 (.r 1))),
 .it (.one (.mov 13 (.r 4))),
 .it (.one (.mov 14 (.r 0))),
 .it (.one (.mov 15 (.r 4))),
 .it (.one (.idx 16 (.r 14) (.r 15) 10)),
 .it (.one (.load 17 (.r 16) 10 true)),
 .it (.one (.callo (some 18) (.dy (.r 12)) [(.r 13), (.r 17)] [0, 1, 2] []))]))
 (.ops [.it (.one (.mov 10 (.r 4))),
 .it (.one (.bin 11 .sub (.r 10) (.c (.int .i64 (1))))),
 .it (.one (.mov 4 (.r 11)))])))))))
theorem A55_ok : okFun Tryd.prog 55 19 3 A55 [] [] = true := by kernel_rfl
/-- (*dyehouse/live.Live).upTo$1 -/
def A56 : ACode :=
 (.seq
 (.ops [.it (.one (.boxp 5 (.r 1)))])
 (.ops [.it (.one (.load 6 (.r 2) 1 false)),
 .it (.one (.load 7 (.r 3) 1 false)),
 .it (.one (.load 8 (.r 5) 10 true)),
 .it (.one (.callo (some 9) (.st 57) [(.r 6), (.r 7), (.r 8)] [1, 2] []))]))
theorem A56_ok : okFun Tryd.prog 56 10 3 A56 [] [] = true := by kernel_rfl
/-- (*dyehouse/live.Live).ahead -/
def A57 : ACode :=
 (.seq
 (.ops [.it (.one (.boxp 5 (.r 2)))])
 (.seq
 (.seq
 (.ops [.it (.one (.fad 8 (.r 5) 1)),
 .it (.one (.fad 9 (.r 8) 0)),
 .it (.one (.load 10 (.r 9) 1 false)),
 .it (.one (.bin 11 .eql (.r 10) (.c (.int .i64 (1)))))])
 (.cond (.r 11)
 (.ops [.it (.one (.mov 12 (.r 1))),
 .it (.one (.mov 13 (.r 0))),
 .it (.one (.fad 14 (.r 5) 1)),
 .it (.one (.fad 15 (.r 14) 2)),
 .it (.one (.load 16 (.r 15) 1 false)),
 .it (.one (.callf (some 17) (.st 40) [(.r 13), (.r 16)])),
 .it (.one (.callo (some 18) (.st 39) [(.r 12), (.r 17)] [0, 1] []))]) .skip))
 (.seq
 (.ops [.it (.one (.fad 19 (.r 5) 5)),
 .it (.one (.load 20 (.r 19) 1 false)),
 .it (.one (.len 21 (.r 20))),
 .it (.one (.mov 22 (.c (.int .i64 (0)))))])
 (.block 0
 (.loop (.pre (.mv [0, 1, 20, 21, 22] [(0, 0), (1, 1)])
 (.seq
 (.ops [.it (.one (.bin 23 .lss (.r 22) (.r 21)))])
 (.seq
 (.cond (.r 23) .skip (.exit 0))
 (.seq
 (.block 1
 (.seq
 (.post (.ops [.it (.one (.idx 24 (.r 20) (.r 22) 4)),
 .it (.one (.load 25 (.r 24) 4 true)),
 .it (.one (.alloc 7 7 [.int .i64 0, .int .i64 0, .int .i64 0, .int .i64 0])),
 .it (.one (.store (.r 7) (.r 25) 4))]) (.frz 7))
 (.seq
 (.ops [.it (.one (.fad 26 (.r 7) 0)),
 .it (.one (.load 27 (.r 26) 1 false)),
 .it (.one (.bin 28 .eql (.r 27) (.c (.int .i64 (1)))))])
 (.cond (.r 28)
 (.ops [.it (.one (.mov 29 (.r 1))),
 .it (.one (.mov 30 (.r 0))),
 .it (.one (.fad 31 (.r 7) 2)),
 .it (.one (.load 32 (.r 31) 1 false)),
 .it (.one (.callf (some 33) (.st 40) [(.r 30), (.r 32)])),
 .it (.one (.callo (some 34) (.st 60) [(.r 29), (.r 33)] [0, 1] []))]) .skip))))
 (.ops [.it (.one (.bin 35 .add (.r 22) (.c (.int .i64 (1))))),
 .it (.one (.mov 22 (.r 35)))]))))))))))
theorem A57_ok : okFun Tryd.prog 57 36 2 A57 [] [] = true := by kernel_rfl
/-- (*dyehouse/point.Table).Block -/
def A58 : ACode :=
 (.seq
 (.ops [.it (.one (.mov 4 (.c (.int .i64 (0)))))])
 (.seq
 (.seq
 (.ops [.it (.one (.mov 7 (.r 1))),
 .it (.one (.bin 8 .lss (.r 7) (.c (.int .i64 (0)))))])
 (.cond (.r 8)
 (.seq
 (.ops [.it (.one (.mov 4 (.c (.int .i64 (-1)))))]) .ret) .skip))
 (.seq
 (.ops [.it (.one (.mov 10 (.r 0))),
 .it (.one (.mov 11 (.r 1))),
 .it (.one (.bin 12 .quo (.r 11) (.c (.int .i64 (2))))),
 .it (.one (.callf (some 13) (.st 59) [(.r 10), (.r 12)])),
 .it (.one (.mov 9 (.r 13))),
 .it (.one (.ext 14 (.r 9) 0)),
 .it (.one (.ext 15 (.r 9) 1)),
 .it (.one (.mov 5 (.r 14))),
 .it (.one (.mov 6 (.r 15)))])
 (.seq
 (.seq
 (.ops [.it (.one (.mov 16 (.r 5))),
 .it (.one (.bin 17 .geq (.r 16) (.c (.int .i64 (0))))),
 .it (.one (.mov 18 (.r 17))),
 .it (.grp 18 true [.mov 19 (.r 1), .bin 20 .rem (.r 19) (.c (.int .i64 (2))), .bin 21 .eql (.r 20) (.c (.int .i64 (1)))]),
 .it (.one (.pick 22 (.r 18) (.r 21) (.c (.bool false)))),
 .it (.one (.mov 23 (.r 22))),
 .it (.grp 23 true [.mov 24 (.r 0), .mov 25 (.r 5), .mov 26 (.r 6), .callf (some 27) (.st 89) [(.r 24), (.r 25), (.r 26)], .bin 28 .lss (.r 27) (.c (.int .i64 (0)))]),
 .it (.one (.pick 29 (.r 23) (.r 28) (.c (.bool false))))])
 (.cond (.r 29)
 (.seq
 (.ops [.it (.one (.mov 4 (.c (.int .i64 (-1)))))]) .ret) .skip))
 (.seq
 (.ops [.it (.one (.mov 30 (.r 5))),
 .it (.one (.mov 4 (.r 30)))]) .ret)))))
theorem A58_ok : okFun Tryd.prog 58 31 0 A58 [.tmp 4] [] = true := by kernel_rfl
/-- (*dyehouse/point.Table).Where -/
def A59 : ACode :=
 (.seq
 (.ops [.it (.one (.mov 4 (.c (.int .i64 (0))))),
 .it (.one (.mov 5 (.c (.int .i64 (0)))))])
 (.seq
 (.seq
 (.ops [.it (.one (.mov 8 (.r 1))),
 .it (.one (.bin 9 .lss (.r 8) (.c (.int .i64 (0))))),
 .it (.one (.mov 10 (.r 9))),
 .it (.grp 10 false [.mov 11 (.r 1), .mov 12 (.r 0), .callf (some 13) (.st 44) [(.r 12)], .bin 14 .geq (.r 11) (.r 13)]),
 .it (.one (.pick 15 (.r 10) (.c (.bool true)) (.r 14)))])
 (.cond (.r 15)
 (.seq
 (.ops [.it (.one (.mov 4 (.c (.int .i64 (-1))))),
 .it (.one (.mov 5 (.c (.int .i64 (-1)))))]) .ret) .skip))
 (.seq
 (.ops [.it (.one (.mov 17 (.r 0))),
 .it (.one (.nilc 18 (.r 17))),
 .it (.one (.fad 19 (.r 18) 0)),
 .it (.one (.load 20 (.r 19) 1 false)),
 .it (.one (.mov 21 (.r 1))),
 .it (.one (.bin 22 .add (.r 21) (.c (.int .i64 (1))))),
 .it (.one (.callf (some 23) (.st 65) [(.r 20), (.r 22)])),
 .it (.one (.mov 16 (.r 23))),
 .it (.one (.ext 24 (.r 16) 0)),
 .it (.one (.ext 25 (.r 16) 1)),
 .it (.one (.mov 6 (.r 24))),
 .it (.one (.mov 7 (.r 25)))])
 (.seq
 (.seq
 (.ops [.it (.one (.mov 26 (.r 7))),
 .it (.one (.mov 27 (.r 26))),
 .it (.grp 27 false [.mov 28 (.r 6), .bin 29 .gtr (.r 28) (.c (.int .i64 (0)))]),
 .it (.one (.pick 30 (.r 27) (.c (.bool true)) (.r 29)))])
 (.cond (.r 30)
 (.ops [.it (.one (.mov 31 (.r 6))),
 .it (.one (.bin 32 .sub (.r 31) (.c (.int .i64 (1))))),
 .it (.one (.mov 6 (.r 32)))]) .skip))
 (.seq
 (.draw [[], [], [], [2], [2, 3], [2, 3, 4], [], [2, 3, 4, 5, 6], [2, 3, 4, 5, 6, 7], [1, 2, 3, 4, 5, 6, 7, 8], [0], [0, 1, 2, 3, 4, 5, 6, 7, 8, 9, 10]] [.one (.mov 33 (.r 6)),
 .one (.mov 34 (.r 1)),
 .one (.mov 35 (.r 0)),
 .one (.nilc 36 (.r 35)),
 .one (.fad 37 (.r 36) 0),
 .one (.load 38 (.r 37) 1 false),
 .one (.mov 39 (.r 6)),
 .one (.idx 40 (.r 38) (.r 39) 1),
 .one (.load 41 (.r 40) 1 false),
 .one (.bin 42 .sub (.r 34) (.r 41)),
 .one (.mov 4 (.r 33)),
 .one (.mov 5 (.r 42))]) .ret)))))
theorem A59_ok : okFun Tryd.prog 59 43 0 A59 [.tmp 4, .tmp 5] [] = true := by kernel_rfl
/-- (*dyehouse/bits.Set).Add -/
def A60 : ACode :=
 (.seq
 (.ops [.it (.one (.mov 4 (.c (.bool false))))])
 (.seq
 (.seq
 (.ops [.it (.one (.mov 5 (.r 0))),
 .it (.one (.mov 6 (.r 1))),
 .it (.one (.callb (some 7) (.st 67) [(.r 5), (.r 6)])),
 .it (.one (.un 8 .not (.r 7))),
 .it (.one (.mov 9 (.r 8))),
 .it (.grp 9 false [.mov 10 (.r 0), .mov 11 (.r 1), .callb (some 12) (.st 43) [(.r 10), (.r 11)]]),
 .it (.one (.pick 13 (.r 9) (.c (.bool true)) (.r 12)))])
 (.cond (.r 13)
 (.seq
 (.ops [.it (.one (.mov 4 (.c (.bool false))))]) .ret) .skip))
 (.seq
 (.draw [[], [0], [0, 1], [0, 1, 2], [], [4], [0, 1, 2, 3, 4, 5], [0, 1, 2, 3, 4, 5, 6], [], [8], [8, 9], [0, 1, 2, 3, 4, 5, 6, 7, 8, 9, 10], [0, 1, 2, 3, 4, 5, 6, 7, 8, 9, 10, 11], [0, 1, 2, 3, 4, 5, 6, 7, 8, 9, 10, 11, 12]] [.one (.mov 14 (.r 0)),
 .one (.nilc 15 (.r 14)),
 .one (.fad 16 (.r 15) 1),
 .one (.load 17 (.r 16) 1 false),
 .one (.mov 18 (.r 1)),
 .one (.bin 19 .quo (.r 18) (.c (.int .i64 (64)))),
 .one (.idx 20 (.r 17) (.r 19) 1),
 .one (.load 21 (.r 20) 1 false),
 .one (.mov 22 (.r 1)),
 .one (.bin 23 .rem (.r 22) (.c (.int .i64 (64)))),
 .one (.bin 24 .shl (.c (.int .u64 (1))) (.r 23)),
 .one (.bin 25 .or (.r 21) (.r 24)),
 .one (.idx 26 (.r 17) (.r 19) 1),
 .one (.store (.r 26) (.r 25) 1)])
 (.seq
 (.ops [.it (.one (.mov 4 (.c (.bool true))))]) .ret))))
theorem A60_ok : okFun Tryd.prog 60 27 2 A60 [.tmp 4] [] = true := by kernel_rfl
/-- (*dyehouse/bits.Set).All -/
def A61 : ACode :=
 (.seq
 (.ops [.it (.one (.mov 2 (.c (.nilf))))])
 (.seq
 (.seq
 (.ops [.it (.one (.mov 3 (.r 0))),
 .it (.one (.eq 4 false .nil (.r 3) (.c (.nilp))))])
 (.cond (.r 4)
 (.seq
 (.ops [.it (.one (.callf (some 5) (.st 90) [(.c (.sl []))])),
 .it (.one (.mov 2 (.r 5)))]) .ret) .skip))
 (.seq
 (.ops [.it (.one (.mov 6 (.r 0))),
 .it (.one (.mkmv 7 91 [(.r 6)])),
 .it (.one (.mov 2 (.r 7)))]) .ret)))
theorem A61_ok : okFun Tryd.prog 61 8 0 A61 [.tmp 2] [] = true := by kernel_rfl
/-- dyehouse/dyehouseref25.takes -/
def A62 : ACode :=
 (.seq
 (.ops [.it (.one (.boxp 2 (.r 0))),
 .it (.one (.mov 4 (.c (.bool false))))])
 (.seq
 (.seq
 (.ops [.it (.one (.mov 5 (.c (.int .i64 (0)))))])
 (.block 0
 (.loop (.pre (.mv [1, 2, 5] [])
 (.seq
 (.seq
 (.ops [.it (.one (.mov 6 (.r 5))),
 .it (.one (.fad 7 (.r 2) 5)),
 .it (.one (.load 8 (.r 7) 1 false)),
 .it (.one (.len 9 (.r 8))),
 .it (.one (.bin 10 .lss (.r 6) (.r 9)))])
 (.cond (.r 10) .skip (.exit 0)))
 (.seq
 (.block 1
 (.seq
 (.ops [.it (.one (.fad 13 (.r 2) 5)),
 .it (.one (.load 14 (.r 13) 1 false)),
 .it (.one (.mov 15 (.r 5))),
 .it (.one (.idx 16 (.r 14) (.r 15) 4)),
 .it (.one (.fad 17 (.r 16) 0)),
 .it (.one (.load 18 (.r 17) 1 false)),
 .it (.one (.bin 19 .eql (.r 18) (.c (.int .i64 (1))))),
 .it (.one (.mov 20 (.r 19))),
 .it (.grp 20 true [.fad 21 (.r 2) 5, .load 22 (.r 21) 1 false, .mov 23 (.r 5), .idx 24 (.r 22) (.r 23) 4, .fad 25 (.r 24) 2, .load 26 (.r 25) 1 false, .mov 27 (.r 1), .bin 28 .eql (.r 26) (.r 27)]),
 .it (.one (.pick 29 (.r 20) (.r 28) (.c (.bool false))))])
 (.cond (.r 29)
 (.seq
 (.ops [.it (.one (.mov 4 (.c (.bool true))))]) .ret) .skip)))
 (.ops [.it (.one (.mov 11 (.r 5))),
 .it (.one (.bin 12 .add (.r 11) (.c (.int .i64 (1))))),
 .it (.one (.mov 5 (.r 12)))])))))))
 (.seq
 (.ops [.it (.one (.mov 4 (.c (.bool false))))]) .ret)))
theorem A62_ok : okFun Tryd.prog 62 30 0 A62 [.tmp 4] [] = true := by kernel_rfl
/-- dyehouse/dyehouseref12.Find -/
def A63 : ACode :=
 (.seq
 (.ops [.it (.one (.boxp 2 (.r 0))),
 .it (.one (.mov 4 (.c (.int .i64 (0)))))])
 (.seq
 (.seq
 (.ops [.it (.one (.mov 5 (.c (.int .i64 (0)))))])
 (.block 0
 (.loop (.pre (.mv [1, 2, 5] [])
 (.seq
 (.seq
 (.ops [.it (.one (.mov 6 (.r 5))),
 .it (.one (.fad 7 (.r 2) 4)),
 .it (.one (.load 8 (.r 7) 1 false)),
 .it (.one (.len 9 (.r 8))),
 .it (.one (.bin 10 .lss (.r 6) (.r 9)))])
 (.cond (.r 10) .skip (.exit 0)))
 (.seq
 (.block 1
 (.seq
 (.ops [.it (.one (.fad 13 (.r 2) 4)),
 .it (.one (.load 14 (.r 13) 1 false)),
 .it (.one (.mov 15 (.r 5))),
 .it (.one (.idx 16 (.r 14) (.r 15) 4)),
 .it (.one (.fad 17 (.r 16) 0)),
 .it (.one (.load 18 (.r 17) 1 false)),
 .it (.one (.mov 19 (.r 1))),
 .it (.one (.bin 20 .eql (.r 18) (.r 19)))])
 (.cond (.r 20)
 (.seq
 (.ops [.it (.one (.mov 21 (.r 5))),
 .it (.one (.mov 4 (.r 21)))]) .ret) .skip)))
 (.ops [.it (.one (.mov 11 (.r 5))),
 .it (.one (.bin 12 .add (.r 11) (.c (.int .i64 (1))))),
 .it (.one (.mov 5 (.r 12)))])))))))
 (.seq
 (.ops [.it (.one (.mov 4 (.c (.int .i64 (-1)))))]) .ret)))
theorem A63_ok : okFun Tryd.prog 63 22 0 A63 [.tmp 4] [] = true := by kernel_rfl
/-- (*dyehouse/point.Table).Len -/
def A64 : ACode :=
 (.seq
 (.ops [.it (.one (.mov 4 (.c (.int .i64 (0)))))])
 (.seq
 (.seq
 (.ops [.it (.one (.mov 5 (.r 1))),
 .it (.one (.bin 6 .lss (.r 5) (.c (.int .i64 (0))))),
 .it (.one (.mov 7 (.r 6))),
 .it (.grp 7 false [.mov 8 (.r 1), .mov 9 (.r 0), .callf (some 10) (.st 69) [(.r 9)], .bin 11 .geq (.r 8) (.r 10)]),
 .it (.one (.pick 12 (.r 7) (.c (.bool true)) (.r 11)))])
 (.cond (.r 12)
 (.seq
 (.ops [.it (.one (.mov 4 (.c (.int .i64 (0)))))]) .ret) .skip))
 (.seq
 (.draw [[], [0], [0, 1], [0, 1, 2], [], [4], [0, 1, 2, 3, 4, 5], [0, 1, 2, 3, 4, 5, 6], [], [8], [8, 9], [8, 9, 10], [], [8, 9, 10, 11, 12], [8, 9, 10, 11, 12, 13], [0, 1, 2, 3, 4, 5, 6, 7, 8, 9, 10, 11, 12, 13, 14], [0, 1, 2, 3, 4, 5, 6, 7, 8, 9, 10, 11, 12, 13, 14, 15]] [.one (.mov 13 (.r 0)),
 .one (.nilc 14 (.r 13)),
 .one (.fad 15 (.r 14) 0),
 .one (.load 16 (.r 15) 1 false),
 .one (.mov 17 (.r 1)),
 .one (.bin 18 .add (.r 17) (.c (.int .i64 (1)))),
 .one (.idx 19 (.r 16) (.r 18) 1),
 .one (.load 20 (.r 19) 1 false),
 .one (.mov 21 (.r 0)),
 .one (.nilc 22 (.r 21)),
 .one (.fad 23 (.r 22) 0),
 .one (.load 24 (.r 23) 1 false),
 .one (.mov 25 (.r 1)),
 .one (.idx 26 (.r 24) (.r 25) 1),
 .one (.load 27 (.r 26) 1 false),
 .one (.bin 28 .sub (.r 20) (.r 27)),
 .one (.mov 4 (.r 28))]) .ret)))
theorem A64_ok : okFun Tryd.prog 64 29 0 A64 [.tmp 4] [] = true := by kernel_rfl
/-- slices.BinarySearch[[]int,int] -/
def A65 : ACode :=
 (.seq
 (.ops [.it (.one (.mov 4 (.c (.int .i64 (0))))),
 .it (.one (.mov 5 (.c (.bool false))))])
 (.seq
 (.ops [.it (.one (.mov 10 (.r 0))),
 .it (.one (.len 11 (.r 10))),
 .it (.one (.mov 6 (.r 11)))])
 (.seq
 (.ops [.it (.one (.mov 12 (.r 6))),
 .it (.one (.mov 7 (.c (.int .i64 (0))))),
 .it (.one (.mov 8 (.r 12)))])
 (.seq
 (.block 0
 (.loop (.pre (.mv [0, 1, 6, 7, 8] [])
 (.seq
 (.seq
 (.ops [.it (.one (.mov 13 (.r 7))),
 .it (.one (.mov 14 (.r 8))),
 .it (.one (.bin 15 .lss (.r 13) (.r 14)))])
 (.cond (.r 15) .skip (.exit 0)))
 (.block 1
 (.seq
 (.ops [.it (.one (.mov 16 (.r 7))),
 .it (.one (.mov 17 (.r 8))),
 .it (.one (.bin 18 .add (.r 16) (.r 17))),
 .it (.one (.conv 19 .u64 (.r 18))),
 .it (.one (.bin 20 .shr (.r 19) (.c (.int .u64 (1))))),
 .it (.one (.conv 21 .i64 (.r 20))),
 .it (.one (.mov 9 (.r 21)))])
 (.seq
 (.ops [.it (.one (.mov 22 (.r 0))),
 .it (.one (.mov 23 (.r 9))),
 .it (.one (.idx 24 (.r 22) (.r 23) 1)),
 .it (.one (.load 25 (.r 24) 1 false)),
 .it (.one (.mov 26 (.r 1))),
 .it (.one (.callf (some 27) (.st 76) [(.r 25), (.r 26)]))])
 (.cond (.r 27)
 (.ops [.it (.one (.mov 28 (.r 9))),
 .it (.one (.bin 29 .add (.r 28) (.c (.int .i64 (1))))),
 .it (.one (.mov 7 (.r 29)))])
 (.ops [.it (.one (.mov 30 (.r 9))),
 .it (.one (.mov 8 (.r 30)))])))))))))
 (.seq
 (.ops [.it (.one (.mov 31 (.r 7))),
 .it (.one (.mov 32 (.r 7))),
 .it (.one (.mov 33 (.r 6))),
 .it (.one (.bin 34 .lss (.r 32) (.r 33))),
 .it (.one (.mov 35 (.r 34))),
 .it (.grp 35 true [.mov 36 (.r 0), .mov 37 (.r 7), .idx 38 (.r 36) (.r 37) 1, .load 39 (.r 38) 1 false, .mov 40 (.r 1), .bin 41 .eql (.r 39) (.r 40), .mov 42 (.r 41)]),
 .it (.grp 42 false [.mov 43 (.r 0), .mov 44 (.r 7), .idx 45 (.r 43) (.r 44) 1, .load 46 (.r 45) 1 false, .callf (some 47) (.st 92) [(.r 46)], .mov 48 (.r 47)]),
 .it (.grp 48 true [.mov 49 (.r 1), .callf (some 50) (.st 92) [(.r 49)]]),
 .it (.grp 42 false [.pick 51 (.r 48) (.r 50) (.c (.bool false))]),
 .it (.grp 35 true [.pick 52 (.r 42) (.c (.bool true)) (.r 51)]),
 .it (.one (.pick 53 (.r 35) (.r 52) (.c (.bool false)))),
 .it (.one (.mov 4 (.r 31))),
 .it (.one (.mov 5 (.r 53)))]) .ret)))))
theorem A65_ok : okFun Tryd.prog 65 54 0 A65 [.tmp 4, .tmp 5] [] = true := by kernel_rfl
/-- (*dyehouse/point.Table).Ahead -/
def A66 : ACode :=
 (.seq
 (.ops [.it (.one (.mov 6 (.c (.int .i64 (0)))))])
 (.seq
 (.ops [.it (.one (.mov 8 (.r 0))),
 .it (.one (.mov 9 (.r 1))),
 .it (.one (.mov 10 (.r 2))),
 .it (.one (.callf (some 11) (.st 38) [(.r 8), (.r 9), (.r 10)])),
 .it (.one (.mov 7 (.r 11)))])
 (.seq
 (.seq
 (.ops [.it (.one (.mov 12 (.r 7))),
 .it (.one (.bin 13 .lss (.r 12) (.c (.int .i64 (0)))))])
 (.cond (.r 13)
 (.seq
 (.ops [.it (.one (.mov 6 (.c (.int .i64 (-1)))))]) .ret) .skip))
 (.seq
 (.ops [.it (.one (.mov 14 (.r 7))),
 .it (.one (.bin 15 .mul (.c (.int .i64 (2))) (.r 14))),
 .it (.one (.mov 6 (.r 15)))]) .ret))))
theorem A66_ok : okFun Tryd.prog 66 16 0 A66 [.tmp 6] [] = true := by kernel_rfl
/-- (*dyehouse/bits.Set).in -/
def A67 : ACode :=
 (.seq
 (.ops [.it (.one (.mov 4 (.c (.bool false))))])
 (.seq
 (.ops [.it (.one (.mov 5 (.r 0))),
 .it (.one (.eq 6 true .nil (.r 5) (.c (.nilp)))),
 .it (.one (.mov 7 (.r 6))),
 .it (.grp 7 true [.mov 8 (.r 1), .bin 9 .geq (.r 8) (.c (.int .i64 (0)))]),
 .it (.one (.pick 10 (.r 7) (.r 9) (.c (.bool false)))),
 .it (.one (.mov 11 (.r 10))),
 .it (.grp 11 true [.mov 12 (.r 1), .mov 13 (.r 0), .nilc 14 (.r 13), .fad 15 (.r 14) 0, .load 16 (.r 15) 1 false, .bin 17 .lss (.r 12) (.r 16)]),
 .it (.one (.pick 18 (.r 11) (.r 17) (.c (.bool false)))),
 .it (.one (.mov 4 (.r 18)))]) .ret))
theorem A67_ok : okFun Tryd.prog 67 19 0 A67 [.tmp 4] [] = true := by kernel_rfl
/-- dyehouse/point.nth[int] -/
def A68 : ACode :=
 (.seq
 (.ops [.it (.one (.mov 6 (.c (.int .i64 (0)))))])
 (.seq
 (.seq
 (.ops [.it (.one (.mov 7 (.r 1))),
 .it (.one (.bin 8 .lss (.r 7) (.c (.int .i64 (0))))),
 .it (.one (.mov 9 (.r 8))),
 .it (.grp 9 false [.mov 10 (.r 1), .mov 11 (.r 0), .len 12 (.r 11), .bin 13 .geq (.r 10) (.r 12)]),
 .it (.one (.pick 14 (.r 9) (.c (.bool true)) (.r 13)))])
 (.cond (.r 14)
 (.seq
 (.ops [.it (.one (.mov 15 (.r 2))),
 .it (.one (.mov 6 (.r 15)))]) .ret) .skip))
 (.seq
 (.ops [.it (.one (.mov 16 (.r 0))),
 .it (.one (.mov 17 (.r 1))),
 .it (.one (.idx 18 (.r 16) (.r 17) 1)),
 .it (.one (.load 19 (.r 18) 1 false)),
 .it (.one (.mov 6 (.r 19)))]) .ret)))
theorem A68_ok : okFun Tryd.prog 68 20 0 A68 [.tmp 6] [] = true := by kernel_rfl
/-- (*dyehouse/point.Table).Blocks -/
def A69 : ACode :=
 (.seq
 (.ops [.it (.one (.mov 2 (.c (.int .i64 (0)))))])
 (.seq
 (.seq
 (.ops [.it (.one (.mov 3 (.r 0))),
 .it (.one (.eq 4 false .nil (.r 3) (.c (.nilp)))),
 .it (.one (.mov 5 (.r 4))),
 .it (.grp 5 false [.mov 6 (.r 0), .nilc 7 (.r 6), .fad 8 (.r 7) 0, .load 9 (.r 8) 1 false, .len 10 (.r 9), .bin 11 .eql (.r 10) (.c (.int .i64 (0)))]),
 .it (.one (.pick 12 (.r 5) (.c (.bool true)) (.r 11)))])
 (.cond (.r 12)
 (.seq
 (.ops [.it (.one (.mov 2 (.c (.int .i64 (0)))))]) .ret) .skip))
 (.seq
 (.ops [.it (.one (.mov 13 (.r 0))),
 .it (.one (.nilc 14 (.r 13))),
 .it (.one (.fad 15 (.r 14) 0)),
 .it (.one (.load 16 (.r 15) 1 false)),
 .it (.one (.len 17 (.r 16))),
 .it (.one (.bin 18 .sub (.r 17) (.c (.int .i64 (1))))),
 .it (.one (.mov 2 (.r 18)))]) .ret)))
theorem A69_ok : okFun Tryd.prog 69 19 0 A69 [.tmp 2] [] = true := by kernel_rfl
/-- slices.insertionSortOrdered[int] -/
def A70 : ACode :=
 (.seq
 (.ops [.it (.one (.mov 8 (.r 1))),
 .it (.one (.bin 9 .add (.r 8) (.c (.int .i64 (1))))),
 .it (.one (.mov 6 (.r 9)))])
 (.block 0
 (.loop (.pre (.mv [0, 1, 2, 6] [(0, 0)])
 (.seq
 (.seq
 (.ops [.it (.one (.mov 10 (.r 6))),
 .it (.one (.mov 11 (.r 2))),
 .it (.one (.bin 12 .lss (.r 10) (.r 11)))])
 (.cond (.r 12) .skip (.exit 0)))
 (.seq
 (.block 1
 (.seq
 (.ops [.it (.one (.mov 15 (.r 6))),
 .it (.one (.mov 7 (.r 15)))])
 (.block 2
 (.loop (.pre (.mv [0, 1, 2, 6, 7] [(0, 0)])
 (.seq
 (.seq
 (.draw [[], [], [0, 1], [0, 1, 2], [0, 1, 2, 3], [0, 1, 2, 3], [0, 1, 2, 3, 4, 5], [0, 1, 2, 3, 4, 5, 6], [0, 1, 2, 3], [0, 1, 2, 3], [0, 1, 2, 3, 9], [0, 1, 2, 3, 8, 9, 10], [0, 1, 2, 3, 8, 9, 10, 11], [0, 1, 2, 3, 4, 5, 6, 7, 8, 9, 10, 11, 12], [0, 1, 2, 3, 4, 5, 6, 7, 8, 9, 10, 11, 12, 13]] [.one (.mov 16 (.r 7)),
 .one (.mov 17 (.r 1)),
 .one (.bin 18 .gtr (.r 16) (.r 17)),
 .one (.mov 19 (.r 18)),
 .grp 19 true [.mov 20 (.r 0), .mov 21 (.r 7), .idx 22 (.r 20) (.r 21) 1, .load 23 (.r 22) 1 false, .mov 24 (.r 0), .mov 25 (.r 7), .bin 26 .sub (.r 25) (.c (.int .i64 (1))), .idx 27 (.r 24) (.r 26) 1, .load 28 (.r 27) 1 false, .callf (some 29) (.st 76) [(.r 23), (.r 28)]],
 .one (.pick 30 (.r 19) (.r 29) (.c (.bool false)))])
 (.cond (.r 30) .skip (.exit 2)))
 (.seq
 (.block 3
 (.draw [[], [], [], [], [3], [], [], [6], [5, 6, 7], [5, 6, 7, 8], [], [], [10, 11], [10, 11, 12], [0, 1, 5, 6, 7, 8, 9, 10, 11, 12, 13], [0, 1, 5, 6, 7, 8, 9, 10, 11, 12, 13, 14], [0, 1, 2, 3, 4, 5, 6, 7, 8, 9, 10, 11, 12, 13, 14, 15], [0, 1, 2, 3, 4, 5, 6, 7, 8, 9, 10, 11, 12, 13, 14, 15, 16]] [.one (.mov 33 (.r 0)),
 .one (.mov 34 (.r 7)),
 .one (.mov 35 (.r 0)),
 .one (.mov 36 (.r 7)),
 .one (.bin 37 .sub (.r 36) (.c (.int .i64 (1)))),
 .one (.mov 38 (.r 0)),
 .one (.mov 39 (.r 7)),
 .one (.bin 40 .sub (.r 39) (.c (.int .i64 (1)))),
 .one (.idx 41 (.r 38) (.r 40) 1),
 .one (.load 42 (.r 41) 1 false),
 .one (.mov 43 (.r 0)),
 .one (.mov 44 (.r 7)),
 .one (.idx 45 (.r 43) (.r 44) 1),
 .one (.load 46 (.r 45) 1 false),
 .one (.idx 47 (.r 33) (.r 34) 1),
 .one (.store (.r 47) (.r 42) 1),
 .one (.idx 48 (.r 35) (.r 37) 1),
 .one (.store (.r 48) (.r 46) 1)]))
 (.ops [.it (.one (.mov 31 (.r 7))),
 .it (.one (.bin 32 .sub (.r 31) (.c (.int .i64 (1))))),
 .it (.one (.mov 7 (.r 32)))]))))))))
 (.ops [.it (.one (.mov 13 (.r 6))),
 .it (.one (.bin 14 .add (.r 13) (.c (.int .i64 (1))))),
 .it (.one (.mov 6 (.r 14)))])))))))
theorem A70_ok : okFun Tryd.prog 70 49 1 A70 [] [] = true := by kernel_rfl
/-- cmp.Less[int] -/
def A76 : ACode :=
 (.seq
 (.ops [.it (.one (.mov 4 (.c (.bool false))))])
 (.seq
 (.ops [.it (.one (.mov 5 (.r 0))),
 .it (.one (.callf (some 6) (.st 98) [(.r 5)])),
 .it (.one (.mov 7 (.r 6))),
 .it (.grp 7 true [.mov 8 (.r 1), .callf (some 9) (.st 98) [(.r 8)], .un 10 .not (.r 9)]),
 .it (.one (.pick 11 (.r 7) (.r 10) (.c (.bool false)))),
 .it (.one (.mov 12 (.r 11))),
 .it (.grp 12 false [.mov 13 (.r 0), .mov 14 (.r 1), .bin 15 .lss (.r 13) (.r 14)]),
 .it (.one (.pick 16 (.r 12) (.c (.bool true)) (.r 15))),
 .it (.one (.mov 4 (.r 16)))]) .ret))
theorem A76_ok : okFun Tryd.prog 76 17 0 A76 [.tmp 4] [] = true := by kernel_rfl
/-- math/bits.Len64 -/
def A80 : ACode :=
 (.seq
 (.ops [.it (.one (.mov 2 (.c (.int .i64 (0)))))])
 (.seq
 (.seq
 (.ops [.it (.one (.mov 3 (.r 0))),
 .it (.one (.bin 4 .geq (.r 3) (.c (.int .u64 (4294967296)))))])
 (.cond (.r 4)
 (.seq
 (.ops [.it (.one (.mov 5 (.r 0))),
 .it (.one (.bin 6 .shr (.r 5) (.c (.int .u64 (32))))),
 .it (.one (.mov 0 (.r 6)))])
 (.ops [.it (.one (.mov 2 (.c (.int .i64 (32)))))])) .skip))
 (.seq
 (.seq
 (.ops [.it (.one (.mov 7 (.r 0))),
 .it (.one (.bin 8 .geq (.r 7) (.c (.int .u64 (65536)))))])
 (.cond (.r 8)
 (.seq
 (.ops [.it (.one (.mov 9 (.r 0))),
 .it (.one (.bin 10 .shr (.r 9) (.c (.int .u64 (16))))),
 .it (.one (.mov 0 (.r 10)))])
 (.ops [.it (.one (.mov 11 (.r 2))),
 .it (.one (.bin 12 .add (.r 11) (.c (.int .i64 (16))))),
 .it (.one (.mov 2 (.r 12)))])) .skip))
 (.seq
 (.seq
 (.ops [.it (.one (.mov 13 (.r 0))),
 .it (.one (.bin 14 .geq (.r 13) (.c (.int .u64 (256)))))])
 (.cond (.r 14)
 (.seq
 (.ops [.it (.one (.mov 15 (.r 0))),
 .it (.one (.bin 16 .shr (.r 15) (.c (.int .u64 (8))))),
 .it (.one (.mov 0 (.r 16)))])
 (.ops [.it (.one (.mov 17 (.r 2))),
 .it (.one (.bin 18 .add (.r 17) (.c (.int .i64 (8))))),
 .it (.one (.mov 2 (.r 18)))])) .skip))
 (.seq
 (.ops [.it (.one (.mov 19 (.r 2))),
 .it (.one (.mov 20 (.r 0))),
 .it (.one (.conv 21 .u8 (.r 20))),
 .it (.one (.sidx 22 (.c (.str ⟨#[0, 1, 2, 2, 3, 3, 3, 3, 4, 4, 4, 4, 4, 4, 4, 4, 5, 5, 5, 5, 5, 5, 5, 5, 5, 5, 5, 5, 5, 5, 5, 5, 6, 6, 6, 6, 6, 6, 6, 6, 6, 6, 6, 6, 6, 6, 6, 6, 6, 6, 6, 6, 6, 6, 6, 6, 6, 6, 6, 6, 6, 6, 6, 6, 7, 7, 7, 7, 7, 7, 7, 7, 7, 7, 7, 7, 7, 7, 7, 7, 7, 7, 7, 7, 7, 7, 7, 7, 7, 7, 7, 7, 7, 7, 7, 7, 7, 7, 7, 7, 7, 7, 7, 7, 7, 7, 7, 7, 7, 7, 7, 7, 7, 7, 7, 7, 7, 7, 7, 7, 7, 7, 7, 7, 7, 7, 7, 7, 8, 8, 8, 8, 8, 8, 8, 8, 8, 8, 8, 8, 8, 8, 8, 8, 8, 8, 8, 8, 8, 8, 8, 8, 8, 8, 8, 8, 8, 8, 8, 8, 8, 8, 8, 8, 8, 8, 8, 8, 8, 8, 8, 8, 8, 8, 8, 8, 8, 8, 8, 8, 8, 8, 8, 8, 8, 8, 8, 8, 8, 8, 8, 8, 8, 8, 8, 8, 8, 8, 8, 8, 8, 8, 8, 8, 8, 8, 8, 8, 8, 8, 8, 8, 8, 8, 8, 8, 8, 8, 8, 8, 8, 8, 8, 8, 8, 8, 8, 8, 8, 8, 8, 8, 8, 8, 8, 8, 8, 8, 8, 8, 8, 8, 8, 8, 8, 8, 8, 8, 8, 8, 8, 8, 8, 8, 8, 8]⟩)) (.r 21))),
 .it (.one (.conv 23 .i64 (.r 22))),
 .it (.one (.bin 24 .add (.r 19) (.r 23))),
 .it (.one (.mov 2 (.r 24)))]) .ret)))))
theorem A80_ok : okFun Tryd.prog 80 25 0 A80 [.tmp 2] [] = true := by kernel_rfl
/-- dyehouse/op.Last -/
def A81 : ACode :=
 (.seq
 (.ops [.it (.one (.mov 2 (.c (.bool false))))])
 (.seq
 (.ops [.it (.one (.mov 3 (.r 0))),
 .it (.one (.bin 4 .geq (.r 3) (.c (.int .i64 (20))))),
 .it (.one (.mov 5 (.r 4))),
 .it (.grp 5 true [.mov 6 (.r 0), .bin 7 .leq (.r 6) (.c (.int .i64 (23)))]),
 .it (.one (.pick 8 (.r 5) (.r 7) (.c (.bool false)))),
 .it (.one (.mov 2 (.r 8)))]) .ret))
theorem A81_ok : okFun Tryd.prog 81 9 0 A81 [.tmp 2] [] = true := by kernel_rfl
/-- slices.IndexFunc[[]dyehouse/api.Block,dyehouse/api.Block] -/
def A82 : ACode :=
 (.seq
 (.ops [.it (.one (.mov 4 (.c (.int .i64 (0)))))])
 (.seq
 (.seq
 (.ops [.it (.one (.mov 6 (.r 0))),
 .it (.one (.len 7 (.r 6))),
 .it (.one (.mov 8 (.c (.int .i64 (0)))))])
 (.block 0
 (.loop (.pre (.mv [0, 1, 7, 8] [])
 (.seq
 (.ops [.it (.one (.bin 9 .lss (.r 8) (.r 7)))])
 (.seq
 (.cond (.r 9) .skip (.exit 0))
 (.seq
 (.block 1
 (.seq
 (.ops [.it (.one (.mov 10 (.r 8))),
 .it (.one (.mov 5 (.r 10)))])
 (.seq
 (.ops [.it (.one (.mov 11 (.r 1))),
 .it (.one (.mov 12 (.r 0))),
 .it (.one (.mov 13 (.r 5))),
 .it (.one (.idx 14 (.r 12) (.r 13) 4)),
 .it (.one (.load 15 (.r 14) 4 true)),
 .it (.one (.callf (some 16) (.dy (.r 11)) [(.r 15)]))])
 (.cond (.r 16)
 (.seq
 (.ops [.it (.one (.mov 17 (.r 5))),
 .it (.one (.mov 4 (.r 17)))]) .ret) .skip))))
 (.ops [.it (.one (.bin 18 .add (.r 8) (.c (.int .i64 (1))))),
 .it (.one (.mov 8 (.r 18)))]))))))))
 (.seq
 (.ops [.it (.one (.mov 4 (.c (.int .i64 (-1)))))]) .ret)))
theorem A82_ok : okFun Tryd.prog 82 19 0 A82 [.tmp 4] [] = true := by kernel_rfl
/-- dyehouse/ir.Find$1 -/
def A83 : ACode :=
 (.seq
 (.ops [.it (.one (.boxp 2 (.r 0))),
 .it (.one (.mov 3 (.c (.bool false))))])
 (.seq
 (.ops [.it (.one (.fad 4 (.r 2) 0)),
 .it (.one (.load 5 (.r 4) 1 false)),
 .it (.one (.load 6 (.r 1) 1 false)),
 .it (.one (.bin 7 .eql (.r 5) (.r 6))),
 .it (.one (.mov 3 (.r 7)))]) .ret))
theorem A83_ok : okFun Tryd.prog 83 8 0 A83 [.tmp 3] [] = true := by kernel_rfl
/-- slices.Index[[]int,int] -/
def A84 : ACode :=
 (.seq
 (.ops [.it (.one (.mov 4 (.c (.int .i64 (0)))))])
 (.seq
 (.seq
 (.ops [.it (.one (.mov 6 (.r 0))),
 .it (.one (.len 7 (.r 6))),
 .it (.one (.mov 8 (.c (.int .i64 (0)))))])
 (.block 0
 (.loop (.pre (.mv [0, 1, 7, 8] [])
 (.seq
 (.ops [.it (.one (.bin 9 .lss (.r 8) (.r 7)))])
 (.seq
 (.cond (.r 9) .skip (.exit 0))
 (.seq
 (.block 1
 (.seq
 (.ops [.it (.one (.mov 10 (.r 8))),
 .it (.one (.mov 5 (.r 10)))])
 (.seq
 (.ops [.it (.one (.mov 11 (.r 1))),
 .it (.one (.mov 12 (.r 0))),
 .it (.one (.mov 13 (.r 5))),
 .it (.one (.idx 14 (.r 12) (.r 13) 1)),
 .it (.one (.load 15 (.r 14) 1 false)),
 .it (.one (.bin 16 .eql (.r 11) (.r 15)))])
 (.cond (.r 16)
 (.seq
 (.ops [.it (.one (.mov 17 (.r 5))),
 .it (.one (.mov 4 (.r 17)))]) .ret) .skip))))
 (.ops [.it (.one (.bin 18 .add (.r 8) (.c (.int .i64 (1))))),
 .it (.one (.mov 8 (.r 18)))]))))))))
 (.seq
 (.ops [.it (.one (.mov 4 (.c (.int .i64 (-1)))))]) .ret)))
theorem A84_ok : okFun Tryd.prog 84 19 0 A84 [.tmp 4] [] = true := by kernel_rfl
/-- (*dyehouse/graph.Graph).Len -/
def A85 : ACode :=
 (.seq
 (.ops [.it (.one (.mov 2 (.c (.int .i64 (0)))))])
 (.seq
 (.seq
 (.ops [.it (.one (.mov 3 (.r 0))),
 .it (.one (.eq 4 false .nil (.r 3) (.c (.nilp))))])
 (.cond (.r 4)
 (.seq
 (.ops [.it (.one (.mov 2 (.c (.int .i64 (0)))))]) .ret) .skip))
 (.seq
 (.ops [.it (.one (.mov 5 (.r 0))),
 .it (.one (.nilc 6 (.r 5))),
 .it (.one (.fad 7 (.r 6) 0)),
 .it (.one (.load 8 (.r 7) 1 false)),
 .it (.one (.len 9 (.r 8))),
 .it (.one (.mov 2 (.r 9)))]) .ret)))
theorem A85_ok : okFun Tryd.prog 85 10 0 A85 [.tmp 2] [] = true := by kernel_rfl
/-- slices.Clone[[]int,int] -/
def A86 : ACode :=
 (.seq
 (.ops [.it (.one (.mov 2 (.c (.sl []))))])
 (.seq
 (.seq
 (.ops [.it (.one (.mov 3 (.r 0))),
 .it (.one (.eqs 4 false (.r 3)))])
 (.cond (.r 4)
 (.seq
 (.ops [.it (.one (.mov 2 (.c (.sl []))))]) .ret) .skip))
 (.seq
 (.post (.ops [.it (.one (.bslo 5 5 1 [])),
 .it (.one (.mov 6 (.r 0))),
 .it (.one (.appd 7 (.r 5) (.r 6) 1 8)),
 .it (.one (.mov 2 (.r 7)))]) (.frz 5)) .ret)))
theorem A86_ok : okFun Tryd.prog 86 8 0 A86 [.tmp 2] [] = true := by kernel_rfl
/-- (*dyehouse/bits.Set).mask -/
def A87 : ACode :=
 (.seq
 (.ops [.it (.one (.mov 4 (.c (.int .u64 (0)))))])
 (.seq
 (.seq
 (.ops [.it (.one (.mov 6 (.r 0))),
 .it (.one (.nilc 7 (.r 6))),
 .it (.one (.fad 8 (.r 7) 0)),
 .it (.one (.load 9 (.r 8) 1 false)),
 .it (.one (.mov 10 (.r 1))),
 .it (.one (.bin 11 .mul (.r 10) (.c (.int .i64 (64))))),
 .it (.one (.bin 12 .sub (.r 9) (.r 11))),
 .it (.one (.mov 5 (.r 12)))])
 (.seq
 (.ops [.it (.one (.mov 13 (.r 5))),
 .it (.one (.bin 14 .lss (.r 13) (.c (.int .i64 (64)))))])
 (.cond (.r 14)
 (.seq
 (.ops [.it (.one (.mov 15 (.r 5))),
 .it (.one (.bin 16 .shl (.c (.int .u64 (1))) (.r 15))),
 .it (.one (.bin 17 .sub (.r 16) (.c (.int .u64 (1))))),
 .it (.one (.mov 4 (.r 17)))]) .ret) .skip)))
 (.seq
 (.ops [.it (.one (.mov 4 (.c (.int .u64 (18446744073709551615)))))]) .ret)))
theorem A87_ok : okFun Tryd.prog 87 18 0 A87 [.tmp 4] [] = true := by kernel_rfl
/-- slices.Clone[[]uint64,uint64] -/
def A88 : ACode :=
 (.seq
 (.ops [.it (.one (.mov 2 (.c (.sl []))))])
 (.seq
 (.seq
 (.ops [.it (.one (.mov 3 (.r 0))),
 .it (.one (.eqs 4 false (.r 3)))])
 (.cond (.r 4)
 (.seq
 (.post (.ops [.it (.one (.mov 2 (.c (.yl 0))))]) (.nil 2 5 1 1)) .ret) .skip))
 (.seq
 (.ops [.it (.one (.bslo 5 5 1 [])),
 .it (.one (.mov 6 (.r 0))),
 .it (.one (.appd 7 (.r 5) (.r 6) 1 8)),
 .it (.one (.mov 2 (.r 7)))]) .ret)))
theorem A88_ok : okFun Tryd.prog 88 8 0 A88 [.tmp 2] [5] = true := by kernel_rfl
/-- (*dyehouse/point.Table).Behind -/
def A89 : ACode :=
 (.seq
 (.ops [.it (.one (.mov 6 (.c (.int .i64 (0)))))])
 (.seq
 (.seq
 (.ops [.it (.one (.mov 8 (.r 2))),
 .it (.one (.mov 9 (.r 0))),
 .it (.one (.mov 10 (.r 1))),
 .it (.one (.callf (some 11) (.st 64) [(.r 9), (.r 10)])),
 .it (.one (.bin 12 .sub (.r 11) (.c (.int .i64 (1))))),
 .it (.one (.bin 13 .eql (.r 8) (.r 12)))])
 (.cond (.r 13)
 (.seq
 (.ops [.it (.one (.mov 6 (.c (.int .i64 (-1)))))]) .ret) .skip))
 (.seq
 (.ops [.it (.one (.mov 14 (.r 0))),
 .it (.one (.mov 15 (.r 1))),
 .it (.one (.mov 16 (.r 2))),
 .it (.one (.callf (some 17) (.st 38) [(.r 14), (.r 15), (.r 16)])),
 .it (.one (.mov 7 (.r 17)))])
 (.seq
 (.seq
 (.ops [.it (.one (.mov 18 (.r 7))),
 .it (.one (.bin 19 .lss (.r 18) (.c (.int .i64 (0)))))])
 (.cond (.r 19)
 (.seq
 (.ops [.it (.one (.mov 6 (.c (.int .i64 (-1)))))]) .ret) .skip))
 (.seq
 (.ops [.it (.one (.mov 20 (.r 7))),
 .it (.one (.bin 21 .mul (.c (.int .i64 (2))) (.r 20))),
 .it (.one (.bin 22 .add (.r 21) (.c (.int .i64 (1))))),
 .it (.one (.mov 6 (.r 22)))]) .ret)))))
theorem A89_ok : okFun Tryd.prog 89 23 0 A89 [.tmp 6] [] = true := by kernel_rfl
/-- slices.isNaN[int] -/
def A92 : ACode :=
 (.seq
 (.ops [.it (.one (.mov 2 (.c (.bool false))))])
 (.seq
 (.ops [.it (.one (.mov 3 (.r 0))),
 .it (.one (.mov 4 (.r 0))),
 .it (.one (.bin 5 .neq (.r 3) (.r 4))),
 .it (.one (.mov 2 (.r 5)))]) .ret))
theorem A92_ok : okFun Tryd.prog 92 6 0 A92 [.tmp 2] [] = true := by kernel_rfl
/-- cmp.isNaN[int] -/
def A98 : ACode :=
 (.seq
 (.ops [.it (.one (.mov 2 (.c (.bool false))))])
 (.seq
 (.ops [.it (.one (.mov 3 (.r 0))),
 .it (.one (.mov 4 (.r 0))),
 .it (.one (.bin 5 .neq (.r 3) (.r 4))),
 .it (.one (.mov 2 (.r 5)))]) .ret))
theorem A98_ok : okFun Tryd.prog 98 6 0 A98 [.tmp 2] [] = true := by kernel_rfl
/-- math/bits.TrailingZeros64 -/
def A100 : ACode :=
 (.seq
 (.ops [.it (.one (.mov 2 (.c (.int .i64 (0)))))])
 (.seq
 (.seq
 (.ops [.it (.one (.mov 3 (.r 0))),
 .it (.one (.bin 4 .eql (.r 3) (.c (.int .u64 (0)))))])
 (.cond (.r 4)
 (.seq
 (.ops [.it (.one (.mov 2 (.c (.int .i64 (64)))))]) .ret) .skip))
 (.seq
 (.ops [.it (.one (.mov 5 (.r 0))),
 .it (.one (.mov 6 (.r 0))),
 .it (.one (.un 7 .neg (.r 6))),
 .it (.one (.bin 8 .and (.r 5) (.r 7))),
 .it (.one (.bin 9 .mul (.r 8) (.c (.int .u64 (285870213051353865))))),
 .it (.one (.bin 10 .shr (.r 9) (.c (.int .u64 (58))))),
 .it (.one (.aix 11 (.g 0) (.r 10) 1 64)),
 .it (.one (.load 12 (.r 11) 1 false)),
 .it (.one (.conv 13 .i64 (.r 12))),
 .it (.one (.mov 2 (.r 13)))]) .ret)))
theorem A100_ok : okFun Tryd.prog 100 14 0 A100 [.tmp 2] [] = true := by kernel_rfl
end Go.Proofs.YtgbmneoeggdaoaaDoor.X
