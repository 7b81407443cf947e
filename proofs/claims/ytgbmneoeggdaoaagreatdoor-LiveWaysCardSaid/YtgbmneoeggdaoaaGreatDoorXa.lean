/- Part of a proof: what functions of the program do. -/
import Derived.Test.YtgbmneoeggdaoaaGreatDoorXam5
import Derived.Test.YtgbmneoeggdaoaaGreatDoorProg
import Derived.KernelRfl
namespace Go.Proofs.YtgbmneoeggdaoaaGreatDoor.X
open Go Go.AM Go.Proofs
/-- dyehouse/dyehouselaw25.LivePresent -/
def A3 : ACode :=
 (.seq
 (.ops [.o (.boxp 1 (.r 0)),
 .o (.mov 2 (.c (.bool false)))])
 (.seq
 (.seq
 (.ops [.o (.load 23 (.r 1) 4 true),
 .o (.callf (some 24) (.st 5) [(.r 23)])])
 (.cond (.r 24)
 (.seq
 (.ops [.o (.callf (some 25) (.st 6) []),
 .o (.mov 2 (.r 25))]) .ret) .skip))
 (.seq
 (.post (.ops [.o (.load 26 (.r 1) 4 true),
 .o (.callf (some 27) (.st 7) [(.r 26)]),
 .o (.alloc 3 3 [.bool false, .str .empty, .sl [], .sl [], .sl []]),
 .o (.store (.r 3) (.r 27) 5)]) (.frz 3))
 (.seq
 (.ops [.o (.load 28 (.r 3) 5 true),
 .o (.callf (some 29) (.st 8) [(.r 28)]),
 .o (.mov 4 (.r 29))])
 (.seq
 (.ops [.o (.mov 5 (.c (.int .i64 (0))))])
 (.seq
 (.ops [.o (.build 30 [.int .i64 0, .int .i64 0] []),
 .o (.alloc 6 6 [.int .i64 0, .int .i64 0]),
 .o (.store (.r 6) (.r 30) 2)])
 (.seq
 (.seq
 (.ops [.o (.mov 7 (.c (.int .i64 (0))))])
 (.block 0
 (.loop (.pre (.mv [3, 4, 5, 6, 7] [(3, 3), (6, 6)])
 (.seq
 (.seq
 (.ops [.o (.mov 31 (.r 7)),
 .o (.fad 32 (.r 3) 4),
 .o (.load 33 (.r 32) 1 false),
 .o (.len 34 (.r 33)),
 .o (.bin 35 .lss (.r 31) (.r 34))])
 (.cond (.r 35) .skip (.exit 0)))
 (.seq
 (.block 1
 (.seq
 (.ops [.o (.fad 38 (.r 3) 4),
 .o (.load 39 (.r 38) 1 false),
 .o (.mov 40 (.r 7)),
 .o (.idx 41 (.r 39) (.r 40) 4),
 .o (.fad 42 (.r 41) 3),
 .o (.load 43 (.r 42) 1 false),
 .o (.mov 8 (.r 43))])
 (.seq
 (.seq
 (.ops [.o (.mov 9 (.c (.int .i64 (0))))])
 (.block 2
 (.loop (.pre (.mv [3, 4, 5, 6, 7, 8, 9] [(3, 3), (6, 6)])
 (.seq
 (.seq
 (.ops [.o (.mov 44 (.r 9)),
 .o (.mov 45 (.r 8)),
 .o (.len 46 (.r 45)),
 .o (.bin 47 .lss (.r 44) (.r 46))])
 (.cond (.r 47) .skip (.exit 2)))
 (.seq
 (.block 3
 (.seq
 (.ops [.o (.mov 50 (.r 4)),
 .o (.mov 51 (.r 5)),
 .o (.bin 52 .mul (.c (.int .i64 (2))) (.r 51)),
 .o (.callf (some 53) (.st 9) [(.r 50), (.r 52)]),
 .o (.mov 10 (.r 53))])
 (.seq
 (.ops [.o (.mov 54 (.r 8)),
 .o (.mov 55 (.r 9)),
 .o (.idx 56 (.r 54) (.r 55) 10),
 .o (.load 57 (.r 56) 10 true),
 .o (.callf (some 58) (.st 10) [(.r 57)]),
 .o (.mov 11 (.r 58))])
 (.seq
 (.seq
 (.ops [.o (.mov 12 (.c (.int .i64 (0))))])
 (.block 4
 (.loop (.pre (.mv [3, 4, 5, 6, 7, 8, 9, 10, 11, 12] [(3, 3), (6, 6)])
 (.seq
 (.seq
 (.ops [.o (.mov 59 (.r 12)),
 .o (.mov 60 (.r 11)),
 .o (.len 61 (.r 60)),
 .o (.bin 62 .lss (.r 59) (.r 61))])
 (.cond (.r 62) .skip (.exit 4)))
 (.seq
 (.block 5
 (.seq
 (.ops [.o (.mov 65 (.r 10)),
 .o (.mov 66 (.r 11)),
 .o (.mov 67 (.r 12)),
 .o (.idx 68 (.r 66) (.r 67) 1),
 .o (.load 69 (.r 68) 1 false),
 .o (.callb (some 70) (.st 11) [(.r 65), (.r 69)]),
 .o (.un 71 .not (.r 70))])
 (.cond (.r 71)
 (.seq
 (.ops [.o (.mov 2 (.c (.bool false)))]) .ret) .skip)))
 (.ops [.o (.mov 63 (.r 12)),
 .o (.bin 64 .add (.r 63) (.c (.int .i64 (1)))),
 .o (.mov 12 (.r 64))])))))))
 (.seq
 (.ops [.o (.mov 72 (.r 4)),
 .o (.mov 73 (.r 5)),
 .o (.bin 74 .mul (.c (.int .i64 (2))) (.r 73)),
 .o (.bin 75 .add (.r 74) (.c (.int .i64 (1)))),
 .o (.callf (some 76) (.st 9) [(.r 72), (.r 75)]),
 .o (.mov 13 (.r 76))])
 (.seq
 (.seq
 (.ops [.o (.mov 77 (.r 8)),
 .o (.mov 78 (.r 9)),
 .o (.idx 79 (.r 77) (.r 78) 10),
 .o (.fad 80 (.r 79) 1),
 .o (.fad 81 (.r 80) 0),
 .o (.load 82 (.r 81) 1 false),
 .o (.bin 83 .eql (.r 82) (.c (.int .i64 (1)))),
 .o (.mov 84 (.r 83)),
 .it (.grp 84 true [.mov 85 (.r 13), .mov 86 (.r 8), .mov 87 (.r 9), .idx 88 (.r 86) (.r 87) 10, .fad 89 (.r 88) 1, .fad 90 (.r 89) 2, .load 91 (.r 90) 1 false, .callb (some 92) (.st 11) [(.r 85), (.r 91)], .un 93 .not (.r 92)]),
 .o (.pick 94 (.r 84) (.r 93) (.c (.bool false)))])
 (.cond (.r 94)
 (.seq
 (.ops [.o (.mov 2 (.c (.bool false)))]) .ret) .skip))
 (.seq
 (.ops [.o (.mov 95 (.r 10)),
 .o (.mov 96 (.r 13)),
 .o (.bslp 97 1 [(.r 95), (.r 96)]),
 .o (.mov 14 (.r 97))])
 (.seq
 (.seq
 (.ops [.o (.mov 15 (.c (.int .i64 (0))))])
 (.block 6
 (.loop (.pre (.mv [3, 4, 5, 6, 7, 8, 9, 14, 15] [(3, 3), (6, 6)])
 (.seq
 (.seq
 (.ops [.o (.mov 98 (.r 15)),
 .o (.bin 99 .lss (.r 98) (.c (.int .i64 (2))))])
 (.cond (.r 99) .skip (.exit 6)))
 (.seq
 (.block 7
 (.seq
 (.ops [.o (.build 102 [.int .i64 0, .int .i64 0] []),
 .o (.alloc 16 16 [.int .i64 0, .int .i64 0]),
 .o (.store (.r 16) (.r 102) 2)])
 (.seq
 (.seq
 (.ops [.o (.mov 17 (.c (.int .i64 (0))))])
 (.block 8
 (.loop (.pre (.mv [3, 4, 5, 6, 7, 8, 9, 14, 15, 16, 17] [(3, 3), (6, 6), (16, 16)])
 (.seq
 (.seq
 (.ops [.o (.mov 103 (.r 17)),
 .o (.mov 104 (.r 14)),
 .o (.mov 105 (.r 15)),
 .o (.idx 106 (.r 104) (.r 105) 1),
 .o (.load 107 (.r 106) 1 false),
 .o (.len 108 (.r 107)),
 .o (.bin 109 .lss (.r 103) (.r 108))])
 (.cond (.r 109) .skip (.exit 8)))
 (.seq
 (.block 9
 (.seq
 (.draw [[], [], [], [1, 2], [1, 2, 3], [], [1, 2, 3, 4, 5], [1, 2, 3, 4, 5, 6], [0, 1, 2, 3, 4, 5, 6, 7], [0, 1, 2, 3, 4, 5, 6, 7, 8]] [.one (.load 112 (.r 3) 5 true),
 .one (.mov 113 (.r 14)),
 .one (.mov 114 (.r 15)),
 .one (.idx 115 (.r 113) (.r 114) 1),
 .one (.load 116 (.r 115) 1 false),
 .one (.mov 117 (.r 17)),
 .one (.idx 118 (.r 116) (.r 117) 1),
 .one (.load 119 (.r 118) 1 false),
 .one (.callf (some 120) (.st 12) [(.r 112), (.r 119)]),
 .one (.mov 18 (.r 120))])
 (.seq
 (.seq
 (.ops [.o (.mov 121 (.r 18)),
 .o (.bin 122 .lss (.r 121) (.c (.int .i64 (0))))])
 (.cond (.r 122)
 (.seq
 (.ops [.o (.mov 2 (.c (.bool false)))]) .ret) .skip))
 (.ops [.o (.mov 123 (.r 18)),
 .o (.aix 124 (.r 16) (.r 123) 1 2),
 .o (.load 125 (.r 124) 1 false),
 .o (.bin 126 .add (.r 125) (.c (.int .i64 (1)))),
 .o (.aix 127 (.r 16) (.r 123) 1 2),
 .o (.store (.r 127) (.r 126) 1)]))))
 (.ops [.o (.mov 110 (.r 17)),
 .o (.bin 111 .add (.r 110) (.c (.int .i64 (1)))),
 .o (.mov 17 (.r 111))])))))))
 (.draw [[], [0], [], [2], [0, 1, 2, 3], [], [5], [], [7], [5, 6, 7, 8], [0, 1, 2, 3, 4, 5, 6], [0, 1, 2, 3, 4, 5, 6, 10], [0, 1, 2, 3, 4, 5, 6, 7, 8, 9, 10, 11], [0, 1, 2, 3, 4, 5, 6, 7, 8, 9, 10, 11, 12]] [.one (.aix 128 (.r 6) (.c (.int .i64 (0))) 1 2),
 .one (.load 129 (.r 128) 1 false),
 .one (.aix 130 (.r 16) (.c (.int .i64 (0))) 1 2),
 .one (.load 131 (.r 130) 1 false),
 .one (.mxn 132 true (.r 129) (.r 131)),
 .one (.aix 133 (.r 6) (.c (.int .i64 (1))) 1 2),
 .one (.load 134 (.r 133) 1 false),
 .one (.aix 135 (.r 16) (.c (.int .i64 (1))) 1 2),
 .one (.load 136 (.r 135) 1 false),
 .one (.mxn 137 true (.r 134) (.r 136)),
 .one (.aix 138 (.r 6) (.c (.int .i64 (0))) 1 2),
 .one (.store (.r 138) (.r 132) 1),
 .one (.aix 139 (.r 6) (.c (.int .i64 (1))) 1 2),
 .one (.store (.r 139) (.r 137) 1)]))))
 (.ops [.o (.mov 100 (.r 15)),
 .o (.bin 101 .add (.r 100) (.c (.int .i64 (1)))),
 .o (.mov 15 (.r 101))])))))))
 (.ops [.o (.mov 140 (.r 5)),
 .o (.bin 141 .add (.r 140) (.c (.int .i64 (1)))),
 .o (.mov 5 (.r 141))])))))))))
 (.ops [.o (.mov 48 (.r 9)),
 .o (.bin 49 .add (.r 48) (.c (.int .i64 (1)))),
 .o (.mov 9 (.r 49))])))))))
 (.seq
 (.ops [.o (.mov 142 (.r 8)),
 .o (.mov 143 (.r 8)),
 .o (.len 144 (.r 143)),
 .o (.bin 145 .sub (.r 144) (.c (.int .i64 (1)))),
 .o (.idx 146 (.r 142) (.r 145) 10),
 .o (.fad 147 (.r 146) 8),
 .o (.load 148 (.r 147) 1 false),
 .o (.mov 19 (.r 148))])
 (.seq
 (.ops [.o (.mov 20 (.c (.int .i64 (0))))])
 (.block 10
 (.loop (.pre (.mv [3, 4, 5, 6, 7, 19, 20] [(3, 3), (6, 6)])
 (.seq
 (.seq
 (.ops [.o (.mov 149 (.r 20)),
 .o (.mov 150 (.r 19)),
 .o (.len 151 (.r 150)),
 .o (.bin 152 .lss (.r 149) (.r 151))])
 (.cond (.r 152) .skip (.exit 10)))
 (.seq
 (.block 11
 (.seq
 (.draw [[], [], [], [], [2, 3], [2, 3, 4], [1, 2, 3, 4, 5], [0, 1, 2, 3, 4, 5, 6], [0, 1, 2, 3, 4, 5, 6, 7]] [.one (.mov 155 (.r 4)),
 .one (.load 156 (.r 3) 5 true),
 .one (.mov 157 (.r 19)),
 .one (.mov 158 (.r 20)),
 .one (.idx 159 (.r 157) (.r 158) 1),
 .one (.load 160 (.r 159) 1 false),
 .one (.callf (some 161) (.st 14) [(.r 156), (.r 160)]),
 .one (.callf (some 162) (.st 13) [(.r 155), (.r 161)]),
 .one (.mov 21 (.r 162))])
 (.seq
 (.ops [.o (.mov 22 (.c (.int .i64 (0))))])
 (.block 12
 (.loop (.pre (.mv [3, 4, 5, 6, 7, 19, 20, 21, 22] [(3, 3), (6, 6)])
 (.seq
 (.seq
 (.ops [.o (.mov 163 (.r 22)),
 .o (.mov 164 (.r 21)),
 .o (.len 165 (.r 164)),
 .o (.bin 166 .lss (.r 163) (.r 165))])
 (.cond (.r 166) .skip (.exit 12)))
 (.seq
 (.block 13
 (.seq
 (.draw [[], [], [1], [1, 2], [0, 1, 2, 3], [], [], [5, 6], [5, 6, 7], [0, 1, 2, 3, 4, 5, 6, 7, 8], [0, 1, 2, 3, 4, 5, 6, 7, 8, 9], [0, 1, 2, 3, 4, 5, 6, 7, 8, 9, 10], [0, 1, 2, 3, 4, 5, 6, 7, 8, 9, 10, 11], [0, 1, 2, 3, 4, 5, 6, 7, 8, 9, 10, 11], [0, 1, 2, 3, 4, 5, 6, 7, 8, 9, 10, 11, 12, 13], [0, 1, 2, 3, 4, 5, 6, 7, 8, 9, 10, 11], [0, 1, 2, 3, 4, 5, 6, 7, 8, 9, 10, 11], [0, 1, 2, 3, 4, 5, 6, 7, 8, 9, 10, 11, 15, 16], [0, 1, 2, 3, 4, 5, 6, 7, 8, 9, 10, 11, 15, 16, 17], [0, 1, 2, 3, 4, 5, 6, 7, 8, 9, 10, 11, 12, 13, 14, 15, 16, 17, 18], [0, 1, 2, 3, 4, 5, 6, 7, 8, 9, 10, 11, 12, 13, 14, 15, 16, 17, 18, 19], [0, 1, 2, 3, 4, 5, 6, 7, 8, 9, 10, 11, 12, 13, 14, 15, 16, 17, 18, 19, 20]] [.one (.mov 169 (.r 4)),
 .one (.mov 170 (.r 5)),
 .one (.bin 171 .mul (.c (.int .i64 (2))) (.r 170)),
 .one (.bin 172 .sub (.r 171) (.c (.int .i64 (2)))),
 .one (.callf (some 173) (.st 9) [(.r 169), (.r 172)]),
 .one (.mov 174 (.r 21)),
 .one (.mov 175 (.r 22)),
 .one (.idx 176 (.r 174) (.r 175) 1),
 .one (.load 177 (.r 176) 1 false),
 .one (.callb (some 178) (.st 11) [(.r 173), (.r 177)]),
 .one (.un 179 .not (.r 178)),
 .one (.mov 180 (.r 179)),
 .grp 180 false [.mov 181 (.r 4), .mov 182 (.r 7), .callf (some 183) (.st 15) [(.r 181), (.r 182)], .mov 184 (.r 21), .mov 185 (.r 22), .idx 186 (.r 184) (.r 185) 1, .load 187 (.r 186) 1 false, .callb (some 188) (.st 11) [(.r 183), (.r 187)], .un 189 .not (.r 188)],
 .one (.pick 190 (.r 180) (.c (.bool true)) (.r 189))])
 (.cond (.r 190)
 (.seq
 (.ops [.o (.mov 2 (.c (.bool false)))]) .ret) .skip)))
 (.ops [.o (.mov 167 (.r 22)),
 .o (.bin 168 .add (.r 167) (.c (.int .i64 (1)))),
 .o (.mov 22 (.r 168))])))))))))
 (.ops [.o (.mov 153 (.r 20)),
 .o (.bin 154 .add (.r 153) (.c (.int .i64 (1)))),
 .o (.mov 20 (.r 154))])))))))))))
 (.ops [.o (.mov 36 (.r 7)),
 .o (.bin 37 .add (.r 36) (.c (.int .i64 (1)))),
 .o (.mov 7 (.r 37))])))))))
 (.seq
 (.draw [[], [0], [], [2], [0, 1, 2, 3], [0, 1, 2, 3, 4], [0, 1, 2, 3, 4, 5], [0, 1, 2, 3, 4, 5, 6], [0, 1, 2, 3, 4, 5], [0, 1, 2, 3, 4, 5, 8], [0, 1, 2, 3, 4, 5, 6, 7, 8, 9], [0, 1, 2, 3, 4, 5, 6, 7, 8, 9, 10], [0, 1, 2, 3, 4, 5, 6, 7, 8, 9, 10, 11], [0, 1, 2, 3, 4, 5, 6, 7, 8, 9, 10, 11, 12], [0, 1, 2, 3, 4, 5, 6, 7, 8, 9, 10, 11, 12, 13], [0, 1, 2, 3, 4, 5, 6, 7, 8, 9, 10, 11, 12, 13, 14]] [.one (.mov 191 (.r 4)),
 .one (.callf (some 192) (.st 16) [(.r 191), (.c (.int .i64 (0)))]),
 .one (.aix 193 (.r 6) (.c (.int .i64 (0))) 1 2),
 .one (.load 194 (.r 193) 1 false),
 .one (.bin 195 .eql (.r 192) (.r 194)),
 .one (.mov 196 (.r 195)),
 .grp 196 true [.mov 197 (.r 4), .callf (some 198) (.st 16) [(.r 197), (.c (.int .i64 (1)))], .aix 199 (.r 6) (.c (.int .i64 (1))) 1 2, .load 200 (.r 199) 1 false, .bin 201 .eql (.r 198) (.r 200)],
 .one (.pick 202 (.r 196) (.r 201) (.c (.bool false))),
 .one (.mov 203 (.r 202)),
 .grp 203 true [.callf (some 204) (.st 6) []],
 .one (.pick 205 (.r 203) (.r 204) (.c (.bool false))),
 .one (.mov 2 (.r 205))]) .ret))))))))
theorem A3_ok : okFun Tryz.prog 3 206 0 A3 [.tmp 2] [] = true := by kernel_rfl
/-- dyehouse/dyehouselaw25.LiveWays -/
def A4 : ACode :=
 (.seq
 (.ops [.o (.boxp 2 (.r 0)),
 .o (.mov 4 (.c (.bool false)))])
 (.seq
 (.seq
 (.ops [.o (.load 18 (.r 2) 4 true),
 .o (.callf (some 19) (.st 5) [(.r 18)]),
 .o (.mov 20 (.r 19)),
 .it (.grp 20 false [.mov 21 (.r 1), .len 22 (.r 21), .bin 23 .gtr (.r 22) (.c (.int .i64 (12)))]),
 .o (.pick 24 (.r 20) (.c (.bool true)) (.r 23))])
 (.cond (.r 24)
 (.seq
 (.ops [.o (.callf (some 25) (.st 6) []),
 .o (.mov 4 (.r 25))]) .ret) .skip))
 (.seq
 (.post (.ops [.o (.load 26 (.r 2) 4 true),
 .o (.callf (some 27) (.st 7) [(.r 26)]),
 .o (.alloc 5 5 [.bool false, .str .empty, .sl [], .sl [], .sl []]),
 .o (.store (.r 5) (.r 27) 5)]) (.frz 5))
 (.seq
 (.ops [.o (.load 28 (.r 5) 5 true),
 .o (.callf (some 29) (.st 8) [(.r 28)]),
 .o (.mov 6 (.r 29))])
 (.seq
 (.ops [.o (.nilarr 7 7 1)])
 (.seq
 (.ops [.o (.nilarr 8 8 10)])
 (.seq
 (.ops [.o (.mov 9 (.c (.int .i64 (0))))])
 (.join
 (.seq
 (.ops [.o (.mov 10 (.c (.int .i64 (0))))])
 (.block 0
 (.loop (.pre (.mv [1, 5, 6, 7, 8, 9, 10] [(5, 5), (7, 7), (8, 8)])
 (.seq
 (.seq
 (.ops [.o (.mov 30 (.r 10)),
 .o (.mov 31 (.r 1)),
 .o (.len 32 (.r 31)),
 .o (.bin 33 .leq (.r 30) (.r 32))])
 (.cond (.r 33) .skip (.exit 0)))
 (.seq
 (.block 1
 (.seq
 (.ops [.o (.fad 36 (.r 5) 4),
 .o (.load 37 (.r 36) 1 false),
 .o (.mov 38 (.r 9)),
 .o (.idx 39 (.r 37) (.r 38) 4),
 .o (.fad 40 (.r 39) 3),
 .o (.load 41 (.r 40) 1 false),
 .o (.mov 11 (.r 41))])
 (.seq
 (.seq
 (.ops [.o (.mov 12 (.c (.int .i64 (0))))])
 (.block 2
 (.loop (.pre (.mv [1, 5, 6, 7, 8, 9, 10, 11, 12] [(5, 5), (7, 7), (8, 8)])
 (.seq
 (.seq
 (.ops [.o (.mov 42 (.r 12)),
 .o (.mov 43 (.r 11)),
 .o (.len 44 (.r 43)),
 .o (.bin 45 .lss (.r 42) (.r 44))])
 (.cond (.r 45) .skip (.exit 2)))
 (.seq
 (.block 3
 (.seq
 (.ops [.o (.mov 48 (.r 7)),
 .o (.mov 49 (.r 6)),
 .o (.load 50 (.r 5) 5 true),
 .o (.mov 51 (.r 9)),
 .o (.callf (some 52) (.st 17) [(.r 50), (.r 51)]),
 .o (.mov 53 (.r 12)),
 .o (.bin 54 .add (.r 52) (.r 53)),
 .o (.bin 55 .mul (.c (.int .i64 (2))) (.r 54)),
 .o (.callf (some 56) (.st 9) [(.r 49), (.r 55)]),
 .o (.bslp 57 1 [(.r 56)]),
 .o (.appd 58 (.r 48) (.r 57) 1 24),
 .o (.mov 7 (.r 58))])
 (.ops [.o (.mov 59 (.r 8)),
 .o (.mov 60 (.r 11)),
 .o (.mov 61 (.r 12)),
 .o (.idx 62 (.r 60) (.r 61) 10),
 .o (.load 63 (.r 62) 10 true),
 .o (.bslp 64 10 [(.r 63)]),
 .o (.appd 65 (.r 59) (.r 64) 10 136),
 .o (.mov 8 (.r 65))])))
 (.ops [.o (.mov 46 (.r 12)),
 .o (.bin 47 .add (.r 46) (.c (.int .i64 (1)))),
 .o (.mov 12 (.r 47))])))))))
 (.seq
 (.ops [.o (.mov 66 (.r 11)),
 .o (.mov 67 (.r 11)),
 .o (.len 68 (.r 67)),
 .o (.bin 69 .sub (.r 68) (.c (.int .i64 (1)))),
 .o (.idx 70 (.r 66) (.r 69) 10),
 .o (.fad 71 (.r 70) 8),
 .o (.load 72 (.r 71) 1 false),
 .o (.mov 13 (.r 72))])
 (.seq
 (.seq
 (.ops [.o (.mov 73 (.r 10)),
 .o (.mov 74 (.r 1)),
 .o (.len 75 (.r 74)),
 .o (.bin 76 .eql (.r 73) (.r 75)),
 .o (.mov 77 (.r 76)),
 .it (.grp 77 false [.mov 78 (.r 13), .len 79 (.r 78), .bin 80 .eql (.r 79) (.c (.int .i64 (0)))]),
 .o (.pick 81 (.r 77) (.c (.bool true)) (.r 80))])
 (.cond (.r 81) (.exit 0) .skip))
 (.draw [[], [], [], [], [2, 3], [2, 3, 4], [2, 3, 4, 5], [], [7], [2, 3, 4, 5, 6, 7, 8], [1, 2, 3, 4, 5, 6, 7, 8, 9], [1, 2, 3, 4, 5, 6, 7, 8, 9, 10], [0, 1, 2, 3, 4, 5, 6, 7, 8, 9, 10, 11], [0, 1, 2, 3, 4, 5, 6, 7, 8, 9, 10, 11, 12]] [.one (.load 82 (.r 5) 5 true),
 .one (.mov 83 (.r 13)),
 .one (.mov 84 (.r 1)),
 .one (.mov 85 (.r 10)),
 .one (.idx 86 (.r 84) (.r 85) 1),
 .one (.load 87 (.r 86) 1 false),
 .one (.conv 88 .i64 (.r 87)),
 .one (.mov 89 (.r 13)),
 .one (.len 90 (.r 89)),
 .one (.bin 91 .rem (.r 88) (.r 90)),
 .one (.idx 92 (.r 83) (.r 91) 1),
 .one (.load 93 (.r 92) 1 false),
 .one (.callf (some 94) (.st 14) [(.r 82), (.r 93)]),
 .one (.mov 9 (.r 94))]))))))
 (.ops [.o (.mov 34 (.r 10)),
 .o (.bin 35 .add (.r 34) (.c (.int .i64 (1)))),
 .o (.mov 10 (.r 35))])))))))
 (.pre (.mv [7, 8] [(7, 7), (8, 8)])
 (.seq
 (.seq
 (.ops [.o (.mov 14 (.c (.int .i64 (0))))])
 (.block 4
 (.loop (.pre (.mv [7, 8, 14] [(7, 7), (8, 8)])
 (.seq
 (.seq
 (.ops [.o (.mov 95 (.r 14)),
 .o (.mov 96 (.r 8)),
 .o (.len 97 (.r 96)),
 .o (.bin 98 .lss (.r 95) (.r 97))])
 (.cond (.r 98) .skip (.exit 4)))
 (.seq
 (.block 5
 (.seq
 (.ops [.o (.mov 101 (.r 8)),
 .o (.mov 102 (.r 14)),
 .o (.idx 103 (.r 101) (.r 102) 10),
 .o (.load 104 (.r 103) 10 true),
 .o (.callf (some 105) (.st 10) [(.r 104)]),
 .o (.mov 15 (.r 105))])
 (.seq
 (.ops [.o (.mov 16 (.c (.int .i64 (0))))])
 (.block 6
 (.loop (.pre (.mv [7, 8, 14, 15, 16] [(7, 7), (8, 8)])
 (.seq
 (.seq
 (.ops [.o (.mov 106 (.r 16)),
 .o (.mov 107 (.r 15)),
 .o (.len 108 (.r 107)),
 .o (.bin 109 .lss (.r 106) (.r 108))])
 (.cond (.r 109) .skip (.exit 6)))
 (.seq
 (.block 7
 (.seq
 (.ops [.o (.mov 112 (.r 14)),
 .o (.mov 17 (.r 112))])
 (.block 8
 (.loop (.pre (.mv [7, 8, 14, 15, 16, 17] [(7, 7), (8, 8)])
 (.seq
 (.seq
 (.ops [.o (.mov 113 (.r 17)),
 .o (.bin 114 .geq (.r 113) (.c (.int .i64 (0))))])
 (.cond (.r 114) .skip (.exit 8)))
 (.seq
 (.block 9
 (.seq
 (.seq
 (.draw [[], [], [0, 1], [0, 1, 2], [], [], [4, 5], [4, 5, 6], [0, 1, 2, 3, 4, 5, 6, 7], [0, 1, 2, 3, 4, 5, 6, 7, 8]] [.one (.mov 117 (.r 7)),
 .one (.mov 118 (.r 17)),
 .one (.idx 119 (.r 117) (.r 118) 1),
 .one (.load 120 (.r 119) 1 false),
 .one (.mov 121 (.r 15)),
 .one (.mov 122 (.r 16)),
 .one (.idx 123 (.r 121) (.r 122) 1),
 .one (.load 124 (.r 123) 1 false),
 .one (.callb (some 125) (.st 11) [(.r 120), (.r 124)]),
 .one (.un 126 .not (.r 125))])
 (.cond (.r 126)
 (.seq
 (.ops [.o (.mov 4 (.c (.bool false)))]) .ret) .skip))
 (.seq
 (.draw [[], [0], [0, 1], [0, 1, 2], [0, 1, 2], [0, 1, 2, 4], [0, 1, 2, 3, 4, 5], [0, 1, 2, 3, 4, 5, 6], [0, 1, 2, 3, 4, 5, 6, 7], [0, 1, 2, 3, 4, 5, 6, 7, 8], [0, 1, 2, 3, 4, 5, 6, 7, 8, 9], [0, 1, 2, 3, 4, 5, 6, 7, 8, 9, 10], [0, 1, 2, 3, 4, 5, 6, 7, 8, 9, 10, 11], [0, 1, 2, 3, 4, 5, 6, 7, 8, 9, 10, 11, 12], [0, 1, 2, 3, 4, 5, 6, 7, 8, 9, 10, 11, 12], [0, 1, 2, 3, 4, 5, 6, 7, 8, 9, 10, 11, 12, 14], [0, 1, 2, 3, 4, 5, 6, 7, 8, 9, 10, 11, 12, 13, 14, 15], [0, 1, 2, 3, 4, 5, 6, 7, 8, 9, 10, 11, 12, 13, 14, 15, 16], [0, 1, 2, 3, 4, 5, 6, 7, 8, 9, 10, 11, 12, 13, 14, 15, 16, 17], [0, 1, 2, 3, 4, 5, 6, 7, 8, 9, 10, 11, 12, 13, 14, 15, 16, 17, 18], [0, 1, 2, 3, 4, 5, 6, 7, 8, 9, 10, 11, 12], [0, 1, 2, 3, 4, 5, 6, 7, 8, 9, 10, 11, 12], [0, 1, 2, 3, 4, 5, 6, 7, 8, 9, 10, 11, 12, 20, 21], [0, 1, 2, 3, 4, 5, 6, 7, 8, 9, 10, 11, 12, 20, 21, 22], [0, 1, 2, 3, 4, 5, 6, 7, 8, 9, 10, 11, 12, 13, 14, 15, 16, 17, 18, 19, 20, 21, 22, 23], [0, 1, 2, 3, 4, 5, 6, 7, 8, 9, 10, 11, 12, 13, 14, 15, 16, 17, 18, 19, 20, 21, 22, 23, 24]] [.one (.mov 127 (.r 17)),
 .one (.bin 128 .gtr (.r 127) (.c (.int .i64 (0)))),
 .one (.mov 129 (.r 128)),
 .grp 129 true [.mov 130 (.r 8), .mov 131 (.r 17), .bin 132 .sub (.r 131) (.c (.int .i64 (1))), .idx 133 (.r 130) (.r 132) 10, .fad 134 (.r 133) 1, .fad 135 (.r 134) 0, .load 136 (.r 135) 1 false, .bin 137 .eql (.r 136) (.c (.int .i64 (1)))],
 .one (.pick 138 (.r 129) (.r 137) (.c (.bool false))),
 .one (.mov 139 (.r 138)),
 .grp 139 true [.mov 140 (.r 8), .mov 141 (.r 17), .bin 142 .sub (.r 141) (.c (.int .i64 (1))), .idx 143 (.r 140) (.r 142) 10, .fad 144 (.r 143) 1, .fad 145 (.r 144) 2, .load 146 (.r 145) 1 false, .mov 147 (.r 15), .mov 148 (.r 16), .idx 149 (.r 147) (.r 148) 1, .load 150 (.r 149) 1 false, .bin 151 .eql (.r 146) (.r 150)],
 .one (.pick 152 (.r 139) (.r 151) (.c (.bool false)))])
 (.cond (.r 152) (.exit 8) .skip))))
 (.ops [.o (.mov 115 (.r 17)),
 .o (.bin 116 .sub (.r 115) (.c (.int .i64 (1)))),
 .o (.mov 17 (.r 116))]))))))))
 (.ops [.o (.mov 110 (.r 16)),
 .o (.bin 111 .add (.r 110) (.c (.int .i64 (1)))),
 .o (.mov 16 (.r 111))])))))))))
 (.ops [.o (.mov 99 (.r 14)),
 .o (.bin 100 .add (.r 99) (.c (.int .i64 (1)))),
 .o (.mov 14 (.r 100))])))))))
 (.seq
 (.ops [.o (.callf (some 153) (.st 6) []),
 .o (.mov 4 (.r 153))]) .ret)))))))))))
theorem A4_ok : okFun Tryz.prog 4 154 0 A4 [.tmp 4] [] = true := by kernel_rfl
/-- dyehouse/dyehouseref12.Many -/
def A5 : ACode :=
 (.seq
 (.ops [.o (.boxp 1 (.r 0)),
 .o (.mov 2 (.c (.bool false)))])
 (.seq
 (.ops [.o (.mov 3 (.c (.int .i64 (0))))])
 (.seq
 (.seq
 (.ops [.o (.mov 4 (.c (.int .i64 (0))))])
 (.block 0
 (.loop (.pre (.mv [1, 3, 4] [])
 (.seq
 (.seq
 (.ops [.o (.mov 5 (.r 4)),
 .o (.fad 6 (.r 1) 3),
 .o (.load 7 (.r 6) 1 false),
 .o (.len 8 (.r 7)),
 .o (.bin 9 .lss (.r 5) (.r 8))])
 (.cond (.r 9) .skip (.exit 0)))
 (.seq
 (.block 1
 (.ops [.o (.mov 12 (.r 3)),
 .o (.bin 13 .add (.r 12) (.c (.int .i64 (1)))),
 .o (.fad 14 (.r 1) 3),
 .o (.load 15 (.r 14) 1 false),
 .o (.mov 16 (.r 4)),
 .o (.idx 17 (.r 15) (.r 16) 5),
 .o (.fad 18 (.r 17) 0),
 .o (.load 19 (.r 18) 1 false),
 .o (.len 20 (.r 19)),
 .o (.bin 21 .add (.r 13) (.r 20)),
 .o (.mov 3 (.r 21))]))
 (.ops [.o (.mov 10 (.r 4)),
 .o (.bin 11 .add (.r 10) (.c (.int .i64 (1)))),
 .o (.mov 4 (.r 11))])))))))
 (.seq
 (.ops [.o (.fad 22 (.r 1) 3),
 .o (.load 23 (.r 22) 1 false),
 .o (.len 24 (.r 23)),
 .o (.bin 25 .gtr (.r 24) (.c (.int .i64 (9)))),
 .o (.mov 26 (.r 25)),
 .it (.grp 26 false [.mov 27 (.r 3), .bin 28 .gtr (.r 27) (.c (.int .i64 (60)))]),
 .o (.pick 29 (.r 26) (.c (.bool true)) (.r 28)),
 .o (.mov 2 (.r 29))]) .ret))))
theorem A5_ok : okFun Tryz.prog 5 30 0 A5 [.tmp 2] [] = true := by kernel_rfl
/-- dyehouse/dyehouselaw25.works -/
def A6 : ACode :=
 (.seq
 (.ops [.o (.mov 0 (.c (.bool false)))])
 (.seq
 (.ops [.o (.mov 1 (.c (.fn 18 [])))])
 (.seq
 (.post (.ops [.o (.build 5 [.int .i64 0, .int .i64 0] [(0, 1, (.c (.int .i64 (1))))]),
 .o (.build 6 [.int .i64 0, .int .i64 0] [(0, 1, (.c (.int .i64 (2))))]),
 .o (.bslp 7 2 [(.r 5), (.r 6)]),
 .o (.mov 8 (.r 1)),
 .o (.callf (some 9) (.dy (.r 8)) [(.c (.int .i64 (2)))]),
 .o (.mov 10 (.r 1)),
 .o (.callf (some 11) (.dy (.r 10)) [(.c (.int .i64 (1)))]),
 .o (.mov 12 (.r 1)),
 .o (.callf (some 13) (.dy (.r 12)) [(.c (.int .i64 (1)))]),
 .o (.bslp 14 4 [(.r 11), (.r 13)]),
 .o (.build 15 [.int .i64 0, .int .i64 0, .int .i64 0, .int .i64 0, .int .i64 0, .sl [], .str .empty, .int .i64 0, .sl [], .sl []] [(0, 1, (.c (.int .i64 (1)))), (1, 4, (.r 9)), (5, 1, (.r 14))]),
 .o (.mov 16 (.r 1)),
 .o (.callf (some 17) (.dy (.r 16)) [(.c (.int .i64 (2)))]),
 .o (.bslp 18 4 [(.r 17)]),
 .o (.bslp 19 1 [(.c (.str ⟨#[98]⟩)), (.c (.str ⟨#[99]⟩))]),
 .o (.build 20 [.int .i64 0, .int .i64 0, .int .i64 0, .int .i64 0, .int .i64 0, .sl [], .str .empty, .int .i64 0, .sl [], .sl []] [(0, 1, (.c (.int .i64 (21)))), (5, 1, (.r 18)), (8, 1, (.r 19))]),
 .o (.bslp 21 10 [(.r 15), (.r 20)]),
 .o (.build 22 [.str .empty, .bool false, .sl [], .sl []] [(0, 1, (.c (.str ⟨#[97]⟩))), (3, 1, (.r 21))]),
 .o (.mov 23 (.r 1)),
 .o (.callf (some 24) (.dy (.r 23)) [(.c (.int .i64 (1)))]),
 .o (.bslp 25 4 [(.r 24)]),
 .o (.build 26 [.int .i64 0, .int .i64 0, .int .i64 0, .int .i64 0, .int .i64 0, .sl [], .str .empty, .int .i64 0, .sl [], .sl []] [(0, 1, (.c (.int .i64 (23)))), (5, 1, (.r 25))]),
 .o (.bslp 27 10 [(.r 26)]),
 .o (.build 28 [.str .empty, .bool false, .sl [], .sl []] [(0, 1, (.c (.str ⟨#[98]⟩))), (3, 1, (.r 27))]),
 .o (.mov 29 (.r 1)),
 .o (.callf (some 30) (.dy (.r 29)) [(.c (.int .i64 (2)))]),
 .o (.bslp 31 4 [(.r 30)]),
 .o (.build 32 [.int .i64 0, .int .i64 0, .int .i64 0, .int .i64 0, .int .i64 0, .sl [], .str .empty, .int .i64 0, .sl [], .sl []] [(0, 1, (.c (.int .i64 (23)))), (5, 1, (.r 31))]),
 .o (.bslp 33 10 [(.r 32)]),
 .o (.build 34 [.str .empty, .bool false, .sl [], .sl []] [(0, 1, (.c (.str ⟨#[99]⟩))), (3, 1, (.r 33))]),
 .o (.bslp 35 4 [(.r 22), (.r 28), (.r 34)]),
 .o (.build 36 [.bool false, .str .empty, .sl [], .sl [], .sl []] [(2, 1, (.r 7)), (4, 1, (.r 35))]),
 .o (.alloc 2 2 [.bool false, .str .empty, .sl [], .sl [], .sl []]),
 .o (.store (.r 2) (.r 36) 5)]) (.frz 2))
 (.seq
 (.ops [.o (.load 37 (.r 2) 5 true),
 .o (.callf (some 38) (.st 8) [(.r 37)]),
 .o (.mov 3 (.r 38))])
 (.seq
 (.ops [.o (.mov 39 (.r 3)),
 .o (.callf (some 40) (.st 19) [(.r 39), (.c (.int .i64 (1)))]),
 .o (.mov 4 (.r 40))])
 (.seq
 (.ops [.o (.mov 41 (.r 3)),
 .o (.callf (some 42) (.st 13) [(.r 41), (.c (.int .i64 (0)))]),
 .o (.bslp 43 1 [(.c (.int .i64 (1)))]),
 .o (.callf (some 44) (.st 20) [(.r 42), (.r 43)]),
 .o (.mov 45 (.r 44)),
 .it (.grp 45 true [.mov 46 (.r 3), .callf (some 47) (.st 15) [(.r 46), (.c (.int .i64 (0)))], .bslp 48 1 [(.c (.int .i64 (1))), (.c (.int .i64 (2)))], .callf (some 49) (.st 20) [(.r 47), (.r 48)]]),
 .o (.pick 50 (.r 45) (.r 49) (.c (.bool false))),
 .o (.mov 51 (.r 50)),
 .it (.grp 51 true [.mov 52 (.r 3), .callf (some 53) (.st 9) [(.r 52), (.c (.int .i64 (1)))], .bslp 54 1 [(.c (.int .i64 (1))), (.c (.int .i64 (2)))], .callf (some 55) (.st 20) [(.r 53), (.r 54)]]),
 .o (.pick 56 (.r 51) (.r 55) (.c (.bool false))),
 .o (.mov 57 (.r 56)),
 .it (.grp 57 true [.mov 58 (.r 3), .callf (some 59) (.st 21) [(.r 58), (.c (.int .i64 (0))), (.c (.int .i64 (0)))], .bslp 60 1 [(.c (.int .i64 (1)))], .callf (some 61) (.st 20) [(.r 59), (.r 60)]]),
 .o (.pick 62 (.r 57) (.r 61) (.c (.bool false))),
 .o (.mov 63 (.r 62)),
 .it (.grp 63 true [.mov 64 (.r 4), .len 65 (.r 64), .bin 66 .eql (.r 65) (.c (.int .i64 (2)))]),
 .o (.pick 67 (.r 63) (.r 66) (.c (.bool false))),
 .o (.mov 68 (.r 67)),
 .it (.grp 68 true [.mov 69 (.r 4), .idx 70 (.r 69) (.c (.int .i64 (0))) 2, .load 71 (.r 70) 2 true, .build 72 [.int .i64 0, .int .i64 0] [(0, 1, (.c (.int .i64 (0)))), (1, 1, (.c (.int .i64 (3))))], .eq 73 false (.strct [.i, .i]) (.r 71) (.r 72)]),
 .o (.pick 74 (.r 68) (.r 73) (.c (.bool false))),
 .o (.mov 75 (.r 74)),
 .it (.grp 75 true [.mov 76 (.r 4), .idx 77 (.r 76) (.c (.int .i64 (1))) 2, .load 78 (.r 77) 2 true, .build 79 [.int .i64 0, .int .i64 0] [(0, 1, (.c (.int .i64 (4)))), (1, 1, (.c (.int .i64 (5))))], .eq 80 false (.strct [.i, .i]) (.r 78) (.r 79)]),
 .o (.pick 81 (.r 75) (.r 80) (.c (.bool false))),
 .o (.mov 82 (.r 81)),
 .it (.grp 82 true [.mov 83 (.r 3), .callf (some 84) (.st 16) [(.r 83), (.c (.int .i64 (0)))], .bin 85 .eql (.r 84) (.c (.int .i64 (2)))]),
 .o (.pick 86 (.r 82) (.r 85) (.c (.bool false))),
 .o (.mov 0 (.r 86))]) .ret))))))
theorem A6_ok : okFun Tryz.prog 6 87 0 A6 [.tmp 0] [] = true := by kernel_rfl
/-- dyehouse/dyehouseref12.Make -/
def A7 : ACode :=
 (.seq
 (.ops [.o (.boxp 1 (.r 0)),
 .o (.alloc 2 2 [.bool false, .str .empty, .sl [], .sl [], .sl []])])
 (.seq
 (.post (.post (.post (.post (.post (.post (.ops [.o (.build 17 [.bool false, .str .empty, .yl 0, .yl 0, .yl 0] [(1, 1, (.c (.str ⟨#[102]⟩)))]),
 .o (.build 18 [.bool false, .str .empty, .yl 0, .yl 0, .yl 0, .yl 0, .yl 0, .yl 0] [(0, 5, (.r 17))]),
 .o (.boxg 19 19 (.r 18)),
 .o (.mov 3 (.r 19))]) (.nilb 19 2 1002 2)) (.nilb 19 3 1003 4)) (.nilb 19 4 1004 4)) (.nilb 19 5 1005 1)) (.nilb 19 6 1006 1)) (.nilb 19 7 1007 1))
 (.seq
 (.post (.ops [.o (.fad 20 (.r 1) 0),
 .o (.load 21 (.r 20) 1 false),
 .o (.conv 22 .i64 (.r 21)),
 .o (.bin 23 .rem (.r 22) (.c (.int .i64 (6)))),
 .o (.bin 24 .add (.c (.int .i64 (1))) (.r 23)),
 .o (.fad 25 (.r 1) 1),
 .o (.load 26 (.r 25) 1 false),
 .o (.conv 27 .i64 (.r 26)),
 .o (.bin 28 .rem (.r 27) (.c (.int .i64 (3)))),
 .o (.bin 29 .add (.c (.int .i64 (1))) (.r 28)),
 .o (.build 30 [.int .i64 0, .int .i64 0] [(0, 1, (.r 24)), (1, 1, (.r 29))]),
 .o (.alloc 4 4 [.int .i64 0, .int .i64 0]),
 .o (.store (.r 4) (.r 30) 2)]) (.frz 4))
 (.seq
 (.seq
 (.ops [.o (.mov 5 (.c (.int .i64 (0))))])
 (.block 0
 (.loop (.pre (.mv [1, 2, 3, 4, 5] [(2, 2), (19, 19), (1002, 1002), (1003, 1003), (1004, 1004), (1005, 1005), (1006, 1006), (1007, 1007)])
 (.seq
 (.seq
 (.ops [.o (.mov 31 (.r 5)),
 .o (.bin 32 .lss (.r 31) (.c (.int .i64 (2))))])
 (.cond (.r 32) .skip (.exit 0)))
 (.seq
 (.block 1
 (.seq
 (.ops [.o (.mov 6 (.c (.int .i64 (0))))])
 (.block 2
 (.loop (.pre (.mv [1, 2, 3, 4, 5, 6] [(2, 2), (19, 19), (1002, 1002), (1003, 1003), (1004, 1004), (1005, 1005), (1006, 1006), (1007, 1007)])
 (.seq
 (.seq
 (.ops [.o (.mov 35 (.r 6)),
 .o (.mov 36 (.r 5)),
 .o (.aix 37 (.r 4) (.r 36) 1 2),
 .o (.load 38 (.r 37) 1 false),
 .o (.bin 39 .lss (.r 35) (.r 38))])
 (.cond (.r 39) .skip (.exit 2)))
 (.seq
 (.block 3
 (.draw [[], [], [], [], [2], [2, 4], [2, 3, 4, 5], [2, 3, 4, 5, 6], [], [8], [], [8, 9, 10], [8, 9, 10, 11], [2, 3, 4, 5, 6, 7, 8, 9, 10, 11, 12], [0], [0, 14], [0, 1, 2, 3, 4, 5, 6, 7, 8, 9, 10, 11, 12, 13, 14, 15], [0, 1, 2, 3, 4, 5, 6, 7, 8, 9, 10, 11, 12, 13, 14, 15, 16]] [.one (.mov 42 (.r 3)),
 .one (.mov 43 (.r 5)),
 .one (.mov 44 (.r 3)),
 .one (.mov 45 (.r 5)),
 .one (.nilc 46 (.r 44)),
 .one (.fad 47 (.r 46) 5),
 .one (.aix 48 (.r 47) (.r 45) 1 2),
 .one (.load 49 (.r 48) 1 false),
 .one (.mov 50 (.r 6)),
 .one (.bin 51 .mul (.c (.int .i64 (2))) (.r 50)),
 .one (.mov 52 (.r 5)),
 .one (.bin 53 .add (.r 51) (.r 52)),
 .one (.bslp 54 1 [(.r 53)]),
 .one (.appd 55 (.r 49) (.r 54) 1 8),
 .one (.nilc 56 (.r 42)),
 .one (.fad 57 (.r 56) 5),
 .one (.aix 58 (.r 57) (.r 43) 1 2),
 .one (.store (.r 58) (.r 55) 1)]))
 (.ops [.o (.mov 40 (.r 6)),
 .o (.bin 41 .add (.r 40) (.c (.int .i64 (1)))),
 .o (.mov 6 (.r 41))]))))))))
 (.ops [.o (.mov 33 (.r 5)),
 .o (.bin 34 .add (.r 33) (.c (.int .i64 (1)))),
 .o (.mov 5 (.r 34))])))))))
 (.seq
 (.seq
 (.ops [.o (.mov 7 (.c (.int .i64 (0))))])
 (.block 4
 (.loop (.pre (.mv [1, 2, 3, 4, 7] [(2, 2), (19, 19), (1002, 1002), (1003, 1003), (1004, 1004), (1005, 1005), (1006, 1006), (1007, 1007)])
 (.seq
 (.seq
 (.ops [.o (.mov 59 (.r 7)),
 .o (.bin 60 .lss (.r 59) (.c (.int .i64 (12))))])
 (.cond (.r 60) .skip (.exit 4)))
 (.seq
 (.block 5
 (.seq
 (.ops [.o (.mov 63 (.r 7)),
 .o (.bin 64 .rem (.r 63) (.c (.int .i64 (2)))),
 .o (.mov 8 (.r 64))])
 (.seq
 (.ops [.o (.mov 65 (.r 7)),
 .o (.bin 66 .quo (.r 65) (.c (.int .i64 (2)))),
 .o (.mov 67 (.r 8)),
 .o (.aix 68 (.r 4) (.r 67) 1 2),
 .o (.load 69 (.r 68) 1 false),
 .o (.bin 70 .lss (.r 66) (.r 69))])
 (.cond (.r 70)
 (.ops [.o (.mov 71 (.r 3)),
 .o (.mov 72 (.r 3)),
 .o (.nilc 73 (.r 72)),
 .o (.fad 74 (.r 73) 0),
 .o (.fad 75 (.r 74) 2),
 .o (.load 76 (.r 75) 1 false),
 .o (.mov 77 (.r 7)),
 .o (.mov 78 (.r 8)),
 .o (.build 79 [.int .i64 0, .int .i64 0] [(0, 1, (.r 77)), (1, 1, (.r 78))]),
 .o (.bslp 80 2 [(.r 79)]),
 .o (.appd 81 (.r 76) (.r 80) 2 16),
 .o (.nilc 82 (.r 71)),
 .o (.fad 83 (.r 82) 0),
 .o (.fad 84 (.r 83) 2),
 .o (.store (.r 84) (.r 81) 1)]) .skip))))
 (.ops [.o (.mov 61 (.r 7)),
 .o (.bin 62 .add (.r 61) (.c (.int .i64 (1)))),
 .o (.mov 7 (.r 62))])))))))
 (.seq
 (.ops [.o (.nilarr 9 9 10)])
 (.seq
 (.seq
 (.ops [.o (.mov 10 (.c (.int .i64 (0))))])
 (.block 6
 (.loop (.pre (.mv [1, 2, 3, 9, 10] [(2, 2), (9, 9), (19, 19), (1002, 1002), (1003, 1003), (1004, 1004), (1005, 1005), (1006, 1006), (1007, 1007)])
 (.seq
 (.seq
 (.ops [.o (.mov 85 (.r 10)),
 .o (.mov 86 (.r 3)),
 .o (.nilc 87 (.r 86)),
 .o (.fad 88 (.r 87) 0),
 .o (.fad 89 (.r 88) 2),
 .o (.load 90 (.r 89) 1 false),
 .o (.len 91 (.r 90)),
 .o (.bin 92 .lss (.r 85) (.r 91))])
 (.cond (.r 92) .skip (.exit 6)))
 (.seq
 (.block 7
 (.seq
 (.ops [.o (.mov 95 (.r 3)),
 .o (.nilc 96 (.r 95)),
 .o (.fad 97 (.r 96) 0),
 .o (.fad 98 (.r 97) 2),
 .o (.load 99 (.r 98) 1 false),
 .o (.mov 100 (.r 10)),
 .o (.idx 101 (.r 99) (.r 100) 2),
 .o (.fad 102 (.r 101) 0),
 .o (.load 103 (.r 102) 1 false),
 .o (.mov 11 (.r 103))])
 (.seq
 (.draw [[], [], [1], [1, 2], [], [4], [4, 5], [4, 5, 6], [4, 5, 6, 7], [4, 5, 6, 7, 8], [4, 5, 6, 7, 8, 9], [1, 2, 3, 4, 5, 6, 7, 8, 9, 10], [0, 1, 2, 3, 4, 5, 6, 7, 8, 9, 10, 11]] [.one (.mov 104 (.r 10)),
 .one (.fad 105 (.r 1) 2),
 .one (.load 106 (.r 105) 1 false),
 .one (.conv 107 .i64 (.r 106)),
 .one (.mov 108 (.r 3)),
 .one (.nilc 109 (.r 108)),
 .one (.fad 110 (.r 109) 0),
 .one (.fad 111 (.r 110) 2),
 .one (.load 112 (.r 111) 1 false),
 .one (.len 113 (.r 112)),
 .one (.bin 114 .add (.r 113) (.c (.int .i64 (1)))),
 .one (.bin 115 .rem (.r 107) (.r 114)),
 .one (.bin 116 .lss (.r 104) (.r 115))])
 (.cond (.r 116)
 (.seq
 (.draw [[], [], [1], [1, 2], [1, 2, 3], [1, 2, 3, 4], [], [6], [6, 7], [1, 2, 3, 4, 5, 6, 7, 8], [0, 1, 2, 3, 4, 5, 6, 7, 8, 9], [0, 1, 2, 3, 4, 5, 6, 7, 8, 9, 10], [0, 1, 2, 3, 4, 5, 6, 7, 8, 9, 10, 11], [0, 1, 2, 3, 4, 5, 6, 7, 8, 9, 10, 11, 12]] [.one (.mov 117 (.r 3)),
 .one (.mov 118 (.r 3)),
 .one (.nilc 119 (.r 118)),
 .one (.fad 120 (.r 119) 0),
 .one (.fad 121 (.r 120) 3),
 .one (.load 122 (.r 121) 1 false),
 .one (.mov 123 (.r 11)),
 .one (.callf (some 124) (.st 22) [(.r 123)]),
 .one (.bslp 125 4 [(.r 124)]),
 .one (.appd 126 (.r 122) (.r 125) 4 32),
 .one (.nilc 127 (.r 117)),
 .one (.fad 128 (.r 127) 0),
 .one (.fad 129 (.r 128) 3),
 .one (.store (.r 129) (.r 126) 1)])
 (.ops [.o (.mov 130 (.r 3)),
 .o (.mov 131 (.r 3)),
 .o (.nilc 132 (.r 131)),
 .o (.fad 133 (.r 132) 7),
 .o (.load 134 (.r 133) 1 false),
 .o (.mov 135 (.r 11)),
 .o (.bslp 136 1 [(.r 135)]),
 .o (.appd 137 (.r 134) (.r 136) 1 8),
 .o (.nilc 138 (.r 130)),
 .o (.fad 139 (.r 138) 7),
 .o (.store (.r 139) (.r 137) 1)]))
 (.seq
 (.ops [.o (.mov 140 (.r 10)),
 .o (.bin 141 .lss (.r 140) (.c (.int .i64 (2)))),
 .o (.mov 142 (.r 141)),
 .it (.grp 142 false [.mov 143 (.r 10), .bin 144 .add (.r 143) (.c (.int .i64 (2))), .mov 145 (.r 3), .nilc 146 (.r 145), .fad 147 (.r 146) 0, .fad 148 (.r 147) 2, .load 149 (.r 148) 1 false, .len 150 (.r 149), .bin 151 .lss (.r 144) (.r 150)]),
 .o (.pick 152 (.r 142) (.c (.bool true)) (.r 151))])
 (.cond (.r 152)
 (.seq
 (.ops [.o (.mov 153 (.r 9)),
 .o (.mov 154 (.r 11)),
 .o (.callf (some 155) (.st 22) [(.r 154)]),
 .o (.mov 156 (.r 11)),
 .o (.bin 157 .mul (.c (.int .i64 (3))) (.r 156)),
 .o (.callf (some 158) (.st 23) [(.r 157)]),
 .o (.bslp 159 4 [(.r 158)]),
 .o (.build 160 [.int .i64 0, .int .i64 0, .int .i64 0, .int .i64 0, .int .i64 0, .sl [], .str .empty, .int .i64 0, .sl [], .sl []] [(0, 1, (.c (.int .i64 (16)))), (1, 4, (.r 155)), (5, 1, (.r 159))]),
 .o (.bslp 161 10 [(.r 160)]),
 .o (.appd 162 (.r 153) (.r 161) 10 136),
 .o (.mov 9 (.r 162))])
 (.ops [.o (.mov 163 (.r 3)),
 .o (.mov 164 (.r 3)),
 .o (.nilc 165 (.r 164)),
 .o (.fad 166 (.r 165) 7),
 .o (.load 167 (.r 166) 1 false),
 .o (.mov 168 (.r 11)),
 .o (.bslp 169 1 [(.r 168)]),
 .o (.appd 170 (.r 167) (.r 169) 1 8),
 .o (.nilc 171 (.r 163)),
 .o (.fad 172 (.r 171) 7),
 .o (.store (.r 172) (.r 170) 1)])) .skip))))))
 (.ops [.o (.mov 93 (.r 10)),
 .o (.bin 94 .add (.r 93) (.c (.int .i64 (1)))),
 .o (.mov 10 (.r 94))])))))))
 (.seq
 (.pre (.frz 1002) (.pre (.frz 1003) (.pre (.frz 1005) (.pre (.frz 1006) (.post (.ops [.o (.bslo 173 173 1 []),
 .o (.mov 174 (.r 3)),
 .o (.nilc 175 (.r 174)),
 .o (.fad 176 (.r 175) 7),
 .o (.load 177 (.r 176) 1 false),
 .o (.appd 178 (.r 173) (.r 177) 1 8),
 .o (.mov 12 (.r 178))]) (.frz 173))))))
 (.seq
 (.ops [.o (.fad 179 (.r 1) 3),
 .o (.load 180 (.r 179) 1 false),
 .o (.len 181 (.r 180)),
 .o (.mxn 182 true (.r 181) (.c (.int .i64 (1)))),
 .o (.mov 13 (.r 182))])
 (.seq
 (.seq
 (.ops [.o (.mov 14 (.c (.int .i64 (0))))])
 (.block 8
 (.loop (.pre (.mv [1, 2, 3, 9, 12, 13, 14] [(2, 2), (9, 9), (19, 19), (1004, 1004), (1007, 1007)])
 (.seq
 (.seq
 (.ops [.o (.mov 183 (.r 14)),
 .o (.mov 184 (.r 13)),
 .o (.bin 185 .lss (.r 183) (.r 184))])
 (.cond (.r 185) .skip (.exit 8)))
 (.seq
 (.block 9
 (.seq
 (.ops [.o (.build 188 [.sl [], .int .u8 0, .int .u8 0, .int .u8 0, .int .u8 0] []),
 .o (.alloc 15 15 [.sl [], .int .u8 0, .int .u8 0, .int .u8 0, .int .u8 0]),
 .o (.store (.r 15) (.r 188) 5)])
 (.join
 (.seq
 (.ops [.o (.mov 189 (.r 14)),
 .o (.fad 190 (.r 1) 3),
 .o (.load 191 (.r 190) 1 false),
 .o (.len 192 (.r 191)),
 .o (.bin 193 .lss (.r 189) (.r 192))])
 (.cond (.r 193)
 (.ops [.o (.fad 194 (.r 1) 3),
 .o (.load 195 (.r 194) 1 false),
 .o (.mov 196 (.r 14)),
 .o (.idx 197 (.r 195) (.r 196) 5),
 .o (.load 198 (.r 197) 5 true),
 .o (.store (.r 15) (.r 198) 5)]) .skip))
 (.pre (.mv [1, 2, 3, 9, 12, 13, 14, 15] [(2, 2), (9, 9), (15, 15), (19, 19), (1004, 1004), (1007, 1007)])
 (.seq
 (.ops [.o (.mov 199 (.r 3)),
 .o (.bslo 200 200 1 []),
 .o (.mov 201 (.r 12)),
 .o (.appd 202 (.r 200) (.r 201) 1 8),
 .o (.nilc 203 (.r 199)),
 .o (.fad 204 (.r 203) 7),
 .o (.store (.r 204) (.r 202) 1)])
 (.seq
 (.seq
 (.ops [.o (.mov 16 (.c (.int .i64 (0))))])
 (.block 10
 (.loop (.pre (.mv [1, 2, 3, 9, 12, 13, 14, 15, 16] [(2, 2), (9, 9), (15, 15), (19, 19), (1004, 1004), (200, 200)])
 (.seq
 (.seq
 (.ops [.o (.mov 205 (.r 16)),
 .o (.fad 206 (.r 15) 0),
 .o (.load 207 (.r 206) 1 false),
 .o (.len 208 (.r 207)),
 .o (.bin 209 .lss (.r 205) (.r 208))])
 (.cond (.r 209) .skip (.exit 10)))
 (.seq
 (.block 11
 (.ops [.o (.mov 212 (.r 9)),
 .o (.mov 213 (.r 3)),
 .o (.fad 214 (.r 15) 0),
 .o (.load 215 (.r 214) 1 false),
 .o (.mov 216 (.r 16)),
 .o (.idx 217 (.r 215) (.r 216) 5),
 .o (.load 218 (.r 217) 5 true),
 .o (.callo (some 219) (.st 24) [(.r 213), (.r 218)] [19, 1004, 200] []),
 .o (.bslp 220 10 [(.r 219)]),
 .o (.appd 221 (.r 212) (.r 220) 10 136),
 .o (.mov 9 (.r 221))]))
 (.ops [.o (.mov 210 (.r 16)),
 .o (.bin 211 .add (.r 210) (.c (.int .i64 (1)))),
 .o (.mov 16 (.r 211))])))))))
 (.seq
 (.ops [.o (.mov 222 (.r 9)),
 .o (.mov 223 (.r 3)),
 .o (.load 224 (.r 15) 5 true),
 .o (.mov 225 (.r 14)),
 .o (.mov 226 (.r 13)),
 .o (.callo (some 227) (.st 25) [(.r 223), (.r 224), (.r 225), (.r 226)] [19, 1004, 200] []),
 .o (.bslp 228 10 [(.r 227)]),
 .o (.appd 229 (.r 222) (.r 228) 10 136),
 .o (.mov 9 (.r 229))])
 (.seq
 (.pre (.frz 9) (.draw [[], [], [1], [1, 2], [1, 2, 3], [1, 2, 3, 4], [], [6], [], [6, 7, 8], [6, 7, 8, 9], [1, 2, 3, 4, 5, 6, 7, 8, 9, 10], [0, 1, 2, 3, 4, 5, 6, 7, 8, 9, 10, 11], [0, 1, 2, 3, 4, 5, 6, 7, 8, 9, 10, 11, 12], [0, 1, 2, 3, 4, 5, 6, 7, 8, 9, 10, 11, 12, 13], [0, 1, 2, 3, 4, 5, 6, 7, 8, 9, 10, 11, 12, 13, 14]] [.one (.mov 230 (.r 3)),
 .one (.mov 231 (.r 3)),
 .one (.nilc 232 (.r 231)),
 .one (.fad 233 (.r 232) 0),
 .one (.fad 234 (.r 233) 4),
 .one (.load 235 (.r 234) 1 false),
 .one (.mov 236 (.r 14)),
 .one (.callf (some 237) (.st 26) [(.r 236)]),
 .one (.mov 238 (.r 9)),
 .one (.build 239 [.str .empty, .bool false, .sl [], .sl []] [(0, 1, (.r 237)), (3, 1, (.r 238))]),
 .one (.bslp 240 4 [(.r 239)]),
 .one (.appd 241 (.r 235) (.r 240) 4 72),
 .one (.nilc 242 (.r 230)),
 .one (.fad 243 (.r 242) 0),
 .one (.fad 244 (.r 243) 4),
 .one (.store (.r 244) (.r 241) 1)]))
 (.post (.ops [.o (.nilarr 9 9 10)]) (.mv [1, 2, 3, 9, 12, 13, 14] [(2, 2), (9, 9), (19, 19), (1004, 1004), (200, 1007)]))))))))))
 (.ops [.o (.mov 186 (.r 14)),
 .o (.bin 187 .add (.r 186) (.c (.int .i64 (1)))),
 .o (.mov 14 (.r 187))])))))))
 (.seq
 (.pre (.frz 1004) (.ops [.o (.mov 245 (.r 3)),
 .o (.nilc 246 (.r 245)),
 .o (.fad 247 (.r 246) 0),
 .o (.load 248 (.r 247) 5 true),
 .o (.store (.r 2) (.r 248) 5)])) .ret)))))))))))
theorem A7_ok : okFun Tryz.prog 7 249 0 A7 [.cell 2 5 true] [] = true := by kernel_rfl
/-- dyehouse/live.New -/
def A8 : ACode :=
 (.seq
 (.ops [.o (.boxp 1 (.r 0)),
 .o (.mov 2 (.c (.nilp)))])
 (.seq
 (.post (.post (.post (.post (.post (.draw [[], [], [1], [0, 1, 2], [0, 1, 2, 3], [], [0, 1, 2, 3, 4, 5]] [.one (.load 8 (.r 1) 5 true),
 .one (.load 9 (.r 1) 5 true),
 .one (.callf (some 10) (.st 27) [(.r 9)]),
 .one (.buildm 11 [.bool false, .str .empty, .sl [], .sl [], .sl [], .nilp, .yl 0, .yl 0, .yl 0] [(0, 5, (.r 8)), (5, 1, (.r 10))]),
 .one (.boxg 12 12 (.r 11)),
 .one (.allocm 3 3 [.nilp]),
 .one (.store (.r 3) (.r 12) 1)]) (.nilb 12 6 1012 1)) (.nilb 12 7 1013 1)) (.rar 1013)) (.nilb 12 8 1014 1)) (.rar 1014))
 (.seq
 (.seq
 (.ops [.o (.fad 13 (.r 1) 2),
 .o (.load 14 (.r 13) 1 false),
 .o (.len 15 (.r 14)),
 .o (.mov 16 (.c (.int .i64 (0))))])
 (.block 0
 (.loop (.pre (.mv [1, 3, 14, 15, 16] [(3, 3), (12, 12), (1012, 1012), (1013, 1013), (1014, 1014)])
 (.seq
 (.ops [.o (.bin 17 .lss (.r 16) (.r 15))])
 (.seq
 (.cond (.r 17) .skip (.exit 0))
 (.seq
 (.block 1
 (.seq
 (.post (.ops [.o (.idx 18 (.r 14) (.r 16) 2),
 .o (.load 19 (.r 18) 2 true),
 .o (.alloc 5 5 [.int .i64 0, .int .i64 0]),
 .o (.store (.r 5) (.r 19) 2)]) (.frz 5))
 (.draw [[], [], [1], [1, 2], [1, 2, 3], [], [5], [5, 6], [1, 2, 3, 4, 5, 6, 7], [0, 1, 2, 3, 4, 5, 6, 7, 8], [0, 1, 2, 3, 4, 5, 6, 7, 8, 9], [0, 1, 2, 3, 4, 5, 6, 7, 8, 9, 10]] [.one (.load 20 (.r 3) 1 false),
 .one (.load 21 (.r 3) 1 false),
 .one (.nilc 22 (.r 21)),
 .one (.fad 23 (.r 22) 6),
 .one (.load 24 (.r 23) 1 false),
 .one (.fad 25 (.r 5) 0),
 .one (.load 26 (.r 25) 1 false),
 .one (.bslp 27 1 [(.r 26)]),
 .one (.appd 28 (.r 24) (.r 27) 1 8),
 .one (.nilc 29 (.r 20)),
 .one (.fad 30 (.r 29) 6),
 .one (.store (.r 30) (.r 28) 1)])))
 (.ops [.o (.bin 31 .add (.r 16) (.c (.int .i64 (1)))),
 .o (.mov 16 (.r 31))]))))))))
 (.seq
 (.ops [.o (.load 32 (.r 3) 1 false),
 .o (.nilc 33 (.r 32)),
 .o (.fad 34 (.r 33) 6),
 .o (.load 35 (.r 34) 1 false),
 .o (.callo (some 36) (.st 28) [(.r 35)] [1012] [])])
 (.seq
 (.draw [[], [], [1], [1, 2], [1, 2, 3], [1, 2, 3, 4], [0, 1, 2, 3, 4, 5], [0, 1, 2, 3, 4, 5, 6], [0, 1, 2, 3, 4, 5, 6, 7]] [.one (.load 37 (.r 3) 1 false),
 .one (.load 38 (.r 3) 1 false),
 .one (.nilc 39 (.r 38)),
 .one (.fad 40 (.r 39) 6),
 .one (.load 41 (.r 40) 1 false),
 .one (.callo (some 42) (.st 29) [(.r 41)] [1012] []),
 .one (.nilc 43 (.r 37)),
 .one (.fad 44 (.r 43) 6),
 .one (.store (.r 44) (.r 42) 1)])
 (.seq
 (.seq
 (.ops [.o (.fad 45 (.r 1) 4),
 .o (.load 46 (.r 45) 1 false),
 .o (.len 47 (.r 46)),
 .o (.mov 48 (.c (.int .i64 (0))))])
 (.block 2
 (.loop (.pre (.dynB 0)
 (.seq
 (.ops [.o (.bin 49 .lss (.r 48) (.r 47))])
 (.seq
 (.cond (.r 49) .skip (.exit 2))
 (.seq
 (.block 3
 (.seq
 (.post (.draw [[], [], [1], [1, 2], [1, 2, 3], [], [5], [5, 6], [5, 6, 7], [5, 6, 7, 8], [5, 6, 7, 8, 9], [5, 6, 7, 8, 9, 10], [1, 2, 3, 4, 5, 6, 7, 8, 9, 10, 11], [0, 1, 2, 3, 4, 5, 6, 7, 8, 9, 10, 11, 12], [0, 1, 2, 3, 4, 5, 6, 7, 8, 9, 10, 11, 12, 13], [0, 1, 2, 3, 4, 5, 6, 7, 8, 9, 10, 11, 12, 13, 14]] [.one (.load 50 (.r 3) 1 false),
 .one (.load 51 (.r 3) 1 false),
 .one (.nilc 52 (.r 51)),
 .one (.fad 53 (.r 52) 7),
 .one (.load 54 (.r 53) 1 false),
 .one (.load 55 (.r 3) 1 false),
 .one (.nilc 56 (.r 55)),
 .one (.fad 57 (.r 56) 6),
 .one (.load 58 (.r 57) 1 false),
 .one (.len 59 (.r 58)),
 .one (.callo (some 60) (.st 30) [(.r 59)] [] [60, 1060]),
 .one (.bslr 61 2060 (.r 60)),
 .one (.rapp 62 (.r 54) (.r 61) 8),
 .one (.nilc 63 (.r 50)),
 .one (.fad 64 (.r 63) 7),
 .one (.store (.r 64) (.r 62) 1)]) (.dynB 0))
 (.post (.draw [[], [], [1], [1, 2], [1, 2, 3], [], [5], [5, 6], [5, 6, 7], [5, 6, 7, 8], [5, 6, 7, 8, 9], [5, 6, 7, 8, 9, 10], [1, 2, 3, 4, 5, 6, 7, 8, 9, 10, 11], [0, 1, 2, 3, 4, 5, 6, 7, 8, 9, 10, 11, 12], [0, 1, 2, 3, 4, 5, 6, 7, 8, 9, 10, 11, 12, 13], [0, 1, 2, 3, 4, 5, 6, 7, 8, 9, 10, 11, 12, 13, 14]] [.one (.load 65 (.r 3) 1 false),
 .one (.load 66 (.r 3) 1 false),
 .one (.nilc 67 (.r 66)),
 .one (.fad 68 (.r 67) 8),
 .one (.load 69 (.r 68) 1 false),
 .one (.load 70 (.r 3) 1 false),
 .one (.nilc 71 (.r 70)),
 .one (.fad 72 (.r 71) 6),
 .one (.load 73 (.r 72) 1 false),
 .one (.len 74 (.r 73)),
 .one (.callo (some 75) (.st 30) [(.r 74)] [] [75, 1075]),
 .one (.bslr 76 2075 (.r 75)),
 .one (.rapp 77 (.r 69) (.r 76) 8),
 .one (.nilc 78 (.r 65)),
 .one (.fad 79 (.r 78) 8),
 .one (.store (.r 79) (.r 77) 1)]) (.dynB 0))))
 (.ops [.o (.bin 80 .add (.r 48) (.c (.int .i64 (1)))),
 .o (.mov 48 (.r 80))]))))))))
 (.seq
 (.post (.ops [.o (.load 81 (.r 1) 5 true),
 .o (.callf (some 82) (.st 31) [(.r 81)]),
 .o (.alloc 6 6 [.nilp]),
 .o (.store (.r 6) (.r 82) 1)]) (.frz 6))
 (.seq
 (.seq
 (.ops [.o (.alloc 7 7 [.bool false]),
 .o (.store (.r 7) (.c (.bool true)) 1)])
 (.block 4
 (.loop (.pre (.dynB 0)
 (.seq
 (.seq
 (.ops [.o (.load 83 (.r 7) 1 false)])
 (.cond (.r 83) .skip (.exit 4)))
 (.seq
 (.block 5
 (.seq
 (.ops [.o (.store (.r 7) (.c (.bool false)) 1)])
 (.ops [.o (.fad 84 (.r 1) 4),
 .o (.load 85 (.r 84) 1 false),
 .o (.mkfn 86 33 [(.r 6), (.r 3), (.r 7)]),
 .callg (some 87) (.st 32) [(.r 85), (.r 86)]])))
 (.seq
 (.post (.ops [.o (.load 88 (.r 7) 1 false)]) (.dynB 0))
 (.ops [.o (.alloc 7 7 [.bool false]),
 .o (.store (.r 7) (.r 88) 1)]))))))))
 (.seq
 (.post (.ops [.o (.load 89 (.r 3) 1 false),
 .o (.mov 2 (.r 89))]) (.dynB 0)) .ret)))))))))
theorem A8_ok : okFun Tryz.prog 8 90 0 A8 [.tmp 2] [] = true := by kernel_rfl
/-- (*dyehouse/live.Live).Present -/
def A9 : ACode :=
 (.seq
 (.ops [.o (.mov 4 (.c (.sl [])))])
 (.seq
 (.seq
 (.ops [.o (.mov 6 (.r 0)),
 .o (.eq 7 false .nil (.r 6) (.c (.nilp)))])
 (.cond (.r 7)
 (.seq
 (.ops [.o (.mov 4 (.c (.sl [])))]) .ret) .skip))
 (.seq
 (.ops [.o (.mov 8 (.r 0)),
 .o (.mov 9 (.r 1)),
 .o (.callf (some 10) (.st 37) [(.r 8), (.r 9)]),
 .o (.mov 5 (.r 10))])
 (.seq
 (.seq
 (.ops [.o (.mov 11 (.r 5)),
 .o (.eq 12 false .nil (.r 11) (.c (.nilp)))])
 (.cond (.r 12)
 (.seq
 (.ops [.o (.mov 4 (.c (.sl [])))]) .ret) .skip))
 (.seq
 (.post (.ops [.o (.mov 13 (.r 0)),
 .o (.mov 14 (.r 5)),
 .o (.callo (some 15) (.st 38) [(.r 13), (.r 14)] [] [15]),
 .o (.mov 4 (.r 15))]) (.frz 15)) .ret)))))
theorem A9_ok : okFun Tryz.prog 9 16 0 A9 [.tmp 4] [] = true := by kernel_rfl
/-- dyehouse/dyehouseref12.Uses -/
def A10 : ACode :=
 (.seq
 (.ops [.o (.boxp 1 (.r 0)),
 .o (.mov 2 (.c (.sl [])))])
 (.seq
 (.ops [.o (.nilarr 3 3 1)])
 (.seq
 (.seq
 (.ops [.o (.mov 4 (.c (.int .i64 (0))))])
 (.block 0
 (.loop (.pre (.mv [1, 3, 4] [(3, 3)])
 (.seq
 (.seq
 (.ops [.o (.mov 7 (.r 4)),
 .o (.fad 8 (.r 1) 5),
 .o (.load 9 (.r 8) 1 false),
 .o (.len 10 (.r 9)),
 .o (.bin 11 .lss (.r 7) (.r 10))])
 (.cond (.r 11) .skip (.exit 0)))
 (.seq
 (.block 1
 (.seq
 (.ops [.o (.fad 15 (.r 1) 5),
 .o (.load 16 (.r 15) 1 false),
 .o (.mov 17 (.r 4)),
 .o (.idx 18 (.r 16) (.r 17) 4),
 .o (.load 19 (.r 18) 4 true),
 .o (.callf (some 20) (.st 39) [(.r 19)]),
 .o (.mov 14 (.r 20)),
 .o (.ext 21 (.r 14) 0),
 .o (.ext 22 (.r 14) 1),
 .o (.mov 5 (.r 21)),
 .o (.mov 6 (.r 22))])
 (.seq
 (.ops [.o (.mov 23 (.r 6)),
 .o (.mov 24 (.r 23)),
 .it (.grp 24 true [.mov 25 (.r 3), .mov 26 (.r 5), .callb (some 27) (.st 11) [(.r 25), (.r 26)], .un 28 .not (.r 27)]),
 .o (.pick 29 (.r 24) (.r 28) (.c (.bool false)))])
 (.cond (.r 29)
 (.ops [.o (.mov 30 (.r 3)),
 .o (.mov 31 (.r 5)),
 .o (.bslp 32 1 [(.r 31)]),
 .o (.appd 33 (.r 30) (.r 32) 1 8),
 .o (.mov 3 (.r 33))]) .skip))))
 (.ops [.o (.mov 12 (.r 4)),
 .o (.bin 13 .add (.r 12) (.c (.int .i64 (1)))),
 .o (.mov 4 (.r 13))])))))))
 (.seq
 (.post (.ops [.o (.mov 34 (.r 3)),
 .o (.mov 2 (.r 34))]) (.frz 3)) .ret))))
theorem A10_ok : okFun Tryz.prog 10 35 0 A10 [.tmp 2] [] = true := by kernel_rfl
/-- dyehouse/dyehouseref12.In -/
def A11 : ACode :=
 (.seq
 (.ops [.o (.mov 4 (.c (.bool false)))])
 (.seq
 (.seq
 (.ops [.o (.mov 5 (.c (.int .i64 (0))))])
 (.block 0
 (.loop (.pre (.mv [0, 1, 5] [])
 (.seq
 (.seq
 (.ops [.o (.mov 6 (.r 5)),
 .o (.mov 7 (.r 0)),
 .o (.len 8 (.r 7)),
 .o (.bin 9 .lss (.r 6) (.r 8))])
 (.cond (.r 9) .skip (.exit 0)))
 (.seq
 (.block 1
 (.seq
 (.ops [.o (.mov 12 (.r 0)),
 .o (.mov 13 (.r 5)),
 .o (.idx 14 (.r 12) (.r 13) 1),
 .o (.load 15 (.r 14) 1 false),
 .o (.mov 16 (.r 1)),
 .o (.bin 17 .eql (.r 15) (.r 16))])
 (.cond (.r 17)
 (.seq
 (.ops [.o (.mov 4 (.c (.bool true)))]) .ret) .skip)))
 (.ops [.o (.mov 10 (.r 5)),
 .o (.bin 11 .add (.r 10) (.c (.int .i64 (1)))),
 .o (.mov 5 (.r 11))])))))))
 (.seq
 (.ops [.o (.mov 4 (.c (.bool false)))]) .ret)))
theorem A11_ok : okFun Tryz.prog 11 18 0 A11 [.tmp 4] [] = true := by kernel_rfl
/-- dyehouse/dyehouseref12.Class -/
def A12 : ACode :=
 (.seq
 (.ops [.o (.boxp 2 (.r 0)),
 .o (.mov 4 (.c (.int .i64 (0))))])
 (.seq
 (.seq
 (.ops [.o (.mov 5 (.c (.int .i64 (0))))])
 (.block 0
 (.loop (.pre (.mv [1, 2, 5] [])
 (.seq
 (.seq
 (.ops [.o (.mov 6 (.r 5)),
 .o (.fad 7 (.r 2) 2),
 .o (.load 8 (.r 7) 1 false),
 .o (.len 9 (.r 8)),
 .o (.bin 10 .lss (.r 6) (.r 9))])
 (.cond (.r 10) .skip (.exit 0)))
 (.seq
 (.block 1
 (.seq
 (.ops [.o (.fad 13 (.r 2) 2),
 .o (.load 14 (.r 13) 1 false),
 .o (.mov 15 (.r 5)),
 .o (.idx 16 (.r 14) (.r 15) 2),
 .o (.fad 17 (.r 16) 0),
 .o (.load 18 (.r 17) 1 false),
 .o (.mov 19 (.r 1)),
 .o (.bin 20 .eql (.r 18) (.r 19))])
 (.cond (.r 20)
 (.seq
 (.ops [.o (.fad 21 (.r 2) 2),
 .o (.load 22 (.r 21) 1 false),
 .o (.mov 23 (.r 5)),
 .o (.idx 24 (.r 22) (.r 23) 2),
 .o (.fad 25 (.r 24) 1),
 .o (.load 26 (.r 25) 1 false),
 .o (.mov 4 (.r 26))]) .ret) .skip)))
 (.ops [.o (.mov 11 (.r 5)),
 .o (.bin 12 .add (.r 11) (.c (.int .i64 (1)))),
 .o (.mov 5 (.r 12))])))))))
 (.seq
 (.ops [.o (.mov 4 (.c (.int .i64 (-1))))]) .ret)))
theorem A12_ok : okFun Tryz.prog 12 27 0 A12 [.tmp 4] [] = true := by kernel_rfl
/-- (*dyehouse/live.Live).In -/
def A13 : ACode :=
 (.seq
 (.ops [.o (.mov 4 (.c (.sl [])))])
 (.seq
 (.seq
 (.ops [.o (.mov 5 (.r 0)),
 .o (.mov 6 (.r 1)),
 .o (.callf (some 7) (.st 40) [(.r 5), (.r 6)]),
 .o (.un 8 .not (.r 7))])
 (.cond (.r 8)
 (.seq
 (.ops [.o (.mov 4 (.c (.sl [])))]) .ret) .skip))
 (.seq
 (.post (.ops [.o (.mov 9 (.r 0)),
 .o (.mov 10 (.r 0)),
 .o (.nilc 11 (.r 10)),
 .o (.fad 12 (.r 11) 7),
 .o (.load 13 (.r 12) 1 false),
 .o (.mov 14 (.r 1)),
 .o (.idx 15 (.r 13) (.r 14) 1),
 .o (.load 16 (.r 15) 1 false),
 .o (.callo (some 17) (.st 38) [(.r 9), (.r 16)] [] [17]),
 .o (.mov 4 (.r 17))]) (.frz 17)) .ret)))
theorem A13_ok : okFun Tryz.prog 13 18 0 A13 [.tmp 4] [] = true := by kernel_rfl
/-- dyehouse/dyehouseref12.Find -/
def A14 : ACode :=
 (.seq
 (.ops [.o (.boxp 2 (.r 0)),
 .o (.mov 4 (.c (.int .i64 (0))))])
 (.seq
 (.seq
 (.ops [.o (.mov 5 (.c (.int .i64 (0))))])
 (.block 0
 (.loop (.pre (.mv [1, 2, 5] [])
 (.seq
 (.seq
 (.ops [.o (.mov 6 (.r 5)),
 .o (.fad 7 (.r 2) 4),
 .o (.load 8 (.r 7) 1 false),
 .o (.len 9 (.r 8)),
 .o (.bin 10 .lss (.r 6) (.r 9))])
 (.cond (.r 10) .skip (.exit 0)))
 (.seq
 (.block 1
 (.seq
 (.ops [.o (.fad 13 (.r 2) 4),
 .o (.load 14 (.r 13) 1 false),
 .o (.mov 15 (.r 5)),
 .o (.idx 16 (.r 14) (.r 15) 4),
 .o (.fad 17 (.r 16) 0),
 .o (.load 18 (.r 17) 1 false),
 .o (.mov 19 (.r 1)),
 .o (.bin 20 .eql (.r 18) (.r 19))])
 (.cond (.r 20)
 (.seq
 (.ops [.o (.mov 21 (.r 5)),
 .o (.mov 4 (.r 21))]) .ret) .skip)))
 (.ops [.o (.mov 11 (.r 5)),
 .o (.bin 12 .add (.r 11) (.c (.int .i64 (1)))),
 .o (.mov 5 (.r 12))])))))))
 (.seq
 (.ops [.o (.mov 4 (.c (.int .i64 (-1))))]) .ret)))
theorem A14_ok : okFun Tryz.prog 14 22 0 A14 [.tmp 4] [] = true := by kernel_rfl
/-- (*dyehouse/live.Live).Out -/
def A15 : ACode :=
 (.seq
 (.ops [.o (.mov 4 (.c (.sl [])))])
 (.seq
 (.seq
 (.ops [.o (.mov 5 (.r 0)),
 .o (.mov 6 (.r 1)),
 .o (.callf (some 7) (.st 40) [(.r 5), (.r 6)]),
 .o (.un 8 .not (.r 7))])
 (.cond (.r 8)
 (.seq
 (.ops [.o (.mov 4 (.c (.sl [])))]) .ret) .skip))
 (.seq
 (.post (.ops [.o (.mov 9 (.r 0)),
 .o (.mov 10 (.r 0)),
 .o (.nilc 11 (.r 10)),
 .o (.fad 12 (.r 11) 8),
 .o (.load 13 (.r 12) 1 false),
 .o (.mov 14 (.r 1)),
 .o (.idx 15 (.r 13) (.r 14) 1),
 .o (.load 16 (.r 15) 1 false),
 .o (.callo (some 17) (.st 38) [(.r 9), (.r 16)] [] [17]),
 .o (.mov 4 (.r 17))]) (.frz 17)) .ret)))
theorem A15_ok : okFun Tryz.prog 15 18 0 A15 [.tmp 4] [] = true := by kernel_rfl
/-- (*dyehouse/live.Live).Most -/
def A16 : ACode :=
 (.seq
 (.ops [.o (.mov 4 (.c (.int .i64 (0))))])
 (.seq
 (.seq
 (.ops [.o (.mov 12 (.r 0)),
 .o (.eq 13 false .nil (.r 12) (.c (.nilp)))])
 (.cond (.r 13)
 (.seq
 (.ops [.o (.mov 4 (.c (.int .i64 (0))))]) .ret) .skip))
 (.seq
 (.ops [.o (.mov 5 (.c (.int .i64 (0))))])
 (.seq
 (.seq
 (.ops [.o (.mov 14 (.r 0)),
 .o (.nilc 15 (.r 14)),
 .o (.fad 16 (.r 15) 5),
 .o (.load 17 (.r 16) 1 false),
 .o (.callf (some 18) (.st 41) [(.r 17)]),
 .o (.bin 19 .mul (.c (.int .i64 (2))) (.r 18)),
 .o (.mov 20 (.c (.int .i64 (0))))])
 (.block 0
 (.loop (.pre (.mv [0, 1, 5, 19, 20] [])
 (.seq
 (.ops [.o (.bin 21 .lss (.r 20) (.r 19))])
 (.seq
 (.cond (.r 21) .skip (.exit 0))
 (.seq
 (.block 1
 (.seq
 (.ops [.o (.mov 22 (.r 20)),
 .o (.mov 6 (.r 22))])
 (.seq
 (.ops [.o (.mov 7 (.c (.int .i64 (0))))])
 (.seq
 (.seq
 (.ops [.o (.mov 23 (.r 0)),
 .o (.mov 24 (.r 6)),
 .o (.callf (some 25) (.st 9) [(.r 23), (.r 24)]),
 .o (.len 26 (.r 25)),
 .o (.mov 27 (.c (.int .i64 (0))))])
 (.block 2
 (.loop (.pre (.mv [0, 1, 5, 7, 19, 20, 25, 26, 27] [])
 (.seq
 (.ops [.o (.bin 28 .lss (.r 27) (.r 26))])
 (.seq
 (.cond (.r 28) .skip (.exit 2))
 (.seq
 (.block 3
 (.seq
 (.ops [.o (.idx 29 (.r 25) (.r 27) 1),
 .o (.load 30 (.r 29) 1 false),
 .o (.mov 9 (.r 30))])
 (.seq
 (.ops [.o (.mov 32 (.r 0)),
 .o (.nilc 33 (.r 32)),
 .o (.fad 34 (.r 33) 0),
 .o (.load 35 (.r 34) 5 true),
 .o (.mov 36 (.r 9)),
 .o (.callf (some 37) (.st 42) [(.r 35), (.r 36)]),
 .o (.mov 31 (.r 37)),
 .o (.ext 38 (.r 31) 0),
 .o (.ext 39 (.r 31) 1),
 .o (.mov 10 (.r 38)),
 .o (.mov 11 (.r 39))])
 (.seq
 (.ops [.o (.mov 40 (.r 10)),
 .o (.mov 41 (.r 1)),
 .o (.bin 42 .eql (.r 40) (.r 41))])
 (.cond (.r 42)
 (.ops [.o (.mov 43 (.r 7)),
 .o (.bin 44 .add (.r 43) (.c (.int .i64 (1)))),
 .o (.mov 7 (.r 44))]) .skip)))))
 (.ops [.o (.bin 45 .add (.r 27) (.c (.int .i64 (1)))),
 .o (.mov 27 (.r 45))]))))))))
 (.ops [.o (.mov 46 (.r 5)),
 .o (.mov 47 (.r 7)),
 .o (.mxn 48 true (.r 46) (.r 47)),
 .o (.mov 5 (.r 48))])))))
 (.ops [.o (.bin 49 .add (.r 20) (.c (.int .i64 (1)))),
 .o (.mov 20 (.r 49))]))))))))
 (.seq
 (.ops [.o (.mov 50 (.r 5)),
 .o (.mov 4 (.r 50))]) .ret)))))
theorem A16_ok : okFun Tryz.prog 16 51 0 A16 [.tmp 4] [] = true := by kernel_rfl
/-- dyehouse/dyehouseref24.First -/
def A17 : ACode :=
 (.seq
 (.ops [.o (.boxp 2 (.r 0)),
 .o (.mov 4 (.c (.int .i64 (0))))])
 (.seq
 (.ops [.o (.mov 5 (.c (.int .i64 (0))))])
 (.seq
 (.seq
 (.ops [.o (.mov 6 (.c (.int .i64 (0))))])
 (.block 0
 (.loop (.pre (.mv [1, 2, 5, 6] [])
 (.seq
 (.seq
 (.ops [.o (.mov 7 (.r 6)),
 .o (.mov 8 (.r 1)),
 .o (.bin 9 .lss (.r 7) (.r 8))])
 (.cond (.r 9) .skip (.exit 0)))
 (.seq
 (.block 1
 (.ops [.o (.mov 12 (.r 5)),
 .o (.fad 13 (.r 2) 4),
 .o (.load 14 (.r 13) 1 false),
 .o (.mov 15 (.r 6)),
 .o (.idx 16 (.r 14) (.r 15) 4),
 .o (.fad 17 (.r 16) 3),
 .o (.load 18 (.r 17) 1 false),
 .o (.len 19 (.r 18)),
 .o (.bin 20 .add (.r 12) (.r 19)),
 .o (.mov 5 (.r 20))]))
 (.ops [.o (.mov 10 (.r 6)),
 .o (.bin 11 .add (.r 10) (.c (.int .i64 (1)))),
 .o (.mov 6 (.r 11))])))))))
 (.seq
 (.ops [.o (.mov 21 (.r 5)),
 .o (.mov 4 (.r 21))]) .ret))))
theorem A17_ok : okFun Tryz.prog 17 22 0 A17 [.tmp 4] [] = true := by kernel_rfl
/-- dyehouse/dyehouselaw25.works$1 -/
def A18 : ACode :=
 (.seq
 (.ops [.o (.alloc 2 2 [.int .i64 0, .int .i64 0, .int .i64 0, .int .i64 0])])
 (.seq
 (.ops [.o (.mov 3 (.r 0)),
 .o (.build 4 [.int .i64 0, .int .i64 0, .int .i64 0, .int .i64 0] [(0, 1, (.c (.int .i64 (1)))), (2, 1, (.r 3))]),
 .o (.store (.r 2) (.r 4) 4)]) .ret))
theorem A18_ok : okFun Tryz.prog 18 5 0 A18 [.cell 2 4 true] [] = true := by kernel_rfl
/-- (*dyehouse/live.Live).Spans -/
def A19 : ACode :=
 (.seq
 (.ops [.o (.mov 4 (.c (.sl [])))])
 (.seq
 (.ops [.o (.nilarr 5 5 2)])
 (.seq
 (.seq
 (.ops [.o (.mov 11 (.r 0)),
 .o (.eq 12 false .nil (.r 11) (.c (.nilp))),
 .o (.mov 13 (.r 12)),
 .it (.grp 13 false [.mov 14 (.r 0), .mov 15 (.r 1), .callf (some 16) (.st 43) [(.r 14), (.r 15)], .bin 17 .lss (.r 16) (.c (.int .i64 (0)))]),
 .o (.pick 18 (.r 13) (.c (.bool true)) (.r 17))])
 (.cond (.r 18)
 (.seq
 (.ops [.o (.mov 4 (.c (.sl [])))]) .ret) .skip))
 (.seq
 (.seq
 (.ops [.o (.mov 19 (.r 0)),
 .o (.nilc 20 (.r 19)),
 .o (.fad 21 (.r 20) 7),
 .o (.load 22 (.r 21) 1 false),
 .o (.len 23 (.r 22)),
 .o (.mov 24 (.c (.int .i64 (0))))])
 (.block 0
 (.loop (.pre (.mv [0, 1, 5, 23, 24] [(5, 5)])
 (.seq
 (.ops [.o (.bin 25 .lss (.r 24) (.r 23))])
 (.seq
 (.cond (.r 25) .skip (.exit 0))
 (.seq
 (.block 1
 (.seq
 (.ops [.o (.mov 26 (.r 24)),
 .o (.mov 6 (.r 26))])
 (.seq
 (.ops [.o (.mov 28 (.r 0)),
 .o (.nilc 29 (.r 28)),
 .o (.fad 30 (.r 29) 5),
 .o (.load 31 (.r 30) 1 false),
 .o (.mov 32 (.r 6)),
 .o (.callf (some 33) (.st 44) [(.r 31), (.r 32)]),
 .o (.mov 27 (.r 33)),
 .o (.ext 34 (.r 27) 0),
 .o (.ext 35 (.r 27) 1),
 .o (.mov 7 (.r 34)),
 .o (.mov 8 (.r 35))])
 (.seq
 (.ops [.o (.mov 9 (.c (.bool false)))])
 (.seq
 (.ops [.o (.mov 36 (.r 7)),
 .o (.mov 10 (.r 36))])
 (.block 2
 (.loop (.pre (.mv [0, 1, 5, 8, 9, 10, 23, 24] [(5, 5)])
 (.seq
 (.seq
 (.ops [.o (.mov 37 (.r 10)),
 .o (.mov 38 (.r 8)),
 .o (.bin 39 .lss (.r 37) (.r 38))])
 (.cond (.r 39) .skip (.exit 2)))
 (.seq
 (.block 3
 (.seq
 (.seq
 (.ops [.o (.mov 42 (.r 0)),
 .o (.mov 43 (.r 10)),
 .o (.callf (some 44) (.st 37) [(.r 42), (.r 43)]),
 .o (.mov 45 (.r 0)),
 .o (.mov 46 (.r 1)),
 .o (.callf (some 47) (.st 43) [(.r 45), (.r 46)]),
 .o (.callb (some 48) (.st 45) [(.r 44), (.r 47)]),
 .o (.un 49 .not (.r 48))])
 (.cond (.r 49)
 (.seq
 (.ops [.o (.mov 9 (.c (.bool false)))]) (.exit 3)) .skip))
 (.seq
 (.seq
 (.ops [.o (.mov 50 (.r 9)),
 .o (.un 51 .not (.r 50))])
 (.cond (.r 51)
 (.seq
 (.ops [.o (.mov 52 (.r 5)),
 .o (.mov 53 (.r 10)),
 .o (.mov 54 (.r 10)),
 .o (.build 55 [.int .i64 0, .int .i64 0] [(0, 1, (.r 53)), (1, 1, (.r 54))]),
 .o (.bslp 56 2 [(.r 55)]),
 .o (.appd 57 (.r 52) (.r 56) 2 16),
 .o (.mov 5 (.r 57))])
 (.ops [.o (.mov 9 (.c (.bool true)))])) .skip))
 (.ops [.o (.mov 58 (.r 5)),
 .o (.mov 59 (.r 5)),
 .o (.len 60 (.r 59)),
 .o (.bin 61 .sub (.r 60) (.c (.int .i64 (1)))),
 .o (.mov 62 (.r 10)),
 .o (.bin 63 .add (.r 62) (.c (.int .i64 (1)))),
 .o (.idx 64 (.r 58) (.r 61) 2),
 .o (.aix 65 (.r 64) (.c (.int .i64 (1))) 1 2),
 .o (.store (.r 65) (.r 63) 1)]))))
 (.ops [.o (.mov 40 (.r 10)),
 .o (.bin 41 .add (.r 40) (.c (.int .i64 (1)))),
 .o (.mov 10 (.r 41))])))))))))))
 (.ops [.o (.bin 66 .add (.r 24) (.c (.int .i64 (1)))),
 .o (.mov 24 (.r 66))]))))))))
 (.seq
 (.post (.ops [.o (.mov 67 (.r 5)),
 .o (.mov 4 (.r 67))]) (.frz 5)) .ret)))))
theorem A19_ok : okFun Tryz.prog 19 68 0 A19 [.tmp 4] [] = true := by kernel_rfl
/-- dyehouse/dyehouseref12.Ints -/
def A20 : ACode :=
 (.seq
 (.ops [.o (.mov 4 (.c (.bool false)))])
 (.seq
 (.seq
 (.ops [.o (.mov 6 (.r 0)),
 .o (.len 7 (.r 6)),
 .o (.mov 8 (.r 1)),
 .o (.len 9 (.r 8)),
 .o (.bin 10 .neq (.r 7) (.r 9))])
 (.cond (.r 10)
 (.seq
 (.ops [.o (.mov 4 (.c (.bool false)))]) .ret) .skip))
 (.seq
 (.seq
 (.ops [.o (.mov 5 (.c (.int .i64 (0))))])
 (.block 0
 (.loop (.pre (.mv [0, 1, 5] [])
 (.seq
 (.seq
 (.ops [.o (.mov 11 (.r 5)),
 .o (.mov 12 (.r 0)),
 .o (.len 13 (.r 12)),
 .o (.bin 14 .lss (.r 11) (.r 13))])
 (.cond (.r 14) .skip (.exit 0)))
 (.seq
 (.block 1
 (.seq
 (.draw [[], [], [0, 1], [0, 1, 2], [], [], [4, 5], [4, 5, 6], [0, 1, 2, 3, 4, 5, 6, 7]] [.one (.mov 17 (.r 0)),
 .one (.mov 18 (.r 5)),
 .one (.idx 19 (.r 17) (.r 18) 1),
 .one (.load 20 (.r 19) 1 false),
 .one (.mov 21 (.r 1)),
 .one (.mov 22 (.r 5)),
 .one (.idx 23 (.r 21) (.r 22) 1),
 .one (.load 24 (.r 23) 1 false),
 .one (.bin 25 .neq (.r 20) (.r 24))])
 (.cond (.r 25)
 (.seq
 (.ops [.o (.mov 4 (.c (.bool false)))]) .ret) .skip)))
 (.ops [.o (.mov 15 (.r 5)),
 .o (.bin 16 .add (.r 15) (.c (.int .i64 (1)))),
 .o (.mov 5 (.r 16))])))))))
 (.seq
 (.ops [.o (.mov 4 (.c (.bool true)))]) .ret))))
theorem A20_ok : okFun Tryz.prog 20 26 0 A20 [.tmp 4] [] = true := by kernel_rfl
/-- (*dyehouse/live.Live).Through -/
def A21 : ACode :=
 (.seq
 (.ops [.o (.mov 6 (.c (.sl [])))])
 (.seq
 (.seq
 (.ops [.o (.mov 9 (.r 0)),
 .o (.mov 10 (.r 1)),
 .o (.callf (some 11) (.st 40) [(.r 9), (.r 10)]),
 .o (.un 12 .not (.r 11)),
 .o (.mov 13 (.r 12)),
 .it (.grp 13 false [.mov 14 (.r 0), .nilc 15 (.r 14), .fad 16 (.r 15) 5, .load 17 (.r 16) 1 false, .mov 18 (.r 1), .mov 19 (.r 2), .callf (some 20) (.st 46) [(.r 17), (.r 18), (.r 19)], .bin 21 .lss (.r 20) (.c (.int .i64 (0)))]),
 .o (.pick 22 (.r 13) (.c (.bool true)) (.r 21))])
 (.cond (.r 22)
 (.seq
 (.ops [.o (.mov 6 (.c (.sl [])))]) .ret) .skip))
 (.seq
 (.ops [.o (.mov 23 (.r 0)),
 .o (.mov 24 (.r 1)),
 .o (.mov 25 (.r 2)),
 .o (.bin 26 .add (.r 25) (.c (.int .i64 (1)))),
 .o (.callo (some 27) (.st 36) [(.r 23), (.r 24), (.r 26)] [] [27, 1027]),
 .o (.mov 7 (.r 27))])
 (.seq
 (.seq
 (.post (.ops [.o (.mov 28 (.r 0)),
 .o (.nilc 29 (.r 28)),
 .o (.fad 30 (.r 29) 0),
 .o (.fad 31 (.r 30) 4),
 .o (.load 32 (.r 31) 1 false),
 .o (.mov 33 (.r 1)),
 .o (.idx 34 (.r 32) (.r 33) 4),
 .o (.fad 35 (.r 34) 3),
 .o (.load 36 (.r 35) 1 false),
 .o (.mov 37 (.r 2)),
 .o (.idx 38 (.r 36) (.r 37) 10),
 .o (.fad 39 (.r 38) 1),
 .o (.load 40 (.r 39) 4 true),
 .o (.alloc 8 8 [.int .i64 0, .int .i64 0, .int .i64 0, .int .i64 0]),
 .o (.store (.r 8) (.r 40) 4)]) (.frz 8))
 (.seq
 (.ops [.o (.fad 41 (.r 8) 0),
 .o (.load 42 (.r 41) 1 false),
 .o (.bin 43 .eql (.r 42) (.c (.int .i64 (1))))])
 (.cond (.r 43)
 (.ops [.o (.mov 44 (.r 7)),
 .o (.mov 45 (.r 0)),
 .o (.fad 46 (.r 8) 2),
 .o (.load 47 (.r 46) 1 false),
 .o (.callf (some 48) (.st 43) [(.r 45), (.r 47)]),
 .o (.callo (some 49) (.st 47) [(.r 44), (.r 48)] [27, 1027] [])]) .skip)))
 (.seq
 (.post (.ops [.o (.mov 50 (.r 0)),
 .o (.mov 51 (.r 7)),
 .o (.callx (some 52) (.st 38) [(.r 50), (.r 51)] [] [52]),
 .o (.mov 6 (.r 52))]) (.frz 52)) .ret)))))
theorem A21_ok : okFun Tryz.prog 21 53 0 A21 [.tmp 6] [] = true := by kernel_rfl
/-- dyehouse/dyehouseref12.vreg -/
def A22 : ACode :=
 (.seq
 (.ops [.o (.alloc 2 2 [.int .i64 0, .int .i64 0, .int .i64 0, .int .i64 0])])
 (.seq
 (.ops [.o (.mov 3 (.r 0)),
 .o (.build 4 [.int .i64 0, .int .i64 0, .int .i64 0, .int .i64 0] [(0, 1, (.c (.int .i64 (1)))), (2, 1, (.r 3))]),
 .o (.store (.r 2) (.r 4) 4)]) .ret))
theorem A22_ok : okFun Tryz.prog 22 5 0 A22 [.cell 2 4 true] [] = true := by kernel_rfl
/-- dyehouse/dyehouseref12.imm -/
def A23 : ACode :=
 (.seq
 (.ops [.o (.alloc 2 2 [.int .i64 0, .int .i64 0, .int .i64 0, .int .i64 0])])
 (.seq
 (.ops [.o (.mov 3 (.r 0)),
 .o (.build 4 [.int .i64 0, .int .i64 0, .int .i64 0, .int .i64 0] [(0, 1, (.c (.int .i64 (4)))), (2, 1, (.r 3))]),
 .o (.store (.r 2) (.r 4) 4)]) .ret))
theorem A23_ok : okFun Tryz.prog 23 5 0 A23 [.cell 2 4 true] [] = true := by kernel_rfl
/-- (*dyehouse/dyehouseref12.maker).instr -/
def A24 : ACode :=
 (.seq
 (.ops [.o (.boxp 3 (.r 1)),
 .o (.alloc 4 4 [.int .i64 0, .int .i64 0, .int .i64 0, .int .i64 0, .int .i64 0, .sl [], .str .empty, .int .i64 0, .sl [], .sl []])])
 (.seq
 (.ops [.o (.fad 8 (.r 3) 0),
 .o (.load 9 (.r 8) 1 false),
 .o (.conv 10 .i64 (.r 9)),
 .o (.bin 11 .rem (.r 10) (.c (.int .i64 (19)))),
 .o (.bin 12 .add (.c (.int .i64 (1))) (.r 11)),
 .o (.mov 5 (.r 12))])
 (.seq
 (.ops [.o (.mov 13 (.r 5)),
 .o (.build 14 [.int .i64 (0), .int .i64 (0), .int .i64 (0), .int .i64 (0), .int .i64 (0), .yl 0, .str .empty, .int .i64 (0), .sl [], .sl []] [(0, 1, (.r 13))]),
 .o (.allocm 6 6 [.int .i64 0, .int .i64 0, .int .i64 0, .int .i64 0, .int .i64 0, .sl [], .str .empty, .int .i64 0, .sl [], .sl []]),
 .o (.store (.r 6) (.r 14) 10)])
 (.seq
 (.seq
 (.ops [.o (.mov 15 (.r 5))])
 (.block 0
 (.seq
 (.ops [.o (.bin 43 .eql (.r 15) (.c (.int .i64 (16)))),
 .o (.mov 42 (.r 43))])
 (.cond (.r 42)
 (.seq
 (.ops [.o (.fad 44 (.r 3) 4),
 .o (.load 45 (.r 44) 1 false),
 .o (.conv 46 .i64 (.r 45)),
 .o (.callf (some 47) (.st 23) [(.r 46)]),
 .o (.bslo 48 1006 4 [(.r 47)]),
 .o (.fad 49 (.r 6) 5),
 .o (.store (.r 49) (.r 48) 1)])
 (.seq
 (.seq
 (.ops [.o (.fad 50 (.r 3) 3),
 .o (.load 51 (.r 50) 1 false),
 .o (.bin 52 .rem (.r 51) (.c (.int .u8 (3)))),
 .o (.bin 53 .gtr (.r 52) (.c (.int .u8 (0))))])
 (.cond (.r 53)
 (.draw [[], [0], [], [], [3], [3, 4], [3, 4, 5], [3, 4, 5, 6], [], [8], [2, 3, 4, 5, 6, 7, 8, 9], [0, 1, 2, 3, 4, 5, 6, 7, 8, 9, 10], [0, 1, 2, 3, 4, 5, 6, 7, 8, 9, 10, 11]] [.one (.fad 54 (.r 6) 5),
 .one (.load 55 (.r 54) 1 false),
 .one (.mov 56 (.r 0)),
 .one (.fad 57 (.r 3) 3),
 .one (.load 58 (.r 57) 1 false),
 .one (.bin 59 .rem (.r 58) (.c (.int .u8 (3)))),
 .one (.conv 60 .i64 (.r 59)),
 .one (.bin 61 .sub (.r 60) (.c (.int .i64 (1)))),
 .one (.fad 62 (.r 3) 2),
 .one (.load 63 (.r 62) 1 false),
 .one (.callb (some 64) (.st 48) [(.r 56), (.r 61), (.r 63)]),
 .one (.idx 65 (.r 55) (.c (.int .i64 (0))) 4),
 .one (.store (.r 65) (.r 64) 4)]) .skip))
 (.ops [.o (.mov 66 (.r 0)),
 .o (.fad 67 (.r 3) 1),
 .o (.load 68 (.r 67) 1 false),
 .o (.conv 69 .i64 (.r 68)),
 .o (.bin 70 .rem (.r 69) (.c (.int .i64 (2)))),
 .o (.fad 71 (.r 3) 1),
 .o (.load 72 (.r 71) 1 false),
 .o (.bin 73 .quo (.r 72) (.c (.int .u8 (2)))),
 .o (.callo (some 74) (.st 49) [(.r 66), (.r 70), (.r 73)] [0, 1, 2] []),
 .o (.fad 75 (.r 6) 1),
 .o (.store (.r 75) (.r 74) 4)])))
 (.seq
 (.ops [.o (.bin 77 .eql (.r 15) (.c (.int .i64 (17)))),
 .o (.mov 76 (.r 77))])
 (.cond (.r 76)
 (.seq
 (.ops [.o (.mov 78 (.r 0)),
 .o (.fad 79 (.r 3) 2),
 .o (.load 80 (.r 79) 1 false),
 .o (.callb (some 81) (.st 48) [(.r 78), (.c (.int .i64 (1))), (.r 80)]),
 .o (.bslo 82 1006 4 [(.r 81)]),
 .o (.fad 83 (.r 6) 5),
 .o (.store (.r 83) (.r 82) 1)])
 (.seq
 (.ops [.o (.fad 84 (.r 3) 4),
 .o (.load 85 (.r 84) 1 false),
 .o (.conv 86 .i64 (.r 85)),
 .o (.bin 87 .rem (.r 86) (.c (.int .i64 (8)))),
 .o (.fad 88 (.r 6) 7),
 .o (.store (.r 88) (.r 87) 1)])
 (.ops [.o (.mov 89 (.r 0)),
 .o (.fad 90 (.r 3) 1),
 .o (.load 91 (.r 90) 1 false),
 .o (.callo (some 92) (.st 49) [(.r 89), (.c (.int .i64 (0))), (.r 91)] [0, 1, 2] []),
 .o (.fad 93 (.r 6) 1),
 .o (.store (.r 93) (.r 92) 4)])))
 (.seq
 (.ops [.o (.bin 95 .eql (.r 15) (.c (.int .i64 (18)))),
 .o (.mov 94 (.r 95))])
 (.cond (.r 94)
 (.seq
 (.draw [[], [], [1], [0, 1, 2], [], [], [5], [0, 1, 2, 3, 4, 5, 6], [0, 1, 2, 3, 4, 5, 6, 7], [0, 1, 2, 3, 4, 5, 6, 7, 8], [0, 1, 2, 3, 4, 5, 6, 7, 8, 9]] [.one (.mov 96 (.r 0)),
 .one (.fad 97 (.r 3) 3),
 .one (.load 98 (.r 97) 1 false),
 .one (.callb (some 99) (.st 48) [(.r 96), (.c (.int .i64 (0))), (.r 98)]),
 .one (.mov 100 (.r 0)),
 .one (.fad 101 (.r 3) 2),
 .one (.load 102 (.r 101) 1 false),
 .one (.callb (some 103) (.st 48) [(.r 100), (.c (.int .i64 (1))), (.r 102)]),
 .one (.bslo 104 1006 4 [(.r 99), (.r 103)]),
 .one (.fad 105 (.r 6) 5),
 .one (.store (.r 105) (.r 104) 1)])
 (.ops [.o (.fad 106 (.r 3) 4),
 .o (.load 107 (.r 106) 1 false),
 .o (.conv 108 .i64 (.r 107)),
 .o (.bin 109 .rem (.r 108) (.c (.int .i64 (8)))),
 .o (.fad 110 (.r 6) 7),
 .o (.store (.r 110) (.r 109) 1)]))
 (.seq
 (.ops [.o (.bin 112 .eql (.r 15) (.c (.int .i64 (19)))),
 .o (.mov 111 (.r 112))])
 (.cond (.r 111)
 (.seq
 (.pre (.nilb 6 5 1006 4) (.ops [.o (.bslp 113 1 [(.c (.str ⟨#[102]⟩)), (.c (.str ⟨#[103]⟩)), (.c (.str ⟨#[112, 117, 116, 10]⟩))]),
 .o (.fad 114 (.r 3) 2),
 .o (.load 115 (.r 114) 1 false),
 .o (.conv 116 .i64 (.r 115)),
 .o (.bin 117 .rem (.r 116) (.c (.int .i64 (3)))),
 .o (.idx 118 (.r 113) (.r 117) 1),
 .o (.load 119 (.r 118) 1 false),
 .o (.fad 120 (.r 6) 6),
 .o (.store (.r 120) (.r 119) 1)]))
 (.seq
 (.seq
 (.ops [.o (.mov 7 (.c (.int .i64 (0))))])
 (.block 1
 (.loop (.pre (.mv [0, 3, 4, 6, 7] [(0, 0), (1, 1), (2, 2), (4, 4), (6, 6), (1006, 1006)])
 (.seq
 (.seq
 (.ops [.o (.mov 121 (.r 7)),
 .o (.fad 122 (.r 3) 3),
 .o (.load 123 (.r 122) 1 false),
 .o (.conv 124 .i64 (.r 123)),
 .o (.bin 125 .rem (.r 124) (.c (.int .i64 (4)))),
 .o (.bin 126 .lss (.r 121) (.r 125))])
 (.cond (.r 126) .skip (.exit 1)))
 (.seq
 (.block 2
 (.seq
 (.ops [.o (.fad 129 (.r 3) 4),
 .o (.load 130 (.r 129) 1 false),
 .o (.conv 131 .i64 (.r 130)),
 .o (.mov 132 (.r 7)),
 .o (.bin 133 .add (.r 131) (.r 132)),
 .o (.bin 134 .rem (.r 133) (.c (.int .i64 (3)))),
 .o (.bin 135 .eql (.r 134) (.c (.int .i64 (0))))])
 (.cond (.r 135)
 (.draw [[], [0], [], [2], [2, 3], [2, 3, 4], [2, 3, 4, 5], [0, 1, 2, 3, 4, 5, 6], [0, 1, 2, 3, 4, 5, 6, 7], [0, 1, 2, 3, 4, 5, 6, 7, 8]] [.one (.fad 136 (.r 6) 5),
 .one (.load 137 (.r 136) 1 false),
 .one (.fad 138 (.r 3) 4),
 .one (.load 139 (.r 138) 1 false),
 .one (.conv 140 .i64 (.r 139)),
 .one (.callf (some 141) (.st 23) [(.r 140)]),
 .one (.bslp 142 4 [(.r 141)]),
 .one (.appd 143 (.r 137) (.r 142) 4 32),
 .one (.fad 144 (.r 6) 5),
 .one (.store (.r 144) (.r 143) 1)])
 (.draw [[], [0], [], [], [3], [], [5], [], [7], [5, 6, 7, 8], [3, 4, 5, 6, 7, 8, 9], [2, 3, 4, 5, 6, 7, 8, 9, 10], [2, 3, 4, 5, 6, 7, 8, 9, 10, 11], [0, 1, 2, 3, 4, 5, 6, 7, 8, 9, 10, 11, 12], [0, 1, 2, 3, 4, 5, 6, 7, 8, 9, 10, 11, 12, 13], [0, 1, 2, 3, 4, 5, 6, 7, 8, 9, 10, 11, 12, 13, 14]] [.one (.fad 145 (.r 6) 5),
 .one (.load 146 (.r 145) 1 false),
 .one (.mov 147 (.r 0)),
 .one (.fad 148 (.r 3) 2),
 .one (.load 149 (.r 148) 1 false),
 .one (.mov 150 (.r 7)),
 .one (.conv 151 .u8 (.r 150)),
 .one (.fad 152 (.r 3) 3),
 .one (.load 153 (.r 152) 1 false),
 .one (.bin 154 .mul (.r 151) (.r 153)),
 .one (.bin 155 .add (.r 149) (.r 154)),
 .one (.callb (some 156) (.st 48) [(.r 147), (.c (.int .i64 (0))), (.r 155)]),
 .one (.bslp 157 4 [(.r 156)]),
 .one (.appd 158 (.r 146) (.r 157) 4 32),
 .one (.fad 159 (.r 6) 5),
 .one (.store (.r 159) (.r 158) 1)]))))
 (.ops [.o (.mov 127 (.r 7)),
 .o (.bin 128 .add (.r 127) (.c (.int .i64 (1)))),
 .o (.mov 7 (.r 128))])))))))
 (.seq
 (.ops [.o (.fad 160 (.r 3) 1),
 .o (.load 161 (.r 160) 1 false),
 .o (.bin 162 .rem (.r 161) (.c (.int .u8 (3)))),
 .o (.bin 163 .gtr (.r 162) (.c (.int .u8 (0))))])
 (.cond (.r 163)
 (.ops [.o (.mov 164 (.r 0)),
 .o (.fad 165 (.r 3) 1),
 .o (.load 166 (.r 165) 1 false),
 .o (.callo (some 167) (.st 49) [(.r 164), (.c (.int .i64 (0))), (.r 166)] [0, 1, 2] []),
 .o (.fad 168 (.r 6) 1),
 .o (.store (.r 168) (.r 167) 4)]) .skip))))
 (.seq
 (.draw [[], [], [1], [0, 1, 2], [], [4], [4, 5], [0, 1, 2, 3, 4, 5, 6], [0, 1, 2, 3, 4, 5, 6, 7], [0, 1, 2, 3, 4, 5, 6, 7, 8], [0, 1, 2, 3, 4, 5, 6, 7, 8, 9]] [.one (.mov 16 (.r 0)),
 .one (.fad 17 (.r 3) 2),
 .one (.load 18 (.r 17) 1 false),
 .one (.callb (some 19) (.st 48) [(.r 16), (.c (.int .i64 (0))), (.r 18)]),
 .one (.fad 20 (.r 3) 4),
 .one (.load 21 (.r 20) 1 false),
 .one (.conv 22 .i64 (.r 21)),
 .one (.callf (some 23) (.st 23) [(.r 22)]),
 .one (.bslo 24 1006 4 [(.r 19), (.r 23)]),
 .one (.fad 25 (.r 6) 5),
 .one (.store (.r 25) (.r 24) 1)])
 (.seq
 (.seq
 (.ops [.o (.fad 26 (.r 3) 3),
 .o (.load 27 (.r 26) 1 false),
 .o (.bin 28 .rem (.r 27) (.c (.int .u8 (3)))),
 .o (.bin 29 .gtr (.r 28) (.c (.int .u8 (0))))])
 (.cond (.r 29)
 (.draw [[], [0], [], [], [3], [2, 3, 4], [0, 1, 2, 3, 4, 5], [0, 1, 2, 3, 4, 5, 6]] [.one (.fad 30 (.r 6) 5),
 .one (.load 31 (.r 30) 1 false),
 .one (.mov 32 (.r 0)),
 .one (.fad 33 (.r 3) 3),
 .one (.load 34 (.r 33) 1 false),
 .one (.callb (some 35) (.st 48) [(.r 32), (.c (.int .i64 (0))), (.r 34)]),
 .one (.idx 36 (.r 31) (.c (.int .i64 (1))) 4),
 .one (.store (.r 36) (.r 35) 4)]) .skip))
 (.ops [.o (.mov 37 (.r 0)),
 .o (.fad 38 (.r 3) 1),
 .o (.load 39 (.r 38) 1 false),
 .o (.callo (some 40) (.st 49) [(.r 37), (.c (.int .i64 (0))), (.r 39)] [0, 1, 2] []),
 .o (.fad 41 (.r 6) 1),
 .o (.store (.r 41) (.r 40) 4)])))))))))))))
 (.seq
 (.pre (.frz 1006) (.ops [.o (.load 169 (.r 6) 10 true),
 .o (.store (.r 4) (.r 169) 10)])) .ret)))))
theorem A24_ok : okFun Tryz.prog 24 170 3 A24 [.cell 4 10 true] [] = true := by kernel_rfl
/-- (*dyehouse/dyehouseref12.maker).last -/
def A25 : ACode :=
 (.seq
 (.ops [.o (.boxp 5 (.r 1)),
 .o (.alloc 8 8 [.int .i64 0, .int .i64 0, .int .i64 0, .int .i64 0, .int .i64 0, .sl [], .str .empty, .int .i64 0, .sl [], .sl []])])
 (.seq
 (.ops [.o (.mov 12 (.r 0)),
 .o (.fad 13 (.r 5) 4),
 .o (.load 14 (.r 13) 1 false),
 .o (.callb (some 15) (.st 48) [(.r 12), (.c (.int .i64 (0))), (.r 14)]),
 .o (.alloc 9 9 [.int .i64 0, .int .i64 0, .int .i64 0, .int .i64 0]),
 .o (.store (.r 9) (.r 15) 4)])
 (.join
 (.seq
 (.ops [.o (.mov 16 (.r 3)),
 .o (.bin 17 .eql (.r 16) (.c (.int .i64 (1)))),
 .o (.mov 18 (.r 17)),
 .it (.grp 18 false [.mov 19 (.r 2), .mov 20 (.r 3), .bin 21 .sub (.r 20) (.c (.int .i64 (1))), .bin 22 .eql (.r 19) (.r 21), .mov 23 (.r 22)]),
 .it (.grp 23 true [.fad 24 (.r 5) 1, .load 25 (.r 24) 1 false, .bin 26 .rem (.r 25) (.c (.int .u8 (3))), .bin 27 .eql (.r 26) (.c (.int .u8 (0)))]),
 .it (.grp 18 false [.pick 28 (.r 23) (.r 27) (.c (.bool false))]),
 .o (.pick 29 (.r 18) (.c (.bool true)) (.r 28))])
 (.cond (.r 29)
 (.seq
 (.seq
 (.ops [.o (.fad 30 (.r 5) 4),
 .o (.load 31 (.r 30) 1 false),
 .o (.bin 32 .rem (.r 31) (.c (.int .u8 (7)))),
 .o (.bin 33 .eql (.r 32) (.c (.int .u8 (6))))])
 (.cond (.r 33)
 (.ops [.o (.fad 34 (.r 5) 4),
 .o (.load 35 (.r 34) 1 false),
 .o (.conv 36 .i64 (.r 35)),
 .o (.callf (some 37) (.st 23) [(.r 36)]),
 .o (.store (.r 9) (.r 37) 4)]) .skip))
 (.seq
 (.ops [.o (.load 38 (.r 9) 4 true),
 .o (.bslp 39 4 [(.r 38)]),
 .o (.build 40 [.int .i64 0, .int .i64 0, .int .i64 0, .int .i64 0, .int .i64 0, .sl [], .str .empty, .int .i64 0, .sl [], .sl []] [(0, 1, (.c (.int .i64 (23)))), (5, 1, (.r 39))]),
 .o (.store (.r 8) (.r 40) 10)]) .ret)) .skip))
 (.pre (.mv [2, 3, 5, 8, 9] [(0, 0), (1, 1), (2, 2), (8, 8), (9, 9)])
 (.seq
 (.ops [.o (.fad 41 (.r 5) 2),
 .o (.load 42 (.r 41) 1 false),
 .o (.mov 43 (.r 3)),
 .o (.callf (some 44) (.st 50) [(.r 42), (.r 43)]),
 .o (.mov 10 (.r 44))])
 (.join
 (.seq
 (.ops [.o (.mov 45 (.r 2)),
 .o (.mov 46 (.r 3)),
 .o (.bin 47 .sub (.r 46) (.c (.int .i64 (1)))),
 .o (.bin 48 .lss (.r 45) (.r 47))])
 (.cond (.r 48)
 (.ops [.o (.mov 49 (.r 2)),
 .o (.bin 50 .add (.r 49) (.c (.int .i64 (1)))),
 .o (.callf (some 51) (.st 26) [(.r 50)]),
 .o (.mov 10 (.r 51))]) .skip))
 (.pre (.mv [3, 5, 8, 9, 10] [(0, 0), (1, 1), (2, 2), (8, 8), (9, 9)])
 (.seq
 (.seq
 (.ops [.o (.fad 52 (.r 5) 1),
 .o (.load 53 (.r 52) 1 false),
 .o (.bin 54 .rem (.r 53) (.c (.int .u8 (4))))])
 (.block 0
 (.seq
 (.seq
 (.ops [.o (.bin 56 .eql (.r 54) (.c (.int .u8 (0)))),
 .o (.mov 55 (.r 56))])
 (.cond (.r 55) .skip
 (.ops [.o (.bin 57 .eql (.r 54) (.c (.int .u8 (1)))),
 .o (.mov 55 (.r 57))])))
 (.cond (.r 55)
 (.seq
 (.seq
 (.ops [.o (.fad 58 (.r 5) 1),
 .o (.load 59 (.r 58) 1 false),
 .o (.bin 60 .rem (.r 59) (.c (.int .u8 (8)))),
 .o (.bin 61 .lss (.r 60) (.c (.int .u8 (4))))])
 (.cond (.r 61)
 (.seq
 (.draw [[], [0], [], [], [3], [], [3, 4, 5], [2, 3, 4, 5, 6], [0, 1, 2, 3, 4, 5, 6, 7], [0, 1, 2, 3, 4, 5, 6, 7, 8]] [.one (.load 62 (.r 9) 4 true),
 .one (.bslp 63 4 [(.r 62)]),
 .one (.mov 64 (.r 10)),
 .one (.fad 65 (.r 5) 3),
 .one (.load 66 (.r 65) 1 false),
 .one (.mov 67 (.r 3)),
 .one (.callf (some 68) (.st 50) [(.r 66), (.r 67)]),
 .one (.bslp 69 1 [(.r 64), (.r 68)]),
 .one (.build 70 [.int .i64 0, .int .i64 0, .int .i64 0, .int .i64 0, .int .i64 0, .sl [], .str .empty, .int .i64 0, .sl [], .sl []] [(0, 1, (.c (.int .i64 (21)))), (5, 1, (.r 63)), (8, 1, (.r 69))]),
 .one (.store (.r 8) (.r 70) 10)]) .ret) .skip))
 (.seq
 (.draw [[], [0], [], [2], [], [2, 3, 4], [], [2, 3, 4, 5, 6], [0, 1, 2, 3, 4, 5, 6, 7], [0, 1, 2, 3, 4, 5, 6, 7, 8]] [.one (.load 71 (.r 9) 4 true),
 .one (.bslp 72 4 [(.r 71)]),
 .one (.fad 73 (.r 5) 3),
 .one (.load 74 (.r 73) 1 false),
 .one (.mov 75 (.r 3)),
 .one (.callf (some 76) (.st 50) [(.r 74), (.r 75)]),
 .one (.mov 77 (.r 10)),
 .one (.bslp 78 1 [(.r 76), (.r 77)]),
 .one (.build 79 [.int .i64 0, .int .i64 0, .int .i64 0, .int .i64 0, .int .i64 0, .sl [], .str .empty, .int .i64 0, .sl [], .sl []] [(0, 1, (.c (.int .i64 (21)))), (5, 1, (.r 72)), (8, 1, (.r 78))]),
 .one (.store (.r 8) (.r 79) 10)]) .ret))
 (.seq
 (.ops [.o (.bin 81 .eql (.r 54) (.c (.int .u8 (2)))),
 .o (.mov 80 (.r 81))])
 (.cond (.r 80)
 (.seq
 (.draw [[], [0], [], [2], [2, 3], [2, 3, 4], [2, 3, 4, 5], [], [7], [], [7, 8, 9], [], [11], [], [7, 8, 9, 10, 11, 12, 13], [], [7, 8, 9, 10, 11, 12, 13, 14, 15], [0, 1, 2, 3, 4, 5, 6, 7, 8, 9, 10, 11, 12, 13, 14, 15, 16], [], [0, 1, 2, 3, 4, 5, 6, 7, 8, 9, 10, 11, 12, 13, 14, 15, 16, 17, 18]] [.one (.load 82 (.r 9) 4 true),
 .one (.bslp 83 4 [(.r 82)]),
 .one (.fad 84 (.r 5) 2),
 .one (.load 85 (.r 84) 1 false),
 .one (.conv 86 .i64 (.r 85)),
 .one (.bin 87 .rem (.r 86) (.c (.int .i64 (3)))),
 .one (.bslp 88 1 [(.r 87), (.c (.int .i64 (5)))]),
 .one (.fad 89 (.r 5) 2),
 .one (.load 90 (.r 89) 1 false),
 .one (.mov 91 (.r 3)),
 .one (.callf (some 92) (.st 50) [(.r 90), (.r 91)]),
 .one (.fad 93 (.r 5) 3),
 .one (.load 94 (.r 93) 1 false),
 .one (.mov 95 (.r 3)),
 .one (.callf (some 96) (.st 50) [(.r 94), (.r 95)]),
 .one (.mov 97 (.r 10)),
 .one (.bslp 98 1 [(.r 92), (.r 96), (.r 97)]),
 .one (.build 99 [.int .i64 0, .int .i64 0, .int .i64 0, .int .i64 0, .int .i64 0, .sl [], .str .empty, .int .i64 0, .sl [], .sl []] [(0, 1, (.c (.int .i64 (22)))), (5, 1, (.r 83)), (9, 1, (.r 88)), (8, 1, (.r 98))]),
 .one (.alloc 11 11 [.int .i64 0, .int .i64 0, .int .i64 0, .int .i64 0, .int .i64 0, .sl [], .str .empty, .int .i64 0, .sl [], .sl []]),
 .one (.store (.r 11) (.r 99) 10)])
 (.seq
 (.seq
 (.ops [.o (.fad 100 (.r 5) 4),
 .o (.load 101 (.r 100) 1 false),
 .o (.bin 102 .rem (.r 101) (.c (.int .u8 (2)))),
 .o (.bin 103 .eql (.r 102) (.c (.int .u8 (0))))])
 (.cond (.r 103)
 (.draw [[], [0], [0, 1], [], [3], [], [3, 4, 5], [], [3, 4, 5, 6, 7], [0, 1, 2], [0, 1, 2, 3, 4, 5, 6, 9], [0, 1, 2, 3, 4, 5, 6, 7, 8, 9, 10], [0, 1, 2, 3, 4, 5, 6, 7, 8, 9, 10, 11]] [.one (.fad 104 (.r 11) 9),
 .one (.load 105 (.r 104) 1 false),
 .one (.slc 106 (.r 105) none (some (.c (.int .i64 (1)))) 1),
 .one (.fad 107 (.r 5) 3),
 .one (.load 108 (.r 107) 1 false),
 .one (.mov 109 (.r 3)),
 .one (.callf (some 110) (.st 50) [(.r 108), (.r 109)]),
 .one (.mov 111 (.r 10)),
 .one (.bslp 112 1 [(.r 110), (.r 111)]),
 .one (.fad 113 (.r 11) 9),
 .one (.store (.r 113) (.r 106) 1),
 .one (.fad 114 (.r 11) 8),
 .one (.store (.r 114) (.r 112) 1)]) .skip))
 (.seq
 (.ops [.o (.load 115 (.r 11) 10 true),
 .o (.store (.r 8) (.r 115) 10)]) .ret))) .skip))))))
 (.seq
 (.ops [.o (.mov 116 (.r 10)),
 .o (.bslp 117 1 [(.r 116)]),
 .o (.build 118 [.int .i64 0, .int .i64 0, .int .i64 0, .int .i64 0, .int .i64 0, .sl [], .str .empty, .int .i64 0, .sl [], .sl []] [(0, 1, (.c (.int .i64 (20)))), (8, 1, (.r 117))]),
 .o (.store (.r 8) (.r 118) 10)]) .ret)))))))))
theorem A25_ok : okFun Tryz.prog 25 119 3 A25 [.cell 8 10 true] [] = true := by kernel_rfl
/-- dyehouse/dyehouseref12.label -/
def A26 : ACode :=
 (.seq
 (.ops [.o (.mov 2 (.c (.str ⟨#[]⟩)))])
 (.seq
 (.seq
 (.ops [.o (.mov 3 (.r 0)),
 .o (.bin 4 .eql (.r 3) (.c (.int .i64 (0))))])
 (.cond (.r 4)
 (.seq
 (.ops [.o (.mov 2 (.c (.str ⟨#[101, 110, 116, 114, 121]⟩)))]) .ret) .skip))
 (.seq
 (.ops [.o (.mov 5 (.r 0)),
 .o (.mov 6 (.r 0)),
 .o (.bin 7 .add (.r 6) (.c (.int .i64 (1)))),
 .o (.sslc 8 (.c (.str ⟨#[48, 49, 50, 51, 52, 53, 54, 55, 56, 57]⟩)) (some (.r 5)) (some (.r 7))),
 .o (.bin 9 .add (.c (.str ⟨#[98]⟩)) (.r 8)),
 .o (.mov 2 (.r 9))]) .ret)))
theorem A26_ok : okFun Tryz.prog 26 10 0 A26 [.tmp 2] [] = true := by kernel_rfl
/-- dyehouse/point.New -/
def A27 : ACode :=
 (.seq
 (.ops [.o (.boxp 1 (.r 0)),
 .o (.mov 2 (.c (.nilp)))])
 (.seq
 (.ops [.o (.bslo 7 1009 1 [(.c (.int .i64 (0)))]),
 .o (.buildm 8 [.sl []] [(0, 1, (.r 7))]),
 .o (.boxg 9 9 (.r 8)),
 .o (.mov 3 (.r 9))])
 (.seq
 (.ops [.o (.mov 4 (.c (.int .i64 (0))))])
 (.seq
 (.seq
 (.ops [.o (.fad 10 (.r 1) 4),
 .o (.load 11 (.r 10) 1 false),
 .o (.len 12 (.r 11)),
 .o (.mov 13 (.c (.int .i64 (0))))])
 (.block 0
 (.loop (.pre (.mv [3, 4, 11, 12, 13] [(9, 9), (1009, 1009)])
 (.seq
 (.ops [.o (.bin 14 .lss (.r 13) (.r 12))])
 (.seq
 (.cond (.r 14) .skip (.exit 0))
 (.seq
 (.block 1
 (.seq
 (.post (.ops [.o (.idx 15 (.r 11) (.r 13) 4),
 .o (.load 16 (.r 15) 4 true),
 .o (.alloc 6 6 [.str .empty, .bool false, .sl [], .sl []]),
 .o (.store (.r 6) (.r 16) 4)]) (.frz 6))
 (.seq
 (.ops [.o (.mov 17 (.r 4)),
 .o (.fad 18 (.r 6) 3),
 .o (.load 19 (.r 18) 1 false),
 .o (.len 20 (.r 19)),
 .o (.bin 21 .add (.r 17) (.r 20)),
 .o (.mov 4 (.r 21))])
 (.ops [.o (.mov 22 (.r 3)),
 .o (.mov 23 (.r 3)),
 .o (.nilc 24 (.r 23)),
 .o (.fad 25 (.r 24) 0),
 .o (.load 26 (.r 25) 1 false),
 .o (.mov 27 (.r 4)),
 .o (.bslp 28 1 [(.r 27)]),
 .o (.appd 29 (.r 26) (.r 28) 1 8),
 .o (.nilc 30 (.r 22)),
 .o (.fad 31 (.r 30) 0),
 .o (.store (.r 31) (.r 29) 1)]))))
 (.ops [.o (.bin 32 .add (.r 13) (.c (.int .i64 (1)))),
 .o (.mov 13 (.r 32))]))))))))
 (.seq
 (.post (.post (.ops [.o (.mov 33 (.r 3)),
 .o (.mov 2 (.r 33))]) (.frz 1009)) (.frz 9)) .ret)))))
theorem A27_ok : okFun Tryz.prog 27 34 0 A27 [.tmp 2] [] = true := by kernel_rfl
/-- slices.Sort[[]int,int] -/
def A28 : ACode :=
 (.seq
 (.ops [.o (.mov 3 (.r 0)),
 .o (.len 4 (.r 3)),
 .o (.mov 2 (.r 4))])
 (.ops [.o (.mov 5 (.r 0)),
 .o (.mov 6 (.r 2)),
 .o (.mov 7 (.r 2)),
 .o (.conv 8 .u64 (.r 7)),
 .o (.callf (some 9) (.st 52) [(.r 8)]),
 .call (some 10) (.st 51) [(.r 5), (.c (.int .i64 (0))), (.r 6), (.r 9)] [0] []]))
theorem A28_ok : okFun Tryz.prog 28 11 1 A28 [] [] = true := by kernel_rfl
/-- slices.Compact[[]int,int] -/
def A29 : ACode :=
 (.seq
 (.ops [.o (.mov 2 (.c (.sl [])))])
 (.seq
 (.seq
 (.ops [.o (.mov 6 (.r 0)),
 .o (.len 7 (.r 6)),
 .o (.bin 8 .lss (.r 7) (.c (.int .i64 (2))))])
 (.cond (.r 8)
 (.seq
 (.ops [.o (.mov 9 (.r 0)),
 .o (.mov 2 (.r 9))]) .ret) .skip))
 (.seq
 (.seq
 (.ops [.o (.mov 3 (.c (.int .i64 (1))))])
 (.block 0
 (.loop (.pre (.mv [0, 3] [(0, 0)])
 (.seq
 (.seq
 (.ops [.o (.mov 10 (.r 3)),
 .o (.mov 11 (.r 0)),
 .o (.len 12 (.r 11)),
 .o (.bin 13 .lss (.r 10) (.r 12))])
 (.cond (.r 13) .skip (.exit 0)))
 (.seq
 (.block 1
 (.seq
 (.draw [[], [], [0, 1], [0, 1, 2], [], [], [5], [4, 5, 6], [4, 5, 6, 7], [0, 1, 2, 3, 4, 5, 6, 7, 8]] [.one (.mov 16 (.r 0)),
 .one (.mov 17 (.r 3)),
 .one (.idx 18 (.r 16) (.r 17) 1),
 .one (.load 19 (.r 18) 1 false),
 .one (.mov 20 (.r 0)),
 .one (.mov 21 (.r 3)),
 .one (.bin 22 .sub (.r 21) (.c (.int .i64 (1)))),
 .one (.idx 23 (.r 20) (.r 22) 1),
 .one (.load 24 (.r 23) 1 false),
 .one (.bin 25 .eql (.r 19) (.r 24))])
 (.cond (.r 25)
 (.seq
 (.ops [.o (.mov 26 (.r 0)),
 .o (.mov 27 (.r 3)),
 .o (.slc 28 (.r 26) (some (.r 27)) none 1),
 .o (.mov 4 (.r 28))])
 (.seq
 (.seq
 (.ops [.o (.mov 5 (.c (.int .i64 (1))))])
 (.block 2
 (.loop (.pre (.mv [0, 3, 4, 5] [(0, 0)])
 (.seq
 (.seq
 (.ops [.o (.mov 29 (.r 5)),
 .o (.mov 30 (.r 4)),
 .o (.len 31 (.r 30)),
 .o (.bin 32 .lss (.r 29) (.r 31))])
 (.cond (.r 32) .skip (.exit 2)))
 (.seq
 (.block 3
 (.seq
 (.draw [[], [], [0, 1], [0, 1, 2], [], [], [5], [4, 5, 6], [4, 5, 6, 7], [0, 1, 2, 3, 4, 5, 6, 7, 8]] [.one (.mov 35 (.r 4)),
 .one (.mov 36 (.r 5)),
 .one (.idx 37 (.r 35) (.r 36) 1),
 .one (.load 38 (.r 37) 1 false),
 .one (.mov 39 (.r 4)),
 .one (.mov 40 (.r 5)),
 .one (.bin 41 .sub (.r 40) (.c (.int .i64 (1)))),
 .one (.idx 42 (.r 39) (.r 41) 1),
 .one (.load 43 (.r 42) 1 false),
 .one (.bin 44 .neq (.r 38) (.r 43))])
 (.cond (.r 44)
 (.seq
 (.ops [.o (.mov 45 (.r 0)),
 .o (.mov 46 (.r 3)),
 .o (.mov 47 (.r 4)),
 .o (.mov 48 (.r 5)),
 .o (.idx 49 (.r 47) (.r 48) 1),
 .o (.load 50 (.r 49) 1 false),
 .o (.idx 51 (.r 45) (.r 46) 1),
 .o (.store (.r 51) (.r 50) 1)])
 (.ops [.o (.mov 52 (.r 3)),
 .o (.bin 53 .add (.r 52) (.c (.int .i64 (1)))),
 .o (.mov 3 (.r 53))])) .skip)))
 (.ops [.o (.mov 33 (.r 5)),
 .o (.bin 34 .add (.r 33) (.c (.int .i64 (1)))),
 .o (.mov 5 (.r 34))])))))))
 (.seq
 (.ops [.o (.mov 54 (.r 0)),
 .o (.mov 55 (.r 3)),
 .o (.slc 56 (.r 54) (some (.r 55)) none 1),
 .o (.clear (.r 56) [.int .i64 0])])
 (.seq
 (.ops [.o (.mov 57 (.r 0)),
 .o (.mov 58 (.r 3)),
 .o (.slc 59 (.r 57) none (some (.r 58)) 1),
 .o (.mov 2 (.r 59))]) .ret)))) .skip)))
 (.ops [.o (.mov 14 (.r 3)),
 .o (.bin 15 .add (.r 14) (.c (.int .i64 (1)))),
 .o (.mov 3 (.r 15))])))))))
 (.seq
 (.ops [.o (.mov 60 (.r 0)),
 .o (.mov 2 (.r 60))]) .ret))))
theorem A29_ok : okFun Tryz.prog 29 61 1 A29 [.tmp 2] [] = true := by kernel_rfl
/-- dyehouse/bits.New -/
def A30 : ACode :=
 (.seq
 (.ops [.o (.mov 2 (.c (.nilp)))])
 (.seq
 (.ops [.o (.mov 3 (.r 0)),
 .o (.mxn 4 true (.r 3) (.c (.int .i64 (0)))),
 .o (.mov 0 (.r 4))])
 (.seq
 (.ops [.o (.mov 5 (.r 0)),
 .o (.mov 6 (.r 0)),
 .o (.bin 7 .add (.r 6) (.c (.int .i64 (64)))),
 .o (.bin 8 .sub (.r 7) (.c (.int .i64 (1)))),
 .o (.bin 9 .quo (.r 8) (.c (.int .i64 (64)))),
 .o (.make 10 10 1 8 [.int .u64 0] (.r 9) (.r 9)),
 .o (.buildm 11 [.int .i64 0, .sl []] [(0, 1, (.r 5)), (1, 1, (.r 10))]),
 .o (.boxg 12 12 (.r 11)),
 .o (.mov 2 (.r 12))]) .ret)))
theorem A30_ok : okFun Tryz.prog 30 13 0 A30 [.tmp 2] [12, 10] = true := by kernel_rfl
/-- dyehouse/graph.New -/
def A31 : ACode :=
 (.seq
 (.ops [.o (.boxp 1 (.r 0)),
 .o (.mov 2 (.c (.nilp)))])
 (.seq
 (.draw [[], [0], [0, 1], [0, 1, 2], [], [4], [4, 5], [4, 5, 6], [0, 1, 2, 3, 4, 5, 6, 7], [0, 1, 2, 3, 4, 5, 6, 7, 8], [0, 1, 2, 3, 4, 5, 6, 7, 8, 9]] [.one (.fad 11 (.r 1) 4),
 .one (.load 12 (.r 11) 1 false),
 .one (.len 13 (.r 12)),
 .one (.makeb 14 14 24 (some (1000, 2, 1)) .dead (.r 13) (.r 13)),
 .one (.fad 15 (.r 1) 4),
 .one (.load 16 (.r 15) 1 false),
 .one (.len 17 (.r 16)),
 .one (.makeb 18 18 24 (some (1001, 2, 1)) .dead (.r 17) (.r 17)),
 .one (.buildm 19 [.sl [], .sl []] [(0, 1, (.r 14)), (1, 1, (.r 18))]),
 .one (.boxg 20 20 (.r 19)),
 .one (.mov 3 (.r 20))])
 (.seq
 (.seq
 (.ops [.o (.fad 21 (.r 1) 4),
 .o (.load 22 (.r 21) 1 false),
 .o (.len 23 (.r 22)),
 .o (.mov 24 (.c (.int .i64 (0))))])
 (.block 0
 (.loop (.pre (.dyn [])
 (.seq
 (.ops [.o (.bin 25 .lss (.r 24) (.r 23))])
 (.seq
 (.cond (.r 25) .skip (.exit 0))
 (.seq
 (.block 1
 (.seq
 (.post (.ops [.o (.mov 26 (.r 24)),
 .o (.idx 27 (.r 22) (.r 24) 4),
 .o (.load 28 (.r 27) 4 true),
 .o (.alloc 5 5 [.str .empty, .bool false, .sl [], .sl []]),
 .o (.mov 4 (.r 26)),
 .o (.store (.r 5) (.r 28) 4)]) (.frz 5))
 (.seq
 (.post (.ops [.o (.load 30 (.r 5) 4 true),
 .o (.callf (some 31) (.st 53) [(.r 30)]),
 .o (.mov 29 (.r 31)),
 .o (.ext 32 (.r 29) 0),
 .o (.ext 33 (.r 29) 1),
 .o (.alloc 6 6 [.int .i64 0, .int .i64 0, .int .i64 0, .int .i64 0, .int .i64 0, .sl [], .str .empty, .int .i64 0, .sl [], .sl []]),
 .o (.store (.r 6) (.r 32) 10),
 .o (.mov 7 (.r 33))]) (.frz 6))
 (.seq
 (.seq
 (.ops [.o (.mov 34 (.r 7)),
 .o (.un 35 .not (.r 34))])
 (.cond (.r 35) (.exit 1) .skip))
 (.seq
 (.ops [.o (.fad 36 (.r 6) 8),
 .o (.load 37 (.r 36) 1 false),
 .o (.len 38 (.r 37)),
 .o (.mov 39 (.c (.int .i64 (0))))])
 (.block 2
 (.loop (.pre (.dyn [])
 (.seq
 (.ops [.o (.bin 40 .lss (.r 39) (.r 38))])
 (.seq
 (.cond (.r 40) .skip (.exit 2))
 (.seq
 (.block 3
 (.seq
 (.ops [.o (.idx 41 (.r 37) (.r 39) 1),
 .o (.load 42 (.r 41) 1 false),
 .o (.mov 9 (.r 42))])
 (.seq
 (.ops [.o (.load 43 (.r 1) 5 true),
 .o (.mov 44 (.r 9)),
 .o (.callf (some 45) (.st 54) [(.r 43), (.r 44)]),
 .o (.mov 10 (.r 45))])
 (.seq
 (.ops [.o (.mov 46 (.r 10)),
 .o (.bin 47 .geq (.r 46) (.c (.int .i64 (0)))),
 .o (.mov 48 (.r 47)),
 .it (.grp 48 true [.mov 49 (.r 3), .nilc 50 (.r 49), .fad 51 (.r 50) 0, .load 52 (.r 51) 1 false, .mov 53 (.r 4), .idx 54 (.r 52) (.r 53) 1, .load 55 (.r 54) 1 false, .mov 56 (.r 10), .callb (some 57) (.st 55) [(.r 55), (.r 56)], .un 58 .not (.r 57)]),
 .o (.pick 59 (.r 48) (.r 58) (.c (.bool false)))])
 (.cond (.r 59)
 (.seq
 (.draw [[], [0], [0, 1], [0, 1, 2], [], [], [5], [5, 6], [5, 6, 7], [], [5, 6, 7, 8, 9], [5, 6, 7, 8, 9, 10], [], [12], [5, 6, 7, 8, 9, 10, 11, 12, 13], [0, 1, 2, 3, 4, 5, 6, 7, 8, 9, 10, 11, 12, 13, 14], [0, 1, 2, 3, 4, 5, 6, 7, 8, 9, 10, 11, 12, 13, 14, 15]] [.one (.mov 60 (.r 3)),
 .one (.nilc 61 (.r 60)),
 .one (.fad 62 (.r 61) 0),
 .one (.load 63 (.r 62) 1 false),
 .one (.mov 64 (.r 4)),
 .one (.mov 65 (.r 3)),
 .one (.nilc 66 (.r 65)),
 .one (.fad 67 (.r 66) 0),
 .one (.load 68 (.r 67) 1 false),
 .one (.mov 69 (.r 4)),
 .one (.idx 70 (.r 68) (.r 69) 1),
 .one (.load 71 (.r 70) 1 false),
 .one (.mov 72 (.r 10)),
 .one (.bslp 73 1 [(.r 72)]),
 .one (.appd 74 (.r 71) (.r 73) 1 8),
 .one (.idx 75 (.r 63) (.r 64) 1),
 .one (.store (.r 75) (.r 74) 1)])
 (.draw [[], [0], [0, 1], [0, 1, 2], [], [], [5], [5, 6], [5, 6, 7], [], [5, 6, 7, 8, 9], [5, 6, 7, 8, 9, 10], [], [12], [5, 6, 7, 8, 9, 10, 11, 12, 13], [0, 1, 2, 3, 4, 5, 6, 7, 8, 9, 10, 11, 12, 13, 14], [0, 1, 2, 3, 4, 5, 6, 7, 8, 9, 10, 11, 12, 13, 14, 15]] [.one (.mov 76 (.r 3)),
 .one (.nilc 77 (.r 76)),
 .one (.fad 78 (.r 77) 1),
 .one (.load 79 (.r 78) 1 false),
 .one (.mov 80 (.r 10)),
 .one (.mov 81 (.r 3)),
 .one (.nilc 82 (.r 81)),
 .one (.fad 83 (.r 82) 1),
 .one (.load 84 (.r 83) 1 false),
 .one (.mov 85 (.r 10)),
 .one (.idx 86 (.r 84) (.r 85) 1),
 .one (.load 87 (.r 86) 1 false),
 .one (.mov 88 (.r 4)),
 .one (.bslp 89 1 [(.r 88)]),
 .one (.appd 90 (.r 87) (.r 89) 1 8),
 .one (.idx 91 (.r 79) (.r 80) 1),
 .one (.store (.r 91) (.r 90) 1)])) .skip)))))
 (.ops [.o (.bin 92 .add (.r 39) (.c (.int .i64 (1)))),
 .o (.mov 39 (.r 92))]))))))))))))
 (.ops [.o (.bin 93 .add (.r 24) (.c (.int .i64 (1)))),
 .o (.mov 24 (.r 93))]))))))))
 (.seq
 (.post (.ops [.o (.mov 94 (.r 3)),
 .o (.mov 2 (.r 94))]) (.dyn [])) .ret))))
theorem A31_ok : okFun Tryz.prog 31 95 0 A31 [.tmp 2] [] = true := by kernel_rfl
/-- dyehouse/live.backward[dyehouse/api.Block] -/
def A32 : ACode :=
 (.seq
 (.ops [.o (.mov 5 (.r 0)),
 .o (.len 6 (.r 5)),
 .o (.bin 7 .sub (.r 6) (.c (.int .i64 (1)))),
 .o (.mov 4 (.r 7))])
 (.block 0
 (.loop (.pre (.dynB 1000000000)
 (.seq
 (.seq
 (.ops [.o (.mov 8 (.r 4)),
 .o (.bin 9 .geq (.r 8) (.c (.int .i64 (0))))])
 (.cond (.r 9) .skip (.exit 0)))
 (.seq
 (.block 1
 (.ops [.o (.mov 12 (.r 1)),
 .o (.mov 13 (.r 4)),
 .o (.mov 14 (.r 0)),
 .o (.mov 15 (.r 4)),
 .o (.idx 16 (.r 14) (.r 15) 4),
 .o (.load 17 (.r 16) 4 true),
 .callg (some 18) (.dy (.r 12)) [(.r 13), (.r 17)]]))
 (.ops [.o (.mov 10 (.r 4)),
 .o (.bin 11 .sub (.r 10) (.c (.int .i64 (1)))),
 .o (.mov 4 (.r 11))])))))))
theorem A32_ok : okFunG Tryz.prog 32 19 1000000000 A32 [] = true := by kernel_rfl
/-- dyehouse/live.New$1 -/
def A33 : ACode :=
 (.seq
 (.ops [.o (.boxp 6 (.r 1))])
 (.seq
 (.seq
 (.ops [.o (.load 9 (.r 2) 1 false),
 .o (.mov 10 (.r 0)),
 .o (.callf (some 11) (.st 34) [(.r 9), (.r 10)]),
 .o (.len 12 (.r 11)),
 .o (.mov 13 (.c (.int .i64 (0))))])
 (.block 0
 (.loop (.pre (.dynB 1000000000)
 (.seq
 (.ops [.o (.bin 14 .lss (.r 13) (.r 12))])
 (.seq
 (.cond (.r 14) .skip (.exit 0))
 (.seq
 (.block 1
 (.seq
 (.ops [.o (.idx 15 (.r 11) (.r 13) 1),
 .o (.load 16 (.r 15) 1 false),
 .o (.mov 8 (.r 16))])
 (.draw [[], [0], [0, 1], [0, 1, 2], [], [0, 1, 2, 3, 4], [0, 1, 2, 3, 4, 5], [], [7], [7, 8], [7, 8, 9], [], [7, 8, 9, 10, 11], [7, 8, 9, 10, 11, 12], [0, 1, 2, 3, 4, 5, 6, 7, 8, 9, 10, 11, 12, 13]] [.one (.load 17 (.r 3) 1 false),
 .one (.nilc 18 (.r 17)),
 .one (.fad 19 (.r 18) 8),
 .one (.load 20 (.r 19) 1 false),
 .one (.mov 21 (.r 0)),
 .one (.ridx 22 (.r 20) (.r 21)),
 .one (.rload 23 (.r 22)),
 .one (.load 24 (.r 3) 1 false),
 .one (.nilc 25 (.r 24)),
 .one (.fad 26 (.r 25) 7),
 .one (.load 27 (.r 26) 1 false),
 .one (.mov 28 (.r 8)),
 .one (.ridx 29 (.r 27) (.r 28)),
 .one (.rload 30 (.r 29)),
 .one (.calle (some 31) (.st 35) [(.r 23), (.r 30)])])))
 (.ops [.o (.bin 32 .add (.r 13) (.c (.int .i64 (1)))),
 .o (.mov 13 (.r 32))]))))))))
 (.seq
 (.post (.draw [[], [0], [0, 1], [0, 1, 2], [], [0, 1, 2, 3, 4], [0, 1, 2, 3, 4, 5], [], [], [7, 8], [0, 1, 2, 3, 4, 5, 6, 7, 8, 9]] [.one (.load 33 (.r 3) 1 false),
 .one (.nilc 34 (.r 33)),
 .one (.fad 35 (.r 34) 7),
 .one (.load 36 (.r 35) 1 false),
 .one (.mov 37 (.r 0)),
 .one (.ridx 38 (.r 36) (.r 37)),
 .one (.rload 39 (.r 38)),
 .one (.load 40 (.r 3) 1 false),
 .one (.mov 41 (.r 0)),
 .one (.calle (some 42) (.st 36) [(.r 40), (.r 41), (.c (.int .i64 (0)))]),
 .one (.calle (some 43) (.st 35) [(.r 39), (.r 42)])]) (.dynB 1000000000))
 (.cond (.r 43)
 (.ops [.o (.store (.r 4) (.c (.bool true)) 1)]) .skip))))
theorem A33_ok : okFunG Tryz.prog 33 44 1000000000 A33 [] = true := by kernel_rfl
/-- (*dyehouse/graph.Graph).Succ -/
def A34 : ACode :=
 (.seq
 (.ops [.o (.mov 4 (.c (.sl [])))])
 (.seq
 (.ops [.o (.mov 5 (.r 0)),
 .o (.mov 6 (.r 1)),
 .o (.callf (some 7) (.st 56) [(.r 5), (.r 6), (.c (.int .i64 (0)))]),
 .o (.mov 4 (.r 7))]) .ret))
theorem A34_ok : okFun Tryz.prog 34 8 0 A34 [.tmp 4] [] = true := by kernel_rfl
/-- (*dyehouse/bits.Set).Or -/
def A35 : ACode :=
 (.seq
 (.ops [.o (.mov 4 (.c (.bool false)))])
 (.seq
 (.ops [.o (.mov 5 (.r 0)),
 .o (.mov 6 (.r 1)),
 .o (.callo (some 7) (.st 57) [(.r 5), (.r 6), (.c (.fn 58 []))] [0, 1] []),
 .o (.mov 4 (.r 7))]) .ret))
theorem A35_ok : okFun Tryz.prog 35 8 2 A35 [.tmp 4] [] = true := by kernel_rfl
/-- (*dyehouse/live.Live).upTo -/
def A36 : ACode :=
 (.seq
 (.ops [.o (.boxp 3 (.r 0)),
 .o (.mov 6 (.c (.nilp)))])
 (.seq
 (.ops [.o (.load 8 (.r 3) 1 false),
 .o (.nilc 9 (.r 8)),
 .o (.fad 10 (.r 9) 8),
 .o (.load 11 (.r 10) 1 false),
 .o (.mov 12 (.r 1)),
 .o (.idx 13 (.r 11) (.r 12) 1),
 .o (.load 14 (.r 13) 1 false),
 .o (.callo (some 15) (.st 59) [(.r 14)] [] [15, 1015]),
 .o (.allocm 7 7 [.nilp]),
 .o (.store (.r 7) (.r 15) 1)])
 (.seq
 (.ops [.o (.load 16 (.r 3) 1 false),
 .o (.nilc 17 (.r 16)),
 .o (.fad 18 (.r 17) 0),
 .o (.fad 19 (.r 18) 4),
 .o (.load 20 (.r 19) 1 false),
 .o (.mov 21 (.r 1)),
 .o (.idx 22 (.r 20) (.r 21) 4),
 .o (.fad 23 (.r 22) 3),
 .o (.load 24 (.r 23) 1 false),
 .o (.mov 25 (.r 2)),
 .o (.slc 26 (.r 24) (some (.r 25)) none 10),
 .o (.mkfn 27 61 [(.r 3), (.r 7)]),
 .o (.callo (some 28) (.st 60) [(.r 26), (.r 27)] [7, 15, 1015] [])])
 (.seq
 (.ops [.o (.load 29 (.r 7) 1 false),
 .o (.mov 6 (.r 29))]) .ret))))
theorem A36_ok : okFun Tryz.prog 36 30 0 A36 [.tmp 6] [15, 1015] = true := by kernel_rfl
/-- (*dyehouse/live.Live).at -/
def A37 : ACode :=
 (.seq
 (.ops [.o (.mov 4 (.c (.nilp)))])
 (.seq
 (.ops [.o (.mov 10 (.r 0)),
 .o (.nilc 11 (.r 10)),
 .o (.fad 12 (.r 11) 5),
 .o (.load 13 (.r 12) 1 false),
 .o (.mov 14 (.r 1)),
 .o (.callf (some 15) (.st 63) [(.r 13), (.r 14)]),
 .o (.mov 5 (.r 15))])
 (.seq
 (.seq
 (.ops [.o (.mov 16 (.r 5)),
 .o (.bin 17 .lss (.r 16) (.c (.int .i64 (0))))])
 (.cond (.r 17)
 (.seq
 (.ops [.o (.mov 4 (.c (.nilp)))]) .ret) .skip))
 (.seq
 (.ops [.o (.mov 19 (.r 0)),
 .o (.nilc 20 (.r 19)),
 .o (.fad 21 (.r 20) 5),
 .o (.load 22 (.r 21) 1 false),
 .o (.mov 23 (.r 1)),
 .o (.bin 24 .quo (.r 23) (.c (.int .i64 (2)))),
 .o (.callf (some 25) (.st 64) [(.r 22), (.r 24)]),
 .o (.mov 18 (.r 25)),
 .o (.ext 26 (.r 18) 0),
 .o (.ext 27 (.r 18) 1),
 .o (.mov 6 (.r 26)),
 .o (.mov 7 (.r 27))])
 (.seq
 (.seq
 (.ops [.o (.mov 28 (.r 1)),
 .o (.bin 29 .rem (.r 28) (.c (.int .i64 (2)))),
 .o (.bin 30 .eql (.r 29) (.c (.int .i64 (0))))])
 (.cond (.r 30)
 (.seq
 (.post (.post (.ops [.o (.mov 31 (.r 0)),
 .o (.mov 32 (.r 5)),
 .o (.mov 33 (.r 7)),
 .o (.callo (some 34) (.st 36) [(.r 31), (.r 32), (.r 33)] [] [34, 1034]),
 .o (.mov 4 (.r 34))]) (.frz 1034)) (.frz 34)) .ret) .skip))
 (.seq
 (.ops [.o (.mov 35 (.r 0)),
 .o (.mov 36 (.r 5)),
 .o (.mov 37 (.r 7)),
 .o (.bin 38 .add (.r 37) (.c (.int .i64 (1)))),
 .o (.callo (some 39) (.st 36) [(.r 35), (.r 36), (.r 38)] [] [39, 1039]),
 .o (.mov 8 (.r 39))])
 (.seq
 (.seq
 (.post (.ops [.o (.mov 40 (.r 0)),
 .o (.nilc 41 (.r 40)),
 .o (.fad 42 (.r 41) 0),
 .o (.fad 43 (.r 42) 4),
 .o (.load 44 (.r 43) 1 false),
 .o (.mov 45 (.r 5)),
 .o (.idx 46 (.r 44) (.r 45) 4),
 .o (.fad 47 (.r 46) 3),
 .o (.load 48 (.r 47) 1 false),
 .o (.mov 49 (.r 7)),
 .o (.idx 50 (.r 48) (.r 49) 10),
 .o (.fad 51 (.r 50) 1),
 .o (.load 52 (.r 51) 4 true),
 .o (.alloc 9 9 [.int .i64 0, .int .i64 0, .int .i64 0, .int .i64 0]),
 .o (.store (.r 9) (.r 52) 4)]) (.frz 9))
 (.seq
 (.ops [.o (.fad 53 (.r 9) 0),
 .o (.load 54 (.r 53) 1 false),
 .o (.bin 55 .eql (.r 54) (.c (.int .i64 (1))))])
 (.cond (.r 55)
 (.ops [.o (.mov 56 (.r 8)),
 .o (.mov 57 (.r 0)),
 .o (.fad 58 (.r 9) 2),
 .o (.load 59 (.r 58) 1 false),
 .o (.callf (some 60) (.st 43) [(.r 57), (.r 59)]),
 .o (.callo (some 61) (.st 65) [(.r 56), (.r 60)] [39, 1039] [])]) .skip)))
 (.seq
 (.post (.post (.ops [.o (.mov 62 (.r 8)),
 .o (.mov 4 (.r 62))]) (.frz 1039)) (.frz 39)) .ret))))))))
theorem A37_ok : okFun Tryz.prog 37 63 0 A37 [.tmp 4] [] = true := by kernel_rfl
/-- (*dyehouse/live.Live).list -/
def A38 : ACode :=
 (.seq
 (.ops [.o (.boxp 2 (.r 0)),
 .o (.mov 4 (.c (.sl [])))])
 (.seq
 (.ops [.o (.alloca 5 5 1005 1)])
 (.seq
 (.seq
 (.ops [.o (.mov 7 (.r 1)),
 .o (.callf (some 8) (.st 66) [(.r 7)])])
 (.block 0
 (.rfunc [] [5, 1005] (.r 8) [9]
 (.ops [.o (.mov 6 (.r 9))])
 (.post
 (.block 1
 (.draw [[], [], [1], [1, 2], [1, 2, 3], [], [1, 2, 3, 4, 5], [1, 2, 3, 4, 5, 6], [1, 2, 3, 4, 5, 6, 7], [0, 1, 2, 3, 4, 5, 6, 7, 8], [0, 1, 2, 3, 4, 5, 6, 7, 8, 9]] [.one (.load 10 (.r 5) 1 false),
 .one (.load 11 (.r 2) 1 false),
 .one (.nilc 12 (.r 11)),
 .one (.fad 13 (.r 12) 6),
 .one (.load 14 (.r 13) 1 false),
 .one (.mov 15 (.r 6)),
 .one (.idx 16 (.r 14) (.r 15) 1),
 .one (.load 17 (.r 16) 1 false),
 .one (.bslp 18 1 [(.r 17)]),
 .one (.appd 19 (.r 10) (.r 18) 1 8),
 .one (.store (.r 5) (.r 19) 1)])) (.mv [] [(5, 5), (1005, 1005)])))))
 (.seq
 (.ops [.o (.load 20 (.r 5) 1 false),
 .o (.mov 4 (.r 20))]) .ret))))
theorem A38_ok : okFunK Tryz.prog 38 21 0 [5, 1005] A38 [.tmp 4] [1005] = true := by kernel_rfl
/-- dyehouse/dyehouseref12.Value -/
def A39 : ACode :=
 (.seq
 (.ops [.o (.boxp 1 (.r 0)),
 .o (.mov 2 (.c (.int .i64 (0)))),
 .o (.mov 3 (.c (.bool false)))])
 (.seq
 (.seq
 (.ops [.o (.fad 4 (.r 1) 0),
 .o (.load 5 (.r 4) 1 false),
 .o (.bin 6 .eql (.r 5) (.c (.int .i64 (1))))])
 (.cond (.r 6)
 (.seq
 (.ops [.o (.fad 7 (.r 1) 2),
 .o (.load 8 (.r 7) 1 false),
 .o (.mov 2 (.r 8)),
 .o (.mov 3 (.c (.bool true)))]) .ret) .skip))
 (.seq
 (.draw [[], [0], [], [2], [2, 3], [2, 3, 4], [2, 3, 4, 5], [2, 3, 4, 5, 6], [2, 3, 4, 5, 6, 7], [2, 3, 4, 5, 6, 7, 8], [0, 1, 2, 3, 4, 5], [0, 1, 2, 3, 4, 5, 6, 7, 8, 9, 10]] [.one (.fad 9 (.r 1) 3),
 .one (.load 10 (.r 9) 1 false),
 .one (.fad 11 (.r 1) 0),
 .one (.load 12 (.r 11) 1 false),
 .one (.bin 13 .eql (.r 12) (.c (.int .i64 (2)))),
 .one (.mov 14 (.r 13)),
 .grp 14 false [.fad 15 (.r 1) 0, .load 16 (.r 15) 1 false, .bin 17 .eql (.r 16) (.c (.int .i64 (3)))],
 .one (.pick 18 (.r 14) (.c (.bool true)) (.r 17)),
 .one (.mov 2 (.r 10)),
 .one (.mov 3 (.r 18))]) .ret)))
theorem A39_ok : okFun Tryz.prog 39 19 0 A39 [.tmp 2, .tmp 3] [] = true := by kernel_rfl
/-- (*dyehouse/live.Live).is -/
def A40 : ACode :=
 (.seq
 (.ops [.o (.mov 4 (.c (.bool false)))])
 (.seq
 (.ops [.o (.mov 5 (.r 0)),
 .o (.eq 6 true .nil (.r 5) (.c (.nilp))),
 .o (.mov 7 (.r 6)),
 .it (.grp 7 true [.mov 8 (.r 1), .bin 9 .geq (.r 8) (.c (.int .i64 (0)))]),
 .o (.pick 10 (.r 7) (.r 9) (.c (.bool false))),
 .o (.mov 11 (.r 10)),
 .it (.grp 11 true [.mov 12 (.r 1), .mov 13 (.r 0), .nilc 14 (.r 13), .fad 15 (.r 14) 7, .load 16 (.r 15) 1 false, .len 17 (.r 16), .bin 18 .lss (.r 12) (.r 17)]),
 .o (.pick 19 (.r 11) (.r 18) (.c (.bool false))),
 .o (.mov 4 (.r 19))]) .ret))
theorem A40_ok : okFun Tryz.prog 40 20 0 A40 [.tmp 4] [] = true := by kernel_rfl
/-- (*dyehouse/point.Table).Count -/
def A41 : ACode :=
 (.seq
 (.ops [.o (.mov 2 (.c (.int .i64 (0))))])
 (.seq
 (.seq
 (.ops [.o (.mov 3 (.r 0)),
 .o (.eq 4 false .nil (.r 3) (.c (.nilp)))])
 (.cond (.r 4)
 (.seq
 (.ops [.o (.mov 2 (.c (.int .i64 (0))))]) .ret) .skip))
 (.seq
 (.draw [[], [0], [0, 1], [0, 1, 2], [], [4], [0, 1, 2, 3, 4, 5], [0, 1, 2, 3, 4, 5, 6]] [.one (.mov 5 (.r 0)),
 .one (.nilc 6 (.r 5)),
 .one (.fad 7 (.r 6) 0),
 .one (.load 8 (.r 7) 1 false),
 .one (.mov 9 (.r 0)),
 .one (.callf (some 10) (.st 68) [(.r 9)]),
 .one (.callf (some 11) (.st 67) [(.r 8), (.r 10), (.c (.int .i64 (0)))]),
 .one (.mov 2 (.r 11))]) .ret)))
theorem A41_ok : okFun Tryz.prog 41 12 0 A41 [.tmp 2] [] = true := by kernel_rfl
/-- dyehouse/ir.Class -/
def A42 : ACode :=
 (.seq
 (.ops [.o (.boxp 2 (.r 0)),
 .o (.mov 4 (.c (.int .i64 (0)))),
 .o (.mov 5 (.c (.bool false)))])
 (.seq
 (.seq
 (.ops [.o (.fad 8 (.r 2) 2),
 .o (.load 9 (.r 8) 1 false),
 .o (.len 10 (.r 9)),
 .o (.mov 11 (.c (.int .i64 (0))))])
 (.block 0
 (.loop (.pre (.mv [1, 9, 10, 11] [])
 (.seq
 (.ops [.o (.bin 12 .lss (.r 11) (.r 10))])
 (.seq
 (.cond (.r 12) .skip (.exit 0))
 (.seq
 (.block 1
 (.seq
 (.post (.ops [.o (.idx 13 (.r 9) (.r 11) 2),
 .o (.load 14 (.r 13) 2 true),
 .o (.alloc 7 7 [.int .i64 0, .int .i64 0]),
 .o (.store (.r 7) (.r 14) 2)]) (.frz 7))
 (.seq
 (.ops [.o (.fad 15 (.r 7) 0),
 .o (.load 16 (.r 15) 1 false),
 .o (.mov 17 (.r 1)),
 .o (.bin 18 .eql (.r 16) (.r 17))])
 (.cond (.r 18)
 (.seq
 (.ops [.o (.fad 19 (.r 7) 1),
 .o (.load 20 (.r 19) 1 false),
 .o (.mov 4 (.r 20)),
 .o (.mov 5 (.c (.bool true)))]) .ret) .skip))))
 (.ops [.o (.bin 21 .add (.r 11) (.c (.int .i64 (1)))),
 .o (.mov 11 (.r 21))]))))))))
 (.seq
 (.ops [.o (.mov 4 (.c (.int .i64 (0)))),
 .o (.mov 5 (.c (.bool false)))]) .ret)))
theorem A42_ok : okFun Tryz.prog 42 22 0 A42 [.tmp 4, .tmp 5] [] = true := by kernel_rfl
/-- (*dyehouse/live.Live).place -/
def A43 : ACode :=
 (.seq
 (.ops [.o (.mov 4 (.c (.int .i64 (0))))])
 (.seq
 (.ops [.o (.mov 8 (.r 0)),
 .o (.nilc 9 (.r 8)),
 .o (.fad 10 (.r 9) 6),
 .o (.load 11 (.r 10) 1 false),
 .o (.mov 12 (.r 1)),
 .o (.callf (some 13) (.st 69) [(.r 11), (.r 12)]),
 .o (.mov 7 (.r 13)),
 .o (.ext 14 (.r 7) 0),
 .o (.ext 15 (.r 7) 1),
 .o (.mov 5 (.r 14)),
 .o (.mov 6 (.r 15))])
 (.seq
 (.seq
 (.ops [.o (.mov 16 (.r 6)),
 .o (.un 17 .not (.r 16))])
 (.cond (.r 17)
 (.seq
 (.ops [.o (.mov 4 (.c (.int .i64 (-1))))]) .ret) .skip))
 (.seq
 (.ops [.o (.mov 18 (.r 5)),
 .o (.mov 4 (.r 18))]) .ret))))
theorem A43_ok : okFun Tryz.prog 43 19 0 A43 [.tmp 4] [] = true := by kernel_rfl
/-- (*dyehouse/point.Table).Span -/
def A44 : ACode :=
 (.seq
 (.ops [.o (.mov 4 (.c (.int .i64 (0)))),
 .o (.mov 5 (.c (.int .i64 (0))))])
 (.seq
 (.ops [.o (.mov 7 (.r 0)),
 .o (.mov 8 (.r 1)),
 .o (.callf (some 9) (.st 70) [(.r 7), (.r 8)]),
 .o (.mov 6 (.r 9))])
 (.seq
 (.seq
 (.ops [.o (.mov 10 (.r 6)),
 .o (.bin 11 .eql (.r 10) (.c (.int .i64 (0))))])
 (.cond (.r 11)
 (.seq
 (.ops [.o (.mov 4 (.c (.int .i64 (0)))),
 .o (.mov 5 (.c (.int .i64 (0))))]) .ret) .skip))
 (.seq
 (.ops [.o (.mov 12 (.r 0)),
 .o (.mov 13 (.r 1)),
 .o (.callf (some 14) (.st 71) [(.r 12), (.r 13), (.c (.int .i64 (0)))]),
 .o (.mov 15 (.r 0)),
 .o (.mov 16 (.r 1)),
 .o (.mov 17 (.r 6)),
 .o (.bin 18 .sub (.r 17) (.c (.int .i64 (1)))),
 .o (.callf (some 19) (.st 71) [(.r 15), (.r 16), (.r 18)]),
 .o (.bin 20 .add (.r 19) (.c (.int .i64 (1)))),
 .o (.mov 4 (.r 14)),
 .o (.mov 5 (.r 20))]) .ret))))
theorem A44_ok : okFun Tryz.prog 44 21 0 A44 [.tmp 4, .tmp 5] [] = true := by kernel_rfl
/-- (*dyehouse/bits.Set).Has -/
def A45 : ACode :=
 (.seq
 (.ops [.o (.mov 4 (.c (.bool false)))])
 (.seq
 (.ops [.o (.mov 5 (.r 0)),
 .o (.mov 6 (.r 1)),
 .o (.callb (some 7) (.st 72) [(.r 5), (.r 6)]),
 .o (.mov 8 (.r 7)),
 .it (.grp 8 true [.mov 9 (.r 0), .nilc 10 (.r 9), .fad 11 (.r 10) 1, .load 12 (.r 11) 1 false, .mov 13 (.r 1), .bin 14 .quo (.r 13) (.c (.int .i64 (64))), .idx 15 (.r 12) (.r 14) 1, .load 16 (.r 15) 1 false, .mov 17 (.r 1), .bin 18 .rem (.r 17) (.c (.int .i64 (64))), .bin 19 .shr (.r 16) (.r 18), .bin 20 .and (.r 19) (.c (.int .u64 (1))), .bin 21 .eql (.r 20) (.c (.int .u64 (1)))]),
 .o (.pick 22 (.r 8) (.r 21) (.c (.bool false))),
 .o (.mov 4 (.r 22))]) .ret))
theorem A45_ok : okFun Tryz.prog 45 23 0 A45 [.tmp 4] [] = true := by kernel_rfl
/-- (*dyehouse/point.Table).Of -/
def A46 : ACode :=
 (.seq
 (.ops [.o (.mov 6 (.c (.int .i64 (0))))])
 (.seq
 (.seq
 (.ops [.o (.mov 7 (.r 2)),
 .o (.bin 8 .lss (.r 7) (.c (.int .i64 (0)))),
 .o (.mov 9 (.r 8)),
 .it (.grp 9 false [.mov 10 (.r 2), .mov 11 (.r 0), .mov 12 (.r 1), .callf (some 13) (.st 70) [(.r 11), (.r 12)], .bin 14 .geq (.r 10) (.r 13)]),
 .o (.pick 15 (.r 9) (.c (.bool true)) (.r 14))])
 (.cond (.r 15)
 (.seq
 (.ops [.o (.mov 6 (.c (.int .i64 (-1))))]) .ret) .skip))
 (.seq
 (.ops [.o (.mov 16 (.r 0)),
 .o (.nilc 17 (.r 16)),
 .o (.fad 18 (.r 17) 0),
 .o (.load 19 (.r 18) 1 false),
 .o (.mov 20 (.r 1)),
 .o (.idx 21 (.r 19) (.r 20) 1),
 .o (.load 22 (.r 21) 1 false),
 .o (.mov 23 (.r 2)),
 .o (.bin 24 .add (.r 22) (.r 23)),
 .o (.mov 6 (.r 24))]) .ret)))
theorem A46_ok : okFun Tryz.prog 46 25 0 A46 [.tmp 6] [] = true := by kernel_rfl
/-- (*dyehouse/bits.Set).Drop -/
def A47 : ACode :=
 (.seq
 (.ops [.o (.mov 4 (.c (.bool false)))])
 (.seq
 (.seq
 (.ops [.o (.mov 5 (.r 0)),
 .o (.mov 6 (.r 1)),
 .o (.callb (some 7) (.st 45) [(.r 5), (.r 6)]),
 .o (.un 8 .not (.r 7))])
 (.cond (.r 8)
 (.seq
 (.ops [.o (.mov 4 (.c (.bool false)))]) .ret) .skip))
 (.seq
 (.draw [[], [0], [0, 1], [0, 1, 2], [], [4], [0, 1, 2, 3, 4, 5], [0, 1, 2, 3, 4, 5, 6], [], [8], [8, 9], [0, 1, 2, 3, 4, 5, 6, 7, 8, 9, 10], [0, 1, 2, 3, 4, 5, 6, 7, 8, 9, 10, 11], [0, 1, 2, 3, 4, 5, 6, 7, 8, 9, 10, 11, 12]] [.one (.mov 9 (.r 0)),
 .one (.nilc 10 (.r 9)),
 .one (.fad 11 (.r 10) 1),
 .one (.load 12 (.r 11) 1 false),
 .one (.mov 13 (.r 1)),
 .one (.bin 14 .quo (.r 13) (.c (.int .i64 (64)))),
 .one (.idx 15 (.r 12) (.r 14) 1),
 .one (.load 16 (.r 15) 1 false),
 .one (.mov 17 (.r 1)),
 .one (.bin 18 .rem (.r 17) (.c (.int .i64 (64)))),
 .one (.bin 19 .shl (.c (.int .u64 (1))) (.r 18)),
 .one (.bin 20 .andNot (.r 16) (.r 19)),
 .one (.idx 21 (.r 12) (.r 14) 1),
 .one (.store (.r 21) (.r 20) 1)])
 (.seq
 (.ops [.o (.mov 4 (.c (.bool true)))]) .ret))))
theorem A47_ok : okFun Tryz.prog 47 22 2 A47 [.tmp 4] [] = true := by kernel_rfl
/-- (*dyehouse/dyehouseref12.maker).use -/
def A48 : ACode :=
 (.seq
 (.ops [.o (.alloc 6 6 [.int .i64 0, .int .i64 0, .int .i64 0, .int .i64 0])])
 (.seq
 (.ops [.o (.mov 9 (.r 0)),
 .o (.mov 10 (.r 1)),
 .o (.nilc 11 (.r 9)),
 .o (.fad 12 (.r 11) 5),
 .o (.aix 13 (.r 12) (.r 10) 1 2),
 .o (.load 14 (.r 13) 1 false),
 .o (.mov 7 (.r 14))])
 (.seq
 (.ops [.o (.mov 15 (.r 7)),
 .o (.mov 16 (.r 2)),
 .o (.conv 17 .i64 (.r 16)),
 .o (.mov 18 (.r 7)),
 .o (.len 19 (.r 18)),
 .o (.bin 20 .rem (.r 17) (.r 19)),
 .o (.idx 21 (.r 15) (.r 20) 1),
 .o (.load 22 (.r 21) 1 false),
 .o (.mov 8 (.r 22))])
 (.seq
 (.seq
 (.ops [.o (.mov 23 (.r 0)),
 .o (.nilc 24 (.r 23)),
 .o (.fad 25 (.r 24) 7),
 .o (.load 26 (.r 25) 1 false),
 .o (.mov 27 (.r 8)),
 .o (.callb (some 28) (.st 11) [(.r 26), (.r 27)]),
 .o (.un 29 .not (.r 28))])
 (.cond (.r 29)
 (.ops [.o (.mov 30 (.r 7)),
 .o (.idx 31 (.r 30) (.c (.int .i64 (0))) 1),
 .o (.load 32 (.r 31) 1 false),
 .o (.mov 8 (.r 32))]) .skip))
 (.seq
 (.ops [.o (.mov 33 (.r 8)),
 .o (.callf (some 34) (.st 22) [(.r 33)]),
 .o (.store (.r 6) (.r 34) 4)]) .ret)))))
theorem A48_ok : okFun Tryz.prog 48 35 0 A48 [.cell 6 4 true] [] = true := by kernel_rfl
/-- (*dyehouse/dyehouseref12.maker).give -/
def A49 : ACode :=
 (.seq
 (.ops [.o (.alloc 6 6 [.int .i64 0, .int .i64 0, .int .i64 0, .int .i64 0])])
 (.seq
 (.ops [.o (.mov 9 (.r 0)),
 .o (.mov 10 (.r 1)),
 .o (.nilc 11 (.r 9)),
 .o (.fad 12 (.r 11) 5),
 .o (.aix 13 (.r 12) (.r 10) 1 2),
 .o (.load 14 (.r 13) 1 false),
 .o (.mov 7 (.r 14))])
 (.seq
 (.ops [.o (.mov 15 (.r 7)),
 .o (.mov 16 (.r 2)),
 .o (.conv 17 .i64 (.r 16)),
 .o (.mov 18 (.r 7)),
 .o (.len 19 (.r 18)),
 .o (.bin 20 .rem (.r 17) (.r 19)),
 .o (.idx 21 (.r 15) (.r 20) 1),
 .o (.load 22 (.r 21) 1 false),
 .o (.mov 8 (.r 22))])
 (.seq
 (.seq
 (.ops [.o (.mov 23 (.r 0)),
 .o (.nilc 24 (.r 23)),
 .o (.fad 25 (.r 24) 7),
 .o (.load 26 (.r 25) 1 false),
 .o (.mov 27 (.r 8)),
 .o (.callb (some 28) (.st 11) [(.r 26), (.r 27)]),
 .o (.un 29 .not (.r 28))])
 (.cond (.r 29)
 (.ops [.o (.mov 30 (.r 0)),
 .o (.mov 31 (.r 0)),
 .o (.nilc 32 (.r 31)),
 .o (.fad 33 (.r 32) 7),
 .o (.load 34 (.r 33) 1 false),
 .o (.mov 35 (.r 8)),
 .o (.bslp 36 1 [(.r 35)]),
 .o (.appd 37 (.r 34) (.r 36) 1 8),
 .o (.nilc 38 (.r 30)),
 .o (.fad 39 (.r 38) 7),
 .o (.store (.r 39) (.r 37) 1)]) .skip))
 (.seq
 (.ops [.o (.mov 40 (.r 8)),
 .o (.callf (some 41) (.st 22) [(.r 40)]),
 .o (.store (.r 6) (.r 41) 4)]) .ret)))))
theorem A49_ok : okFun Tryz.prog 49 42 3 A49 [.cell 6 4 true] [] = true := by kernel_rfl
/-- dyehouse/dyehouseref12.goal -/
def A50 : ACode :=
 (.seq
 (.ops [.o (.mov 4 (.c (.str ⟨#[]⟩)))])
 (.seq
 (.ops [.o (.mov 5 (.r 0)),
 .o (.conv 6 .i64 (.r 5)),
 .o (.mov 7 (.r 1)),
 .o (.bin 8 .sub (.r 7) (.c (.int .i64 (1)))),
 .o (.bin 9 .rem (.r 6) (.r 8)),
 .o (.bin 10 .add (.c (.int .i64 (1))) (.r 9)),
 .o (.callf (some 11) (.st 26) [(.r 10)]),
 .o (.mov 4 (.r 11))]) .ret))
theorem A50_ok : okFun Tryz.prog 50 12 0 A50 [.tmp 4] [] = true := by kernel_rfl
/-- slices.pdqsortOrdered[int] -/
def A51 : ACode :=
 (.seq
 (.ops [.o (.mov 8 (.c (.bool true)))])
 (.seq
 (.ops [.o (.mov 9 (.c (.bool true)))])
 (.block 0
 (.loop (.pre (.mv [0, 1, 2, 3, 8, 9] [(0, 0)])
 (.block 1
 (.seq
 (.ops [.o (.mov 19 (.r 2)),
 .o (.mov 20 (.r 1)),
 .o (.bin 21 .sub (.r 19) (.r 20)),
 .o (.mov 10 (.r 21))])
 (.seq
 (.seq
 (.ops [.o (.mov 22 (.r 10)),
 .o (.bin 23 .leq (.r 22) (.c (.int .i64 (12))))])
 (.cond (.r 23)
 (.seq
 (.ops [.o (.mov 24 (.r 0)),
 .o (.mov 25 (.r 1)),
 .o (.mov 26 (.r 2)),
 .call (some 27) (.st 73) [(.r 24), (.r 25), (.r 26)] [0] []]) .ret) .skip))
 (.seq
 (.seq
 (.ops [.o (.mov 28 (.r 3)),
 .o (.bin 29 .eql (.r 28) (.c (.int .i64 (0))))])
 (.cond (.r 29)
 (.seq
 (.ops [.o (.mov 30 (.r 0)),
 .o (.mov 31 (.r 1)),
 .o (.mov 32 (.r 2)),
 .o (.callb (some 33) (.st 74) [(.r 30), (.r 31), (.r 32)])]) .ret) .skip))
 (.seq
 (.seq
 (.ops [.o (.mov 34 (.r 8)),
 .o (.un 35 .not (.r 34))])
 (.cond (.r 35)
 (.seq
 (.ops [.o (.mov 36 (.r 0)),
 .o (.mov 37 (.r 1)),
 .o (.mov 38 (.r 2)),
 .o (.callb (some 39) (.st 75) [(.r 36), (.r 37), (.r 38)])])
 (.ops [.o (.mov 40 (.r 3)),
 .o (.bin 41 .sub (.r 40) (.c (.int .i64 (1)))),
 .o (.mov 3 (.r 41))])) .skip))
 (.seq
 (.ops [.o (.mov 43 (.r 0)),
 .o (.mov 44 (.r 1)),
 .o (.mov 45 (.r 2)),
 .o (.callb (some 46) (.st 76) [(.r 43), (.r 44), (.r 45)]),
 .o (.mov 42 (.r 46)),
 .o (.ext 47 (.r 42) 0),
 .o (.ext 48 (.r 42) 1),
 .o (.mov 11 (.r 47)),
 .o (.mov 12 (.r 48))])
 (.seq
 (.seq
 (.ops [.o (.mov 49 (.r 12)),
 .o (.bin 50 .eql (.r 49) (.c (.int .i64 (2))))])
 (.cond (.r 50)
 (.seq
 (.ops [.o (.mov 51 (.r 0)),
 .o (.mov 52 (.r 1)),
 .o (.mov 53 (.r 2)),
 .o (.callb (some 54) (.st 77) [(.r 51), (.r 52), (.r 53)])])
 (.seq
 (.ops [.o (.mov 55 (.r 2)),
 .o (.bin 56 .sub (.r 55) (.c (.int .i64 (1)))),
 .o (.mov 57 (.r 11)),
 .o (.mov 58 (.r 1)),
 .o (.bin 59 .sub (.r 57) (.r 58)),
 .o (.bin 60 .sub (.r 56) (.r 59)),
 .o (.mov 11 (.r 60))])
 (.ops [.o (.mov 12 (.c (.int .i64 (1))))]))) .skip))
 (.seq
 (.seq
 (.ops [.o (.mov 61 (.r 8)),
 .o (.mov 62 (.r 61)),
 .it (.grp 62 true [.mov 63 (.r 9)]),
 .o (.pick 64 (.r 62) (.r 63) (.c (.bool false))),
 .o (.mov 65 (.r 64)),
 .it (.grp 65 true [.mov 66 (.r 12), .bin 67 .eql (.r 66) (.c (.int .i64 (1)))]),
 .o (.pick 68 (.r 65) (.r 67) (.c (.bool false)))])
 (.cond (.r 68)
 (.seq
 (.ops [.o (.mov 69 (.r 0)),
 .o (.mov 70 (.r 1)),
 .o (.mov 71 (.r 2)),
 .o (.callb (some 72) (.st 78) [(.r 69), (.r 70), (.r 71)])])
 (.cond (.r 72) .ret .skip)) .skip))
 (.seq
 (.seq
 (.draw [[], [0], [0, 1], [0, 1, 2], [0, 1, 2], [0, 1, 2, 4], [0, 1, 2, 3, 4, 5], [0, 1, 2, 3, 4, 5, 6], [0, 1, 2], [0, 1, 2], [0, 1, 2, 8, 9], [0, 1, 2, 8, 9, 10], [0, 1, 2, 3, 4, 5, 6, 7, 8, 9, 10, 11], [0, 1, 2, 3, 4, 5, 6, 7, 8, 9, 10, 11, 12], [0, 1, 2, 3, 4, 5, 6, 7, 8, 9, 10, 11, 12, 13]] [.one (.mov 73 (.r 1)),
 .one (.bin 74 .gtr (.r 73) (.c (.int .i64 (0)))),
 .one (.mov 75 (.r 74)),
 .grp 75 true [.mov 76 (.r 0), .mov 77 (.r 1), .bin 78 .sub (.r 77) (.c (.int .i64 (1))), .idx 79 (.r 76) (.r 78) 1, .load 80 (.r 79) 1 false, .mov 81 (.r 0), .mov 82 (.r 11), .idx 83 (.r 81) (.r 82) 1, .load 84 (.r 83) 1 false, .callf (some 85) (.st 79) [(.r 80), (.r 84)], .un 86 .not (.r 85)],
 .one (.pick 87 (.r 75) (.r 86) (.c (.bool false)))])
 (.cond (.r 87)
 (.seq
 (.ops [.o (.mov 88 (.r 0)),
 .o (.mov 89 (.r 1)),
 .o (.mov 90 (.r 2)),
 .o (.mov 91 (.r 11)),
 .o (.callb (some 92) (.st 80) [(.r 88), (.r 89), (.r 90), (.r 91)]),
 .o (.mov 13 (.r 92))])
 (.seq
 (.ops [.o (.mov 93 (.r 13)),
 .o (.mov 1 (.r 93))]) (.exit 1))) .skip))
 (.seq
 (.ops [.o (.mov 95 (.r 0)),
 .o (.mov 96 (.r 1)),
 .o (.mov 97 (.r 2)),
 .o (.mov 98 (.r 11)),
 .o (.callb (some 99) (.st 81) [(.r 95), (.r 96), (.r 97), (.r 98)]),
 .o (.mov 94 (.r 99)),
 .o (.ext 100 (.r 94) 0),
 .o (.ext 101 (.r 94) 1),
 .o (.mov 14 (.r 100)),
 .o (.mov 15 (.r 101))])
 (.seq
 (.ops [.o (.mov 102 (.r 15)),
 .o (.mov 9 (.r 102))])
 (.seq
 (.ops [.o (.mov 103 (.r 14)),
 .o (.mov 104 (.r 1)),
 .o (.bin 105 .sub (.r 103) (.r 104)),
 .o (.mov 106 (.r 2)),
 .o (.mov 107 (.r 14)),
 .o (.bin 108 .sub (.r 106) (.r 107)),
 .o (.mov 16 (.r 105)),
 .o (.mov 17 (.r 108))])
 (.seq
 (.ops [.o (.mov 109 (.r 10)),
 .o (.bin 110 .quo (.r 109) (.c (.int .i64 (8)))),
 .o (.mov 18 (.r 110))])
 (.seq
 (.ops [.o (.mov 111 (.r 16)),
 .o (.mov 112 (.r 17)),
 .o (.bin 113 .lss (.r 111) (.r 112))])
 (.cond (.r 113)
 (.seq
 (.ops [.o (.mov 114 (.r 16)),
 .o (.mov 115 (.r 18)),
 .o (.bin 116 .geq (.r 114) (.r 115)),
 .o (.mov 8 (.r 116))])
 (.seq
 (.ops [.o (.mov 117 (.r 0)),
 .o (.mov 118 (.r 1)),
 .o (.mov 119 (.r 14)),
 .o (.mov 120 (.r 3)),
 .o (.callb (some 121) (.st 51) [(.r 117), (.r 118), (.r 119), (.r 120)])])
 (.ops [.o (.mov 122 (.r 14)),
 .o (.bin 123 .add (.r 122) (.c (.int .i64 (1)))),
 .o (.mov 1 (.r 123))])))
 (.seq
 (.ops [.o (.mov 124 (.r 17)),
 .o (.mov 125 (.r 18)),
 .o (.bin 126 .geq (.r 124) (.r 125)),
 .o (.mov 8 (.r 126))])
 (.seq
 (.ops [.o (.mov 127 (.r 0)),
 .o (.mov 128 (.r 14)),
 .o (.bin 129 .add (.r 128) (.c (.int .i64 (1)))),
 .o (.mov 130 (.r 2)),
 .o (.mov 131 (.r 3)),
 .o (.callb (some 132) (.st 51) [(.r 127), (.r 129), (.r 130), (.r 131)])])
 (.ops [.o (.mov 133 (.r 14)),
 .o (.mov 2 (.r 133))])))))))))))))))))))))))
theorem A51_ok : okFun Tryz.prog 51 134 1 A51 [] [] = true := by kernel_rfl
/-- math/bits.Len -/
def A52 : ACode :=
 (.seq
 (.ops [.o (.mov 2 (.c (.int .i64 (0))))])
 (.seq
 (.cond (.c (.bool false))
 (.seq
 (.ops [.o (.mov 3 (.r 0)),
 .o (.conv 4 .u32 (.r 3)),
 .o (.callf (some 5) (.st 82) [(.r 4)]),
 .o (.mov 2 (.r 5))]) .ret) .skip)
 (.seq
 (.ops [.o (.mov 6 (.r 0)),
 .o (.callf (some 7) (.st 83) [(.r 6)]),
 .o (.mov 2 (.r 7))]) .ret)))
theorem A52_ok : okFun Tryz.prog 52 8 0 A52 [.tmp 2] [] = true := by kernel_rfl
/-- dyehouse/graph.last -/
def A53 : ACode :=
 (.seq
 (.ops [.o (.boxp 1 (.r 0)),
 .o (.alloc 2 2 [.int .i64 0, .int .i64 0, .int .i64 0, .int .i64 0, .int .i64 0, .sl [], .str .empty, .int .i64 0, .sl [], .sl []]),
 .o (.mov 3 (.c (.bool false)))])
 (.seq
 (.seq
 (.ops [.o (.fad 5 (.r 1) 3),
 .o (.load 6 (.r 5) 1 false),
 .o (.len 7 (.r 6)),
 .o (.bin 8 .eql (.r 7) (.c (.int .i64 (0))))])
 (.cond (.r 8)
 (.seq
 (.ops [.o (.build 9 [.int .i64 0, .int .i64 0, .int .i64 0, .int .i64 0, .int .i64 0, .sl [], .str .empty, .int .i64 0, .sl [], .sl []] []),
 .o (.store (.r 2) (.r 9) 10),
 .o (.mov 3 (.c (.bool false)))]) .ret) .skip))
 (.seq
 (.post (.ops [.o (.fad 10 (.r 1) 3),
 .o (.load 11 (.r 10) 1 false),
 .o (.fad 12 (.r 1) 3),
 .o (.load 13 (.r 12) 1 false),
 .o (.len 14 (.r 13)),
 .o (.bin 15 .sub (.r 14) (.c (.int .i64 (1)))),
 .o (.idx 16 (.r 11) (.r 15) 10),
 .o (.load 17 (.r 16) 10 true),
 .o (.alloc 4 4 [.int .i64 0, .int .i64 0, .int .i64 0, .int .i64 0, .int .i64 0, .sl [], .str .empty, .int .i64 0, .sl [], .sl []]),
 .o (.store (.r 4) (.r 17) 10)]) (.frz 4))
 (.seq
 (.draw [[], [], [1], [1, 2], [0, 1, 2, 3], [0, 1, 2, 3, 4]] [.one (.load 18 (.r 4) 10 true),
 .one (.fad 19 (.r 4) 0),
 .one (.load 20 (.r 19) 1 false),
 .one (.callf (some 21) (.st 84) [(.r 20)]),
 .one (.store (.r 2) (.r 18) 10),
 .one (.mov 3 (.r 21))]) .ret))))
theorem A53_ok : okFun Tryz.prog 53 22 0 A53 [.cell 2 10 true, .tmp 3] [] = true := by kernel_rfl
/-- dyehouse/ir.Find -/
def A54 : ACode :=
 (.seq
 (.ops [.o (.boxp 2 (.r 0)),
 .o (.boxp 3 (.r 1)),
 .o (.mov 4 (.c (.int .i64 (0))))])
 (.seq
 (.ops [.o (.fad 5 (.r 2) 4),
 .o (.load 6 (.r 5) 1 false),
 .o (.mkfn 7 86 [(.r 3)]),
 .o (.callf (some 8) (.st 85) [(.r 6), (.r 7)]),
 .o (.mov 4 (.r 8))]) .ret))
theorem A54_ok : okFun Tryz.prog 54 9 0 A54 [.tmp 4] [] = true := by kernel_rfl
/-- slices.Contains[[]int,int] -/
def A55 : ACode :=
 (.seq
 (.ops [.o (.mov 4 (.c (.bool false)))])
 (.seq
 (.ops [.o (.mov 5 (.r 0)),
 .o (.mov 6 (.r 1)),
 .o (.callf (some 7) (.st 87) [(.r 5), (.r 6)]),
 .o (.bin 8 .geq (.r 7) (.c (.int .i64 (0)))),
 .o (.mov 4 (.r 8))]) .ret))
theorem A55_ok : okFun Tryz.prog 55 9 0 A55 [.tmp 4] [] = true := by kernel_rfl
/-- (*dyehouse/graph.Graph).list -/
def A56 : ACode :=
 (.seq
 (.ops [.o (.mov 6 (.c (.sl [])))])
 (.seq
 (.seq
 (.ops [.o (.mov 7 (.r 1)),
 .o (.bin 8 .lss (.r 7) (.c (.int .i64 (0)))),
 .o (.mov 9 (.r 8)),
 .it (.grp 9 false [.mov 10 (.r 1), .mov 11 (.r 0), .callf (some 12) (.st 88) [(.r 11)], .bin 13 .geq (.r 10) (.r 12)]),
 .o (.pick 14 (.r 9) (.c (.bool true)) (.r 13))])
 (.cond (.r 14)
 (.seq
 (.ops [.o (.mov 6 (.c (.sl [])))]) .ret) .skip))
 (.seq
 (.draw [[], [0], [0, 1], [0, 1, 2], [], [4], [4, 5], [4, 5, 6], [0, 1, 2, 3, 4, 5, 6, 7], [], [0, 1, 2, 3, 4, 5, 6, 7, 8, 9], [], [0, 1, 2, 3, 4, 5, 6, 7, 8, 9, 10, 11], [0, 1, 2, 3, 4, 5, 6, 7, 8, 9, 10, 11, 12], [0, 1, 2, 3, 4, 5, 6, 7, 8, 9, 10, 11, 12, 13], [0, 1, 2, 3, 4, 5, 6, 7, 8, 9, 10, 11, 12, 13, 14]] [.one (.mov 15 (.r 0)),
 .one (.nilc 16 (.r 15)),
 .one (.fad 17 (.r 16) 0),
 .one (.load 18 (.r 17) 1 false),
 .one (.mov 19 (.r 0)),
 .one (.nilc 20 (.r 19)),
 .one (.fad 21 (.r 20) 1),
 .one (.load 22 (.r 21) 1 false),
 .one (.build 23 [.sl [], .sl []] [(0, 1, (.r 18)), (1, 1, (.r 22))]),
 .one (.mov 24 (.r 2)),
 .one (.vidx 25 (.r 23) (.r 24) 1 2 false),
 .one (.mov 26 (.r 1)),
 .one (.idx 27 (.r 25) (.r 26) 1),
 .one (.load 28 (.r 27) 1 false),
 .one (.callf (some 29) (.st 89) [(.r 28)]),
 .one (.mov 6 (.r 29))]) .ret)))
theorem A56_ok : okFun Tryz.prog 56 30 0 A56 [.tmp 6] [] = true := by kernel_rfl
/-- (*dyehouse/bits.Set).each -/
def A57 : ACode :=
 (.seq
 (.ops [.o (.mov 6 (.c (.bool false)))])
 (.seq
 (.seq
 (.ops [.o (.mov 12 (.r 0)),
 .o (.eq 13 false .nil (.r 12) (.c (.nilp))),
 .o (.mov 14 (.r 13)),
 .it (.grp 14 false [.mov 15 (.r 1), .eq 16 false .nil (.r 15) (.c (.nilp))]),
 .o (.pick 17 (.r 14) (.c (.bool true)) (.r 16))])
 (.cond (.r 17)
 (.seq
 (.ops [.o (.mov 6 (.c (.bool false)))]) .ret) .skip))
 (.seq
 (.ops [.o (.mov 7 (.c (.bool false)))])
 (.seq
 (.seq
 (.ops [.o (.mov 18 (.r 0)),
 .o (.nilc 19 (.r 18)),
 .o (.fad 20 (.r 19) 1),
 .o (.load 21 (.r 20) 1 false),
 .o (.len 22 (.r 21)),
 .o (.mov 23 (.c (.int .i64 (0))))])
 (.block 0
 (.loop (.pre (.mv [0, 1, 2, 7, 21, 22, 23] [(0, 0), (1, 1)])
 (.seq
 (.ops [.o (.bin 24 .lss (.r 23) (.r 22))])
 (.seq
 (.cond (.r 24) .skip (.exit 0))
 (.seq
 (.block 1
 (.seq
 (.ops [.o (.mov 25 (.r 23)),
 .o (.idx 26 (.r 21) (.r 23) 1),
 .o (.load 27 (.r 26) 1 false),
 .o (.mov 8 (.r 25)),
 .o (.mov 9 (.r 27))])
 (.seq
 (.ops [.o (.mov 10 (.c (.int .u64 (0))))])
 (.seq
 (.seq
 (.ops [.o (.mov 28 (.r 8)),
 .o (.mov 29 (.r 1)),
 .o (.nilc 30 (.r 29)),
 .o (.fad 31 (.r 30) 1),
 .o (.load 32 (.r 31) 1 false),
 .o (.len 33 (.r 32)),
 .o (.bin 34 .lss (.r 28) (.r 33))])
 (.cond (.r 34)
 (.ops [.o (.mov 35 (.r 1)),
 .o (.nilc 36 (.r 35)),
 .o (.fad 37 (.r 36) 1),
 .o (.load 38 (.r 37) 1 false),
 .o (.mov 39 (.r 8)),
 .o (.idx 40 (.r 38) (.r 39) 1),
 .o (.load 41 (.r 40) 1 false),
 .o (.mov 10 (.r 41))]) .skip))
 (.seq
 (.ops [.o (.mov 42 (.r 2)),
 .o (.mov 43 (.r 9)),
 .o (.mov 44 (.r 10)),
 .o (.callf (some 45) (.dy (.r 42)) [(.r 43), (.r 44)]),
 .o (.mov 46 (.r 0)),
 .o (.mov 47 (.r 8)),
 .o (.callb (some 48) (.st 90) [(.r 46), (.r 47)]),
 .o (.bin 49 .and (.r 45) (.r 48)),
 .o (.mov 11 (.r 49))])
 (.seq
 (.ops [.o (.mov 50 (.r 7)),
 .o (.mov 51 (.r 50)),
 .it (.grp 51 false [.mov 52 (.r 11), .mov 53 (.r 9), .bin 54 .neq (.r 52) (.r 53)]),
 .o (.pick 55 (.r 51) (.c (.bool true)) (.r 54)),
 .o (.mov 7 (.r 55))])
 (.ops [.o (.mov 56 (.r 0)),
 .o (.nilc 57 (.r 56)),
 .o (.fad 58 (.r 57) 1),
 .o (.load 59 (.r 58) 1 false),
 .o (.mov 60 (.r 8)),
 .o (.mov 61 (.r 11)),
 .o (.idx 62 (.r 59) (.r 60) 1),
 .o (.store (.r 62) (.r 61) 1)])))))))
 (.ops [.o (.bin 63 .add (.r 23) (.c (.int .i64 (1)))),
 .o (.mov 23 (.r 63))]))))))))
 (.seq
 (.ops [.o (.mov 64 (.r 7)),
 .o (.mov 6 (.r 64))]) .ret)))))
theorem A57_ok : okFun Tryz.prog 57 65 2 A57 [.tmp 6] [] = true := by kernel_rfl
/-- (*dyehouse/bits.Set).Or$1 -/
def A58 : ACode :=
 (.seq
 (.ops [.o (.mov 4 (.c (.int .u64 (0))))])
 (.seq
 (.ops [.o (.mov 5 (.r 0)),
 .o (.mov 6 (.r 1)),
 .o (.bin 7 .or (.r 5) (.r 6)),
 .o (.mov 4 (.r 7))]) .ret))
theorem A58_ok : okFun Tryz.prog 58 8 0 A58 [.tmp 4] [] = true := by kernel_rfl
/-- (*dyehouse/bits.Set).Copy -/
def A59 : ACode :=
 (.seq
 (.ops [.o (.mov 2 (.c (.nilp)))])
 (.seq
 (.seq
 (.ops [.o (.mov 3 (.r 0)),
 .o (.eq 4 false .nil (.r 3) (.c (.nilp)))])
 (.cond (.r 4)
 (.seq
 (.ops [.o (.mov 2 (.c (.nilp)))]) .ret) .skip))
 (.seq
 (.draw [[], [0], [0, 1], [0, 1, 2], [], [4], [4, 5], [4, 5, 6], [4, 5, 6, 7], [0, 1, 2, 3, 4, 5, 6, 7, 8], [0, 1, 2, 3, 4, 5, 6, 7, 8, 9], [0, 1, 2, 3, 4, 5, 6, 7, 8, 9, 10]] [.one (.mov 5 (.r 0)),
 .one (.nilc 6 (.r 5)),
 .one (.fad 7 (.r 6) 0),
 .one (.load 8 (.r 7) 1 false),
 .one (.mov 9 (.r 0)),
 .one (.nilc 10 (.r 9)),
 .one (.fad 11 (.r 10) 1),
 .one (.load 12 (.r 11) 1 false),
 .one (.callo (some 13) (.st 91) [(.r 12)] [] [13]),
 .one (.buildm 14 [.int .i64 (0), .sl []] [(0, 1, (.r 8)), (1, 1, (.r 13))]),
 .one (.boxg 15 15 (.r 14)),
 .one (.mov 2 (.r 15))]) .ret)))
theorem A59_ok : okFun Tryz.prog 59 16 0 A59 [.tmp 2] [15, 13] = true := by kernel_rfl
/-- dyehouse/live.backward[dyehouse/api.Instr] -/
def A60 : ACode :=
 (.seq
 (.ops [.o (.mov 5 (.r 0)),
 .o (.len 6 (.r 5)),
 .o (.bin 7 .sub (.r 6) (.c (.int .i64 (1)))),
 .o (.mov 4 (.r 7))])
 (.block 0
 (.loop (.pre (.mv [0, 1, 4] [(0, 0), (1, 1), (2, 2)])
 (.seq
 (.seq
 (.ops [.o (.mov 8 (.r 4)),
 .o (.bin 9 .geq (.r 8) (.c (.int .i64 (0))))])
 (.cond (.r 9) .skip (.exit 0)))
 (.seq
 (.block 1
 (.ops [.o (.mov 12 (.r 1)),
 .o (.mov 13 (.r 4)),
 .o (.mov 14 (.r 0)),
 .o (.mov 15 (.r 4)),
 .o (.idx 16 (.r 14) (.r 15) 10),
 .o (.load 17 (.r 16) 10 true),
 .o (.callo (some 18) (.dy (.r 12)) [(.r 13), (.r 17)] [0, 1, 2] [])]))
 (.ops [.o (.mov 10 (.r 4)),
 .o (.bin 11 .sub (.r 10) (.c (.int .i64 (1)))),
 .o (.mov 4 (.r 11))])))))))
theorem A60_ok : okFun Tryz.prog 60 19 3 A60 [] [] = true := by kernel_rfl
/-- (*dyehouse/live.Live).upTo$1 -/
def A61 : ACode :=
 (.seq
 (.ops [.o (.boxp 5 (.r 1))])
 (.ops [.o (.load 6 (.r 2) 1 false),
 .o (.load 7 (.r 3) 1 false),
 .o (.load 8 (.r 5) 10 true),
 .o (.callo (some 9) (.st 62) [(.r 6), (.r 7), (.r 8)] [1, 2] [])]))
theorem A61_ok : okFun Tryz.prog 61 10 3 A61 [] [] = true := by kernel_rfl
/-- (*dyehouse/live.Live).ahead -/
def A62 : ACode :=
 (.seq
 (.ops [.o (.boxp 5 (.r 2))])
 (.seq
 (.seq
 (.ops [.o (.fad 8 (.r 5) 1),
 .o (.fad 9 (.r 8) 0),
 .o (.load 10 (.r 9) 1 false),
 .o (.bin 11 .eql (.r 10) (.c (.int .i64 (1))))])
 (.cond (.r 11)
 (.ops [.o (.mov 12 (.r 1)),
 .o (.mov 13 (.r 0)),
 .o (.fad 14 (.r 5) 1),
 .o (.fad 15 (.r 14) 2),
 .o (.load 16 (.r 15) 1 false),
 .o (.callf (some 17) (.st 43) [(.r 13), (.r 16)]),
 .o (.callo (some 18) (.st 47) [(.r 12), (.r 17)] [0, 1] [])]) .skip))
 (.seq
 (.ops [.o (.fad 19 (.r 5) 5),
 .o (.load 20 (.r 19) 1 false),
 .o (.len 21 (.r 20)),
 .o (.mov 22 (.c (.int .i64 (0))))])
 (.block 0
 (.loop (.pre (.mv [0, 1, 20, 21, 22] [(0, 0), (1, 1)])
 (.seq
 (.ops [.o (.bin 23 .lss (.r 22) (.r 21))])
 (.seq
 (.cond (.r 23) .skip (.exit 0))
 (.seq
 (.block 1
 (.seq
 (.post (.ops [.o (.idx 24 (.r 20) (.r 22) 4),
 .o (.load 25 (.r 24) 4 true),
 .o (.alloc 7 7 [.int .i64 0, .int .i64 0, .int .i64 0, .int .i64 0]),
 .o (.store (.r 7) (.r 25) 4)]) (.frz 7))
 (.seq
 (.ops [.o (.fad 26 (.r 7) 0),
 .o (.load 27 (.r 26) 1 false),
 .o (.bin 28 .eql (.r 27) (.c (.int .i64 (1))))])
 (.cond (.r 28)
 (.ops [.o (.mov 29 (.r 1)),
 .o (.mov 30 (.r 0)),
 .o (.fad 31 (.r 7) 2),
 .o (.load 32 (.r 31) 1 false),
 .o (.callf (some 33) (.st 43) [(.r 30), (.r 32)]),
 .o (.callo (some 34) (.st 65) [(.r 29), (.r 33)] [0, 1] [])]) .skip))))
 (.ops [.o (.bin 35 .add (.r 22) (.c (.int .i64 (1)))),
 .o (.mov 22 (.r 35))]))))))))))
theorem A62_ok : okFun Tryz.prog 62 36 2 A62 [] [] = true := by kernel_rfl
/-- (*dyehouse/point.Table).Block -/
def A63 : ACode :=
 (.seq
 (.ops [.o (.mov 4 (.c (.int .i64 (0))))])
 (.seq
 (.seq
 (.ops [.o (.mov 7 (.r 1)),
 .o (.bin 8 .lss (.r 7) (.c (.int .i64 (0))))])
 (.cond (.r 8)
 (.seq
 (.ops [.o (.mov 4 (.c (.int .i64 (-1))))]) .ret) .skip))
 (.seq
 (.ops [.o (.mov 10 (.r 0)),
 .o (.mov 11 (.r 1)),
 .o (.bin 12 .quo (.r 11) (.c (.int .i64 (2)))),
 .o (.callf (some 13) (.st 64) [(.r 10), (.r 12)]),
 .o (.mov 9 (.r 13)),
 .o (.ext 14 (.r 9) 0),
 .o (.ext 15 (.r 9) 1),
 .o (.mov 5 (.r 14)),
 .o (.mov 6 (.r 15))])
 (.seq
 (.seq
 (.ops [.o (.mov 16 (.r 5)),
 .o (.bin 17 .geq (.r 16) (.c (.int .i64 (0)))),
 .o (.mov 18 (.r 17)),
 .it (.grp 18 true [.mov 19 (.r 1), .bin 20 .rem (.r 19) (.c (.int .i64 (2))), .bin 21 .eql (.r 20) (.c (.int .i64 (1)))]),
 .o (.pick 22 (.r 18) (.r 21) (.c (.bool false))),
 .o (.mov 23 (.r 22)),
 .it (.grp 23 true [.mov 24 (.r 0), .mov 25 (.r 5), .mov 26 (.r 6), .callf (some 27) (.st 92) [(.r 24), (.r 25), (.r 26)], .bin 28 .lss (.r 27) (.c (.int .i64 (0)))]),
 .o (.pick 29 (.r 23) (.r 28) (.c (.bool false)))])
 (.cond (.r 29)
 (.seq
 (.ops [.o (.mov 4 (.c (.int .i64 (-1))))]) .ret) .skip))
 (.seq
 (.ops [.o (.mov 30 (.r 5)),
 .o (.mov 4 (.r 30))]) .ret)))))
theorem A63_ok : okFun Tryz.prog 63 31 0 A63 [.tmp 4] [] = true := by kernel_rfl
/-- (*dyehouse/point.Table).Where -/
def A64 : ACode :=
 (.seq
 (.ops [.o (.mov 4 (.c (.int .i64 (0)))),
 .o (.mov 5 (.c (.int .i64 (0))))])
 (.seq
 (.seq
 (.ops [.o (.mov 8 (.r 1)),
 .o (.bin 9 .lss (.r 8) (.c (.int .i64 (0)))),
 .o (.mov 10 (.r 9)),
 .it (.grp 10 false [.mov 11 (.r 1), .mov 12 (.r 0), .callf (some 13) (.st 41) [(.r 12)], .bin 14 .geq (.r 11) (.r 13)]),
 .o (.pick 15 (.r 10) (.c (.bool true)) (.r 14))])
 (.cond (.r 15)
 (.seq
 (.ops [.o (.mov 4 (.c (.int .i64 (-1)))),
 .o (.mov 5 (.c (.int .i64 (-1))))]) .ret) .skip))
 (.seq
 (.ops [.o (.mov 17 (.r 0)),
 .o (.nilc 18 (.r 17)),
 .o (.fad 19 (.r 18) 0),
 .o (.load 20 (.r 19) 1 false),
 .o (.mov 21 (.r 1)),
 .o (.bin 22 .add (.r 21) (.c (.int .i64 (1)))),
 .o (.callf (some 23) (.st 69) [(.r 20), (.r 22)]),
 .o (.mov 16 (.r 23)),
 .o (.ext 24 (.r 16) 0),
 .o (.ext 25 (.r 16) 1),
 .o (.mov 6 (.r 24)),
 .o (.mov 7 (.r 25))])
 (.seq
 (.seq
 (.ops [.o (.mov 26 (.r 7)),
 .o (.mov 27 (.r 26)),
 .it (.grp 27 false [.mov 28 (.r 6), .bin 29 .gtr (.r 28) (.c (.int .i64 (0)))]),
 .o (.pick 30 (.r 27) (.c (.bool true)) (.r 29))])
 (.cond (.r 30)
 (.ops [.o (.mov 31 (.r 6)),
 .o (.bin 32 .sub (.r 31) (.c (.int .i64 (1)))),
 .o (.mov 6 (.r 32))]) .skip))
 (.seq
 (.draw [[], [], [], [2], [2, 3], [2, 3, 4], [], [2, 3, 4, 5, 6], [2, 3, 4, 5, 6, 7], [1, 2, 3, 4, 5, 6, 7, 8], [0], [0, 1, 2, 3, 4, 5, 6, 7, 8, 9, 10]] [.one (.mov 33 (.r 6)),
 .one (.mov 34 (.r 1)),
 .one (.mov 35 (.r 0)),
 .one (.nilc 36 (.r 35)),
 .one (.fad 37 (.r 36) 0),
 .one (.load 38 (.r 37) 1 false),
 .one (.mov 39 (.r 6)),
 .one (.idx 40 (.r 38) (.r 39) 1),
 .one (.load 41 (.r 40) 1 false),
 .one (.bin 42 .sub (.r 34) (.r 41)),
 .one (.mov 4 (.r 33)),
 .one (.mov 5 (.r 42))]) .ret)))))
theorem A64_ok : okFun Tryz.prog 64 43 0 A64 [.tmp 4, .tmp 5] [] = true := by kernel_rfl
/-- (*dyehouse/bits.Set).Add -/
def A65 : ACode :=
 (.seq
 (.ops [.o (.mov 4 (.c (.bool false)))])
 (.seq
 (.seq
 (.ops [.o (.mov 5 (.r 0)),
 .o (.mov 6 (.r 1)),
 .o (.callb (some 7) (.st 72) [(.r 5), (.r 6)]),
 .o (.un 8 .not (.r 7)),
 .o (.mov 9 (.r 8)),
 .it (.grp 9 false [.mov 10 (.r 0), .mov 11 (.r 1), .callb (some 12) (.st 45) [(.r 10), (.r 11)]]),
 .o (.pick 13 (.r 9) (.c (.bool true)) (.r 12))])
 (.cond (.r 13)
 (.seq
 (.ops [.o (.mov 4 (.c (.bool false)))]) .ret) .skip))
 (.seq
 (.draw [[], [0], [0, 1], [0, 1, 2], [], [4], [0, 1, 2, 3, 4, 5], [0, 1, 2, 3, 4, 5, 6], [], [8], [8, 9], [0, 1, 2, 3, 4, 5, 6, 7, 8, 9, 10], [0, 1, 2, 3, 4, 5, 6, 7, 8, 9, 10, 11], [0, 1, 2, 3, 4, 5, 6, 7, 8, 9, 10, 11, 12]] [.one (.mov 14 (.r 0)),
 .one (.nilc 15 (.r 14)),
 .one (.fad 16 (.r 15) 1),
 .one (.load 17 (.r 16) 1 false),
 .one (.mov 18 (.r 1)),
 .one (.bin 19 .quo (.r 18) (.c (.int .i64 (64)))),
 .one (.idx 20 (.r 17) (.r 19) 1),
 .one (.load 21 (.r 20) 1 false),
 .one (.mov 22 (.r 1)),
 .one (.bin 23 .rem (.r 22) (.c (.int .i64 (64)))),
 .one (.bin 24 .shl (.c (.int .u64 (1))) (.r 23)),
 .one (.bin 25 .or (.r 21) (.r 24)),
 .one (.idx 26 (.r 17) (.r 19) 1),
 .one (.store (.r 26) (.r 25) 1)])
 (.seq
 (.ops [.o (.mov 4 (.c (.bool true)))]) .ret))))
theorem A65_ok : okFun Tryz.prog 65 27 2 A65 [.tmp 4] [] = true := by kernel_rfl
/-- (*dyehouse/bits.Set).All -/
def A66 : ACode :=
 (.seq
 (.ops [.o (.mov 2 (.c (.nilf)))])
 (.seq
 (.seq
 (.ops [.o (.mov 3 (.r 0)),
 .o (.eq 4 false .nil (.r 3) (.c (.nilp)))])
 (.cond (.r 4)
 (.seq
 (.ops [.o (.callf (some 5) (.st 93) [(.c (.sl []))]),
 .o (.mov 2 (.r 5))]) .ret) .skip))
 (.seq
 (.ops [.o (.mov 6 (.r 0)),
 .o (.mkmv 7 94 [(.r 6)]),
 .o (.mov 2 (.r 7))]) .ret)))
theorem A66_ok : okFun Tryz.prog 66 8 0 A66 [.tmp 2] [] = true := by kernel_rfl
/-- dyehouse/point.nth[int] -/
def A67 : ACode :=
 (.seq
 (.ops [.o (.mov 6 (.c (.int .i64 (0))))])
 (.seq
 (.seq
 (.ops [.o (.mov 7 (.r 1)),
 .o (.bin 8 .lss (.r 7) (.c (.int .i64 (0)))),
 .o (.mov 9 (.r 8)),
 .it (.grp 9 false [.mov 10 (.r 1), .mov 11 (.r 0), .len 12 (.r 11), .bin 13 .geq (.r 10) (.r 12)]),
 .o (.pick 14 (.r 9) (.c (.bool true)) (.r 13))])
 (.cond (.r 14)
 (.seq
 (.ops [.o (.mov 15 (.r 2)),
 .o (.mov 6 (.r 15))]) .ret) .skip))
 (.seq
 (.ops [.o (.mov 16 (.r 0)),
 .o (.mov 17 (.r 1)),
 .o (.idx 18 (.r 16) (.r 17) 1),
 .o (.load 19 (.r 18) 1 false),
 .o (.mov 6 (.r 19))]) .ret)))
theorem A67_ok : okFun Tryz.prog 67 20 0 A67 [.tmp 6] [] = true := by kernel_rfl
/-- (*dyehouse/point.Table).Blocks -/
def A68 : ACode :=
 (.seq
 (.ops [.o (.mov 2 (.c (.int .i64 (0))))])
 (.seq
 (.seq
 (.ops [.o (.mov 3 (.r 0)),
 .o (.eq 4 false .nil (.r 3) (.c (.nilp))),
 .o (.mov 5 (.r 4)),
 .it (.grp 5 false [.mov 6 (.r 0), .nilc 7 (.r 6), .fad 8 (.r 7) 0, .load 9 (.r 8) 1 false, .len 10 (.r 9), .bin 11 .eql (.r 10) (.c (.int .i64 (0)))]),
 .o (.pick 12 (.r 5) (.c (.bool true)) (.r 11))])
 (.cond (.r 12)
 (.seq
 (.ops [.o (.mov 2 (.c (.int .i64 (0))))]) .ret) .skip))
 (.seq
 (.ops [.o (.mov 13 (.r 0)),
 .o (.nilc 14 (.r 13)),
 .o (.fad 15 (.r 14) 0),
 .o (.load 16 (.r 15) 1 false),
 .o (.len 17 (.r 16)),
 .o (.bin 18 .sub (.r 17) (.c (.int .i64 (1)))),
 .o (.mov 2 (.r 18))]) .ret)))
theorem A68_ok : okFun Tryz.prog 68 19 0 A68 [.tmp 2] [] = true := by kernel_rfl
/-- slices.BinarySearch[[]int,int] -/
def A69 : ACode :=
 (.seq
 (.ops [.o (.mov 4 (.c (.int .i64 (0)))),
 .o (.mov 5 (.c (.bool false)))])
 (.seq
 (.ops [.o (.mov 10 (.r 0)),
 .o (.len 11 (.r 10)),
 .o (.mov 6 (.r 11))])
 (.seq
 (.ops [.o (.mov 12 (.r 6)),
 .o (.mov 7 (.c (.int .i64 (0)))),
 .o (.mov 8 (.r 12))])
 (.seq
 (.block 0
 (.loop (.pre (.mv [0, 1, 6, 7, 8] [])
 (.seq
 (.seq
 (.ops [.o (.mov 13 (.r 7)),
 .o (.mov 14 (.r 8)),
 .o (.bin 15 .lss (.r 13) (.r 14))])
 (.cond (.r 15) .skip (.exit 0)))
 (.block 1
 (.seq
 (.ops [.o (.mov 16 (.r 7)),
 .o (.mov 17 (.r 8)),
 .o (.bin 18 .add (.r 16) (.r 17)),
 .o (.conv 19 .u64 (.r 18)),
 .o (.bin 20 .shr (.r 19) (.c (.int .u64 (1)))),
 .o (.conv 21 .i64 (.r 20)),
 .o (.mov 9 (.r 21))])
 (.seq
 (.ops [.o (.mov 22 (.r 0)),
 .o (.mov 23 (.r 9)),
 .o (.idx 24 (.r 22) (.r 23) 1),
 .o (.load 25 (.r 24) 1 false),
 .o (.mov 26 (.r 1)),
 .o (.callf (some 27) (.st 79) [(.r 25), (.r 26)])])
 (.cond (.r 27)
 (.ops [.o (.mov 28 (.r 9)),
 .o (.bin 29 .add (.r 28) (.c (.int .i64 (1)))),
 .o (.mov 7 (.r 29))])
 (.ops [.o (.mov 30 (.r 9)),
 .o (.mov 8 (.r 30))])))))))))
 (.seq
 (.ops [.o (.mov 31 (.r 7)),
 .o (.mov 32 (.r 7)),
 .o (.mov 33 (.r 6)),
 .o (.bin 34 .lss (.r 32) (.r 33)),
 .o (.mov 35 (.r 34)),
 .it (.grp 35 true [.mov 36 (.r 0), .mov 37 (.r 7), .idx 38 (.r 36) (.r 37) 1, .load 39 (.r 38) 1 false, .mov 40 (.r 1), .bin 41 .eql (.r 39) (.r 40), .mov 42 (.r 41)]),
 .it (.grp 42 false [.mov 43 (.r 0), .mov 44 (.r 7), .idx 45 (.r 43) (.r 44) 1, .load 46 (.r 45) 1 false, .callf (some 47) (.st 95) [(.r 46)], .mov 48 (.r 47)]),
 .it (.grp 48 true [.mov 49 (.r 1), .callf (some 50) (.st 95) [(.r 49)]]),
 .it (.grp 42 false [.pick 51 (.r 48) (.r 50) (.c (.bool false))]),
 .it (.grp 35 true [.pick 52 (.r 42) (.c (.bool true)) (.r 51)]),
 .o (.pick 53 (.r 35) (.r 52) (.c (.bool false))),
 .o (.mov 4 (.r 31)),
 .o (.mov 5 (.r 53))]) .ret)))))
theorem A69_ok : okFun Tryz.prog 69 54 0 A69 [.tmp 4, .tmp 5] [] = true := by kernel_rfl
/-- (*dyehouse/point.Table).Len -/
def A70 : ACode :=
 (.seq
 (.ops [.o (.mov 4 (.c (.int .i64 (0))))])
 (.seq
 (.seq
 (.ops [.o (.mov 5 (.r 1)),
 .o (.bin 6 .lss (.r 5) (.c (.int .i64 (0)))),
 .o (.mov 7 (.r 6)),
 .it (.grp 7 false [.mov 8 (.r 1), .mov 9 (.r 0), .callf (some 10) (.st 68) [(.r 9)], .bin 11 .geq (.r 8) (.r 10)]),
 .o (.pick 12 (.r 7) (.c (.bool true)) (.r 11))])
 (.cond (.r 12)
 (.seq
 (.ops [.o (.mov 4 (.c (.int .i64 (0))))]) .ret) .skip))
 (.seq
 (.draw [[], [0], [0, 1], [0, 1, 2], [], [4], [0, 1, 2, 3, 4, 5], [0, 1, 2, 3, 4, 5, 6], [], [8], [8, 9], [8, 9, 10], [], [8, 9, 10, 11, 12], [8, 9, 10, 11, 12, 13], [0, 1, 2, 3, 4, 5, 6, 7, 8, 9, 10, 11, 12, 13, 14], [0, 1, 2, 3, 4, 5, 6, 7, 8, 9, 10, 11, 12, 13, 14, 15]] [.one (.mov 13 (.r 0)),
 .one (.nilc 14 (.r 13)),
 .one (.fad 15 (.r 14) 0),
 .one (.load 16 (.r 15) 1 false),
 .one (.mov 17 (.r 1)),
 .one (.bin 18 .add (.r 17) (.c (.int .i64 (1)))),
 .one (.idx 19 (.r 16) (.r 18) 1),
 .one (.load 20 (.r 19) 1 false),
 .one (.mov 21 (.r 0)),
 .one (.nilc 22 (.r 21)),
 .one (.fad 23 (.r 22) 0),
 .one (.load 24 (.r 23) 1 false),
 .one (.mov 25 (.r 1)),
 .one (.idx 26 (.r 24) (.r 25) 1),
 .one (.load 27 (.r 26) 1 false),
 .one (.bin 28 .sub (.r 20) (.r 27)),
 .one (.mov 4 (.r 28))]) .ret)))
theorem A70_ok : okFun Tryz.prog 70 29 0 A70 [.tmp 4] [] = true := by kernel_rfl
/-- (*dyehouse/point.Table).Ahead -/
def A71 : ACode :=
 (.seq
 (.ops [.o (.mov 6 (.c (.int .i64 (0))))])
 (.seq
 (.ops [.o (.mov 8 (.r 0)),
 .o (.mov 9 (.r 1)),
 .o (.mov 10 (.r 2)),
 .o (.callf (some 11) (.st 46) [(.r 8), (.r 9), (.r 10)]),
 .o (.mov 7 (.r 11))])
 (.seq
 (.seq
 (.ops [.o (.mov 12 (.r 7)),
 .o (.bin 13 .lss (.r 12) (.c (.int .i64 (0))))])
 (.cond (.r 13)
 (.seq
 (.ops [.o (.mov 6 (.c (.int .i64 (-1))))]) .ret) .skip))
 (.seq
 (.ops [.o (.mov 14 (.r 7)),
 .o (.bin 15 .mul (.c (.int .i64 (2))) (.r 14)),
 .o (.mov 6 (.r 15))]) .ret))))
theorem A71_ok : okFun Tryz.prog 71 16 0 A71 [.tmp 6] [] = true := by kernel_rfl
/-- (*dyehouse/bits.Set).in -/
def A72 : ACode :=
 (.seq
 (.ops [.o (.mov 4 (.c (.bool false)))])
 (.seq
 (.ops [.o (.mov 5 (.r 0)),
 .o (.eq 6 true .nil (.r 5) (.c (.nilp))),
 .o (.mov 7 (.r 6)),
 .it (.grp 7 true [.mov 8 (.r 1), .bin 9 .geq (.r 8) (.c (.int .i64 (0)))]),
 .o (.pick 10 (.r 7) (.r 9) (.c (.bool false))),
 .o (.mov 11 (.r 10)),
 .it (.grp 11 true [.mov 12 (.r 1), .mov 13 (.r 0), .nilc 14 (.r 13), .fad 15 (.r 14) 0, .load 16 (.r 15) 1 false, .bin 17 .lss (.r 12) (.r 16)]),
 .o (.pick 18 (.r 11) (.r 17) (.c (.bool false))),
 .o (.mov 4 (.r 18))]) .ret))
theorem A72_ok : okFun Tryz.prog 72 19 0 A72 [.tmp 4] [] = true := by kernel_rfl
/-- slices.insertionSortOrdered[int] -/
def A73 : ACode :=
 (.seq
 (.ops [.o (.mov 8 (.r 1)),
 .o (.bin 9 .add (.r 8) (.c (.int .i64 (1)))),
 .o (.mov 6 (.r 9))])
 (.block 0
 (.loop (.pre (.mv [0, 1, 2, 6] [(0, 0)])
 (.seq
 (.seq
 (.ops [.o (.mov 10 (.r 6)),
 .o (.mov 11 (.r 2)),
 .o (.bin 12 .lss (.r 10) (.r 11))])
 (.cond (.r 12) .skip (.exit 0)))
 (.seq
 (.block 1
 (.seq
 (.ops [.o (.mov 15 (.r 6)),
 .o (.mov 7 (.r 15))])
 (.block 2
 (.loop (.pre (.mv [0, 1, 2, 6, 7] [(0, 0)])
 (.seq
 (.seq
 (.draw [[], [], [0, 1], [0, 1, 2], [0, 1, 2, 3], [0, 1, 2, 3], [0, 1, 2, 3, 4, 5], [0, 1, 2, 3, 4, 5, 6], [0, 1, 2, 3], [0, 1, 2, 3], [0, 1, 2, 3, 9], [0, 1, 2, 3, 8, 9, 10], [0, 1, 2, 3, 8, 9, 10, 11], [0, 1, 2, 3, 4, 5, 6, 7, 8, 9, 10, 11, 12], [0, 1, 2, 3, 4, 5, 6, 7, 8, 9, 10, 11, 12, 13]] [.one (.mov 16 (.r 7)),
 .one (.mov 17 (.r 1)),
 .one (.bin 18 .gtr (.r 16) (.r 17)),
 .one (.mov 19 (.r 18)),
 .grp 19 true [.mov 20 (.r 0), .mov 21 (.r 7), .idx 22 (.r 20) (.r 21) 1, .load 23 (.r 22) 1 false, .mov 24 (.r 0), .mov 25 (.r 7), .bin 26 .sub (.r 25) (.c (.int .i64 (1))), .idx 27 (.r 24) (.r 26) 1, .load 28 (.r 27) 1 false, .callf (some 29) (.st 79) [(.r 23), (.r 28)]],
 .one (.pick 30 (.r 19) (.r 29) (.c (.bool false)))])
 (.cond (.r 30) .skip (.exit 2)))
 (.seq
 (.block 3
 (.draw [[], [], [], [], [3], [], [], [6], [5, 6, 7], [5, 6, 7, 8], [], [], [10, 11], [10, 11, 12], [0, 1, 5, 6, 7, 8, 9, 10, 11, 12, 13], [0, 1, 5, 6, 7, 8, 9, 10, 11, 12, 13, 14], [0, 1, 2, 3, 4, 5, 6, 7, 8, 9, 10, 11, 12, 13, 14, 15], [0, 1, 2, 3, 4, 5, 6, 7, 8, 9, 10, 11, 12, 13, 14, 15, 16]] [.one (.mov 33 (.r 0)),
 .one (.mov 34 (.r 7)),
 .one (.mov 35 (.r 0)),
 .one (.mov 36 (.r 7)),
 .one (.bin 37 .sub (.r 36) (.c (.int .i64 (1)))),
 .one (.mov 38 (.r 0)),
 .one (.mov 39 (.r 7)),
 .one (.bin 40 .sub (.r 39) (.c (.int .i64 (1)))),
 .one (.idx 41 (.r 38) (.r 40) 1),
 .one (.load 42 (.r 41) 1 false),
 .one (.mov 43 (.r 0)),
 .one (.mov 44 (.r 7)),
 .one (.idx 45 (.r 43) (.r 44) 1),
 .one (.load 46 (.r 45) 1 false),
 .one (.idx 47 (.r 33) (.r 34) 1),
 .one (.store (.r 47) (.r 42) 1),
 .one (.idx 48 (.r 35) (.r 37) 1),
 .one (.store (.r 48) (.r 46) 1)]))
 (.ops [.o (.mov 31 (.r 7)),
 .o (.bin 32 .sub (.r 31) (.c (.int .i64 (1)))),
 .o (.mov 7 (.r 32))]))))))))
 (.ops [.o (.mov 13 (.r 6)),
 .o (.bin 14 .add (.r 13) (.c (.int .i64 (1)))),
 .o (.mov 6 (.r 14))])))))))
theorem A73_ok : okFun Tryz.prog 73 49 1 A73 [] [] = true := by kernel_rfl
/-- cmp.Less[int] -/
def A79 : ACode :=
 (.seq
 (.ops [.o (.mov 4 (.c (.bool false)))])
 (.seq
 (.ops [.o (.mov 5 (.r 0)),
 .o (.callf (some 6) (.st 101) [(.r 5)]),
 .o (.mov 7 (.r 6)),
 .it (.grp 7 true [.mov 8 (.r 1), .callf (some 9) (.st 101) [(.r 8)], .un 10 .not (.r 9)]),
 .o (.pick 11 (.r 7) (.r 10) (.c (.bool false))),
 .o (.mov 12 (.r 11)),
 .it (.grp 12 false [.mov 13 (.r 0), .mov 14 (.r 1), .bin 15 .lss (.r 13) (.r 14)]),
 .o (.pick 16 (.r 12) (.c (.bool true)) (.r 15)),
 .o (.mov 4 (.r 16))]) .ret))
theorem A79_ok : okFun Tryz.prog 79 17 0 A79 [.tmp 4] [] = true := by kernel_rfl
/-- math/bits.Len64 -/
def A83 : ACode :=
 (.seq
 (.ops [.o (.mov 2 (.c (.int .i64 (0))))])
 (.seq
 (.seq
 (.ops [.o (.mov 3 (.r 0)),
 .o (.bin 4 .geq (.r 3) (.c (.int .u64 (4294967296))))])
 (.cond (.r 4)
 (.seq
 (.ops [.o (.mov 5 (.r 0)),
 .o (.bin 6 .shr (.r 5) (.c (.int .u64 (32)))),
 .o (.mov 0 (.r 6))])
 (.ops [.o (.mov 2 (.c (.int .i64 (32))))])) .skip))
 (.seq
 (.seq
 (.ops [.o (.mov 7 (.r 0)),
 .o (.bin 8 .geq (.r 7) (.c (.int .u64 (65536))))])
 (.cond (.r 8)
 (.seq
 (.ops [.o (.mov 9 (.r 0)),
 .o (.bin 10 .shr (.r 9) (.c (.int .u64 (16)))),
 .o (.mov 0 (.r 10))])
 (.ops [.o (.mov 11 (.r 2)),
 .o (.bin 12 .add (.r 11) (.c (.int .i64 (16)))),
 .o (.mov 2 (.r 12))])) .skip))
 (.seq
 (.seq
 (.ops [.o (.mov 13 (.r 0)),
 .o (.bin 14 .geq (.r 13) (.c (.int .u64 (256))))])
 (.cond (.r 14)
 (.seq
 (.ops [.o (.mov 15 (.r 0)),
 .o (.bin 16 .shr (.r 15) (.c (.int .u64 (8)))),
 .o (.mov 0 (.r 16))])
 (.ops [.o (.mov 17 (.r 2)),
 .o (.bin 18 .add (.r 17) (.c (.int .i64 (8)))),
 .o (.mov 2 (.r 18))])) .skip))
 (.seq
 (.ops [.o (.mov 19 (.r 2)),
 .o (.mov 20 (.r 0)),
 .o (.conv 21 .u8 (.r 20)),
 .o (.sidx 22 (.c (.str ⟨#[0, 1, 2, 2, 3, 3, 3, 3, 4, 4, 4, 4, 4, 4, 4, 4, 5, 5, 5, 5, 5, 5, 5, 5, 5, 5, 5, 5, 5, 5, 5, 5, 6, 6, 6, 6, 6, 6, 6, 6, 6, 6, 6, 6, 6, 6, 6, 6, 6, 6, 6, 6, 6, 6, 6, 6, 6, 6, 6, 6, 6, 6, 6, 6, 7, 7, 7, 7, 7, 7, 7, 7, 7, 7, 7, 7, 7, 7, 7, 7, 7, 7, 7, 7, 7, 7, 7, 7, 7, 7, 7, 7, 7, 7, 7, 7, 7, 7, 7, 7, 7, 7, 7, 7, 7, 7, 7, 7, 7, 7, 7, 7, 7, 7, 7, 7, 7, 7, 7, 7, 7, 7, 7, 7, 7, 7, 7, 7, 8, 8, 8, 8, 8, 8, 8, 8, 8, 8, 8, 8, 8, 8, 8, 8, 8, 8, 8, 8, 8, 8, 8, 8, 8, 8, 8, 8, 8, 8, 8, 8, 8, 8, 8, 8, 8, 8, 8, 8, 8, 8, 8, 8, 8, 8, 8, 8, 8, 8, 8, 8, 8, 8, 8, 8, 8, 8, 8, 8, 8, 8, 8, 8, 8, 8, 8, 8, 8, 8, 8, 8, 8, 8, 8, 8, 8, 8, 8, 8, 8, 8, 8, 8, 8, 8, 8, 8, 8, 8, 8, 8, 8, 8, 8, 8, 8, 8, 8, 8, 8, 8, 8, 8, 8, 8, 8, 8, 8, 8, 8, 8, 8, 8, 8, 8, 8, 8, 8, 8, 8, 8, 8, 8, 8, 8, 8, 8]⟩)) (.r 21)),
 .o (.conv 23 .i64 (.r 22)),
 .o (.bin 24 .add (.r 19) (.r 23)),
 .o (.mov 2 (.r 24))]) .ret)))))
theorem A83_ok : okFun Tryz.prog 83 25 0 A83 [.tmp 2] [] = true := by kernel_rfl
/-- dyehouse/op.Last -/
def A84 : ACode :=
 (.seq
 (.ops [.o (.mov 2 (.c (.bool false)))])
 (.seq
 (.ops [.o (.mov 3 (.r 0)),
 .o (.bin 4 .geq (.r 3) (.c (.int .i64 (20)))),
 .o (.mov 5 (.r 4)),
 .it (.grp 5 true [.mov 6 (.r 0), .bin 7 .leq (.r 6) (.c (.int .i64 (23)))]),
 .o (.pick 8 (.r 5) (.r 7) (.c (.bool false))),
 .o (.mov 2 (.r 8))]) .ret))
theorem A84_ok : okFun Tryz.prog 84 9 0 A84 [.tmp 2] [] = true := by kernel_rfl
/-- slices.IndexFunc[[]dyehouse/api.Block,dyehouse/api.Block] -/
def A85 : ACode :=
 (.seq
 (.ops [.o (.mov 4 (.c (.int .i64 (0))))])
 (.seq
 (.seq
 (.ops [.o (.mov 6 (.r 0)),
 .o (.len 7 (.r 6)),
 .o (.mov 8 (.c (.int .i64 (0))))])
 (.block 0
 (.loop (.pre (.mv [0, 1, 7, 8] [])
 (.seq
 (.ops [.o (.bin 9 .lss (.r 8) (.r 7))])
 (.seq
 (.cond (.r 9) .skip (.exit 0))
 (.seq
 (.block 1
 (.seq
 (.ops [.o (.mov 10 (.r 8)),
 .o (.mov 5 (.r 10))])
 (.seq
 (.ops [.o (.mov 11 (.r 1)),
 .o (.mov 12 (.r 0)),
 .o (.mov 13 (.r 5)),
 .o (.idx 14 (.r 12) (.r 13) 4),
 .o (.load 15 (.r 14) 4 true),
 .o (.callf (some 16) (.dy (.r 11)) [(.r 15)])])
 (.cond (.r 16)
 (.seq
 (.ops [.o (.mov 17 (.r 5)),
 .o (.mov 4 (.r 17))]) .ret) .skip))))
 (.ops [.o (.bin 18 .add (.r 8) (.c (.int .i64 (1)))),
 .o (.mov 8 (.r 18))]))))))))
 (.seq
 (.ops [.o (.mov 4 (.c (.int .i64 (-1))))]) .ret)))
theorem A85_ok : okFun Tryz.prog 85 19 0 A85 [.tmp 4] [] = true := by kernel_rfl
/-- dyehouse/ir.Find$1 -/
def A86 : ACode :=
 (.seq
 (.ops [.o (.boxp 2 (.r 0)),
 .o (.mov 3 (.c (.bool false)))])
 (.seq
 (.ops [.o (.fad 4 (.r 2) 0),
 .o (.load 5 (.r 4) 1 false),
 .o (.load 6 (.r 1) 1 false),
 .o (.bin 7 .eql (.r 5) (.r 6)),
 .o (.mov 3 (.r 7))]) .ret))
theorem A86_ok : okFun Tryz.prog 86 8 0 A86 [.tmp 3] [] = true := by kernel_rfl
/-- slices.Index[[]int,int] -/
def A87 : ACode :=
 (.seq
 (.ops [.o (.mov 4 (.c (.int .i64 (0))))])
 (.seq
 (.seq
 (.ops [.o (.mov 6 (.r 0)),
 .o (.len 7 (.r 6)),
 .o (.mov 8 (.c (.int .i64 (0))))])
 (.block 0
 (.loop (.pre (.mv [0, 1, 7, 8] [])
 (.seq
 (.ops [.o (.bin 9 .lss (.r 8) (.r 7))])
 (.seq
 (.cond (.r 9) .skip (.exit 0))
 (.seq
 (.block 1
 (.seq
 (.ops [.o (.mov 10 (.r 8)),
 .o (.mov 5 (.r 10))])
 (.seq
 (.ops [.o (.mov 11 (.r 1)),
 .o (.mov 12 (.r 0)),
 .o (.mov 13 (.r 5)),
 .o (.idx 14 (.r 12) (.r 13) 1),
 .o (.load 15 (.r 14) 1 false),
 .o (.bin 16 .eql (.r 11) (.r 15))])
 (.cond (.r 16)
 (.seq
 (.ops [.o (.mov 17 (.r 5)),
 .o (.mov 4 (.r 17))]) .ret) .skip))))
 (.ops [.o (.bin 18 .add (.r 8) (.c (.int .i64 (1)))),
 .o (.mov 8 (.r 18))]))))))))
 (.seq
 (.ops [.o (.mov 4 (.c (.int .i64 (-1))))]) .ret)))
theorem A87_ok : okFun Tryz.prog 87 19 0 A87 [.tmp 4] [] = true := by kernel_rfl
/-- (*dyehouse/graph.Graph).Len -/
def A88 : ACode :=
 (.seq
 (.ops [.o (.mov 2 (.c (.int .i64 (0))))])
 (.seq
 (.seq
 (.ops [.o (.mov 3 (.r 0)),
 .o (.eq 4 false .nil (.r 3) (.c (.nilp)))])
 (.cond (.r 4)
 (.seq
 (.ops [.o (.mov 2 (.c (.int .i64 (0))))]) .ret) .skip))
 (.seq
 (.ops [.o (.mov 5 (.r 0)),
 .o (.nilc 6 (.r 5)),
 .o (.fad 7 (.r 6) 0),
 .o (.load 8 (.r 7) 1 false),
 .o (.len 9 (.r 8)),
 .o (.mov 2 (.r 9))]) .ret)))
theorem A88_ok : okFun Tryz.prog 88 10 0 A88 [.tmp 2] [] = true := by kernel_rfl
/-- slices.Clone[[]int,int] -/
def A89 : ACode :=
 (.seq
 (.ops [.o (.mov 2 (.c (.sl [])))])
 (.seq
 (.seq
 (.ops [.o (.mov 3 (.r 0)),
 .o (.eqs 4 false (.r 3))])
 (.cond (.r 4)
 (.seq
 (.ops [.o (.mov 2 (.c (.sl [])))]) .ret) .skip))
 (.seq
 (.post (.ops [.o (.bslo 5 5 1 []),
 .o (.mov 6 (.r 0)),
 .o (.appd 7 (.r 5) (.r 6) 1 8),
 .o (.mov 2 (.r 7))]) (.frz 5)) .ret)))
theorem A89_ok : okFun Tryz.prog 89 8 0 A89 [.tmp 2] [] = true := by kernel_rfl
/-- (*dyehouse/bits.Set).mask -/
def A90 : ACode :=
 (.seq
 (.ops [.o (.mov 4 (.c (.int .u64 (0))))])
 (.seq
 (.seq
 (.ops [.o (.mov 6 (.r 0)),
 .o (.nilc 7 (.r 6)),
 .o (.fad 8 (.r 7) 0),
 .o (.load 9 (.r 8) 1 false),
 .o (.mov 10 (.r 1)),
 .o (.bin 11 .mul (.r 10) (.c (.int .i64 (64)))),
 .o (.bin 12 .sub (.r 9) (.r 11)),
 .o (.mov 5 (.r 12))])
 (.seq
 (.ops [.o (.mov 13 (.r 5)),
 .o (.bin 14 .lss (.r 13) (.c (.int .i64 (64))))])
 (.cond (.r 14)
 (.seq
 (.ops [.o (.mov 15 (.r 5)),
 .o (.bin 16 .shl (.c (.int .u64 (1))) (.r 15)),
 .o (.bin 17 .sub (.r 16) (.c (.int .u64 (1)))),
 .o (.mov 4 (.r 17))]) .ret) .skip)))
 (.seq
 (.ops [.o (.mov 4 (.c (.int .u64 (18446744073709551615))))]) .ret)))
theorem A90_ok : okFun Tryz.prog 90 18 0 A90 [.tmp 4] [] = true := by kernel_rfl
/-- slices.Clone[[]uint64,uint64] -/
def A91 : ACode :=
 (.seq
 (.ops [.o (.mov 2 (.c (.sl [])))])
 (.seq
 (.seq
 (.ops [.o (.mov 3 (.r 0)),
 .o (.eqs 4 false (.r 3))])
 (.cond (.r 4)
 (.seq
 (.post (.ops [.o (.mov 2 (.c (.yl 0)))]) (.nil 2 5 1 1)) .ret) .skip))
 (.seq
 (.ops [.o (.bslo 5 5 1 []),
 .o (.mov 6 (.r 0)),
 .o (.appd 7 (.r 5) (.r 6) 1 8),
 .o (.mov 2 (.r 7))]) .ret)))
theorem A91_ok : okFun Tryz.prog 91 8 0 A91 [.tmp 2] [5] = true := by kernel_rfl
/-- (*dyehouse/point.Table).Behind -/
def A92 : ACode :=
 (.seq
 (.ops [.o (.mov 6 (.c (.int .i64 (0))))])
 (.seq
 (.seq
 (.ops [.o (.mov 8 (.r 2)),
 .o (.mov 9 (.r 0)),
 .o (.mov 10 (.r 1)),
 .o (.callf (some 11) (.st 70) [(.r 9), (.r 10)]),
 .o (.bin 12 .sub (.r 11) (.c (.int .i64 (1)))),
 .o (.bin 13 .eql (.r 8) (.r 12))])
 (.cond (.r 13)
 (.seq
 (.ops [.o (.mov 6 (.c (.int .i64 (-1))))]) .ret) .skip))
 (.seq
 (.ops [.o (.mov 14 (.r 0)),
 .o (.mov 15 (.r 1)),
 .o (.mov 16 (.r 2)),
 .o (.callf (some 17) (.st 46) [(.r 14), (.r 15), (.r 16)]),
 .o (.mov 7 (.r 17))])
 (.seq
 (.seq
 (.ops [.o (.mov 18 (.r 7)),
 .o (.bin 19 .lss (.r 18) (.c (.int .i64 (0))))])
 (.cond (.r 19)
 (.seq
 (.ops [.o (.mov 6 (.c (.int .i64 (-1))))]) .ret) .skip))
 (.seq
 (.ops [.o (.mov 20 (.r 7)),
 .o (.bin 21 .mul (.c (.int .i64 (2))) (.r 20)),
 .o (.bin 22 .add (.r 21) (.c (.int .i64 (1)))),
 .o (.mov 6 (.r 22))]) .ret)))))
theorem A92_ok : okFun Tryz.prog 92 23 0 A92 [.tmp 6] [] = true := by kernel_rfl
/-- slices.isNaN[int] -/
def A95 : ACode :=
 (.seq
 (.ops [.o (.mov 2 (.c (.bool false)))])
 (.seq
 (.ops [.o (.mov 3 (.r 0)),
 .o (.mov 4 (.r 0)),
 .o (.bin 5 .neq (.r 3) (.r 4)),
 .o (.mov 2 (.r 5))]) .ret))
theorem A95_ok : okFun Tryz.prog 95 6 0 A95 [.tmp 2] [] = true := by kernel_rfl
/-- cmp.isNaN[int] -/
def A101 : ACode :=
 (.seq
 (.ops [.o (.mov 2 (.c (.bool false)))])
 (.seq
 (.ops [.o (.mov 3 (.r 0)),
 .o (.mov 4 (.r 0)),
 .o (.bin 5 .neq (.r 3) (.r 4)),
 .o (.mov 2 (.r 5))]) .ret))
theorem A101_ok : okFun Tryz.prog 101 6 0 A101 [.tmp 2] [] = true := by kernel_rfl
/-- math/bits.TrailingZeros64 -/
def A103 : ACode :=
 (.seq
 (.ops [.o (.mov 2 (.c (.int .i64 (0))))])
 (.seq
 (.seq
 (.ops [.o (.mov 3 (.r 0)),
 .o (.bin 4 .eql (.r 3) (.c (.int .u64 (0))))])
 (.cond (.r 4)
 (.seq
 (.ops [.o (.mov 2 (.c (.int .i64 (64))))]) .ret) .skip))
 (.seq
 (.ops [.o (.mov 5 (.r 0)),
 .o (.mov 6 (.r 0)),
 .o (.un 7 .neg (.r 6)),
 .o (.bin 8 .and (.r 5) (.r 7)),
 .o (.bin 9 .mul (.r 8) (.c (.int .u64 (285870213051353865)))),
 .o (.bin 10 .shr (.r 9) (.c (.int .u64 (58)))),
 .o (.aix 11 (.g 0) (.r 10) 1 64),
 .o (.load 12 (.r 11) 1 false),
 .o (.conv 13 .i64 (.r 12)),
 .o (.mov 2 (.r 13))]) .ret)))
theorem A103_ok : okFun Tryz.prog 103 14 0 A103 [.tmp 2] [] = true := by kernel_rfl
end Go.Proofs.YtgbmneoeggdaoaaGreatDoor.X
