import Derived.Test.YtmbpjpffafidhaaGreatDoorCmTy
namespace Go.Proofs.YtmbpjpffafidhaaGreatDoor
open Go.Ev
set_option maxRecDepth 100000
def c9 : BC := (.seq (.reg [o 2 (.mv kF)])
(.seq (.reg [o 15 (.call 10 [])])
(.seq (.seq (.reg [o 17 (.un .not u0)])
(.cond u0
(.seq (.reg [o 2 (.mv kF)])
(.ret [.mv u0]))
 .skip))
(.seq (.reg [o 4 (.mv (.k (.s [78, 65, 77, 69, 32, 65, 10, 82, 79, 87, 83, 10, 32, 78, 32, 111, 10, 32, 76, 32, 114, 10, 67, 79, 76, 85, 77, 78, 83, 10])))])
(.seq (.reg [o 5 (.mv (.k .sn))])
(.seq (.reg [o 6 (.mv kF), o 7 (.mv kF), o 8 (.mv (kJ 0))])
(.seq (.reg [o 9 (.mv (kJ 5))])
(.seq (.seq (.reg [o 10 (.mv (kJ 0))])
(.block 0 [4, 5, 7, 8] (.pre [0, 4, 5, 6, 7, 8, 9, 10] [10, 6, 5, 4, 3, 2, 1, 0] (.loop (.post (.seq (.seq (.reg [o 20 (.len false u0), o 21 (.bin .lss u8 u0), oA 23 0 (.mv u9), oA 24 1 (.bin .lss u0 (kJ 12)), o 25 (.pick u2 u0 kF)])
(.cond u0
 .skip
(.pre [4, 5, 7, 8] [6, 7, 9, 10] (.exit 0))))
(.seq (.block 1 [0, 4, 5, 6, 7, 8, 9, 10] (.seq (.reg [o 29 (.bin .add u11 (kJ 1))])
(.seq (.reg [o 32 (.ia 1 u6 u13), o 33 (.ld u0), o 34 (.bin .rem u0 (kJ 4)), o 35 (.bin .add u0 (kJ 4)), o 36 (.bin .rem u0 (kJ 4))])
(.block 2 [0, 4, 5, 6, 7, 8, 9, 10] (.seq (.reg [o 48 (.bin .eql u0 (kJ 0))])
(.cond u0
(.post (.seq (.reg [o 50 (.bin .add u13 (.k (.s [32, 77, 32, 39, 77, 65, 82, 75, 69, 82, 39, 32, 39, 73, 78, 84, 79, 82, 71, 39, 10])))])
(.seq (.seq (.reg [oA 53 16 (.mv u17), oA 54 17 (.un .not u0), o 55 (.pick u18 u0 kF)])
(.cond u0
(.post (.reg [o 7 (.mv kU)]) [0, 4, 5, 7, 8, 9, 10] [17, 4, 19, 0, 11, 11, 24])
(.post .skip [0, 4, 5, 7, 8, 9, 10] [16, 3, 18, 20, 21, 10, 23])))
(.reg [o 6 (.mv kU)]))) [0, 4, 5, 6, 7, 8, 9, 10] [1, 2, 3, 0, 4, 5, 6, 7])
(.seq (.reg [o 58 (.bin .eql u1 (kJ 1))])
(.cond u0
(.post (.seq (.reg [o 60 (.bin .add u14 (.k (.s [32, 77, 32, 39, 77, 65, 82, 75, 69, 82, 39, 32, 39, 73, 78, 84, 69, 78, 68, 39, 10])))])
(.seq (.seq (.post (.reg [o 62 (.un .not u17), oA 64 0 (.mv u19), oA 65 1 (.un .not u0), o 66 (.pick u2 u0 kF)]) [0, 4, 5, 7, 8, 9, 10, 66] [18, 4, 20, 22, 23, 12, 25, 0])
(.cond u7
(.post (.reg [o 7 (.mv kU)]) [0, 4, 5, 7, 8, 9, 10] [1, 2, 3, 0, 6, 6, 7])
(.post .skip [0, 4, 5, 7, 8, 9, 10] [0, 1, 2, 3, 4, 5, 6])))
(.reg [o 6 (.mv kF)]))) [0, 4, 5, 6, 7, 8, 9, 10] [1, 2, 3, 0, 4, 5, 6, 7])
(.post (.seq (.post (.reg [o 39 (.call 16 [u20]), o 40 (.bin .add (.k (.s [32, 120])) u0), o 41 (.bin .add u0 (.k (.s [32, 114, 32, 49, 10]))), o 42 (.bin .add u17 u0)]) [0, 4, 5, 6, 7, 8, 9, 10] [17, 0, 19, 20, 21, 22, 11, 24])
(.reg [o 45 (.bsl 1 1 [(.b false)] [(0, 1, u3)]), o 46 (.app 20 1 1 u3 u0)])) [0, 4, 5, 6, 7, 8, 9, 10] [2, 3, 0, 5, 6, 7, 8, 9])))))))))
(.reg [o 27 (.bin .add u7 (kJ 1))]))) [0, 4, 5, 6, 7, 8, 9, 10] [1, 2, 3, 4, 5, 6, 7, 0])))))
(.seq (.reg [o 70 (.bin .add u0 (.k (.s [82, 72, 83, 10, 69, 78, 68, 65, 84, 65, 10]))), o 71 (.call 22 [u0]), o 72 (.ext 0 u0), o 73 (.ext 1 u1), o 74 (.ext 2 u2), o 11 (.alloc 212 [(.s []), (.s []), .sn, .sn]), oC (.stn 4 u0 u3)])
(.seq (.seq (.reg [])
(.cond u8
(.seq (.post (.reg [o 77 (.bin .eql u1 (kJ 5)), oA 79 0 (.mv u3), oA 80 1 (.mv u11), oA 81 2 (.bin .eql u1 u0), o 82 (.pick u3 u0 kF)]) [2] [0])
(.ret [.mv u0]))
 .skip))
(.seq (.seq (.post (.reg [o 84 (.bin .neq u1 (kJ 0)), oB 86 0 (.fa 3 u1), oB 87 1 (.ld u0), oB 88 2 (.len false u0), oB 89 3 (.mv u11), oB 90 4 (.len false u0), oB 91 5 (.bin .neq u2 u0), o 92 (.pick u6 kU u0)]) [5, 11, 92] [15, 8, 0])
(.cond u2
(.seq (.reg [o 2 (.mv kF)])
(.ret [.mv u0]))
 .skip))
(.seq (.seq (.reg [o 94 (.len false u0), o 95 (.mv (kJ 0))])
(.block 3 [] (.pre [5, 11, 94, 95] [2, 3, 1, 0] (.loop (.post (.seq (.reg [o 96 (.bin .lss u3 u2)])
(.seq (.cond u0
 .skip
(.pre [] [] (.exit 3)))
(.seq (.block 4 [5, 11, 94, 95] (.post (.seq (.reg [])
(.seq (.reg [o 98 (.fa 3 u2), o 99 (.ld u0), o 101 (.ia 5 u0 u6), o 102 (.fa 4 u0), o 103 (.ld u0), o 106 (.ia 1 u6 u9), o 107 (.ld u0), o 108 (.eq 0 true u2 u0)])
(.cond u0
(.seq (.post (.reg [o 2 (.mv kF)]) [2] [0])
(.ret [.mv u0]))
 .skip))) [5, 11, 94, 95] [9, 10, 11, 12]))
(.reg [o 109 (.bin .add u3 (kJ 1))])))) [5, 11, 94, 95] [1, 2, 3, 0])))))
(.seq (.reg [o 2 (.mv kU)])
(.ret [.mv u0]))))))))))))))
theorem fg9 : FGood Tryz.prog T 9 (.code 1 c9) := ⟨Tryz.call9, Tryz.f9, c9, Tryz.func9, by kernel_rfl⟩
def c10 : BC := (.seq (.reg [o 0 (.mv kF)])
(.seq (.reg [o 30 (.call 21 []), o 1 (.alloc 292 [(.s []), (.s []), (.s [])]), oC (.stn 3 u0 u1)])
(.seq (.reg [o 32 (.fa 0 u0), o 33 (.ld u0), o 34 (.call 22 [u0]), o 35 (.ext 0 u0), o 36 (.ext 1 u1), o 37 (.ext 2 u2), o 2 (.alloc 212 [(.s []), (.s []), .sn, .sn]), oC (.stn 4 u0 u3)])
(.seq (.reg [o 39 (.fa 1 u7), o 40 (.ld u0), o 41 (.call 23 [u0]), o 42 (.ext 0 u0), o 43 (.ext 1 u1), o 44 (.ext 2 u2), o 45 (.ext 3 u3)])
(.seq (.post (.reg [o 47 (.fa 2 u14), o 48 (.ld u0), o 49 (.call 31 [u0]), o 50 (.ext 0 u0), o 51 (.ext 1 u1), o 52 (.ext 2 u2), o 53 (.ext 3 u3), o 10 (.alloc 336 [(.i .i64 0), .sn]), oC (.stn 2 u0 u3)]) [2, 4, 6, 8, 9, 10, 12] [15, 16, 10, 8, 4, 0, 1])
(.seq (.reg [o 55 (.call 12 [(.k (.s [32, 97, 32, 98, 10, 72, 69, 65, 68, 10]))]), o 56 (.ext 0 u0), o 57 (.ext 1 u1), o 58 (.ext 2 u2)])
(.seq (.reg [o 60 (.ldn 4 u4), o 62 (.ldn 2 u10), o 63 (.call 26 [u1, u8, u0, (kJ 10)]), o 64 (.ext 0 u0), o 65 (.ext 1 u1), o 66 (.ext 2 u2), o 16 (.alloc 232 [.sn, .sn, .sn, .sn, .sn]), oC (.stn 5 u0 u3)])
(.seq (.reg [o 68 (.ldn 4 u11), o 69 (.call 33 [u0]), o 70 (.ext 0 u0), o 71 (.ext 1 u1)])
(.seq (.reg [o 74 (.call 22 [u1]), o 75 (.ext 0 u0), o 76 (.ext 1 u1), o 77 (.ext 2 u2), o 21 (.alloc 212 [(.s []), (.s []), .sn, .sn]), oC (.stn 4 u0 u3)])
(.seq (.seq (.post (.reg [o 78 (.fa 2 u20), o 79 (.ld u0), o 80 (.len false u0), o 81 (.bin .neq u0 (kJ 2)), oB 83 0 (.fa 3 u24), oB 84 1 (.ld u0), oB 85 2 (.len false u0), oB 86 3 (.bin .neq u0 (kJ 2)), o 87 (.pick u4 kU u0), oB 89 0 (.mv u31), oB 90 1 (.len false u0), oB 91 2 (.bin .neq u0 (kJ 2)), o 92 (.pick u3 kU u0), oB 94 0 (.fa 1 u38), oB 95 1 (.ld u0), oB 96 2 (.len false u0), oB 97 3 (.bin .neq u0 (kJ 1)), o 98 (.pick u4 kU u0), oB 100 0 (.mv u36), oB 101 1 (.len false u0), oB 102 2 (.bin .neq u0 (kJ 2)), o 103 (.pick u3 kU u0), oB 105 0 (.mv u33), oB 106 1 (.len false u0), oB 107 2 (.bin .neq u0 (kJ 2)), o 108 (.pick u3 kU u0), oB 110 0 (.fa 4 u35), oB 111 1 (.ld u0), oB 112 2 (.len false u0), oB 113 3 (.bin .neq u0 (kJ 1)), o 114 (.pick u4 kU u0), oB 116 0 (.fa 4 u40), oB 117 1 (.ld u0), oB 118 2 (.ia 1 u0 (kJ 0)), oB 119 3 (.ld u0), oB 120 4 (.len false u0), oB 121 5 (.bin .neq u0 (kJ 1)), o 122 (.pick u6 kU u0), oB 124 0 (.mv u49), oB 125 1 (.ia 4 u0 (kJ 1)), oB 126 2 (.fa 1 u0), oB 127 3 (.fa 1 u0), oB 128 4 (.ld u0), oB 129 5 (.len false u0), oB 130 6 (.bin .neq u0 (kJ 1)), o 131 (.pick u7 kU u0)]) [2, 4, 6, 8, 9, 10, 12, 13, 15, 16, 17, 18, 20, 21, 23, 131] [66, 67, 68, 69, 70, 71, 72, 64, 62, 55, 57, 56, 51, 46, 47, 0])
(.cond u15
(.seq (.post (.reg [o 0 (.mv kF)]) [0] [0])
(.ret [.mv u0]))
 .skip))
(.seq (.reg [o 133 (.ldn 2 u5), o 134 (.call 27 [u0, (kJ 10)]), o 135 (.ext 0 u0), o 136 (.ext 1 u1)])
(.seq (.reg [o 138 (.ldn 4 u4), o 140 (.build [(.s []), (.s [])] [(1, 1, (.k (.s [110, 101, 101, 100])))]), o 141 (.call 34 [u1, u8, u0]), o 142 (.ext 0 u0), o 143 (.ext 1 u1), o 144 (.ext 2 u2), o 145 (.ext 3 u3)])
(.seq (.post (.reg [o 146 (.call 35 []), oA 148 0 (.mv u13), oA 149 1 (.bin .eql u0 (kJ 0)), o 150 (.pick u2 u0 kF), oA 152 0 (.mv u18), oA 153 1 (.bin .eql u0 (kJ 0)), o 154 (.pick u2 u0 kF), oA 156 0 (.mv u22), oA 157 1 (.bin .eql u0 (.k (.s [84]))), o 158 (.pick u2 u0 kF), oA 160 0 (.mv u27), oA 161 1 (.bin .eql u0 (kJ 0)), o 162 (.pick u2 u0 kF), oA 164 0 (.mv u32), oA 165 1 (.bin .eql u0 (kJ 0)), o 166 (.pick u2 u0 kF), oA 168 0 (.mv u34), oA 169 1 (.ia 3 u0 (kJ 0)), oA 170 2 (.fa 1 u0), oA 171 3 (.ld u0), oA 172 4 (.un .not u0), o 173 (.pick u5 u0 kF), oA 175 0 (.mv u40), oA 176 1 (.ia 3 u0 (kJ 1)), oA 177 2 (.fa 1 u0), oA 178 3 (.ld u0), o 179 (.pick u4 u0 kF), oA 181 0 (.mv u49), oA 182 1 (.bin .eql u0 (kJ 0)), o 183 (.pick u2 u0 kF), oA 185 0 (.mv u53), o 186 (.pick u1 u0 kF), oA 188 0 (.mv u57), oA 189 1 (.bin .eql u0 (kJ 0)), o 190 (.pick u2 u0 kF), oA 192 0 (.ldn 4 u46), oA 193 1 (.ldn 4 u60), oA 194 2 (.call 36 [u1, u0]), o 195 (.pick u3 u0 kF), oA 197 0 (.mv u60), oA 198 1 (.ia 4 u0 (kJ 1)), oA 199 2 (.fa 0 u0), oA 200 3 (.ld u0), oA 201 4 (.bin .eql u0 (.k (.s [49, 47, 50]))), o 202 (.pick u5 u0 kF), oA 204 0 (.mv u66), oA 205 1 (.ia 4 u0 (kJ 1)), oA 206 2 (.fa 1 u0), oA 207 3 (.fa 1 u0), oA 208 4 (.ld u0), oA 209 5 (.ia 5 u0 (kJ 0)), oA 210 6 (.fa 3 u0), oA 211 7 (.ld u0), oA 212 8 (.bin .eql u0 (.k (.s [49, 50]))), o 213 (.pick u9 u0 kF), oA 215 0 (.fa 0 u75), oA 216 1 (.fa 0 u0), oA 217 2 (.ld u0), oA 218 3 (.len false u0), oA 219 4 (.bin .eql u0 (kJ 1)), o 220 (.pick u5 u0 kF), oA 222 0 (.fa 0 u81), oA 223 1 (.fa 0 u0), oA 224 2 (.ld u0), oA 225 3 (.ia 5 u0 (kJ 0)), oA 226 4 (.fa 2 u0), oA 227 5 (.ld u0), oA 228 6 (.bin .eql u0 (.k (.s [56]))), o 229 (.pick u7 u0 kF), oA 231 0 (.fa 4 u89), oA 232 1 (.ld u0), oA 233 2 (.ia 1 u0 (kJ 0)), oA 234 3 (.ld u0), oA 235 4 (.ia 2 u0 (kJ 0)), oA 236 5 (.fa 1 u0), oA 237 6 (.ld u0), oA 238 7 (.bin .eql u0 (.k (.s [49]))), o 239 (.pick u8 u0 kF), oA 241 0 (.mv u86), oA 242 1 (.bin .eql u0 (kJ 2)), o 243 (.pick u2 u0 kF), oA 245 0 (.mv u88), o 246 (.pick u1 u0 kF), oA 248 0 (.mv u86), oA 249 1 (.bin .eql u0 (kJ 1)), o 250 (.pick u2 u0 kF), oA 252 0 (.mv u86), oA 253 1 (.bin .eql u0 (kJ 0)), o 254 (.pick u2 u0 kF), oA 256 0 (.ldn 4 u100), oA 257 1 (.call 37 [u0]), oA 258 2 (.bin .eql u0 (kJ 0)), o 259 (.pick u3 u0 kF), oA 261 0 (.ldn 2 u109), oA 262 1 (.call 38 [u0]), oA 263 2 (.bin .eql u0 (kJ 0)), o 264 (.pick u3 u0 kF), oA 266 0 (.ldn 4 u108), oA 267 1 (.mv u111), oA 268 2 (.call 39 [u1, u0]), oA 269 3 (.bin .eql u0 (kJ 0)), o 270 (.pick u4 u0 kF)]) [0] [0])
(.ret [.mv u0]))))))))))))))
theorem fg10 : FGood Tryz.prog T 10 (.code 0 c10) := ⟨Tryz.call10, Tryz.f10, c10, Tryz.func10, by kernel_rfl⟩
def c11 : BC := (.seq (.reg [o 4 (.mv (.k (.s [])))])
(.seq (.reg [o 7 (.len true u1), o 9 (.mm false u0 [u3]), o 10 (.sls u3 none (some u0))])
(.ret [.mv u0])))
theorem fg11 : FGood Tryz.prog T 11 (.code 2 c11) := ⟨Tryz.call11, Tryz.f11, c11, Tryz.func11, by kernel_rfl⟩
def c12 : BC := (.seq (.reg [o 2 (.mv (.k .sn)), o 3 (.mv (kJ 0)), o 4 (.mv (kJ 0))])
(.seq (.reg [o 5 (.mv (.k .sn))])
(.seq (.seq (.reg [o 6 (.mv (kJ 1))])
(.block 0 [5] (.pre [0, 5, 6] [5, 1, 0] (.loop (.post (.seq (.seq (.reg [o 13 (.bin .neq u0 (.k (.s [])))])
(.cond u0
 .skip
(.pre [5] [2] (.exit 0))))
(.seq (.block 1 [0, 5, 6] (.seq (.reg [o 18 (.call 40 [u1, (.k (.s [10]))]), o 19 (.ext 0 u0), o 20 (.ext 1 u1), o 21 (.ext 2 u2)])
(.seq (.reg [])
(.seq (.seq (.reg [o 24 (.bin .gtr u7 (kJ 2500))])
(.cond u0
(.seq (.reg [o 2 (.mv (.k .sn)), o 4 (.mv (kJ 6))])
(.ret [.mv u1, .mv u10, .mv u0]))
 .skip))
(.seq (.seq (.reg [o 27 (.call 41 [u3])])
(.seq (.reg [o 29 (.bin .neq u0 (kJ 0))])
(.cond u0
(.seq (.reg [o 2 (.mv (.k .sn))])
(.ret [.mv u0, .mv u11, .mv u2]))
 .skip)))
(.seq (.reg [o 33 (.call 42 [u5, (.k (.f 43 [] []))])])
(.seq (.seq (.reg [o 35 (.len false u0), o 36 (.bin .eql u0 (kJ 0)), oB 38 0 (.mv u8), oB 39 1 (.ix u0 (kJ 0)), oB 40 2 (.bin .eql u0 (.k (.i .u8 42))), o 41 (.pick u3 kU u0)])
(.cond u0
(.pre [0, 5, 6] [11, 16, 17] (.exit 1))
 .skip))
(.post (.reg [o 45 (.ix u12 (kJ 0)), o 46 (.bin .neq u0 (.k (.i .u8 32))), oA 48 0 (.mv u14), oA 49 1 (.ix u0 (kJ 0)), oA 50 2 (.bin .neq u0 (.k (.i .u8 9))), o 51 (.pick u3 u0 kF), o 53 (.build [(.i .i64 0), (.b false), .sn] [(0, 1, u23), (1, 1, u0), (2, 1, u12)]), o 54 (.bsl 1 3 [(.i .i64 0), (.b false), .sn] [(0, 3, u0)]), o 55 (.app 136 3 40 u24 u0)]) [0, 5, 6] [20, 0, 26]))))))))
(.reg [o 15 (.bin .add u2 (kJ 1))]))) [0, 5, 6] [1, 2, 0])))))
(.seq (.reg [o 3 (.mv (kJ 0)), o 4 (.mv (kJ 0))])
(.ret [.mv u2, .mv u1, .mv u0])))))
theorem fg12 : FGood Tryz.prog T 12 (.code 1 c12) := ⟨Tryz.call12, Tryz.f12, c12, Tryz.func12, by kernel_rfl⟩
def c13 : BC := (.seq (.reg [o 2 (.mv (.k .sn)), o 3 (.mv (kJ 0)), o 4 (.mv (kJ 0))])
(.seq (.reg [o 5 (.mv (.k .sn))])
(.seq (.reg [o 15 (.call 44 [u4])])
(.seq (.seq (.reg [o 7 (.mv (kJ 0))])
(.block 0 [5] (.pre [5, 6, 7] [2, 1, 0] (.loop (.post (.seq (.seq (.reg [o 18 (.len false u1), o 19 (.bin .lss u3 u0)])
(.cond u0
 .skip
(.pre [5] [2] (.exit 0))))
(.seq (.block 1 [5, 6, 7] (.seq (.reg [o 24 (.ia 1 u3 u4), o 25 (.ld u0)])
(.seq (.seq (.reg [o 27 (.bin .geq u6 (kJ 2500)), oB 29 0 (.mv u1), oB 30 1 (.len true u0), oB 31 2 (.bin .gtr u0 (kJ 200)), o 32 (.pick u3 kU u0)])
(.cond u0
(.seq (.post (.reg [o 34 (.bin .add u11 (kJ 1)), o 2 (.mv (.k .sn)), o 4 (.mv (kJ 6))]) [2, 3, 4] [1, 2, 0])
(.ret [.mv u0, .mv u1, .mv u2]))
 .skip))
(.seq (.seq (.post (.reg [o 36 (.bin .neq u5 (.k (.s []))), oA 38 0 (.mv u6), oA 39 1 (.mv u7), oA 40 2 (.len true u0), oA 41 3 (.bin .sub u0 (kJ 1)), oA 42 4 (.ix u3 u0), oA 43 5 (.bin .eql u0 (.k (.i .u8 13))), o 44 (.pick u6 u0 kF)]) [5, 6, 7, 8, 44] [17, 18, 19, 13, 0])
(.cond u4
(.post (.reg [o 47 (.len true u3), o 48 (.bin .sub u0 (kJ 1)), o 49 (.sls u5 none (some u0)), o 50 (.bin .add u0 (.k (.s [32])))]) [5, 6, 7, 8] [4, 5, 6, 0])
(.post .skip [5, 6, 7, 8] [0, 1, 2, 3])))
(.seq (.seq (.reg [o 9 (.mv (kJ 0))])
(.block 2 [5, 6, 7, 8] (.pre [5, 6, 7, 8, 9] [1, 2, 3, 4, 0] (.loop (.post (.seq (.seq (.reg [o 53 (.len true u3), o 54 (.bin .lss u5 u0)])
(.cond u0
 .skip
(.pre [5, 6, 7, 8] [2, 3, 4, 5] (.exit 2))))
(.seq (.block 3 [5, 6, 7, 8, 9] (.post (.seq (.reg [o 59 (.ix u5 u6), o 60 (.bin .gtr u0 (.k (.i .u8 126))), oB 62 0 (.mv u7), oB 63 1 (.mv u9), oB 64 2 (.ix u1 u0), oB 65 3 (.bin .lss u0 (.k (.i .u8 32))), oB 66 4 (.mv u0), oA 67 0 (.mv u12), oA 68 1 (.mv u14), oA 69 2 (.ix u1 u0), oA 70 3 (.bin .neq u0 (.k (.i .u8 9))), oB 71 9 (.pick u4 u0 kF), o 72 (.pick u10 kU u0)])
(.cond u0
(.seq (.post (.reg [o 74 (.bin .add u17 (kJ 1)), o 2 (.mv (.k .sn)), o 4 (.mv (kJ 1))]) [2, 3, 4] [1, 2, 0])
(.ret [.mv u0, .mv u1, .mv u2]))
 .skip)) [5, 6, 7, 8, 9] [15, 16, 17, 18, 19]))
(.reg [o 56 (.bin .add u4 (kJ 1))]))) [5, 6, 7, 8, 9] [1, 2, 3, 4, 0])))))
(.seq (.seq (.reg [o 76 (.bin .eql u3 (.k (.s []))), oB 78 0 (.mv u4), oB 79 1 (.ix u0 (kJ 0)), oB 80 2 (.bin .eql u0 (.k (.i .u8 42))), o 81 (.pick u3 kU u0)])
(.cond u0
(.pre [5, 6, 7] [5, 6, 7] (.exit 1))
 .skip))
(.seq (.reg [o 10 (.mv (.k .sn))])
(.seq (.reg [o 11 (.mv kF)])
(.seq (.seq (.reg [o 12 (.mv (kJ 0))])
(.block 4 [5, 6, 7, 8, 10] (.pre [5, 6, 7, 8, 10, 11, 12] [8, 9, 10, 11, 2, 1, 0] (.loop (.post (.seq (.seq (.reg [o 84 (.len true u3), o 85 (.bin .lss u7 u0)])
(.cond u0
 .skip
(.pre [5, 6, 7, 8, 10] [2, 3, 4, 5, 6] (.exit 4))))
(.seq (.block 5 [5, 6, 7, 8, 10, 11, 12] (.post (.seq (.reg [o 90 (.ix u5 u8), o 91 (.bin .eql u0 (.k (.i .u8 32))), oB 93 0 (.mv u7), oB 94 1 (.mv u11), oB 95 2 (.ix u1 u0), oB 96 3 (.bin .eql u0 (.k (.i .u8 9))), o 97 (.pick u4 kU u0)])
(.seq (.seq (.reg [o 99 (.un .not u0), oA 101 0 (.mv u15), oA 102 1 (.un .not u0), o 103 (.pick u2 u0 kF)])
(.cond u0
(.post (.reg [o 105 (.bsl 1 1 [(.s [])] [(0, 1, (.k (.s [])))]), o 106 (.app 40 1 16 u18 u0)]) [5, 6, 7, 8, 10, 12, 13] [15, 16, 17, 18, 0, 21, 6])
(.post .skip [5, 6, 7, 8, 10, 12, 13] [13, 14, 15, 16, 17, 19, 4])))
(.seq (.seq (.reg [o 108 (.un .not u6)])
(.cond u0
(.post (.reg [o 111 (.len false u5), o 112 (.bin .sub u0 (kJ 1)), o 113 (.ia 1 u7 u0), o 114 (.ld u0), o 118 (.bin .add u10 (kJ 1)), o 119 (.sls u9 (some u11) (some u0)), o 120 (.bin .add u2 u0), o 121 (.ia 1 u12 u5), oC (.st u0 u1)]) [5, 6, 7, 8, 10, 12, 13] [9, 10, 11, 12, 13, 14, 15])
(.post .skip [5, 6, 7, 8, 10, 12, 13] [1, 2, 3, 4, 5, 6, 7])))
(.reg [o 123 (.un .not u6)])))) [5, 6, 7, 8, 10, 11, 12] [1, 2, 3, 4, 5, 0, 6]))
(.reg [o 87 (.bin .add u6 (kJ 1))]))) [5, 6, 7, 8, 10, 11, 12] [1, 2, 3, 4, 5, 6, 0])))))
(.seq (.reg [o 125 (.len false u4), o 126 (.bin .gtr u0 (kJ 0))])
(.cond u0
(.post (.reg [o 129 (.bin .add u4 (kJ 1)), o 131 (.ix u6 (kJ 0)), o 132 (.bin .neq u0 (.k (.i .u8 32))), oA 134 0 (.mv u8), oA 135 1 (.ix u0 (kJ 0)), oA 136 2 (.bin .neq u0 (.k (.i .u8 9))), o 137 (.pick u3 u0 kF), o 139 (.build [(.i .i64 0), (.b false), .sn] [(0, 1, u6), (1, 1, u0), (2, 1, u13)]), o 140 (.bsl 1 3 [(.i .i64 0), (.b false), .sn] [(0, 3, u0)]), o 141 (.app 140 3 40 u11 u0)]) [5, 6, 7] [0, 13, 14])
(.post .skip [5, 6, 7] [2, 3, 4]))))))))))))
(.reg [o 21 (.bin .add u2 (kJ 1))]))) [5, 6, 7] [1, 2, 0])))))
(.seq (.reg [o 3 (.mv (kJ 0)), o 4 (.mv (kJ 0))])
(.ret [.mv u2, .mv u1, .mv u0]))))))
theorem fg13 : FGood Tryz.prog T 13 (.code 1 c13) := ⟨Tryz.call13, Tryz.f13, c13, Tryz.func13, by kernel_rfl⟩
def c14 : BC := (.seq (.reg [o 2 (.mv kF)])
(.seq (.reg [o 5 (.s2b u1), o 6 (.call 45 [u0, (.k (.f 46 [] []))])])
(.seq (.post (.reg [o 8 (.un .not u0), oA 10 0 (.mv u4), oA 11 1 (.len true u0), oA 12 2 (.bin .geq u0 (kJ 1)), o 13 (.pick u3 u0 kF), oA 15 0 (.mv u8), oA 16 1 (.len true u0), oA 17 2 (.bin .leq u0 (kJ 20)), o 18 (.pick u3 u0 kF)]) [2] [0])
(.ret [.mv u0]))))
theorem fg14 : FGood Tryz.prog T 14 (.code 1 c14) := ⟨Tryz.call14, Tryz.f14, c14, Tryz.func14, by kernel_rfl⟩
def c15 : BC := (.seq (.reg [o 2 (.mv kF)])
(.seq (.seq (.reg [o 3 (.mv (kJ 0))])
(.block 0 [0] (.pre [0, 3] [2, 0] (.loop (.post (.seq (.seq (.reg [o 6 (.len true u0), o 7 (.bin .lss u2 u0)])
(.cond u0
 .skip
(.pre [0] [2] (.exit 0))))
(.seq (.block 1 [0, 3] (.post (.seq (.reg [o 12 (.ix u2 u3), o 13 (.bin .lss u0 (.k (.i .u8 33))), oB 15 0 (.mv u4), oB 16 1 (.mv u6), oB 17 2 (.ix u1 u0), oB 18 3 (.bin .gtr u0 (.k (.i .u8 126))), o 19 (.pick u4 kU u0)])
(.cond u0
(.seq (.post (.reg [o 2 (.mv kF)]) [2] [0])
(.ret [.mv u0]))
 .skip)) [0, 3] [9, 10]))
(.reg [o 9 (.bin .add u1 (kJ 1))]))) [0, 3] [1, 0])))))
(.seq (.reg [o 21 (.len true u0), o 22 (.bin .geq u0 (kJ 1)), oA 24 0 (.mv u2), oA 25 1 (.len true u0), oA 26 2 (.bin .leq u0 (kJ 20)), o 27 (.pick u3 u0 kF)])
(.ret [.mv u0]))))
theorem fg15 : FGood Tryz.prog T 15 (.code 1 c15) := ⟨Tryz.call15, Tryz.f15, c15, Tryz.func15, by kernel_rfl⟩
def c16 : BC := (.seq (.reg [o 2 (.mv (.k (.s [])))])
(.seq (.reg [o 4 (.call 20 [u1]), o 5 (.call 25 [u0])])
(.ret [.mv u0])))
theorem fg16 : FGood Tryz.prog T 16 (.code 1 c16) := ⟨Tryz.call16, Tryz.f16, c16, Tryz.func16, by kernel_rfl⟩
def c17 : BC := (.seq (.reg [o 2 (.box 212 u0), o 4 (.alloc 232 [.sn, .sn, .sn, .sn, .sn]), o 5 (.mv (kJ 0))])
(.seq (.seq (.reg [o 18 (.ldn 4 u2), o 19 (.call 37 [u0])])
(.seq (.reg [o 21 (.bin .neq u0 (kJ 0))])
(.cond u0
(.seq (.reg [o 22 (.build [.sn, .sn, .sn, .sn, .sn] []), oC (.stn 5 u5 u0)])
(.ret [.ldn 5 u5, .mv u2]))
 .skip)))
(.seq (.seq (.reg [o 24 (.ldn 4 u5), o 26 (.call 39 [u0, u8])])
(.seq (.reg [o 28 (.bin .neq u0 (kJ 0))])
(.cond u0
(.seq (.reg [o 29 (.build [.sn, .sn, .sn, .sn, .sn] []), oC (.stn 5 u8 u0)])
(.ret [.ldn 5 u8, .mv u2]))
 .skip)))
(.seq (.reg [o 32 (.ldn 4 u8), o 34 (.call 47 [u0, u11]), o 35 (.ext 0 u0), o 36 (.ext 1 u1)])
(.seq (.seq (.reg [o 37 (.ldn 4 u12), o 40 (.call 48 [u0, u2, u1])])
(.seq (.reg [o 42 (.bin .neq u0 (kJ 0))])
(.cond u0
(.seq (.post (.reg [o 43 (.build [.sn, .sn, .sn, .sn, .sn] []), oC (.stn 5 u15 u0)]) [4, 5] [15, 2])
(.ret [.ldn 5 u0, .mv u1]))
 .skip)))
(.seq (.post (.reg [o 11 (.alloc 232 [.sn, .sn, .sn, .sn, .sn])]) [2, 4, 8, 9, 11] [16, 15, 5, 4, 0])
(.seq (.reg [o 45 (.fa 3 u0), o 46 (.ld u0), o 48 (.slv 5 u0 none (some u4)), o 50 (.fa 3 u3), o 51 (.ld u0), o 53 (.slv 5 u0 (some u7) none), o 49 (.call 49 [u3]), .chk ⟨(some 2), none, .ld u3⟩, o 55 (.fa 0 u11), o 56 (.fa 0 u0), o 54 (.call 49 [u3]), oC (.st u1 u3), o 57 (.fa 2 u14), o 58 (.fa 0 u0), oC (.st u0 u2)])
(.seq (.seq (.reg [o 59 (.fa 2 u12), o 60 (.ld u0), o 61 (.len false u0), o 62 (.mv (kJ 0))])
(.block 0 [2, 4, 8, 11] (.pre [2, 4, 8, 9, 11, 60, 61, 62] [16, 17, 18, 19, 20, 2, 1, 0] (.loop (.post (.seq (.reg [o 63 (.bin .lss u7 u6)])
(.seq (.cond u0
 .skip
(.pre [2, 4, 8, 11] [1, 2, 3, 5] (.exit 0)))
(.seq (.block 1 [2, 4, 8, 9, 11, 60, 61, 62] (.seq (.reg [o 65 (.ia 5 u6 u8), o 66 (.ldn 5 u0), o 13 (.alloc 188 [(.s []), (.i .i64 0), .sn, (.s []), (.s [])]), oC (.stn 5 u0 u1)])
(.seq (.reg [o 67 (.ldn 5 u0), o 68 (.call 50 [u0]), o 69 (.len false u0), o 70 (.mv (kJ 0))])
(.block 2 [2, 4, 8, 9, 11, 60, 61, 62] (.pre [2, 4, 8, 9, 11, 12, 60, 61, 62, 68, 69, 70] [8, 9, 10, 11, 12, 15, 13, 14, 15, 2, 1, 0] (.loop (.post (.seq (.reg [o 71 (.bin .lss u11 u10)])
(.seq (.cond u0
 .skip
(.pre [2, 4, 8, 9, 11, 60, 61, 62] [1, 2, 3, 4, 5, 7, 8, 9] (.exit 2)))
(.seq (.block 3 [2, 4, 8, 9, 11, 12, 60, 61, 62, 68, 69, 70] (.seq (.reg [o 72 (.ia 5 u10 u12), o 73 (.ldn 5 u0), o 15 (.alloc 188 [(.s []), (.i .i64 0), .sn, (.s []), (.s [])]), oC (.stn 5 u0 u1)])
(.seq (.seq (.reg [o 76 (.bin .lss u9 u7)])
(.cond u0
(.seq (.reg [o 77 (.fa 0 u9), o 78 (.fa 1 u0), o 79 (.ld u0), o 80 (.ldn 5 u4), o 81 (.fa 2 u5), o 82 (.ld u0), o 83 (.call 51 [u2, u0]), .chk ⟨(some 4), none, .ld u5⟩, o 84 (.bsl 1 5 [(.s []), (.i .i64 0), .sn, (.s []), (.s [])] [(0, 5, u0)]), o 85 (.app 188 5 80 u5 u0), o 86 (.fa 0 u18), o 87 (.fa 1 u0), oC (.st u0 u2)])
(.pre [2, 4, 8, 9, 11, 12, 60, 61, 62, 68, 69, 70] [16, 17, 18, 19, 20, 21, 22, 23, 24, 25, 26, 27] (.exit 3)))
 .skip))
(.seq (.reg [o 89 (.fa 2 u1), o 90 (.ld u0), o 92 (.call 52 [u0, u9]), o 93 (.ext 0 u0), o 94 (.ext 1 u1)])
(.post (.reg [o 95 (.fa 2 u14), o 96 (.fa 1 u0), o 97 (.ld u0), o 98 (.ldn 5 u9), o 103 (.fa 4 u18), o 104 (.ld u0), o 106 (.bsl 1 1 [.sn] [(0, 1, u7)]), o 100 (.call 51 [u3, u7]), .chk ⟨(some 5), none, .ld u6⟩, .chk ⟨(some 2), none, .ld u3⟩, .chk ⟨(some 1), none, .bsl 1 1 [.sn] [(0, 1, u9)]⟩, o 101 (.bsl 1 5 [(.s []), (.i .i64 0), .sn, (.s []), (.s [])] [(0, 5, u0)]), o 102 (.app 188 5 80 u6 u0), .chk ⟨(some 4), none, .ld u5⟩, .chk ⟨(some 3), none, .bsl 1 1 [.sn] [(0, 1, u11)]⟩, o 108 (.fa 2 u24), o 109 (.fa 1 u0), o 107 (.app 176 1 24 u6 u5), oC (.st u1 u3), o 110 (.fa 4 u27), oC (.st u0 u1)]) [2, 4, 8, 9, 11, 12, 60, 61, 62, 68, 69, 70] [24, 25, 26, 27, 28, 29, 30, 31, 32, 33, 34, 35])))))
(.reg [o 111 (.bin .add u11 (kJ 1))])))) [2, 4, 8, 9, 11, 12, 60, 61, 62, 68, 69, 70] [1, 2, 3, 4, 5, 6, 7, 8, 9, 10, 11, 0])))))))
(.reg [o 112 (.bin .add u7 (kJ 1))])))) [2, 4, 8, 9, 11, 60, 61, 62] [1, 2, 3, 4, 5, 6, 7, 0])))))
(.seq (.seq (.post (.reg [o 114 (.bin .gtr u2 (kJ 20)), oB 116 0 (.fa 3 u1), oB 117 1 (.ld u0), oB 118 2 (.len false u0), oB 119 3 (.mv u6), oB 120 4 (.bin .sub u1 u0), oB 121 5 (.bin .gtr u0 (kJ 20)), o 122 (.pick u6 kU u0), oB 124 0 (.fa 0 u11), oB 125 1 (.fa 1 u0), oB 126 2 (.ld u0), oB 127 3 (.len false u0), oB 128 4 (.bin .gtr u0 (kJ 20)), o 129 (.pick u5 kU u0), oB 131 0 (.fa 2 u17), oB 132 1 (.fa 1 u0), oB 133 2 (.ld u0), oB 134 3 (.len false u0), oB 135 4 (.bin .gtr u0 (kJ 20)), o 136 (.pick u5 kU u0)]) [4, 11, 136] [21, 23, 0])
(.cond u2
(.seq (.reg [o 137 (.build [.sn, .sn, .sn, .sn, .sn] []), oC (.stn 5 u1 u0), o 5 (.mv (kJ 6))])
(.ret [.ldn 5 u2, .mv u0]))
 .skip))
(.seq (.reg [o 138 (.ldn 5 u1), oC (.stn 5 u1 u0), o 5 (.mv (kJ 0))])
(.ret [.ldn 5 u2, .mv u0])))))))))))
theorem fg17 : FGood Tryz.prog T 17 (.code 2 c17) := ⟨Tryz.call17, Tryz.f17, c17, Tryz.func17, by kernel_rfl⟩
def c20 : BC := (.seq (.reg [o 2 (.alloc 264 [(.b false), .sn, .sn])])
(.seq (.seq (.reg [o 4 (.bin .lss u1 (kJ 0))])
(.cond u0
(.seq (.reg [o 6 (.bin .add u2 (kJ 1)), o 7 (.un .neg u0), o 8 (.cvi .u64 u0), o 9 (.bin .add u0 (.k (.i .u64 1))), o 10 (.call 30 [u0]), o 11 (.bsl 1 1 [(.i .i64 0)] [(0, 1, (kJ 1))]), o 12 (.build [(.b false), .sn, .sn] [(0, 1, kU), (1, 1, u1), (2, 1, u0)]), oC (.stn 3 u8 u0)])
(.ret [.ldn 3 u8]))
 .skip))
(.seq (.reg [o 14 (.cvi .u64 u2), o 15 (.call 30 [u0]), o 16 (.bsl 1 1 [(.i .i64 0)] [(0, 1, (kJ 1))]), o 17 (.build [(.b false), .sn, .sn] [(0, 1, kF), (1, 1, u1), (2, 1, u0)]), oC (.stn 3 u5 u0)])
(.ret [.ldn 3 u5]))))
theorem fg20 : FGood Tryz.prog T 20 (.code 1 c20) := ⟨Tryz.call20, Tryz.f20, c20, Tryz.func20, by kernel_rfl⟩
def c21 : BC := (.seq (.reg [o 0 (.alloc 292 [(.s []), (.s []), (.s [])])])
(.seq (.reg [o 1 (.build [(.s []), (.s []), (.s [])] [(0, 1, (.k (.s [78, 65, 77, 69, 32, 84, 10, 82, 79, 87, 83, 10, 32, 78, 32, 99, 111, 115, 116, 10, 32, 76, 32, 99, 97, 112, 10, 32, 71, 32, 110, 101, 101, 100, 10, 67, 79, 76, 85, 77, 78, 83, 10, 32, 120, 32, 99, 111, 115, 116, 32, 50, 32, 99, 97, 112, 32, 49, 10, 32, 120, 32, 110, 101, 101, 100, 32, 49, 10, 32, 121, 32, 99, 111, 115, 116, 32, 53, 32, 110, 101, 101, 100, 32, 49, 10, 82, 72, 83, 10, 32, 82, 32, 99, 97, 112, 32, 49, 48, 32, 110, 101, 101, 100, 32, 52, 10, 66, 79, 85, 78, 68, 83, 10, 32, 85, 80, 32, 66, 32, 120, 32, 56, 10, 69, 78, 68, 65, 84, 65, 10]))), (1, 1, (.k (.s [84, 73, 77, 69, 32, 84, 10, 80, 69, 82, 73, 79, 68, 83, 10, 32, 120, 32, 99, 97, 112, 32, 111, 110, 101, 10, 32, 121, 32, 110, 101, 101, 100, 32, 116, 119, 111, 10, 69, 78, 68, 65, 84, 65, 10]))), (2, 1, (.k (.s [83, 84, 79, 67, 72, 32, 84, 10, 73, 78, 68, 69, 80, 32, 68, 73, 83, 67, 82, 69, 84, 69, 10, 32, 82, 72, 83, 32, 110, 101, 101, 100, 32, 52, 32, 116, 119, 111, 32, 48, 46, 53, 10, 32, 82, 72, 83, 32, 110, 101, 101, 100, 32, 49, 50, 32, 116, 119, 111, 32, 48, 46, 53, 10, 69, 78, 68, 65, 84, 65, 10])))]), oC (.stn 3 u1 u0)])
(.ret [.ldn 3 u1])))
theorem fg21 : FGood Tryz.prog T 21 (.code 0 c21) := ⟨Tryz.call21, Tryz.f21, c21, Tryz.func21, by kernel_rfl⟩
def c22 : BC := (.seq (.reg [o 2 (.alloc 212 [(.s []), (.s []), .sn, .sn]), o 3 (.mv (kJ 0)), o 4 (.mv (kJ 0))])
(.seq (.reg [o 13 (.call 12 [u3]), o 14 (.ext 0 u0), o 15 (.ext 1 u1), o 16 (.ext 2 u2)])
(.seq (.seq (.reg [o 18 (.bin .neq u0 (kJ 0))])
(.cond u0
(.seq (.reg [o 19 (.build [(.s []), (.s []), .sn, .sn] []), oC (.stn 4 u8 u0)])
(.ret [.ldn 4 u8, .mv u3, .mv u2]))
 .skip))
(.seq (.reg [o 22 (.mkm), o 23 (.mkm), o 24 (.mkm), o 25 (.build [(.s []), (.s []), .sn, .sn, (.i .i64 0), .mn, .mn, .mn, (.b false), .sn, (.i .i64 0)] [(5, 1, u2), (6, 1, u1), (7, 1, u0)]), o 26 (.box 588 u0)])
(.seq (.seq (.reg [o 28 (.len false u8), o 29 (.mv (kJ 0))])
(.block 0 [2] (.pre [2, 8, 27, 28, 29] [14, 2, 10, 1, 0] (.loop (.post (.seq (.reg [o 30 (.bin .lss u4 u3)])
(.seq (.cond u0
 .skip
(.pre [2] [1] (.exit 0)))
(.seq (.block 1 [2, 8, 27, 28, 29] (.post (.seq (.reg [o 31 (.ia 3 u3 u5), o 32 (.ldn 3 u0), o 10 (.alloc 136 [(.i .i64 0), (.b false), .sn]), oC (.stn 3 u0 u1)])
(.seq (.seq (.reg [o 34 (.ldn 3 u0), o 35 (.call 58 [u6, u0])])
(.seq (.reg [o 37 (.nck u7), o 38 (.fa 10 u0), o 39 (.ld u0), o 40 (.bin .neq u0 (kJ 0))])
(.cond u0
(.seq (.post (.reg [o 41 (.build [(.s []), (.s []), .sn, .sn] []), o 42 (.fa 0 u7), o 43 (.ld u0), o 45 (.nck u14), o 46 (.fa 10 u0), o 47 (.ld u0), oC (.stn 4 u16 u5), .chk ⟨(some 3), none, .ld u4⟩, .chk ⟨(some 0), none, .ld u1⟩]) [2, 3, 4] [16, 3, 0])
(.ret [.ldn 4 u0, .mv u1, .mv u2]))
 .skip)))
(.seq (.reg [o 49 (.nck u11), o 50 (.fa 4 u0), o 51 (.ld u0), o 52 (.bin .eql u0 (kJ 7))])
(.cond u0
(.seq (.post (.reg [o 54 (.nck u15), o 55 (.fa 0 u0), o 56 (.ldn 4 u0), oC (.stn 4 u17 u0), o 3 (.mv (kJ 0)), o 4 (.mv (kJ 0))]) [2, 3, 4] [19, 1, 0])
(.ret [.ldn 4 u0, .mv u1, .mv u2]))
 .skip)))) [2, 8, 27, 28, 29] [14, 15, 16, 17, 18]))
(.reg [o 57 (.bin .add u4 (kJ 1))])))) [2, 8, 27, 28, 29] [1, 2, 3, 4, 0])))))
(.seq (.reg [o 58 (.build [(.s []), (.s []), .sn, .sn] []), oC (.stn 4 u1 u0), o 3 (.mv (kJ 0)), o 4 (.mv (kJ 5))])
(.ret [.ldn 4 u3, .mv u1, .mv u0])))))))
theorem fg22 : FGood Tryz.prog T 22 (.code 1 c22) := ⟨Tryz.call22, Tryz.f22, c22, Tryz.func22, by kernel_rfl⟩
def c23 : BC := (.seq (.reg [o 2 (.mv (.k (.s []))), o 3 (.mv (.k .sn)), o 4 (.mv (kJ 0)), o 5 (.mv (kJ 0))])
(.seq (.reg [o 14 (.call 12 [u4]), o 15 (.ext 0 u0), o 16 (.ext 1 u1), o 17 (.ext 2 u2)])
(.seq (.seq (.reg [o 19 (.bin .neq u0 (kJ 0))])
(.cond u0
(.seq (.reg [o 2 (.mv (.k (.s []))), o 3 (.mv (.k .sn))])
(.ret [.mv u1, .mv u0, .mv u4, .mv u3]))
 .skip))
(.seq (.reg [o 22 (.build [(.s []), .sn, (.i .i64 0)] []), o 23 (.box 604 u0)])
(.seq (.seq (.reg [o 25 (.len false u5), o 26 (.mv (kJ 0))])
(.block 0 [] (.pre [9, 24, 25, 26] [2, 7, 1, 0] (.loop (.post (.seq (.reg [o 27 (.bin .lss u3 u2)])
(.seq (.cond u0
 .skip
(.pre [] [] (.exit 0)))
(.seq (.block 1 [9, 24, 25, 26] (.post (.seq (.reg [o 28 (.ia 3 u2 u4), o 29 (.ldn 3 u0), o 11 (.alloc 136 [(.i .i64 0), (.b false), .sn]), oC (.stn 3 u0 u1)])
(.seq (.seq (.reg [o 30 (.fa 1 u0), o 31 (.ld u0)])
(.cond u0
(.post (.reg [o 33 (.fa 2 u2), o 34 (.ld u0), o 35 (.call 59 [u8, u0])]) [8, 9, 11, 24, 25, 26] [0, 9, 5, 10, 11, 12])
(.post (.reg [o 37 (.fa 2 u2), o 38 (.ld u0), o 39 (.call 60 [u8, u0])]) [8, 9, 11, 24, 25, 26] [0, 9, 5, 10, 11, 12])))
(.seq (.seq (.reg [o 41 (.bin .neq u0 (kJ 0))])
(.cond u0
(.seq (.reg [o 42 (.fa 0 u3), o 43 (.ld u0), o 2 (.mv (.k (.s []))), o 3 (.mv (.k .sn))])
(.ret [.mv u1, .mv u0, .mv u2, .mv u5]))
 .skip))
(.seq (.reg [o 46 (.nck u2), o 47 (.fa 2 u0), o 48 (.ld u0), o 49 (.bin .eql u0 (kJ 3))])
(.cond u0
(.seq (.post (.reg [o 51 (.nck u6), o 52 (.fa 0 u0), o 53 (.ld u0), o 55 (.nck u9), o 56 (.fa 1 u0), o 57 (.ld u0), o 4 (.mv (kJ 0)), o 5 (.mv (kJ 0))]) [2, 3, 4, 5] [5, 2, 1, 0])
(.ret [.mv u0, .mv u1, .mv u2, .mv u3]))
 .skip))))) [9, 24, 25, 26] [6, 8, 9, 10]))
(.reg [o 58 (.bin .add u3 (kJ 1))])))) [9, 24, 25, 26] [1, 2, 3, 0])))))
(.seq (.reg [o 2 (.mv (.k (.s []))), o 3 (.mv (.k .sn)), o 4 (.mv (kJ 0)), o 5 (.mv (kJ 5))])
(.ret [.mv u3, .mv u2, .mv u1, .mv u0])))))))
theorem fg23 : FGood Tryz.prog T 23 (.code 1 c23) := ⟨Tryz.call23, Tryz.f23, c23, Tryz.func23, by kernel_rfl⟩
def c24 : BC := (.seq (.reg [o 6 (.alloc 264 [(.b false), .sn, .sn])])
(.seq (.reg [oA 9 1 (.mv u2), oA 10 2 (.len false u0), oA 11 3 (.bin .gtr u0 (kJ 0)), o 12 (.pick u4 u0 kF), o 15 (.build [(.b false), .sn, .sn] [(0, 1, u0), (1, 1, u6), (2, 1, u7)]), oC (.stn 3 u5 u0)])
(.ret [.ldn 3 u5])))
theorem fg24 : FGood Tryz.prog T 24 (.code 3 c24) := ⟨Tryz.call24, Tryz.f24, c24, Tryz.func24, by kernel_rfl⟩
def c25 : BC := (.seq (.reg [o 1 (.box 264 u0), o 2 (.mv (.k (.s [])))])
(.seq (.reg [o 4 (.ldn 3 u1), o 5 (.call 61 [u0]), oC (.stn 3 u3 u0)])
(.seq (.reg [o 6 (.fa 1 u3), o 7 (.ld u0), o 8 (.call 62 [u0])])
(.seq (.seq (.reg [o 9 (.fa 0 u6), o 10 (.ld u0)])
(.cond u0
(.post (.reg [o 12 (.bin .add (.k (.s [45])) u2)]) [1, 3] [9, 0])
(.post .skip [1, 3] [8, 2])))
(.seq (.seq (.reg [o 13 (.fa 2 u0), o 14 (.ld u0), o 15 (.bsl 1 1 [(.i .i64 0)] [(0, 1, (kJ 1))]), o 16 (.call 54 [u1, u0]), o 17 (.bin .gtr u0 (kJ 0))])
(.cond u0
(.post (.reg [o 19 (.fa 2 u5), o 20 (.ld u0), o 21 (.call 62 [u0]), o 22 (.bin .add (.k (.s [47])) u0), o 23 (.bin .add u10 u0)]) [3] [0])
(.post .skip [3] [6])))
(.seq (.reg [])
(.ret [.mv u0])))))))
theorem fg25 : FGood Tryz.prog T 25 (.code 1 c25) := ⟨Tryz.call25, Tryz.f25, c25, Tryz.func25, by kernel_rfl⟩
def c26 : BC := (.seq (.reg [o 4 (.box 212 u0), o 6 (.box 336 u3), o 8 (.alloc 232 [.sn, .sn, .sn, .sn, .sn]), o 9 (.mv (.k .sn)), o 10 (.mv (kJ 0))])
(.seq (.reg [o 24 (.ldn 4 u4), o 26 (.call 17 [u0, u7]), o 27 (.ext 0 u0), o 28 (.ext 1 u1), o 11 (.alloc 232 [.sn, .sn, .sn, .sn, .sn]), oC (.stn 5 u0 u2)])
(.seq (.seq (.reg [o 30 (.bin .neq u1 (kJ 0))])
(.cond u0
(.seq (.post (.reg [o 31 (.build [.sn, .sn, .sn, .sn, .sn] []), oC (.stn 5 u9 u0), o 9 (.mv (.k .sn))]) [8, 9, 10] [10, 0, 4])
(.ret [.ldn 5 u0, .mv u1, .mv u2]))
 .skip))
(.seq (.seq (.reg [o 33 (.ldn 2 u9), o 34 (.call 38 [u0])])
(.seq (.reg [o 36 (.bin .neq u0 (kJ 0))])
(.cond u0
(.seq (.post (.reg [o 37 (.build [.sn, .sn, .sn, .sn, .sn] []), oC (.stn 5 u12 u0), o 9 (.mv (.k .sn))]) [8, 9, 10] [13, 0, 3])
(.ret [.ldn 5 u0, .mv u1, .mv u2]))
 .skip)))
(.seq (.post (.reg [o 40 (.ldn 4 u13), o 42 (.ldn 2 u13), o 43 (.call 63 [u1, u17, u0]), o 44 (.ext 0 u0), o 45 (.ext 1 u1)]) [3, 6, 8, 11, 12, 14] [22, 17, 16, 9, 0, 1])
(.seq (.seq (.reg [o 47 (.bin .neq u4 (kJ 0))])
(.cond u0
(.seq (.reg [o 48 (.build [.sn, .sn, .sn, .sn, .sn] []), oC (.stn 5 u4 u0), o 9 (.mv (.k .sn))])
(.ret [.ldn 5 u5, .mv u0, .mv u7]))
 .skip))
(.seq (.reg [o 51 (.ldn 2 u2), o 53 (.call 27 [u0, u2]), o 54 (.ext 0 u0), o 55 (.ext 1 u1)])
(.seq (.seq (.reg [o 57 (.un .not u0)])
(.cond u0
(.seq (.post (.reg [o 58 (.build [.sn, .sn, .sn, .sn, .sn] []), oC (.stn 5 u9 u0), o 9 (.mv (.k .sn)), o 10 (.mv (kJ 6))]) [8, 9, 10] [11, 1, 0])
(.ret [.ldn 5 u0, .mv u1, .mv u2]))
 .skip))
(.seq (.reg [o 17 (.mv (.k .sn))])
(.seq (.seq (.reg [o 60 (.mv (kJ 0))])
(.block 0 [8, 11, 17] (.pre [6, 8, 11, 14, 15, 17, 59, 60] [9, 10, 11, 13, 4, 1, 4, 0] (.loop (.post (.seq (.reg [o 61 (.bin .lss u7 u6)])
(.seq (.cond u0
 .skip
(.pre [8, 11, 17] [2, 3, 6] (.exit 0)))
(.seq (.block 1 [6, 8, 11, 14, 15, 17, 59, 60] (.post (.seq (.reg [])
(.seq (.reg [o 63 (.ldn 5 u3), o 64 (.call 64 [u0]), o 19 (.alloc 408 [(.s []), .sn, .sn, .sn]), oC (.stn 4 u0 u1)])
(.seq (.reg [])
(.seq (.seq (.reg [o 66 (.fa 1 u4), o 67 (.ld u0), o 68 (.len false u0), o 69 (.mv (kJ 0))])
(.block 2 [6, 8, 11, 14, 15, 17, 19, 59, 60] (.pre [6, 8, 11, 14, 15, 17, 18, 19, 20, 59, 60, 67, 68, 69] [8, 9, 10, 11, 12, 13, 15, 4, 12, 14, 15, 2, 1, 0] (.loop (.post (.seq (.reg [o 70 (.bin .lss u13 u12)])
(.seq (.cond u0
 .skip
(.pre [6, 8, 11, 14, 15, 17, 19, 59, 60] [1, 2, 3, 4, 5, 6, 8, 10, 11] (.exit 2)))
(.seq (.block 3 [6, 8, 11, 14, 15, 17, 18, 19, 20, 59, 60, 67, 68, 69] (.post (.seq (.reg [o 71 (.ia 2 u12 u14), o 72 (.ldn 2 u0), o 22 (.alloc 348 [(.s []), .sn]), oC (.stn 2 u0 u1)])
(.seq (.reg [o 74 (.fa 1 u0), o 75 (.ld u0), o 76 (.len false u0), o 77 (.bin .quo u15 u0)])
(.reg [o 78 (.fa 1 u4), o 79 (.ld u0), o 82 (.bin .quo u16 u2), o 83 (.fa 1 u7), o 84 (.ld u0), o 85 (.len false u0), o 86 (.bin .rem u3 u0), o 87 (.ia 2 u5 u0), o 88 (.ldn 2 u0), o 90 (.call 65 [u24, u0, u20])]))) [6, 8, 11, 14, 15, 17, 18, 19, 20, 59, 60, 67, 68, 69] [18, 19, 20, 21, 22, 23, 24, 25, 10, 27, 28, 29, 30, 31]))
(.reg [o 91 (.bin .add u13 (kJ 1))])))) [6, 8, 11, 14, 15, 17, 18, 19, 20, 59, 60, 67, 68, 69] [1, 2, 3, 4, 5, 6, 7, 8, 9, 10, 11, 12, 13, 0])))))
(.reg [o 93 (.ldn 4 u6), o 94 (.bsl 1 4 [(.s []), .sn, .sn, .sn] [(0, 4, u0)]), o 95 (.app 408 4 88 u7 u0)]))))) [6, 8, 11, 14, 15, 17, 59, 60] [3, 4, 5, 6, 7, 0, 10, 11]))
(.reg [o 96 (.bin .add u7 (kJ 1))])))) [6, 8, 11, 14, 15, 17, 59, 60] [1, 2, 3, 4, 5, 6, 7, 0])))))
(.seq (.reg [o 97 (.ldn 5 u1), oC (.stn 5 u1 u0), o 10 (.mv (kJ 0))])
(.ret [.ldn 5 u2, .mv u4, .mv u0]))))))))))))
theorem fg26 : FGood Tryz.prog T 26 (.code 4 c26) := ⟨Tryz.call26, Tryz.f26, c26, Tryz.func26, by kernel_rfl⟩
def c27 : BC := (.seq (.reg [o 2 (.box 336 u0), o 4 (.mv (kJ 0)), o 5 (.mv kF)])
(.seq (.seq (.reg [o 10 (.bin .lss u4 (kJ 1)), oB 12 0 (.mv u5), oB 13 1 (.bin .gtr u0 (kJ 64)), o 14 (.pick u2 kU u0)])
(.cond u0
(.post (.reg [o 1 (.mv (kJ 64))]) [1, 2] [0, 7])
(.post .skip [1, 2] [8, 6])))
(.seq (.reg [o 6 (.mv (kJ 1))])
(.seq (.seq (.reg [o 15 (.fa 1 u2), o 16 (.ld u0), o 17 (.len false u0), o 18 (.mv (kJ 0))])
(.block 0 [6] (.pre [1, 6, 16, 17, 18] [5, 4, 2, 1, 0] (.loop (.post (.seq (.reg [o 19 (.bin .lss u4 u3)])
(.seq (.cond u0
 .skip
(.pre [6] [2] (.exit 0)))
(.seq (.block 1 [1, 6, 16, 17, 18] (.post (.seq (.reg [o 20 (.ia 2 u3 u5), o 21 (.ldn 2 u0), o 8 (.alloc 348 [(.s []), .sn]), oC (.stn 2 u0 u1)])
(.seq (.reg [o 23 (.fa 1 u0), o 24 (.ld u0), o 25 (.len false u0), o 27 (.bin .add u7 (kJ 1)), o 28 (.mm false u1 [u0]), o 29 (.bin .mul u10 u0)])
(.seq (.reg [o 32 (.bin .gtr u0 u10)])
(.cond u0
(.seq (.post (.reg [o 4 (.mv (kJ 0)), o 5 (.mv kF)]) [4, 5] [1, 0])
(.ret [.mv u0, .mv u1]))
 .skip)))) [1, 6, 16, 17, 18] [11, 1, 13, 14, 15]))
(.reg [o 33 (.bin .add u4 (kJ 1))])))) [1, 6, 16, 17, 18] [1, 2, 3, 4, 0])))))
(.seq (.reg [o 5 (.mv kU)])
(.ret [.mv u1, .mv u0]))))))
theorem fg27 : FGood Tryz.prog T 27 (.code 2 c27) := ⟨Tryz.call27, Tryz.f27, c27, Tryz.func27, by kernel_rfl⟩
def c30 : BC := (.seq (.reg [o 2 (.mv (.k .sn))])
(.seq (.reg [o 3 (.mv (.k .sn))])
(.seq (.block 0 [3] (.pre [0, 3] [2, 0] (.loop (.post (.seq (.seq (.reg [o 5 (.bin .gtr u0 (.k (.i .u64 0)))])
(.cond u0
 .skip
(.pre [3] [2] (.exit 0))))
(.seq (.block 1 [0, 3] (.post (.reg [o 10 (.bin .rem u1 (.k (.i .u64 10000))), o 11 (.cvi .i64 u0), o 12 (.bsl 1 1 [(.i .i64 0)] [(0, 1, u0)]), o 13 (.app 16 1 8 u5 u0)]) [0, 3] [5, 0]))
(.reg [o 7 (.bin .quo u0 (.k (.i .u64 10000)))]))) [0, 3] [0, 2]))))
(.seq (.reg [])
(.ret [.mv u0])))))
theorem fg30 : FGood Tryz.prog T 30 (.code 1 c30) := ⟨Tryz.call30, Tryz.f30, c30, Tryz.func30, by kernel_rfl⟩
def c31 : BC := (.seq (.reg [o 2 (.mv (.k (.s []))), o 3 (.alloc 336 [(.i .i64 0), .sn]), o 4 (.mv (kJ 0)), o 5 (.mv (kJ 0))])
(.seq (.reg [o 15 (.call 12 [u4]), o 16 (.ext 0 u0), o 17 (.ext 1 u1), o 18 (.ext 2 u2)])
(.seq (.seq (.reg [o 20 (.bin .neq u0 (kJ 0))])
(.cond u0
(.seq (.reg [o 21 (.build [(.i .i64 0), .sn] []), o 2 (.mv (.k (.s []))), oC (.stn 2 u9 u1)])
(.ret [.mv u0, .ldn 2 u9, .mv u4, .mv u3]))
 .skip))
(.seq (.reg [o 24 (.mkm), o 25 (.build [(.s []), (.i .i64 0), .sn, (.i .i64 0), .pn, .mn, .sn, (.i .i64 0)] [(5, 1, u0)]), o 26 (.box 648 u0)])
(.seq (.seq (.reg [o 28 (.len false u6), o 29 (.mv (kJ 0))])
(.block 0 [3] (.pre [3, 9, 27, 28, 29] [12, 2, 8, 1, 0] (.loop (.post (.seq (.reg [o 30 (.bin .lss u4 u3)])
(.seq (.cond u0
 .skip
(.pre [3] [1] (.exit 0)))
(.seq (.block 1 [3, 9, 27, 28, 29] (.seq (.reg [o 31 (.ia 3 u3 u5), o 32 (.ldn 3 u0), o 11 (.alloc 136 [(.i .i64 0), (.b false), .sn]), oC (.stn 3 u0 u1)])
(.seq (.seq (.reg [o 34 (.ldn 3 u0), o 35 (.call 69 [u6, u0])])
(.seq (.reg [o 37 (.nck u7), o 38 (.fa 7 u0), o 39 (.ld u0), o 40 (.bin .neq u0 (kJ 0))])
(.cond u0
(.seq (.post (.reg [o 41 (.build [(.i .i64 0), .sn] []), o 42 (.fa 0 u7), o 43 (.ld u0), o 45 (.nck u14), o 46 (.fa 7 u0), o 47 (.ld u0), o 2 (.mv (.k (.s []))), oC (.stn 2 u17 u6), .chk ⟨(some 4), none, .ld u5⟩, .chk ⟨(some 1), none, .ld u2⟩]) [2, 3, 4, 5] [0, 17, 4, 1])
(.ret [.mv u0, .ldn 2 u1, .mv u2, .mv u3]))
 .skip)))
(.seq (.seq (.reg [o 49 (.nck u11), o 50 (.fa 3 u0), o 51 (.ld u0), o 52 (.bin .neq u0 (kJ 3))])
(.cond u0
(.pre [3, 9, 27, 28, 29] [14, 15, 16, 17, 18] (.exit 1))
 .skip))
(.seq (.seq (.post (.reg [o 54 (.nck u15), o 55 (.fa 1 u0), o 56 (.ldn 2 u0), o 57 (.call 38 [u0])]) [3, 9, 12] [18, 19, 0])
(.seq (.reg [o 59 (.bin .neq u2 (kJ 0))])
(.cond u0
(.seq (.reg [o 60 (.build [(.i .i64 0), .sn] []), o 2 (.mv (.k (.s []))), oC (.stn 2 u3 u1), o 4 (.mv (kJ 0))])
(.ret [.mv u1, .ldn 2 u4, .mv u0, .mv u6]))
 .skip)))
(.seq (.reg [o 63 (.nck u2), o 64 (.fa 0 u0), o 65 (.ld u0), o 67 (.nck u5), o 68 (.fa 1 u0), o 69 (.ldn 2 u0), oC (.stn 2 u7 u0), o 4 (.mv (kJ 0)), o 5 (.mv (kJ 0))])
(.ret [.mv u5, .ldn 2 u9, .mv u1, .mv u0])))))))
(.reg [o 70 (.bin .add u4 (kJ 1))])))) [3, 9, 27, 28, 29] [1, 2, 3, 4, 0])))))
(.seq (.reg [o 71 (.build [(.i .i64 0), .sn] []), o 2 (.mv (.k (.s []))), oC (.stn 2 u2 u1), o 4 (.mv (kJ 0)), o 5 (.mv (kJ 5))])
(.ret [.mv u2, .ldn 2 u4, .mv u1, .mv u0])))))))
theorem fg31 : FGood Tryz.prog T 31 (.code 1 c31) := ⟨Tryz.call31, Tryz.f31, c31, Tryz.func31, by kernel_rfl⟩
def c33 : BC := (.seq (.reg [o 1 (.box 212 u0), o 2 (.mv (.k (.s []))), o 3 (.mv kF)])
(.seq (.seq (.reg [o 7 (.ldn 4 u2), o 8 (.call 37 [u0]), o 9 (.bin .neq u0 (kJ 0))])
(.cond u0
(.seq (.reg [o 2 (.mv (.k (.s []))), o 3 (.mv kF)])
(.ret [.mv u1, .mv u0]))
 .skip))
(.seq (.reg [o 10 (.build [.pn, .sn, (.b false)] []), o 11 (.box 676 u0)])
(.seq (.post (.reg [o 13 (.fa 0 u7), o 14 (.ld u0), o 15 (.bsl 2 1 [(.s [])] [(0, 1, (.k (.s [78, 65, 77, 69]))), (1, 1, u0)]), o 16 (.call 71 [u3, u0])]) [1, 4] [11, 4])
(.seq (.reg [o 18 (.bsl 1 1 [(.s [])] [(0, 1, (.k (.s [82, 79, 87, 83])))]), o 19 (.call 71 [u2, u0])])
(.seq (.reg [o 21 (.fa 1 u2), o 22 (.ld u0), o 23 (.bsl 3 1 [(.s [])] [(0, 1, (.k (.s []))), (1, 1, (.k (.s [78]))), (2, 1, u0)]), o 24 (.call 71 [u6, u0])])
(.seq (.seq (.reg [o 25 (.fa 2 u6), o 26 (.ld u0), o 27 (.len false u0), o 28 (.mv (kJ 0))])
(.block 0 [1, 4] (.pre [1, 4, 26, 27, 28] [10, 11, 2, 1, 0] (.loop (.post (.seq (.reg [o 29 (.bin .lss u4 u3)])
(.seq (.cond u0
 .skip
(.pre [1, 4] [1, 2] (.exit 0)))
(.seq (.block 1 [1, 4, 26, 27, 28] (.post (.seq (.reg [o 30 (.ia 5 u3 u5), o 31 (.ldn 5 u0), o 6 (.alloc 188 [(.s []), (.i .i64 0), .sn, (.s []), (.s [])]), oC (.stn 5 u0 u1)])
(.reg [o 33 (.bsl 4 1 [(.s [])] [(0, 1, (.k (.s []))), (1, 1, (.k (.s [76]))), (2, 1, (.k (.s [69]))), (3, 1, (.k (.s [71])))]), o 34 (.fa 1 u1), o 35 (.ld u0), o 36 (.ia 1 u2 u0), o 37 (.ld u0), o 38 (.fa 0 u5), o 39 (.ld u0), o 40 (.bsl 3 1 [(.s [])] [(0, 1, (.k (.s []))), (1, 1, u2), (2, 1, u0)]), o 41 (.call 71 [u13, u0])])) [1, 4, 26, 27, 28] [13, 14, 15, 16, 17]))
(.reg [o 42 (.bin .add u4 (kJ 1))])))) [1, 4, 26, 27, 28] [1, 2, 3, 4, 0])))))
(.seq (.reg [o 44 (.ldn 4 u0), o 45 (.call 72 [u2, u0])])
(.seq (.reg [o 47 (.ldn 4 u2), o 48 (.call 73 [u4, u0])])
(.seq (.reg [o 50 (.ldn 4 u4), o 51 (.call 74 [u6, u0])])
(.seq (.reg [o 53 (.bsl 1 1 [(.s [])] [(0, 1, (.k (.s [69, 78, 68, 65, 84, 65])))]), o 54 (.call 71 [u8, u0])])
(.seq (.post (.reg [o 56 (.call 75 [u9]), o 57 (.ext 0 u0), o 58 (.ext 1 u1)]) [2, 3] [1, 0])
(.ret [.mv u0, .mv u1])))))))))))))
theorem fg33 : FGood Tryz.prog T 33 (.code 1 c33) := ⟨Tryz.call33, Tryz.f33, c33, Tryz.func33, by kernel_rfl⟩
def c34 : BC := (.seq (.reg [o 3 (.box 212 u0), o 5 (.box 320 u3), o 6 (.mv (kJ 0)), o 7 (.mv (kJ 0)), o 8 (.mv (kJ 0)), o 9 (.mv (kJ 0))])
(.seq (.seq (.reg [o 20 (.ldn 4 u5), o 21 (.call 37 [u0])])
(.seq (.reg [o 23 (.bin .neq u0 (kJ 0))])
(.cond u0
(.seq (.reg [o 6 (.mv (kJ 0)), o 7 (.mv (kJ 0)), o 8 (.mv (kJ 0))])
(.ret [.mv u2, .mv u1, .mv u0, .mv u4]))
 .skip)))
(.seq (.seq (.reg [o 25 (.ldn 4 u8), o 27 (.call 39 [u0, u11])])
(.seq (.reg [o 29 (.bin .neq u0 (kJ 0))])
(.cond u0
(.seq (.post (.reg [o 6 (.mv (kJ 0)), o 7 (.mv (kJ 0)), o 8 (.mv (kJ 0))]) [6, 7, 8, 9] [2, 1, 0, 4])
(.ret [.mv u0, .mv u1, .mv u2, .mv u3]))
 .skip)))
(.seq (.post (.reg [o 32 (.ldn 4 u11), o 34 (.call 47 [u0, u14]), o 35 (.ext 0 u0), o 36 (.ext 1 u1)]) [3, 5, 12, 13] [15, 14, 1, 0])
(.seq (.reg [o 37 (.fa 2 u0), o 38 (.ld u0), o 39 (.mkf 77 [] [u3]), o 40 (.call 76 [u1, u0])])
(.seq (.reg [o 41 (.fa 3 u4), o 42 (.ld u0), o 43 (.mkf 79 [] [u7]), o 44 (.call 78 [u1, u0])])
(.seq (.reg [o 45 (.fa 1 u9), o 46 (.ld u0), o 47 (.fa 1 u10), o 48 (.ld u0), o 49 (.bin .eql u2 u0)])
(.seq (.block 0 [3, 12, 13, 14, 15] (.post (.seq (.post (.reg [o 52 (.bin .lss u9 (kJ 0)), oA 54 0 (.mv u1), oA 55 1 (.un .not u0), o 56 (.pick u2 u0 kF), oB 58 0 (.mv u9), oB 59 1 (.bin .lss u0 (kJ 0)), oB 60 2 (.mv u0), oA 61 0 (.fa 0 u21), oA 62 1 (.ld u0), oA 63 2 (.bin .neq u0 (.k (.s []))), oB 64 6 (.pick u3 u0 kF), o 65 (.pick u7 kU u0)]) [3, 12, 13, 14, 15, 16, 50] [25, 27, 28, 21, 17, 12, 0])
(.cond u6
(.seq (.reg [o 6 (.mv (kJ 0)), o 7 (.mv (kJ 0)), o 8 (.mv (kJ 0)), o 9 (.mv (kJ 4))])
(.ret [.mv u3, .mv u2, .mv u1, .mv u0]))
(.seq (.seq (.reg [o 68 (.un .not u5), oA 70 0 (.mv u4), oA 71 1 (.mv u4), oA 72 2 (.bin .lss u1 u0), o 73 (.pick u3 u0 kF)])
(.cond u0
(.post .skip [3, 12, 13, 14, 15, 16, 66] [5, 6, 7, 8, 9, 10, 0])
(.post (.reg [oA 76 10 (.mv u9), oA 77 11 (.bin .geq u0 (kJ 0)), o 78 (.pick u12 u0 kF), oA 80 0 (.mv u12), oA 81 1 (.mv u10), oA 82 2 (.bin .lss u1 u0), o 83 (.pick u3 u0 kF)]) [3, 12, 13, 14, 15, 16, 66] [12, 13, 14, 15, 16, 17, 0])))
(.cond u6
(.seq (.reg [o 6 (.mv (kJ 0)), o 7 (.mv (kJ 0)), o 8 (.mv (kJ 0)), o 9 (.mv (kJ 5))])
(.ret [.mv u3, .mv u2, .mv u1, .mv u0]))
(.seq (.seq (.reg [oA 87 5 (.mv u4), oA 88 6 (.bin .lss u0 (kJ 0)), o 89 (.pick u7 u0 kF)])
(.cond u0
(.post .skip [3, 12, 13, 14, 15, 16, 84] [3, 4, 5, 6, 7, 8, 0])
(.post (.reg [o 91 (.un .not u8), oA 93 0 (.fa 2 u4), oA 94 1 (.ld u0), oA 95 2 (.mv u9), oA 96 3 (.ia 5 u1 u0), oA 97 4 (.fa 4 u0), oA 98 5 (.ld u0), oA 99 6 (.bin .neq u0 (.k (.s []))), o 100 (.pick u7 u0 kF)]) [3, 12, 13, 14, 15, 16, 84] [12, 13, 14, 15, 16, 17, 0])))
(.cond u6
(.seq (.reg [o 6 (.mv (kJ 0)), o 7 (.mv (kJ 0)), o 8 (.mv (kJ 0)), o 9 (.mv (kJ 7))])
(.ret [.mv u3, .mv u2, .mv u1, .mv u0]))
(.seq (.reg [])
(.cond u5
(.seq (.reg [o 105 (.bin .sub u4 u1), o 6 (.mv (kJ 2)), o 7 (.mv (kJ 0)), o 9 (.mv (kJ 0))])
(.ret [.mv u2, .mv u1, .mv u3, .mv u0]))
 .skip)))))))) [3, 12, 13, 14, 15] [0, 1, 2, 3, 4]))
(.seq (.reg [o 17 (.mv (kJ 0))])
(.seq (.seq (.reg [o 106 (.fa 2 u1), o 107 (.ld u0), o 110 (.slv 5 u0 (some u5) (some u6)), o 111 (.len false u0), o 112 (.mv (kJ 0))])
(.block 1 [12, 15, 17] (.pre [12, 15, 17, 110, 111, 112] [7, 10, 5, 2, 1, 0] (.loop (.post (.seq (.reg [o 113 (.bin .lss u5 u4)])
(.seq (.cond u0
 .skip
(.pre [12, 15, 17] [1, 2, 3] (.exit 1)))
(.seq (.block 2 [12, 15, 17, 110, 111, 112] (.post (.seq (.reg [o 114 (.ia 5 u4 u6), o 115 (.ldn 5 u0), o 19 (.alloc 188 [(.s []), (.i .i64 0), .sn, (.s []), (.s [])]), oC (.stn 5 u0 u1)])
(.reg [o 117 (.ldn 5 u0), o 118 (.call 50 [u0]), o 119 (.len false u0), o 120 (.bin .add u9 u0)])) [12, 15, 17, 110, 111, 112] [8, 9, 0, 11, 12, 13]))
(.reg [o 121 (.bin .add u5 (kJ 1))])))) [12, 15, 17, 110, 111, 112] [1, 2, 3, 4, 5, 0])))))
(.seq (.block 3 [12, 15, 17] (.post (.seq (.reg [o 124 (.bin .lss u1 (kJ 0))])
(.cond u0
(.seq (.reg [o 6 (.mv (kJ 1)), o 8 (.mv (kJ 0)), o 9 (.mv (kJ 0))])
(.ret [.mv u2, .mv u6, .mv u1, .mv u0]))
(.seq (.reg [o 129 (.bin .lss u2 u1)])
(.cond u0
(.seq (.reg [o 6 (.mv (kJ 3)), o 9 (.mv (kJ 0))])
(.ret [.mv u1, .mv u6, .mv u5, .mv u0]))
 .skip)))) [12, 15, 17] [2, 3, 4]))
(.seq (.reg [o 135 (.bin .sub u1 u0), o 6 (.mv (kJ 4)), o 9 (.mv (kJ 0))])
(.ret [.mv u1, .mv u5, .mv u2, .mv u0])))))))))))))
theorem fg34 : FGood Tryz.prog T 34 (.code 3 c34) := ⟨Tryz.call34, Tryz.f34, c34, Tryz.func34, by kernel_rfl⟩
def c35 : BC := (.seq (.reg [o 0 (.mv kF)])
(.seq (.reg [o 1 (.call 80 [])])
(.ret [.mv u0])))
theorem fg35 : FGood Tryz.prog T 35 (.code 0 c35) := ⟨Tryz.call35, Tryz.f35, c35, Tryz.func35, by kernel_rfl⟩
def c36 : BC := (.seq (.reg [o 2 (.box 212 u0), o 3 (.box 212 u2), o 4 (.mv kF)])
(.seq (.reg [o 5 (.mv (.k (.f 81 [] [])))])
(.seq (.post (.reg [o 6 (.fa 0 u3), o 7 (.ld u0), o 8 (.fa 0 u4), o 9 (.ld u0), o 10 (.bin .eql u2 u0), oA 12 0 (.fa 1 u8), oA 13 1 (.ld u0), oA 14 2 (.fa 1 u9), oA 15 3 (.ld u0), oA 16 4 (.bin .eql u2 u0), o 17 (.pick u5 u0 kF), oA 19 0 (.fa 2 u14), oA 20 1 (.ld u0), oA 21 2 (.fa 2 u15), oA 22 3 (.ld u0), oA 23 4 (.mv u15), oA 24 5 (.call 83 [u3, u1, u0]), o 25 (.pick u6 u0 kF), oA 27 0 (.fa 3 u21), oA 28 1 (.ld u0), oA 29 2 (.fa 3 u22), oA 30 3 (.ld u0), oA 31 4 (.call 84 [u2, u0]), o 32 (.pick u5 u0 kF)]) [4] [0])
(.ret [.mv u0]))))
theorem fg36 : FGood Tryz.prog T 36 (.code 2 c36) := ⟨Tryz.call36, Tryz.f36, c36, Tryz.func36, by kernel_rfl⟩
def c37 : BC := (.seq (.reg [o 1 (.box 212 u0), o 2 (.mv (kJ 0))])
(.seq (.reg [o 6 (.mkf 85 [] [u1])])
(.seq (.reg [o 4 (.mv (.k (.f 89 [] [])))])
(.seq (.reg [o 5 (.mv (.k (.f 90 [] [])))])
(.seq (.block 0 [] (.post (.seq (.reg [o 8 (.ldn 4 u4), o 9 (.call 91 [u0]), o 10 (.un .not u0)])
(.cond u0
(.seq (.reg [o 2 (.mv (kJ 4))])
(.ret [.mv u0]))
(.seq (.reg [o 12 (.fa 2 u7), o 13 (.ld u0), o 14 (.len false u0), o 15 (.bin .gtr u0 (kJ 40)), oB 17 0 (.fa 3 u11), oB 18 1 (.ld u0), oB 19 2 (.len false u0), oB 20 3 (.bin .gtr u0 (kJ 40)), o 21 (.pick u4 kU u0)])
(.cond u0
(.seq (.post (.reg [o 2 (.mv (kJ 6))]) [2] [0])
(.ret [.mv u0]))
(.seq (.post (.reg [o 23 (.fa 2 u16), o 24 (.ld u0), o 26 (.call 92 [u0, u14])]) [1, 3, 4, 22] [19, 17, 16, 0])
(.cond u3
(.seq (.reg [o 2 (.mv (kJ 7))])
(.ret [.mv u0]))
(.seq (.post (.reg [o 28 (.fa 2 u0), o 29 (.ld u0), o 31 (.call 92 [u0, u3]), oB 33 0 (.fa 3 u3), oB 34 1 (.ld u0), oB 35 2 (.mv u7), oB 36 3 (.call 93 [u1, u0]), o 37 (.pick u4 kU u0)]) [27] [0])
(.cond u0
(.seq (.reg [o 2 (.mv (kJ 1))])
(.ret [.mv u0]))
 .skip)))))))) [] []))
(.seq (.reg [o 2 (.mv (kJ 0))])
(.ret [.mv u0])))))))
theorem fg37 : FGood Tryz.prog T 37 (.code 1 c37) := ⟨Tryz.call37, Tryz.f37, c37, Tryz.func37, by kernel_rfl⟩
def c38 : BC := (.seq (.reg [o 1 (.box 336 u0), o 2 (.mv (kJ 0))])
(.seq (.reg [o 3 (.mv (.k (.f 94 [] [])))])
(.seq (.block 0 [] (.post (.seq (.reg [o 5 (.fa 0 u2), o 6 (.ld u0), o 7 (.bin .lss u0 (kJ 1)), oB 9 0 (.fa 0 u5), oB 10 1 (.ld u0), oB 11 2 (.bin .gtr u0 (kJ 3)), o 12 (.pick u3 kU u0)])
(.cond u0
(.seq (.post (.reg [o 2 (.mv (kJ 7))]) [2] [0])
(.ret [.mv u0]))
(.seq (.reg [o 14 (.ldn 2 u9), o 15 (.call 97 [u0]), o 16 (.un .not u0)])
(.cond u0
(.seq (.post (.reg [o 2 (.mv (kJ 1))]) [2] [0])
(.ret [.mv u0]))
(.seq (.post (.reg [o 18 (.fa 1 u12), o 19 (.ld u0), o 20 (.call 98 [u0, (.k (.f 99 [] []))])]) [1, 3, 17] [15, 13, 0])
(.cond u2
(.seq (.reg [o 2 (.mv (kJ 8))])
(.ret [.mv u0]))
(.seq (.post (.reg [o 22 (.fa 1 u0), o 23 (.ld u0), o 24 (.len false u0), o 25 (.bin .gtr u0 (kJ 40)), oB 27 0 (.fa 1 u4), oB 28 1 (.ld u0), oB 29 2 (.mv u7), oB 30 3 (.call 98 [u1, u0]), o 31 (.pick u4 kU u0)]) [21] [0])
(.cond u0
(.seq (.reg [o 2 (.mv (kJ 6))])
(.ret [.mv u0]))
 .skip)))))))) [] []))
(.seq (.reg [o 2 (.mv (kJ 0))])
(.ret [.mv u0])))))
theorem fg38 : FGood Tryz.prog T 38 (.code 1 c38) := ⟨Tryz.call38, Tryz.f38, c38, Tryz.func38, by kernel_rfl⟩
def c39 : BC := (.seq (.reg [o 2 (.box 212 u0), o 4 (.mv (kJ 0))])
(.seq (.block 0 [1, 2] (.post (.seq (.reg [o 9 (.len false u3), o 10 (.bin .lss u0 (kJ 2))])
(.cond u0
(.seq (.reg [o 4 (.mv (kJ 1))])
(.ret [.mv u0]))
(.seq (.reg [o 13 (.len false u5), o 14 (.bin .gtr u0 (kJ 2))])
(.cond u0
(.seq (.reg [o 4 (.mv (kJ 7))])
(.ret [.mv u0]))
 .skip)))) [1, 2] [7, 5]))
(.seq (.reg [o 16 (.ia 3 u0 (kJ 0)), o 17 (.ldn 3 u0), o 19 (.ia 3 u2 (kJ 1)), o 20 (.ldn 3 u0), o 5 (.alloc 248 [(.s []), (.s []), (.s [])]), o 6 (.alloc 248 [(.s []), (.s []), (.s [])]), oC (.stn 3 u1 u4), .chk ⟨(some 2), none, .ldn 3 u3⟩, oC (.stn 3 u0 u2)])
(.seq (.seq (.post (.reg [o 21 (.ldn 4 u7), o 22 (.fa 0 u2), o 23 (.ld u0), o 24 (.call 101 [u2, u0]), o 25 (.bin .lss u0 (kJ 0)), oB 27 0 (.ldn 4 u12), oB 28 1 (.fa 0 u6), oB 29 2 (.ld u0), oB 30 3 (.call 101 [u2, u0]), oB 31 4 (.bin .lss u0 (kJ 0)), o 32 (.pick u5 kU u0), oB 34 0 (.ldn 4 u18), oB 35 1 (.fa 1 u13), oB 36 2 (.ld u0), oB 37 3 (.call 102 [u2, u0]), oB 38 4 (.bin .lss u0 (kJ 0)), o 39 (.pick u5 kU u0), oB 41 0 (.ldn 4 u24), oB 42 1 (.fa 1 u18), oB 43 2 (.ld u0), oB 44 3 (.call 102 [u2, u0]), oB 45 4 (.bin .lss u0 (kJ 0)), o 46 (.pick u5 kU u0), oB 48 0 (.fa 2 u24), oB 49 1 (.ld u0), oB 50 2 (.fa 2 u25), oB 51 3 (.ld u0), oB 52 4 (.bin .eql u2 u0), o 53 (.pick u5 kU u0)]) [2, 5, 6, 53] [36, 30, 29, 0])
(.cond u3
(.seq (.reg [o 4 (.mv (kJ 4))])
(.ret [.mv u0]))
 .skip))
(.seq (.seq (.post (.reg [o 54 (.ldn 4 u0), o 55 (.fa 0 u2), o 56 (.ld u0), o 57 (.call 101 [u2, u0]), o 58 (.bin .neq u0 (kJ 0)), oB 60 0 (.ldn 4 u5), oB 61 1 (.fa 1 u7), oB 62 2 (.ld u0), oB 63 3 (.call 102 [u2, u0]), oB 64 4 (.bin .gtr u0 (kJ 1)), o 65 (.pick u5 kU u0), oB 67 0 (.ldn 4 u11), oB 68 1 (.fa 0 u14), oB 69 2 (.ld u0), oB 70 3 (.call 101 [u2, u0]), oB 71 4 (.bin .leq u0 (kJ 0)), o 72 (.pick u5 kU u0), oB 74 0 (.ldn 4 u17), oB 75 1 (.fa 1 u20), oB 76 2 (.ld u0), oB 78 3 (.ldn 4 u20), oB 79 4 (.fa 1 u22), oB 80 5 (.ld u0), oB 77 6 (.call 102 [u5, u3]), .chk ⟨(some 3), (some (7, false)), .ldn 4 u24⟩, .chk ⟨(some 1), (some (7, false)), .ld u2⟩, oB 81 7 (.call 102 [u3, u1]), oB 82 8 (.bin .leq u1 u0), o 83 (.pick u9 kU u0)]) [83] [0])
(.cond u0
(.seq (.reg [o 4 (.mv (kJ 5))])
(.ret [.mv u0]))
 .skip))
(.seq (.reg [o 4 (.mv (kJ 0))])
(.ret [.mv u0])))))))
theorem fg39 : FGood Tryz.prog T 39 (.code 2 c39) := ⟨Tryz.call39, Tryz.f39, c39, Tryz.func39, by kernel_rfl⟩
def c40 : BC := (.seq (.reg [o 4 (.mv (.k (.s []))), o 5 (.mv (.k (.s []))), o 6 (.mv kF)])
(.seq (.reg [o 9 (.call 103 [u3, u4]), o 10 (.ext 0 u0), o 11 (.ext 1 u1), o 12 (.ext 2 u2)])
(.ret [.mv u2, .mv u1, .mv u0])))
theorem fg40 : FGood Tryz.prog T 40 (.code 2 c40) := ⟨Tryz.call40, Tryz.f40, c40, Tryz.func40, by kernel_rfl⟩
def c41 : BC := (.seq (.reg [o 2 (.mv (kJ 0))])
(.seq (.seq (.reg [o 4 (.len true u1), o 5 (.bin .gtr u0 (kJ 200))])
(.cond u0
(.seq (.reg [o 2 (.mv (kJ 6))])
(.ret [.mv u0]))
 .skip))
(.seq (.reg [o 7 (.call 104 [u3, (.k (.s [13]))])])
(.seq (.seq (.reg [o 9 (.s2b u0), o 10 (.call 45 [u0, (.k (.f 105 [] []))])])
(.cond u0
(.seq (.reg [o 2 (.mv (kJ 1))])
(.ret [.mv u0]))
 .skip))
(.seq (.reg [o 2 (.mv (kJ 0))])
(.ret [.mv u0]))))))
theorem fg41 : FGood Tryz.prog T 41 (.code 1 c41) := ⟨Tryz.call41, Tryz.f41, c41, Tryz.func41, by kernel_rfl⟩
def c42 : BC := (.seq (.reg [o 4 (.mv (.k .sn))])
(.seq (.reg [o 12 (.mks 2 16 [(.i .i64 0), (.i .i64 0)] (kJ 0) (kJ 32))])
(.seq (.reg [o 6 (.mv (.k (.i .i64 (-1))))])
(.seq (.seq (.reg [o 14 (.rgs u3)])
(.block 0 [0, 5, 6] (.pre [0, 1, 5, 6, 14] [4, 5, 2, 1, 0] (.loop (.seq (.reg [o 15 (.nxs u4), o 16 (.ext 0 u0)])
(.seq (.cond u0
 .skip
(.pre [0, 5, 6] [2, 4, 5] (.exit 0)))
(.block 1 [0, 1, 5, 6, 14] (.seq (.reg [o 17 (.ext 1 u1), o 18 (.ext 2 u2)])
(.seq (.reg [o 21 (.callv u5 [u0])])
(.cond u0
(.seq (.reg [o 23 (.bin .geq u8 (kJ 0))])
(.cond u0
(.post (.seq (.reg [o 27 (.build [(.i .i64 0), (.i .i64 0)] [(0, 1, u9), (1, 1, u3)]), o 28 (.bsl 1 2 [(.i .i64 0), (.i .i64 0)] [(0, 2, u0)]), o 29 (.app 772 2 16 u10 u0)])
(.reg [o 31 (.un .xor u12)])) [0, 1, 5, 6, 14] [10, 11, 1, 0, 14])
(.post .skip [0, 1, 5, 6, 14] [6, 7, 8, 9, 10])))
(.seq (.reg [o 33 (.bin .lss u8 (kJ 0))])
(.cond u0
(.post (.reg []) [0, 1, 5, 6, 14] [6, 7, 8, 3, 10])
(.post .skip [0, 1, 5, 6, 14] [6, 7, 8, 9, 10])))))))))))))
(.seq (.seq (.reg [o 36 (.bin .geq u2 (kJ 0))])
(.cond u0
(.post (.reg [o 40 (.len true u1), o 41 (.build [(.i .i64 0), (.i .i64 0)] [(0, 1, u4), (1, 1, u0)]), o 42 (.bsl 1 2 [(.i .i64 0), (.i .i64 0)] [(0, 2, u0)]), o 43 (.app 772 2 16 u5 u0)]) [0, 5] [5, 0])
(.post .skip [0, 5] [1, 2])))
(.seq (.reg [o 45 (.len false u1), o 46 (.mks 1 16 [(.s [])] u0 u0)])
(.seq (.seq (.reg [o 48 (.len false u3), o 49 (.mv (kJ 0))])
(.block 2 [9] (.pre [0, 9, 47, 48, 49] [4, 2, 5, 1, 0] (.loop (.post (.seq (.reg [o 50 (.bin .lss u4 u3)])
(.seq (.cond u0
 .skip
(.pre [9] [2] (.exit 2)))
(.seq (.block 3 [0, 9, 47, 48, 49] (.post (.seq (.reg [o 52 (.ia 2 u3 u5), o 53 (.ldn 2 u0), o 11 (.alloc 772 [(.i .i64 0), (.i .i64 0)]), oC (.stn 2 u0 u1)])
(.reg [o 57 (.fa 0 u0), o 58 (.ld u0), o 59 (.fa 1 u2), o 60 (.ld u0), o 61 (.sls u8 (some u2) (some u0)), o 62 (.ia 1 u10 u13), oC (.st u0 u1)])) [0, 9, 47, 48, 49] [10, 11, 12, 13, 14]))
(.reg [o 63 (.bin .add u4 (kJ 1))])))) [0, 9, 47, 48, 49] [1, 2, 3, 4, 0])))))
(.seq (.reg [])
(.ret [.mv u0])))))))))
theorem fg42 : FGood Tryz.prog T 42 (.code 2 c42) := ⟨Tryz.call42, Tryz.f42, c42, Tryz.func42, by kernel_rfl⟩
def c43 : BC := (.seq (.reg [o 2 (.mv kF)])
(.seq (.reg [o 4 (.bin .eql u1 (.k (.i .i32 32))), oB 6 0 (.mv u2), oB 7 1 (.bin .eql u0 (.k (.i .i32 9))), o 8 (.pick u2 kU u0), oB 10 0 (.mv u5), oB 11 1 (.bin .eql u0 (.k (.i .i32 13))), o 12 (.pick u2 kU u0)])
(.ret [.mv u0])))
theorem fg43 : FGood Tryz.prog T 43 (.code 1 c43) := ⟨Tryz.call43, Tryz.f43, c43, Tryz.func43, by kernel_rfl⟩
def c44 : BC := (.seq (.reg [o 2 (.mv (.k .sn))])
(.seq (.reg [o 3 (.mv (.k .sn))])
(.seq (.reg [o 4 (.mv (kJ 0))])
(.seq (.seq (.reg [o 5 (.mv (kJ 0))])
(.block 0 [0, 3, 4] (.pre [0, 3, 4, 5] [4, 2, 1, 0] (.loop (.post (.seq (.seq (.reg [o 8 (.len true u0), o 9 (.bin .lss u4 u0)])
(.cond u0
 .skip
(.pre [0, 3, 4] [2, 3, 4] (.exit 0))))
(.seq (.block 1 [0, 3, 4, 5] (.seq (.reg [o 14 (.ix u2 u5), o 15 (.bin .eql u0 (.k (.i .u8 10)))])
(.cond u0
(.post (.seq (.reg [o 20 (.sls u4 (some u6) (some u7)), o 21 (.bsl 1 1 [(.s [])] [(0, 1, u0)]), o 22 (.app 40 1 16 u7 u0)])
(.reg [o 24 (.bin .add u10 (kJ 1))])) [0, 3, 4, 5] [8, 1, 0, 11])
(.post .skip [0, 3, 4, 5] [4, 5, 6, 7]))))
(.reg [o 11 (.bin .add u3 (kJ 1))]))) [0, 3, 4, 5] [1, 2, 3, 0])))))
(.seq (.seq (.reg [o 27 (.len true u0), o 28 (.bin .lss u3 u0)])
(.cond u0
(.post (.reg [o 32 (.sls u2 (some u4) none), o 33 (.bsl 1 1 [(.s [])] [(0, 1, u0)]), o 34 (.app 40 1 16 u5 u0)]) [3] [0])
(.post .skip [3] [3])))
(.seq (.reg [])
(.ret [.mv u0])))))))
theorem fg44 : FGood Tryz.prog T 44 (.code 1 c44) := ⟨Tryz.call44, Tryz.f44, c44, Tryz.func44, by kernel_rfl⟩
def c45 : BC := (.seq (.reg [o 4 (.mv kF)])
(.seq (.reg [o 7 (.call 106 [u1, u2]), o 8 (.bin .geq u0 (kJ 0))])
(.ret [.mv u0])))
theorem fg45 : FGood Tryz.prog T 45 (.code 2 c45) := ⟨Tryz.call45, Tryz.f45, c45, Tryz.func45, by kernel_rfl⟩
def c46 : BC := (.seq (.reg [o 2 (.mv kF)])
(.seq (.reg [o 4 (.bin .leq u1 (.k (.i .u8 32))), oB 6 0 (.mv u2), oB 7 1 (.bin .gtr u0 (.k (.i .u8 126))), o 8 (.pick u2 kU u0)])
(.ret [.mv u0])))
theorem fg46 : FGood Tryz.prog T 46 (.code 1 c46) := ⟨Tryz.call46, Tryz.f46, c46, Tryz.func46, by kernel_rfl⟩
def c47 : BC := (.seq (.reg [o 2 (.box 212 u0), o 3 (.box 252 u2), o 4 (.mv (kJ 0)), o 5 (.mv (kJ 0))])
(.seq (.reg [o 8 (.fa 3 u3), o 9 (.ld u0), o 10 (.mkf 107 [] [u4]), o 11 (.call 78 [u1, u0])])
(.seq (.post (.reg [o 12 (.fa 2 u7), o 13 (.ld u0), o 14 (.mkf 108 [] [u8]), o 15 (.call 76 [u1, u0])]) [6, 7] [4, 0])
(.seq (.reg [])
(.ret [.mv u0, .mv u1])))))
theorem fg47 : FGood Tryz.prog T 47 (.code 2 c47) := ⟨Tryz.call47, Tryz.f47, c47, Tryz.func47, by kernel_rfl⟩
end Go.Proofs.YtmbpjpffafidhaaGreatDoor
