import Derived.Test.YtmbpjpffafidhaaGreatDoorCmTy
namespace Go.Proofs.YtmbpjpffafidhaaGreatDoor
open Go.Ev
set_option maxRecDepth 100000
def c260 : BC := (.seq (.reg [o 2 (.alloc 1292 [(.b false), (.b false), (.b false), (.b false), (.b false), (.b false), (.b false), (.b false), (.b false), (.b false), (.b false), (.b false), (.b false), (.b false), (.b false), (.b false), (.b false), (.b false), (.b false), (.b false), (.b false), (.b false), (.b false), (.b false), (.b false), (.b false), (.b false), (.b false), (.b false), (.b false), (.b false), (.b false), (.b false), (.b false), (.b false), (.b false), (.b false), (.b false), (.b false), (.b false), (.b false), (.b false), (.b false), (.b false), (.b false), (.b false), (.b false), (.b false), (.b false), (.b false), (.b false), (.b false), (.b false), (.b false), (.b false), (.b false), (.b false), (.b false), (.b false), (.b false), (.b false), (.b false), (.b false), (.b false), (.b false), (.b false), (.b false), (.b false), (.b false), (.b false), (.b false), (.b false), (.b false), (.b false), (.b false), (.b false), (.b false), (.b false), (.b false), (.b false), (.b false), (.b false), (.b false), (.b false), (.b false), (.b false), (.b false), (.b false), (.b false), (.b false), (.b false), (.b false), (.b false), (.b false), (.b false), (.b false), (.b false), (.b false), (.b false), (.b false), (.b false), (.b false), (.b false), (.b false), (.b false), (.b false), (.b false), (.b false), (.b false), (.b false), (.b false), (.b false), (.b false), (.b false), (.b false), (.b false), (.b false), (.b false), (.b false), (.b false), (.b false), (.b false), (.b false), (.b false), (.b false), (.b false), (.b false), (.b false), (.b false), (.b false), (.b false), (.b false), (.b false), (.b false), (.b false), (.b false), (.b false), (.b false), (.b false), (.b false), (.b false), (.b false), (.b false), (.b false), (.b false), (.b false), (.b false), (.b false), (.b false), (.b false), (.b false), (.b false), (.b false), (.b false), (.b false), (.b false), (.b false), (.b false), (.b false), (.b false), (.b false), (.b false), (.b false), (.b false), (.b false), (.b false), (.b false), (.b false), (.b false), (.b false), (.b false), (.b false), (.b false), (.b false), (.b false), (.b false), (.b false), (.b false), (.b false), (.b false), (.b false), (.b false), (.b false), (.b false), (.b false), (.b false), (.b false), (.b false), (.b false), (.b false), (.b false), (.b false), (.b false), (.b false), (.b false), (.b false), (.b false), (.b false), (.b false), (.b false), (.b false), (.b false), (.b false), (.b false), (.b false), (.b false), (.b false), (.b false), (.b false), (.b false), (.b false), (.b false), (.b false), (.b false), (.b false), (.b false), (.b false), (.b false), (.b false), (.b false), (.b false), (.b false), (.b false), (.b false), (.b false), (.b false), (.b false), (.b false), (.b false), (.b false), (.b false), (.b false), (.b false), (.b false), (.b false), (.b false), (.b false), (.b false), (.b false), (.b false), (.b false), (.b false), (.b false), (.b false), (.b false), (.b false), (.b false), (.b false), (.b false), (.b false), (.b false), (.b false), (.b false), (.b false), (.b false), (.b false)]), o 3 (.mv kF)])
(.seq (.seq (.reg [o 4 (.mv (kJ 0))])
(.block 0 [2] (.pre [0, 2, 4] [3, 2, 0] (.loop (.post (.seq (.seq (.reg [o 8 (.len true u0), o 9 (.bin .lss u3 u0)])
(.cond u0
 .skip
(.pre [2] [3] (.exit 0))))
(.seq (.block 1 [0, 2, 4] (.post (.seq (.reg [o 14 (.ix u2 u4)])
(.seq (.seq (.reg [o 16 (.bin .geq u0 (.k (.i .u8 128)))])
(.cond u0
(.seq (.reg [o 17 (.ldn 256 u5), oC (.stn 256 u6 u0), o 3 (.mv kF)])
(.ret [.ldn 256 u7, .mv u0]))
 .skip))
(.reg [o 19 (.iaa 256 1 u5 u1), oC (.st u0 kU)]))) [0, 2, 4] [5, 6, 7]))
(.reg [o 11 (.bin .add u2 (kJ 1))]))) [0, 2, 4] [1, 2, 0])))))
(.seq (.reg [o 20 (.ldn 256 u0), oC (.stn 256 u1 u0), o 3 (.mv kU)])
(.ret [.ldn 256 u2, .mv u0]))))
theorem fg260 : FGood Tryz.prog T 260 (.code 1 c260) := ⟨Tryz.call260, Tryz.f260, c260, Tryz.func260, by kernel_rfl⟩
def c261 : BC := (.seq (.reg [o 4 (.mv (.k (.s [])))])
(.seq (.block 0 [0] (.pre [0, 1] [1, 2] (.loop (.seq (.seq (.reg [o 6 (.len true u0), o 7 (.bin .gtr u0 (kJ 0))])
(.cond u0
 .skip
(.pre [0] [2] (.exit 0))))
(.block 1 [0, 1] (.post (.seq (.seq (.reg [o 10 (.ix u2 (kJ 0)), o 11 (.call 271 [u4, u0]), o 12 (.un .not u0)])
(.cond u0
(.pre [0] [5] (.exit 0))
 .skip))
(.reg [o 14 (.sls u5 (some (kJ 1)) none)])) [0, 1] [0, 7]))))))
(.seq (.reg [])
(.ret [.mv u0]))))
theorem fg261 : FGood Tryz.prog T 261 (.code 2 c261) := ⟨Tryz.call261, Tryz.f261, c261, Tryz.func261, by kernel_rfl⟩
def c262 : BC := (.seq (.reg [o 4 (.mv (.k (.s [])))])
(.seq (.block 0 [0] (.pre [0, 1] [1, 2] (.loop (.seq (.seq (.reg [o 6 (.len true u0), o 7 (.bin .gtr u0 (kJ 0))])
(.cond u0
 .skip
(.pre [0] [2] (.exit 0))))
(.block 1 [0, 1] (.post (.seq (.seq (.reg [o 11 (.len true u2), o 12 (.bin .sub u0 (kJ 1)), o 13 (.ix u4 u0), o 14 (.call 271 [u6, u0]), o 15 (.un .not u0)])
(.cond u0
(.pre [0] [7] (.exit 0))
 .skip))
(.reg [o 18 (.len true u7), o 19 (.bin .sub u0 (kJ 1)), o 20 (.sls u9 none (some u0))])) [0, 1] [0, 11]))))))
(.seq (.reg [])
(.ret [.mv u0]))))
theorem fg262 : FGood Tryz.prog T 262 (.code 2 c262) := ⟨Tryz.call262, Tryz.f262, c262, Tryz.func262, by kernel_rfl⟩
def c263 : BC := (.seq (.reg [o 4 (.mv (.k (.s [])))])
(.seq (.block 0 [0] (.pre [0, 1] [1, 2] (.loop (.seq (.seq (.reg [o 8 (.len true u0), o 9 (.bin .gtr u0 (kJ 0))])
(.cond u0
 .skip
(.pre [0] [2] (.exit 0))))
(.block 1 [0, 1] (.post (.seq (.reg [o 12 (.call 293 [u2]), o 13 (.ext 0 u0), o 14 (.ext 1 u1)])
(.seq (.seq (.reg [o 17 (.call 294 [u6, u1]), o 18 (.un .not u0)])
(.cond u0
(.pre [0] [7] (.exit 0))
 .skip))
(.reg [o 21 (.sls u7 (some u2) none)]))) [0, 1] [0, 9]))))))
(.seq (.reg [])
(.ret [.mv u0]))))
theorem fg263 : FGood Tryz.prog T 263 (.code 2 c263) := ⟨Tryz.call263, Tryz.f263, c263, Tryz.func263, by kernel_rfl⟩
def c264 : BC := (.seq (.reg [o 4 (.mv (.k (.s [])))])
(.seq (.block 0 [0] (.pre [0, 1] [1, 2] (.loop (.seq (.seq (.reg [o 8 (.len true u0), o 9 (.bin .gtr u0 (kJ 0))])
(.cond u0
 .skip
(.pre [0] [2] (.exit 0))))
(.block 1 [0, 1] (.post (.seq (.reg [o 12 (.len true u2), o 13 (.bin .sub u0 (kJ 1)), o 14 (.ix u4 u0), o 15 (.cvi .i32 u0), o 6 (.mv (kJ 1))])
(.seq (.seq (.reg [o 17 (.bin .geq u1 (.k (.i .i32 128)))])
(.cond u0
(.post (.reg [o 20 (.call 295 [u8]), o 21 (.ext 0 u0), o 22 (.ext 1 u1)]) [0, 1, 5, 6] [11, 12, 1, 0])
(.post .skip [0, 1, 5, 6] [8, 9, 2, 1])))
(.seq (.seq (.reg [o 25 (.call 294 [u1, u2]), o 26 (.un .not u0)])
(.cond u0
(.pre [0] [2] (.exit 0))
 .skip))
(.reg [o 29 (.len true u2), o 31 (.bin .sub u0 u6), o 32 (.sls u4 none (some u0))])))) [0, 1] [0, 6]))))))
(.seq (.reg [])
(.ret [.mv u0]))))
theorem fg264 : FGood Tryz.prog T 264 (.code 2 c264) := ⟨Tryz.call264, Tryz.f264, c264, Tryz.func264, by kernel_rfl⟩
def c265 : BC := (.seq (.reg [o 6 (.mv (.k (.i .u64 0))), o 7 (.mv (.k .inn))])
(.seq (.seq (.reg [o 19 (.bin .eql u2 (.k (.s [])))])
(.cond u0
(.seq (.reg [o 20 (.mki 346 (kJ 2)), o 6 (.mv (.k (.i .u64 0)))])
(.ret [.mv u0, .mv u1]))
 .skip))
(.seq (.reg [o 22 (.bin .eql u4 (kJ 0))])
(.seq (.reg [])
(.seq (.block 0 [0, 1, 2, 8, 9] (.seq (.reg [o 27 (.bin .leq (kJ 2) u5), oA 29 0 (.mv u6), oA 30 1 (.bin .leq u0 (kJ 36)), o 31 (.pick u2 u0 kF)])
(.cond u0
(.post .skip [0, 1, 2, 8, 9] [8, 9, 10, 4, 8])
(.seq (.reg [o 34 (.bin .eql u9 (kJ 0))])
(.cond u0
(.seq (.reg [o 1 (.mv (kJ 10))])
(.seq (.reg [o 36 (.ix u10 (kJ 0)), o 37 (.bin .eql u0 (.k (.i .u8 48)))])
(.cond u0
(.block 1 [0, 1, 2, 8, 9] (.seq (.post (.reg [o 42 (.len true u12), o 43 (.bin .geq u0 (kJ 3)), oA 45 0 (.mv u14), oA 46 1 (.ix u0 (kJ 1)), oA 47 2 (.call 296 [u0]), oA 48 3 (.bin .eql u0 (.k (.i .u8 98))), o 49 (.pick u4 u0 kF)]) [0, 2, 8, 9, 40] [19, 21, 15, 19, 0])
(.cond u4
(.post (.seq (.reg [o 1 (.mv (kJ 2))])
(.reg [o 51 (.sls u1 (some (kJ 2)) none)])) [0, 1, 2, 8, 9] [0, 1, 3, 4, 5])
(.seq (.reg [o 54 (.len true u0), o 55 (.bin .geq u0 (kJ 3)), oA 57 0 (.mv u2), oA 58 1 (.ix u0 (kJ 1)), oA 59 2 (.call 296 [u0]), oA 60 3 (.bin .eql u0 (.k (.i .u8 111))), o 61 (.pick u4 u0 kF)])
(.cond u0
(.post (.seq (.reg [o 1 (.mv (kJ 8))])
(.reg [o 63 (.sls u8 (some (kJ 2)) none)])) [0, 1, 2, 8, 9] [0, 1, 10, 11, 12])
(.seq (.post (.reg [o 66 (.len true u7), o 67 (.bin .geq u0 (kJ 3)), oA 69 0 (.mv u9), oA 70 1 (.ix u0 (kJ 1)), oA 71 2 (.call 296 [u0]), oA 72 3 (.bin .eql u0 (.k (.i .u8 120))), o 73 (.pick u4 u0 kF)]) [0, 2, 8, 9, 64] [14, 15, 16, 17, 0])
(.cond u4
(.post (.seq (.reg [o 1 (.mv (kJ 16))])
(.reg [o 75 (.sls u1 (some (kJ 2)) none)])) [0, 1, 2, 8, 9] [0, 1, 3, 4, 5])
(.post (.seq (.reg [o 1 (.mv (kJ 8))])
(.reg [o 39 (.sls u1 (some (kJ 1)) none)])) [0, 1, 2, 8, 9] [0, 1, 3, 4, 5]))))))))
(.post .skip [0, 1, 2, 8, 9] [12, 2, 14, 8, 12]))))
(.seq (.post (.reg [o 24 (.mki 346 (kJ 3)), o 6 (.mv (.k (.i .u64 0)))]) [6, 7] [0, 1])
(.ret [.mv u0, .mv u1])))))))
(.seq (.seq (.reg [o 77 (.bin .eql u2 (kJ 0))])
(.cond u0
(.post (.reg [o 2 (.mv (kJ 64))]) [0, 1, 2, 8, 9] [2, 3, 0, 5, 6])
(.post (.seq (.reg [o 79 (.bin .lss u3 (kJ 0)), oB 81 0 (.mv u4), oB 82 1 (.bin .gtr u0 (kJ 64)), o 83 (.pick u2 kU u0)])
(.cond u0
(.seq (.reg [o 84 (.mki 346 (kJ 4)), o 6 (.mv (.k (.i .u64 0)))])
(.ret [.mv u0, .mv u1]))
 .skip)) [0, 1, 2, 8, 9] [5, 6, 7, 8, 9])))
(.seq (.reg [o 10 (.mv (.k (.i .u64 0)))])
(.seq (.seq (.reg [])
(.block 2 [0, 1, 2, 8, 9, 10] (.seq (.reg [o 91 (.bin .eql u2 (kJ 10))])
(.cond u0
(.post (.reg [o 10 (.mv (.k (.i .u64 1844674407370955162)))]) [0, 1, 2, 8, 9, 10] [3, 4, 5, 6, 7, 0])
(.seq (.reg [o 93 (.bin .eql u3 (kJ 16))])
(.cond u0
(.post (.reg [o 10 (.mv (.k (.i .u64 1152921504606846976)))]) [0, 1, 2, 8, 9, 10] [4, 5, 6, 7, 8, 0])
(.post (.reg [o 87 (.cvi .u64 u4), o 88 (.bin .quo (.k (.i .u64 18446744073709551615)) u0), o 89 (.bin .add u0 (.k (.i .u64 1)))]) [0, 1, 2, 8, 9, 10] [6, 7, 8, 9, 10, 0])))))))
(.seq (.reg [o 95 (.cvi .u64 u2), o 96 (.bin .shl (.k (.i .u64 1)) u0), o 97 (.bin .sub u0 (.k (.i .u64 1)))])
(.seq (.reg [o 12 (.mv kF)])
(.seq (.reg [o 13 (.mv (.k (.i .u64 0)))])
(.seq (.seq (.reg [o 99 (.s2b u5), o 100 (.len false u0), o 101 (.mv (kJ 0))])
(.block 3 [9, 12, 13] (.pre [1, 8, 9, 10, 11, 12, 13, 99, 100, 101] [9, 11, 12, 13, 5, 4, 3, 2, 1, 0] (.loop (.post (.seq (.reg [o 102 (.bin .lss u9 u8)])
(.seq (.cond u0
 .skip
(.pre [9, 12, 13] [3, 6, 7] (.exit 3)))
(.seq (.block 4 [1, 8, 9, 10, 11, 12, 13, 99, 100, 101] (.post (.seq (.reg [o 103 (.ia 1 u8 u10), o 104 (.ld u0)])
(.seq (.reg [o 16 (.mv (.k (.i .u8 0)))])
(.seq (.block 5 [1, 8, 9, 10, 11, 12, 13, 16, 99, 100, 101] (.seq (.reg [o 108 (.bin .eql u1 (.k (.i .u8 95))), oA 110 0 (.mv u6), o 111 (.pick u1 u0 kF)])
(.cond u0
(.seq (.reg [o 12 (.mv kU)])
(.pre [1, 8, 9, 10, 11, 12, 13, 99, 100, 101] [8, 9, 10, 11, 12, 0, 14, 15, 16, 17] (.exit 4)))
(.seq (.reg [o 114 (.bin .leq (.k (.i .u8 48)) u4), oA 116 0 (.mv u5), oA 117 1 (.bin .leq u0 (.k (.i .u8 57))), o 118 (.pick u2 u0 kF)])
(.cond u0
(.post (.reg [o 120 (.bin .sub u8 (.k (.i .u8 48)))]) [1, 8, 9, 10, 11, 12, 13, 16, 99, 100, 101] [12, 13, 14, 15, 16, 17, 18, 0, 19, 20, 21])
(.post (.seq (.reg [o 123 (.call 296 [u8]), o 124 (.bin .leq (.k (.i .u8 97)) u0), oA 126 0 (.mv u10), oA 127 1 (.call 296 [u0]), oA 128 2 (.bin .leq u0 (.k (.i .u8 122))), o 129 (.pick u3 u0 kF)])
(.cond u0
(.reg [o 131 (.call 296 [u14]), o 132 (.bin .sub u0 (.k (.i .u8 97))), o 133 (.bin .add u0 (.k (.i .u8 10)))])
(.seq (.post (.reg [o 105 (.mki 346 (kJ 2)), o 6 (.mv (.k (.i .u64 0)))]) [6, 7] [0, 1])
(.ret [.mv u0, .mv u1])))) [1, 8, 9, 10, 11, 12, 13, 16, 99, 100, 101] [20, 21, 22, 23, 24, 25, 26, 0, 27, 28, 29]))))))
(.seq (.seq (.reg [o 136 (.cvi .u8 u0), o 137 (.bin .geq u8 u0)])
(.cond u0
(.seq (.post (.reg [o 138 (.mki 346 (kJ 2)), o 6 (.mv (.k (.i .u64 0)))]) [6, 7] [0, 1])
(.ret [.mv u0, .mv u1]))
 .skip))
(.seq (.seq (.reg [o 141 (.bin .geq u8 u5)])
(.cond u0
(.seq (.post (.reg [o 143 (.mki 346 (kJ 1))]) [6, 7] [8, 0])
(.ret [.mv u0, .mv u1]))
 .skip))
(.seq (.reg [o 146 (.cvi .u64 u3), o 147 (.bin .mul u10 u0)])
(.seq (.reg [o 150 (.cvi .u64 u12), o 151 (.bin .add u1 u0)])
(.seq (.seq (.reg [o 154 (.bin .lss u0 u2), oB 156 0 (.mv u1), oB 157 1 (.mv u13), oB 158 2 (.bin .gtr u1 u0), o 159 (.pick u3 kU u0)])
(.cond u0
(.seq (.post (.reg [o 161 (.mki 346 (kJ 1))]) [6, 7] [17, 0])
(.ret [.mv u0, .mv u1]))
 .skip))
(.reg []))))))))) [1, 8, 9, 10, 11, 12, 13, 99, 100, 101] [12, 13, 14, 15, 16, 17, 5, 20, 21, 22]))
(.reg [o 163 (.bin .add u9 (kJ 1))])))) [1, 8, 9, 10, 11, 12, 13, 99, 100, 101] [1, 2, 3, 4, 5, 6, 7, 8, 9, 0])))))
(.seq (.seq (.reg [oA 166 1 (.mv u0), oA 167 2 (.call 297 [u0]), oA 168 3 (.un .not u0), o 169 (.pick u4 u0 kF)])
(.cond u0
(.seq (.reg [o 170 (.mki 346 (kJ 2)), o 6 (.mv (.k (.i .u64 0)))])
(.ret [.mv u0, .mv u1]))
 .skip))
(.seq (.reg [o 7 (.mv (.k .inn))])
(.ret [.mv u7, .mv u0])))))))))))))))
theorem fg265 : FGood Tryz.prog T 265 (.code 3 c265) := ⟨Tryz.call265, Tryz.f265, c265, Tryz.func265, by kernel_rfl⟩
def c266 : BC := (.seq (.reg [o 10 (.mv (.k .inn))])
(.seq (.seq (.reg [])
(.block 0 [4] (.post (.seq (.reg [o 13 (.mki 346 (kJ 2)), o 14 (.eq 6 false u6 u0)])
(.cond u0
(.seq (.reg [o 17 (.call 298 [u3, u4]), o 18 (.mki 348 u0)])
(.ret [.mv u0]))
(.seq (.reg [o 20 (.mki 346 (kJ 1)), o 21 (.eq 6 false u8 u0)])
(.cond u0
(.seq (.post (.reg [o 24 (.call 299 [u5, u6]), o 25 (.mki 348 u0)]) [10] [0])
(.ret [.mv u0]))
(.seq (.reg [o 27 (.mki 346 (kJ 3)), o 28 (.eq 6 false u10 u0)])
(.cond u0
(.seq (.post (.reg [o 32 (.call 300 [u7, u8, u9]), o 33 (.mki 348 u0)]) [10] [0])
(.ret [.mv u0]))
(.seq (.reg [o 35 (.mki 346 (kJ 4)), o 36 (.eq 6 false u12 u0)])
(.cond u0
(.seq (.post (.reg [o 40 (.call 301 [u9, u10, u12]), o 41 (.mki 348 u0)]) [10] [0])
(.ret [.mv u0]))
 .skip)))))))) [4] [13])))
(.seq (.reg [])
(.ret [.mv u0]))))
theorem fg266 : FGood Tryz.prog T 266 (.code 5 c266) := ⟨Tryz.call266, Tryz.f266, c266, Tryz.func266, by kernel_rfl⟩
def c267 : BC := (.seq (.reg [o 4 (.mv kF)])
(.seq (.post (.reg [o 6 (.len true u1), o 8 (.len true u3), o 9 (.bin .geq u1 u0), oA 11 0 (.mv u4), oA 12 1 (.mv u6), oA 13 2 (.len true u0), oA 14 3 (.sls u2 none (some u0)), oA 15 4 (.mv u9), oA 16 5 (.bin .eql u1 u0), o 17 (.pick u6 u0 kF)]) [4] [0])
(.ret [.mv u0])))
theorem fg267 : FGood Tryz.prog T 267 (.code 2 c267) := ⟨Tryz.call267, Tryz.f267, c267, Tryz.func267, by kernel_rfl⟩
def c268 : BC := (.seq (.reg [o 4 (.mv (.k (.s [])))])
(.seq (.seq (.reg [o 7 (.call 267 [u1, u2])])
(.cond u0
(.seq (.reg [o 10 (.len true u3), o 11 (.sls u3 (some u0) none)])
(.ret [.mv u0]))
 .skip))
(.seq (.reg [])
(.ret [.mv u2]))))
theorem fg268 : FGood Tryz.prog T 268 (.code 2 c268) := ⟨Tryz.call268, Tryz.f268, c268, Tryz.func268, by kernel_rfl⟩
def h269 : BC := (.seq (.reg [o 4 (.mv (kJ 0))])
(.block 0 [4] (.seq (.reg [o 162 (.bin .leq (.k (.i .i32 0)) u2), oA 164 0 (.mv u3), oA 165 1 (.bin .lss u0 (.k (.i .i32 128))), o 166 (.pick u2 u0 kF)])
(.cond u0
(.seq (.reg [o 169 (.cvi .u8 u6), o 170 (.call 302 [u6, u0])])
(.ret [.mv u0]))
(.seq (.reg [o 173 (.bin .eql u6 (.k (.i .i32 65533)))])
(.cond u0
(.seq (.seq (.reg [o 175 (.rgs u6)])
(.block 9 [] (.pre [175] [0] (.loop (.seq (.reg [o 176 (.nxs u0), o 177 (.ext 0 u0)])
(.seq (.cond u0
 .skip
(.pre [] [] (.exit 9)))
(.block 10 [175] (.post (.seq (.reg [o 178 (.ext 1 u1), o 179 (.ext 2 u2)])
(.seq (.reg [o 181 (.bin .eql u0 (.k (.i .i32 65533)))])
(.cond u0
(.seq (.reg [])
(.ret [.mv u2]))
 .skip))) [175] [5]))))))))
(.seq (.reg [o 4 (.mv (.k (.i .i64 (-1))))])
(.ret [.mv u0])))
(.seq (.reg [o 185 (.call 303 [u7]), o 186 (.un .not u0)])
(.cond u0
(.seq (.post (.reg [o 4 (.mv (.k (.i .i64 (-1))))]) [4] [0])
(.ret [.mv u0]))
 .bad))))))))
def c269 : BC := .seq h269 (.ret [.mv u0])
theorem fg269 : FGood Tryz.prog T 269 (.code 2 c269) := ⟨Tryz.call269, Tryz.f269, h269, Tryz.func269, by kernel_rfl⟩
def c270 : BC := (.seq (.reg [o 2 (.mv kF)])
(.seq (.reg [o 4 (.bin .gtr u1 (kJ 8))])
(.ret [.mv u0])))
theorem fg270 : FGood Tryz.prog T 270 (.code 1 c270) := ⟨Tryz.call270, Tryz.f270, c270, Tryz.func270, by kernel_rfl⟩
def c271 : BC := (.seq (.reg [o 4 (.mv kF)])
(.seq (.reg [o 7 (.nck u1), o 8 (.iaa 256 1 u0 u3), o 9 (.ld u0)])
(.ret [.mv u0])))
theorem fg271 : FGood Tryz.prog T 271 (.code 2 c271) := ⟨Tryz.call271, Tryz.f271, c271, Tryz.func271, by kernel_rfl⟩
def c272 : BC := (.seq (.reg [o 2 (.mv (kJ 0)), o 3 (.mv (.k .inn))])
(.seq (.reg [o 8 (.call 304 [u2]), o 9 (.ext 0 u0), o 10 (.ext 1 u1)])
(.seq (.seq (.reg [o 12 (.eq 5 true u0 (.k .inn))])
(.cond u0
(.seq (.reg [o 16 (.call 266 [(.k (.s [65, 116, 111, 105])), u6, (kJ 0), (kJ 0), u1])])
(.ret [.mv u3, .mv u0]))
 .skip))
(.seq (.reg [o 3 (.mv (.k .inn))])
(.ret [.mv u3, .mv u0])))))
theorem fg272 : FGood Tryz.prog T 272 (.code 1 c272) := ⟨Tryz.call272, Tryz.f272, c272, Tryz.func272, by kernel_rfl⟩
def h273 : BC := (.seq (.reg [o 4 (.mv (.k .pn))])
(.seq (.reg [])
(.block 0 [4] (.pre [5, 6] [1, 2] (.loop (.block 1 [5, 6] (.seq (.reg [o 18 (.call 305 [u0]), o 19 (.ext 0 u0), o 20 (.ext 1 u1)])
(.seq (.reg [o 23 (.call 305 [u4]), o 24 (.ext 0 u0), o 25 (.ext 1 u1)])
(.seq (.seq (.reg [oA 28 3 (.mv u0), o 29 (.pick u4 u0 kF)])
(.cond u0
(.seq (.post (.reg [o 32 (.call 306 [u6, u3]), o 33 (.call 213 [u0])]) [4] [0])
(.ret [.mv u0]))
 .skip))
(.seq (.seq (.reg [o 35 (.call 231 [u9]), o 36 (.len false u0), o 37 (.bin .eql u0 (kJ 0))])
(.cond u0
(.seq (.post (.reg [o 39 (.call 231 [u11]), o 40 (.call 211 [u0])]) [4] [0])
(.ret [.mv u0]))
 .skip))
(.seq (.seq (.post (.reg [o 42 (.call 231 [u11]), o 43 (.len false u0), o 45 (.call 231 [u14]), o 46 (.len false u0), o 47 (.bin .neq u2 u0)]) [5, 6, 47] [16, 17, 0])
(.cond u2
(.seq (.reg [o 51 (.call 236 [u0, u1]), o 52 (.ext 0 u0), o 53 (.ext 1 u1), o 54 (.ext 2 u2)])
(.seq (.reg [])
(.pre [5, 6] [5, 1] (.exit 1))))
 .skip))
(.seq (.reg [o 59 (.call 307 [u0, u1])])
(.ret [.mv u0])))))))))))))
def c273 : BC := .seq h273 (.ret [.mv u0])
theorem fg273 : FGood Tryz.prog T 273 (.code 2 c273) := ⟨Tryz.call273, Tryz.f273, h273, Tryz.func273, by kernel_rfl⟩
def h274 : BC := (.seq (.reg [o 10 (.mv kU)])
(.seq (.reg [o 11 (.mv kU)])
(.block 0 [] (.pre [0, 1, 2, 3, 4, 10, 11] [2, 3, 4, 5, 6, 1, 0] (.loop (.block 1 [0, 1, 2, 3, 4, 10, 11] (.seq (.reg [o 23 (.bin .sub u2 u1)])
(.seq (.seq (.reg [o 25 (.bin .leq u0 (kJ 12))])
(.cond u0
(.seq (.post (.reg [o 30 (.call 308 [u2, u3, u4, u6])]) [] [])
(.ret []))
 .skip))
(.seq (.seq (.reg [o 32 (.bin .eql u5 (kJ 0))])
(.cond u0
(.seq (.post (.reg [o 37 (.call 309 [u3, u4, u5, u7])]) [] [])
(.ret []))
 .skip))
(.seq (.seq (.reg [o 39 (.un .not u8)])
(.cond u0
(.post (.seq (.reg [o 44 (.call 310 [u4, u5, u6, u8])])
(.reg [o 46 (.bin .sub u8 (kJ 1))])) [0, 1, 2, 3, 4, 10, 11, 12] [6, 7, 8, 0, 10, 11, 12, 5])
(.post .skip [0, 1, 2, 3, 4, 10, 11, 12] [4, 5, 6, 7, 8, 9, 10, 3])))
(.seq (.reg [o 52 (.call 311 [u0, u1, u2, u4]), o 53 (.ext 0 u0), o 54 (.ext 1 u1)])
(.seq (.seq (.reg [o 56 (.bin .eql u0 (kJ 2))])
(.cond u0
(.post (.seq (.reg [o 61 (.call 312 [u4, u5, u6, u8])])
(.seq (.reg [o 63 (.bin .sub u7 (kJ 1)), o 66 (.bin .sub u4 u7), o 67 (.bin .sub u1 u0)])
(.reg [o 14 (.mv (kJ 1))]))) [0, 1, 2, 3, 4, 10, 11, 12, 13, 14] [9, 10, 11, 12, 13, 14, 15, 16, 1, 0])
(.post .skip [0, 1, 2, 3, 4, 10, 11, 12, 13, 14] [4, 5, 6, 7, 8, 9, 10, 11, 2, 1])))
(.seq (.seq (.reg [oA 70 5 (.mv u6), o 71 (.pick u6 u0 kF), oA 73 0 (.mv u11), oA 74 1 (.bin .eql u0 (kJ 1)), o 75 (.pick u2 u0 kF)])
(.cond u0
(.post (.seq (.reg [o 80 (.call 313 [u5, u6, u7, u9])])
(.cond u0
(.ret [])
 .skip)) [0, 1, 2, 3, 4, 10, 11, 12, 13] [6, 7, 8, 9, 10, 11, 12, 13, 14])
(.post .skip [0, 1, 2, 3, 4, 10, 11, 12, 13] [5, 6, 7, 8, 9, 10, 11, 12, 13])))
(.seq (.seq (.reg [o 82 (.bin .gtr u1 (kJ 0)), oA 84 0 (.mv u5), oA 85 1 (.mv u2), oA 86 2 (.mv u4), oA 87 3 (.bin .sub u0 (kJ 1)), oA 88 4 (.ia 2 u2 u0), oA 89 5 (.ldn 2 u0), oA 90 6 (.mv u7), oA 91 7 (.mv u16), oA 92 8 (.ia 2 u1 u0), oA 93 9 (.ldn 2 u0), oA 94 10 (.callv u9 [u4, u0]), oA 95 11 (.bin .lss u0 (kJ 0)), oA 96 12 (.un .not u0), o 97 (.pick u13 u0 kF)])
(.cond u0
(.seq (.post (.reg [o 103 (.call 314 [u15, u16, u17, u23, u19])]) [0, 2, 3, 4, 10, 11, 15] [16, 18, 19, 20, 21, 22, 0])
(.seq (.reg [])
(.pre [0, 1, 2, 3, 4, 10, 11] [0, 6, 1, 2, 3, 4, 5] (.exit 1))))
 .skip))
(.seq (.post (.reg [o 111 (.call 315 [u15, u16, u17, u23, u19]), o 112 (.ext 0 u0), o 113 (.ext 1 u1)]) [0, 1, 2, 3, 4, 12, 16, 17] [18, 19, 20, 21, 22, 25, 1, 0])
(.seq (.reg [])
(.seq (.reg [o 117 (.bin .sub u6 u1), o 120 (.bin .sub u3 u7)])
(.seq (.reg [o 122 (.bin .quo u7 (kJ 8))])
(.seq (.reg [o 125 (.bin .lss u2 u1)])
(.cond u0
(.post (.seq (.reg [o 128 (.bin .geq u3 u1)])
(.seq (.reg [o 134 (.call 274 [u5, u6, u11, u8, u9])])
(.reg [o 136 (.bin .add u12 (kJ 1))]))) [0, 1, 2, 3, 4, 10, 11] [7, 0, 9, 10, 11, 2, 14])
(.post (.seq (.reg [o 139 (.bin .geq u2 u1)])
(.seq (.reg [o 142 (.bin .add u11 (kJ 1)), o 146 (.call 274 [u6, u0, u8, u9, u10])])
(.reg []))) [0, 1, 2, 3, 4, 10, 11] [7, 8, 13, 10, 11, 2, 14])))))))))))))))))))))
def c274 : BC := .seq h274 (.ret [])
theorem fg274 : FGood Tryz.prog T 274 (.code 5 c274) := ⟨Tryz.call274, Tryz.f274, h274, Tryz.func274, by kernel_rfl⟩
def c275 : BC := (.seq (.reg [o 2 (.mv (kJ 0))])
(.seq (.cond kF
(.seq (.reg [o 4 (.cvi .u32 u1), o 5 (.call 316 [u0])])
(.ret [.mv u0]))
 .skip)
(.seq (.reg [o 7 (.call 317 [u1])])
(.ret [.mv u0]))))
theorem fg275 : FGood Tryz.prog T 275 (.code 1 c275) := ⟨Tryz.call275, Tryz.f275, c275, Tryz.func275, by kernel_rfl⟩
def c276 : BC := (.seq (.reg [o 2 (.mv kF)])
(.seq (.reg [o 5 (.bin .neq u1 u1)])
(.ret [.mv u0])))
theorem fg276 : FGood Tryz.prog T 276 (.code 1 c276) := ⟨Tryz.call276, Tryz.f276, c276, Tryz.func276, by kernel_rfl⟩
def c277 : BC := (.seq (.reg [o 2 (.mv (.k .sn))])
(.seq (.seq (.reg [o 4 (.eq 2 false u1 (.k .sn))])
(.cond u0
(.seq (.reg [o 2 (.mv (.k .sn))])
(.ret [.mv u0]))
 .skip))
(.seq (.reg [o 5 (.bsl 0 1 [.pn] []), o 7 (.app 788 1 8 u0 u3)])
(.ret [.mv u0]))))
theorem fg277 : FGood Tryz.prog T 277 (.code 1 c277) := ⟨Tryz.call277, Tryz.f277, c277, Tryz.func277, by kernel_rfl⟩
def c278 : BC := (.seq (.reg [o 4 (.mv (kJ 0))])
(.seq (.seq (.reg [o 7 (.len false u1), o 8 (.mv (kJ 0))])
(.block 0 [] (.pre [0, 1, 7, 8] [3, 4, 1, 0] (.loop (.post (.seq (.reg [o 9 (.bin .lss u3 u2)])
(.seq (.cond u0
 .skip
(.pre [] [] (.exit 0)))
(.seq (.block 1 [0, 1, 7, 8] (.post (.seq (.reg [])
(.seq (.reg [o 14 (.ia 1 u1 u4), o 15 (.ld u0), o 16 (.callv u4 [u0])])
(.cond u0
(.seq (.reg [])
(.ret [.mv u7]))
 .skip))) [0, 1, 7, 8] [4, 5, 6, 7]))
(.reg [o 18 (.bin .add u3 (kJ 1))])))) [0, 1, 7, 8] [1, 2, 3, 0])))))
(.seq (.reg [o 4 (.mv (.k (.i .i64 (-1))))])
(.ret [.mv u0]))))
theorem fg278 : FGood Tryz.prog T 278 (.code 2 c278) := ⟨Tryz.call278, Tryz.f278, c278, Tryz.func278, by kernel_rfl⟩
def c279 : BC := (.seq (.reg [o 3 (.mv kF)])
(.seq (.reg [o 5 (.ld u2), o 6 (.ia 1 u2 u0), o 7 (.ld u0), o 8 (.call 116 [u0]), o 9 (.bin .neq u0 (kJ 0))])
(.ret [.mv u0])))
theorem fg279 : FGood Tryz.prog T 279 (.code 2 c279) := ⟨Tryz.call279, Tryz.f279, c279, Tryz.func279, by kernel_rfl⟩
def h280 : BC := (.seq (.reg [o 13 (.ia 1 u0 u1), o 14 (.ld u0), o 16 (.ia 1 u0 u4), o 17 (.ld u0)])
(.seq (.seq (.reg [o 20 (.ia 1 u4 u5), o 21 (.ld u0), o 22 (.len false u0), o 23 (.mv (kJ 0))])
(.block 0 [0, 1, 2] (.pre [0, 1, 2, 6, 22, 23] [8, 9, 10, 4, 1, 0] (.loop (.post (.seq (.reg [o 24 (.bin .lss u5 u4)])
(.seq (.cond u0
 .skip
(.pre [0, 1, 2] [1, 2, 3] (.exit 0)))
(.seq (.block 1 [0, 1, 2, 6, 22, 23] (.post (.seq (.reg [])
(.reg [o 29 (.ia 1 u1 u2), o 30 (.ld u0), o 34 (.ia 1 u3 u4), o 35 (.ld u0), o 37 (.ia 1 u0 u10), o 38 (.ld u0), o 40 (.call 318 [u0, u10]), .chk ⟨(some 5), none, .ld u6⟩, o 41 (.ext 0 u0), o 42 (.ext 1 u1), o 43 (.ia 1 u7 u15), oC (.st u0 u2)])) [0, 1, 2, 6, 22, 23] [11, 12, 13, 14, 15, 16]))
(.reg [o 44 (.bin .add u5 (kJ 1))])))) [0, 1, 2, 6, 22, 23] [1, 2, 3, 4, 5, 0])))))
(.seq (.reg [o 46 (.len false u0), o 47 (.mv (kJ 0))])
(.block 2 [] (.pre [0, 1, 2, 46, 47] [2, 3, 4, 1, 0] (.loop (.post (.seq (.reg [o 48 (.bin .lss u4 u3)])
(.seq (.cond u0
 .skip
(.pre [] [] (.exit 2)))
(.seq (.block 3 [0, 1, 2, 46, 47] (.seq (.reg [])
(.seq (.reg [o 52 (.ia 1 u1 u5), o 53 (.ld u0), o 55 (.ia 1 u0 u5), o 56 (.ld u0)])
(.seq (.seq (.reg [o 59 (.bin .eql u9 u6), oB 61 0 (.mv u1), oB 62 1 (.call 116 [u0]), oB 63 2 (.bin .eql u0 (kJ 0)), o 64 (.pick u3 kU u0)])
(.cond u0
(.pre [0, 1, 2, 46, 47] [10, 11, 12, 13, 14] (.exit 3))
 .skip))
(.seq (.reg [o 67 (.ia 1 u10 u14), o 68 (.ld u0), o 69 (.len false u0), o 70 (.mv (kJ 0))])
(.block 4 [0, 1, 2, 46, 47] (.pre [0, 1, 2, 8, 9, 46, 47, 69, 70] [14, 15, 16, 18, 9, 17, 18, 1, 0] (.loop (.post (.seq (.reg [o 71 (.bin .lss u8 u7)])
(.seq (.cond u0
 .skip
(.pre [0, 1, 2, 46, 47] [1, 2, 3, 6, 7] (.exit 4)))
(.seq (.block 5 [0, 1, 2, 8, 9, 46, 47, 69, 70] (.seq (.reg [])
(.seq (.reg [o 75 (.ia 1 u1 u2), o 76 (.ld u0), o 78 (.ia 1 u0 u11), o 79 (.ld u0), o 80 (.call 116 [u0]), o 81 (.bin .neq u0 (kJ 0))])
(.cond u0
(.post (.reg [o 84 (.ia 1 u7 u10), o 85 (.ld u0), o 89 (.ia 1 u9 u12), o 90 (.ld u0), o 92 (.ia 1 u0 u19), o 93 (.ld u0), o 97 (.ia 1 u13 u14), o 98 (.ld u0), o 100 (.ia 1 u0 u23), o 101 (.ld u0), o 102 (.call 132 [u21, u0]), .chk ⟨(some 9), none, .ld u10⟩, .chk ⟨(some 7), none, .ld u8⟩, .chk ⟨(some 5), none, .ld u6⟩, o 103 (.call 118 [u5, u0]), .chk ⟨(some 10), none, .ld u11⟩, o 104 (.ia 1 u10 u27), oC (.st u0 u1)]) [0, 1, 2, 8, 9, 46, 47, 69, 70] [20, 21, 22, 23, 24, 25, 26, 27, 28])
(.post .skip [0, 1, 2, 8, 9, 46, 47, 69, 70] [7, 8, 9, 10, 11, 12, 13, 14, 15])))))
(.reg [o 105 (.bin .add u8 (kJ 1))])))) [0, 1, 2, 8, 9, 46, 47, 69, 70] [1, 2, 3, 4, 5, 6, 7, 8, 0])))))))))
(.reg [o 106 (.bin .add u4 (kJ 1))])))) [0, 1, 2, 46, 47] [1, 2, 3, 4, 0])))))))
def c280 : BC := .seq h280 (.ret [])
theorem fg280 : FGood Tryz.prog T 280 (.code 3 c280) := ⟨Tryz.call280, Tryz.f280, h280, Tryz.func280, by kernel_rfl⟩
def c281 : BC := (.seq (.reg [o 4 (.mv (.k (.s [])))])
(.seq (.seq (.reg [o 10 (.bin .eql u2 (kJ 10))])
(.cond u0
(.seq (.seq (.reg [o 12 (.bin .lss u2 (.k (.i .u64 100)))])
(.cond u0
(.seq (.reg [o 14 (.cvi .i64 u3), o 15 (.call 319 [u0])])
(.ret [.mv u0]))
 .skip))
(.seq (.reg [o 5 (.alloc 1460 [(.i .u8 0), (.i .u8 0), (.i .u8 0), (.i .u8 0), (.i .u8 0), (.i .u8 0), (.i .u8 0), (.i .u8 0), (.i .u8 0), (.i .u8 0), (.i .u8 0), (.i .u8 0), (.i .u8 0), (.i .u8 0), (.i .u8 0), (.i .u8 0), (.i .u8 0), (.i .u8 0), (.i .u8 0), (.i .u8 0), (.i .u8 0), (.i .u8 0), (.i .u8 0), (.i .u8 0)])])
(.seq (.reg [o 17 (.call 320 [u4])])
(.seq (.reg [o 19 (.sla 24 1 u1 none (some u0)), o 21 (.call 321 [u0, u6])])
(.seq (.post (.reg [o 23 (.sla 24 1 u3 none (some u2)), o 24 (.b2s u0)]) [4] [0])
(.ret [.mv u0]))))))
 .skip))
(.seq (.reg [o 28 (.call 322 [(.k .sn), u2, u3, kF, kF]), o 29 (.ext 0 u0), o 30 (.ext 1 u1)])
(.seq (.reg [])
(.ret [.mv u0])))))
theorem fg281 : FGood Tryz.prog T 281 (.code 2 c281) := ⟨Tryz.call281, Tryz.f281, c281, Tryz.func281, by kernel_rfl⟩
def c282 : BC := (.seq (.reg [o 4 (.mv (.k (.i .u64 0))), o 5 (.mv (.k (.i .u64 0)))])
(.seq (.cond kF
(.seq (.reg [o 12 (.cvi .u32 u2), o 14 (.cvi .u32 u4), o 15 (.call 323 [u1, u0]), o 16 (.ext 0 u0), o 17 (.ext 1 u1)])
(.seq (.reg [o 19 (.cvi .u64 u1), o 21 (.cvi .u64 u1)])
(.ret [.mv u1, .mv u0])))
 .skip)
(.seq (.reg [o 25 (.call 324 [u2, u3]), o 26 (.ext 0 u0), o 27 (.ext 1 u1)])
(.seq (.reg [])
(.ret [.mv u1, .mv u0])))))
theorem fg282 : FGood Tryz.prog T 282 (.code 2 c282) := ⟨Tryz.call282, Tryz.f282, c282, Tryz.func282, by kernel_rfl⟩
def c283 : BC := (.seq (.reg [o 2 (.mv (kJ 0))])
(.seq (.reg [o 4 (.nck u1), o 5 (.fa 1 u0), o 6 (.ld u0), o 7 (.len false u0)])
(.ret [.mv u0])))
theorem fg283 : FGood Tryz.prog T 283 (.code 1 c283) := ⟨Tryz.call283, Tryz.f283, c283, Tryz.func283, by kernel_rfl⟩
def c284 : BC := (.seq (.reg [o 4 (.mv (.k .pn))])
(.seq (.reg [o 11 (.call 231 [u1])])
(.seq (.reg [o 13 (.len false u0), o 15 (.bin .quo u4 (kJ 32)), o 16 (.bin .add u1 u0), o 17 (.bin .add u0 (kJ 1)), o 18 (.mks 1 4 [(.i .u32 0)] u0 u0)])
(.seq (.seq (.reg [o 20 (.len false u5), o 21 (.mv (kJ 0))])
(.block 0 [6] (.pre [1, 6, 19, 20, 21] [10, 2, 7, 1, 0] (.loop (.post (.seq (.reg [o 22 (.bin .lss u4 u3)])
(.seq (.cond u0
 .skip
(.pre [6] [2] (.exit 0)))
(.seq (.block 1 [1, 6, 19, 20, 21] (.seq (.reg [o 24 (.ia 1 u3 u5), o 25 (.ld u0)])
(.seq (.reg [o 27 (.cvi .u64 u0), o 29 (.bin .rem u4 (kJ 32)), o 30 (.bin .shl u1 u0)])
(.seq (.reg [o 34 (.bin .quo u6 (kJ 32)), o 35 (.bin .add u11 u0), o 36 (.ia 1 u9 u0), o 37 (.ld u0), o 39 (.cvi .u32 u4), o 40 (.bin .or u1 u0), o 41 (.ia 1 u13 u4), oC (.st u0 u1)])
(.post (.reg [o 45 (.bin .quo u13 (kJ 32)), o 46 (.bin .add u18 u0), o 47 (.bin .add u0 (kJ 1)), o 49 (.bin .shr u10 (.k (.i .u64 32))), o 50 (.cvi .u32 u0), o 51 (.ia 1 u19 u2), oC (.st u0 u1)]) [1, 6, 19, 20, 21] [19, 20, 21, 22, 23])))))
(.reg [o 52 (.bin .add u4 (kJ 1))])))) [1, 6, 19, 20, 21] [1, 2, 3, 4, 0])))))
(.seq (.reg [o 54 (.call 211 [u0])])
(.ret [.mv u0]))))))
theorem fg284 : FGood Tryz.prog T 284 (.code 2 c284) := ⟨Tryz.call284, Tryz.f284, c284, Tryz.func284, by kernel_rfl⟩
def c285 : BC := (.seq (.reg [o 4 (.mv (.k (.i .u32 0)))])
(.seq (.reg [o 17 (.len false u2)])
(.seq (.reg [o 20 (.ia 1 u2 u0), o 21 (.ld u0), o 22 (.cvi .u64 u0), o 23 (.bin .shl u0 (.k (.i .u64 32))), o 26 (.bin .sub u4 (kJ 1)), o 27 (.ia 1 u7 u0), o 28 (.ld u0), o 29 (.cvi .u64 u0), o 30 (.bin .or u4 u0)])
(.seq (.post (.reg [o 34 (.bin .sub u9 (kJ 1)), o 35 (.ia 1 u13 u0), o 36 (.ld u0), o 37 (.cvi .u64 u0), o 38 (.bin .quo u4 u0), o 39 (.mm false u0 [(.k (.i .u64 4294967295))])]) [0, 1, 5, 6, 7] [17, 18, 15, 6, 0])
(.seq (.reg [o 44 (.bin .sub u2 (kJ 1)), o 45 (.ia 1 u2 u0), o 46 (.ld u0), o 47 (.cvi .u64 u0), o 48 (.bin .mul u8 u0), o 49 (.bin .sub u8 u0)])
(.seq (.block 0 [0, 1, 5, 7] (.pre [0, 1, 5, 7, 8] [6, 7, 8, 10, 0] (.loop (.seq (.seq (.post (.reg [o 51 (.bin .leq u4 (.k (.i .u64 4294967295))), oA 53 0 (.mv u4), oA 54 1 (.mv u3), oA 55 2 (.mv u5), oA 56 3 (.bin .sub u0 (kJ 2)), oA 57 4 (.ia 1 u2 u0), oA 58 5 (.ld u0), oA 59 6 (.cvi .u64 u0), oA 60 7 (.bin .mul u6 u0), oA 61 8 (.mv u13), oA 62 9 (.bin .shl u0 (.k (.i .u64 32))), oA 63 10 (.mv u11), oA 64 11 (.mv u14), oA 65 12 (.bin .sub u0 (kJ 2)), oA 66 13 (.ia 1 u2 u0), oA 67 14 (.ld u0), oA 68 15 (.cvi .u64 u0), oA 69 16 (.bin .or u6 u0), oA 70 17 (.bin .gtr u9 u0), o 71 (.pick u18 u0 kF)]) [0, 1, 5, 7, 8, 71] [20, 21, 22, 23, 24, 0])
(.cond u5
 .skip
(.pre [0, 1, 5, 7] [0, 1, 2, 3] (.exit 0))))
(.block 1 [0, 1, 5, 7, 8] (.post (.seq (.reg [o 73 (.bin .sub u3 (.k (.i .u64 1)))])
(.reg [o 77 (.bin .sub u3 (kJ 1)), o 78 (.ia 1 u3 u0), o 79 (.ld u0), o 80 (.cvi .u64 u0), o 81 (.bin .add u9 u0)])) [0, 1, 5, 7, 8] [6, 7, 8, 5, 0]))))))
(.seq (.reg [o 9 (.mv (.k (.i .u64 0))), o 10 (.mv (kJ 0))])
(.seq (.seq (.reg [o 83 (.len false u3), o 84 (.mv (kJ 0))])
(.block 2 [0, 1, 5, 7, 9, 10] (.pre [0, 1, 5, 7, 9, 10, 82, 83, 84] [4, 5, 6, 7, 3, 2, 5, 1, 0] (.loop (.post (.seq (.reg [o 85 (.bin .lss u8 u7)])
(.seq (.cond u0
 .skip
(.pre [0, 1, 5, 7, 9, 10] [1, 2, 3, 4, 5, 6] (.exit 2)))
(.seq (.block 3 [0, 1, 5, 7, 9, 10, 82, 83, 84] (.post (.seq (.reg [o 87 (.ia 1 u7 u9), o 88 (.ld u0)])
(.seq (.reg [o 92 (.cvi .u64 u0), o 93 (.bin .mul u7 u0), o 94 (.bin .add u9 u0)])
(.seq (.reg [o 98 (.ia 1 u6 u14), o 99 (.ld u0), o 100 (.cvi .i64 u0), o 102 (.cvi .u32 u3), o 103 (.cvi .i64 u0), o 104 (.bin .sub u2 u0), o 105 (.bin .add u17 u0)])
(.seq (.reg [o 109 (.cvi .u32 u0), o 110 (.ia 1 u14 u22), oC (.st u0 u1)])
(.reg [o 112 (.bin .shr u9 (.k (.i .u64 32))), o 114 (.bin .shr u3 (.k (.i .u64 32)))]))))) [0, 1, 5, 7, 9, 10, 82, 83, 84] [17, 18, 19, 20, 1, 0, 23, 24, 25]))
(.reg [o 115 (.bin .add u8 (kJ 1))])))) [0, 1, 5, 7, 9, 10, 82, 83, 84] [1, 2, 3, 4, 5, 6, 7, 8, 0])))))
(.seq (.reg [o 119 (.ia 1 u0 u2), o 120 (.ld u0), o 121 (.cvi .i64 u0), o 123 (.cvi .i64 u7), o 124 (.bin .sub u1 u0), o 125 (.bin .add u10 u0)])
(.seq (.reg [o 129 (.cvi .u32 u0), o 130 (.ia 1 u7 u9), oC (.st u0 u1)])
(.seq (.seq (.reg [o 132 (.bin .geq u2 (kJ 0))])
(.cond u0
(.seq (.post (.reg [o 134 (.cvi .u32 u12)]) [4] [0])
(.ret [.mv u0]))
 .skip))
(.seq (.reg [o 13 (.mv (.k (.i .u64 0)))])
(.seq (.seq (.reg [o 136 (.len false u11), o 137 (.mv (kJ 0))])
(.block 4 [0, 5, 7, 13] (.pre [0, 5, 7, 13, 135, 136, 137] [12, 14, 15, 2, 13, 1, 0] (.loop (.post (.seq (.reg [o 138 (.bin .lss u6 u5)])
(.seq (.cond u0
 .skip
(.pre [0, 5, 7, 13] [1, 2, 3, 4] (.exit 4)))
(.seq (.block 5 [0, 5, 7, 13, 135, 136, 137] (.post (.seq (.reg [o 140 (.ia 1 u5 u7), o 141 (.ld u0)])
(.seq (.reg [o 145 (.ia 1 u3 u9), o 146 (.ld u0), o 147 (.cvi .u64 u0), o 149 (.cvi .u64 u3), o 150 (.bin .add u1 u0), o 151 (.bin .add u11 u0)])
(.seq (.reg [o 155 (.cvi .u32 u0), o 156 (.ia 1 u10 u16), oC (.st u0 u1)])
(.reg [o 158 (.bin .shr u2 (.k (.i .u64 32)))])))) [0, 5, 7, 13, 135, 136, 137] [12, 13, 14, 0, 16, 17, 18]))
(.reg [o 159 (.bin .add u6 (kJ 1))])))) [0, 5, 7, 13, 135, 136, 137] [1, 2, 3, 4, 5, 6, 0])))))
(.seq (.reg [o 162 (.ia 1 u0 u1), o 163 (.ld u0), o 165 (.cvi .u32 u5), o 166 (.bin .add u1 u0), o 167 (.ia 1 u4 u5), oC (.st u0 u1)])
(.seq (.post (.reg [o 169 (.bin .sub u7 (.k (.i .u64 1))), o 170 (.cvi .u32 u0)]) [4] [0])
(.ret [.mv u0]))))))))))))))))
theorem fg285 : FGood Tryz.prog T 285 (.code 2 c285) := ⟨Tryz.call285, Tryz.f285, c285, Tryz.func285, by kernel_rfl⟩
def c286 : BC := (.seq (.reg [o 4 (.mv (.k .pn))])
(.seq (.reg [o 9 (.call 231 [u1])])
(.seq (.seq (.reg [o 11 (.bin .quo u3 (kJ 32)), o 13 (.len false u1), o 14 (.bin .geq u1 u0)])
(.cond u0
(.seq (.reg [o 15 (.call 211 [(.k .sn)])])
(.ret [.mv u0]))
 .skip))
(.seq (.reg [o 18 (.bin .quo u6 (kJ 32)), o 19 (.slv 1 u4 (some u0) none)])
(.seq (.reg [o 21 (.len false u0), o 22 (.mks 1 4 [(.i .u32 0)] u0 u0)])
(.seq (.seq (.reg [o 24 (.len false u0), o 25 (.mv (kJ 0))])
(.block 0 [6] (.pre [1, 5, 6, 24, 25] [12, 4, 2, 1, 0] (.loop (.post (.seq (.reg [o 26 (.bin .lss u4 u3)])
(.seq (.cond u0
 .skip
(.pre [6] [3] (.exit 0)))
(.seq (.block 1 [1, 5, 6, 24, 25] (.post (.seq (.reg [])
(.reg [o 32 (.call 247 [u2, u5]), o 35 (.bin .add u6 (kJ 1)), o 36 (.call 247 [u4, u0]), o 37 (.bin .shl u0 (.k (.i .u64 32))), o 38 (.bin .or u3 u0), o 40 (.bin .rem u6 (kJ 32)), o 41 (.bin .shr u1 u0), o 42 (.cvi .u32 u0), o 43 (.ia 1 u11 u13), oC (.st u0 u1)])) [1, 5, 6, 24, 25] [10, 11, 12, 13, 14]))
(.reg [o 44 (.bin .add u4 (kJ 1))])))) [1, 5, 6, 24, 25] [1, 2, 3, 4, 0])))))
(.seq (.reg [o 46 (.call 211 [u0])])
(.ret [.mv u0]))))))))
theorem fg286 : FGood Tryz.prog T 286 (.code 2 c286) := ⟨Tryz.call286, Tryz.f286, c286, Tryz.func286, by kernel_rfl⟩
def c288 : BC := (.seq (.reg [o 2 (.mv (.k (.i .u32 0))), o 3 (.mv (.k (.i .u32 0)))])
(.seq (.reg [o 4 (.mv (.k (.i .u32 0)))])
(.seq (.seq (.reg [o 5 (.mv (kJ 0))])
(.block 0 [0, 4] (.pre [0, 4, 5] [4, 1, 0] (.loop (.post (.seq (.seq (.reg [o 11 (.len true u0), o 12 (.bin .lss u3 u0)])
(.cond u0
 .skip
(.pre [0, 4] [2, 3] (.exit 0))))
(.seq (.block 1 [0, 4, 5] (.post (.reg [o 16 (.bin .mul u3 (.k (.i .u32 16777619))), o 19 (.ix u3 u5), o 20 (.cvi .u32 u0), o 21 (.bin .add u2 u0)]) [0, 4, 5] [6, 0, 8]))
(.reg [o 14 (.bin .add u2 (kJ 1))]))) [0, 4, 5] [1, 2, 0])))))
(.seq (.reg [o 6 (.mv (.k (.i .u32 1))), o 7 (.mv (.k (.i .u32 16777619)))])
(.seq (.seq (.reg [o 23 (.len true u2)])
(.block 2 [4, 6] (.pre [4, 6, 7, 8] [4, 2, 1, 0] (.loop (.post (.seq (.seq (.reg [o 25 (.bin .gtr u3 (kJ 0))])
(.cond u0
 .skip
(.pre [4, 6] [1, 2] (.exit 2))))
(.seq (.block 3 [4, 6, 7, 8] (.post (.seq (.seq (.reg [o 29 (.bin .and u4 (kJ 1)), o 30 (.bin .neq u0 (kJ 0))])
(.cond u0
(.post (.reg [o 33 (.bin .mul u4 u5)]) [4, 6, 7, 8] [4, 0, 6, 7])
(.post .skip [4, 6, 7, 8] [3, 4, 5, 6])))
(.reg [o 36 (.bin .mul u2 u2)])) [4, 6, 7, 8] [1, 2, 0, 4]))
(.reg [o 27 (.bin .shr u3 (.k (.i .u64 1)))]))) [4, 6, 7, 8] [1, 2, 3, 0])))))
(.seq (.reg [])
(.ret [.mv u0, .mv u1])))))))
theorem fg288 : FGood Tryz.prog T 288 (.code 1 c288) := ⟨Tryz.call288, Tryz.f288, c288, Tryz.func288, by kernel_rfl⟩
def c289 : BC := (.seq (.reg [o 4 (.mv (kJ 0))])
(.seq (.seq (.reg [o 7 (.len false u1), o 8 (.mv (kJ 0))])
(.block 0 [] (.pre [0, 1, 7, 8] [3, 4, 1, 0] (.loop (.post (.seq (.reg [o 9 (.bin .lss u3 u2)])
(.seq (.cond u0
 .skip
(.pre [] [] (.exit 0)))
(.seq (.block 1 [0, 1, 7, 8] (.post (.seq (.reg [])
(.seq (.reg [o 14 (.ia 1 u1 u4), o 15 (.ld u0), o 16 (.bin .eql u4 u0)])
(.cond u0
(.seq (.reg [])
(.ret [.mv u7]))
 .skip))) [0, 1, 7, 8] [4, 5, 6, 7]))
(.reg [o 18 (.bin .add u3 (kJ 1))])))) [0, 1, 7, 8] [1, 2, 3, 0])))))
(.seq (.reg [o 4 (.mv (.k (.i .i64 (-1))))])
(.ret [.mv u0]))))
theorem fg289 : FGood Tryz.prog T 289 (.code 2 c289) := ⟨Tryz.call289, Tryz.f289, c289, Tryz.func289, by kernel_rfl⟩
def c290 : BC := (.seq (.reg [o 2 (.mv (.k (.s [])))])
(.seq (.reg [o 7 (.s2b u1)])
(.seq (.seq (.reg [o 9 (.len false u0), o 10 (.mv (kJ 0))])
(.block 0 [3] (.pre [3, 8, 9, 10] [2, 2, 1, 0] (.loop (.post (.seq (.reg [o 11 (.bin .lss u3 u2)])
(.seq (.cond u0
 .skip
(.pre [3] [1] (.exit 0)))
(.seq (.block 1 [3, 8, 9, 10] (.seq (.reg [o 13 (.ia 1 u2 u4), o 14 (.ld u0)])
(.seq (.reg [o 16 (.bin .geq u0 (.k (.i .u8 65))), oA 18 0 (.mv u1), oA 19 1 (.bin .leq u0 (.k (.i .u8 90))), o 20 (.pick u2 u0 kF)])
(.cond u0
(.post (.reg [o 24 (.bin .sub u4 (.k (.i .u8 65))), o 25 (.bin .add u0 (.k (.i .u8 97))), o 26 (.ia 1 u9 u12), oC (.st u0 u1)]) [3, 8, 9, 10] [10, 11, 12, 13])
(.post .skip [3, 8, 9, 10] [7, 8, 9, 10])))))
(.reg [o 27 (.bin .add u3 (kJ 1))])))) [3, 8, 9, 10] [1, 2, 3, 0])))))
(.seq (.reg [o 29 (.b2s u0)])
(.ret [.mv u0])))))
theorem fg290 : FGood Tryz.prog T 290 (.code 1 c290) := ⟨Tryz.call290, Tryz.f290, c290, Tryz.func290, by kernel_rfl⟩
def h291 : BC := (.seq (.reg [o 6 (.slv 2 u0 none (some u1)), o 7 (.call 325 [u0])])
(.seq (.reg [o 10 (.slv 2 u2 (some u3) none), o 11 (.call 325 [u0])])
(.reg [o 13 (.call 325 [u4])])))
def c291 : BC := .seq h291 (.ret [])
theorem fg291 : FGood Tryz.prog T 291 (.code 2 c291) := ⟨Tryz.call291, Tryz.f291, h291, Tryz.func291, by kernel_rfl⟩
def c293 : BC := (.seq (.reg [o 2 (.mv (.k (.i .i32 0))), o 3 (.mv (kJ 0))])
(.seq (.seq (.reg [o 5 (.bin .neq u2 (.k (.s []))), oA 7 0 (.mv u3), oA 8 1 (.ix u0 (kJ 0)), oA 9 2 (.bin .lss u0 (.k (.i .u8 128))), o 10 (.pick u3 u0 kF)])
(.cond u0
(.seq (.reg [o 12 (.ix u7 (kJ 0)), o 13 (.cvi .i32 u0), o 3 (.mv (kJ 1))])
(.ret [.mv u1, .mv u0]))
(.reg [o 16 (.call 326 [u7]), o 17 (.ext 0 u0), o 18 (.ext 1 u1)])))
(.ret [.mv u1, .mv u0])))
theorem fg293 : FGood Tryz.prog T 293 (.code 1 c293) := ⟨Tryz.call293, Tryz.f293, c293, Tryz.func293, by kernel_rfl⟩
def c294 : BC := (.seq (.reg [o 4 (.mv kF)])
(.seq (.reg [o 7 (.call 269 [u1, u2]), o 8 (.bin .geq u0 (kJ 0))])
(.ret [.mv u0])))
theorem fg294 : FGood Tryz.prog T 294 (.code 2 c294) := ⟨Tryz.call294, Tryz.f294, c294, Tryz.func294, by kernel_rfl⟩
def c295 : BC := (.seq (.reg [o 2 (.mv (.k (.i .i32 0))), o 3 (.mv (kJ 0))])
(.seq (.reg [o 8 (.len true u2)])
(.seq (.seq (.reg [o 10 (.bin .eql u0 (kJ 0))])
(.cond u0
(.seq (.reg [o 2 (.mv (.k (.i .i32 65533))), o 3 (.mv (kJ 0))])
(.ret [.mv u1, .mv u0]))
 .skip))
(.seq (.reg [o 12 (.bin .sub u1 (kJ 1))])
(.seq (.reg [o 15 (.ix u5 u0), o 16 (.cvi .i32 u0)])
(.seq (.seq (.reg [o 18 (.bin .lss u0 (.k (.i .i32 128)))])
(.cond u0
(.seq (.reg [o 3 (.mv (kJ 1))])
(.ret [.mv u2, .mv u0]))
 .skip))
(.seq (.reg [o 21 (.bin .sub u5 (kJ 4)), o 22 (.mm true u0 [(kJ 0)])])
(.seq (.seq (.reg [o 24 (.bin .sub u5 (kJ 1))])
(.block 0 [0, 4, 5] (.pre [0, 4, 5, 6] [11, 8, 0, 1] (.loop (.post (.seq (.seq (.reg [o 27 (.bin .geq u2 u3)])
(.cond u0
 .skip
(.pre [0, 4, 5] [1, 2, 3] (.exit 0))))
(.seq (.block 1 [0, 4, 5, 6] (.post (.seq (.reg [o 32 (.ix u1 u3), o 33 (.call 327 [u0])])
(.cond u0
(.pre [0, 4, 5] [3, 4, 5] (.exit 0))
 .skip)) [0, 4, 5, 6] [3, 4, 5, 6]))
(.reg [o 29 (.bin .sub u2 (kJ 1))]))) [0, 4, 5, 6] [1, 2, 0, 4])))))
(.seq (.seq (.reg [o 35 (.bin .lss u2 (kJ 0))])
(.cond u0
(.post (.reg [o 5 (.mv (kJ 0))]) [0, 4, 5] [2, 3, 0])
(.post .skip [0, 4, 5] [1, 2, 3])))
(.seq (.reg [o 40 (.sls u0 (some u2) (some u1)), o 41 (.call 293 [u0]), o 42 (.ext 0 u0), o 43 (.ext 1 u1)])
(.seq (.seq (.reg [o 46 (.bin .add u6 u0), o 48 (.bin .neq u0 u6)])
(.cond u0
(.seq (.reg [o 2 (.mv (.k (.i .i32 65533))), o 3 (.mv (kJ 1))])
(.ret [.mv u1, .mv u0]))
 .skip))
(.seq (.reg [])
(.ret [.mv u3, .mv u2])))))))))))))
theorem fg295 : FGood Tryz.prog T 295 (.code 1 c295) := ⟨Tryz.call295, Tryz.f295, c295, Tryz.func295, by kernel_rfl⟩
def c296 : BC := (.seq (.reg [o 2 (.mv (.k (.i .u8 0)))])
(.seq (.reg [o 4 (.bin .or u1 (.k (.i .u8 32)))])
(.ret [.mv u0])))
theorem fg296 : FGood Tryz.prog T 296 (.code 1 c296) := ⟨Tryz.call296, Tryz.f296, c296, Tryz.func296, by kernel_rfl⟩
def c297 : BC := (.seq (.reg [o 2 (.mv kF)])
(.seq (.reg [o 3 (.mv (.k (.i .i32 94)))])
(.seq (.reg [o 4 (.mv (kJ 0))])
(.seq (.seq (.reg [o 7 (.len true u3), o 8 (.bin .geq u0 (kJ 1)), oA 10 0 (.mv u5), oA 11 1 (.ix u0 (kJ 0)), oA 12 2 (.bin .eql u0 (.k (.i .u8 45))), oA 13 3 (.mv u0), oB 14 0 (.mv u9), oB 15 1 (.ix u0 (kJ 0)), oB 16 2 (.bin .eql u0 (.k (.i .u8 43))), oA 17 7 (.pick u3 kU u0), o 18 (.pick u8 u0 kF)])
(.cond u0
(.post (.reg [o 20 (.sls u14 (some (kJ 1)) none)]) [0, 3, 4] [0, 13, 12])
(.post .skip [0, 3, 4] [14, 12, 11])))
(.seq (.reg [o 5 (.mv kF)])
(.seq (.seq (.post (.reg [o 22 (.len true u1), o 23 (.bin .geq u0 (kJ 2)), oA 25 0 (.mv u3), oA 26 1 (.ix u0 (kJ 0)), oA 27 2 (.bin .eql u0 (.k (.i .u8 48))), o 28 (.pick u3 u0 kF), oA 30 0 (.mv u7), oA 31 1 (.ix u0 (kJ 1)), oA 32 2 (.call 296 [u0]), oA 33 3 (.bin .eql u0 (.k (.i .u8 98))), oA 34 4 (.mv u0), oB 35 0 (.mv u12), oB 36 1 (.ix u0 (kJ 1)), oB 37 2 (.call 296 [u0]), oB 38 3 (.bin .eql u0 (.k (.i .u8 111))), oA 39 9 (.pick u4 kU u0), oA 40 10 (.mv u0), oB 41 0 (.mv u18), oB 42 1 (.ix u0 (kJ 1)), oB 43 2 (.call 296 [u0]), oB 44 3 (.bin .eql u0 (.k (.i .u8 120))), oA 45 15 (.pick u4 kU u0), o 46 (.pick u16 u0 kF)]) [0, 3, 4, 5, 46] [24, 25, 26, 23, 0])
(.cond u4
(.post (.seq (.reg [o 4 (.mv (kJ 2))])
(.seq (.reg [o 3 (.mv (.k (.i .i32 48)))])
(.reg [o 48 (.ix u2 (kJ 1)), o 49 (.call 296 [u0]), o 50 (.bin .eql u0 (.k (.i .u8 120)))]))) [0, 3, 4, 5] [5, 3, 4, 0])
(.post .skip [0, 3, 4, 5] [0, 1, 2, 3])))
(.seq (.block 0 [3] (.loop (.post (.seq (.seq (.reg [o 53 (.len true u0), o 54 (.bin .lss u3 u0)])
(.cond u0
 .skip
(.pre [3] [3] (.exit 0))))
(.seq (.block 1 [0, 3, 4, 5] (.post (.seq (.seq (.post (.reg [o 59 (.ix u2 u4), o 60 (.bin .leq (.k (.i .u8 48)) u0), oA 62 0 (.mv u4), oA 63 1 (.mv u7), oA 64 2 (.ix u1 u0), oA 65 3 (.bin .leq u0 (.k (.i .u8 57))), o 66 (.pick u4 u0 kF), oB 68 0 (.mv u12), oB 69 1 (.mv u0), oA 70 0 (.mv u11), oA 71 1 (.mv u14), oA 72 2 (.ix u1 u0), oA 73 3 (.call 296 [u0]), oA 74 4 (.bin .leq (.k (.i .u8 97)) u0), oB 75 7 (.pick u5 u0 kF), oB 76 8 (.mv u0), oA 77 0 (.mv u18), oA 78 1 (.mv u21), oA 79 2 (.ix u1 u0), oA 80 3 (.call 296 [u0]), oA 81 4 (.bin .leq u0 (.k (.i .u8 102))), oB 82 14 (.pick u5 u0 kF), o 83 (.pick u15 kU u0)]) [0, 3, 4, 5, 83] [25, 26, 27, 28, 0])
(.cond u4
(.seq (.reg [o 3 (.mv (.k (.i .i32 48)))])
(.pre [0, 3, 4, 5] [1, 0, 3, 4] (.exit 1)))
 .skip))
(.seq (.seq (.reg [o 86 (.ix u0 u2), o 87 (.bin .eql u0 (.k (.i .u8 95)))])
(.cond u0
(.seq (.seq (.reg [o 89 (.bin .neq u3 (.k (.i .i32 48)))])
(.cond u0
(.seq (.reg [o 2 (.mv kF)])
(.ret [.mv u0]))
 .skip))
(.seq (.reg [o 3 (.mv (.k (.i .i32 95)))])
(.pre [0, 3, 4, 5] [4, 0, 6, 7] (.exit 1))))
 .skip))
(.seq (.seq (.reg [o 91 (.bin .eql u3 (.k (.i .i32 95)))])
(.cond u0
(.seq (.reg [o 2 (.mv kF)])
(.ret [.mv u0]))
 .skip))
(.reg [o 3 (.mv (.k (.i .i32 33)))])))) [0, 3, 4, 5] [4, 0, 6, 7]))
(.reg [o 56 (.bin .add u2 (kJ 1))]))) [0, 3, 4, 5] [1, 2, 0, 4])))
(.seq (.reg [o 93 (.bin .neq u0 (.k (.i .i32 95)))])
(.ret [.mv u0])))))))))
theorem fg297 : FGood Tryz.prog T 297 (.code 1 c297) := ⟨Tryz.call297, Tryz.f297, c297, Tryz.func297, by kernel_rfl⟩
def c298 : BC := (.seq (.reg [o 4 (.mv (.k .pn))])
(.seq (.reg [o 8 (.ld (.k (.p 1 0))), o 7 (.call 328 [u3]), .chk ⟨(some 1), none, .ld (.k (.p 1 0))⟩, o 9 (.build [(.s []), (.s []), .inn] [(0, 1, u3), (1, 1, u0), (2, 1, u1)]), o 10 (.box 1488 u0)])
(.ret [.mv u0])))
theorem fg298 : FGood Tryz.prog T 298 (.code 2 c298) := ⟨Tryz.call298, Tryz.f298, c298, Tryz.func298, by kernel_rfl⟩
def c299 : BC := (.seq (.reg [o 4 (.mv (.k .pn))])
(.seq (.reg [o 8 (.ld (.k (.p 2 0))), o 7 (.call 328 [u3]), .chk ⟨(some 1), none, .ld (.k (.p 2 0))⟩, o 9 (.build [(.s []), (.s []), .inn] [(0, 1, u3), (1, 1, u0), (2, 1, u1)]), o 10 (.box 1488 u0)])
(.ret [.mv u0])))
theorem fg299 : FGood Tryz.prog T 299 (.code 2 c299) := ⟨Tryz.call299, Tryz.f299, c299, Tryz.func299, by kernel_rfl⟩
def c300 : BC := (.seq (.reg [o 6 (.mv (.k .pn))])
(.seq (.reg [o 9 (.call 328 [u2]), o 11 (.call 330 [u4]), o 12 (.bin .add (.k (.s [105, 110, 118, 97, 108, 105, 100, 32, 98, 97, 115, 101, 32])) u0), o 13 (.call 329 [u0]), o 14 (.build [(.s []), (.s []), .inn] [(0, 1, u5), (1, 1, u3), (2, 1, u0)]), o 15 (.box 1488 u0)])
(.ret [.mv u0])))
theorem fg300 : FGood Tryz.prog T 300 (.code 3 c300) := ⟨Tryz.call300, Tryz.f300, c300, Tryz.func300, by kernel_rfl⟩
def c301 : BC := (.seq (.reg [o 6 (.mv (.k .pn))])
(.seq (.reg [o 9 (.call 328 [u2]), o 11 (.call 330 [u4]), o 12 (.bin .add (.k (.s [105, 110, 118, 97, 108, 105, 100, 32, 98, 105, 116, 32, 115, 105, 122, 101, 32])) u0), o 13 (.call 329 [u0]), o 14 (.build [(.s []), (.s []), .inn] [(0, 1, u5), (1, 1, u3), (2, 1, u0)]), o 15 (.box 1488 u0)])
(.ret [.mv u0])))
theorem fg301 : FGood Tryz.prog T 301 (.code 3 c301) := ⟨Tryz.call301, Tryz.f301, c301, Tryz.func301, by kernel_rfl⟩
def c302 : BC := (.seq (.reg [o 4 (.mv (kJ 0))])
(.seq (.reg [o 7 (.call 242 [u1, u2])])
(.ret [.mv u0])))
theorem fg302 : FGood Tryz.prog T 302 (.code 2 c302) := ⟨Tryz.call302, Tryz.f302, c302, Tryz.func302, by kernel_rfl⟩
def c303 : BC := (.seq (.reg [o 2 (.mv kF)])
(.seq (.block 0 [] (.post (.seq (.reg [o 5 (.bin .leq (.k (.i .i32 0)) u1), oA 7 0 (.mv u2), oA 8 1 (.bin .lss u0 (.k (.i .i32 55296))), o 9 (.pick u2 u0 kF)])
(.cond u0
(.seq (.reg [o 2 (.mv kU)])
(.ret [.mv u0]))
(.seq (.reg [o 12 (.bin .lss (.k (.i .i32 57343)) u5), oA 14 0 (.mv u6), oA 15 1 (.bin .leq u0 (.k (.i .i32 1114111))), o 16 (.pick u2 u0 kF)])
(.cond u0
(.seq (.post (.reg [o 2 (.mv kU)]) [2] [0])
(.ret [.mv u0]))
 .skip)))) [] []))
(.seq (.reg [o 2 (.mv kF)])
(.ret [.mv u0]))))
theorem fg303 : FGood Tryz.prog T 303 (.code 1 c303) := ⟨Tryz.call303, Tryz.f303, c303, Tryz.func303, by kernel_rfl⟩
def c304 : BC := (.seq (.reg [o 2 (.mv (kJ 0)), o 3 (.mv (.k .inn))])
(.seq (.reg [o 12 (.len true u2)])
(.seq (.seq (.post (.reg [o 13 (.mv kF), oA 14 0 (.mv u1), oA 15 1 (.bin .lss (kJ 0) u0), oA 16 2 (.mv u0), oA 17 0 (.mv u4), oA 18 1 (.bin .lss u0 (kJ 10)), oA 19 5 (.pick u2 u0 kF), o 20 (.pick u6 u0 kF), oB 22 0 (.mv kU), oA 23 0 (.mv u9), oA 24 1 (.bin .lss (kJ 0) u0), oA 25 2 (.mv u0), oA 26 0 (.mv u12), oA 27 1 (.bin .lss u0 (kJ 19)), oA 28 5 (.pick u2 u0 kF), oB 29 7 (.pick u6 u0 kF), o 30 (.pick u8 kU u0)]) [0, 30] [20, 0])
(.cond u1
(.seq (.reg [])
(.seq (.seq (.reg [o 33 (.ix u0 (kJ 0)), o 34 (.bin .eql u0 (.k (.i .u8 45))), oB 36 0 (.mv u2), oB 37 1 (.ix u0 (kJ 0)), oB 38 2 (.bin .eql u0 (.k (.i .u8 43))), o 39 (.pick u3 kU u0)])
(.cond u0
(.post (.seq (.reg [o 41 (.sls u6 (some (kJ 1)) none)])
(.seq (.reg [o 43 (.len true u0), o 44 (.bin .lss u0 (kJ 1))])
(.cond u0
(.seq (.post (.reg [o 45 (.mki 346 (kJ 2)), o 2 (.mv (kJ 0))]) [2, 3] [0, 1])
(.ret [.mv u0, .mv u1]))
 .skip))) [0, 5] [2, 9])
(.post .skip [0, 5] [6, 6])))
(.seq (.reg [o 6 (.mv (kJ 0))])
(.seq (.seq (.reg [o 47 (.s2b u1), o 48 (.len false u0), o 49 (.mv (kJ 0))])
(.block 0 [5, 6] (.pre [5, 6, 47, 48, 49] [5, 3, 2, 1, 0] (.loop (.post (.seq (.reg [o 50 (.bin .lss u4 u3)])
(.seq (.cond u0
 .skip
(.pre [5, 6] [1, 2] (.exit 0)))
(.seq (.block 1 [5, 6, 47, 48, 49] (.post (.seq (.reg [o 51 (.ia 1 u3 u5), o 52 (.ld u0)])
(.seq (.reg [o 54 (.bin .sub u0 (.k (.i .u8 48)))])
(.seq (.seq (.reg [o 56 (.bin .gtr u0 (.k (.i .u8 9)))])
(.cond u0
(.seq (.reg [o 57 (.mki 346 (kJ 2)), o 2 (.mv (kJ 0))])
(.ret [.mv u0, .mv u1]))
 .skip))
(.reg [o 59 (.bin .mul u6 (kJ 10)), o 61 (.cvi .i64 u2), o 62 (.bin .add u1 u0)])))) [5, 6, 47, 48, 49] [8, 0, 10, 11, 12]))
(.reg [o 63 (.bin .add u4 (kJ 1))])))) [5, 6, 47, 48, 49] [1, 2, 3, 4, 0])))))
(.seq (.seq (.reg [o 65 (.ix u0 (kJ 0)), o 66 (.bin .eql u0 (.k (.i .u8 45)))])
(.cond u0
(.post (.reg [o 68 (.un .neg u3)]) [6] [0])
(.post .skip [6] [3])))
(.seq (.reg [o 3 (.mv (.k .inn))])
(.ret [.mv u1, .mv u0])))))))
 .skip))
(.seq (.reg [o 72 (.call 331 [u0, (kJ 10), (kJ 0)]), o 73 (.ext 0 u0), o 74 (.ext 1 u1)])
(.seq (.reg [])
(.ret [.mv u1, .mv u0]))))))
theorem fg304 : FGood Tryz.prog T 304 (.code 1 c304) := ⟨Tryz.call304, Tryz.f304, c304, Tryz.func304, by kernel_rfl⟩
def c305 : BC := (.seq (.reg [o 2 (.mv (.k (.i .u64 0))), o 3 (.mv kF)])
(.seq (.reg [o 4 (.mv (.k (.i .u64 0)))])
(.seq (.reg [o 9 (.call 231 [u3])])
(.seq (.seq (.reg [o 11 (.len false u0), o 12 (.bin .gtr u0 (kJ 2))])
(.cond u0
(.seq (.reg [o 2 (.mv (.k (.i .u64 0))), o 3 (.mv kF)])
(.ret [.mv u1, .mv u0]))
 .skip))
(.seq (.seq (.reg [o 14 (.len false u2), o 15 (.mv (kJ 0))])
(.block 0 [4] (.pre [4, 13, 14, 15] [5, 4, 1, 0] (.loop (.post (.seq (.reg [o 16 (.bin .lss u3 u2)])
(.seq (.cond u0
 .skip
(.pre [4] [1] (.exit 0)))
(.seq (.block 1 [4, 13, 14, 15] (.post (.seq (.reg [o 18 (.ia 1 u2 u4), o 19 (.ld u0)])
(.reg [o 22 (.cvi .u64 u0), o 24 (.bin .mul (kJ 32) u7), o 25 (.bin .shl u1 u0), o 26 (.bin .or u6 u0)])) [4, 13, 14, 15] [0, 8, 9, 10]))
(.reg [o 27 (.bin .add u3 (kJ 1))])))) [4, 13, 14, 15] [1, 2, 3, 0])))))
(.seq (.reg [o 3 (.mv kU)])
(.ret [.mv u1, .mv u0])))))))
theorem fg305 : FGood Tryz.prog T 305 (.code 1 c305) := ⟨Tryz.call305, Tryz.f305, c305, Tryz.func305, by kernel_rfl⟩
def c306 : BC := (.seq (.reg [o 4 (.mv (.k (.i .u64 0)))])
(.seq (.block 0 [0] (.pre [0, 1] [1, 2] (.loop (.seq (.seq (.reg [o 6 (.bin .neq u1 (.k (.i .u64 0)))])
(.cond u0
 .skip
(.pre [0] [1] (.exit 0))))
(.block 1 [0, 1] (.post (.reg [o 10 (.bin .rem u1 u2)]) [0, 1] [3, 0]))))))
(.seq (.reg [])
(.ret [.mv u0]))))
theorem fg306 : FGood Tryz.prog T 306 (.code 2 c306) := ⟨Tryz.call306, Tryz.f306, c306, Tryz.func306, by kernel_rfl⟩
def h307 : BC := (.seq (.reg [o 4 (.mv (.k .pn))])
(.seq (.reg [o 13 (.call 158 [u1]), o 15 (.call 158 [u3]), o 16 (.mm false u1 [u0])])
(.seq (.reg [o 19 (.call 158 [u4]), o 20 (.call 286 [u5, u0]), o 23 (.call 158 [u7]), o 24 (.call 286 [u8, u0])])
(.block 0 [4] (.pre [0, 1, 5] [2, 0, 4] (.loop (.block 1 [0, 1, 5] (.post (.seq (.seq (.reg [o 27 (.call 179 [u0, u1])])
(.block 2 [0, 1, 5] (.seq (.reg [o 29 (.bin .eql u0 (kJ 0))])
(.cond u0
(.seq (.reg [o 32 (.call 284 [u2, u4])])
(.ret [.mv u0]))
(.seq (.reg [o 34 (.bin .eql u1 (.k (.i .i64 (-1))))])
(.cond u0
(.post (.reg []) [0, 1, 5] [4, 3, 5])
(.post .skip [0, 1, 5] [3, 4, 5])))))))
(.seq (.reg [o 40 (.call 248 [u0, u1]), o 41 (.ext 0 u0), o 42 (.ext 1 u1)])
(.seq (.reg [o 45 (.call 158 [u1]), o 46 (.call 286 [u2, u0])])
(.seq (.post (.reg [o 48 (.nck u0), o 49 (.fa 0 u0), o 50 (.ld u0), o 51 (.len false u0), o 52 (.bin .leq u0 (kJ 2)), oA 54 0 (.mv u11), oA 55 1 (.nck u0), oA 56 2 (.fa 0 u0), oA 57 3 (.ld u0), oA 58 4 (.len false u0), oA 59 5 (.bin .leq u0 (kJ 2)), o 60 (.pick u6 u0 kF)]) [0, 1, 5, 60] [12, 18, 19, 0])
(.cond u3
(.seq (.reg [o 63 (.call 305 [u0]), o 64 (.ext 0 u0), o 65 (.ext 1 u1)])
(.seq (.reg [o 68 (.call 305 [u4]), o 69 (.ext 0 u0), o 70 (.ext 1 u1)])
(.seq (.post (.reg [o 73 (.call 306 [u4, u1]), o 74 (.call 213 [u0]), o 76 (.call 284 [u0, u10])]) [4] [0])
(.ret [.mv u0]))))
 .skip))))) [0, 1, 5] [0, 1, 2]))))))))
def c307 : BC := .seq h307 (.ret [.mv u0])
theorem fg307 : FGood Tryz.prog T 307 (.code 2 c307) := ⟨Tryz.call307, Tryz.f307, h307, Tryz.func307, by kernel_rfl⟩
def h308 : BC := (.seq (.reg [o 11 (.bin .add u1 (kJ 1))])
(.block 0 [] (.pre [0, 1, 2, 3, 8] [1, 2, 3, 4, 0] (.loop (.post (.seq (.seq (.reg [o 14 (.bin .lss u4 u2)])
(.cond u0
 .skip
(.pre [] [] (.exit 0))))
(.seq (.block 1 [0, 1, 2, 3, 8] (.seq (.reg [])
(.block 2 [0, 1, 2, 3, 8] (.pre [0, 1, 2, 3, 8, 9] [1, 2, 3, 4, 5, 5] (.loop (.post (.seq (.seq (.reg [o 20 (.bin .gtr u5 u1), oA 22 0 (.mv u4), oA 23 1 (.mv u2), oA 24 2 (.mv u8), oA 25 3 (.ia 2 u1 u0), oA 26 4 (.ldn 2 u0), oA 27 5 (.mv u6), oA 28 6 (.mv u12), oA 29 7 (.bin .sub u0 (kJ 1)), oA 30 8 (.ia 2 u2 u0), oA 31 9 (.ldn 2 u0), oA 32 10 (.callv u9 [u5, u0]), oA 33 11 (.bin .lss u0 (kJ 0)), o 34 (.pick u12 u0 kF)])
(.cond u0
 .skip
(.pre [0, 1, 2, 3, 8] [14, 15, 16, 17, 18] (.exit 2))))
(.seq (.block 3 [0, 1, 2, 3, 8, 9] (.post (.reg [o 41 (.bin .sub u19 (kJ 1)), o 44 (.bin .sub u20 (kJ 1)), o 45 (.ia 2 u16 u0), o 46 (.ldn 2 u0), o 49 (.ia 2 u18 u23), o 50 (.ldn 2 u0), o 51 (.ia 2 u20 u25), oC (.stn 2 u0 u3), o 52 (.ia 2 u21 u6), oC (.stn 2 u0 u2)]) [0, 1, 2, 3, 8, 9] [22, 23, 24, 25, 26, 27]))
(.reg [o 36 (.bin .sub u5 (kJ 1))]))) [0, 1, 2, 3, 8, 9] [1, 2, 3, 4, 5, 0]))))))
(.reg [o 16 (.bin .add u4 (kJ 1))]))) [0, 1, 2, 3, 8] [1, 2, 3, 4, 0])))))
def c308 : BC := .seq h308 (.ret [])
theorem fg308 : FGood Tryz.prog T 308 (.code 4 c308) := ⟨Tryz.call308, Tryz.f308, h308, Tryz.func308, by kernel_rfl⟩
def h309 : BC := (.seq (.reg [])
(.seq (.reg [o 9 (.mv (kJ 0))])
(.seq (.reg [o 16 (.bin .sub u3 u2)])
(.seq (.seq (.reg [o 18 (.bin .sub u0 (kJ 1)), o 19 (.bin .quo u0 (kJ 2))])
(.block 0 [0, 3, 8, 9, 10] (.pre [0, 3, 8, 9, 10, 11] [4, 7, 5, 3, 2, 0] (.loop (.post (.seq (.seq (.reg [o 21 (.bin .geq u5 (kJ 0))])
(.cond u0
 .skip
(.pre [0, 3, 8, 9, 10] [1, 2, 3, 4, 5] (.exit 0))))
(.seq (.block 1 [0, 3, 8, 9, 10, 11] (.post (.reg [o 29 (.call 332 [u1, u6, u5, u3, u2])]) [0, 3, 8, 9, 10, 11] [2, 3, 4, 5, 6, 7]))
(.reg [o 23 (.bin .sub u5 (kJ 1))]))) [0, 3, 8, 9, 10, 11] [1, 2, 3, 4, 5, 0])))))
(.seq (.reg [o 31 (.bin .sub u4 (kJ 1))])
(.block 2 [] (.pre [0, 3, 8, 9, 12] [1, 2, 3, 4, 0] (.loop (.post (.seq (.seq (.reg [o 33 (.bin .geq u4 (kJ 0))])
(.cond u0
 .skip
(.pre [] [] (.exit 2))))
(.seq (.block 3 [0, 3, 8, 9, 12] (.post (.seq (.reg [o 41 (.bin .add u3 u5), o 45 (.bin .add u4 u6), o 46 (.ia 2 u3 u0), o 47 (.ldn 2 u0), o 50 (.ia 2 u5 u7), o 51 (.ldn 2 u0), o 52 (.ia 2 u7 u9), oC (.stn 2 u0 u3), o 53 (.ia 2 u8 u6), oC (.stn 2 u0 u2)])
(.reg [o 59 (.call 332 [u9, u12, u13, u11, u10])])) [0, 3, 8, 9, 12] [10, 11, 12, 13, 14]))
(.reg [o 35 (.bin .sub u4 (kJ 1))]))) [0, 3, 8, 9, 12] [1, 2, 3, 4, 0])))))))))
def c309 : BC := .seq h309 (.ret [])
theorem fg309 : FGood Tryz.prog T 309 (.code 4 c309) := ⟨Tryz.call309, Tryz.f309, h309, Tryz.func309, by kernel_rfl⟩
def h310 : BC := (.seq (.reg [o 15 (.bin .sub u2 u1)])
(.seq (.reg [o 17 (.bin .geq u0 (kJ 8))])
(.cond u0
(.seq (.reg [o 19 (.cvi .u64 u1), o 9 (.alloc 1504 [(.i .u64 0)]), oC (.st u0 u1)])
(.seq (.reg [o 21 (.call 333 [u3])])
(.seq (.reg [o 24 (.bin .quo u4 (kJ 4)), o 25 (.bin .mul u0 (kJ 2)), o 26 (.bin .add u8 u0), o 27 (.bin .sub u0 (kJ 1))])
(.block 0 [] (.pre [0, 1, 8, 9, 10, 11] [9, 10, 8, 5, 4, 0] (.loop (.post (.seq (.seq (.reg [o 31 (.bin .quo u2 (kJ 4)), o 32 (.bin .mul u0 (kJ 2)), o 33 (.bin .add u3 u0), o 34 (.bin .add u0 (kJ 1)), o 35 (.bin .leq u9 u0)])
(.cond u0
 .skip
(.pre [] [] (.exit 0))))
(.seq (.block 1 [0, 1, 8, 9, 10, 11] (.post (.seq (.reg [o 38 (.call 334 [u8]), o 40 (.bin .sub u10 (.k (.i .u64 1))), o 41 (.bin .and u1 u0), o 42 (.cvi .i64 u0)])
(.seq (.seq (.reg [o 45 (.bin .geq u0 u11)])
(.cond u0
(.post (.reg [o 48 (.bin .sub u1 u12)]) [0, 1, 8, 9, 10, 11, 12] [11, 12, 13, 14, 15, 16, 0])
(.post .skip [0, 1, 8, 9, 10, 11, 12] [10, 11, 12, 13, 14, 15, 1])))
(.reg [o 54 (.bin .add u1 u6), o 58 (.bin .add u2 u7), o 59 (.ia 2 u2 u0), o 60 (.ldn 2 u0), o 63 (.ia 2 u4 u9), o 64 (.ldn 2 u0), o 65 (.ia 2 u6 u11), oC (.stn 2 u0 u3), o 66 (.ia 2 u7 u6), oC (.stn 2 u0 u2)]))) [0, 1, 8, 9, 10, 11] [8, 9, 10, 11, 12, 13]))
(.reg [o 37 (.bin .add u5 (kJ 1))]))) [0, 1, 8, 9, 10, 11] [1, 2, 3, 4, 5, 0])))))))
(.post .skip [] []))))
def c310 : BC := .seq h310 (.ret [])
theorem fg310 : FGood Tryz.prog T 310 (.code 4 c310) := ⟨Tryz.call310, Tryz.f310, h310, Tryz.func310, by kernel_rfl⟩
def h311 : BC := (.seq (.reg [o 8 (.mv (kJ 0)), o 9 (.mv (kJ 0))])
(.seq (.reg [o 17 (.bin .sub u4 u3)])
(.seq (.reg [o 11 (.alloc 16 [(.i .i64 0)])])
(.seq (.reg [o 20 (.bin .quo u1 (kJ 4)), o 21 (.bin .mul u0 (kJ 1)), o 22 (.bin .add u7 u0)])
(.seq (.reg [o 25 (.bin .quo u4 (kJ 4)), o 26 (.bin .mul u0 (kJ 2)), o 27 (.bin .add u10 u0)])
(.seq (.reg [o 30 (.bin .quo u7 (kJ 4)), o 31 (.bin .mul u0 (kJ 3)), o 32 (.bin .add u13 u0)])
(.seq (.seq (.reg [o 34 (.bin .geq u10 (kJ 8))])
(.cond u0
(.post (.seq (.seq (.reg [o 36 (.bin .geq u11 (kJ 50))])
(.cond u0
(.post (.seq (.reg [o 40 (.call 335 [u15, u8, u11, u18])])
(.seq (.post (.reg [o 44 (.call 335 [u16, u6, u12, u19])]) [0, 3, 11, 12, 13, 14] [17, 20, 13, 1, 0, 4])
(.reg [o 48 (.call 335 [u0, u5, u2, u1])]))) [0, 3, 11, 12, 13, 14] [1, 2, 3, 4, 5, 0])
(.post .skip [0, 3, 11, 12, 13, 14] [15, 18, 11, 8, 5, 2])))
(.reg [o 54 (.call 336 [u0, u3, u4, u5, u2, u1])])) [11, 13] [3, 0])
(.post .skip [11, 13] [10, 4])))
(.seq (.reg [o 55 (.ld u0)])
(.block 0 [8, 9] (.seq (.reg [o 58 (.bin .eql u0 (kJ 0))])
(.cond u0
(.seq (.reg [o 9 (.mv (kJ 1))])
(.ret [.mv u4, .mv u0]))
(.seq (.reg [o 61 (.bin .eql u1 (kJ 12))])
(.cond u0
(.seq (.reg [o 9 (.mv (kJ 2))])
(.ret [.mv u5, .mv u0]))
(.seq (.reg [o 9 (.mv (kJ 0))])
(.ret [.mv u5, .mv u0])))))))))))))))
def c311 : BC := .seq h311 (.ret [.mv u0, .mv u1])
theorem fg311 : FGood Tryz.prog T 311 (.code 4 c311) := ⟨Tryz.call311, Tryz.f311, h311, Tryz.func311, by kernel_rfl⟩
def h312 : BC := (.seq (.reg [])
(.seq (.reg [o 12 (.bin .sub u2 (kJ 1))])
(.block 0 [] (.pre [0, 8, 9] [1, 2, 0] (.loop (.seq (.seq (.reg [o 15 (.bin .lss u1 u2)])
(.cond u0
 .skip
(.pre [] [] (.exit 0))))
(.block 1 [0, 8, 9] (.post (.seq (.reg [o 22 (.ia 2 u1 u3), o 23 (.ldn 2 u0), o 26 (.ia 2 u3 u4), o 27 (.ldn 2 u0), o 28 (.ia 2 u5 u6), oC (.stn 2 u0 u3), o 29 (.ia 2 u6 u8), oC (.stn 2 u0 u2)])
(.seq (.reg [o 31 (.bin .add u8 (kJ 1))])
(.reg [o 33 (.bin .sub u10 (kJ 1))]))) [0, 8, 9] [9, 1, 0]))))))))
def c312 : BC := .seq h312 (.ret [])
theorem fg312 : FGood Tryz.prog T 312 (.code 4 c312) := ⟨Tryz.call312, Tryz.f312, h312, Tryz.func312, by kernel_rfl⟩
def c313 : BC := (.seq (.reg [o 8 (.mv kF)])
(.seq (.reg [o 14 (.bin .add u2 (kJ 1))])
(.seq (.seq (.reg [o 10 (.mv (kJ 0))])
(.block 0 [] (.pre [0, 1, 2, 3, 9, 10] [3, 4, 5, 6, 1, 0] (.loop (.post (.seq (.seq (.reg [o 16 (.bin .lss u5 (kJ 5))])
(.cond u0
 .skip
(.pre [] [] (.exit 0))))
(.seq (.block 1 [0, 1, 2, 3, 9, 10] (.seq (.block 2 [0, 1, 2, 3, 9, 10] (.pre [0, 1, 2, 3, 9, 10] [1, 2, 3, 4, 5, 6] (.loop (.seq (.seq (.reg [o 21 (.bin .lss u4 u2), oA 23 0 (.mv u4), oA 24 1 (.mv u2), oA 25 2 (.mv u7), oA 26 3 (.ia 2 u1 u0), oA 27 4 (.ldn 2 u0), oA 28 5 (.mv u6), oA 29 6 (.mv u11), oA 30 7 (.bin .sub u0 (kJ 1)), oA 31 8 (.ia 2 u2 u0), oA 32 9 (.ldn 2 u0), oA 33 10 (.callv u9 [u5, u0]), oA 34 11 (.bin .lss u0 (kJ 0)), oA 35 12 (.un .not u0), o 36 (.pick u13 u0 kF)])
(.cond u0
 .skip
(.pre [0, 1, 2, 3, 9, 10] [15, 16, 17, 18, 19, 20] (.exit 2))))
(.block 3 [0, 1, 2, 3, 9, 10] (.post (.reg [o 38 (.bin .add u19 (kJ 1))]) [0, 1, 2, 3, 9, 10] [16, 17, 18, 19, 0, 21]))))))
(.seq (.seq (.reg [o 41 (.bin .eql u4 u2)])
(.cond u0
(.seq (.reg [o 8 (.mv kU)])
(.ret [.mv u0]))
 .skip))
(.seq (.seq (.reg [o 44 (.bin .sub u3 u2), o 45 (.bin .lss u0 (kJ 50))])
(.cond u0
(.seq (.reg [o 8 (.mv kF)])
(.ret [.mv u0]))
 .skip))
(.seq (.reg [o 50 (.bin .sub u7 (kJ 1)), o 53 (.bin .sub u8 (kJ 1)), o 54 (.ia 2 u5 u0), o 55 (.ldn 2 u0), o 58 (.ia 2 u7 u11), o 59 (.ldn 2 u0), o 60 (.ia 2 u9 u13), oC (.stn 2 u0 u3), o 61 (.ia 2 u10 u6), oC (.stn 2 u0 u2)])
(.seq (.seq (.reg [o 64 (.bin .sub u15 u12), o 65 (.bin .geq u0 (kJ 2))])
(.cond u0
(.seq (.reg [o 67 (.bin .sub u17 (kJ 1))])
(.block 4 [0, 1, 2, 3, 9, 10] (.pre [0, 1, 2, 3, 9, 10, 11] [14, 15, 16, 17, 18, 19, 0] (.loop (.post (.seq (.seq (.reg [o 69 (.bin .geq u6 (kJ 1))])
(.cond u0
 .skip
(.pre [0, 1, 2, 3, 9, 10] [1, 2, 3, 4, 5, 6] (.exit 4))))
(.seq (.block 5 [0, 1, 2, 3, 9, 10, 11] (.seq (.seq (.reg [o 75 (.ia 2 u1 u7), o 76 (.ldn 2 u0), o 79 (.bin .sub u9 (kJ 1)), o 80 (.ia 2 u4 u0), o 81 (.ldn 2 u0), o 82 (.callv u9 [u3, u0]), o 83 (.bin .lss u0 (kJ 0)), o 84 (.un .not u0)])
(.cond u0
(.pre [0, 1, 2, 3, 9, 10] [9, 10, 11, 12, 13, 14] (.exit 4))
 .skip))
(.post (.reg [o 89 (.bin .sub u15 (kJ 1)), o 92 (.bin .sub u16 (kJ 1)), o 93 (.ia 2 u11 u0), o 94 (.ldn 2 u0), o 97 (.ia 2 u13 u19), o 98 (.ldn 2 u0), o 99 (.ia 2 u15 u21), oC (.stn 2 u0 u3), o 100 (.ia 2 u16 u6), oC (.stn 2 u0 u2)]) [0, 1, 2, 3, 9, 10, 11] [17, 18, 19, 20, 21, 22, 23])))
(.reg [o 71 (.bin .sub u6 (kJ 1))]))) [0, 1, 2, 3, 9, 10, 11] [1, 2, 3, 4, 5, 6, 0])))))
(.post .skip [0, 1, 2, 3, 9, 10] [13, 14, 15, 16, 17, 18])))
(.seq (.reg [o 103 (.bin .sub u2 u4), o 104 (.bin .geq u0 (kJ 2))])
(.cond u0
(.seq (.reg [o 106 (.bin .add u6 (kJ 1))])
(.block 6 [0, 1, 2, 3, 9, 10] (.pre [0, 1, 2, 3, 9, 10, 12] [3, 4, 5, 6, 7, 8, 0] (.loop (.post (.seq (.seq (.reg [o 109 (.bin .lss u6 u2)])
(.cond u0
 .skip
(.pre [0, 1, 2, 3, 9, 10] [1, 2, 3, 4, 5, 6] (.exit 6))))
(.seq (.block 7 [0, 1, 2, 3, 9, 10, 12] (.seq (.seq (.reg [o 115 (.ia 2 u1 u7), o 116 (.ldn 2 u0), o 119 (.bin .sub u9 (kJ 1)), o 120 (.ia 2 u4 u0), o 121 (.ldn 2 u0), o 122 (.callv u9 [u3, u0]), o 123 (.bin .lss u0 (kJ 0)), o 124 (.un .not u0)])
(.cond u0
(.pre [0, 1, 2, 3, 9, 10] [9, 10, 11, 12, 13, 14] (.exit 6))
 .skip))
(.post (.reg [o 129 (.bin .sub u15 (kJ 1)), o 132 (.bin .sub u16 (kJ 1)), o 133 (.ia 2 u11 u0), o 134 (.ldn 2 u0), o 137 (.ia 2 u13 u19), o 138 (.ldn 2 u0), o 139 (.ia 2 u15 u21), oC (.stn 2 u0 u3), o 140 (.ia 2 u16 u6), oC (.stn 2 u0 u2)]) [0, 1, 2, 3, 9, 10, 12] [17, 18, 19, 20, 21, 22, 23])))
(.reg [o 111 (.bin .add u6 (kJ 1))]))) [0, 1, 2, 3, 9, 10, 12] [1, 2, 3, 4, 5, 6, 0])))))
(.post .skip [0, 1, 2, 3, 9, 10] [2, 3, 4, 5, 6, 7])))))))))
(.reg [o 18 (.bin .add u5 (kJ 1))]))) [0, 1, 2, 3, 9, 10] [1, 2, 3, 4, 5, 0])))))
(.seq (.reg [o 8 (.mv kF)])
(.ret [.mv u0])))))
theorem fg313 : FGood Tryz.prog T 313 (.code 4 c313) := ⟨Tryz.call313, Tryz.f313, c313, Tryz.func313, by kernel_rfl⟩
def c314 : BC := (.seq (.reg [o 10 (.mv (kJ 0))])
(.seq (.reg [o 19 (.ia 2 u1 u4), o 20 (.ldn 2 u0), o 23 (.ia 2 u3 u4), o 24 (.ldn 2 u0), o 25 (.ia 2 u5 u6), oC (.stn 2 u0 u3), o 26 (.ia 2 u6 u9), oC (.stn 2 u0 u2)])
(.seq (.reg [o 28 (.bin .add u8 (kJ 1)), o 30 (.bin .sub u10 (kJ 1))])
(.seq (.block 0 [11] (.pre [0, 1, 4, 11, 12] [9, 10, 13, 1, 0] (.loop (.block 1 [0, 1, 4, 11, 12] (.post (.seq (.block 2 [0, 1, 4, 11, 12] (.loop (.seq (.seq (.reg [o 33 (.bin .leq u3 u4), oA 35 0 (.mv u3), oA 36 1 (.mv u2), oA 37 2 (.mv u4), oA 38 3 (.ia 2 u1 u0), oA 39 4 (.ldn 2 u0), oA 40 5 (.mv u6), oA 41 6 (.mv u10), oA 42 7 (.ia 2 u1 u0), oA 43 8 (.ldn 2 u0), oA 44 9 (.callv u8 [u4, u0]), oA 45 10 (.bin .lss u0 (kJ 0)), oA 46 11 (.un .not u0), o 47 (.pick u12 u0 kF)])
(.cond u0
 .skip
(.pre [0, 1, 4, 11, 12] [14, 15, 16, 17, 18] (.exit 2))))
(.block 3 [0, 1, 4, 11, 12] (.post (.reg [o 49 (.bin .add u17 (kJ 1))]) [0, 1, 4, 11, 12] [15, 16, 17, 0, 19])))))
(.seq (.block 4 [0, 1, 4, 11, 12] (.loop (.seq (.seq (.reg [o 52 (.bin .leq u3 u4), oA 54 0 (.mv u3), oA 55 1 (.mv u2), oA 56 2 (.mv u4), oA 57 3 (.ia 2 u1 u0), oA 58 4 (.ldn 2 u0), oA 59 5 (.mv u6), oA 60 6 (.mv u11), oA 61 7 (.ia 2 u1 u0), oA 62 8 (.ldn 2 u0), oA 63 9 (.callv u8 [u4, u0]), oA 64 10 (.bin .lss u0 (kJ 0)), o 65 (.pick u11 u0 kF)])
(.cond u0
 .skip
(.pre [0, 1, 4, 11, 12] [13, 14, 15, 16, 17] (.exit 4))))
(.block 5 [0, 1, 4, 11, 12] (.post (.reg [o 67 (.bin .sub u17 (kJ 1))]) [0, 1, 4, 11, 12] [14, 15, 16, 17, 0])))))
(.seq (.seq (.reg [o 70 (.bin .gtr u3 u4)])
(.cond u0
(.pre [11] [4] (.exit 0))
 .skip))
(.seq (.reg [o 77 (.ia 2 u1 u5), o 78 (.ldn 2 u0), o 81 (.ia 2 u3 u6), o 82 (.ldn 2 u0), o 83 (.ia 2 u5 u8), oC (.stn 2 u0 u3), o 84 (.ia 2 u6 u10), oC (.stn 2 u0 u2)])
(.seq (.reg [o 86 (.bin .add u10 (kJ 1))])
(.reg [o 88 (.bin .sub u12 (kJ 1))])))))) [0, 1, 4, 11, 12] [9, 10, 11, 1, 0])))))
(.seq (.reg [])
(.ret [.mv u0]))))))
theorem fg314 : FGood Tryz.prog T 314 (.code 5 c314) := ⟨Tryz.call314, Tryz.f314, c314, Tryz.func314, by kernel_rfl⟩
def c315 : BC := (.seq (.reg [o 10 (.mv (kJ 0)), o 11 (.mv kF)])
(.seq (.reg [o 20 (.ia 2 u2 u5), o 21 (.ldn 2 u0), o 24 (.ia 2 u4 u5), o 25 (.ldn 2 u0), o 26 (.ia 2 u6 u7), oC (.stn 2 u0 u3), o 27 (.ia 2 u7 u10), oC (.stn 2 u0 u2)])
(.seq (.reg [o 29 (.bin .add u9 (kJ 1)), o 31 (.bin .sub u11 (kJ 1))])
(.seq (.block 0 [0, 1, 4, 12, 13] (.pre [0, 1, 4, 12, 13] [10, 11, 14, 1, 0] (.loop (.seq (.seq (.reg [o 34 (.bin .leq u3 u4), oA 36 0 (.mv u3), oA 37 1 (.mv u2), oA 38 2 (.mv u6), oA 39 3 (.ia 2 u1 u0), oA 40 4 (.ldn 2 u0), oA 41 5 (.mv u6), oA 42 6 (.mv u8), oA 43 7 (.ia 2 u1 u0), oA 44 8 (.ldn 2 u0), oA 45 9 (.callv u8 [u4, u0]), oA 46 10 (.bin .lss u0 (kJ 0)), o 47 (.pick u11 u0 kF)])
(.cond u0
 .skip
(.pre [0, 1, 4, 12, 13] [13, 14, 15, 16, 17] (.exit 0))))
(.block 1 [0, 1, 4, 12, 13] (.post (.reg [o 49 (.bin .add u16 (kJ 1))]) [0, 1, 4, 12, 13] [14, 15, 16, 0, 18]))))))
(.seq (.block 2 [0, 1, 4, 12, 13] (.loop (.seq (.seq (.reg [o 52 (.bin .leq u3 u4), oA 54 0 (.mv u3), oA 55 1 (.mv u2), oA 56 2 (.mv u7), oA 57 3 (.ia 2 u1 u0), oA 58 4 (.ldn 2 u0), oA 59 5 (.mv u6), oA 60 6 (.mv u8), oA 61 7 (.ia 2 u1 u0), oA 62 8 (.ldn 2 u0), oA 63 9 (.callv u8 [u4, u0]), oA 64 10 (.bin .lss u0 (kJ 0)), oA 65 11 (.un .not u0), o 66 (.pick u12 u0 kF)])
(.cond u0
 .skip
(.pre [0, 1, 4, 12, 13] [14, 15, 16, 17, 18] (.exit 2))))
(.block 3 [0, 1, 4, 12, 13] (.post (.reg [o 68 (.bin .sub u18 (kJ 1))]) [0, 1, 4, 12, 13] [15, 16, 17, 18, 0])))))
(.seq (.seq (.reg [o 71 (.bin .gtr u3 u4)])
(.cond u0
(.seq (.post (.reg [o 78 (.ia 2 u1 u2), o 79 (.ldn 2 u0), o 82 (.ia 2 u3 u7), o 83 (.ldn 2 u0), o 84 (.ia 2 u5 u9), oC (.stn 2 u0 u3), o 85 (.ia 2 u6 u7), oC (.stn 2 u0 u2)]) [13] [11])
(.seq (.reg [o 11 (.mv kU)])
(.ret [.mv u1, .mv u0])))
 .skip))
(.seq (.reg [o 93 (.ia 2 u1 u5), o 94 (.ldn 2 u0), o 97 (.ia 2 u3 u6), o 98 (.ldn 2 u0), o 99 (.ia 2 u5 u8), oC (.stn 2 u0 u3), o 100 (.ia 2 u6 u10), oC (.stn 2 u0 u2)])
(.seq (.reg [o 102 (.bin .add u10 (kJ 1))])
(.seq (.reg [o 104 (.bin .sub u12 (kJ 1))])
(.seq (.block 4 [0, 1, 13] (.pre [0, 1, 4, 12, 13] [9, 10, 11, 1, 0] (.loop (.block 5 [0, 1, 4, 12, 13] (.post (.seq (.block 6 [0, 1, 4, 12, 13] (.loop (.seq (.seq (.reg [o 107 (.bin .leq u3 u4), oA 109 0 (.mv u3), oA 110 1 (.mv u2), oA 111 2 (.mv u6), oA 112 3 (.ia 2 u1 u0), oA 113 4 (.ldn 2 u0), oA 114 5 (.mv u6), oA 115 6 (.mv u8), oA 116 7 (.ia 2 u1 u0), oA 117 8 (.ldn 2 u0), oA 118 9 (.callv u8 [u4, u0]), oA 119 10 (.bin .lss u0 (kJ 0)), o 120 (.pick u11 u0 kF)])
(.cond u0
 .skip
(.pre [0, 1, 4, 12, 13] [13, 14, 15, 16, 17] (.exit 6))))
(.block 7 [0, 1, 4, 12, 13] (.post (.reg [o 122 (.bin .add u16 (kJ 1))]) [0, 1, 4, 12, 13] [14, 15, 16, 0, 18])))))
(.seq (.block 8 [0, 1, 4, 12, 13] (.loop (.seq (.seq (.reg [o 125 (.bin .leq u3 u4), oA 127 0 (.mv u3), oA 128 1 (.mv u2), oA 129 2 (.mv u7), oA 130 3 (.ia 2 u1 u0), oA 131 4 (.ldn 2 u0), oA 132 5 (.mv u6), oA 133 6 (.mv u8), oA 134 7 (.ia 2 u1 u0), oA 135 8 (.ldn 2 u0), oA 136 9 (.callv u8 [u4, u0]), oA 137 10 (.bin .lss u0 (kJ 0)), oA 138 11 (.un .not u0), o 139 (.pick u12 u0 kF)])
(.cond u0
 .skip
(.pre [0, 1, 4, 12, 13] [14, 15, 16, 17, 18] (.exit 8))))
(.block 9 [0, 1, 4, 12, 13] (.post (.reg [o 141 (.bin .sub u18 (kJ 1))]) [0, 1, 4, 12, 13] [15, 16, 17, 18, 0])))))
(.seq (.seq (.reg [o 144 (.bin .gtr u3 u4)])
(.cond u0
(.pre [0, 1, 13] [1, 2, 5] (.exit 4))
 .skip))
(.seq (.reg [o 151 (.ia 2 u1 u5), o 152 (.ldn 2 u0), o 155 (.ia 2 u3 u6), o 156 (.ldn 2 u0), o 157 (.ia 2 u5 u8), oC (.stn 2 u0 u3), o 158 (.ia 2 u6 u10), oC (.stn 2 u0 u2)])
(.seq (.reg [o 160 (.bin .add u10 (kJ 1))])
(.reg [o 162 (.bin .sub u12 (kJ 1))])))))) [0, 1, 4, 12, 13] [9, 10, 11, 1, 0])))))
(.seq (.reg [o 169 (.ia 2 u0 u1), o 170 (.ldn 2 u0), o 173 (.ia 2 u2 u4), o 174 (.ldn 2 u0), o 175 (.ia 2 u4 u6), oC (.stn 2 u0 u3), o 176 (.ia 2 u5 u6), oC (.stn 2 u0 u2)])
(.seq (.reg [o 11 (.mv kF)])
(.ret [.mv u9, .mv u0])))))))))))))
theorem fg315 : FGood Tryz.prog T 315 (.code 5 c315) := ⟨Tryz.call315, Tryz.f315, c315, Tryz.func315, by kernel_rfl⟩
def c316 : BC := (.seq (.reg [o 2 (.mv (kJ 0))])
(.seq (.seq (.reg [o 4 (.bin .geq u1 (.k (.i .u32 65536)))])
(.cond u0
(.post (.seq (.reg [o 6 (.bin .shr u2 (.k (.i .u64 16)))])
(.reg [o 2 (.mv (kJ 16))])) [0, 2] [1, 0])
(.post .skip [0, 2] [2, 1])))
(.seq (.seq (.reg [o 8 (.bin .geq u0 (.k (.i .u32 256)))])
(.cond u0
(.post (.seq (.reg [o 10 (.bin .shr u1 (.k (.i .u64 8)))])
(.reg [o 12 (.bin .add u3 (kJ 8))])) [0, 2] [1, 0])
(.post .skip [0, 2] [1, 2])))
(.seq (.reg [o 15 (.cvi .u8 u0), o 16 (.ix (.k (.s [0, 1, 2, 2, 3, 3, 3, 3, 4, 4, 4, 4, 4, 4, 4, 4, 5, 5, 5, 5, 5, 5, 5, 5, 5, 5, 5, 5, 5, 5, 5, 5, 6, 6, 6, 6, 6, 6, 6, 6, 6, 6, 6, 6, 6, 6, 6, 6, 6, 6, 6, 6, 6, 6, 6, 6, 6, 6, 6, 6, 6, 6, 6, 6, 7, 7, 7, 7, 7, 7, 7, 7, 7, 7, 7, 7, 7, 7, 7, 7, 7, 7, 7, 7, 7, 7, 7, 7, 7, 7, 7, 7, 7, 7, 7, 7, 7, 7, 7, 7, 7, 7, 7, 7, 7, 7, 7, 7, 7, 7, 7, 7, 7, 7, 7, 7, 7, 7, 7, 7, 7, 7, 7, 7, 7, 7, 7, 7, 8, 8, 8, 8, 8, 8, 8, 8, 8, 8, 8, 8, 8, 8, 8, 8, 8, 8, 8, 8, 8, 8, 8, 8, 8, 8, 8, 8, 8, 8, 8, 8, 8, 8, 8, 8, 8, 8, 8, 8, 8, 8, 8, 8, 8, 8, 8, 8, 8, 8, 8, 8, 8, 8, 8, 8, 8, 8, 8, 8, 8, 8, 8, 8, 8, 8, 8, 8, 8, 8, 8, 8, 8, 8, 8, 8, 8, 8, 8, 8, 8, 8, 8, 8, 8, 8, 8, 8, 8, 8, 8, 8, 8, 8, 8, 8, 8, 8, 8, 8, 8, 8, 8, 8, 8, 8, 8, 8, 8, 8, 8, 8, 8, 8, 8, 8, 8, 8, 8, 8, 8, 8, 8, 8, 8, 8, 8, 8])) u0), o 17 (.cvi .i64 u0), o 18 (.bin .add u4 u0)])
(.ret [.mv u0])))))
theorem fg316 : FGood Tryz.prog T 316 (.code 1 c316) := ⟨Tryz.call316, Tryz.f316, c316, Tryz.func316, by kernel_rfl⟩
def c317 : BC := (.seq (.reg [o 2 (.mv (kJ 0))])
(.seq (.seq (.reg [o 4 (.bin .geq u1 (.k (.i .u64 4294967296)))])
(.cond u0
(.post (.seq (.reg [o 6 (.bin .shr u2 (.k (.i .u64 32)))])
(.reg [o 2 (.mv (kJ 32))])) [0, 2] [1, 0])
(.post .skip [0, 2] [2, 1])))
(.seq (.seq (.reg [o 8 (.bin .geq u0 (.k (.i .u64 65536)))])
(.cond u0
(.post (.seq (.reg [o 10 (.bin .shr u1 (.k (.i .u64 16)))])
(.reg [o 12 (.bin .add u3 (kJ 16))])) [0, 2] [1, 0])
(.post .skip [0, 2] [1, 2])))
(.seq (.seq (.reg [o 14 (.bin .geq u0 (.k (.i .u64 256)))])
(.cond u0
(.post (.seq (.reg [o 16 (.bin .shr u1 (.k (.i .u64 8)))])
(.reg [o 18 (.bin .add u3 (kJ 8))])) [0, 2] [1, 0])
(.post .skip [0, 2] [1, 2])))
(.seq (.reg [o 21 (.cvi .u8 u0), o 22 (.ix (.k (.s [0, 1, 2, 2, 3, 3, 3, 3, 4, 4, 4, 4, 4, 4, 4, 4, 5, 5, 5, 5, 5, 5, 5, 5, 5, 5, 5, 5, 5, 5, 5, 5, 6, 6, 6, 6, 6, 6, 6, 6, 6, 6, 6, 6, 6, 6, 6, 6, 6, 6, 6, 6, 6, 6, 6, 6, 6, 6, 6, 6, 6, 6, 6, 6, 7, 7, 7, 7, 7, 7, 7, 7, 7, 7, 7, 7, 7, 7, 7, 7, 7, 7, 7, 7, 7, 7, 7, 7, 7, 7, 7, 7, 7, 7, 7, 7, 7, 7, 7, 7, 7, 7, 7, 7, 7, 7, 7, 7, 7, 7, 7, 7, 7, 7, 7, 7, 7, 7, 7, 7, 7, 7, 7, 7, 7, 7, 7, 7, 8, 8, 8, 8, 8, 8, 8, 8, 8, 8, 8, 8, 8, 8, 8, 8, 8, 8, 8, 8, 8, 8, 8, 8, 8, 8, 8, 8, 8, 8, 8, 8, 8, 8, 8, 8, 8, 8, 8, 8, 8, 8, 8, 8, 8, 8, 8, 8, 8, 8, 8, 8, 8, 8, 8, 8, 8, 8, 8, 8, 8, 8, 8, 8, 8, 8, 8, 8, 8, 8, 8, 8, 8, 8, 8, 8, 8, 8, 8, 8, 8, 8, 8, 8, 8, 8, 8, 8, 8, 8, 8, 8, 8, 8, 8, 8, 8, 8, 8, 8, 8, 8, 8, 8, 8, 8, 8, 8, 8, 8, 8, 8, 8, 8, 8, 8, 8, 8, 8, 8, 8, 8, 8, 8, 8, 8, 8, 8])) u0), o 23 (.cvi .i64 u0), o 24 (.bin .add u4 u0)])
(.ret [.mv u0]))))))
theorem fg317 : FGood Tryz.prog T 317 (.code 1 c317) := ⟨Tryz.call317, Tryz.f317, c317, Tryz.func317, by kernel_rfl⟩
def c318 : BC := (.seq (.reg [o 4 (.mv (.k .pn)), o 5 (.mv kF)])
(.seq (.reg [o 14 (.call 176 [u2]), o 15 (.ext 0 u0), o 16 (.ext 1 u1), o 17 (.ext 2 u2)])
(.seq (.reg [o 20 (.call 176 [u7]), o 21 (.ext 0 u0), o 22 (.ext 1 u1), o 23 (.ext 2 u2)])
(.seq (.post (.reg [o 26 (.eq 0 true u6 u2), o 29 (.call 181 [u6, u1]), o 32 (.call 181 [u6, u3]), o 33 (.call 221 [u2, u1, u0]), o 34 (.ext 0 u0), o 35 (.ext 1 u1)]) [4, 5] [1, 0])
(.ret [.mv u0, .mv u1])))))
theorem fg318 : FGood Tryz.prog T 318 (.code 2 c318) := ⟨Tryz.call318, Tryz.f318, c318, Tryz.func318, by kernel_rfl⟩
def c319 : BC := (.seq (.reg [o 2 (.mv (.k (.s [])))])
(.seq (.seq (.reg [o 4 (.bin .lss u1 (kJ 10))])
(.cond u0
(.seq (.reg [o 7 (.bin .add u2 (kJ 1)), o 8 (.sls (.k (.s [48, 49, 50, 51, 52, 53, 54, 55, 56, 57, 97, 98, 99, 100, 101, 102, 103, 104, 105, 106, 107, 108, 109, 110, 111, 112, 113, 114, 115, 116, 117, 118, 119, 120, 121, 122])) (some u3) (some u0))])
(.ret [.mv u0]))
 .skip))
(.seq (.reg [o 10 (.bin .mul u2 (kJ 2)), o 12 (.bin .mul u3 (kJ 2)), o 13 (.bin .add u0 (kJ 2)), o 14 (.sls (.k (.s [48, 48, 48, 49, 48, 50, 48, 51, 48, 52, 48, 53, 48, 54, 48, 55, 48, 56, 48, 57, 49, 48, 49, 49, 49, 50, 49, 51, 49, 52, 49, 53, 49, 54, 49, 55, 49, 56, 49, 57, 50, 48, 50, 49, 50, 50, 50, 51, 50, 52, 50, 53, 50, 54, 50, 55, 50, 56, 50, 57, 51, 48, 51, 49, 51, 50, 51, 51, 51, 52, 51, 53, 51, 54, 51, 55, 51, 56, 51, 57, 52, 48, 52, 49, 52, 50, 52, 51, 52, 52, 52, 53, 52, 54, 52, 55, 52, 56, 52, 57, 53, 48, 53, 49, 53, 50, 53, 51, 53, 52, 53, 53, 53, 54, 53, 55, 53, 56, 53, 57, 54, 48, 54, 49, 54, 50, 54, 51, 54, 52, 54, 53, 54, 54, 54, 55, 54, 56, 54, 57, 55, 48, 55, 49, 55, 50, 55, 51, 55, 52, 55, 53, 55, 54, 55, 55, 55, 56, 55, 57, 56, 48, 56, 49, 56, 50, 56, 51, 56, 52, 56, 53, 56, 54, 56, 55, 56, 56, 56, 57, 57, 48, 57, 49, 57, 50, 57, 51, 57, 52, 57, 53, 57, 54, 57, 55, 57, 56, 57, 57])) (some u2) (some u0))])
(.ret [.mv u0]))))
theorem fg319 : FGood Tryz.prog T 319 (.code 1 c319) := ⟨Tryz.call319, Tryz.f319, c319, Tryz.func319, by kernel_rfl⟩
def c320 : BC := (.seq (.reg [o 2 (.mv (kJ 0))])
(.seq (.reg [o 5 (.call 317 [u1]), o 6 (.call 337 [u0])])
(.seq (.reg [o 10 (.iaa 20 1 (.k (.p 3 0)) u0), o 11 (.ld u0), o 12 (.bin .geq u5 u0), o 13 (.call 338 [u0]), o 14 (.bin .add u4 u0)])
(.ret [.mv u0]))))
theorem fg320 : FGood Tryz.prog T 320 (.code 1 c320) := ⟨Tryz.call320, Tryz.f320, c320, Tryz.func320, by kernel_rfl⟩
def h321 : BC := (.seq (.reg [o 18 (.len false u0)])
(.seq (.block 0 [0, 1, 4] (.pre [0, 1, 4] [1, 2, 0] (.loop (.seq (.seq (.reg [o 20 (.bin .geq u2 (kJ 8))])
(.cond u0
 .skip
(.pre [0, 1, 4] [1, 2, 3] (.exit 0))))
(.block 1 [0, 1, 4] (.post (.seq (.reg [o 22 (.bin .rem u2 (.k (.i .u64 100000000))), o 23 (.cvi .u32 u0)])
(.seq (.reg [o 25 (.bin .quo u4 (.k (.i .u64 100000000)))])
(.seq (.reg [o 27 (.bin .quo u1 (.k (.i .u32 10000))), o 29 (.bin .rem u2 (.k (.i .u32 10000)))])
(.seq (.reg [o 31 (.bin .quo u0 (.k (.i .u32 100))), o 32 (.bin .mul u0 (.k (.i .u32 2))), o 34 (.bin .rem u2 (.k (.i .u32 100))), o 35 (.bin .mul u0 (.k (.i .u32 2)))])
(.seq (.reg [o 37 (.bin .quo u5 (.k (.i .u32 100))), o 38 (.bin .mul u0 (.k (.i .u32 2))), o 40 (.bin .rem u7 (.k (.i .u32 100))), o 41 (.bin .mul u0 (.k (.i .u32 2)))])
(.seq (.post (.reg [o 44 (.bin .sub u16 (kJ 1)), o 47 (.bin .sub u17 (kJ 2)), o 49 (.bin .add u6 (.k (.i .u32 1))), o 50 (.ix (.k (.s [48, 48, 48, 49, 48, 50, 48, 51, 48, 52, 48, 53, 48, 54, 48, 55, 48, 56, 48, 57, 49, 48, 49, 49, 49, 50, 49, 51, 49, 52, 49, 53, 49, 54, 49, 55, 49, 56, 49, 57, 50, 48, 50, 49, 50, 50, 50, 51, 50, 52, 50, 53, 50, 54, 50, 55, 50, 56, 50, 57, 51, 48, 51, 49, 51, 50, 51, 51, 51, 52, 51, 53, 51, 54, 51, 55, 51, 56, 51, 57, 52, 48, 52, 49, 52, 50, 52, 51, 52, 52, 52, 53, 52, 54, 52, 55, 52, 56, 52, 57, 53, 48, 53, 49, 53, 50, 53, 51, 53, 52, 53, 53, 53, 54, 53, 55, 53, 56, 53, 57, 54, 48, 54, 49, 54, 50, 54, 51, 54, 52, 54, 53, 54, 54, 54, 55, 54, 56, 54, 57, 55, 48, 55, 49, 55, 50, 55, 51, 55, 52, 55, 53, 55, 54, 55, 55, 55, 56, 55, 57, 56, 48, 56, 49, 56, 50, 56, 51, 56, 52, 56, 53, 56, 54, 56, 55, 56, 56, 56, 57, 57, 48, 57, 49, 57, 50, 57, 51, 57, 52, 57, 53, 57, 54, 57, 55, 57, 56, 57, 57])) u0), o 52 (.ix (.k (.s [48, 48, 48, 49, 48, 50, 48, 51, 48, 52, 48, 53, 48, 54, 48, 55, 48, 56, 48, 57, 49, 48, 49, 49, 49, 50, 49, 51, 49, 52, 49, 53, 49, 54, 49, 55, 49, 56, 49, 57, 50, 48, 50, 49, 50, 50, 50, 51, 50, 52, 50, 53, 50, 54, 50, 55, 50, 56, 50, 57, 51, 48, 51, 49, 51, 50, 51, 51, 51, 52, 51, 53, 51, 54, 51, 55, 51, 56, 51, 57, 52, 48, 52, 49, 52, 50, 52, 51, 52, 52, 52, 53, 52, 54, 52, 55, 52, 56, 52, 57, 53, 48, 53, 49, 53, 50, 53, 51, 53, 52, 53, 53, 53, 54, 53, 55, 53, 56, 53, 57, 54, 48, 54, 49, 54, 50, 54, 51, 54, 52, 54, 53, 54, 54, 54, 55, 54, 56, 54, 57, 55, 48, 55, 49, 55, 50, 55, 51, 55, 52, 55, 53, 55, 54, 55, 55, 55, 56, 55, 57, 56, 48, 56, 49, 56, 50, 56, 51, 56, 52, 56, 53, 56, 54, 56, 55, 56, 56, 56, 57, 57, 48, 57, 49, 57, 50, 57, 51, 57, 52, 57, 53, 57, 54, 57, 55, 57, 56, 57, 57])) u8), o 53 (.ia 1 u19 u4), oC (.st u0 u2), o 54 (.ia 1 u20 u4), oC (.st u0 u2)]) [0, 1, 4, 8, 10, 11] [21, 17, 23, 13, 9, 7])
(.seq (.reg [o 57 (.bin .sub u2 (kJ 3)), o 60 (.bin .sub u3 (kJ 4)), o 62 (.bin .add u5 (.k (.i .u32 1))), o 63 (.ix (.k (.s [48, 48, 48, 49, 48, 50, 48, 51, 48, 52, 48, 53, 48, 54, 48, 55, 48, 56, 48, 57, 49, 48, 49, 49, 49, 50, 49, 51, 49, 52, 49, 53, 49, 54, 49, 55, 49, 56, 49, 57, 50, 48, 50, 49, 50, 50, 50, 51, 50, 52, 50, 53, 50, 54, 50, 55, 50, 56, 50, 57, 51, 48, 51, 49, 51, 50, 51, 51, 51, 52, 51, 53, 51, 54, 51, 55, 51, 56, 51, 57, 52, 48, 52, 49, 52, 50, 52, 51, 52, 52, 52, 53, 52, 54, 52, 55, 52, 56, 52, 57, 53, 48, 53, 49, 53, 50, 53, 51, 53, 52, 53, 53, 53, 54, 53, 55, 53, 56, 53, 57, 54, 48, 54, 49, 54, 50, 54, 51, 54, 52, 54, 53, 54, 54, 54, 55, 54, 56, 54, 57, 55, 48, 55, 49, 55, 50, 55, 51, 55, 52, 55, 53, 55, 54, 55, 55, 55, 56, 55, 57, 56, 48, 56, 49, 56, 50, 56, 51, 56, 52, 56, 53, 56, 54, 56, 55, 56, 56, 56, 57, 57, 48, 57, 49, 57, 50, 57, 51, 57, 52, 57, 53, 57, 54, 57, 55, 57, 56, 57, 57])) u0), o 65 (.ix (.k (.s [48, 48, 48, 49, 48, 50, 48, 51, 48, 52, 48, 53, 48, 54, 48, 55, 48, 56, 48, 57, 49, 48, 49, 49, 49, 50, 49, 51, 49, 52, 49, 53, 49, 54, 49, 55, 49, 56, 49, 57, 50, 48, 50, 49, 50, 50, 50, 51, 50, 52, 50, 53, 50, 54, 50, 55, 50, 56, 50, 57, 51, 48, 51, 49, 51, 50, 51, 51, 51, 52, 51, 53, 51, 54, 51, 55, 51, 56, 51, 57, 52, 48, 52, 49, 52, 50, 52, 51, 52, 52, 52, 53, 52, 54, 52, 55, 52, 56, 52, 57, 53, 48, 53, 49, 53, 50, 53, 51, 53, 52, 53, 53, 53, 54, 53, 55, 53, 56, 53, 57, 54, 48, 54, 49, 54, 50, 54, 51, 54, 52, 54, 53, 54, 54, 54, 55, 54, 56, 54, 57, 55, 48, 55, 49, 55, 50, 55, 51, 55, 52, 55, 53, 55, 54, 55, 55, 55, 56, 55, 57, 56, 48, 56, 49, 56, 50, 56, 51, 56, 52, 56, 53, 56, 54, 56, 55, 56, 56, 56, 57, 57, 48, 57, 49, 57, 50, 57, 51, 57, 52, 57, 53, 57, 54, 57, 55, 57, 56, 57, 57])) u7), o 66 (.ia 1 u5 u4), oC (.st u0 u2), o 67 (.ia 1 u6 u4), oC (.st u0 u2)])
(.seq (.post (.reg [o 70 (.bin .sub u9 (kJ 5)), o 73 (.bin .sub u10 (kJ 6)), o 75 (.bin .add u14 (.k (.i .u32 1))), o 76 (.ix (.k (.s [48, 48, 48, 49, 48, 50, 48, 51, 48, 52, 48, 53, 48, 54, 48, 55, 48, 56, 48, 57, 49, 48, 49, 49, 49, 50, 49, 51, 49, 52, 49, 53, 49, 54, 49, 55, 49, 56, 49, 57, 50, 48, 50, 49, 50, 50, 50, 51, 50, 52, 50, 53, 50, 54, 50, 55, 50, 56, 50, 57, 51, 48, 51, 49, 51, 50, 51, 51, 51, 52, 51, 53, 51, 54, 51, 55, 51, 56, 51, 57, 52, 48, 52, 49, 52, 50, 52, 51, 52, 52, 52, 53, 52, 54, 52, 55, 52, 56, 52, 57, 53, 48, 53, 49, 53, 50, 53, 51, 53, 52, 53, 53, 53, 54, 53, 55, 53, 56, 53, 57, 54, 48, 54, 49, 54, 50, 54, 51, 54, 52, 54, 53, 54, 54, 54, 55, 54, 56, 54, 57, 55, 48, 55, 49, 55, 50, 55, 51, 55, 52, 55, 53, 55, 54, 55, 55, 55, 56, 55, 57, 56, 48, 56, 49, 56, 50, 56, 51, 56, 52, 56, 53, 56, 54, 56, 55, 56, 56, 56, 57, 57, 48, 57, 49, 57, 50, 57, 51, 57, 52, 57, 53, 57, 54, 57, 55, 57, 56, 57, 57])) u0), o 78 (.ix (.k (.s [48, 48, 48, 49, 48, 50, 48, 51, 48, 52, 48, 53, 48, 54, 48, 55, 48, 56, 48, 57, 49, 48, 49, 49, 49, 50, 49, 51, 49, 52, 49, 53, 49, 54, 49, 55, 49, 56, 49, 57, 50, 48, 50, 49, 50, 50, 50, 51, 50, 52, 50, 53, 50, 54, 50, 55, 50, 56, 50, 57, 51, 48, 51, 49, 51, 50, 51, 51, 51, 52, 51, 53, 51, 54, 51, 55, 51, 56, 51, 57, 52, 48, 52, 49, 52, 50, 52, 51, 52, 52, 52, 53, 52, 54, 52, 55, 52, 56, 52, 57, 53, 48, 53, 49, 53, 50, 53, 51, 53, 52, 53, 53, 53, 54, 53, 55, 53, 56, 53, 57, 54, 48, 54, 49, 54, 50, 54, 51, 54, 52, 54, 53, 54, 54, 54, 55, 54, 56, 54, 57, 55, 48, 55, 49, 55, 50, 55, 51, 55, 52, 55, 53, 55, 54, 55, 55, 55, 56, 55, 57, 56, 48, 56, 49, 56, 50, 56, 51, 56, 52, 56, 53, 56, 54, 56, 55, 56, 56, 56, 57, 57, 48, 57, 49, 57, 50, 57, 51, 57, 52, 57, 53, 57, 54, 57, 55, 57, 56, 57, 57])) u16), o 79 (.ia 1 u12 u4), oC (.st u0 u2), o 80 (.ia 1 u13 u4), oC (.st u0 u2)]) [0, 1, 4, 10] [14, 15, 16, 18])
(.seq (.reg [o 83 (.bin .sub u2 (kJ 7)), o 86 (.bin .sub u3 (kJ 8)), o 88 (.bin .add u5 (.k (.i .u32 1))), o 89 (.ix (.k (.s [48, 48, 48, 49, 48, 50, 48, 51, 48, 52, 48, 53, 48, 54, 48, 55, 48, 56, 48, 57, 49, 48, 49, 49, 49, 50, 49, 51, 49, 52, 49, 53, 49, 54, 49, 55, 49, 56, 49, 57, 50, 48, 50, 49, 50, 50, 50, 51, 50, 52, 50, 53, 50, 54, 50, 55, 50, 56, 50, 57, 51, 48, 51, 49, 51, 50, 51, 51, 51, 52, 51, 53, 51, 54, 51, 55, 51, 56, 51, 57, 52, 48, 52, 49, 52, 50, 52, 51, 52, 52, 52, 53, 52, 54, 52, 55, 52, 56, 52, 57, 53, 48, 53, 49, 53, 50, 53, 51, 53, 52, 53, 53, 53, 54, 53, 55, 53, 56, 53, 57, 54, 48, 54, 49, 54, 50, 54, 51, 54, 52, 54, 53, 54, 54, 54, 55, 54, 56, 54, 57, 55, 48, 55, 49, 55, 50, 55, 51, 55, 52, 55, 53, 55, 54, 55, 55, 55, 56, 55, 57, 56, 48, 56, 49, 56, 50, 56, 51, 56, 52, 56, 53, 56, 54, 56, 55, 56, 56, 56, 57, 57, 48, 57, 49, 57, 50, 57, 51, 57, 52, 57, 53, 57, 54, 57, 55, 57, 56, 57, 57])) u0), o 91 (.ix (.k (.s [48, 48, 48, 49, 48, 50, 48, 51, 48, 52, 48, 53, 48, 54, 48, 55, 48, 56, 48, 57, 49, 48, 49, 49, 49, 50, 49, 51, 49, 52, 49, 53, 49, 54, 49, 55, 49, 56, 49, 57, 50, 48, 50, 49, 50, 50, 50, 51, 50, 52, 50, 53, 50, 54, 50, 55, 50, 56, 50, 57, 51, 48, 51, 49, 51, 50, 51, 51, 51, 52, 51, 53, 51, 54, 51, 55, 51, 56, 51, 57, 52, 48, 52, 49, 52, 50, 52, 51, 52, 52, 52, 53, 52, 54, 52, 55, 52, 56, 52, 57, 53, 48, 53, 49, 53, 50, 53, 51, 53, 52, 53, 53, 53, 54, 53, 55, 53, 56, 53, 57, 54, 48, 54, 49, 54, 50, 54, 51, 54, 52, 54, 53, 54, 54, 54, 55, 54, 56, 54, 57, 55, 48, 55, 49, 55, 50, 55, 51, 55, 52, 55, 53, 55, 54, 55, 55, 55, 56, 55, 57, 56, 48, 56, 49, 56, 50, 56, 51, 56, 52, 56, 53, 56, 54, 56, 55, 56, 56, 56, 57, 57, 48, 57, 49, 57, 50, 57, 51, 57, 52, 57, 53, 57, 54, 57, 55, 57, 56, 57, 57])) u7), o 92 (.ia 1 u5 u4), oC (.st u0 u2), o 93 (.ia 1 u6 u4), oC (.st u0 u2)])
(.reg [o 95 (.bin .sub u9 (kJ 8))])))))))))) [0, 1, 4] [8, 9, 0]))))))
(.seq (.reg [o 97 (.cvi .u32 u1)])
(.seq (.seq (.reg [o 99 (.bin .geq u3 (kJ 4))])
(.cond u0
(.post (.seq (.reg [o 101 (.bin .rem u1 (.k (.i .u32 10000)))])
(.seq (.reg [o 103 (.bin .quo u2 (.k (.i .u32 10000)))])
(.seq (.reg [o 105 (.bin .quo u1 (.k (.i .u32 100))), o 106 (.bin .mul u0 (.k (.i .u32 2))), o 108 (.bin .rem u3 (.k (.i .u32 100))), o 109 (.bin .mul u0 (.k (.i .u32 2)))])
(.seq (.post (.reg [o 112 (.bin .sub u10 (kJ 1)), o 115 (.bin .sub u11 (kJ 2)), o 117 (.bin .add u2 (.k (.i .u32 1))), o 118 (.ix (.k (.s [48, 48, 48, 49, 48, 50, 48, 51, 48, 52, 48, 53, 48, 54, 48, 55, 48, 56, 48, 57, 49, 48, 49, 49, 49, 50, 49, 51, 49, 52, 49, 53, 49, 54, 49, 55, 49, 56, 49, 57, 50, 48, 50, 49, 50, 50, 50, 51, 50, 52, 50, 53, 50, 54, 50, 55, 50, 56, 50, 57, 51, 48, 51, 49, 51, 50, 51, 51, 51, 52, 51, 53, 51, 54, 51, 55, 51, 56, 51, 57, 52, 48, 52, 49, 52, 50, 52, 51, 52, 52, 52, 53, 52, 54, 52, 55, 52, 56, 52, 57, 53, 48, 53, 49, 53, 50, 53, 51, 53, 52, 53, 53, 53, 54, 53, 55, 53, 56, 53, 57, 54, 48, 54, 49, 54, 50, 54, 51, 54, 52, 54, 53, 54, 54, 54, 55, 54, 56, 54, 57, 55, 48, 55, 49, 55, 50, 55, 51, 55, 52, 55, 53, 55, 54, 55, 55, 55, 56, 55, 57, 56, 48, 56, 49, 56, 50, 56, 51, 56, 52, 56, 53, 56, 54, 56, 55, 56, 56, 56, 57, 57, 48, 57, 49, 57, 50, 57, 51, 57, 52, 57, 53, 57, 54, 57, 55, 57, 56, 57, 57])) u0), o 120 (.ix (.k (.s [48, 48, 48, 49, 48, 50, 48, 51, 48, 52, 48, 53, 48, 54, 48, 55, 48, 56, 48, 57, 49, 48, 49, 49, 49, 50, 49, 51, 49, 52, 49, 53, 49, 54, 49, 55, 49, 56, 49, 57, 50, 48, 50, 49, 50, 50, 50, 51, 50, 52, 50, 53, 50, 54, 50, 55, 50, 56, 50, 57, 51, 48, 51, 49, 51, 50, 51, 51, 51, 52, 51, 53, 51, 54, 51, 55, 51, 56, 51, 57, 52, 48, 52, 49, 52, 50, 52, 51, 52, 52, 52, 53, 52, 54, 52, 55, 52, 56, 52, 57, 53, 48, 53, 49, 53, 50, 53, 51, 53, 52, 53, 53, 53, 54, 53, 55, 53, 56, 53, 57, 54, 48, 54, 49, 54, 50, 54, 51, 54, 52, 54, 53, 54, 54, 54, 55, 54, 56, 54, 57, 55, 48, 55, 49, 55, 50, 55, 51, 55, 52, 55, 53, 55, 54, 55, 55, 55, 56, 55, 57, 56, 48, 56, 49, 56, 50, 56, 51, 56, 52, 56, 53, 56, 54, 56, 55, 56, 56, 56, 57, 57, 48, 57, 49, 57, 50, 57, 51, 57, 52, 57, 53, 57, 54, 57, 55, 57, 56, 57, 57])) u4), o 121 (.ia 1 u13 u4), oC (.st u0 u2), o 122 (.ia 1 u14 u4), oC (.st u0 u2)]) [0, 4, 12, 14] [15, 17, 11, 9])
(.seq (.reg [o 125 (.bin .sub u1 (kJ 3)), o 128 (.bin .sub u2 (kJ 4)), o 130 (.bin .add u5 (.k (.i .u32 1))), o 131 (.ix (.k (.s [48, 48, 48, 49, 48, 50, 48, 51, 48, 52, 48, 53, 48, 54, 48, 55, 48, 56, 48, 57, 49, 48, 49, 49, 49, 50, 49, 51, 49, 52, 49, 53, 49, 54, 49, 55, 49, 56, 49, 57, 50, 48, 50, 49, 50, 50, 50, 51, 50, 52, 50, 53, 50, 54, 50, 55, 50, 56, 50, 57, 51, 48, 51, 49, 51, 50, 51, 51, 51, 52, 51, 53, 51, 54, 51, 55, 51, 56, 51, 57, 52, 48, 52, 49, 52, 50, 52, 51, 52, 52, 52, 53, 52, 54, 52, 55, 52, 56, 52, 57, 53, 48, 53, 49, 53, 50, 53, 51, 53, 52, 53, 53, 53, 54, 53, 55, 53, 56, 53, 57, 54, 48, 54, 49, 54, 50, 54, 51, 54, 52, 54, 53, 54, 54, 54, 55, 54, 56, 54, 57, 55, 48, 55, 49, 55, 50, 55, 51, 55, 52, 55, 53, 55, 54, 55, 55, 55, 56, 55, 57, 56, 48, 56, 49, 56, 50, 56, 51, 56, 52, 56, 53, 56, 54, 56, 55, 56, 56, 56, 57, 57, 48, 57, 49, 57, 50, 57, 51, 57, 52, 57, 53, 57, 54, 57, 55, 57, 56, 57, 57])) u0), o 133 (.ix (.k (.s [48, 48, 48, 49, 48, 50, 48, 51, 48, 52, 48, 53, 48, 54, 48, 55, 48, 56, 48, 57, 49, 48, 49, 49, 49, 50, 49, 51, 49, 52, 49, 53, 49, 54, 49, 55, 49, 56, 49, 57, 50, 48, 50, 49, 50, 50, 50, 51, 50, 52, 50, 53, 50, 54, 50, 55, 50, 56, 50, 57, 51, 48, 51, 49, 51, 50, 51, 51, 51, 52, 51, 53, 51, 54, 51, 55, 51, 56, 51, 57, 52, 48, 52, 49, 52, 50, 52, 51, 52, 52, 52, 53, 52, 54, 52, 55, 52, 56, 52, 57, 53, 48, 53, 49, 53, 50, 53, 51, 53, 52, 53, 53, 53, 54, 53, 55, 53, 56, 53, 57, 54, 48, 54, 49, 54, 50, 54, 51, 54, 52, 54, 53, 54, 54, 54, 55, 54, 56, 54, 57, 55, 48, 55, 49, 55, 50, 55, 51, 55, 52, 55, 53, 55, 54, 55, 55, 55, 56, 55, 57, 56, 48, 56, 49, 56, 50, 56, 51, 56, 52, 56, 53, 56, 54, 56, 55, 56, 56, 56, 57, 57, 48, 57, 49, 57, 50, 57, 51, 57, 52, 57, 53, 57, 54, 57, 55, 57, 56, 57, 57])) u7), o 134 (.ia 1 u5 u4), oC (.st u0 u2), o 135 (.ia 1 u6 u4), oC (.st u0 u2)])
(.reg [o 137 (.bin .sub u8 (kJ 4))])))))) [0, 4, 12] [8, 0, 10])
(.post .skip [0, 4, 12] [2, 4, 1])))
(.seq (.seq (.reg [o 139 (.bin .geq u1 (kJ 2))])
(.cond u0
(.seq (.reg [o 141 (.bin .rem u3 (.k (.i .u32 100))), o 142 (.bin .mul u0 (.k (.i .u32 2)))])
(.seq (.reg [o 144 (.bin .quo u5 (.k (.i .u32 100)))])
(.seq (.reg [o 147 (.bin .sub u5 (kJ 1)), o 150 (.bin .sub u6 (kJ 2)), o 152 (.bin .add u3 (.k (.i .u32 1))), o 153 (.ix (.k (.s [48, 48, 48, 49, 48, 50, 48, 51, 48, 52, 48, 53, 48, 54, 48, 55, 48, 56, 48, 57, 49, 48, 49, 49, 49, 50, 49, 51, 49, 52, 49, 53, 49, 54, 49, 55, 49, 56, 49, 57, 50, 48, 50, 49, 50, 50, 50, 51, 50, 52, 50, 53, 50, 54, 50, 55, 50, 56, 50, 57, 51, 48, 51, 49, 51, 50, 51, 51, 51, 52, 51, 53, 51, 54, 51, 55, 51, 56, 51, 57, 52, 48, 52, 49, 52, 50, 52, 51, 52, 52, 52, 53, 52, 54, 52, 55, 52, 56, 52, 57, 53, 48, 53, 49, 53, 50, 53, 51, 53, 52, 53, 53, 53, 54, 53, 55, 53, 56, 53, 57, 54, 48, 54, 49, 54, 50, 54, 51, 54, 52, 54, 53, 54, 54, 54, 55, 54, 56, 54, 57, 55, 48, 55, 49, 55, 50, 55, 51, 55, 52, 55, 53, 55, 54, 55, 55, 55, 56, 55, 57, 56, 48, 56, 49, 56, 50, 56, 51, 56, 52, 56, 53, 56, 54, 56, 55, 56, 56, 56, 57, 57, 48, 57, 49, 57, 50, 57, 51, 57, 52, 57, 53, 57, 54, 57, 55, 57, 56, 57, 57])) u0), o 155 (.ix (.k (.s [48, 48, 48, 49, 48, 50, 48, 51, 48, 52, 48, 53, 48, 54, 48, 55, 48, 56, 48, 57, 49, 48, 49, 49, 49, 50, 49, 51, 49, 52, 49, 53, 49, 54, 49, 55, 49, 56, 49, 57, 50, 48, 50, 49, 50, 50, 50, 51, 50, 52, 50, 53, 50, 54, 50, 55, 50, 56, 50, 57, 51, 48, 51, 49, 51, 50, 51, 51, 51, 52, 51, 53, 51, 54, 51, 55, 51, 56, 51, 57, 52, 48, 52, 49, 52, 50, 52, 51, 52, 52, 52, 53, 52, 54, 52, 55, 52, 56, 52, 57, 53, 48, 53, 49, 53, 50, 53, 51, 53, 52, 53, 53, 53, 54, 53, 55, 53, 56, 53, 57, 54, 48, 54, 49, 54, 50, 54, 51, 54, 52, 54, 53, 54, 54, 54, 55, 54, 56, 54, 57, 55, 48, 55, 49, 55, 50, 55, 51, 55, 52, 55, 53, 55, 54, 55, 55, 55, 56, 55, 57, 56, 48, 56, 49, 56, 50, 56, 51, 56, 52, 56, 53, 56, 54, 56, 55, 56, 56, 56, 57, 57, 48, 57, 49, 57, 50, 57, 51, 57, 52, 57, 53, 57, 54, 57, 55, 57, 56, 57, 57])) u5), o 156 (.ia 1 u9 u4), oC (.st u0 u2), o 157 (.ia 1 u10 u4), oC (.st u0 u2)])
(.post (.reg [o 159 (.bin .sub u12 (kJ 2))]) [0, 4, 12] [12, 0, 8]))))
(.post .skip [0, 4, 12] [1, 2, 3])))
(.seq (.reg [o 161 (.bin .gtr u1 (kJ 0))])
(.cond u0
(.post (.reg [o 164 (.bin .add (.k (.i .u32 48)) u3), o 165 (.cvi .u8 u0), o 166 (.ia 1 u3 (kJ 0)), oC (.st u0 u1)]) [] [])
(.post .skip [] []))))))))
def c321 : BC := .seq h321 (.ret [])
theorem fg321 : FGood Tryz.prog T 321 (.code 2 c321) := ⟨Tryz.call321, Tryz.f321, h321, Tryz.func321, by kernel_rfl⟩
def c322 : BC := (.seq (.reg [o 10 (.mv (.k .sn)), o 11 (.mv (.k (.s [])))])
(.seq (.seq (.reg [o 20 (.bin .lss u4 (kJ 2)), oB 22 0 (.mv u5), oB 23 1 (.bin .eql u0 (kJ 10)), o 24 (.pick u2 kU u0), oB 26 0 (.mv u8), oB 27 1 (.bin .gtr u0 (kJ 36)), o 28 (.pick u2 kU u0)])
(.cond u0
 .bad
 .skip))
(.seq (.reg [o 12 (.alloc 1536 [(.i .u8 0), (.i .u8 0), (.i .u8 0), (.i .u8 0), (.i .u8 0), (.i .u8 0), (.i .u8 0), (.i .u8 0), (.i .u8 0), (.i .u8 0), (.i .u8 0), (.i .u8 0), (.i .u8 0), (.i .u8 0), (.i .u8 0), (.i .u8 0), (.i .u8 0), (.i .u8 0), (.i .u8 0), (.i .u8 0), (.i .u8 0), (.i .u8 0), (.i .u8 0), (.i .u8 0), (.i .u8 0), (.i .u8 0), (.i .u8 0), (.i .u8 0), (.i .u8 0), (.i .u8 0), (.i .u8 0), (.i .u8 0), (.i .u8 0), (.i .u8 0), (.i .u8 0), (.i .u8 0), (.i .u8 0), (.i .u8 0), (.i .u8 0), (.i .u8 0), (.i .u8 0), (.i .u8 0), (.i .u8 0), (.i .u8 0), (.i .u8 0), (.i .u8 0), (.i .u8 0), (.i .u8 0), (.i .u8 0), (.i .u8 0), (.i .u8 0), (.i .u8 0), (.i .u8 0), (.i .u8 0), (.i .u8 0), (.i .u8 0), (.i .u8 0), (.i .u8 0), (.i .u8 0), (.i .u8 0), (.i .u8 0), (.i .u8 0), (.i .u8 0), (.i .u8 0), (.i .u8 0)])])
(.seq (.reg [o 13 (.mv (kJ 65))])
(.seq (.seq (.reg [])
(.cond u14
(.post (.reg [o 32 (.un .neg u12)]) [0, 1, 2, 3, 4, 10, 11, 12, 13] [12, 0, 14, 15, 16, 11, 10, 2, 1])
(.post .skip [0, 1, 2, 3, 4, 10, 11, 12, 13] [11, 12, 13, 14, 15, 10, 9, 1, 0])))
(.seq (.seq (.reg [o 34 (.call 339 [u2])])
(.cond u0
(.post (.seq (.reg [o 36 (.cvi .u64 u3), o 37 (.call 340 [u0]), o 38 (.cvi .u64 u0)])
(.seq (.reg [o 40 (.cvi .u64 u6)])
(.seq (.reg [o 42 (.cvi .u64 u7), o 43 (.bin .sub u0 (.k (.i .u64 1)))])
(.seq (.block 0 [0, 1, 3, 4, 10, 11, 12, 13] (.pre [0, 1, 3, 4, 10, 11, 12, 13, 14, 15, 16] [7, 8, 10, 11, 12, 13, 14, 15, 3, 2, 0] (.loop (.seq (.seq (.reg [o 46 (.bin .geq u1 u9)])
(.cond u0
 .skip
(.pre [0, 1, 3, 4, 10, 11, 12, 13] [1, 2, 3, 4, 5, 6, 7, 8] (.exit 0))))
(.block 1 [0, 1, 3, 4, 10, 11, 12, 13, 14, 15, 16] (.post (.seq (.reg [o 48 (.bin .sub u8 (kJ 1))])
(.seq (.reg [o 52 (.bin .and u3 u12), o 53 (.ix (.k (.s [48, 49, 50, 51, 52, 53, 54, 55, 56, 57, 97, 98, 99, 100, 101, 102, 103, 104, 105, 106, 107, 108, 109, 110, 111, 112, 113, 114, 115, 116, 117, 118, 119, 120, 121, 122])) u0), o 54 (.iaa 65 1 u10 u2), oC (.st u0 u1)])
(.reg [o 57 (.bin .shr u6 u13)]))) [0, 1, 3, 4, 10, 11, 12, 13, 14, 15, 16] [6, 0, 8, 9, 10, 11, 12, 4, 14, 15, 16]))))))
(.seq (.reg [o 59 (.bin .sub u7 (kJ 1))])
(.reg [o 62 (.ix (.k (.s [48, 49, 50, 51, 52, 53, 54, 55, 56, 57, 97, 98, 99, 100, 101, 102, 103, 104, 105, 106, 107, 108, 109, 110, 111, 112, 113, 114, 115, 116, 117, 118, 119, 120, 121, 122])) u2), o 63 (.iaa 65 1 u8 u1), oC (.st u0 u1)])))))) [0, 3, 4, 10, 11, 12, 13] [3, 5, 6, 7, 8, 9, 2])
(.post (.seq (.reg [o 65 (.cvi .u64 u3)])
(.seq (.block 2 [0, 1, 3, 4, 10, 11, 12, 13] (.pre [0, 1, 3, 4, 10, 11, 12, 13, 17] [2, 3, 5, 6, 7, 8, 9, 10, 0] (.loop (.seq (.seq (.reg [o 68 (.bin .geq u1 u8)])
(.cond u0
 .skip
(.pre [0, 1, 3, 4, 10, 11, 12, 13] [1, 2, 3, 4, 5, 6, 7, 8] (.exit 2))))
(.block 3 [0, 1, 3, 4, 10, 11, 12, 13, 17] (.post (.seq (.reg [o 70 (.bin .sub u8 (kJ 1))])
(.seq (.reg [o 73 (.bin .quo u3 u10)])
(.seq (.reg [o 78 (.bin .mul u0 u11), o 79 (.bin .sub u5 u0), o 80 (.ix (.k (.s [48, 49, 50, 51, 52, 53, 54, 55, 56, 57, 97, 98, 99, 100, 101, 102, 103, 104, 105, 106, 107, 108, 109, 110, 111, 112, 113, 114, 115, 116, 117, 118, 119, 120, 121, 122])) u0), o 81 (.iaa 65 1 u12 u4), oC (.st u0 u1)])
(.reg [])))) [0, 1, 3, 4, 10, 11, 12, 13, 17] [7, 4, 9, 10, 11, 12, 13, 5, 15]))))))
(.seq (.reg [o 84 (.bin .sub u7 (kJ 1))])
(.reg [o 87 (.ix (.k (.s [48, 49, 50, 51, 52, 53, 54, 55, 56, 57, 97, 98, 99, 100, 101, 102, 103, 104, 105, 106, 107, 108, 109, 110, 111, 112, 113, 114, 115, 116, 117, 118, 119, 120, 121, 122])) u2), o 88 (.iaa 65 1 u8 u1), oC (.st u0 u1)])))) [0, 3, 4, 10, 11, 12, 13] [3, 5, 6, 7, 8, 9, 2])))
(.seq (.seq (.reg [])
(.cond u1
(.post (.seq (.reg [o 91 (.bin .sub u6 (kJ 1))])
(.reg [o 93 (.iaa 65 1 u6 u0), oC (.st u0 (.k (.i .u8 45)))])) [0, 4, 10, 11, 12, 13] [2, 4, 5, 6, 7, 1])
(.post .skip [0, 4, 10, 11, 12, 13] [0, 2, 3, 4, 5, 6])))
(.seq (.seq (.reg [])
(.cond u1
(.seq (.reg [o 97 (.sla 65 1 u4 (some u5) none), o 98 (.app 24 1 1 u1 u0)])
(.ret [.mv u0, .mv u5]))
 .skip))
(.seq (.reg [o 100 (.sla 65 1 u4 (some u5) none), o 101 (.b2s u0)])
(.ret [.mv u4, .mv u0]))))))))))
theorem fg322 : FGood Tryz.prog T 322 (.code 5 c322) := ⟨Tryz.call322, Tryz.f322, c322, Tryz.func322, by kernel_rfl⟩
def c323 : BC := (.seq (.reg [o 4 (.mv (.k (.i .u32 0))), o 5 (.mv (.k (.i .u32 0)))])
(.seq (.reg [o 8 (.cvi .u64 u2), o 10 (.cvi .u64 u4), o 11 (.bin .mul u1 u0)])
(.seq (.reg [o 13 (.bin .shr u0 (.k (.i .u64 32))), o 14 (.cvi .u32 u0), o 16 (.cvi .u32 u2)])
(.ret [.mv u1, .mv u0]))))
theorem fg323 : FGood Tryz.prog T 323 (.code 2 c323) := ⟨Tryz.call323, Tryz.f323, c323, Tryz.func323, by kernel_rfl⟩
def c324 : BC := (.seq (.reg [o 4 (.mv (.k (.i .u64 0))), o 5 (.mv (.k (.i .u64 0)))])
(.seq (.reg [o 15 (.bin .and u2 (.k (.i .u64 4294967295)))])
(.seq (.reg [o 17 (.bin .shr u3 (.k (.i .u64 32)))])
(.seq (.reg [o 19 (.bin .and u5 (.k (.i .u64 4294967295)))])
(.seq (.reg [o 21 (.bin .shr u6 (.k (.i .u64 32)))])
(.seq (.reg [o 24 (.bin .mul u3 u1)])
(.seq (.reg [o 27 (.bin .mul u3 u2), o 29 (.bin .shr u1 (.k (.i .u64 32))), o 30 (.bin .add u1 u0)])
(.seq (.reg [o 32 (.bin .and u0 (.k (.i .u64 4294967295)))])
(.seq (.reg [o 34 (.bin .shr u1 (.k (.i .u64 32)))])
(.seq (.reg [o 38 (.bin .mul u9 u6), o 39 (.bin .add u2 u0)])
(.seq (.post (.reg [o 42 (.bin .mul u10 u8), o 44 (.bin .add u0 u3), o 46 (.bin .shr u2 (.k (.i .u64 32))), o 47 (.bin .add u1 u0)]) [0, 1, 4] [18, 19, 0])
(.seq (.reg [o 50 (.bin .mul u0 u1)])
(.ret [.mv u3, .mv u0])))))))))))))
theorem fg324 : FGood Tryz.prog T 324 (.code 2 c324) := ⟨Tryz.call324, Tryz.f324, c324, Tryz.func324, by kernel_rfl⟩
def h325 : BC := (.seq (.reg [o 5 (.len false u0), o 6 (.bin .sub u0 (kJ 1)), o 2 (.mv (kJ 0))])
(.block 0 [] (.pre [0, 2, 3] [3, 0, 1] (.loop (.post (.seq (.seq (.reg [o 9 (.bin .lss u1 u2)])
(.cond u0
 .skip
(.pre [] [] (.exit 0))))
(.seq (.block 1 [0, 2, 3] (.post (.reg [o 20 (.ia 2 u1 u3), o 21 (.ldn 2 u0), o 24 (.ia 2 u3 u4), o 25 (.ldn 2 u0), o 26 (.ia 2 u5 u6), oC (.stn 2 u0 u3), o 27 (.ia 2 u6 u8), oC (.stn 2 u0 u2)]) [0, 2, 3] [7, 8, 9]))
(.reg [o 11 (.bin .add u1 (kJ 1)), o 13 (.bin .sub u3 (kJ 1))]))) [0, 2, 3] [2, 1, 0])))))
def c325 : BC := .seq h325 (.ret [])
theorem fg325 : FGood Tryz.prog T 325 (.code 1 c325) := ⟨Tryz.call325, Tryz.f325, h325, Tryz.func325, by kernel_rfl⟩
def c326 : BC := (.seq (.reg [o 2 (.mv (.k (.i .i32 0))), o 3 (.mv (kJ 0))])
(.seq (.reg [o 14 (.len true u2)])
(.seq (.seq (.reg [o 16 (.bin .lss u0 (kJ 1))])
(.cond u0
(.seq (.reg [o 2 (.mv (.k (.i .i32 65533))), o 3 (.mv (kJ 0))])
(.ret [.mv u1, .mv u0]))
 .skip))
(.seq (.reg [o 18 (.ix u4 (kJ 0))])
(.seq (.reg [o 20 (.iaa 256 1 (.k (.p 4 0)) u0), o 21 (.ld u0)])
(.seq (.seq (.reg [o 23 (.bin .geq u0 (.k (.i .u8 240)))])
(.cond u0
(.seq (.reg [o 25 (.cvi .i32 u1), o 26 (.bin .shl u0 (.k (.i .u64 31))), o 27 (.bin .shr u0 (.k (.i .u64 31)))])
(.seq (.post (.reg [o 29 (.ix u11 (kJ 0)), o 30 (.cvi .i32 u0), o 32 (.bin .andNot u0 u2), o 34 (.bin .and (.k (.i .i32 65533)) u3), o 35 (.bin .or u1 u0), o 3 (.mv (kJ 1))]) [2, 3] [1, 0])
(.ret [.mv u0, .mv u1])))
 .skip))
(.seq (.reg [o 37 (.bin .and u1 (.k (.i .u8 7))), o 38 (.cvi .i64 u0)])
(.seq (.reg [o 40 (.bin .shr u3 (.k (.i .u64 4))), o 41 (.iaa 16 2 (.k (.p 5 0)) u0), o 42 (.ldn 2 u0), o 9 (.alloc 1548 [(.i .u8 0), (.i .u8 0)]), oC (.stn 2 u0 u1)])
(.seq (.seq (.reg [o 45 (.bin .lss u11 u4)])
(.cond u0
(.seq (.post (.reg [o 2 (.mv (.k (.i .i32 65533))), o 3 (.mv (kJ 1))]) [2, 3] [1, 0])
(.ret [.mv u0, .mv u1]))
 .skip))
(.seq (.reg [o 47 (.ix u15 (kJ 1))])
(.seq (.seq (.post (.reg [o 49 (.fa 0 u2), o 50 (.ld u0), o 51 (.bin .lss u2 u0), oB 53 0 (.fa 1 u5), oB 54 1 (.ld u0), oB 55 2 (.mv u5), oB 56 3 (.bin .lss u1 u0), o 57 (.pick u4 kU u0)]) [0, 5, 8, 10, 57] [24, 19, 14, 8, 0])
(.cond u4
(.seq (.reg [o 2 (.mv (.k (.i .i32 65533))), o 3 (.mv (kJ 1))])
(.ret [.mv u1, .mv u0]))
 .skip))
(.seq (.seq (.reg [o 59 (.bin .leq u2 (kJ 2))])
(.cond u0
(.seq (.post (.reg [o 61 (.bin .and u2 (.k (.i .u8 31))), o 62 (.cvi .i32 u0), o 63 (.bin .shl u0 (.k (.i .u64 6))), o 65 (.bin .and u7 (.k (.i .u8 63))), o 66 (.cvi .i32 u0), o 67 (.bin .or u2 u0), o 3 (.mv (kJ 2))]) [2, 3] [1, 0])
(.ret [.mv u0, .mv u1]))
 .skip))
(.seq (.reg [o 69 (.ix u1 (kJ 2))])
(.seq (.seq (.reg [o 71 (.bin .lss u0 (.k (.i .u8 128))), oB 73 0 (.mv u1), oB 74 1 (.bin .lss (.k (.i .u8 191)) u0), o 75 (.pick u2 kU u0)])
(.cond u0
(.seq (.post (.reg [o 2 (.mv (.k (.i .i32 65533))), o 3 (.mv (kJ 1))]) [2, 3] [1, 0])
(.ret [.mv u0, .mv u1]))
 .skip))
(.seq (.seq (.reg [o 77 (.bin .leq u8 (kJ 3))])
(.cond u0
(.seq (.post (.reg [o 79 (.bin .and u8 (.k (.i .u8 15))), o 80 (.cvi .i32 u0), o 81 (.bin .shl u0 (.k (.i .u64 12))), o 83 (.bin .and u13 (.k (.i .u8 63))), o 84 (.cvi .i32 u0), o 85 (.bin .shl u0 (.k (.i .u64 6))), o 86 (.bin .or u3 u0), o 88 (.bin .and u12 (.k (.i .u8 63))), o 89 (.cvi .i32 u0), o 90 (.bin .or u2 u0), o 3 (.mv (kJ 3))]) [2, 3] [1, 0])
(.ret [.mv u0, .mv u1]))
 .skip))
(.seq (.reg [o 92 (.ix u7 (kJ 3))])
(.seq (.seq (.reg [o 94 (.bin .lss u0 (.k (.i .u8 128))), oB 96 0 (.mv u1), oB 97 1 (.bin .lss (.k (.i .u8 191)) u0), o 98 (.pick u2 kU u0)])
(.cond u0
(.seq (.post (.reg [o 2 (.mv (.k (.i .i32 65533))), o 3 (.mv (kJ 1))]) [2, 3] [1, 0])
(.ret [.mv u0, .mv u1]))
 .skip))
(.seq (.post (.reg [o 100 (.bin .and u13 (.k (.i .u8 7))), o 101 (.cvi .i32 u0), o 102 (.bin .shl u0 (.k (.i .u64 18))), o 104 (.bin .and u18 (.k (.i .u8 63))), o 105 (.cvi .i32 u0), o 106 (.bin .shl u0 (.k (.i .u64 12))), o 107 (.bin .or u3 u0), o 109 (.bin .and u17 (.k (.i .u8 63))), o 110 (.cvi .i32 u0), o 111 (.bin .shl u0 (.k (.i .u64 6))), o 112 (.bin .or u3 u0), o 114 (.bin .and u15 (.k (.i .u8 63))), o 115 (.cvi .i32 u0), o 116 (.bin .or u2 u0), o 3 (.mv (kJ 4))]) [2, 3] [1, 0])
(.ret [.mv u0, .mv u1])))))))))))))))))))
theorem fg326 : FGood Tryz.prog T 326 (.code 1 c326) := ⟨Tryz.call326, Tryz.f326, c326, Tryz.func326, by kernel_rfl⟩
def c327 : BC := (.seq (.reg [o 2 (.mv kF)])
(.seq (.reg [o 4 (.bin .and u1 (.k (.i .u8 192))), o 5 (.bin .neq u0 (.k (.i .u8 128)))])
(.ret [.mv u0])))
theorem fg327 : FGood Tryz.prog T 327 (.code 1 c327) := ⟨Tryz.call327, Tryz.f327, c327, Tryz.func327, by kernel_rfl⟩
def c328 : BC := (.seq (.reg [o 2 (.mv (.k (.s [])))])
(.seq (.seq (.reg [o 5 (.len true u1), o 6 (.bin .eql u0 (kJ 0))])
(.cond u0
(.seq (.reg [o 2 (.mv (.k (.s [])))])
(.ret [.mv u0]))
 .skip))
(.seq (.reg [o 8 (.len true u3), o 9 (.mks 1 1 [(.i .u8 0)] u0 u0)])
(.seq (.reg [o 12 (.cpy 1 u0 u5)])
(.seq (.reg [o 14 (.ia 1 u1 (kJ 0)), o 16 (.len false u2), o 17 (.ustr 24 u1 u0)])
(.ret [.mv u0]))))))
theorem fg328 : FGood Tryz.prog T 328 (.code 1 c328) := ⟨Tryz.call328, Tryz.f328, c328, Tryz.func328, by kernel_rfl⟩
def c329 : BC := (.seq (.reg [o 2 (.mv (.k .inn))])
(.seq (.reg [o 4 (.build [(.s [])] [(0, 1, u1)]), o 5 (.box 1564 u0), o 6 (.mki 388 u0)])
(.ret [.mv u0])))
theorem fg329 : FGood Tryz.prog T 329 (.code 1 c329) := ⟨Tryz.call329, Tryz.f329, c329, Tryz.func329, by kernel_rfl⟩
def c330 : BC := (.seq (.reg [o 2 (.mv (.k (.s [])))])
(.seq (.reg [o 4 (.call 341 [u1])])
(.ret [.mv u0])))
theorem fg330 : FGood Tryz.prog T 330 (.code 1 c330) := ⟨Tryz.call330, Tryz.f330, c330, Tryz.func330, by kernel_rfl⟩
def c331 : BC := (.seq (.reg [o 6 (.mv (kJ 0)), o 7 (.mv (.k .inn))])
(.seq (.seq (.reg [o 13 (.bin .eql u2 (.k (.s [])))])
(.cond u0
(.seq (.reg [o 14 (.mki 346 (kJ 2)), o 6 (.mv (kJ 0))])
(.ret [.mv u0, .mv u1]))
 .skip))
(.seq (.reg [o 8 (.mv kF)])
(.seq (.seq (.reg [o 16 (.ix u4 (kJ 0))])
(.block 0 [0, 1, 2, 8] (.seq (.reg [o 18 (.bin .eql u0 (.k (.i .u8 43)))])
(.cond u0
(.post (.reg [o 20 (.sls u6 (some (kJ 1)) none)]) [0, 1, 2, 8] [0, 8, 9, 3])
(.seq (.reg [o 22 (.bin .eql u1 (.k (.i .u8 45)))])
(.cond u0
(.post (.seq (.reg [o 24 (.sls u7 (some (kJ 1)) none)])
(.reg [o 8 (.mv kU)])) [0, 1, 2, 8] [1, 10, 11, 0])
(.post .skip [0, 1, 2, 8] [7, 8, 9, 3])))))))
(.seq (.reg [o 9 (.mv (.k (.i .u64 0)))])
(.seq (.reg [o 29 (.call 265 [u1, u2, u3]), o 30 (.ext 0 u0), o 31 (.ext 1 u1)])
(.seq (.seq (.reg [o 33 (.eq 5 true u0 (.k .inn)), oA 35 0 (.mv u1), oA 36 1 (.mki 346 (kJ 1)), oA 37 2 (.eq 6 true u1 u0), o 38 (.pick u3 u0 kF)])
(.cond u0
(.seq (.post (.reg [o 6 (.mv (kJ 0))]) [6, 7] [0, 6])
(.ret [.mv u0, .mv u1]))
 .skip))
(.seq (.seq (.reg [o 41 (.bin .eql u11 (kJ 0))])
(.cond u0
(.post (.reg [o 2 (.mv (kJ 64))]) [2, 8, 9] [0, 14, 8])
(.post .skip [2, 8, 9] [12, 13, 7])))
(.seq (.reg [o 43 (.bin .sub u0 (kJ 1)), o 44 (.cvi .u64 u0), o 45 (.bin .shl (.k (.i .u64 1)) u0)])
(.seq (.seq (.reg [o 47 (.un .not u4), oA 49 0 (.mv u6), oA 50 1 (.mv u2), oA 51 2 (.bin .geq u1 u0), o 52 (.pick u3 u0 kF)])
(.cond u0
(.seq (.post (.reg [o 54 (.bin .sub u5 (.k (.i .u64 1))), o 55 (.cvi .i64 u0), o 56 (.mki 346 (kJ 1))]) [6, 7] [1, 0])
(.ret [.mv u0, .mv u1]))
 .skip))
(.seq (.seq (.reg [oA 59 9 (.mv u10), oA 60 10 (.mv u6), oA 61 11 (.bin .gtr u1 u0), o 62 (.pick u12 u0 kF)])
(.cond u0
(.seq (.post (.reg [o 64 (.cvi .i64 u9), o 65 (.un .neg u0), o 66 (.mki 346 (kJ 1))]) [6, 7] [1, 0])
(.ret [.mv u0, .mv u1]))
 .skip))
(.seq (.post (.reg [o 68 (.cvi .i64 u14)]) [8, 11] [14, 0])
(.seq (.seq (.reg [])
(.cond u0
(.post (.reg [o 71 (.un .neg u1)]) [11] [0])
(.post .skip [11] [1])))
(.seq (.reg [o 7 (.mv (.k .inn))])
(.ret [.mv u1, .mv u0])))))))))))))))
theorem fg331 : FGood Tryz.prog T 331 (.code 3 c331) := ⟨Tryz.call331, Tryz.f331, c331, Tryz.func331, by kernel_rfl⟩
def h332 : BC := (.seq (.reg [])
(.block 0 [] (.pre [0, 2, 3, 4, 10] [0, 2, 3, 4, 1] (.loop (.block 1 [0, 2, 3, 4, 10] (.post (.seq (.reg [o 14 (.bin .mul (kJ 2) u4), o 15 (.bin .add u0 (kJ 1))])
(.seq (.seq (.reg [o 18 (.bin .geq u0 u3)])
(.cond u0
(.pre [] [] (.exit 0))
 .skip))
(.seq (.seq (.post (.reg [o 20 (.bin .add u1 (kJ 1)), o 22 (.bin .lss u0 u5), oA 24 0 (.mv u8), oA 25 1 (.mv u6), oA 26 2 (.mv u9), oA 27 3 (.mv u6), oA 28 4 (.bin .add u1 u0), oA 29 5 (.ia 2 u3 u0), oA 30 6 (.ldn 2 u0), oA 31 7 (.mv u12), oA 32 8 (.mv u15), oA 33 9 (.mv u12), oA 34 10 (.bin .add u1 u0), oA 35 11 (.bin .add u0 (kJ 1)), oA 36 12 (.ia 2 u4 u0), oA 37 13 (.ldn 2 u0), oA 38 14 (.callv u13 [u7, u0]), oA 39 15 (.bin .lss u0 (kJ 0)), o 40 (.pick u16 u0 kF)]) [0, 2, 3, 4, 10, 11, 40] [22, 23, 24, 25, 26, 20, 0])
(.cond u6
(.post (.reg [o 42 (.bin .add u5 (kJ 1))]) [0, 2, 3, 4, 10, 11] [1, 2, 3, 4, 5, 0])
(.post .skip [0, 2, 3, 4, 10, 11] [0, 1, 2, 3, 4, 5])))
(.seq (.seq (.reg [o 47 (.bin .add u2 u4), o 48 (.ia 2 u1 u0), o 49 (.ldn 2 u0), o 53 (.bin .add u5 u8), o 54 (.ia 2 u4 u0), o 55 (.ldn 2 u0), o 56 (.callv u9 [u3, u0]), o 57 (.bin .lss u0 (kJ 0)), o 58 (.un .not u0)])
(.cond u0
(.ret [])
 .skip))
(.seq (.post (.reg [o 62 (.bin .add u11 u13), o 66 (.bin .add u12 u15), o 70 (.bin .add u13 u16), o 71 (.ia 2 u12 u0), o 72 (.ldn 2 u0), o 76 (.bin .add u16 u18), o 77 (.ia 2 u15 u0), o 78 (.ldn 2 u0), o 79 (.ia 2 u17 u7), oC (.stn 2 u0 u4), o 80 (.ia 2 u18 u7), oC (.stn 2 u0 u2)]) [0, 2, 3, 4, 11] [19, 20, 21, 22, 24])
(.reg [])))))) [0, 2, 3, 4, 10] [0, 1, 2, 3, 4]))))))
def c332 : BC := .seq h332 (.ret [])
theorem fg332 : FGood Tryz.prog T 332 (.code 5 c332) := ⟨Tryz.call332, Tryz.f332, h332, Tryz.func332, by kernel_rfl⟩
def c333 : BC := (.seq (.reg [o 2 (.mv (.k (.i .u64 0)))])
(.seq (.reg [o 4 (.cvi .u64 u1), o 5 (.call 275 [u0]), o 6 (.bin .shl (.k (.i .u64 1)) u0)])
(.ret [.mv u0])))
theorem fg333 : FGood Tryz.prog T 333 (.code 1 c333) := ⟨Tryz.call333, Tryz.f333, c333, Tryz.func333, by kernel_rfl⟩
def c334 : BC := (.seq (.reg [o 2 (.mv (.k (.i .u64 0)))])
(.seq (.reg [o 4 (.nck u1), o 5 (.ld u0), o 7 (.nck u3), o 8 (.ld u0), o 9 (.bin .shl u0 (.k (.i .u64 13))), o 10 (.bin .xor u3 u0), o 11 (.nck u7), oC (.st u0 u1)])
(.seq (.post (.reg [o 13 (.nck u8), o 14 (.ld u0), o 16 (.nck u10), o 17 (.ld u0), o 18 (.bin .shr u0 (.k (.i .u64 7))), o 19 (.bin .xor u3 u0), o 20 (.nck u14), oC (.st u0 u1)]) [0] [15])
(.seq (.reg [o 22 (.nck u0), o 23 (.ld u0), o 25 (.nck u2), o 26 (.ld u0), o 27 (.bin .shl u0 (.k (.i .u64 17))), o 28 (.bin .xor u3 u0), o 29 (.nck u6), oC (.st u0 u1)])
(.seq (.reg [o 31 (.nck u7), o 32 (.ld u0)])
(.ret [.mv u0]))))))
theorem fg334 : FGood Tryz.prog T 334 (.code 1 c334) := ⟨Tryz.call334, Tryz.f334, c334, Tryz.func334, by kernel_rfl⟩
def c335 : BC := (.seq (.reg [o 8 (.mv (kJ 0))])
(.seq (.reg [o 11 (.bin .sub u2 (kJ 1)), o 14 (.bin .add u3 (kJ 1)), o 17 (.call 336 [u3, u1, u4, u0, u5, u6])])
(.ret [.mv u0])))
theorem fg335 : FGood Tryz.prog T 335 (.code 4 c335) := ⟨Tryz.call335, Tryz.f335, c335, Tryz.func335, by kernel_rfl⟩
def c336 : BC := (.seq (.reg [o 12 (.mv (kJ 0))])
(.seq (.reg [o 19 (.call 342 [u1, u2, u3, u5, u6]), o 20 (.ext 0 u0), o 21 (.ext 1 u1)])
(.seq (.reg [o 28 (.call 342 [u4, u0, u7, u8, u9]), o 29 (.ext 0 u0), o 30 (.ext 1 u1)])
(.seq (.post (.reg [o 37 (.call 342 [u7, u4, u1, u11, u12]), o 38 (.ext 0 u0), o 39 (.ext 1 u1)]) [2] [0])
(.seq (.reg [])
(.ret [.mv u0]))))))
theorem fg336 : FGood Tryz.prog T 336 (.code 6 c336) := ⟨Tryz.call336, Tryz.f336, c336, Tryz.func336, by kernel_rfl⟩
def c337 : BC := (.seq (.reg [o 2 (.mv (kJ 0))])
(.seq (.reg [o 4 (.bin .mul u1 (kJ 78913)), o 5 (.bin .shr u0 (.k (.i .u64 18)))])
(.ret [.mv u0])))
theorem fg337 : FGood Tryz.prog T 337 (.code 1 c337) := ⟨Tryz.call337, Tryz.f337, c337, Tryz.func337, by kernel_rfl⟩
def c338 : BC := (.seq (.reg [o 2 (.mv (kJ 0))])
(.seq (.seq (.reg [])
(.cond u1
(.seq (.reg [o 2 (.mv (kJ 1))])
(.ret [.mv u0]))
 .skip))
(.seq (.reg [o 2 (.mv (kJ 0))])
(.ret [.mv u0]))))
theorem fg338 : FGood Tryz.prog T 338 (.code 1 c338) := ⟨Tryz.call338, Tryz.f338, c338, Tryz.func338, by kernel_rfl⟩
def c339 : BC := (.seq (.reg [o 2 (.mv kF)])
(.seq (.reg [o 5 (.bin .sub u1 (kJ 1)), o 6 (.bin .and u2 u0), o 7 (.bin .eql u0 (kJ 0))])
(.ret [.mv u0])))
theorem fg339 : FGood Tryz.prog T 339 (.code 1 c339) := ⟨Tryz.call339, Tryz.f339, c339, Tryz.func339, by kernel_rfl⟩
def c340 : BC := (.seq (.reg [o 2 (.mv (kJ 0))])
(.seq (.cond kF
(.seq (.reg [o 4 (.cvi .u32 u1), o 5 (.call 343 [u0])])
(.ret [.mv u0]))
 .skip)
(.seq (.reg [o 7 (.call 344 [u1])])
(.ret [.mv u0]))))
theorem fg340 : FGood Tryz.prog T 340 (.code 1 c340) := ⟨Tryz.call340, Tryz.f340, c340, Tryz.func340, by kernel_rfl⟩
def c341 : BC := (.seq (.reg [o 2 (.mv (.k (.s [])))])
(.seq (.reg [o 4 (.call 345 [u1, (kJ 10)])])
(.ret [.mv u0])))
theorem fg341 : FGood Tryz.prog T 341 (.code 1 c341) := ⟨Tryz.call341, Tryz.f341, c341, Tryz.func341, by kernel_rfl⟩
def c342 : BC := (.seq (.reg [o 10 (.mv (kJ 0)), o 11 (.mv (kJ 0))])
(.seq (.seq (.reg [o 15 (.ia 2 u2 u4), o 16 (.ldn 2 u0), o 19 (.ia 2 u4 u5), o 20 (.ldn 2 u0), o 21 (.callv u10 [u2, u0]), o 22 (.bin .lss u0 (kJ 0))])
(.cond u0
(.seq (.post (.reg [o 24 (.nck u11), o 25 (.ld u0), o 26 (.bin .add u0 (kJ 1)), o 27 (.nck u14), oC (.st u0 u1)]) [1, 2] [13, 14])
(.seq (.reg [])
(.ret [.mv u1, .mv u0])))
 .skip))
(.seq (.post (.reg []) [10, 11] [9, 10])
(.ret [.mv u0, .mv u1]))))
theorem fg342 : FGood Tryz.prog T 342 (.code 5 c342) := ⟨Tryz.call342, Tryz.f342, c342, Tryz.func342, by kernel_rfl⟩
def c343 : BC := (.seq (.reg [o 2 (.mv (kJ 0))])
(.seq (.seq (.reg [o 4 (.bin .eql u1 (.k (.i .u32 0)))])
(.cond u0
(.seq (.reg [o 2 (.mv (kJ 32))])
(.ret [.mv u0]))
 .skip))
(.seq (.reg [o 7 (.un .neg u2), o 8 (.bin .and u3 u0), o 9 (.bin .mul u0 (.k (.i .u32 125613361))), o 10 (.bin .shr u0 (.k (.i .u64 27))), o 11 (.iaa 32 1 (.k (.p 6 0)) u0), o 12 (.ld u0), o 13 (.cvi .i64 u0)])
(.ret [.mv u0]))))
theorem fg343 : FGood Tryz.prog T 343 (.code 1 c343) := ⟨Tryz.call343, Tryz.f343, c343, Tryz.func343, by kernel_rfl⟩
def c344 : BC := (.seq (.reg [o 2 (.mv (kJ 0))])
(.seq (.seq (.reg [o 4 (.bin .eql u1 (.k (.i .u64 0)))])
(.cond u0
(.seq (.reg [o 2 (.mv (kJ 64))])
(.ret [.mv u0]))
 .skip))
(.seq (.reg [o 7 (.un .neg u2), o 8 (.bin .and u3 u0), o 9 (.bin .mul u0 (.k (.i .u64 285870213051353865))), o 10 (.bin .shr u0 (.k (.i .u64 58))), o 11 (.iaa 64 1 (.k (.p 7 0)) u0), o 12 (.ld u0), o 13 (.cvi .i64 u0)])
(.ret [.mv u0]))))
theorem fg344 : FGood Tryz.prog T 344 (.code 1 c344) := ⟨Tryz.call344, Tryz.f344, c344, Tryz.func344, by kernel_rfl⟩
def c345 : BC := (.seq (.reg [o 4 (.mv (.k (.s [])))])
(.seq (.seq (.reg [o 11 (.bin .eql u2 (kJ 10))])
(.cond u0
(.seq (.seq (.reg [o 13 (.bin .leq (kJ 0) u2), oA 15 0 (.mv u3), oA 16 1 (.bin .lss u0 (kJ 100)), o 17 (.pick u2 u0 kF)])
(.cond u0
(.seq (.reg [o 19 (.call 319 [u6])])
(.ret [.mv u0]))
 .skip))
(.seq (.reg [o 5 (.alloc 1460 [(.i .u8 0), (.i .u8 0), (.i .u8 0), (.i .u8 0), (.i .u8 0), (.i .u8 0), (.i .u8 0), (.i .u8 0), (.i .u8 0), (.i .u8 0), (.i .u8 0), (.i .u8 0), (.i .u8 0), (.i .u8 0), (.i .u8 0), (.i .u8 0), (.i .u8 0), (.i .u8 0), (.i .u8 0), (.i .u8 0), (.i .u8 0), (.i .u8 0), (.i .u8 0), (.i .u8 0)])])
(.seq (.reg [o 21 (.cvi .u64 u7)])
(.seq (.seq (.reg [o 23 (.bin .lss u8 (kJ 0))])
(.cond u0
(.post (.reg [o 25 (.un .neg u1)]) [0, 5, 6] [10, 3, 0])
(.post .skip [0, 5, 6] [9, 2, 1])))
(.seq (.reg [o 27 (.call 320 [u2])])
(.seq (.reg [o 29 (.bin .add (kJ 1) u0), o 30 (.sla 24 1 u3 (some (kJ 1)) (some u0)), o 32 (.call 321 [u0, u5])])
(.seq (.seq (.reg [o 34 (.bin .lss u4 (kJ 0))])
(.cond u0
(.seq (.reg [o 35 (.iaa 24 1 u6 (kJ 0)), oC (.st u0 (.k (.i .u8 45)))])
(.seq (.post (.reg [o 37 (.bin .add (kJ 1) u5), o 38 (.sla 24 1 u8 none (some u0)), o 39 (.b2s u0)]) [4] [0])
(.ret [.mv u0])))
 .skip))
(.seq (.post (.reg [o 41 (.bin .add (kJ 1) u4), o 42 (.sla 24 1 u7 (some (kJ 1)) (some u0)), o 43 (.b2s u0)]) [4] [0])
(.ret [.mv u0])))))))))
 .skip))
(.seq (.reg [o 46 (.cvi .u64 u2), o 49 (.bin .lss u3 (kJ 0)), o 50 (.call 322 [(.k .sn), u1, u5, u0, kF]), o 51 (.ext 0 u0), o 52 (.ext 1 u1)])
(.seq (.reg [])
(.ret [.mv u0])))))
theorem fg345 : FGood Tryz.prog T 345 (.code 2 c345) := ⟨Tryz.call345, Tryz.f345, c345, Tryz.func345, by kernel_rfl⟩
end Go.Proofs.YtmbpjpffafidhaaGreatDoor
