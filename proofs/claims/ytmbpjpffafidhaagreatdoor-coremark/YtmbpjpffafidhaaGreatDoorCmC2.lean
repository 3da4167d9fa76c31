import Derived.Test.YtmbpjpffafidhaaGreatDoorCmTy
namespace Go.Proofs.YtmbpjpffafidhaaGreatDoor
open Go.Ev
set_option maxRecDepth 100000
def h138 : BC := (.seq (.reg [o 6 (.call 196 [u0])])
(.seq (.reg [o 8 (.call 200 [u1])])
(.seq (.reg [o 11 (.nck u2), o 12 (.fa 5 u0), o 13 (.ld u0), o 15 (.lk 1 (.b false) false u0 u3), o 16 (.call 135 [u6, u0, (kJ 4)])])
(.seq (.reg [o 18 (.call 196 [u7])])
(.seq (.post (.reg [o 21 (.bin .neq u0 (.k (.s [82, 79, 79, 84]))), oA 23 0 (.mv u1), oA 24 1 (.bin .neq u0 (.k (.s [39, 82, 79, 79, 84, 39]))), o 25 (.pick u2 u0 kF), o 26 (.call 135 [u12, u0, (kJ 7)])]) [0, 2] [13, 11])
(.seq (.reg [o 28 (.call 200 [u0])])
(.seq (.reg [o 30 (.call 198 [u1])])
(.seq (.seq (.reg [o 32 (.nck u2), o 33 (.fa 7 u0), o 34 (.ld u0), o 35 (.bin .neq u0 (kJ 0))])
(.cond u0
(.ret [])
 .skip))
(.seq (.reg [o 37 (.nck u6), o 38 (.fa 5 u0), o 39 (.ld u0), oC (.mup 1 u0 u10 kU)])
(.post (.reg [o 43 (.call 202 [u9, (kJ 0), u7])]) [] []))))))))))
def c138 : BC := .seq h138 (.ret [])
theorem fg138 : FGood Tryz.prog T 138 (.code 1 c138) := ⟨Tryz.call138, Tryz.f138, h138, Tryz.func138, by kernel_rfl⟩
def h139 : BC := (.seq (.reg [o 6 (.nck u0), o 7 (.fa 4 u0), o 8 (.ld u0), o 9 (.eq 1 false u0 (.k .pn)), o 10 (.call 135 [u4, u0, (kJ 5)])])
(.seq (.post (.reg [o 13 (.nck u5), o 14 (.fa 6 u0), o 15 (.ld u0), o 16 (.len false u0), o 17 (.bin .neq u0 (kJ 3)), o 18 (.call 135 [u10, u0, (kJ 1)])]) [0] [11])
(.seq (.reg [o 20 (.call 197 [u0]), o 2 (.alloc 320 [(.s []), (.s [])]), oC (.stn 2 u0 u1)])
(.seq (.seq (.reg [o 22 (.nck u2), o 23 (.fa 7 u0), o 24 (.ld u0), o 25 (.bin .neq u0 (kJ 0))])
(.cond u0
(.ret [])
 .skip))
(.seq (.post (.reg [o 28 (.nck u6), o 29 (.fa 4 u0), o 30 (.ld u0), o 31 (.nck u0), o 32 (.fa 1 u0), o 33 (.ld u0), o 34 (.mkf 204 [] [u10]), o 35 (.call 203 [u1, u0]), o 36 (.call 135 [u14, u0, (kJ 4)])]) [0, 2] [15, 13])
(.seq (.reg [o 38 (.call 198 [u0])])
(.post (.reg [o 40 (.nck u1), o 41 (.fa 4 u0), o 42 (.ld u0), o 44 (.nck u4), o 45 (.fa 4 u0), o 46 (.ld u0), o 47 (.nck u0), o 48 (.fa 1 u0), o 49 (.ld u0), o 50 (.ldn 2 u11), o 52 (.build [(.s []), (.s []), (.s [])] [(0, 2, u0), (2, 1, u10)]), o 53 (.bsl 1 3 [(.s []), (.s []), (.s [])] [(0, 3, u0)]), o 54 (.app 364 3 48 u3 u0), .chk ⟨(some 10), none, .ld u11⟩, o 55 (.nck u10), o 56 (.fa 1 u0), oC (.st u0 u2)]) [] [])))))))
def c139 : BC := .seq h139 (.ret [])
theorem fg139 : FGood Tryz.prog T 139 (.code 1 c139) := ⟨Tryz.call139, Tryz.f139, h139, Tryz.func139, by kernel_rfl⟩
def c143 : BC := (.seq (.reg [o 4 (.mv (kJ 0)), o 5 (.mv (.k .inn))])
(.seq (.reg [o 7 (.call 205 [u2])])
(.seq (.post (.reg [o 10 (.nck u3), o 11 (.fa 1 u0), o 12 (.ld u0), o 14 (.app 24 1 1 u0 u7), o 15 (.nck u7), o 16 (.fa 1 u0), oC (.st u0 u2)]) [1] [10])
(.seq (.reg [o 18 (.len true u0), o 5 (.mv (.k .inn))])
(.ret [.mv u1, .mv u0])))))
theorem fg143 : FGood Tryz.prog T 143 (.code 2 c143) := ⟨Tryz.call143, Tryz.f143, c143, Tryz.func143, by kernel_rfl⟩
def c144 : BC := (.seq (.reg [o 4 (.mv (.k (.s [])))])
(.seq (.seq (.reg [o 12 (.len false u1)])
(.block 0 [0, 1] (.post (.seq (.reg [o 14 (.bin .eql u0 (kJ 0))])
(.cond u0
(.seq (.reg [o 4 (.mv (.k (.s [])))])
(.ret [.mv u0]))
(.seq (.reg [o 16 (.bin .eql u1 (kJ 1))])
(.cond u0
(.seq (.reg [o 18 (.ia 1 u4 (kJ 0)), o 19 (.ld u0)])
(.ret [.mv u0]))
 .skip)))) [0, 1] [4, 5])))
(.seq (.reg [o 5 (.mv (kJ 0))])
(.seq (.seq (.reg [o 21 (.len true u2), o 22 (.bin .gtr u0 (kJ 0))])
(.cond u0
(.seq (.seq (.reg [o 24 (.len true u4), o 26 (.len false u4), o 27 (.bin .sub u0 (kJ 1)), o 28 (.bin .quo (kJ 9223372036854775807) u0), o 29 (.bin .geq u3 u0)])
(.cond u0
 .bad
 .skip))
(.post (.reg [o 33 (.len true u9), o 35 (.len false u9), o 36 (.bin .sub u0 (kJ 1)), o 37 (.bin .mul u2 u0), o 38 (.bin .add u11 u0)]) [0, 1, 5] [13, 14, 0]))
(.post .skip [0, 1, 5] [3, 4, 2])))
(.seq (.seq (.reg [o 40 (.len false u0), o 41 (.mv (kJ 0))])
(.block 1 [0, 1, 5] (.pre [0, 1, 5, 39, 40, 41] [2, 3, 4, 2, 1, 0] (.loop (.post (.seq (.reg [o 42 (.bin .lss u5 u4)])
(.seq (.cond u0
 .skip
(.pre [0, 1, 5] [1, 2, 3] (.exit 1)))
(.seq (.block 2 [0, 1, 5, 39, 40, 41] (.post (.seq (.reg [o 43 (.ia 1 u4 u6), o 44 (.ld u0)])
(.seq (.seq (.reg [o 46 (.len true u0), o 48 (.bin .sub (kJ 9223372036854775807) u6), o 49 (.bin .gtr u1 u0)])
(.cond u0
 .bad
 .skip))
(.reg [o 53 (.len true u3), o 54 (.bin .add u9 u0)]))) [0, 1, 5, 39, 40, 41] [8, 9, 0, 11, 12, 13]))
(.reg [o 55 (.bin .add u5 (kJ 1))])))) [0, 1, 5, 39, 40, 41] [1, 2, 3, 4, 5, 0])))))
(.seq (.reg [o 8 (.alloc 668 [.pn, .sn])])
(.seq (.reg [o 57 (.call 206 [u0, u3])])
(.seq (.reg [o 59 (.ia 1 u2 (kJ 0)), o 60 (.ld u0), o 61 (.call 143 [u3, u0])])
(.seq (.seq (.reg [o 63 (.slv 1 u5 (some (kJ 1)) none), o 64 (.len false u0), o 65 (.mv (kJ 0))])
(.block 3 [8] (.pre [1, 8, 63, 64, 65] [9, 7, 2, 1, 0] (.loop (.post (.seq (.reg [o 66 (.bin .lss u4 u3)])
(.seq (.cond u0
 .skip
(.pre [8] [2] (.exit 3)))
(.seq (.block 4 [1, 8, 63, 64, 65] (.post (.seq (.reg [o 67 (.ia 1 u3 u5), o 68 (.ld u0)])
(.seq (.reg [o 70 (.call 143 [u4, u3])])
(.reg [o 72 (.call 143 [u5, u1])]))) [1, 8, 63, 64, 65] [5, 6, 7, 8, 9]))
(.reg [o 73 (.bin .add u4 (kJ 1))])))) [1, 8, 63, 64, 65] [1, 2, 3, 4, 0])))))
(.seq (.reg [o 74 (.call 148 [u0])])
(.ret [.mv u0])))))))))))
theorem fg144 : FGood Tryz.prog T 144 (.code 2 c144) := ⟨Tryz.call144, Tryz.f144, c144, Tryz.func144, by kernel_rfl⟩
def h145 : BC := (.block 0 [] (.loop (.post (.seq (.seq (.reg [o 7 (.len false u2), o 8 (.bin .gtr u0 (kJ 0))])
(.cond u0
 .skip
(.pre [] [] (.exit 0))))
(.seq (.block 1 [0, 1, 2] (.post (.reg [o 16 (.bsl 2 1 [(.s [])] [(0, 1, (.k (.s []))), (1, 1, u3)]), o 19 (.len false u5), o 20 (.mm false u0 [(kJ 4)]), o 21 (.slv 1 u7 none (some u0)), o 22 (.app 40 1 16 u3 u0), o 23 (.call 71 [u7, u0])]) [0, 1, 2] [8, 9, 10]))
(.reg [o 11 (.len false u2), o 12 (.mm false u0 [(kJ 4)]), o 13 (.slv 1 u4 (some u0) none)]))) [0, 1, 2] [3, 4, 0])))
def c145 : BC := .seq h145 (.ret [])
theorem fg145 : FGood Tryz.prog T 145 (.code 3 c145) := ⟨Tryz.call145, Tryz.f145, h145, Tryz.func145, by kernel_rfl⟩
def c146 : BC := (.seq (.reg [o 4 (.box 212 u1), o 6 (.mv (.k .sn))])
(.seq (.reg [o 7 (.mv (.k .sn))])
(.seq (.seq (.reg [o 13 (.fa 3 u2), o 14 (.ld u0), o 16 (.ia 5 u0 u7), o 17 (.ldn 5 u0), o 8 (.alloc 200 [(.s []), (.s []), (.s []), (.s []), (.b false)]), oC (.stn 5 u0 u1)])
(.seq (.reg [o 18 (.fa 3 u0), o 19 (.ld u0), o 20 (.bin .neq u0 (.k (.s [48])))])
(.cond u0
(.post (.reg [o 22 (.fa 1 u10), o 23 (.ld u0), o 25 (.fa 3 u5), o 26 (.ld u0), o 27 (.call 147 [u15, u0]), .chk ⟨(some 3), none, .ld u4⟩, o 28 (.bsl 2 1 [(.s [])] [(0, 1, u3), (1, 1, u0)]), o 29 (.app 40 1 16 u14 u0)]) [0, 2, 4, 7] [18, 20, 17, 0])
(.post .skip [0, 2, 4, 7] [11, 13, 10, 8]))))
(.seq (.seq (.reg [o 30 (.fa 2 u2), o 31 (.ld u0), o 32 (.len false u0), o 33 (.mv (kJ 0))])
(.block 0 [4, 7] (.pre [0, 2, 4, 7, 31, 32, 33] [4, 5, 6, 7, 2, 1, 0] (.loop (.post (.seq (.reg [o 34 (.bin .lss u6 u5)])
(.seq (.cond u0
 .skip
(.pre [4, 7] [3, 4] (.exit 0)))
(.seq (.block 1 [0, 2, 4, 7, 31, 32, 33] (.seq (.reg [o 35 (.ia 5 u5 u7), o 36 (.ldn 5 u0), o 10 (.alloc 188 [(.s []), (.i .i64 0), .sn, (.s []), (.s [])]), oC (.stn 5 u0 u1)])
(.seq (.reg [o 37 (.fa 2 u0), o 38 (.ld u0), o 39 (.len false u0), o 40 (.mv (kJ 0))])
(.block 2 [0, 2, 4, 7, 31, 32, 33] (.pre [0, 2, 4, 7, 10, 31, 32, 33, 38, 39, 40] [8, 9, 10, 11, 4, 12, 13, 14, 2, 1, 0] (.loop (.post (.seq (.reg [o 41 (.bin .lss u10 u9)])
(.seq (.cond u0
 .skip
(.pre [0, 2, 4, 7, 31, 32, 33] [1, 2, 3, 4, 6, 7, 8] (.exit 2)))
(.seq (.block 3 [0, 2, 4, 7, 10, 31, 32, 33, 38, 39, 40] (.seq (.reg [o 42 (.ia 2 u9 u11), o 43 (.ldn 2 u0), o 12 (.alloc 172 [(.i .i64 0), (.s [])]), oC (.stn 2 u0 u1)])
(.seq (.reg [o 44 (.fa 0 u0), o 45 (.ld u0), o 47 (.bin .eql u0 u7)])
(.cond u0
(.post (.reg [o 49 (.fa 0 u11), o 50 (.ld u0), o 52 (.fa 1 u5), o 53 (.ld u0), o 54 (.call 147 [u11, u0]), .chk ⟨(some 3), none, .ld u4⟩, o 55 (.bsl 2 1 [(.s [])] [(0, 1, u3), (1, 1, u0)]), o 56 (.app 40 1 16 u16 u0)]) [0, 2, 4, 7, 10, 31, 32, 33, 38, 39, 40] [14, 15, 16, 0, 18, 19, 20, 21, 22, 23, 24])
(.post .skip [0, 2, 4, 7, 10, 31, 32, 33, 38, 39, 40] [7, 8, 9, 10, 11, 12, 13, 14, 15, 16, 17])))))
(.reg [o 57 (.bin .add u10 (kJ 1))])))) [0, 2, 4, 7, 10, 31, 32, 33, 38, 39, 40] [1, 2, 3, 4, 5, 6, 7, 8, 9, 10, 0])))))))
(.reg [o 58 (.bin .add u6 (kJ 1))])))) [0, 2, 4, 7, 31, 32, 33] [1, 2, 3, 4, 5, 6, 0])))))
(.seq (.seq (.reg [o 60 (.len false u1), o 61 (.bin .eql u0 (kJ 0))])
(.cond u0
(.post (.reg [o 62 (.fa 1 u2), o 63 (.ld u0), o 64 (.bsl 2 1 [(.s [])] [(0, 1, u0), (1, 1, (.k (.s [48])))])]) [7] [0])
(.post .skip [7] [3])))
(.seq (.reg [])
(.ret [.mv u0])))))))
theorem fg146 : FGood Tryz.prog T 146 (.code 3 c146) := ⟨Tryz.call146, Tryz.f146, c146, Tryz.func146, by kernel_rfl⟩
def c147 : BC := (.seq (.reg [o 4 (.mv (.k (.s [])))])
(.seq (.post (.reg [o 7 (.nck u1), o 8 (.fa 2 u0), o 9 (.ld u0), oB 11 0 (.mv u5), oB 12 1 (.len true u0), oB 13 2 (.bin .gtr u0 (kJ 40)), o 14 (.pick u3 kU u0), o 15 (.nck u8), o 16 (.fa 2 u0), oC (.st u0 u2)]) [1] [11])
(.seq (.reg [])
(.ret [.mv u0]))))
theorem fg147 : FGood Tryz.prog T 147 (.code 2 c147) := ⟨Tryz.call147, Tryz.f147, c147, Tryz.func147, by kernel_rfl⟩
def c148 : BC := (.seq (.reg [o 2 (.mv (.k (.s [])))])
(.seq (.post (.reg [o 4 (.nck u1), o 5 (.fa 1 u0), o 6 (.ld u0), o 7 (.sd u0), o 9 (.nck u5), o 10 (.fa 1 u0), o 11 (.ld u0), o 12 (.len false u0), o 13 (.ustr 24 u4 u0)]) [2] [0])
(.ret [.mv u0])))
theorem fg148 : FGood Tryz.prog T 148 (.code 1 c148) := ⟨Tryz.call148, Tryz.f148, c148, Tryz.func148, by kernel_rfl⟩
def c149 : BC := (.seq (.reg [o 4 (.mv (.k (.i .u64 0))), o 5 (.mv (.k (.i .u64 0)))])
(.seq (.reg [o 14 (.bin .shr u2 (.k (.i .u64 32))), o 16 (.bin .and u3 (.k (.i .u64 4294967295))), o 18 (.bin .shr u5 (.k (.i .u64 32))), o 20 (.bin .and u6 (.k (.i .u64 4294967295)))])
(.seq (.reg [o 23 (.bin .mul u2 u0)])
(.seq (.reg [o 26 (.bin .mul u4 u1), o 28 (.bin .shr u1 (.k (.i .u64 32))), o 29 (.bin .add u1 u0)])
(.seq (.reg [o 32 (.bin .mul u6 u5), o 34 (.bin .and u1 (.k (.i .u64 4294967295))), o 35 (.bin .add u1 u0)])
(.seq (.post (.reg [o 38 (.bin .mul u10 u8), o 40 (.bin .shr u4 (.k (.i .u64 32))), o 41 (.bin .add u1 u0), o 43 (.bin .shr u3 (.k (.i .u64 32))), o 44 (.bin .add u1 u0), o 46 (.bin .shl u5 (.k (.i .u64 32))), o 48 (.bin .and u12 (.k (.i .u64 4294967295))), o 49 (.bin .or u1 u0)]) [4, 5] [3, 0])
(.ret [.mv u0, .mv u1])))))))
theorem fg149 : FGood Tryz.prog T 149 (.code 2 c149) := ⟨Tryz.call149, Tryz.f149, c149, Tryz.func149, by kernel_rfl⟩
def c150 : BC := (.seq (.reg [o 6 (.mv (.k (.i .u64 0))), o 7 (.mv (.k (.i .u64 0))), o 8 (.mv kF)])
(.seq (.seq (.reg [o 16 (.bin .geq u3 u5)])
(.cond u0
(.seq (.reg [o 6 (.mv (.k (.i .u64 0))), o 7 (.mv (.k (.i .u64 0))), o 8 (.mv kF)])
(.ret [.mv u2, .mv u1, .mv u0]))
 .skip))
(.seq (.reg [o 18 (.call 164 [u6]), o 19 (.bin .sub (kJ 64) u0)])
(.seq (.reg [o 22 (.bin .shl u8 u0)])
(.seq (.reg [o 25 (.call 207 [u7, u1]), o 28 (.bin .sub (kJ 64) u2), o 29 (.call 208 [u10, u0]), o 30 (.bin .or u2 u0)])
(.seq (.reg [o 33 (.bin .shl u12 u5)])
(.seq (.post (.reg [o 37 (.bin .shr u0 (.k (.i .u64 32))), o 39 (.call 209 [u2, u0, u6]), o 40 (.ext 0 u0), o 41 (.ext 1 u1)]) [1, 2, 9, 11, 12] [4, 9, 10, 1, 0])
(.seq (.reg [o 45 (.bin .and u0 (.k (.i .u64 4294967295))), o 47 (.call 209 [u5, u0, u2]), o 48 (.ext 0 u0), o 49 (.ext 1 u1)])
(.seq (.reg [o 51 (.bin .shl u7 (.k (.i .u64 32))), o 53 (.bin .or u0 u2), o 56 (.bin .shr u2 u8), o 8 (.mv kU)])
(.ret [.mv u2, .mv u1, .mv u0]))))))))))
theorem fg150 : FGood Tryz.prog T 150 (.code 3 c150) := ⟨Tryz.call150, Tryz.f150, c150, Tryz.func150, by kernel_rfl⟩
def c151 : BC := (.seq (.reg [o 2 (.mv (.k .pn)), o 3 (.mv kF)])
(.seq (.seq (.post (.reg [o 9 (.bin .eql u2 (.k (.s []))), oB 11 0 (.mv u3), oB 12 1 (.len true u0), oB 13 2 (.bin .gtr u0 (kJ 2000)), o 14 (.pick u3 kU u0), oB 16 0 (.mv u7), oB 17 1 (.len true u0), oB 18 2 (.bin .gtr u0 (kJ 1)), oB 19 3 (.mv u0), oA 20 0 (.mv u11), oA 21 1 (.ix u0 (kJ 0)), oA 22 2 (.bin .eql u0 (.k (.i .u8 48))), oB 23 7 (.pick u3 u0 kF), o 24 (.pick u8 kU u0), oB 26 0 (.mv u16), oB 27 1 (.call 210 [u0, (.k (.s [48, 49, 50, 51, 52, 53, 54, 55, 56, 57]))]), oB 28 2 (.bin .neq u0 (.k (.s []))), o 29 (.pick u3 kU u0)]) [0, 29] [20, 0])
(.cond u1
(.seq (.reg [o 2 (.mv (.k .pn)), o 3 (.mv kF)])
(.ret [.mv u1, .mv u0]))
 .skip))
(.seq (.reg [o 30 (.call 211 [(.k .sn)])])
(.seq (.seq (.reg [o 32 (.len true u1), o 33 (.bin .rem u0 (kJ 9))])
(.block 0 [4] (.pre [0, 4, 5] [3, 2, 0] (.loop (.post (.seq (.seq (.reg [o 35 (.bin .neq u0 (.k (.s [])))])
(.cond u0
 .skip
(.pre [4] [2] (.exit 0))))
(.seq (.block 1 [0, 4] (.seq (.reg [o 37 (.bin .gtr u3 (kJ 0))])
(.cond u0
(.seq (.reg [o 41 (.sls u2 none (some u4)), o 42 (.call 212 [u0, (kJ 10), (kJ 32)]), o 43 (.ext 0 u0), o 44 (.ext 1 u1)])
(.seq (.reg [o 46 (.call 213 [(.k (.i .u64 1000000000))]), o 47 (.call 181 [u8, u0]), o 49 (.call 213 [u3]), o 50 (.call 214 [u1, u0])])
(.post (.reg [o 53 (.sls u10 (some u12) none)]) [0, 4] [0, 1])))
(.post .skip [0, 4] [2, 3]))))
(.reg [o 5 (.mv (kJ 9))]))) [0, 4, 5] [1, 2, 0])))))
(.seq (.reg [o 3 (.mv kU)])
(.ret [.mv u1, .mv u0]))))))
theorem fg151 : FGood Tryz.prog T 151 (.code 1 c151) := ⟨Tryz.call151, Tryz.f151, c151, Tryz.func151, by kernel_rfl⟩
def c152 : BC := (.seq (.reg [o 2 (.mv (.k .pn)), o 3 (.mv kF)])
(.seq (.seq (.reg [o 19 (.len true u2), o 20 (.bin .gtr u0 (kJ 40))])
(.cond u0
(.seq (.reg [o 2 (.mv (.k .pn)), o 3 (.mv kF)])
(.ret [.mv u1, .mv u0]))
 .skip))
(.seq (.seq (.reg [o 23 (.call 131 [u4]), o 24 (.ext 0 u0), o 25 (.ext 1 u1)])
(.seq (.reg [])
(.cond u0
(.seq (.reg [o 3 (.mv kU)])
(.ret [.mv u2, .mv u0]))
 .skip)))
(.seq (.reg [o 29 (.call 215 [u7, (.k (.s [45]))])])
(.seq (.reg [o 31 (.call 216 [u8, (.k (.s [45]))])])
(.seq (.seq (.reg [o 33 (.un .not u1)])
(.cond u0
(.post (.reg [o 35 (.call 216 [u10, (.k (.s [43]))])]) [6, 7] [3, 0])
(.post .skip [6, 7] [2, 1])))
(.seq (.reg [o 8 (.mv (kJ 0))])
(.seq (.seq (.reg [o 37 (.call 217 [u2, (.k (.s [101, 69]))])])
(.seq (.reg [o 39 (.bin .geq u0 (kJ 0))])
(.cond u0
(.post (.seq (.reg [o 43 (.bin .add u1 (kJ 1)), o 44 (.sls u5 (some u0) none), o 45 (.call 218 [u0]), o 46 (.ext 0 u0), o 47 (.ext 1 u1)])
(.seq (.seq (.reg [o 49 (.un .not u0)])
(.cond u0
(.seq (.post (.reg [o 2 (.mv (.k .pn)), o 3 (.mv kF)]) [2, 3] [1, 0])
(.ret [.mv u0, .mv u1]))
 .skip))
(.reg [o 52 (.sls u10 none (some u7))]))) [6, 7, 8] [10, 0, 3])
(.post .skip [6, 7, 8] [3, 4, 2]))))
(.seq (.reg [o 56 (.call 40 [u1, (.k (.s [46]))]), o 57 (.ext 0 u0), o 58 (.ext 1 u1), o 59 (.ext 2 u2)])
(.seq (.reg [o 62 (.bin .add u2 u1)])
(.seq (.seq (.reg [o 64 (.bin .eql u0 (.k (.s []))), oB 66 0 (.mv u4), oB 67 1 (.call 219 [u0]), oB 68 2 (.un .not u0), o 69 (.pick u3 kU u0), oB 71 0 (.mv u7), oB 72 1 (.call 219 [u0]), oB 73 2 (.un .not u0), o 74 (.pick u3 kU u0)])
(.cond u0
(.seq (.post (.reg [o 2 (.mv (.k .pn)), o 3 (.mv kF)]) [2, 3] [1, 0])
(.ret [.mv u0, .mv u1]))
 .skip))
(.seq (.seq (.post (.reg [o 76 (.call 220 [u9, (.k (.s [48]))])]) [6, 8, 13, 15] [15, 17, 12, 0])
(.seq (.reg [o 78 (.bin .eql u3 (.k (.s [])))])
(.cond u0
(.post (.reg [o 15 (.mv (.k (.s [48])))]) [6, 8, 13, 15] [2, 3, 4, 0])
(.post .skip [6, 8, 13, 15] [1, 2, 3, 4]))))
(.seq (.reg [o 81 (.call 151 [u3]), o 82 (.ext 0 u0), o 83 (.ext 1 u1)])
(.seq (.reg [o 86 (.len true u5), o 87 (.bin .sub u5 u0)])
(.seq (.seq (.reg [o 89 (.bin .geq u0 (kJ 0))])
(.cond u0
(.seq (.post (.reg [o 93 (.call 222 [u1]), o 94 (.call 181 [u5, u0]), o 95 (.call 213 [(.k (.i .u64 1))]), o 96 (.call 221 [u9, u1, u0]), o 97 (.ext 0 u0), o 98 (.ext 1 u1)]) [2, 3] [1, 0])
(.ret [.mv u0, .mv u1]))
 .skip))
(.seq (.post (.reg [o 102 (.un .neg u1), o 103 (.call 222 [u0]), o 104 (.call 221 [u8, u6, u0]), o 105 (.ext 0 u0), o 106 (.ext 1 u1)]) [2, 3] [1, 0])
(.ret [.mv u0, .mv u1])))))))))))))))))
theorem fg152 : FGood Tryz.prog T 152 (.code 1 c152) := ⟨Tryz.call152, Tryz.f152, c152, Tryz.func152, by kernel_rfl⟩
def c153 : BC := (.seq (.reg [o 2 (.mv (.k .pn)), o 3 (.mv kF)])
(.seq (.reg [o 10 (.mkm)])
(.seq (.reg [o 11 (.build [.sn] []), o 12 (.box 1148 u0)])
(.seq (.seq (.reg [o 14 (.len false u5), o 15 (.mv (kJ 0))])
(.block 0 [5] (.pre [4, 5, 13, 14, 15] [4, 2, 7, 1, 0] (.loop (.post (.seq (.reg [o 16 (.bin .lss u4 u3)])
(.seq (.cond u0
 .skip
(.pre [5] [2] (.exit 0)))
(.seq (.block 1 [4, 5, 13, 14, 15] (.seq (.reg [o 17 (.ia 2 u3 u5), o 18 (.ldn 2 u0), o 7 (.alloc 172 [(.i .i64 0), (.s [])]), oC (.stn 2 u0 u1)])
(.seq (.reg [o 20 (.fa 1 u0), o 21 (.ld u0), o 22 (.call 131 [u0]), o 23 (.ext 0 u0), o 24 (.ext 1 u1)])
(.seq (.seq (.post (.reg [o 26 (.un .not u0), oB 28 0 (.fa 0 u6), oB 29 1 (.ld u0), oB 30 2 (.bin .lss u0 (kJ 0)), o 31 (.pick u3 kU u0), oB 33 0 (.fa 0 u10), oB 34 1 (.ld u0), oB 35 2 (.bin .gtr u0 (kJ 999)), o 36 (.pick u3 kU u0), oB 38 0 (.mv u18), oB 39 1 (.fa 0 u15), oB 40 2 (.ld u0), oB 41 3 (.lk 0 (.b false) false u2 u0), o 42 (.pick u4 kU u0)]) [4, 5, 7, 8, 13, 14, 15, 42] [23, 24, 19, 15, 25, 26, 27, 0])
(.cond u7
(.seq (.reg [o 2 (.mv (.k .pn)), o 3 (.mv kF)])
(.ret [.mv u1, .mv u0]))
 .skip))
(.seq (.reg [o 44 (.fa 0 u2), o 45 (.ld u0), oC (.mup 0 u2 u0 kU)])
(.seq (.reg [o 47 (.call 116 [u5]), o 48 (.bin .neq u0 (kJ 0))])
(.cond u0
(.post (.reg [o 51 (.nck u5), o 52 (.fa 0 u0), o 53 (.ld u0), o 54 (.fa 0 u9), o 55 (.ld u0), o 57 (.build [(.i .i64 0), .pn] [(0, 1, u0), (1, 1, u12)]), o 58 (.bsl 1 2 [(.i .i64 0), .pn] [(0, 2, u0)]), o 59 (.app 1156 2 16 u4 u0), o 60 (.nck u13), o 61 (.fa 0 u0), oC (.st u0 u2)]) [4, 5, 13, 14, 15] [14, 15, 18, 19, 20])
(.post .skip [4, 5, 13, 14, 15] [4, 5, 8, 9, 10]))))))))
(.reg [o 62 (.bin .add u4 (kJ 1))])))) [4, 5, 13, 14, 15] [1, 2, 3, 4, 0])))))
(.seq (.reg [o 64 (.nck u0), o 65 (.fa 0 u0), o 66 (.ld u0), o 67 (.call 223 [u0, (.k (.f 224 [] []))])])
(.seq (.reg [o 3 (.mv kU)])
(.ret [.mv u5, .mv u0])))))))
theorem fg153 : FGood Tryz.prog T 153 (.code 1 c153) := ⟨Tryz.call153, Tryz.f153, c153, Tryz.func153, by kernel_rfl⟩
def c154 : BC := (.seq (.reg [o 2 (.mv (.k .pn)), o 3 (.mv kF)])
(.seq (.seq (.reg [o 13 (.len false u2), o 14 (.bin .gtr u0 (kJ 440))])
(.cond u0
(.seq (.reg [o 2 (.mv (.k .pn)), o 3 (.mv kF)])
(.ret [.mv u1, .mv u0]))
 .skip))
(.seq (.reg [o 15 (.build [.sn, (.i .i64 0)] []), o 16 (.box 1180 u0)])
(.seq (.seq (.reg [o 18 (.len false u6), o 19 (.mv (kJ 0))])
(.block 0 [4] (.pre [4, 17, 18, 19] [2, 8, 1, 0] (.loop (.post (.seq (.reg [o 20 (.bin .lss u3 u2)])
(.seq (.cond u0
 .skip
(.pre [4] [1] (.exit 0)))
(.seq (.block 1 [4, 17, 18, 19] (.post (.seq (.reg [o 22 (.ia 1 u2 u4), o 23 (.ld u0)])
(.seq (.seq (.reg [o 25 (.bin .eql u6 (kJ 0))])
(.cond u0
(.post (.reg [o 28 (.len false u1), o 29 (.nck u5), o 30 (.fa 1 u0), oC (.st u0 u2)]) [4, 6, 17, 18, 19] [7, 4, 8, 9, 10])
(.post .skip [4, 6, 17, 18, 19] [4, 1, 5, 6, 7])))
(.seq (.seq (.reg [o 32 (.len false u1), o 34 (.nck u1), o 35 (.fa 1 u0), o 36 (.ld u0), o 37 (.bin .neq u3 u0), oB 39 0 (.mv u6), oB 40 1 (.len false u0), oB 41 2 (.bin .gtr u0 (kJ 440)), o 42 (.pick u3 kU u0)])
(.cond u0
(.seq (.post (.reg [o 2 (.mv (.k .pn)), o 3 (.mv kF)]) [2, 3] [1, 0])
(.ret [.mv u0, .mv u1]))
 .skip))
(.seq (.reg [o 7 (.mv (.k .sn))])
(.seq (.seq (.reg [o 44 (.len false u11), o 45 (.mv (kJ 0))])
(.block 2 [4, 7, 17, 18, 19] (.pre [4, 7, 17, 18, 19, 43, 44, 45] [12, 2, 14, 15, 16, 13, 1, 0] (.loop (.post (.seq (.reg [o 46 (.bin .lss u7 u6)])
(.seq (.cond u0
 .skip
(.pre [4, 7, 17, 18, 19] [1, 2, 3, 4, 5] (.exit 2)))
(.seq (.block 3 [4, 7, 17, 18, 19, 43, 44, 45] (.post (.seq (.reg [o 47 (.ia 1 u6 u8), o 48 (.ld u0)])
(.seq (.reg [o 51 (.call 131 [u0]), o 52 (.ext 0 u0), o 53 (.ext 1 u1)])
(.seq (.seq (.reg [o 55 (.un .not u0)])
(.cond u0
(.seq (.post (.reg [o 2 (.mv (.k .pn)), o 3 (.mv kF)]) [2, 3] [1, 0])
(.ret [.mv u0, .mv u1]))
 .skip))
(.reg [o 58 (.bsl 1 1 [.pn] [(0, 1, u2)]), o 59 (.app 788 1 8 u9 u0)])))) [4, 7, 17, 18, 19, 43, 44, 45] [9, 0, 11, 12, 13, 14, 15, 16]))
(.reg [o 60 (.bin .add u7 (kJ 1))])))) [4, 7, 17, 18, 19, 43, 44, 45] [1, 2, 3, 4, 5, 6, 7, 0])))))
(.reg [o 63 (.nck u0), o 64 (.fa 0 u0), o 65 (.ld u0), o 67 (.bsl 1 1 [.sn] [(0, 1, u4)]), o 68 (.app 944 1 24 u1 u0), o 69 (.nck u5), o 70 (.fa 0 u0), oC (.st u0 u2)])))))) [4, 17, 18, 19] [7, 9, 10, 11]))
(.reg [o 71 (.bin .add u3 (kJ 1))])))) [4, 17, 18, 19] [1, 2, 3, 0])))))
(.seq (.reg [o 3 (.mv kU)])
(.ret [.mv u1, .mv u0]))))))
theorem fg154 : FGood Tryz.prog T 154 (.code 1 c154) := ⟨Tryz.call154, Tryz.f154, c154, Tryz.func154, by kernel_rfl⟩
def c155 : BC := (.seq (.reg [o 3 (.box 944 u1), o 4 (.mv (.k .sn)), o 5 (.mv kF)])
(.seq (.reg [o 14 (.call 226 [u3]), o 15 (.ext 0 u0), o 16 (.ext 1 u1)])
(.seq (.seq (.reg [o 17 (.ld u5), o 18 (.len false u0), o 20 (.bin .neq u0 u3)])
(.cond u0
(.seq (.post (.reg [o 4 (.mv (.k .sn)), o 5 (.mv kF)]) [4, 5] [1, 0])
(.ret [.mv u0, .mv u1]))
 .skip))
(.seq (.post (.reg [o 22 (.mkf 228 [] [u8]), o 23 (.call 227 [u10, u0])]) [7, 8] [5, 0])
(.seq (.seq (.reg [o 26 (.call 229 [u1, u0]), o 28 (.bin .lss u0 u1)])
(.cond u0
(.seq (.reg [o 4 (.mv (.k .sn)), o 5 (.mv kF)])
(.ret [.mv u1, .mv u0]))
 .skip))
(.seq (.reg [o 29 (.bsl 0 1 [.pn] [])])
(.seq (.seq (.reg [o 31 (.len false u4), o 32 (.mv (kJ 0))])
(.block 0 [9] (.pre [7, 9, 30, 31, 32] [5, 2, 6, 1, 0] (.loop (.post (.seq (.reg [o 33 (.bin .lss u4 u3)])
(.seq (.cond u0
 .skip
(.pre [9] [2] (.exit 0)))
(.seq (.block 1 [7, 9, 30, 31, 32] (.seq (.reg [o 35 (.ia 1 u3 u5), o 36 (.ld u0)])
(.block 2 [7, 9, 30, 31, 32] (.seq (.reg [o 40 (.bin .lss u7 u3)])
(.cond u0
(.post (.reg [o 44 (.ia 1 u1 u4), o 45 (.ld u0), o 46 (.call 120 [u0, (.k .pn)]), o 47 (.bsl 1 1 [.pn] [(0, 1, u0)]), o 48 (.app 788 1 8 u9 u0)]) [7, 9, 30, 31, 32] [9, 0, 11, 12, 13])
(.post (.seq (.reg [o 52 (.ia 1 u1 u4), o 53 (.ld u0), o 54 (.call 116 [u0]), o 55 (.bin .neq u0 (kJ 0))])
(.cond u0
(.seq (.post (.reg [o 4 (.mv (.k .sn)), o 5 (.mv kF)]) [4, 5] [1, 0])
(.ret [.mv u0, .mv u1]))
 .skip)) [7, 9, 30, 31, 32] [8, 9, 10, 11, 12]))))))
(.reg [o 56 (.bin .add u4 (kJ 1))])))) [7, 9, 30, 31, 32] [1, 2, 3, 4, 0])))))
(.seq (.reg [o 5 (.mv kU)])
(.ret [.mv u1, .mv u0])))))))))
theorem fg155 : FGood Tryz.prog T 155 (.code 2 c155) := ⟨Tryz.call155, Tryz.f155, c155, Tryz.func155, by kernel_rfl⟩
def c156 : BC := (.seq (.reg [o 2 (.mv (.k .pn))])
(.seq (.reg [o 4 (.bin .lss u1 (kJ 0)), o 6 (.call 230 [u2]), o 7 (.call 213 [u0]), o 8 (.call 213 [(.k (.i .u64 1))]), o 9 (.build [(.b false), .pn, .pn] [(0, 1, u3), (1, 1, u1), (2, 1, u0)]), o 10 (.box 1008 u0)])
(.ret [.mv u0])))
theorem fg156 : FGood Tryz.prog T 156 (.code 1 c156) := ⟨Tryz.call156, Tryz.f156, c156, Tryz.func156, by kernel_rfl⟩
def c157 : BC := (.seq (.reg [o 2 (.mv (kJ 0))])
(.seq (.reg [o 5 (.call 231 [u1])])
(.seq (.seq (.reg [o 7 (.len false u0), o 8 (.bin .eql u0 (kJ 0))])
(.cond u0
(.seq (.reg [o 2 (.mv (kJ 0))])
(.ret [.mv u0]))
 .skip))
(.seq (.post (.reg [o 10 (.len false u2), o 11 (.bin .sub u0 (kJ 1)), o 12 (.bin .mul (kJ 32) u0), o 15 (.len false u5), o 16 (.bin .sub u0 (kJ 1)), o 17 (.ia 1 u7 u0), o 18 (.ld u0), o 19 (.cvi .u64 u0), o 20 (.call 164 [u0]), o 21 (.bin .add u6 u0)]) [2] [0])
(.ret [.mv u0])))))
theorem fg157 : FGood Tryz.prog T 157 (.code 1 c157) := ⟨Tryz.call157, Tryz.f157, c157, Tryz.func157, by kernel_rfl⟩
def c158 : BC := (.seq (.reg [o 2 (.mv (kJ 0))])
(.seq (.seq (.reg [o 6 (.call 231 [u1]), o 7 (.len false u0), o 8 (.mv (kJ 0))])
(.block 0 [] (.pre [6, 7, 8] [2, 1, 0] (.loop (.post (.seq (.reg [o 9 (.bin .lss u2 u1)])
(.seq (.cond u0
 .skip
(.pre [] [] (.exit 0)))
(.seq (.block 1 [6, 7, 8] (.post (.seq (.reg [o 11 (.ia 1 u1 u3), o 12 (.ld u0)])
(.seq (.reg [o 14 (.bin .neq u0 (.k (.i .u32 0)))])
(.cond u0
(.seq (.post (.reg [o 16 (.bin .mul (kJ 32) u6), o 18 (.cvi .u64 u2), o 19 (.call 232 [u0]), o 20 (.bin .add u2 u0)]) [2] [0])
(.ret [.mv u0]))
 .skip))) [6, 7, 8] [4, 5, 6]))
(.reg [o 21 (.bin .add u2 (kJ 1))])))) [6, 7, 8] [1, 2, 0])))))
(.seq (.reg [o 2 (.mv (kJ 0))])
(.ret [.mv u0]))))
theorem fg158 : FGood Tryz.prog T 158 (.code 1 c158) := ⟨Tryz.call158, Tryz.f158, c158, Tryz.func158, by kernel_rfl⟩
def c159 : BC := (.seq (.reg [o 2 (.mv (.k (.s [])))])
(.seq (.reg [o 9 (.call 231 [u1]), o 10 (.app 1212 1 4 (.k .sn) u0)])
(.seq (.reg [o 4 (.mv (.k (.s [])))])
(.seq (.block 0 [4] (.pre [3, 4] [1, 0] (.loop (.seq (.seq (.reg [o 12 (.len false u0), o 13 (.bin .gtr u0 (kJ 0))])
(.cond u0
 .skip
(.pre [4] [3] (.exit 0))))
(.block 1 [3, 4] (.post (.seq (.reg [o 16 (.call 233 [u2, (.k (.i .u64 1000000000))]), o 17 (.ext 0 u0), o 18 (.ext 1 u1)])
(.seq (.reg [o 20 (.call 211 [u1]), o 21 (.nck u0), o 22 (.fa 0 u0), o 23 (.ld u0)])
(.seq (.reg [o 25 (.call 234 [u4, (kJ 10)])])
(.seq (.seq (.reg [o 27 (.len false u1), o 28 (.bin .gtr u0 (kJ 0))])
(.cond u0
(.post (.reg [o 30 (.len true u2), o 31 (.bin .sub (kJ 9) u0), o 32 (.call 235 [(.k (.s [48])), u0]), o 34 (.bin .add u0 u5)]) [3, 4, 7] [7, 17, 0])
(.post .skip [3, 4, 7] [3, 13, 2])))
(.reg [o 37 (.bin .add u2 u1)]))))) [3, 4] [1, 0]))))))
(.seq (.seq (.reg [o 39 (.bin .eql u0 (.k (.s [])))])
(.cond u0
(.seq (.reg [o 2 (.mv (.k (.s [48])))])
(.ret [.mv u0]))
 .skip))
(.seq (.reg [])
(.ret [.mv u1])))))))
theorem fg159 : FGood Tryz.prog T 159 (.code 1 c159) := ⟨Tryz.call159, Tryz.f159, c159, Tryz.func159, by kernel_rfl⟩
def c160 : BC := (.seq (.reg [o 2 (.mv (.k .pn))])
(.seq (.reg [o 11 (.call 176 [u1]), o 12 (.ext 0 u0), o 13 (.ext 1 u1), o 14 (.ext 2 u2)])
(.seq (.reg [o 18 (.call 236 [u1, u0]), o 19 (.ext 0 u0), o 20 (.ext 1 u1), o 21 (.ext 2 u2)])
(.seq (.seq (.reg [oA 24 6 (.mv u1), oA 25 7 (.call 177 [u0]), oA 26 8 (.un .not u0), o 27 (.pick u9 u0 kF)])
(.cond u0
(.post (.reg [o 29 (.call 213 [(.k (.i .u64 1))]), o 30 (.call 214 [u7, u0])]) [3, 6] [12, 0])
(.post .skip [3, 6] [10, 6])))
(.seq (.reg [o 33 (.call 213 [(.k (.i .u64 1))]), o 34 (.call 178 [u1, u2, u0])])
(.ret [.mv u0]))))))
theorem fg160 : FGood Tryz.prog T 160 (.code 1 c160) := ⟨Tryz.call160, Tryz.f160, c160, Tryz.func160, by kernel_rfl⟩
def c161 : BC := (.seq (.reg [o 2 (.mv (kJ 0))])
(.seq (.reg [o 4 (.call 237 [u1]), o 5 (.len false u0)])
(.ret [.mv u0])))
theorem fg161 : FGood Tryz.prog T 161 (.code 1 c161) := ⟨Tryz.call161, Tryz.f161, c161, Tryz.func161, by kernel_rfl⟩
def c162 : BC := (.seq (.reg [o 4 (.mv (.k .pn))])
(.seq (.seq (.reg [o 8 (.call 237 [u1]), o 9 (.len false u0), o 10 (.mv (kJ 0))])
(.block 0 [] (.pre [1, 8, 9, 10] [5, 2, 1, 0] (.loop (.post (.seq (.reg [o 11 (.bin .lss u3 u2)])
(.seq (.cond u0
 .skip
(.pre [] [] (.exit 0)))
(.seq (.block 1 [1, 8, 9, 10] (.post (.seq (.reg [o 12 (.ia 2 u2 u4), o 13 (.ldn 2 u0), o 6 (.alloc 1156 [(.i .i64 0), .pn]), oC (.stn 2 u0 u1)])
(.seq (.reg [o 14 (.fa 0 u0), o 15 (.ld u0), o 17 (.bin .eql u0 u6)])
(.cond u0
(.seq (.post (.reg [o 18 (.fa 1 u3), o 19 (.ld u0)]) [4] [0])
(.ret [.mv u0]))
 .skip))) [1, 8, 9, 10] [7, 8, 9, 10]))
(.reg [o 20 (.bin .add u3 (kJ 1))])))) [1, 8, 9, 10] [1, 2, 3, 0])))))
(.seq (.reg [o 21 (.call 156 [(kJ 0)])])
(.ret [.mv u0]))))
theorem fg162 : FGood Tryz.prog T 162 (.code 2 c162) := ⟨Tryz.call162, Tryz.f162, c162, Tryz.func162, by kernel_rfl⟩
def c163 : BC := (.seq (.reg [o 2 (.mv (kJ 0))])
(.seq (.reg [o 7 (.call 226 [u1]), o 8 (.ext 0 u0), o 9 (.ext 1 u1)])
(.seq (.reg [o 11 (.call 227 [u4, (.k (.f 238 [] []))]), o 13 (.call 229 [u0, u1])])
(.ret [.mv u0]))))
theorem fg163 : FGood Tryz.prog T 163 (.code 1 c163) := ⟨Tryz.call163, Tryz.f163, c163, Tryz.func163, by kernel_rfl⟩
def c164 : BC := (.seq (.reg [o 2 (.mv (kJ 0))])
(.seq (.reg [o 3 (.mv (kJ 0))])
(.seq (.seq (.reg [o 4 (.mv (kJ 32))])
(.block 0 [0, 3] (.pre [0, 3, 4] [3, 1, 0] (.loop (.post (.seq (.seq (.reg [o 6 (.bin .gtr u2 (kJ 0))])
(.cond u0
 .skip
(.pre [0, 3] [1, 2] (.exit 0))))
(.seq (.block 1 [0, 3, 4] (.seq (.reg [o 11 (.bin .shr u1 u3), o 12 (.bin .neq u0 (.k (.i .u64 0)))])
(.cond u0
(.post (.seq (.reg [o 15 (.bin .shr u3 u5)])
(.reg [o 18 (.bin .add u5 u6)])) [0, 3, 4] [1, 0, 7])
(.post .skip [0, 3, 4] [3, 4, 5]))))
(.reg [o 8 (.bin .quo u2 (kJ 2))]))) [0, 3, 4] [1, 2, 0])))))
(.seq (.reg [o 21 (.cvi .i64 u0), o 22 (.bin .add u2 u0)])
(.ret [.mv u0])))))
theorem fg164 : FGood Tryz.prog T 164 (.code 1 c164) := ⟨Tryz.call164, Tryz.f164, c164, Tryz.func164, by kernel_rfl⟩
def c165 : BC := (.seq (.reg [o 4 (.mv (kJ 0))])
(.seq (.seq (.reg [o 7 (.len false u1), o 8 (.mv (kJ 0))])
(.block 0 [] (.pre [0, 1, 7, 8] [3, 4, 1, 0] (.loop (.post (.seq (.reg [o 9 (.bin .lss u3 u2)])
(.seq (.cond u0
 .skip
(.pre [] [] (.exit 0)))
(.seq (.block 1 [0, 1, 7, 8] (.post (.seq (.reg [])
(.seq (.reg [o 14 (.ia 2 u1 u4), o 15 (.ldn 2 u0), o 16 (.callv u4 [u0])])
(.cond u0
(.seq (.reg [])
(.ret [.mv u7]))
 .skip))) [0, 1, 7, 8] [4, 5, 6, 7]))
(.reg [o 18 (.bin .add u3 (kJ 1))])))) [0, 1, 7, 8] [1, 2, 3, 0])))))
(.seq (.reg [o 4 (.mv (.k (.i .i64 (-1))))])
(.ret [.mv u0]))))
theorem fg165 : FGood Tryz.prog T 165 (.code 2 c165) := ⟨Tryz.call165, Tryz.f165, c165, Tryz.func165, by kernel_rfl⟩
def c166 : BC := (.seq (.reg [o 1 (.box 376 u0), o 2 (.mv kF)])
(.seq (.reg [o 3 (.ldn 2 u1), o 4 (.call 167 [u0]), o 5 (.un .not u0)])
(.ret [.mv u0])))
theorem fg166 : FGood Tryz.prog T 166 (.code 1 c166) := ⟨Tryz.call166, Tryz.f166, c166, Tryz.func166, by kernel_rfl⟩
def c167 : BC := (.seq (.reg [o 1 (.box 376 u0), o 2 (.mv kF)])
(.seq (.reg [o 9 (.fa 0 u1), o 10 (.ld u0), o 11 (.call 131 [u0]), o 12 (.ext 0 u0), o 13 (.ext 1 u1)])
(.seq (.seq (.post (.reg [o 15 (.un .not u0), oB 17 0 (.mv u2), oB 18 1 (.call 116 [u0]), oB 19 2 (.bin .leq u0 (kJ 0)), o 20 (.pick u3 kU u0)]) [1, 20] [11, 0])
(.cond u1
(.seq (.reg [o 2 (.mv kF)])
(.ret [.mv u0]))
 .skip))
(.seq (.reg [o 21 (.mkm)])
(.seq (.seq (.reg [o 22 (.fa 1 u1), o 23 (.ld u0), o 24 (.len false u0), o 25 (.mv (kJ 0))])
(.block 0 [] (.pre [5, 23, 24, 25] [4, 2, 1, 0] (.loop (.post (.seq (.reg [o 26 (.bin .lss u3 u2)])
(.seq (.cond u0
 .skip
(.pre [] [] (.exit 0)))
(.seq (.block 1 [5, 23, 24, 25] (.post (.seq (.reg [o 27 (.ia 3 u2 u4), o 28 (.ldn 3 u0), o 7 (.alloc 364 [(.s []), (.s []), (.s [])]), oC (.stn 3 u0 u1)])
(.seq (.seq (.post (.reg [o 29 (.fa 0 u0), o 30 (.ldn 2 u0), o 31 (.call 239 [u0]), o 32 (.un .not u0), oB 34 0 (.fa 2 u4), oB 35 1 (.ld u0), oB 36 2 (.call 240 [u0]), oB 37 3 (.un .not u0), o 38 (.pick u4 kU u0), oB 40 0 (.mv u13), oB 41 1 (.fa 0 u10), oB 42 2 (.ldn 2 u0), oB 43 3 (.lk 13 (.b false) false u2 u0), o 44 (.pick u4 kU u0)]) [5, 7, 23, 24, 25, 44] [18, 14, 19, 20, 21, 0])
(.cond u5
(.seq (.reg [o 2 (.mv kF)])
(.ret [.mv u0]))
 .skip))
(.reg [o 46 (.fa 0 u1), o 47 (.ldn 2 u0), oC (.mup 13 u2 u0 kU)]))) [5, 23, 24, 25] [2, 4, 5, 6]))
(.reg [o 48 (.bin .add u3 (kJ 1))])))) [5, 23, 24, 25] [1, 2, 3, 0])))))
(.seq (.reg [o 2 (.mv kU)])
(.ret [.mv u0])))))))
theorem fg167 : FGood Tryz.prog T 167 (.code 1 c167) := ⟨Tryz.call167, Tryz.f167, c167, Tryz.func167, by kernel_rfl⟩
def c168 : BC := (.seq (.reg [o 1 (.box 348 u0), o 2 (.mv kF)])
(.seq (.post (.reg [o 3 (.fa 1 u1), o 4 (.ld u0), o 5 (.len false u0), o 6 (.bin .gtr u0 (kJ 0)), oA 8 0 (.fa 0 u5), oA 9 1 (.ld u0), oA 10 2 (.bin .eql u0 (.k (.s []))), o 11 (.pick u3 u0 kF), oA 13 0 (.fa 1 u9), oA 14 1 (.ld u0), oA 15 2 (.mkf 241 [] [u11]), oA 16 3 (.call 95 [u1, u0]), oA 17 4 (.un .not u0), o 18 (.pick u5 u0 kF)]) [2] [0])
(.ret [.mv u0])))
theorem fg168 : FGood Tryz.prog T 168 (.code 1 c168) := ⟨Tryz.call168, Tryz.f168, c168, Tryz.func168, by kernel_rfl⟩
def c169 : BC := (.seq (.reg [o 4 (.mv (kJ 0))])
(.seq (.seq (.reg [o 7 (.len false u1), o 8 (.mv (kJ 0))])
(.block 0 [] (.pre [0, 1, 7, 8] [3, 4, 1, 0] (.loop (.post (.seq (.reg [o 9 (.bin .lss u3 u2)])
(.seq (.cond u0
 .skip
(.pre [] [] (.exit 0)))
(.seq (.block 1 [0, 1, 7, 8] (.post (.seq (.reg [])
(.seq (.reg [o 14 (.ia 2 u1 u4), o 15 (.ldn 2 u0), o 16 (.callv u4 [u0])])
(.cond u0
(.seq (.reg [])
(.ret [.mv u7]))
 .skip))) [0, 1, 7, 8] [4, 5, 6, 7]))
(.reg [o 18 (.bin .add u3 (kJ 1))])))) [0, 1, 7, 8] [1, 2, 3, 0])))))
(.seq (.reg [o 4 (.mv (.k (.i .i64 (-1))))])
(.ret [.mv u0]))))
theorem fg169 : FGood Tryz.prog T 169 (.code 2 c169) := ⟨Tryz.call169, Tryz.f169, c169, Tryz.func169, by kernel_rfl⟩
def c170 : BC := (.seq (.reg [o 4 (.mv (kJ 0))])
(.seq (.reg [o 7 (.call 118 [u1, u2]), o 8 (.call 116 [u0])])
(.ret [.mv u0])))
theorem fg170 : FGood Tryz.prog T 170 (.code 2 c170) := ⟨Tryz.call170, Tryz.f170, c170, Tryz.func170, by kernel_rfl⟩
def c171 : BC := (.seq (.reg [o 2 (.box 200 u0), o 3 (.mv kF)])
(.seq (.reg [o 4 (.fa 0 u1), o 5 (.ld u0), o 6 (.ld u5), o 7 (.bin .eql u1 u0)])
(.ret [.mv u0])))
theorem fg171 : FGood Tryz.prog T 171 (.code 2 c171) := ⟨Tryz.call171, Tryz.f171, c171, Tryz.func171, by kernel_rfl⟩
def c172 : BC := (.seq (.reg [o 2 (.box 188 u0), o 3 (.mv kF)])
(.seq (.reg [o 4 (.fa 0 u1), o 5 (.ld u0), o 6 (.ld u5), o 7 (.bin .eql u1 u0)])
(.ret [.mv u0])))
theorem fg172 : FGood Tryz.prog T 172 (.code 2 c172) := ⟨Tryz.call172, Tryz.f172, c172, Tryz.func172, by kernel_rfl⟩
def c173 : BC := (.seq (.reg [o 4 (.mv (kJ 0))])
(.seq (.reg [o 15 (.len true u2)])
(.seq (.block 0 [0, 1, 5] (.post (.seq (.reg [o 18 (.bin .eql u0 (kJ 0)), oB 20 0 (.mv u4), oB 21 1 (.mv u4), oB 22 2 (.bin .eql u1 u0), o 23 (.pick u3 kU u0)])
(.cond u0
(.seq (.reg [o 4 (.mv (kJ 0))])
(.ret [.mv u0]))
(.seq (.reg [o 26 (.bin .eql u5 (kJ 1))])
(.cond u0
(.seq (.post (.reg [o 29 (.ix u9 (kJ 0)), o 30 (.call 242 [u9, u0])]) [4] [0])
(.ret [.mv u0]))
(.seq (.reg [o 34 (.len true u8), o 35 (.bin .geq u7 u0)])
(.cond u0
(.seq (.post (.reg [o 4 (.mv (.k (.i .i64 (-1))))]) [4] [0])
(.ret [.mv u0]))
(.seq (.post (.reg [o 38 (.ld (.k (.p 0 0))), o 39 (.bin .leq u9 u0), oA 41 0 (.mv u12), oA 42 1 (.len true u0), oA 43 2 (.bin .leq u0 (kJ 64)), o 44 (.pick u3 u0 kF)]) [0, 1, 5, 36] [16, 17, 14, 0])
(.cond u3
(.seq (.reg [o 47 (.call 243 [u0, u1])])
(.ret [.mv u0]))
 .skip)))))))) [0, 1, 5] [0, 1, 2]))
(.seq (.reg [o 49 (.ix u1 (kJ 0))])
(.seq (.reg [o 51 (.ix u2 (kJ 1))])
(.seq (.reg [o 8 (.mv (kJ 0))])
(.seq (.reg [o 53 (.len true u3), o 55 (.bin .sub u0 u6), o 56 (.bin .add u0 (kJ 1))])
(.seq (.reg [o 10 (.mv (kJ 0))])
(.seq (.block 1 [] (.pre [0, 1, 5, 6, 7, 8, 9, 10] [7, 8, 9, 6, 5, 4, 1, 0] (.loop (.seq (.seq (.reg [o 59 (.bin .lss u5 u6)])
(.cond u0
 .skip
(.pre [] [] (.exit 1))))
(.block 2 [0, 1, 5, 6, 7, 8, 9, 10] (.post (.seq (.seq (.reg [o 62 (.ix u1 u6), o 64 (.bin .neq u0 u5)])
(.cond u0
(.post (.seq (.reg [o 67 (.bin .add u8 (kJ 1)), o 69 (.sls u4 (some u0) (some u10)), o 71 (.call 242 [u0, u8])])
(.seq (.seq (.reg [o 73 (.bin .lss u0 (kJ 0))])
(.cond u0
(.seq (.post (.reg [o 4 (.mv (.k (.i .i64 (-1))))]) [4] [0])
(.ret [.mv u0]))
 .skip))
(.reg [o 76 (.bin .add u1 (kJ 1)), o 77 (.bin .add u13 u0)]))) [0, 1, 5, 6, 7, 8, 9, 10] [9, 10, 11, 12, 13, 0, 15, 16])
(.post .skip [0, 1, 5, 6, 7, 8, 9, 10] [3, 4, 5, 6, 7, 8, 9, 10])))
(.seq (.seq (.reg [o 80 (.bin .add u5 (kJ 1)), o 81 (.ix u1 u0), o 83 (.bin .eql u0 u6), oA 85 0 (.mv u3), oA 86 1 (.mv u9), oA 87 2 (.mv u10), oA 88 3 (.mv u8), oA 89 4 (.bin .add u1 u0), oA 90 5 (.sls u4 (some u3) (some u0)), oA 91 6 (.mv u10), oA 92 7 (.bin .eql u1 u0), o 93 (.pick u8 u0 kF)])
(.cond u0
(.seq (.post (.reg []) [4] [17])
(.ret [.mv u0]))
 .skip))
(.seq (.reg [o 96 (.bin .add u17 (kJ 1))])
(.seq (.reg [o 98 (.bin .add u20 (kJ 1))])
(.seq (.post (.reg [o 100 (.ld (.k (.p 0 0))), o 101 (.bin .leq u17 u0), oA 103 0 (.mv u2), oA 104 1 (.mv u4), oA 105 2 (.call 244 [u0]), oA 106 3 (.bin .gtr u2 u0), o 107 (.pick u4 u0 kF)]) [0, 1, 5, 6, 7, 8, 9, 10, 107] [21, 22, 23, 24, 25, 8, 27, 7, 0])
(.cond u8
(.seq (.reg [o 110 (.sls u0 (some u5) none), o 112 (.call 243 [u0, u2])])
(.seq (.seq (.reg [o 114 (.bin .geq u0 (kJ 0))])
(.cond u0
(.seq (.post (.reg [o 117 (.bin .add u1 u8)]) [4] [0])
(.ret [.mv u0]))
 .skip))
(.seq (.post (.reg [o 4 (.mv (.k (.i .i64 (-1))))]) [4] [0])
(.ret [.mv u0]))))
(.seq (.reg [o 119 (.ld (.k (.p 0 0))), o 120 (.bin .gtr u3 u0), oA 122 0 (.mv u9), oA 123 1 (.mv u8), oA 124 2 (.bin .shr u0 (.k (.i .u64 4))), oA 125 3 (.bin .add (kJ 4) u0), oA 126 4 (.bin .geq u3 u0), o 127 (.pick u5 u0 kF), oA 129 0 (.mv u13), oA 130 1 (.mv u15), oA 131 2 (.bin .lss u1 u0), o 132 (.pick u3 u0 kF)])
(.cond u0
(.seq (.post (.reg [o 135 (.sls u12 (some u17) none), o 137 (.call 245 [u0, u14])]) [8, 13] [19, 0])
(.seq (.seq (.reg [o 139 (.bin .lss u1 (kJ 0))])
(.cond u0
(.seq (.reg [o 4 (.mv (.k (.i .i64 (-1))))])
(.ret [.mv u0]))
 .skip))
(.seq (.reg [o 142 (.bin .add u1 u2)])
(.ret [.mv u0]))))
 .skip)))))))) [0, 1, 5, 6, 7, 8, 9, 10] [12, 13, 14, 15, 16, 17, 18, 19]))))))
(.seq (.reg [o 4 (.mv (.k (.i .i64 (-1))))])
(.ret [.mv u0])))))))))))
theorem fg173 : FGood Tryz.prog T 173 (.code 2 c173) := ⟨Tryz.call173, Tryz.f173, c173, Tryz.func173, by kernel_rfl⟩
def c174 : BC := (.seq (.reg [o 4 (.mv (.k (.s [])))])
(.seq (.seq (.reg [o 7 (.call 246 [u1, u2])])
(.cond u0
(.seq (.reg [o 10 (.len true u2), o 12 (.len true u4), o 13 (.bin .sub u1 u0), o 14 (.sls u5 none (some u0))])
(.ret [.mv u0]))
 .skip))
(.seq (.reg [])
(.ret [.mv u2]))))
theorem fg174 : FGood Tryz.prog T 174 (.code 2 c174) := ⟨Tryz.call174, Tryz.f174, c174, Tryz.func174, by kernel_rfl⟩
def c175 : BC := (.seq (.reg [o 4 (.mv (kJ 0))])
(.seq (.seq (.reg [o 7 (.len false u1), o 8 (.mv (kJ 0))])
(.block 0 [] (.pre [0, 1, 7, 8] [3, 4, 1, 0] (.loop (.post (.seq (.reg [o 9 (.bin .lss u3 u2)])
(.seq (.cond u0
 .skip
(.pre [] [] (.exit 0)))
(.seq (.block 1 [0, 1, 7, 8] (.post (.seq (.reg [])
(.seq (.reg [o 14 (.ia 2 u1 u4), o 15 (.ldn 2 u0), o 16 (.callv u4 [u0])])
(.cond u0
(.seq (.reg [])
(.ret [.mv u7]))
 .skip))) [0, 1, 7, 8] [4, 5, 6, 7]))
(.reg [o 18 (.bin .add u3 (kJ 1))])))) [0, 1, 7, 8] [1, 2, 3, 0])))))
(.seq (.reg [o 4 (.mv (.k (.i .i64 (-1))))])
(.ret [.mv u0]))))
theorem fg175 : FGood Tryz.prog T 175 (.code 2 c175) := ⟨Tryz.call175, Tryz.f175, c175, Tryz.func175, by kernel_rfl⟩
def c176 : BC := (.seq (.reg [o 2 (.mv kF), o 3 (.mv (.k .pn)), o 4 (.mv (.k .pn))])
(.seq (.seq (.reg [o 6 (.eq 1 false u3 (.k .pn)), oB 8 0 (.mv u4), oB 9 1 (.nck u0), oB 10 2 (.fa 2 u0), oB 11 3 (.ld u0), oB 12 4 (.eq 1 false u0 (.k .pn)), o 13 (.pick u5 kU u0)])
(.cond u0
(.seq (.reg [o 14 (.call 213 [(.k (.i .u64 0))]), o 15 (.call 213 [(.k (.i .u64 1))]), o 2 (.mv kF)])
(.ret [.mv u0, .mv u2, .mv u1]))
 .skip))
(.seq (.post (.reg [o 17 (.nck u10), o 18 (.fa 0 u0), o 19 (.ld u0), o 21 (.nck u13), o 22 (.fa 1 u0), o 23 (.ld u0), o 25 (.nck u16), o 26 (.fa 2 u0), o 27 (.ld u0)]) [2, 3, 4] [6, 3, 0])
(.ret [.mv u0, .mv u1, .mv u2]))))
theorem fg176 : FGood Tryz.prog T 176 (.code 1 c176) := ⟨Tryz.call176, Tryz.f176, c176, Tryz.func176, by kernel_rfl⟩
def c177 : BC := (.seq (.reg [o 2 (.mv kF)])
(.seq (.reg [o 4 (.call 157 [u1]), o 5 (.bin .eql u0 (kJ 0))])
(.ret [.mv u0])))
theorem fg177 : FGood Tryz.prog T 177 (.code 1 c177) := ⟨Tryz.call177, Tryz.f177, c177, Tryz.func177, by kernel_rfl⟩
def c178 : BC := (.seq (.reg [o 6 (.mv (.k .pn))])
(.seq (.reg [o 13 (.call 221 [u1, u2, u3]), o 14 (.ext 0 u0), o 15 (.ext 1 u1)])
(.seq (.reg [])
(.ret [.mv u1]))))
theorem fg178 : FGood Tryz.prog T 178 (.code 3 c178) := ⟨Tryz.call178, Tryz.f178, c178, Tryz.func178, by kernel_rfl⟩
def c179 : BC := (.seq (.reg [o 4 (.mv (kJ 0))])
(.seq (.reg [o 11 (.call 231 [u1]), o 13 (.call 231 [u3])])
(.seq (.seq (.reg [o 15 (.len false u1), o 17 (.len false u1), o 18 (.mm true u1 [u0]), o 19 (.bin .sub u0 (kJ 1))])
(.block 0 [] (.pre [5, 6, 7] [5, 4, 0] (.loop (.post (.seq (.seq (.reg [o 21 (.bin .geq u2 (kJ 0))])
(.cond u0
 .skip
(.pre [] [] (.exit 0))))
(.seq (.block 1 [5, 6, 7] (.post (.seq (.reg [o 26 (.call 247 [u1, u3]), o 29 (.call 247 [u3, u4])])
(.seq (.reg [o 32 (.bin .neq u1 u0)])
(.cond u0
(.seq (.seq (.reg [o 35 (.bin .lss u2 u1)])
(.cond u0
(.seq (.reg [o 4 (.mv (.k (.i .i64 (-1))))])
(.ret [.mv u0]))
 .skip))
(.seq (.reg [o 4 (.mv (kJ 1))])
(.ret [.mv u0])))
 .skip))) [5, 6, 7] [4, 5, 6]))
(.reg [o 23 (.bin .sub u2 (kJ 1))]))) [5, 6, 7] [1, 2, 0])))))
(.seq (.reg [o 4 (.mv (kJ 0))])
(.ret [.mv u0])))))
theorem fg179 : FGood Tryz.prog T 179 (.code 2 c179) := ⟨Tryz.call179, Tryz.f179, c179, Tryz.func179, by kernel_rfl⟩
def c180 : BC := (.seq (.reg [o 8 (.mv kF), o 9 (.mv (.k .pn))])
(.seq (.seq (.reg [o 16 (.eq 0 false u2 u4)])
(.cond u0
(.seq (.reg [o 20 (.call 214 [u4, u6])])
(.ret [.mv u4, .mv u0]))
 .skip))
(.seq (.seq (.reg [o 24 (.call 248 [u4, u6]), o 25 (.ext 0 u0), o 26 (.ext 1 u1)])
(.seq (.reg [])
(.cond u0
(.seq (.reg [])
(.ret [.mv u6, .mv u1]))
 .skip)))
(.seq (.post (.reg [o 33 (.call 248 [u9, u7]), o 34 (.ext 0 u0), o 35 (.ext 1 u1)]) [2, 12] [11, 1])
(.seq (.reg [])
(.ret [.mv u0, .mv u1]))))))
theorem fg180 : FGood Tryz.prog T 180 (.code 4 c180) := ⟨Tryz.call180, Tryz.f180, c180, Tryz.func180, by kernel_rfl⟩
def c181 : BC := (.seq (.reg [o 4 (.mv (.k .pn))])
(.seq (.reg [o 14 (.call 231 [u1]), o 16 (.call 231 [u3])])
(.seq (.reg [o 18 (.len false u1), o 20 (.len false u1), o 21 (.bin .add u1 u0), o 22 (.mks 1 4 [(.i .u32 0)] u0 u0)])
(.seq (.seq (.reg [o 24 (.len false u5), o 25 (.mv (kJ 0))])
(.block 0 [7] (.pre [6, 7, 23, 24, 25] [6, 2, 7, 1, 0] (.loop (.post (.seq (.reg [o 26 (.bin .lss u4 u3)])
(.seq (.cond u0
 .skip
(.pre [7] [2] (.exit 0)))
(.seq (.block 1 [6, 7, 23, 24, 25] (.post (.seq (.reg [o 28 (.ia 1 u3 u5), o 29 (.ld u0)])
(.seq (.reg [o 10 (.mv (.k (.i .u64 0)))])
(.seq (.seq (.reg [o 31 (.len false u4), o 32 (.mv (kJ 0))])
(.block 2 [6, 7, 8, 10, 23, 24, 25] (.pre [6, 7, 8, 9, 10, 23, 24, 25, 30, 31, 32] [6, 7, 10, 3, 2, 8, 9, 10, 6, 1, 0] (.loop (.post (.seq (.reg [o 33 (.bin .lss u10 u9)])
(.seq (.cond u0
 .skip
(.pre [6, 7, 8, 10, 23, 24, 25] [1, 2, 3, 5, 6, 7, 8] (.exit 2)))
(.seq (.block 3 [6, 7, 8, 9, 10, 23, 24, 25, 30, 31, 32] (.post (.seq (.reg [o 35 (.ia 1 u9 u11), o 36 (.ld u0)])
(.seq (.reg [o 39 (.cvi .u64 u6), o 41 (.cvi .u64 u1), o 42 (.bin .mul u1 u0), o 46 (.bin .add u8 u16), o 47 (.ia 1 u8 u0), o 48 (.ld u0), o 49 (.cvi .u64 u0), o 50 (.bin .add u4 u0), o 51 (.bin .add u15 u0)])
(.seq (.reg [o 55 (.bin .add u14 u22), o 57 (.cvi .u32 u1), o 58 (.ia 1 u15 u1), oC (.st u0 u1)])
(.reg [o 60 (.bin .shr u3 (.k (.i .u64 32)))])))) [6, 7, 8, 9, 10, 23, 24, 25, 30, 31, 32] [16, 17, 18, 19, 0, 21, 22, 23, 24, 25, 26]))
(.reg [o 61 (.bin .add u10 (kJ 1))])))) [6, 7, 8, 9, 10, 23, 24, 25, 30, 31, 32] [1, 2, 3, 4, 5, 6, 7, 8, 9, 10, 0])))))
(.reg [o 65 (.len false u0), o 66 (.bin .add u3 u0), o 68 (.cvi .u32 u5), o 69 (.ia 1 u4 u1), oC (.st u0 u1)])))) [6, 7, 23, 24, 25] [4, 5, 8, 9, 10]))
(.reg [o 70 (.bin .add u4 (kJ 1))])))) [6, 7, 23, 24, 25] [1, 2, 3, 4, 0])))))
(.seq (.reg [o 72 (.call 211 [u0])])
(.ret [.mv u0]))))))
theorem fg181 : FGood Tryz.prog T 181 (.code 2 c181) := ⟨Tryz.call181, Tryz.f181, c181, Tryz.func181, by kernel_rfl⟩
def c182 : BC := (.seq (.reg [o 4 (.mv (kJ 0))])
(.seq (.seq (.reg [o 7 (.len false u1), o 8 (.mv (kJ 0))])
(.block 0 [] (.pre [0, 1, 7, 8] [3, 4, 1, 0] (.loop (.post (.seq (.reg [o 9 (.bin .lss u3 u2)])
(.seq (.cond u0
 .skip
(.pre [] [] (.exit 0)))
(.seq (.block 1 [0, 1, 7, 8] (.post (.seq (.reg [])
(.seq (.reg [o 14 (.ia 1 u1 u4), o 15 (.ld u0), o 16 (.bin .eql u4 u0)])
(.cond u0
(.seq (.reg [])
(.ret [.mv u7]))
 .skip))) [0, 1, 7, 8] [4, 5, 6, 7]))
(.reg [o 18 (.bin .add u3 (kJ 1))])))) [0, 1, 7, 8] [1, 2, 3, 0])))))
(.seq (.reg [o 4 (.mv (.k (.i .i64 (-1))))])
(.ret [.mv u0]))))
theorem fg182 : FGood Tryz.prog T 182 (.code 2 c182) := ⟨Tryz.call182, Tryz.f182, c182, Tryz.func182, by kernel_rfl⟩
def c183 : BC := (.seq (.reg [o 0 (.mv (.k .sn))])
(.seq (.reg [o 1 (.bsl 8 1 [(.s [])] [(0, 1, (.k (.s []))), (1, 1, (.k (.s [78, 65, 77, 69]))), (2, 1, (.k (.s [82, 79, 87, 83]))), (3, 1, (.k (.s [67, 79, 76, 85, 77, 78, 83]))), (4, 1, (.k (.s [82, 72, 83]))), (5, 1, (.k (.s [82, 65, 78, 71, 69, 83]))), (6, 1, (.k (.s [66, 79, 85, 78, 68, 83]))), (7, 1, (.k (.s [69, 78, 68, 65, 84, 65])))])])
(.ret [.mv u0])))
theorem fg183 : FGood Tryz.prog T 183 (.code 0 c183) := ⟨Tryz.call183, Tryz.f183, c183, Tryz.func183, by kernel_rfl⟩
def c184 : BC := (.seq (.reg [o 2 (.mv (.k (.s [])))])
(.seq (.reg [o 6 (.nck u1), o 7 (.fa 9 u0), o 8 (.ld u0), o 9 (.len false u0), o 10 (.bin .eql u0 (kJ 0)), o 11 (.call 129 [u6, u0, (kJ 1)])])
(.seq (.seq (.reg [o 13 (.nck u7), o 14 (.fa 10 u0), o 15 (.ld u0), o 16 (.bin .neq u0 (kJ 0))])
(.cond u0
(.seq (.post (.reg [o 2 (.mv (.k (.s [])))]) [2] [0])
(.ret [.mv u0]))
 .skip))
(.seq (.post (.reg [o 18 (.nck u11), o 19 (.fa 9 u0), o 20 (.ld u0), o 21 (.ia 1 u0 (kJ 0)), o 22 (.ld u0)]) [0, 3] [16, 0])
(.seq (.reg [o 25 (.nck u0), o 26 (.fa 9 u0), o 27 (.ld u0), o 28 (.slv 1 u0 (some (kJ 1)) none), o 29 (.nck u4), o 30 (.fa 9 u0), oC (.st u0 u2)])
(.seq (.reg [])
(.ret [.mv u7])))))))
theorem fg184 : FGood Tryz.prog T 184 (.code 1 c184) := ⟨Tryz.call184, Tryz.f184, c184, Tryz.func184, by kernel_rfl⟩
def h185 : BC := (.post (.reg [o 7 (.nck u0), o 8 (.fa 9 u0), o 9 (.ld u0), o 10 (.len false u0), o 11 (.call 249 [u5, u0]), o 12 (.un .not u0), o 13 (.call 129 [u6, u0, (kJ 1)])]) [] [])
def c185 : BC := .seq h185 (.ret [])
theorem fg185 : FGood Tryz.prog T 185 (.code 2 c185) := ⟨Tryz.call185, Tryz.f185, h185, Tryz.func185, by kernel_rfl⟩
def h186 : BC := (.seq (.reg [o 5 (.nck u0), o 6 (.fa 9 u0), o 7 (.ld u0), o 8 (.slv 1 u0 (some (kJ 2)) none), o 9 (.nck u4), o 10 (.fa 9 u0), oC (.st u0 u2)])
(.seq (.reg [o 12 (.call 184 [u6])])
(.seq (.post (.reg [o 15 (.bin .neq u0 (.k (.s [39, 73, 78, 84, 79, 82, 71, 39]))), oA 17 0 (.mv u1), oA 18 1 (.bin .neq u0 (.k (.s [39, 73, 78, 84, 69, 78, 68, 39]))), o 19 (.pick u2 u0 kF), o 20 (.call 129 [u11, u0, (kJ 1)])]) [0, 2] [12, 5])
(.seq (.reg [o 23 (.bin .eql u1 (.k (.s [39, 73, 78, 84, 79, 82, 71, 39]))), o 25 (.nck u1), o 26 (.fa 8 u0), o 27 (.ld u0), o 28 (.eq 0 false u3 u0), o 29 (.call 129 [u5, u0, (kJ 5)])])
(.post (.reg [o 32 (.bin .eql u7 (.k (.s [39, 73, 78, 84, 79, 82, 71, 39]))), o 33 (.nck u7), o 34 (.fa 8 u0), oC (.st u0 u2)]) [] [])))))
def c186 : BC := .seq h186 (.ret [])
theorem fg186 : FGood Tryz.prog T 186 (.code 1 c186) := ⟨Tryz.call186, Tryz.f186, h186, Tryz.func186, by kernel_rfl⟩
def h187 : BC := (.seq (.reg [o 4 (.mv (kJ 0))])
(.block 0 [] (.pre [0, 1, 4] [1, 2, 0] (.loop (.post (.seq (.seq (.reg [o 10 (.bin .lss u2 (kJ 2)), oA 12 0 (.mv u3), oA 13 1 (.bin .eql u0 (kJ 0)), oA 14 2 (.mv u0), oB 15 0 (.mv u4), oB 16 1 (.nck u0), oB 17 2 (.fa 9 u0), oB 18 3 (.ld u0), oB 19 4 (.len false u0), oB 20 5 (.bin .gtr u0 (kJ 0)), oA 21 9 (.pick u6 kU u0), o 22 (.pick u10 u0 kF)])
(.cond u0
 .skip
(.pre [] [] (.exit 0))))
(.seq (.block 1 [0, 1, 4] (.post (.seq (.reg [o 26 (.call 184 [u12])])
(.seq (.post (.reg [o 29 (.nck u13), o 30 (.fa 5 u0), o 31 (.ld u0), o 33 (.lk 1 (.i .i64 0) true u0 u3), o 34 (.ext 0 u0), o 35 (.ext 1 u1)]) [0, 1, 4, 5, 6, 7] [19, 20, 21, 6, 1, 0])
(.seq (.reg [o 38 (.un .not u5), oB 40 0 (.mv u1), oB 41 1 (.nck u0), oB 42 2 (.fa 7 u0), oB 43 3 (.ld u0), oB 44 4 (.mv u8), oB 45 5 (.lk 1 (.b false) false u1 u0), o 46 (.pick u6 kU u0), o 47 (.call 129 [u8, u0, (kJ 4)])])
(.seq (.post (.reg [o 50 (.bin .lss u13 (kJ 0)), oA 52 0 (.mv u10), oA 53 1 (.nck u0), oA 54 2 (.fa 4 u0), oA 55 3 (.ld u0), oA 56 4 (.bin .neq u0 (kJ 3)), o 57 (.pick u5 u0 kF), o 58 (.call 129 [u16, u0, (kJ 7)])]) [0, 1, 4, 5, 6] [17, 18, 19, 20, 21])
(.seq (.reg [o 60 (.call 250 [u0])])
(.seq (.seq (.reg [o 62 (.nck u1), o 63 (.fa 10 u0), o 64 (.ld u0), o 65 (.bin .neq u0 (kJ 0))])
(.cond u0
(.ret [])
 .skip))
(.seq (.reg [o 67 (.nck u5), o 68 (.fa 7 u0), o 69 (.ld u0), oC (.mup 1 u0 u11 kU)])
(.reg [o 74 (.callv u9 [u12, u7])])))))))) [0, 1, 4] [9, 10, 11]))
(.reg [o 24 (.bin .add u2 (kJ 1))]))) [0, 1, 4] [1, 2, 0])))))
def c187 : BC := .seq h187 (.ret [])
theorem fg187 : FGood Tryz.prog T 187 (.code 2 c187) := ⟨Tryz.call187, Tryz.f187, h187, Tryz.func187, by kernel_rfl⟩
def h188 : BC := (.seq (.reg [o 6 (.ld u2), o 7 (.nck u0), o 8 (.fa 0 u0), o 9 (.fa 3 u0), o 10 (.ld u0), o 11 (.len false u0), o 12 (.bin .sub u0 (kJ 1))])
(.block 0 [] (.seq (.reg [o 15 (.bin .lss u7 (kJ 0))])
(.cond u0
(.post (.reg [o 16 (.ld u10), o 17 (.nck u0), o 18 (.fa 0 u0), o 19 (.fa 3 u0), o 20 (.ld u0), o 23 (.call 119 [u14]), .chk ⟨(some 5), none, .ld u16⟩, .chk ⟨(some 1), none, .ld u2⟩, o 24 (.ia 5 u1 u7), o 25 (.fa 3 u0), oC (.st u0 u2)]) [] [])
(.seq (.reg [o 28 (.call 116 [u9]), o 29 (.bin .neq u0 (kJ 0))])
(.cond u0
(.post (.reg [o 30 (.ld u12), o 31 (.nck u0), o 32 (.fa 0 u0), o 33 (.fa 2 u0), o 34 (.ld u0), o 36 (.ld u17), o 37 (.nck u0), o 38 (.fa 0 u0), o 39 (.fa 2 u0), o 40 (.ld u0), o 42 (.ia 5 u0 u20), o 43 (.fa 2 u0), o 44 (.ld u0), o 47 (.call 119 [u24]), .chk ⟨(some 13), none, .ld u26⟩, .chk ⟨(some 9), none, .ld u10⟩, .chk ⟨(some 8), none, .ld u26⟩, .chk ⟨(some 4), none, .ld u5⟩, .chk ⟨(some 1), none, .ld u2⟩, o 48 (.build [(.i .i64 0), (.s [])] [(0, 1, u17), (1, 1, u0)]), o 49 (.bsl 1 2 [(.i .i64 0), (.s [])] [(0, 2, u0)]), o 50 (.app 172 2 24 u3 u0), .chk ⟨(some 16), none, .ld u29⟩, .chk ⟨(some 12), none, .ld u13⟩, o 51 (.ia 5 u12 u27), o 52 (.fa 2 u0), oC (.st u0 u2)]) [] [])
(.post .skip [] [])))))))
def c188 : BC := .seq h188 (.ret [])
theorem fg188 : FGood Tryz.prog T 188 (.code 3 c188) := ⟨Tryz.call188, Tryz.f188, h188, Tryz.func188, by kernel_rfl⟩
def h189 : BC := (.seq (.reg [o 5 (.ld u2), o 6 (.nck u0), o 7 (.fa 4 u0), o 8 (.ld u0), o 9 (.bin .eql u0 (kJ 4))])
(.cond u0
(.post (.reg [o 10 (.ld u7), o 11 (.nck u0), o 12 (.fa 0 u0), o 13 (.fa 2 u0), o 14 (.ld u0), o 17 (.call 119 [u11]), .chk ⟨(some 5), none, .ld u13⟩, .chk ⟨(some 1), none, .ld u2⟩, o 18 (.ia 5 u1 u11), o 19 (.fa 3 u0), oC (.st u0 u2)]) [] [])
(.post (.reg [o 20 (.ld u7), o 21 (.nck u0), o 22 (.fa 0 u0), o 23 (.fa 2 u0), o 24 (.ld u0), o 27 (.call 119 [u11]), .chk ⟨(some 5), none, .ld u13⟩, .chk ⟨(some 1), none, .ld u2⟩, o 28 (.ia 5 u1 u11), o 29 (.fa 4 u0), oC (.st u0 u2)]) [] [])))
def c189 : BC := .seq h189 (.ret [])
theorem fg189 : FGood Tryz.prog T 189 (.code 3 c189) := ⟨Tryz.call189, Tryz.f189, h189, Tryz.func189, by kernel_rfl⟩
def c190 : BC := (.seq (.reg [o 4 (.mv (.k (.s [])))])
(.seq (.reg [o 11 (.call 184 [u1])])
(.seq (.seq (.reg [o 14 (.call 251 [u0]), o 15 (.ext 0 u0), o 16 (.ext 1 u1)])
(.seq (.reg [oA 19 0 (.mv u6), oA 20 1 (.bin .neq u0 (kJ 0)), o 21 (.pick u2 u0 kF)])
(.cond u0
(.seq (.post (.reg [o 25 (.bin .neq u4 u9), o 26 (.call 129 [u9, u0, (kJ 1)])]) [] [])
(.seq (.reg [o 4 (.mv (.k (.s [])))])
(.ret [.mv u0])))
 .skip)))
(.seq (.reg [o 29 (.call 152 [u6]), o 30 (.ext 0 u0), o 31 (.ext 1 u1)])
(.seq (.post (.reg [o 34 (.un .not u0), o 35 (.call 129 [u12, u0, (kJ 1)])]) [8] [3])
(.seq (.reg [o 37 (.call 119 [u0])])
(.ret [.mv u0])))))))
theorem fg190 : FGood Tryz.prog T 190 (.code 2 c190) := ⟨Tryz.call190, Tryz.f190, c190, Tryz.func190, by kernel_rfl⟩
def c191 : BC := (.seq (.reg [o 4 (.mv (.k (.s []))), o 5 (.mv kF)])
(.seq (.reg [o 8 (.call 252 [u2, u3]), o 9 (.ext 0 u0), o 10 (.ext 1 u1)])
(.ret [.mv u1, .mv u0])))
theorem fg191 : FGood Tryz.prog T 191 (.code 2 c191) := ⟨Tryz.call191, Tryz.f191, c191, Tryz.func191, by kernel_rfl⟩
def c192 : BC := (.seq (.reg [o 6 (.mv (kJ 0)), o 7 (.mv kF)])
(.seq (.reg [o 13 (.len false u2)])
(.seq (.reg [o 9 (.mv (kJ 0))])
(.seq (.block 0 [0, 1, 2, 8, 9] (.pre [0, 1, 2, 8, 9, 10] [4, 5, 6, 1, 0, 1] (.loop (.seq (.seq (.reg [o 17 (.bin .lss u4 u5)])
(.cond u0
 .skip
(.pre [0, 1, 2, 8, 9] [1, 2, 3, 4, 5] (.exit 0))))
(.block 1 [0, 1, 2, 8, 9, 10] (.seq (.reg [o 20 (.bin .add u5 u6), o 21 (.cvi .u64 u0), o 22 (.bin .shr u0 (.k (.i .u64 1))), o 23 (.cvi .i64 u0)])
(.seq (.reg [o 27 (.ia 2 u5 u0), o 28 (.ldn 2 u0), o 30 (.callv u9 [u0, u8]), o 31 (.bin .lss u0 (kJ 0))])
(.cond u0
(.post (.reg [o 33 (.bin .add u4 (kJ 1))]) [0, 1, 2, 8, 9, 10] [10, 11, 12, 13, 0, 15])
(.post (.reg []) [0, 1, 2, 8, 9, 10] [9, 10, 11, 12, 13, 4])))))))))
(.seq (.post (.reg [o 38 (.bin .lss u4 u3), oA 40 0 (.mv u3), oA 41 1 (.mv u2), oA 42 2 (.mv u7), oA 43 3 (.ia 2 u1 u0), oA 44 4 (.ldn 2 u0), oA 45 5 (.mv u7), oA 46 6 (.callv u5 [u1, u0]), oA 47 7 (.bin .eql u0 (kJ 0)), o 48 (.pick u8 u0 kF)]) [6, 7] [14, 0])
(.ret [.mv u0, .mv u1]))))))
theorem fg192 : FGood Tryz.prog T 192 (.code 3 c192) := ⟨Tryz.call192, Tryz.f192, c192, Tryz.func192, by kernel_rfl⟩
def c193 : BC := (.seq (.reg [o 2 (.box 172 u0), o 4 (.mv (kJ 0))])
(.seq (.reg [o 5 (.fa 0 u1), o 6 (.ld u0), o 8 (.bin .sub u0 u5)])
(.ret [.mv u0])))
theorem fg193 : FGood Tryz.prog T 193 (.code 2 c193) := ⟨Tryz.call193, Tryz.f193, c193, Tryz.func193, by kernel_rfl⟩
def c194 : BC := (.seq (.reg [o 6 (.mv (.k .sn))])
(.seq .bad
 .skip))
theorem fg194 : FGood Tryz.prog T 194 (.code 3 c194) := ⟨Tryz.call194, Tryz.f194, c194, Tryz.func194, by kernel_rfl⟩
def c195 : BC := (.seq (.reg [o 6 (.mv (.k .sn))])
(.seq (.reg [o 12 (.slv 2 u1 (some u2) none)])
(.seq (.reg [o 14 (.len false u4)])
(.seq (.seq (.reg [o 16 (.bin .eql u0 (kJ 0))])
(.cond u0
(.seq (.reg [])
(.ret [.mv u4]))
 .skip))
(.seq (.reg [o 19 (.len false u4)])
(.seq (.seq (.reg [o 22 (.bin .eql u6 u0)])
(.cond u0
(.seq (.reg [o 25 (.app 172 2 24 u6 u8)])
(.ret [.mv u0]))
 .skip))
(.seq (.seq (.reg [o 28 (.bin .add u1 u3), o 30 (.cap u7), o 31 (.bin .gtr u1 u0)])
(.cond u0
(.seq .bad
 .skip)
 .skip))
(.seq (.reg [o 59 (.bin .add u4 u6), o 60 (.slv 2 u10 none (some u0))])
(.seq (.seq (.reg [o 65 (.bin .add u12 u8), o 66 (.slv 2 u1 (some u0) none), o 67 (.call 253 [u15, u0]), o 68 (.un .not u0)])
(.cond u0
(.seq (.post (.reg [o 72 (.bin .add u16 u12), o 73 (.slv 2 u5 (some u0) none), o 76 (.slv 2 u6 (some u18) none), o 77 (.cpy 2 u1 u0)]) [0, 1, 2] [8, 20, 21])
(.seq (.reg [o 80 (.slv 2 u0 (some u1) none), o 82 (.cpy 2 u0 u3)])
(.seq (.reg [])
(.ret [.mv u2]))))
 .skip))
(.seq (.post (.reg [o 86 (.slv 2 u4 (some u10) none), o 88 (.cpy 2 u0 u18)]) [0, 1, 7] [6, 18, 14])
(.seq (.reg [o 91 (.slv 2 u0 (some u1) none), o 93 (.call 254 [u0, u3])])
(.seq (.reg [])
(.ret [.mv u2])))))))))))))
theorem fg195 : FGood Tryz.prog T 195 (.code 3 c195) := ⟨Tryz.call195, Tryz.f195, c195, Tryz.func195, by kernel_rfl⟩
def c196 : BC := (.seq (.reg [o 2 (.mv (.k (.s [])))])
(.seq (.reg [o 6 (.nck u1), o 7 (.fa 6 u0), o 8 (.ld u0), o 9 (.len false u0), o 10 (.bin .eql u0 (kJ 0)), o 11 (.call 135 [u6, u0, (kJ 1)])])
(.seq (.seq (.reg [o 13 (.nck u7), o 14 (.fa 7 u0), o 15 (.ld u0), o 16 (.bin .neq u0 (kJ 0))])
(.cond u0
(.seq (.post (.reg [o 2 (.mv (.k (.s [])))]) [2] [0])
(.ret [.mv u0]))
 .skip))
(.seq (.post (.reg [o 18 (.nck u11), o 19 (.fa 6 u0), o 20 (.ld u0), o 21 (.ia 1 u0 (kJ 0)), o 22 (.ld u0)]) [0, 3] [16, 0])
(.seq (.reg [o 25 (.nck u0), o 26 (.fa 6 u0), o 27 (.ld u0), o 28 (.slv 1 u0 (some (kJ 1)) none), o 29 (.nck u4), o 30 (.fa 6 u0), oC (.st u0 u2)])
(.seq (.reg [])
(.ret [.mv u7])))))))
theorem fg196 : FGood Tryz.prog T 196 (.code 1 c196) := ⟨Tryz.call196, Tryz.f196, c196, Tryz.func196, by kernel_rfl⟩
def c197 : BC := (.seq (.reg [o 2 (.alloc 320 [(.s []), (.s [])])])
(.seq (.reg [o 5 (.call 200 [u1]), o 7 (.call 200 [u2]), o 8 (.build [(.s []), (.s [])] [(0, 1, u1), (1, 1, u0)]), o 3 (.alloc 320 [(.s []), (.s [])]), oC (.stn 2 u0 u1)])
(.seq (.seq (.reg [o 9 (.fa 0 u0), o 10 (.ld u0), o 11 (.bin .eql u0 (.k (.s [82, 72, 83])))])
(.cond u0
(.post (.reg [o 12 (.fa 0 u3), oC (.st u0 (.k (.s [])))]) [2, 3] [8, 4])
(.post .skip [2, 3] [7, 3])))
(.seq (.reg [o 13 (.ldn 2 u1), oC (.stn 2 u1 u0)])
(.ret [.ldn 2 u1])))))
theorem fg197 : FGood Tryz.prog T 197 (.code 1 c197) := ⟨Tryz.call197, Tryz.f197, c197, Tryz.func197, by kernel_rfl⟩
def c198 : BC := (.seq (.reg [o 2 (.mv (.k (.s [])))])
(.seq (.reg [o 7 (.call 196 [u1]), o 8 (.call 152 [u0]), o 9 (.ext 0 u0), o 10 (.ext 1 u1)])
(.seq (.reg [o 13 (.un .not u0), o 14 (.call 135 [u6, u0, (kJ 1)])])
(.seq (.reg [o 16 (.call 119 [u3])])
(.ret [.mv u0])))))
theorem fg198 : FGood Tryz.prog T 198 (.code 1 c198) := ⟨Tryz.call198, Tryz.f198, c198, Tryz.func198, by kernel_rfl⟩
def c199 : BC := (.seq (.reg [o 2 (.box 348 u0), o 3 (.mv kF)])
(.seq (.post (.reg [o 4 (.fa 1 u1), o 5 (.ld u0), o 6 (.ia 2 u0 (kJ 0)), o 7 (.fa 1 u0), o 8 (.ld u0), o 9 (.ia 3 u0 (kJ 0)), o 10 (.fa 0 u0), o 11 (.ldn 2 u0), o 12 (.ldn 2 u11), o 13 (.eqs false 10 u1 u0)]) [3] [0])
(.ret [.mv u0])))
theorem fg199 : FGood Tryz.prog T 199 (.code 2 c199) := ⟨Tryz.call199, Tryz.f199, c199, Tryz.func199, by kernel_rfl⟩
def c200 : BC := (.seq (.reg [o 2 (.mv (.k (.s [])))])
(.seq (.reg [o 5 (.call 196 [u1])])
(.seq (.reg [o 8 (.call 14 [u0]), o 9 (.un .not u0), o 10 (.call 135 [u4, u0, (kJ 4)])])
(.seq (.reg [])
(.ret [.mv u3])))))
theorem fg200 : FGood Tryz.prog T 200 (.code 1 c200) := ⟨Tryz.call200, Tryz.f200, c200, Tryz.func200, by kernel_rfl⟩
def c201 : BC := (.seq (.reg [o 2 (.box 348 u0), o 3 (.mv kF)])
(.seq (.reg [o 4 (.fa 0 u1), o 5 (.ld u0), o 6 (.ld u5), o 7 (.bin .eql u1 u0)])
(.ret [.mv u0])))
theorem fg201 : FGood Tryz.prog T 201 (.code 2 c201) := ⟨Tryz.call201, Tryz.f201, c201, Tryz.func201, by kernel_rfl⟩
def h202 : BC := (.seq (.reg [o 8 (.nck u0), o 9 (.fa 1 u0), o 10 (.fa 1 u0), o 11 (.ld u0), o 13 (.ia 2 u0 u5)])
(.seq (.post (.reg [o 16 (.nck u0), o 17 (.fa 1 u0), o 18 (.ld u0), o 20 (.build [(.s []), .sn] [(0, 1, u10)]), o 21 (.bsl 1 2 [(.s []), .sn] [(0, 2, u0)]), o 22 (.app 376 2 40 u2 u0), o 23 (.nck u6), o 24 (.fa 1 u0), oC (.st u0 u2)]) [0, 6] [13, 8])
(.post (.reg [o 27 (.nck u1), o 28 (.fa 1 u0), o 29 (.ld u0), o 31 (.nck u4), o 32 (.fa 1 u0), o 33 (.ld u0), o 34 (.len false u0), o 35 (.bin .sub u0 (kJ 1)), o 36 (.ia 2 u5 u0), o 37 (.nck u9), o 38 (.fa 4 u0), oC (.st u0 u2)]) [] [])))
def c202 : BC := .seq h202 (.ret [])
theorem fg202 : FGood Tryz.prog T 202 (.code 3 c202) := ⟨Tryz.call202, Tryz.f202, h202, Tryz.func202, by kernel_rfl⟩
def c203 : BC := (.seq (.reg [o 4 (.mv kF)])
(.seq (.reg [o 7 (.call 255 [u1, u2]), o 8 (.bin .geq u0 (kJ 0))])
(.ret [.mv u0])))
theorem fg203 : FGood Tryz.prog T 203 (.code 2 c203) := ⟨Tryz.call203, Tryz.f203, c203, Tryz.func203, by kernel_rfl⟩
def c204 : BC := (.seq (.reg [o 2 (.box 364 u0), o 3 (.mv kF)])
(.seq (.reg [o 4 (.fa 0 u1), o 5 (.ldn 2 u0), o 6 (.ldn 2 u5), o 7 (.eqs false 10 u1 u0)])
(.ret [.mv u0])))
theorem fg204 : FGood Tryz.prog T 204 (.code 2 c204) := ⟨Tryz.call204, Tryz.f204, c204, Tryz.func204, by kernel_rfl⟩
def h205 : BC := (.seq (.reg [o 3 (.nck u0), o 4 (.fa 0 u0), o 5 (.ld u0), o 6 (.eq 1 false u0 (.k .pn))])
(.cond u0
(.post (.reg [o 9 (.cvr true [] u4), o 11 (.cvr false [(664, 2), (668, 2), (672, 3), (676, 3)] u0), o 12 (.nck u6), o 13 (.fa 0 u0), oC (.st u0 u2)]) [] [])
(.post (.seq (.reg [o 15 (.nck u4), o 16 (.fa 0 u0), o 17 (.ld u0), o 19 (.eq 1 true u0 u7)])
(.cond u0
 .bad
 .skip)) [] [])))
def c205 : BC := .seq h205 (.ret [])
theorem fg205 : FGood Tryz.prog T 205 (.code 1 c205) := ⟨Tryz.call205, Tryz.f205, h205, Tryz.func205, by kernel_rfl⟩
def h206 : BC := (.seq (.reg [o 5 (.call 205 [u0])])
(.seq (.seq (.reg [o 7 (.bin .lss u2 (kJ 0))])
(.cond u0
 .bad
 .skip))
(.seq (.reg [o 10 (.nck u2), o 11 (.fa 1 u0), o 12 (.ld u0), o 13 (.cap u0), o 15 (.nck u6), o 16 (.fa 1 u0), o 17 (.ld u0), o 18 (.len false u0), o 19 (.bin .sub u4 u0), o 21 (.bin .lss u0 u12)])
(.cond u0
(.post (.reg [o 24 (.call 257 [u12, u13])]) [] [])
(.post .skip [] [])))))
def c206 : BC := .seq h206 (.ret [])
theorem fg206 : FGood Tryz.prog T 206 (.code 2 c206) := ⟨Tryz.call206, Tryz.f206, h206, Tryz.func206, by kernel_rfl⟩
def c207 : BC := (.seq (.reg [o 4 (.mv (.k (.i .u64 0)))])
(.seq (.block 0 [0, 1] (.post (.seq (.reg [o 7 (.bin .geq u2 (kJ 64)), oB 9 0 (.mv u3), oB 10 1 (.bin .leq u0 (.k (.i .i64 (-64)))), o 11 (.pick u2 kU u0)])
(.cond u0
(.seq (.reg [o 4 (.mv (.k (.i .u64 0)))])
(.ret [.mv u0]))
(.seq (.reg [o 14 (.bin .lss u6 (kJ 0))])
(.cond u0
(.seq (.reg [o 17 (.un .neg u7), o 18 (.bin .shr u7 u0)])
(.ret [.mv u0]))
 .skip)))) [0, 1] [6, 7]))
(.seq (.reg [o 21 (.bin .shl u0 u1)])
(.ret [.mv u0]))))
theorem fg207 : FGood Tryz.prog T 207 (.code 2 c207) := ⟨Tryz.call207, Tryz.f207, c207, Tryz.func207, by kernel_rfl⟩
def c208 : BC := (.seq (.reg [o 4 (.mv (.k (.i .u64 0)))])
(.seq (.block 0 [0, 1] (.post (.seq (.reg [o 7 (.bin .geq u2 (kJ 64)), oB 9 0 (.mv u3), oB 10 1 (.bin .leq u0 (.k (.i .i64 (-64)))), o 11 (.pick u2 kU u0)])
(.cond u0
(.seq (.reg [o 4 (.mv (.k (.i .u64 0)))])
(.ret [.mv u0]))
(.seq (.reg [o 14 (.bin .lss u6 (kJ 0))])
(.cond u0
(.seq (.reg [o 17 (.un .neg u7), o 18 (.bin .shl u7 u0)])
(.ret [.mv u0]))
 .skip)))) [0, 1] [6, 7]))
(.seq (.reg [o 21 (.bin .shr u0 u1)])
(.ret [.mv u0]))))
theorem fg208 : FGood Tryz.prog T 208 (.code 2 c208) := ⟨Tryz.call208, Tryz.f208, c208, Tryz.func208, by kernel_rfl⟩
def c209 : BC := (.seq (.reg [o 6 (.mv (.k (.i .u64 0))), o 7 (.mv (.k (.i .u64 0)))])
(.seq (.reg [o 12 (.bin .shr u4 (.k (.i .u64 32))), o 13 (.bin .quo u3 u0)])
(.seq (.reg [o 16 (.bin .shr u6 (.k (.i .u64 32))), o 17 (.bin .rem u5 u0)])
(.seq (.block 0 [0, 1, 2, 8] (.pre [0, 1, 2, 8, 9] [6, 7, 8, 2, 0] (.loop (.seq (.seq (.reg [o 19 (.bin .gtr u3 (.k (.i .u64 4294967295))), oB 21 0 (.mv u4), oB 22 1 (.mv u4), oB 23 2 (.bin .and u0 (.k (.i .u64 4294967295))), oB 24 3 (.bin .mul u2 u0), oB 25 4 (.mv u9), oB 26 5 (.bin .shl u0 (.k (.i .u64 32))), oB 27 6 (.mv u8), oB 28 7 (.bin .or u1 u0), oB 29 8 (.bin .gtr u4 u0), o 30 (.pick u9 kU u0)])
(.cond u0
 .skip
(.pre [0, 1, 2, 8] [11, 12, 13, 14] (.exit 0))))
(.block 1 [0, 1, 2, 8, 9] (.post (.seq (.reg [o 32 (.bin .sub u14 (.k (.i .u64 1)))])
(.seq (.post (.reg [o 35 (.bin .shr u14 (.k (.i .u64 32))), o 36 (.bin .add u17 u0)]) [0, 1, 2, 8, 9] [14, 15, 16, 2, 0])
(.seq (.reg [o 38 (.bin .gtr u4 (.k (.i .u64 4294967295)))])
(.cond u0
(.pre [0, 1, 2, 8] [1, 2, 3, 4] (.exit 0))
 .skip)))) [0, 1, 2, 8, 9] [1, 2, 3, 4, 5]))))))
(.seq (.reg [o 41 (.bin .shl u0 (.k (.i .u64 32))), o 43 (.bin .add u0 u2), o 46 (.bin .mul u5 u4), o 47 (.bin .sub u1 u0)])
(.ret [.mv u7, .mv u0]))))))
theorem fg209 : FGood Tryz.prog T 209 (.code 3 c209) := ⟨Tryz.call209, Tryz.f209, c209, Tryz.func209, by kernel_rfl⟩
def c210 : BC := (.seq (.reg [o 4 (.mv (.k (.s [])))])
(.seq (.seq (.reg [o 8 (.bin .eql u1 (.k (.s []))), oB 10 0 (.mv u3), oB 11 1 (.bin .eql u0 (.k (.s []))), o 12 (.pick u2 kU u0)])
(.cond u0
(.seq (.reg [])
(.ret [.mv u5]))
 .skip))
(.seq (.seq (.reg [o 15 (.len true u6), o 16 (.bin .eql u0 (kJ 1)), oA 18 0 (.mv u8), oA 19 1 (.ix u0 (kJ 0)), oA 20 2 (.bin .lss u0 (.k (.i .u8 128))), o 21 (.pick u3 u0 kF)])
(.cond u0
(.seq (.post (.reg [o 24 (.ix u12 (kJ 0)), o 27 (.ix u13 (kJ 0)), o 25 (.call 259 [u13, u1]), o 28 (.call 258 [u0, u1])]) [4] [0])
(.ret [.mv u0]))
 .skip))
(.seq (.seq (.post (.reg [o 31 (.call 260 [u12]), o 32 (.ext 0 u0), o 33 (.ext 1 u1), o 5 (.alloc 1292 [(.b false), (.b false), (.b false), (.b false), (.b false), (.b false), (.b false), (.b false), (.b false), (.b false), (.b false), (.b false), (.b false), (.b false), (.b false), (.b false), (.b false), (.b false), (.b false), (.b false), (.b false), (.b false), (.b false), (.b false), (.b false), (.b false), (.b false), (.b false), (.b false), (.b false), (.b false), (.b false), (.b false), (.b false), (.b false), (.b false), (.b false), (.b false), (.b false), (.b false), (.b false), (.b false), (.b false), (.b false), (.b false), (.b false), (.b false), (.b false), (.b false), (.b false), (.b false), (.b false), (.b false), (.b false), (.b false), (.b false), (.b false), (.b false), (.b false), (.b false), (.b false), (.b false), (.b false), (.b false), (.b false), (.b false), (.b false), (.b false), (.b false), (.b false), (.b false), (.b false), (.b false), (.b false), (.b false), (.b false), (.b false), (.b false), (.b false), (.b false), (.b false), (.b false), (.b false), (.b false), (.b false), (.b false), (.b false), (.b false), (.b false), (.b false), (.b false), (.b false), (.b false), (.b false), (.b false), (.b false), (.b false), (.b false), (.b false), (.b false), (.b false), (.b false), (.b false), (.b false), (.b false), (.b false), (.b false), (.b false), (.b false), (.b false), (.b false), (.b false), (.b false), (.b false), (.b false), (.b false), (.b false), (.b false), (.b false), (.b false), (.b false), (.b false), (.b false), (.b false), (.b false), (.b false), (.b false), (.b false), (.b false), (.b false), (.b false), (.b false), (.b false), (.b false), (.b false), (.b false), (.b false), (.b false), (.b false), (.b false), (.b false), (.b false), (.b false), (.b false), (.b false), (.b false), (.b false), (.b false), (.b false), (.b false), (.b false), (.b false), (.b false), (.b false), (.b false), (.b false), (.b false), (.b false), (.b false), (.b false), (.b false), (.b false), (.b false), (.b false), (.b false), (.b false), (.b false), (.b false), (.b false), (.b false), (.b false), (.b false), (.b false), (.b false), (.b false), (.b false), (.b false), (.b false), (.b false), (.b false), (.b false), (.b false), (.b false), (.b false), (.b false), (.b false), (.b false), (.b false), (.b false), (.b false), (.b false), (.b false), (.b false), (.b false), (.b false), (.b false), (.b false), (.b false), (.b false), (.b false), (.b false), (.b false), (.b false), (.b false), (.b false), (.b false), (.b false), (.b false), (.b false), (.b false), (.b false), (.b false), (.b false), (.b false), (.b false), (.b false), (.b false), (.b false), (.b false), (.b false), (.b false), (.b false), (.b false), (.b false), (.b false), (.b false), (.b false), (.b false), (.b false), (.b false), (.b false), (.b false), (.b false), (.b false), (.b false), (.b false), (.b false), (.b false), (.b false), (.b false), (.b false), (.b false), (.b false), (.b false), (.b false), (.b false), (.b false), (.b false), (.b false), (.b false), (.b false), (.b false), (.b false), (.b false), (.b false), (.b false)]), oC (.stn 256 u0 u2)]) [0, 1, 5, 6] [15, 16, 0, 1])
(.seq (.reg [])
(.cond u3
(.seq (.reg [o 36 (.call 262 [u0, u2]), o 37 (.call 261 [u0, u3])])
(.ret [.mv u0]))
 .skip)))
(.seq (.reg [o 40 (.call 264 [u0, u1]), o 42 (.call 263 [u0, u2])])
(.ret [.mv u0]))))))
theorem fg210 : FGood Tryz.prog T 210 (.code 2 c210) := ⟨Tryz.call210, Tryz.f210, c210, Tryz.func210, by kernel_rfl⟩
def c211 : BC := (.seq (.reg [o 2 (.mv (.k .pn))])
(.seq (.reg [o 5 (.len false u1)])
(.seq (.block 0 [0, 3] (.pre [0, 3] [2, 0] (.loop (.seq (.seq (.reg [o 7 (.bin .gtr u1 (kJ 0)), oA 9 0 (.mv u1), oA 10 1 (.mv u3), oA 11 2 (.bin .sub u0 (kJ 1)), oA 12 3 (.ia 1 u2 u0), oA 13 4 (.ld u0), oA 14 5 (.bin .eql u0 (.k (.i .u32 0))), o 15 (.pick u6 u0 kF)])
(.cond u0
 .skip
(.pre [0, 3] [8, 9] (.exit 0))))
(.block 1 [0, 3] (.post (.reg [o 17 (.bin .sub u9 (kJ 1))]) [0, 3] [9, 0]))))))
(.seq (.reg [o 20 (.slv 1 u0 none (some u1)), o 21 (.build [.sn] [(0, 1, u0)]), o 22 (.box 1228 u0)])
(.ret [.mv u0])))))
theorem fg211 : FGood Tryz.prog T 211 (.code 1 c211) := ⟨Tryz.call211, Tryz.f211, c211, Tryz.func211, by kernel_rfl⟩
def c212 : BC := (.seq (.reg [o 6 (.mv (.k (.i .u64 0))), o 7 (.mv (.k .inn))])
(.seq (.reg [o 14 (.call 265 [u2, u3, u4]), o 15 (.ext 0 u0), o 16 (.ext 1 u1)])
(.seq (.seq (.reg [o 18 (.eq 5 true u0 (.k .inn))])
(.cond u0
(.seq (.reg [o 24 (.call 266 [(.k (.s [80, 97, 114, 115, 101, 85, 105, 110, 116])), u6, u7, u8, u1])])
(.ret [.mv u3, .mv u0]))
 .skip))
(.seq (.reg [o 7 (.mv (.k .inn))])
(.ret [.mv u3, .mv u0])))))
theorem fg212 : FGood Tryz.prog T 212 (.code 3 c212) := ⟨Tryz.call212, Tryz.f212, c212, Tryz.func212, by kernel_rfl⟩
def c213 : BC := (.seq (.reg [o 2 (.mv (.k .pn))])
(.seq (.reg [o 4 (.cvi .u32 u1), o 6 (.bin .shr u2 (.k (.i .u64 32))), o 7 (.cvi .u32 u0), o 8 (.bsl 2 1 [(.i .u32 0)] [(0, 1, u2), (1, 1, u0)]), o 9 (.call 211 [u0])])
(.ret [.mv u0])))
theorem fg213 : FGood Tryz.prog T 213 (.code 1 c213) := ⟨Tryz.call213, Tryz.f213, c213, Tryz.func213, by kernel_rfl⟩
def c214 : BC := (.seq (.reg [o 4 (.mv (.k .pn))])
(.seq (.reg [o 11 (.call 231 [u1]), o 13 (.call 231 [u3])])
(.seq (.reg [o 15 (.len false u1), o 17 (.len false u1), o 18 (.mm true u1 [u0]), o 19 (.bin .add u0 (kJ 1)), o 20 (.mks 1 4 [(.i .u32 0)] u0 u0)])
(.seq (.reg [o 8 (.mv (.k (.i .u64 0)))])
(.seq (.seq (.reg [o 22 (.len false u1), o 23 (.mv (kJ 0))])
(.block 0 [7] (.pre [5, 6, 7, 8, 22, 23] [9, 8, 3, 2, 1, 0] (.loop (.post (.seq (.reg [o 24 (.bin .lss u5 u4)])
(.seq (.cond u0
 .skip
(.pre [7] [3] (.exit 0)))
(.seq (.block 1 [5, 6, 7, 8, 22, 23] (.post (.seq (.reg [])
(.seq (.reg [o 29 (.call 247 [u1, u6]), o 32 (.call 247 [u3, u7]), o 33 (.bin .add u1 u0), o 34 (.bin .add u7 u0)])
(.seq (.reg [o 38 (.cvi .u32 u0), o 39 (.ia 1 u8 u11), oC (.st u0 u1)])
(.reg [o 41 (.bin .shr u2 (.k (.i .u64 32)))])))) [5, 6, 7, 8, 22, 23] [8, 9, 10, 0, 12, 13]))
(.reg [o 42 (.bin .add u5 (kJ 1))])))) [5, 6, 7, 8, 22, 23] [1, 2, 3, 4, 5, 0])))))
(.seq (.reg [o 44 (.call 211 [u0])])
(.ret [.mv u0])))))))
theorem fg214 : FGood Tryz.prog T 214 (.code 2 c214) := ⟨Tryz.call214, Tryz.f214, c214, Tryz.func214, by kernel_rfl⟩
def c215 : BC := (.seq (.reg [o 4 (.mv kF)])
(.seq (.reg [o 7 (.call 267 [u1, u2])])
(.ret [.mv u0])))
theorem fg215 : FGood Tryz.prog T 215 (.code 2 c215) := ⟨Tryz.call215, Tryz.f215, c215, Tryz.func215, by kernel_rfl⟩
def c216 : BC := (.seq (.reg [o 4 (.mv (.k (.s [])))])
(.seq (.reg [o 7 (.call 268 [u1, u2])])
(.ret [.mv u0])))
theorem fg216 : FGood Tryz.prog T 216 (.code 2 c216) := ⟨Tryz.call216, Tryz.f216, c216, Tryz.func216, by kernel_rfl⟩
def c217 : BC := (.seq (.reg [o 4 (.mv (kJ 0))])
(.seq (.seq (.reg [o 12 (.bin .eql u2 (.k (.s [])))])
(.cond u0
(.seq (.reg [o 4 (.mv (.k (.i .i64 (-1))))])
(.ret [.mv u0]))
 .skip))
(.seq (.seq (.reg [o 14 (.len true u3), o 15 (.bin .eql u0 (kJ 1))])
(.cond u0
(.seq (.reg [o 17 (.ix u5 (kJ 0)), o 18 (.cvi .i32 u0)])
(.seq (.seq (.reg [o 20 (.bin .geq u0 (.k (.i .i32 128)))])
(.cond u0
(.post (.reg [o 5 (.mv (.k (.i .i32 65533)))]) [0, 5] [8, 0])
(.post .skip [0, 5] [7, 1])))
(.seq (.reg [o 23 (.call 269 [u0, u1])])
(.ret [.mv u0]))))
 .skip))
(.seq (.seq (.reg [o 25 (.len true u4), o 26 (.call 270 [u0])])
(.cond u0
(.post (.seq (.reg [o 29 (.call 260 [u7]), o 30 (.ext 0 u0), o 31 (.ext 1 u1), o 6 (.alloc 1292 [(.b false), (.b false), (.b false), (.b false), (.b false), (.b false), (.b false), (.b false), (.b false), (.b false), (.b false), (.b false), (.b false), (.b false), (.b false), (.b false), (.b false), (.b false), (.b false), (.b false), (.b false), (.b false), (.b false), (.b false), (.b false), (.b false), (.b false), (.b false), (.b false), (.b false), (.b false), (.b false), (.b false), (.b false), (.b false), (.b false), (.b false), (.b false), (.b false), (.b false), (.b false), (.b false), (.b false), (.b false), (.b false), (.b false), (.b false), (.b false), (.b false), (.b false), (.b false), (.b false), (.b false), (.b false), (.b false), (.b false), (.b false), (.b false), (.b false), (.b false), (.b false), (.b false), (.b false), (.b false), (.b false), (.b false), (.b false), (.b false), (.b false), (.b false), (.b false), (.b false), (.b false), (.b false), (.b false), (.b false), (.b false), (.b false), (.b false), (.b false), (.b false), (.b false), (.b false), (.b false), (.b false), (.b false), (.b false), (.b false), (.b false), (.b false), (.b false), (.b false), (.b false), (.b false), (.b false), (.b false), (.b false), (.b false), (.b false), (.b false), (.b false), (.b false), (.b false), (.b false), (.b false), (.b false), (.b false), (.b false), (.b false), (.b false), (.b false), (.b false), (.b false), (.b false), (.b false), (.b false), (.b false), (.b false), (.b false), (.b false), (.b false), (.b false), (.b false), (.b false), (.b false), (.b false), (.b false), (.b false), (.b false), (.b false), (.b false), (.b false), (.b false), (.b false), (.b false), (.b false), (.b false), (.b false), (.b false), (.b false), (.b false), (.b false), (.b false), (.b false), (.b false), (.b false), (.b false), (.b false), (.b false), (.b false), (.b false), (.b false), (.b false), (.b false), (.b false), (.b false), (.b false), (.b false), (.b false), (.b false), (.b false), (.b false), (.b false), (.b false), (.b false), (.b false), (.b false), (.b false), (.b false), (.b false), (.b false), (.b false), (.b false), (.b false), (.b false), (.b false), (.b false), (.b false), (.b false), (.b false), (.b false), (.b false), (.b false), (.b false), (.b false), (.b false), (.b false), (.b false), (.b false), (.b false), (.b false), (.b false), (.b false), (.b false), (.b false), (.b false), (.b false), (.b false), (.b false), (.b false), (.b false), (.b false), (.b false), (.b false), (.b false), (.b false), (.b false), (.b false), (.b false), (.b false), (.b false), (.b false), (.b false), (.b false), (.b false), (.b false), (.b false), (.b false), (.b false), (.b false), (.b false), (.b false), (.b false), (.b false), (.b false), (.b false), (.b false), (.b false), (.b false), (.b false), (.b false), (.b false), (.b false), (.b false), (.b false), (.b false), (.b false), (.b false), (.b false), (.b false), (.b false), (.b false), (.b false), (.b false), (.b false), (.b false), (.b false), (.b false), (.b false), (.b false), (.b false), (.b false), (.b false), (.b false), (.b false), (.b false)]), oC (.stn 256 u0 u2)])
(.seq (.reg [])
(.cond u1
(.seq (.seq (.reg [o 8 (.mv (kJ 0))])
(.block 0 [] (.pre [0, 6, 8] [11, 1, 0] (.loop (.post (.seq (.seq (.reg [o 35 (.len true u0), o 36 (.bin .lss u3 u0)])
(.cond u0
 .skip
(.pre [] [] (.exit 0))))
(.seq (.block 1 [0, 6, 8] (.post (.seq (.reg [o 41 (.ix u2 u4), o 42 (.call 271 [u4, u0])])
(.cond u0
(.seq (.reg [])
(.ret [.mv u6]))
 .skip)) [0, 6, 8] [4, 5, 6]))
(.reg [o 38 (.bin .add u2 (kJ 1))]))) [0, 6, 8] [1, 2, 0])))))
(.seq (.reg [o 4 (.mv (.k (.i .i64 (-1))))])
(.ret [.mv u0])))
 .skip))) [0, 1] [10, 11])
(.post .skip [0, 1] [6, 7])))
(.seq (.seq (.reg [o 45 (.rgs u0)])
(.block 2 [] (.pre [1, 45] [2, 0] (.loop (.seq (.reg [o 46 (.nxs u1), o 47 (.ext 0 u0)])
(.seq (.cond u0
 .skip
(.pre [] [] (.exit 2)))
(.block 3 [1, 45] (.post (.seq (.reg [o 48 (.ext 1 u1), o 49 (.ext 2 u2)])
(.seq (.reg [o 52 (.call 269 [u4, u0]), o 53 (.bin .geq u0 (kJ 0))])
(.cond u0
(.seq (.reg [])
(.ret [.mv u3]))
 .skip))) [1, 45] [6, 7]))))))))
(.seq (.reg [o 4 (.mv (.k (.i .i64 (-1))))])
(.ret [.mv u0])))))))
theorem fg217 : FGood Tryz.prog T 217 (.code 2 c217) := ⟨Tryz.call217, Tryz.f217, c217, Tryz.func217, by kernel_rfl⟩
def c218 : BC := (.seq (.reg [o 2 (.mv (kJ 0)), o 3 (.mv kF)])
(.seq (.reg [o 8 (.call 216 [u2, (.k (.s [43]))])])
(.seq (.seq (.reg [o 11 (.bin .eql u0 u3)])
(.cond u0
(.post (.reg [o 13 (.call 216 [u4, (.k (.s [45]))])]) [0, 4] [5, 0])
(.post .skip [0, 4] [4, 1])))
(.seq (.reg [o 16 (.call 272 [u1]), o 17 (.ext 0 u0), o 18 (.ext 1 u1)])
(.seq (.seq (.post (.reg [o 20 (.eq 5 true u0 (.k .inn)), oB 22 0 (.mv u5), oB 23 1 (.call 219 [u0]), oB 24 2 (.un .not u0), o 25 (.pick u3 kU u0), oB 27 0 (.mv u9), oB 28 1 (.len true u0), oB 29 2 (.bin .gtr u0 (kJ 3)), o 30 (.pick u3 kU u0), oB 32 0 (.mv u10), oB 33 1 (.bin .gtr u0 (kJ 100)), o 34 (.pick u2 kU u0)]) [0, 5, 34] [15, 13, 0])
(.cond u2
(.seq (.reg [o 2 (.mv (kJ 0)), o 3 (.mv kF)])
(.ret [.mv u1, .mv u0]))
 .skip))
(.seq (.seq (.reg [o 36 (.ix u0 (kJ 0)), o 37 (.bin .eql u0 (.k (.i .u8 45)))])
(.cond u0
(.post (.reg [o 39 (.un .neg u3)]) [5] [0])
(.post .skip [5] [3])))
(.seq (.reg [o 3 (.mv kU)])
(.ret [.mv u1, .mv u0]))))))))
theorem fg218 : FGood Tryz.prog T 218 (.code 1 c218) := ⟨Tryz.call218, Tryz.f218, c218, Tryz.func218, by kernel_rfl⟩
def c219 : BC := (.seq (.reg [o 2 (.mv kF)])
(.seq (.reg [o 4 (.call 210 [u1, (.k (.s [48, 49, 50, 51, 52, 53, 54, 55, 56, 57]))]), o 5 (.bin .eql u0 (.k (.s [])))])
(.ret [.mv u0])))
theorem fg219 : FGood Tryz.prog T 219 (.code 1 c219) := ⟨Tryz.call219, Tryz.f219, c219, Tryz.func219, by kernel_rfl⟩
def c220 : BC := (.seq (.reg [o 4 (.mv (.k (.s [])))])
(.seq (.seq (.reg [o 8 (.bin .eql u1 (.k (.s []))), oB 10 0 (.mv u3), oB 11 1 (.bin .eql u0 (.k (.s []))), o 12 (.pick u2 kU u0)])
(.cond u0
(.seq (.reg [])
(.ret [.mv u5]))
 .skip))
(.seq (.seq (.reg [o 15 (.len true u6), o 16 (.bin .eql u0 (kJ 1)), oA 18 0 (.mv u8), oA 19 1 (.ix u0 (kJ 0)), oA 20 2 (.bin .lss u0 (.k (.i .u8 128))), o 21 (.pick u3 u0 kF)])
(.cond u0
(.seq (.post (.reg [o 24 (.ix u12 (kJ 0)), o 25 (.call 258 [u12, u0])]) [4] [0])
(.ret [.mv u0]))
 .skip))
(.seq (.seq (.post (.reg [o 28 (.call 260 [u12]), o 29 (.ext 0 u0), o 30 (.ext 1 u1), o 5 (.alloc 1292 [(.b false), (.b false), (.b false), (.b false), (.b false), (.b false), (.b false), (.b false), (.b false), (.b false), (.b false), (.b false), (.b false), (.b false), (.b false), (.b false), (.b false), (.b false), (.b false), (.b false), (.b false), (.b false), (.b false), (.b false), (.b false), (.b false), (.b false), (.b false), (.b false), (.b false), (.b false), (.b false), (.b false), (.b false), (.b false), (.b false), (.b false), (.b false), (.b false), (.b false), (.b false), (.b false), (.b false), (.b false), (.b false), (.b false), (.b false), (.b false), (.b false), (.b false), (.b false), (.b false), (.b false), (.b false), (.b false), (.b false), (.b false), (.b false), (.b false), (.b false), (.b false), (.b false), (.b false), (.b false), (.b false), (.b false), (.b false), (.b false), (.b false), (.b false), (.b false), (.b false), (.b false), (.b false), (.b false), (.b false), (.b false), (.b false), (.b false), (.b false), (.b false), (.b false), (.b false), (.b false), (.b false), (.b false), (.b false), (.b false), (.b false), (.b false), (.b false), (.b false), (.b false), (.b false), (.b false), (.b false), (.b false), (.b false), (.b false), (.b false), (.b false), (.b false), (.b false), (.b false), (.b false), (.b false), (.b false), (.b false), (.b false), (.b false), (.b false), (.b false), (.b false), (.b false), (.b false), (.b false), (.b false), (.b false), (.b false), (.b false), (.b false), (.b false), (.b false), (.b false), (.b false), (.b false), (.b false), (.b false), (.b false), (.b false), (.b false), (.b false), (.b false), (.b false), (.b false), (.b false), (.b false), (.b false), (.b false), (.b false), (.b false), (.b false), (.b false), (.b false), (.b false), (.b false), (.b false), (.b false), (.b false), (.b false), (.b false), (.b false), (.b false), (.b false), (.b false), (.b false), (.b false), (.b false), (.b false), (.b false), (.b false), (.b false), (.b false), (.b false), (.b false), (.b false), (.b false), (.b false), (.b false), (.b false), (.b false), (.b false), (.b false), (.b false), (.b false), (.b false), (.b false), (.b false), (.b false), (.b false), (.b false), (.b false), (.b false), (.b false), (.b false), (.b false), (.b false), (.b false), (.b false), (.b false), (.b false), (.b false), (.b false), (.b false), (.b false), (.b false), (.b false), (.b false), (.b false), (.b false), (.b false), (.b false), (.b false), (.b false), (.b false), (.b false), (.b false), (.b false), (.b false), (.b false), (.b false), (.b false), (.b false), (.b false), (.b false), (.b false), (.b false), (.b false), (.b false), (.b false), (.b false), (.b false), (.b false), (.b false), (.b false), (.b false), (.b false), (.b false), (.b false), (.b false), (.b false), (.b false), (.b false), (.b false), (.b false), (.b false), (.b false), (.b false), (.b false), (.b false), (.b false), (.b false), (.b false), (.b false), (.b false), (.b false), (.b false), (.b false), (.b false), (.b false), (.b false), (.b false), (.b false), (.b false), (.b false), (.b false)]), oC (.stn 256 u0 u2)]) [0, 1, 5, 6] [15, 16, 0, 1])
(.seq (.reg [])
(.cond u3
(.seq (.reg [o 33 (.call 261 [u0, u2])])
(.ret [.mv u0]))
 .skip)))
(.seq (.reg [o 36 (.call 263 [u0, u1])])
(.ret [.mv u0]))))))
theorem fg220 : FGood Tryz.prog T 220 (.code 2 c220) := ⟨Tryz.call220, Tryz.f220, c220, Tryz.func220, by kernel_rfl⟩
def c221 : BC := (.seq (.reg [o 6 (.mv (.k .pn)), o 7 (.mv kF)])
(.seq (.seq (.reg [o 10 (.call 177 [u4])])
(.cond u0
(.seq (.reg [o 6 (.mv (.k .pn)), o 7 (.mv kF)])
(.ret [.mv u1, .mv u0]))
 .skip))
(.seq (.seq (.reg [o 13 (.call 273 [u4, u5])])
(.seq (.reg [o 15 (.call 213 [(.k (.i .u64 1))]), o 16 (.call 179 [u1, u0]), o 17 (.bin .neq u0 (kJ 0))])
(.cond u0
(.seq (.reg [o 21 (.call 236 [u8, u3]), o 22 (.ext 0 u0), o 23 (.ext 1 u1), o 24 (.ext 2 u2)])
(.post (.reg [o 28 (.call 236 [u13, u7]), o 29 (.ext 0 u0), o 30 (.ext 1 u1), o 31 (.ext 2 u2)]) [0, 1, 2] [15, 6, 2]))
(.post .skip [0, 1, 2] [7, 8, 9]))))
(.seq (.seq (.reg [o 33 (.eq 1 false u1 (.k .pn))])
(.cond u0
(.post (.reg [o 34 (.call 213 [(.k (.i .u64 0))])]) [0, 1, 2] [2, 0, 4])
(.post .skip [0, 1, 2] [1, 2, 3])))
(.seq (.reg [oA 37 0 (.mv u1), oA 38 1 (.call 177 [u0]), oA 39 2 (.un .not u0), o 40 (.pick u3 u0 kF), o 43 (.build [(.b false), .pn, .pn] [(0, 1, u0), (1, 1, u5), (2, 1, u6)]), o 44 (.box 1008 u0), o 7 (.mv kU)])
(.ret [.mv u1, .mv u0]))))))
theorem fg221 : FGood Tryz.prog T 221 (.code 3 c221) := ⟨Tryz.call221, Tryz.f221, c221, Tryz.func221, by kernel_rfl⟩
def c222 : BC := (.seq (.reg [o 2 (.mv (.k .pn))])
(.seq (.reg [o 7 (.call 235 [(.k (.s [48])), u1]), o 8 (.bin .add (.k (.s [49])) u0), o 9 (.call 151 [u0]), o 10 (.ext 0 u0), o 11 (.ext 1 u1)])
(.seq (.reg [])
(.ret [.mv u1]))))
theorem fg222 : FGood Tryz.prog T 222 (.code 1 c222) := ⟨Tryz.call222, Tryz.f222, c222, Tryz.func222, by kernel_rfl⟩
def h223 : BC := (.seq (.reg [o 6 (.len false u0)])
(.reg [o 10 (.cvi .u64 u0), o 11 (.call 275 [u0]), o 13 (.call 274 [u3, (kJ 0), u2, u0, u4])]))
def c223 : BC := .seq h223 (.ret [])
theorem fg223 : FGood Tryz.prog T 223 (.code 2 c223) := ⟨Tryz.call223, Tryz.f223, h223, Tryz.func223, by kernel_rfl⟩
def c224 : BC := (.seq (.reg [o 2 (.box 1156 u0), o 3 (.box 1156 u2), o 4 (.mv (kJ 0))])
(.seq (.reg [o 5 (.fa 0 u2), o 6 (.ld u0), o 7 (.fa 0 u3), o 8 (.ld u0), o 9 (.call 225 [u2, u0])])
(.ret [.mv u0])))
theorem fg224 : FGood Tryz.prog T 224 (.code 2 c224) := ⟨Tryz.call224, Tryz.f224, c224, Tryz.func224, by kernel_rfl⟩
def c225 : BC := (.seq (.reg [o 4 (.mv (kJ 0))])
(.seq (.reg [o 8 (.call 276 [u1])])
(.seq (.reg [o 10 (.call 276 [u3])])
(.seq (.seq (.reg [])
(.cond u1
(.seq (.seq (.reg [])
(.cond u0
(.seq (.reg [o 4 (.mv (kJ 0))])
(.ret [.mv u0]))
 .skip))
(.seq (.reg [o 4 (.mv (.k (.i .i64 (-1))))])
(.ret [.mv u0])))
 .skip))
(.seq (.seq (.reg [])
(.cond u0
(.seq (.reg [o 4 (.mv (kJ 1))])
(.ret [.mv u0]))
 .skip))
(.seq (.seq (.reg [o 16 (.bin .lss u3 u4)])
(.cond u0
(.seq (.reg [o 4 (.mv (.k (.i .i64 (-1))))])
(.ret [.mv u0]))
 .skip))
(.seq (.seq (.reg [o 19 (.bin .gtr u4 u5)])
(.cond u0
(.seq (.reg [o 4 (.mv (kJ 1))])
(.ret [.mv u0]))
 .skip))
(.seq (.reg [o 4 (.mv (kJ 0))])
(.ret [.mv u0])))))))))
theorem fg225 : FGood Tryz.prog T 225 (.code 2 c225) := ⟨Tryz.call225, Tryz.f225, c225, Tryz.func225, by kernel_rfl⟩
def c226 : BC := (.seq (.reg [o 2 (.mv (kJ 0)), o 3 (.mv (kJ 0))])
(.seq (.seq (.reg [o 5 (.eq 1 false u2 (.k .pn))])
(.cond u0
(.seq (.reg [o 2 (.mv (kJ 0)), o 3 (.mv (kJ 0))])
(.ret [.mv u1, .mv u0]))
 .skip))
(.seq (.reg [o 7 (.nck u3), o 8 (.fa 0 u0), o 9 (.ld u0), o 10 (.len false u0), o 12 (.nck u7), o 13 (.fa 1 u0), o 14 (.ld u0)])
(.ret [.mv u3, .mv u0]))))
theorem fg226 : FGood Tryz.prog T 226 (.code 1 c226) := ⟨Tryz.call226, Tryz.f226, c226, Tryz.func226, by kernel_rfl⟩
def c227 : BC := (.seq (.reg [o 4 (.mv (.k .sn))])
(.seq (.reg [o 5 (.mv (.k .sn))])
(.seq (.reg [o 11 (.call 226 [u2]), o 12 (.ext 0 u0), o 13 (.ext 1 u1)])
(.seq (.seq (.reg [o 15 (.mv (kJ 0))])
(.block 0 [5] (.pre [0, 1, 5, 14, 15] [6, 7, 4, 2, 0] (.loop (.post (.seq (.reg [o 16 (.bin .lss u4 u3)])
(.seq (.cond u0
 .skip
(.pre [5] [3] (.exit 0)))
(.seq (.block 1 [0, 1, 5, 14, 15] (.post (.seq (.reg [])
(.reg [o 20 (.nck u1), o 21 (.fa 0 u0), o 22 (.ld u0), o 24 (.ia 1 u0 u8), o 25 (.ld u0), o 26 (.call 277 [u0]), o 29 (.callv u8 [u11]), o 30 (.app 788 1 8 u1 u0), o 31 (.bsl 1 1 [.sn] [(0, 1, u0)]), o 32 (.app 944 1 24 u12 u0)])) [0, 1, 5, 14, 15] [11, 12, 0, 14, 15]))
(.reg [o 33 (.bin .add u4 (kJ 1))])))) [0, 1, 5, 14, 15] [1, 2, 3, 4, 0])))))
(.seq (.reg [])
(.ret [.mv u0]))))))
theorem fg227 : FGood Tryz.prog T 227 (.code 2 c227) := ⟨Tryz.call227, Tryz.f227, c227, Tryz.func227, by kernel_rfl⟩
def c228 : BC := (.seq (.reg [o 3 (.mv (.k .sn))])
(.seq (.reg [o 4 (.ld u2), o 7 (.bin .add u2 (kJ 1)), o 8 (.slv 1 u1 (some u3) (some u0))])
(.ret [.mv u0])))
theorem fg228 : FGood Tryz.prog T 228 (.code 2 c228) := ⟨Tryz.call228, Tryz.f228, c228, Tryz.func228, by kernel_rfl⟩
def c229 : BC := (.seq (.reg [o 4 (.mv (kJ 0))])
(.seq (.reg [o 5 (.mv (kJ 0))])
(.seq (.seq (.reg [o 6 (.alloc 16 [(.i .i64 0)]), oC (.st u0 (kJ 0))])
(.block 0 [5] (.pre [0, 1, 5, 6] [3, 4, 1, 0] (.loop (.post (.seq (.seq (.reg [o 8 (.ld u3), o 10 (.bin .lss u0 u2), oA 12 0 (.mv u4), oA 13 1 (.mv u3), oA 14 2 (.len false u0), oA 15 3 (.bin .lss u2 u0), o 16 (.pick u4 u0 kF)])
(.cond u0
 .skip
(.pre [5] [9] (.exit 0))))
(.seq (.block 1 [0, 1, 5, 6] (.post (.seq (.reg [o 21 (.slv 1 u7 (some u9) none), o 22 (.mkf 279 [] [u11]), o 23 (.call 278 [u1, u0])])
(.seq (.seq (.reg [o 25 (.bin .lss u0 (kJ 0))])
(.cond u0
(.pre [0, 1, 5, 6] [11, 12, 13, 14] (.exit 1))
 .skip))
(.seq (.post (.reg [o 31 (.bin .add u13 u1), o 35 (.bin .add u14 u2), o 36 (.ia 1 u13 u0), o 37 (.ld u0), o 40 (.ia 1 u15 u17), o 41 (.ld u0), o 42 (.ia 1 u17 u19), oC (.st u0 u3), o 43 (.ia 1 u18 u6), oC (.st u0 u2)]) [0, 1, 5, 6] [19, 20, 21, 22])
(.seq (.reg [o 46 (.ld u3), o 47 (.call 280 [u1, u3, u0])])
(.reg [o 49 (.bin .add u4 (kJ 1))]))))) [0, 1, 5, 6] [3, 4, 0, 6]))
(.seq (.seq (.reg [o 50 (.ld u3)])
(.reg [o 6 (.alloc 16 [(.i .i64 0)]), oC (.st u0 u1)]))
(.reg [o 17 (.ld u0), o 18 (.bin .add u0 (kJ 1)), oC (.st u2 u0)])))) [0, 1, 5, 6] [4, 5, 6, 2])))))
(.seq (.reg [])
(.ret [.mv u0])))))
theorem fg229 : FGood Tryz.prog T 229 (.code 2 c229) := ⟨Tryz.call229, Tryz.f229, c229, Tryz.func229, by kernel_rfl⟩
def c230 : BC := (.seq (.reg [o 2 (.mv (.k (.i .u64 0)))])
(.seq (.seq (.reg [o 4 (.bin .lss u1 (kJ 0))])
(.cond u0
(.seq (.reg [o 6 (.cvi .u64 u2), o 7 (.un .neg u0)])
(.ret [.mv u0]))
 .skip))
(.seq (.reg [o 9 (.cvi .u64 u2)])
(.ret [.mv u0]))))
theorem fg230 : FGood Tryz.prog T 230 (.code 1 c230) := ⟨Tryz.call230, Tryz.f230, c230, Tryz.func230, by kernel_rfl⟩
def c231 : BC := (.seq (.reg [o 2 (.mv (.k .sn))])
(.seq (.seq (.reg [o 4 (.eq 1 false u1 (.k .pn))])
(.cond u0
(.seq (.reg [o 2 (.mv (.k .sn))])
(.ret [.mv u0]))
 .skip))
(.seq (.reg [o 6 (.nck u2), o 7 (.fa 0 u0), o 8 (.ld u0)])
(.ret [.mv u0]))))
theorem fg231 : FGood Tryz.prog T 231 (.code 1 c231) := ⟨Tryz.call231, Tryz.f231, c231, Tryz.func231, by kernel_rfl⟩
def c232 : BC := (.seq (.reg [o 2 (.mv (kJ 0))])
(.seq (.seq (.reg [o 4 (.bin .eql u1 (.k (.i .u64 0)))])
(.cond u0
(.seq (.reg [o 2 (.mv (kJ 64))])
(.ret [.mv u0]))
 .skip))
(.seq (.reg [o 7 (.un .neg u2), o 8 (.bin .and u3 u0), o 9 (.call 164 [u0]), o 10 (.bin .sub u0 (kJ 1))])
(.ret [.mv u0]))))
theorem fg232 : FGood Tryz.prog T 232 (.code 1 c232) := ⟨Tryz.call232, Tryz.f232, c232, Tryz.func232, by kernel_rfl⟩
def c233 : BC := (.seq (.reg [o 4 (.mv (.k .sn)), o 5 (.mv (.k (.i .u64 0)))])
(.seq (.reg [o 10 (.len false u2), o 11 (.mks 1 4 [(.i .u32 0)] u0 u0)])
(.seq (.reg [o 7 (.mv (.k (.i .u64 0)))])
(.seq (.seq (.reg [o 13 (.len false u5), o 14 (.bin .sub u0 (kJ 1))])
(.block 0 [6, 7] (.pre [0, 1, 6, 7, 8] [7, 8, 3, 2, 0] (.loop (.post (.seq (.seq (.reg [o 16 (.bin .geq u4 (kJ 0))])
(.cond u0
 .skip
(.pre [6, 7] [3, 4] (.exit 0))))
(.seq (.block 1 [0, 1, 6, 7, 8] (.post (.seq (.reg [o 20 (.bin .shl u4 (.k (.i .u64 32))), o 23 (.ia 1 u2 u6), o 24 (.ld u0), o 25 (.cvi .u64 u0), o 26 (.bin .or u3 u0)])
(.seq (.reg [o 31 (.bin .quo u0 u7), o 32 (.cvi .u32 u0), o 33 (.ia 1 u10 u12), oC (.st u0 u1)])
(.reg [o 36 (.bin .rem u3 u10)]))) [0, 1, 6, 7, 8] [10, 11, 12, 0, 14]))
(.reg [o 18 (.bin .sub u4 (kJ 1))]))) [0, 1, 6, 7, 8] [1, 2, 3, 4, 0])))))
(.seq (.reg [])
(.ret [.mv u0, .mv u1]))))))
theorem fg233 : FGood Tryz.prog T 233 (.code 2 c233) := ⟨Tryz.call233, Tryz.f233, c233, Tryz.func233, by kernel_rfl⟩
def c234 : BC := (.seq (.reg [o 4 (.mv (.k (.s [])))])
(.seq (.reg [o 7 (.call 281 [u1, u2])])
(.ret [.mv u0])))
theorem fg234 : FGood Tryz.prog T 234 (.code 2 c234) := ⟨Tryz.call234, Tryz.f234, c234, Tryz.func234, by kernel_rfl⟩
def c235 : BC := (.seq (.reg [o 4 (.mv (.k (.s [])))])
(.seq (.seq (.reg [])
(.block 0 [0, 1] (.post (.seq (.reg [o 13 (.bin .eql u2 (kJ 0))])
(.cond u0
(.seq (.reg [o 4 (.mv (.k (.s [])))])
(.ret [.mv u0]))
(.seq (.reg [o 15 (.bin .eql u3 (kJ 1))])
(.cond u0
(.seq (.reg [])
(.ret [.mv u3]))
 .skip)))) [0, 1] [3, 4])))
(.seq (.seq (.reg [o 18 (.bin .lss u1 (kJ 0))])
(.cond u0
 .bad
 .skip))
(.seq (.reg [o 22 (.len true u1), o 23 (.cvi .u64 u0), o 25 (.cvi .u64 u4), o 26 (.call 282 [u1, u0]), o 27 (.ext 0 u0), o 28 (.ext 1 u1)])
(.seq (.seq (.reg [o 30 (.bin .gtr u1 (.k (.i .u64 0))), oB 32 0 (.mv u1), oB 33 1 (.bin .gtr u0 (.k (.i .u64 9223372036854775807))), o 34 (.pick u2 kU u0)])
(.cond u0
 .bad
 .skip))
(.seq (.post (.reg [o 37 (.cvi .i64 u4)]) [0, 7] [12, 0])
(.seq (.seq (.reg [o 39 (.len true u0), o 40 (.bin .eql u0 (kJ 0))])
(.cond u0
(.seq (.reg [o 4 (.mv (.k (.s [])))])
(.ret [.mv u0]))
 .skip))
(.seq (.seq (.reg [o 42 (.ix u2 (kJ 0))])
(.block 1 [0, 7] (.seq (.seq (.reg [o 44 (.bin .eql u0 (.k (.i .u8 32)))])
(.cond u0
(.post .skip [0, 7, 43] [4, 5, 0])
(.seq (.reg [o 45 (.bin .eql u1 (.k (.i .u8 45)))])
(.cond u0
(.post .skip [0, 7, 43] [5, 6, 0])
(.seq (.reg [o 46 (.bin .eql u2 (.k (.i .u8 48)))])
(.cond u0
(.post .skip [0, 7, 43] [6, 7, 0])
(.seq (.reg [o 47 (.bin .eql u3 (.k (.i .u8 61)))])
(.cond u0
(.post .skip [0, 7, 43] [7, 8, 0])
(.post (.reg [o 48 (.bin .eql u4 (.k (.i .u8 9)))]) [0, 7, 43] [8, 9, 0])))))))))
(.cond u2
(.block 2 [0, 7] (.post (.seq (.reg [o 51 (.bin .leq u1 (kJ 128)), oA 53 0 (.mv u1), oA 54 1 (.call 215 [(.k (.s [32, 32, 32, 32, 32, 32, 32, 32, 32, 32, 32, 32, 32, 32, 32, 32, 32, 32, 32, 32, 32, 32, 32, 32, 32, 32, 32, 32, 32, 32, 32, 32, 32, 32, 32, 32, 32, 32, 32, 32, 32, 32, 32, 32, 32, 32, 32, 32, 32, 32, 32, 32, 32, 32, 32, 32, 32, 32, 32, 32, 32, 32, 32, 32, 32, 32, 32, 32, 32, 32, 32, 32, 32, 32, 32, 32, 32, 32, 32, 32, 32, 32, 32, 32, 32, 32, 32, 32, 32, 32, 32, 32, 32, 32, 32, 32, 32, 32, 32, 32, 32, 32, 32, 32, 32, 32, 32, 32, 32, 32, 32, 32, 32, 32, 32, 32, 32, 32, 32, 32, 32, 32, 32, 32, 32, 32, 32, 32])), u0]), o 55 (.pick u2 u0 kF)])
(.cond u0
(.seq (.reg [o 57 (.sls (.k (.s [32, 32, 32, 32, 32, 32, 32, 32, 32, 32, 32, 32, 32, 32, 32, 32, 32, 32, 32, 32, 32, 32, 32, 32, 32, 32, 32, 32, 32, 32, 32, 32, 32, 32, 32, 32, 32, 32, 32, 32, 32, 32, 32, 32, 32, 32, 32, 32, 32, 32, 32, 32, 32, 32, 32, 32, 32, 32, 32, 32, 32, 32, 32, 32, 32, 32, 32, 32, 32, 32, 32, 32, 32, 32, 32, 32, 32, 32, 32, 32, 32, 32, 32, 32, 32, 32, 32, 32, 32, 32, 32, 32, 32, 32, 32, 32, 32, 32, 32, 32, 32, 32, 32, 32, 32, 32, 32, 32, 32, 32, 32, 32, 32, 32, 32, 32, 32, 32, 32, 32, 32, 32, 32, 32, 32, 32, 32, 32])) none (some u5))])
(.ret [.mv u0]))
(.seq (.reg [o 60 (.bin .leq u5 (kJ 128)), oA 62 0 (.mv u5), oA 63 1 (.call 215 [(.k (.s [45, 45, 45, 45, 45, 45, 45, 45, 45, 45, 45, 45, 45, 45, 45, 45, 45, 45, 45, 45, 45, 45, 45, 45, 45, 45, 45, 45, 45, 45, 45, 45, 45, 45, 45, 45, 45, 45, 45, 45, 45, 45, 45, 45, 45, 45, 45, 45, 45, 45, 45, 45, 45, 45, 45, 45, 45, 45, 45, 45, 45, 45, 45, 45, 45, 45, 45, 45, 45, 45, 45, 45, 45, 45, 45, 45, 45, 45, 45, 45, 45, 45, 45, 45, 45, 45, 45, 45, 45, 45, 45, 45, 45, 45, 45, 45, 45, 45, 45, 45, 45, 45, 45, 45, 45, 45, 45, 45, 45, 45, 45, 45, 45, 45, 45, 45, 45, 45, 45, 45, 45, 45, 45, 45, 45, 45, 45, 45])), u0]), o 64 (.pick u2 u0 kF)])
(.cond u0
(.seq (.post (.reg [o 66 (.sls (.k (.s [45, 45, 45, 45, 45, 45, 45, 45, 45, 45, 45, 45, 45, 45, 45, 45, 45, 45, 45, 45, 45, 45, 45, 45, 45, 45, 45, 45, 45, 45, 45, 45, 45, 45, 45, 45, 45, 45, 45, 45, 45, 45, 45, 45, 45, 45, 45, 45, 45, 45, 45, 45, 45, 45, 45, 45, 45, 45, 45, 45, 45, 45, 45, 45, 45, 45, 45, 45, 45, 45, 45, 45, 45, 45, 45, 45, 45, 45, 45, 45, 45, 45, 45, 45, 45, 45, 45, 45, 45, 45, 45, 45, 45, 45, 45, 45, 45, 45, 45, 45, 45, 45, 45, 45, 45, 45, 45, 45, 45, 45, 45, 45, 45, 45, 45, 45, 45, 45, 45, 45, 45, 45, 45, 45, 45, 45, 45, 45])) none (some u9))]) [4] [0])
(.ret [.mv u0]))
(.seq (.post (.reg [o 69 (.bin .leq u9 (kJ 64)), oA 71 0 (.mv u9), oA 72 1 (.call 215 [(.k (.s [48, 48, 48, 48, 48, 48, 48, 48, 48, 48, 48, 48, 48, 48, 48, 48, 48, 48, 48, 48, 48, 48, 48, 48, 48, 48, 48, 48, 48, 48, 48, 48, 48, 48, 48, 48, 48, 48, 48, 48, 48, 48, 48, 48, 48, 48, 48, 48, 48, 48, 48, 48, 48, 48, 48, 48, 48, 48, 48, 48, 48, 48, 48, 48])), u0]), o 73 (.pick u2 u0 kF)]) [0, 7, 67] [12, 13, 0])
(.cond u2
(.seq (.reg [o 75 (.sls (.k (.s [48, 48, 48, 48, 48, 48, 48, 48, 48, 48, 48, 48, 48, 48, 48, 48, 48, 48, 48, 48, 48, 48, 48, 48, 48, 48, 48, 48, 48, 48, 48, 48, 48, 48, 48, 48, 48, 48, 48, 48, 48, 48, 48, 48, 48, 48, 48, 48, 48, 48, 48, 48, 48, 48, 48, 48, 48, 48, 48, 48, 48, 48, 48, 48])) none (some u1))])
(.ret [.mv u0]))
(.seq (.reg [o 78 (.bin .leq u1 (kJ 128)), oA 80 0 (.mv u1), oA 81 1 (.call 215 [(.k (.s [61, 61, 61, 61, 61, 61, 61, 61, 61, 61, 61, 61, 61, 61, 61, 61, 61, 61, 61, 61, 61, 61, 61, 61, 61, 61, 61, 61, 61, 61, 61, 61, 61, 61, 61, 61, 61, 61, 61, 61, 61, 61, 61, 61, 61, 61, 61, 61, 61, 61, 61, 61, 61, 61, 61, 61, 61, 61, 61, 61, 61, 61, 61, 61, 61, 61, 61, 61, 61, 61, 61, 61, 61, 61, 61, 61, 61, 61, 61, 61, 61, 61, 61, 61, 61, 61, 61, 61, 61, 61, 61, 61, 61, 61, 61, 61, 61, 61, 61, 61, 61, 61, 61, 61, 61, 61, 61, 61, 61, 61, 61, 61, 61, 61, 61, 61, 61, 61, 61, 61, 61, 61, 61, 61, 61, 61, 61, 61])), u0]), o 82 (.pick u2 u0 kF)])
(.cond u0
(.seq (.reg [o 84 (.sls (.k (.s [61, 61, 61, 61, 61, 61, 61, 61, 61, 61, 61, 61, 61, 61, 61, 61, 61, 61, 61, 61, 61, 61, 61, 61, 61, 61, 61, 61, 61, 61, 61, 61, 61, 61, 61, 61, 61, 61, 61, 61, 61, 61, 61, 61, 61, 61, 61, 61, 61, 61, 61, 61, 61, 61, 61, 61, 61, 61, 61, 61, 61, 61, 61, 61, 61, 61, 61, 61, 61, 61, 61, 61, 61, 61, 61, 61, 61, 61, 61, 61, 61, 61, 61, 61, 61, 61, 61, 61, 61, 61, 61, 61, 61, 61, 61, 61, 61, 61, 61, 61, 61, 61, 61, 61, 61, 61, 61, 61, 61, 61, 61, 61, 61, 61, 61, 61, 61, 61, 61, 61, 61, 61, 61, 61, 61, 61, 61, 61])) none (some u5))])
(.ret [.mv u0]))
(.seq (.reg [o 87 (.bin .leq u5 (kJ 64)), oA 89 0 (.mv u5), oA 90 1 (.call 215 [(.k (.s [9, 9, 9, 9, 9, 9, 9, 9, 9, 9, 9, 9, 9, 9, 9, 9, 9, 9, 9, 9, 9, 9, 9, 9, 9, 9, 9, 9, 9, 9, 9, 9, 9, 9, 9, 9, 9, 9, 9, 9, 9, 9, 9, 9, 9, 9, 9, 9, 9, 9, 9, 9, 9, 9, 9, 9, 9, 9, 9, 9, 9, 9, 9, 9])), u0]), o 91 (.pick u2 u0 kF)])
(.cond u0
(.seq (.post (.reg [o 93 (.sls (.k (.s [9, 9, 9, 9, 9, 9, 9, 9, 9, 9, 9, 9, 9, 9, 9, 9, 9, 9, 9, 9, 9, 9, 9, 9, 9, 9, 9, 9, 9, 9, 9, 9, 9, 9, 9, 9, 9, 9, 9, 9, 9, 9, 9, 9, 9, 9, 9, 9, 9, 9, 9, 9, 9, 9, 9, 9, 9, 9, 9, 9, 9, 9, 9, 9])) none (some u9))]) [4] [0])
(.ret [.mv u0]))
 .skip)))))))))) [0, 7] [8, 9]))
(.post .skip [0, 7] [0, 1])))))
(.seq (.reg [])
(.seq (.seq (.reg [o 96 (.bin .gtr u1 (kJ 8192))])
(.cond u0
(.seq (.reg [o 98 (.len true u1), o 99 (.bin .quo (kJ 8192) u0), o 101 (.len true u3), o 102 (.bin .mul u1 u0)])
(.seq (.reg [o 104 (.bin .eql u0 (kJ 0))])
(.cond u0
(.post (.reg [o 106 (.len true u6)]) [0, 7, 8] [7, 8, 0])
(.post .skip [0, 7, 8] [6, 7, 1]))))
(.post .skip [0, 7, 8] [1, 2, 2])))
(.seq (.reg [o 9 (.alloc 668 [.pn, .sn])])
(.seq (.reg [o 108 (.call 206 [u0, u2])])
(.seq (.reg [o 110 (.call 143 [u1, u2])])
(.seq (.block 3 [9] (.pre [7, 8, 9] [4, 5, 2] (.loop (.seq (.seq (.reg [o 111 (.call 283 [u2]), o 113 (.bin .lss u0 u1)])
(.cond u0
 .skip
(.pre [9] [4] (.exit 3))))
(.block 4 [7, 8, 9] (.post (.seq (.reg [o 115 (.call 283 [u4]), o 116 (.bin .sub u3 u0), o 117 (.call 283 [u6]), o 119 (.mm false u1 [u0, u6])])
(.reg [o 120 (.call 148 [u8]), o 122 (.sls u0 none (some u1)), o 123 (.call 143 [u10, u0])])) [7, 8, 9] [9, 10, 11]))))))
(.seq (.reg [o 124 (.call 148 [u0])])
(.ret [.mv u0]))))))))))))))))
theorem fg235 : FGood Tryz.prog T 235 (.code 2 c235) := ⟨Tryz.call235, Tryz.f235, c235, Tryz.func235, by kernel_rfl⟩
def c236 : BC := (.seq (.reg [o 4 (.mv (.k .pn)), o 5 (.mv (.k .pn)), o 6 (.mv kF)])
(.seq (.reg [o 15 (.call 231 [u4])])
(.seq (.block 0 [0, 1, 7] (.post (.seq (.reg [o 18 (.len false u0), o 19 (.bin .eql u0 (kJ 0))])
(.cond u0
(.seq (.reg [o 4 (.mv (.k .pn)), o 5 (.mv (.k .pn)), o 6 (.mv kF)])
(.ret [.mv u2, .mv u1, .mv u0]))
(.seq (.reg [o 23 (.call 179 [u6, u7]), o 24 (.bin .lss u0 (kJ 0))])
(.cond u0
(.seq (.reg [o 25 (.call 211 [(.k .sn)]), o 27 (.call 231 [u9]), o 28 (.call 211 [u0]), o 6 (.mv kU)])
(.ret [.mv u3, .mv u1, .mv u0]))
(.seq (.reg [o 31 (.len false u4), o 32 (.bin .eql u0 (kJ 1))])
(.cond u0
(.seq (.post (.reg [o 37 (.ia 1 u6 (kJ 0)), o 38 (.ld u0), o 39 (.cvi .u64 u0), o 35 (.call 231 [u13]), .chk ⟨(some 2), none, .ld u3⟩, o 40 (.call 233 [u0, u1]), o 41 (.ext 0 u0), o 42 (.ext 1 u1)]) [8, 9] [1, 0])
(.seq (.reg [o 44 (.call 211 [u0]), o 46 (.call 213 [u2]), o 6 (.mv kU)])
(.ret [.mv u2, .mv u1, .mv u0])))
 .skip)))))) [0, 1, 7] [10, 11, 6]))
(.seq (.reg [o 49 (.len false u2), o 50 (.bin .sub u0 (kJ 1)), o 51 (.ia 1 u4 u0), o 52 (.ld u0), o 53 (.cvi .u64 u0), o 54 (.call 164 [u0]), o 55 (.bin .sub (kJ 32) u0)])
(.seq (.reg [o 58 (.call 284 [u8, u0]), o 59 (.nck u0), o 60 (.fa 0 u0), o 61 (.ld u0)])
(.seq (.post (.reg [o 63 (.nck u11), o 64 (.fa 0 u0), o 65 (.ld u0), o 66 (.len false u0), o 67 (.bin .add u0 (kJ 2)), o 68 (.mks 1 4 [(.i .u32 0)] (kJ 0) u0), o 71 (.call 284 [u17, u10]), .chk ⟨(some 4), none, .ld u5⟩, .chk ⟨(some 1), none, .mks 1 4 [(.i .u32 0)] (kJ 0) u2⟩, o 72 (.nck u0), o 73 (.fa 0 u0), o 74 (.ld u0), o 75 (.app 1212 1 4 u4 u0)]) [0, 7, 10, 11] [22, 11, 15, 0])
(.seq (.block 1 [7, 10, 11] (.loop (.seq (.seq (.reg [o 77 (.len false u3), o 79 (.nck u1), o 80 (.fa 0 u0), o 81 (.ld u0), o 82 (.len false u0), o 83 (.bin .leq u4 u0)])
(.cond u0
 .skip
(.pre [7, 10, 11] [7, 8, 9] (.exit 1))))
(.block 2 [0, 7, 10, 11] (.post (.reg [o 85 (.bsl 1 1 [(.i .u32 0)] [(0, 1, (.k (.i .u32 0)))]), o 86 (.app 1212 1 4 u10 u0)]) [0, 7, 10, 11] [8, 9, 10, 0])))))
(.seq (.reg [o 88 (.len false u2), o 90 (.len false u1), o 91 (.bin .sub u1 u0), o 92 (.mks 1 4 [(.i .u32 0)] u0 u0)])
(.seq (.seq (.reg [o 94 (.len false u0), o 95 (.bin .sub u0 (kJ 1))])
(.block 3 [10, 11, 12] (.pre [7, 10, 11, 12, 13] [6, 7, 8, 2, 0] (.loop (.post (.seq (.seq (.reg [o 97 (.bin .geq u4 (kJ 0))])
(.cond u0
 .skip
(.pre [10, 11, 12] [2, 3, 4] (.exit 3))))
(.seq (.block 4 [7, 10, 11, 12, 13] (.post (.reg [o 106 (.len false u1), o 107 (.bin .add u6 u0), o 108 (.bin .add u0 (kJ 1)), o 109 (.slv 1 u6 (some u8) (some u0)), o 111 (.call 285 [u0, u5]), o 112 (.ia 1 u9 u10), oC (.st u0 u1)]) [7, 10, 11, 12, 13] [7, 8, 9, 10, 11]))
(.reg [o 99 (.bin .sub u4 (kJ 1))]))) [7, 10, 11, 12, 13] [1, 2, 3, 4, 0])))))
(.seq (.reg [o 114 (.call 211 [u2]), o 116 (.call 211 [u2]), o 118 (.call 286 [u0, u2]), o 6 (.mv kU)])
(.ret [.mv u3, .mv u1, .mv u0])))))))))))
theorem fg236 : FGood Tryz.prog T 236 (.code 2 c236) := ⟨Tryz.call236, Tryz.f236, c236, Tryz.func236, by kernel_rfl⟩
def c237 : BC := (.seq (.reg [o 2 (.mv (.k .sn))])
(.seq (.seq (.reg [o 4 (.eq 1 false u1 (.k .pn))])
(.cond u0
(.seq (.reg [o 2 (.mv (.k .sn))])
(.ret [.mv u0]))
 .skip))
(.seq (.reg [o 6 (.nck u2), o 7 (.fa 0 u0), o 8 (.ld u0)])
(.ret [.mv u0]))))
theorem fg237 : FGood Tryz.prog T 237 (.code 1 c237) := ⟨Tryz.call237, Tryz.f237, c237, Tryz.func237, by kernel_rfl⟩
def c238 : BC := (.seq (.reg [o 2 (.mv (.k .sn))])
(.seq (.reg [o 2 (.mv (.k .sn))])
(.ret [.mv u0])))
theorem fg238 : FGood Tryz.prog T 238 (.code 1 c238) := ⟨Tryz.call238, Tryz.f238, c238, Tryz.func238, by kernel_rfl⟩
def c239 : BC := (.seq (.reg [o 1 (.box 320 u0), o 2 (.mv kF)])
(.seq (.post (.reg [o 3 (.fa 0 u1), o 4 (.ld u0), o 5 (.bin .eql u0 (.k (.s []))), oB 7 0 (.fa 0 u4), oB 8 1 (.ld u0), oB 9 2 (.bin .neq u0 (.k (.s [82, 72, 83]))), oB 10 3 (.mv u0), oA 11 0 (.fa 0 u8), oA 12 1 (.ld u0), oA 13 2 (.call 14 [u0]), oB 14 7 (.pick u3 u0 kF), o 15 (.pick u8 kU u0), oA 17 0 (.fa 1 u13), oA 18 1 (.ld u0), oA 19 2 (.call 14 [u0]), o 20 (.pick u3 u0 kF)]) [2] [0])
(.ret [.mv u0])))
theorem fg239 : FGood Tryz.prog T 239 (.code 1 c239) := ⟨Tryz.call239, Tryz.f239, c239, Tryz.func239, by kernel_rfl⟩
def c240 : BC := (.seq (.reg [o 2 (.mv kF)])
(.seq (.reg [o 7 (.call 131 [u1]), o 8 (.ext 0 u0), o 9 (.ext 1 u1)])
(.seq (.reg [])
(.ret [.mv u0]))))
theorem fg240 : FGood Tryz.prog T 240 (.code 1 c240) := ⟨Tryz.call240, Tryz.f240, c240, Tryz.func240, by kernel_rfl⟩
def c241 : BC := (.seq (.reg [o 2 (.box 376 u0), o 3 (.mv kF)])
(.seq (.post (.reg [o 4 (.fa 1 u1), o 5 (.ld u0), o 6 (.len false u0), o 7 (.bin .neq u0 (kJ 1)), oB 9 0 (.fa 1 u7), oB 10 1 (.ld u0), oB 11 2 (.ia 2 u0 (kJ 0)), oB 12 3 (.fa 1 u0), oB 13 4 (.ld u0), oB 14 5 (.len false u0), oB 15 6 (.bin .neq u0 (kJ 1)), o 16 (.pick u7 kU u0), oB 18 0 (.fa 1 u13), oB 19 1 (.ld u0), oB 20 2 (.ia 3 u0 (kJ 0)), oB 21 3 (.fa 0 u0), oB 22 4 (.ldn 2 u0), oB 23 5 (.fa 1 u20), oB 24 6 (.ld u0), oB 25 7 (.ia 2 u0 (kJ 0)), oB 26 8 (.fa 1 u0), oB 27 9 (.ld u0), oB 28 10 (.ia 3 u0 (kJ 0)), oB 29 11 (.fa 0 u0), oB 30 12 (.ldn 2 u0), oB 31 13 (.eqs true 10 u8 u0), o 32 (.pick u14 kU u0)]) [3] [0])
(.ret [.mv u0])))
theorem fg241 : FGood Tryz.prog T 241 (.code 2 c241) := ⟨Tryz.call241, Tryz.f241, c241, Tryz.func241, by kernel_rfl⟩
def c242 : BC := (.seq (.reg [o 4 (.mv (kJ 0))])
(.seq (.reg [o 7 (.ixb u1 u2)])
(.ret [.mv u0])))
theorem fg242 : FGood Tryz.prog T 242 (.code 2 c242) := ⟨Tryz.call242, Tryz.f242, c242, Tryz.func242, by kernel_rfl⟩
def c244 : BC := (.seq (.reg [o 2 (.mv (kJ 0))])
(.seq (.reg [o 4 (.bin .add u1 (kJ 16)), o 5 (.bin .quo u0 (kJ 8))])
(.ret [.mv u0])))
theorem fg244 : FGood Tryz.prog T 244 (.code 1 c244) := ⟨Tryz.call244, Tryz.f244, c244, Tryz.func244, by kernel_rfl⟩
def c245 : BC := (.seq (.reg [o 4 (.mv (kJ 0))])
(.seq (.reg [o 13 (.call 288 [u2]), o 14 (.ext 0 u0), o 15 (.ext 1 u1)])
(.seq (.reg [o 17 (.len true u5)])
(.seq (.reg [o 8 (.mv (.k (.i .u32 0)))])
(.seq (.seq (.reg [o 9 (.mv (kJ 0))])
(.block 0 [0, 1, 5, 6, 7, 8] (.pre [0, 1, 5, 6, 7, 8, 9] [7, 8, 4, 3, 2, 1, 0] (.loop (.post (.seq (.seq (.reg [o 20 (.bin .lss u6 u4)])
(.cond u0
 .skip
(.pre [0, 1, 5, 6, 7, 8] [1, 2, 3, 4, 5, 6] (.exit 0))))
(.seq (.block 1 [0, 1, 5, 6, 7, 8, 9] (.post (.reg [o 24 (.bin .mul u6 (.k (.i .u32 16777619))), o 27 (.ix u2 u8), o 28 (.cvi .u32 u0), o 29 (.bin .add u2 u0)]) [0, 1, 5, 6, 7, 8, 9] [5, 6, 7, 8, 9, 0, 11]))
(.reg [o 22 (.bin .add u6 (kJ 1))]))) [0, 1, 5, 6, 7, 8, 9] [1, 2, 3, 4, 5, 6, 0])))))
(.seq (.seq (.reg [o 32 (.bin .eql u5 u2), oA 34 0 (.mv u1), oA 35 1 (.mv u6), oA 36 2 (.sls u1 none (some u0)), oA 37 3 (.mv u5), oA 38 4 (.bin .eql u1 u0), o 39 (.pick u5 u0 kF)])
(.cond u0
(.seq (.post (.reg [o 4 (.mv (kJ 0))]) [4] [0])
(.ret [.mv u0]))
 .skip))
(.seq (.seq (.reg [])
(.block 2 [] (.pre [0, 1, 5, 6, 7, 8, 10] [7, 8, 9, 10, 11, 12, 11] (.loop (.seq (.seq (.reg [o 43 (.len true u0), o 44 (.bin .lss u7 u0)])
(.cond u0
 .skip
(.pre [] [] (.exit 2))))
(.block 3 [0, 1, 5, 6, 7, 8, 10] (.post (.seq (.reg [o 46 (.bin .mul u7 (.k (.i .u32 16777619)))])
(.seq (.reg [o 50 (.ix u3 u9), o 51 (.cvi .u32 u0), o 52 (.bin .add u2 u0)])
(.seq (.reg [o 58 (.bin .sub u12 u10), o 59 (.ix u7 u0), o 60 (.cvi .u32 u0), o 61 (.bin .mul u12 u0), o 62 (.bin .sub u4 u0)])
(.seq (.reg [o 64 (.bin .add u17 (kJ 1))])
(.seq (.post (.reg [o 67 (.bin .eql u1 u14), oA 69 0 (.mv u13), oA 70 1 (.mv u2), oA 71 2 (.mv u19), oA 72 3 (.bin .sub u1 u0), oA 73 4 (.mv u5), oA 74 5 (.sls u4 (some u1) (some u0)), oA 75 6 (.mv u20), oA 76 7 (.bin .eql u1 u0), o 77 (.pick u8 u0 kF)]) [0, 1, 5, 6, 7, 8, 10, 77] [22, 23, 24, 25, 26, 11, 10, 0])
(.cond u7
(.seq (.reg [o 80 (.bin .sub u6 u4)])
(.ret [.mv u0]))
 .skip)))))) [0, 1, 5, 6, 7, 8, 10] [0, 1, 2, 3, 4, 5, 6])))))))
(.seq (.reg [o 4 (.mv (.k (.i .i64 (-1))))])
(.ret [.mv u0])))))))))
theorem fg245 : FGood Tryz.prog T 245 (.code 2 c245) := ⟨Tryz.call245, Tryz.f245, c245, Tryz.func245, by kernel_rfl⟩
def c246 : BC := (.seq (.reg [o 4 (.mv kF)])
(.seq (.post (.reg [o 6 (.len true u1), o 8 (.len true u3), o 9 (.bin .geq u1 u0), oA 11 0 (.mv u4), oA 12 1 (.mv u5), oA 13 2 (.len true u0), oA 14 3 (.mv u8), oA 15 4 (.len true u0), oA 16 5 (.bin .sub u2 u0), oA 17 6 (.sls u5 (some u0) none), oA 18 7 (.mv u12), oA 19 8 (.bin .eql u1 u0), o 20 (.pick u9 u0 kF)]) [4] [0])
(.ret [.mv u0])))
theorem fg246 : FGood Tryz.prog T 246 (.code 2 c246) := ⟨Tryz.call246, Tryz.f246, c246, Tryz.func246, by kernel_rfl⟩
def c247 : BC := (.seq (.reg [o 4 (.mv (.k (.i .u64 0)))])
(.seq (.seq (.reg [o 7 (.len false u1), o 8 (.bin .lss u3 u0)])
(.cond u0
(.seq (.reg [o 11 (.ia 1 u3 u4), o 12 (.ld u0), o 13 (.cvi .u64 u0)])
(.ret [.mv u0]))
 .skip))
(.seq (.reg [o 4 (.mv (.k (.i .u64 0)))])
(.ret [.mv u0]))))
theorem fg247 : FGood Tryz.prog T 247 (.code 2 c247) := ⟨Tryz.call247, Tryz.f247, c247, Tryz.func247, by kernel_rfl⟩
def c248 : BC := (.seq (.reg [o 4 (.mv (.k .pn)), o 5 (.mv kF)])
(.seq (.seq (.reg [o 13 (.call 179 [u2, u3]), o 14 (.bin .lss u0 (kJ 0))])
(.cond u0
(.seq (.reg [o 4 (.mv (.k .pn)), o 5 (.mv kF)])
(.ret [.mv u1, .mv u0]))
 .skip))
(.seq (.reg [o 16 (.call 231 [u4]), o 18 (.call 231 [u6])])
(.seq (.reg [o 20 (.len false u1), o 21 (.mks 1 4 [(.i .u32 0)] u0 u0)])
(.seq (.reg [o 9 (.mv (kJ 0))])
(.seq (.seq (.reg [o 23 (.len false u1), o 24 (.mv (kJ 0))])
(.block 0 [8] (.pre [6, 7, 8, 9, 23, 24] [6, 5, 3, 2, 1, 0] (.loop (.post (.seq (.reg [o 25 (.bin .lss u5 u4)])
(.seq (.cond u0
 .skip
(.pre [8] [3] (.exit 0)))
(.seq (.block 1 [6, 7, 8, 9, 23, 24] (.post (.seq (.reg [])
(.seq (.reg [o 30 (.call 247 [u1, u6]), o 31 (.cvi .i64 u0), o 34 (.call 247 [u4, u8]), o 35 (.cvi .i64 u0), o 36 (.bin .sub u2 u0), o 37 (.bin .add u9 u0)])
(.seq (.reg [o 41 (.cvi .u32 u0), o 42 (.ia 1 u10 u13), oC (.st u0 u1)])
(.reg [o 44 (.bin .shr u2 (.k (.i .u64 32)))])))) [6, 7, 8, 9, 23, 24] [10, 11, 12, 0, 14, 15]))
(.reg [o 45 (.bin .add u5 (kJ 1))])))) [6, 7, 8, 9, 23, 24] [1, 2, 3, 4, 5, 0])))))
(.seq (.reg [o 47 (.call 211 [u0]), o 5 (.mv kU)])
(.ret [.mv u1, .mv u0]))))))))
theorem fg248 : FGood Tryz.prog T 248 (.code 2 c248) := ⟨Tryz.call248, Tryz.f248, c248, Tryz.func248, by kernel_rfl⟩
def c249 : BC := (.seq (.reg [o 4 (.mv kF)])
(.seq (.reg [o 7 (.call 289 [u1, u2]), o 8 (.bin .geq u0 (kJ 0))])
(.ret [.mv u0])))
theorem fg249 : FGood Tryz.prog T 249 (.code 2 c249) := ⟨Tryz.call249, Tryz.f249, c249, Tryz.func249, by kernel_rfl⟩
def c250 : BC := (.seq (.reg [o 2 (.mv (.k .pn))])
(.seq (.reg [o 7 (.call 184 [u1]), o 8 (.call 152 [u0]), o 9 (.ext 0 u0), o 10 (.ext 1 u1)])
(.seq (.reg [o 13 (.un .not u0), o 14 (.call 129 [u6, u0, (kJ 1)])])
(.seq (.reg [])
(.ret [.mv u3])))))
theorem fg250 : FGood Tryz.prog T 250 (.code 1 c250) := ⟨Tryz.call250, Tryz.f250, c250, Tryz.func250, by kernel_rfl⟩
def c251 : BC := (.seq (.reg [o 2 (.mv (kJ 0)), o 3 (.mv kF)])
(.seq (.seq (.reg [o 5 (.call 290 [u2])])
(.block 0 [] (.post (.seq (.seq (.reg [o 7 (.bin .eql u0 (.k (.s [105, 110, 102])))])
(.cond u0
(.post .skip [5, 6] [1, 0])
(.seq (.reg [o 8 (.bin .eql u1 (.k (.s [43, 105, 110, 102])))])
(.cond u0
(.post .skip [5, 6] [2, 0])
(.seq (.reg [o 9 (.bin .eql u2 (.k (.s [105, 110, 102, 105, 110, 105, 116, 121])))])
(.cond u0
(.post .skip [5, 6] [3, 0])
(.post (.reg [o 10 (.bin .eql u3 (.k (.s [49, 101, 51, 48])))]) [5, 6] [4, 0])))))))
(.cond u1
(.seq (.reg [o 2 (.mv (kJ 1)), o 3 (.mv kU)])
(.ret [.mv u1, .mv u0]))
(.seq (.seq (.reg [o 12 (.bin .eql u0 (.k (.s [45, 105, 110, 102])))])
(.cond u0
(.post .skip [11] [0])
(.seq (.reg [o 13 (.bin .eql u1 (.k (.s [45, 105, 110, 102, 105, 110, 105, 116, 121])))])
(.cond u0
(.post .skip [11] [0])
(.post (.reg [o 14 (.bin .eql u2 (.k (.s [45, 49, 101, 51, 48])))]) [11] [0])))))
(.cond u0
(.seq (.reg [o 2 (.mv (.k (.i .i64 (-1)))), o 3 (.mv kU)])
(.ret [.mv u1, .mv u0]))
 .skip)))) [] [])))
(.seq (.reg [o 2 (.mv (kJ 0)), o 3 (.mv kF)])
(.ret [.mv u1, .mv u0]))))
theorem fg251 : FGood Tryz.prog T 251 (.code 1 c251) := ⟨Tryz.call251, Tryz.f251, c251, Tryz.func251, by kernel_rfl⟩
def c252 : BC := (.seq (.reg [o 4 (.mv (.k (.s []))), o 5 (.mv kF)])
(.seq (.seq (.reg [o 8 (.call 267 [u2, u3]), o 9 (.un .not u0)])
(.cond u0
(.seq (.reg [o 5 (.mv kF)])
(.ret [.mv u5, .mv u0]))
 .skip))
(.seq (.reg [o 13 (.len true u5), o 14 (.sls u5 (some u0) none), o 5 (.mv kU)])
(.ret [.mv u1, .mv u0]))))
theorem fg252 : FGood Tryz.prog T 252 (.code 2 c252) := ⟨Tryz.call252, Tryz.f252, c252, Tryz.func252, by kernel_rfl⟩
def h254 : BC := (.reg [o 6 (.len false u0), o 8 (.bin .sub u0 u2), o 9 (.call 291 [u2, u0])])
def c254 : BC := .seq h254 (.ret [])
theorem fg254 : FGood Tryz.prog T 254 (.code 2 c254) := ⟨Tryz.call254, Tryz.f254, h254, Tryz.func254, by kernel_rfl⟩
def c255 : BC := (.seq (.reg [o 4 (.mv (kJ 0))])
(.seq (.seq (.reg [o 7 (.len false u1), o 8 (.mv (kJ 0))])
(.block 0 [] (.pre [0, 1, 7, 8] [3, 4, 1, 0] (.loop (.post (.seq (.reg [o 9 (.bin .lss u3 u2)])
(.seq (.cond u0
 .skip
(.pre [] [] (.exit 0)))
(.seq (.block 1 [0, 1, 7, 8] (.post (.seq (.reg [])
(.seq (.reg [o 14 (.ia 3 u1 u4), o 15 (.ldn 3 u0), o 16 (.callv u4 [u0])])
(.cond u0
(.seq (.reg [])
(.ret [.mv u7]))
 .skip))) [0, 1, 7, 8] [4, 5, 6, 7]))
(.reg [o 18 (.bin .add u3 (kJ 1))])))) [0, 1, 7, 8] [1, 2, 3, 0])))))
(.seq (.reg [o 4 (.mv (.k (.i .i64 (-1))))])
(.ret [.mv u0]))))
theorem fg255 : FGood Tryz.prog T 255 (.code 2 c255) := ⟨Tryz.call255, Tryz.f255, c255, Tryz.func255, by kernel_rfl⟩
def h257 : BC := (.seq (.post (.reg [o 6 (.nck u0), o 7 (.fa 1 u0), o 8 (.ld u0), o 9 (.cap u0), o 10 (.bin .mul (kJ 2) u0), o 12 (.bin .add u0 u6), o 13 (.mnz 24 u0), o 15 (.nck u7), o 16 (.fa 1 u0), o 17 (.ld u0), o 18 (.len false u0), o 19 (.slv 1 u4 none (some u0))]) [0, 4] [12, 0])
(.seq (.reg [o 22 (.nck u0), o 23 (.fa 1 u0), o 24 (.ld u0), o 25 (.cpy 1 u4 u0)])
(.reg [o 28 (.nck u4), o 29 (.fa 1 u0), oC (.st u0 u7)])))
def c257 : BC := .seq h257 (.ret [])
theorem fg257 : FGood Tryz.prog T 257 (.code 2 c257) := ⟨Tryz.call257, Tryz.f257, h257, Tryz.func257, by kernel_rfl⟩
def c258 : BC := (.seq (.reg [o 4 (.mv (.k (.s [])))])
(.seq (.block 0 [0] (.pre [0, 1] [1, 2] (.loop (.seq (.seq (.reg [o 6 (.len true u0), o 7 (.bin .gtr u0 (kJ 0)), oA 9 0 (.mv u2), oA 10 1 (.ix u0 (kJ 0)), oA 11 2 (.mv u5), oA 12 3 (.bin .eql u1 u0), o 13 (.pick u4 u0 kF)])
(.cond u0
 .skip
(.pre [0] [7] (.exit 0))))
(.block 1 [0, 1] (.post (.reg [o 15 (.sls u7 (some (kJ 1)) none)]) [0, 1] [0, 9]))))))
(.seq (.reg [])
(.ret [.mv u0]))))
theorem fg258 : FGood Tryz.prog T 258 (.code 2 c258) := ⟨Tryz.call258, Tryz.f258, c258, Tryz.func258, by kernel_rfl⟩
def c259 : BC := (.seq (.reg [o 4 (.mv (.k (.s [])))])
(.seq (.block 0 [0] (.pre [0, 1] [1, 2] (.loop (.seq (.seq (.reg [o 6 (.len true u0), o 7 (.bin .gtr u0 (kJ 0)), oA 9 0 (.mv u2), oA 10 1 (.mv u3), oA 11 2 (.len true u0), oA 12 3 (.bin .sub u0 (kJ 1)), oA 13 4 (.ix u3 u0), oA 14 5 (.mv u8), oA 15 6 (.bin .eql u1 u0), o 16 (.pick u7 u0 kF)])
(.cond u0
 .skip
(.pre [0] [10] (.exit 0))))
(.block 1 [0, 1] (.post (.reg [o 19 (.len true u10), o 20 (.bin .sub u0 (kJ 1)), o 21 (.sls u12 none (some u0))]) [0, 1] [0, 14]))))))
(.seq (.reg [])
(.ret [.mv u0]))))
theorem fg259 : FGood Tryz.prog T 259 (.code 2 c259) := ⟨Tryz.call259, Tryz.f259, c259, Tryz.func259, by kernel_rfl⟩
end Go.Proofs.YtmbpjpffafidhaaGreatDoor
