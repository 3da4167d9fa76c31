import Derived.Test.YtmbpjpffafidhaaGreatDoorCmTy
namespace Go.Proofs.YtmbpjpffafidhaaGreatDoor
open Go.Ev
set_option maxRecDepth 100000
def c48 : BC := (.seq (.reg [o 3 (.box 212 u0), o 4 (.box 16 u2), o 6 (.mv (kJ 0))])
(.seq (.reg [o 8 (.mkf 109 [] [u1])])
(.seq (.block 0 [] (.post (.seq (.reg [o 10 (.fa 2 u3), o 11 (.ld u0), o 13 (.slv 5 u0 none (some u8)), o 15 (.call 92 [u0, u3])])
(.cond u0
(.seq (.post (.reg [o 6 (.mv (kJ 5))]) [6] [0])
(.ret [.mv u0]))
(.seq (.post (.reg [o 17 (.fa 3 u7), o 18 (.ld u0), o 19 (.ld u8), o 20 (.slv 5 u1 (some u0) none), o 21 (.call 93 [u0, (.k (.f 112 [] []))])]) [3, 4, 16] [12, 11, 0])
(.cond u2
(.seq (.reg [o 6 (.mv (kJ 7))])
(.ret [.mv u0]))
(.seq (.post (.reg [o 23 (.fa 3 u0), o 24 (.ld u0), o 25 (.ld u3), o 26 (.slv 5 u1 none (some u0)), o 27 (.call 93 [u0, (.k (.f 113 [] []))]), oB 29 0 (.fa 3 u5), oB 30 1 (.ld u0), oB 31 2 (.call 93 [u0, (.k (.f 114 [] []))]), o 32 (.pick u3 kU u0)]) [22] [0])
(.cond u0
(.seq (.reg [o 6 (.mv (kJ 10))])
(.ret [.mv u0]))
 .skip)))))) [] []))
(.seq (.reg [o 6 (.mv (kJ 0))])
(.ret [.mv u0])))))
theorem fg48 : FGood Tryz.prog T 48 (.code 3 c48) := ⟨Tryz.call48, Tryz.f48, c48, Tryz.func48, by kernel_rfl⟩
def c49 : BC := (.seq (.reg [o 2 (.mv (.k .sn))])
(.seq (.seq (.reg [o 4 (.eq 2 false u1 (.k .sn))])
(.cond u0
(.seq (.reg [o 2 (.mv (.k .sn))])
(.ret [.mv u0]))
 .skip))
(.seq (.reg [o 5 (.bsl 0 5 [(.s []), (.s []), (.s []), (.s []), (.b false)] []), o 7 (.app 200 5 72 u0 u3)])
(.ret [.mv u0]))))
theorem fg49 : FGood Tryz.prog T 49 (.code 1 c49) := ⟨Tryz.call49, Tryz.f49, c49, Tryz.func49, by kernel_rfl⟩
def c50 : BC := (.seq (.reg [o 1 (.box 188 u0), o 2 (.mv (.k .sn))])
(.seq (.seq (.reg [o 8 (.fa 4 u1), o 9 (.ld u0), o 10 (.bin .eql u0 (.k (.s [])))])
(.cond u0
(.seq (.reg [o 11 (.ldn 5 u4), o 12 (.bsl 1 5 [(.s []), (.i .i64 0), .sn, (.s []), (.s [])] [(0, 5, u0)])])
(.ret [.mv u0]))
 .skip))
(.seq (.reg [o 13 (.ldn 5 u4), o 14 (.ldn 5 u5), o 3 (.alloc 188 [(.s []), (.i .i64 0), .sn, (.s []), (.s [])]), o 4 (.alloc 188 [(.s []), (.i .i64 0), .sn, (.s []), (.s [])]), oC (.stn 5 u1 u3), .chk ⟨(some 2), none, .ldn 5 u8⟩, oC (.stn 5 u0 u2)])
(.seq (.reg [o 15 (.fa 3 u8), o 16 (.ld u0), o 18 (.fa 4 u10), o 19 (.ld u0), o 17 (.call 115 [u2]), .chk ⟨(some 1), none, .ld u2⟩, o 20 (.call 115 [u1])])
(.seq (.reg [])
(.seq (.seq (.reg [o 23 (.call 116 [u0]), o 24 (.bin .lss u0 (kJ 0))])
(.cond u0
(.post (.reg [o 26 (.call 117 [u2])]) [1, 3, 4, 5, 6, 7] [17, 10, 9, 4, 3, 0])
(.post .skip [1, 3, 4, 5, 6, 7] [16, 9, 8, 3, 2, 2])))
(.seq (.block 0 [3, 4] (.seq (.reg [o 35 (.fa 1 u0), o 36 (.ld u0), o 37 (.bin .eql u0 (kJ 1))])
(.cond u0
(.post (.reg [o 40 (.call 118 [u6, u8]), o 41 (.call 119 [u0]), o 42 (.fa 1 u7), oC (.st u0 (kJ 3)), o 43 (.fa 3 u8), oC (.st u0 u2)]) [3, 4] [8, 9])
(.seq (.reg [o 45 (.fa 1 u3), o 46 (.ld u0), o 47 (.bin .eql u0 (kJ 3))])
(.cond u0
(.post (.reg [o 50 (.call 120 [u9, u11]), o 51 (.call 119 [u0]), o 52 (.fa 1 u10), oC (.st u0 (kJ 1)), o 53 (.fa 3 u11), oC (.st u0 u2)]) [3, 4] [11, 12])
(.seq (.reg [o 56 (.call 116 [u10]), o 57 (.bin .lss u0 (kJ 0))])
(.cond u0
(.post (.reg [o 60 (.call 120 [u11, u12]), o 61 (.call 119 [u0]), o 62 (.fa 1 u11), oC (.st u0 (kJ 3)), o 63 (.fa 3 u12), oC (.st u0 u2), o 64 (.fa 1 u14), oC (.st u0 (kJ 1))]) [3, 4] [14, 15])
(.post (.reg [o 29 (.call 120 [u11, u12]), o 30 (.call 119 [u0]), o 31 (.fa 1 u11), oC (.st u0 (kJ 3)), o 32 (.fa 1 u13), oC (.st u0 (kJ 1)), o 33 (.fa 3 u14), oC (.st u0 u3)]) [3, 4] [14, 15]))))))))
(.seq (.reg [o 65 (.fa 4 u0), oC (.st u0 (.k (.s []))), o 66 (.fa 4 u2), oC (.st u0 (.k (.s [])))])
(.seq (.reg [o 67 (.ldn 5 u2), o 68 (.ldn 5 u4), o 69 (.bsl 2 5 [(.s []), (.i .i64 0), .sn, (.s []), (.s [])] [(0, 5, u1), (5, 5, u0)])])
(.ret [.mv u0]))))))))))
theorem fg50 : FGood Tryz.prog T 50 (.code 1 c50) := ⟨Tryz.call50, Tryz.f50, c50, Tryz.func50, by kernel_rfl⟩
def c51 : BC := (.seq (.reg [o 2 (.box 188 u0), o 4 (.alloc 188 [(.s []), (.i .i64 0), .sn, (.s []), (.s [])])])
(.seq (.reg [o 6 (.call 121 [u3]), o 7 (.fa 2 u2), oC (.st u0 u1)])
(.seq (.reg [o 8 (.ldn 5 u3), oC (.stn 5 u3 u0)])
(.ret [.ldn 5 u3]))))
theorem fg51 : FGood Tryz.prog T 51 (.code 2 c51) := ⟨Tryz.call51, Tryz.f51, c51, Tryz.func51, by kernel_rfl⟩
def c52 : BC := (.seq (.reg [o 4 (.mv (.k .sn)), o 5 (.mv (.k .sn))])
(.seq (.reg [o 6 (.mv (.k .sn)), o 7 (.mv (.k .sn))])
(.seq (.seq (.reg [o 11 (.len false u4), o 12 (.mv (kJ 0))])
(.block 0 [6, 7] (.pre [1, 6, 7, 10, 11, 12] [7, 3, 2, 6, 1, 0] (.loop (.post (.seq (.reg [o 13 (.bin .lss u5 u4)])
(.seq (.cond u0
 .skip
(.pre [6, 7] [2, 3] (.exit 0)))
(.seq (.block 1 [1, 6, 7, 10, 11, 12] (.seq (.reg [o 14 (.ia 2 u4 u6), o 15 (.ldn 2 u0), o 9 (.alloc 172 [(.i .i64 0), (.s [])]), oC (.stn 2 u0 u1)])
(.seq (.reg [o 16 (.fa 0 u0), o 17 (.ld u0), o 19 (.bin .lss u0 u6)])
(.cond u0
(.post (.reg [o 21 (.ldn 2 u3), o 22 (.bsl 1 2 [(.i .i64 0), (.s [])] [(0, 2, u0)]), o 23 (.app 172 2 24 u10 u0)]) [1, 6, 7, 10, 11, 12] [10, 0, 12, 13, 14, 15])
(.post (.reg [o 25 (.fa 0 u3), o 26 (.ld u0), o 28 (.bin .sub u0 u9), o 29 (.fa 1 u6), o 30 (.ld u0), o 31 (.build [(.i .i64 0), (.s [])] [(0, 1, u2), (1, 1, u0)]), o 32 (.bsl 1 2 [(.i .i64 0), (.s [])] [(0, 2, u0)]), o 33 (.app 172 2 24 u16 u0)]) [1, 6, 7, 10, 11, 12] [15, 16, 0, 18, 19, 20])))))
(.reg [o 34 (.bin .add u5 (kJ 1))])))) [1, 6, 7, 10, 11, 12] [1, 2, 3, 4, 5, 0])))))
(.seq (.reg [])
(.ret [.mv u0, .mv u1])))))
theorem fg52 : FGood Tryz.prog T 52 (.code 2 c52) := ⟨Tryz.call52, Tryz.f52, c52, Tryz.func52, by kernel_rfl⟩
def c54 : BC := (.seq (.reg [o 4 (.mv (kJ 0))])
(.seq (.seq (.reg [o 9 (.len false u1), o 11 (.len false u3), o 12 (.mm true u1 [u0]), o 13 (.bin .sub u0 (kJ 1))])
(.block 0 [] (.pre [0, 1, 5] [5, 6, 0] (.loop (.post (.seq (.seq (.reg [o 15 (.bin .geq u2 (kJ 0))])
(.cond u0
 .skip
(.pre [] [] (.exit 0))))
(.seq (.block 1 [0, 1, 5] (.post (.seq (.reg [o 6 (.mv (kJ 0)), o 7 (.mv (kJ 0))])
(.seq (.seq (.reg [o 20 (.len false u3), o 21 (.bin .lss u6 u0)])
(.cond u0
(.post (.reg [o 24 (.ia 1 u5 u7), o 25 (.ld u0)]) [0, 1, 5, 6, 7] [7, 8, 9, 0, 4])
(.post .skip [0, 1, 5, 6, 7] [5, 6, 7, 3, 2])))
(.seq (.seq (.reg [o 28 (.len false u1), o 29 (.bin .lss u3 u0)])
(.cond u0
(.post (.reg [o 32 (.ia 1 u3 u4), o 33 (.ld u0)]) [0, 1, 5, 6, 7] [4, 5, 6, 7, 0])
(.post .skip [0, 1, 5, 6, 7] [2, 3, 4, 5, 6])))
(.seq (.seq (.reg [o 36 (.bin .lss u3 u4)])
(.cond u0
(.seq (.reg [o 4 (.mv (.k (.i .i64 (-1))))])
(.ret [.mv u0]))
 .skip))
(.seq (.reg [o 39 (.bin .gtr u4 u5)])
(.cond u0
(.seq (.reg [o 4 (.mv (kJ 1))])
(.ret [.mv u0]))
 .skip)))))) [0, 1, 5] [2, 3, 4]))
(.reg [o 17 (.bin .sub u2 (kJ 1))]))) [0, 1, 5] [1, 2, 0])))))
(.seq (.reg [o 4 (.mv (kJ 0))])
(.ret [.mv u0]))))
theorem fg54 : FGood Tryz.prog T 54 (.code 2 c54) := ⟨Tryz.call54, Tryz.f54, c54, Tryz.func54, by kernel_rfl⟩
def c55 : BC := (.seq (.reg [o 4 (.mv (.k .sn))])
(.seq (.block 0 [0] (.pre [0, 1] [1, 2] (.loop (.seq (.seq (.reg [o 8 (.len false u1), o 9 (.bin .gtr u0 (kJ 0))])
(.cond u0
 .skip
(.pre [0] [2] (.exit 0))))
(.block 1 [0, 1] (.post (.seq (.reg [o 13 (.call 123 [u2, u3]), o 14 (.ext 0 u0), o 15 (.ext 1 u1)])
(.reg [])) [0, 1] [6, 0]))))))
(.seq (.reg [])
(.ret [.mv u0]))))
theorem fg55 : FGood Tryz.prog T 55 (.code 2 c55) := ⟨Tryz.call55, Tryz.f55, c55, Tryz.func55, by kernel_rfl⟩
def h58 : BC := (.seq (.reg [o 3 (.box 136 u1)])
(.seq (.reg [o 5 (.fa 2 u0), o 6 (.ld u0), o 7 (.nck u3), o 8 (.fa 9 u0), oC (.st u0 u2)])
(.seq (.seq (.reg [o 9 (.fa 1 u4), o 10 (.ld u0)])
(.cond u0
(.seq (.post (.reg [o 12 (.call 124 [u7])]) [] [])
(.ret []))
 .skip))
(.seq (.reg [o 14 (.nck u7), o 15 (.fa 4 u0), o 16 (.ld u0)])
(.block 0 [] (.seq (.reg [o 20 (.bin .eql u0 (kJ 2))])
(.cond u0
(.post (.reg [o 22 (.call 125 [u11])]) [] [])
(.seq (.reg [o 24 (.bin .eql u1 (kJ 3))])
(.cond u0
(.post (.reg [o 26 (.call 126 [u12])]) [] [])
(.seq (.seq (.post (.reg [o 28 (.bin .eql u2 (kJ 4))]) [0, 16, 27] [13, 3, 0])
(.cond u2
 .skip
(.post (.reg [o 29 (.bin .eql u1 (kJ 5))]) [0, 16, 27] [1, 2, 0])))
(.cond u2
(.post (.reg [o 31 (.call 127 [u0])]) [] [])
(.seq (.reg [o 33 (.bin .eql u1 (kJ 6))])
(.cond u0
(.post (.reg [o 35 (.call 128 [u1])]) [] [])
(.post (.reg [o 18 (.call 129 [u1, kU, (kJ 5)])]) [] []))))))))))))))
def c58 : BC := .seq h58 (.ret [])
theorem fg58 : FGood Tryz.prog T 58 (.code 2 c58) := ⟨Tryz.call58, Tryz.f58, h58, Tryz.func58, by kernel_rfl⟩
def c59 : BC := (.seq (.reg [o 4 (.mv (kJ 0))])
(.seq (.reg [o 6 (.bsl 3 1 [(.s [])] [(0, 1, (.k (.s [84, 73, 77, 69]))), (1, 1, (.k (.s [80, 69, 82, 73, 79, 68, 83]))), (2, 1, (.k (.s [69, 78, 68, 65, 84, 65])))])])
(.seq (.seq (.post (.reg [o 8 (.nck u2), o 9 (.fa 2 u0), o 10 (.ld u0), o 12 (.len false u3), o 13 (.bin .geq u1 u0), oB 15 0 (.mv u8), oB 16 1 (.ia 1 u0 (kJ 0)), oB 17 2 (.ld u0), oB 18 3 (.mv u8), oB 19 4 (.mv u11), oB 20 5 (.nck u0), oB 21 6 (.fa 2 u0), oB 22 7 (.ld u0), oB 23 8 (.ia 1 u4 u0), oB 24 9 (.ld u0), oB 25 10 (.bin .neq u7 u0), o 26 (.pick u11 kU u0)]) [0, 1, 26] [19, 20, 0])
(.cond u2
(.seq (.reg [o 4 (.mv (kJ 5))])
(.ret [.mv u0]))
 .skip))
(.seq (.reg [o 28 (.nck u0), o 29 (.fa 2 u0), o 30 (.ld u0), o 31 (.bin .add u0 (kJ 1)), o 32 (.nck u4), o 33 (.fa 2 u0), oC (.st u0 u2)])
(.seq (.block 0 [] (.seq (.seq (.post (.reg [o 36 (.nck u6), o 37 (.fa 2 u0), o 38 (.ld u0), o 39 (.bin .eql u0 (kJ 1)), oA 41 0 (.mv u11), oA 42 1 (.len false u0), oA 43 2 (.bin .neq u0 (kJ 2)), o 44 (.pick u3 u0 kF)]) [0, 1, 34] [14, 15, 0])
(.cond u2
 .skip
(.seq (.reg [o 46 (.nck u0), o 47 (.fa 2 u0), o 48 (.ld u0), o 49 (.bin .eql u0 (kJ 2)), oA 51 0 (.mv u5), oA 52 1 (.len false u0), oA 53 2 (.bin .gtr u0 (kJ 2)), o 54 (.pick u3 u0 kF)])
(.cond u0
(.post .skip [0, 1, 34] [8, 9, 0])
(.post (.reg [o 56 (.nck u8), o 57 (.fa 2 u0), o 58 (.ld u0), o 59 (.bin .eql u0 (kJ 3)), oA 61 0 (.mv u13), oA 62 1 (.len false u0), oA 63 2 (.bin .gtr u0 (kJ 1)), o 64 (.pick u3 u0 kF)]) [0, 1, 34] [16, 17, 0])))))
(.cond u2
(.seq (.reg [o 4 (.mv (kJ 1))])
(.ret [.mv u0]))
(.seq (.reg [o 67 (.nck u0), o 68 (.fa 2 u0), o 69 (.ld u0), o 70 (.bin .eql u0 (kJ 1)), oA 72 0 (.mv u5), oA 73 1 (.ia 1 u0 (kJ 1)), oA 74 2 (.ld u0), oA 75 3 (.call 14 [u0]), oA 76 4 (.un .not u0), o 77 (.pick u5 u0 kF)])
(.cond u0
(.seq (.post (.reg [o 4 (.mv (kJ 4))]) [4] [0])
(.ret [.mv u0]))
(.seq (.post (.reg [o 80 (.nck u10), o 81 (.fa 2 u0), o 82 (.ld u0), o 83 (.bin .eql u0 (kJ 1))]) [0, 1, 78] [14, 15, 0])
(.cond u2
(.post (.reg [o 86 (.ia 1 u1 (kJ 1)), o 87 (.ld u0), o 88 (.nck u2), o 89 (.fa 0 u0), oC (.st u0 u2)]) [] [])
(.post .skip [] []))))))))
(.seq (.reg [o 4 (.mv (kJ 0))])
(.ret [.mv u0])))))))
theorem fg59 : FGood Tryz.prog T 59 (.code 2 c59) := ⟨Tryz.call59, Tryz.f59, c59, Tryz.func59, by kernel_rfl⟩
def c60 : BC := (.seq (.reg [o 4 (.mv (kJ 0))])
(.seq (.seq (.reg [o 6 (.nck u1), o 7 (.fa 2 u0), o 8 (.ld u0), o 9 (.bin .neq u0 (kJ 2))])
(.cond u0
(.seq (.reg [o 4 (.mv (kJ 5))])
(.ret [.mv u0]))
 .skip))
(.seq (.block 0 [0, 1] (.post (.seq (.reg [o 12 (.len false u6), o 13 (.bin .neq u0 (kJ 3))])
(.cond u0
(.seq (.reg [o 4 (.mv (kJ 1))])
(.ret [.mv u0]))
(.seq (.post (.reg [o 16 (.ia 1 u8 (kJ 0)), o 17 (.ld u0), o 18 (.call 14 [u0]), o 19 (.un .not u0), oB 21 0 (.mv u12), oB 22 1 (.ia 1 u0 (kJ 1)), oB 23 2 (.ld u0), oB 24 3 (.call 14 [u0]), oB 25 4 (.un .not u0), o 26 (.pick u5 kU u0), oB 28 0 (.mv u18), oB 29 1 (.ia 1 u0 (kJ 2)), oB 30 2 (.ld u0), oB 31 3 (.call 14 [u0]), oB 32 4 (.un .not u0), o 33 (.pick u5 kU u0)]) [0, 1, 14] [23, 24, 0])
(.cond u2
(.seq (.reg [o 4 (.mv (kJ 4))])
(.ret [.mv u0]))
(.seq (.reg [o 36 (.nck u0), o 37 (.fa 1 u0), o 38 (.ld u0), o 39 (.len false u0), o 40 (.bin .geq u0 (kJ 20))])
(.cond u0
(.seq (.reg [o 4 (.mv (kJ 6))])
(.ret [.mv u0]))
 .skip)))))) [0, 1] [5, 6]))
(.seq (.post (.reg [o 43 (.nck u0), o 44 (.fa 1 u0), o 45 (.ld u0), o 47 (.ia 1 u4 (kJ 0)), o 48 (.ld u0), o 50 (.ia 1 u6 (kJ 1)), o 51 (.ld u0), o 53 (.ia 1 u8 (kJ 2)), o 54 (.ld u0), o 55 (.build [(.s []), (.s []), (.s [])] [(0, 1, u4), (1, 1, u2), (2, 1, u0)]), o 56 (.bsl 1 3 [(.s []), (.s []), (.s [])] [(0, 3, u0)]), o 57 (.app 248 3 48 u8 u0), o 58 (.nck u12), o 59 (.fa 1 u0), oC (.st u0 u2)]) [] [])
(.seq (.reg [o 4 (.mv (kJ 0))])
(.ret [.mv u0]))))))
theorem fg60 : FGood Tryz.prog T 60 (.code 2 c60) := ⟨Tryz.call60, Tryz.f60, c60, Tryz.func60, by kernel_rfl⟩
def c61 : BC := (.seq (.reg [o 1 (.box 264 u0), o 2 (.alloc 264 [(.b false), .sn, .sn])])
(.seq (.reg [o 8 (.fa 1 u1), o 9 (.ld u0), o 10 (.fa 2 u3), o 11 (.ld u0), o 12 (.call 55 [u2, u0])])
(.seq (.reg [o 14 (.fa 1 u6), o 15 (.ld u0), o 17 (.call 123 [u0, u2]), o 18 (.ext 0 u0), o 19 (.ext 1 u1)])
(.seq (.post (.reg [o 21 (.fa 2 u11), o 22 (.ld u0), o 24 (.call 123 [u0, u7]), o 25 (.ext 0 u0), o 26 (.ext 1 u1)]) [1, 2, 4, 6] [16, 15, 6, 1])
(.seq (.reg [o 27 (.fa 0 u0), o 28 (.ld u0), o 31 (.call 24 [u0, u4, u5]), oC (.stn 3 u4 u0)])
(.ret [.ldn 3 u4]))))))
theorem fg61 : FGood Tryz.prog T 61 (.code 1 c61) := ⟨Tryz.call61, Tryz.f61, c61, Tryz.func61, by kernel_rfl⟩
def c62 : BC := (.seq (.reg [o 2 (.mv (.k (.s [])))])
(.seq (.seq (.reg [o 8 (.len false u1), o 9 (.bin .eql u0 (kJ 0))])
(.cond u0
(.seq (.reg [o 2 (.mv (.k (.s [48])))])
(.ret [.mv u0]))
 .skip))
(.seq (.reg [o 3 (.mv (.k (.s [])))])
(.seq (.seq (.reg [o 4 (.mv (kJ 0))])
(.block 0 [3] (.pre [0, 3, 4] [5, 1, 0] (.loop (.post (.seq (.seq (.reg [o 12 (.len false u0), o 13 (.bin .lss u3 u0)])
(.cond u0
 .skip
(.pre [3] [3] (.exit 0))))
(.seq (.block 1 [0, 3, 4] (.seq (.reg [o 18 (.ia 1 u2 u4), o 19 (.ld u0)])
(.seq (.reg [o 6 (.mv (kJ 0))])
(.block 2 [0, 3, 4] (.pre [0, 3, 4, 5, 6] [5, 6, 7, 1, 0] (.loop (.post (.seq (.seq (.reg [o 21 (.bin .lss u4 (kJ 4))])
(.cond u0
 .skip
(.pre [0, 3, 4] [1, 2, 3] (.exit 2))))
(.seq (.block 3 [0, 3, 4, 5, 6] (.seq (.seq (.reg [o 26 (.len false u1), o 27 (.bin .sub u0 (kJ 1)), o 28 (.bin .eql u5 u0), oA 30 0 (.mv u7), oA 31 1 (.bin .eql u0 (kJ 0)), o 32 (.pick u2 u0 kF)])
(.cond u0
(.pre [0, 3, 4] [7, 8, 9] (.exit 2))
 .skip))
(.seq (.reg [o 34 (.bin .rem u10 (kJ 10)), o 35 (.bin .add (kJ 48) u0), o 36 (.cvi .u8 u0), o 37 (.bsl 1 1 [(.i .u8 0)] [(0, 1, u0)]), o 38 (.b2s u0), o 40 (.bin .add u0 u13)])
(.post (.reg [o 42 (.bin .quo u16 (kJ 10))]) [0, 3, 4, 5, 6] [14, 1, 16, 0, 18]))))
(.reg [o 23 (.bin .add u4 (kJ 1))]))) [0, 3, 4, 5, 6] [1, 2, 3, 4, 0])))))))
(.reg [o 15 (.bin .add u2 (kJ 1))]))) [0, 3, 4] [1, 2, 0])))))
(.seq (.reg [])
(.ret [.mv u0]))))))
theorem fg62 : FGood Tryz.prog T 62 (.code 1 c62) := ⟨Tryz.call62, Tryz.f62, c62, Tryz.func62, by kernel_rfl⟩
def c63 : BC := (.seq (.reg [o 3 (.box 212 u0), o 5 (.box 336 u3), o 6 (.mv (.k .mn)), o 7 (.mv (kJ 0))])
(.seq (.reg [o 23 (.mkm), o 24 (.mkm)])
(.seq (.reg [o 10 (.mv kF)])
(.seq (.seq (.reg [o 25 (.fa 1 u5), o 26 (.ld u0), o 27 (.len false u0), o 28 (.mv (kJ 0))])
(.block 0 [8, 10] (.pre [1, 3, 8, 9, 10, 26, 27, 28] [12, 10, 6, 5, 4, 2, 1, 0] (.loop (.post (.seq (.reg [o 29 (.bin .lss u7 u6)])
(.seq (.cond u0
 .skip
(.pre [8, 10] [3, 5] (.exit 0)))
(.seq (.block 1 [1, 3, 8, 9, 10, 26, 27, 28] (.seq (.reg [o 31 (.ia 2 u6 u8), o 32 (.ldn 2 u0), o 12 (.alloc 348 [(.s []), .sn]), oC (.stn 2 u0 u1)])
(.seq (.reg [o 33 (.fa 1 u0), o 34 (.ld u0), o 35 (.len false u0), o 36 (.mv (kJ 0))])
(.block 2 [1, 3, 8, 9, 10, 26, 27, 28] (.pre [1, 3, 8, 9, 10, 11, 26, 27, 28, 34, 35, 36] [8, 9, 10, 11, 12, 15, 13, 14, 15, 2, 1, 0] (.loop (.post (.seq (.reg [o 37 (.bin .lss u11 u10)])
(.seq (.cond u0
 .skip
(.pre [1, 3, 8, 9, 10, 26, 27, 28] [1, 2, 3, 4, 5, 7, 8, 9] (.exit 2)))
(.seq (.block 3 [1, 3, 8, 9, 10, 11, 26, 27, 28, 34, 35, 36] (.seq (.reg [o 38 (.ia 2 u10 u12), o 39 (.ldn 2 u0), o 14 (.alloc 376 [(.s []), .sn]), oC (.stn 2 u0 u1)])
(.seq (.reg [o 40 (.fa 1 u0), o 41 (.ld u0), o 42 (.len false u0), o 43 (.mv (kJ 0))])
(.block 4 [1, 3, 8, 9, 10, 11, 26, 27, 28, 34, 35, 36] (.pre [1, 3, 8, 9, 10, 11, 26, 27, 28, 34, 35, 36, 41, 42, 43] [8, 9, 10, 11, 12, 13, 14, 15, 16, 17, 18, 19, 2, 1, 0] (.loop (.post (.seq (.reg [o 44 (.bin .lss u14 u13)])
(.seq (.cond u0
 .skip
(.pre [1, 3, 8, 9, 10, 11, 26, 27, 28, 34, 35, 36] [1, 2, 3, 4, 5, 6, 7, 8, 9, 10, 11, 12] (.exit 4)))
(.seq (.block 5 [1, 3, 8, 9, 10, 11, 26, 27, 28, 34, 35, 36, 41, 42, 43] (.seq (.reg [o 45 (.ia 3 u13 u15), o 46 (.ldn 3 u0), o 16 (.alloc 364 [(.s []), (.s []), (.s [])]), oC (.stn 3 u0 u1)])
(.seq (.reg [o 48 (.ldn 4 u5), o 50 (.fa 0 u1), o 51 (.ldn 2 u0), o 52 (.call 34 [u2, u7, u0]), o 53 (.ext 0 u0), o 54 (.ext 1 u1), o 55 (.ext 2 u2), o 56 (.ext 3 u3)])
(.seq (.seq (.reg [o 58 (.bin .neq u0 (kJ 0))])
(.cond u0
(.seq (.post (.reg [o 6 (.mv (.k .mn))]) [6, 7] [0, 2])
(.ret [.mv u0, .mv u1]))
 .skip))
(.seq (.reg [o 62 (.fa 0 u9), o 63 (.ldn 2 u0), o 64 (.lk 13 (.i .i64 0) true u18 u0), o 65 (.ext 0 u0), o 66 (.ext 1 u1)])
(.seq (.reg [oB 69 22 (.mv u0), oB 70 23 (.mv u0), oA 71 0 (.mv u3), oA 72 1 (.mv u26), oA 73 2 (.bin .neq u1 u0), oB 74 27 (.pick u3 u0 kF), o 75 (.pick u28 kU u0)])
(.post (.reg [o 77 (.fa 0 u21), o 78 (.ldn 2 u0), o 80 (.fa 0 u23), o 81 (.ldn 2 u0), o 85 (.build [(.i .i64 0), (.i .i64 0), (.i .i64 0)] [(0, 1, u20), (1, 1, u19), (2, 1, u18)]), oC (.mup 13 u32 u3 u0), .chk ⟨(some 1), none, .ldn 2 u2⟩, oC (.mup 13 u33 u1 u35)]) [1, 3, 8, 9, 10, 11, 26, 27, 28, 34, 35, 36, 41, 42, 43] [30, 31, 32, 33, 5, 35, 36, 37, 38, 39, 40, 41, 42, 43, 44])))))))
(.reg [o 87 (.bin .add u14 (kJ 1))])))) [1, 3, 8, 9, 10, 11, 26, 27, 28, 34, 35, 36, 41, 42, 43] [1, 2, 3, 4, 5, 6, 7, 8, 9, 10, 11, 12, 13, 14, 0])))))))
(.reg [o 88 (.bin .add u11 (kJ 1))])))) [1, 3, 8, 9, 10, 11, 26, 27, 28, 34, 35, 36] [1, 2, 3, 4, 5, 6, 7, 8, 9, 10, 11, 0])))))))
(.reg [o 89 (.bin .add u7 (kJ 1))])))) [1, 3, 8, 9, 10, 26, 27, 28] [1, 2, 3, 4, 5, 6, 7, 0])))))
(.seq (.seq (.reg [])
(.cond u1
(.seq (.reg [o 6 (.mv (.k .mn)), o 7 (.mv (kJ 4))])
(.ret [.mv u1, .mv u0]))
 .skip))
(.seq (.reg [o 7 (.mv (kJ 0))])
(.ret [.mv u1, .mv u0])))))))
theorem fg63 : FGood Tryz.prog T 63 (.code 3 c63) := ⟨Tryz.call63, Tryz.f63, c63, Tryz.func63, by kernel_rfl⟩
def c64 : BC := (.seq (.reg [o 1 (.box 232 u0), o 2 (.alloc 408 [(.s []), .sn, .sn, .sn])])
(.seq (.reg [o 6 (.fa 2 u1), o 7 (.fa 0 u0), o 8 (.ld u0), o 10 (.fa 2 u4), o 11 (.fa 1 u0), o 12 (.ld u0), o 3 (.alloc 408 [(.s []), .sn, .sn, .sn]), o 9 (.call 49 [u4]), .chk ⟨(some 2), none, .ld u3⟩, .chk ⟨(some 1), none, .alloc 408 [(.s []), .sn, .sn, .sn]⟩, o 13 (.call 130 [u2]), .chk ⟨(some 2), none, .alloc 408 [(.s []), .sn, .sn, .sn]⟩, o 14 (.build [.sn, .sn] [(0, 1, u1), (1, 1, u0)]), o 15 (.build [(.s []), .sn, .sn, .sn] [(0, 1, (.k (.s [49]))), (1, 2, u0)]), oC (.stn 4 u4 u0)])
(.seq (.seq (.reg [o 16 (.fa 1 u4), o 17 (.fa 1 u0), o 18 (.ld u0), o 19 (.len false u0), o 20 (.mv (kJ 0))])
(.block 0 [2, 3] (.pre [1, 2, 3, 18, 19, 20] [17, 16, 9, 2, 1, 0] (.loop (.post (.seq (.reg [o 21 (.bin .lss u5 u4)])
(.seq (.cond u0
 .skip
(.pre [2, 3] [2, 3] (.exit 0)))
(.seq (.block 1 [1, 2, 3, 18, 19, 20] (.seq (.reg [o 23 (.ia 5 u4 u6), o 24 (.ldn 5 u0), o 5 (.alloc 188 [(.s []), (.i .i64 0), .sn, (.s []), (.s [])]), oC (.stn 5 u0 u1)])
(.seq (.reg [o 25 (.fa 1 u6), o 26 (.fa 1 u0), o 27 (.ld u0), o 29 (.fa 2 u3), o 30 (.ld u0), o 31 (.call 121 [u0]), .chk ⟨(some 3), none, .ld u4⟩, o 32 (.ia 5 u3 u15), o 33 (.fa 2 u0), oC (.st u0 u2)])
(.post (.reg [o 34 (.fa 3 u14), o 35 (.ld u0), o 36 (.fa 4 u14), o 37 (.ld u0), o 39 (.ia 1 u0 u21), o 40 (.ld u0), o 41 (.call 121 [u0]), .chk ⟨(some 5), none, .ld u6⟩, o 42 (.bsl 1 1 [.sn] [(0, 1, u0)]), o 43 (.app 176 1 24 u6 u0), o 44 (.fa 3 u23), oC (.st u0 u1)]) [1, 2, 3, 18, 19, 20] [22, 23, 24, 25, 26, 27]))))
(.reg [o 45 (.bin .add u5 (kJ 1))])))) [1, 2, 3, 18, 19, 20] [1, 2, 3, 4, 5, 0])))))
(.seq (.reg [o 46 (.ldn 4 u1), oC (.stn 4 u1 u0)])
(.ret [.ldn 4 u1])))))
theorem fg64 : FGood Tryz.prog T 64 (.code 1 c64) := ⟨Tryz.call64, Tryz.f64, c64, Tryz.func64, by kernel_rfl⟩
def h65 : BC := (.seq (.reg [o 4 (.box 376 u1)])
(.seq (.reg [o 15 (.nck u1), o 16 (.fa 0 u0), o 17 (.ld u0), o 18 (.call 131 [u0]), o 19 (.ext 0 u0), o 20 (.ext 1 u1)])
(.seq (.reg [o 22 (.fa 0 u6), o 23 (.ld u0), o 24 (.call 131 [u0]), o 25 (.ext 0 u0), o 26 (.ext 1 u1)])
(.seq (.post (.reg [o 30 (.call 132 [u6, u1]), o 31 (.call 119 [u0]), o 32 (.nck u14), o 33 (.fa 0 u0), oC (.st u0 u2)]) [0, 2, 4] [16, 18, 15])
(.seq (.reg [o 34 (.fa 1 u2), o 35 (.ld u0), o 36 (.len false u0), o 37 (.mv (kJ 0))])
(.block 0 [] (.pre [0, 2, 35, 36, 37] [4, 5, 2, 1, 0] (.loop (.post (.seq (.reg [o 38 (.bin .lss u4 u3)])
(.seq (.cond u0
 .skip
(.pre [] [] (.exit 0)))
(.seq (.block 1 [0, 2, 35, 36, 37] (.seq (.reg [o 39 (.ia 3 u3 u5), o 40 (.ldn 3 u0), o 11 (.alloc 364 [(.s []), (.s []), (.s [])]), oC (.stn 3 u0 u1)])
(.seq (.reg [o 42 (.fa 0 u0), o 43 (.ldn 2 u0), o 44 (.lk 13 (.ag [(.i .i64 0), (.i .i64 0), (.i .i64 0)]) false u7 u0), o 12 (.alloc 832 [(.i .i64 0), (.i .i64 0), (.i .i64 0)]), oC (.stn 3 u0 u1)])
(.seq (.reg [o 45 (.fa 0 u0), o 46 (.ld u0)])
(.block 2 [0, 2, 35, 36, 37] (.seq (.reg [o 72 (.bin .eql u0 (kJ 1))])
(.cond u0
(.post (.reg [o 74 (.nck u11), o 75 (.fa 1 u0), o 76 (.fa 1 u0), o 77 (.ld u0), o 78 (.fa 1 u7), o 79 (.ld u0), o 80 (.fa 2 u13), o 81 (.ld u0), o 82 (.ia 5 u4 u2), o 83 (.fa 3 u0), oC (.st u0 u2)]) [0, 2, 35, 36, 37] [21, 22, 23, 24, 25])
(.seq (.reg [o 85 (.bin .eql u1 (kJ 2))])
(.cond u0
(.post (.reg [o 87 (.nck u12), o 88 (.fa 1 u0), o 89 (.fa 0 u0), o 90 (.ld u0), o 91 (.fa 2 u8), o 92 (.ld u0), o 93 (.fa 2 u14), o 94 (.ld u0), o 95 (.ia 5 u4 u2), o 96 (.fa 3 u0), oC (.st u0 u2)]) [0, 2, 35, 36, 37] [22, 23, 24, 25, 26])
(.seq (.reg [o 98 (.bin .eql u2 (kJ 3))])
(.cond u0
(.post (.reg [o 100 (.nck u13), o 101 (.fa 3 u0), o 102 (.ld u0), o 103 (.fa 1 u8), o 104 (.ld u0), o 106 (.nck u18), o 107 (.fa 3 u0), o 108 (.ld u0), o 109 (.fa 1 u13), o 110 (.ld u0), o 111 (.ia 1 u2 u0), o 112 (.ld u0), o 113 (.fa 2 u17), o 114 (.ld u0), o 115 (.fa 2 u23), o 116 (.ld u0), o 117 (.call 133 [u4, u2, u0]), .chk ⟨(some 14), none, .ld u15⟩, .chk ⟨(some 12), none, .ld u13⟩, o 118 (.ia 1 u14 u12), oC (.st u0 u1)]) [0, 2, 35, 36, 37] [31, 32, 33, 34, 35])
(.post (.reg [o 48 (.nck u13), o 49 (.fa 1 u0), o 50 (.fa 1 u0), o 51 (.ld u0), o 52 (.fa 1 u9), o 53 (.ld u0), o 55 (.nck u19), o 56 (.fa 1 u0), o 57 (.fa 1 u0), o 58 (.ld u0), o 59 (.fa 1 u15), o 60 (.ld u0), o 61 (.ia 5 u2 u0), o 62 (.fa 2 u0), o 63 (.ld u0), o 64 (.fa 2 u20), o 65 (.ld u0), o 66 (.fa 2 u26), o 67 (.ld u0), o 68 (.call 133 [u4, u2, u0]), .chk ⟨(some 16), none, .ld u17⟩, .chk ⟨(some 14), none, .ld u15⟩, o 69 (.ia 5 u16 u14), o 70 (.fa 2 u0), oC (.st u0 u2)]) [0, 2, 35, 36, 37] [35, 36, 37, 38, 39]))))))))))))
(.reg [o 119 (.bin .add u4 (kJ 1))])))) [0, 2, 35, 36, 37] [1, 2, 3, 4, 0])))))))))
def c65 : BC := .seq h65 (.ret [])
theorem fg65 : FGood Tryz.prog T 65 (.code 3 c65) := ⟨Tryz.call65, Tryz.f65, h65, Tryz.func65, by kernel_rfl⟩
def c66 : BC := (.seq (.reg [o 4 (.mv (.k .sn))])
(.seq (.reg [o 10 (.len false u1), o 12 (.len false u3), o 13 (.bin .add u1 u0), o 14 (.bin .add u0 (kJ 1)), o 15 (.mks 1 8 [(.i .i64 0)] u0 u0)])
(.seq (.seq (.reg [o 17 (.len false u6), o 18 (.mv (kJ 0))])
(.block 0 [5] (.pre [0, 1, 5, 17, 18] [8, 9, 2, 1, 0] (.loop (.post (.seq (.reg [o 19 (.bin .lss u4 u3)])
(.seq (.cond u0
 .skip
(.pre [5] [3] (.exit 0)))
(.seq (.block 1 [0, 1, 5, 17, 18] (.seq (.reg [])
(.seq (.reg [o 22 (.len false u2), o 23 (.mv (kJ 0))])
(.block 2 [0, 1, 5, 17, 18] (.pre [0, 1, 5, 6, 17, 18, 22, 23] [3, 4, 5, 7, 6, 7, 1, 0] (.loop (.post (.seq (.reg [o 24 (.bin .lss u7 u6)])
(.seq (.cond u0
 .skip
(.pre [0, 1, 5, 17, 18] [1, 2, 3, 5, 6] (.exit 2)))
(.seq (.block 3 [0, 1, 5, 6, 17, 18, 22, 23] (.post (.seq (.reg [])
(.seq (.reg [o 29 (.bin .add u4 u8), o 30 (.ia 1 u4 u0), o 31 (.ld u0), o 34 (.ia 1 u4 u7), o 35 (.ld u0), o 38 (.ia 1 u7 u13), o 39 (.ld u0), o 40 (.bin .mul u2 u0), o 41 (.bin .add u5 u0), o 42 (.ia 1 u12 u8), oC (.st u0 u1)])
(.seq (.post (.reg [o 46 (.bin .add u14 u18), o 47 (.bin .add u0 (kJ 1)), o 48 (.ia 1 u15 u0), o 49 (.ld u0), o 53 (.bin .add u18 u22), o 54 (.ia 1 u18 u0), o 55 (.ld u0), o 56 (.bin .quo u0 (kJ 10000)), o 57 (.bin .add u4 u0), o 58 (.ia 1 u22 u7), oC (.st u0 u1)]) [0, 1, 5, 6, 7, 17, 18, 22, 23] [21, 22, 23, 24, 28, 25, 26, 27, 28])
(.reg [o 62 (.bin .add u3 u4), o 66 (.bin .add u4 u5), o 67 (.ia 1 u4 u0), o 68 (.ld u0), o 69 (.bin .rem u0 (kJ 10000)), o 70 (.ia 1 u7 u4), oC (.st u0 u1)])))) [0, 1, 5, 6, 17, 18, 22, 23] [6, 7, 8, 9, 11, 12, 13, 14]))
(.reg [o 71 (.bin .add u7 (kJ 1))])))) [0, 1, 5, 6, 17, 18, 22, 23] [1, 2, 3, 4, 5, 6, 7, 0])))))))
(.reg [o 72 (.bin .add u4 (kJ 1))])))) [0, 1, 5, 17, 18] [1, 2, 3, 4, 0])))))
(.seq (.seq (.reg [o 8 (.mv (kJ 0))])
(.block 4 [5] (.pre [5, 8] [1, 0] (.loop (.post (.seq (.seq (.reg [o 74 (.bin .add u1 (kJ 1)), o 76 (.len false u1), o 77 (.bin .lss u1 u0)])
(.cond u0
 .skip
(.pre [5] [3] (.exit 4))))
(.seq (.block 5 [5, 8] (.post (.seq (.post (.reg [o 82 (.bin .add u4 (kJ 1)), o 83 (.ia 1 u4 u0), o 84 (.ld u0), o 87 (.ia 1 u6 u7), o 88 (.ld u0), o 89 (.bin .quo u0 (kJ 10000)), o 90 (.bin .add u3 u0), o 91 (.ia 1 u10 u6), oC (.st u0 u1)]) [5, 8] [11, 12])
(.reg [o 96 (.ia 1 u0 u1), o 97 (.ld u0), o 98 (.bin .rem u0 (kJ 10000)), o 99 (.ia 1 u3 u4), oC (.st u0 u1)])) [5, 8] [4, 5]))
(.reg [o 79 (.bin .add u1 (kJ 1))]))) [5, 8] [1, 0])))))
(.seq (.reg [o 101 (.call 122 [u0])])
(.ret [.mv u0]))))))
theorem fg66 : FGood Tryz.prog T 66 (.code 2 c66) := ⟨Tryz.call66, Tryz.f66, c66, Tryz.func66, by kernel_rfl⟩
def c68 : BC := (.seq (.reg [o 4 (.mv (.k .sn))])
(.seq (.reg [o 8 (.app 16 1 8 (.k .sn) u1)])
(.seq (.seq (.reg [o 10 (.len false u0), o 11 (.mv (kJ 0))])
(.block 0 [5] (.pre [1, 5, 10, 11] [5, 2, 1, 0] (.loop (.post (.seq (.reg [o 12 (.bin .lss u3 u2)])
(.seq (.cond u0
 .skip
(.pre [5] [2] (.exit 0)))
(.seq (.block 1 [1, 5, 10, 11] (.seq (.reg [])
(.seq (.seq (.reg [o 16 (.len false u1), o 17 (.bin .lss u5 u0)])
(.cond u0
(.post (.reg [o 20 (.ia 1 u4 u6), o 21 (.ld u0), o 24 (.ia 1 u5 u8), o 25 (.ld u0), o 26 (.bin .sub u2 u0), o 27 (.ia 1 u9 u11), oC (.st u0 u1)]) [1, 5, 6, 10, 11] [9, 10, 12, 11, 12])
(.post .skip [1, 5, 6, 10, 11] [3, 4, 6, 5, 6])))
(.seq (.reg [o 30 (.ia 1 u1 u2), o 31 (.ld u0), o 32 (.bin .lss u0 (kJ 0))])
(.cond u0
(.seq (.reg [o 35 (.ia 1 u4 u5), o 36 (.ld u0), o 37 (.bin .add u0 (kJ 10000)), o 38 (.ia 1 u7 u8), oC (.st u0 u1)])
(.post (.reg [o 41 (.bin .add u9 (kJ 1)), o 42 (.ia 1 u9 u0), o 43 (.ld u0), o 44 (.bin .sub u0 (kJ 1)), o 45 (.ia 1 u12 u3), oC (.st u0 u1)]) [1, 5, 10, 11] [12, 13, 15, 16]))
(.post .skip [1, 5, 10, 11] [3, 4, 6, 7]))))))
(.reg [o 46 (.bin .add u3 (kJ 1))])))) [1, 5, 10, 11] [1, 2, 3, 0])))))
(.seq (.reg [o 48 (.call 122 [u0])])
(.ret [.mv u0])))))
theorem fg68 : FGood Tryz.prog T 68 (.code 2 c68) := ⟨Tryz.call68, Tryz.f68, c68, Tryz.func68, by kernel_rfl⟩
def h69 : BC := (.seq (.reg [o 3 (.box 136 u1)])
(.seq (.reg [o 5 (.fa 2 u0), o 6 (.ld u0), o 7 (.nck u3), o 8 (.fa 6 u0), oC (.st u0 u2)])
(.block 0 [] (.seq (.reg [o 12 (.fa 1 u4), o 13 (.ld u0)])
(.cond u0
(.post (.reg [o 15 (.call 134 [u7])]) [] [])
(.seq (.post (.reg [o 18 (.nck u7), o 19 (.fa 3 u0), o 20 (.ld u0), o 21 (.bin .neq u0 (kJ 2))]) [0, 16] [11, 0])
(.cond u1
(.post (.reg [o 23 (.call 135 [u0, kU, (kJ 5)])]) [] [])
(.seq (.reg [o 26 (.nck u0), o 27 (.fa 1 u0), o 28 (.fa 0 u0), o 29 (.ld u0), o 30 (.bin .eql u0 (kJ 1))])
(.cond u0
(.post (.reg [o 32 (.call 136 [u5])]) [] [])
(.seq (.post (.reg [o 35 (.nck u5), o 36 (.fa 1 u0), o 37 (.fa 0 u0), o 38 (.ld u0), o 39 (.bin .eql u0 (kJ 2)), oA 41 0 (.mv u10), oA 42 1 (.nck u0), oA 43 2 (.fa 6 u0), oA 44 3 (.ld u0), oA 45 4 (.ia 1 u0 (kJ 0)), oA 46 5 (.ld u0), oA 47 6 (.bin .eql u0 (.k (.s [66, 76]))), o 48 (.pick u7 u0 kF), oA 50 0 (.mv u18), oA 51 1 (.nck u0), oA 52 2 (.fa 6 u0), oA 53 3 (.ld u0), oA 54 4 (.len false u0), oA 55 5 (.bin .eql u0 (kJ 4)), o 56 (.pick u6 u0 kF)]) [0, 33] [25, 0])
(.cond u1
(.post (.reg [o 58 (.call 137 [u0])]) [] [])
(.seq (.post (.reg [o 61 (.nck u0), o 62 (.fa 1 u0), o 63 (.fa 0 u0), o 64 (.ld u0), o 65 (.bin .eql u0 (kJ 3)), oA 67 0 (.mv u5), oA 68 1 (.nck u0), oA 69 2 (.fa 6 u0), oA 70 3 (.ld u0), oA 71 4 (.ia 1 u0 (kJ 0)), oA 72 5 (.ld u0), oA 73 6 (.bin .eql u0 (.k (.s [83, 67]))), o 74 (.pick u7 u0 kF), oA 76 0 (.mv u13), oA 77 1 (.nck u0), oA 78 2 (.fa 6 u0), oA 79 3 (.ld u0), oA 80 4 (.len false u0), oA 81 5 (.bin .eql u0 (kJ 5)), o 82 (.pick u6 u0 kF)]) [0, 59] [20, 0])
(.cond u1
(.post (.reg [o 84 (.call 138 [u0])]) [] [])
(.post (.reg [o 10 (.call 139 [u0])]) [] []))))))))))))))
def c69 : BC := .seq h69 (.ret [])
theorem fg69 : FGood Tryz.prog T 69 (.code 2 c69) := ⟨Tryz.call69, Tryz.f69, h69, Tryz.func69, by kernel_rfl⟩
def h71 : BC := (.reg [o 5 (.nck u0), o 6 (.fa 0 u0), o 8 (.call 144 [u3, (.k (.s [32]))]), o 9 (.bin .add u0 (.k (.s [10]))), o 10 (.call 143 [u2, u0])])
def c71 : BC := .seq h71 (.ret [])
theorem fg71 : FGood Tryz.prog T 71 (.code 2 c71) := ⟨Tryz.call71, Tryz.f71, h71, Tryz.func71, by kernel_rfl⟩
def h72 : BC := (.seq (.reg [o 3 (.box 212 u1)])
(.seq (.reg [o 9 (.bsl 1 1 [(.s [])] [(0, 1, (.k (.s [67, 79, 76, 85, 77, 78, 83])))]), o 10 (.call 71 [u2, u0])])
(.seq (.reg [o 4 (.mv kF)])
(.seq (.reg [o 11 (.fa 3 u3), o 12 (.ld u0), o 13 (.len false u0), o 14 (.mv (kJ 0))])
(.block 0 [] (.pre [0, 3, 4, 12, 13, 14] [8, 7, 4, 2, 1, 0] (.loop (.post (.seq (.reg [o 15 (.bin .lss u5 u4)])
(.seq (.cond u0
 .skip
(.pre [] [] (.exit 0)))
(.seq (.block 1 [0, 3, 4, 12, 13, 14] (.post (.seq (.reg [o 17 (.ia 5 u4 u6), o 18 (.ldn 5 u0), o 6 (.alloc 200 [(.s []), (.s []), (.s []), (.s []), (.b false)]), oC (.stn 5 u0 u1)])
(.seq (.seq (.reg [o 19 (.fa 4 u0), o 20 (.ld u0), o 22 (.eq 0 true u0 u8)])
(.cond u0
(.post (.seq (.reg [o 23 (.fa 4 u3), o 24 (.ld u0)])
(.seq (.reg [o 7 (.mv (.k (.s [39, 73, 78, 84, 69, 78, 68, 39])))])
(.seq (.seq (.reg [])
(.cond u1
(.post (.reg [o 7 (.mv (.k (.s [39, 73, 78, 84, 79, 82, 71, 39])))]) [0, 3, 4, 5, 6, 7, 12, 13, 14] [11, 12, 2, 16, 7, 0, 14, 15, 16])
(.post .skip [0, 3, 4, 5, 6, 7, 12, 13, 14] [10, 11, 1, 15, 6, 0, 13, 14, 15])))
(.reg [o 28 (.bsl 4 1 [(.s [])] [(0, 1, (.k (.s []))), (1, 1, (.k (.s [77]))), (2, 1, (.k (.s [39, 77, 65, 82, 75, 69, 82, 39]))), (3, 1, u5)]), o 29 (.call 71 [u1, u0])])))) [0, 3, 4, 5, 6, 12, 13, 14] [2, 3, 4, 5, 6, 8, 9, 10])
(.post .skip [0, 3, 4, 5, 6, 12, 13, 14] [7, 8, 9, 12, 3, 10, 11, 12])))
(.reg [o 31 (.fa 0 u4), o 32 (.ld u0), o 34 (.ldn 4 u3), o 36 (.call 146 [u3, u0, u6]), .chk ⟨(some 2), none, .ld u3⟩, o 37 (.call 145 [u4, u2, u0])]))) [0, 3, 4, 12, 13, 14] [5, 6, 7, 10, 11, 12]))
(.reg [o 38 (.bin .add u5 (kJ 1))])))) [0, 3, 4, 12, 13, 14] [1, 2, 3, 4, 5, 0]))))))))
def c72 : BC := .seq h72 (.ret [])
theorem fg72 : FGood Tryz.prog T 72 (.code 2 c72) := ⟨Tryz.call72, Tryz.f72, h72, Tryz.func72, by kernel_rfl⟩
def h73 : BC := (.seq (.reg [o 3 (.box 212 u1)])
(.seq (.reg [o 4 (.mv (.k .sn)), o 5 (.mv (.k .sn))])
(.seq (.seq (.reg [o 8 (.fa 2 u2), o 9 (.ld u0), o 10 (.len false u0), o 11 (.mv (kJ 0))])
(.block 0 [0, 4, 5] (.pre [0, 4, 5, 9, 10, 11] [7, 5, 4, 2, 1, 0] (.loop (.post (.seq (.reg [o 12 (.bin .lss u5 u4)])
(.seq (.cond u0
 .skip
(.pre [0, 4, 5] [1, 2, 3] (.exit 0)))
(.seq (.block 1 [0, 4, 5, 9, 10, 11] (.seq (.reg [o 13 (.ia 5 u4 u6), o 14 (.ldn 5 u0), o 7 (.alloc 188 [(.s []), (.i .i64 0), .sn, (.s []), (.s [])]), oC (.stn 5 u0 u1)])
(.seq (.seq (.reg [o 15 (.fa 3 u0), o 16 (.ld u0), o 17 (.bin .neq u0 (.k (.s [48])))])
(.cond u0
(.post (.reg [o 19 (.fa 0 u3), o 20 (.ld u0), o 22 (.fa 3 u5), o 23 (.ld u0), o 24 (.call 147 [u11, u0]), .chk ⟨(some 3), none, .ld u4⟩, o 25 (.bsl 2 1 [(.s [])] [(0, 1, u3), (1, 1, u0)]), o 26 (.app 40 1 16 u14 u0)]) [0, 4, 5, 7, 9, 10, 11] [14, 0, 16, 10, 17, 18, 19])
(.post .skip [0, 4, 5, 7, 9, 10, 11] [7, 8, 9, 3, 10, 11, 12])))
(.seq (.reg [o 27 (.fa 4 u3), o 28 (.ld u0), o 29 (.bin .neq u0 (.k (.s [])))])
(.cond u0
(.post (.reg [o 31 (.fa 0 u6), o 32 (.ld u0), o 34 (.fa 4 u8), o 35 (.ld u0), o 36 (.call 147 [u7, u0]), .chk ⟨(some 3), none, .ld u4⟩, o 37 (.bsl 2 1 [(.s [])] [(0, 1, u3), (1, 1, u0)]), o 38 (.app 40 1 16 u11 u0)]) [0, 4, 5, 9, 10, 11] [10, 11, 0, 14, 15, 16])
(.post .skip [0, 4, 5, 9, 10, 11] [3, 4, 5, 7, 8, 9]))))))
(.reg [o 39 (.bin .add u5 (kJ 1))])))) [0, 4, 5, 9, 10, 11] [1, 2, 3, 4, 5, 0])))))
(.seq (.reg [o 41 (.bsl 1 1 [(.s [])] [(0, 1, (.k (.s [82, 72, 83])))]), o 42 (.call 71 [u1, u0])])
(.seq (.reg [o 45 (.call 145 [u2, (.k (.s [82])), u3])])
(.seq (.reg [o 47 (.bsl 1 1 [(.s [])] [(0, 1, (.k (.s [82, 65, 78, 71, 69, 83])))]), o 48 (.call 71 [u4, u0])])
(.post (.reg [o 51 (.call 145 [u5, (.k (.s [82])), u7])]) [] [])))))))
def c73 : BC := .seq h73 (.ret [])
theorem fg73 : FGood Tryz.prog T 73 (.code 2 c73) := ⟨Tryz.call73, Tryz.f73, h73, Tryz.func73, by kernel_rfl⟩
def h74 : BC := (.seq (.reg [o 3 (.box 212 u1)])
(.seq (.reg [o 7 (.bsl 1 1 [(.s [])] [(0, 1, (.k (.s [66, 79, 85, 78, 68, 83])))]), o 8 (.call 71 [u2, u0])])
(.seq (.reg [o 9 (.fa 3 u2), o 10 (.ld u0), o 11 (.len false u0), o 12 (.mv (kJ 0))])
(.block 0 [] (.pre [0, 10, 11, 12] [7, 2, 1, 0] (.loop (.post (.seq (.reg [o 13 (.bin .lss u3 u2)])
(.seq (.cond u0
 .skip
(.pre [] [] (.exit 0)))
(.seq (.block 1 [0, 10, 11, 12] (.seq (.reg [o 14 (.ia 5 u2 u4), o 15 (.ldn 5 u0), o 5 (.alloc 200 [(.s []), (.s []), (.s []), (.s []), (.b false)]), oC (.stn 5 u0 u1)])
(.seq (.seq (.reg [o 16 (.fa 1 u0), o 17 (.ld u0)])
(.block 2 [0, 5, 10, 11, 12] (.seq (.reg [o 28 (.bin .eql u0 (.k (.s [48])))])
(.cond u0
(.post .skip [0, 5, 10, 11, 12] [7, 3, 8, 9, 10])
(.seq (.reg [o 30 (.bin .eql u1 (.k (.s [])))])
(.cond u0
(.post (.reg [o 32 (.fa 0 u4), o 33 (.ld u0), o 34 (.bsl 4 1 [(.s [])] [(0, 1, (.k (.s []))), (1, 1, (.k (.s [77, 73]))), (2, 1, (.k (.s [66]))), (3, 1, u0)]), o 35 (.call 71 [u11, u0])]) [0, 5, 10, 11, 12] [12, 8, 13, 14, 15])
(.post (.reg [o 19 (.fa 0 u4), o 20 (.ld u0), o 22 (.fa 1 u6), o 23 (.ld u0), o 24 (.call 147 [u12, u0]), .chk ⟨(some 3), none, .ld u4⟩, o 25 (.bsl 5 1 [(.s [])] [(0, 1, (.k (.s []))), (1, 1, (.k (.s [76, 79]))), (2, 1, (.k (.s [66]))), (3, 1, u3), (4, 1, u0)]), o 26 (.call 71 [u14, u0])]) [0, 5, 10, 11, 12] [15, 11, 16, 17, 18])))))))
(.seq (.reg [o 36 (.fa 2 u1), o 37 (.ld u0), o 38 (.bin .neq u0 (.k (.s [])))])
(.cond u0
(.post (.reg [o 40 (.fa 0 u4), o 41 (.ld u0), o 43 (.fa 2 u6), o 44 (.ld u0), o 45 (.call 147 [u7, u0]), .chk ⟨(some 3), none, .ld u4⟩, o 46 (.bsl 5 1 [(.s [])] [(0, 1, (.k (.s []))), (1, 1, (.k (.s [85, 80]))), (2, 1, (.k (.s [66]))), (3, 1, u3), (4, 1, u0)]), o 47 (.call 71 [u9, u0])]) [0, 10, 11, 12] [10, 12, 13, 14])
(.post .skip [0, 10, 11, 12] [3, 5, 6, 7]))))))
(.reg [o 48 (.bin .add u3 (kJ 1))])))) [0, 10, 11, 12] [1, 2, 3, 0])))))))
def c74 : BC := .seq h74 (.ret [])
theorem fg74 : FGood Tryz.prog T 74 (.code 2 c74) := ⟨Tryz.call74, Tryz.f74, h74, Tryz.func74, by kernel_rfl⟩
def c75 : BC := (.seq (.reg [o 2 (.mv (.k (.s []))), o 3 (.mv kF)])
(.seq (.seq (.reg [o 5 (.nck u2), o 6 (.fa 2 u0), o 7 (.ld u0)])
(.cond u0
(.seq (.reg [o 2 (.mv (.k (.s []))), o 3 (.mv kF)])
(.ret [.mv u1, .mv u0]))
 .skip))
(.seq (.reg [o 9 (.nck u5), o 10 (.fa 0 u0), o 11 (.call 148 [u0]), o 3 (.mv kU)])
(.ret [.mv u1, .mv u0]))))
theorem fg75 : FGood Tryz.prog T 75 (.code 1 c75) := ⟨Tryz.call75, Tryz.f75, c75, Tryz.func75, by kernel_rfl⟩
def c76 : BC := (.seq (.reg [o 4 (.mv (kJ 0))])
(.seq (.seq (.reg [o 7 (.len false u1), o 8 (.mv (kJ 0))])
(.block 0 [] (.pre [0, 1, 7, 8] [3, 4, 1, 0] (.loop (.post (.seq (.reg [o 9 (.bin .lss u3 u2)])
(.seq (.cond u0
 .skip
(.pre [] [] (.exit 0)))
(.seq (.block 1 [0, 1, 7, 8] (.post (.seq (.reg [])
(.seq (.reg [o 14 (.ia 5 u1 u4), o 15 (.ldn 5 u0), o 16 (.callv u4 [u0])])
(.cond u0
(.seq (.reg [])
(.ret [.mv u7]))
 .skip))) [0, 1, 7, 8] [4, 5, 6, 7]))
(.reg [o 18 (.bin .add u3 (kJ 1))])))) [0, 1, 7, 8] [1, 2, 3, 0])))))
(.seq (.reg [o 4 (.mv (.k (.i .i64 (-1))))])
(.ret [.mv u0]))))
theorem fg76 : FGood Tryz.prog T 76 (.code 2 c76) := ⟨Tryz.call76, Tryz.f76, c76, Tryz.func76, by kernel_rfl⟩
def c77 : BC := (.seq (.reg [o 2 (.box 188 u0), o 3 (.mv kF)])
(.seq (.reg [o 4 (.fa 0 u1), o 5 (.ld u0), o 6 (.fa 1 u5), o 7 (.ld u0), o 8 (.bin .eql u2 u0)])
(.ret [.mv u0])))
theorem fg77 : FGood Tryz.prog T 77 (.code 2 c77) := ⟨Tryz.call77, Tryz.f77, c77, Tryz.func77, by kernel_rfl⟩
def c78 : BC := (.seq (.reg [o 4 (.mv (kJ 0))])
(.seq (.seq (.reg [o 7 (.len false u1), o 8 (.mv (kJ 0))])
(.block 0 [] (.pre [0, 1, 7, 8] [3, 4, 1, 0] (.loop (.post (.seq (.reg [o 9 (.bin .lss u3 u2)])
(.seq (.cond u0
 .skip
(.pre [] [] (.exit 0)))
(.seq (.block 1 [0, 1, 7, 8] (.post (.seq (.reg [])
(.seq (.reg [o 14 (.ia 5 u1 u4), o 15 (.ldn 5 u0), o 16 (.callv u4 [u0])])
(.cond u0
(.seq (.reg [])
(.ret [.mv u7]))
 .skip))) [0, 1, 7, 8] [4, 5, 6, 7]))
(.reg [o 18 (.bin .add u3 (kJ 1))])))) [0, 1, 7, 8] [1, 2, 3, 0])))))
(.seq (.reg [o 4 (.mv (.k (.i .i64 (-1))))])
(.ret [.mv u0]))))
theorem fg78 : FGood Tryz.prog T 78 (.code 2 c78) := ⟨Tryz.call78, Tryz.f78, c78, Tryz.func78, by kernel_rfl⟩
def c79 : BC := (.seq (.reg [o 2 (.box 200 u0), o 3 (.mv kF)])
(.seq (.reg [o 4 (.fa 0 u1), o 5 (.ld u0), o 6 (.fa 0 u5), o 7 (.ld u0), o 8 (.bin .eql u2 u0)])
(.ret [.mv u0])))
theorem fg79 : FGood Tryz.prog T 79 (.code 2 c79) := ⟨Tryz.call79, Tryz.f79, c79, Tryz.func79, by kernel_rfl⟩
def c80 : BC := (.seq (.reg [o 0 (.mv kF)])
(.seq (.reg [o 19 (.call 149 [(.k (.i .u64 9223372036854775808)), (.k (.i .u64 6))]), o 20 (.ext 0 u0), o 21 (.ext 1 u1)])
(.seq (.reg [o 23 (.call 150 [(.k (.i .u64 3)), (.k (.i .u64 0)), (.k (.i .u64 4))]), o 24 (.ext 0 u0), o 25 (.ext 1 u1), o 26 (.ext 2 u2)])
(.seq (.reg [o 28 (.call 151 [(.k (.s [51, 52, 48, 50, 56, 50, 51, 54, 54, 57, 50, 48, 57, 51, 56, 52, 54, 51, 52, 54, 51, 51, 55, 52, 54, 48, 55, 52, 51, 49, 55, 54, 56, 50, 49, 49, 52, 53, 54]))]), o 29 (.ext 0 u0), o 30 (.ext 1 u1)])
(.seq (.seq (.reg [o 32 (.eq 1 false u1 (.k .pn))])
(.cond u0
(.seq (.post (.reg [o 0 (.mv kF)]) [0] [0])
(.ret [.mv u0]))
 .skip))
(.seq (.reg [o 34 (.call 131 [(.k (.s [45, 55, 47, 51]))]), o 35 (.ext 0 u0), o 36 (.ext 1 u1)])
(.seq (.reg [o 38 (.call 152 [(.k (.s [45, 49, 46, 50, 53, 101, 49]))]), o 39 (.ext 0 u0), o 40 (.ext 1 u1)])
(.seq (.reg [o 42 (.build [(.i .i64 0), (.s [])] [(0, 1, (kJ 2)), (1, 1, (.k (.s [51])))]), o 43 (.build [(.i .i64 0), (.s [])] [(0, 1, (kJ 0)), (1, 1, (.k (.s [45, 49, 47, 50])))]), o 44 (.bsl 2 2 [(.i .i64 0), (.s [])] [(0, 2, u1), (2, 2, u0)]), o 45 (.call 153 [u0]), o 46 (.ext 0 u0), o 47 (.ext 1 u1)])
(.seq (.reg [o 49 (.bsl 2 1 [(.s [])] [(0, 1, (.k (.s [50]))), (1, 1, (.k (.s [49])))]), o 50 (.bsl 2 1 [(.s [])] [(0, 1, (.k (.s [49]))), (1, 1, (.k (.s [49])))]), o 51 (.bsl 2 1 [.sn] [(0, 1, u1), (1, 1, u0)]), o 52 (.call 154 [u0]), o 53 (.ext 0 u0), o 54 (.ext 1 u1)])
(.seq (.seq (.reg [o 56 (.eq 1 false u16 (.k .pn)), oB 58 0 (.mv u14), oB 59 1 (.eq 1 false u0 (.k .pn)), o 60 (.pick u2 kU u0), oB 62 0 (.mv u11), oB 63 1 (.eq 1 false u0 (.k .pn)), o 64 (.pick u2 kU u0), oB 66 0 (.mv u8), oB 67 1 (.eq 1 false u0 (.k .pn)), o 68 (.pick u2 kU u0)])
(.cond u0
(.seq (.post (.reg [o 0 (.mv kF)]) [0] [0])
(.ret [.mv u0]))
 .skip))
(.seq (.post (.reg [o 71 (.call 156 [(kJ 3)]), o 72 (.call 156 [(kJ 2)]), o 73 (.bsl 2 1 [.pn] [(0, 1, u1), (1, 1, u0)]), o 74 (.call 155 [u14, u0]), o 75 (.ext 0 u0), o 76 (.ext 1 u1)]) [1, 2, 3, 4, 5, 6, 7, 8, 9, 10, 11, 12, 13, 14, 15, 16, 17] [43, 42, 40, 39, 38, 36, 35, 32, 31, 29, 28, 23, 22, 17, 16, 1, 0])
(.seq (.seq (.reg [o 78 (.len false u15), o 79 (.bin .neq u0 (kJ 2))])
(.cond u0
(.seq (.post (.reg [o 0 (.mv kF)]) [0] [0])
(.ret [.mv u0]))
 .skip))
(.seq (.post (.reg [o 81 (.bin .eql u2 (.k (.i .u64 3))), oA 83 0 (.mv u4), oA 84 1 (.bin .eql u0 (.k (.i .u64 0))), o 85 (.pick u2 u0 kF), oA 87 0 (.mv u10), o 88 (.pick u1 u0 kF), oA 90 0 (.mv u10), oA 91 1 (.bin .eql u0 (.k (.i .u64 13835058055282163712))), o 92 (.pick u2 u0 kF), oA 94 0 (.mv u14), oA 95 1 (.bin .eql u0 (.k (.i .u64 0))), o 96 (.pick u2 u0 kF), oA 98 0 (.mv u20), o 99 (.pick u1 u0 kF), oA 101 0 (.mv u21), oA 102 1 (.call 157 [u0]), oA 103 2 (.bin .eql u0 (kJ 129)), o 104 (.pick u3 u0 kF), oA 106 0 (.mv u25), oA 107 1 (.call 158 [u0]), oA 108 2 (.bin .eql u0 (kJ 128)), o 109 (.pick u3 u0 kF), oA 111 0 (.mv u29), oA 112 1 (.call 159 [u0]), oA 113 2 (.bin .eql u0 (.k (.s [51, 52, 48, 50, 56, 50, 51, 54, 54, 57, 50, 48, 57, 51, 56, 52, 54, 51, 52, 54, 51, 51, 55, 52, 54, 48, 55, 52, 51, 49, 55, 54, 56, 50, 49, 49, 52, 53, 54]))), o 114 (.pick u3 u0 kF), oA 116 0 (.mv u36), o 117 (.pick u1 u0 kF), oA 119 0 (.mv u37), oA 120 1 (.call 119 [u0]), oA 121 2 (.bin .eql u0 (.k (.s [45, 55, 47, 51]))), o 122 (.pick u3 u0 kF), oA 124 0 (.mv u41), oA 125 1 (.call 160 [u0]), oA 126 2 (.call 119 [u0]), oA 127 3 (.bin .eql u0 (.k (.s [45, 51]))), o 128 (.pick u4 u0 kF), oA 130 0 (.mv u49), o 131 (.pick u1 u0 kF), oA 133 0 (.mv u50), oA 134 1 (.call 119 [u0]), oA 135 2 (.bin .eql u0 (.k (.s [45, 50, 53, 47, 50]))), o 136 (.pick u3 u0 kF), oA 138 0 (.mv u57), o 139 (.pick u1 u0 kF), oA 141 0 (.mv u58), oA 142 1 (.call 161 [u0]), oA 143 2 (.bin .eql u0 (kJ 2)), o 144 (.pick u3 u0 kF), oA 146 0 (.mv u62), oA 147 1 (.call 162 [u0, (kJ 0)]), oA 148 2 (.call 119 [u0]), oA 149 3 (.bin .eql u0 (.k (.s [45, 49, 47, 50]))), o 150 (.pick u4 u0 kF), oA 152 0 (.mv u70), o 153 (.pick u1 u0 kF), oA 155 0 (.mv u71), oA 156 1 (.call 163 [u0]), oA 157 2 (.bin .eql u0 (kJ 2)), o 158 (.pick u3 u0 kF), oA 160 0 (.mv u78), o 161 (.pick u1 u0 kF), oA 163 0 (.mv u79), oA 164 1 (.ia 1 u0 (kJ 0)), oA 165 2 (.ld u0), oA 166 3 (.call 119 [u0]), oA 167 4 (.bin .eql u0 (.k (.s [49]))), o 168 (.pick u5 u0 kF), oA 170 0 (.mv u85), oA 171 1 (.ia 1 u0 (kJ 1)), oA 172 2 (.ld u0), oA 173 3 (.call 119 [u0]), oA 174 4 (.bin .eql u0 (.k (.s [49]))), o 175 (.pick u5 u0 kF), oA 177 0 (.call 164 [(.k (.i .u64 255))]), oA 178 1 (.bin .eql u0 (kJ 8)), o 179 (.pick u2 u0 kF)]) [0] [0])
(.ret [.mv u0]))))))))))))))
theorem fg80 : FGood Tryz.prog T 80 (.code 0 c80) := ⟨Tryz.call80, Tryz.f80, c80, Tryz.func80, by kernel_rfl⟩
def c81 : BC := (.seq (.reg [o 2 (.box 188 u0), o 3 (.box 188 u2), o 4 (.mv kF)])
(.seq (.post (.reg [o 5 (.fa 0 u2), o 6 (.ld u0), o 7 (.fa 0 u3), o 8 (.ld u0), o 9 (.bin .eql u2 u0), oA 11 0 (.fa 1 u7), oA 12 1 (.ld u0), oA 13 2 (.fa 1 u8), oA 14 3 (.ld u0), oA 15 4 (.bin .eql u2 u0), o 16 (.pick u5 u0 kF), oA 18 0 (.fa 3 u13), oA 19 1 (.ld u0), oA 20 2 (.fa 3 u14), oA 21 3 (.ld u0), oA 22 4 (.bin .eql u2 u0), o 23 (.pick u5 u0 kF), oA 25 0 (.fa 4 u19), oA 26 1 (.ld u0), oA 27 2 (.fa 4 u20), oA 28 3 (.ld u0), oA 29 4 (.bin .eql u2 u0), o 30 (.pick u5 u0 kF), oA 32 0 (.fa 2 u25), oA 33 1 (.ld u0), oA 34 2 (.fa 2 u26), oA 35 3 (.ld u0), oA 36 4 (.call 82 [u2, u0]), o 37 (.pick u5 u0 kF)]) [4] [0])
(.ret [.mv u0])))
theorem fg81 : FGood Tryz.prog T 81 (.code 2 c81) := ⟨Tryz.call81, Tryz.f81, c81, Tryz.func81, by kernel_rfl⟩
def c82 : BC := (.seq (.reg [o 4 (.mv kF)])
(.seq (.seq (.reg [o 7 (.len false u1), o 9 (.len false u3), o 10 (.bin .neq u1 u0)])
(.cond u0
(.seq (.reg [o 4 (.mv kF)])
(.ret [.mv u0]))
 .skip))
(.seq (.seq (.reg [o 12 (.len false u4), o 13 (.mv (kJ 0))])
(.block 0 [] (.pre [0, 1, 12, 13] [6, 7, 1, 0] (.loop (.post (.seq (.reg [o 14 (.bin .lss u3 u2)])
(.seq (.cond u0
 .skip
(.pre [] [] (.exit 0)))
(.seq (.block 1 [0, 1, 12, 13] (.post (.seq (.reg [])
(.seq (.reg [o 18 (.ia 2 u1 u4), o 19 (.ldn 2 u0), o 22 (.ia 2 u4 u6), o 23 (.ldn 2 u0), o 24 (.eqs true 9 u2 u0)])
(.cond u0
(.seq (.post (.reg [o 4 (.mv kF)]) [4] [0])
(.ret [.mv u0]))
 .skip))) [0, 1, 12, 13] [6, 7, 8, 9]))
(.reg [o 25 (.bin .add u3 (kJ 1))])))) [0, 1, 12, 13] [1, 2, 3, 0])))))
(.seq (.reg [o 4 (.mv kU)])
(.ret [.mv u0])))))
theorem fg82 : FGood Tryz.prog T 82 (.code 2 c82) := ⟨Tryz.call82, Tryz.f82, c82, Tryz.func82, by kernel_rfl⟩
def c83 : BC := (.seq (.reg [o 6 (.mv kF)])
(.seq (.seq (.reg [o 11 (.len false u1), o 13 (.len false u3), o 14 (.bin .neq u1 u0)])
(.cond u0
(.seq (.reg [o 6 (.mv kF)])
(.ret [.mv u0]))
 .skip))
(.seq (.seq (.reg [o 16 (.len false u4), o 17 (.mv (kJ 0))])
(.block 0 [] (.pre [1, 2, 15, 16, 17] [7, 8, 6, 1, 0] (.loop (.post (.seq (.reg [o 18 (.bin .lss u4 u3)])
(.seq (.cond u0
 .skip
(.pre [] [] (.exit 0)))
(.seq (.block 1 [1, 2, 15, 16, 17] (.post (.seq (.reg [o 20 (.ia 5 u3 u5), o 21 (.ldn 5 u0), o 8 (.alloc 188 [(.s []), (.i .i64 0), .sn, (.s []), (.s [])]), oC (.stn 5 u0 u1)])
(.seq (.reg [o 24 (.ia 5 u4 u8), o 25 (.ldn 5 u0), o 9 (.alloc 188 [(.s []), (.i .i64 0), .sn, (.s []), (.s [])]), oC (.stn 5 u0 u1)])
(.seq (.reg [o 27 (.ldn 5 u3), o 28 (.ldn 5 u1), o 29 (.callv u10 [u1, u0]), o 30 (.un .not u0)])
(.cond u0
(.seq (.post (.reg [o 6 (.mv kF)]) [6] [0])
(.ret [.mv u0]))
 .skip)))) [1, 2, 15, 16, 17] [11, 12, 13, 14, 15]))
(.reg [o 31 (.bin .add u4 (kJ 1))])))) [1, 2, 15, 16, 17] [1, 2, 3, 4, 0])))))
(.seq (.reg [o 6 (.mv kU)])
(.ret [.mv u0])))))
theorem fg83 : FGood Tryz.prog T 83 (.code 3 c83) := ⟨Tryz.call83, Tryz.f83, c83, Tryz.func83, by kernel_rfl⟩
def c84 : BC := (.seq (.reg [o 4 (.mv kF)])
(.seq (.seq (.reg [o 7 (.len false u1), o 9 (.len false u3), o 10 (.bin .neq u1 u0)])
(.cond u0
(.seq (.reg [o 4 (.mv kF)])
(.ret [.mv u0]))
 .skip))
(.seq (.seq (.reg [o 12 (.len false u4), o 13 (.mv (kJ 0))])
(.block 0 [] (.pre [0, 1, 12, 13] [6, 7, 1, 0] (.loop (.post (.seq (.reg [o 14 (.bin .lss u3 u2)])
(.seq (.cond u0
 .skip
(.pre [] [] (.exit 0)))
(.seq (.block 1 [0, 1, 12, 13] (.post (.seq (.reg [])
(.seq (.reg [o 18 (.ia 5 u1 u4), o 19 (.ldn 5 u0), o 22 (.ia 5 u4 u6), o 23 (.ldn 5 u0), o 24 (.eqs true 938 u2 u0)])
(.cond u0
(.seq (.post (.reg [o 4 (.mv kF)]) [4] [0])
(.ret [.mv u0]))
 .skip))) [0, 1, 12, 13] [6, 7, 8, 9]))
(.reg [o 25 (.bin .add u3 (kJ 1))])))) [0, 1, 12, 13] [1, 2, 3, 0])))))
(.seq (.reg [o 4 (.mv kU)])
(.ret [.mv u0])))))
theorem fg84 : FGood Tryz.prog T 84 (.code 2 c84) := ⟨Tryz.call84, Tryz.f84, c84, Tryz.func84, by kernel_rfl⟩
def c85 : BC := (.seq (.reg [o 2 (.box 188 u0), o 3 (.mv kF)])
(.seq (.post (.reg [o 4 (.fa 3 u1), o 5 (.ld u0), o 6 (.call 86 [u0]), o 7 (.un .not u0), oB 9 0 (.fa 4 u5), oB 10 1 (.ld u0), oB 11 2 (.call 87 [u0]), oB 12 3 (.un .not u0), o 13 (.pick u4 kU u0), oB 15 0 (.fa 2 u10), oB 16 1 (.ld u0), oB 17 2 (.fa 3 u14), oB 18 3 (.ld u0), oB 19 4 (.len false u0), oB 20 5 (.call 88 [u3, u0]), oB 21 6 (.un .not u0), o 22 (.pick u7 kU u0)]) [3] [0])
(.ret [.mv u0])))
theorem fg85 : FGood Tryz.prog T 85 (.code 2 c85) := ⟨Tryz.call85, Tryz.f85, c85, Tryz.func85, by kernel_rfl⟩
def c86 : BC := (.seq (.reg [o 2 (.mv kF)])
(.seq (.reg [o 7 (.call 131 [u1]), o 8 (.ext 0 u0), o 9 (.ext 1 u1)])
(.seq (.reg [])
(.ret [.mv u0]))))
theorem fg86 : FGood Tryz.prog T 86 (.code 1 c86) := ⟨Tryz.call86, Tryz.f86, c86, Tryz.func86, by kernel_rfl⟩
def c87 : BC := (.seq (.reg [o 2 (.mv kF)])
(.seq (.reg [o 4 (.bin .eql u1 (.k (.s []))), oB 6 0 (.mv u2), oB 7 1 (.call 86 [u0]), o 8 (.pick u2 kU u0)])
(.ret [.mv u0])))
theorem fg87 : FGood Tryz.prog T 87 (.code 1 c87) := ⟨Tryz.call87, Tryz.f87, c87, Tryz.func87, by kernel_rfl⟩
def c88 : BC := (.seq (.reg [o 4 (.mv kF)])
(.seq (.reg [o 5 (.mv (.k (.i .i64 (-1))))])
(.seq (.seq (.reg [o 11 (.len false u2), o 12 (.mv (kJ 0))])
(.block 0 [] (.pre [1, 5, 10, 11, 12] [5, 2, 4, 1, 0] (.loop (.post (.seq (.reg [o 13 (.bin .lss u4 u3)])
(.seq (.cond u0
 .skip
(.pre [] [] (.exit 0)))
(.seq (.block 1 [1, 5, 10, 11, 12] (.post (.seq (.reg [o 14 (.ia 2 u3 u5), o 15 (.ldn 2 u0), o 7 (.alloc 172 [(.i .i64 0), (.s [])]), oC (.stn 2 u0 u1)])
(.seq (.reg [o 17 (.fa 1 u0), o 18 (.ld u0), o 19 (.call 131 [u0]), o 20 (.ext 0 u0), o 21 (.ext 1 u1)])
(.seq (.seq (.post (.reg [o 23 (.un .not u0), oB 25 0 (.mv u2), oB 26 1 (.call 116 [u0]), oB 27 2 (.bin .eql u0 (kJ 0)), o 28 (.pick u3 kU u0), oB 30 0 (.fa 0 u10), oB 31 1 (.ld u0), oB 32 2 (.mv u17), oB 33 3 (.bin .leq u1 u0), o 34 (.pick u4 kU u0), oB 36 0 (.fa 0 u15), oB 37 1 (.ld u0), oB 38 2 (.mv u21), oB 39 3 (.bin .geq u1 u0), o 40 (.pick u4 kU u0)]) [1, 7, 10, 11, 12, 40] [24, 20, 26, 27, 28, 0])
(.cond u5
(.seq (.reg [o 4 (.mv kF)])
(.ret [.mv u0]))
 .skip))
(.reg [o 41 (.fa 0 u1), o 42 (.ld u0)])))) [1, 5, 10, 11, 12] [2, 0, 4, 5, 6]))
(.reg [o 43 (.bin .add u4 (kJ 1))])))) [1, 5, 10, 11, 12] [1, 2, 3, 4, 0])))))
(.seq (.reg [o 4 (.mv kU)])
(.ret [.mv u0])))))
theorem fg88 : FGood Tryz.prog T 88 (.code 2 c88) := ⟨Tryz.call88, Tryz.f88, c88, Tryz.func88, by kernel_rfl⟩
def c89 : BC := (.seq (.reg [o 1 (.box 200 u0), o 2 (.mv kF)])
(.seq (.post (.reg [o 3 (.fa 3 u1), o 4 (.ld u0), o 5 (.call 86 [u0]), o 6 (.un .not u0), oB 8 0 (.fa 1 u5), oB 9 1 (.ld u0), oB 10 2 (.call 87 [u0]), oB 11 3 (.un .not u0), o 12 (.pick u4 kU u0), oB 14 0 (.fa 2 u10), oB 15 1 (.ld u0), oB 16 2 (.call 87 [u0]), oB 17 3 (.un .not u0), o 18 (.pick u4 kU u0)]) [2] [0])
(.ret [.mv u0])))
theorem fg89 : FGood Tryz.prog T 89 (.code 1 c89) := ⟨Tryz.call89, Tryz.f89, c89, Tryz.func89, by kernel_rfl⟩
def c90 : BC := (.seq (.reg [o 1 (.box 188 u0), o 2 (.mv kF)])
(.seq (.reg [o 3 (.fa 1 u1), o 4 (.ld u0), o 5 (.bin .lss u0 (kJ 1)), oB 7 0 (.fa 1 u4), oB 8 1 (.ld u0), oB 9 2 (.bin .gtr u0 (kJ 3)), o 10 (.pick u3 kU u0)])
(.ret [.mv u0])))
theorem fg90 : FGood Tryz.prog T 90 (.code 1 c90) := ⟨Tryz.call90, Tryz.f90, c90, Tryz.func90, by kernel_rfl⟩
def c91 : BC := (.seq (.reg [o 1 (.box 212 u0), o 2 (.mv kF)])
(.seq (.reg [o 9 (.mkm)])
(.seq (.reg [o 10 (.fa 0 u2), o 11 (.ld u0), o 12 (.call 14 [u0])])
(.seq (.seq (.reg [o 5 (.mv (.k (.i .i64 (-1))))])
(.block 0 [1, 3, 4] (.pre [1, 3, 4, 5] [6, 4, 1, 0] (.loop (.post (.seq (.seq (.reg [o 14 (.fa 2 u0), o 15 (.ld u0), o 16 (.len false u0), o 17 (.bin .lss u6 u0)])
(.cond u0
 .skip
(.pre [1, 3, 4] [4, 5, 6] (.exit 0))))
(.seq (.block 1 [1, 3, 4, 5] (.post (.seq (.reg [o 20 (.fa 1 u4), o 21 (.ld u0)])
(.seq (.seq (.reg [o 23 (.bin .geq u9 (kJ 0))])
(.cond u0
(.post (.reg [o 24 (.fa 2 u7), o 25 (.ld u0), o 27 (.ia 5 u0 u12), o 28 (.fa 0 u0), o 29 (.ld u0)]) [1, 3, 4, 5, 6] [12, 13, 14, 15, 0])
(.post .skip [1, 3, 4, 5, 6] [7, 8, 9, 10, 1])))
(.seq (.reg [oA 32 2 (.mv u4), oA 33 3 (.call 14 [u0]), o 34 (.pick u4 u0 kF), oA 36 0 (.mv u7), oA 37 1 (.bin .neq u0 (.k (.s [39, 77, 65, 82, 75, 69, 82, 39]))), o 38 (.pick u2 u0 kF), oA 40 0 (.mv u7), oA 41 1 (.mv u11), oA 42 2 (.lk 1 (.b false) false u1 u0), oA 43 3 (.un .not u0), o 44 (.pick u4 u0 kF)])
(.reg [oC (.mup 1 u12 u15 kU)])))) [1, 3, 4, 5] [11, 12, 0, 14]))
(.reg [o 19 (.bin .add u3 (kJ 1))]))) [1, 3, 4, 5] [1, 2, 3, 0])))))
(.seq (.reg [oC (.clrm u1)])
(.seq (.seq (.reg [o 48 (.fa 3 u0), o 49 (.ld u0), o 50 (.len false u0), o 51 (.mv (kJ 0))])
(.block 2 [4] (.pre [3, 4, 49, 50, 51] [5, 6, 2, 1, 0] (.loop (.post (.seq (.reg [o 52 (.bin .lss u4 u3)])
(.seq (.cond u0
 .skip
(.pre [4] [2] (.exit 2)))
(.seq (.block 3 [3, 4, 49, 50, 51] (.post (.seq (.reg [o 53 (.ia 5 u3 u5), o 54 (.ldn 5 u0), o 8 (.alloc 200 [(.s []), (.s []), (.s []), (.s []), (.b false)]), oC (.stn 5 u0 u1)])
(.seq (.post (.reg [oA 57 5 (.fa 0 u0), oA 58 6 (.ld u0), oA 59 7 (.call 14 [u0]), o 60 (.pick u8 u0 kF), oA 62 0 (.fa 0 u4), oA 63 1 (.ld u0), oA 64 2 (.bin .neq u0 (.k (.s [82, 72, 83]))), o 65 (.pick u3 u0 kF), oA 67 0 (.mv u12), oA 68 1 (.fa 0 u9), oA 69 2 (.ld u0), oA 70 3 (.lk 1 (.b false) false u2 u0), oA 71 4 (.un .not u0), o 72 (.pick u5 u0 kF)]) [3, 4, 8, 49, 50, 51] [18, 0, 14, 20, 21, 22])
(.reg [o 74 (.fa 0 u2), o 75 (.ld u0), oC (.mup 1 u2 u0 kU)]))) [3, 4, 49, 50, 51] [2, 3, 5, 6, 7]))
(.reg [o 76 (.bin .add u4 (kJ 1))])))) [3, 4, 49, 50, 51] [1, 2, 3, 4, 0])))))
(.seq (.reg [])
(.ret [.mv u0]))))))))
theorem fg91 : FGood Tryz.prog T 91 (.code 1 c91) := ⟨Tryz.call91, Tryz.f91, c91, Tryz.func91, by kernel_rfl⟩
def c92 : BC := (.seq (.reg [o 4 (.mv kF)])
(.seq (.reg [o 7 (.call 76 [u1, u2]), o 8 (.bin .geq u0 (kJ 0))])
(.ret [.mv u0])))
theorem fg92 : FGood Tryz.prog T 92 (.code 2 c92) := ⟨Tryz.call92, Tryz.f92, c92, Tryz.func92, by kernel_rfl⟩
def c93 : BC := (.seq (.reg [o 4 (.mv kF)])
(.seq (.reg [o 7 (.call 78 [u1, u2]), o 8 (.bin .geq u0 (kJ 0))])
(.ret [.mv u0])))
theorem fg93 : FGood Tryz.prog T 93 (.code 2 c93) := ⟨Tryz.call93, Tryz.f93, c93, Tryz.func93, by kernel_rfl⟩
def c94 : BC := (.seq (.reg [o 1 (.box 348 u0), o 2 (.mv kF)])
(.seq (.post (.reg [o 3 (.fa 1 u1), o 4 (.ld u0), o 5 (.len false u0), o 6 (.bin .gtr u0 (kJ 64)), oB 8 0 (.fa 1 u5), oB 9 1 (.ld u0), oB 10 2 (.call 95 [u0, (.k (.f 96 [] []))]), o 11 (.pick u3 kU u0)]) [2] [0])
(.ret [.mv u0])))
theorem fg94 : FGood Tryz.prog T 94 (.code 1 c94) := ⟨Tryz.call94, Tryz.f94, c94, Tryz.func94, by kernel_rfl⟩
def c95 : BC := (.seq (.reg [o 4 (.mv kF)])
(.seq (.reg [o 7 (.call 165 [u1, u2]), o 8 (.bin .geq u0 (kJ 0))])
(.ret [.mv u0])))
theorem fg95 : FGood Tryz.prog T 95 (.code 2 c95) := ⟨Tryz.call95, Tryz.f95, c95, Tryz.func95, by kernel_rfl⟩
def c96 : BC := (.seq (.reg [o 1 (.box 376 u0), o 2 (.mv kF)])
(.seq (.reg [o 3 (.fa 1 u1), o 4 (.ld u0), o 5 (.len false u0), o 6 (.bin .gtr u0 (kJ 40))])
(.ret [.mv u0])))
theorem fg96 : FGood Tryz.prog T 96 (.code 1 c96) := ⟨Tryz.call96, Tryz.f96, c96, Tryz.func96, by kernel_rfl⟩
def c97 : BC := (.seq (.reg [o 1 (.box 336 u0), o 2 (.mv kF)])
(.seq (.reg [o 7 (.mkm), o 8 (.mkm)])
(.seq (.seq (.reg [o 9 (.fa 1 u3), o 10 (.ld u0), o 11 (.len false u0), o 12 (.mv (kJ 0))])
(.block 0 [1] (.pre [1, 3, 4, 10, 11, 12] [7, 5, 4, 2, 1, 0] (.loop (.post (.seq (.reg [o 13 (.bin .lss u5 u4)])
(.seq (.cond u0
 .skip
(.pre [1] [1] (.exit 0)))
(.seq (.block 1 [1, 3, 4, 10, 11, 12] (.seq (.reg [o 14 (.ia 2 u4 u6), o 15 (.ldn 2 u0), o 6 (.alloc 348 [(.s []), .sn]), oC (.stn 2 u0 u1)])
(.seq (.seq (.reg [o 16 (.fa 1 u0), o 17 (.ld u0), o 18 (.call 95 [u0, (.k (.f 166 [] []))])])
(.cond u0
(.seq (.post (.reg [o 2 (.mv kF)]) [2] [0])
(.ret [.mv u0]))
 .skip))
(.seq (.reg [o 19 (.fa 0 u7), o 20 (.ld u0)])
(.block 2 [1, 3, 4, 10, 11, 12] (.seq (.reg [o 22 (.bin .eql u0 (kJ 1))])
(.cond u0
(.post (.seq (.seq (.post (.reg [o 23 (.ldn 2 u6), o 24 (.call 168 [u0]), o 25 (.un .not u0), oB 27 0 (.mv u15), oB 28 1 (.fa 1 u10), oB 29 2 (.ld u0), oB 30 3 (.ia 2 u0 (kJ 0)), oB 31 4 (.fa 1 u0), oB 32 5 (.ld u0), oB 33 6 (.ia 3 u0 (kJ 0)), oB 34 7 (.fa 0 u0), oB 35 8 (.ldn 2 u0), oB 36 9 (.lk 13 (.b false) false u8 u0), o 37 (.pick u10 kU u0)]) [1, 3, 4, 6, 10, 11, 12, 37] [24, 25, 26, 20, 27, 28, 29, 0])
(.cond u7
(.seq (.reg [o 2 (.mv kF)])
(.ret [.mv u0]))
 .skip))
(.reg [o 39 (.fa 1 u3), o 40 (.ld u0), o 41 (.ia 2 u0 (kJ 0)), o 42 (.fa 1 u0), o 43 (.ld u0), o 44 (.ia 3 u0 (kJ 0)), o 45 (.fa 0 u0), o 46 (.ldn 2 u0), oC (.mup 13 u10 u0 kU)])) [1, 3, 4, 10, 11, 12] [8, 9, 10, 12, 13, 14])
(.seq (.reg [o 48 (.bin .eql u1 (kJ 2))])
(.cond u0
(.post (.seq (.seq (.post (.reg [o 49 (.fa 1 u7), o 50 (.ld u0), o 51 (.len false u0), o 52 (.bin .eql u0 (kJ 0)), oB 54 0 (.fa 0 u11), oB 55 1 (.ld u0), oB 56 2 (.call 14 [u0]), oB 57 3 (.un .not u0), o 58 (.pick u4 kU u0), oB 60 0 (.mv u21), oB 61 1 (.fa 0 u17), oB 62 2 (.ld u0), oB 63 3 (.lk 1 (.b false) false u2 u0), o 64 (.pick u4 kU u0)]) [1, 3, 4, 6, 10, 11, 12, 64] [25, 26, 27, 21, 28, 29, 30, 0])
(.cond u7
(.seq (.reg [o 2 (.mv kF)])
(.ret [.mv u0]))
 .skip))
(.reg [o 66 (.fa 0 u3), o 67 (.ld u0), oC (.mup 1 u3 u0 kU)])) [1, 3, 4, 10, 11, 12] [2, 3, 4, 6, 7, 8])
(.post .skip [1, 3, 4, 10, 11, 12] [11, 12, 13, 14, 15, 16]))))))))))
(.reg [o 68 (.bin .add u5 (kJ 1))])))) [1, 3, 4, 10, 11, 12] [1, 2, 3, 4, 5, 0])))))
(.seq (.post (.reg [o 69 (.fa 0 u0), o 70 (.ld u0), o 71 (.bin .neq u0 (kJ 3)), oB 73 0 (.fa 1 u3), oB 74 1 (.ld u0), oB 75 2 (.len false u0), oB 76 3 (.bin .eql u0 (kJ 1)), oB 77 4 (.mv u0), oA 78 0 (.fa 1 u8), oA 79 1 (.ld u0), oA 80 2 (.ia 2 u0 (kJ 0)), oA 81 3 (.fa 0 u0), oA 82 4 (.ld u0), oA 83 5 (.bin .eql u0 (.k (.s [82, 79, 79, 84]))), oB 84 11 (.pick u6 u0 kF), o 85 (.pick u12 kU u0)]) [2] [0])
(.ret [.mv u0])))))
theorem fg97 : FGood Tryz.prog T 97 (.code 1 c97) := ⟨Tryz.call97, Tryz.f97, c97, Tryz.func97, by kernel_rfl⟩
def c98 : BC := (.seq (.reg [o 4 (.mv kF)])
(.seq (.reg [o 7 (.call 169 [u1, u2]), o 8 (.bin .geq u0 (kJ 0))])
(.ret [.mv u0])))
theorem fg98 : FGood Tryz.prog T 98 (.code 2 c98) := ⟨Tryz.call98, Tryz.f98, c98, Tryz.func98, by kernel_rfl⟩
def c99 : BC := (.seq (.reg [o 1 (.box 348 u0), o 2 (.mv kF)])
(.seq (.reg [o 3 (.ldn 2 u1), o 4 (.call 100 [u0]), o 5 (.un .not u0)])
(.ret [.mv u0])))
theorem fg99 : FGood Tryz.prog T 99 (.code 1 c99) := ⟨Tryz.call99, Tryz.f99, c99, Tryz.func99, by kernel_rfl⟩
def c100 : BC := (.seq (.reg [o 1 (.box 348 u0), o 2 (.mv kF)])
(.seq (.reg [o 8 (.call 156 [(kJ 0)])])
(.seq (.seq (.reg [o 9 (.fa 1 u2), o 10 (.ld u0), o 11 (.len false u0), o 12 (.mv (kJ 0))])
(.block 0 [3] (.pre [3, 10, 11, 12] [4, 2, 1, 0] (.loop (.post (.seq (.reg [o 13 (.bin .lss u3 u2)])
(.seq (.cond u0
 .skip
(.pre [3] [1] (.exit 0)))
(.seq (.block 1 [3, 10, 11, 12] (.post (.seq (.reg [o 14 (.ia 2 u2 u4), o 15 (.ldn 2 u0), o 5 (.alloc 376 [(.s []), .sn]), oC (.stn 2 u0 u1)])
(.seq (.reg [o 17 (.fa 0 u0), o 18 (.ld u0), o 19 (.call 131 [u0]), o 20 (.ext 0 u0), o 21 (.ext 1 u1)])
(.reg [o 24 (.call 120 [u9, u1])]))) [3, 10, 11, 12] [0, 11, 12, 13]))
(.reg [o 25 (.bin .add u3 (kJ 1))])))) [3, 10, 11, 12] [1, 2, 3, 0])))))
(.seq (.reg [o 27 (.call 156 [(kJ 1)]), o 28 (.call 170 [u1, u0]), o 29 (.bin .eql u0 (kJ 0))])
(.ret [.mv u0])))))
theorem fg100 : FGood Tryz.prog T 100 (.code 1 c100) := ⟨Tryz.call100, Tryz.f100, c100, Tryz.func100, by kernel_rfl⟩
def c101 : BC := (.seq (.reg [o 2 (.box 212 u0), o 3 (.box 40 u2), o 4 (.mv (kJ 0))])
(.seq (.reg [o 5 (.fa 3 u2), o 6 (.ld u0), o 7 (.mkf 171 [] [u3]), o 8 (.call 78 [u1, u0])])
(.ret [.mv u0])))
theorem fg101 : FGood Tryz.prog T 101 (.code 2 c101) := ⟨Tryz.call101, Tryz.f101, c101, Tryz.func101, by kernel_rfl⟩
def c102 : BC := (.seq (.reg [o 2 (.box 212 u0), o 3 (.box 40 u2), o 4 (.mv (kJ 0))])
(.seq (.seq (.reg [o 6 (.ld u1), o 7 (.fa 1 u3), o 8 (.ld u0), o 9 (.bin .eql u2 u0)])
(.cond u0
(.seq (.reg [o 4 (.mv (kJ 0))])
(.ret [.mv u0]))
 .skip))
(.seq (.post (.reg [o 10 (.fa 2 u6), o 11 (.ld u0), o 12 (.mkf 172 [] [u7]), o 13 (.call 76 [u1, u0])]) [5] [0])
(.seq (.seq (.reg [o 15 (.bin .lss u0 (kJ 0))])
(.cond u0
(.seq (.reg [])
(.ret [.mv u1]))
 .skip))
(.seq (.reg [o 18 (.bin .add u1 (kJ 1))])
(.ret [.mv u0]))))))
theorem fg102 : FGood Tryz.prog T 102 (.code 2 c102) := ⟨Tryz.call102, Tryz.f102, c102, Tryz.func102, by kernel_rfl⟩
def c103 : BC := (.seq (.reg [o 4 (.mv (.k (.s []))), o 5 (.mv (.k (.s []))), o 6 (.mv kF)])
(.seq (.seq (.reg [o 10 (.call 173 [u3, u4])])
(.seq (.reg [o 12 (.bin .geq u0 (kJ 0))])
(.cond u0
(.seq (.reg [o 15 (.sls u5 none (some u1)), o 19 (.len true u7), o 20 (.bin .add u3 u0), o 21 (.sls u8 (some u0) none), o 6 (.mv kU)])
(.ret [.mv u4, .mv u1, .mv u0]))
 .skip)))
(.seq (.reg [o 5 (.mv (.k (.s []))), o 6 (.mv kF)])
(.ret [.mv u7, .mv u1, .mv u0]))))
theorem fg103 : FGood Tryz.prog T 103 (.code 2 c103) := ⟨Tryz.call103, Tryz.f103, c103, Tryz.func103, by kernel_rfl⟩
def c104 : BC := (.seq (.reg [o 4 (.mv (.k (.s [])))])
(.seq (.reg [o 7 (.call 174 [u1, u2])])
(.ret [.mv u0])))
theorem fg104 : FGood Tryz.prog T 104 (.code 2 c104) := ⟨Tryz.call104, Tryz.f104, c104, Tryz.func104, by kernel_rfl⟩
def c105 : BC := (.seq (.reg [o 2 (.mv kF)])
(.seq (.reg [o 4 (.bin .gtr u1 (.k (.i .u8 126))), oB 6 0 (.mv u2), oB 7 1 (.bin .lss u0 (.k (.i .u8 32))), oB 8 2 (.mv u0), oA 9 0 (.mv u5), oA 10 1 (.bin .neq u0 (.k (.i .u8 9))), oB 11 5 (.pick u2 u0 kF), o 12 (.pick u6 kU u0)])
(.ret [.mv u0])))
theorem fg105 : FGood Tryz.prog T 105 (.code 1 c105) := ⟨Tryz.call105, Tryz.f105, c105, Tryz.func105, by kernel_rfl⟩
def c106 : BC := (.seq (.reg [o 4 (.mv (kJ 0))])
(.seq (.seq (.reg [o 7 (.len false u1), o 8 (.mv (kJ 0))])
(.block 0 [] (.pre [0, 1, 7, 8] [3, 4, 1, 0] (.loop (.post (.seq (.reg [o 9 (.bin .lss u3 u2)])
(.seq (.cond u0
 .skip
(.pre [] [] (.exit 0)))
(.seq (.block 1 [0, 1, 7, 8] (.post (.seq (.reg [])
(.seq (.reg [o 14 (.ia 1 u1 u4), o 15 (.ld u0), o 16 (.callv u4 [u0])])
(.cond u0
(.seq (.reg [])
(.ret [.mv u7]))
 .skip))) [0, 1, 7, 8] [4, 5, 6, 7]))
(.reg [o 18 (.bin .add u3 (kJ 1))])))) [0, 1, 7, 8] [1, 2, 3, 0])))))
(.seq (.reg [o 4 (.mv (.k (.i .i64 (-1))))])
(.ret [.mv u0]))))
theorem fg106 : FGood Tryz.prog T 106 (.code 2 c106) := ⟨Tryz.call106, Tryz.f106, c106, Tryz.func106, by kernel_rfl⟩
def c107 : BC := (.seq (.reg [o 2 (.box 200 u0), o 3 (.mv kF)])
(.seq (.post (.reg [o 4 (.fa 0 u1), o 5 (.ld u0), o 6 (.ld u5), o 7 (.ia 3 u0 (kJ 1)), o 8 (.fa 0 u0), o 9 (.ld u0), o 10 (.bin .eql u4 u0)]) [3] [0])
(.ret [.mv u0])))
theorem fg107 : FGood Tryz.prog T 107 (.code 2 c107) := ⟨Tryz.call107, Tryz.f107, c107, Tryz.func107, by kernel_rfl⟩
def c108 : BC := (.seq (.reg [o 2 (.box 188 u0), o 3 (.mv kF)])
(.seq (.post (.reg [o 4 (.fa 0 u1), o 5 (.ld u0), o 6 (.ld u5), o 7 (.ia 3 u0 (kJ 1)), o 8 (.fa 1 u0), o 9 (.ld u0), o 10 (.bin .eql u4 u0)]) [3] [0])
(.ret [.mv u0])))
theorem fg108 : FGood Tryz.prog T 108 (.code 2 c108) := ⟨Tryz.call108, Tryz.f108, c108, Tryz.func108, by kernel_rfl⟩
def c109 : BC := (.seq (.reg [o 2 (.box 188 u0), o 3 (.mv kF)])
(.seq (.reg [o 4 (.fa 2 u1), o 5 (.ld u0), o 6 (.mkf 111 [] [u5]), o 7 (.call 110 [u1, u0])])
(.ret [.mv u0])))
theorem fg109 : FGood Tryz.prog T 109 (.code 2 c109) := ⟨Tryz.call109, Tryz.f109, c109, Tryz.func109, by kernel_rfl⟩
def c110 : BC := (.seq (.reg [o 4 (.mv kF)])
(.seq (.reg [o 7 (.call 175 [u1, u2]), o 8 (.bin .geq u0 (kJ 0))])
(.ret [.mv u0])))
theorem fg110 : FGood Tryz.prog T 110 (.code 2 c110) := ⟨Tryz.call110, Tryz.f110, c110, Tryz.func110, by kernel_rfl⟩
def c111 : BC := (.seq (.reg [o 2 (.box 172 u0), o 3 (.mv kF)])
(.seq (.reg [o 4 (.fa 0 u1), o 5 (.ld u0), o 6 (.ld u5), o 7 (.bin .geq u1 u0)])
(.ret [.mv u0])))
theorem fg111 : FGood Tryz.prog T 111 (.code 2 c111) := ⟨Tryz.call111, Tryz.f111, c111, Tryz.func111, by kernel_rfl⟩
def c112 : BC := (.seq (.reg [o 1 (.box 200 u0), o 2 (.mv kF)])
(.seq (.reg [o 3 (.fa 4 u1), o 4 (.ld u0)])
(.ret [.mv u0])))
theorem fg112 : FGood Tryz.prog T 112 (.code 1 c112) := ⟨Tryz.call112, Tryz.f112, c112, Tryz.func112, by kernel_rfl⟩
def c113 : BC := (.seq (.reg [o 1 (.box 200 u0), o 2 (.mv kF)])
(.seq (.reg [o 3 (.fa 1 u1), o 4 (.ld u0), o 5 (.bin .eql u0 (.k (.s []))), oB 7 0 (.fa 2 u4), oB 8 1 (.ld u0), oB 9 2 (.bin .eql u0 (.k (.s []))), o 10 (.pick u3 kU u0)])
(.ret [.mv u0])))
theorem fg113 : FGood Tryz.prog T 113 (.code 1 c113) := ⟨Tryz.call113, Tryz.f113, c113, Tryz.func113, by kernel_rfl⟩
def c114 : BC := (.seq (.reg [o 1 (.box 200 u0), o 2 (.mv kF)])
(.seq (.post (.reg [o 3 (.fa 1 u1), o 4 (.ld u0), o 5 (.bin .neq u0 (.k (.s []))), oA 7 0 (.fa 2 u4), oA 8 1 (.ld u0), oA 9 2 (.bin .neq u0 (.k (.s []))), o 10 (.pick u3 u0 kF), oA 12 0 (.fa 1 u8), oA 13 1 (.ld u0), oA 15 2 (.fa 2 u10), oA 16 3 (.ld u0), oA 14 4 (.call 115 [u2]), .chk ⟨(some 1), (some (5, true)), .ld u2⟩, oA 17 5 (.call 115 [u1]), oA 18 6 (.call 170 [u1, u0]), oA 19 7 (.bin .gtr u0 (kJ 0)), o 20 (.pick u8 u0 kF)]) [2] [0])
(.ret [.mv u0])))
theorem fg114 : FGood Tryz.prog T 114 (.code 1 c114) := ⟨Tryz.call114, Tryz.f114, c114, Tryz.func114, by kernel_rfl⟩
def c115 : BC := (.seq (.reg [o 2 (.mv (.k .pn))])
(.seq (.reg [o 7 (.call 131 [u1]), o 8 (.ext 0 u0), o 9 (.ext 1 u1)])
(.seq (.reg [])
(.ret [.mv u1]))))
theorem fg115 : FGood Tryz.prog T 115 (.code 1 c115) := ⟨Tryz.call115, Tryz.f115, c115, Tryz.func115, by kernel_rfl⟩
def c116 : BC := (.seq (.reg [o 2 (.mv (kJ 0))])
(.seq (.reg [o 8 (.call 176 [u1]), o 9 (.ext 0 u0), o 10 (.ext 1 u1), o 11 (.ext 2 u2)])
(.seq (.block 0 [] (.post (.seq (.reg [])
(.cond u2
(.seq (.reg [o 2 (.mv (.k (.i .i64 (-1))))])
(.ret [.mv u0]))
(.seq (.reg [o 16 (.call 177 [u1])])
(.cond u0
(.seq (.reg [o 2 (.mv (kJ 0))])
(.ret [.mv u0]))
 .skip)))) [] []))
(.seq (.reg [o 2 (.mv (kJ 1))])
(.ret [.mv u0])))))
theorem fg116 : FGood Tryz.prog T 116 (.code 1 c116) := ⟨Tryz.call116, Tryz.f116, c116, Tryz.func116, by kernel_rfl⟩
def c117 : BC := (.seq (.reg [o 2 (.mv (.k .pn))])
(.seq (.reg [o 8 (.call 176 [u1]), o 9 (.ext 0 u0), o 10 (.ext 1 u1), o 11 (.ext 2 u2)])
(.seq (.post (.reg [o 13 (.un .not u2), oA 15 0 (.mv u2), oA 16 1 (.call 177 [u0]), oA 17 2 (.un .not u0), o 18 (.pick u3 u0 kF), o 21 (.build [(.b false), .pn, .pn] [(0, 1, u0), (1, 1, u6), (2, 1, u5)]), o 22 (.box 1008 u0)]) [2] [0])
(.ret [.mv u0]))))
theorem fg117 : FGood Tryz.prog T 117 (.code 1 c117) := ⟨Tryz.call117, Tryz.f117, c117, Tryz.func117, by kernel_rfl⟩
def c118 : BC := (.seq (.reg [o 4 (.mv (.k .pn))])
(.seq (.reg [o 7 (.call 117 [u2]), o 8 (.call 120 [u2, u0])])
(.ret [.mv u0])))
theorem fg118 : FGood Tryz.prog T 118 (.code 2 c118) := ⟨Tryz.call118, Tryz.f118, c118, Tryz.func118, by kernel_rfl⟩
def c119 : BC := (.seq (.reg [o 2 (.mv (.k (.s [])))])
(.seq (.reg [o 10 (.call 176 [u1]), o 11 (.ext 0 u0), o 12 (.ext 1 u1), o 13 (.ext 2 u2)])
(.seq (.reg [o 15 (.call 159 [u1])])
(.seq (.seq (.reg [])
(.cond u3
(.post (.reg [o 18 (.bin .add (.k (.s [45])) u0)]) [5, 6] [2, 0])
(.post .skip [5, 6] [1, 0])))
(.seq (.seq (.reg [o 20 (.call 159 [u0])])
(.seq (.reg [o 22 (.bin .neq u0 (.k (.s [49])))])
(.cond u0
(.post (.reg [o 25 (.bin .add (.k (.s [47])) u1), o 26 (.bin .add u4 u0)]) [6] [0])
(.post .skip [6] [3]))))
(.seq (.reg [])
(.ret [.mv u0])))))))
theorem fg119 : FGood Tryz.prog T 119 (.code 1 c119) := ⟨Tryz.call119, Tryz.f119, c119, Tryz.func119, by kernel_rfl⟩
def c120 : BC := (.seq (.reg [o 4 (.mv (.k .pn))])
(.seq (.reg [o 17 (.call 176 [u1]), o 18 (.ext 0 u0), o 19 (.ext 1 u1), o 20 (.ext 2 u2)])
(.seq (.reg [o 23 (.call 176 [u6]), o 24 (.ext 0 u0), o 25 (.ext 1 u1), o 26 (.ext 2 u2)])
(.seq (.seq (.reg [o 28 (.call 177 [u5])])
(.cond u0
(.seq (.post (.reg [o 32 (.call 178 [u3, u2, u1])]) [4] [0])
(.ret [.mv u0]))
 .skip))
(.seq (.seq (.reg [o 35 (.call 179 [u5, u1]), o 36 (.bin .eql u0 (kJ 0))])
(.cond u0
(.seq (.post (.reg [o 42 (.call 180 [u9, u8, u5, u4]), o 43 (.ext 0 u0), o 44 (.ext 1 u1)]) [7, 11, 12] [10, 1, 0])
(.seq (.reg [o 48 (.call 178 [u1, u2, u0])])
(.ret [.mv u0])))
 .skip))
(.seq (.post (.reg [o 53 (.call 181 [u8, u3]), o 57 (.call 181 [u5, u8]), o 58 (.call 180 [u11, u1, u7, u0]), o 59 (.ext 0 u0), o 60 (.ext 1 u1)]) [7, 10, 13, 14] [12, 8, 1, 0])
(.seq (.reg [o 65 (.call 181 [u0, u1]), o 66 (.call 178 [u3, u4, u0])])
(.ret [.mv u0]))))))))
theorem fg120 : FGood Tryz.prog T 120 (.code 2 c120) := ⟨Tryz.call120, Tryz.f120, c120, Tryz.func120, by kernel_rfl⟩
def c121 : BC := (.seq (.reg [o 2 (.mv (.k .sn))])
(.seq (.seq (.reg [o 4 (.eq 2 false u1 (.k .sn))])
(.cond u0
(.seq (.reg [o 2 (.mv (.k .sn))])
(.ret [.mv u0]))
 .skip))
(.seq (.reg [o 5 (.bsl 0 2 [(.i .i64 0), (.s [])] []), o 7 (.app 172 2 24 u0 u3)])
(.ret [.mv u0]))))
theorem fg121 : FGood Tryz.prog T 121 (.code 1 c121) := ⟨Tryz.call121, Tryz.f121, c121, Tryz.func121, by kernel_rfl⟩
def c122 : BC := (.seq (.reg [o 2 (.mv (.k .sn))])
(.seq (.reg [o 5 (.len false u1)])
(.seq (.block 0 [0, 3] (.pre [0, 3] [2, 0] (.loop (.seq (.seq (.reg [o 7 (.bin .gtr u1 (kJ 0)), oA 9 0 (.mv u1), oA 10 1 (.mv u3), oA 11 2 (.bin .sub u0 (kJ 1)), oA 12 3 (.ia 1 u2 u0), oA 13 4 (.ld u0), oA 14 5 (.bin .eql u0 (kJ 0)), o 15 (.pick u6 u0 kF)])
(.cond u0
 .skip
(.pre [0, 3] [8, 9] (.exit 0))))
(.block 1 [0, 3] (.post (.reg [o 17 (.bin .sub u9 (kJ 1))]) [0, 3] [9, 0]))))))
(.seq (.reg [o 20 (.slv 1 u0 none (some u1))])
(.ret [.mv u0])))))
theorem fg122 : FGood Tryz.prog T 122 (.code 1 c122) := ⟨Tryz.call122, Tryz.f122, c122, Tryz.func122, by kernel_rfl⟩
def c123 : BC := (.seq (.reg [o 4 (.mv (.k .sn)), o 5 (.mv (.k .sn))])
(.seq (.reg [o 13 (.len false u2), o 14 (.mks 1 8 [(.i .i64 0)] u0 u0)])
(.seq (.reg [o 7 (.mv (.k .sn))])
(.seq (.seq (.reg [o 16 (.len false u5), o 17 (.bin .sub u0 (kJ 1))])
(.block 0 [6, 7] (.pre [0, 1, 6, 7, 8] [7, 8, 3, 2, 0] (.loop (.post (.seq (.seq (.reg [o 19 (.bin .geq u4 (kJ 0))])
(.cond u0
 .skip
(.pre [6, 7] [3, 4] (.exit 0))))
(.seq (.block 1 [0, 1, 6, 7, 8] (.post (.seq (.reg [o 24 (.ia 1 u1 u5), o 25 (.ld u0), o 26 (.bsl 1 1 [(.i .i64 0)] [(0, 1, u0)]), o 28 (.app 16 1 8 u0 u7), o 29 (.call 122 [u0])])
(.seq (.seq (.reg [o 32 (.call 54 [u0, u7]), o 33 (.bin .lss u0 (kJ 0))])
(.cond u0
(.pre [0, 1, 6, 7, 8] [8, 9, 10, 2, 12] (.exit 1))
 .skip))
(.seq (.reg [o 9 (.mv (kJ 1)), o 10 (.mv (kJ 10000))])
(.seq (.block 2 [0, 1, 6, 7, 8, 9] (.pre [0, 1, 6, 7, 8, 9, 10] [10, 11, 12, 4, 14, 1, 0] (.loop (.seq (.seq (.reg [o 36 (.bin .sub u6 u5), o 37 (.bin .gtr u0 (kJ 1))])
(.cond u0
 .skip
(.pre [0, 1, 6, 7, 8, 9] [2, 3, 4, 5, 6, 7] (.exit 2))))
(.block 3 [0, 1, 6, 7, 8, 9, 10] (.seq (.reg [o 40 (.bin .add u7 u8), o 41 (.bin .quo u0 (kJ 2))])
(.seq (.reg [o 44 (.bsl 1 1 [(.i .i64 0)] [(0, 1, u0)]), o 45 (.call 66 [u6, u0]), o 47 (.call 54 [u0, u9]), o 48 (.bin .leq u0 (kJ 0))])
(.cond u0
(.post (.reg []) [0, 1, 6, 7, 8, 9, 10] [8, 9, 10, 11, 12, 4, 14])
(.post (.reg []) [0, 1, 6, 7, 8, 9, 10] [8, 9, 10, 11, 12, 13, 4])))))))))
(.seq (.reg [o 54 (.ia 1 u2 u4), oC (.st u0 u6)])
(.reg [o 58 (.bsl 1 1 [(.i .i64 0)] [(0, 1, u6)]), o 59 (.call 66 [u3, u0]), o 60 (.call 68 [u6, u0])])))))) [0, 1, 6, 7, 8] [4, 5, 6, 0, 8]))
(.reg [o 21 (.bin .sub u4 (kJ 1))]))) [0, 1, 6, 7, 8] [1, 2, 3, 4, 0])))))
(.seq (.reg [o 62 (.call 122 [u0])])
(.ret [.mv u0, .mv u2]))))))
theorem fg123 : FGood Tryz.prog T 123 (.code 2 c123) := ⟨Tryz.call123, Tryz.f123, c123, Tryz.func123, by kernel_rfl⟩
def h124 : BC := (.seq (.reg [o 5 (.call 183 []), o 7 (.call 184 [u1]), o 8 (.call 182 [u1, u0])])
(.seq (.reg [o 10 (.nck u3), o 11 (.fa 4 u0), o 12 (.ld u0), o 13 (.bin .eql u0 (kJ 4)), oB 15 0 (.mv u7), oB 16 1 (.nck u0), oB 17 2 (.fa 4 u0), oB 18 3 (.ld u0), oB 19 4 (.bin .eql u0 (kJ 5)), o 20 (.pick u5 kU u0)])
(.seq (.post (.reg [o 23 (.nck u13), o 24 (.fa 4 u0), o 25 (.ld u0), o 26 (.bin .add u0 (kJ 1)), o 27 (.bin .eql u14 u0), oB 29 0 (.mv u15), oB 30 1 (.bin .eql u0 (kJ 6)), oB 31 2 (.mv u0), oA 32 0 (.mv u8), oB 33 4 (.pick u1 u0 kF), o 34 (.pick u5 kU u0), oB 36 0 (.mv u21), oB 37 1 (.bin .eql u0 (kJ 7)), oB 38 2 (.mv u0), oA 39 0 (.mv u14), oA 40 1 (.mv u0), oB 41 0 (.mv u29), oB 42 1 (.nck u0), oB 43 2 (.fa 4 u0), oB 44 3 (.ld u0), oB 45 4 (.bin .eql u0 (kJ 6)), oA 46 7 (.pick u5 kU u0), oB 47 11 (.pick u8 u0 kF), o 48 (.pick u12 kU u0)]) [0, 2, 4] [37, 34, 0])
(.seq (.reg [o 51 (.un .not u2), oB 53 0 (.mv u2), oB 54 1 (.bin .eql u0 (kJ 0)), o 55 (.pick u2 kU u0), o 56 (.call 129 [u4, u0, (kJ 5)])])
(.seq (.seq (.post (.reg [o 58 (.bin .eql u6 (kJ 1)), oA 60 0 (.mv u6), oA 61 1 (.nck u0), oA 62 2 (.fa 10 u0), oA 63 3 (.ld u0), oA 64 4 (.bin .eql u0 (kJ 0)), o 65 (.pick u5 u0 kF)]) [0, 2, 65] [12, 13, 0])
(.cond u2
(.post (.seq (.reg [o 68 (.call 184 [u0]), o 69 (.nck u1), o 70 (.fa 0 u0), o 71 (.fa 0 u0), oC (.st u0 u3)])
(.seq (.post (.reg [o 74 (.nck u4), o 75 (.fa 9 u0), o 76 (.ld u0), o 77 (.len false u0), o 78 (.bin .gtr u0 (kJ 0)), o 79 (.call 129 [u9, u0, (kJ 1)])]) [0, 2] [10, 11])
(.reg [o 82 (.nck u0), o 83 (.fa 0 u0), o 84 (.fa 0 u0), o 85 (.ld u0), o 86 (.call 14 [u0]), o 87 (.un .not u0), o 88 (.call 129 [u6, u0, (kJ 4)])]))) [0, 2] [7, 8])
(.post .skip [0, 2] [0, 1])))
(.seq (.reg [o 91 (.nck u0), o 92 (.fa 9 u0), o 93 (.ld u0), o 94 (.len false u0), o 95 (.bin .gtr u0 (kJ 0)), o 96 (.call 129 [u5, u0, (kJ 1)])])
(.seq (.post (.reg [o 99 (.bin .eql u7 (kJ 3)), oA 101 0 (.mv u7), oA 102 1 (.nck u0), oA 103 2 (.fa 0 u0), oA 104 3 (.fa 1 u0), oA 105 4 (.ld u0), oA 106 5 (.bin .eql u0 (.k (.s []))), o 107 (.pick u6 u0 kF), o 108 (.call 129 [u14, u0, (kJ 5)])]) [0, 2] [15, 16])
(.seq (.reg [o 111 (.nck u0), o 112 (.fa 4 u0), oC (.st u0 u3)])
(.reg [o 114 (.nck u2), o 115 (.fa 7 u0), o 116 (.ld u0), oC (.clrm u0)])))))))))
def c124 : BC := .seq h124 (.ret [])
theorem fg124 : FGood Tryz.prog T 124 (.code 1 c124) := ⟨Tryz.call124, Tryz.f124, h124, Tryz.func124, by kernel_rfl⟩
def h125 : BC := (.seq (.reg [o 7 (.bsl 1 1 [(.i .i64 0)] [(0, 1, (kJ 2))]), o 8 (.call 185 [u1, u0])])
(.seq (.reg [o 9 (.bsl 4 1 [(.s [])] [(0, 1, (.k (.s [78]))), (1, 1, (.k (.s [76]))), (2, 1, (.k (.s [69]))), (3, 1, (.k (.s [71])))]), o 11 (.call 184 [u3]), o 12 (.call 182 [u1, u0])])
(.seq (.reg [o 15 (.bin .lss u0 (kJ 0)), o 16 (.call 129 [u6, u0, (kJ 1)])])
(.seq (.post (.reg [o 19 (.bin .eql u2 (kJ 0)), oA 21 0 (.mv u8), oA 22 1 (.nck u0), oA 23 2 (.fa 0 u0), oA 24 3 (.fa 1 u0), oA 25 4 (.ld u0), oA 26 5 (.bin .neq u0 (.k (.s []))), o 27 (.pick u6 u0 kF), o 28 (.call 129 [u15, u0, (kJ 7)])]) [0, 2] [16, 11])
(.seq (.reg [o 30 (.call 184 [u0])])
(.seq (.reg [o 33 (.nck u1), o 34 (.fa 5 u0), o 35 (.ld u0), o 37 (.lk 1 (.i .i64 0) true u0 u3), o 38 (.ext 0 u0), o 39 (.ext 1 u1)])
(.seq (.post (.reg [o 42 (.call 14 [u6]), o 43 (.un .not u0), oB 45 0 (.mv u8), oB 46 1 (.bin .eql u0 (.k (.s [39, 77, 65, 82, 75, 69, 82, 39]))), o 47 (.pick u2 kU u0), oB 49 0 (.mv u5), o 50 (.pick u1 kU u0), o 51 (.call 129 [u14, u0, (kJ 4)])]) [0, 2, 3] [15, 16, 14])
(.seq (.reg [o 54 (.bin .gtr u1 (kJ 0)), oA 56 0 (.mv u1), oA 57 1 (.nck u0), oA 58 2 (.fa 0 u0), oA 59 3 (.fa 2 u0), oA 60 4 (.ld u0), oA 61 5 (.len false u0), oA 62 6 (.bin .geq u0 (kJ 40)), o 63 (.pick u7 u0 kF), o 64 (.call 129 [u9, u0, (kJ 6)])])
(.seq (.seq (.post (.reg [o 66 (.nck u10), o 67 (.fa 10 u0), o 68 (.ld u0), o 69 (.bin .neq u0 (kJ 0))]) [0, 2, 3, 69] [14, 15, 16, 0])
(.cond u3
(.ret [])
 .skip))
(.seq (.seq (.reg [o 71 (.bin .eql u1 (kJ 0))])
(.cond u0
(.seq (.post (.reg [o 74 (.nck u1), o 75 (.fa 5 u0), o 76 (.ld u0), o 79 (.nck u4), o 80 (.fa 0 u0), o 81 (.fa 1 u0), oC (.st u0 u9), o 82 (.mpe 1 (.i .i64 0) u3 u9), o 83 (.ext 1 u0), oC (.mst u5 u0 (.k (.i .i64 (-1))))]) [] [])
(.ret []))
 .skip))
(.seq (.reg [o 85 (.nck u1), o 86 (.fa 5 u0), o 87 (.ld u0), o 90 (.nck u4), o 91 (.fa 0 u0), o 92 (.fa 2 u0), o 93 (.ld u0), o 94 (.len false u0), oC (.mup 1 u5 u11 u0)])
(.post (.reg [o 97 (.nck u9), o 98 (.fa 0 u0), o 99 (.fa 2 u0), o 100 (.ld u0), o 103 (.build [(.s []), (.i .i64 0), .sn, (.s []), (.s [])] [(0, 1, u15), (1, 1, u14), (3, 1, (.k (.s [48])))]), o 104 (.bsl 1 5 [(.s []), (.i .i64 0), .sn, (.s []), (.s [])] [(0, 5, u0)]), o 105 (.app 188 5 80 u2 u0), o 106 (.nck u16), o 107 (.fa 0 u0), o 108 (.fa 2 u0), oC (.st u0 u3)]) [] []))))))))))))
def c125 : BC := .seq h125 (.ret [])
theorem fg125 : FGood Tryz.prog T 125 (.code 1 c125) := ⟨Tryz.call125, Tryz.f125, h125, Tryz.func125, by kernel_rfl⟩
def h126 : BC := (.seq (.reg [o 1 (.box 572 u0)])
(.seq (.reg [o 5 (.ld u0), o 6 (.bsl 2 1 [(.i .i64 0)] [(0, 1, (kJ 3)), (1, 1, (kJ 5))]), o 7 (.call 185 [u1, u0])])
(.seq (.seq (.post (.reg [o 8 (.ld u3), o 9 (.nck u0), o 10 (.fa 9 u0), o 11 (.ld u0), o 12 (.len false u0), o 13 (.bin .eql u0 (kJ 3)), oA 15 0 (.ld u9), oA 16 1 (.nck u0), oA 17 2 (.fa 9 u0), oA 18 3 (.ld u0), oA 19 4 (.ia 1 u0 (kJ 1)), oA 20 5 (.ld u0), oA 21 6 (.bin .eql u0 (.k (.s [39, 77, 65, 82, 75, 69, 82, 39]))), o 22 (.pick u7 u0 kF)]) [1, 22] [17, 0])
(.cond u1
(.seq (.reg [o 23 (.ld u0), o 24 (.call 186 [u0])])
(.ret []))
 .skip))
(.seq (.reg [o 25 (.ld u0), o 26 (.call 184 [u0])])
(.seq (.reg [o 28 (.ld u2), o 29 (.nck u0), o 30 (.fa 6 u0), o 31 (.ld u0), o 33 (.lk 1 (.i .i64 0) true u0 u4), o 34 (.ext 0 u0), o 35 (.ext 1 u1)])
(.seq (.seq (.post (.reg [o 37 (.un .not u0), oB 39 0 (.mv u2), oB 40 1 (.ld u11), oB 41 2 (.nck u0), oB 42 3 (.fa 0 u0), oB 43 4 (.fa 3 u0), oB 44 5 (.ld u0), oB 45 6 (.len false u0), oB 46 7 (.bin .sub u0 (kJ 1)), oB 47 8 (.bin .neq u7 u0), o 48 (.pick u9 kU u0)]) [1, 2, 4, 48] [20, 18, 11, 0])
(.cond u3
(.post (.seq (.post (.reg [o 49 (.ld u0), oB 52 3 (.mv u2), oB 53 4 (.call 14 [u0]), .chk ⟨(some 2), none, .ld u3⟩, oB 54 5 (.un .not u0), o 55 (.pick u6 kU u0), oB 57 0 (.mv u6), oB 58 1 (.bin .eql u0 (.k (.s [82, 72, 83]))), o 59 (.pick u2 kU u0), o 60 (.call 129 [u7, u0, (kJ 4)])]) [1, 2] [9, 10])
(.seq (.reg [o 61 (.ld u0), o 62 (.ld u1), o 63 (.nck u0), o 64 (.fa 0 u0), o 65 (.fa 3 u0), o 66 (.ld u0), o 67 (.len false u0), o 68 (.bin .geq u0 (kJ 40)), o 69 (.call 129 [u7, u0, (kJ 6)])])
(.seq (.seq (.post (.reg [o 70 (.ld u9), o 71 (.nck u0), o 72 (.fa 10 u0), o 73 (.ld u0), o 74 (.bin .neq u0 (kJ 0))]) [1, 2, 74] [14, 15, 0])
(.cond u2
(.ret [])
 .skip))
(.seq (.post (.reg [o 75 (.ld u0), o 76 (.nck u0), o 77 (.fa 6 u0), o 78 (.ld u0), o 80 (.ld u4), o 81 (.nck u0), o 82 (.fa 0 u0), o 83 (.fa 3 u0), o 84 (.ld u0), o 85 (.len false u0), oC (.mup 1 u6 u11 u0)]) [1, 2] [10, 11])
(.seq (.post (.reg [o 86 (.ld u0), o 87 (.ld u1), o 88 (.nck u0), o 89 (.fa 0 u0), o 90 (.fa 3 u0), o 91 (.ld u0), o 93 (.ld u6), o 94 (.nck u0), o 95 (.fa 8 u0), o 96 (.ld u0), o 97 (.build [(.s []), (.s []), (.s []), (.s []), (.b false)] [(0, 1, u11), (1, 1, (.k (.s [48]))), (3, 1, (.k (.s [48]))), (4, 1, u0)]), o 98 (.bsl 1 5 [(.s []), (.s []), (.s []), (.s []), (.b false)] [(0, 5, u0)]), o 99 (.app 200 5 72 u6 u0), .chk ⟨(some 12), none, .ld u13⟩, o 100 (.nck u12), o 101 (.fa 0 u0), o 102 (.fa 3 u0), oC (.st u0 u3)]) [1] [16])
(.reg [o 103 (.ld u0), o 104 (.nck u0), o 105 (.fa 7 u0), o 106 (.ld u0), oC (.clrm u0)])))))) [1] [4])
(.post .skip [1] [0])))
(.reg [o 107 (.ld u0), o 108 (.mkf 188 [] [u1]), o 109 (.call 187 [u1, u0])])))))))
def c126 : BC := .seq h126 (.ret [])
theorem fg126 : FGood Tryz.prog T 126 (.code 1 c126) := ⟨Tryz.call126, Tryz.f126, h126, Tryz.func126, by kernel_rfl⟩
def h127 : BC := (.seq (.reg [o 1 (.box 572 u0)])
(.seq (.reg [o 2 (.ld u0), o 3 (.bsl 2 1 [(.i .i64 0)] [(0, 1, (kJ 3)), (1, 1, (kJ 5))]), o 4 (.call 185 [u1, u0])])
(.seq (.post (.reg [o 5 (.ld u3), o 6 (.ld u4), o 7 (.call 184 [u0]), .chk ⟨(some 2), none, .ld u6⟩, o 8 (.call 14 [u0]), .chk ⟨(some 3), none, .ld u7⟩, o 9 (.un .not u0), o 10 (.call 129 [u4, u0, (kJ 4)])]) [1] [9])
(.reg [o 11 (.ld u0), o 12 (.mkf 189 [] [u1]), o 13 (.call 187 [u1, u0])]))))
def c127 : BC := .seq h127 (.ret [])
theorem fg127 : FGood Tryz.prog T 127 (.code 1 c127) := ⟨Tryz.call127, Tryz.f127, h127, Tryz.func127, by kernel_rfl⟩
def h128 : BC := (.seq (.seq (.reg [o 7 (.nck u0), o 8 (.fa 9 u0), o 9 (.ld u0), o 10 (.ia 1 u0 (kJ 0)), o 11 (.ld u0)])
(.block 0 [0] (.seq (.seq (.reg [o 15 (.bin .eql u0 (.k (.s [85, 80])))])
(.cond u0
(.post .skip [0, 11, 14] [6, 1, 0])
(.seq (.reg [o 16 (.bin .eql u1 (.k (.s [76, 79])))])
(.cond u0
(.post .skip [0, 11, 14] [7, 2, 0])
(.seq (.reg [o 17 (.bin .eql u2 (.k (.s [70, 88])))])
(.cond u0
(.post .skip [0, 11, 14] [8, 3, 0])
(.seq (.reg [o 18 (.bin .eql u3 (.k (.s [76, 73])))])
(.cond u0
(.post .skip [0, 11, 14] [9, 4, 0])
(.post (.reg [o 19 (.bin .eql u4 (.k (.s [85, 73])))]) [0, 11, 14] [10, 5, 0])))))))))
(.cond u2
(.post (.reg [o 21 (.bsl 1 1 [(.i .i64 0)] [(0, 1, (kJ 4))]), o 22 (.call 185 [u1, u0])]) [0] [2])
(.seq (.seq (.reg [o 24 (.bin .eql u1 (.k (.s [70, 82])))])
(.cond u0
(.post .skip [0, 23] [1, 0])
(.seq (.reg [o 25 (.bin .eql u2 (.k (.s [77, 73])))])
(.cond u0
(.post .skip [0, 23] [2, 0])
(.seq (.reg [o 26 (.bin .eql u3 (.k (.s [80, 76])))])
(.cond u0
(.post .skip [0, 23] [3, 0])
(.post (.reg [o 27 (.bin .eql u4 (.k (.s [66, 86])))]) [0, 23] [4, 0])))))))
(.cond u1
(.post (.reg [o 29 (.bsl 1 1 [(.i .i64 0)] [(0, 1, (kJ 3))]), o 30 (.call 185 [u1, u0])]) [0] [2])
(.post (.reg [o 13 (.call 129 [u0, kU, (kJ 1)])]) [0] [1])))))))
(.seq (.reg [o 32 (.call 184 [u0])])
(.seq (.reg [o 35 (.call 184 [u1]), o 36 (.call 14 [u0]), o 37 (.un .not u0), o 38 (.call 129 [u4, u0, (kJ 4)])])
(.seq (.reg [o 41 (.nck u5), o 42 (.fa 6 u0), o 43 (.ld u0), o 45 (.call 184 [u8]), .chk ⟨(some 1), none, .ld u2⟩, o 46 (.lk 1 (.i .i64 0) true u1 u0), o 47 (.ext 0 u0), o 48 (.ext 1 u1)])
(.seq (.post (.reg [o 51 (.un .not u0), o 52 (.call 129 [u13, u0, (kJ 4)])]) [0, 2, 3] [14, 13, 3])
(.seq (.seq (.reg [o 54 (.nck u0), o 55 (.fa 10 u0), o 56 (.ld u0), o 57 (.bin .neq u0 (kJ 0))])
(.cond u0
(.ret [])
 .skip))
(.seq (.reg [o 59 (.nck u4), o 60 (.fa 0 u0), o 61 (.fa 3 u0), o 62 (.ld u0), o 64 (.ia 5 u0 u10)])
(.seq (.reg [])
(.block 1 [] (.seq (.reg [o 67 (.bin .eql u10 (.k (.s [85, 80])))])
(.cond u0
(.post (.reg [o 70 (.call 190 [u10, (kJ 1)]), o 71 (.nck u2), o 72 (.fa 2 u0), oC (.st u0 u2)]) [] [])
(.seq (.reg [o 74 (.bin .eql u11 (.k (.s [76, 79])))])
(.cond u0
(.post (.reg [o 77 (.call 190 [u11, (.k (.i .i64 (-1)))]), o 78 (.nck u3), o 79 (.fa 1 u0), oC (.st u0 u2)]) [] [])
(.seq (.reg [o 81 (.bin .eql u12 (.k (.s [70, 88])))])
(.cond u0
(.post (.seq (.post (.reg [o 84 (.call 190 [u12, (kJ 0)]), o 85 (.nck u4), o 86 (.fa 1 u0), oC (.st u0 u2)]) [5] [6])
(.reg [o 89 (.nck u0), o 90 (.fa 1 u0), o 91 (.ld u0), o 92 (.nck u3), o 93 (.fa 2 u0), oC (.st u0 u2)])) [] [])
(.seq (.reg [o 95 (.bin .eql u13 (.k (.s [76, 73])))])
(.cond u0
(.post (.reg [o 99 (.call 190 [u13, (kJ 0)]), o 100 (.nck u5), o 101 (.fa 4 u0), oC (.st u0 kU), o 102 (.nck u7), o 103 (.fa 1 u0), oC (.st u0 u4)]) [] [])
(.seq (.post (.reg [o 105 (.bin .eql u14 (.k (.s [85, 73])))]) [0, 5, 65, 104] [14, 5, 15, 0])
(.cond u3
(.post (.reg [o 109 (.call 190 [u0, (kJ 0)]), o 110 (.nck u2), o 111 (.fa 4 u0), oC (.st u0 kU), o 112 (.nck u4), o 113 (.fa 2 u0), oC (.st u0 u4)]) [] [])
(.seq (.reg [o 115 (.bin .eql u2 (.k (.s [70, 82])))])
(.cond u0
(.post (.reg [o 118 (.nck u2), o 119 (.fa 1 u0), oC (.st u0 (.k (.s []))), o 120 (.nck u4), o 121 (.fa 2 u0), oC (.st u0 (.k (.s [])))]) [] [])
(.seq (.reg [o 123 (.bin .eql u3 (.k (.s [77, 73])))])
(.cond u0
(.post (.reg [o 125 (.nck u3), o 126 (.fa 1 u0), oC (.st u0 (.k (.s [])))]) [] [])
(.seq (.reg [o 128 (.bin .eql u4 (.k (.s [80, 76])))])
(.cond u0
(.post (.reg [o 130 (.nck u4), o 131 (.fa 2 u0), oC (.st u0 (.k (.s [])))]) [] [])
(.seq (.reg [o 133 (.bin .eql u5 (.k (.s [66, 86])))])
(.cond u0
(.post (.reg [o 137 (.nck u5), o 138 (.fa 4 u0), oC (.st u0 kU), o 139 (.nck u7), o 140 (.fa 1 u0), oC (.st u0 (.k (.s [48]))), o 141 (.nck u9), o 142 (.fa 2 u0), oC (.st u0 (.k (.s [49])))]) [] [])
(.post .skip [] []))))))))))))))))))))))))))))
def c128 : BC := .seq h128 (.ret [])
theorem fg128 : FGood Tryz.prog T 128 (.code 1 c128) := ⟨Tryz.call128, Tryz.f128, h128, Tryz.func128, by kernel_rfl⟩
def h129 : BC := (.seq (.reg [oA 8 1 (.mv u0), oA 9 2 (.nck u0), oA 10 3 (.fa 10 u0), oA 11 4 (.ld u0), oA 12 5 (.bin .eql u0 (kJ 0)), o 13 (.pick u6 u0 kF)])
(.cond u0
(.post (.reg [o 16 (.nck u6), o 17 (.fa 10 u0), oC (.st u0 u10)]) [] [])
(.post .skip [] [])))
def c129 : BC := .seq h129 (.ret [])
theorem fg129 : FGood Tryz.prog T 129 (.code 3 c129) := ⟨Tryz.call129, Tryz.f129, h129, Tryz.func129, by kernel_rfl⟩
def c130 : BC := (.seq (.reg [o 2 (.mv (.k .sn))])
(.seq (.seq (.reg [o 4 (.eq 2 false u1 (.k .sn))])
(.cond u0
(.seq (.reg [o 2 (.mv (.k .sn))])
(.ret [.mv u0]))
 .skip))
(.seq (.reg [o 5 (.bsl 0 5 [(.s []), (.i .i64 0), .sn, (.s []), (.s [])] []), o 7 (.app 188 5 80 u0 u3)])
(.ret [.mv u0]))))
theorem fg130 : FGood Tryz.prog T 130 (.code 1 c130) := ⟨Tryz.call130, Tryz.f130, c130, Tryz.func130, by kernel_rfl⟩
def c131 : BC := (.seq (.reg [o 2 (.mv (.k .pn)), o 3 (.mv kF)])
(.seq (.reg [o 16 (.call 191 [u2, (.k (.s [45]))]), o 17 (.ext 0 u0), o 18 (.ext 1 u1)])
(.seq (.reg [o 21 (.call 40 [u1, (.k (.s [47]))]), o 22 (.ext 0 u0), o 23 (.ext 1 u1), o 24 (.ext 2 u2)])
(.seq (.seq (.reg [o 26 (.un .not u0)])
(.cond u0
(.post (.reg [o 7 (.mv (.k (.s [49])))]) [0, 5, 6, 7] [11, 6, 4, 0])
(.post .skip [0, 5, 6, 7] [10, 5, 3, 2])))
(.seq (.reg [o 29 (.call 151 [u2]), o 30 (.ext 0 u0), o 31 (.ext 1 u1)])
(.seq (.reg [o 34 (.call 151 [u6]), o 35 (.ext 0 u0), o 36 (.ext 1 u1)])
(.seq (.seq (.reg [o 38 (.un .not u3), oB 40 0 (.mv u1), oB 41 1 (.un .not u0), o 42 (.pick u2 kU u0), oB 44 0 (.mv u5), oB 45 1 (.call 177 [u0]), o 46 (.pick u2 kU u0)])
(.cond u0
(.seq (.post (.reg [o 2 (.mv (.k .pn)), o 3 (.mv kF)]) [2, 3] [1, 0])
(.ret [.mv u0, .mv u1]))
 .skip))
(.seq (.post (.reg [o 50 (.call 178 [u14, u11, u8])]) [0, 13] [14, 0])
(.seq (.seq (.reg [o 52 (.call 119 [u1]), o 54 (.bin .neq u0 u1)])
(.cond u0
(.seq (.reg [o 2 (.mv (.k .pn)), o 3 (.mv kF)])
(.ret [.mv u1, .mv u0]))
 .skip))
(.seq (.reg [o 3 (.mv kU)])
(.ret [.mv u4, .mv u0])))))))))))
theorem fg131 : FGood Tryz.prog T 131 (.code 1 c131) := ⟨Tryz.call131, Tryz.f131, c131, Tryz.func131, by kernel_rfl⟩
def c132 : BC := (.seq (.reg [o 4 (.mv (.k .pn))])
(.seq (.reg [o 13 (.call 176 [u1]), o 14 (.ext 0 u0), o 15 (.ext 1 u1), o 16 (.ext 2 u2)])
(.seq (.reg [o 19 (.call 176 [u6]), o 20 (.ext 0 u0), o 21 (.ext 1 u1), o 22 (.ext 2 u2)])
(.seq (.post (.reg [o 25 (.eq 0 true u6 u2), o 28 (.call 181 [u6, u2]), o 31 (.call 181 [u6, u2]), o 32 (.call 178 [u2, u1, u0])]) [4] [0])
(.ret [.mv u0])))))
theorem fg132 : FGood Tryz.prog T 132 (.code 2 c132) := ⟨Tryz.call132, Tryz.f132, c132, Tryz.func132, by kernel_rfl⟩
def c133 : BC := (.seq (.reg [o 6 (.mv (.k .sn))])
(.seq (.reg [o 12 (.call 192 [u1, u2, (.k (.f 193 [] []))]), o 13 (.ext 0 u0), o 14 (.ext 1 u1)])
(.seq (.block 0 [0] (.seq (.reg [oA 18 0 (.mv u6), oA 19 1 (.bin .eql u0 (.k (.s [48]))), o 20 (.pick u2 u0 kF)])
(.cond u0
(.seq (.post (.reg [o 24 (.bin .add u4 (kJ 1)), o 25 (.call 194 [u8, u5, u0])]) [6] [0])
(.ret [.mv u0]))
(.seq (.reg [])
(.cond u3
(.post (.reg [o 31 (.ia 2 u7 u4), o 32 (.fa 1 u0), oC (.st u0 u11)]) [0] [9])
(.post (.seq (.reg [o 35 (.bin .neq u9 (.k (.s [48])))])
(.cond u0
(.seq (.post (.reg [o 40 (.build [(.i .i64 0), (.s [])] [(0, 1, u9), (1, 1, u10)]), o 41 (.bsl 1 2 [(.i .i64 0), (.s [])] [(0, 2, u0)]), o 42 (.call 195 [u10, u7, u0])]) [6] [0])
(.ret [.mv u0]))
 .skip)) [0] [8]))))))
(.seq (.reg [])
(.ret [.mv u0])))))
theorem fg133 : FGood Tryz.prog T 133 (.code 3 c133) := ⟨Tryz.call133, Tryz.f133, c133, Tryz.func133, by kernel_rfl⟩
def h134 : BC := (.seq (.reg [o 5 (.call 196 [u0])])
(.seq (.reg [o 6 (.bsl 4 1 [(.s [])] [(0, 1, (.k (.s []))), (1, 1, (.k (.s [73, 78, 68, 69, 80]))), (2, 1, (.k (.s [66, 76, 79, 67, 75, 83]))), (3, 1, (.k (.s [83, 67, 69, 78, 65, 82, 73, 79, 83])))]), o 8 (.call 182 [u0, u1])])
(.block 0 [] (.seq (.reg [o 13 (.bin .eql u2 (.k (.s [83, 84, 79, 67, 72]))), oA 15 0 (.mv u4), oA 16 1 (.nck u0), oA 17 2 (.fa 3 u0), oA 18 3 (.ld u0), oA 19 4 (.bin .eql u0 (kJ 0)), o 20 (.pick u5 u0 kF)])
(.cond u0
(.seq (.post (.reg [o 22 (.nck u10), o 23 (.fa 3 u0), oC (.st u0 (kJ 1))]) [0] [12])
(.seq (.reg [o 26 (.call 196 [u0]), o 27 (.nck u1), o 28 (.fa 0 u0), oC (.st u0 u2)])
(.seq (.reg [o 31 (.nck u3), o 32 (.fa 6 u0), o 33 (.ld u0), o 34 (.len false u0), o 35 (.bin .gtr u0 (kJ 0)), o 36 (.call 135 [u8, u0, (kJ 1)])])
(.post (.reg [o 39 (.nck u9), o 40 (.fa 0 u0), o 41 (.ld u0), o 42 (.call 14 [u0]), o 43 (.un .not u0), o 44 (.call 135 [u14, u0, (kJ 4)])]) [] []))))
(.seq (.post (.reg [o 47 (.bin .gtr u7 (kJ 0)), oA 49 0 (.mv u11), oA 50 1 (.nck u0), oA 51 2 (.fa 3 u0), oA 52 3 (.ld u0), oA 53 4 (.bin .eql u0 (kJ 1)), oA 54 5 (.mv u0), oB 55 0 (.mv u17), oB 56 1 (.nck u0), oB 57 2 (.fa 3 u0), oB 58 3 (.ld u0), oB 59 4 (.bin .eql u0 (kJ 2)), oA 60 11 (.pick u5 kU u0), o 61 (.pick u12 u0 kF)]) [0, 2, 3, 45] [24, 23, 21, 0])
(.cond u3
(.seq (.reg [o 64 (.nck u0), o 65 (.fa 6 u0), o 66 (.ld u0), o 67 (.len false u0), o 68 (.bin .neq u0 (kJ 1)), o 69 (.call 135 [u5, u0, (kJ 1)])])
(.seq (.post (.reg [o 72 (.call 196 [u6]), o 73 (.bin .neq u0 (.k (.s [68, 73, 83, 67, 82, 69, 84, 69]))), oB 75 0 (.mv u8), oB 76 1 (.nck u0), oB 77 2 (.fa 3 u0), oB 78 3 (.ld u0), oB 79 4 (.bin .eql u0 (kJ 2)), o 80 (.pick u5 kU u0), o 81 (.call 135 [u14, u0, (kJ 7)])]) [0, 3] [15, 17])
(.seq (.reg [o 85 (.nck u0), o 86 (.fa 3 u0), oC (.st u0 (kJ 2)), o 87 (.nck u2), o 88 (.fa 1 u0), o 89 (.fa 0 u0), oC (.st u0 u6)])
(.seq (.reg [o 91 (.bin .eql u6 (kJ 3))])
(.cond u0
(.post (.reg [o 93 (.build [(.s []), .sn] [(0, 1, (.k (.s [82, 79, 79, 84])))]), o 94 (.bsl 1 2 [(.s []), .sn] [(0, 2, u0)]), o 95 (.nck u8), o 96 (.fa 1 u0), o 97 (.fa 1 u0), oC (.st u0 u3)]) [] [])
(.post .skip [] []))))))
(.seq (.reg [o 100 (.bin .eql u1 (.k (.s [69, 78, 68, 65, 84, 65]))), oA 102 0 (.mv u1), oA 103 1 (.nck u0), oA 104 2 (.fa 3 u0), oA 105 3 (.ld u0), oA 106 4 (.bin .eql u0 (kJ 2)), o 107 (.pick u5 u0 kF)])
(.cond u0
(.post (.seq (.post (.reg [o 109 (.nck u7), o 110 (.fa 3 u0), oC (.st u0 (kJ 3))]) [0] [9])
(.reg [o 113 (.nck u0), o 114 (.fa 6 u0), o 115 (.ld u0), o 116 (.len false u0), o 117 (.bin .gtr u0 (kJ 0)), o 118 (.call 135 [u5, u0, (kJ 1)])])) [] [])
(.post (.reg [o 10 (.call 135 [u7, kU, (kJ 5)])]) [] []))))))))))
def c134 : BC := .seq h134 (.ret [])
theorem fg134 : FGood Tryz.prog T 134 (.code 1 c134) := ⟨Tryz.call134, Tryz.f134, h134, Tryz.func134, by kernel_rfl⟩
def h135 : BC := (.seq (.reg [oA 8 1 (.mv u0), oA 9 2 (.nck u0), oA 10 3 (.fa 7 u0), oA 11 4 (.ld u0), oA 12 5 (.bin .eql u0 (kJ 0)), o 13 (.pick u6 u0 kF)])
(.cond u0
(.post (.reg [o 16 (.nck u6), o 17 (.fa 7 u0), oC (.st u0 u10)]) [] [])
(.post .skip [] [])))
def c135 : BC := .seq h135 (.ret [])
theorem fg135 : FGood Tryz.prog T 135 (.code 3 c135) := ⟨Tryz.call135, Tryz.f135, h135, Tryz.func135, by kernel_rfl⟩
def h136 : BC := (.seq (.reg [o 7 (.nck u0), o 8 (.fa 6 u0), o 9 (.ld u0), o 10 (.len false u0), o 11 (.bin .eql u0 (kJ 5))])
(.seq (.post (.reg [o 14 (.un .not u0), oA 16 0 (.mv u6), oA 17 1 (.nck u0), oA 18 2 (.fa 6 u0), oA 19 3 (.ld u0), oA 20 4 (.len false u0), oA 21 5 (.bin .neq u0 (kJ 4)), o 22 (.pick u6 u0 kF), o 23 (.call 135 [u13, u0, (kJ 1)])]) [0, 2] [14, 9])
(.seq (.reg [o 25 (.call 197 [u0]), o 3 (.alloc 320 [(.s []), (.s [])]), oC (.stn 2 u0 u1)])
(.seq (.reg [o 26 (.ldn 2 u0), o 4 (.alloc 376 [(.s []), .sn]), o 28 (.call 198 [u4]), .chk ⟨(some 2), none, .ldn 2 u3⟩, .chk ⟨(some 1), none, .alloc 376 [(.s []), .sn]⟩, o 29 (.build [(.s []), (.s []), (.s [])] [(0, 2, u2), (2, 1, u0)]), o 30 (.bsl 1 3 [(.s []), (.s []), (.s [])] [(0, 3, u0)]), o 31 (.build [(.s []), .sn] [(1, 1, u0)]), oC (.stn 2 u4 u0)])
(.seq (.seq (.reg [])
(.cond u9
(.post (.reg [o 34 (.call 196 [u8])]) [0, 3, 4] [9, 7, 5])
(.post .skip [0, 3, 4] [8, 6, 4])))
(.seq (.reg [o 36 (.call 198 [u0]), o 37 (.fa 0 u3), oC (.st u0 u1)])
(.seq (.reg [o 39 (.nck u2), o 40 (.fa 1 u0), o 41 (.fa 1 u0), o 42 (.ld u0), o 43 (.mkf 199 [] [u7]), o 44 (.call 169 [u1, u0])])
(.seq (.post (.reg [o 47 (.bin .geq u0 (kJ 0)), oA 49 0 (.mv u1), oA 50 1 (.mv u10), oA 51 2 (.nck u0), oA 52 3 (.fa 1 u0), oA 53 4 (.fa 1 u0), oA 54 5 (.ld u0), oA 55 6 (.len false u0), oA 56 7 (.bin .sub u0 (kJ 1)), oA 57 8 (.bin .neq u7 u0), o 58 (.pick u9 u0 kF), o 59 (.call 135 [u19, u0, (kJ 4)])]) [0, 4, 5] [20, 22, 12])
(.seq (.seq (.reg [o 61 (.bin .lss u2 (kJ 0))])
(.cond u0
(.post (.seq (.post (.reg [o 64 (.nck u1), o 65 (.fa 1 u0), o 66 (.fa 1 u0), o 67 (.ld u0), o 68 (.build [(.s []), .sn] []), o 69 (.bsl 1 2 [(.s []), .sn] [(0, 2, u0)]), o 70 (.app 348 2 40 u2 u0), o 71 (.nck u8), o 72 (.fa 1 u0), o 73 (.fa 1 u0), oC (.st u0 u3)]) [0, 4] [11, 12])
(.reg [o 75 (.nck u0), o 76 (.fa 1 u0), o 77 (.fa 1 u0), o 78 (.ld u0), o 79 (.len false u0), o 80 (.bin .sub u0 (kJ 1))])) [0, 4, 5] [6, 7, 0])
(.post .skip [0, 4, 5] [1, 2, 3])))
(.post (.reg [o 82 (.nck u0), o 83 (.fa 1 u0), o 84 (.fa 1 u0), o 85 (.ld u0), o 88 (.nck u4), o 89 (.fa 1 u0), o 90 (.fa 1 u0), o 91 (.ld u0), o 93 (.ia 2 u0 u10), o 94 (.fa 1 u0), o 95 (.ld u0), o 96 (.ldn 2 u12), o 97 (.bsl 1 2 [(.s []), .sn] [(0, 2, u0)]), o 98 (.app 376 2 40 u2 u0), .chk ⟨(some 10), none, .ld u11⟩, o 99 (.ia 2 u10 u16), o 100 (.fa 1 u0), oC (.st u0 u2)]) [] []))))))))))
def c136 : BC := .seq h136 (.ret [])
theorem fg136 : FGood Tryz.prog T 136 (.code 1 c136) := ⟨Tryz.call136, Tryz.f136, h136, Tryz.func136, by kernel_rfl⟩
def h137 : BC := (.seq (.reg [o 6 (.call 196 [u0])])
(.seq (.reg [o 8 (.call 200 [u1]), o 2 (.alloc 40 [(.s [])]), oC (.st u0 u1)])
(.seq (.reg [o 10 (.call 200 [u3])])
(.seq (.reg [o 12 (.call 198 [u4])])
(.seq (.seq (.reg [o 14 (.nck u5), o 15 (.fa 7 u0), o 16 (.ld u0), o 17 (.bin .neq u0 (kJ 0))])
(.cond u0
(.ret [])
 .skip))
(.seq (.reg [o 19 (.nck u9), o 20 (.fa 1 u0), o 21 (.fa 1 u0), o 22 (.ld u0), o 23 (.mkf 201 [] [u10]), o 24 (.call 169 [u1, u0])])
(.seq (.seq (.reg [o 26 (.bin .lss u0 (kJ 0))])
(.cond u0
(.seq (.post (.reg [o 28 (.nck u16), o 29 (.fa 1 u0), o 30 (.fa 1 u0), o 31 (.ld u0), o 32 (.len false u0)]) [0, 2, 3, 4] [21, 18, 16, 0])
(.post (.reg [o 35 (.nck u0), o 36 (.fa 1 u0), o 37 (.fa 1 u0), o 38 (.ld u0), o 39 (.ld u5), o 40 (.build [(.s []), .sn] [(0, 1, u0)]), o 41 (.bsl 1 2 [(.s []), .sn] [(0, 2, u0)]), o 42 (.app 348 2 40 u3 u0), o 43 (.nck u8), o 44 (.fa 1 u0), o 45 (.fa 1 u0), oC (.st u0 u3)]) [0, 3, 4] [11, 13, 14]))
(.post .skip [0, 3, 4] [16, 11, 1])))
(.reg [o 49 (.call 202 [u0, u2, u1])]))))))))
def c137 : BC := .seq h137 (.ret [])
theorem fg137 : FGood Tryz.prog T 137 (.code 1 c137) := ⟨Tryz.call137, Tryz.f137, h137, Tryz.func137, by kernel_rfl⟩
end Go.Proofs.YtmbpjpffafidhaaGreatDoor
