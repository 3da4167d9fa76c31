/- TimeShape, run. -/
import Derived.Test.YtlnffaalhedfmaaGreatDoorEvAll
import Derived.Test.YtlnffaalhedfmaaGreatDoorEvY0
import Derived.Test.YtlnffaalhedfmaaGreatDoorEvY1
import Derived.Test.YtlnffaalhedfmaaGreatDoorEvY2
import Derived.Test.YtlnffaalhedfmaaGreatDoorEvY3
import Derived.Test.YtlnffaalhedfmaaGreatDoorEvY4
import Derived.Test.YtlnffaalhedfmaaGreatDoorEvY5
import Derived.Test.YtlnffaalhedfmaaGreatDoorEvY6
import Derived.Test.YtlnffaalhedfmaaGreatDoorEvY7
import Derived.Test.YtlnffaalhedfmaaGreatDoorEvY8
namespace Go.Proofs.YtlnffaalhedfmaaGreatDoor
open Go.Ev
set_option maxRecDepth 100000
theorem tcs21 (a b : Int) (ha : 1 ≤ a ∧ a < 2) (hb : 0 ≤ b ∧ b < 1) : TC 2 1 a b := by
  have ha2 : a = 1 := by omega
  have hb2 : b = 0 := by omega
  clear ha hb
  subst ha2 <;> subst hb2
  · exact tc2110
theorem tcs22 (a b : Int) (ha : 1 ≤ a ∧ a < 2) (hb : 0 ≤ b ∧ b < 2) : TC 2 2 a b := by
  have ha2 : a = 1 := by omega
  have hb2 : b = 0 ∨ b = 1 := by omega
  clear ha hb
  subst ha2 <;> rcases hb2 with rfl | rfl
  · exact tc2210
  · exact tc2211
theorem tcs23 (a b : Int) (ha : 1 ≤ a ∧ a < 2) (hb : 0 ≤ b ∧ b < 3) : TC 2 3 a b := by
  have ha2 : a = 1 := by omega
  have hb2 : b = 0 ∨ b = 1 ∨ b = 2 := by omega
  clear ha hb
  subst ha2 <;> rcases hb2 with rfl | rfl | rfl
  · exact tc2310
  · exact tc2311
  · exact tc2312
theorem tcs24 (a b : Int) (ha : 1 ≤ a ∧ a < 2) (hb : 0 ≤ b ∧ b < 4) : TC 2 4 a b := by
  have ha2 : a = 1 := by omega
  have hb2 : b = 0 ∨ b = 1 ∨ b = 2 ∨ b = 3 := by omega
  clear ha hb
  subst ha2 <;> rcases hb2 with rfl | rfl | rfl | rfl
  · exact tc2410
  · exact tc2411
  · exact tc2412
  · exact tc2413
theorem tcs25 (a b : Int) (ha : 1 ≤ a ∧ a < 2) (hb : 0 ≤ b ∧ b < 5) : TC 2 5 a b := by
  have ha2 : a = 1 := by omega
  have hb2 : b = 0 ∨ b = 1 ∨ b = 2 ∨ b = 3 ∨ b = 4 := by omega
  clear ha hb
  subst ha2 <;> rcases hb2 with rfl | rfl | rfl | rfl | rfl
  · exact tc2510
  · exact tc2511
  · exact tc2512
  · exact tc2513
  · exact tc2514
theorem tcs31 (a b : Int) (ha : 1 ≤ a ∧ a < 3) (hb : 0 ≤ b ∧ b < 1) : TC 3 1 a b := by
  have ha2 : a = 1 ∨ a = 2 := by omega
  have hb2 : b = 0 := by omega
  clear ha hb
  rcases ha2 with rfl | rfl <;> subst hb2
  · exact tc3110
  · exact tc3120
theorem tcs32 (a b : Int) (ha : 1 ≤ a ∧ a < 3) (hb : 0 ≤ b ∧ b < 2) : TC 3 2 a b := by
  have ha2 : a = 1 ∨ a = 2 := by omega
  have hb2 : b = 0 ∨ b = 1 := by omega
  clear ha hb
  rcases ha2 with rfl | rfl <;> rcases hb2 with rfl | rfl
  · exact tc3210
  · exact tc3211
  · exact tc3220
  · exact tc3221
theorem tcs33 (a b : Int) (ha : 1 ≤ a ∧ a < 3) (hb : 0 ≤ b ∧ b < 3) : TC 3 3 a b := by
  have ha2 : a = 1 ∨ a = 2 := by omega
  have hb2 : b = 0 ∨ b = 1 ∨ b = 2 := by omega
  clear ha hb
  rcases ha2 with rfl | rfl <;> rcases hb2 with rfl | rfl | rfl
  · exact tc3310
  · exact tc3311
  · exact tc3312
  · exact tc3320
  · exact tc3321
  · exact tc3322
theorem tcs34 (a b : Int) (ha : 1 ≤ a ∧ a < 3) (hb : 0 ≤ b ∧ b < 4) : TC 3 4 a b := by
  have ha2 : a = 1 ∨ a = 2 := by omega
  have hb2 : b = 0 ∨ b = 1 ∨ b = 2 ∨ b = 3 := by omega
  clear ha hb
  rcases ha2 with rfl | rfl <;> rcases hb2 with rfl | rfl | rfl | rfl
  · exact tc3410
  · exact tc3411
  · exact tc3412
  · exact tc3413
  · exact tc3420
  · exact tc3421
  · exact tc3422
  · exact tc3423
theorem tcs35 (a b : Int) (ha : 1 ≤ a ∧ a < 3) (hb : 0 ≤ b ∧ b < 5) : TC 3 5 a b := by
  have ha2 : a = 1 ∨ a = 2 := by omega
  have hb2 : b = 0 ∨ b = 1 ∨ b = 2 ∨ b = 3 ∨ b = 4 := by omega
  clear ha hb
  rcases ha2 with rfl | rfl <;> rcases hb2 with rfl | rfl | rfl | rfl | rfl
  · exact tc3510
  · exact tc3511
  · exact tc3512
  · exact tc3513
  · exact tc3514
  · exact tc3520
  · exact tc3521
  · exact tc3522
  · exact tc3523
  · exact tc3524
theorem tcs41 (a b : Int) (ha : 1 ≤ a ∧ a < 4) (hb : 0 ≤ b ∧ b < 1) : TC 4 1 a b := by
  have ha2 : a = 1 ∨ a = 2 ∨ a = 3 := by omega
  have hb2 : b = 0 := by omega
  clear ha hb
  rcases ha2 with rfl | rfl | rfl <;> subst hb2
  · exact tc4110
  · exact tc4120
  · exact tc4130
theorem tcs42 (a b : Int) (ha : 1 ≤ a ∧ a < 4) (hb : 0 ≤ b ∧ b < 2) : TC 4 2 a b := by
  have ha2 : a = 1 ∨ a = 2 ∨ a = 3 := by omega
  have hb2 : b = 0 ∨ b = 1 := by omega
  clear ha hb
  rcases ha2 with rfl | rfl | rfl <;> rcases hb2 with rfl | rfl
  · exact tc4210
  · exact tc4211
  · exact tc4220
  · exact tc4221
  · exact tc4230
  · exact tc4231
theorem tcs43 (a b : Int) (ha : 1 ≤ a ∧ a < 4) (hb : 0 ≤ b ∧ b < 3) : TC 4 3 a b := by
  have ha2 : a = 1 ∨ a = 2 ∨ a = 3 := by omega
  have hb2 : b = 0 ∨ b = 1 ∨ b = 2 := by omega
  clear ha hb
  rcases ha2 with rfl | rfl | rfl <;> rcases hb2 with rfl | rfl | rfl
  · exact tc4310
  · exact tc4311
  · exact tc4312
  · exact tc4320
  · exact tc4321
  · exact tc4322
  · exact tc4330
  · exact tc4331
  · exact tc4332
theorem tcs44 (a b : Int) (ha : 1 ≤ a ∧ a < 4) (hb : 0 ≤ b ∧ b < 4) : TC 4 4 a b := by
  have ha2 : a = 1 ∨ a = 2 ∨ a = 3 := by omega
  have hb2 : b = 0 ∨ b = 1 ∨ b = 2 ∨ b = 3 := by omega
  clear ha hb
  rcases ha2 with rfl | rfl | rfl <;> rcases hb2 with rfl | rfl | rfl | rfl
  · exact tc4410
  · exact tc4411
  · exact tc4412
  · exact tc4413
  · exact tc4420
  · exact tc4421
  · exact tc4422
  · exact tc4423
  · exact tc4430
  · exact tc4431
  · exact tc4432
  · exact tc4433
theorem tcs45 (a b : Int) (ha : 1 ≤ a ∧ a < 4) (hb : 0 ≤ b ∧ b < 5) : TC 4 5 a b := by
  have ha2 : a = 1 ∨ a = 2 ∨ a = 3 := by omega
  have hb2 : b = 0 ∨ b = 1 ∨ b = 2 ∨ b = 3 ∨ b = 4 := by omega
  clear ha hb
  rcases ha2 with rfl | rfl | rfl <;> rcases hb2 with rfl | rfl | rfl | rfl | rfl
  · exact tc4510
  · exact tc4511
  · exact tc4512
  · exact tc4513
  · exact tc4514
  · exact tc4520
  · exact tc4521
  · exact tc4522
  · exact tc4523
  · exact tc4524
  · exact tc4530
  · exact tc4531
  · exact tc4532
  · exact tc4533
  · exact tc4534
theorem tcs51 (a b : Int) (ha : 1 ≤ a ∧ a < 5) (hb : 0 ≤ b ∧ b < 1) : TC 5 1 a b := by
  have ha2 : a = 1 ∨ a = 2 ∨ a = 3 ∨ a = 4 := by omega
  have hb2 : b = 0 := by omega
  clear ha hb
  rcases ha2 with rfl | rfl | rfl | rfl <;> subst hb2
  · exact tc5110
  · exact tc5120
  · exact tc5130
  · exact tc5140
theorem tcs52 (a b : Int) (ha : 1 ≤ a ∧ a < 5) (hb : 0 ≤ b ∧ b < 2) : TC 5 2 a b := by
  have ha2 : a = 1 ∨ a = 2 ∨ a = 3 ∨ a = 4 := by omega
  have hb2 : b = 0 ∨ b = 1 := by omega
  clear ha hb
  rcases ha2 with rfl | rfl | rfl | rfl <;> rcases hb2 with rfl | rfl
  · exact tc5210
  · exact tc5211
  · exact tc5220
  · exact tc5221
  · exact tc5230
  · exact tc5231
  · exact tc5240
  · exact tc5241
theorem tcs53 (a b : Int) (ha : 1 ≤ a ∧ a < 5) (hb : 0 ≤ b ∧ b < 3) : TC 5 3 a b := by
  have ha2 : a = 1 ∨ a = 2 ∨ a = 3 ∨ a = 4 := by omega
  have hb2 : b = 0 ∨ b = 1 ∨ b = 2 := by omega
  clear ha hb
  rcases ha2 with rfl | rfl | rfl | rfl <;> rcases hb2 with rfl | rfl | rfl
  · exact tc5310
  · exact tc5311
  · exact tc5312
  · exact tc5320
  · exact tc5321
  · exact tc5322
  · exact tc5330
  · exact tc5331
  · exact tc5332
  · exact tc5340
  · exact tc5341
  · exact tc5342
theorem tcs54 (a b : Int) (ha : 1 ≤ a ∧ a < 5) (hb : 0 ≤ b ∧ b < 4) : TC 5 4 a b := by
  have ha2 : a = 1 ∨ a = 2 ∨ a = 3 ∨ a = 4 := by omega
  have hb2 : b = 0 ∨ b = 1 ∨ b = 2 ∨ b = 3 := by omega
  clear ha hb
  rcases ha2 with rfl | rfl | rfl | rfl <;> rcases hb2 with rfl | rfl | rfl | rfl
  · exact tc5410
  · exact tc5411
  · exact tc5412
  · exact tc5413
  · exact tc5420
  · exact tc5421
  · exact tc5422
  · exact tc5423
  · exact tc5430
  · exact tc5431
  · exact tc5432
  · exact tc5433
  · exact tc5440
  · exact tc5441
  · exact tc5442
  · exact tc5443
theorem tcs55 (a b : Int) (ha : 1 ≤ a ∧ a < 5) (hb : 0 ≤ b ∧ b < 5) : TC 5 5 a b := by
  have ha2 : a = 1 ∨ a = 2 ∨ a = 3 ∨ a = 4 := by omega
  have hb2 : b = 0 ∨ b = 1 ∨ b = 2 ∨ b = 3 ∨ b = 4 := by omega
  clear ha hb
  rcases ha2 with rfl | rfl | rfl | rfl <;> rcases hb2 with rfl | rfl | rfl | rfl | rfl
  · exact tc5510
  · exact tc5511
  · exact tc5512
  · exact tc5513
  · exact tc5514
  · exact tc5520
  · exact tc5521
  · exact tc5522
  · exact tc5523
  · exact tc5524
  · exact tc5530
  · exact tc5531
  · exact tc5532
  · exact tc5533
  · exact tc5534
  · exact tc5540
  · exact tc5541
  · exact tc5542
  · exact tc5543
  · exact tc5544
theorem tcs61 (a b : Int) (ha : 1 ≤ a ∧ a < 6) (hb : 0 ≤ b ∧ b < 1) : TC 6 1 a b := by
  have ha2 : a = 1 ∨ a = 2 ∨ a = 3 ∨ a = 4 ∨ a = 5 := by omega
  have hb2 : b = 0 := by omega
  clear ha hb
  rcases ha2 with rfl | rfl | rfl | rfl | rfl <;> subst hb2
  · exact tc6110
  · exact tc6120
  · exact tc6130
  · exact tc6140
  · exact tc6150
theorem tcs62 (a b : Int) (ha : 1 ≤ a ∧ a < 6) (hb : 0 ≤ b ∧ b < 2) : TC 6 2 a b := by
  have ha2 : a = 1 ∨ a = 2 ∨ a = 3 ∨ a = 4 ∨ a = 5 := by omega
  have hb2 : b = 0 ∨ b = 1 := by omega
  clear ha hb
  rcases ha2 with rfl | rfl | rfl | rfl | rfl <;> rcases hb2 with rfl | rfl
  · exact tc6210
  · exact tc6211
  · exact tc6220
  · exact tc6221
  · exact tc6230
  · exact tc6231
  · exact tc6240
  · exact tc6241
  · exact tc6250
  · exact tc6251
theorem tcs63 (a b : Int) (ha : 1 ≤ a ∧ a < 6) (hb : 0 ≤ b ∧ b < 3) : TC 6 3 a b := by
  have ha2 : a = 1 ∨ a = 2 ∨ a = 3 ∨ a = 4 ∨ a = 5 := by omega
  have hb2 : b = 0 ∨ b = 1 ∨ b = 2 := by omega
  clear ha hb
  rcases ha2 with rfl | rfl | rfl | rfl | rfl <;> rcases hb2 with rfl | rfl | rfl
  · exact tc6310
  · exact tc6311
  · exact tc6312
  · exact tc6320
  · exact tc6321
  · exact tc6322
  · exact tc6330
  · exact tc6331
  · exact tc6332
  · exact tc6340
  · exact tc6341
  · exact tc6342
  · exact tc6350
  · exact tc6351
  · exact tc6352
theorem tcs64 (a b : Int) (ha : 1 ≤ a ∧ a < 6) (hb : 0 ≤ b ∧ b < 4) : TC 6 4 a b := by
  have ha2 : a = 1 ∨ a = 2 ∨ a = 3 ∨ a = 4 ∨ a = 5 := by omega
  have hb2 : b = 0 ∨ b = 1 ∨ b = 2 ∨ b = 3 := by omega
  clear ha hb
  rcases ha2 with rfl | rfl | rfl | rfl | rfl <;> rcases hb2 with rfl | rfl | rfl | rfl
  · exact tc6410
  · exact tc6411
  · exact tc6412
  · exact tc6413
  · exact tc6420
  · exact tc6421
  · exact tc6422
  · exact tc6423
  · exact tc6430
  · exact tc6431
  · exact tc6432
  · exact tc6433
  · exact tc6440
  · exact tc6441
  · exact tc6442
  · exact tc6443
  · exact tc6450
  · exact tc6451
  · exact tc6452
  · exact tc6453
theorem tcs65 (a b : Int) (ha : 1 ≤ a ∧ a < 6) (hb : 0 ≤ b ∧ b < 5) : TC 6 5 a b := by
  have ha2 : a = 1 ∨ a = 2 ∨ a = 3 ∨ a = 4 ∨ a = 5 := by omega
  have hb2 : b = 0 ∨ b = 1 ∨ b = 2 ∨ b = 3 ∨ b = 4 := by omega
  clear ha hb
  rcases ha2 with rfl | rfl | rfl | rfl | rfl <;> rcases hb2 with rfl | rfl | rfl | rfl | rfl
  · exact tc6510
  · exact tc6511
  · exact tc6512
  · exact tc6513
  · exact tc6514
  · exact tc6520
  · exact tc6521
  · exact tc6522
  · exact tc6523
  · exact tc6524
  · exact tc6530
  · exact tc6531
  · exact tc6532
  · exact tc6533
  · exact tc6534
  · exact tc6540
  · exact tc6541
  · exact tc6542
  · exact tc6543
  · exact tc6544
  · exact tc6550
  · exact tc6551
  · exact tc6552
  · exact tc6553
  · exact tc6554
theorem tc_all (n m a b : Int) (hn : 2 ≤ n ∧ n < 7) (hm : 1 ≤ m ∧ m < 6) (ha : 1 ≤ a ∧ a < n) (hb : 0 ≤ b ∧ b < m) : TC n m a b := by
  have hn2 : n = 2 ∨ n = 3 ∨ n = 4 ∨ n = 5 ∨ n = 6 := by omega
  have hm2 : m = 1 ∨ m = 2 ∨ m = 3 ∨ m = 4 ∨ m = 5 := by omega
  clear hn hm
  rcases hn2 with rfl | rfl | rfl | rfl | rfl <;> rcases hm2 with rfl | rfl | rfl | rfl | rfl
  · exact tcs21 a b ha hb
  · exact tcs22 a b ha hb
  · exact tcs23 a b ha hb
  · exact tcs24 a b ha hb
  · exact tcs25 a b ha hb
  · exact tcs31 a b ha hb
  · exact tcs32 a b ha hb
  · exact tcs33 a b ha hb
  · exact tcs34 a b ha hb
  · exact tcs35 a b ha hb
  · exact tcs41 a b ha hb
  · exact tcs42 a b ha hb
  · exact tcs43 a b ha hb
  · exact tcs44 a b ha hb
  · exact tcs45 a b ha hb
  · exact tcs51 a b ha hb
  · exact tcs52 a b ha hb
  · exact tcs53 a b ha hb
  · exact tcs54 a b ha hb
  · exact tcs55 a b ha hb
  · exact tcs61 a b ha hb
  · exact tcs62 a b ha hb
  · exact tcs63 a b ha hb
  · exact tcs64 a b ha hb
  · exact tcs65 a b ha hb
theorem ts_pre0 (x y z w : Int) : execF tsCk 1000000 (nest tsL .skip) [.i .i64 x, .i .i64 y, .i .i64 z, .i .i64 w] h0 (kP 3) noE noR = some (.i .i64 x, ⟨0, .lf⟩) := by kernel_rfl
theorem ts_pre1 (x y z w : Int) : execF tsCk 1000000 (nest tsL .skip) [.i .i64 x, .i .i64 y, .i .i64 z, .i .i64 w] h0 (kP 4) noE noR = some (.i .i64 y, ⟨0, .lf⟩) := by kernel_rfl
theorem ts_pre2 (x y z w : Int) : execF tsCk 1000000 (nest tsL .skip) [.i .i64 x, .i .i64 y, .i .i64 z, .i .i64 w] h0 (kP 5) noE noR = some (.i .i64 z, ⟨0, .lf⟩) := by kernel_rfl
theorem ts_pre3 (x y z w : Int) : execF tsCk 1000000 (nest tsL .skip) [.i .i64 x, .i .i64 y, .i .i64 z, .i .i64 w] h0 (kP 6) noE noR = some (.i .i64 w, ⟨0, .lf⟩) := by kernel_rfl
theorem ts_regs {call : CallF} {x y z w : Int} {env : List V} {h : H} (hx : tmE env 3 = .i .i64 x) (hy : tmE env 4 = .i .i64 y) (hz : tmE env 5 = .i .i64 z) (hw : tmE env 6 = .i .i64 w) :
    ∃ (n m a b : Int) (d : Nat → Int), (2 ≤ n ∧ n < 7) ∧ (1 ≤ m ∧ m < 6) ∧ (1 ≤ a ∧ a < n) ∧ (0 ≤ b ∧ b < m) ∧ execD call 1000000 (spine 3 c5).2 env h = execD call 1000000 tsX (tsP n m a b d ++ env) h := by
  obtain ⟨r0, b0, c0, p0, s0⟩ := rem_step (call := call) (d := 21) (x := (.t 3)) (y := (.k (.i .i64 5))) (env := env) (h := h) (a := x) (c := 5) hx rfl (by omega)
  have s1 := add_step (call := call) (d := 22) (x := (.t 0)) (y := (.k (.i .i64 5))) (env := (.i .i64 (r0) :: env)) (h := h) (a := r0) (b := 5) rfl rfl (by omega) (by omega)
  obtain ⟨r2, b2, c2, p2, s2⟩ := rem_step (call := call) (d := 23) (x := (.t 0)) (y := (.k (.i .i64 5))) (env := (.i .i64 ((r0 + 5)) :: .i .i64 (r0) :: env)) (h := h) (a := (r0 + 5)) (c := 5) rfl rfl (by omega)
  have s3 := add_step (call := call) (d := 24) (x := (.k (.i .i64 2))) (y := (.t 0)) (env := (.i .i64 (r2) :: .i .i64 ((r0 + 5)) :: .i .i64 (r0) :: env)) (h := h) (a := 2) (b := r2) rfl rfl (by omega) (by omega)
  obtain ⟨r4, b4, c4, p4, s4⟩ := rem_step (call := call) (d := 26) (x := (.t 8)) (y := (.k (.i .i64 5))) (env := (.i .i64 ((2 + r2)) :: .i .i64 (r2) :: .i .i64 ((r0 + 5)) :: .i .i64 (r0) :: env)) (h := h) (a := y) (c := 5) hy rfl (by omega)
  have s5 := add_step (call := call) (d := 27) (x := (.t 0)) (y := (.k (.i .i64 5))) (env := (.i .i64 (r4) :: .i .i64 ((2 + r2)) :: .i .i64 (r2) :: .i .i64 ((r0 + 5)) :: .i .i64 (r0) :: env)) (h := h) (a := r4) (b := 5) rfl rfl (by omega) (by omega)
  obtain ⟨r6, b6, c6, p6, s6⟩ := rem_step (call := call) (d := 28) (x := (.t 0)) (y := (.k (.i .i64 5))) (env := (.i .i64 ((r4 + 5)) :: .i .i64 (r4) :: .i .i64 ((2 + r2)) :: .i .i64 (r2) :: .i .i64 ((r0 + 5)) :: .i .i64 (r0) :: env)) (h := h) (a := (r4 + 5)) (c := 5) rfl rfl (by omega)
  have s7 := add_step (call := call) (d := 29) (x := (.k (.i .i64 1))) (y := (.t 0)) (env := (.i .i64 (r6) :: .i .i64 ((r4 + 5)) :: .i .i64 (r4) :: .i .i64 ((2 + r2)) :: .i .i64 (r2) :: .i .i64 ((r0 + 5)) :: .i .i64 (r0) :: env)) (h := h) (a := 1) (b := r6) rfl rfl (by omega) (by omega)
  have s8 := sub_step (call := call) (d := 32) (x := (.t 4)) (y := (.k (.i .i64 1))) (env := (.i .i64 ((1 + r6)) :: .i .i64 (r6) :: .i .i64 ((r4 + 5)) :: .i .i64 (r4) :: .i .i64 ((2 + r2)) :: .i .i64 (r2) :: .i .i64 ((r0 + 5)) :: .i .i64 (r0) :: env)) (h := h) (a := (2 + r2)) (b := 1) rfl rfl (by omega) (by omega)
  obtain ⟨r9, b9, c9, p9, s9⟩ := rem_step (call := call) (d := 33) (x := (.t 14)) (y := (.t 0)) (env := (.i .i64 (((2 + r2) - 1)) :: .i .i64 ((1 + r6)) :: .i .i64 (r6) :: .i .i64 ((r4 + 5)) :: .i .i64 (r4) :: .i .i64 ((2 + r2)) :: .i .i64 (r2) :: .i .i64 ((r0 + 5)) :: .i .i64 (r0) :: env)) (h := h) (a := z) (c := ((2 + r2) - 1)) hz rfl (by omega)
  have s10 := add_step (call := call) (d := 35) (x := (.t 0)) (y := (.t 6)) (env := (.i .i64 (r9) :: .i .i64 (((2 + r2) - 1)) :: .i .i64 ((1 + r6)) :: .i .i64 (r6) :: .i .i64 ((r4 + 5)) :: .i .i64 (r4) :: .i .i64 ((2 + r2)) :: .i .i64 (r2) :: .i .i64 ((r0 + 5)) :: .i .i64 (r0) :: env)) (h := h) (a := r9) (b := (2 + r2)) rfl rfl (by omega) (by omega)
  have s11 := sub_step (call := call) (d := 36) (x := (.t 0)) (y := (.k (.i .i64 1))) (env := (.i .i64 ((r9 + (2 + r2))) :: .i .i64 (r9) :: .i .i64 (((2 + r2) - 1)) :: .i .i64 ((1 + r6)) :: .i .i64 (r6) :: .i .i64 ((r4 + 5)) :: .i .i64 (r4) :: .i .i64 ((2 + r2)) :: .i .i64 (r2) :: .i .i64 ((r0 + 5)) :: .i .i64 (r0) :: env)) (h := h) (a := (r9 + (2 + r2))) (b := 1) rfl rfl (by omega) (by omega)
  have s12 := sub_step (call := call) (d := 38) (x := (.t 8)) (y := (.k (.i .i64 1))) (env := (.i .i64 (((r9 + (2 + r2)) - 1)) :: .i .i64 ((r9 + (2 + r2))) :: .i .i64 (r9) :: .i .i64 (((2 + r2) - 1)) :: .i .i64 ((1 + r6)) :: .i .i64 (r6) :: .i .i64 ((r4 + 5)) :: .i .i64 (r4) :: .i .i64 ((2 + r2)) :: .i .i64 (r2) :: .i .i64 ((r0 + 5)) :: .i .i64 (r0) :: env)) (h := h) (a := (2 + r2)) (b := 1) rfl rfl (by omega) (by omega)
  obtain ⟨r13, b13, c13, p13, s13⟩ := rem_step (call := call) (d := 39) (x := (.t 1)) (y := (.t 0)) (env := (.i .i64 (((2 + r2) - 1)) :: .i .i64 (((r9 + (2 + r2)) - 1)) :: .i .i64 ((r9 + (2 + r2))) :: .i .i64 (r9) :: .i .i64 (((2 + r2) - 1)) :: .i .i64 ((1 + r6)) :: .i .i64 (r6) :: .i .i64 ((r4 + 5)) :: .i .i64 (r4) :: .i .i64 ((2 + r2)) :: .i .i64 (r2) :: .i .i64 ((r0 + 5)) :: .i .i64 (r0) :: env)) (h := h) (a := ((r9 + (2 + r2)) - 1)) (c := ((2 + r2) - 1)) rfl rfl (by omega)
  have s14 := add_step (call := call) (d := 40) (x := (.k (.i .i64 1))) (y := (.t 0)) (env := (.i .i64 (r13) :: .i .i64 (((2 + r2) - 1)) :: .i .i64 (((r9 + (2 + r2)) - 1)) :: .i .i64 ((r9 + (2 + r2))) :: .i .i64 (r9) :: .i .i64 (((2 + r2) - 1)) :: .i .i64 ((1 + r6)) :: .i .i64 (r6) :: .i .i64 ((r4 + 5)) :: .i .i64 (r4) :: .i .i64 ((2 + r2)) :: .i .i64 (r2) :: .i .i64 ((r0 + 5)) :: .i .i64 (r0) :: env)) (h := h) (a := 1) (b := r13) rfl rfl (by omega) (by omega)
  obtain ⟨r15, b15, c15, p15, s15⟩ := rem_step (call := call) (d := 43) (x := (.t 21)) (y := (.t 7)) (env := (.i .i64 ((1 + r13)) :: .i .i64 (r13) :: .i .i64 (((2 + r2) - 1)) :: .i .i64 (((r9 + (2 + r2)) - 1)) :: .i .i64 ((r9 + (2 + r2))) :: .i .i64 (r9) :: .i .i64 (((2 + r2) - 1)) :: .i .i64 ((1 + r6)) :: .i .i64 (r6) :: .i .i64 ((r4 + 5)) :: .i .i64 (r4) :: .i .i64 ((2 + r2)) :: .i .i64 (r2) :: .i .i64 ((r0 + 5)) :: .i .i64 (r0) :: env)) (h := h) (a := w) (c := (1 + r6)) hw rfl (by omega)
  have s16 := add_step (call := call) (d := 45) (x := (.t 0)) (y := (.t 8)) (env := (.i .i64 (r15) :: .i .i64 ((1 + r13)) :: .i .i64 (r13) :: .i .i64 (((2 + r2) - 1)) :: .i .i64 (((r9 + (2 + r2)) - 1)) :: .i .i64 ((r9 + (2 + r2))) :: .i .i64 (r9) :: .i .i64 (((2 + r2) - 1)) :: .i .i64 ((1 + r6)) :: .i .i64 (r6) :: .i .i64 ((r4 + 5)) :: .i .i64 (r4) :: .i .i64 ((2 + r2)) :: .i .i64 (r2) :: .i .i64 ((r0 + 5)) :: .i .i64 (r0) :: env)) (h := h) (a := r15) (b := (1 + r6)) rfl rfl (by omega) (by omega)
  obtain ⟨r17, b17, c17, p17, s17⟩ := rem_step (call := call) (d := 47) (x := (.t 0)) (y := (.t 9)) (env := (.i .i64 ((r15 + (1 + r6))) :: .i .i64 (r15) :: .i .i64 ((1 + r13)) :: .i .i64 (r13) :: .i .i64 (((2 + r2) - 1)) :: .i .i64 (((r9 + (2 + r2)) - 1)) :: .i .i64 ((r9 + (2 + r2))) :: .i .i64 (r9) :: .i .i64 (((2 + r2) - 1)) :: .i .i64 ((1 + r6)) :: .i .i64 (r6) :: .i .i64 ((r4 + 5)) :: .i .i64 (r4) :: .i .i64 ((2 + r2)) :: .i .i64 (r2) :: .i .i64 ((r0 + 5)) :: .i .i64 (r0) :: env)) (h := h) (a := (r15 + (1 + r6))) (c := (1 + r6)) rfl rfl (by omega)
  let d : Nat → Int := fun k => ([(r15 + (1 + r6)), r15, r13, ((2 + r2) - 1), ((r9 + (2 + r2)) - 1), (r9 + (2 + r2)), r9, ((2 + r2) - 1), r6, (r4 + 5), r4, r2, (r0 + 5), r0] : List Int).getD k 0
  have e : (spine 3 c5).2 = .seq (.reg [.op ⟨some 21, none, .bin .rem (.t 3) (.k (.i .i64 5))⟩, .op ⟨some 22, none, .bin .add (.t 0) (.k (.i .i64 5))⟩, .op ⟨some 23, none, .bin .rem (.t 0) (.k (.i .i64 5))⟩, .op ⟨some 24, none, .bin .add (.k (.i .i64 2)) (.t 0)⟩, .op ⟨some 26, none, .bin .rem (.t 8) (.k (.i .i64 5))⟩, .op ⟨some 27, none, .bin .add (.t 0) (.k (.i .i64 5))⟩, .op ⟨some 28, none, .bin .rem (.t 0) (.k (.i .i64 5))⟩, .op ⟨some 29, none, .bin .add (.k (.i .i64 1)) (.t 0)⟩]) (.seq (.post (.reg [.op ⟨some 32, none, .bin .sub (.t 4) (.k (.i .i64 1))⟩, .op ⟨some 33, none, .bin .rem (.t 14) (.t 0)⟩, .op ⟨some 35, none, .bin .add (.t 0) (.t 6)⟩, .op ⟨some 36, none, .bin .sub (.t 0) (.k (.i .i64 1))⟩, .op ⟨some 38, none, .bin .sub (.t 8) (.k (.i .i64 1))⟩, .op ⟨some 39, none, .bin .rem (.t 1) (.t 0)⟩, .op ⟨some 40, none, .bin .add (.k (.i .i64 1)) (.t 0)⟩, .op ⟨some 43, none, .bin .rem (.t 21) (.t 7)⟩, .op ⟨some 45, none, .bin .add (.t 0) (.t 8)⟩, .op ⟨some 47, none, .bin .rem (.t 0) (.t 9)⟩]) [0, 1, 2, 3] [14, 10, 3, 0]) (seqR (seqR (spine 3 c5).2))) := rfl
  refine ⟨(2 + r2), (1 + r6), (1 + r13), r17, d, by omega, by omega, by omega, by omega, ?_⟩
  have e2 : tsP ((2 + r2)) ((1 + r6)) ((1 + r13)) (r17) d ++ env = .i .i64 (r17) :: .i .i64 ((r15 + (1 + r6))) :: .i .i64 (r15) :: .i .i64 ((1 + r13)) :: .i .i64 (r13) :: .i .i64 (((2 + r2) - 1)) :: .i .i64 (((r9 + (2 + r2)) - 1)) :: .i .i64 ((r9 + (2 + r2))) :: .i .i64 (r9) :: .i .i64 (((2 + r2) - 1)) :: .i .i64 ((1 + r6)) :: .i .i64 (r6) :: .i .i64 ((r4 + 5)) :: .i .i64 (r4) :: .i .i64 ((2 + r2)) :: .i .i64 (r2) :: .i .i64 ((r0 + 5)) :: .i .i64 (r0) :: env := rfl
  rw [e, tsX, e2]
  simp only [execD, runB_nil, runB_op, s0, s1, s2, s3, s4, s5, s6, s7, s8, s9, s10, s11, s12, s13, s14, s15, s16, s17]
theorem walkD (x y z w : Int) : ∃ h', callD (fun g => FTl.get g) 1000000 2000 5 [.i .i64 x, .i .i64 y, .i .i64 z, .i .i64 w] h0 = some (.b true, h') := by
  have hc : CSnd (callD (fun g => FTl.get g) 1000000 1999) tsCk := callF_some 1999
  obtain ⟨env, h, h1, hx⟩ := ahead_at hc (ts_pre0 x y z w)
  obtain ⟨env1, g1, k1, hy⟩ := ahead_at hc (ts_pre1 x y z w)
  obtain ⟨q1, _⟩ := same_end h1 k1
  rw [← q1] at hy
  obtain ⟨env2, g2, k2, hz⟩ := ahead_at hc (ts_pre2 x y z w)
  obtain ⟨q2, _⟩ := same_end h1 k2
  rw [← q2] at hz
  obtain ⟨env3, g3, k3, hw⟩ := ahead_at hc (ts_pre3 x y z w)
  obtain ⟨q3, _⟩ := same_end h1 k3
  rw [← q3] at hw
  obtain ⟨n, m, a, b, d, b1, b2, b3, b4, hr⟩ := ts_regs (call := callD (fun g => FTl.get g) 1000000 1999) (h := h) (tmE_get hx) (tmE_get hy) (tmE_get hz) (tmE_get hw)
  obtain ⟨h'', h3⟩ := ahead_then (vs := tsP n m a b d) hc (tc_all n m a b b1 b2 b3 b4 x y z w d) h1
  refine ⟨h'', callD_code (np := 4) (b := c5) rfl rfl ?_⟩
  have e0 : c5 = nest tsL (spine 3 c5).2 := (nest_spine 3 c5).symm
  rw [e0, nest_run h1, hr, h3]
theorem ftAllLaw : TrAll (FGood Tryz.prog T) FTl id := ftAllLast
end Go.Proofs.YtlnffaalhedfmaaGreatDoor
