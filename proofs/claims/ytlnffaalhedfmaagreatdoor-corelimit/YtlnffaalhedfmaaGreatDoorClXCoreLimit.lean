/- CoreLimit, run. -/
import Derived.Test.YtlnffaalhedfmaaGreatDoorClAll
import Derived.Test.YtlnffaalhedfmaaGreatDoorClY0
import Derived.Test.YtlnffaalhedfmaaGreatDoorClY1
import Derived.Test.YtlnffaalhedfmaaGreatDoorClY2
import Derived.Test.YtlnffaalhedfmaaGreatDoorClY3
import Derived.Test.YtlnffaalhedfmaaGreatDoorClY4
import Derived.Test.YtlnffaalhedfmaaGreatDoorClY5
import Derived.Test.YtlnffaalhedfmaaGreatDoorClY6
import Derived.Test.YtlnffaalhedfmaaGreatDoorClY7
import Derived.Test.YtlnffaalhedfmaaGreatDoorClY8
import Derived.Test.YtlnffaalhedfmaaGreatDoorClY9
import Derived.Test.YtlnffaalhedfmaaGreatDoorClY10
import Derived.Test.YtlnffaalhedfmaaGreatDoorClY11
import Derived.Test.YtlnffaalhedfmaaGreatDoorClY12
import Derived.Test.YtlnffaalhedfmaaGreatDoorClY13
import Derived.Test.YtlnffaalhedfmaaGreatDoorClY14
import Derived.Test.YtlnffaalhedfmaaGreatDoorClY15
namespace Go.Proofs.YtlnffaalhedfmaaGreatDoor
open Go.Ev
set_option maxRecDepth 100000
theorem cc_all (n m : Int) (hn : 36 ≤ n ∧ n < 44) (hm : 36 ≤ m ∧ m < 44) : CC n m := by
  have hn2 : n = 36 ∨ n = 37 ∨ n = 38 ∨ n = 39 ∨ n = 40 ∨ n = 41 ∨ n = 42 ∨ n = 43 := by omega
  have hm2 : m = 36 ∨ m = 37 ∨ m = 38 ∨ m = 39 ∨ m = 40 ∨ m = 41 ∨ m = 42 ∨ m = 43 := by omega
  clear hn hm
  rcases hn2 with rfl | rfl | rfl | rfl | rfl | rfl | rfl | rfl <;> rcases hm2 with rfl | rfl | rfl | rfl | rfl | rfl | rfl | rfl
  · exact cc36x36
  · exact cc36x37
  · exact cc36x38
  · exact cc36x39
  · exact cc36x40
  · exact cc36x41
  · exact cc36x42
  · exact cc36x43
  · exact cc37x36
  · exact cc37x37
  · exact cc37x38
  · exact cc37x39
  · exact cc37x40
  · exact cc37x41
  · exact cc37x42
  · exact cc37x43
  · exact cc38x36
  · exact cc38x37
  · exact cc38x38
  · exact cc38x39
  · exact cc38x40
  · exact cc38x41
  · exact cc38x42
  · exact cc38x43
  · exact cc39x36
  · exact cc39x37
  · exact cc39x38
  · exact cc39x39
  · exact cc39x40
  · exact cc39x41
  · exact cc39x42
  · exact cc39x43
  · exact cc40x36
  · exact cc40x37
  · exact cc40x38
  · exact cc40x39
  · exact cc40x40
  · exact cc40x41
  · exact cc40x42
  · exact cc40x43
  · exact cc41x36
  · exact cc41x37
  · exact cc41x38
  · exact cc41x39
  · exact cc41x40
  · exact cc41x41
  · exact cc41x42
  · exact cc41x43
  · exact cc42x36
  · exact cc42x37
  · exact cc42x38
  · exact cc42x39
  · exact cc42x40
  · exact cc42x41
  · exact cc42x42
  · exact cc42x43
  · exact cc43x36
  · exact cc43x37
  · exact cc43x38
  · exact cc43x39
  · exact cc43x40
  · exact cc43x41
  · exact cc43x42
  · exact cc43x43
theorem cl_pre0 (x y : Int) : execF clCk 1000000 (nest clL .skip) [.i .i64 x, .i .i64 y] h0 (kP 3) noE noR = some (.i .i64 x, ⟨0, .lf⟩) := by kernel_rfl
theorem cl_pre1 (x y : Int) : execF clCk 1000000 (nest clL .skip) [.i .i64 x, .i .i64 y] h0 (kP 4) noE noR = some (.i .i64 y, ⟨0, .lf⟩) := by kernel_rfl
theorem cl_regs {call : CallF} {x y : Int} {env : List V} {h : H} (hx : tmE env 3 = .i .i64 x) (hy : tmE env 4 = .i .i64 y) :
    ∃ (n m : Int) (d : Nat → Int), (36 ≤ n ∧ n < 44) ∧ (36 ≤ m ∧ m < 44) ∧ execD call 1000000 (spine 3 c4).2 env h = execD call 1000000 clX (clP n m d ++ env) h := by
  obtain ⟨r0, b0, bb0, p0, s0⟩ := rem_step (call := call) (d := 16) (x := (.t 3)) (y := (.k (.i .i64 8))) (env := env) (h := h) (a := x) (c := 8) hx rfl (by omega)
  have s1 := add_step (call := call) (d := 17) (x := (.t 0)) (y := (.k (.i .i64 8))) (env := (.i .i64 (r0) :: env)) (h := h) (a := r0) (b := 8) rfl rfl (by omega) (by omega)
  obtain ⟨r2, b2, bb2, p2, s2⟩ := rem_step (call := call) (d := 18) (x := (.t 0)) (y := (.k (.i .i64 8))) (env := (.i .i64 ((r0 + 8)) :: .i .i64 (r0) :: env)) (h := h) (a := (r0 + 8)) (c := 8) rfl rfl (by omega)
  have s3 := add_step (call := call) (d := 19) (x := (.k (.i .i64 36))) (y := (.t 0)) (env := (.i .i64 (r2) :: .i .i64 ((r0 + 8)) :: .i .i64 (r0) :: env)) (h := h) (a := 36) (b := r2) rfl rfl (by omega) (by omega)
  obtain ⟨r4, b4, bb4, p4, s4⟩ := rem_step (call := call) (d := 21) (x := (.t 8)) (y := (.k (.i .i64 8))) (env := (.i .i64 ((36 + r2)) :: .i .i64 (r2) :: .i .i64 ((r0 + 8)) :: .i .i64 (r0) :: env)) (h := h) (a := y) (c := 8) hy rfl (by omega)
  have s5 := add_step (call := call) (d := 22) (x := (.t 0)) (y := (.k (.i .i64 8))) (env := (.i .i64 (r4) :: .i .i64 ((36 + r2)) :: .i .i64 (r2) :: .i .i64 ((r0 + 8)) :: .i .i64 (r0) :: env)) (h := h) (a := r4) (b := 8) rfl rfl (by omega) (by omega)
  obtain ⟨r6, b6, bb6, p6, s6⟩ := rem_step (call := call) (d := 23) (x := (.t 0)) (y := (.k (.i .i64 8))) (env := (.i .i64 ((r4 + 8)) :: .i .i64 (r4) :: .i .i64 ((36 + r2)) :: .i .i64 (r2) :: .i .i64 ((r0 + 8)) :: .i .i64 (r0) :: env)) (h := h) (a := (r4 + 8)) (c := 8) rfl rfl (by omega)
  have s7 := add_step (call := call) (d := 24) (x := (.k (.i .i64 36))) (y := (.t 0)) (env := (.i .i64 (r6) :: .i .i64 ((r4 + 8)) :: .i .i64 (r4) :: .i .i64 ((36 + r2)) :: .i .i64 (r2) :: .i .i64 ((r0 + 8)) :: .i .i64 (r0) :: env)) (h := h) (a := 36) (b := r6) rfl rfl (by omega) (by omega)
  let d : Nat → Int := fun k => ([r6, (r4 + 8), r4, r2, (r0 + 8), r0] : List Int).getD k 0
  have e : (spine 3 c4).2 = .seq (.post (.reg [o 16 (.bin .rem (.t 3) (.k (.i .i64 8))), o 17 (.bin .add (.t 0) (.k (.i .i64 8))), o 18 (.bin .rem (.t 0) (.k (.i .i64 8))), o 19 (.bin .add (.k (.i .i64 36)) (.t 0)), o 21 (.bin .rem (.t 8) (.k (.i .i64 8))), o 22 (.bin .add (.t 0) (.k (.i .i64 8))), o 23 (.bin .rem (.t 0) (.k (.i .i64 8))), o 24 (.bin .add (.k (.i .i64 36)) (.t 0))]) [0, 1] [4, 0]) (seqR (spine 3 c4).2) := rfl
  refine ⟨(36 + r2), (36 + r6), d, by omega, by omega, ?_⟩
  have e2 : clP ((36 + r2)) ((36 + r6)) d ++ env = .i .i64 ((36 + r6)) :: .i .i64 (r6) :: .i .i64 ((r4 + 8)) :: .i .i64 (r4) :: .i .i64 ((36 + r2)) :: .i .i64 (r2) :: .i .i64 ((r0 + 8)) :: .i .i64 (r0) :: env := rfl
  rw [e, clX, e2]
  simp only [execD, o, runB_nil, runB_op, s0, s1, s2, s3, s4, s5, s6, s7]
theorem walkD (x y : Int) : ∃ h', callD (fun g => FTl.get g) 1000000 2000 4 [.i .i64 x, .i .i64 y] h0 = some (.b true, h') := by
  have hc : CSnd (callD (fun g => FTl.get g) 1000000 1999) clCk := callF_some 1999
  obtain ⟨env, h, h1, hx⟩ := ahead_at hc (cl_pre0 x y)
  obtain ⟨env1, g1, k1, hy⟩ := ahead_at hc (cl_pre1 x y)
  obtain ⟨q1, _⟩ := same_end h1 k1
  rw [← q1] at hy
  obtain ⟨n, m, d, b1, b2, hr⟩ := cl_regs (call := callD (fun g => FTl.get g) 1000000 1999) (h := h) (tmE_get hx) (tmE_get hy)
  obtain ⟨h'', h3⟩ := ahead_then (vs := clP n m d) hc (cc_all n m b1 b2 x y d) h1
  refine ⟨h'', callD_code (np := 2) (b := c4) rfl rfl ?_⟩
  have e0 : c4 = nest clL (spine 3 c4).2 := (nest_spine 3 c4).symm
  rw [e0, nest_run h1, hr, h3]
theorem ftAllLaw : TrAll (FGood Tryz.prog T) FTl id := ftAllLast
end Go.Proofs.YtlnffaalhedfmaaGreatDoor
