/- SplitBad, run: the six cases by the kernel, the number's remainder by hand. -/
import Derived.Test.YtlnffaalhedfmaaGreatDoorEvAll
import Derived.Test.YtlnffaalhedfmaaGreatDoorEvL7
namespace Go.Proofs.YtlnffaalhedfmaaGreatDoor
open Go.Ev
set_option maxRecDepth 100000
def sbL : List BC := (spine 7 c6).1
def sbB : BC := seqR (seqL (spine 7 c6).2)
def sbT : BC := seqR (spine 7 c6).2
def sbX : BC := .seq (.seq (.reg []) sbB) sbT
noncomputable def ck : CallK := callF FT6 1000000 1999
theorem sb_pre (x : Int) : execF ck 1000000 (nest sbL .skip) [.i .i64 x] h0 (kP 1) noE noR = some (.i .i64 x, ⟨0, .lf⟩) := by kernel_rfl
theorem sb0 (x a b : Int) : isS (execF ck 1000000 (nest sbL .skip) [.i .i64 x] h0 (fun env h => execF ck 1000000 sbX ([.i .i64 0, .i .i64 a, .i .i64 b] ++ env) h noN noE kT) noE noR) = true := by kernel_rfl
theorem sb1 (x a b : Int) : isS (execF ck 1000000 (nest sbL .skip) [.i .i64 x] h0 (fun env h => execF ck 1000000 sbX ([.i .i64 1, .i .i64 a, .i .i64 b] ++ env) h noN noE kT) noE noR) = true := by kernel_rfl
theorem sb2 (x a b : Int) : isS (execF ck 1000000 (nest sbL .skip) [.i .i64 x] h0 (fun env h => execF ck 1000000 sbX ([.i .i64 2, .i .i64 a, .i .i64 b] ++ env) h noN noE kT) noE noR) = true := by kernel_rfl
theorem sb3 (x a b : Int) : isS (execF ck 1000000 (nest sbL .skip) [.i .i64 x] h0 (fun env h => execF ck 1000000 sbX ([.i .i64 3, .i .i64 a, .i .i64 b] ++ env) h noN noE kT) noE noR) = true := by kernel_rfl
theorem sb4 (x a b : Int) : isS (execF ck 1000000 (nest sbL .skip) [.i .i64 x] h0 (fun env h => execF ck 1000000 sbX ([.i .i64 4, .i .i64 a, .i .i64 b] ++ env) h noN noE kT) noE noR) = true := by kernel_rfl
theorem sb5 (x a b : Int) : isS (execF ck 1000000 (nest sbL .skip) [.i .i64 x] h0 (fun env h => execF ck 1000000 sbX ([.i .i64 5, .i .i64 a, .i .i64 b] ++ env) h noN noE kT) noE noR) = true := by kernel_rfl
theorem sb_all (x a b c : Int) (h : 0 ≤ c ∧ c < 6) : isS (execF ck 1000000 (nest sbL .skip) [.i .i64 x] h0 (fun env h => execF ck 1000000 sbX ([.i .i64 c, .i .i64 a, .i .i64 b] ++ env) h noN noE kT) noE noR) = true := by
  have hc : c = 0 ∨ c = 1 ∨ c = 2 ∨ c = 3 ∨ c = 4 ∨ c = 5 := by omega
  rcases hc with rfl | rfl | rfl | rfl | rfl | rfl
  · exact sb0 x a b
  · exact sb1 x a b
  · exact sb2 x a b
  · exact sb3 x a b
  · exact sb4 x a b
  · exact sb5 x a b
theorem sb_x {call : CallF} {x : Int} {env : List V} {h : H} (hp : env[1]? = some (.i .i64 x)) :
    execD call 1000000 (spine 7 c6).2 env h = execD call 1000000 sbX ([.i .i64 (md x 6), .i .i64 (x.tmod 6 + 6), .i .i64 (x.tmod 6)] ++ env) h := by
  have e : (spine 7 c6).2 = .seq (.seq (.reg [.op ⟨some 35, none, .bin .rem (.t 1) (.k (.i .i64 6))⟩, .op ⟨some 36, none, .bin .add (.t 0) (.k (.i .i64 6))⟩, .op ⟨some 37, none, .bin .rem (.t 0) (.k (.i .i64 6))⟩]) sbB) sbT := rfl
  have h1 := md_run (call := call) (d1 := 35) (d2 := 36) (d3 := 37) (h := h) (by decide : (0 : Int) < 6) (by decide) hp
  rw [e, sbX]
  simp only [execD, h1, runB_nil, List.cons_append, List.nil_append]
theorem walkD (x : Int) : ∃ h', callD (fun g => FT6.get g) 1000000 2000 6 [.i .i64 x] h0 = some (.b true, h') := by
  have hc : CSnd (callD (fun g => FT6.get g) 1000000 1999) ck := callF_some 1999
  obtain ⟨env, h, h1, h2⟩ := ahead_at hc (sb_pre x)
  obtain ⟨h'', h3⟩ := ahead_then (vs := [.i .i64 (md x 6), .i .i64 (x.tmod 6 + 6), .i .i64 (x.tmod 6)]) hc (sb_all x _ _ _ (md_lt x (by decide))) h1
  refine ⟨h'', callD_code (np := 1) (b := c6) rfl rfl ?_⟩
  have e0 : c6 = nest sbL (spine 7 c6).2 := (nest_spine 7 c6).symm
  rw [e0, nest_run h1, sb_x h2, h3]
theorem ftAllLaw : TrAll (FGood Tryz.prog T) FT6 id := ftAllLast
end Go.Proofs.YtlnffaalhedfmaaGreatDoor
