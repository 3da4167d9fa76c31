/- TreeOwn, run by the kernel over an unknown text. -/
import Derived.Test.YtlnffaalhedfmaaGreatDoorEvAll
import Derived.Test.YtlnffaalhedfmaaGreatDoorEvL7
namespace Go.Proofs.YtlnffaalhedfmaaGreatDoor
open Go.Ev
set_option maxRecDepth 100000
/-- What Text answers at nine bytes. -/
def primT : List V → H → R := fun args h => match args with
  | [.s l, .i .i64 9] => some (.s (l.take 9), h)
  | _ => none
theorem text_run (l : List Nat) (h : H) : callD (fun g => FT0.get g) 1 1 18 [.s l, .i .i64 9] h = some (.s (l.take 9), h) := by
  refine callD_code (np := 2) (b := c18) rfl rfl ?_
  by_cases hl : l.length ≤ 9
  · have h1 : ¬ (9 : Int) < (l.length : Int) := by omega
    have h3 : l.take 9 = l := List.take_of_length_le hl
    simp [c18, execD, runB, stepB, guardA, semAll, AO.map, AO.cls, evX, tmE, semP, mmV, bnds, hiV, loV, pushE, retsD, retV, h3, h1]
  · have h1 : (9 : Int) < (l.length : Int) := by omega
    have h2 : (9 : Int) ≤ (l.length : Int) := by omega
    simp [c18, execD, runB, stepB, guardA, semAll, AO.map, AO.cls, evX, tmE, semP, mmV, bnds, hiV, loV, pushE, retsD, retV, h1, h2]
theorem primT_ok : PrimOK Tryz.prog 18 primT := by
  refine prim_of_callD tok mix ftAll0 fun args h v h' hf => ⟨1, 1, ?_⟩
  unfold primT at hf
  split at hf
  · rw [text_run]; exact hf
  · cases hf
noncomputable def FTO : Tr FN := FTp (.prim q26x2) (.prim q27x1) (.prim q11x3) (.prim q24x4) (.prim q8x5) (.prim primT)
theorem ftAllLaw : TrAll (FGood Tryz.prog T) FTO id := ftAllp ⟨Tryz.call26, qk26x2⟩ ⟨Tryz.call27, qk27x1⟩ ⟨Tryz.call11, qk11x3⟩ ⟨Tryz.call24, qk24x4⟩ ⟨Tryz.call8, qk8x5⟩ ⟨Tryz.call18, primT_ok⟩
theorem own_run (l : List Nat) : isS (callF FTO 1000000 2000 7 [.s l] h0 kT) = true := by kernel_rfl
theorem walkD (l : List Nat) : ∃ h', callD (fun g => FTO.get g) 1000000 2000 7 [.s l] h0 = some (.b true, h') := by
  obtain ⟨r, hr⟩ := isS_some (own_run l)
  obtain ⟨v, h', h1, h2⟩ := callF_some 2000 7 _ _ _ r hr
  have hv := kT_some (h := h') h2
  subst hv
  exact ⟨h', h1⟩
end Go.Proofs.YtlnffaalhedfmaaGreatDoor
