/- The number 1 as a fraction, wherever it lies. -/
import Derived.Test.YtmbpjpffafidhaaGreatDoorCmWN
import Derived.Test.YtmbpjpffafidhaaGreatDoorCmAll
namespace Go.Proofs.YtmbpjpffafidhaaGreatDoor
open Go Go.Ev
set_option maxRecDepth 100000
set_option linter.unusedSimpArgs false
def laOne : List (Nat × Blk) := [(16, .c [.b false, .p 17 0, .p 19 0] 0 1008), (17, .c [.sl 18 0 1 2 0] 0 1228), (18, .c [.i .u32 1, .i .u32 0] 0 0), (19, .c [.sl 20 0 1 2 0] 0 1228), (20, .c [.i .u32 1, .i .u32 0] 0 0)]
theorem runT : isS (callF FT1 1000000 2000 119 [.p 16 0] (hOf 1048576 laOne) (kM (.s [49]) laOne [] 1048776)) = true := by kernel_rfl
theorem runG : isS (callF FT1 1000000 2000 116 [.p 16 0] (hOf 1048576 laOne) (kM (.i .i64 1) laOne [] 1048776)) = true := by kernel_rfl
noncomputable def pT : List V → H → R := primR 8 [.p 16 0] laOne 1048576 (.s [49]) laOne 1048776
noncomputable def pG : List V → H → R := primR 8 [.p 16 0] laOne 1048576 (.i .i64 1) laOne 1048776
theorem run_of {FT : Tr FN} {n d g : Nat} {args : List V} {la la' : List (Nat × Blk)} {NA NX : Nat} {v : V} (hr : isS (callF FT n d g args (hOf NA la) (kM v la' [] NX)) = true) :
    ∃ h1, callD (fun g => FT.get g) n d g args (hOf NA la) = some (v, h1) ∧ (∀ p ∈ la', h1.get p.1 = some p.2) ∧ h1.nx ≤ NX := by
  obtain ⟨r, hr⟩ := isS_some hr
  obtain ⟨v', h1, h2, h3⟩ := callF_some d g args _ _ _ hr
  obtain ⟨k1, k2, _, k4⟩ := kM_some h3
  subst k1
  exact ⟨h1, h2, fun p hp => hasAll_get k2 hp, k4⟩
theorem gsz : Tryz.prog.globals.size ≤ 8 := by rw [Tryz.globals_size]; decide
theorem pT_ok : PrimOK Tryz.prog 119 pT := by
  obtain ⟨h1, h2, h3, h4⟩ := run_of runT
  exact primR_ok (callD_ok tok mix (FTOK.of_tree ftAll1) 2000) gsz (by decide) h2 h3 h4 (by kernel_rfl)
theorem pG_ok : PrimOK Tryz.prog 116 pG := by
  obtain ⟨h1, h2, h3, h4⟩ := run_of runG
  exact primR_ok (callD_ok tok mix (FTOK.of_tree ftAll1) 2000) gsz (by decide) h2 h3 h4 (by kernel_rfl)
/-- The number 1 lies at a pointer, in blocks from m on. -/
def OneAt (m : Nat) (h : H) (B : Nat) : Prop := ∃ ρ, Fits 8 [.p 16 0] laOne ρ [.p B 0] h ∧ ∀ p ∈ laOne, m ≤ ρ p.1 ∧ ρ p.1 < h.nx
theorem OneAt.keep {m : Nat} {h h' : H} {B : Nat} (a : OneAt m h B) (hn : h.nx ≤ h'.nx) (hg : ∀ j, m ≤ j → j < h.nx → h'.get j = h.get j) : OneAt m h' B := by
  obtain ⟨ρ, F, hm⟩ := a
  exact ⟨ρ, ⟨F.g, F.args, fun p hp => by rw [hg _ (hm p hp).1 (hm p hp).2]; exact F.blk p hp, F.inj⟩, fun p hp => ⟨(hm p hp).1, by have := (hm p hp).2; omega⟩⟩
theorem OneAt.weak {m m' : Nat} {h : H} {B : Nat} (a : OneAt m h B) (hm : m' ≤ m) : OneAt m' h B := by
  obtain ⟨ρ, F, k⟩ := a
  exact ⟨ρ, F, fun p hp => ⟨by have := (k p hp).1; omega, (k p hp).2⟩⟩
theorem one_same {NX : Nat} {ρ : Nat → Nat} {B : Nat} {h : H} (F : Fits 8 [.p 16 0] laOne ρ [.p B 0] h) (hl : ∀ p ∈ laOne, ρ p.1 < h.nx) (hNX : 1048576 ≤ NX) : Ext h (frH 1048576 NX ρ laOne laOne h) := by
  have hs : ∀ p ∈ laOne, sg 1048576 h.nx ρ p.1 = ρ p.1 := by
    intro p hp
    simp only [laOne, List.mem_cons, List.mem_nil_iff, or_false] at hp
    rcases hp with rfl | rfl | rfl | rfl | rfl <;> rfl
  have hb : ∀ p ∈ laOne, rnB (sg 1048576 h.nx ρ) p.2 = rnB ρ p.2 := by
    intro p hp
    simp only [laOne, List.mem_cons, List.mem_nil_iff, or_false] at hp
    rcases hp with rfl | rfl | rfl | rfl | rfl <;> rfl
  have hnd : ((laOne.map (·.1)).map (sg 1048576 h.nx ρ)).Nodup := by
    have n01 : ρ 16 ≠ ρ 17 := F.inj _ (List.getElem_mem (show 0 < laOne.length by decide)) _ (List.getElem_mem (show 1 < laOne.length by decide)) (by decide)
    have n02 : ρ 16 ≠ ρ 18 := F.inj _ (List.getElem_mem (show 0 < laOne.length by decide)) _ (List.getElem_mem (show 2 < laOne.length by decide)) (by decide)
    have n03 : ρ 16 ≠ ρ 19 := F.inj _ (List.getElem_mem (show 0 < laOne.length by decide)) _ (List.getElem_mem (show 3 < laOne.length by decide)) (by decide)
    have n04 : ρ 16 ≠ ρ 20 := F.inj _ (List.getElem_mem (show 0 < laOne.length by decide)) _ (List.getElem_mem (show 4 < laOne.length by decide)) (by decide)
    have n12 : ρ 17 ≠ ρ 18 := F.inj _ (List.getElem_mem (show 1 < laOne.length by decide)) _ (List.getElem_mem (show 2 < laOne.length by decide)) (by decide)
    have n13 : ρ 17 ≠ ρ 19 := F.inj _ (List.getElem_mem (show 1 < laOne.length by decide)) _ (List.getElem_mem (show 3 < laOne.length by decide)) (by decide)
    have n14 : ρ 17 ≠ ρ 20 := F.inj _ (List.getElem_mem (show 1 < laOne.length by decide)) _ (List.getElem_mem (show 4 < laOne.length by decide)) (by decide)
    have n23 : ρ 18 ≠ ρ 19 := F.inj _ (List.getElem_mem (show 2 < laOne.length by decide)) _ (List.getElem_mem (show 3 < laOne.length by decide)) (by decide)
    have n24 : ρ 18 ≠ ρ 20 := F.inj _ (List.getElem_mem (show 2 < laOne.length by decide)) _ (List.getElem_mem (show 4 < laOne.length by decide)) (by decide)
    have n34 : ρ 19 ≠ ρ 20 := F.inj _ (List.getElem_mem (show 3 < laOne.length by decide)) _ (List.getElem_mem (show 4 < laOne.length by decide)) (by decide)
    simp [laOne, sg, n01, n02, n03, n04, n12, n13, n14, n23, n24, n34]
  refine ⟨by show h.nx ≤ h.nx + (NX - 1048576); omega, fun j hj => ?_⟩
  by_cases hx : ∃ p ∈ laOne, ρ p.1 = j
  · obtain ⟨p, hp, rfl⟩ := hx
    have := frH_new (NX := NX) (la := laOne) hp hnd
    rw [hs p hp, hb p hp] at this
    rw [this, F.blk p hp]
  · refine frH_old (fun p hp e => hx ⟨p, hp, ?_⟩) fun p hp e => hx ⟨p, hp, e⟩
    rw [← hs p hp]
    exact e
theorem one_text {m : Nat} {h : H} {B : Nat} (a : OneAt m h B) : ∃ h', pT [.p B 0] h = some (.s [49], h') ∧ Ext h h' := by
  obtain ⟨ρ, F, hm⟩ := a
  exact ⟨_, primR_eq F (by kernel_rfl), one_same F (fun p hp => (hm p hp).2) (by omega)⟩
theorem one_sign {m : Nat} {h : H} {B : Nat} (a : OneAt m h B) : ∃ h', pG [.p B 0] h = some (.i .i64 1, h') ∧ Ext h h' := by
  obtain ⟨ρ, F, hm⟩ := a
  exact ⟨_, primR_eq F (by kernel_rfl), one_same F (fun p hp => (hm p hp).2) (by omega)⟩
/-- lit.Get of the text 1. -/
def lnOne : List (Nat × Blk) := [(1048586, .c [.i .u32 1, .i .u32 0] 0 0), (1048587, .c [.sl 1048586 0 1 2 0] 0 1228), (1048598, .c [.i .u32 1, .i .u32 0] 0 0), (1048599, .c [.sl 1048598 0 1 2 0] 0 1228), (1048604, .c [.b false, .p 1048587 0, .p 1048599 0] 0 1008)]
theorem runL : isS (callF FT1 1000000 2000 152 [.s [49]] (hOf 1048576 []) (kM (.tu [.p 1048604 0, .b true]) lnOne [] 1048611)) = true := by kernel_rfl
noncomputable def pL : List V → H → R := primR 8 [.s [49]] [] 1048576 (.tu [.p 1048604 0, .b true]) lnOne 1048611
theorem pL_ok : PrimOK Tryz.prog 152 pL := by
  obtain ⟨h1, h2, h3, h4⟩ := run_of runL
  exact primR_ok (callD_ok tok mix (FTOK.of_tree ftAll1) 2000) gsz (by decide) h2 h3 h4 (by kernel_rfl)
theorem one_lit (h : H) : ∃ h', pL [.s [49]] h = some (.tu [.p (28 + h.nx) 0, .b true], h') ∧ Ext h h' ∧ OneAt h.nx h' (28 + h.nx) := by
  have F : Fits 8 [.s [49]] [] id [.s [49]] h := ⟨fun _ _ => rfl, rfl, fun p hp => (nomatch hp), fun p hp => (nomatch hp)⟩
  have hnx : (frH 1048576 1048611 id [] lnOne h).nx = h.nx + 35 := rfl
  have hnd : ((lnOne.map (·.1)).map (sg 1048576 h.nx id)).Nodup := by
    simp [lnOne, sg]
  have hget : ∀ p ∈ lnOne, (frH 1048576 1048611 id [] lnOne h).get (sg 1048576 h.nx id p.1) = some (rnB (sg 1048576 h.nx id) p.2) := fun p hp => frH_new hp hnd
  refine ⟨frH 1048576 1048611 id [] lnOne h, primR_eq F (by kernel_rfl), ⟨by rw [hnx]; omega, fun j hj => frH_old (fun p hp => ?_) fun p hp => (nomatch hp)⟩, ?_⟩
  · simp only [lnOne, List.mem_cons, List.mem_nil_iff, or_false] at hp
    rcases hp with rfl | rfl | rfl | rfl | rfl <;> simp [sg] <;> omega
  · refine ⟨fun B => if B = 16 then 28 + h.nx else if B = 17 then 11 + h.nx else if B = 18 then 10 + h.nx else if B = 19 then 23 + h.nx else if B = 20 then 22 + h.nx else B, ⟨fun g hg => ?_, rfl, fun p hp => ?_, fun p hp q hq hne => ?_⟩, fun p hp => ?_⟩
    · show (if g = 16 then _ else _) = g
      rw [if_neg (by omega), if_neg (by omega), if_neg (by omega), if_neg (by omega), if_neg (by omega)]
    · simp only [laOne, List.mem_cons, List.mem_nil_iff, or_false] at hp
      rcases hp with rfl | rfl | rfl | rfl | rfl
      · have := hget (lnOne[4]) (List.getElem_mem (show 4 < lnOne.length by decide))
        simp [lnOne, sg, rnB, rnVs, rnV] at this ⊢
        exact this
      · have := hget (lnOne[1]) (List.getElem_mem (show 1 < lnOne.length by decide))
        simp [lnOne, sg, rnB, rnVs, rnV] at this ⊢
        exact this
      · have := hget (lnOne[0]) (List.getElem_mem (show 0 < lnOne.length by decide))
        simp [lnOne, sg, rnB, rnVs, rnV] at this ⊢
        exact this
      · have := hget (lnOne[3]) (List.getElem_mem (show 3 < lnOne.length by decide))
        simp [lnOne, sg, rnB, rnVs, rnV] at this ⊢
        exact this
      · have := hget (lnOne[2]) (List.getElem_mem (show 2 < lnOne.length by decide))
        simp [lnOne, sg, rnB, rnVs, rnV] at this ⊢
        exact this
    · simp only [laOne, List.mem_cons, List.mem_nil_iff, or_false] at hp hq
      rcases hp with rfl | rfl | rfl | rfl | rfl <;> rcases hq with rfl | rfl | rfl | rfl | rfl <;> simp at hne ⊢
    · simp only [laOne, List.mem_cons, List.mem_nil_iff, or_false] at hp
      rw [hnx]
      rcases hp with rfl | rfl | rfl | rfl | rfl <;> simp <;> omega
end Go.Proofs.YtmbpjpffafidhaaGreatDoor
