/- WordsLimit, run: the whole. -/
import Derived.Test.YtlnffaalhedfmaaGreatDoorWlV1
namespace Go.Proofs.YtlnffaalhedfmaaGreatDoor
open Go.Ev
set_option maxRecDepth 100000
set_option linter.unusedSimpArgs false
theorem primS_at {args args' : List V} {NA NX : Nat} {v : V} {ln : List (Nat × Blk)} {h : H} (he : eqvs args' args = true) (hn : h.nx ≤ NA) : primS args [] NA v ln NX args' h = some (shV NA h.nx v, ⟨h.nx + (NX - NA), putL (shL NA h.nx ln) h.t⟩) := by
  have h2 : Nat.ble h.nx NA = true := Nat.ble_eq_true_of_le hn
  unfold primS
  rw [he, h2, fLn_eq, putLF_eq, fV_eq, fN_eq]
  rfl
theorem primS_no {args args' : List V} {la : List (Nat × Blk)} {NA NX : Nat} {v : V} {ln : List (Nat × Blk)} {h : H} (he : eqvs args' args = false) : primS args la NA v ln NX args' h = none := by
  unfold primS
  rw [he]
  rfl
theorem primQ_at {args args' : List V} {NA : Nat} {v : V} {h : H} (he : eqvs args' args = true) (hn : h.nx ≤ NA) : primQ args [] NA v args' h = some (v, h) := by
  have h2 : Nat.ble h.nx NA = true := Nat.ble_eq_true_of_le hn
  unfold primQ
  rw [he, h2]
  rfl
theorem primQ_no {args args' : List V} {la : List (Nat × Blk)} {NA : Nat} {v : V} {h : H} (he : eqvs args' args = false) : primQ args la NA v args' h = none := by
  unfold primQ
  rw [he]
  rfl
theorem orF_yes {f g : List V → H → R} {args : List V} {h : H} {r : V × H} (hf : f args h = some r) : orF f g args h = some r := by
  unfold orF
  rw [hf]
theorem orF_no {f g : List V → H → R} {args : List V} {h : H} (hf : f args h = none) : orF f g args h = g args h := by
  unfold orF
  rw [hf]
def wlT (n : Nat) : List Nat := [120, 10] ++ List.replicate n 97 ++ [10, 121]
theorem w9_195 (h : H) (hn : h.nx ≤ 262144) : ∃ h', w9 [.s (wlT 195)] h = some (.tu [.sl (shN 262144 h.nx 262166) 0 3 3 3, .i .i64 0, .i .i64 0], h') := by
  have e195 : eqvs [.s (wlT 195)] a69 = true := by kernel_rfl
  refine ⟨⟨h.nx + (262167 - 262144), putL (shL 262144 h.nx ln69) h.t⟩, ?_⟩
  unfold w9
  have hv : shV 262144 h.nx v69 = .tu [.sl (shN 262144 h.nx 262166) 0 3 3 3, .i .i64 0, .i .i64 0] := by simp only [v69, shV, shVs]
  rw [← hv]
  exact orF_yes (primS_at (v := v69) (ln := ln69) (NX := 262167) e195 hn)
theorem w9_196 (h : H) (hn : h.nx ≤ 262144) : ∃ h', w9 [.s (wlT 196)] h = some (.tu [.sl (shN 262144 h.nx 262166) 0 3 3 3, .i .i64 0, .i .i64 0], h') := by
  have e195 : eqvs [.s (wlT 196)] a69 = false := by kernel_rfl
  have e196 : eqvs [.s (wlT 196)] a71 = true := by kernel_rfl
  refine ⟨⟨h.nx + (262167 - 262144), putL (shL 262144 h.nx ln71) h.t⟩, ?_⟩
  unfold w9
  rw [orF_no (f := p69) (primS_no e195)]
  have hv : shV 262144 h.nx v71 = .tu [.sl (shN 262144 h.nx 262166) 0 3 3 3, .i .i64 0, .i .i64 0] := by simp only [v71, shV, shVs]
  rw [← hv]
  exact orF_yes (primS_at (v := v71) (ln := ln71) (NX := 262167) e196 hn)
theorem w9_197 (h : H) (hn : h.nx ≤ 262144) : ∃ h', w9 [.s (wlT 197)] h = some (.tu [.sl (shN 262144 h.nx 262166) 0 3 3 3, .i .i64 0, .i .i64 0], h') := by
  have e195 : eqvs [.s (wlT 197)] a69 = false := by kernel_rfl
  have e196 : eqvs [.s (wlT 197)] a71 = false := by kernel_rfl
  have e197 : eqvs [.s (wlT 197)] a73 = true := by kernel_rfl
  refine ⟨⟨h.nx + (262167 - 262144), putL (shL 262144 h.nx ln73) h.t⟩, ?_⟩
  unfold w9
  rw [orF_no (f := p69) (primS_no e195)]
  rw [orF_no (f := p71) (primS_no e196)]
  have hv : shV 262144 h.nx v73 = .tu [.sl (shN 262144 h.nx 262166) 0 3 3 3, .i .i64 0, .i .i64 0] := by simp only [v73, shV, shVs]
  rw [← hv]
  exact orF_yes (primS_at (v := v73) (ln := ln73) (NX := 262167) e197 hn)
theorem w9_198 (h : H) (hn : h.nx ≤ 262144) : ∃ h', w9 [.s (wlT 198)] h = some (.tu [.sl (shN 262144 h.nx 262166) 0 3 3 3, .i .i64 0, .i .i64 0], h') := by
  have e195 : eqvs [.s (wlT 198)] a69 = false := by kernel_rfl
  have e196 : eqvs [.s (wlT 198)] a71 = false := by kernel_rfl
  have e197 : eqvs [.s (wlT 198)] a73 = false := by kernel_rfl
  have e198 : eqvs [.s (wlT 198)] a75 = true := by kernel_rfl
  refine ⟨⟨h.nx + (262167 - 262144), putL (shL 262144 h.nx ln75) h.t⟩, ?_⟩
  unfold w9
  rw [orF_no (f := p69) (primS_no e195)]
  rw [orF_no (f := p71) (primS_no e196)]
  rw [orF_no (f := p73) (primS_no e197)]
  have hv : shV 262144 h.nx v75 = .tu [.sl (shN 262144 h.nx 262166) 0 3 3 3, .i .i64 0, .i .i64 0] := by simp only [v75, shV, shVs]
  rw [← hv]
  exact orF_yes (primS_at (v := v75) (ln := ln75) (NX := 262167) e198 hn)
theorem w9_199 (h : H) (hn : h.nx ≤ 262144) : ∃ h', w9 [.s (wlT 199)] h = some (.tu [.sl (shN 262144 h.nx 262166) 0 3 3 3, .i .i64 0, .i .i64 0], h') := by
  have e195 : eqvs [.s (wlT 199)] a69 = false := by kernel_rfl
  have e196 : eqvs [.s (wlT 199)] a71 = false := by kernel_rfl
  have e197 : eqvs [.s (wlT 199)] a73 = false := by kernel_rfl
  have e198 : eqvs [.s (wlT 199)] a75 = false := by kernel_rfl
  have e199 : eqvs [.s (wlT 199)] a77 = true := by kernel_rfl
  refine ⟨⟨h.nx + (262167 - 262144), putL (shL 262144 h.nx ln77) h.t⟩, ?_⟩
  unfold w9
  rw [orF_no (f := p69) (primS_no e195)]
  rw [orF_no (f := p71) (primS_no e196)]
  rw [orF_no (f := p73) (primS_no e197)]
  rw [orF_no (f := p75) (primS_no e198)]
  have hv : shV 262144 h.nx v77 = .tu [.sl (shN 262144 h.nx 262166) 0 3 3 3, .i .i64 0, .i .i64 0] := by simp only [v77, shV, shVs]
  rw [← hv]
  exact orF_yes (primS_at (v := v77) (ln := ln77) (NX := 262167) e199 hn)
theorem w9_200 (h : H) (hn : h.nx ≤ 262144) : ∃ h', w9 [.s (wlT 200)] h = some (.tu [.sl (shN 262144 h.nx 262166) 0 3 3 3, .i .i64 0, .i .i64 0], h') := by
  have e195 : eqvs [.s (wlT 200)] a69 = false := by kernel_rfl
  have e196 : eqvs [.s (wlT 200)] a71 = false := by kernel_rfl
  have e197 : eqvs [.s (wlT 200)] a73 = false := by kernel_rfl
  have e198 : eqvs [.s (wlT 200)] a75 = false := by kernel_rfl
  have e199 : eqvs [.s (wlT 200)] a77 = false := by kernel_rfl
  have e200 : eqvs [.s (wlT 200)] a79 = true := by kernel_rfl
  refine ⟨⟨h.nx + (262167 - 262144), putL (shL 262144 h.nx ln79) h.t⟩, ?_⟩
  unfold w9
  rw [orF_no (f := p69) (primS_no e195)]
  rw [orF_no (f := p71) (primS_no e196)]
  rw [orF_no (f := p73) (primS_no e197)]
  rw [orF_no (f := p75) (primS_no e198)]
  rw [orF_no (f := p77) (primS_no e199)]
  have hv : shV 262144 h.nx v79 = .tu [.sl (shN 262144 h.nx 262166) 0 3 3 3, .i .i64 0, .i .i64 0] := by simp only [v79, shV, shVs]
  rw [← hv]
  exact orF_yes (primS_at (v := v79) (ln := ln79) (NX := 262167) e200 hn)
theorem w9_201 (h : H) (hn : h.nx ≤ 262144) : ∃ h', w9 [.s (wlT 201)] h = some (.tu [.sn, .i .i64 2, .i .i64 6], h') := by
  have e195 : eqvs [.s (wlT 201)] a69 = false := by kernel_rfl
  have e196 : eqvs [.s (wlT 201)] a71 = false := by kernel_rfl
  have e197 : eqvs [.s (wlT 201)] a73 = false := by kernel_rfl
  have e198 : eqvs [.s (wlT 201)] a75 = false := by kernel_rfl
  have e199 : eqvs [.s (wlT 201)] a77 = false := by kernel_rfl
  have e200 : eqvs [.s (wlT 201)] a79 = false := by kernel_rfl
  have e201 : eqvs [.s (wlT 201)] a80 = true := by kernel_rfl
  refine ⟨h, ?_⟩
  unfold w9
  rw [orF_no (f := p69) (primS_no e195)]
  rw [orF_no (f := p71) (primS_no e196)]
  rw [orF_no (f := p73) (primS_no e197)]
  rw [orF_no (f := p75) (primS_no e198)]
  rw [orF_no (f := p77) (primS_no e199)]
  rw [orF_no (f := p79) (primS_no e200)]
  exact orF_yes (primQ_at (v := v80) e201 hn)
theorem w9_202 (h : H) (hn : h.nx ≤ 262144) : ∃ h', w9 [.s (wlT 202)] h = some (.tu [.sn, .i .i64 2, .i .i64 6], h') := by
  have e195 : eqvs [.s (wlT 202)] a69 = false := by kernel_rfl
  have e196 : eqvs [.s (wlT 202)] a71 = false := by kernel_rfl
  have e197 : eqvs [.s (wlT 202)] a73 = false := by kernel_rfl
  have e198 : eqvs [.s (wlT 202)] a75 = false := by kernel_rfl
  have e199 : eqvs [.s (wlT 202)] a77 = false := by kernel_rfl
  have e200 : eqvs [.s (wlT 202)] a79 = false := by kernel_rfl
  have e201 : eqvs [.s (wlT 202)] a80 = false := by kernel_rfl
  have e202 : eqvs [.s (wlT 202)] a81 = true := by kernel_rfl
  refine ⟨h, ?_⟩
  unfold w9
  rw [orF_no (f := p69) (primS_no e195)]
  rw [orF_no (f := p71) (primS_no e196)]
  rw [orF_no (f := p73) (primS_no e197)]
  rw [orF_no (f := p75) (primS_no e198)]
  rw [orF_no (f := p77) (primS_no e199)]
  rw [orF_no (f := p79) (primS_no e200)]
  rw [orF_no (f := p80) (primQ_no e201)]
  exact orF_yes (primQ_at (v := v81) e202 hn)
theorem w9_203 (h : H) (hn : h.nx ≤ 262144) : ∃ h', w9 [.s (wlT 203)] h = some (.tu [.sn, .i .i64 2, .i .i64 6], h') := by
  have e195 : eqvs [.s (wlT 203)] a69 = false := by kernel_rfl
  have e196 : eqvs [.s (wlT 203)] a71 = false := by kernel_rfl
  have e197 : eqvs [.s (wlT 203)] a73 = false := by kernel_rfl
  have e198 : eqvs [.s (wlT 203)] a75 = false := by kernel_rfl
  have e199 : eqvs [.s (wlT 203)] a77 = false := by kernel_rfl
  have e200 : eqvs [.s (wlT 203)] a79 = false := by kernel_rfl
  have e201 : eqvs [.s (wlT 203)] a80 = false := by kernel_rfl
  have e202 : eqvs [.s (wlT 203)] a81 = false := by kernel_rfl
  have e203 : eqvs [.s (wlT 203)] a82 = true := by kernel_rfl
  refine ⟨h, ?_⟩
  unfold w9
  rw [orF_no (f := p69) (primS_no e195)]
  rw [orF_no (f := p71) (primS_no e196)]
  rw [orF_no (f := p73) (primS_no e197)]
  rw [orF_no (f := p75) (primS_no e198)]
  rw [orF_no (f := p77) (primS_no e199)]
  rw [orF_no (f := p79) (primS_no e200)]
  rw [orF_no (f := p80) (primQ_no e201)]
  rw [orF_no (f := p81) (primQ_no e202)]
  exact orF_yes (primQ_at (v := v82) e203 hn)
theorem w9_204 (h : H) (hn : h.nx ≤ 262144) : ∃ h', w9 [.s (wlT 204)] h = some (.tu [.sn, .i .i64 2, .i .i64 6], h') := by
  have e195 : eqvs [.s (wlT 204)] a69 = false := by kernel_rfl
  have e196 : eqvs [.s (wlT 204)] a71 = false := by kernel_rfl
  have e197 : eqvs [.s (wlT 204)] a73 = false := by kernel_rfl
  have e198 : eqvs [.s (wlT 204)] a75 = false := by kernel_rfl
  have e199 : eqvs [.s (wlT 204)] a77 = false := by kernel_rfl
  have e200 : eqvs [.s (wlT 204)] a79 = false := by kernel_rfl
  have e201 : eqvs [.s (wlT 204)] a80 = false := by kernel_rfl
  have e202 : eqvs [.s (wlT 204)] a81 = false := by kernel_rfl
  have e203 : eqvs [.s (wlT 204)] a82 = false := by kernel_rfl
  have e204 : eqvs [.s (wlT 204)] a83 = true := by kernel_rfl
  refine ⟨h, ?_⟩
  unfold w9
  rw [orF_no (f := p69) (primS_no e195)]
  rw [orF_no (f := p71) (primS_no e196)]
  rw [orF_no (f := p73) (primS_no e197)]
  rw [orF_no (f := p75) (primS_no e198)]
  rw [orF_no (f := p77) (primS_no e199)]
  rw [orF_no (f := p79) (primS_no e200)]
  rw [orF_no (f := p80) (primQ_no e201)]
  rw [orF_no (f := p81) (primQ_no e202)]
  rw [orF_no (f := p82) (primQ_no e203)]
  exact orF_yes (primQ_at (v := v83) e204 hn)
theorem w9_n (n : Nat) (h1 : 195 ≤ n) (h2 : n < 205) (h : H) (hn : h.nx ≤ 262144) : ∃ (v : V) (h' : H), w9 [.s (wlT n)] h = some (.tu [v, .i .i64 (if n ≤ 200 then 0 else 2), .i .i64 (if n ≤ 200 then 0 else 6)], h') ∧ (if n ≤ 200 then ∃ B, v = .sl B 0 3 3 3 else v = .sn) := by
  have hc : n = 195 ∨ n = 196 ∨ n = 197 ∨ n = 198 ∨ n = 199 ∨ n = 200 ∨ n = 201 ∨ n = 202 ∨ n = 203 ∨ n = 204 := by omega
  clear h1 h2
  rcases hc with rfl | rfl | rfl | rfl | rfl | rfl | rfl | rfl | rfl | rfl
  · obtain ⟨h', hr⟩ := w9_195 h hn
    exact ⟨_, h', hr, ⟨_, rfl⟩⟩
  · obtain ⟨h', hr⟩ := w9_196 h hn
    exact ⟨_, h', hr, ⟨_, rfl⟩⟩
  · obtain ⟨h', hr⟩ := w9_197 h hn
    exact ⟨_, h', hr, ⟨_, rfl⟩⟩
  · obtain ⟨h', hr⟩ := w9_198 h hn
    exact ⟨_, h', hr, ⟨_, rfl⟩⟩
  · obtain ⟨h', hr⟩ := w9_199 h hn
    exact ⟨_, h', hr, ⟨_, rfl⟩⟩
  · obtain ⟨h', hr⟩ := w9_200 h hn
    exact ⟨_, h', hr, ⟨_, rfl⟩⟩
  · obtain ⟨h', hr⟩ := w9_201 h hn
    exact ⟨_, h', hr, rfl⟩
  · obtain ⟨h', hr⟩ := w9_202 h hn
    exact ⟨_, h', hr, rfl⟩
  · obtain ⟨h', hr⟩ := w9_203 h hn
    exact ⟨_, h', hr, rfl⟩
  · obtain ⟨h', hr⟩ := w9_204 h hn
    exact ⟨_, h', hr, rfl⟩
def wl4 : BC := (.reg [o 30 (.mks 1 1 [(.i .u8 0)] (.t 0) (.t 0))])
def wl5 : BC := (.seq (.reg [o 32 (.len false (.t 0)), o 33 (.mv (.k (.i .i64 0)))]) (.block 0 [0, 1, 6] (.pre [0, 1, 6, 32, 33] [3, 4, 2, 1, 0] (.loop (.post (.seq (.reg [o 34 (.bin .lss (.t 4) (.t 3))]) (.seq (.cond (.t 0) .skip (.pre [0, 1, 6] [1, 2, 3] (.exit 0))) (.seq (.block 1 [0, 1, 6, 32, 33] (.post (.seq (.reg []) (.reg [o 38 (.ia 1 (.t 3) (.t 5)), .op ⟨none, none, .st (.t 0) (.k (.i .u8 97))⟩])) [0, 1, 6, 32, 33] [2, 3, 4, 5, 6])) (.reg [o 39 (.bin .add (.t 4) (.k (.i .i64 1)))])))) [0, 1, 6, 32, 33] [1, 2, 3, 4, 0])))))
def wl6 : BC := (.reg [o 42 (.b2s (.t 2)), o 43 (.bin .add (.k (.s [120, 10])) (.t 0)), o 44 (.bin .add (.t 0) (.k (.s [10, 121]))), o 45 (.call 9 [(.t 0)]), o 46 (.ext 0 (.t 0)), o 47 (.ext 1 (.t 1)), o 48 (.ext 2 (.t 2))])
def wl7 : BC := (.seq (.reg [o 50 (.bin .gtr (.t 7) (.k (.i .i64 200)))]) (.cond (.t 0) (.seq (.post (.reg [o 52 (.bin .eql (.t 1) (.k (.i .i64 6))), .op ⟨(some 54), (some (0, true)), .mv (.t 3)⟩, .op ⟨(some 55), (some (1, true)), .bin .eql (.t 0) (.k (.i .i64 2))⟩, o 56 (.pick (.t 2) (.t 0) (.k (.b false))), .op ⟨(some 58), (some (0, true)), .mv (.t 7)⟩, .op ⟨(some 59), (some (1, true)), .len false (.t 0)⟩, .op ⟨(some 60), (some (2, true)), .bin .eql (.t 0) (.k (.i .i64 0))⟩, o 61 (.pick (.t 3) (.t 0) (.k (.b false)))]) [4] [0]) (.ret [.mv (.t 0)])) .skip))
def wl8 : BC := (.reg [o 63 (.mks 1 1 [(.i .u8 0)] (.t 9) (.t 9))])
def wl9 : BC := (.seq (.reg [o 65 (.len false (.t 0)), o 66 (.mv (.k (.i .i64 0)))]) (.block 2 [1, 8, 10, 11] (.pre [1, 8, 10, 11, 65, 66] [12, 6, 4, 2, 1, 0] (.loop (.post (.seq (.reg [o 67 (.bin .lss (.t 5) (.t 4))]) (.seq (.cond (.t 0) .skip (.pre [1, 8, 10, 11] [1, 2, 3, 4] (.exit 2))) (.seq (.block 3 [1, 8, 10, 11, 65, 66] (.post (.seq (.reg []) (.reg [o 71 (.ia 1 (.t 4) (.t 6)), .op ⟨none, none, .st (.t 0) (.k (.i .u8 10))⟩])) [1, 8, 10, 11, 65, 66] [2, 3, 4, 5, 6, 7])) (.reg [o 72 (.bin .add (.t 5) (.k (.i .i64 1)))])))) [1, 8, 10, 11, 65, 66] [1, 2, 3, 4, 5, 0])))))
def wl10 : BC := (.reg [o 75 (.b2s (.t 3)), o 76 (.call 9 [(.t 0)]), o 77 (.ext 0 (.t 0)), o 78 (.ext 1 (.t 1)), o 79 (.ext 2 (.t 2))])
def wl11 : BC := (.post (.reg [o 81 (.bin .eql (.t 7) (.k (.i .i64 0))), .op ⟨(some 83), (some (0, true)), .mv (.t 7)⟩, .op ⟨(some 84), (some (1, true)), .len false (.t 0)⟩, .op ⟨(some 85), (some (2, true)), .bin .eql (.t 0) (.k (.i .i64 3))⟩, o 86 (.pick (.t 3) (.t 0) (.k (.b false))), .op ⟨(some 88), (some (0, true)), .mv (.t 7)⟩, .op ⟨(some 89), (some (1, true)), .len false (.t 0)⟩, .op ⟨(some 90), (some (2, true)), .bin .eql (.t 0) (.k (.i .i64 0))⟩, o 91 (.pick (.t 3) (.t 0) (.k (.b false))), .op ⟨(some 93), (some (0, true)), .mv (.t 14)⟩, .op ⟨(some 94), (some (1, true)), .bin .leq (.t 0) (.k (.i .i64 2500))⟩, .op ⟨(some 95), (some (2, true)), .mv (.t 0)⟩, .op ⟨(some 96), (some (0, true)), .mv (.t 12)⟩, .op ⟨(some 97), (some (1, true)), .bin .eql (.t 0) (.k (.i .i64 0))⟩, .op ⟨(some 98), (some (5, true)), .pick (.t 2) (.t 0) (.k (.b false))⟩, .op ⟨(some 99), (some (6, true)), .mv (.t 0)⟩, .op ⟨(some 100), (some (0, false)), .mv (.t 21)⟩, .op ⟨(some 101), (some (1, false)), .bin .gtr (.t 0) (.k (.i .i64 2500))⟩, .op ⟨(some 102), (some (2, false)), .mv (.t 0)⟩, .op ⟨(some 103), (some (0, true)), .mv (.t 19)⟩, .op ⟨(some 104), (some (1, true)), .bin .eql (.t 0) (.k (.i .i64 6))⟩, .op ⟨(some 105), (some (5, false)), .pick (.t 2) (.t 0) (.k (.b false))⟩, .op ⟨(some 106), (some (6, false)), .mv (.t 0)⟩, .op ⟨(some 107), (some (0, true)), .mv (.t 24)⟩, .op ⟨(some 108), (some (1, true)), .bin .eql (.t 0) (.k (.i .i64 2501))⟩, .op ⟨(some 109), (some (9, false)), .pick (.t 2) (.t 0) (.k (.b false))⟩, .op ⟨(some 110), (some (17, true)), .pick (.t 10) (.k (.b true)) (.t 0)⟩, o 111 (.pick (.t 18) (.t 0) (.k (.b false)))]) [4] [0])
def wlY : BC := seqR (spine 3 c3).2
theorem wlY_eq : wlY = .seq wl4 (.seq wl5 (.seq wl6 (.seq wl7 (.seq wl8 (.seq wl9 (.seq wl10 (.seq wl11 (.ret [.mv (.t 0)])))))))) := rfl
theorem bytes_rep (c : Nat) (hc : c < 256) : ∀ n : Nat, bytesL (List.replicate n (.i .u8 (c : Int))) = some (List.replicate n c)
  | 0 => rfl
  | n + 1 => by
    have h1 : (0 : Int) ≤ (c : Int) ∧ (c : Int) < 256 := by omega
    simp only [List.replicate_succ, bytesL, bytes_rep c hc n, if_pos h1, Option.map_some, Int.toNat_natCast]
theorem cells_rep {h : H} {B n : Nat} {v : V} (hg : h.get B = some (.c (List.replicate n v) 0 0)) : cellsAt h B 0 n = some (List.replicate n v) := by
  simp [cellsAt, hg]
theorem rept_len (v : V) : ∀ n : Nat, (rept [v] n).length = n
  | 0 => rfl
  | n + 1 => by simp [rept, rept_len v n]
/-- A row made, filled with one byte. -/
theorem s4 {call : CallF} (n : Nat) (hn : n < 10000) (m : Int) (h : H) : execD call 1000000 wl4 [.i .i64 n, .i .i64 m] h = some (.nrm [.sl h.nx 0 n n 0, .i .i64 n, .i .i64 m], h.new (.c (rept [.i .u8 0] n) 0 0)) := by
  have h1 : (n : Int) ≤ 140737488355328 := by omega
  have h2 : (n : Int) ≤ 1099511627776 := by omega
  simp [wl4, execD, runB_op, runB_nil, stepB, guardA, o, semAll, AO.map, AO.cls, evX, tmE, pushE, semP, semN, semR, semE, binV, binI, binS, pickE, retsD, retV, h1, h2]
theorem s5 {call : CallF} (n : Nat) (hn : n < 10000) (m : Int) (B : Nat) (cs : List V) (h : H) (hc : cs.length = n) (hg : h.get B = some (.c cs 0 0)) :
    ∃ h', execD call 1000000 wl5 [.sl B 0 n n 0, .i .i64 n, .i .i64 m] h = some (.nrm [.i .i64 n, .i .i64 m, .sl B 0 n n 0], h') ∧ h'.get B = some (.c (List.replicate n (.i .u8 97)) 0 0) ∧ h'.nx = h.nx := by
  obtain ⟨h', r1, r2, r3⟩ := fill1 (call := call) (n0 := 1000000) (.i .i64 n) (.i .i64 m) B n hn n 0 (999999 - n) cs h (by omega) hc hg
  have e : 999999 - n + n + 1 = 1000000 := by omega
  rw [e] at r1
  refine ⟨h', ?_, by simpa using r2, r3⟩
  have ew : wl5 = (.seq (.reg [o 32 (.len false (.t 0)), o 33 (.mv (.k (.i .i64 0)))]) (.block 0 [0, 1, 6] (.pre [0, 1, 6, 32, 33] [3, 4, 2, 1, 0] (.loop wlB1)))) := rfl
  have e0 : ((0 : Nat) : Int) = 0 := rfl
  rw [e0] at r1
  rw [ew]
  simp [execD, runB_op, runB_nil, stepB, guardA, o, semAll, AO.map, AO.cls, evX, tmE, pushE, semP, semN, semR, semE, binV, binI, binS, pickE, retsD, retV, r1]
theorem s6 {call : CallF} (n : Nat) (hn : n < 10000) (m : Int) (B : Nat) (h h' : H) (v a e : V) (hg : h.get B = some (.c (List.replicate n (.i .u8 97)) 0 0)) (hcall : call 9 [.s (wlT n)] h = some (.tu [v, a, e], h')) :
    execD call 1000000 wl6 [.i .i64 n, .i .i64 m, .sl B 0 n n 0] h = some (.nrm [e, a, v, .tu [v, a, e], .s (wlT n), .s ([120, 10] ++ List.replicate n 97), .s (List.replicate n 97), .i .i64 n, .i .i64 m, .sl B 0 n n 0], h') := by
  have hb := bytes_rep 97 (by omega) n
  have hcl := cells_rep hg
  have e97 : ((97 : Nat) : Int) = 97 := rfl
  rw [e97] at hb
  have et : [120, 10] ++ List.replicate n 97 ++ [10, 121] = wlT n := rfl
  simp only [List.cons_append, List.nil_append] at et
  have z1 : 2 + n < 4611686018427387904 := by omega
  have z2 : n + 1 + 1 + 2 < 4611686018427387904 := by omega
  have z3 : n + 2 < 4611686018427387904 := by omega
  have z4 : n + 1 + 1 < 4611686018427387904 := by omega
  simp [wl6, execD, runB_op, runB_nil, stepB, guardA, o, semAll, AO.map, AO.cls, evX, tmE, pushE, semP, semN, semR, semE, binV, binI, binS, pickE, retsD, retV, hcl, hb, et, hcall, z1, z2, z3, z4]
theorem s7a {call : CallF} (n : Nat) (hn : n ≤ 200) (m : Int) (h : H) (e a v t x1 x2 x3 s : V) :
    execD call 1000000 wl7 [e, a, v, t, x1, x2, x3, .i .i64 n, .i .i64 m, s] h = some (.nrm [.b false, e, a, v, t, x1, x2, x3, .i .i64 n, .i .i64 m, s], h) := by
  have h1 : ¬ (200 : Int) < (n : Int) := by omega
  simp [wl7, execD, runB_op, runB_nil, stepB, guardA, o, semAll, AO.map, AO.cls, evX, tmE, pushE, semP, semN, semR, semE, binV, binI, binS, pickE, retsD, retV, h1]
theorem s7b {call : CallF} (n : Nat) (hn : ¬ n ≤ 200) (m : Int) (h : H) (t x1 x2 x3 s : V) :
    execD call 1000000 wl7 [.i .i64 6, .i .i64 2, .sn, t, x1, x2, x3, .i .i64 n, .i .i64 m, s] h = some (.ret (.b true), h) := by
  have h1 : (200 : Int) < (n : Int) := by omega
  simp [wl7, execD, runB_op, runB_nil, stepB, guardA, o, semAll, AO.map, AO.cls, evX, tmE, pushE, semP, semN, semR, semE, binV, binI, binS, pickE, retsD, retV, h1]
theorem s8 {call : CallF} (n m : Nat) (hm : m < 10000) (h : H) (b e a v t x1 x2 x3 s : V) :
    execD call 1000000 wl8 [b, e, a, v, t, x1, x2, x3, .i .i64 n, .i .i64 m, s] h = some (.nrm [.sl h.nx 0 m m 0, b, e, a, v, t, x1, x2, x3, .i .i64 n, .i .i64 m, s], h.new (.c (rept [.i .u8 0] m) 0 0)) := by
  have h1 : (m : Int) ≤ 140737488355328 := by omega
  have h2 : (m : Int) ≤ 1099511627776 := by omega
  simp [wl8, execD, runB_op, runB_nil, stepB, guardA, o, semAll, AO.map, AO.cls, evX, tmE, pushE, semP, semN, semR, semE, binV, binI, binS, pickE, retsD, retV, h1, h2]
theorem s9 {call : CallF} (n m : Nat) (hm : m < 10000) (B : Nat) (cs : List V) (h : H) (hc : cs.length = m) (hg : h.get B = some (.c cs 0 0)) (b e a v t x1 x2 x3 s : V) :
    ∃ h', execD call 1000000 wl9 [.sl B 0 m m 0, b, e, a, v, t, x1, x2, x3, .i .i64 n, .i .i64 m, s] h = some (.nrm [.i .i64 m, v, e, .sl B 0 m m 0], h') ∧ h'.get B = some (.c (List.replicate m (.i .u8 10)) 0 0) := by
  obtain ⟨h', r1, r2, _⟩ := fill2 (call := call) (n0 := 1000000) (.i .i64 m) v e B m hm m 0 (999999 - m) cs h (by omega) hc hg
  have e : 999999 - m + m + 1 = 1000000 := by omega
  rw [e] at r1
  refine ⟨h', ?_, by simpa using r2⟩
  have ew : wl9 = (.seq (.reg [o 65 (.len false (.t 0)), o 66 (.mv (.k (.i .i64 0)))]) (.block 2 [1, 8, 10, 11] (.pre [1, 8, 10, 11, 65, 66] [12, 6, 4, 2, 1, 0] (.loop wlB2)))) := rfl
  have e0 : ((0 : Nat) : Int) = 0 := rfl
  rw [e0] at r1
  rw [ew]
  simp [execD, runB_op, runB_nil, stepB, guardA, o, semAll, AO.map, AO.cls, evX, tmE, pushE, semP, semN, semR, semE, binV, binI, binS, pickE, retsD, retV, r1]
theorem s10 {call : CallF} (m : Nat) (B : Nat) (h h' : H) (v e k no f : V) (hg : h.get B = some (.c (List.replicate m (.i .u8 10)) 0 0)) (hcall : call 9 [.s (List.replicate m 10)] h = some (.tu [k, no, f], h')) :
    execD call 1000000 wl10 [.i .i64 m, v, e, .sl B 0 m m 0] h = some (.nrm [f, no, k, .tu [k, no, f], .s (List.replicate m 10), .i .i64 m, v, e, .sl B 0 m m 0], h') := by
  have hb := bytes_rep 10 (by omega) m
  have hcl := cells_rep hg
  have e10 : ((10 : Nat) : Int) = 10 := rfl
  rw [e10] at hb
  simp [wl10, execD, runB_op, runB_nil, stepB, guardA, o, semAll, AO.map, AO.cls, evX, tmE, pushE, semP, semN, semR, semE, binV, binI, binS, pickE, retsD, retV, hcl, hb, hcall]
theorem s11a {call : CallF} (m : Nat) (hm : m ≤ 2500) (h : H) (B : Nat) (t x s : V) :
    execD call 1000000 wl11 [.i .i64 0, .i .i64 0, .sn, t, x, .i .i64 m, .sl B 0 3 3 3, .i .i64 0, s] h = some (.nrm [.b true], h) := by
  have h1 : (m : Int) ≤ 2500 := by omega
  simp [wl11, execD, runB_op, runB_nil, stepB, guardA, o, semAll, AO.map, AO.cls, evX, tmE, pushE, semP, semN, semR, semE, binV, binI, binS, pickE, retsD, retV, h1]
theorem s11b {call : CallF} (m : Nat) (hm : ¬ m ≤ 2500) (h : H) (B : Nat) (t x s : V) :
    execD call 1000000 wl11 [.i .i64 6, .i .i64 2501, .sn, t, x, .i .i64 m, .sl B 0 3 3 3, .i .i64 0, s] h = some (.nrm [.b true], h) := by
  have h1 : ¬ (m : Int) ≤ 2500 := by omega
  have h2 : (2500 : Int) < (m : Int) := by omega
  simp [wl11, execD, runB_op, runB_nil, stepB, guardA, o, semAll, AO.map, AO.cls, evX, tmE, pushE, semP, semN, semR, semE, binV, binI, binS, pickE, retsD, retV, h1, h2]
theorem w9_nl (m : Nat) (hm : 1 ≤ m) (h : H) : ∃ h', w9 [.s (List.replicate m 10)] h = some (.tu [.sn, .i .i64 (if m ≤ 2500 then 0 else 2501), .i .i64 (if m ≤ 2500 then 0 else 6)], h') := by
  obtain ⟨h', hr⟩ := nlF_at m h
  obtain ⟨m, rfl⟩ : ∃ k, m = k + 1 := ⟨m - 1, by omega⟩
  refine ⟨h', ?_⟩
  rw [← hr]
  unfold w9
  have e195 : eqvs [.s (List.replicate (m + 1) 10)] a69 = false := by rw [List.replicate_succ]; kernel_rfl
  have e196 : eqvs [.s (List.replicate (m + 1) 10)] a71 = false := by rw [List.replicate_succ]; kernel_rfl
  have e197 : eqvs [.s (List.replicate (m + 1) 10)] a73 = false := by rw [List.replicate_succ]; kernel_rfl
  have e198 : eqvs [.s (List.replicate (m + 1) 10)] a75 = false := by rw [List.replicate_succ]; kernel_rfl
  have e199 : eqvs [.s (List.replicate (m + 1) 10)] a77 = false := by rw [List.replicate_succ]; kernel_rfl
  have e200 : eqvs [.s (List.replicate (m + 1) 10)] a79 = false := by rw [List.replicate_succ]; kernel_rfl
  have e201 : eqvs [.s (List.replicate (m + 1) 10)] a80 = false := by rw [List.replicate_succ]; kernel_rfl
  have e202 : eqvs [.s (List.replicate (m + 1) 10)] a81 = false := by rw [List.replicate_succ]; kernel_rfl
  have e203 : eqvs [.s (List.replicate (m + 1) 10)] a82 = false := by rw [List.replicate_succ]; kernel_rfl
  have e204 : eqvs [.s (List.replicate (m + 1) 10)] a83 = false := by rw [List.replicate_succ]; kernel_rfl
  rw [orF_no (f := p69) (primS_no e195)]
  rw [orF_no (f := p71) (primS_no e196)]
  rw [orF_no (f := p73) (primS_no e197)]
  rw [orF_no (f := p75) (primS_no e198)]
  rw [orF_no (f := p77) (primS_no e199)]
  rw [orF_no (f := p79) (primS_no e200)]
  rw [orF_no (f := p80) (primQ_no e201)]
  rw [orF_no (f := p81) (primQ_no e202)]
  rw [orF_no (f := p82) (primQ_no e203)]
  rw [orF_no (f := p83) (primQ_no e204)]

theorem wl_rest (n m : Nat) (hn1 : 195 ≤ n) (hn2 : n < 205) (hm1 : 2496 ≤ m) (hm2 : m < 2504) (h : H) (hx : h.nx = 8) :
    ∃ h', execD (callD (fun g => FTw.get g) 1000000 1999) 1000000 wlY [.i .i64 n, .i .i64 m] h = some (.ret (.b true), h') := by
  have hcall : ∀ args h, callD (fun g => FTw.get g) 1000000 1999 9 args h = w9 args h := fun args h => rfl
  have a4 := s4 (call := callD (fun g => FTw.get g) 1000000 1999) n (by omega) m h
  have g4 : (h.new (.c (rept [.i .u8 0] n) 0 0)).get h.nx = some (.c (rept [.i .u8 0] n) 0 0) := by rw [H.get_new, if_pos rfl]
  obtain ⟨h5, a5, g5, n5⟩ := s5 (call := callD (fun g => FTw.get g) 1000000 1999) n (by omega) m h.nx _ _ (rept_len _ _) g4
  have hx5 : h5.nx ≤ 262144 := by rw [n5, H.nx_new, hx]; decide
  obtain ⟨v, h6, r6, hv⟩ := w9_n n hn1 hn2 h5 hx5
  have a6 := s6 (call := callD (fun g => FTw.get g) 1000000 1999) n (by omega) m h.nx h5 h6 v _ _ g5 ((hcall _ _).trans r6)
  by_cases hn : n ≤ 200
  · rw [if_pos hn, if_pos hn] at a6
    rw [if_pos hn] at hv
    obtain ⟨B, rfl⟩ := hv
    have a7 := s7a (call := callD (fun g => FTw.get g) 1000000 1999) n hn m h6 (.i .i64 0) (.i .i64 0) (.sl B 0 3 3 3) (.tu [.sl B 0 3 3 3, .i .i64 0, .i .i64 0]) (.s (wlT n)) (.s ([120, 10] ++ List.replicate n 97)) (.s (List.replicate n 97)) (.sl h.nx 0 n n 0)
    have a8 := s8 (call := callD (fun g => FTw.get g) 1000000 1999) n m (by omega) h6 (.b false) (.i .i64 0) (.i .i64 0) (.sl B 0 3 3 3) (.tu [.sl B 0 3 3 3, .i .i64 0, .i .i64 0]) (.s (wlT n)) (.s ([120, 10] ++ List.replicate n 97)) (.s (List.replicate n 97)) (.sl h.nx 0 n n 0)
    have g8 : (h6.new (.c (rept [.i .u8 0] m) 0 0)).get h6.nx = some (.c (rept [.i .u8 0] m) 0 0) := by rw [H.get_new, if_pos rfl]
    obtain ⟨h9, a9, g9⟩ := s9 (call := callD (fun g => FTw.get g) 1000000 1999) n m (by omega) h6.nx _ _ (rept_len _ _) g8 (.b false) (.i .i64 0) (.i .i64 0) (.sl B 0 3 3 3) (.tu [.sl B 0 3 3 3, .i .i64 0, .i .i64 0]) (.s (wlT n)) (.s ([120, 10] ++ List.replicate n 97)) (.s (List.replicate n 97)) (.sl h.nx 0 n n 0)
    obtain ⟨h10, r10⟩ := w9_nl m (by omega) h9
    have a10 := s10 (call := callD (fun g => FTw.get g) 1000000 1999) m h6.nx h9 h10 (.sl B 0 3 3 3) (.i .i64 0) _ _ _ g9 ((hcall _ _).trans r10)
    refine ⟨h10, ?_⟩
    rw [wlY_eq]
    by_cases hm : m ≤ 2500
    · rw [if_pos hm, if_pos hm] at a10
      have a11 := s11a (call := callD (fun g => FTw.get g) 1000000 1999) m hm h10 B (.tu [.sn, .i .i64 0, .i .i64 0]) (.s (List.replicate m 10)) (.sl h6.nx 0 m m 0)
      simp only [execD, a4, a5, a6, a7, a8, a9, a10, a11]
      rfl
    · rw [if_neg hm, if_neg hm] at a10
      have a11 := s11b (call := callD (fun g => FTw.get g) 1000000 1999) m hm h10 B (.tu [.sn, .i .i64 2501, .i .i64 6]) (.s (List.replicate m 10)) (.sl h6.nx 0 m m 0)
      simp only [execD, a4, a5, a6, a7, a8, a9, a10, a11]
      rfl
  · rw [if_neg hn, if_neg hn] at a6
    rw [if_neg hn] at hv
    subst hv
    have a7 := s7b (call := callD (fun g => FTw.get g) 1000000 1999) n hn m h6 (.tu [.sn, .i .i64 2, .i .i64 6]) (.s (wlT n)) (.s ([120, 10] ++ List.replicate n 97)) (.s (List.replicate n 97)) (.sl h.nx 0 n n 0)
    refine ⟨h6, ?_⟩
    rw [wlY_eq]
    simp only [execD, a4, a5, a6, a7]

def wlL : List BC := (spine 3 c3).1
noncomputable def wlCk : CallK := callF FTw 1000000 1999
noncomputable def kNx (_ : List V) (h : H) : R := fN h.nx fun n => some (.p n 0, ⟨0, .lf⟩)
theorem nx_at {call : CallF} {ck : CallK} (hc : CSnd call ck) {n m : Nat} {b : BC} {env : List V} {h : H}
    (hr : execF ck n b env h kNx noE noR = some (.p m 0, ⟨0, .lf⟩)) : ∃ env' h', execD call n b env h = some (.nrm env', h') ∧ h'.nx = m := by
  obtain ⟨ex, h', h1, h2⟩ := execF_some hc b env h _ _ _ _ hr
  cases ex with
  | nrm env' =>
    have h3 : fN h'.nx (fun n => some (.p n 0, (⟨0, .lf⟩ : H))) = some (.p m 0, ⟨0, .lf⟩) := h2
    rw [fN_eq] at h3
    injection h3 with h3
    injection h3 with h3 _
    injection h3 with h3 _
    exact ⟨env', h', h1, h3⟩
  | exit id env' => cases h2
  | ret w => cases h2
theorem wl_pre0 (x y : Int) : execF wlCk 1000000 (nest wlL .skip) [.i .i64 x, .i .i64 y] h0 (kP 3) noE noR = some (.i .i64 x, ⟨0, .lf⟩) := by kernel_rfl
theorem wl_pre1 (x y : Int) : execF wlCk 1000000 (nest wlL .skip) [.i .i64 x, .i .i64 y] h0 (kP 4) noE noR = some (.i .i64 y, ⟨0, .lf⟩) := by kernel_rfl
theorem wl_pre2 (x y : Int) : execF wlCk 1000000 (nest wlL .skip) [.i .i64 x, .i .i64 y] h0 kNx noE noR = some (.p 8 0, ⟨0, .lf⟩) := by kernel_rfl
theorem wl_regs {call : CallF} {x y : Int} {env : List V} {h : H} (hx : tmE env 3 = .i .i64 x) (hy : tmE env 4 = .i .i64 y) :
    ∃ n m : Nat, (195 ≤ n ∧ n < 205) ∧ (2496 ≤ m ∧ m < 2504) ∧ execD call 1000000 (spine 3 c3).2 env h = execD call 1000000 wlY [.i .i64 n, .i .i64 m] h := by
  obtain ⟨r0, b0, c0, p0, s0⟩ := rem_step (call := call) (d := 20) (x := (.t 3)) (y := (.k (.i .i64 10))) (env := env) (h := h) (a := x) (c := 10) hx rfl (by omega)
  have s1 := add_step (call := call) (d := 21) (x := (.t 0)) (y := (.k (.i .i64 10))) (env := (.i .i64 (r0) :: env)) (h := h) (a := r0) (b := 10) rfl rfl (by omega) (by omega)
  obtain ⟨r2, b2, c2, p2, s2⟩ := rem_step (call := call) (d := 22) (x := (.t 0)) (y := (.k (.i .i64 10))) (env := (.i .i64 ((r0 + 10)) :: .i .i64 (r0) :: env)) (h := h) (a := (r0 + 10)) (c := 10) rfl rfl (by omega)
  have s3 := add_step (call := call) (d := 23) (x := (.k (.i .i64 195))) (y := (.t 0)) (env := (.i .i64 (r2) :: .i .i64 ((r0 + 10)) :: .i .i64 (r0) :: env)) (h := h) (a := 195) (b := r2) rfl rfl (by omega) (by omega)
  obtain ⟨r4, b4, c4, p4, s4⟩ := rem_step (call := call) (d := 25) (x := (.t 8)) (y := (.k (.i .i64 8))) (env := (.i .i64 ((195 + r2)) :: .i .i64 (r2) :: .i .i64 ((r0 + 10)) :: .i .i64 (r0) :: env)) (h := h) (a := y) (c := 8) hy rfl (by omega)
  have s5 := add_step (call := call) (d := 26) (x := (.t 0)) (y := (.k (.i .i64 8))) (env := (.i .i64 (r4) :: .i .i64 ((195 + r2)) :: .i .i64 (r2) :: .i .i64 ((r0 + 10)) :: .i .i64 (r0) :: env)) (h := h) (a := r4) (b := 8) rfl rfl (by omega) (by omega)
  obtain ⟨r6, b6, c6, p6, s6⟩ := rem_step (call := call) (d := 27) (x := (.t 0)) (y := (.k (.i .i64 8))) (env := (.i .i64 ((r4 + 8)) :: .i .i64 (r4) :: .i .i64 ((195 + r2)) :: .i .i64 (r2) :: .i .i64 ((r0 + 10)) :: .i .i64 (r0) :: env)) (h := h) (a := (r4 + 8)) (c := 8) rfl rfl (by omega)
  have s7 := add_step (call := call) (d := 28) (x := (.k (.i .i64 2496))) (y := (.t 0)) (env := (.i .i64 (r6) :: .i .i64 ((r4 + 8)) :: .i .i64 (r4) :: .i .i64 ((195 + r2)) :: .i .i64 (r2) :: .i .i64 ((r0 + 10)) :: .i .i64 (r0) :: env)) (h := h) (a := 2496) (b := r6) rfl rfl (by omega) (by omega)
  have e : (spine 3 c3).2 = .seq (.post (.reg [o 20 (.bin .rem (.t 3) (.k (.i .i64 10))), o 21 (.bin .add (.t 0) (.k (.i .i64 10))), o 22 (.bin .rem (.t 0) (.k (.i .i64 10))), o 23 (.bin .add (.k (.i .i64 195)) (.t 0)), o 25 (.bin .rem (.t 8) (.k (.i .i64 8))), o 26 (.bin .add (.t 0) (.k (.i .i64 8))), o 27 (.bin .rem (.t 0) (.k (.i .i64 8))), o 28 (.bin .add (.k (.i .i64 2496)) (.t 0))]) [0, 1] [4, 0]) wlY := rfl
  obtain ⟨n, hn⟩ : ∃ n : Nat, (195 + r2) = (n : Int) := ⟨((195 + r2)).toNat, by omega⟩
  obtain ⟨m, hm⟩ : ∃ m : Nat, (2496 + r6) = (m : Int) := ⟨((2496 + r6)).toNat, by omega⟩
  refine ⟨n, m, by omega, by omega, ?_⟩
  rw [e, ← hn, ← hm]
  simp [execD, o, runB_nil, runB_op, pickE, s0, s1, s2, s3, s4, s5, s6, s7]
theorem walkD (x y : Int) : ∃ h', callD (fun g => FTw.get g) 1000000 2000 3 [.i .i64 x, .i .i64 y] h0 = some (.b true, h') := by
  have hc : CSnd (callD (fun g => FTw.get g) 1000000 1999) wlCk := callF_some 1999
  obtain ⟨env, h, h1, hx⟩ := ahead_at hc (wl_pre0 x y)
  obtain ⟨env1, g1, k1, hy⟩ := ahead_at hc (wl_pre1 x y)
  obtain ⟨q1, _⟩ := same_end h1 k1
  rw [← q1] at hy
  obtain ⟨env2, g2, k2, hnx⟩ := nx_at hc (wl_pre2 x y)
  obtain ⟨_, q2⟩ := same_end h1 k2
  rw [← q2] at hnx
  obtain ⟨n, m, ⟨b1, b2⟩, ⟨b3, b4⟩, hr⟩ := wl_regs (call := callD (fun g => FTw.get g) 1000000 1999) (h := h) (tmE_get hx) (tmE_get hy)
  obtain ⟨h'', h3⟩ := wl_rest n m b1 b2 b3 b4 h hnx
  refine ⟨h'', callD_code (np := 2) (b := c3) rfl rfl ?_⟩
  have e0 : c3 = nest wlL (spine 3 c3).2 := (nest_spine 3 c3).symm
  rw [e0, nest_run h1, hr, h3]
end Go.Proofs.YtlnffaalhedfmaaGreatDoor
