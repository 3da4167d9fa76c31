/- WordsLimit, run. -/
import Derived.Test.YtlnffaalhedfmaaGreatDoorWlV0
import Derived.Test.YtlnffaalhedfmaaGreatDoorWlAll
namespace Go.Proofs.YtlnffaalhedfmaaGreatDoor
open Go.Ev
set_option maxRecDepth 100000
set_option linter.unusedSimpArgs false
def wlB1 : BC := (.post (.seq (.reg [o 34 (.bin .lss (.t 4) (.t 3))]) (.seq (.cond (.t 0) .skip (.pre [0, 1, 6] [1, 2, 3] (.exit 0))) (.seq (.block 1 [0, 1, 6, 32, 33] (.post (.seq (.reg []) (.reg [o 38 (.ia 1 (.t 3) (.t 5)), .op ⟨none, none, .st (.t 0) (.k (.i .u8 97))⟩])) [0, 1, 6, 32, 33] [2, 3, 4, 5, 6])) (.reg [o 39 (.bin .add (.t 4) (.k (.i .i64 1)))])))) [0, 1, 6, 32, 33] [1, 2, 3, 4, 0])
def wlB2 : BC := (.post (.seq (.reg [o 67 (.bin .lss (.t 5) (.t 4))]) (.seq (.cond (.t 0) .skip (.pre [1, 8, 10, 11] [1, 2, 3, 4] (.exit 2))) (.seq (.block 3 [1, 8, 10, 11, 65, 66] (.post (.seq (.reg []) (.reg [o 71 (.ia 1 (.t 4) (.t 6)), .op ⟨none, none, .st (.t 0) (.k (.i .u8 10))⟩])) [1, 8, 10, 11, 65, 66] [2, 3, 4, 5, 6, 7])) (.reg [o 72 (.bin .add (.t 5) (.k (.i .i64 1)))])))) [1, 8, 10, 11, 65, 66] [1, 2, 3, 4, 5, 0])

theorem fill1 {call : CallF} {n0 : Nat} (v0 v1 : V) (B L : Nat) (hL : L < 10000) : ∀ (k i fuel : Nat) (cs : List V) (h : H), i + k = L → cs.length = L → h.get B = some (.c cs 0 0) →
    ∃ h', loopD (execD call n0 wlB1) (fuel + k + 1) [v0, v1, .sl B 0 L L 0, .i .i64 L, .i .i64 i] h = some (.exit 0 [v0, v1, .sl B 0 L L 0], h') ∧ h'.get B = some (.c (cs.take i ++ List.replicate k (.i .u8 97)) 0 0) ∧ h'.nx = h.nx := by
  intro k
  induction k with
  | zero =>
    intro i fuel cs h hi hc hg
    have e : i = L := by omega
    subst e
    refine ⟨h, ?_, by simp [← hc, hg], rfl⟩
    rw [loopD_succ]
    have hb : execD call n0 wlB1 [v0, v1, .sl B 0 i i 0, .i .i64 i, .i .i64 i] h = some (.exit 0 [v0, v1, .sl B 0 i i 0], h) := by
      simp [wlB1, execD, runB_op, runB_nil, stepB, guardA, o, semAll, AO.map, AO.cls, evX, tmE, pushE, semP, semN, semR, semE, binV, binI, binS, pickE, retsD, retV]
    rw [hb]
  | succ k ih =>
    intro i fuel cs h hi hc hg
    have hlt : i < L := by omega
    have hb : execD call n0 wlB1 [v0, v1, .sl B 0 L L 0, .i .i64 L, .i .i64 i] h = some (.nrm [v0, v1, .sl B 0 L L 0, .i .i64 L, .i .i64 ((i + 1 : Nat) : Int)], h.put B (some (.c (cs.set i (.i .u8 97)) 0 0))) := by
      have h1 : (i : Int) < (L : Int) := by omega
      have hw : IntKind.i64.wrap ((i : Int) + 1) = (i : Int) + 1 := wrap_mid (by omega) (by omega)
      have h2 : ¬ cs.length < i + 1 := by omega
      simp [wlB1, execD, runB_op, runB_nil, stepB, guardA, o, semAll, AO.map, AO.cls, evX, tmE, pushE, semP, semN, semR, semE, binV, binI, binS, pickE, retsD, retV, idx, stAt, hg, layAt, V.one, h1, hw, h2]
    have e1 : fuel + (k + 1) + 1 = (fuel + k + 1) + 1 := by omega
    rw [e1, loopD_succ, hb]
    obtain ⟨h', r1, r2, r3⟩ := ih (i + 1) fuel (cs.set i (.i .u8 97)) (h.put B (some (.c (cs.set i (.i .u8 97)) 0 0))) (by omega) (by simpa using hc) (by rw [H.get_put, if_pos rfl])
    refine ⟨h', r1, ?_, r3⟩
    rw [r2]
    have hi2 : i < cs.length := by omega
    congr 2
    rw [List.take_add_one]
    simp [List.replicate_succ, hi2, List.take_set_of_le]

theorem fill2 {call : CallF} {n0 : Nat} (v0 v1 v2 : V) (B L : Nat) (hL : L < 10000) : ∀ (k i fuel : Nat) (cs : List V) (h : H), i + k = L → cs.length = L → h.get B = some (.c cs 0 0) →
    ∃ h', loopD (execD call n0 wlB2) (fuel + k + 1) [v0, v1, v2, .sl B 0 L L 0, .i .i64 L, .i .i64 i] h = some (.exit 2 [v0, v1, v2, .sl B 0 L L 0], h') ∧ h'.get B = some (.c (cs.take i ++ List.replicate k (.i .u8 10)) 0 0) ∧ h'.nx = h.nx := by
  intro k
  induction k with
  | zero =>
    intro i fuel cs h hi hc hg
    have e : i = L := by omega
    subst e
    refine ⟨h, ?_, by simp [← hc, hg], rfl⟩
    rw [loopD_succ]
    have hb : execD call n0 wlB2 [v0, v1, v2, .sl B 0 i i 0, .i .i64 i, .i .i64 i] h = some (.exit 2 [v0, v1, v2, .sl B 0 i i 0], h) := by
      simp [wlB2, execD, runB_op, runB_nil, stepB, guardA, o, semAll, AO.map, AO.cls, evX, tmE, pushE, semP, semN, semR, semE, binV, binI, binS, pickE, retsD, retV]
    rw [hb]
  | succ k ih =>
    intro i fuel cs h hi hc hg
    have hlt : i < L := by omega
    have hb : execD call n0 wlB2 [v0, v1, v2, .sl B 0 L L 0, .i .i64 L, .i .i64 i] h = some (.nrm [v0, v1, v2, .sl B 0 L L 0, .i .i64 L, .i .i64 ((i + 1 : Nat) : Int)], h.put B (some (.c (cs.set i (.i .u8 10)) 0 0))) := by
      have h1 : (i : Int) < (L : Int) := by omega
      have hw : IntKind.i64.wrap ((i : Int) + 1) = (i : Int) + 1 := wrap_mid (by omega) (by omega)
      have h2 : ¬ cs.length < i + 1 := by omega
      simp [wlB2, execD, runB_op, runB_nil, stepB, guardA, o, semAll, AO.map, AO.cls, evX, tmE, pushE, semP, semN, semR, semE, binV, binI, binS, pickE, retsD, retV, idx, stAt, hg, layAt, V.one, h1, hw, h2]
    have e1 : fuel + (k + 1) + 1 = (fuel + k + 1) + 1 := by omega
    rw [e1, loopD_succ, hb]
    obtain ⟨h', r1, r2, r3⟩ := ih (i + 1) fuel (cs.set i (.i .u8 10)) (h.put B (some (.c (cs.set i (.i .u8 10)) 0 0))) (by omega) (by simpa using hc) (by rw [H.get_put, if_pos rfl])
    refine ⟨h', r1, ?_, r3⟩
    rw [r2]
    have hi2 : i < cs.length := by omega
    congr 2
    rw [List.take_add_one]
    simp [List.replicate_succ, hi2, List.take_set_of_le]

theorem fk0 : FK fun g => FT0.get g := ⟨rfl, rfl, rfl, rfl, rfl, rfl, rfl, rfl, rfl, rfl, rfl, rfl⟩
/-- words.Get of empty lines, as what stands for a call. -/
noncomputable def nlF : List V → H → R := fun args h => match args with
  | [.s l] => if l = List.replicate l.length 10 then callD (fun g => FT0.get g) (1 + l.length + 1) 5 9 [.s l] h else none
  | _ => none
theorem nlF_ok : PrimOK Tryz.prog 9 nlF := by
  refine prim_of_callD tok mix ftAll0 fun args h v h' hf => ?_
  unfold nlF at hf
  split at hf
  · split at hf
    · exact ⟨_, _, hf⟩
    · cases hf
  · cases hf
theorem nlF_at (m : Nat) (h : H) : ∃ h', nlF [.s (List.replicate m 10)] h = some (.tu [.sn, .i .i64 (if m ≤ 2500 then 0 else 2501), .i .i64 (if m ≤ 2500 then 0 else 6)], h') := by
  obtain ⟨h', hr⟩ := get_nl fk0 m 0 1 h
  refine ⟨h', ?_⟩
  simp only [nlF, List.length_replicate, if_true]
  exact hr
noncomputable def w9 : List V → H → R := orF p69 (orF p71 (orF p73 (orF p75 (orF p77 (orF p79 (orF p80 (orF p81 (orF p82 (orF p83 (nlF))))))))))
theorem w9_ok : PrimOK Tryz.prog 9 w9 := orF_ok pk69 (orF_ok pk71 (orF_ok pk73 (orF_ok pk75 (orF_ok pk77 (orF_ok pk79 (orF_ok pk80 (orF_ok pk81 (orF_ok pk82 (orF_ok pk83 (nlF_ok))))))))))
noncomputable def FTw : Tr FN := FTp (.prim w9) (.prim q120) (.prim q132) (.prim q131) (.code 1 c10) (.prim q112) (.prim q29) (.prim q24) (.prim q8) (.code 2 c18)
theorem ftAllLaw : TrAll (FGood Tryz.prog T) FTw id := ftAllp ⟨Tryz.call9, w9_ok⟩ ⟨Tryz.call120, qk120⟩ ⟨Tryz.call132, qk132⟩ ⟨Tryz.call131, qk131⟩ fg10 ⟨Tryz.call112, qk112⟩ ⟨Tryz.call29, qk29⟩ ⟨Tryz.call24, qk24⟩ ⟨Tryz.call8, qk8⟩ fg18
end Go.Proofs.YtlnffaalhedfmaaGreatDoor
