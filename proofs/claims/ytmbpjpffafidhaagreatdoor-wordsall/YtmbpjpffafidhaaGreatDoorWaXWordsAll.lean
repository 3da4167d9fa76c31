/- WordsAll: the walk. -/
import Derived.Test.YtmbpjpffafidhaaGreatDoorWaW18
import Derived.Test.YtmbpjpffafidhaaGreatDoorWaAll
namespace Go.Proofs.YtmbpjpffafidhaaGreatDoor
open Go Go.Ev
set_option maxRecDepth 100000
set_option linter.unusedSimpArgs false
theorem waO_loop {F : Nat → Option FN} (k : WK2 F) (n d Ba q : Nat) (hn : 100000 < n) (Ts : List (List Nat)) (h4 : Ts.length = 4) (hT : ∀ T ∈ Ts, T.length < 80000) (t : V) : ∀ (r pre : List (List Nat)) (m i : Nat) (h : H), Ts = pre ++ r → i = pre.length → r.length < m → h.get Ba = some (.c (strs Ts) 0 q) → Ba < h.nx →
    ∃ h', loopD (execD (callD F n (d + 5)) n waO) m [t, .sl Ba 0 4 4 0, .i .i64 4, .i .i64 (i : Nat)] h = some (.exit 0 [t], h')
  | [], pre, m, i, h, hTs, hi, hm, hg, hB => by
    obtain ⟨m, rfl⟩ : ∃ q, m = q + 1 := ⟨m - 1, by simp at hm; omega⟩
    have : i = 4 := by rw [hi, ← h4, hTs]; simp
    subst this
    exact ⟨h, by rw [loopD_one]; have e := waO_end (call := callD F n (d + 5)) (n := n) (t := t) (arr := .sl Ba 0 4 4 0) (h := h); exact (by show (match execD (callD F n (d + 5)) n waO [t, .sl Ba 0 4 4 0, .i .i64 4, .i .i64 4] h with | some (.nrm e, h') => loopD (execD (callD F n (d + 5)) n waO) m e h' | r => r) = _; rw [e])⟩
  | T :: r, pre, m, i, h, hTs, hi, hm, hg, hB => by
    obtain ⟨m, rfl⟩ : ∃ q, m = q + 1 := ⟨m - 1, by simp at hm; omega⟩
    have hTl : T.length < 80000 := hT T (by rw [hTs]; simp)
    have hi4 : i < 4 := by
      rw [hi, ← h4, hTs]
      simp
    obtain ⟨v1, h1, c1, x1, g1⟩ := get_run k.toWK T hTl h n d (by omega) (by omega)
    obtain ⟨v2, h2, c2, x2, g2⟩ := rget_run k T hTl h1 n (d + 3) (by omega) (by omega)
    have hll := lines_len T
    obtain ⟨l, mm, a, e, K, rfl, rfl, hl, hmm, hloop⟩ := pair (by omega) g1 g2 x2
    have hc : (strs Ts)[i]? = some (.s T) := by rw [hTs, hi]; simp [strs]
    have hb := waO_run (n := n) (t := t) hi4 hg hc c1 c2 hl hmm (hloop _ n t _ _ _ (by omega))
    have x12 := x1.trans x2
    have hle := x12.le
    obtain ⟨h', hr⟩ := waO_loop k n d Ba q hn Ts h4 hT t r (pre ++ [T]) m (i + 1) h2 (by rw [hTs]; simp) (by simp [hi]) (by simp at hm; omega) (by rw [x12.get Ba hB, hg]) (by omega)
    have ei : ((i + 1 : Nat) : Int) = (i : Int) + 1 := by omega
    rw [ei] at hr
    exact ⟨h', by rw [loopD_one, hb]; exact hr⟩
noncomputable def FTx : Tr FN := FTp (.code 1 c131) (.code 1 c152) (.code 1 c151) (.code 1 c16) (.code 1 c14) (.code 1 c41) (.code 0 c35) (.prim q10) (.code 2 c11) (.code 1 c12) (.code 1 c13) (.code 1 c15)
theorem ftAllLaw : TrAll (FGood Tryz.prog T) FTx id := ftAllp fg131 fg152 fg151 fg16 fg14 fg41 fg35 ⟨Tryz.call10, qk10⟩ fg11 fg12 fg13 fg15
theorem wkx : WK2 (fun g => FTx.get g) where
  ixb := rfl
  ix := rfl
  scut := rfl
  cut := rfl
  look := rfl
  trim := rfl
  strim := rfl
  has := rfl
  cf := rfl
  xf := rfl
  bad := rfl
  ff := rfl
  bl := rfl
  get := rfl
  nbad := rfl
  name := rfl
  rname := rfl
  rlines := rfl
  rget := rfl
noncomputable def ckx : CallK := callF FTx 1000000 1999
theorem b_pre : execF ckx 1000000 (.reg [o 16 (.call 10 [])]) [] h0 (kP 0) noE noR = some (.b true, ⟨0, .lf⟩) := by kernel_rfl
theorem begun_run : ∃ h', callD (fun g => FTx.get g) 1000000 1999 10 [] h0 = some (.b true, h') := by
  have hc : CSnd (callD (fun g => FTx.get g) 1000000 1999) ckx := callF_some 1999
  obtain ⟨env, h, h1, hx⟩ := ahead_at hc b_pre
  simp only [execD, runB_op, runB_nil, stepB, guardA, o, semAll, AO.map, List.map_nil, pushE] at h1
  cases hcall : callD (fun g => FTx.get g) 1000000 1999 10 [] h0 with
  | none => rw [hcall] at h1; simp at h1
  | some p =>
    obtain ⟨v, h2⟩ := p
    rw [hcall] at h1
    simp at h1
    rw [← h1.1] at hx
    simp at hx
    exact ⟨h2, by rw [hx]⟩
theorem walkD (x y : List Nat) : ∃ h', callD (fun g => FTx.get g) 1000000 2000 3 [.s x, .s y] h0 = some (.b true, h') := by
  obtain ⟨hb, hbegun⟩ := begun_run
  have ht1 : callD (fun g => FTx.get g) 1000000 1999 11 [.s x, .i .i64 500] hb = some (.s (x.take 500), hb) := text_run rfl x 500 hb 1000000 1998
  have ht2 : callD (fun g => FTx.get g) 1000000 1999 11 [.s y, .i .i64 230] hb = some (.s (y.take 230), hb) := text_run rfl y 230 hb 1000000 1998
  have l1 : (x.take 500).length ≤ 500 := by simp; omega
  have l2 : (y.take 230).length ≤ 230 := by simp; omega
  generalize x.take 500 = s at ht1 l1
  generalize y.take 230 = t at ht2 l2
  let Ts : List (List Nat) := [s, t, 32 :: (t ++ 13 :: 10 :: s), s ++ 10 :: 42 :: t]
  have hl : ∃ h', loopD (execD (callD (fun g => FTx.get g) 1000000 1999) 1000000 waO) 1000000 [.s t, .sl hb.nx 0 4 4 0, .i .i64 4, .i .i64 0] (hb.new (.c (strs Ts) 0 0)) = some (.exit 0 [.s t], h') :=
    waO_loop wkx 1000000 1994 hb.nx 0 (by omega) Ts rfl (by
      intro T hT
      simp only [Ts, List.mem_cons, List.mem_nil_iff, or_false] at hT
      rcases hT with rfl | rfl | rfl | rfl
      · omega
      · omega
      · simp
        omega
      · simp
        omega) (.s t) Ts [] 1000000 0 (hb.new (.c (strs Ts) 0 0)) rfl rfl (by show 4 < 1000000; omega) (by rw [H.get_new, if_pos rfl]) (by simp)
  obtain ⟨h2, hl⟩ := hl
  have hn : ∃ h3, callD (fun g => FTx.get g) 1000000 1999 14 [.s t] h2 = some (.b (nameB t), h3) := by
    obtain ⟨h3, hn, _⟩ := name_run wkx t (by omega) h2 1000000 1995 (by omega)
    exact ⟨h3, hn⟩
  obtain ⟨h3, hn⟩ := hn
  have hrn : callD (fun g => FTx.get g) 1000000 1999 15 [.s t] h3 = some (.b (nameB t), h3) := rname_run wkx t (by omega) h3 1000000 1998 (by omega)
  refine ⟨h3, callD_code (np := 2) (b := c3) rfl rfl ?_⟩
  have a1 : t.length < 4611686018427387903 := by omega
  have a2 : 1 + t.length < 4611686018427387904 := by omega
  have a3 : t.length + 1 < 4611686018427387904 := by omega
  have a4 : t.length + 1 + 2 < 4611686018427387904 := by omega
  have a5 : t.length + 2 + s.length + 1 < 4611686018427387904 := by omega
  have a5' : t.length + 2 + 1 + s.length < 4611686018427387904 := by omega
  have a5'' : t.length + 1 + 2 + s.length < 4611686018427387904 := by omega
  have a8 : t.length + 2 < 4611686018427387904 := by omega
  have a9 : t.length + 2 + 1 < 4611686018427387904 := by omega
  have a10 : s.length + (t.length + 1 + 1) < 4611686018427387904 := by omega
  have a11 : s.length + (t.length + 2) < 4611686018427387904 := by omega
  have a6 : s.length + 2 < 4611686018427387904 := by omega
  have a7 : s.length + 2 + t.length < 4611686018427387904 := by omega
  simp only [Ts, strs, List.map_cons, List.map_nil] at hl
  cases hnb : nameB t <;> rw [hnb] at hn hrn <;>
  simp [c_wa, execD, runB_op, runB_nil, stepB, guardA, o, semAll, AO.map, AO.cls, evX, tmE, pushE, semP, semN, semR, semE, binV, binI, binS, pickE, retsD, retV, unV, eqV, V.cells, fillV, layAt, V.one, rept, hbegun, ht1, ht2, a1, a2, a3, a4, a5, a5', a5'', a6, a7, a8, a9, a10, a11, hl, hn, hrn]
end Go.Proofs.YtmbpjpffafidhaaGreatDoor
