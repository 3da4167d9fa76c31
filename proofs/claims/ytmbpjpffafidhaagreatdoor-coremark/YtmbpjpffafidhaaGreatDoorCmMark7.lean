/- CoreMark: the walk. -/
import Derived.Test.YtmbpjpffafidhaaGreatDoorCmMark6
namespace Go.Proofs.YtmbpjpffafidhaaGreatDoor
open Go Go.Ev
set_option maxRecDepth 100000
set_option linter.unusedSimpArgs false
theorem colsC_at : ∀ (cols : List (List Nat × Bool)) (i : Nat) (c : List Nat × Bool), cols[i]? = some c → (colsC cols)[i * 5 + 4]? = some (.b c.2)
  | [], i, c, h => by simp at h
  | x :: cols, 0, c, h => by
    simp only [List.getElem?_cons_zero, Option.some.injEq] at h
    subst h
    rfl
  | x :: cols, i + 1, c, h => by
    have ih := colsC_at cols i c (by simpa using h)
    have e : (i + 1) * 5 + 4 = (i * 5 + 4) + 5 := by omega
    rw [e]
    simp only [colsC, List.getElem?_cons_succ]
    exact ih
section
variable {call : CallF} {n K i X Bc capc xc qc Bw cw xw qw : Nat} {h : H} {nm ob rw : V} {csc csw : List V} {b : Bool}
theorem cmC_end {want x : V} : execD call n cmC [want, x, .i .i64 (K : Nat), .i .i64 (K : Nat)] h = some (.exit 3 [], h) := by
  simp [cmC, execD, runB_op, runB_nil, stepB, guardA, o, semAll, AO.map, AO.cls, evX, tmE, pushE, semP, semN, semR, semE, binV, binI, binS, pickE, retsD, retV]
theorem cmC_step (hi : i < K) (hK : K < 1000) (hX : h.get X = some (.c [nm, ob, rw, .sl Bc 0 K capc xc] 0 212)) (hc : h.get Bc = some (.c csc 0 qc)) (c1 : csc[i * 5 + 4]? = some (.b b)) (hw : h.get Bw = some (.c csw 0 qw)) (w1 : csw[i]? = some (.b b)) :
    execD call n cmC [.sl Bw 0 K cw xw, .p X 0, .i .i64 (K : Nat), .i .i64 (i : Nat)] h = some (.nrm [.sl Bw 0 K cw xw, .p X 0, .i .i64 (K : Nat), .i .i64 ((i + 1 : Nat) : Int)], h) := by
  have e : (i : Int) < K := by omega
  have hwr : IntKind.i64.wrap ((i : Int) + 1) = (i : Int) + 1 := wrap_mid (by omega) (by omega)
  have hx := idx_it hi
  simp [cmC, execD, runB_op, runB_nil, stepB, guardA, o, semAll, AO.map, AO.cls, evX, tmE, pushE, semP, semN, semR, semE, binV, binI, binS, pickE, retsD, retV, eqV, e, hi, hx, hX, hc, c1, hw, w1, hwr]
end
theorem cmC_loop (call : CallF) (n : Nat) {X Bc capc xc qc Bw cw xw qw : Nat} {h : H} {nm ob rw : V} {csc csw : List V} {cols : List (List Nat × Bool)} (hK : cols.length < 1000) (hX : h.get X = some (.c [nm, ob, rw, .sl Bc 0 cols.length capc xc] 0 212)) (hc : h.get Bc = some (.c csc 0 qc)) (hct : csc.take (cols.length * 5) = colsC cols)
    (hw : h.get Bw = some (.c csw 0 qw)) (hwt : csw.take cols.length = (cols.map (·.2)).map V.b) : ∀ (r i m : Nat), r = cols.length - i → i ≤ cols.length → r < m →
    loopD (execD call n cmC) m [.sl Bw 0 cols.length cw xw, .p X 0, .i .i64 (cols.length : Nat), .i .i64 (i : Nat)] h = some (.exit 3 [], h)
  | 0, i, m, hr, hi, hm => by
    obtain ⟨m, rfl⟩ : ∃ q, m = q + 1 := ⟨m - 1, by omega⟩
    have : i = cols.length := by omega
    subst this
    rw [loopD_one, cmC_end]
  | r + 1, i, m, hr, hi, hm => by
    obtain ⟨m, rfl⟩ : ∃ q, m = q + 1 := ⟨m - 1, by omega⟩
    have hlt : i < cols.length := by omega
    have hci : cols[i]? = some cols[i] := List.getElem?_eq_getElem hlt
    have c1 : csc[i * 5 + 4]? = some (.b cols[i].2) := by
      have := colsC_at cols i _ hci
      rw [← hct, List.getElem?_take, if_pos (by omega)] at this
      exact this
    have w1 : csw[i]? = some (.b cols[i].2) := by
      have : ((cols.map (·.2)).map V.b)[i]? = some (.b cols[i].2) := by simp [hci]
      rw [← hwt, List.getElem?_take, if_pos hlt] at this
      exact this
    rw [loopD_one, cmC_step hlt hK hX hc c1 hw w1]
    exact cmC_loop call n hK hX hc hct hw hwt r (i + 1) m (by omega) (by omega) (by omega)
noncomputable def FTx : Tr FN := FTp (.code 1 c131) (.prim pL) (.code 1 c151) (.prim nP) (.code 1 c14) (.code 1 c41) (.code 0 c35) (.prim q10) (.prim pT) (.prim pG) (.code 2 c11) (.code 1 c12) (.code 1 c13) (.code 1 c15)
theorem ftAllLaw : TrAll (FGood Tryz.prog T) FTx id := ftAllp fg131 ⟨Tryz.call152, pL_ok⟩ fg151 ⟨Tryz.call16, nP_ok⟩ fg14 fg41 fg35 ⟨Tryz.call10, qk10⟩ ⟨Tryz.call119, pT_ok⟩ ⟨Tryz.call116, pG_ok⟩ fg11 fg12 fg13 fg15
theorem wkx : WKC (fun g => FTx.get g) where
  ixb := rfl
  ix := rfl
  scut := rfl
  cut := rfl
  look := rfl
  trim := rfl
  strim := rfl
  has := rfl
  cf := rfl
  xf := rfl
  bad := rfl
  ff := rfl
  bl := rfl
  get := rfl
  nbad := rfl
  name := rfl
  txt := rfl
  fails := rfl
  word := rfl
  many := rfl
  conI := rfl
  idxI := rfl
  idxS := rfl
  heads := rfl
  head := rfl
  row := rfl
  marks := rfl
  column := rfl
  pairs := rfl
  put := rfl
  number := rfl
  line := rfl
  cget := rfl
theorem ux : NumI (fun g => FTx.get g) where
  lit h n d := by
    obtain ⟨h', h1, h2, h3⟩ := one_lit h
    exact ⟨h', _, h1, h2, h3⟩
  text h n d m B a := one_text a
  sign h n d m B a := one_sign a
theorem begun_run {hA : H} (hx : hA.nx ≤ 65536) (ha : hasAll hA la62 = true) (n d : Nat) : callD (fun g => FTx.get g) n (d + 1) 10 [] hA = some (.b true, hA) := by
  have h1 : p62 [] hA = some (.b true, hA) := primQ_at hx ha
  exact orF_left h1
theorem walkD {hA : H} (hx : hA.nx ≤ 65536) (ha : hasAll hA la62 = true) {ksV : V} {zs : List Int} (ak : ArgS hA 1 ksV (zs.map fun z => V.i .i64 z)) :
    ∃ h', callD (fun g => FTx.get g) 1000000 2000 9 [ksV] hA = some (.b true, h') := by
  have hb := begun_run hx ha 1000000 1998
  have hnum : ∀ i : Nat, i < 12 → ∀ h, ∃ h', callD (fun g => FTx.get g) 1000000 1999 16 [.i .i64 (i : Int)] h = some (.s (decL i), h') ∧ Ext h h' := fun i hi h => num_run i hi h
  obtain ⟨its, want, ig, bad, at_, h1, hloop, hits, c, hle1⟩ := cm_loop 1000000 1999 hnum hA ak 12 0 1000000 [] .sn false false 0 hA rfl rfl (by omega) (by omega) ⟨⟨[], none, ⟨rfl, rfl⟩, by simp, by simp, fun j ig' cols hk => by
    simp only [List.foldl_nil, Except.ok.injEq, Prod.mk.injEq] at hk
    obtain ⟨rfl, rfl, rfl⟩ := hk
    exact ⟨rfl, rfl, rfl, rfl⟩⟩, fun e he => by simp at he⟩ (Nat.le_refl _) (fun _ _ => rfl)
  obtain ⟨v, h2, hget, fr2, le2, hres⟩ := core_get wkx ux its hits h1 1000000 1990 (by omega)
  obtain ⟨⟨ws, bo, an, hwl, hbo, hok⟩, herr⟩ := c
  have htl := txtI_len its 0 (by omega)
  have e5 : (5 : Int) + ((0 : Nat) : Int) = 5 := by omega
  have e0 : ((0 : Nat) : Int) = 0 := rfl
  have et : txt0 ++ txtI [] 0 = txt0 := by simp [txtI]
  rw [e5, e0, et] at hloop
  have ea : binS .add (txt0 ++ txtI its 0) txtT = some (.s (txt0 ++ (txtI its 0 ++ txtT))) := by
    rw [bin_add (by simp only [List.length_append]; have a1 : txt0.length = 30 := rfl; have a2 : txtT.length = 11 := rfl; omega)]
    simp
  have hget' : callD (fun g => FTx.get g) 1000000 1999 22 [.s (txt0 ++ (txtI its 0 ++ txtT))] h1 = some (v, h2) := hget
  generalize txt0 ++ txtI its 0 = S at hloop ea
  generalize txt0 ++ (txtI its 0 ++ txtT) = T at ea hget'
  simp only [txtT] at ea
  simp only [txt0] at hloop
  cases hf : its.foldl stIt (.ok (0, false, [])) with
  | error e =>
    obtain ⟨rfl, rfl⟩ := herr e hf
    rw [hf] at hres
    have hv : v = .tu [.ag [.s [], .s [], .sn, .sn], .i .i64 ((6 + e : Nat) : Int), .i .i64 5] := hres
    subst hv
    generalize ((6 + e : Nat) : Int) = z at hloop hget'
    refine ⟨(h2.new (.c [.s [], .s [], .sn, .sn] 0 212)).put h2.nx (some (.c [.s [], .s [], .sn, .sn] 0 212)), callD_code (np := 1) (b := c9) rfl rfl ?_⟩
    · simp [c_cm, execD, runB_op, runB_nil, stepB, guardA, o, semAll, AO.map, AO.cls, evX, tmE, pushE, semP, semN, semR, semE, binV, binI, pickE, retsD, retV, unV, hb, hloop, ea, hget', stAt, H.get_new, V.one, layAt]
  | ok st =>
    obtain ⟨j, ig', cols⟩ := st
    obtain ⟨rfl, rfl, rfl, hj⟩ := hok j ig' cols hf
    rw [hf] at hres
    obtain ⟨nm, ob, rw_, cl, boc, rfl, anc, horw⟩ := hres
    have hcl : cols.length ≤ 12 := by
      simp at hwl
      omega
    let X := h2.nx
    let h3 := (h2.new (.c [.s [], .s [], .sn, .sn] 0 212)).put X (some (.c [.s nm, .s ob, rw_, cl] 0 212))
    have hX : h3.get X = some (.c [.s nm, .s ob, rw_, cl] 0 212) := by
      show (H.put _ X _).get X = _
      rw [H.get_put, if_pos rfl]
    have old3 : ∀ y, y < h2.nx → h3.get y = h2.get y := fun y hy => by
      show (H.put _ X _).get y = _
      rw [H.get_put, if_neg (by show ¬ y = h2.nx; omega), H.get_new, if_neg (by omega)]
    have an3 : AN h3 want 1 ((cols.map (·.2)).map V.b) bo := an.frame (fun y hy hyl => by rw [old3 y (by omega), fr2 y hyl]) (by show h1.nx ≤ h2.nx + 1; omega)
    have anc3 : AN h3 cl 5 (colsC cols) boc := anc.frame (fun y hy hyl => old3 y hyl) (by show h2.nx ≤ h2.nx + 1; omega)
    have vw := an_val an3 (by omega) (n := cols.length) (by simp)
    have vc := an_val anc3 (by omega) (colsC_len cols)
    have hz : loopD (execD (callD (fun g => FTx.get g) 1000000 1999) 1000000 cmC) 1000000 [want, .p X 0, .i .i64 (cols.length : Nat), .i .i64 0] h3 = some (.exit 3 [], h3) := by
      by_cases hk0 : cols.length = 0
      · rw [hk0]
        rw [show (1000000 : Nat) = 999999 + 1 from rfl, loopD_one]
        have hq : execD (callD (fun g => FTx.get g) 1000000 1999) 1000000 cmC [want, .p X 0, .i .i64 ((0 : Nat) : Int), .i .i64 0] h3 = some (.exit 3 [], h3) := cmC_end (K := 0)
        rw [hq]
      · rcases vw with ⟨_, e⟩ | ⟨Bw, cw, xw, rfl⟩
        · exact absurd e hk0
        · rcases vc with ⟨_, e⟩ | ⟨Bc, capc, xc, rfl⟩
          · exact absurd e hk0
          · have cellsOf : ∀ {v : V} {sz : Nat} {cells : List V} {b : Option Nat} {B K c x : Nat}, AN h3 v sz cells b → v = .sl B 0 K c x → ∃ cs q, h3.get B = some (.c cs 0 q) ∧ cs.take (K * sz) = cells := by
              intro v sz cells b B K c x a hv
              cases b with
              | none =>
                obtain ⟨a1, _⟩ := a
                rw [a1] at hv
                cases hv
              | some B2 =>
                obtain ⟨len, cap, xf, cs, q, g1, g2, _, _, _, _, g7, _⟩ := a.1.ex
                rw [g1] at hv
                injection hv with q1 q2 q3 q4 q5
                subst q1
                subst q3
                exact ⟨cs, q, g2, g7⟩
            obtain ⟨csw, qw, g1, g2⟩ := cellsOf an3 rfl
            obtain ⟨csc, qc, g3, g4⟩ := cellsOf anc3 rfl
            rw [Nat.mul_one] at g2
            exact cmC_loop (callD (fun g => FTx.get g) 1000000 1999) 1000000 (by omega) hX g3 g4 g1 g2 cols.length 0 1000000 rfl (by omega) (by omega)
    have lw : semP (.len false want) = some (.i .i64 (cols.length : Int)) := by
      rcases vw with ⟨e, e2⟩ | ⟨_, _, _, e⟩
      · rw [e, e2]
        rfl
      · rw [e]
        rfl
    have lc : semP (.len false cl) = some (.i .i64 (cols.length : Int)) := by
      rcases vc with ⟨e, e2⟩ | ⟨_, _, _, e⟩
      · rw [e, e2]
        rfl
      · rw [e]
        rfl
    have oc : V.one cl = true := by
      rcases vc with ⟨e, e2⟩ | ⟨_, _, _, e⟩ <;> rw [e] <;> rfl
    simp only [semP] at lw lc
    unfold V.one at oc horw
    simp only [h3, X] at hz hX
    refine ⟨h3, callD_code (np := 1) (b := c9) rfl rfl ?_⟩
    simp [c_cm, execD, runB_op, runB_nil, stepB, guardA, o, semAll, AO.map, AO.cls, evX, tmE, pushE, semP, semN, semR, semE, binV, binI, pickE, retsD, retV, unV, hb, hloop, ea, hget', stAt, H.get_new, V.one, layAt, oc, horw, hX, lw, lc, hz, h3, X]
end Go.Proofs.YtmbpjpffafidhaaGreatDoor
