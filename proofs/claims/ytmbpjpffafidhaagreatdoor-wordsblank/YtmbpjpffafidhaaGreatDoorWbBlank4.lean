/- WordsBlank: the walk. -/
import Derived.Test.YtmbpjpffafidhaaGreatDoorWbBlank3
import Derived.Test.YtmbpjpffafidhaaGreatDoorWbAll
namespace Go.Proofs.YtmbpjpffafidhaaGreatDoor
open Go Go.Ev
set_option maxRecDepth 100000
set_option linter.unusedSimpArgs false
section
variable {call : CallF} {n K i Bl cl xl ql Bw cw xw qW w cap xf wq fz Bi : Nat} {cs wc cW : List V} {a : List Nat} {h : H}
theorem wbC_step (hi : i < K) (hK : K < 100000) (hgl : h.get Bl = some (.c cs 0 ql)) (c1 : cs[i * 3 + 1]? = some (.b false)) (c2 : cs[i * 3 + 2]? = some (.sl w 0 2 cap xf)) (hgw : h.get w = some (.c wc fz wq)) (w0 : wc[0]? = some (.s a)) (w1 : wc[1]? = some (.s [120]))
    (hgW : h.get Bw = some (.c cW 0 qW)) (W0 : cW[i]? = some (.sl Bi 0 2 2 0)) (hgB : h.get Bi = some (.c [.s a, .s [120]] 0 0)) :
    execD call n wbC [.sl Bw 0 K cw xw, .sl Bl 0 K cl xl, .i .i64 (K : Nat), .i .i64 (i : Nat)] h = some (.nrm [.sl Bw 0 K cw xw, .sl Bl 0 K cl xl, .i .i64 (K : Nat), .i .i64 ((i + 1 : Nat) : Int)], h) := by
  have e : (i : Int) < K := by omega
  have hw : IntKind.i64.wrap ((i : Int) + 1) = (i : Int) + 1 := wrap_mid (by omega) (by omega)
  have hix := idx_at hi
  have hx0 : idx 0 2 = some 0 := rfl
  have hx1 : idx 1 2 = some 1 := rfl
  simp [wbC, execD, runB_op, runB_nil, stepB, guardA, o, semAll, AO.map, AO.cls, evX, tmE, pushE, semP, semN, semR, semE, binV, binI, binS, pickE, retsD, retV, e, hix, hx0, hx1, hgl, c1, c2, hgw, w0, w1, hgW, W0, hgB, hw]
theorem wbC_end {want l : V} {K : Nat} : execD call n wbC [want, l, .i .i64 (K : Nat), .i .i64 (K : Nat)] h = some (.exit 2 [], h) := by
  simp [wbC, execD, runB_op, runB_nil, stepB, guardA, o, semAll, AO.map, AO.cls, evX, tmE, pushE, semP, semN, semR, semE, binV, binI, binS, pickE, retsD, retV]
end
theorem wbC_loop (call : CallF) (n : Nat) (h : H) {Bl cl xl ql Bw cw xw qW : Nat} {cs cW : List V} {xs : List Row} {ps : List (List Nat × Nat)} (hK : xs.length < 100000) (hgl : h.get Bl = some (.c cs 0 ql))
    (hcs : ∀ pre r post, xs = pre ++ r :: post → cs[pre.length * 3 + 1]? = some (.b r.hd) ∧ cs[pre.length * 3 + 2]? = some r.v) (hrow : ∀ r ∈ xs, r.ok h) (hl : xs.map (fun r => (r.hd, r.ws)) = ps.map fun p => (false, [p.1, [120]]))
    (hgW : h.get Bw = some (.c cW 0 qW)) (hcW : ∀ (i : Nat) (p : List Nat × Nat), ps[i]? = some p → cW[i]? = some (.sl p.2 0 2 2 0)) (hps : ∀ p ∈ ps, h.get p.2 = some (.c [.s p.1, .s [120]] 0 0)) :
    ∀ (post pre : List Row) (m : Nat), xs = pre ++ post → post.length < m → loopD (execD call n wbC) m [.sl Bw 0 xs.length cw xw, .sl Bl 0 xs.length cl xl, .i .i64 (xs.length : Nat), .i .i64 (pre.length : Nat)] h = some (.exit 2 [], h)
  | [], pre, m, hx, hm => by
    obtain ⟨m, rfl⟩ : ∃ q, m = q + 1 := ⟨m - 1, by simp at hm; omega⟩
    have e : pre.length = xs.length := by rw [hx]; simp
    rw [e, loopD_one, wbC_end]
  | r :: post, pre, m, hx, hm => by
    obtain ⟨m, rfl⟩ : ∃ q, m = q + 1 := ⟨m - 1, by simp at hm; omega⟩
    obtain ⟨c1, c2⟩ := hcs pre r post hx
    obtain ⟨cap, xf, wc, fz, wq, k1, k2, k3⟩ := hrow r (by rw [hx]; simp)
    have hlt : pre.length < xs.length := by rw [hx]; simp
    have hpl : ps.length = xs.length := by
      have := congrArg List.length hl
      simpa using this.symm
    obtain ⟨p, hp⟩ : ∃ p, ps[pre.length]? = some p := ⟨_, List.getElem?_eq_getElem (by omega)⟩
    have hl2 := congrArg (fun (l : List (Bool × List (List Nat))) => l[pre.length]?) hl
    simp only [List.getElem?_map, hp, Option.map_some] at hl2
    rw [hx] at hl2
    simp only [List.getElem?_append_right (Nat.le_refl _), Nat.sub_self, List.getElem?_cons_zero, Option.map_some, Option.some.injEq, Prod.mk.injEq] at hl2
    obtain ⟨hd, hws⟩ := hl2
    rw [hd] at c1
    rw [hws] at k3
    rw [k1, hws] at c2
    have w0 : wc[0]? = some (.s p.1) := by
      have := congrArg (fun (l : List V) => l[0]?) k3
      simpa [hws] using this
    have w1 : wc[1]? = some (.s [120]) := by
      have := congrArg (fun (l : List V) => l[1]?) k3
      simpa [hws] using this
    rw [loopD_one, wbC_step hlt hK hgl c1 c2 k2 w0 w1 hgW (hcW _ _ hp) (hps _ (List.mem_of_getElem? hp))]
    have := wbC_loop call n h (cl := cl) (xl := xl) (cw := cw) (xw := xw) hK hgl hcs hrow hl hgW hcW hps post (pre ++ [r]) m (by rw [hx]; simp) (by simp at hm; omega)
    simp only [List.length_append, List.length_cons, List.length_nil] at this
    exact this
noncomputable def FTx : Tr FN := FTp (.code 1 c131) (.code 1 c152) (.code 1 c151) (.code 1 c16) (.code 1 c14) (.code 1 c41) (.code 0 c35) (.prim q10) (.code 1 c119) (.code 1 c116) (.code 2 c11) (.code 1 c12) (.code 1 c13) (.code 1 c15)
theorem ftAllLaw : TrAll (FGood Tryz.prog T) FTx id := ftAllp fg131 fg152 fg151 fg16 fg14 fg41 fg35 ⟨Tryz.call10, qk10⟩ fg119 fg116 fg11 fg12 fg13 fg15
theorem wkx : WKN (fun g => FTx.get g) where
  ixb := rfl
  ix := rfl
  scut := rfl
  cut := rfl
  look := rfl
  trim := rfl
  strim := rfl
  has := rfl
  cf := rfl
  xf := rfl
  bad := rfl
  ff := rfl
  bl := rfl
  get := rfl
  nbad := rfl
  name := rfl
  txt := rfl
theorem begun_run {hA : H} (hx : hA.nx ≤ 65536) (ha : hasAll hA la62 = true) (n d : Nat) : callD (fun g => FTx.get g) n (d + 1) 10 [] hA = some (.b true, hA) := by
  have h1 : p62 [] hA = some (.b true, hA) := primQ_at hx ha
  exact orF_left h1
theorem an_len {h : H} {v : V} {sz : Nat} {cells : List V} {bo : Option Nat} (a : AN h v sz cells bo) (hs : 0 < sz) : (v = .sn ∧ cells = []) ∨ ∃ B len cap xf cs q, v = .sl B 0 len cap xf ∧ cells.length = len * sz ∧ h.get B = some (.c cs 0 q) ∧ cs.take (len * sz) = cells ∧ bo = some B := by
  cases bo with
  | none => exact .inl a
  | some B =>
    obtain ⟨len, cap, xf, cs, q, h1, h2, h3, h4, h5, h6, h7, h8⟩ := a.1.ex
    exact .inr ⟨B, len, cap, xf, cs, q, h1, h8, h2, h7, rfl⟩
theorem walkD {hA : H} (hx : hA.nx ≤ 65536) (ha : hasAll hA la62 = true) {wsV ksV : V} {ss : List (List Nat)} {zs : List Int} (aw : ArgS hA 1 wsV (ss.map V.s)) (ak : ArgS hA 1 ksV (zs.map fun z => V.i .i64 z)) :
    ∃ h', callD (fun g => FTx.get g) 1000000 2000 4 [wsV, ksV] hA = some (.b true, h') := by
  have hb := begun_run hx ha 1000000 1998
  obtain ⟨want, bo, S, L, h1, ps, hloop, g, an, wa⟩ := wb_loop wkx 1000000 1994 (by omega) hA aw ak 12 0 1000000 [] [] .sn none hA [] rfl (by omega) (by omega) Good.nil ⟨rfl, rfl⟩ (by intro x hx; simp at hx) (by simp) (Nat.le_refl _) (fun _ _ => rfl)
  have hS := g.size
  obtain ⟨v, h2, hget, hx2, hres⟩ := get_run wkx.toWK S (by omega) h1 1000000 1994 (by omega) (by omega)
  have hlin : linesL S = L := by
    have := g.cut []
    simpa [linesL] using this
  obtain ⟨ys, hys, hys2⟩ := g.get 1 (by omega)
  rw [hlin, hys] at hres
  obtain ⟨l, bl, xs, rfl, al, ra, hxs, hbl⟩ := hres
  have e0 : ((0 : Nat) : Int) = 0 := rfl
  rw [e0] at hloop
  have hpl : ps.length = xs.length := by
    have h3 := congrArg List.length hys2
    rw [← hxs] at h3
    simpa using h3.symm
  have hl : xs.map (fun r => (r.hd, r.ws)) = ps.map fun p => (false, [p.1, [120]]) := by
    rw [← hxs] at hys2
    simp only [List.map_map] at hys2
    have e1 : (Prod.snd ∘ Row.line) = fun r : Row => (r.hd, r.ws) := rfl
    have e2 : ((fun w : List Nat => (false, [w, [120]])) ∘ (fun p : List Nat × Nat => p.1)) = fun p : List Nat × Nat => (false, [p.1, [120]]) := rfl
    rw [e1] at hys2
    rw [hys2]
    rfl
  have an2 : AN h2 want 1 (cellsW ps) bo := an.frame (fun B _ hB => hx2.get B hB) hx2.le
  have hmany := g.many
  simp only [List.length_map] at hmany
  refine ⟨h2, callD_code (np := 2) (b := c4) rfl rfl ?_⟩
  rcases an_len al (by omega) with ⟨rfl, hc⟩ | ⟨Bl, len, cl, xl, cs, ql, rfl, hcl, hgl, htk, rfl⟩
  · have hx0 : xs = [] := by
      cases xs with
      | nil => rfl
      | cons x xs => simp [rowsC] at hc
    subst hx0
    have hp0 : ps = [] := List.length_eq_zero_iff.1 (by simpa using hpl)
    subst hp0
    rcases an_len an2 (by omega) with ⟨rfl, _⟩ | ⟨Bw, len, cw, xw, cw', qw, rfl, hcw, _⟩
    · have hz : loopD (execD (callD (fun g => FTx.get g) 1000000 1999) 1000000 wbC) 1000000 [.sn, .sn, .i .i64 0, .i .i64 0] h2 = some (.exit 2 [], h2) := by
        have := wbC_end (call := callD (fun g => FTx.get g) 1000000 1999) (n := 1000000) (h := h2) (want := .sn) (l := .sn) (K := 0)
        rw [e0] at this
        rw [show (1000000 : Nat) = 999999 + 1 from rfl, loopD_one, this]
      simp [c_wb, execD, runB_op, runB_nil, stepB, guardA, o, semAll, AO.map, AO.cls, evX, tmE, pushE, semP, semN, semR, semE, binV, binI, binS, pickE, retsD, retV, unV, hb, hloop, hget, hz]
    · have hl0 : len = 0 := by
        simp [cellsW] at hcw
        omega
      subst hl0
      have hz : loopD (execD (callD (fun g => FTx.get g) 1000000 1999) 1000000 wbC) 1000000 [.sl Bw 0 0 cw xw, .sn, .i .i64 0, .i .i64 0] h2 = some (.exit 2 [], h2) := by
        have := wbC_end (call := callD (fun g => FTx.get g) 1000000 1999) (n := 1000000) (h := h2) (want := .sl Bw 0 0 cw xw) (l := .sn) (K := 0)
        rw [e0] at this
        rw [show (1000000 : Nat) = 999999 + 1 from rfl, loopD_one, this]
      simp [c_wb, execD, runB_op, runB_nil, stepB, guardA, o, semAll, AO.map, AO.cls, evX, tmE, pushE, semP, semN, semR, semE, binV, binI, binS, pickE, retsD, retV, unV, hb, hloop, hget, hz]
  · rw [rowsC_len] at hcl
    have hlen : len = xs.length := by omega
    subst hlen
    obtain ⟨capr, xfr, cs', q', hv, hgr, hrd⟩ := rows_read al.1
    injection hv with _ _ _ e5 e6
    subst e5; subst e6
    rw [hgl] at hgr
    injection hgr with hgr
    injection hgr with e7 _ e8
    subst e7; subst e8
    rcases an_len an2 (by omega) with ⟨rfl, hc0⟩ | ⟨Bw, lenw, cw, xw, cW, qw, rfl, hcw, hgW, htkw, rfl⟩
    · have hp0 : ps.length = 0 := by
        have := congrArg List.length hc0
        simpa [cellsW] using this
      have hx0 : xs.length = 0 := by omega
      have hz : loopD (execD (callD (fun g => FTx.get g) 1000000 1999) 1000000 wbC) 1000000 [.sn, .sl Bl 0 0 cl xl, .i .i64 0, .i .i64 0] h2 = some (.exit 2 [], h2) := by
        have := wbC_end (call := callD (fun g => FTx.get g) 1000000 1999) (n := 1000000) (h := h2) (want := .sn) (l := .sl Bl 0 0 cl xl) (K := 0)
        rw [e0] at this
        rw [show (1000000 : Nat) = 999999 + 1 from rfl, loopD_one, this]
      rw [hx0] at hget
      simp [c_wb, execD, runB_op, runB_nil, stepB, guardA, o, semAll, AO.map, AO.cls, evX, tmE, pushE, semP, semN, semR, semE, binV, binI, binS, pickE, retsD, retV, unV, hb, hloop, hget, hz]
    · have hlw : lenw = xs.length := by
        simp [cellsW] at hcw
        omega
      subst hlw
      have hz := wbC_loop (callD (fun g => FTx.get g) 1000000 1999) 1000000 h2 (Bl := Bl) (cl := cl) (xl := xl) (Bw := Bw) (cw := cw) (xw := xw) (xs := xs) (ps := ps) (by omega) hgl (fun pre r post e => (hrd pre r post e).2) (fun r hr => (ra r hr).1) hl hgW (fun i p hp => by
        have hi := (List.getElem?_eq_some_iff.1 hp).1
        have h5 : (cellsW ps)[i]? = some (.sl p.2 0 2 2 0) := by simp [cellsW, hp]
        rw [← htkw, List.getElem?_take] at h5
        rw [if_pos (by omega)] at h5
        exact h5) (fun p hp => by
        obtain ⟨w1, w2, _⟩ := wa p hp
        rw [hx2.get _ w2, w1]) xs [] 1000000 rfl (by omega)
      have e9 : ((([] : List Row).length : Nat) : Int) = 0 := rfl
      rw [e9] at hz
      simp [c_wb, execD, runB_op, runB_nil, stepB, guardA, o, semAll, AO.map, AO.cls, evX, tmE, pushE, semP, semN, semR, semE, binV, binI, binS, pickE, retsD, retV, unV, hb, hloop, hget, hz]
end Go.Proofs.YtmbpjpffafidhaaGreatDoor
