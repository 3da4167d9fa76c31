/- strings.FieldsFunc of any text. -/
import Derived.Test.YtmbpjpffafidhaaGreatDoorCmW4
namespace Go.Proofs.YtmbpjpffafidhaaGreatDoor
open Go Go.Ev
set_option maxRecDepth 100000
set_option linter.unusedSimpArgs false
variable {F : Nat → Option FN}
theorem rept_one (v : V) : ∀ n, rept [v] n = List.replicate n v
  | 0 => rfl
  | n + 1 => by simp [rept, rept_one v n, List.replicate_succ]
theorem rept_n1 (zs : List V) : rept zs 1 = zs := by simp [rept]
/-- The code behind the spans. -/
def ffR : BC := (.seq (.reg [o 45 (.len false (.t 1)), o 46 (.mks 1 16 [(.s [])] (.t 0) (.t 0))]) (.seq (.seq (.reg [o 48 (.len false (.t 3)), o 49 (.mv (.k (.i .i64 0)))]) (.block 2 [9] (.pre [0, 9, 47, 48, 49] [4, 2, 5, 1, 0] (.loop ffC)))) (.seq (.reg []) (.ret [.mv (.t 0)]))))
theorem c_ff : c42 = (.seq (.reg [o 4 (.mv (.k .sn))]) (.seq (.reg [o 12 (.mks 2 16 [(.i .i64 0), (.i .i64 0)] (.k (.i .i64 0)) (.k (.i .i64 32)))]) (.seq (.reg [o 6 (.mv (.k (.i .i64 (-1))))]) (.seq (.seq (.reg [o 14 (.rgs (.t 3))]) (.block 0 [0, 5, 6] (.pre [0, 1, 5, 6, 14] [4, 5, 2, 1, 0] (.loop ffB)))) (.seq (.seq (.reg [o 36 (.bin .geq (.t 2) (.k (.i .i64 0)))]) (.cond (.t 0) (.post (.reg [o 40 (.len true (.t 1)), o 41 (.build [(.i .i64 0), (.i .i64 0)] [(0, 1, (.t 4)), (1, 1, (.t 0))]), o 42 (.bsl 1 2 [(.i .i64 0), (.i .i64 0)] [(0, 2, (.t 0))]), o 43 (.app 772 2 16 (.t 5) (.t 0))]) [0, 5] [5, 0]) (.post .skip [0, 5] [1, 2]))) (.seq (.reg [o 45 (.len false (.t 1)), o 46 (.mks 1 16 [(.s [])] (.t 0) (.t 0))]) (.seq (.seq (.reg [o 48 (.len false (.t 3)), o 49 (.mv (.k (.i .i64 0)))]) (.block 2 [9] (.pre [0, 9, 47, 48, 49] [4, 2, 5, 1, 0] (.loop ffC)))) (.seq (.reg []) (.ret [.mv (.t 0)]))))))))) := rfl
theorem ff_tail (l : List Nat) (hl : l.length < 100000) (call : CallF) (n : Nat) (sp : List (Nat × Nat)) (v : V) (B : Nat) (h : H) (hn : sp.length < n) (hsp : sp.length < 100000) (hin : ∀ p ∈ sp, p.1 ≤ p.2 ∧ p.2 ≤ l.length)
    (har : AR h v 2 (spanC sp) B) (hB : B < h.nx) : ∃ h', execD call n ffR [.s l, v] h = some (.ret (.sl h.nx 0 sp.length sp.length 0), h') ∧ h'.get h.nx = some (.c (wordsV l sp) 0 0) ∧ h.nx < h'.nx ∧ ∀ j, j < h.nx → h'.get j = h.get j := by
  obtain ⟨len, cap, xf, cs, q, rfl, hg, _, _, hlc, hcs, htk, hcl⟩ := har.ex
  rw [spanC_len] at hcl
  have hlen : sp.length = len := by omega
  subst hlen
  have hcs2 : cs = spanC sp ++ cs.drop (sp.length * 2) := by rw [← htk, List.take_append_drop]
  let h1 := h.new (.c (List.replicate sp.length (.s [])) 0 0)
  obtain ⟨h', hr, hg', hnx', hfr⟩ := ff_loop2 l hl call n B h.nx cap xf q (cs.drop (sp.length * 2)) (by omega) sp [] n h1 hn hsp hin
    (by show (h.new _).get B = _; rw [H.get_new, if_neg (by omega), hg]; simp only [List.nil_append]; rw [← hcs2])
    (by show (h.new _).get h.nx = _; rw [H.get_new, if_pos rfl]; rfl) (by show B < h.nx + 1; omega) (by show h.nx < h.nx + 1; omega)
  have hnx2 : h.nx + 1 ≤ h'.nx := hnx'
  refine ⟨h', ?_, by simpa using hg', by omega, fun j hj => ?_⟩
  · have c1 : (sp.length : Int) * 16 ≤ 140737488355328 := by omega
    have c2 : (sp.length : Int) ≤ 1099511627776 := by omega
    simp only [List.nil_append, List.length_nil, h1] at hr
    have e0 : ((0 : Nat) : Int) = 0 := rfl
    rw [e0] at hr
    simp [ffR, execD, runB_op, runB_nil, stepB, guardA, o, semAll, AO.map, AO.cls, evX, tmE, pushE, semP, semN, semR, semE, binV, binI, binS, pickE, retsD, retV, c1, c2, rept_one, hr]
  · rw [hfr j (by show j < h.nx + 1; omega) (by omega)]
    show (h.new _).get j = _
    rw [H.get_new, if_neg (by omega)]
theorem spans_in : ∀ (l : List Nat) (i : Nat) (so : Option Nat), (∀ s, so = some s → s ≤ i) → (∀ p ∈ (spans l i so).1, p.1 ≤ p.2 ∧ p.2 ≤ i + l.length) ∧ (∀ s, (spans l i so).2 = some s → s ≤ i + l.length) ∧ (spans l i so).1.length ≤ l.length
  | [], i, so, hs => by
    refine ⟨by simp [spans], fun s h => ?_, by simp [spans]⟩
    simp only [spans] at h
    have := hs s h
    simp
    omega
  | c :: r, i, none, hs => by
    by_cases hc : blB c = true
    · obtain ⟨a, b, z⟩ := spans_in r (i + 1) none (by simp)
      simp only [spans, hc, if_true, List.length_cons]
      exact ⟨fun p hp => by have := a p hp; omega, fun s h => by have := b s h; omega, by omega⟩
    · obtain ⟨a, b, z⟩ := spans_in r (i + 1) (some i) (by intro s e; cases e; omega)
      simp only [spans, if_neg hc, List.length_cons]
      exact ⟨fun p hp => by have := a p hp; omega, fun s h => by have := b s h; omega, by omega⟩
  | c :: r, i, some s0, hs => by
    have h0 := hs s0 rfl
    by_cases hc : blB c = true
    · obtain ⟨a, b, z⟩ := spans_in r (i + 1) none (by simp)
      simp only [spans, hc, if_true, List.length_cons, List.mem_cons]
      refine ⟨fun p hp => ?_, fun s h => by have := b s h; omega, by omega⟩
      rcases hp with rfl | hp
      · simp only
        omega
      · have := a p hp
        omega
    · obtain ⟨a, b, z⟩ := spans_in r (i + 1) (some s0) (by intro s e; cases e; omega)
      simp only [spans, if_neg hc, List.length_cons]
      exact ⟨fun p hp => by have := a p hp; omega, fun s h => by have := b s h; omega, by omega⟩
/-- All spans of a text; its words. -/
def fullS (l : List Nat) : List (Nat × Nat) := (spans l 0 none).1 ++ (match (spans l 0 none).2 with | none => [] | some s => [(s, l.length)])
def fieldsL (l : List Nat) : List (List Nat) := (fullS l).map (cutS l)
theorem fullS_in (l : List Nat) : ∀ p ∈ fullS l, p.1 ≤ p.2 ∧ p.2 ≤ l.length := by
  obtain ⟨a, b, _⟩ := spans_in l 0 none (by simp)
  intro p hp
  unfold fullS at hp
  rw [List.mem_append] at hp
  rcases hp with hp | hp
  · have := a p hp
    omega
  · split at hp
    · simp at hp
    · rename_i s hs
      simp only [List.mem_singleton] at hp
      subst hp
      have := b s hs
      simp only
      omega
theorem fullS_len (l : List Nat) : (fullS l).length ≤ l.length + 1 := by
  obtain ⟨_, _, z⟩ := spans_in l 0 none (by simp)
  unfold fullS
  rw [List.length_append]
  split <;> simp <;> omega
theorem ff_run (k : WK F) (l : List Nat) (hl : l.length < 90000) (hs : ∀ c ∈ l, c < 128) (h : H) (n d : Nat) (hn : l.length + 1 < n) :
    ∃ h' B, callD F n (d + 2) 42 [.s l, .f 43 [] []] h = some (.sl B 0 (fieldsL l).length (fieldsL l).length 0, h') ∧ h'.get B = some (.c ((fieldsL l).map .s) 0 0) ∧ h.nx ≤ B ∧ B < h'.nx ∧ Ext h h' := by
  let h1 := h.new (.c (rept [.i .i64 0, .i .i64 0] 32) 0 0)
  let h2 := h1.new (.it l 0)
  have har : AR h2 (.sl h.nx 0 0 32 0) 2 [] h.nx := ⟨⟨0, 32, 0, rept [.i .i64 0, .i .i64 0] 32, 0, rfl, by
    show ((h.new _).new _).get h.nx = _
    rw [H.get_new, if_neg (by show ¬ h.nx = h.nx + 1; omega), H.get_new, if_pos rfl], by omega, .inl rfl, by omega, rfl, rfl, rfl⟩⟩
  obtain ⟨v', st', h3, B3, hr, hst, har3, hB3, hm3, hnx3, hfr3⟩ := ff_loop k l (by omega) hs n d h.nx l [] n (.sl h.nx 0 0 32 0) (-1) none h2 (h.nx + 1) h.nx [] rfl (by omega) (by show (-1 : Int) < 0; omega) har
    (by show (h1.new _).get (h.nx + 1) = _; rw [H.get_new]; exact if_pos rfl) (by omega) (by show h.nx + 1 < h.nx + 1 + 1; omega) (by show h.nx < h.nx + 1 + 1; omega) (by omega) (by omega) (by simp; omega)
  simp only [List.length_nil, List.nil_append] at hst har3
  have hnx3' : h.nx + 1 + 1 ≤ h3.nx := hnx3
  have hfull : fullS l = (spans l 0 none).1 ++ (match (spans l 0 none).2 with | none => [] | some s => [(s, l.length)]) := rfl
  obtain ⟨_, hsin, hslen⟩ := spans_in l 0 none (by simp)
  have hmap : wordsV l (fullS l) = (fieldsL l).map .s := by simp [wordsV, fieldsL]
  have hflen : (fieldsL l).length = (fullS l).length := by simp [fieldsL]
  have hfin : ∀ j, j < h.nx → h3.get j = h.get j := fun j hj => by
    rw [hfr3 j hj]
    show ((h.new _).new _).get j = _
    rw [H.get_new, if_neg (by show ¬ j = h.nx + 1; omega), H.get_new, if_neg (by omega)]
  simp only [h1, h2] at hr
  cases hsp : (spans l 0 none).2 with
  | none =>
    rw [hsp] at hst
    have hst0 : st' < 0 := hst
    have e1 : ¬ 0 ≤ st' := by omega
    have hf2 : fullS l = (spans l 0 none).1 := by rw [hfull, hsp]; simp
    obtain ⟨h4, ht, hg4, hn4, hfr4⟩ := ff_tail l (by omega) (callD F n (d + 1)) n (fullS l) v' B3 h3 (by have := fullS_len l; omega) (by have := fullS_len l; omega) (fullS_in l) (by rw [hf2]; exact har3) hB3
    refine ⟨h4, h3.nx, ?_, by rw [hg4, hmap], by omega, hn4, ⟨by omega, fun j hj => by rw [hfr4 j (by omega), hfin j hj]⟩⟩
    rw [hflen]
    refine callD_code k.ff rfl ?_
    simp [ffR, execD, runB_op, runB_nil, stepB, guardA, o, semAll, AO.map, AO.cls, evX, tmE, pushE, semP, semN, semR, semE, binV, binI, binS, pickE, retsD, retV] at ht
    simp [c_ff, execD, runB_op, runB_nil, stepB, guardA, o, semAll, AO.map, AO.cls, evX, tmE, pushE, semP, semN, semR, semE, binV, binI, binS, pickE, retsD, retV, hr, e1, ht]
  | some s =>
    rw [hsp] at hst
    obtain ⟨rfl, hs1⟩ : st' = (s : Int) ∧ s < 100000 := hst
    have hf2 : fullS l = (spans l 0 none).1 ++ [(s, l.length)] := by rw [hfull, hsp]
    let news : List V := [.i .i64 (s : Int), .i .i64 (l.length : Int)]
    let h3b := h3.new (.c news 0 0)
    have har3b : AR h3b v' 2 (spanC (spans l 0 none).1) B3 := har3.frame (by show (h3.new _).get B3 = _; rw [H.get_new, if_neg (by omega)])
    obtain ⟨v2, h3c, B2, happ, har3c, hB2, hB2n, hnx3c, hfr3c⟩ := har3b.app (tg := 772) (bytes := 16) (news := news) (Bn := h3.nx) (by omega) (by omega) (by omega) (by omega) (by rw [spanC_len]; omega)
      (by show (h3.new _).get h3.nx = _; rw [H.get_new]; exact if_pos rfl) rfl rfl (by show B3 < h3.nx + 1; omega)
    have hnx3c' : h3.nx + 1 ≤ h3c.nx := hnx3c
    have hspc : spanC (spans l 0 none).1 ++ news = spanC (fullS l) := by rw [hf2, spanC_app]; rfl
    rw [hspc] at har3c
    obtain ⟨h4, ht, hg4, hn4, hfr4⟩ := ff_tail l (by omega) (callD F n (d + 1)) n (fullS l) v2 B2 h3c (by have := fullS_len l; omega) (by have := fullS_len l; omega) (fullS_in l) har3c hB2n
    refine ⟨h4, h3c.nx, ?_, by rw [hg4, hmap], by omega, hn4, ⟨by omega, fun j hj => ?_⟩⟩
    · rw [hflen]
      have e1 : (0 : Int) ≤ s := by omega
      refine callD_code k.ff rfl ?_
      simp only [h3b, news] at happ
      simp [ffR, execD, runB_op, runB_nil, stepB, guardA, o, semAll, AO.map, AO.cls, evX, tmE, pushE, semP, semN, pickE, retsD, retV] at ht
      simp [c_ff, execD, runB_op, runB_nil, stepB, guardA, o, app_call, semAll, AO.map, AO.cls, evX, tmE, pushE, semP, semN, pickE, binV, binI, V.cells, fillV, layAt, V.one, retsD, retV, hr, e1, happ, rept_n1, ht]
    · rw [hfr4 j (by omega), hfr3c j (by omega) (by show j < h3.nx + 1; omega)]
      show (h3.new _).get j = _
      rw [H.get_new, if_neg (by omega), hfin j hj]
end Go.Proofs.YtmbpjpffafidhaaGreatDoor
