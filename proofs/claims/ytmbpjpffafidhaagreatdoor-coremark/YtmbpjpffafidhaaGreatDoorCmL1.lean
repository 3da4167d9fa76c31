import Derived.Test.YtmbpjpffafidhaaGreatDoorCmL0
import Derived.IntWalk
import Derived.Lib.ConvBytes
import Derived.Lib.Builder
import Derived.Lib.UnsafeStr
import Derived.Laws.BytesString
namespace Go.Ev
variable {P : Program} {T : TT} {ι : Iota} {tm : Nat → V} {a : Act} {o : Oper}

/-- An operation that makes a block. -/
def News (P : Program) (a : Act) (o : Oper) (w : World) (ι : Iota) (blk : Blk) (mk : Nat → V) : Prop :=
  ∃ x w' e, (execOp a.eval o).run P w = .ok (.value x) w' ∧ e.r = w.heap.size ∧ (w'.heap.size = w.heap.size + 1 ∧ ∀ j, j < w.heap.size → w'.heap[j]? = w.heap[j]?) ∧ w'.os = w.os ∧ w'.output = w.output ∧
    ∀ ι' id, ι.le ι' → ι' id = some e → VR ι' (mk id) x ∧ BR ι' e w' blk

theorem news_of {s : Sem Value} {w : World} {blk : Blk} {mk : Nat → V} (he : execOp a.eval o = (do pure (Next.value (← s))))
    (h : ∃ x w' e, s.run P w = .ok x w' ∧ e.r = w.heap.size ∧ (w'.heap.size = w.heap.size + 1 ∧ ∀ j, j < w.heap.size → w'.heap[j]? = w.heap[j]?) ∧ w'.os = w.os ∧ w'.output = w.output ∧
      ∀ ι' id, ι.le ι' → ι' id = some e → VR ι' (mk id) x ∧ BR ι' e w' blk) : News P a o w ι blk mk := by
  obtain ⟨x, w', e, hx, h⟩ := h
  exact ⟨x, w', e, by rw [he]; simp [hx], h⟩

theorem push_old (w : World) (obj : Obj) : (w.heap.push obj).size = w.heap.size + 1 ∧ ∀ j, j < w.heap.size → (w.heap.push obj)[j]? = w.heap[j]? :=
  ⟨by simp, fun j hj => by rw [Array.getElem?_push, if_neg (by omega)]⟩

theorem run_newRow (e : Nat) (cs : Array Value) (w : World) : (newRow e cs).run P w = .ok ⟨w.heap.size, 0, none⟩ { w with heap := w.heap.push (.cells cs e) } := rfl
theorem run_newVar (e : Nat) (v : Value) (w : World) : (newVar e v).run P w = .ok ⟨w.heap.size, 0, none⟩ { w with heap := w.heap.push (.cells v.cells e) } := rfl

theorem BR_newq {cs : List V} {c : Array Value} {el q : Nat} {w w' : World} {ι' : Iota} (hr : VRs ι' cs c.toList) (h1 : ∀ v ∈ cs, v.one = true) (hw : w'.heap = w.heap.push (.cells c el)) (hq : q / 4 = 0 ∨ q / 4 = el + 1) :
    BR ι' ⟨w.heap.size, 0, c.size⟩ w' (.c cs 0 q) := by
  have hl := hr.length
  refine ⟨c, el, (0, 0), by simp [hw], ?_, h1, ?_, Nat.le_refl _, ?_⟩
  · intro j v hv
    obtain ⟨x, hx, hvx⟩ := hr.get j v hv
    exact ⟨x, by simpa using hx, hvx⟩
  · simp at hl ⊢; omega
  · exact ⟨hq.imp id fun h => ⟨h, rfl⟩, .cold rfl⟩
theorem BR_new {cs : List V} {c : Array Value} {el : Nat} {w w' : World} {ι' : Iota} (hr : VRs ι' cs c.toList) (h1 : ∀ v ∈ cs, v.one = true) (hw : w'.heap = w.heap.push (.cells c el)) :
    BR ι' ⟨w.heap.size, 0, c.size⟩ w' (.c cs 0 0) := BR_newq hr h1 hw (.inl rfl)

theorem VRs.one_of_all {cs : List V} (h : cs.all V.one = true) : ∀ v ∈ cs, v.one = true := by simpa using h

theorem V.of1_one {x : Value} {v : V} (h : V.of1 x = some v) : v.one = true := by
  unfold V.of1 at h
  split at h <;> first | (injection h with h; subst h; rfl) | cases h
theorem V.ofL_one : ∀ {xs : List Value} {vs : List V}, V.ofL xs = some vs → ∀ v ∈ vs, v.one = true
  | [], vs, h => by simp [V.ofL] at h; subst h; simp
  | x :: xs, vs, h => by
    simp only [V.ofL] at h
    split at h
    · rename_i v vs' h1 h2
      injection h with h; subst h
      intro z hz
      rcases List.mem_cons.1 hz with rfl | hz
      · exact V.of1_one h1
      · exact V.ofL_one h2 z hz
    · cases h
theorem zero_one {t : Nat} {i : TI} (hT : TOK P T) (h : T.ty t = some i) : ∀ v ∈ i.zero, v.one = true := by
  obtain ⟨j, h1, _, _, _, z, h2, h3, h4, h5⟩ := hT.ty t i h
  exact V.ofL_one h3

theorem sim_alloc {e : Nat} (ho : o.op = .alloc e) (hT : TOK P T) {i : TI} (hi : T.ty e = some i) {blk : Blk} {mk : Nat → V} (hs : semN (.alloc (4 * (e + 1)) i.zero) = some (blk, mk)) (w : World) : News P a o w ι blk mk := by
  obtain ⟨z, hz, hzr, _⟩ := zero_rel hT hi ι
  simp only [semN, Nat.mul_mod_right, if_true, Option.some.injEq, Prod.mk.injEq] at hs
  obtain ⟨rfl, rfl⟩ := hs
  refine news_of (s := Instr.alloc e true (.tuple #[])) (by simp only [execOp, ho]) ⟨.pointer (some ⟨w.heap.size, 0, none⟩), { w with heap := w.heap.push (.cells z.cells e) }, ⟨w.heap.size, 0, z.cells.size⟩, ?_, rfl, push_old _ _, rfl, rfl, fun ι' id hle hid => ⟨.p _ 0 _ hid, ?_⟩⟩
  · unfold Instr.alloc
    simp only [Sem.run_bind, hz, Result.andThen_ok, run_newVar, Sem.run_pure]
  · exact BR_newq (hzr.mono hle) (zero_one hT hi) rfl (.inr (by omega))

theorem sim_box {e : Nat} {x : Operand} (ho : o.op = .box e x) {b : X} (hx : X.of x = some b) (hO : OR ι tm a o) {blk : Blk} {mk : Nat → V} (hs : semN (.box (4 * (e + 1)) (evX tm b)) = some (blk, mk)) (w : World) : News P a o w ι blk mk := by
  have h1 := hO x (by simp [ho, Op.operands]) _ hx
  simp only [semN] at hs
  split at hs
  · rename_i hone
    simp only [Bool.and_eq_true] at hone
    obtain ⟨hone, _⟩ := hone
    simp only [Option.some.injEq, Prod.mk.injEq] at hs
    obtain ⟨rfl, rfl⟩ := hs
    refine news_of (s := Instr.box e (a.eval x)) (by simp only [execOp, ho]) ⟨.pointer (some ⟨w.heap.size, 0, none⟩), { w with heap := w.heap.push (.cells (a.eval x).cells e) }, ⟨w.heap.size, 0, (a.eval x).cells.size⟩, ?_, rfl, push_old _ _, rfl, rfl, fun ι' id hle hid => ⟨.p _ 0 _ hid, ?_⟩⟩
    · unfold Instr.box
      simp only [Sem.run_bind, Result.andThen_ok, run_newVar, Sem.run_pure]
    · exact BR_newq (h1.cells'.mono hle) (VRs.one_of_all hone) rfl (.inr (by omega))
  · cases hs

/-- so many zeros. -/
theorem rept_length (zs : List V) : ∀ n, (rept zs n).length = n * zs.length
  | 0 => by simp [rept]
  | n + 1 => by simp [rept, rept_length zs n, Nat.succ_mul, Nat.add_comm]
theorem rept_get (zs : List V) (hz : 0 < zs.length) : ∀ n j, j < n * zs.length → (rept zs n)[j]? = zs[j % zs.length]?
  | 0, j, h => by omega
  | n + 1, j, h => by
    simp only [rept]
    rw [Nat.succ_mul] at h
    by_cases hj : j < zs.length
    · rw [List.getElem?_append_left hj, Nat.mod_eq_of_lt hj]
    · rw [List.getElem?_append_right (by omega), rept_get zs hz n _ (by omega)]
      congr 1
      conv => rhs; rw [← Nat.sub_add_cancel (Nat.le_of_not_lt hj), Nat.add_mod_right]
theorem rept_mem {zs : List V} : ∀ {n : Nat} {v : V}, v ∈ rept zs n → v ∈ zs
  | 0, v, h => by simp [rept] at h
  | n + 1, v, h => by
    simp only [rept, List.mem_append] at h
    rcases h with h | h
    · exact h
    · exact rept_mem h
theorem rept_rel {zs : List V} {cells : Array Value} (h : VRs ι zs cells.toList) (n : Nat) (hsz : 0 < n * zs.length → 0 < zs.length) :
    VRs ι (rept zs n) ((Array.range (n * zs.length)).map (cells[· % cells.size]!)).toList := by
  have hl := h.length
  refine VRs.of_get (by simp [rept_length]) fun j v hv => ?_
  have hj : j < n * zs.length := by
    have := (List.getElem?_eq_some_iff.1 hv).1
    rwa [rept_length] at this
  have hz := hsz (by omega)
  rw [rept_get zs hz n j hj] at hv
  obtain ⟨x, hx, hvx⟩ := h.get _ _ hv
  refine ⟨x, ?_, hvx⟩
  simp only [Array.toList_map, List.getElem?_map]
  have : (Array.range (n * zs.length)).toList[j]? = some j := by simp [hj]
  rw [this]
  simp only [Option.map_some, Option.some.injEq]
  have hcs : cells.size = zs.length := by rw [hl]; simp
  rw [hcs]
  rw [Array.getElem?_toList] at hx
  simp [getElem!_def, hx]

theorem sim_bsl {t n e : Nat} {ps : Array (Nat × Operand)} (ho : o.op = .buildSlice t n ps) (hT : TOK P T) {i ei : TI} (hi : T.ty t = some i) (hd : i.d = .slice e) (he : T.ty e = some ei) (hsz : n * ei.size ≤ 16777216) (hzl : ei.zero.length = ei.size)
    {ys : List (Nat × Nat × X)} (hp : partsOf (fun j => some (j * ei.size, ei.size)) ps.toList = some ys) (hO : OR ι tm a o) {blk : Blk} {mk : Nat → V}
    (hs : semN (.bsl n ei.size ei.zero (ys.map fun (o, s, x) => (o, s, evX tm x))) = some (blk, mk)) (w : World) : News P a o w ι blk mk := by
  obtain ⟨z, hz, hzr, _⟩ := zero_rel hT he ι
  have eu := run_und hT hi w
  rw [hd] at eu
  simp only [semN] at hs
  split at hs
  · rename_i cs hf
    split at hs
    · rename_i hone
      simp only [Option.some.injEq, Prod.mk.injEq] at hs
      obtain ⟨rfl, rfl⟩ := hs
      have hzc : VRs ι (rept ei.zero n) ((Array.range (n * ei.size)).map ((if n * ei.size = 0 then #[] else z.cells)[· % (if n * ei.size = 0 then (#[] : Array Value) else z.cells).size]!)).toList := by
        by_cases h0 : n * ei.size = 0
        · rw [if_pos h0, h0]
          have : rept ei.zero n = [] := List.eq_nil_of_length_eq_zero (by rw [rept_length, hzl]; exact h0)
          rw [this]; simp; exact .nil
        · rw [if_neg h0, ← hzl]
          exact rept_rel hzr n fun _ => by rw [hzl]; exact Nat.pos_of_ne_zero fun h => h0 (by rw [h]; rfl)
      obtain ⟨out, e1, e2⟩ := partsOf_rel hp (fun p hp => hO p.2 (by simp [ho, Op.operands]; exact ⟨p.1, by simpa using hp⟩)) hzc hf
      rw [← Array.toList_map] at e1
      refine news_of (s := Instr.buildSlice t n (ps.map fun (i, x) => (i, a.eval x))) (by simp only [execOp, ho]) ⟨.slice (some ⟨w.heap.size, 0, none⟩) n n, { w with heap := w.heap.push (.cells out e) }, ⟨w.heap.size, 0, out.size⟩, ?_, rfl, push_old _ _, rfl, rfl, fun ι' id hle hid => ⟨?_, ?_⟩⟩
      · unfold Instr.buildSlice
        simp only [Sem.run_bind, eu, Result.andThen_ok, run_size hT he]
        rw [if_neg (by omega)]
        by_cases h0 : n * ei.size = 0
        · rw [if_pos h0] at e1
          simp only [h0, if_true] at e1 ⊢
          simp only [e1, Sem.run_bind, run_newRow, Result.andThen_ok, Sem.run_pure]
        · rw [if_neg h0] at e1
          simp only [h0, if_false, Sem.run_bind, hz, Sem.run_pure, Result.andThen_ok, e1, run_newRow]
      · exact .sx _ 0 n n _ hid (Nat.le_refl _)
      · exact BR_new (e2.mono hle) (VRs.one_of_all hone) rfl
    · cases hs
  · cases hs

theorem sim_mkm {t : Nat} (ho : o.op = .makeMap t none) {blk : Blk} {mk : Nat → V} (hs : semN .mkm = some (blk, mk)) (w : World) : News P a o w ι blk mk := by
  simp only [semN, Option.some.injEq, Prod.mk.injEq] at hs
  obtain ⟨rfl, rfl⟩ := hs
  refine news_of (s := Instr.makeMap t none) (by simp only [execOp, ho, Option.map_none]) ⟨.map (some w.heap.size), { w with heap := w.heap.push (.map #[] 0) }, ⟨w.heap.size, 0, 0⟩, rfl, rfl, push_old _ _, rfl, rfl, fun ι' id hle hid => ⟨.m _ _ hid, ?_⟩⟩
  exact ⟨#[], by simp, .nil, .nil, rfl⟩

theorem sim_rgs {t : Nat} {x : Operand} (ho : o.op = .range t x) {b : X} (hx : X.of x = some b) (hO : OR ι tm a o) {i : TI} (hT : TOK P T) (hi : T.ty t = some i) (hd : i.d = .string) {blk : Blk} {mk : Nat → V}
    (hs : semN (.rgs (evX tm b)) = some (blk, mk)) (w : World) : News P a o w ι blk mk := by
  have h1 := hO x (by simp [ho, Op.operands]) _ hx
  have eu := run_und hT hi w
  rw [hd] at eu
  simp only [semN] at hs
  split at hs
  · rename_i l hl
    rw [hl] at h1
    simp only [Option.some.injEq, Prod.mk.injEq] at hs
    obtain ⟨rfl, rfl⟩ := hs
    cases hev : a.eval x <;> rw [hev] at h1 <;> cases h1
    rename_i s e0
    refine news_of (s := Instr.range t (a.eval x)) (by simp only [execOp, ho]) ⟨.pointer (some ⟨w.heap.size, 0, none⟩), { w with heap := w.heap.push (.stringIter s 0) }, ⟨w.heap.size, 0, 0⟩, ?_, rfl, push_old _ _, rfl, rfl, fun ι' id hle hid => ⟨.p _ 0 _ hid, ?_⟩⟩
    · rw [hev]
      unfold Instr.range
      simp only [Sem.run_bind, eu, Result.andThen_ok, Sem.run_pure]
      rfl
    · exact ⟨rfl, s, by simp, e0⟩
  · cases hs

theorem wrap_i64 {n : Int} (h0 : 0 ≤ n) (h1 : n < 9223372036854775808) : IntKind.i64.wrap n = n := IntWalk.i64_in n (by omega)

theorem sim_mks {t e : Nat} {l c : Operand} (ho : o.op = .makeSlice t l c) (hT : TOK P T) {i ei : TI} (hi : T.ty t = some i) (hd : i.d = .slice e) (he : T.ty e = some ei) (hzl : ei.zero.length = ei.size) (hsz : 0 < ei.size)
    {l' c' : X} (hl : X.of l = some l') (hc : X.of c = some c') (hO : OR ι tm a o) {blk : Blk} {mk : Nat → V}
    (hs : semN (.mks ei.size ei.bytes ei.zero (evX tm l') (evX tm c')) = some (blk, mk)) (w : World) : News P a o w ι blk mk := by
  have h1 := hO l (by simp [ho, Op.operands]) _ hl
  have h2 := hO c (by simp [ho, Op.operands]) _ hc
  obtain ⟨z, hz, hzr, _⟩ := zero_rel hT he ι
  obtain ⟨j, g1, g2, g3, g4, _⟩ := hT.ty e ei he
  have eu := run_und hT hi w
  rw [hd] at eu
  simp only [semN] at hs
  split at hs
  · rename_i k n k2 m hn hm
    rw [hn] at h1; rw [hm] at h2
    split at hs
    · rename_i hb
      obtain ⟨b1, b2, b3, b4⟩ := hb
      simp only [Option.some.injEq, Prod.mk.injEq] at hs
      obtain ⟨rfl, rfl⟩ := hs
      have w1 : IntKind.i64.wrap n = n := wrap_i64 b1 (by omega)
      have w2 : IntKind.i64.wrap m = m := wrap_i64 (by omega) (by omega)
      have b5 : ¬ ((ei.bytes : Int) * m > 281474976710656) := by rw [Int.mul_comm]; omega
      have e5 : (typeInfo e).run P w = .ok j w := by simp [typeInfo, g1]
      have hm0 : m.toNat * ei.size = 0 ↔ m.toNat = 0 := by rw [Nat.mul_eq_zero]; omega
      refine news_of (s := Instr.makeSlice t (a.eval l) (a.eval c)) (by simp only [execOp, ho]) ⟨.slice (some ⟨w.heap.size, 0, none⟩) n.toNat m.toNat, { w with heap := w.heap.push (.cells ((Array.range (m.toNat * ei.size)).map ((if m.toNat * ei.size = 0 then #[] else z.cells)[· % (if m.toNat * ei.size = 0 then (#[] : Array Value) else z.cells).size]!)) e) }, ⟨w.heap.size, 0, m.toNat * ei.size⟩, ?_, rfl, push_old _ _, rfl, rfl, fun ι' id hle hid => ⟨?_, ?_⟩⟩
      · rw [h1.int_inv, h2.int_inv]
        unfold Instr.makeSlice
        have c1 : (decide (m < 0) || decide ((j.bytes : Int) * m > 2 ^ 48)) = false := by
          rw [g4]; simp only [Bool.or_eq_false_iff, decide_eq_false_iff_not]; omega
        simp only [Sem.run_bind, eu, Result.andThen_ok, asInt, asIntOf, Sem.run_pure, e5, w1, w2, c1]
        rw [if_neg (by simp only [Bool.false_or, Bool.or_eq_true, decide_eq_true_eq]; omega)]
        simp only [Sem.run_bind, Result.andThen_ok, run_askRoom, run_size hT he]
        by_cases h0 : m.toNat * ei.size = 0
        · simp only [h0, if_true, Sem.run_bind, Sem.run_pure, Result.andThen_ok, run_newRow]
        · simp only [h0, if_false, Sem.run_bind, hz, Sem.run_pure, Result.andThen_ok, run_newRow]
      · exact .sx _ 0 _ _ _ hid (by omega)
      · have hzc : VRs ι (rept ei.zero m.toNat) ((Array.range (m.toNat * ei.size)).map ((if m.toNat * ei.size = 0 then #[] else z.cells)[· % (if m.toNat * ei.size = 0 then (#[] : Array Value) else z.cells).size]!)).toList := by
          by_cases h0 : m.toNat * ei.size = 0
          · rw [if_pos h0, h0]
            have : rept ei.zero m.toNat = [] := List.eq_nil_of_length_eq_zero (by rw [rept_length, hzl]; exact h0)
            rw [this]; simp; exact .nil
          · rw [if_neg h0, ← hzl]
            exact rept_rel hzr _ fun _ => by rw [hzl]; exact hsz
        have := BR_new (w := w) (w' := { w with heap := w.heap.push (.cells ((Array.range (m.toNat * ei.size)).map ((if m.toNat * ei.size = 0 then #[] else z.cells)[· % (if m.toNat * ei.size = 0 then (#[] : Array Value) else z.cells).size]!)) e) }) (hzc.mono hle) (fun v hv => zero_one hT he v (rept_mem hv)) rfl
        simpa using this
    · cases hs
  · cases hs

theorem sim_s2b {s d e : Nat} {x : Operand} (ho : o.op = .convert s d x) {b : X} (hx : X.of x = some b) (hO : OR ι tm a o) (hT : TOK P T) {i j ei : TI} (hi : T.ty s = some i) (hj : T.ty d = some j) (_hid : i.d = .string)
    (hjd : j.d = .slice e) (he : T.ty e = some ei) (hed : ei.d = .int .u8) {blk : Blk} {mk : Nat → V} (hs : semN (.s2b (evX tm b)) = some (blk, mk)) (w : World) : News P a o w ι blk mk := by
  have h1 := hO x (by simp [ho, Op.operands]) _ hx
  have e1 := run_und hT hi w
  have e2 := run_und hT hj w
  rw [hjd] at e2; rw [_hid] at e1
  simp only [semN] at hs
  split at hs
  · rename_i l hl
    rw [hl] at h1
    simp only [Option.some.injEq, Prod.mk.injEq] at hs
    obtain ⟨rfl, rfl⟩ := hs
    cases hev : a.eval x <;> rw [hev] at h1 <;> cases h1
    rename_i y e0
    have hgc : y.size ≤ grownCap w y.size 0 e := Nat.le_add_right _ _
    have e3 := und hT he
    rw [hed] at e3
    have e4 := und hT hi
    have e5 := und hT hj
    rw [hjd] at e5
    have hcs : (Lib.bytesCells w e y).size = grownCap w y.size 0 e := by simp [Lib.bytesCells]; omega
    refine news_of (s := convert s d (a.eval x)) (by simp only [execOp, ho]) ⟨.slice (some ⟨w.heap.size, 0, none⟩) y.size (grownCap w y.size 0 e), Lib.bytesWorld w e y, ⟨w.heap.size, 0, grownCap w y.size 0 e⟩, ?_, rfl, ⟨Lib.bytesWorld_size w e y, fun j hj => Lib.bytesWorld_at_old w e y j hj⟩, ?_, ?_, fun ι' id hle hid => ⟨?_, ?_⟩⟩
    · rw [hev]; exact Lib.run_convert_string_bytes w s d e y e4 e5 e3
    · simp [Lib.bytesWorld, World.freeze, World.alloc, World.drew, -World.alloc_eq, -World.drew_eq]
    · simp [Lib.bytesWorld, World.freeze, World.alloc, World.drew, -World.alloc_eq, -World.drew_eq]
    · have : (List.map UInt8.toNat y.data.toList).length = y.size := by simp
      rw [e0, this]
      exact .si _ 0 _ _ 1 _ 0 _ hid (by omega) (Nat.le_refl _) hgc (.inr ⟨rfl, by simp⟩)
    · refine ⟨Lib.bytesCells w e y, e, _, Lib.bytesWorld_at_new w e y, fun j v hv => ?_, fun v hv => ?_, ?_, ?_, ?_⟩
      · rw [e0] at hv
        simp only [List.map_map, List.getElem?_map, Option.map_eq_some_iff] at hv
        obtain ⟨bt, hb, hv⟩ := hv
        have hlt : j < y.data.toList.length := (List.getElem?_eq_some_iff.1 hb).1
        refine ⟨.int .u8 bt.toNat, ?_, by subst hv; exact .i _ _⟩
        rw [Array.getElem?_toList] at hb
        simp only [Nat.zero_add, Lib.bytesCells]
        rw [Array.getElem?_append_left (by simpa using hlt), Array.getElem?_map, hb]
        rfl
      · simp only [List.mem_map] at hv
        obtain ⟨c, _, rfl⟩ := hv
        rfl
      · rw [e0]; simp; exact hgc
      · rw [hcs]; exact Nat.le_refl _
      · exact ⟨.inl rfl, .inr (Nat.le_refl _)⟩
  · cases hs


theorem sim_mnz {c : Call} {f : FuncId} (ho : o.op = .call c) (hc : c.callee = .value (.func f)) (hT : TOK P T) {e : Nat} (hf : T.mnz f = some e) {y : X} (ha : X.ofL c.args.toList = some [y]) (hO : OR ι tm a o) {blk : Blk} {mk : Nat → V}
    (hs : semN (.mnz (4 * (e + 1)) (evX tm y)) = some (blk, mk)) (w : World) : News P a o w ι blk mk := by
  have hrel := args_rel ho ha hO
  simp only [List.map_cons, List.map_nil] at hrel
  unfold News
  rw [exec_call ho hc]
  generalize hargs : c.args.map a.eval = args at *
  simp only [semN] at hs
  split at hs
  · rename_i n h1
    rw [h1] at hrel
    split at hs
    · rename_i hn
      simp only [Option.some.injEq, Prod.mk.injEq] at hs
      obtain ⟨rfl, rfl⟩ := hs
      cases hal : args.toList with
      | nil => rw [hal] at hrel; cases hrel
      | cons x xs =>
        rw [hal] at hrel
        cases hrel with
        | cons _ _ _ _ g1 g2 =>
          cases g2
          obtain rfl := g1.int_inv
          have hargs' : args = #[.int .i64 (n.toNat : Int)] := by
            rw [← Array.toArray_toList (xs := args), hal, Int.toNat_of_nonneg hn.1]
          obtain ⟨cs, k, r1, r2, r3⟩ := hT.mnz f e hf n.toNat w (by omega)
          refine ⟨_, { w with drawn := k, heap := w.heap.push (.cells cs e) }, ⟨w.heap.size, 0, cs.size⟩, by rw [hargs']; exact r1, rfl, push_old _ _, rfl, rfl, fun ι' id hle hid => ⟨?_, ?_⟩⟩
          · exact .si _ 0 _ _ 1 cs.size 0 _ hid (by omega) (Nat.le_refl _) r2 (.inr ⟨rfl, by simp⟩)
          · refine ⟨cs, e, (0, 0), by simp, fun j v hv => ?_, fun v hv => ?_, by simpa using r2, Nat.le_refl _, .inr ⟨by omega, rfl⟩, .cold rfl⟩
            · have hj : j < n.toNat := by have := (List.getElem?_eq_some_iff.1 hv).1; simpa using this
              rw [List.getElem?_replicate, if_pos hj] at hv
              injection hv with hv; subst hv
              have hj' : j < cs.size := by omega
              exact ⟨cs[j], by simp [hj'], .u _ (r3 _ (Array.getElem_mem hj'))⟩
            · obtain ⟨_, rfl⟩ := List.mem_replicate.1 hv
              rfl
    · cases hs
  · cases hs

end Go.Ev

namespace Go.Ev
variable {P : Program} {T : TT} {ι : Iota} {tm : Nat → V} {a : Act} {o : Oper} {h : H} {w : World}

theorem cell_of (hh : HRel ι h w) {B : Nat} {cs : List V} {fz q : Nat} {e : Loc} (hB : h.get B = some (.c cs fz q)) (he : ι B = some e) {of : Nat} {v : V} (hv : cs[of]? = some v) :
    ∃ x, w.cell? ⟨e.r, e.o + of, none⟩ = some x ∧ VR ι v x := by
  obtain ⟨c, el, f, h1, h2, _⟩ := hh.br B _ e hB he
  obtain ⟨x, hx, hvx⟩ := h2 of v hv
  exact ⟨x, by simp [World.cell?, h1, hx], hvx⟩

theorem run_load {r of : Nat} {x : Value} (hc : w.cell? ⟨r, of, none⟩ = some x) : (load ⟨r, of, none⟩).run P w = .ok x w := by
  simp only [load, Sem.run, hc]

theorem run_loadCellsFrom {r of : Nat} : ∀ (xs : List Value) (i : Nat) (acc : Array Value), (∀ j x, xs[j]? = some x → w.cell? ⟨r, of + (i + j), none⟩ = some x) →
    (loadCellsFrom ⟨r, of, none⟩ i xs.length acc).run P w = .ok (acc ++ xs.toArray) w
  | [], i, acc, _ => by simp [loadCellsFrom]
  | x :: xs, i, acc, hc => by
    have h0 := hc 0 x rfl
    simp only [List.length_cons, loadCellsFrom, Sem.run_bind, add_none]
    rw [run_load (by simpa using h0)]
    simp only [Result.andThen_ok]
    rw [run_loadCellsFrom xs (i + 1) _ fun j y hy => by have := hc (j + 1) y (by simpa using hy); rw [show i + 1 + j = i + (j + 1) from by omega]; exact this]
    simp

theorem run_loadCells {r of : Nat} (xs : List Value) (hc : ∀ j x, xs[j]? = some x → w.cell? ⟨r, of + j, none⟩ = some x) : (loadCells ⟨r, of, none⟩ xs.length).run P w = .ok xs.toArray w := by
  unfold loadCells
  rw [run_loadCellsFrom xs 0 #[] fun j x hx => by rw [Nat.zero_add]; exact hc j x hx]
  simp

theorem cellsAt_rel (hh : HRel ι h w) {B of n : Nat} {vs : List V} (hc : cellsAt h B of n = some vs) {e : Loc} (he : ι B = some e) :
    ∃ xs : List Value, VRs ι vs xs ∧ xs.length = n ∧ (∀ v ∈ vs, v.one = true) ∧ ∀ j x, xs[j]? = some x → w.cell? ⟨e.r, e.o + of + j, none⟩ = some x := by
  unfold cellsAt at hc
  split at hc
  · rename_i cs fz q hB
    split at hc
    · rename_i hle
      injection hc with hc; subst hc
      obtain ⟨c, el, f, h1, h2, h3, _⟩ := hh.br B _ e hB he
      have key : ∀ (m : Nat), m ≤ n → ∃ xs : List Value, xs.length = m ∧ ∀ j x, xs[j]? = some x → w.cell? ⟨e.r, e.o + of + j, none⟩ = some x ∧ ∃ v, cs[of + j]? = some v ∧ VR ι v x := by
        intro m
        induction m with
        | zero => intro _; exact ⟨[], rfl, fun j x hx => by simp at hx⟩
        | succ m ih =>
          intro hm
          obtain ⟨xs, e1, e2⟩ := ih (by omega)
          have hlt : of + m < cs.length := by omega
          obtain ⟨x, hx, hvx⟩ := cell_of hh hB he (List.getElem?_eq_getElem hlt)
          refine ⟨xs ++ [x], by simp [e1], fun j y hy => ?_⟩
          by_cases hj : j < m
          · rw [List.getElem?_append_left (by omega)] at hy; exact e2 j y hy
          · have hj' : j = m := by
              have := (List.getElem?_eq_some_iff.1 hy).1
              simp [e1] at this; omega
            subst hj'
            rw [List.getElem?_append_right (by omega)] at hy
            simp [e1] at hy; subst hy
            exact ⟨by rw [Nat.add_assoc]; exact hx, _, List.getElem?_eq_getElem hlt, hvx⟩
      obtain ⟨xs, e1, e2⟩ := key n (Nat.le_refl _)
      refine ⟨xs, VRs.of_get (by simp [e1]; omega) fun j v hv => ?_, e1, fun v hv => h3 v (List.mem_of_mem_drop (List.mem_of_mem_take hv)), fun j x hx => (e2 j x hx).1⟩
      simp only [List.getElem?_take, List.getElem?_drop] at hv
      split at hv
      · rename_i hj
        have hlt : j < xs.length := by omega
        obtain ⟨_, v', hv', hr⟩ := e2 j _ (List.getElem?_eq_getElem hlt)
        rw [hv] at hv'; injection hv' with hv'; subst hv'
        exact ⟨_, List.getElem?_eq_getElem hlt, hr⟩
      · cases hv
    · cases hc
  · cases hc

theorem sim_ld {t : Nat} {x : Operand} (ho : o.op = .load t x) {b : X} (hx : X.of x = some b) (hO : OR ι tm a o) (hT : TOK P T) {i : TI} (hi : T.ty t = some i) (hd : TypeDesc.agg i.d = false) (hh : HRel ι h w) {v : V}
    (hs : semR (.ld (evX tm b)) h = some v) : Vals P a o w ι v := by
  refine vals_of (s := Instr.loadAt t (a.eval x)) (by simp only [execOp, ho]) ?_
  have h1 := hO x (by simp [ho, Op.operands]) _ hx
  simp only [semR] at hs
  split at hs
  · rename_i B of hk
    rw [hk] at h1
    split at hs
    · rename_i cs fz q hB
      generalize a.eval x = y at h1
      cases h1 with
      | p _ _ e he =>
        obtain ⟨z, hz, hv⟩ := cell_of hh hB he hs
        refine ⟨z, ?_, hv⟩
        unfold Instr.loadAt loadVar
        simp only [Sem.run_bind, Instr.sureAddr, Sem.run_pure, Result.andThen_ok, run_isAgg hT hi, hd, Bool.false_eq_true, if_false, run_load hz]
    · cases hs
  · cases hs

theorem sim_ldn {t : Nat} {x : Operand} (ho : o.op = .load t x) {b : X} (hx : X.of x = some b) (hO : OR ι tm a o) (hT : TOK P T) {i : TI} (hi : T.ty t = some i) (hd : TypeDesc.agg i.d = true) (hh : HRel ι h w) {v : V}
    (hs : semR (.ldn i.size (evX tm b)) h = some v) : Vals P a o w ι v := by
  refine vals_of (s := Instr.loadAt t (a.eval x)) (by simp only [execOp, ho]) ?_
  have h1 := hO x (by simp [ho, Op.operands]) _ hx
  simp only [semR] at hs
  split at hs
  · rename_i B of hk
    rw [hk] at h1
    simp only [Option.map_eq_some_iff] at hs
    obtain ⟨vs, hc, rfl⟩ := hs
    generalize a.eval x = y at h1
    cases h1 with
    | p _ _ e he =>
      obtain ⟨xs, r1, r2, _, r3⟩ := cellsAt_rel hh hc he
      refine ⟨.agg xs.toArray, ?_, .ag _ _ r1⟩
      unfold Instr.loadAt loadVar
      have := run_loadCells (P := P) xs r3
      rw [r2] at this
      simp only [Sem.run_bind, Instr.sureAddr, Sem.run_pure, Result.andThen_ok, run_isAgg hT hi, hd, if_true, run_size hT hi, this]
  · cases hs

theorem map_of (hh : HRel ι h w) {B : Nat} {es : List (V × V × Nat)} {clk : Nat} (hB : h.get B = some (.mp es clk)) {e : Loc} (he : ι B = some e) :
    ∃ en : Array MapEntry, w.heap[e.r]? = some (.map en clk) ∧ VRs ι (es.map (·.1)) (en.toList.map (·.key)) ∧ VRs ι (es.map (·.2.1)) (en.toList.map (·.val)) ∧ es.map (·.2.2) = en.toList.map (·.born) := hh.br B _ e hB he

theorem run_getMap {r : Nat} {en : Array MapEntry} {clk : Nat} (h : w.heap[r]? = some (.map en clk)) : (getObj r).run P w = .ok (.map en clk) w := by
  simp only [getObj, Sem.run, h]

theorem sim_lenm {c : Call} (ho : o.op = .call c) (hc : c.callee = .builtin .len) {y : X} {ts : List TypeId} {t : TypeId} (ha : X.ofL c.args.toList = some [y]) (ht : c.argTypes.toList = t :: ts) (hO : OR ι tm a o) {v : V}
    {i : TI} {k e : Nat} (hT : TOK P T) (hi : T.ty t = some i) (hd : i.d = .map k e) (hh : HRel ι h w) (hs : semR (.lenm (evX tm y)) h = some v) : Vals P a o w ι v := by
  have hrel := args_rel ho ha hO
  have ht0 : c.argTypes[0]? = some t := by rw [← Array.getElem?_toList, ht]; rfl
  simp only [List.map_cons, List.map_nil] at hrel
  refine vals_of (s := Builtin.len_ c.argTypes o.type (c.args.map a.eval)) (by rw [exec_builtin ho hc]; rfl) ?_
  generalize c.args.map a.eval = args at *
  obtain ⟨x, hx0, hv⟩ := hrel.get 0 _ rfl
  have hx : args[0]? = some x := by rw [← Array.getElem?_toList]; exact hx0
  have eu := run_und hT hi w
  rw [hd] at eu
  simp only [semR] at hs
  split at hs
  · rename_i hl
    injection hs with hs; subst hs
    rw [hl] at hv
    cases hv; exact ⟨goInt 0, by unfold Builtin.len_; simp only [ht0, hx, Sem.run_bind, eu, Result.andThen_ok, Sem.run_pure], .i _ _⟩
  · rename_i B hl
    rw [hl] at hv
    split at hs
    · rename_i es clk hB
      injection hs with hs; subst hs
      cases hv with
      | m _ e he =>
        obtain ⟨en, g1, g2, g3, g4⟩ := map_of hh hB he
        have hlen : es.length = en.size := by have := congrArg List.length g4; simpa using this
        refine ⟨goInt en.size, ?_, by rw [hlen]; exact .i _ _⟩
        unfold Builtin.len_
        simp only [ht0, hx, Sem.run_bind, eu, Result.andThen_ok, run_getMap g1, Sem.run_pure]
    · cases hs
  · cases hs

/-- What a map's keys are like. -/
def KC (T : TT) (kc : Nat) (t : Nat) : Prop := kcOf T t = some kc

theorem kc_cases {kc t : Nat} (h : kcOf T t = some kc) : ∃ i, T.ty t = some i ∧ ((∃ k, i.d = .int k ∧ kc = 0) ∨ (i.d = .string ∧ kc = 1) ∨ (i.d = .bool ∧ kc = 2) ∨ (∃ fs n, i.d = .struct fs ∧ T.flat t = n + 1 ∧ kc = n + 4)) := by
  unfold kcOf at h
  split at h
  · rename_i i hi
    refine ⟨i, hi, ?_⟩
    split at h
    · rename_i k hk; injection h with h; exact .inl ⟨k, hk, h.symm⟩
    · rename_i hk; injection h with h; exact .inr (.inl ⟨hk, h.symm⟩)
    · rename_i hk; injection h with h; exact .inr (.inr (.inl ⟨hk, h.symm⟩))
    · rename_i fs hk
      split at h
      · cases h
      · rename_i hne
        injection h with h
        obtain ⟨n, hn⟩ := Nat.exists_eq_succ_of_ne_zero hne
        exact .inr (.inr (.inr ⟨fs, n, hk, hn, by rw [← h, hn]⟩))
    · cases h
  · cases h

theorem checkKey_plain {t : Nat} {i : TI} (hT : TOK P T) (hi : T.ty t = some i) (hd : (∃ k, i.d = .int k) ∨ i.d = .string ∨ i.d = .bool) (e : Bool) (n : Nat) (x : Value) (w : World) :
    (Instr.checkKey e (n + 1) t x).run P w = .ok () w := by
  have eu := run_und hT hi w
  rcases hd with ⟨k, hd⟩ | hd | hd <;> (rw [hd] at eu; simp only [Instr.checkKey, Sem.run_bind, eu, Result.andThen_ok, Sem.run_pure])

theorem keyOk_run (hT : TOK P T) {kc t : Nat} (hk : kcOf T t = some kc) {k : V} {x : Value} (hok : keyOk kc k = true) (hv : VR ι k x) (e : Bool) (w : World) :
    (Instr.checkKey e 10000 t x).run P w = .ok () w := by
  obtain ⟨i, hi, hc⟩ := kc_cases hk
  rcases hc with ⟨q, hd, rfl⟩ | ⟨hd, rfl⟩ | ⟨hd, rfl⟩ | ⟨fs, n, hd, hf, rfl⟩
  · exact checkKey_plain hT hi (.inl ⟨q, hd⟩) e 9999 x w
  · exact checkKey_plain hT hi (.inr (.inl hd)) e 9999 x w
  · exact checkKey_plain hT hi (.inr (.inr hd)) e 9999 x w
  · have : ∃ l, k = .ag l ∧ shp (n + 1) l = true := by cases k <;> first | (refine ⟨_, rfl, ?_⟩; simpa [keyOk] using hok) | simp [keyOk] at hok
    obtain ⟨l, rfl, hl⟩ := this
    cases hv with
    | ag _ xs hxs => exact hT.ckey t n hf e ι l xs w hxs hl

/-- equal keys, in the model. -/
theorem keyEq_run (hT : TOK P T) {kc t : Nat} (hk : kcOf T t = some kc) {k k' : V} {x y : Value} {r : Bool} (he : keyEq kc k k' = some r) (hv : VR ι k x) (hv' : VR ι k' y) :
    ((kc < 3 → ∃ i, T.ty t = some i ∧ Instr.sameNow i.d x y = some r)) ∧ (3 ≤ kc → ∃ i fs, T.ty t = some i ∧ i.d = .struct fs ∧ ∀ w, (Op.equal t x y).run P w = .ok r w) := by
  obtain ⟨i, hi, hc⟩ := kc_cases hk
  rcases hc with ⟨q, hd, rfl⟩ | ⟨hd, rfl⟩ | ⟨hd, rfl⟩ | ⟨fs, n, hd, hf, rfl⟩
  · refine ⟨fun _ => ⟨i, hi, ?_⟩, fun h => by omega⟩
    unfold keyEq at he
    split at he <;> first | (rename_i heq; omega) | skip
    · rename_i k1 a1 k2 b1 _
      obtain rfl := hv.int_inv
      obtain rfl := hv'.int_inv
      split at he
      · rename_i hkk
        injection he with he; subst he
        simp [Instr.sameNow, hd, hkk]
      · cases he
    · cases he
  · refine ⟨fun _ => ⟨i, hi, ?_⟩, fun h => by omega⟩
    unfold keyEq at he
    split at he <;> first | (rename_i heq; omega) | skip
    · injection he with he; subst he
      cases hv with
      | s b1 _ e1 => cases hv' with
        | s b2 _ e2 =>
          subst e1; subst e2
          simp only [Instr.sameNow, hd, Option.some.injEq]
          rw [← bytes_beq]
          rw [Bool.eq_iff_iff]
          show (b1.data == b2.data) = true ↔ _
          rw [beq_iff_eq, beq_iff_eq]
          exact Array.toList_inj.symm
    · cases he
  · refine ⟨fun _ => ⟨i, hi, ?_⟩, fun h => by omega⟩
    unfold keyEq at he
    split at he <;> first | (rename_i heq; omega) | skip
    · injection he with he; subst he
      cases hv; cases hv'
      simp [Instr.sameNow, hd]
    · cases he
  · refine ⟨fun h => by omega, fun _ => ⟨i, fs, hi, hd, fun w => ?_⟩⟩
    unfold keyEq at he
    split at he <;> first | (rename_i heq; omega) | skip
    · rename_i m a1 b1 heq
      have hm : m = n + 1 := by omega
      subst hm
      split at he
      · rename_i hl
        cases hv with
        | ag _ xs hxs => cases hv' with
          | ag _ ys hys => exact hT.eqs t n hf ι xs ys a1 b1 r w hxs hys hl.1 hl.2 he
      · cases he
    · cases he

/-- a key among entries, in the model. -/
theorem findKey_run (hT : TOK P T) {kc t : Nat} (hk : kcOf T t = some kc) {k : V} {x : Value} (hv : VR ι k x) : ∀ {es : List (V × V × Nat)} {en : List MapEntry} {j : Nat} {r : Option (Nat × V)},
    findE kc k es j = some r → VRs ι (es.map (·.1)) (en.map (·.key)) → VRs ι (es.map (·.2.1)) (en.map (·.val)) →
    ∃ r' : Option (Nat × Value), (∀ w, (kc < 3 → ∃ i, T.ty t = some i ∧ Instr.findNow i.d x en j = some r') ∧ (3 ≤ kc → (Instr.findAsking t x en j).run P w = .ok r' w)) ∧
      ((r = none ∧ r' = none) ∨ ∃ p v z, r = some (p, v) ∧ r' = some (p, z) ∧ VR ι v z ∧ j ≤ p ∧ p < j + en.length)
  | [], en, j, r, h, h1, h2 => by
    simp only [findE, Option.some.injEq] at h; subst h
    cases en with
    | nil =>
      obtain ⟨i, hi, _⟩ := kc_cases hk
      exact ⟨none, fun w => ⟨fun _ => ⟨i, hi, rfl⟩, fun _ => rfl⟩, .inl ⟨rfl, rfl⟩⟩
    | cons _ _ => cases h1
  | (k', v', b') :: es, en, j, r, h, h1, h2 => by
    cases en with
    | nil => cases h1
    | cons e en =>
      simp only [List.map_cons] at h1 h2
      cases h1 with
      | cons _ _ _ _ g1 g2 => cases h2 with
        | cons _ _ _ _ f1 f2 =>
          simp only [findE] at h
          split at h
          · rename_i he
            injection h with h; subst h
            obtain ⟨q1, q2⟩ := keyEq_run hT hk he hv g1
            refine ⟨some (j, e.val), fun w => ⟨fun hlt => ?_, fun hge => ?_⟩, .inr ⟨j, v', e.val, rfl, rfl, f1, Nat.le_refl _, by simp⟩⟩
            · obtain ⟨i, hi, hs⟩ := q1 hlt
              exact ⟨i, hi, by simp [Instr.findNow, hs]⟩
            · obtain ⟨i, fs, hi, hd, hs⟩ := q2 hge
              simp only [Instr.findAsking, Sem.run_bind, hs w, Result.andThen_ok, if_true, Sem.run_pure]
          · rename_i he
            obtain ⟨r', p1, p2⟩ := findKey_run hT hk hv h g2 f2
            obtain ⟨q1, q2⟩ := keyEq_run hT hk he hv g1
            refine ⟨r', fun w => ⟨fun hlt => ?_, fun hge => ?_⟩, ?_⟩
            · obtain ⟨i, hi, hs⟩ := q1 hlt
              obtain ⟨i', hi', hs'⟩ := (p1 w).1 hlt
              rw [hi] at hi'; injection hi' with hi'; subst hi'
              exact ⟨i, hi, by simp [Instr.findNow, hs, hs']⟩
            · obtain ⟨i, fs, hi, hd, hs⟩ := q2 hge
              simp only [Instr.findAsking, Sem.run_bind, hs w, Result.andThen_ok, Bool.false_eq_true, if_false]
              exact (p1 w).2 hge
            · rcases p2 with ⟨e1, e2⟩ | ⟨p, v, z, e1, e2, e3, e4, e5⟩
              · exact .inl ⟨e1, e2⟩
              · exact .inr ⟨p, v, z, e1, e2, e3, by omega, by simp; omega⟩
          · cases h

theorem findNow_struct {fs : Array Field} {x : Value} : ∀ (en : List MapEntry) (j : Nat), en ≠ [] → Instr.findNow (.struct fs) x en j = none
  | [], _, h => absurd rfl h
  | e :: en, j, _ => by simp [Instr.findNow, Instr.sameNow]

theorem findKey_run' (hT : TOK P T) {kc t : Nat} (hk : kcOf T t = some kc) {k : V} {x : Value} (hv : VR ι k x) {es : List (V × V × Nat)} {en : List MapEntry} {r : Option (Nat × V)}
    (h : findE kc k es 0 = some r) (h1 : VRs ι (es.map (·.1)) (en.map (·.key))) (h2 : VRs ι (es.map (·.2.1)) (en.map (·.val))) (w : World) :
    ∃ r' : Option (Nat × Value), (Instr.findKey t x en).run P w = .ok r' w ∧ ((r = none ∧ r' = none) ∨ ∃ p v z, r = some (p, v) ∧ r' = some (p, z) ∧ VR ι v z ∧ p < en.length) := by
  obtain ⟨r', p1, p2⟩ := findKey_run hT hk hv h h1 h2
  refine ⟨r', ?_, ?_⟩
  · obtain ⟨i, hi, hc⟩ := kc_cases hk
    by_cases hlt : kc < 3
    · obtain ⟨i', hi', hs⟩ := (p1 w).1 hlt
      unfold Instr.findKey
      simp only [Sem.run_bind, run_und hT hi' w, Result.andThen_ok, hs, Sem.run_pure]
    · have hge : 3 ≤ kc := by omega
      have hd : ∃ fs, i.d = .struct fs := by
        rcases hc with ⟨q, hd, rfl⟩ | ⟨hd, rfl⟩ | ⟨hd, rfl⟩ | ⟨fs, n, hd, hf, rfl⟩ <;> first | omega | exact ⟨fs, hd⟩
      obtain ⟨fs, hd⟩ := hd
      have eu := run_und hT hi w
      rw [hd] at eu
      cases en with
      | nil =>
        have := (p1 w).2 hge
        simp only [Instr.findAsking, Sem.run_pure, Result.ok.injEq, and_true] at this
        subst this
        unfold Instr.findKey
        simp only [Sem.run_bind, eu, Result.andThen_ok, Instr.findNow, Sem.run_pure]
      | cons e en =>
        unfold Instr.findKey
        simp only [Sem.run_bind, eu, Result.andThen_ok, findNow_struct (e :: en) 0 (by simp)]
        exact (p1 w).2 hge
  · rcases p2 with h | ⟨p, v, z, e1, e2, e3, _, e5⟩
    · exact .inl h
    · exact .inr ⟨p, v, z, e1, e2, e3, by omega⟩

theorem zv_rel {t : Nat} {i : TI} (hT : TOK P T) (hi : T.ty t = some i) {z : V} (hz : zvOf i = some z) (ι : Iota) : ∃ x, (∀ w, (zeroValue t).run P w = .ok x w) ∧ VR ι z x := by
  obtain ⟨x, e1, e2, e3, e4⟩ := zero_rel hT hi ι
  refine ⟨x, e1, ?_⟩
  unfold zvOf at hz
  split at hz
  · rename_i hg
    injection hz with hz; subst hz
    obtain ⟨cs, rfl⟩ := e3 hg
    exact .ag _ _ e2
  · rename_i hg
    have hone := e4 (by simpa using hg)
    have hcx : x.cells = #[x] := by cases x <;> first | rfl | (simp [Value.oneCell] at hone; done)
    rw [hcx] at e2
    split at hz
    · rename_i v hv
      injection hz with hz; subst hz
      rw [hv] at e2
      cases e2 with
      | cons _ _ _ _ g _ => exact g
    · cases hz

theorem sim_lk {t : Nat} {x k : Operand} {ok : Bool} (ho : o.op = .lookup t x k ok) {b c : X} (hx : X.of x = some b) (hk : X.of k = some c) (hO : OR ι tm a o) (hT : TOK P T) {i ei : TI} {kt e kc : Nat} (hi : T.ty t = some i) (hd : i.d = .map kt e)
    (hkc : kcOf T kt = some kc) (he : T.ty e = some ei) {z : V} (hz : zvOf ei = some z) (hh : HRel ι h w) {v : V}
    (hs : semR (.lk kc z ok (evX tm b) (evX tm c)) h = some v) : Vals P a o w ι v := by
  refine vals_of (s := Instr.lookup t (a.eval x) (a.eval k) ok) (by simp only [execOp, ho]) ?_
  have h1 := hO x (by simp [ho, Op.operands]) _ hx
  have h2 := hO k (by simp [ho, Op.operands]) _ hk
  have eu := run_und hT hi w
  rw [hd] at eu
  obtain ⟨zx, ez, zr⟩ := zv_rel hT he hz ι
  simp only [semR] at hs
  split at hs
  · rename_i hok
    have key : ∀ (es : List (V × V × Nat)) (en : Array MapEntry), VRs ι (es.map (·.1)) (en.toList.map (·.key)) → VRs ι (es.map (·.2.1)) (en.toList.map (·.val)) → ∀ r, findE kc (evX tm c) es 0 = some r →
        ∃ y, (do Instr.checkKey en.isEmpty 10000 kt (a.eval k)
                 let (v, fnd) ← match ← Instr.findKey kt (a.eval k) en.toList with
                   | some (_, v) => pure (v, true)
                   | none => pure (← zeroValue e, false)
                 pure (if ok then .tuple #[v, .bool fnd] else v) : Sem Value).run P w = .ok y w ∧ VR ι (if ok then .tu [(match r with | some (_, v) => v | none => z), .b r.isSome] else (match r with | some (_, v) => v | none => z)) y := by
      intro es en g1 g2 r hr
      obtain ⟨r', f1, f2⟩ := findKey_run' hT hkc h2 hr g1 g2 w
      simp only [Sem.run_bind, keyOk_run hT hkc hok h2, Result.andThen_ok, f1]
      rcases f2 with ⟨rfl, rfl⟩ | ⟨p, v, zz, rfl, rfl, f3, _⟩
      · simp only [Sem.run_bind, ez, Result.andThen_ok, Sem.run_pure]
        cases ok with
        | true => exact ⟨_, rfl, .tu _ _ (.cons _ _ _ _ zr (.cons _ _ _ _ (.b _) .nil))⟩
        | false => exact ⟨_, rfl, zr⟩
      · dsimp only
        cases ok with
        | true => exact ⟨_, rfl, .tu _ _ (.cons _ _ _ _ f3 (.cons _ _ _ _ (.b _) .nil))⟩
        | false => exact ⟨_, rfl, f3⟩
    split at hs
    · cases hs
    · rename_i es hes
      split at hs
      · cases hs
      · rename_i r hr
        injection hs with hs; subst hs
        split at hes
        · rename_i hmn
          injection hes with hes; subst hes
          rw [hmn] at h1
          cases hev : a.eval x <;> rw [hev] at h1 <;> cases h1
          obtain ⟨y, e1, e2⟩ := key [] #[] .nil .nil r hr
          refine ⟨y, ?_, e2⟩
          unfold Instr.lookup
          simp only [Sem.run_bind, eu, Result.andThen_ok, Sem.run_pure]
          simp only [Sem.run_bind] at e1; exact e1
        · rename_i B hm
          rw [hm] at h1
          split at hes
          · rename_i es' clk hB
            injection hes with hes; subst hes
            generalize a.eval x = y at h1
            cases h1 with
            | m _ L hL =>
              obtain ⟨en, m1, m2, m3, m4⟩ := map_of hh hB hL
              obtain ⟨y, e1, e2⟩ := key _ en m2 m3 r hr
              refine ⟨y, ?_, e2⟩
              unfold Instr.lookup
              simp only [Sem.run_bind, eu, Result.andThen_ok, run_getMap m1, Sem.run_pure]
              simp only [Sem.run_bind] at e1; exact e1
          · cases hes
        · cases hes
  · cases hs

/-- bytes of cells. -/
theorem bytesL_run : ∀ {cs : List V} {l : List Nat} {xs : List Value}, bytesL cs = some l → VRs ι cs xs → ∃ bs : List UInt8, l = bs.map UInt8.toNat ∧ xs = bs.map fun b => .int .u8 b.toNat
  | [], l, xs, h, hr => by
    simp [bytesL] at h; subst h
    cases hr; exact ⟨[], rfl, rfl⟩
  | c :: cs, l, xs, h, hr => by
    unfold bytesL at h
    split at h
    · rename_i heq; cases heq
    · rename_i n r heq
      injection heq with e1 e2
      subst e1; subst e2
      split at h
      · rename_i hn
        simp only [Option.map_eq_some_iff] at h
        obtain ⟨l', h1, rfl⟩ := h
        cases hr with
        | cons _ x _ xs hx hxs =>
          obtain rfl := hx.int_inv
          obtain ⟨bs, e1, e2⟩ := bytesL_run h1 hxs
          refine ⟨UInt8.ofNat n.toNat :: bs, ?_, ?_⟩
          · simp [e1]; omega
          · simp only [List.map_cons, e2, List.cons.injEq, and_true, Value.int.injEq, true_and]
            simp; omega
      · cases h
    · cases h


theorem shape_of (hh : HRel ι h w) {B : Nat} {cs : List V} {fz q : Nat} (hB : h.get B = some (.c cs fz q)) {e : Loc} (he : ι B = some e) :
    ∃ el n, w.shape? e.r = some (el, n) ∧ e.o + cs.length ≤ n ∧ (q / 4 = 0 ∨ q / 4 = el + 1 ∧ e.o = 0) := by
  obtain ⟨c, el, f, b1, b2, b3, b4, b5, b6, b7⟩ := hh.br B _ e hB he
  exact ⟨el, c.size, by simp [World.shape?, b1], by omega, b6⟩

theorem liesAt_head {e count : Nat} (hz : P.cellsOf e ≠ 0) (hc : 1 ≤ count) : liesAt P P.depth e count 0 e 1 = true := by
  have hd : P.depth = (2 * (P.types.size + Made.depth) + 1) + 1 := rfl
  rw [hd]
  simp only [liesAt, Bool.or_eq_true]
  left
  rw [hd]
  simp [rowAt, hz, hc, sameLayout]

theorem sim_cvr0 {s d t : Nat} {x : Operand} (ho : o.op = .convert s d x) {b : X} (hx : X.of x = some b) (hO : OR ι tm a o) (hT : TOK P T) {i j ti : TI} (hi : T.ty s = some i) (hj : T.ty d = some j) (hid : i.d = .pointer t)
    (hjd : j.d = .unsafePointer) (ht : T.ty t = some ti) (hsz : ti.size ≠ 0) (hh : HRel ι h w) {v : V} (hs : semR (.cvr true [] (evX tm b)) h = some v) : Vals P a o w ι v := by
  refine vals_of (s := convert s d (a.eval x)) (by simp only [execOp, ho]) ?_
  have h1 := hO x (by simp [ho, Op.operands]) _ hx
  have u1 := und hT hi
  have u2 := und hT hj
  rw [hid] at u1; rw [hjd] at u2
  obtain ⟨ji, k1, _, k3, _⟩ := hT.ty t ti ht
  simp only [semR] at hs
  split at hs
  · rename_i hk
    rw [hk] at h1
    injection hs with hs; subst hs
    have := h1
    generalize a.eval x = y at *
    cases h1
    exact ⟨.pointer none, by simp [convert, run_underlying u1, run_underlying u2, Conv.unsafePointer], .pn⟩
  · rename_i B of hk
    rw [hk] at h1
    split at hs
    · rename_i cs fz q' hB
      split at hs
      · rename_i hc
        injection hs with hs; subst hs
        generalize a.eval x = y at *
        cases h1 with
        | p _ _ e he =>
          obtain ⟨el, n, s1, s2, _⟩ := shape_of hh hB he
          exact ⟨_, Lib.run_to_unsafe w ⟨e.r, e.o + of, none⟩ u1 u2 k1 (by rw [k3]; exact hsz) s1 (by simp only; omega), .p _ _ _ he⟩
      · cases hs
    · cases hs
  · cases hs

theorem sim_cvr {s d t : Nat} {x : Operand} (ho : o.op = .convert s d x) {b : X} (hx : X.of x = some b) (hO : OR ι tm a o) (hT : TOK P T) {i j ti : TI} (hi : T.ty s = some i) (hj : T.ty d = some j) (hid : i.d = .unsafePointer)
    (hjd : j.d = .pointer t) (ht : T.ty t = some ti) (_hsz : ti.size ≠ 0) (hh : HRel ι h w) {v : V} (hs : semR (.cvr false ((T.lies t).map fun p => (4 * (p.1 + 1), p.2)) (evX tm b)) h = some v) : Vals P a o w ι v := by
  refine vals_of (s := convert s d (a.eval x)) (by simp only [execOp, ho]) ?_
  have h1 := hO x (by simp [ho, Op.operands]) _ hx
  have u1 := und hT hi
  have u2 := und hT hj
  rw [hid] at u1; rw [hjd] at u2
  obtain ⟨ji, k1, _, k3, _⟩ := hT.ty t ti ht
  have hcell : P.cellsOf t = ti.size := by simp [Program.cellsOf, k1, k3]
  simp only [semR] at hs
  split at hs
  · rename_i hk
    rw [hk] at h1
    injection hs with hs; subst hs
    generalize a.eval x = y at *
    cases h1
    exact ⟨.pointer none, by simp [convert, run_underlying u1, run_underlying u2, Conv.unsafePointer], .pn⟩
  · rename_i B of hk
    rw [hk] at h1
    split at hs
    · rename_i cs fz q' hB
      split at hs
      · rename_i hc
        injection hs with hs; subst hs
        obtain ⟨hc1, hc2⟩ := hc
        rcases hc2 with hc2 | ⟨rfl, hc2⟩
        · cases hc2
        obtain ⟨p, hp, hpc⟩ := List.any_eq_true.1 hc2
        obtain ⟨p0, hp0, rfl⟩ := List.mem_map.1 hp
        simp only [Bool.and_eq_true, beq_iff_eq, Nat.ble_eq] at hpc
        obtain ⟨p1, p2⟩ := hpc
        have hc3 : q' / 4 = p0.1 + 1 := by omega
        generalize a.eval x = y at *
        cases h1 with
        | p _ _ e he =>
          obtain ⟨el, n, s1, s2, s3⟩ := shape_of hh hB he
          have hel : el = p0.1 ∧ e.o = 0 := by
            rcases s3 with g | ⟨g1, g2⟩
            · rw [g] at hc3; cases hc3
            · rw [g1] at hc3; injection hc3 with g3; exact ⟨g3, g2⟩
          obtain ⟨rfl, heo⟩ := hel
          have hcnt : 1 ≤ n / P.cellsOf p0.1 := by
            have : ∀ count, 1 ≤ count → _ := hT.lies t p0 hp0
            obtain ⟨_, l2, l3⟩ := this 1 (Nat.le_refl _)
            rw [l2]
            exact Nat.div_pos (a := n) (b := p0.2) (by omega) (by omega)
          refine ⟨_, Lib.run_from_unsafe w ⟨e.r, e.o + 0, none⟩ u1 u2 k1 s1 ?_, .p _ _ _ he⟩
          rw [heo]
          exact (hT.lies t p0 hp0 _ hcnt).1
      · cases hs
    · cases hs
  · cases hs

end Go.Ev

namespace Go.Ev
variable {P : Program} {T : TT} {ι : Iota} {tm : Nat → V} {a : Act} {o : Oper} {h : H} {w : World}

theorem foldl_push (bs : List UInt8) : ∀ (s : ByteArray), ((bs.map fun b => ((b.toNat : Nat) : Int)).foldl (fun r n => r.push (UInt8.ofNat n.toNat)) s).data.toList = s.data.toList ++ bs := by
  induction bs with
  | nil => intro s; simp
  | cons b bs ih => intro s; simp only [List.map_cons, List.foldl_cons]; rw [ih]; simp [ByteArray.push]

theorem sim_b2s {s d e : Nat} {x : Operand} (ho : o.op = .convert s d x) {b : X} (hx : X.of x = some b) (hO : OR ι tm a o) (hT : TOK P T) {i j ei : TI} (hi : T.ty s = some i) (hj : T.ty d = some j) (hid : i.d = .slice e)
    (hjd : j.d = .string) (he : T.ty e = some ei) (hed : ei.d = .int .u8) (hh : HRel ι h w) {v : V} (hs : semR (.b2s (evX tm b)) h = some v) : Vals P a o w ι v := by
  refine vals_of (s := convert s d (a.eval x)) (by simp only [execOp, ho]) ?_
  have h1 := hO x (by simp [ho, Op.operands]) _ hx
  have e1 := und hT hi
  have e2 := und hT hj
  have e3 := und hT he
  rw [hid] at e1; rw [hjd] at e2; rw [hed] at e3
  simp only [semR] at hs
  split at hs
  · rename_i hk
    rw [hk] at h1
    injection hs with hs; subst hs
    cases hev : a.eval x <;> rw [hev] at h1 <;> cases h1
    exact ⟨.string .empty, by rw [run_convert_bytes_string w s d e _ _ _ e1 e3 e2]; rfl, .s _ _ rfl⟩
  · rename_i B of len cap xf hk
    rw [hk] at h1
    split at hs
    · rename_i cs hc
      simp only [Option.map_eq_some_iff] at hs
      obtain ⟨l, hl, rfl⟩ := hs
      have key : ∀ (e : Loc) (off cap' : Nat), ι B = some e → (off = e.o + of ∨ len = 0) → ∃ y, (convert s d (.slice (some ⟨e.r, off, none⟩) len cap')).run P w = .ok y w ∧ VR ι (.s l) y := by
        intro L off cap' hL hoff
        obtain ⟨xs, r1, r2, _, r3⟩ := cellsAt_rel hh hc hL
        obtain ⟨bs, b1, b2⟩ := bytesL_run hl r1
        have hload : (loadCells ⟨L.r, off, none⟩ len).run P w = .ok ((bs.map fun b => ((b.toNat : Nat) : Int)).map (Value.int .u8)).toArray w := by
          have e4 : (bs.map fun b => ((b.toNat : Nat) : Int)).map (Value.int .u8) = xs := by rw [b2]; simp
          rw [e4]
          rcases hoff with rfl | h0
          · have := run_loadCells (P := P) xs r3; rwa [r2] at this
          · subst h0
            have : xs = [] := List.eq_nil_of_length_eq_zero r2
            subst this
            rfl
        refine ⟨_, by rw [run_convert_bytes_string w s d e _ _ _ e1 e3 e2]; exact run_bytesToString w _ len cap' _ hload, .s _ _ ?_⟩
        rw [foldl_push, b1]
        rfl
      generalize a.eval x = y at h1
      cases h1 with
      | sx _ _ _ _ L hL hle => exact key L _ _ hL (.inl rfl)
      | si _ _ _ _ _ cap' off L hL hx0 hle hle2 hor =>
        refine key L _ _ hL ?_
        rcases hor with g | g
        · right; omega
        · exact .inl g.1
    · cases hs
  · cases hs

/-! ### what acts on memory -/

/-- An operation that acts: what it comes to. -/
def Acts (P : Program) (a : Act) (o : Oper) (w : World) (ι : Iota) (h : H) (v : V) (h' : H) : Prop :=
  ∃ x n w' ι', (execOp a.eval o).run P w = .ok n w' ∧ (n = .value x ∨ n = .skip ∧ x = undef) ∧ VR ι' v x ∧ HRel ι' h' w' ∧ Ext ι h w ι' h' w'

theorem BR.mono {ι ι' : Iota} (hle : ι.le ι') {e : Loc} {w w' : World} (hw : w'.heap[e.r]? = w.heap[e.r]?) : ∀ {b : Blk}, BR ι e w b → BR ι' e w' b
  | .c cs fz q, ⟨c, el, f, h1, h2, h3⟩ => ⟨c, el, f, by rw [hw]; exact h1, fun j v hv => (h2 j v hv).elim fun x hx => ⟨x, hx.1, hx.2.mono hle⟩, h3⟩
  | .mp es clk, ⟨en, h1, h2, h3, h4⟩ => ⟨en, by rw [hw]; exact h1, h2.mono hle, h3.mono hle, h4⟩
  | .it s pos, ⟨h0, x, h1, h2⟩ => ⟨h0, x, by rw [hw]; exact h1, h2⟩

/-- A real block that is there. -/
theorem BR.lt {e : Loc} {b : Blk} (hb : BR ι e w b) : e.r < w.heap.size := by
  have : ∃ x, w.heap[e.r]? = some x := by
    cases b with
    | c => obtain ⟨c, el, f, h1, _⟩ := hb; exact ⟨_, h1⟩
    | mp => obtain ⟨en, h1, _⟩ := hb; exact ⟨_, h1⟩
    | it => obtain ⟨_, x, h1, _⟩ := hb; exact ⟨_, h1⟩
  obtain ⟨x, hx⟩ := this
  exact (Array.getElem?_eq_some_iff.1 hx).1

/-- One block of the call's own is written. -/
theorem rel_put (hh : HRel ι h w) {B : Nat} {b b' : Blk} (hB : h.get B = some b) (hown : b.own = true) {w' : World}
    (hb' : ∀ e, ι B = some e → BR ι e w' b') (hother : ∀ r, (∀ e, ι B = some e → r ≠ e.r) → w'.heap[r]? = w.heap[r]?) (hsz : w'.heap.size = w.heap.size) (hos : w'.os = w.os) (hout : w'.output = w.output) :
    HRel ι (h.put B (some b')) w' ∧ Ext ι h w ι (h.put B (some b')) w' := by
  have hget : ∀ j, (h.put B (some b')).get j = if j = B then some b' else h.get j := fun j => H.get_put h B j _
  refine ⟨⟨?_, ?_, ?_, ?_⟩, ⟨Iota.le_refl _, fun _ _ => rfl, Nat.le_refl _, by omega, ?_, ?_, hos, hout⟩⟩
  · intro B2 b2 e2 h2 he2
    rw [hget] at h2
    split at h2
    · rename_i heq; subst heq; injection h2 with h2; subst h2; exact hb' e2 he2
    · rename_i hne
      refine (hh.br B2 b2 e2 h2 he2).mono (Iota.le_refl _) (hother _ fun e he => ?_)
      exact fun heq => hh.inj B B2 b b2 e e2 (Ne.symm hne) hB h2 he he2 hown heq.symm
  · intro B1 B2 b1 b2 e1 e2 hne h1 h2 he1 he2 ho
    rw [hget] at h1 h2
    split at h1
    · rename_i hq; subst hq
      rw [if_neg (Ne.symm hne)] at h2
      exact hh.inj _ _ _ _ _ _ hne hB h2 he1 he2 hown
    · split at h2
      · rename_i hq; subst hq
        exact hh.inj _ _ _ _ _ _ hne h1 hB he1 he2 ho
      · exact hh.inj _ _ _ _ _ _ hne h1 h2 he1 he2 ho
  · exact hh.lt
  · intro B2 b2 h2
    rw [hget] at h2
    split at h2
    · rename_i hq; subst hq; exact hh.dom _ _ hB
    · exact hh.dom _ _ h2
  · intro B2 b2 e2 h2 ho he
    rw [hget] at h2
    split at h2
    · rename_i hq; subst hq; exact .inr ⟨_, b, e2, hB, hown, he, rfl⟩
    · exact .inr ⟨_, b2, e2, h2, ho, he, rfl⟩
  · intro r hr hn
    exact hother r fun e he heq => hn B b e hB hown he heq.symm

/-- A new block. -/
theorem rel_new (hh : HRel ι h w) {blk : Blk} {w' : World} {e : Loc} (her : e.r = w.heap.size) (hw : w'.heap.size = w.heap.size + 1 ∧ ∀ j, j < w.heap.size → w'.heap[j]? = w.heap[j]?) (hos : w'.os = w.os) (hout : w'.output = w.output)
    (hbr : ∀ ι', ι.le ι' → ι' h.nx = some e → BR ι' e w' blk) :
    ∃ ι', ι' h.nx = some e ∧ (∀ B, B ≠ h.nx → ι' B = ι B) ∧ HRel ι' (h.new blk) w' ∧ Ext ι h w ι' (h.new blk) w' := by
  have hfresh : ι h.nx = none := by
    cases hq : ι h.nx with
    | none => rfl
    | some e' => exact absurd (hh.lt _ _ hq) (Nat.lt_irrefl _)
  let ι' : Iota := fun B => if B = h.nx then some e else ι B
  have h1 : ι' h.nx = some e := if_pos rfl
  have h2 : ∀ B, B ≠ h.nx → ι' B = ι B := fun B hB => if_neg hB
  have hle : ι.le ι' := fun B e' he => by
    rw [h2 B fun hq => by subst hq; rw [hfresh] at he; cases he]; exact he
  have hget : ∀ j, (h.new blk).get j = if j = h.nx then some blk else h.get j := fun j => H.get_new h j _
  refine ⟨ι', h1, h2, ⟨?_, ?_, ?_, ?_⟩, ⟨hle, fun B hB => h2 B (Nat.ne_of_lt hB), by simp, by omega, ?_, ?_, hos, hout⟩⟩
  · intro B b e' hb he'
    rw [hget] at hb
    split at hb
    · rename_i hq; subst hq; injection hb with hb; subst hb
      rw [h1] at he'; injection he' with he'; subst he'
      exact hbr ι' hle h1
    · rename_i hne
      rw [h2 B hne] at he'
      have hbr' := hh.br B b e' hb he'
      exact hbr'.mono hle (hw.2 _ hbr'.lt)
  · intro B1 B2 b1 b2 e1 e2 hne hb1 hb2 he1 he2 ho
    rw [hget] at hb1 hb2
    split at hb1
    · rename_i hq; subst hq
      rw [if_neg (Ne.symm hne)] at hb2
      rw [h2 _ (Ne.symm hne)] at he2
      rw [h1] at he1; injection he1 with he1; subst he1
      have := (hh.br _ _ _ hb2 he2).lt
      omega
    · rename_i hq1
      rw [h2 _ hq1] at he1
      split at hb2
      · rename_i hq; subst hq
        rw [h1] at he2; injection he2 with he2; subst he2
        have := (hh.br _ _ _ hb1 he1).lt
        omega
      · rename_i hq2
        rw [h2 _ hq2] at he2
        exact hh.inj _ _ _ _ _ _ hne hb1 hb2 he1 he2 ho
  · intro B e' he'
    by_cases hq : B = h.nx
    · subst hq; simp
    · rw [h2 B hq] at he'; have := hh.lt _ _ he'; simp; omega
  · intro B b hb
    rw [hget] at hb
    split at hb
    · rename_i hq; subst hq; simp
    · have := hh.dom _ _ hb; simp; omega
  · intro B b e' hb ho he'
    rw [hget] at hb
    split at hb
    · rename_i hq; subst hq
      rw [h1] at he'; injection he' with he'; subst he'
      exact .inl (by omega)
    · rename_i hq
      rw [h2 B hq] at he'
      exact .inr ⟨B, b, e', hb, ho, he', rfl⟩
  · intro r hr _
    exact hw.2 r hr

/-- Cells of a row are stored. -/
theorem run_storeCells {r of : Nat} : ∀ (xs : List Value) (i : Nat) (w : World) (c : Array Value) (el : Nat) (f : Nat × Nat), w.heap[r]? = some (.cells c el f) → of + i + xs.length ≤ c.size → (∀ x ∈ xs, x.oneCell = true) →
    (∀ j, of + i ≤ j → j < of + i + xs.length → ¬ (f.1 ≤ j ∧ j < f.2)) →
    ∃ c' : Array Value, (storeCells ⟨r, of, none⟩ xs i).run P w = .ok () { w with heap := w.heap.setIfInBounds r (.cells c' el f) } ∧ c'.size = c.size ∧ ∀ j, c'[j]? = if of + i ≤ j ∧ j < of + i + xs.length then xs[j - (of + i)]? else c[j]?
  | [], i, w, c, el, f, hc, _, _, _ => by
    refine ⟨c, ?_, rfl, fun j => by rw [if_neg (by simp)]⟩
    simp only [storeCells, Sem.run_pure]
    congr 1
    have : w.heap.setIfInBounds r (.cells c el f) = w.heap := by
      apply Array.ext_getElem?
      intro k
      rw [Array.getElem?_setIfInBounds]
      split
      · rename_i hk; subst hk
        split
        · exact hc.symm
        · rename_i hlt; rw [Array.getElem?_eq_none (by omega)]
      · rfl
    rw [this]
  | x :: xs, i, w, c, el, f, hc, hle, h1, hf => by
    simp only [List.length_cons] at hle hf
    have hcell : w.cell? ⟨r, of + i, none⟩ = some c[of + i] := by simp [World.cell?, hc, show of + i < c.size by omega]
    have hfr : w.frozen? ⟨r, of + i, none⟩ = false := by
      have := hf (of + i) (Nat.le_refl _) (by omega)
      simp only [World.frozen?, hc]
      simp only [Bool.and_eq_false_iff, decide_eq_false_iff_not]
      omega
    have hone := h1 x (by simp)
    have hst : (store ⟨r, of + i, none⟩ x).run P w = .ok () (w.setCell ⟨r, of + i, none⟩ x) := by
      have : ∀ x : Value, x.oneCell = true → (Sem.store .plain ⟨r, of + i, none⟩ x (.pure ()) : Sem Unit).run P w = .ok () (w.setCell ⟨r, of + i, none⟩ x) := by
        intro x hx
        cases x <;> first | (simp [Value.oneCell] at hx; done) | (simp only [Sem.run, hcell, hfr, Bool.false_eq_true, if_false])
      exact this x hone
    have hset : w.setCell ⟨r, of + i, none⟩ x = { w with heap := w.heap.setIfInBounds r (.cells (c.setIfInBounds (of + i) x) el f) } := by
      simp only [World.setCell, World.mk.injEq, and_true]
      apply Array.ext_getElem?
      intro k
      rw [Array.getElem?_modify, Array.getElem?_setIfInBounds]
      by_cases hk : r = k
      · subst hk
        have hlt := (Array.getElem?_eq_some_iff.1 hc).1
        rw [hc]
        simp [hlt]
      · simp [hk]
    have hlt := (Array.getElem?_eq_some_iff.1 hc).1
    obtain ⟨c', e1, e2, e3⟩ := run_storeCells (r := r) (of := of) xs (i + 1) (w.setCell ⟨r, of + i, none⟩ x) (c.setIfInBounds (of + i) x) el f (by rw [hset]; simp [hlt]) (by simp; omega) (fun y hy => h1 y (by simp [hy]))
      (fun j hj1 hj2 => hf j (by omega) (by omega))
    refine ⟨c', ?_, by simpa using e2, fun j => ?_⟩
    · simp only [storeCells, Sem.run_bind, add_none, hst, Result.andThen_ok, e1]
      rw [hset]
      simp
    · rw [e3 j]
      by_cases hj : of + (i + 1) ≤ j ∧ j < of + (i + 1) + xs.length
      · rw [if_pos hj, if_pos (by simp; omega), show j - (of + i) = (j - (of + (i + 1))) + 1 from by omega, List.getElem?_cons_succ]
      · rw [if_neg hj]
        by_cases hq : j = of + i
        · subst hq
          rw [if_pos (by simp), Array.getElem?_setIfInBounds_self_of_lt (by omega)]; simp
        · rw [Array.getElem?_setIfInBounds_ne (by omega), if_neg (by simp; omega)]

theorem st_run (hh : HRel ι h w) {B of : Nat} {vs : List V} {h' : H} (hs : stAt h B of vs = some h') {e : Loc} (he : ι B = some e) {xs : List Value} (hr : VRs ι vs xs) :
    ∃ w', (storeCells ⟨e.r, e.o + of, none⟩ xs 0).run P w = .ok () w' ∧ HRel ι h' w' ∧ Ext ι h w ι h' w' := by
  unfold stAt at hs
  split at hs
  · injection hs with hs; subst hs
    cases hr
    exact ⟨w, rfl, hh, Ext.refl _ _ _⟩
  · split at hs
    · rename_i cs fz q hB
      split at hs
      · cases hs
      · rename_i hcond
        injection hs with hs; subst hs
        simp only [not_or, Nat.not_le, Nat.not_lt, Bool.not_eq_true'] at hcond
        obtain ⟨hq, hfz, hle, hone⟩ := hcond
        have hone' : ∀ v ∈ vs, v.one = true := by simpa using hone
        obtain ⟨c, el, f, b1, b2, b3, b4, b5, b6⟩ := hh.br B _ e hB he
        have hlen := hr.length
        have hxo : ∀ x ∈ xs, x.oneCell = true := by
          intro x hx
          obtain ⟨j, hj⟩ := List.getElem?_of_mem hx
          have hjl : j < vs.length := by rw [hlen]; exact (List.getElem?_eq_some_iff.1 hj).1
          obtain ⟨y, hy, hvy⟩ := hr.get j _ (List.getElem?_eq_getElem hjl)
          rw [hj] at hy; injection hy with hy; subst hy
          exact hvy.one (hone' _ (List.getElem_mem hjl))
        obtain ⟨c', e1, e2, e3⟩ := run_storeCells (P := P) (r := e.r) (of := e.o + of) xs 0 w c el f b1 (by omega) hxo (fun j hj1 hj2 hfr => by
          rcases b6.2.cases hq with g | ⟨_, g⟩ | ⟨_, g⟩ <;> omega)
        have hlt := (Array.getElem?_eq_some_iff.1 b1).1
        refine ⟨_, e1, rel_put hh hB (by simp [Blk.own, hq]) ?_ ?_ (by simp) rfl rfl⟩
        · intro e' he'
          rw [he] at he'; injection he' with he'; subst he'
          refine ⟨c', el, f, by simp [hlt], ?_, ?_, by rw [layAt_length]; exact b4, by rw [e2]; exact b5, by rw [e2]; exact b6⟩
          · intro j v hv
            rw [layAt_get _ _ _ _ hle] at hv
            rw [e3]
            split at hv
            · rename_i hj
              obtain ⟨x, hx, hvx⟩ := hr.get _ _ hv
              refine ⟨x, ?_, hvx⟩
              rw [if_pos (by omega), show e.o + j - (e.o + of + 0) = j - of from by omega]
              exact hx
            · rename_i hj
              obtain ⟨x, hx, hvx⟩ := b2 _ _ hv
              refine ⟨x, ?_, hvx⟩
              rw [if_neg (by omega)]
              exact hx
          · intro v hv
            obtain ⟨j, hj⟩ := List.getElem?_of_mem hv
            rw [layAt_get _ _ _ _ hle] at hj
            split at hj
            · exact hone' v (List.mem_of_getElem? hj)
            · exact b3 v (List.mem_of_getElem? hj)
        · intro r hr'
          have : r ≠ e.r := hr' e he
          simp only
          rw [Array.getElem?_setIfInBounds_ne (Ne.symm this)]
    · cases hs

theorem acts_unit {s : Sem Unit} {v : V} {h' : H} (he : execOp a.eval o = (do s; pure .skip)) (hv : v = .tu []) (hr : ∃ w', s.run P w = .ok () w' ∧ HRel ι h' w' ∧ Ext ι h w ι h' w') : Acts P a o w ι h v h' := by
  obtain ⟨w', e1, e2, e3⟩ := hr
  refine ⟨undef, .skip, w', ι, ?_, .inr ⟨rfl, rfl⟩, ?_, e2, e3⟩
  · rw [he]; simp [e1]
  · subst hv; exact .tu _ _ .nil

theorem sim_st {t : Nat} {x y : Operand} (ho : o.op = .store t x y) {b c : X} (hx : X.of x = some b) (hy : X.of y = some c) (hO : OR ι tm a o) (hT : TOK P T) {i : TI} (hi : T.ty t = some i) (hsz : i.size = 1) (hh : HRel ι h w) {v : V} {h' : H}
    (hs : semE (.st (evX tm b) (evX tm c)) h = some (v, h')) : Acts P a o w ι h v h' := by
  have h1 := hO x (by simp [ho, Op.operands]) _ hx
  have h2 := hO y (by simp [ho, Op.operands]) _ hy
  simp only [semE] at hs
  split at hs
  · rename_i B of hk
    rw [hk] at h1
    simp only [Option.map_eq_some_iff, Prod.mk.injEq] at hs
    obtain ⟨h'', hst, rfl, rfl⟩ := hs
    refine acts_unit (s := Instr.storeAt t (a.eval x) (a.eval y)) (by simp only [execOp, ho]) rfl ?_
    generalize a.eval x = p at h1
    generalize a.eval y = z at h2
    cases h1 with
    | p _ _ e he =>
      obtain ⟨w', e1, e2, e3⟩ := st_run (P := P) hh hst he (.cons _ _ _ _ h2 .nil)
      refine ⟨w', ?_, e2, e3⟩
      have hvone : (evX tm c).one = true := by
        unfold stAt at hst
        split at hst
        · rename_i heq; cases heq
        · split at hst
          · split at hst
            · cases hst
            · rename_i hcond; simp only [not_or, List.all_cons, List.all_nil, Bool.and_true, Bool.not_eq_true', Bool.not_eq_false] at hcond; exact hcond.2.2.2
          · cases hst
      have hzone := h2.one hvone
      have hzc : z.cells = #[z] := by cases z <;> first | rfl | (simp [Value.oneCell] at hzone; done)
      unfold Instr.storeAt storeVar
      simp only [Sem.run_bind, Instr.sureAddr, Sem.run_pure, Result.andThen_ok, run_size hT hi, hzc, hsz]
      rw [if_neg (by simp)]
      exact e1
  · cases hs

theorem sim_stn {t : Nat} {x y : Operand} (ho : o.op = .store t x y) {b c : X} (hx : X.of x = some b) (hy : X.of y = some c) (hO : OR ι tm a o) (hT : TOK P T) {i : TI} (hi : T.ty t = some i) (hh : HRel ι h w) {v : V} {h' : H}
    (hs : semE (.stn i.size (evX tm b) (evX tm c)) h = some (v, h')) : Acts P a o w ι h v h' := by
  have h1 := hO x (by simp [ho, Op.operands]) _ hx
  have h2 := hO y (by simp [ho, Op.operands]) _ hy
  simp only [semE] at hs
  split at hs
  · rename_i B of vs hk hk2
    rw [hk] at h1; rw [hk2] at h2
    split at hs
    · rename_i hl
      simp only [Option.map_eq_some_iff, Prod.mk.injEq] at hs
      obtain ⟨h'', hst, rfl, rfl⟩ := hs
      refine acts_unit (s := Instr.storeAt t (a.eval x) (a.eval y)) (by simp only [execOp, ho]) rfl ?_
      generalize a.eval x = p at h1
      generalize a.eval y = z at h2
      cases h1 with
      | p _ _ e he => cases h2 with
        | ag _ xs hxs =>
          obtain ⟨w', e1, e2, e3⟩ := st_run (P := P) hh hst he hxs
          refine ⟨w', ?_, e2, e3⟩
          unfold Instr.storeAt storeVar
          have : xs.size = i.size := by have := hxs.length; simp at this; omega
          simp only [Sem.run_bind, Instr.sureAddr, Sem.run_pure, Result.andThen_ok, run_size hT hi, Value.cells, this]
          rw [if_neg (by simp)]
          exact e1
    · cases hs
  · cases hs

end Go.Ev
