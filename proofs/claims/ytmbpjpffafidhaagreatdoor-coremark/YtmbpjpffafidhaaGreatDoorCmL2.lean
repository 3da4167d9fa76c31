import Derived.Test.YtmbpjpffafidhaaGreatDoorCmL1
namespace Go.Ev
variable {P : Program} {T : TT} {ι : Iota} {tm : Nat → V} {a : Act} {o : Oper} {h : H} {w : World}

theorem rel_kill (hh : HRel ι h w) (B : Nat) : HRel ι (h.put B none) w ∧ Ext ι h w ι (h.put B none) w := by
  have hget : ∀ j b, (h.put B none).get j = some b → j ≠ B ∧ h.get j = some b := fun j b hb => by
    rw [H.get_put] at hb; split at hb
    · cases hb
    · rename_i hne; exact ⟨hne, hb⟩
  refine ⟨⟨fun B1 b e hb he => hh.br B1 b e (hget _ _ hb).2 he, fun B1 B2 b1 b2 e1 e2 hne h1 h2 he1 he2 ho => hh.inj _ _ _ _ _ _ hne (hget _ _ h1).2 (hget _ _ h2).2 he1 he2 ho, hh.lt, fun B1 b hb => hh.dom _ _ (hget _ _ hb).2⟩,
    ⟨Iota.le_refl _, fun _ _ => rfl, Nat.le_refl _, Nat.le_refl _, fun B1 b e hb ho he => .inr ⟨B1, b, e, (hget _ _ hb).2, ho, he, rfl⟩, fun _ _ _ => rfl, rfl, rfl⟩⟩

/-- A block that takes the place of one that dies. -/
theorem rel_regrow (hh : HRel ι h w) {B : Nat} {b blk : Blk} {e e' : Loc} (hB : h.get B = some b) (hown : b.own = true) (he : ι B = some e) (her : e'.r = e.r) {w' : World}
    (hother : ∀ r, r ≠ e.r → w'.heap[r]? = w.heap[r]?) (hsz : w'.heap.size = w.heap.size) (hos : w'.os = w.os) (hout : w'.output = w.output)
    (hbr : ∀ ι', ι.le ι' → ι' h.nx = some e' → BR ι' e' w' blk) :
    ∃ ι', ι' h.nx = some e' ∧ HRel ι' ((h.put B none).new blk) w' ∧ Ext ι h w ι' ((h.put B none).new blk) w' := by
  have hfresh : ι h.nx = none := by
    cases hq : ι h.nx with
    | none => rfl
    | some e' => exact absurd (hh.lt _ _ hq) (Nat.lt_irrefl _)
  let ι' : Iota := fun B => if B = h.nx then some e' else ι B
  have h1 : ι' h.nx = some e' := if_pos rfl
  have h2 : ∀ B, B ≠ h.nx → ι' B = ι B := fun B hB => if_neg hB
  have hle : ι.le ι' := fun B e'' he => by
    rw [h2 B fun hq => by subst hq; rw [hfresh] at he; cases he]; exact he
  have hget : ∀ j b, ((h.put B none).new blk).get j = some b → (j = h.nx ∧ b = blk) ∨ (j ≠ h.nx ∧ j ≠ B ∧ h.get j = some b) := fun j b hb => by
    rw [H.get_new, H.nx_put] at hb
    split at hb
    · rename_i hq; injection hb with hb; exact .inl ⟨hq, hb.symm⟩
    · rename_i hq
      rw [H.get_put] at hb
      split at hb
      · cases hb
      · rename_i hq2; exact .inr ⟨hq, hq2, hb⟩
  refine ⟨ι', h1, ⟨?_, ?_, ?_, ?_⟩, ⟨hle, fun B hB => h2 B (Nat.ne_of_lt hB), by simp, by omega, ?_, ?_, hos, hout⟩⟩
  · intro B1 b1 e1 hb1 he1
    rcases hget _ _ hb1 with ⟨rfl, rfl⟩ | ⟨q1, q2, q3⟩
    · rw [h1] at he1; injection he1 with he1; subst he1
      exact hbr ι' hle h1
    · rw [h2 _ q1] at he1
      refine (hh.br _ _ _ q3 he1).mono hle (hother _ ?_)
      exact fun hq => hh.inj _ _ _ _ _ _ (Ne.symm q2) hB q3 he he1 hown hq.symm
  · intro B1 B2 b1 b2 e1 e2 hne hb1 hb2 he1 he2 ho
    rcases hget _ _ hb1 with ⟨rfl, rfl⟩ | ⟨q1, q2, q3⟩
    · rcases hget _ _ hb2 with ⟨r1, _⟩ | ⟨r1, r2, r3⟩
      · exact absurd r1.symm hne
      · rw [h1] at he1; injection he1 with he1; subst he1
        rw [h2 _ r1] at he2
        rw [her]
        exact hh.inj _ _ _ _ _ _ (Ne.symm r2) hB r3 he he2 hown
    · rw [h2 _ q1] at he1
      rcases hget _ _ hb2 with ⟨rfl, rfl⟩ | ⟨r1, r2, r3⟩
      · rw [h1] at he2; injection he2 with he2; subst he2
        rw [her]
        exact hh.inj _ _ _ _ _ _ q2 q3 hB he1 he ho
      · rw [h2 _ r1] at he2
        exact hh.inj _ _ _ _ _ _ hne q3 r3 he1 he2 ho
  · intro B1 e1 he1
    by_cases hq : B1 = h.nx
    · subst hq; simp
    · rw [h2 _ hq] at he1; have := hh.lt _ _ he1; simp; omega
  · intro B1 b1 hb1
    rcases hget _ _ hb1 with ⟨rfl, rfl⟩ | ⟨q1, q2, q3⟩
    · simp
    · have := hh.dom _ _ q3; simp; omega
  · intro B1 b1 e1 hb1 ho he1
    rcases hget _ _ hb1 with ⟨rfl, rfl⟩ | ⟨q1, q2, q3⟩
    · rw [h1] at he1; injection he1 with he1; subst he1
      exact .inr ⟨B, b, e, hB, hown, he, her.symm⟩
    · rw [h2 _ q1] at he1
      exact .inr ⟨_, _, _, q3, ho, he1, rfl⟩
  · intro r hr hn
    exact hother r fun hq => hn B b e hB hown he hq.symm

/-- what is appended. -/
theorem src_run (hh : HRel ι h w) {sz : Nat} {c : V} {x : Value} {n : Nat} {news : List V} (hs : srcOf h sz c = some (n, news)) (hv : VR ι c x) :
    (∀ w2, (Builtin.lenOf x).run P w2 = .ok n w2) ∧ ∃ xs : List Value, VRs ι news xs ∧ xs.length = n * sz ∧ (∀ v ∈ news, v.one = true) ∧
      ∀ m, m ≤ n → ∀ w2 : World, w2.heap = w.heap → (Builtin.firstCells sz m x).run P w2 = .ok (xs.take (m * sz)).toArray w2 := by
  unfold srcOf at hs
  split at hs
  · simp only [Option.some.injEq, Prod.mk.injEq] at hs
    obtain ⟨rfl, rfl⟩ := hs
    cases hv
    exact ⟨fun _ => rfl, [], .nil, by simp, by simp, fun m hm w2 _ => by simp [Builtin.firstCells]⟩
  · rename_i B of len cap xf
    simp only [Option.map_eq_some_iff, Prod.mk.injEq] at hs
    obtain ⟨vs, hc, rfl, rfl⟩ := hs
    have key : ∀ (L : Loc) (off cap' : Nat), ι B = some L → (off = L.o + of ∨ len = 0) → (∀ w2, (Builtin.lenOf (.slice (some ⟨L.r, off, none⟩) len cap')).run P w2 = .ok len w2) ∧ ∃ xs : List Value, VRs ι vs xs ∧ xs.length = len * sz ∧ (∀ v ∈ vs, v.one = true) ∧
        ∀ m, m ≤ len → ∀ w2 : World, w2.heap = w.heap → (Builtin.firstCells sz m (.slice (some ⟨L.r, off, none⟩) len cap')).run P w2 = .ok (xs.take (m * sz)).toArray w2 := by
      intro L off cap' hL hoff
      obtain ⟨xs, r1, r2, r3, r4⟩ := cellsAt_rel hh hc hL
      refine ⟨fun _ => rfl, xs, r1, r2, r3, fun m hm w2 hw2 => ?_⟩
      have hml : (xs.take (m * sz)).length = m * sz := by
        rw [List.length_take, r2]
        have := Nat.mul_le_mul_right sz hm
        omega
      have := run_loadCells (P := P) (w := w2) (r := L.r) (of := off) (xs.take (m * sz)) fun j y hy => by
        have hjl := (List.getElem?_eq_some_iff.1 hy).1
        rw [hml] at hjl
        have hoff' : off = L.o + of := by
          rcases hoff with g | g
          · exact g
          · have : m = 0 := by omega
            subst this; simp at hjl
        rw [List.getElem?_take, if_pos hjl] at hy
        have := r4 j y hy
        rw [hoff']
        simpa [World.cell?, hw2] using this
      rw [hml] at this
      exact this
    cases hv with
    | sx _ _ _ _ L hL hle => exact key L _ _ hL (.inl rfl)
    | si _ _ _ _ _ cap' off L hL hx0 hle hle2 hor =>
      refine key L _ _ hL ?_
      rcases hor with g | g
      · right; omega
      · exact .inl g.1
  · rename_i l
    split at hs
    · rename_i hsz
      subst hsz
      simp only [Option.some.injEq, Prod.mk.injEq] at hs
      obtain ⟨rfl, rfl⟩ := hs
      cases hv with
      | s b _ e =>
        subst e
        refine ⟨fun w2 => by simp [Builtin.lenOf], b.data.toList.map fun b => .int .u8 b.toNat, ?_, by simp, ?_, fun m hm w2 _ => ?_⟩
        · refine VRs.of_get (by simp) fun j v hv => ?_
          simp only [List.map_map, List.getElem?_map, Option.map_eq_some_iff] at hv
          obtain ⟨bt, hb, rfl⟩ := hv
          exact ⟨.int .u8 bt.toNat, by simp only [List.getElem?_map, hb, Option.map_some], .i _ _⟩
        · intro v hv
          simp only [List.mem_map] at hv
          obtain ⟨c, _, rfl⟩ := hv
          rfl
        · simp only [Builtin.firstCells, Sem.run_pure, Result.ok.injEq, and_true]
          apply Array.toList_inj.1
          simp [ByteArray.data_extract]
    · cases hs
  · cases hs

theorem nextcap_le (n c : Nat) (hc : c < n) : Builtin.nextslicecap n c ≤ 2 * n + 1024 := by
  unfold Builtin.nextslicecap
  split
  · omega
  · split
    · omega
    · have : ∀ (r c : Nat), c ≤ 2 * n + 1024 → Builtin.growBy n r c ≤ 2 * n + 1024 := by
        intro r
        induction r with
        | zero => intro c hc; exact hc
        | succ r ih =>
          intro c hc
          simp only [Builtin.growBy]
          split
          · exact hc
          · exact ih _ (by omega)
      exact this 4 c (by omega)

/-- append where there is room. -/
theorem append_fits {c : Call} {t u e : Nat} {i j ei : TI} {s x : Value} (hT : TOK P T) (ht : c.argTypes.toList = [t, u]) (hi : T.ty t = some i) (hj : T.ty u = some j) (hid : i.d = .slice e) (hju : ∀ k, j.d ≠ .int k) (he : T.ty e = some ei)
    (ty : Nat) {args : Array Value} (ha : args.toList = [s, x]) {base : Option Addr} {sLen sCap n : Nat} (hs : s = .slice base sLen sCap) (hlen : ∀ w2, (Builtin.lenOf x).run P w2 = .ok n w2) (hfit : sLen + n ≤ sCap) {news : Array Value}
    (hnew : (Builtin.firstCells ei.size n x).run P w = .ok news w) {w' : World} (hst : ∀ ad, base = some ad → (storeCells (ad.add (sLen * ei.size)) news.toList).run P w = .ok () w') (hst' : base = none → w' = w) :
    (Builtin.append_ c.argTypes ty args).run P w = .ok (.slice base (sLen + n) sCap) w' := by
  have ht0 : c.argTypes[0]? = some t := by rw [← Array.getElem?_toList, ht]; rfl
  have ht1 : c.argTypes[1]? = some u := by rw [← Array.getElem?_toList, ht]; rfl
  have ha0 : args[0]? = some s := by rw [← Array.getElem?_toList, ha]; rfl
  have ha1 : args[1]? = some x := by rw [← Array.getElem?_toList, ha]; rfl
  have e1 := run_und hT hi w
  rw [hid] at e1
  have e2 := run_und hT hj w
  have hz : (match j.d with | .int _ => true | _ => false) = false := by
    cases hq : j.d <;> first | rfl | exact absurd hq (hju _)
  unfold Builtin.append_
  simp only [ht0, ht1, ha0, ha1, Sem.run_bind, e1, Result.andThen_ok, hs, run_size hT he, e2, Sem.run_pure, Bool.false_eq_true, if_false, hlen, Bool.not_false, if_true, if_pos hfit, hnew]
  cases base with
  | none =>
    obtain rfl := hst' rfl
    simp only [Sem.run_pure]
  | some ad =>
    simp only [Sem.run_bind, hst ad rfl, Result.andThen_ok, Sem.run_pure]

/-- append where there is none. -/
theorem append_grows {c : Call} {t u e : Nat} {i j ei : TI} {s x : Value} (hT : TOK P T) (ht : c.argTypes.toList = [t, u]) (hi : T.ty t = some i) (hj : T.ty u = some j) (hid : i.d = .slice e) (hju : ∀ k, j.d ≠ .int k) (he : T.ty e = some ei)
    (ty : Nat) {args : Array Value} (ha : args.toList = [s, x]) {base : Option Addr} {sLen sCap n : Nat} (hs : s = .slice base sLen sCap) (hlen : ∀ w2, (Builtin.lenOf x).run P w2 = .ok n w2) (hfit : ¬ sLen + n ≤ sCap) (hzl : ei.zero.length = ei.size) {old news : Array Value}
    (hbig : sLen + n ≤ 1073741824) (hby : ei.bytes ≤ 65536)
    (hold : ∀ w2 : World, w2.heap = w.heap → (Builtin.firstCells ei.size sLen s).run P w2 = .ok old w2)
    (hnew : ∀ w2 : World, w2.heap = w.heap → (Builtin.firstCells ei.size n x).run P w2 = .ok news w2) :
    ∃ (newCap : Nat) (rest : Array Value), sLen + n ≤ newCap ∧ rest.size = (newCap - (sLen + n)) * ei.size ∧
      (Builtin.append_ c.argTypes ty args).run P w = .ok (.slice (some ⟨w.heap.size, 0, none⟩) (sLen + n) newCap) { w with drawn := w.drawn + 1, heap := w.heap.push (.cells (old ++ news ++ rest) e) } := by
  have ht0 : c.argTypes[0]? = some t := by rw [← Array.getElem?_toList, ht]; rfl
  have ht1 : c.argTypes[1]? = some u := by rw [← Array.getElem?_toList, ht]; rfl
  have ha0 : args[0]? = some s := by rw [← Array.getElem?_toList, ha]; rfl
  have ha1 : args[1]? = some x := by rw [← Array.getElem?_toList, ha]; rfl
  have e1 := run_und hT hi w
  rw [hid] at e1
  have e2 := run_und hT hj w
  have hz : (match j.d with | .int _ => true | _ => false) = false := by
    cases hq : j.d <;> first | rfl | exact absurd hq (hju _)
  obtain ⟨q, g1, g2, g3, g4, _⟩ := hT.ty e ei he
  have e5 : ∀ w2, (typeInfo e).run P w2 = .ok q w2 := fun w2 => by simp [typeInfo, g1]
  obtain ⟨z, hzv, hzr, _⟩ := zero_rel hT he (fun _ => none)
  have hzs : z.cells.size = ei.size := by have := hzr.length; simp at this; omega
  let Q : Question := .appendCap (sLen + n) sCap e
  let newCap := Q.cut (w.tape w.drawn Q)
  have hcap : sLen + n ≤ newCap := Nat.le_add_right _ _
  refine ⟨newCap, Builtin.zeroCells z.cells (newCap - (sLen + n)), hcap, by simp [Builtin.zeroCells, hzs], ?_⟩
  have hcut : ¬ Builtin.nextslicecap (sLen + n) sCap * q.bytes > 2 ^ 48 := by
    have h1 := nextcap_le (sLen + n) sCap (by omega)
    rw [g4]
    have : Builtin.nextslicecap (sLen + n) sCap * ei.bytes ≤ (2 * (sLen + n) + 1024) * 65536 := Nat.mul_le_mul h1 hby
    omega
  have hmax : ¬ (((sLen + n : Nat) : Int) > IntKind.i64.max ∧ ((False : Prop) ∨ q.bytes = 0)) := by
    have : IntKind.i64.max = 9223372036854775807 := by decide
    rw [this]; omega
  unfold Builtin.append_
  have hch : (choose (.appendCap (sLen + n) sCap e)).run P w = .ok newCap { w with drawn := w.drawn + 1 } := rfl
  subst hs
  simp only [ht0, ht1, ha0, ha1, Sem.run_bind, e1, Result.andThen_ok, run_size hT he, e2, Sem.run_pure, Bool.false_eq_true, if_false, hlen, Bool.not_false, if_true, if_neg hfit, e5, hmax, hcut, hch, run_askRoom,
    hold { w with drawn := w.drawn + 1 } rfl, hnew { w with drawn := w.drawn + 1 } rfl, hzv, run_newRow]

/-- the new block of an append that grows. -/
theorem BR_grown {cs : List V} {fz q : Nat} {c : Array Value} {el : Nat} {w w' : World} {ι' : Iota} (hr : ∀ (j : Nat) (v : V), cs[j]? = some v → ∃ x, c[j]? = some x ∧ VR ι' v x) (h1 : ∀ v ∈ cs, v.one = true) (hl : cs.length ≤ c.size)
    (hw : w'.heap = w.heap.push (.cells c el)) (hq : q / 4 = 0 ∨ q / 4 = el + 1) : BR ι' ⟨w.heap.size, 0, c.size⟩ w' (.c cs fz q) := by
  refine ⟨c, el, (0, 0), by simp [hw], fun j v hv => ?_, h1, by simpa using hl, Nat.le_refl _, hq.imp id (fun h => ⟨h, rfl⟩), .cold rfl⟩
  simpa using hr j v hv

theorem acts_val {s : Sem Value} {v : V} {h' : H} (he : execOp a.eval o = (do pure (.value (← s)))) (hr : ∃ x w' ι', s.run P w = .ok x w' ∧ VR ι' v x ∧ HRel ι' h' w' ∧ Ext ι h w ι' h' w') : Acts P a o w ι h v h' := by
  obtain ⟨x, w', ι', e1, e2, e3, e4⟩ := hr
  exact ⟨x, .value x, w', ι', by rw [he]; simp [e1], .inl rfl, e2, e3, e4⟩

theorem sim_app {c : Call} (ho : o.op = .call c) (hc : c.callee = .builtin .append) {y z : X} {t u e : Nat} {i j ei : TI} (hy : X.ofL c.args.toList = some [y, z]) (hT : TOK P T) (ht : c.argTypes.toList = [t, u]) (hi : T.ty t = some i)
    (hj : T.ty u = some j) (hid : i.d = .slice e) (hju : ∀ k, j.d ≠ .int k) (he : T.ty e = some ei) (hzl : ei.zero.length = ei.size) (hO : OR ι tm a o) (hh : HRel ι h w) {v : V} {h' : H}
    (hs : semE (.app (4 * (e + 1)) ei.size ei.bytes (evX tm y) (evX tm z)) h = some (v, h')) : Acts P a o w ι h v h' := by
  have hrel := args_rel ho hy hO
  refine acts_val (s := Builtin.append_ c.argTypes o.type (c.args.map a.eval)) (by rw [exec_builtin ho hc]; rfl) ?_
  simp only [List.map_cons, List.map_nil] at hrel
  generalize c.args.map a.eval = args at *
  cases hal : args.toList with
  | nil => rw [hal] at hrel; cases hrel
  | cons s r =>
    rw [hal] at hrel
    cases hrel with
    | cons _ _ _ _ g1 g2 =>
      cases g2 with
      | cons _ x _ r2 g2 g3 =>
        cases g3
        simp only [semE] at hs
        split at hs
        · cases hs
        · rename_i n news hsrc
          obtain ⟨hlen, xs, hx1, hx2, hx3, hx4⟩ := src_run (P := P) hh hsrc g2
          split at hs
          · cases hs
          · rename_i hbs
            simp only [not_or, Nat.not_lt] at hbs
            obtain ⟨hsz0, hby0, hby, _⟩ := hbs
            have hxt : xs.take (n * ei.size) = xs := by rw [← hx2]; exact List.take_length
            have hnew : ∀ w2 : World, w2.heap = w.heap → (Builtin.firstCells ei.size n x).run P w2 = .ok xs.toArray w2 := fun w2 hw2 => by have := hx4 n (Nat.le_refl _) w2 hw2; rwa [hxt] at this
            -- growth into a fresh block, whatever the old slice
            have grow : ∀ (base : Option Addr) (sLen sCap : Nat) (old : List V) (olds : List Value) (h2 : H) (fz q : Nat), (q / 4 = 0 ∨ q / 4 = e + 1) → s = .slice base sLen sCap → ¬ sLen + n ≤ sCap → sLen + n ≤ 1073741824 → 0 < sLen + n → HRel ι h2 w → Ext ι h w ι h2 w → VRs ι old olds → olds.length = sLen * ei.size → (∀ v ∈ old, v.one = true) →
                (∀ w2 : World, w2.heap = w.heap → (Builtin.firstCells ei.size sLen s).run P w2 = .ok olds.toArray w2) →
                ∃ y w' ι', (Builtin.append_ c.argTypes o.type args).run P w = .ok y w' ∧ VR ι' (.sl h2.nx 0 (sLen + n) (sLen + n) ei.size) y ∧ HRel ι' (h2.new (.c (old ++ news) fz q)) w' ∧ Ext ι h w ι' (h2.new (.c (old ++ news) fz q)) w' := by
              intro base sLen sCap old olds h2 fz q hqq hseq hfit hbig hpos hh2 hext ho1 ho2 ho3 hold
              obtain ⟨newCap, rest, q1, q2, q3⟩ := append_grows hT ht hi hj hid hju he o.type hal hseq hlen hfit hzl hbig hby hold hnew
              have hcsz : (olds.toArray ++ xs.toArray ++ rest).size = newCap * ei.size := by
                simp only [Array.size_append, List.size_toArray, ho2, hx2, q2]
                rw [← Nat.add_mul, ← Nat.add_mul]
                congr 1; omega
              have hcell : ∀ (ι' : Iota), ι.le ι' → ∀ (j : Nat) (v : V), (old ++ news)[j]? = some v → ∃ x, (olds.toArray ++ xs.toArray ++ rest)[j]? = some x ∧ VR ι' v x := by
                intro ι' hle j v hv
                obtain ⟨x, hx, hvx⟩ := (ho1.append hx1).get j v hv
                refine ⟨x, ?_, hvx.mono hle⟩
                have hlt := (List.getElem?_eq_some_iff.1 hx).1
                rw [Array.getElem?_append_left (by simpa using hlt)]
                rw [← Array.getElem?_toList]
                simpa using hx
              have hone : ∀ v ∈ old ++ news, v.one = true := fun v hv => by
                rcases List.mem_append.1 hv with hv | hv
                · exact ho3 v hv
                · exact hx3 v hv
              have hll : (old ++ news).length ≤ (olds.toArray ++ xs.toArray ++ rest).size := by
                have := (ho1.append hx1).length
                rw [this]; simp
              obtain ⟨ι', r1, r2, r3, r4⟩ := rel_new hh2 (blk := .c (old ++ news) fz q) (w' := { w with drawn := w.drawn + 1, heap := w.heap.push (.cells (olds.toArray ++ xs.toArray ++ rest) e) }) (e := ⟨w.heap.size, 0, (olds.toArray ++ xs.toArray ++ rest).size⟩) rfl (push_old _ _) rfl rfl
                (fun ι' hle hid => BR_grown (hcell ι' hle) hone hll rfl hqq)
              refine ⟨_, _, ι', q3, ?_, r3, hext.trans r4⟩
              exact .si _ 0 _ _ _ newCap 0 _ r1 (by omega) (Nat.le_refl _) q1 (.inr ⟨rfl, by simp only [hcsz]; omega⟩)
            split at hs
            · -- nil
              rename_i hsn
              rw [hsn] at g1
              cases g1
              split at hs
              · rename_i hn0
                subst hn0
                simp only [Option.some.injEq, Prod.mk.injEq] at hs
                obtain ⟨rfl, rfl⟩ := hs
                have := append_fits (w := w) (w' := w) hT ht hi hj hid hju he o.type hal rfl hlen (by omega) (hnew w rfl) (fun ad h => by cases h) (fun _ => rfl)
                exact ⟨_, w, ι, this, .sn, hh, Ext.refl _ _ _⟩
              · rename_i hn0
                split at hs
                · cases hs
                · rename_i hbig
                  simp only [Option.some.injEq, Prod.mk.injEq] at hs
                  obtain ⟨rfl, rfl⟩ := hs
                  have := grow none 0 0 [] [] h 0 (4 * (e + 1)) (.inr (by omega)) rfl (by omega) (by omega) (by omega) hh (Ext.refl _ _ _) .nil (by simp) (by simp) (fun w2 _ => rfl)
                  simpa using this
            · -- a slice
              rename_i B of len cap xf hsl
              rw [hsl] at g1
              split at hs
              · -- room
                rename_i hfit
                simp only [Option.map_eq_some_iff, Prod.mk.injEq] at hs
                obtain ⟨h'', hst, rfl, rfl⟩ := hs
                cases g1 with
                | sx _ _ _ _ L hL hle =>
                  obtain ⟨w', e1, e2, e3⟩ := st_run (P := P) hh hst hL hx1
                  refine ⟨_, w', ι, append_fits hT ht hi hj hid hju he o.type hal rfl hlen hfit (hnew w rfl) (fun ad h => ?_) (fun h => by cases h), .sx _ _ _ _ L hL (by omega), e2, e3⟩
                  injection h with h; subst h
                  rw [add_none, Nat.add_assoc]
                  simpa using e1
                | si _ _ _ _ _ cap' off L hL hx0 hle hle2 hor =>
                  obtain ⟨w', e1, e2, e3⟩ := st_run (P := P) hh hst hL hx1
                  refine ⟨_, w', ι, append_fits hT ht hi hj hid hju he o.type hal rfl hlen (by omega) (hnew w rfl) (fun ad h => ?_) (fun h => by cases h), .si _ _ _ _ _ cap' off L hL hx0 (by omega) hle2 hor, e2, e3⟩
                  injection h with h; subst h
                  rw [add_none]
                  rcases hor with g | g
                  · have hn0 : n = 0 := by omega
                    have hl0 : len = 0 := by omega
                    have : xs = [] := List.eq_nil_of_length_eq_zero (by rw [hx2, hn0]; simp)
                    subst this
                    cases hx1
                    unfold stAt at hst
                    cases hst
                    have : w' = w := by simp only [storeCells, Sem.run_pure, Result.ok.injEq, true_and] at e1; exact e1.symm
                    subst this
                    rfl
                  · rw [g.1, Nat.add_assoc]
                    simpa using e1
              · rename_i hfit
                split at hs
                · cases hs
                · rename_i hbig
                  split at hs
                  · cases hs
                  · rename_i old hco
                    split at hs
                    · -- an exact capacity
                      rename_i hxf
                      subst hxf
                      simp only [Option.some.injEq, Prod.mk.injEq] at hs
                      obtain ⟨rfl, rfl⟩ := hs
                      cases g1 with
                      | sx _ _ _ _ L hL hle =>
                        obtain ⟨olds, r1, r2, r3, r4⟩ := cellsAt_rel hh hco hL
                        refine grow _ len cap old olds h 0 (4 * (e + 1)) (.inr (by omega)) rfl hfit (by omega) (by omega) hh (Ext.refl _ _ _) r1 r2 r3 fun w2 hw2 => ?_
                        have := run_loadCells (P := P) (w := w2) olds fun j x hx => by have := r4 j x hx; simpa [World.cell?, hw2] using this
                        rw [r2] at this
                        exact this
                      | si => omega
                    · rename_i hxf
                      split at hs
                      · rename_i hxs
                        split at hs
                        · rename_i cs fz q hB
                          split at hs
                          · cases hs
                          · rename_i hcond
                            simp only [not_or, Nat.not_le, Nat.not_lt] at hcond
                            obtain ⟨hq2, hfz⟩ := hcond
                            simp only [Option.some.injEq, Prod.mk.injEq] at hs
                            obtain ⟨rfl, rfl⟩ := hs
                            cases g1 with
                            | sx => omega
                            | si _ _ _ _ _ cap' off L hL hx0 hle hle2 hor =>
                              obtain ⟨olds, r1, r2, r3, r4⟩ := cellsAt_rel hh hco hL
                              have hn0 : 0 < len + n := by omega
                              by_cases hin : len + n ≤ cap'
                              · -- in place
                                rcases hor with g | ⟨g1, g2⟩
                                · omega
                                · subst g1
                                  obtain ⟨cc, el, f, b1, b2, b3, b4, b5, b6⟩ := hh.br B _ L hB hL
                                  rw [hxs] at g2
                                  have hmul : len * ei.size + n * ei.size ≤ cap' * ei.size := by rw [← Nat.add_mul]; exact Nat.mul_le_mul_right _ hin
                                  have hxo : ∀ x ∈ xs, x.oneCell = true := by
                                    intro x hx
                                    obtain ⟨j, hj⟩ := List.getElem?_of_mem hx
                                    have hjl : j < news.length := by rw [hx1.length]; exact (List.getElem?_eq_some_iff.1 hj).1
                                    obtain ⟨y, hy, hvy⟩ := hx1.get j _ (List.getElem?_eq_getElem hjl)
                                    rw [hj] at hy; injection hy with hy; subst hy
                                    exact hvy.one (hx3 _ (List.getElem_mem hjl))
                                  obtain ⟨c', s1, s2, s3⟩ := run_storeCells (P := P) (r := L.r) (of := L.o + of + len * ei.size) xs 0 w cc el f b1 (by rw [hx2]; omega) hxo (fun j hj1 hj2 hfr => by
                                    rw [hx2] at hj2
                                    rcases b6.2.cases hq2 with k | ⟨_, k⟩ | ⟨_, k⟩ <;> omega)
                                  have hlt := (Array.getElem?_eq_some_iff.1 b1).1
                                  obtain ⟨ι', t1, t2, t3⟩ := rel_regrow hh (blk := .c (old ++ news) (fz - of) (regrowQ (4 * (e + 1)) q of)) (e' := ⟨L.r, L.o + of, L.ext⟩) (w' := { w with heap := w.heap.setIfInBounds L.r (.cells c' el f) }) hB (by simp [Blk.own, hq2]) hL rfl
                                    (fun r hr => by simp only; rw [Array.getElem?_setIfInBounds_ne (Ne.symm hr)]) (by simp) rfl rfl (fun ι' hle' hid' => by
                                      refine ⟨c', el, f, by simp [hlt], fun j v hv => ?_, fun v hv => ?_, ?_, by rw [s2]; exact b5, ?_⟩
                                      · have hol : old.length = len * ei.size := by rw [r1.length]; exact r2
                                        simp only
                                        rw [s3]
                                        by_cases hj : j < old.length
                                        · rw [List.getElem?_append_left hj] at hv
                                          obtain ⟨x, hx, hvx⟩ := r1.get j v hv
                                          have hc2 := r4 j x hx
                                          simp only [World.cell?, b1] at hc2
                                          refine ⟨x, ?_, hvx.mono hle'⟩
                                          rw [if_neg (by omega)]
                                          simpa using hc2
                                        · rw [List.getElem?_append_right (by omega)] at hv
                                          obtain ⟨x, hx, hvx⟩ := hx1.get _ v hv
                                          refine ⟨x, ?_, hvx.mono hle'⟩
                                          have hxl := (List.getElem?_eq_some_iff.1 hx).1
                                          rw [if_pos (by omega), show L.o + of + j - (L.o + of + len * ei.size + 0) = j - old.length from by omega]
                                          exact hx
                                      · rcases List.mem_append.1 hv with hv | hv
                                        · exact r3 v hv
                                        · exact hx3 v hv
                                      · have := (r1.append hx1).length
                                        simp only [this, List.length_append, r2, hx2]; omega
                                      · have hrq : regrowQ (4 * (e + 1)) q of % 4 = q % 4 := by unfold regrowQ; split <;> omega
                                        refine ⟨?_, ?_⟩
                                        · unfold regrowQ
                                          split
                                          · rename_i hcc
                                            rcases b6.1 with k | ⟨k1, k2⟩
                                            · exact .inl k
                                            · exact .inr ⟨k1, by simp only; omega⟩
                                          · exact .inl (by omega)
                                        · rw [hrq]
                                          rcases b6.2.cases hq2 with k | ⟨k0, k⟩ | ⟨k0, k⟩
                                          · exact .cold k
                                          · rw [k0]; exact .inr (by simp only; omega)
                                          · rw [k0]; exact .inr (by rw [s2]; exact k))
                                  refine ⟨_, _, ι', append_fits hT ht hi hj hid hju he o.type hal rfl hlen hin (hnew w rfl) (fun ad h => ?_) (fun h => by cases h), ?_, t2, t3⟩
                                  · injection h with h; subst h
                                    rw [add_none]
                                    simpa using s1
                                  · rw [hxs] at hx0
                                    have := VR.si (ι := ι') h.nx 0 (len + n) (len + n) ei.size cap' (L.o + of) ⟨L.r, L.o + of, L.ext⟩ t1 hx0 (Nat.le_refl _) hin (.inr ⟨rfl, g2⟩)
                                    exact this
                              · -- a new row
                                obtain ⟨k1, k2⟩ := rel_kill hh B
                                have := grow (some ⟨L.r, off, none⟩) len cap' old olds (h.put B none) (fz - of) (regrowQ (4 * (e + 1)) q of) (by unfold regrowQ; split <;> omega) rfl hin (by omega) hn0 k1 k2 r1 r2 r3 fun w2 hw2 => by
                                  have hl := run_loadCells (P := P) (w := w2) (r := L.r) (of := off) olds fun j x hx => by
                                    have hjl := (List.getElem?_eq_some_iff.1 hx).1
                                    have : off = L.o + of := by
                                      rcases hor with g | g
                                      · have : len = 0 := by omega
                                        rw [r2, this] at hjl; simp at hjl
                                      · exact g.1
                                    have hc2 := r4 j x hx
                                    rw [this]
                                    simpa [World.cell?, hw2] using hc2
                                  rw [r2] at hl
                                  exact hl
                                rw [H.nx_put] at this
                                exact this
                        · cases hs
                      · cases hs
            · cases hs


theorem bytesL_spec : ∀ {cs : List V} {l : List Nat}, bytesL cs = some l → ∀ {xs : List Value}, VRs ι cs xs → ∃ bs : List UInt8, l = bs.map UInt8.toNat ∧ xs = bs.map fun b => .int .u8 (b.toNat : Int)
  | [], l, h, xs, hr => by
    simp [bytesL] at h; subst h
    cases hr
    exact ⟨[], rfl, rfl⟩
  | v :: cs, l, h, xs, hr => by
    unfold bytesL at h
    split at h
    · rename_i heq; cases heq
    · rename_i n r heq
      injection heq with e1 e2; subst e1; subst e2
      split at h
      · rename_i hn
        simp only [Option.map_eq_some_iff] at h
        obtain ⟨l', h1, rfl⟩ := h
        cases hr with
        | cons _ x _ xs' g1 g2 =>
          obtain rfl := g1.int_inv
          obtain ⟨bs, r1, r2⟩ := bytesL_spec h1 g2
          refine ⟨n.toNat.toUInt8 :: bs, ?_, ?_⟩
          · simp only [List.map_cons, r1]
            congr 1
            simp; omega
          · simp only [List.map_cons, r2]
            congr 2
            simp; omega
      · cases h
    · cases h

theorem sim_ustr {c : Call} (ho : o.op = .call c) (hc : c.callee = .builtin .unsafeString) {y z : X} {t u e : Nat} {i ei : TI} (hy : X.ofL c.args.toList = some [y, z]) (hT : TOK P T) (ht : c.argTypes.toList = [t, u]) (hi : T.ty t = some i)
    (hid : i.d = .pointer e) (he : T.ty e = some ei) (hsz : ei.size = 1) (hO : OR ι tm a o) (hh : HRel ι h w) {v : V} {h' : H}
    (hs : semE (.ustr (4 * (e + 1)) (evX tm y) (evX tm z)) h = some (v, h')) : Acts P a o w ι h v h' := by
  have hrel := args_rel ho hy hO
  refine acts_val (s := Builtin.unsafeString_ c.argTypes o.type (c.args.map a.eval)) (by rw [exec_builtin ho hc]; rfl) ?_
  simp only [List.map_cons, List.map_nil] at hrel
  generalize c.args.map a.eval = args at *
  have hts : c.argTypes = #[t, u] := by rw [← Array.toArray_toList (xs := c.argTypes), ht]
  rw [hts]
  have u1 := und hT hi
  rw [hid] at u1
  obtain ⟨ji, k1, _, k3, _⟩ := hT.ty e ei he
  have hcell : P.cellsOf e = 1 := by simp [Program.cellsOf, k1, k3, hsz]
  cases hal : args.toList with
  | nil => rw [hal] at hrel; cases hrel
  | cons x r =>
    rw [hal] at hrel
    cases hrel with
    | cons _ _ _ _ g1 g2 =>
      cases g2 with
      | cons _ x2 _ r2 g2 g3 =>
        cases g3
        have hargs : args = #[x, x2] := by rw [← Array.toArray_toList (xs := args), hal]
        rw [hargs]
        have empty : ∀ p : Option Addr, x = .pointer p → x2 = .int .i64 0 → v = .s [] → h' = h → ∃ y w' ι', (Builtin.unsafeString_ #[t, u] o.type #[x, x2]).run P w = .ok y w' ∧ VR ι' v y ∧ HRel ι' h' w' ∧ Ext ι h w ι' h' w' := by
          rintro p rfl rfl rfl rfl
          exact ⟨_, w, ι, Lib.run_unsafeString_none w t u o.type p, .s _ _ rfl, hh, Ext.refl _ _ _⟩
        simp only [semE] at hs
        split at hs
        · rename_i n q1 q2
          rw [q1] at g1; rw [q2] at g2
          split at hs
          · rename_i hn
            subst hn
            simp only [Option.some.injEq, Prod.mk.injEq] at hs
            cases g1
            exact empty none rfl g2.int_inv hs.1.symm hs.2.symm
          · cases hs
        · rename_i B of n q1 q2
          rw [q1] at g1; rw [q2] at g2
          cases g1 with
          | p _ _ L hL =>
            split at hs
            · rename_i hn
              subst hn
              simp only [Option.some.injEq, Prod.mk.injEq] at hs
              exact empty _ rfl g2.int_inv hs.1.symm hs.2.symm
            · rename_i hn0
              split at hs
              · cases hs
              · rename_i hno
                simp only [not_or, Int.not_lt, ne_eq, Decidable.not_not] at hno
                obtain ⟨hnn, rfl⟩ := hno
                split at hs
                · rename_i cs fz q' hB
                  split at hs
                  · rename_i hcond
                    obtain ⟨hq1, hq2, hq3, hq4, hq5⟩ := hcond
                    split at hs
                    · rename_i l hl
                      simp only [Option.some.injEq, Prod.mk.injEq] at hs
                      obtain ⟨rfl, rfl⟩ := hs
                      obtain ⟨cc, el, ⟨lo, hi⟩, b1, b2, b3, b4, b5, b6⟩ := hh.br B _ L hB hL
                      have hqd : q' / 4 = e + 1 := by omega
                      have hel : el = e ∧ L.o = 0 := by
                        rcases b6.1 with g | ⟨g1, g2⟩
                        · rw [g] at hqd; cases hqd
                        · rw [g1] at hqd; injection hqd with hqd; exact ⟨hqd, g2⟩
                      obtain ⟨rfl, hLo⟩ := hel
                      have hca : cellsAt h B 0 n.toNat = some (cs.take n.toNat) := by
                        unfold cellsAt
                        rw [hB]
                        simp only [Nat.zero_add, List.drop_zero]
                        rw [if_pos (by omega)]
                      obtain ⟨xs, r1, r2, _, r4⟩ := cellsAt_rel hh hca hL
                      obtain ⟨bs, s1, s2⟩ := bytesL_spec hl r1
                      have hbl : bs.length = n.toNat := by rw [← r2, s2]; simp
                      have hsh : w.shape? L.r = some (el, cc.size) := by simp [World.shape?, b1]
                      have hn' : x2 = .int .i64 (bs.length : Int) := by
                        rw [g2.int_inv, hbl, Int.toNat_of_nonneg hnn]
                      have hrun := Lib.run_unsafeString_row (P := P) w t u o.type el u1 hcell L.r cc.size hsh bs (by intro h0; rw [h0] at hbl; simp at hbl; omega) (by omega) (by omega)
                        (fun j y hy => by
                          have := r4 j (.int .u8 (y.toNat : Int)) (by rw [s2]; simp [hy])
                          rw [hLo] at this
                          by_cases hj : j = 0
                          · subst hj; simpa [Addr.add] using this
                          · simpa [Addr.add, hj] using this)
                      have hfr : w.freeze ⟨L.r, 0, none⟩ bs.length = { w with heap := w.heap.modify L.r fun
                          | .cells c elem (lo, hi) => .cells c elem (if lo == hi then (0, 0 + bs.length) else (min lo 0, max hi (0 + bs.length)))
                          | o => o } := by
                        unfold World.freeze
                        rw [if_neg (by omega)]
                        rfl
                      have hlt := (Array.getElem?_eq_some_iff.1 b1).1
                      refine ⟨.string ⟨bs.toArray⟩, w.freeze ⟨L.r, 0, none⟩ bs.length, ι, ?_, .s _ _ (by simp [s1]), ?_⟩
                      · rw [hn', hLo]; exact hrun
                      · refine rel_put hh hB (by simp [Blk.own]; omega) ?_ ?_ (by rw [hfr]; simp) (by rw [hfr]) (by rw [hfr])
                        · intro e' he'
                          rw [hL] at he'; injection he' with he'; subst he'
                          refine ⟨cc, el, (if lo == hi then (0, 0 + bs.length) else (min lo 0, max hi (0 + bs.length))), by rw [hfr]; simp only [Array.getElem?_modify, if_true, b1, Option.map_some], b2, b3, b4, b5, b6.1, ?_⟩
                          rw [hq3]
                          rcases b6.2.cases (by omega) with k | ⟨_, k⟩ | ⟨k0, _⟩
                          · refine .inr ?_
                            split
                            · simp only; omega
                            · simp only; rename_i hne; simp at hne; omega
                          · refine .inr ?_
                            split
                            · simp only; omega
                            · simp only; omega
                          · omega
                        · intro r' hr'
                          have : r' ≠ L.r := hr' L hL
                          rw [hfr]
                          simp only [Array.getElem?_modify]
                          rw [if_neg (Ne.symm this)]
                    · cases hs
                  · cases hs
                · cases hs
        · cases hs

end Go.Ev

namespace Go.Ev
variable {P : Program} {T : TT} {ι : Iota} {tm : Nat → V} {a : Act} {o : Oper} {h : H} {w : World}

theorem VRs.take {vs : List V} {xs : List Value} (hr : VRs ι vs xs) (n : Nat) : VRs ι (vs.take n) (xs.take n) := by
  have hl := hr.length
  refine VRs.of_get (by simp [hl]) fun j v hv => ?_
  rw [List.getElem?_take] at hv ⊢
  split at hv
  · rename_i hj; rw [if_pos hj]; exact hr.get j v hv
  · cases hv

theorem sim_cpy {c : Call} (ho : o.op = .call c) (hc : c.callee = .builtin .copy) {y z : X} {t e : Nat} {ts : List TypeId} {i ei : TI} (hy : X.ofL c.args.toList = some [y, z]) (hT : TOK P T) (ht : c.argTypes.toList = t :: ts) (hi : T.ty t = some i)
    (hid : i.d = .slice e) (he : T.ty e = some ei) (hO : OR ι tm a o) (hh : HRel ι h w) {v : V} {h' : H}
    (hs : semE (.cpy ei.size (evX tm y) (evX tm z)) h = some (v, h')) : Acts P a o w ι h v h' := by
  have hrel := args_rel ho hy hO
  have ht0 : c.argTypes[0]? = some t := by rw [← Array.getElem?_toList, ht]; rfl
  refine acts_val (s := Builtin.copy_ c.argTypes o.type (c.args.map a.eval)) (by rw [exec_builtin ho hc]; rfl) ?_
  simp only [List.map_cons, List.map_nil] at hrel
  generalize c.args.map a.eval = args at *
  cases hal : args.toList with
  | nil => rw [hal] at hrel; cases hrel
  | cons s r =>
    rw [hal] at hrel
    cases hrel with
    | cons _ _ _ _ g1 g2 =>
      cases g2 with
      | cons _ x _ r2 g2 g3 =>
        cases g3
        have ha0 : args[0]? = some s := by rw [← Array.getElem?_toList, hal]; rfl
        have ha1 : args[1]? = some x := by rw [← Array.getElem?_toList, hal]; rfl
        have e1 := run_und hT hi w
        rw [hid] at e1
        simp only [semE] at hs
        split at hs
        · cases hs
        · rename_i n cs hsrc
          obtain ⟨hlen, xs, hx1, hx2, hx3, hx4⟩ := src_run (P := P) hh hsrc g2
          have core : ∀ (base : Option Addr) (len cap : Nat) (w' : World), s = .slice base len cap → (∀ ad, base = some ad → (storeCells ad (xs.take (min n len * ei.size))).run P w = .ok () w') → (base = none → w' = w) →
              (Builtin.copy_ c.argTypes o.type args).run P w = .ok (.int .i64 (min n len : Nat)) w' := by
            intro base len cap w' hs h1 h2
            subst hs
            unfold Builtin.copy_
            have e3 := hx4 (min n len) (Nat.min_le_left _ _) w rfl
            simp only [ht0, ha0, ha1, Sem.run_bind, e1, Result.andThen_ok, hlen, run_size hT he]
            rw [show Nat.min n len = min n len from rfl, e3]
            simp only [Result.andThen_ok]
            cases base with
            | none => obtain rfl := h2 rfl; simp only [Sem.run_pure]; rfl
            | some ad => simp only [Sem.run_bind, h1 ad rfl, Result.andThen_ok, Sem.run_pure]; rfl
          split at hs
          · rename_i hsn
            rw [hsn] at g1
            cases g1
            simp only [Option.some.injEq, Prod.mk.injEq] at hs
            obtain ⟨rfl, rfl⟩ := hs
            have := core none 0 0 w rfl (fun ad h => by cases h) (fun _ => rfl)
            simp only [Nat.min_zero] at this
            exact ⟨_, w, ι, this, .i _ _, hh, Ext.refl _ _ _⟩
          · rename_i B of len cap xf hsl
            rw [hsl] at g1
            simp only [Option.map_eq_some_iff, Prod.mk.injEq] at hs
            obtain ⟨h'', hst, rfl, rfl⟩ := hs
            have hrt := hx1.take (min n len * ei.size)
            cases g1 with
            | sx _ _ _ _ L hL hle =>
              obtain ⟨w', k1, k2, k3⟩ := st_run (P := P) hh hst hL hrt
              exact ⟨_, w', ι, core _ len cap w' rfl (fun ad h => by injection h with h; subst h; exact k1) (fun h => by cases h), .i _ _, k2, k3⟩
            | si _ _ _ _ _ cap' off L hL hx0 hle hle2 hor =>
              obtain ⟨w', k1, k2, k3⟩ := st_run (P := P) hh hst hL hrt
              refine ⟨_, w', ι, core _ len cap' w' rfl (fun ad h => ?_) (fun h => by cases h), .i _ _, k2, k3⟩
              injection h with h; subst h
              rcases hor with g | g
              · have hl0 : len = 0 := by omega
                subst hl0
                simp only [Nat.min_zero, Nat.zero_mul, List.take_zero, storeCells, Sem.run_pure] at k1 ⊢
                exact k1
              · rw [g.1]; exact k1
          · cases hs

/-- A map's block is written. -/
theorem map_put (hh : HRel ι h w) {B : Nat} {es es' : List (V × V × Nat)} {clk clk' : Nat} (hB : h.get B = some (.mp es clk)) {e : Loc} (he : ι B = some e) {en' : Array MapEntry}
    (h1 : VRs ι (es'.map (·.1)) (en'.toList.map (·.key))) (h2 : VRs ι (es'.map (·.2.1)) (en'.toList.map (·.val))) (h3 : es'.map (·.2.2) = en'.toList.map (·.born)) :
    ∃ w', (setObj e.r (.map en' clk')).run P w = .ok () w' ∧ HRel ι (h.put B (some (.mp es' clk'))) w' ∧ Ext ι h w ι (h.put B (some (.mp es' clk'))) w' := by
  obtain ⟨en, m1, _⟩ := map_of hh hB he
  have hlt := (Array.getElem?_eq_some_iff.1 m1).1
  refine ⟨{ w with heap := w.heap.setIfInBounds e.r (.map en' clk') }, by simp only [setObj, Sem.run, m1], rel_put hh hB rfl ?_ ?_ (by simp) rfl rfl⟩
  · intro e' he'
    rw [he] at he'; injection he' with he'; subst he'
    exact ⟨en', by simp [hlt], h1, h2, h3⟩
  · intro r hr
    have := hr e he
    simp only
    rw [Array.getElem?_setIfInBounds_ne (Ne.symm this)]

theorem sim_clrm {c : Call} (ho : o.op = .call c) (hc : c.callee = .builtin .clear) {y : X} {t k e : Nat} {ts : List TypeId} {i : TI} (hy : X.ofL c.args.toList = some [y]) (hT : TOK P T) (ht : c.argTypes.toList = t :: ts) (hi : T.ty t = some i)
    (hid : i.d = .map k e) (hO : OR ι tm a o) (hh : HRel ι h w) {v : V} {h' : H} (hs : semE (.clrm (evX tm y)) h = some (v, h')) : Acts P a o w ι h v h' := by
  have hrel := args_rel ho hy hO
  have ht0 : c.argTypes[0]? = some t := by rw [← Array.getElem?_toList, ht]; rfl
  refine acts_val (s := Builtin.clear_ c.argTypes o.type (c.args.map a.eval)) (by rw [exec_builtin ho hc]; rfl) ?_
  simp only [List.map_cons, List.map_nil] at hrel
  generalize c.args.map a.eval = args at *
  obtain ⟨x, hx0, hv⟩ := hrel.get 0 _ rfl
  have hx : args[0]? = some x := by rw [← Array.getElem?_toList]; exact hx0
  have e1 := run_und hT hi w
  rw [hid] at e1
  simp only [semE] at hs
  split at hs
  · rename_i hk
    rw [hk] at hv
    simp only [Option.some.injEq, Prod.mk.injEq] at hs
    obtain ⟨rfl, rfl⟩ := hs
    cases hv
    exact ⟨_, w, ι, by unfold Builtin.clear_; simp only [ht0, hx, Sem.run_bind, e1, Result.andThen_ok, Sem.run_pure], .tu _ _ .nil, hh, Ext.refl _ _ _⟩
  · rename_i B hk
    rw [hk] at hv
    split at hs
    · rename_i es clk hB
      simp only [Option.some.injEq, Prod.mk.injEq] at hs
      obtain ⟨rfl, rfl⟩ := hs
      cases hv with
      | m _ L hL =>
        obtain ⟨en, m1, m2, m3, m4⟩ := map_of hh hB hL
        obtain ⟨w', k1, k2, k3⟩ := map_put (P := P) hh hB hL (es' := []) (clk' := clk) (en' := #[]) .nil .nil rfl
        refine ⟨_, w', ι, ?_, .tu _ _ .nil, k2, k3⟩
        · unfold Builtin.clear_
          simp only [ht0, hx, Sem.run_bind, e1, Result.andThen_ok, run_getMap m1, k1, Sem.run_pure]
    · cases hs
  · cases hs

theorem setE_map {β : Type} (es : List (V × V × Nat)) (j : Nat) (f : V × V × Nat → V × V × Nat) (g : V × V × Nat → β) (g' : β → β) (hg : ∀ x, g (f x) = g' (g x)) : (setE es j f).map g = (es.map g).modify j g' := by
  unfold setE
  apply List.ext_getElem?
  intro k
  simp only [List.getElem?_map, List.getElem?_modify]
  split
  · simp [Option.map_map, Function.comp_def, hg]
  · simp

theorem VRs.modify {vs : List V} {xs : List Value} (hr : VRs ι vs xs) (j : Nat) {f : V → V} {g : Value → Value} (hfg : ∀ v x, VR ι v x → VR ι (f v) (g x)) : VRs ι (vs.modify j f) (xs.modify j g) := by
  have hl := hr.length
  refine VRs.of_get (by simp [hl]) fun k v hv => ?_
  rw [List.getElem?_modify] at hv ⊢
  simp only [Option.map_eq_map, Option.map_eq_some_iff] at hv
  obtain ⟨v0, hu, rfl⟩ := hv
  obtain ⟨x, hx, hvx⟩ := hr.get k v0 hu
  refine ⟨if j = k then g x else x, by rw [hx]; rfl, ?_⟩
  show VR ι (if j = k then f v0 else v0) _
  split
  · exact hfg _ _ hvx
  · exact hvx

/-- A key that is there stays the same to the bit. -/
theorem eqC_eq : ∀ {x y : List V}, eqC x y = some true → x = y
  | [], [], _ => rfl
  | [], _ :: _, h => by simp [eqC] at h
  | a :: x, y, h => by
    unfold eqC at h
    split at h
    · rename_i heq; cases heq
    · rename_i k n x' k' n' y' heq
      injection heq with h1 h2; subst h1; subst h2
      split at h
      · rename_i hk; subst hk
        split at h
        · rename_i hn
          rw [eqC_eq h, eq_of_beq hn]
        · cases h
      · cases h
    · rename_i k x' k' y' heq
      injection heq with h1 h2; subst h1; subst h2
      split at h
      · rename_i hn; rw [eqC_eq h, eq_of_beq hn]
      · cases h
    · rename_i k x' k' y' heq
      injection heq with h1 h2; subst h1; subst h2
      split at h
      · rename_i hn; rw [eqC_eq h, eq_of_beq hn]
      · cases h
    · cases h
theorem keyEq_eq {kc : Nat} {x y : V} (h : keyEq kc x y = some true) : x = y := by
  unfold keyEq at h
  split at h
  · split at h
    · rename_i hk; subst hk; injection h with h; rw [eq_of_beq h]
    · cases h
  · injection h with h; rw [eq_of_beq h]
  · injection h with h; rw [eq_of_beq h]
  · split at h
    · rw [eqC_eq h]
    · cases h
  · cases h
theorem findE_key {kc : Nat} {k : V} : ∀ {es : List (V × V × Nat)} {j p : Nat} {v : V}, findE kc k es j = some (some (p, v)) → j ≤ p ∧ ∃ b, es[p - j]? = some (k, v, b)
  | [], j, p, v, h => by simp [findE] at h
  | (k', v', b') :: es, j, p, v, h => by
    simp only [findE] at h
    split at h
    · rename_i he
      simp only [Option.some.injEq, Prod.mk.injEq] at h
      obtain ⟨rfl, rfl⟩ := h
      exact ⟨Nat.le_refl _, b', by simp [keyEq_eq he]⟩
    · obtain ⟨h1, b, h2⟩ := findE_key h
      refine ⟨by omega, b, ?_⟩
      rw [show p - j = (p - (j + 1)) + 1 from by omega]
      simpa using h2
    · cases h

/-- the real values of one plain key are one. -/
theorem eqC_self_sameBits {n : Nat} : ∀ {x : List V} {xs ys : List Value}, eqC x x = some true → VRs ι x xs → VRs ι x ys → (xs.zip ys).all (fun (a, b) => Instr.sameBits n a b) = true
  | [], _, _, _, .nil, .nil => rfl
  | v :: x, _, _, h, .cons _ p _ xs h1 h2, .cons _ q _ ys h3 h4 => by
    have key : (Instr.sameBits n p q = true) ∧ eqC x x = some true := by
      unfold eqC at h
      split at h
      · rename_i heq; cases heq
      · rename_i heq heq2
        injection heq with g1 g2; injection heq2 with g3 g4
        subst g1; subst g2
        split at h
        · split at h
          · refine ⟨?_, by rw [← g4] at h; exact h⟩
            rw [h1.int_inv, h3.int_inv]; cases n <;> simp [Instr.sameBits]
          · cases h
        · cases h
      · rename_i heq heq2
        injection heq with g1 g2; injection heq2 with g3 g4
        subst g1; subst g2
        split at h
        · refine ⟨?_, by rw [← g4] at h; exact h⟩
          cases h1 with
          | s a _ ea => cases h3 with
            | s b _ eb =>
              have : a == b := by
                show (a.data == b.data) = true
                rw [beq_iff_eq]
                apply Array.toList_inj.1
                rw [ea] at eb
                have := (bytes_beq a.data.toList b.data.toList)
                rw [eb] at this
                simpa using this
              cases n <;> simpa [Instr.sameBits] using this
        · cases h
      · rename_i heq heq2
        injection heq with g1 g2; injection heq2 with g3 g4
        subst g1; subst g2
        split at h
        · refine ⟨?_, by rw [← g4] at h; exact h⟩
          rw [h1.bool_inv, h3.bool_inv]; cases n <;> simp [Instr.sameBits]
        · cases h
      · cases h
    simp only [List.zip_cons_cons, List.all_cons, key.1, Bool.true_and]
    exact eqC_self_sameBits key.2 h2 h4

theorem keyStays {kc : Nat} {k : V} {x y : Value} (he : keyEq kc k k = some true) (h1 : VR ι k x) (h2 : VR ι k y) (w : World) : (Instr.keyThatStays x y).run P w = .ok y w := by
  have : Instr.sameBits 10000 x y = true := by
    show Instr.sameBits (9999 + 1) x y = true
    unfold keyEq at he
    split at he
    · rw [h1.int_inv, h2.int_inv]; simp [Instr.sameBits]
    · cases h1 with
      | s a _ ea => cases h2 with
        | s b _ eb =>
          have : a == b := by
            show (a.data == b.data) = true
            rw [beq_iff_eq]
            apply Array.toList_inj.1
            rw [ea] at eb
            have := (bytes_beq a.data.toList b.data.toList)
            rw [eb] at this
            simpa using this
          simpa [Instr.sameBits] using this
    · rw [h1.bool_inv, h2.bool_inv]; simp [Instr.sameBits]
    · rename_i n a b _ heq
      split at he
      · cases h1 with
        | ag _ xs hxs => cases h2 with
          | ag _ ys hys =>
            have hl : xs.size = ys.size := by have := hxs.length; have := hys.length; simp at *; omega
            have := eqC_self_sameBits (n := 9999) he hxs hys
            simp only [Instr.sameBits, hl, beq_self_eq_true, Bool.true_and]
            exact this
      · cases he
    · cases he
  unfold Instr.keyThatStays
  rw [this]; rfl

theorem kc_map (hT : TOK P T) {t kt e : Nat} {i : TI} (hi : T.ty t = some i) (hid : i.d = .map kt e) : P.underlying t = some (.map kt e) := by rw [und hT hi, hid]

theorem getElem_map_key {en : Array MapEntry} {j : Nat} {x : Value} (h : (en.toList.map (·.key))[j]? = some x) : ((en[j]?).map (·.key)) = some x := by
  simpa using h

theorem sim_mup {t : Nat} {x k y : Operand} (ho : o.op = .mapUpdate t x k y ∨ o.op = .insert t x k y) {b c d : X} (hx : X.of x = some b) (hk : X.of k = some c) (hy : X.of y = some d) (hO : OR ι tm a o) (hT : TOK P T) {i : TI} {kt e kc : Nat} (hi : T.ty t = some i) (hd : i.d = .map kt e)
    (hkc : kcOf T kt = some kc) (hh : HRel ι h w) {v : V} {h' : H} (hs : semE (.mup kc (evX tm b) (evX tm c) (evX tm d)) h = some (v, h')) : Acts P a o w ι h v h' := by
  have hex : execOp a.eval o = (do Instr.mapUpdate t (a.eval x) (a.eval k) (a.eval y); pure .skip) := by rcases ho with ho | ho <;> simp only [execOp, ho]
  have h1 := hO x (by rcases ho with ho | ho <;> simp [ho, Op.operands]) _ hx
  have h2 := hO k (by rcases ho with ho | ho <;> simp [ho, Op.operands]) _ hk
  have h3 := hO y (by rcases ho with ho | ho <;> simp [ho, Op.operands]) _ hy
  have eu := run_underlying (kc_map hT hi hd) w
  simp only [semE] at hs
  split at hs
  · rename_i B hm
    rw [hm] at h1
    split at hs
    · rename_i hok
      split at hs
      · rename_i es clk hB
        generalize hxv : a.eval x = xv at h1 hex
        cases h1 with
        | m _ L hL =>
          obtain ⟨en, m1, m2, m3, m4⟩ := map_of hh hB hL
          have hck := keyOk_run hT hkc hok h2 false w
          split at hs
          · cases hs
          · rename_i j v0 hfe
            simp only [Option.some.injEq, Prod.mk.injEq] at hs
            obtain ⟨rfl, rfl⟩ := hs
            obtain ⟨r', f1, f2⟩ := findKey_run' hT hkc h2 hfe m2 m3 w
            rcases f2 with ⟨f2, _⟩ | ⟨p, v, z, f2, f3, f4, f5⟩
            · cases f2
            · simp only [Option.some.injEq, Prod.mk.injEq] at f2
              obtain ⟨rfl, rfl⟩ := f2
              obtain ⟨_, bb, hes⟩ := findE_key hfe
              simp only [Nat.sub_zero] at hes
              obtain ⟨kx, hkx, hkr⟩ := m2.get j (evX tm c) (by simp [hes])
              have hkk : keyEq kc (evX tm c) (evX tm c) = some true := by
                have : ∀ (es : List (V × V × Nat)) (q : Nat) (r : Nat × V), findE kc (evX tm c) es q = some (some r) → keyEq kc (evX tm c) (evX tm c) = some true := by
                  intro es
                  induction es with
                  | nil => intro q r h; simp [findE] at h
                  | cons e es ih =>
                    intro q r h
                    obtain ⟨k', v', b'⟩ := e
                    simp only [findE] at h
                    split at h
                    · rename_i he; rw [← keyEq_eq he] at he; exact he
                    · exact ih _ _ h
                    · cases h
                exact this es 0 _ hfe
              have hst := keyStays hkk hkr h2 w (P := P)
              have hgk : ((en[j]?).map (·.key)).getD (a.eval k) = kx := by rw [getElem_map_key hkx]; rfl
              obtain ⟨w', k1, k2, k3⟩ := map_put (P := P) hh hB hL (clk' := clk) (es' := setE es j fun (_, _, b) => (evX tm c, evX tm d, b)) (en' := en.modify j fun e => { e with key := a.eval k, val := a.eval y })
                (by rw [setE_map _ _ _ _ (fun _ => evX tm c) (fun _ => rfl)]
                    have : (en.modify j fun e => { e with key := a.eval k, val := a.eval y }).toList.map (·.key) = (en.toList.map (·.key)).modify j (fun _ => a.eval k) := by
                      apply List.ext_getElem?; intro q; simp only [Array.toList_modify, List.getElem?_map, List.getElem?_modify]; split <;> simp [Option.map_map, Function.comp_def]
                    rw [this]
                    exact m2.modify j fun _ _ _ => h2)
                (by rw [setE_map _ _ _ _ (fun _ => evX tm d) (fun _ => rfl)]
                    have : (en.modify j fun e => { e with key := a.eval k, val := a.eval y }).toList.map (·.val) = (en.toList.map (·.val)).modify j (fun _ => a.eval y) := by
                      apply List.ext_getElem?; intro q; simp only [Array.toList_modify, List.getElem?_map, List.getElem?_modify]; split <;> simp [Option.map_map, Function.comp_def]
                    rw [this]
                    exact m3.modify j fun _ _ _ => h3)
                (by rw [setE_map _ _ _ (fun x => x.2.2) id (by intro x; rfl)]
                    have : (en.modify j fun e => { e with key := a.eval k, val := a.eval y }).toList.map (·.born) = (en.toList.map (·.born)).modify j id := by
                      apply List.ext_getElem?; intro q; simp only [Array.toList_modify, List.getElem?_map, List.getElem?_modify]; split <;> simp [Option.map_map, Function.comp_def]
                    rw [this, m4])
              refine acts_unit hex rfl ⟨w', ?_, k2, k3⟩
              unfold Instr.mapUpdate
              simp only [Sem.run_bind, eu, Result.andThen_ok, run_getMap m1, hck, f1, f3, hgk, hst, k1]
          · rename_i hfe
            simp only [Option.some.injEq, Prod.mk.injEq] at hs
            obtain ⟨rfl, rfl⟩ := hs
            obtain ⟨r', f1, f2⟩ := findKey_run' hT hkc h2 hfe m2 m3 w
            rcases f2 with ⟨_, f2⟩ | ⟨p, v, z, f2, _⟩
            · subst f2
              obtain ⟨w', k1, k2, k3⟩ := map_put (P := P) hh hB hL (clk' := clk + 1) (es' := es ++ [(evX tm c, evX tm d, clk)]) (en' := en.push { key := a.eval k, val := a.eval y, born := clk })
                (by simp only [List.map_append, Array.toList_push]; exact m2.append (.cons _ _ _ _ h2 .nil))
                (by simp only [List.map_append, Array.toList_push]; exact m3.append (.cons _ _ _ _ h3 .nil))
                (by simp [m4])
              refine acts_unit hex rfl ⟨w', ?_, k2, k3⟩
              unfold Instr.mapUpdate
              simp only [Sem.run_bind, eu, Result.andThen_ok, run_getMap m1, hck, f1, k1]
            · cases f2
      · cases hs
    · cases hs
  · cases hs

theorem sim_mpe {t : Nat} {x k : Operand} (ho : o.op = .mapEntry t x k) {b c : X} (hx : X.of x = some b) (hk : X.of k = some c) (hO : OR ι tm a o) (hT : TOK P T) {i ei : TI} {kt e kc : Nat} (hi : T.ty t = some i) (hd : i.d = .map kt e)
    (hkc : kcOf T kt = some kc) (he : T.ty e = some ei) {z : V} (hz : zvOf ei = some z) (hh : HRel ι h w) {v : V} {h' : H} (hs : semE (.mpe kc z (evX tm b) (evX tm c)) h = some (v, h')) : Acts P a o w ι h v h' := by
  have h1 := hO x (by simp [ho, Op.operands]) _ hx
  have h2 := hO k (by simp [ho, Op.operands]) _ hk
  have eu := run_underlying (kc_map hT hi hd) w
  obtain ⟨zx, ez, zr⟩ := zv_rel hT he hz ι
  refine acts_val (s := Instr.mapEntry t (a.eval x) (a.eval k)) (by simp only [execOp, ho]) ?_
  simp only [semE] at hs
  split at hs
  · rename_i B hm
    rw [hm] at h1
    split at hs
    · rename_i hok
      split at hs
      · rename_i es clk hB
        generalize hxv : a.eval x = xv at h1
        cases h1 with
        | m _ L hL =>
          obtain ⟨en, m1, m2, m3, m4⟩ := map_of hh hB hL
          have hck := keyOk_run hT hkc hok h2 false w
          split at hs
          · cases hs
          · rename_i j v0 hfe
            split at hs
            · rename_i k0 v1 b0 hej
              simp only [Option.some.injEq, Prod.mk.injEq] at hs
              obtain ⟨rfl, rfl⟩ := hs
              obtain ⟨r', f1, f2⟩ := findKey_run' hT hkc h2 hfe m2 m3 w
              rcases f2 with ⟨f2, _⟩ | ⟨p, v, z, f2, f3, f4, f5⟩
              · cases f2
              · simp only [Option.some.injEq, Prod.mk.injEq] at f2
                obtain ⟨rfl, rfl⟩ := f2
                obtain ⟨_, bb, hes⟩ := findE_key hfe
                simp only [Nat.sub_zero] at hes
                obtain ⟨kx, hkx, hkr⟩ := m2.get j (evX tm c) (by simp [hes])
                have hkk : keyEq kc (evX tm c) (evX tm c) = some true := by
                  have : ∀ (es : List (V × V × Nat)) (q : Nat) (r : Nat × V), findE kc (evX tm c) es q = some (some r) → keyEq kc (evX tm c) (evX tm c) = some true := by
                    intro es
                    induction es with
                    | nil => intro q r h; simp [findE] at h
                    | cons e es ih =>
                      intro q r h
                      obtain ⟨k', v', b'⟩ := e
                      simp only [findE] at h
                      split at h
                      · rename_i he; rw [← keyEq_eq he] at he; exact he
                      · exact ih _ _ h
                      · cases h
                  exact this es 0 _ hfe
                have hst := keyStays hkk hkr h2 w (P := P)
                have hgk : ((en[j]?).map (·.key)).getD (a.eval k) = kx := by rw [getElem_map_key hkx]; rfl
                have hgb : ((en[j]?).map (fun x => (x.born : Int))).getD 0 = b0 := by
                  have : (es.map (·.2.2))[j]? = some b0 := by simp [hej]
                  rw [m4] at this
                  have h5 : ((en[j]?).map (·.born)) = some b0 := by simpa using this
                  have h6 : ((en[j]?).map (fun x => (x.born : Int))) = some (b0 : Int) := by
                    cases hq : en[j]? with
                    | none => rw [hq] at h5; cases h5
                    | some q => rw [hq] at h5; simp at h5 ⊢; omega
                  rw [h6]; rfl
                obtain ⟨w', k1, k2, k3⟩ := map_put (P := P) hh hB hL (clk' := clk) (es' := setE es j fun (_, v, b) => (evX tm c, v, b)) (en' := en.modify j fun e => { e with key := a.eval k })
                  (by rw [setE_map _ _ _ _ (fun _ => evX tm c) (fun _ => rfl)]
                      have : (en.modify j fun e => { e with key := a.eval k }).toList.map (·.key) = (en.toList.map (·.key)).modify j (fun _ => a.eval k) := by
                        apply List.ext_getElem?; intro q; simp only [Array.toList_modify, List.getElem?_map, List.getElem?_modify]; split <;> simp [Option.map_map, Function.comp_def]
                      rw [this]
                      exact m2.modify j fun _ _ _ => h2)
                  (by rw [setE_map _ _ _ (fun x => x.2.1) id (by intro x; rfl)]
                      have : (en.modify j fun e => { e with key := a.eval k }).toList.map (·.val) = (en.toList.map (·.val)).modify j id := by
                        apply List.ext_getElem?; intro q; simp only [Array.toList_modify, List.getElem?_map, List.getElem?_modify]; split <;> simp [Option.map_map, Function.comp_def]
                      rw [this]
                      exact m3.modify j fun _ _ h => h)
                  (by rw [setE_map _ _ _ (fun x => x.2.2) id (by intro x; rfl)]
                      have : (en.modify j fun e => { e with key := a.eval k }).toList.map (·.born) = (en.toList.map (·.born)).modify j id := by
                        apply List.ext_getElem?; intro q; simp only [Array.toList_modify, List.getElem?_map, List.getElem?_modify]; split <;> simp [Option.map_map, Function.comp_def]
                      rw [this, m4])
                refine ⟨.tuple #[z, goInt b0], w', ι, ?_, .tu _ _ (.cons _ _ _ _ f4 (.cons _ _ _ _ (.i _ _) .nil)), k2, k3⟩
                unfold Instr.mapEntry
                simp only [Sem.run_bind, eu, Result.andThen_ok, run_getMap m1, hck, f1, f3, hgk, hst, k1, hgb, Sem.run_pure]
            · cases hs
          · rename_i hfe
            simp only [Option.some.injEq, Prod.mk.injEq] at hs
            obtain ⟨rfl, rfl⟩ := hs
            obtain ⟨r', f1, f2⟩ := findKey_run' hT hkc h2 hfe m2 m3 w
            rcases f2 with ⟨_, f2⟩ | ⟨p, v, z, f2, _⟩
            · subst f2
              obtain ⟨w', k1, k2, k3⟩ := map_put (P := P) hh hB hL (clk' := clk + 1) (es' := es ++ [(evX tm c, z, clk)]) (en' := en.push { key := a.eval k, val := zx, born := clk })
                (by simp only [List.map_append, Array.toList_push]; exact m2.append (.cons _ _ _ _ h2 .nil))
                (by simp only [List.map_append, Array.toList_push]; exact m3.append (.cons _ _ _ _ zr .nil))
                (by simp [m4])
              refine ⟨.tuple #[zx, goInt clk], w', ι, ?_, .tu _ _ (.cons _ _ _ _ zr (.cons _ _ _ _ (.i _ _) .nil)), k2, k3⟩
              unfold Instr.mapEntry
              simp only [Sem.run_bind, eu, Result.andThen_ok, run_getMap m1, hck, f1, ez, k1, Sem.run_pure]
            · cases f2
      · cases hs
    · cases hs
  · cases hs

theorem sim_mst {t : Nat} {x k y : Operand} (ho : o.op = .entryStore t x k y) {b c d : X} (hx : X.of x = some b) (hk : X.of k = some c) (hy : X.of y = some d) (hO : OR ι tm a o)
    (hh : HRel ι h w) {v : V} {h' : H} (hs : semE (.mst (evX tm b) (evX tm c) (evX tm d)) h = some (v, h')) : Acts P a o w ι h v h' := by
  have h1 := hO x (by simp [ho, Op.operands]) _ hx
  have h2 := hO k (by simp [ho, Op.operands]) _ hk
  have h3 := hO y (by simp [ho, Op.operands]) _ hy
  simp only [semE] at hs
  split at hs
  · rename_i B kk n hm hn
    rw [hm] at h1; rw [hn] at h2
    split at hs
    · rename_i es clk hB
      split at hs
      · rename_i j hj
        simp only [Option.some.injEq, Prod.mk.injEq] at hs
        obtain ⟨rfl, rfl⟩ := hs
        refine acts_unit (s := Instr.entryStore t (a.eval x) (a.eval k) (a.eval y)) (by simp only [execOp, ho]) rfl ?_
        rw [h2.int_inv]
        generalize a.eval x = xv at h1
        cases h1 with
        | m _ L hL =>
          obtain ⟨en, m1, m2, m3, m4⟩ := map_of hh hB hL
          have hfi : en.findIdx? (fun e => (e.born : Int) == n) = some j := by
            have e1 : es.findIdx? (fun e => (e.2.2 : Int) == n) = (es.map (·.2.2)).findIdx? (fun b => ((b : Nat) : Int) == n) := by rw [List.findIdx?_map]; rfl
            have e2 : en.findIdx? (fun e => (e.born : Int) == n) = (en.toList.map (·.born)).findIdx? (fun b => ((b : Nat) : Int) == n) := by
              rw [List.findIdx?_map, ← List.findIdx?_toArray]; rfl
            rw [e2, ← m4, ← e1]; exact hj
          obtain ⟨w', k1, k2, k3⟩ := map_put (P := P) hh hB hL (clk' := clk) (es' := setE es j fun (k, _, b) => (k, evX tm d, b)) (en' := en.modify j fun e => { e with val := a.eval y })
            (by rw [setE_map _ _ _ (fun x => x.1) id (by intro x; rfl)]
                have : (en.modify j fun e => { e with val := a.eval y }).toList.map (·.key) = (en.toList.map (·.key)).modify j id := by
                  apply List.ext_getElem?; intro q; simp only [Array.toList_modify, List.getElem?_map, List.getElem?_modify]; split <;> simp [Option.map_map, Function.comp_def]
                rw [this]
                exact m2.modify j fun _ _ h => h)
            (by rw [setE_map _ _ _ _ (fun _ => evX tm d) (fun _ => rfl)]
                have : (en.modify j fun e => { e with val := a.eval y }).toList.map (·.val) = (en.toList.map (·.val)).modify j (fun _ => a.eval y) := by
                  apply List.ext_getElem?; intro q; simp only [Array.toList_modify, List.getElem?_map, List.getElem?_modify]; split <;> simp [Option.map_map, Function.comp_def]
                rw [this]
                exact m3.modify j fun _ _ _ => h3)
            (by rw [setE_map _ _ _ (fun x => x.2.2) id (by intro x; rfl)]
                have : (en.modify j fun e => { e with val := a.eval y }).toList.map (·.born) = (en.toList.map (·.born)).modify j id := by
                  apply List.ext_getElem?; intro q; simp only [Array.toList_modify, List.getElem?_map, List.getElem?_modify]; split <;> simp [Option.map_map, Function.comp_def]
                rw [this, m4])
          refine ⟨w', ?_, k2, k3⟩
          unfold Instr.entryStore
          simp only [Sem.run_bind, Result.andThen_ok, run_getMap m1, asInt, asIntOf, Sem.run_pure, hfi, k1]
      · cases hs
    · cases hs
  · cases hs

theorem decode_ascii (s : ByteArray) (i c : Nat) (hc : (s.data.toList.map UInt8.toNat)[i]? = some c) (h128 : c < 128) : i < s.size ∧ Utf8.decode s i = (c, 1) := by
  simp only [List.getElem?_map, Option.map_eq_some_iff] at hc
  obtain ⟨b, hb, hbc⟩ := hc
  have hlt : i < s.size := by simpa using (List.getElem?_eq_some_iff.1 hb).1
  refine ⟨hlt, ?_⟩
  have hg : s.get! (i + 0) = b := by
    rw [Array.getElem?_toList] at hb
    simp [ByteArray.get!, getElem!_def, hb]
  unfold Utf8.decode
  simp only [hg, hbc]
  rw [if_pos (by omega)]

theorem sim_nxs {x : Operand} (ho : o.op = .next x true) {b : X} (hx : X.of x = some b) (hO : OR ι tm a o) (hh : HRel ι h w) {v : V} {h' : H} (hs : semE (.nxs (evX tm b)) h = some (v, h')) : Acts P a o w ι h v h' := by
  have h1 := hO x (by simp [ho, Op.operands]) _ hx
  refine acts_val (s := Instr.next (a.eval x) true o.type) (by simp only [execOp, ho]) ?_
  simp only [semE] at hs
  split at hs
  · rename_i B hm
    rw [hm] at h1
    split at hs
    · rename_i l pos hB
      generalize a.eval x = xv at h1
      cases h1 with
      | p _ _ L hL =>
        obtain ⟨s0, s, s1, s2⟩ := hh.br B _ L hB hL
        have hlo : L.o + 0 = 0 := by omega
        have hg : (getObj L.r).run P w = .ok (.stringIter s pos) w := by simp only [getObj, Sem.run, s1]
        have hlen : l.length = s.size := by rw [s2]; simp
        split at hs
        · rename_i hn
          split at hs
          · rename_i hpl
            simp only [Option.some.injEq, Prod.mk.injEq] at hs
            obtain ⟨rfl, rfl⟩ := hs
            refine ⟨.tuple #[.bool false], w, ι, ?_, .tu _ _ (.cons _ _ _ _ (.b _) .nil), hh, Ext.refl _ _ _⟩
            unfold Instr.next
            simp only [hlo, Sem.run_bind, hg, Result.andThen_ok]
            rw [if_neg (by omega)]
            rfl
          · cases hs
        · rename_i c hc
          split at hs
          · rename_i h128
            simp only [Option.some.injEq, Prod.mk.injEq] at hs
            obtain ⟨rfl, rfl⟩ := hs
            rw [s2] at hc
            obtain ⟨hlt, hdec⟩ := decode_ascii s pos c hc h128
            have hltr := (Array.getElem?_eq_some_iff.1 s1).1
            have hset : (setObj L.r (.stringIter s (pos + 1))).run P w = .ok () { w with heap := w.heap.setIfInBounds L.r (.stringIter s (pos + 1)) } := by simp only [setObj, Sem.run, s1]
            obtain ⟨k2, k3⟩ := rel_put (w' := { w with heap := w.heap.setIfInBounds L.r (.stringIter s (pos + 1)) }) hh hB (b' := .it l (pos + 1)) rfl
              (fun e he => by rw [hL] at he; injection he with he; subst he; exact ⟨s0, s, by simp [hltr], s2⟩)
              (fun r hr => by simp only; rw [Array.getElem?_setIfInBounds_ne (Ne.symm (hr L hL))]) (by simp) rfl rfl
            refine ⟨.tuple #[.bool true, goInt pos, .int .i32 c], _, ι, ?_, .tu _ _ (.cons _ _ _ _ (.b _) (.cons _ _ _ _ (.i _ _) (.cons _ _ _ _ (.i _ _) .nil))), k2, k3⟩
            unfold Instr.next
            simp only [hlo, Sem.run_bind, hg, Result.andThen_ok, if_pos hlt, hdec, hset, Sem.run_pure]
          · cases hs
    · cases hs
  · cases hs

end Go.Ev

namespace Go.Ev
variable {P : Program} {T : TT} {ι : Iota} {tm : Nat → V} {a : Act} {o : Oper} {w : World}

theorem semP_none {ao : AO V} (h : ao.cls ≠ 0) : semP ao = none := by cases ao <;> first | rfl | exact absurd rfl h
theorem semN_none {ao : AO V} (h : ao.cls ≠ 1) : semN ao = none := by cases ao <;> first | rfl | exact absurd rfl h
theorem semR_none {ao : AO V} (h : ao.cls ≠ 2) (hp : H) : semR ao hp = none := by cases ao <;> first | rfl | exact absurd rfl h
theorem semE_none {ao : AO V} (h : ao.cls ≠ 3) (hp : H) : semE ao hp = none := by cases ao <;> first | rfl | exact absurd rfl h

/-- What an operation other than a call comes to. -/
structure Spec (P : Program) (ι : Iota) (tm : Nat → V) (a : Act) (o : Oper) (ao : AO X) (w : World) : Prop where
  p : ∀ v, semP (ao.map (evX tm)) = some v → Vals P a o w ι v
  n : ∀ blk mk, semN (ao.map (evX tm)) = some (blk, mk) → News P a o w ι blk mk
  r : ∀ h v, HRel ι h w → semR (ao.map (evX tm)) h = some v → Vals P a o w ι v
  e : ∀ h v h', HRel ι h w → semE (ao.map (evX tm)) h = some (v, h') → Acts P a o w ι h v h'

theorem spec0 {ao : AO X} (hc : ao.cls = 0) (h : ∀ v, semP (ao.map (evX tm)) = some v → Vals P a o w ι v) : Spec P ι tm a o ao w :=
  ⟨h, (fun _ _ hs => by rw [semN_none (by rw [AO.cls_map, hc]; decide)] at hs; cases hs), (fun _ _ _ hs => by rw [semR_none (by rw [AO.cls_map, hc]; decide)] at hs; cases hs), (fun _ _ _ _ hs => by rw [semE_none (by rw [AO.cls_map, hc]; decide)] at hs; cases hs)⟩
theorem spec1 {ao : AO X} (hc : ao.cls = 1) (h : ∀ blk mk, semN (ao.map (evX tm)) = some (blk, mk) → News P a o w ι blk mk) : Spec P ι tm a o ao w :=
  ⟨(fun _ hs => by rw [semP_none (by rw [AO.cls_map, hc]; decide)] at hs; cases hs), h, (fun _ _ _ hs => by rw [semR_none (by rw [AO.cls_map, hc]; decide)] at hs; cases hs), (fun _ _ _ _ hs => by rw [semE_none (by rw [AO.cls_map, hc]; decide)] at hs; cases hs)⟩
theorem spec2 {ao : AO X} (hc : ao.cls = 2) (h : ∀ hp v, HRel ι hp w → semR (ao.map (evX tm)) hp = some v → Vals P a o w ι v) : Spec P ι tm a o ao w :=
  ⟨(fun _ hs => by rw [semP_none (by rw [AO.cls_map, hc]; decide)] at hs; cases hs), (fun _ _ hs => by rw [semN_none (by rw [AO.cls_map, hc]; decide)] at hs; cases hs), h, (fun _ _ _ _ hs => by rw [semE_none (by rw [AO.cls_map, hc]; decide)] at hs; cases hs)⟩
theorem spec3 {ao : AO X} (hc : ao.cls = 3) (h : ∀ hp v h', HRel ι hp w → semE (ao.map (evX tm)) hp = some (v, h') → Acts P a o w ι hp v h') : Spec P ι tm a o ao w :=
  ⟨(fun _ hs => by rw [semP_none (by rw [AO.cls_map, hc]; decide)] at hs; cases hs), (fun _ _ hs => by rw [semN_none (by rw [AO.cls_map, hc]; decide)] at hs; cases hs), (fun _ _ _ hs => by rw [semR_none (by rw [AO.cls_map, hc]; decide)] at hs; cases hs), h⟩

theorem spec_eqOp {op : BinOp} {t yt : Nat} {x y : Operand} (ho : o.op = .binOp op t x y yt) {b c : X} (hx : X.of x = some b) (hy : X.of y = some c) (hO : OR ι tm a o) {i : TI} (hT : TOK P T) (ht : T.ty t = some i) {cls : Nat} (hd : Cls T cls i.d)
    (hc : cls = 5 → isConstO x = true ∨ isConstO y = true) {ao : AO X} (hr : eqOp cls op b c = some ao) : Spec P ι tm a o ao w := by
  unfold eqOp at hr
  split at hr
  · injection hr with hr; subst hr; exact spec0 rfl fun v hs => sim_eq ho hx hy hO (neg := false) rfl hT ht hd hc hs w
  · injection hr with hr; subst hr; exact spec0 rfl fun v hs => sim_eq ho hx hy hO (neg := true) rfl hT ht hd hc hs w
  · cases hr

theorem spec_bin {op : BinOp} {t yt : Nat} {x y : Operand} (ho : o.op = .binOp op t x y yt) {b c : X} (hx : X.of x = some b) (hy : X.of y = some c) (hO : OR ι tm a o) (hT : TOK P T) {ao : AO X} (hr : resBin T op t x y b c = some ao) : Spec P ι tm a o ao w := by
  unfold resBin at hr
  split at hr
  · cases hr
  · rename_i i hi
    split at hr
    · injection hr with hr; subst hr; exact spec0 rfl fun v hs => sim_bin ho hx hy hO hs w
    · injection hr with hr; subst hr; exact spec0 rfl fun v hs => sim_bin ho hx hy hO hs w
    · rename_i hd; exact spec_eqOp ho hx hy hO hT hi (cls := 0) hd (fun h => by cases h) hr
    · rename_i e hd
      split at hr
      · rename_i ei he
        split at hr
        · cases hr
        · rename_i hz; exact spec_eqOp ho hx hy hO hT hi (cls := 1) ⟨e, ei, hd, he, hz⟩ (fun h => by cases h) hr
      · cases hr
    · rename_i hd; exact spec_eqOp ho hx hy hO hT hi (cls := 2) ⟨_, hd⟩ (fun h => by cases h) hr
    · rename_i hd; exact spec_eqOp ho hx hy hO hT hi (cls := 3) ⟨_, _, hd⟩ (fun h => by cases h) hr
    · rename_i hd; exact spec_eqOp ho hx hy hO hT hi (cls := 4) ⟨_, _, _, hd⟩ (fun h => by cases h) hr
    · rename_i hd
      split at hr
      · rename_i hcst; exact spec_eqOp ho hx hy hO hT hi (cls := 5) ⟨_, hd⟩ (fun _ => by simpa using hcst) hr
      · exact spec_eqOp ho hx hy hO hT hi (cls := 6) ⟨_, hd⟩ (fun h => by cases h) hr
    · split at hr
      · cases hr
      · rename_i hf
        obtain ⟨n, hn⟩ := Nat.exists_eq_succ_of_ne_zero hf
        rw [hn] at hr
        split at hr
        · injection hr with hr; subst hr; exact spec0 rfl fun v hs => sim_eqs ho hx hy hO (neg := false) rfl hT hn hs w
        · injection hr with hr; subst hr; exact spec0 rfl fun v hs => sim_eqs ho hx hy hO (neg := true) rfl hT hn hs w
        · cases hr
    · cases hr

theorem spec_conv {s d : Nat} {x : Operand} (ho : o.op = .convert s d x) {b : X} (hx : X.of x = some b) (hO : OR ι tm a o) (hT : TOK P T) {ao : AO X} (hr : resConv T s d b = some ao) : Spec P ι tm a o ao w := by
  unfold resConv at hr
  split at hr
  · rename_i i j hi hj
    split at hr
    · rename_i h1 h2; injection hr with hr; subst hr; exact spec0 rfl fun v hs => sim_cvi ho hx hO hT hi hj h2 hs w
    · rename_i h1 h2; injection hr with hr; subst hr; exact spec0 rfl fun v hs => sim_cvs ho hx hO hT hi hj h2 hs w
    · rename_i e h1 h2
      split at hr
      · rename_i ei he
        split at hr
        · rename_i hed; injection hr with hr; subst hr; exact spec2 rfl fun hp v hh hs => sim_b2s ho hx hO hT hi hj h1 h2 he hed hh hs
        · cases hr
      · cases hr
    · rename_i e h1 h2
      split at hr
      · rename_i ei he
        split at hr
        · rename_i hed; injection hr with hr; subst hr; exact spec1 rfl fun blk mk hs => sim_s2b ho hx hO hT hi hj h1 h2 he hed hs w
        · cases hr
      · cases hr
    · rename_i t h1 h2
      split at hr
      · rename_i ti ht
        split at hr
        · cases hr
        · rename_i hz; injection hr with hr; subst hr; exact spec2 rfl fun hp v hh hs => sim_cvr0 ho hx hO hT hi hj h1 h2 ht hz hh hs
      · cases hr
    · rename_i t h1 h2
      split at hr
      · rename_i ti ht
        split at hr
        · cases hr
        · rename_i hz; injection hr with hr; subst hr; exact spec2 rfl fun hp v hh hs => sim_cvr ho hx hO hT hi hj h1 h2 ht hz hh hs
      · cases hr
    · cases hr
  · cases hr

theorem spec_call {c : Call} (ho : o.op = .call c) (hO : OR ι tm a o) (hT : TOK P T) {ao : AO X} (hr : resCall T c = some ao) (hc : ao.cls ≠ 4) : Spec P ι tm a o ao w := by
  unfold resCall at hr
  split at hr
  · rename_i b hb
    split at hr
    · rename_i s x t u h1 h2
      split at hr
      · rename_i i j hi hj
        split at hr
        · rename_i e e2 hd1 hd2
          split at hr
          · rename_i ei he
            split at hr
            · rename_i hz; injection hr with hr; subst hr
              exact spec3 rfl fun hp v h' hh hs => sim_app ho hb h1 hT h2 hi hj hd1 (fun k => by rw [hd2]; simp) he hz hO hh hs
            · cases hr
          · cases hr
        · rename_i e hd1 hd2
          split at hr
          · rename_i ei he
            split at hr
            · rename_i hz; injection hr with hr; subst hr
              exact spec3 rfl fun hp v h' hh hs => sim_app ho hb h1 hT h2 hi hj hd1 (fun k => by rw [hd2]; simp) he hz hO hh hs
            · cases hr
          · cases hr
        · cases hr
      · cases hr
    · rename_i x t ts h1 h2
      split at hr
      · rename_i i hi
        split at hr
        · rename_i hd; injection hr with hr; subst hr; exact spec0 rfl fun v hs => sim_len ho hb h1 h2 hO hT hi (by simp [hd]) hs w
        · rename_i e hd; injection hr with hr; subst hr; exact spec0 rfl fun v hs => sim_len ho hb h1 h2 hO hT hi (by simp [hd]) hs w
        · rename_i hd; injection hr with hr; subst hr; exact spec2 rfl fun hp v hh hs => sim_lenm ho hb h1 h2 hO hT hi hd hh hs
        · cases hr
      · cases hr
    · rename_i x t ts h1 h2
      split at hr
      · rename_i i hi
        split at hr
        · rename_i e hd; injection hr with hr; subst hr; exact spec0 rfl fun v hs => sim_cap ho hb h1 h2 hO hT hi hd hs w
        · cases hr
      · cases hr
    · rename_i d s t ts h1 h2
      split at hr
      · rename_i i hi
        split at hr
        · rename_i e hd
          split at hr
          · rename_i ei he; injection hr with hr; subst hr; exact spec3 rfl fun hp v h' hh hs => sim_cpy ho hb h1 hT h2 hi hd he hO hh hs
          · cases hr
        · cases hr
      · cases hr
    · rename_i x t ts h1 h2
      split at hr
      · rename_i i hi
        split at hr
        · rename_i hd; injection hr with hr; subst hr; exact spec3 rfl fun hp v h' hh hs => sim_clrm ho hb h1 hT h2 hi hd hO hh hs
        · cases hr
      · cases hr
    · rename_i x h1
      injection hr with hr; subst hr; exact spec0 rfl fun v hs => sim_sd ho hb h1 hO hs w
    · rename_i x n t u h1 h2
      split at hr
      · rename_i i hi
        split at hr
        · rename_i e hd
          split at hr
          · rename_i ei he
            split at hr
            · rename_i hz; injection hr with hr; subst hr
              exact spec3 rfl fun hp v h' hh hs => sim_ustr ho hb h1 hT h2 hi hd he hz hO hh hs
            · cases hr
          · cases hr
        · cases hr
      · cases hr
    · rename_i x ys h1
      injection hr with hr; subst hr; exact spec0 rfl fun v hs => sim_mm (mx := true) ho hb h1 hO hs w
    · rename_i x ys h1
      injection hr with hr; subst hr; exact spec0 rfl fun v hs => sim_mm (mx := false) ho hb h1 hO hs w
    · cases hr
  · rename_i f hf
    split at hr
    · rename_i as h1
      split at hr
      · rename_i hne
        split at hr
        · injection hr with hr; subst hr; exact spec0 rfl fun v hs => sim_nesc ho hf hT hne h1 hO hs w
        · cases hr
      · split at hr
        · rename_i e hme
          split at hr
          · injection hr with hr; subst hr; exact spec1 rfl fun blk mk hs => sim_mnz ho hf hT hme h1 hO hs w
          · cases hr
        · split at hr
          · rename_i hix
            split at hr
            · injection hr with hr; subst hr; exact spec0 rfl fun v hs => sim_ixb ho hf hT hix h1 hO hs w
            · cases hr
          · injection hr with hr; subst hr; exact absurd rfl hc
    · cases hr
  · split at hr
    · injection hr with hr; subst hr; exact absurd rfl hc
    · cases hr
  · cases hr

/-- All operations but calls. -/
theorem spec_of (hT : TOK P T) {ao : AO X} (hr : res T o = some ao) (hO : OR ι tm a o) (hc : ao.cls ≠ 4) : Spec P ι tm a o ao w := by
  have hr0 := hr
  unfold res at hr
  split at hr
  · rename_i x ho
    simp only [Option.map_eq_some_iff] at hr
    obtain ⟨y, hy, rfl⟩ := hr
    exact spec0 rfl fun v hs => sim_mv (.inl ⟨_, ho⟩) hr0 hO hs w
  · rename_i x ho
    simp only [Option.map_eq_some_iff] at hr
    obtain ⟨y, hy, rfl⟩ := hr
    exact spec0 rfl fun v hs => sim_mv (.inr ⟨_, ho⟩) hr0 hO hs w
  · rename_i ho
    split at hr
    · injection hr with hr; subst hr; exact spec0 rfl fun v hs => sim_pick ho hr0 hO hs w
    · cases hr
  · rename_i ho
    split at hr
    · rename_i i hi; injection hr with hr; subst hr; exact spec1 rfl fun blk mk hs => sim_alloc ho hT hi hs w
    · cases hr
  · rename_i ho
    simp only [Option.map_eq_some_iff] at hr
    obtain ⟨y, hy, rfl⟩ := hr
    exact spec1 rfl fun blk mk hs => sim_box ho hy hO hs w
  · rename_i ho
    split at hr
    · rename_i i hi
      split at hr
      · rename_i fs hd
        split at hr
        · rename_i hall
          simp only [Option.map_eq_some_iff] at hr
          obtain ⟨ys, hy, rfl⟩ := hr
          exact spec0 rfl fun v hs => sim_build_struct ho hT hi hd (fun f hf => by
            have := List.all_eq_true.1 hall f hf
            exact Option.isSome_iff_exists.1 this) hy hO hs w
        · cases hr
      · rename_i n e hd
        split at hr
        · rename_i ei he
          simp only [Option.map_eq_some_iff] at hr
          obtain ⟨ys, hy, rfl⟩ := hr
          exact spec0 rfl fun v hs => sim_build_array ho hT hi hd he hy hO hs w
        · cases hr
      · cases hr
    · cases hr
  · rename_i ho
    split at hr
    · rename_i i hi
      split at hr
      · rename_i e hd
        split at hr
        · rename_i ei he
          split at hr
          · rename_i hz
            simp only [Option.map_eq_some_iff] at hr
            obtain ⟨ys, hy, rfl⟩ := hr
            exact spec1 rfl fun blk mk hs => sim_bsl ho hT hi hd he hz.1 hz.2 hy hO hs w
          · cases hr
        · cases hr
      · cases hr
    · cases hr
  · rename_i ho
    split at hr
    · rename_i i x hi hx
      split at hr
      · rename_i hg; injection hr with hr; subst hr; exact spec2 rfl fun hp v hh hs => sim_ldn ho hx hO hT hi hg hh hs
      · rename_i hg; injection hr with hr; subst hr; exact spec2 rfl fun hp v hh hs => sim_ld ho hx hO hT hi (by simpa using hg) hh hs
    · cases hr
  · rename_i ho
    split at hr
    · rename_i i x y hi hx hy
      split at hr
      · injection hr with hr; subst hr; exact spec3 rfl fun hp v h' hh hs => sim_stn ho hx hy hO hT hi hh hs
      · split at hr
        · rename_i hsz; injection hr with hr; subst hr; exact spec3 rfl fun hp v h' hh hs => sim_st ho hx hy hO hT hi hsz hh hs
        · cases hr
    · cases hr
  · rename_i ho
    simp only [Option.map_eq_some_iff] at hr
    obtain ⟨y, hy, rfl⟩ := hr
    exact spec0 rfl fun v hs => sim_nck ho hy hO hs w
  · rename_i ho
    split at hr
    · rename_i hx hy; exact spec_bin ho hx hy hO hT hr
    · cases hr
  · rename_i ho
    simp only [Option.map_eq_some_iff] at hr
    obtain ⟨y, hy, rfl⟩ := hr
    exact spec0 rfl fun v hs => sim_un ho hy hO hs w
  · rename_i ho
    split at hr
    · rename_i hx; exact spec_conv ho hx hO hT hr
    · cases hr
  · rename_i ho
    split at hr
    · rename_i i x hi hx
      split at hr
      · cases hr
      · rename_i hd; injection hr with hr; subst hr; exact spec0 rfl fun v hs => sim_mki ho hx hO hT hi (fun ms hms => hd ms hms) hs w
    · cases hr
  · rename_i ho
    split at hr
    · rename_i hx hy; injection hr with hr; subst hr; exact spec0 rfl fun v hs => sim_mkf ho hx hy hO hs w
    · cases hr
  · rename_i ho
    injection hr with hr; subst hr; exact spec1 rfl fun blk mk hs => sim_mkm ho hs w
  · rename_i ho
    split at hr
    · rename_i i l c hi hl hcc
      split at hr
      · rename_i e hd
        split at hr
        · rename_i ei he
          split at hr
          · rename_i hz; injection hr with hr; subst hr; exact spec1 rfl fun blk mk hs => sim_mks ho hT hi hd he hz.1 hz.2.1 hl hcc hO hs w
          · cases hr
        · cases hr
      · cases hr
    · cases hr
  · rename_i ho
    split at hr
    · rename_i i x lo hi' hi hx hl hh
      split at hr
      · rename_i hd; injection hr with hr; subst hr; exact spec0 rfl fun v hs => sim_sls ho hx hl hh hO hT hi hd hs w
      · rename_i e hd
        split at hr
        · rename_i ei he
          split at hr
          · cases hr
          · injection hr with hr; subst hr; exact spec0 rfl fun v hs => sim_slv ho hx hl hh hO hT hi hd he hs w
        · cases hr
      · rename_i n e hd
        split at hr
        · rename_i ei he; injection hr with hr; subst hr; exact spec0 rfl fun v hs => sim_sla ho hx hl hh hO hT hi hd he hs w
        · cases hr
      · cases hr
    · cases hr
  · rename_i ho
    split at hr
    · rename_i i x hi hx
      split at hr
      · rename_i fs hd
        split at hr
        · rename_i f hf
          split at hr
          · rename_i fi hfi
            split at hr
            · cases hr
            · rename_i hz; injection hr with hr; subst hr; exact spec0 rfl fun v hs => sim_fa ho hx hO hT hi hd hf hfi hz hs w
          · cases hr
        · cases hr
      · cases hr
    · cases hr
  · rename_i ho
    split at hr
    · rename_i i x hi hx
      split at hr
      · rename_i fs hd
        split at hr
        · rename_i f hf
          split at hr
          · rename_i fi hfi; injection hr with hr; subst hr; exact spec0 rfl fun v hs => sim_fld ho hx hO hT hi hd hf hfi hs w
          · cases hr
        · cases hr
      · cases hr
    · cases hr
  · rename_i ho
    split at hr
    · rename_i i x ix hi hx hix
      split at hr
      · rename_i e hd
        split at hr
        · rename_i ei he
          split at hr
          · cases hr
          · injection hr with hr; subst hr; exact spec0 rfl fun v hs => sim_ia ho hx hix hO hT hi hd he hs w
        · cases hr
      · rename_i n e hd
        split at hr
        · rename_i ei he
          split at hr
          · injection hr with hr; subst hr; exact spec0 rfl fun v hs => sim_iaa ho hx hix hO hT hi hd he hs w
          · cases hr
        · cases hr
      · cases hr
    · cases hr
  · rename_i ho
    split at hr
    · rename_i i x ix hi hx hix
      split at hr
      · rename_i hd; injection hr with hr; subst hr; exact spec0 rfl fun v hs => sim_ix ho hx hix hO hT hi hd hs w
      · rename_i n e hd
        split at hr
        · rename_i ei he; injection hr with hr; subst hr; exact spec0 rfl fun v hs => sim_ixa ho hx hix hO hT hi hd he hs w
        · cases hr
      · cases hr
    · cases hr
  · rename_i ho
    split at hr
    · rename_i i x k hi hx hk
      split at hr
      · rename_i kt e hd
        split at hr
        · rename_i kc ei hkc he
          split at hr
          · rename_i z hz; injection hr with hr; subst hr; exact spec2 rfl fun hp v hh hs => sim_lk ho hx hk hO hT hi hd hkc he hz hh hs
          · cases hr
        · cases hr
      · cases hr
    · cases hr
  · rename_i ho
    split at hr
    · rename_i i m k v hi hm hk hv
      split at hr
      · rename_i kt e hd
        split at hr
        · rename_i kc hkc; injection hr with hr; subst hr; exact spec3 rfl fun hp v h' hh hs => sim_mup (.inl ho) hm hk hv hO hT hi hd hkc hh hs
        · cases hr
      · cases hr
    · cases hr
  · rename_i ho
    split at hr
    · rename_i i m k v hi hm hk hv
      split at hr
      · rename_i kt e hd
        split at hr
        · rename_i kc hkc; injection hr with hr; subst hr; exact spec3 rfl fun hp v h' hh hs => sim_mup (.inr ho) hm hk hv hO hT hi hd hkc hh hs
        · cases hr
      · cases hr
    · cases hr
  · rename_i ho
    split at hr
    · rename_i i m k hi hm hk
      split at hr
      · rename_i kt e hd
        split at hr
        · rename_i kc ei hkc he
          split at hr
          · rename_i z hz; injection hr with hr; subst hr; exact spec3 rfl fun hp v h' hh hs => sim_mpe ho hm hk hO hT hi hd hkc he hz hh hs
          · cases hr
        · cases hr
      · cases hr
    · cases hr
  · rename_i ho
    split at hr
    · rename_i hm hs' hv; injection hr with hr; subst hr; exact spec3 rfl fun hp v h' hh hs => sim_mst ho hm hs' hv hO hh hs
    · cases hr
  · rename_i ho
    split at hr
    · rename_i i x hi hx
      split at hr
      · rename_i hd; injection hr with hr; subst hr; exact spec1 rfl fun blk mk hs => sim_rgs ho hx hO hT hi hd hs w
      · cases hr
    · cases hr
  · rename_i ho
    simp only [Option.map_eq_some_iff] at hr
    obtain ⟨y, hy, rfl⟩ := hr
    exact spec3 rfl fun hp v h' hh hs => sim_nxs ho hy hO hh hs
  · rename_i ho
    simp only [Option.map_eq_some_iff] at hr
    obtain ⟨y, hy, rfl⟩ := hr
    exact spec0 rfl fun v hs => sim_ext ho hy hO hs w
  · rename_i ho
    exact spec_call ho hO hT hr hc
  · cases hr

end Go.Ev

namespace Go.Ev
variable {P : Program} {T : TT} {ι : Iota} {tm : Nat → V} {a : Act} {o : Oper} {h : H} {w : World}

abbrev TM := Nat → V

/-- An operation of a region: where its value goes, its guard, itself. -/
structure RO where
  dst : Option Nat
  gd : Option (Nat × Bool)
  op : AO X

def putD (tm : TM) : Option Nat → V → TM
  | none, _ => tm
  | some d, v => fun t => if t = d then v else tm t

/-- Is it wanted? -/
def guardA (gd : Option (Nat × Bool)) (tm : TM) : Option Bool :=
  match gd with
  | none => some true
  | some (d, want) => match tm d with
    | .b x => some (x == want)
    | .tu [] => some false
    | _ => none

abbrev CallF := Nat → List V → H → Option (V × H)

def semAll (call : CallF) (ao : AO V) (h : H) : Option (V × H) :=
  match ao with
  | .call g as => call g as h
  | .callv x as => match x with
    | .f g p q => call g (p ++ as ++ q) h
    | _ => none
  | ao => match ao.cls with
    | 0 => (semP ao).map (·, h)
    | 1 => (semN ao).map fun (b, mk) => (mk h.nx, h.new b)
    | 2 => (semR ao h).map (·, h)
    | _ => semE ao h

def stepA (call : CallF) (r : RO) (tm : TM) (h : H) : Option (TM × H) :=
  match guardA r.gd tm with
  | none => none
  | some false => some (putD tm r.dst (.tu []), h)
  | some true => match semAll call (r.op.map (evX tm)) h with
    | none => none
    | some (v, h') => some (putD tm r.dst v, h')

def runOps (call : CallF) : List RO → TM → H → Option (TM × H)
  | [], tm, h => some (tm, h)
  | r :: rs, tm, h => match stepA call r tm h with
    | none => none
    | some (tm, h) => runOps call rs tm h

def dstOK (nt : Nat) : Option Nat → Bool
  | none => true
  | some d => Nat.blt d nt
def resOp (T : TT) (nt : Nat) (ops : Array Oper) (o : Oper) : Option RO :=
  match res T o with
  | none => none
  | some ao =>
    if dstOK nt o.dst then
      match o.guard with
      | none => some ⟨o.dst, none, ao⟩
      | some (j, want) => match (ops[j]?).bind (·.dst) with
        | some d => some ⟨o.dst, some (d, want), ao⟩
        | none => none
    else none

def resOps (T : TT) (nt : Nat) (ops : Array Oper) : List Oper → Option (List RO)
  | [] => some []
  | o :: os => match resOp T nt ops o, resOps T nt ops os with
    | some r, some rs => some (r :: rs)
    | _, _ => none

/-- The package-level variables have their own names. -/
def Globs (P : Program) (ι : Iota) : Prop := ∀ g, g < P.globals.size → ∃ n, ι g = some ⟨g, 0, n⟩

/-- What the calls' function must be. -/
def CallsOK (P : Program) (call : CallF) : Prop :=
  ∀ g args h v h', call g args h = some (v, h') → ∀ (ι : Iota) (xs : Array Value) (w : World), Globs P ι → VRs ι args xs.toList → HRel ι h w →
    Calls P g xs w fun e w' => ∃ x ι', e = .returned x ∧ VR ι' v x ∧ HRel ι' h' w' ∧ Ext ι h w ι' h' w'

/-- That a function is entered. -/
def Enters (P : Program) (g : Nat) : Prop := ∀ (args : Array Value) (w : World), (callFunc g args).run P w = .ok (.enter g args) w

theorem cls_map_some {α : Type} {x : Option α} {f : α → AO X} {ao : AO X} (hr : x.map f = some ao) (hf : ∀ y, (f y).cls ≠ 4) (hc : ao.cls = 4) : False := by
  simp only [Option.map_eq_some_iff] at hr
  obtain ⟨y, _, rfl⟩ := hr
  exact hf y hc

theorem resBin_cls {op : BinOp} {t : Nat} {x y : Operand} {p q : X} {ao : AO X} (hr : resBin T op t x y p q = some ao) : ao.cls ≠ 4 := by
  unfold resBin at hr
  repeat' (split at hr)
  all_goals first
    | (cases hr; done)
    | (unfold eqOp at hr; split at hr <;> first | (injection hr with hr; subst hr; simp [AO.cls]; done) | (cases hr; done))
    | (injection hr with hr; subst hr; simp [AO.cls])
theorem resConv_cls {s d : Nat} {x : X} {ao : AO X} (hr : resConv T s d x = some ao) : ao.cls ≠ 4 := by
  unfold resConv at hr
  repeat' (split at hr)
  all_goals first
    | (cases hr; done)
    | (injection hr with hr; subst hr; simp [AO.cls])

theorem res_cls4 {ao : AO X} (hr : res T o = some ao) (hc : ao.cls = 4) : ∃ c, o.op = .call c ∧ resCall T c = some ao := by
  unfold res at hr
  split at hr
  all_goals first
    | (rename_i c ho; exact ⟨c, ho, hr⟩)
    | (cases hr; done)
    | (exfalso; exact cls_map_some hr (fun y => by simp [AO.cls]) hc)
    | skip
  all_goals exfalso
  all_goals first
    | (repeat' (split at hr)
       all_goals first
         | (cases hr; done)
         | (exact cls_map_some hr (fun y => by simp [AO.cls]) hc)
         | (exact resBin_cls hr hc)
         | (exact resConv_cls hr hc)
         | (injection hr with hr; subst hr; simp [AO.cls] at hc; done))
    | (injection hr with hr; subst hr; simp [AO.cls] at hc; done)

theorem res_call {ao : AO X} (hr : res T o = some ao) (hc : ao.cls = 4) :
    (∃ c g as, o.op = .call c ∧ c.callee = .value (.func g) ∧ X.ofL c.args.toList = some as ∧ ao = .call g as) ∨
    (∃ c x y as, o.op = .call c ∧ c.callee = .value x ∧ X.of x = some y ∧ X.ofL c.args.toList = some as ∧ ao = .callv y as) := by
  obtain ⟨c, ho, hr⟩ := res_cls4 hr hc
  unfold resCall at hr
  split at hr
  · exfalso
    repeat' (split at hr)
    all_goals first
      | (cases hr; done)
      | (injection hr with hr; subst hr; simp [AO.cls] at hc; done)
  · rename_i f hf
    split at hr
    · rename_i as has
      split at hr
      · split at hr
        · injection hr with hr; subst hr; cases hc
        · cases hr
      · split at hr
        · split at hr
          · injection hr with hr; subst hr; cases hc
          · cases hr
        · split at hr
          · split at hr
            · injection hr with hr; subst hr; cases hc
            · cases hr
          · injection hr with hr; exact .inl ⟨c, f, as, ho, hf, has, hr.symm⟩
    · cases hr
  · rename_i x _ hx
    split at hr
    · rename_i y as hy has
      injection hr with hr; exact .inr ⟨c, x, y, as, ho, hx, hy, has, hr.symm⟩
    · cases hr
  · cases hr

theorem opnd_callee {c : Call} {x : Operand} (ho : o.op = .call c) (hc : c.callee = .value x) : x ∈ o.op.operands := by
  rw [ho]; simp [Op.operands, Call.operands, hc]

theorem semAll_ne {call : CallF} {ao : AO V} (hc : ao.cls ≠ 4) (h : H) : semAll call ao h = match ao.cls with
    | 0 => (semP ao).map (·, h)
    | 1 => (semN ao).map fun (b, mk) => (mk h.nx, h.new b)
    | 2 => (semR ao h).map (·, h)
    | _ => semE ao h := by
  cases ao <;> first | rfl | exact absurd rfl hc


/-- One operation, whatever it is. -/
theorem all_step {call : CallF} (hT : TOK P T) (hcall : CallsOK P call) (hent : ∀ g args h v h', call g args h = some (v, h') → Enters P g) {ao : AO X} (hr : res T o = some ao) (hgl : Globs P ι) (hO : OR ι tm a o) (hh : HRel ι h w) {v : V} {h' : H}
    (hs : semAll call (ao.map (evX tm)) h = some (v, h')) {K : Act → World → Prop} {Q : Exit → Act → World → Prop} (hK : ∀ x w' ι', VR ι' v x → HRel ι' h' w' → Ext ι h w ι' h' w' → K (a.put o.dst x) w') : o.wp P a w K Q := by
  unfold Oper.wp
  by_cases hc : ao.cls = 4
  · rcases res_call hr hc with ⟨c, g, as, ho, hcc, has, rfl⟩ | ⟨c, x, y, as, ho, hcc, hy, has, rfl⟩
    · simp only [AO.map, semAll] at hs
      have hrel := args_rel ho has hO
      rw [exec_call ho hcc, hent _ _ _ _ _ hs]
      refine (hcall g _ h v h' hs ι _ w hgl hrel hh).mono ?_
      rintro e w' ⟨x, ι', rfl, h1, h2, h3⟩
      exact hK x w' ι' h1 h2 h3
    · simp only [AO.map, semAll] at hs
      have hrel := args_rel ho has hO
      have hx := hO x (opnd_callee ho hcc) y hy
      split at hs
      · rename_i g p q hpq
        rw [hpq] at hx
        have he : ∃ xs ys, a.eval x = .func (.func g) xs ys ∧ VRs ι p xs.toList ∧ VRs ι q ys.toList := by
          generalize a.eval x = z at hx
          cases hx with
          | f _ _ _ xs ys h1 h2 => exact ⟨xs, ys, rfl, h1, h2⟩
        obtain ⟨xs, ys, e1, e2, e3⟩ := he
        have hex : execOp a.eval o = callFunc g (xs ++ c.args.map a.eval ++ ys) := by
          simp only [execOp, ho, resolve, hcc, e1, Deferred.ofValue, pure_bind, invoke]
        rw [hex, hent _ _ _ _ _ hs]
        refine (hcall g _ h v h' hs ι _ w hgl ?_ hh).mono ?_
        · simp only [Array.toList_append]
          exact (e2.append hrel).append e3
        · rintro e w' ⟨x, ι', rfl, h1, h2, h3⟩
          exact hK x w' ι' h1 h2 h3
      · cases hs
  · have sp := spec_of (P := P) (w := w) hT hr hO hc
    rw [semAll_ne (by rw [AO.cls_map]; exact hc)] at hs
    split at hs
    · simp only [Option.map_eq_some_iff, Prod.mk.injEq] at hs
      obtain ⟨v', h1, rfl, rfl⟩ := hs
      obtain ⟨x, e1, e2⟩ := sp.p _ h1
      rw [e1]
      exact hK x w ι e2 hh (Ext.refl _ _ _)
    · simp only [Option.map_eq_some_iff, Prod.mk.injEq] at hs
      obtain ⟨⟨blk, mk⟩, h1, rfl, rfl⟩ := hs
      obtain ⟨x, w', e, e1, e2, e3, e4, e5, e6⟩ := sp.n _ _ h1
      rw [e1]
      obtain ⟨ι', r1, r2, r3, r4⟩ := rel_new hh e2 e3 e4 e5 (fun ι' hle hid => (e6 ι' _ hle hid).2)
      exact hK x w' ι' (e6 ι' _ r4.le r1).1 r3 r4
    · simp only [Option.map_eq_some_iff, Prod.mk.injEq] at hs
      obtain ⟨v', h1, rfl, rfl⟩ := hs
      obtain ⟨x, e1, e2⟩ := sp.r _ _ hh h1
      rw [e1]
      exact hK x w ι e2 hh (Ext.refl _ _ _)
    · obtain ⟨x, n, w', ι', e1, e2, e3, e4, e5⟩ := sp.e _ _ _ hh hs
      rw [e1]
      rcases e2 with rfl | ⟨rfl, rfl⟩
      · exact hK x w' ι' e3 e4 e5
      · exact hK undef w' ι' e3 e4 e5

end Go.Ev

namespace Go.Ev
variable {P : Program} {T : TT} {ι : Iota} {tm : TM} {a : Act} {o : Oper} {h : H} {w : World}

/-- The temporaries stand for the model's. -/
structure Rel (nt : Nat) (ι : Iota) (tm : TM) (a : Act) : Prop where
  size : a.tmps.size = nt
  vr : ∀ t, VR ι (tm t) (a.tmps.getD t undef)
  defers : a.defers = []

theorem OR_of_rel {nt : Nat} (hrel : Rel nt ι tm a) (hglob : ∀ x ∈ o.op.operands, ∀ g, x = .global g → VR ι (.p g 0) (.pointer (some ⟨g, 0, none⟩))) : OR ι tm a o := by
  intro x hx y hy
  cases x with
  | tmp t => simp [X.of] at hy; subst hy; exact hrel.vr t
  | const v =>
    simp only [X.of, Option.map_eq_some_iff] at hy
    obtain ⟨v', h1, rfl⟩ := hy
    exact V.of_rel ι h1
  | global g => simp [X.of] at hy; subst hy; exact hglob _ hx g rfl
  | func f => simp [X.of] at hy; subst hy; exact .f _ _ _ _ _ .nil .nil

theorem getD_put (a : Act) (d : Option Nat) (x : Value) (t : Nat) (hd : ∀ d', d = some d' → d' < a.tmps.size) : (a.put d x).tmps.getD t undef = if d = some t then x else a.tmps.getD t undef := by
  cases d with
  | none => simp [Act.put]
  | some d =>
    have := hd d rfl
    simp only [Act.put, Array.getD_eq_getD_getElem?, Option.some.injEq]
    by_cases h : d = t
    · subst h; simp [this]
    · simp [h]

theorem Rel.put {nt : Nat} (hrel : Rel nt ι tm a) {ι' : Iota} (hle : ι.le ι') {d : Option Nat} {v : V} {x : Value} (hv : VR ι' v x) (hd : ∀ d', d = some d' → d' < nt) : Rel nt ι' (putD tm d v) (a.put d x) := by
  refine ⟨?_, fun t => ?_, ?_⟩
  · cases d <;> simp [Act.put, hrel.size]
  · rw [getD_put a d x t (fun d' h => by rw [hrel.size]; exact hd d' h)]
    cases d with
    | none => simpa [putD] using (hrel.vr t).mono hle
    | some d =>
      simp only [putD, Option.some.injEq]
      by_cases h : t = d
      · subst h; simpa using hv
      · rw [if_neg h, if_neg (Ne.symm h)]; exact (hrel.vr t).mono hle
  · cases d <;> simp [Act.put, hrel.defers]

theorem resOp_inv {nt : Nat} {ops : Array Oper} {r : RO} (hr : resOp T nt ops o = some r) : res T o = some r.op ∧ r.dst = o.dst ∧ (∀ d, o.dst = some d → d < nt) ∧
    ((o.guard = none ∧ r.gd = none) ∨ ∃ j want d, o.guard = some (j, want) ∧ (ops[j]?).bind (·.dst) = some d ∧ r.gd = some (d, want)) := by
  unfold resOp at hr
  split at hr
  · cases hr
  · rename_i ao hao
    split at hr
    · rename_i hd
      have hd' : ∀ d, o.dst = some d → d < nt := by
        intro d h; rw [h] at hd; simpa [dstOK] using hd
      split at hr
      · rename_i hg
        injection hr with hr; subst hr
        exact ⟨hao, rfl, hd', .inl ⟨hg, rfl⟩⟩
      · rename_i j want hg
        split at hr
        · rename_i d hj
          injection hr with hr; subst hr
          exact ⟨hao, rfl, hd', .inr ⟨j, want, d, hg, hj, rfl⟩⟩
        · cases hr
    · cases hr

/-- The guard, in the model. -/
theorem wanted_of {nt : Nat} {ops : Array Oper} {r : RO} (hr : resOp T nt ops o = some r) {b : Bool} (hg : guardA r.gd tm = some b) (hv : ∀ d want, r.gd = some (d, want) → VR ι (tm d) (a.tmps.getD d undef)) :
    Region.wanted o (yielded ops a.tmps) = b := by
  obtain ⟨_, _, _, h⟩ := resOp_inv hr
  rcases h with ⟨h1, h2⟩ | ⟨j, want, d, h1, h2, h3⟩
  · rw [h2] at hg; simp [guardA] at hg; subst hg; simp [Region.wanted, h1]
  · rw [h3] at hg
    have hvr := hv d want h3
    simp only [guardA] at hg
    unfold Region.wanted yielded
    simp only [h1, h2, Option.bind_some]
    split at hg
    · rename_i x hx
      rw [hx] at hvr
      injection hg with hg; subst hg
      have : a.tmps[d]? = some (.bool x) := by
        have h4 := hvr.bool_inv
        rw [Array.getD_eq_getD_getElem?] at h4
        cases h5 : a.tmps[d]? with
        | none => rw [h5] at h4; simp [undef] at h4
        | some y => rw [h5] at h4; simp at h4; rw [h4]
      rw [this]
      cases x <;> cases want <;> rfl
    · rename_i hx
      rw [hx] at hvr
      injection hg with hg; subst hg
      have : ∀ y, a.tmps[d]? = some (.bool y) → False := by
        intro y hy
        rw [Array.getD_eq_getD_getElem?, hy] at hvr
        simp at hvr
        cases hvr
      cases h5 : a.tmps[d]? with
      | none => rfl
      | some z => cases z <;> first | rfl | exact absurd h5 (fun h => this _ h)
    · cases hg

/-- The end of a piece of code. -/
inductive Ex where
  | nrm
  | exit (id : Nat)
  | ret

/-- What stands behind a piece of code. -/
def Post (nt : Nat) (ι : Iota) (h : H) (w : World) (e : Ex) (tm' : TM) (h' : H) : Exit → Act → World → Prop :=
  fun e' a' w' => (match e with | .nrm => e' = .normal | .exit id => e' = .exit id | .ret => e' = .ret) ∧ ∃ ι', Rel nt ι' tm' a' ∧ HRel ι' h' w' ∧ Ext ι h w ι' h' w'

theorem Globs.mono (hg : Globs P ι) {ι' : Iota} (hle : ι.le ι') : Globs P ι' := fun g h => (hg g h).elim fun n hn => ⟨n, hle _ _ hn⟩
theorem Globs.vr (hg : Globs P ι) {g : Nat} (h : g < P.globals.size) : VR ι (.p g 0) (.pointer (some ⟨g, 0, none⟩)) := (hg g h).elim fun n hn => .p g 0 ⟨g, 0, n⟩ hn

/-- All variables that operands name are there. -/
def globOK (P : Program) (o : Oper) : Bool := o.op.operands.toList.all fun | .global g => decide (g < P.globals.size) | _ => true

theorem OR_of {nt : Nat} (hrel : Rel nt ι tm a) (hg : Globs P ι) (ho : globOK P o = true) : OR ι tm a o := by
  refine OR_of_rel hrel fun x hx g hxg => ?_
  subst hxg
  have := List.all_eq_true.1 ho (.global g) (by simpa using hx)
  exact hg.vr (by simpa using this)

theorem runOps_wp {call : CallF} (hT : TOK P T) (hcall : CallsOK P call) (hent : ∀ g args h v h', call g args h = some (v, h') → Enters P g) {nt : Nat} {ops : Array Oper} {Q : Exit → Act → World → Prop} :
    ∀ (l : List Oper) (rs : List RO), resOps T nt ops l = some rs → (∀ o ∈ l, globOK P o = true) → ∀ (tm : TM) (h : H) (tm' : TM) (h' : H), runOps call rs tm h = some (tm', h') → ∀ (ι : Iota) (a : Act) (w : World), Globs P ι → Rel nt ι tm a → HRel ι h w →
      (∀ ι' a' w', Rel nt ι' tm' a' → HRel ι' h' w' → Ext ι h w ι' h' w' → Q .normal a' w') → wpList P ops Q l a w := by
  intro l
  induction l with
  | nil =>
    intro rs hrs _ tm h tm' h' hrun ι a w hg hrel hh hQ
    simp [resOps] at hrs; subst hrs
    simp [runOps] at hrun; obtain ⟨rfl, rfl⟩ := hrun
    exact hQ ι a w hrel hh (Ext.refl _ _ _)
  | cons o l ih =>
    intro rs hrs hgl tm h tm' h' hrun ι a w hg hrel hh hQ
    simp only [resOps] at hrs
    split at hrs
    · rename_i r rs' hr hrs'
      injection hrs with hrs; subst hrs
      simp only [runOps] at hrun
      split at hrun
      · cases hrun
      · rename_i tm1 h1 hst
        obtain ⟨q1, q2, q3, _⟩ := resOp_inv hr
        have hOR : OR ι tm a o := OR_of hrel hg (hgl o (by simp))
        simp only [stepA] at hst
        split at hst
        · cases hst
        · rename_i hgd
          simp only [Option.some.injEq, Prod.mk.injEq] at hst
          obtain ⟨rfl, rfl⟩ := hst
          have hw := wanted_of (a := a) hr hgd (fun d _ _ => hrel.vr d)
          unfold wpList
          rw [if_neg (by rw [hw]; decide)]
          refine ih rs' hrs' (fun o ho => hgl o (by simp [ho])) _ _ _ _ hrun ι _ w hg ?_ hh hQ
          rw [q2]
          exact hrel.put (Iota.le_refl _) (.tu _ _ .nil) q3
        · rename_i hgd
          split at hst
          · cases hst
          · rename_i v h2 hs
            simp only [Option.some.injEq, Prod.mk.injEq] at hst
            obtain ⟨rfl, rfl⟩ := hst
            have hw := wanted_of (a := a) hr hgd (fun d _ _ => hrel.vr d)
            unfold wpList
            rw [if_pos hw]
            refine .inl (all_step hT hcall hent q1 hg hOR hh hs fun x w' ι' e1 e2 e3 => ?_)
            refine ih rs' hrs' (fun o ho => hgl o (by simp [ho])) _ _ _ _ hrun ι' _ w' (hg.mono e3.le) ?_ e2 fun ι2 a2 w2 f1 f2 f3 => hQ ι2 a2 w2 f1 f2 (e3.trans f3)
            rw [q2]
            exact hrel.put e3.le e1 q3
    · cases hrs

end Go.Ev
