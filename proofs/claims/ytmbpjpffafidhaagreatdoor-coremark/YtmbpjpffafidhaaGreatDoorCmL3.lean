import Derived.Test.YtmbpjpffafidhaaGreatDoorCmL2
/-! Regions whose order is drawn. -/
namespace Go.Ev
variable {P : Program} {T : TT} {ι : Iota} {tm : TM} {a : Act} {o : Oper} {h : H} {w : World}

mutual
def beqV : V → V → Bool
  | .b x, .b y => x == y
  | .i k n, .i k' n' => k == k' && n == n'
  | .s x, .s y => x == y
  | .p B o, .p B' o' => B == B' && o == o'
  | .pn, .pn => true
  | .sl B o l c x, .sl B' o' l' c' x' => B == B' && o == o' && l == l' && c == c' && x == x'
  | .sn, .sn => true
  | .m B, .m B' => B == B'
  | .mn, .mn => true
  | .f g p q, .f g' p' q' => g == g' && beqVs p p' && beqVs q q'
  | .fn, .fn => true
  | .ic t v, .ic t' v' => t == t' && beqV v v'
  | .inn, .inn => true
  | .ag x, .ag y => beqVs x y
  | .tu x, .tu y => beqVs x y
  | .u, .u => true
  | _, _ => false
def beqVs : List V → List V → Bool
  | [], [] => true
  | x :: xs, y :: ys => beqV x y && beqVs xs ys
  | _, _ => false
end
mutual
theorem beqV_eq : ∀ {x y : V}, beqV x y = true → x = y
  | .b _, y, h => by cases y <;> simp_all [beqV]
  | .i _ _, y, h => by cases y <;> simp_all [beqV]
  | .s _, y, h => by cases y <;> simp_all [beqV]
  | .p _ _, y, h => by cases y <;> simp_all [beqV]
  | .pn, y, h => by cases y <;> simp_all [beqV]
  | .sl _ _ _ _ _, y, h => by cases y <;> simp_all [beqV]
  | .sn, y, h => by cases y <;> simp_all [beqV]
  | .m _, y, h => by cases y <;> simp_all [beqV]
  | .mn, y, h => by cases y <;> simp_all [beqV]
  | .f g p q, y, h => by
    cases y <;> simp only [beqV, Bool.false_eq_true] at h
    simp only [Bool.and_eq_true, beq_iff_eq] at h
    rw [h.1.1, beqVs_eq h.1.2, beqVs_eq h.2]
  | .fn, y, h => by cases y <;> simp_all [beqV]
  | .ic t v, y, h => by
    cases y <;> simp only [beqV, Bool.false_eq_true] at h
    simp only [Bool.and_eq_true, beq_iff_eq] at h
    rw [h.1, beqV_eq h.2]
  | .inn, y, h => by cases y <;> simp_all [beqV]
  | .ag x, y, h => by
    cases y <;> simp only [beqV, Bool.false_eq_true] at h
    rw [beqVs_eq h]
  | .tu x, y, h => by
    cases y <;> simp only [beqV, Bool.false_eq_true] at h
    rw [beqVs_eq h]
  | .u, y, h => by cases y <;> simp_all [beqV]
theorem beqVs_eq : ∀ {x y : List V}, beqVs x y = true → x = y
  | [], [], _ => rfl
  | [], _ :: _, h => by simp [beqVs] at h
  | _ :: _, [], h => by simp [beqVs] at h
  | x :: xs, y :: ys, h => by
    simp only [beqVs, Bool.and_eq_true] at h
    rw [beqV_eq h.1, beqVs_eq h.2]
end

def beqE : List (V × V × Nat) → List (V × V × Nat) → Bool
  | [], [] => true
  | (a, b, c) :: x, (d, e, f) :: y => beqV a d && beqV b e && c == f && beqE x y
  | _, _ => false
theorem beqE_eq : ∀ {x y : List (V × V × Nat)}, beqE x y = true → x = y
  | [], [], _ => rfl
  | [], _ :: _, h => by simp [beqE] at h
  | _ :: _, [], h => by simp [beqE] at h
  | (a, b, c) :: x, (d, e, f) :: y, h => by
    simp only [beqE, Bool.and_eq_true, beq_iff_eq] at h
    rw [beqV_eq h.1.1.1, beqV_eq h.1.1.2, h.1.2, beqE_eq h.2]
def beqB : Blk → Blk → Bool
  | .c x f q, .c y f' q' => beqVs x y && f == f' && q == q'
  | .mp x c, .mp y c' => beqE x y && c == c'
  | .it s p, .it s' p' => s == s' && p == p'
  | _, _ => false
theorem beqB_eq {x y : Blk} (h : beqB x y = true) : x = y := by
  cases x <;> cases y <;> simp only [beqB, Bool.false_eq_true] at h
  · simp only [Bool.and_eq_true, beq_iff_eq] at h; rw [beqVs_eq h.1.1, h.1.2, h.2]
  · simp only [Bool.and_eq_true, beq_iff_eq] at h; rw [beqE_eq h.1, h.2]
  · simp only [Bool.and_eq_true, beq_iff_eq] at h; rw [h.1, h.2]

def idOf : V → Option Nat
  | .p B _ => some B
  | .sl B _ _ _ _ => some B
  | .m B => some B
  | _ => none

theorem semN_id {ao : AO V} {b : Blk} {mk : Nat → V} (hs : semN ao = some (b, mk)) (n : Nat) : idOf (mk n) = some n := by
  cases ao <;> simp only [semN, reduceCtorEq] at hs
  all_goals (repeat' (split at hs))
  all_goals first
    | (cases hs; done)
    | (simp only [Option.some.injEq, Prod.mk.injEq] at hs; obtain ⟨_, rfl⟩ := hs; rfl)

/-- What has been read, what was made, again. -/
def chkA (r : RO) (tm : TM) (h : H) : Bool :=
  match guardA r.gd tm with
  | none => false
  | some false => true
  | some true => match r.dst with
    | none => false
    | some d => match r.op.cls with
      | 0 => true
      | 1 => match semN (r.op.map (evX tm)), idOf (tm d) with
        | some (b, mk), some id => (match h.get id with | some b' => beqB b' b | none => false) && beqV (tm d) (mk id)
        | _, _ => false
      | 2 => match semR (r.op.map (evX tm)) h with
        | some v => beqV (tm d) v
        | none => false
      | _ => false

/-- A slot: what acts, what is looked at again, what does not act. -/
structure Slot where
  eff : Option Nat
  chk : List Nat
  ops : List Nat

def runIx (call : CallF) (ros : List RO) : List Nat → TM → H → Option (TM × H)
  | [], tm, h => some (tm, h)
  | i :: is, tm, h => match ros[i]? with
    | none => none
    | some r => match stepA call r tm h with
      | none => none
      | some (tm, h) => runIx call ros is tm h

def runSlot (call : CallF) (ros : List RO) (s : Slot) (tm : TM) (h : H) : Option (TM × H) :=
  match (match s.eff with | none => some (tm, h) | some e => runIx call ros [e] tm h : Option (TM × H)) with
  | none => none
  | some (tm, h) => if s.chk.all (fun i => match ros[i]? with | some r => chkA r tm h | none => false) then runIx call ros s.ops tm h else none

def runSlots (call : CallF) (ros : List RO) : List Slot → TM → H → Option (TM × H)
  | [], tm, h => some (tm, h)
  | s :: ss, tm, h => match runSlot call ros s tm h with
    | none => none
    | some (tm, h) => runSlots call ros ss tm h

/-! ### the order -/
def maskOf (acc : List Nat) : List Edge → Nat
  | [] => 0
  | e :: es => if Region.binds .any e then (2 ^ e.on ||| acc.getD e.on 0) ||| maskOf acc es else maskOf acc es
def masksFrom : List Oper → List Nat → List Nat
  | [], acc => acc
  | o :: os, acc => masksFrom os (acc ++ [maskOf acc o.after.toList])

theorem masksFrom_pre : ∀ (os : List Oper) (acc : List Nat), ∃ tl, masksFrom os acc = acc ++ tl ∧ tl.length = os.length
  | [], acc => ⟨[], by simp [masksFrom], rfl⟩
  | o :: os, acc => by
    obtain ⟨tl, h1, h2⟩ := masksFrom_pre os (acc ++ [maskOf acc o.after.toList])
    exact ⟨maskOf acc o.after.toList :: tl, by simp [masksFrom, h1], by simp [h2]⟩

theorem maskOf_bit {acc : List Nat} {j : Nat} : ∀ {es : List Edge}, (maskOf acc es).testBit j = true → ∃ e ∈ es, Region.binds .any e = true ∧ (j = e.on ∨ (acc.getD e.on 0).testBit j = true)
  | [], h => by simp [maskOf] at h
  | e :: es, h => by
    simp only [maskOf] at h
    split at h
    · rename_i hb
      simp only [Nat.testBit_or, Bool.or_eq_true, Nat.testBit_two_pow, decide_eq_true_eq] at h
      rcases h with (h | h) | h
      · exact ⟨e, by simp, hb, .inl h.symm⟩
      · exact ⟨e, by simp, hb, .inr h⟩
      · obtain ⟨e', h1, h2⟩ := maskOf_bit h
        exact ⟨e', by simp [h1], h2⟩
    · obtain ⟨e', h1, h2⟩ := maskOf_bit h
      exact ⟨e', by simp [h1], h2⟩

theorem masks_get : ∀ (os : List Oper) (acc : List Nat) (i : Nat) (o : Oper), os[i]? = some o → (∀ e ∈ o.after.toList, Region.binds .any e = true → e.on < acc.length + i) →
    ∀ j, ((masksFrom os acc).getD (acc.length + i) 0).testBit j = true → ∃ e ∈ o.after.toList, Region.binds .any e = true ∧ (j = e.on ∨ ((masksFrom os acc).getD e.on 0).testBit j = true)
  | [], acc, i, o, h, _, j, hj => by simp at h
  | o' :: os, acc, i, o, h, he, j, hj => by
    cases i with
    | zero =>
      simp at h; subst h
      simp only [masksFrom] at hj ⊢
      obtain ⟨tl, h1, _⟩ := masksFrom_pre os (acc ++ [maskOf acc o'.after.toList])
      rw [h1] at hj ⊢
      have : (acc ++ [maskOf acc o'.after.toList] ++ tl).getD (acc.length + 0) 0 = maskOf acc o'.after.toList := by simp [List.getD]
      rw [this] at hj
      obtain ⟨e, e1, e2, e3⟩ := maskOf_bit hj
      refine ⟨e, e1, e2, ?_⟩
      rcases e3 with e3 | e3
      · exact .inl e3
      · right
        have hlt := he e e1 e2
        have : (acc ++ [maskOf acc o'.after.toList] ++ tl).getD e.on 0 = acc.getD e.on 0 := by
          simp only [List.getD, List.append_assoc]
          rw [List.getElem?_append_left (by simpa using hlt)]
        rw [this]; exact e3
    | succ i =>
      simp at h
      simp only [masksFrom] at hj ⊢
      have h3 := masks_get os (acc ++ [maskOf acc o'.after.toList]) i o h (fun e h1 h2 => by have := he e h1 h2; simp; omega) j (by
        have : (acc ++ [maskOf acc o'.after.toList]).length + i = acc.length + (i + 1) := by simp; omega
        rw [this]; exact hj)
      exact h3

end Go.Ev

namespace Go.Ev
variable {P : Program} {T : TT}

/-- The operands. -/
def AO.xs {α : Type} : AO α → List α
  | .mv x | .un _ x | .cvi _ x | .cvs x | .nck x | .fa _ x | .fld _ _ _ x | .ext _ x | .mki _ x | .len _ x | .cap x | .box _ x | .s2b x | .rgs x | .ld x | .ldn _ x | .lenm x | .b2s x | .clrm x | .nxs x | .mnz _ x | .sd x | .cvr _ _ x => [x]
  | .pick a b c | .mup _ a b c | .mst a b c => [a, b, c]
  | .bin _ x y | .eq _ _ x y | .eqs _ _ x y | .ia _ x y | .iaa _ _ x y | .ix x y | .ixa _ _ _ x y | .ixb x y | .mks _ _ _ x y | .lk _ _ _ x y | .st x y | .stn _ x y | .app _ _ _ x y | .ustr _ x y | .cpy _ x y | .mpe _ _ x y => [x, y]
  | .sls x l h | .slv _ x l h | .sla _ _ x l h => x :: (l.toList ++ h.toList)
  | .build _ ps | .bsl _ _ _ ps => ps.map (·.2.2)
  | .mkf _ a b => a ++ b
  | .mm _ x ys => x :: ys
  | .alloc .. | .mkm => []
  | .call _ as => as
  | .callv x as => x :: as

theorem AO.map_congr {α β : Type} {f g : α → β} (o : AO α) (h : ∀ x ∈ o.xs, f x = g x) : o.map f = o.map g := by
  have hl : ∀ l : List α, (∀ x ∈ l, f x = g x) → l.map f = l.map g := fun l hl => List.map_congr_left hl
  have ho : ∀ l : Option α, (∀ x ∈ l.toList, f x = g x) → l.map f = l.map g := fun l hl => by
    cases l with
    | none => rfl
    | some x => simp [hl x (by simp)]
  have hp : ∀ l : List (Nat × Nat × α), (∀ x ∈ l.map (·.2.2), f x = g x) → (l.map fun (o, s, x) => (o, s, f x)) = l.map fun (o, s, x) => (o, s, g x) := fun l hl => by
    apply List.map_congr_left
    rintro ⟨o, s, x⟩ hx
    simp only [Prod.mk.injEq, true_and]
    exact hl x (List.mem_map.2 ⟨_, hx, rfl⟩)
  cases o <;> simp only [AO.map, AO.xs] at h ⊢ <;> first
    | rfl
    | (simp only [List.mem_cons, List.not_mem_nil, or_false, forall_eq_or_imp, forall_eq] at h; simp only [h]; done)
    | (rw [hp _ h]; done)
    | (rw [hl _ h]; done)
    | (simp only [List.mem_cons, forall_eq_or_imp] at h; rw [h.1, hl _ h.2]; done)
    | (simp only [List.mem_append, List.mem_cons] at h; rw [h _ (.inl rfl), ho _ fun x hx => h x (.inr (.inl hx)), ho _ fun x hx => h x (.inr (.inr hx))]; done)
    | (simp only [List.mem_append] at h; rw [hl _ fun x hx => h x (.inl hx), hl _ fun x hx => h x (.inr hx)]; done)

def X.slot : X → Option Nat
  | .t n => some n
  | .k _ => none
theorem map_agree {ao : AO X} {tm tm' : TM} (h : ∀ t, t ∈ ao.xs.filterMap X.slot → tm t = tm' t) : ao.map (evX tm) = ao.map (evX tm') := by
  refine AO.map_congr ao fun x hx => ?_
  cases x with
  | k v => rfl
  | t n => exact h n (List.mem_filterMap.2 ⟨_, hx, rfl⟩)

theorem cellsAt_mono {h h' : H} (hm : ∀ B b, h.get B = some b → h'.get B = some b) {B o n : Nat} {vs : List V} (hs : cellsAt h B o n = some vs) : cellsAt h' B o n = some vs := by
  unfold cellsAt at hs ⊢
  cases hB : h.get B with
  | none => simp [hB] at hs
  | some b => rw [hB] at hs; rw [hm _ _ hB]; exact hs

theorem semR_mono {h h' : H} (hm : ∀ B b, h.get B = some b → h'.get B = some b) {ao : AO V} {v : V} (hs : semR ao h = some v) : semR ao h' = some v := by
  cases ao <;> simp only [semR, reduceCtorEq] at hs ⊢
  · split at hs
    · rename_i B o
      split at hs
      · rename_i cs fz q hB; simp only [hm _ _ hB]; exact hs
      · cases hs
    · cases hs
  · split at hs
    · rename_i B o
      simp only [Option.map_eq_some_iff] at hs ⊢
      obtain ⟨vs, h1, h2⟩ := hs
      exact ⟨vs, cellsAt_mono hm h1, h2⟩
    · cases hs
  · split at hs
    · exact hs
    · rename_i B
      split at hs
      · rename_i es c hB; simp only [hm _ _ hB]; exact hs
      · cases hs
    · cases hs
  · split at hs
    · rename_i hok
      simp only [hok, if_true]
      split at hs
      · cases hs
      · rename_i es hes
        split at hes
        · simp only [Option.some.injEq] at hes; subst hes; exact hs
        · rename_i B
          split at hes
          · rename_i es' c hB
            simp only [Option.some.injEq] at hes; subst hes
            simp only [hm _ _ hB]; exact hs
          · cases hes
        · cases hes
    · cases hs
  · split at hs
    · exact hs
    · split at hs
      · rename_i cs hc
        simp only [cellsAt_mono hm hc]; exact hs
      · cases hs
    · cases hs
  · split at hs
    · exact hs
    · split at hs
      · rename_i cs fz q hB; simp only [hm _ _ hB]; exact hs
      · cases hs
    · cases hs

/-! ### the plan of a region -/
section
variable (ros : List RO) (pre : Nat → Nat → Bool) (nm : Nat → List Nat)

/-- The slot t is written by operation j. -/
def wr (t j : Nat) : Prop := ∃ r, ros[j]? = some r ∧ r.dst = some t

def GoodOps : List Nat → List Nat → Prop
  | _, [] => True
  | D, i :: is => (∃ r, ros[i]? = some r ∧ r.op.cls ≤ 2 ∧ (r.op.cls = 1 → r.dst ≠ none)) ∧ i ∉ D ∧ (∀ j, pre i j = true → j ∈ D) ∧ (∀ j ∈ D, pre j i = false) ∧ GoodOps (D ++ [i]) is

/-- An operation that is looked at again: nothing that it reads is written behind it. -/
def Chkable (i : Nat) : Prop := ∀ t ∈ nm i, ∀ j, wr ros t j → pre i j = true

structure Slot.good (D : List Nat) (s : Slot) (e : Nat) : Prop where
  eff : ∃ r, ros[e]? = some r ∧ 3 ≤ r.op.cls
  new : e ∉ D
  after : ∀ j ∈ D, pre j e = false
  chain : ∀ j ∈ D, ∀ r, ros[j]? = some r → 3 ≤ r.op.cls → pre e j = true
  chk : ∀ j ∈ D, ∀ r, ros[j]? = some r → r.op.cls = 1 ∨ r.op.cls = 2 → pre e j = true ∨ j ∈ s.chk
  chkD : ∀ j ∈ s.chk, j ∈ D ∧ Chkable ros pre nm j
  hang : ∀ i ∈ s.ops, pre i e = true

def Good : List Nat → List Slot → Prop
  | D, [] => ∀ i, i < ros.length → i ∈ D
  | D, s :: ss => ∃ e, s.eff = some e ∧ Slot.good ros pre nm D s e ∧ GoodOps ros pre (D ++ [e]) s.ops ∧ Good (D ++ [e] ++ s.ops) ss

structure Names : Prop where
  one : ∀ t i j, wr ros t i → wr ros t j → i = j
  ord : ∀ i t j, t ∈ nm i → wr ros t j → j = i ∨ pre i j = true ∨ pre j i = true
  cov : ∀ i r, ros[i]? = some r → (∀ t ∈ r.op.xs.filterMap X.slot, t ∈ nm i) ∧ (∀ d want, r.gd = some (d, want) → d ∈ nm i)
end

open Classical in
/-- What an operation finds in the slots. -/
noncomputable def opv (ros : List RO) (pre : Nat → Nat → Bool) (tm0 tm : TM) (i : Nat) : TM := fun t => if ∃ j, wr ros t j ∧ pre i j = true then tm t else tm0 t

/-- An operation that has been run ahead answers as it did. -/
def Stab (ros : List RO) (pre : Nat → Nat → Bool) (n0 : Nat) (tm0 tm : TM) (h : H) (ι : Iota) (i : Nat) : Prop :=
  ∃ r, ros[i]? = some r ∧
    ((guardA r.gd (opv ros pre tm0 tm i) = some false ∧ ∀ d, r.dst = some d → tm d = .tu []) ∨
     (guardA r.gd (opv ros pre tm0 tm i) = some true ∧
      ((r.op.cls = 0 ∧ ∃ v, semP (r.op.map (evX (opv ros pre tm0 tm i))) = some v ∧ ∀ d, r.dst = some d → tm d = v) ∨
       (r.op.cls = 1 ∧ ∃ blk mk id d, semN (r.op.map (evX (opv ros pre tm0 tm i))) = some (blk, mk) ∧ r.dst = some d ∧ tm d = mk id ∧ h.get id = some blk ∧ ι id = none ∧ id < h.nx ∧ n0 ≤ id) ∨
       (r.op.cls = 2 ∧ ∃ v, semR (r.op.map (evX (opv ros pre tm0 tm i))) h = some v ∧ ∀ d, r.dst = some d → tm d = v))))

theorem guardA_congr {gd : Option (Nat × Bool)} {tm tm' : TM} (h : ∀ d want, gd = some (d, want) → tm d = tm' d) : guardA gd tm = guardA gd tm' := by
  cases gd with
  | none => rfl
  | some x => obtain ⟨d, want⟩ := x; simp only [guardA]; rw [h d want rfl]

/-- What holds of the operations that have been run on paper. -/
structure Pend (ros : List RO) (pre : Nat → Nat → Bool) (n0 : Nat) (tm0 : TM) (ι : Iota) (D : List Nat) (S : Nat → Prop) (tm : TM) (h : H) : Prop where
  tmD : ∀ t, (∀ j ∈ D, ¬ wr ros t j) → tm t = tm0 t
  stab : ∀ i ∈ D, ¬ S i → Stab ros pre n0 tm0 tm h ι i
  n0 : n0 ≤ h.nx
  idlt : ∀ i ∈ D, ∀ r d id, ros[i]? = some r → r.op.cls = 1 → r.dst = some d → idOf (tm d) = some id → id < h.nx
  dist : ∀ i ∈ D, ∀ j ∈ D, i ≠ j → ∀ r r' d d' id, ros[i]? = some r → ros[j]? = some r' → r.op.cls = 1 → r'.op.cls = 1 → r.dst = some d → r'.dst = some d' → idOf (tm d) = some id → idOf (tm d') = some id → False
  cl : ∀ i ∈ D, ¬ S i → ∀ j, pre i j = true → j ∈ D

theorem putD_ne {tm : TM} {d : Option Nat} {v : V} {t : Nat} (h : ∀ d', d = some d' → t ≠ d') : putD tm d v t = tm t := by
  cases d with
  | none => rfl
  | some d => simp only [putD]; rw [if_neg (h d rfl)]
theorem putD_eq {tm : TM} {d : Nat} {v : V} : putD tm (some d) v d = v := by simp [putD]

variable {ros : List RO} {pre : Nat → Nat → Bool} {nm : Nat → List Nat}

theorem opv_keep {tm0 tm tm1 : TM} {D : List Nat} {i j : Nat} {r : RO} (hN : Names ros pre nm) (hi : ros[i]? = some r) (hiD : i ∉ D) (hcl : ∀ l, pre j l = true → l ∈ D) (htm : ∀ t, (∀ d, r.dst = some d → t ≠ d) → tm1 t = tm t) :
    opv ros pre tm0 tm1 j = opv ros pre tm0 tm j := by
  funext t
  unfold opv
  split
  · rename_i hex
    obtain ⟨l, hl, hpl⟩ := hex
    refine htm t fun d hd heq => ?_
    subst heq
    have := hN.one t l i hl ⟨r, hi, hd⟩
    subst this
    exact hiD (hcl _ hpl)
  · rfl

theorem Stab.keep {n0 : Nat} {tm0 tm tm1 : TM} {h h1 : H} {ι : Iota} {D : List Nat} {i j : Nat} {r : RO} (hN : Names ros pre nm) (hi : ros[i]? = some r) (hiD : i ∉ D) (hjD : j ∈ D) (hcl : ∀ l, pre j l = true → l ∈ D)
    (htm : ∀ t, (∀ d, r.dst = some d → t ≠ d) → tm1 t = tm t) (hm : ∀ B b, h.get B = some b → h1.get B = some b) (hnx : h.nx ≤ h1.nx) (hs : Stab ros pre n0 tm0 tm h ι j) : Stab ros pre n0 tm0 tm1 h1 ι j := by
  obtain ⟨q, hq, hs⟩ := hs
  have ho := opv_keep (tm0 := tm0) hN hi hiD hcl htm
  have hd : ∀ d, q.dst = some d → tm1 d = tm d := fun d hd => htm d fun d' hd' heq => by
    subst heq
    have := hN.one d j i ⟨q, hq, hd⟩ ⟨r, hi, hd'⟩
    subst this
    exact hiD hjD
  refine ⟨q, hq, ?_⟩
  rw [ho]
  rcases hs with ⟨g, hv⟩ | ⟨g, ⟨c, v, e1, e2⟩ | ⟨c, blk, mk, id, d, e1, e2, e3, e4, e5, e6, e7⟩ | ⟨c, v, e1, e2⟩⟩
  · exact .inl ⟨g, fun d h => by rw [hd d h]; exact hv d h⟩
  · exact .inr ⟨g, .inl ⟨c, v, e1, fun d h => by rw [hd d h]; exact e2 d h⟩⟩
  · exact .inr ⟨g, .inr (.inl ⟨c, blk, mk, id, d, e1, e2, by rw [hd d e2]; exact e3, hm _ _ e4, e5, by omega, e7⟩)⟩
  · exact .inr ⟨g, .inr (.inr ⟨c, v, semR_mono hm e1, fun d h => by rw [hd d h]; exact e2 d h⟩)⟩

/-- One operation that does not act is run on paper. -/
theorem pend_step {n0 : Nat} {call : CallF} {tm0 tm tm1 : TM} {h h1 : H} {ι : Iota} {D : List Nat} {S : Nat → Prop} {i : Nat} {r : RO} {w : World} (hN : Names ros pre nm) (hp : Pend ros pre n0 tm0 ι D S tm h) (hh : HRel ι h w) (hi : ros[i]? = some r) (hcls : r.op.cls ≤ 2)
    (hdst : r.op.cls = 1 → r.dst ≠ none) (hiD : i ∉ D) (hpre : ∀ j, pre i j = true → j ∈ D) (hpost : ∀ j ∈ D, pre j i = false) (hs : stepA call r tm h = some (tm1, h1)) :
    Pend ros pre n0 tm0 ι (D ++ [i]) S tm1 h1 ∧ HRel ι h1 w ∧ (∀ B b, h.get B = some b → h1.get B = some b) ∧ h.nx ≤ h1.nx ∧ (∀ t, (∀ d, r.dst = some d → t ≠ d) → tm1 t = tm t) ∧ (∀ B b, h1.get B = some b → h.get B = some b ∨ h.nx ≤ B) := by
  have hcov := hN.cov i r hi
  have hag : ∀ t ∈ nm i, opv ros pre tm0 tm i t = tm t := by
    intro t ht
    unfold opv
    split
    · rfl
    · rename_i hno
      refine (hp.tmD t fun j hj hw => ?_).symm
      rcases hN.ord i t j ht hw with rfl | h2 | h2
      · exact hiD hj
      · exact hno ⟨j, hw, h2⟩
      · rw [hpost j hj] at h2; cases h2
  have hgd : guardA r.gd (opv ros pre tm0 tm i) = guardA r.gd tm := guardA_congr fun d want hd => hag d (hcov.2 d want hd)
  have hmp : r.op.map (evX (opv ros pre tm0 tm i)) = r.op.map (evX tm) := map_agree fun t ht => hag t (hcov.1 t ht)
  -- what the step did
  have key : (∀ t, (∀ d, r.dst = some d → t ≠ d) → tm1 t = tm t) ∧ HRel ι h1 w ∧ (∀ B b, h.get B = some b → h1.get B = some b) ∧ h.nx ≤ h1.nx ∧ (∀ B b, h1.get B = some b → h.get B = some b ∨ h.nx ≤ B) ∧
      ((guardA r.gd tm = some false ∧ ∀ d, r.dst = some d → tm1 d = .tu []) ∨
       (guardA r.gd tm = some true ∧
        ((r.op.cls = 0 ∧ ∃ v, semP (r.op.map (evX tm)) = some v ∧ ∀ d, r.dst = some d → tm1 d = v) ∨
         (r.op.cls = 1 ∧ ∃ blk mk d, semN (r.op.map (evX tm)) = some (blk, mk) ∧ r.dst = some d ∧ tm1 d = mk h.nx ∧ h1.get h.nx = some blk ∧ h1.nx = h.nx + 1) ∨
         (r.op.cls = 2 ∧ ∃ v, semR (r.op.map (evX tm)) h = some v ∧ h1 = h ∧ ∀ d, r.dst = some d → tm1 d = v)))) := by
    unfold stepA at hs
    split at hs
    · cases hs
    · rename_i hg
      simp only [Option.some.injEq, Prod.mk.injEq] at hs
      obtain ⟨rfl, rfl⟩ := hs
      exact ⟨fun t ht => putD_ne ht, hh, fun _ _ h => h, Nat.le_refl _, fun _ _ h => .inl h, .inl ⟨hg, fun d hd => by rw [hd]; exact putD_eq⟩⟩
    · rename_i hg
      split at hs
      · cases hs
      · rename_i v h2 hsem
        simp only [Option.some.injEq, Prod.mk.injEq] at hs
        obtain ⟨rfl, rfl⟩ := hs
        rw [semAll_ne (by rw [AO.cls_map]; omega), AO.cls_map] at hsem
        have hc3 : r.op.cls = 0 ∨ r.op.cls = 1 ∨ r.op.cls = 2 := by omega
        rcases hc3 with hc | hc | hc
        · rw [hc] at hsem
          simp only [Option.map_eq_some_iff, Prod.mk.injEq] at hsem
          obtain ⟨v', h3, rfl, rfl⟩ := hsem
          exact ⟨fun t ht => putD_ne ht, hh, fun _ _ h => h, Nat.le_refl _, fun _ _ h => .inl h, .inr ⟨hg, .inl ⟨hc, v', h3, fun d hd => by rw [hd]; exact putD_eq⟩⟩⟩
        · rw [hc] at hsem
          simp only [Option.map_eq_some_iff, Prod.mk.injEq] at hsem
          obtain ⟨⟨blk, mk⟩, h3, rfl, rfl⟩ := hsem
          obtain ⟨d, hd⟩ := Option.ne_none_iff_exists'.1 (hdst hc)
          have hmono : ∀ B b, h.get B = some b → (h.new blk).get B = some b := fun B b hB => by
            rw [H.get_new, if_neg (Nat.ne_of_lt (hh.dom _ _ hB))]; exact hB
          refine ⟨fun t ht => putD_ne ht, ⟨?_, ?_, ?_, ?_⟩, hmono, by simp, ?_, .inr ⟨hg, .inr (.inl ⟨hc, blk, mk, d, h3, hd, by rw [hd]; exact putD_eq, by rw [H.get_new, if_pos rfl], rfl⟩)⟩⟩
          · intro B b e hB he
            rw [H.get_new, if_neg (Nat.ne_of_lt (hh.lt _ _ he))] at hB
            exact hh.br B b e hB he
          · intro B B' b b' e e' hne hB hB' he he' ho
            rw [H.get_new, if_neg (Nat.ne_of_lt (hh.lt _ _ he))] at hB
            rw [H.get_new, if_neg (Nat.ne_of_lt (hh.lt _ _ he'))] at hB'
            exact hh.inj _ _ _ _ _ _ hne hB hB' he he' ho
          · intro B e he; have := hh.lt _ _ he; simp; omega
          · intro B b hB
            rw [H.get_new] at hB
            split at hB
            · rename_i heq; subst heq; simp
            · have := hh.dom _ _ hB; simp; omega
          · intro B b hB
            rw [H.get_new] at hB
            split at hB
            · rename_i heq; right; omega
            · exact .inl hB
        · rw [hc] at hsem
          simp only [Option.map_eq_some_iff, Prod.mk.injEq] at hsem
          obtain ⟨v', h3, rfl, rfl⟩ := hsem
          exact ⟨fun t ht => putD_ne ht, hh, fun _ _ h => h, Nat.le_refl _, fun _ _ h => .inl h, .inr ⟨hg, .inr (.inr ⟨hc, v', h3, rfl, fun d hd => by rw [hd]; exact putD_eq⟩)⟩⟩
  obtain ⟨htm, hh1, hm, hnx, hback, hcase⟩ := key
  have hopv : opv ros pre tm0 tm1 i = opv ros pre tm0 tm i := opv_keep hN hi hiD hpre htm
  have hself : ∀ j ∈ D, ∀ q d, ros[j]? = some q → q.dst = some d → tm1 d = tm d := fun j hj q d hq hd => htm d fun d' hd' heq => by
    subst heq
    have := hN.one d j i ⟨q, hq, hd⟩ ⟨r, hi, hd'⟩
    subst this
    exact hiD hj
  refine ⟨⟨?_, ?_, Nat.le_trans hp.n0 hnx, ?_, ?_, ?_⟩, hh1, hm, hnx, htm, hback⟩
  · intro t ht
    rw [htm t fun d hd heq => ht i (by simp) ⟨r, hi, by rw [hd, heq]⟩]
    exact hp.tmD t fun j hj => ht j (by simp [hj])
  · intro j hj hS
    rcases List.mem_append.1 hj with hj | hj
    · exact (hp.stab j hj hS).keep hN hi hiD hj (hp.cl j hj hS) htm hm hnx
    · simp only [List.mem_singleton] at hj
      subst hj
      refine ⟨r, hi, ?_⟩
      rw [hopv, hgd, hmp]
      rcases hcase with h1 | ⟨g, h2 | ⟨c, blk, mk, d, e1, e2, e3, e4, e5⟩ | ⟨c, v, e1, e2, e3⟩⟩
      · exact .inl h1
      · exact .inr ⟨g, .inl h2⟩
      · refine .inr ⟨g, .inr (.inl ⟨c, blk, mk, h.nx, d, e1, e2, e3, e4, ?_, by omega, hp.n0⟩)⟩
        cases hq : ι h.nx with
        | none => rfl
        | some e => exact absurd (hh.lt _ _ hq) (Nat.lt_irrefl _)
      · subst e2; exact .inr ⟨g, .inr (.inr ⟨c, v, e1, e3⟩)⟩
  · intro j hj q d id hq hc hd hid
    rcases List.mem_append.1 hj with hj | hj
    · rw [hself j hj q d hq hd] at hid
      have := hp.idlt j hj q d id hq hc hd hid; omega
    · simp only [List.mem_singleton] at hj
      subst hj
      rw [hi] at hq; injection hq with hq; subst hq
      rcases hcase with ⟨_, h1⟩ | ⟨g, ⟨c, _⟩ | ⟨c, blk, mk, d', e1, e2, e3, e4, e5⟩ | ⟨c, _⟩⟩
      · rw [h1 d hd] at hid; cases hid
      · omega
      · rw [hd] at e2; injection e2 with e2; subst e2
        rw [e3, semN_id e1] at hid
        injection hid with hid; omega
      · omega
  · intro j hj l hl hne q q' d d' id hq hq' hc hc' hd hd' hid hid'
    have bound : ∀ k ∈ D, ∀ q d id, ros[k]? = some q → q.op.cls = 1 → q.dst = some d → idOf (tm1 d) = some id → id < h.nx := fun k hk q d id hq hc hd hid => by
      rw [hself k hk q d hq hd] at hid; exact hp.idlt k hk q d id hq hc hd hid
    have mine : ∀ d id, r.op.cls = 1 → r.dst = some d → idOf (tm1 d) = some id → id = h.nx := fun d id hcc hd hid => by
      rcases hcase with ⟨_, h1⟩ | ⟨g, ⟨c, _⟩ | ⟨c, blk, mk, d', e1, e2, e3, e4, e5⟩ | ⟨c, _⟩⟩
      · rw [h1 d hd] at hid; cases hid
      · omega
      · rw [hd] at e2; injection e2 with e2; subst e2
        rw [e3, semN_id e1] at hid
        injection hid with hid; exact hid.symm
      · omega
    rcases List.mem_append.1 hj with hj1 | hj1
    · rcases List.mem_append.1 hl with hl1 | hl1
      · rw [hself j hj1 q d hq hd] at hid
        rw [hself l hl1 q' d' hq' hd'] at hid'
        exact hp.dist j hj1 l hl1 hne q q' d d' id hq hq' hc hc' hd hd' hid hid'
      · have hl2 : l = i := by simpa using hl1
        rw [hl2, hi] at hq'; injection hq' with hq'; subst hq'
        have h1 := bound j hj1 q d id hq hc hd hid
        have h2 := mine d' id hc' hd' hid'
        omega
    · have hj2 : j = i := by simpa using hj1
      rw [hj2, hi] at hq; injection hq with hq; subst hq
      have h2 := mine d id hc hd hid
      rcases List.mem_append.1 hl with hl1 | hl1
      · have h1 := bound l hl1 q' d' id hq' hc' hd' hid'
        omega
      · have hl2 : l = i := by simpa using hl1
        exact hne (hj2.trans hl2.symm)
  · intro j hj hS l hl
    rcases List.mem_append.1 hj with hj | hj
    · exact List.mem_append.2 (.inl (hp.cl j hj hS l hl))
    · simp only [List.mem_singleton] at hj
      subst hj
      exact List.mem_append.2 (.inl (hpre l hl))

end Go.Ev

namespace Go.Ev
variable {P : Program} {T : TT} {ros : List RO} {pre : Nat → Nat → Bool} {nm : Nat → List Nat}

theorem pend_ops {n0 : Nat} {call : CallF} {tm0 : TM} {ι : Iota} {S : Nat → Prop} {w : World} (hN : Names ros pre nm) : ∀ (is D : List Nat) (tm tm' : TM) (h h' : H), GoodOps ros pre D is → runIx call ros is tm h = some (tm', h') → Pend ros pre n0 tm0 ι D S tm h → HRel ι h w →
    Pend ros pre n0 tm0 ι (D ++ is) S tm' h' ∧ HRel ι h' w ∧ h.nx ≤ h'.nx ∧ (∀ t, (∀ i ∈ is, ¬ wr ros t i) → tm' t = tm t) ∧ (∀ B b, h'.get B = some b → h.get B = some b ∨ h.nx ≤ B) ∧ (∀ i ∈ is, ∀ r, ros[i]? = some r → r.op.cls ≤ 2) := by
  intro is
  induction is with
  | nil =>
    intro D tm tm' h h' _ hr hp hh
    simp only [runIx, Option.some.injEq, Prod.mk.injEq] at hr
    obtain ⟨rfl, rfl⟩ := hr
    exact ⟨by simpa using hp, hh, Nat.le_refl _, fun _ _ => rfl, fun _ _ h => .inl h, by simp⟩
  | cons i is ih =>
    intro D tm tm' h h' hg hr hp hh
    obtain ⟨⟨r, hi, hc, hd⟩, g2, g3, g4, g5⟩ := hg
    simp only [runIx, hi] at hr
    split at hr
    · cases hr
    · rename_i tm1 h1 hst
      obtain ⟨p1, p2, p3, p4, p5, p6⟩ := pend_step hN hp hh hi hc hd g2 g3 g4 hst
      obtain ⟨q1, q2, q3, q4, q5, q6⟩ := ih (D ++ [i]) tm1 tm' h1 h' g5 hr p1 p2
      refine ⟨by simpa using q1, q2, Nat.le_trans p4 q3, fun t ht => ?_, fun B b hB => ?_, fun j hj q hq => ?_⟩
      · rw [q4 t fun j hj => ht j (by simp [hj]), p5 t fun d hd heq => ht i (by simp) ⟨r, hi, by rw [hd, heq]⟩]
      · rcases q5 B b hB with h2 | h2
        · exact p6 B b h2
        · right; omega
      · rcases List.mem_cons.1 hj with rfl | hj
        · rw [hi] at hq; injection hq with hq; subst hq; exact hc
        · exact q6 j hj q hq

theorem ext_grow {ι ι' : Iota} {h h1 h2 : H} {w w' : World} (he : Ext ι h w ι' h1 w') (hh : HRel ι' h1 w') (hnx : h1.nx ≤ h2.nx) (hb : ∀ B b, h2.get B = some b → h1.get B = some b ∨ h1.nx ≤ B) : Ext ι h w ι' h2 w' :=
  ⟨he.le, he.old, Nat.le_trans he.nx hnx, he.size, fun B b e hB ho hι => by
    rcases hb B b hB with h3 | h3
    · exact he.own B b e h3 ho hι
    · exact absurd (hh.lt _ _ hι) (by omega), he.frame, he.os, he.output⟩

/-- The state between two operations of a region whose order is drawn. -/
structure Inv (ros : List RO) (pre : Nat → Nat → Bool) (nm : Nat → List Nat) (call : CallF) (nt : Nat) (ι0 : Iota) (tm0 : TM) (h0 : H) (w0 : World) (tmF : TM) (hF : H) (S : Nat → Prop) (a : Act) (w : World) : Prop where
  ex : ∃ (ι : Iota) (D : List Nat) (todo : List Slot) (tm : TM) (h : H), runSlots call ros todo tm h = some (tmF, hF) ∧ Good ros pre nm D todo ∧ (∀ i, S i → i ∈ D) ∧ (∀ i ∈ D, ¬ S i → ∀ r, ros[i]? = some r → r.op.cls ≤ 2) ∧
    Pend ros pre h0.nx tm0 ι D S tm h ∧ (∀ t, (∃ j, wr ros t j ∧ S j) → VR ι (tm t) (a.tmps.getD t undef)) ∧ (∀ t, ¬ (∃ j, wr ros t j ∧ S j) → VR ι (tm0 t) (a.tmps.getD t undef)) ∧ HRel ι h w ∧ Ext ι0 h0 w0 ι h w
  size : a.tmps.size = nt
  defers : a.defers = []

/-- What a slot's list holds: its effect comes first of what is left. -/
theorem good_left {i e0 : Nat} {s : Slot} {S : Nat → Prop} : ∀ (ss : List Slot) (D : List Nat), Good ros pre nm D (s :: ss) → s.eff = some e0 → i < ros.length → i ∉ D → i ≠ e0 → (∀ l, pre i l = true → S l) → (∀ i, S i → i ∈ D) → False := by
  intro ss D hg he hlt hiD hne hpre hSD
  obtain ⟨e, h1, h2, h3, h4⟩ := hg
  rw [he] at h1; injection h1 with h1; subst h1
  have he0 : ¬ S e0 := fun h => h2.new (hSD _ h)
  -- either i hangs on e0, or on a later effect that is not done, or is a later effect
  have key : ∀ (ss : List Slot) (D' : List Nat), Good ros pre nm D' ss → e0 ∈ D' → (∀ x ∈ D', x ∉ D → True) → (∀ i, S i → i ∈ D') → i ∉ D' → False := by
    intro ss
    induction ss with
    | nil => intro D' hg _ _ _ hi; exact hi (hg i hlt)
    | cons s ss ih =>
      intro D' hg he0D _ hSD' hi
      obtain ⟨e, g1, g2, g3, g4⟩ := hg
      by_cases hie : i = e
      · subst hie
        obtain ⟨r0, hr0, hc0⟩ := h2.eff
        exact he0 (hpre e0 (g2.chain e0 he0D r0 hr0 hc0))
      · have heS : ¬ S e := fun h => g2.new (hSD' _ h)
        have hio : i ∉ s.ops := fun h => heS (hpre e (g2.hang i h))
        refine ih _ g4 (by simp [he0D]) (fun _ _ _ => trivial) (fun j hj => by simp [hSD' j hj]) ?_
        simp only [List.mem_append, List.mem_singleton, not_or]
        exact ⟨⟨hi, hie⟩, hio⟩
  have hio : i ∉ s.ops := fun h => he0 (hpre e0 (h2.hang i h))
  refine key ss _ h4 (by simp) (fun _ _ _ => trivial) (fun j hj => by simp [hSD j hj]) ?_
  simp only [List.mem_append, List.mem_singleton, not_or]
  exact ⟨⟨hiD, hne⟩, hio⟩

theorem getD_put' {a : Act} {nt : Nat} (hsz : a.tmps.size = nt) {d : Option Nat} (x : Value) (hd : ∀ d', d = some d' → d' < nt) (t : Nat) : (a.put d x).tmps.getD t undef = if d = some t then x else a.tmps.getD t undef :=
  getD_put a d x t fun d' h => by rw [hsz]; exact hd d' h

end Go.Ev

namespace Go.Ev
variable {P : Program} {T : TT} {ros : List RO} {pre : Nat → Nat → Bool} {nm : Nat → List Nat}

/-- The new location of a block that has been made on paper before. -/
theorem rel_place {ι ι0 : Iota} {h h0 : H} {w w0 w' : World} (hh : HRel ι h w) (hext : Ext ι0 h0 w0 ι h w) {id : Nat} {blk : Blk} (hid : h.get id = some blk) (hno : ι id = none) (hn0 : h0.nx ≤ id) (hlt : id < h.nx) {e : Loc} (her : e.r = w.heap.size)
    (hw : w'.heap.size = w.heap.size + 1 ∧ ∀ j, j < w.heap.size → w'.heap[j]? = w.heap[j]?) (hos : w'.os = w.os) (hout : w'.output = w.output) (hbr : ∀ ι', ι.le ι' → ι' id = some e → BR ι' e w' blk) :
    ∃ ι' : Iota, ι.le ι' ∧ ι' id = some e ∧ (∀ B, B ≠ id → ι' B = ι B) ∧ HRel ι' h w' ∧ Ext ι0 h0 w0 ι' h w' := by
  let ι' : Iota := fun B => if B = id then some e else ι B
  have h1 : ι' id = some e := if_pos rfl
  have h2 : ∀ B, B ≠ id → ι' B = ι B := fun B hB => if_neg hB
  have hle : ι.le ι' := fun B e' he => by
    rw [h2 B fun hq => by subst hq; rw [hno] at he; cases he]; exact he
  refine ⟨ι', hle, h1, h2, ⟨?_, ?_, ?_, hh.dom⟩, ⟨Iota.le_trans hext.le hle, fun B hB => ?_, hext.nx, ?_, ?_, ?_, hos.trans hext.os, hout.trans hext.output⟩⟩
  · intro B b e' hb he'
    by_cases hq : B = id
    · subst hq
      rw [hid] at hb; injection hb with hb; subst hb
      rw [h1] at he'; injection he' with he'; subst he'
      exact hbr ι' hle h1
    · rw [h2 B hq] at he'
      have := hh.br B b e' hb he'
      exact this.mono hle (hw.2 _ this.lt)
  · intro B1 B2 b1 b2 e1 e2 hne hb1 hb2 he1 he2 ho
    by_cases hq1 : B1 = id
    · subst hq1
      rw [h1] at he1; injection he1 with he1; subst he1
      rw [h2 B2 (Ne.symm hne)] at he2
      have := (hh.br _ _ _ hb2 he2).lt
      omega
    · rw [h2 B1 hq1] at he1
      by_cases hq2 : B2 = id
      · subst hq2
        rw [h1] at he2; injection he2 with he2; subst he2
        have := (hh.br _ _ _ hb1 he1).lt
        omega
      · rw [h2 B2 hq2] at he2
        exact hh.inj _ _ _ _ _ _ hne hb1 hb2 he1 he2 ho
  · intro B e' he'
    by_cases hq : B = id
    · subst hq; exact hlt
    · rw [h2 B hq] at he'; exact hh.lt _ _ he'
  · rw [h2 B (by omega)]; exact hext.old B hB
  · have := hext.size; omega
  · intro B b e' hb ho he'
    by_cases hq : B = id
    · subst hq
      rw [h1] at he'; injection he' with he'; subst he'
      have := hext.size
      left; omega
    · rw [h2 B hq] at he'
      exact hext.own B b e' hb ho he'
  · intro r hr hn
    have := hext.size
    rw [hw.2 r (by omega)]
    exact hext.frame r hr hn

theorem inv_step {call : CallF} (hT : TOK P T) (hcall : CallsOK P call) (hent : ∀ g args h v h', call g args h = some (v, h') → Enters P g) {nt : Nat} {ops : Array Oper} {ι0 : Iota} {tm0 : TM} {h0 : H} {w0 : World} {tmF : TM} {hF : H} {S : Nat → Prop} {a : Act} {w : World}
    (hN : Names ros pre nm) (hg0 : Globs P ι0) {i : Nat} {o : Oper} {r : RO} (hi : ops[i]? = some o) (hri : ros[i]? = some r) (hro : resOp T nt ops o = some r) (hgl : globOK P o = true) (hcov : ∀ t, Operand.tmp t ∈ o.op.operands → t ∈ nm i)
    (hS : ∀ j, S j → ∀ l, pre j l = true → S l) (hiS : ¬ S i) (hpre : ∀ l, pre i l = true → S l)
    (hinv : Inv ros pre nm call nt ι0 tm0 h0 w0 tmF hF S a w) {K : Act → World → Prop} {Q : Exit → Act → World → Prop}
    (hK : ∀ a' w', Inv ros pre nm call nt ι0 tm0 h0 w0 tmF hF (fun j => S j ∨ j = i) a' w' → K a' w') : wpOp P ops Q i K a w := by
  obtain ⟨⟨ι, D, todo, tm, h, hrun, hgood, hSD, heff, hpend, hr1, hr1', hh, hext⟩, hsz, hdef⟩ := hinv
  obtain ⟨q1, q2, q3, _⟩ := resOp_inv hro
  have hcovi := hN.cov i r hri
  have hlt : i < ros.length := (List.getElem?_eq_some_iff.1 hri).1
  have hdst : ∀ d', o.dst = some d' → d' < nt := q3
  -- what is in the slots that i names, whatever the way
  have hval : ∀ t ∈ nm i, VR ι (opv ros pre tm0 tm i t) (a.tmps.getD t undef) := by
    intro t ht
    unfold opv
    split
    · rename_i hex
      obtain ⟨j, hj, hp⟩ := hex
      exact hr1 t ⟨j, hj, hpre j hp⟩
    · rename_i hno
      refine hr1' t fun ⟨j, hj, hSj⟩ => ?_
      rcases hN.ord i t j ht hj with rfl | h2 | h2
      · exact hiS hSj
      · exact hno ⟨j, hj, h2⟩
      · exact hiS (hS j hSj i h2)
  have hOR : OR ι (opv ros pre tm0 tm i) a o := by
    intro x hx y hy
    cases x with
    | tmp t => simp [X.of] at hy; subst hy; exact hval t (hcov t hx)
    | const v =>
      simp only [X.of, Option.map_eq_some_iff] at hy
      obtain ⟨v', h1, rfl⟩ := hy
      exact V.of_rel ι h1
    | global g =>
      simp [X.of] at hy; subst hy
      have := List.all_eq_true.1 hgl (.global g) (by simpa using hx)
      exact (hg0.mono hext.le).vr (by simpa using this)
    | func f => simp [X.of] at hy; subst hy; exact .f _ _ _ _ _ .nil .nil
  have hwant : ∀ b, guardA r.gd (opv ros pre tm0 tm i) = some b → Region.wanted o (yielded ops a.tmps) = b := fun b hb =>
    wanted_of (ι := ι) (a := a) hro hb fun d want hd => hval d (hcovi.2 d want hd)
  have hwr : ∀ t j, wr ros t j → j = i → o.dst = some t := fun t j ⟨q, hq, hd⟩ hji => by
    subst hji; rw [hri] at hq; injection hq with hq; subst hq; rw [← q2]; exact hd
  by_cases hiD : i ∈ D
  · -- it has been run on paper
    have hc2 := heff i hiD hiS r hri
    obtain ⟨r', hr', hst⟩ := hpend.stab i hiD hiS
    rw [hri] at hr'; injection hr' with hr'; subst hr'
    -- behind it
    have fin : ∀ (ι' : Iota) (x : Value) (v : V) (w' : World), ι.le ι' → HRel ι' h w' → Ext ι0 h0 w0 ι' h w' → (∀ d, r.dst = some d → tm d = v) → VR ι' v x → Pend ros pre h0.nx tm0 ι' D (fun j => S j ∨ j = i) tm h → K (a.put o.dst x) w' := by
      intro ι' x v w' hle hh' hext' htv hvx hp'
      refine hK _ _ ⟨⟨ι', D, todo, tm, h, hrun, hgood, ?_, ?_, hp', ?_, ?_, hh', hext'⟩, ?_, ?_⟩
      · rintro j (hj | rfl)
        · exact hSD j hj
        · exact hiD
      · intro j hj hn q hq
        exact heff j hj (fun h => hn (.inl h)) q hq
      · rintro t ⟨j, hj, hj2⟩
        rw [getD_put' hsz x hdst]
        split
        · rename_i hd
          rw [htv t (by rw [q2]; exact hd)]
          exact hvx
        · rename_i hd
          rcases hj2 with hj2 | hj2
          · exact (hr1 t ⟨j, hj, hj2⟩).mono hle
          · exact absurd (hwr t j hj hj2) hd
      · intro t hno
        rw [getD_put' hsz x hdst]
        split
        · rename_i hd
          exact absurd ⟨i, ⟨r, hri, by rw [q2]; exact hd⟩, .inr rfl⟩ hno
        · exact (hr1' t fun ⟨j, hj, hj2⟩ => hno ⟨j, hj, .inl hj2⟩).mono hle
      · cases hd : o.dst <;> simp [Act.put, hsz]
      · cases hd : o.dst <;> simp [Act.put, hdef]
    have psame : Pend ros pre h0.nx tm0 ι D (fun j => S j ∨ j = i) tm h :=
      ⟨hpend.tmD, fun j hj hn => hpend.stab j hj fun h => hn (.inl h), hpend.n0, hpend.idlt, hpend.dist, fun j hj hn => hpend.cl j hj fun h => hn (.inl h)⟩
    unfold wpOp
    simp only [hi]
    rcases hst with ⟨g, hv⟩ | ⟨g, hst⟩
    · rw [if_neg (by rw [hwant _ g]; decide)]
      exact fin ι undef (.tu []) w (Iota.le_refl _) hh hext hv (.tu _ _ .nil) psame
    · rw [if_pos (hwant _ g)]
      left
      have hc4 : r.op.cls ≠ 4 := by omega
      have sp := spec_of (P := P) (w := w) hT q1 hOR hc4
      rcases hst with ⟨c, v, e1, e2⟩ | ⟨c, blk, mk, id, d, e1, e2, e3, e4, e5, e6, e7⟩ | ⟨c, v, e1, e2⟩
      · obtain ⟨x, f1, f2⟩ := sp.p v e1
        unfold Oper.wp
        rw [f1]
        exact fin ι x v w (Iota.le_refl _) hh hext e2 f2 psame
      · obtain ⟨x, w', e, f1, f2, f3, f4, f5, f6⟩ := sp.n blk mk e1
        unfold Oper.wp
        rw [f1]
        obtain ⟨ι', g1, g2, g3, g4, g5⟩ := rel_place hh hext e4 e5 e7 e6 f2 f3 f4 f5 (fun ι' hle hid => (f6 ι' id hle hid).2)
        refine fin ι' x (tm d) w' g1 g4 g5 (fun d' hd' => by rw [e2] at hd'; injection hd' with hd'; rw [hd']) (by rw [e3]; exact (f6 ι' id g1 g2).1) ?_
        refine ⟨hpend.tmD, fun j hj hn => ?_, hpend.n0, hpend.idlt, hpend.dist, fun j hj hn => hpend.cl j hj fun h => hn (.inl h)⟩
        obtain ⟨q, hq, hst⟩ := hpend.stab j hj fun h => hn (.inl h)
        refine ⟨q, hq, ?_⟩
        rcases hst with h1 | ⟨gj, h1 | ⟨cj, blk', mk', id', d', k1, k2, k3, k4, k5, k6, k7⟩ | h1⟩
        · exact .inl h1
        · exact .inr ⟨gj, .inl h1⟩
        · refine .inr ⟨gj, .inr (.inl ⟨cj, blk', mk', id', d', k1, k2, k3, k4, ?_, k6, k7⟩)⟩
          rw [g3 id' fun heq => ?_]
          · exact k5
          · subst heq
            exact hpend.dist j hj i hiD (fun h => hn (.inr h)) q r d' d id' hq hri cj c k2 e2 (by rw [k3]; exact semN_id k1 _) (by rw [e3]; exact semN_id e1 _)
        · exact .inr ⟨gj, .inr (.inr h1)⟩
      · obtain ⟨x, f1, f2⟩ := sp.r h v hh e1
        unfold Oper.wp
        rw [f1]
        exact fin ι x v w (Iota.le_refl _) hh hext e2 f2 psame
  · -- it is what acts next
    cases todo with
    | nil => exact absurd (hgood i hlt) hiD
    | cons s ss =>
      have hgood0 := hgood
      obtain ⟨e0, he0, hs0, hgo, hgss⟩ := hgood
      have hie : i = e0 := by
        by_cases hq : i = e0
        · exact hq
        · exact (good_left ss D hgood0 he0 hlt hiD hq hpre hSD).elim
      subst hie
      -- its slots hold what they hold on paper
      have hag : ∀ t ∈ nm i, opv ros pre tm0 tm i t = tm t := by
        intro t ht
        unfold opv
        split
        · rfl
        · rename_i hno
          refine (hpend.tmD t fun j hj hw => ?_).symm
          rcases hN.ord i t j ht hw with rfl | h2 | h2
          · exact hs0.new hj
          · exact hno ⟨j, hw, h2⟩
          · rw [hs0.after j hj] at h2; cases h2
      have hgd : guardA r.gd (opv ros pre tm0 tm i) = guardA r.gd tm := guardA_congr fun d want hd => hag d (hcovi.2 d want hd)
      have hmp : r.op.map (evX (opv ros pre tm0 tm i)) = r.op.map (evX tm) := map_agree fun t ht => hag t (hcovi.1 t ht)
      simp only [runSlots, runSlot, he0, runIx, hri] at hrun
      cases hstp : stepA call r tm h with
      | none => rw [hstp] at hrun; cases hrun
      | some p =>
        obtain ⟨tm1, h1⟩ := p
        rw [hstp] at hrun
        simp only at hrun
        split at hrun
        · cases hrun
        · rename_i tm2 h2 hslot
          split at hslot
          · rename_i hchk
            -- behind it
            have fin : ∀ (ι' : Iota) (x : Value) (v : V) (w' : World), HRel ι' h1 w' → Ext ι h w ι' h1 w' → (∀ d, r.dst = some d → tm1 d = v) → (∀ t, (∀ d, r.dst = some d → t ≠ d) → tm1 t = tm t) → VR ι' v x → K (a.put o.dst x) w' := by
              intro ι' x v w' hh' hext' htv htm hvx
              have hDi : ∀ j ∈ D, j ≠ i := fun j hj h => hs0.new (h ▸ hj)
              have hself : ∀ j ∈ D, ∀ q d, ros[j]? = some q → q.dst = some d → tm1 d = tm d := fun j hj q d hq hd => htm d fun d' hd' heq => by
                subst heq
                exact hDi j hj (hN.one d j i ⟨q, hq, hd⟩ ⟨r, hri, hd'⟩)
              obtain ⟨re, hre, hce⟩ := hs0.eff
              rw [hri] at hre; injection hre with hre; subst hre
              have tmD' : ∀ t, (∀ j ∈ D ++ [i], ¬ wr ros t j) → tm1 t = tm0 t := fun t ht => by
                rw [htm t fun d hd heq => ht i (by simp) ⟨r, hri, by rw [hd, heq]⟩]
                exact hpend.tmD t fun j hj => ht j (by simp [hj])
              have p1 : Pend ros pre h0.nx tm0 ι' (D ++ [i]) (fun j => S j ∨ j = i) tm1 h1 := by
                refine ⟨tmD', ?_, Nat.le_trans hpend.n0 hext'.nx, ?_, ?_, ?_⟩
                · intro j hj hn
                  have hj1 : j ∈ D := by
                    rcases List.mem_append.1 hj with hj | hj
                    · exact hj
                    · exact absurd (.inr (by simpa using hj)) hn
                  have hjS : ¬ S j := fun h => hn (.inl h)
                  have hclj := hpend.cl j hj1 hjS
                  obtain ⟨q, hq, hst⟩ := hpend.stab j hj1 hjS
                  have hopv : opv ros pre tm0 tm1 j = opv ros pre tm0 tm j := opv_keep hN hri hs0.new hclj htm
                  have hdq : ∀ d, q.dst = some d → tm1 d = tm d := fun d hd => hself j hj1 q d hq hd
                  have hnp : pre i j ≠ true := fun h => hjS (hpre j h)
                  -- looked at again
                  have again : q.op.cls = 1 ∨ q.op.cls = 2 → chkA q tm1 h1 = true ∧ guardA q.gd (opv ros pre tm0 tm1 j) = guardA q.gd tm1 ∧ q.op.map (evX (opv ros pre tm0 tm1 j)) = q.op.map (evX tm1) := by
                    intro hc
                    have hjc : j ∈ s.chk := (hs0.chk j hj1 q hq hc).resolve_left hnp
                    have hck := List.all_eq_true.1 hchk j hjc
                    rw [hq] at hck
                    have hcb := (hs0.chkD j hjc).2
                    have hag2 : ∀ t ∈ nm j, opv ros pre tm0 tm1 j t = tm1 t := by
                      intro t ht
                      unfold opv
                      split
                      · rfl
                      · rename_i hno
                        refine (tmD' t fun l hl hw => ?_).symm
                        exact hno ⟨l, hw, hcb t ht l hw⟩
                    have hcj := hN.cov j q hq
                    exact ⟨hck, guardA_congr fun d want hd => hag2 d (hcj.2 d want hd), map_agree fun t ht => hag2 t (hcj.1 t ht)⟩
                  refine ⟨q, hq, ?_⟩
                  rcases hst with ⟨g, hv⟩ | ⟨g, ⟨c, v', e1, e2⟩ | ⟨c, blk, mk, id, d, e1, e2, e3, e4, e5, e6, e7⟩ | ⟨c, v', e1, e2⟩⟩
                  · exact .inl ⟨by rw [hopv]; exact g, fun d hd => by rw [hdq d hd]; exact hv d hd⟩
                  · exact .inr ⟨by rw [hopv]; exact g, .inl ⟨c, v', by rw [hopv]; exact e1, fun d hd => by rw [hdq d hd]; exact e2 d hd⟩⟩
                  · obtain ⟨k1, k2, k3⟩ := again (.inl c)
                    rw [hopv] at k2 k3
                    refine .inr ⟨by rw [hopv]; exact g, .inr (.inl ⟨c, blk, mk, id, d, by rw [hopv]; exact e1, e2, by rw [hdq d e2]; exact e3, ?_, ?_, Nat.lt_of_lt_of_le e6 hext'.nx, e7⟩)⟩
                    · unfold chkA at k1
                      rw [← k2, g, e2, c] at k1
                      simp only [← k3, e1, hdq d e2, e3, semN_id e1] at k1
                      cases hget : h1.get id with
                      | none => rw [hget] at k1; simp at k1
                      | some b' =>
                        rw [hget] at k1
                        simp only [Bool.and_eq_true] at k1
                        rw [beqB_eq k1.1]
                    · rw [hext'.old id e6]; exact e5
                  · obtain ⟨k1, k2, k3⟩ := again (.inr c)
                    rw [hopv] at k2 k3
                    refine .inr ⟨by rw [hopv]; exact g, .inr (.inr ⟨c, ?_⟩)⟩
                    rw [hopv, k3]
                    unfold chkA at k1
                    rw [← k2, g, c] at k1
                    cases hqd : q.dst with
                    | none => rw [hqd] at k1; simp at k1
                    | some d =>
                      rw [hqd] at k1
                      simp only at k1
                      cases hsr : semR (q.op.map (evX tm1)) h1 with
                      | none => rw [hsr] at k1; simp at k1
                      | some u0 =>
                        rw [hsr] at k1
                        exact ⟨u0, rfl, fun d' hd' => by injection hd' with hd'; subst hd'; exact beqV_eq k1⟩
                · intro j hj q d id hq hc hd hid
                  rcases List.mem_append.1 hj with hj | hj
                  · rw [hself j hj q d hq hd] at hid
                    exact Nat.lt_of_lt_of_le (hpend.idlt j hj q d id hq hc hd hid) hext'.nx
                  · have : j = i := by simpa using hj
                    subst this
                    rw [hri] at hq; injection hq with hq; subst hq; omega
                · intro j hj l hl hne q q' d d' id hq hq' hc hc' hd hd' hid hid'
                  have hj1 : j ∈ D := by
                    rcases List.mem_append.1 hj with hj | hj
                    · exact hj
                    · have : j = i := by simpa using hj
                      subst this
                      rw [hri] at hq; injection hq with hq; subst hq; omega
                  have hl1 : l ∈ D := by
                    rcases List.mem_append.1 hl with hl | hl
                    · exact hl
                    · have : l = i := by simpa using hl
                      subst this
                      rw [hri] at hq'; injection hq' with hq'; subst hq'; omega
                  rw [hself j hj1 q d hq hd] at hid
                  rw [hself l hl1 q' d' hq' hd'] at hid'
                  exact hpend.dist j hj1 l hl1 hne q q' d d' id hq hq' hc hc' hd hd' hid hid'
                · intro j hj hn l hl
                  rcases List.mem_append.1 hj with hj | hj
                  · exact List.mem_append.2 (.inl (hpend.cl j hj (fun h => hn (.inl h)) l hl))
                  · exact absurd (.inr (by simpa using hj)) hn
              obtain ⟨p2, p3, p4, p5, p6, p7⟩ := pend_ops hN s.ops (D ++ [i]) tm1 tm2 h1 h2 hgo hslot p1 hh'
              have tm2eq : ∀ t j, wr ros t j → j ∈ D ++ [i] → tm2 t = tm1 t := fun t j hw hj => p5 t fun l hl hwl => by
                have := hN.one t j l hw hwl
                subst this
                have : ∀ (is D' : List Nat), GoodOps ros pre D' is → j ∈ D' → j ∈ is → False := by
                  intro is
                  induction is with
                  | nil => intro D' _ _ h; cases h
                  | cons x is ih =>
                    intro D' hg hjD hjx
                    obtain ⟨_, g2, _, _, g5⟩ := hg
                    rcases List.mem_cons.1 hjx with rfl | hjx
                    · exact g2 hjD
                    · exact ih _ g5 (by simp [hjD]) hjx
                exact this _ _ hgo hj hl
              refine hK _ _ ⟨⟨ι', D ++ [i] ++ s.ops, ss, tm2, h2, hrun, hgss, ?_, ?_, p2, ?_, ?_, p3, ext_grow (hext.trans hext') hh' p4 p6⟩, ?_, ?_⟩
              · rintro j (hj | rfl)
                · simp [hSD j hj]
                · simp
              · intro j hj hn q hq
                rcases List.mem_append.1 hj with hj | hj
                · rcases List.mem_append.1 hj with hj | hj
                  · exact heff j hj (fun h => hn (.inl h)) q hq
                  · exact absurd (.inr (by simpa using hj)) hn
                · exact p7 j hj q hq
              · rintro t ⟨j, hj, hj2⟩
                rw [getD_put' hsz x hdst]
                rcases hj2 with hj2 | hj2
                · have hjD := hSD j hj2
                  rw [tm2eq t j hj (by simp [hjD])]
                  obtain ⟨q, hq, hd⟩ := hj
                  rw [hself j hjD q t hq hd]
                  split
                  · rename_i hdo
                    exact absurd (hN.one t j i ⟨q, hq, hd⟩ ⟨r, hri, by rw [q2]; exact hdo⟩) (hDi j hjD)
                  · exact (hr1 t ⟨j, ⟨q, hq, hd⟩, hj2⟩).mono hext'.le
                · have hdo := hwr t j hj hj2
                  rw [if_pos hdo, tm2eq t j hj (by simp [hj2]), htv t (by rw [q2]; exact hdo)]
                  exact hvx
              · intro t hno
                rw [getD_put' hsz x hdst]
                split
                · rename_i hd
                  exact absurd ⟨i, ⟨r, hri, by rw [q2]; exact hd⟩, .inr rfl⟩ hno
                · exact (hr1' t fun ⟨j, hj, hj2⟩ => hno ⟨j, hj, .inl hj2⟩).mono hext'.le
              · cases hd : o.dst <;> simp [Act.put, hsz]
              · cases hd : o.dst <;> simp [Act.put, hdef]
            unfold wpOp
            simp only [hi]
            unfold stepA at hstp
            split at hstp
            · cases hstp
            · rename_i hgf
              simp only [Option.some.injEq, Prod.mk.injEq] at hstp
              obtain ⟨rfl, rfl⟩ := hstp
              rw [if_neg (by rw [hwant false (by rw [hgd]; exact hgf)]; decide)]
              exact fin ι undef (.tu []) w hh (Ext.refl _ _ _) (fun d hd => by rw [hd]; exact putD_eq) (fun t ht => putD_ne ht) (.tu _ _ .nil)
            · rename_i hgt
              split at hstp
              · cases hstp
              · rename_i v h3 hsem
                simp only [Option.some.injEq, Prod.mk.injEq] at hstp
                obtain ⟨rfl, rfl⟩ := hstp
                rw [if_pos (hwant true (by rw [hgd]; exact hgt))]
                left
                rw [← hmp] at hsem
                exact all_step hT hcall hent q1 (hg0.mono hext.le) hOR hh hsem fun x w' ι' f1 f2 f3 =>
                  fin ι' x v w' f2 f3 (fun d hd => by rw [hd]; exact putD_eq) (fun t ht => putD_ne ht) f1
          · cases hslot

end Go.Ev

namespace Go.Ev
variable {P : Program} {T : TT}

theorem HRel.of_heap {ι : Iota} {h : H} {w w' : World} (hh : HRel ι h w) (hw : w'.heap = w.heap) : HRel ι h w' :=
  ⟨fun B b e hB he => (hh.br B b e hB he).mono (Iota.le_refl _) (by rw [hw]), hh.inj, hh.lt, hh.dom⟩
theorem Ext.of_heap {ι : Iota} {h : H} {w w' : World} (hw : w'.heap = w.heap) (hos : w'.os = w.os) (hout : w'.output = w.output) : Ext ι h w ι h w' :=
  ⟨Iota.le_refl _, fun _ _ => rfl, Nat.le_refl _, by rw [hw]; exact Nat.le_refl _, fun B b e hb ho he => .inr ⟨B, b, e, hb, ho, he, rfl⟩, fun _ _ _ => by rw [hw], hos, hout⟩

/-- Which stands behind which. -/
def preOf (ms : List Nat) (i j : Nat) : Bool := (ms.getD i 0).testBit j

theorem pre_in {ops : Array Oper} (hedge : ∀ (i : Nat) o, ops[i]? = some o → ∀ e ∈ o.after.toList, Region.binds .any e = true → e.on < i) {S : Nat → Prop} (hcl : ∀ (j : Nat) o, S j → ops[j]? = some o → ∀ e ∈ o.after.toList, Region.binds .any e = true → S e.on) :
    ∀ (i : Nat) o, ops[i]? = some o → (∀ e ∈ o.after.toList, Region.binds .any e = true → S e.on) → ∀ l, preOf (masksFrom ops.toList []) i l = true → S l := by
  intro i
  induction i using Nat.strongRecOn with
  | _ i ih =>
    intro o ho hd l hl
    obtain ⟨e, e1, e2, e3⟩ := masks_get ops.toList [] i o (by simpa using ho) (fun e h1 h2 => by have := hedge i o ho e h1 h2; simpa using this) l (by simpa [preOf] using hl)
    rcases e3 with rfl | e3
    · exact hd e e1 e2
    · have hS := hd e e1 e2
      have hlt := hedge i o ho e e1 e2
      have hlo : e.on < ops.size := by have := (Array.getElem?_eq_some_iff.1 ho).1; omega
      exact ih e.on hlt ops[e.on] (Array.getElem?_eq_getElem hlo) (hcl e.on _ hS (Array.getElem?_eq_getElem hlo)) l e3

theorem resOps_get {nt : Nat} {ops : Array Oper} : ∀ {l : List Oper} {rs : List RO}, resOps T nt ops l = some rs → rs.length = l.length ∧ ∀ (i : Nat) o, l[i]? = some o → ∃ r, rs[i]? = some r ∧ resOp T nt ops o = some r
  | [], rs, h => by simp [resOps] at h; subst h; exact ⟨rfl, fun i o h => by simp at h⟩
  | o' :: l, rs, h => by
    simp only [resOps] at h
    split at h
    · rename_i r rs' h1 h2
      injection h with h; subst h
      obtain ⟨g1, g2⟩ := resOps_get h2
      refine ⟨by simp [g1], fun i o ho => ?_⟩
      cases i with
      | zero => simp at ho; subst ho; exact ⟨r, rfl, h1⟩
      | succ i => simp at ho; simpa using g2 i o ho
    · cases h

theorem filter_le {p q : Nat → Bool} (h : ∀ x, q x = true → p x = true) : ∀ l : List Nat, (l.filter q).length ≤ (l.filter p).length
  | [] => Nat.le_refl _
  | x :: l => by
    have ih := filter_le h l
    rw [List.filter_cons, List.filter_cons]
    by_cases hq : q x = true
    · rw [if_pos hq, if_pos (h x hq)]; simpa using ih
    · rw [if_neg hq]
      split
      · simp only [List.length_cons]; omega
      · exact ih
theorem filter_lt {p q : Nat → Bool} (h : ∀ x, q x = true → p x = true) {i : Nat} (hp : p i = true) (hq : q i = false) : ∀ l : List Nat, i ∈ l → (l.filter q).length < (l.filter p).length
  | [], hi => by cases hi
  | x :: l, hi => by
    rw [List.filter_cons, List.filter_cons]
    rcases List.mem_cons.1 hi with rfl | hi
    · rw [if_neg (by rw [hq]; decide), if_pos hp]
      have := filter_le h l
      simp only [List.length_cons]; omega
    · have ih := filter_lt h hp hq l hi
      by_cases hqx : q x = true
      · rw [if_pos hqx, if_pos (h x hqx)]; simpa using ih
      · rw [if_neg hqx]
        split
        · simp only [List.length_cons]; omega
        · exact ih

/-- A region whose order is drawn. -/
theorem draw_wp {call : CallF} (hT : TOK P T) (hmix : P.follows .mixedOrders = true) (hcall : CallsOK P call) (hent : ∀ g args h v h', call g args h = some (v, h') → Enters P g) {nt : Nat} {ops : Array Oper} {id : Nat} {ros : List RO} (hros : resOps T nt ops ops.toList = some ros)
    (hgl : ∀ o ∈ ops.toList, globOK P o = true) {nm : Nat → List Nat} (hN : Names ros (preOf (masksFrom ops.toList [])) nm) (hcov : ∀ (i : Nat) o, ops[i]? = some o → ∀ t, Operand.tmp t ∈ o.op.operands → t ∈ nm i)
    (hedge : ∀ (i : Nat) o, ops[i]? = some o → ∀ e ∈ o.after.toList, Region.binds .any e = true → e.on < i)
    {is0 : List Nat} {ss : List Slot} (hg0 : GoodOps ros (preOf (masksFrom ops.toList [])) [] is0) (hgs : Good ros (preOf (masksFrom ops.toList [])) nm is0 ss)
    {tm tm1 tmF : TM} {h h1 hF : H} (hr0 : runIx call ros is0 tm h = some (tm1, h1)) (hrs : runSlots call ros ss tm1 h1 = some (tmF, hF))
    {ι : Iota} {a : Act} {w : World} (hg : Globs P ι) (hrel : Rel nt ι tm a) (hh : HRel ι h w) {Q : Exit → Act → World → Prop}
    (hQ : ∀ ι' a' w', Rel nt ι' tmF a' → HRel ι' hF w' → Ext ι h w ι' hF w' → Q .normal a' w') : (Code.region id ops true).wp P Q a w := by
  refine wp_region_any hmix ?_
  obtain ⟨hlen, hget⟩ := resOps_get hros
  have hlen' : ros.length = ops.size := by simpa using hlen
  have hh' : HRel ι h { w with drawn := w.drawn + 1 } := hh.of_heap rfl
  have hext0 : Ext ι h w ι h { w with drawn := w.drawn + 1 } := Ext.of_heap rfl rfl rfl
  generalize hw1 : ({ w with drawn := w.drawn + 1 } : World) = w1 at hh' hext0
  have pend0 : Pend ros (preOf (masksFrom ops.toList [])) h.nx tm ι [] (fun _ => False) tm h :=
    ⟨fun _ _ => rfl, fun i hi => by simp at hi, Nat.le_refl _, fun i hi => by simp at hi, fun i hi => by simp at hi, fun i hi => by simp at hi⟩
  obtain ⟨p1, p2, p3, p4, p5, p6⟩ := pend_ops hN is0 [] tm tm1 h h1 hg0 hr0 pend0 hh'
  -- the state before the first operation
  have inv0 : Inv ros (preOf (masksFrom ops.toList [])) nm call nt ι tm h w tmF hF (fun j => (Array.replicate ops.size false).getD j false = true) a w1 := by
    have hno : ∀ j, ¬ ((Array.replicate ops.size false).getD j false = true) := fun j => by
      simp [Array.getD_eq_getD_getElem?, Array.getElem?_replicate]; split <;> simp
    refine ⟨⟨ι, is0, ss, tm1, h1, hrs, hgs, fun i hi => absurd hi (hno i), fun i hi _ r hr => p6 i hi r hr, ?_, fun t ⟨j, _, hj⟩ => absurd hj (hno j), fun t _ => hrel.vr t, p2, ext_grow hext0 hh' p3 p5⟩, hrel.size, hrel.defers⟩
    have : Pend ros (preOf (masksFrom ops.toList [])) h.nx tm ι is0 (fun _ => False) tm1 h1 := by simpa using p1
    exact ⟨this.tmD, fun i hi _ => this.stab i hi (fun h => h), this.n0, this.idlt, this.dist, fun i hi _ => this.cl i hi (fun h => h)⟩
  -- round by round
  have main : ∀ (fuel : Nat) (listed : Array Bool) (a : Act) (w' : World), listed.size = ops.size → ((List.range ops.size).filter fun i => !listed.getD i false).length ≤ fuel →
      (∀ (j : Nat) o, listed.getD j false = true → ops[j]? = some o → ∀ e ∈ o.after.toList, Region.binds .any e = true → listed.getD e.on false = true) →
      Inv ros (preOf (masksFrom ops.toList [])) nm call nt ι tm h w tmF hF (fun j => listed.getD j false = true) a w' → wpAny P .any ops Q fuel listed a w' := by
    intro fuel
    induction fuel with
    | zero =>
      intro listed a w' hsz hcnt hcl hinv
      have hall : ∀ i, i < ops.size → listed.getD i false = true := fun i hi => by
        have : ((List.range ops.size).filter fun i => !listed.getD i false) = [] := List.eq_nil_of_length_eq_zero (by omega)
        have := List.filter_eq_nil_iff.1 this i (by simpa using hi)
        simpa using this
      refine ⟨?_, ?_⟩
      · refine List.filter_eq_nil_iff.2 fun i hi => ?_
        have hi' : i < ops.size := by simpa using hi
        have := hall i hi'
        have h2 : listed.getD i true = true := by
          rw [Array.getD_eq_getD_getElem?] at this ⊢
          rw [Array.getElem?_eq_getElem (by omega)] at this ⊢
          simpa using this
        simp [h2]
      · obtain ⟨⟨ι', D, todo, tm2, h2, r1, r2, r3, r4, r5, r6, r7, r8, r9⟩, s1, s2⟩ := hinv
        have hD : ∀ i, i < ops.size → i ∈ D := fun i hi => r3 i (hall i hi)
        cases todo with
        | cons s ss =>
          obtain ⟨e, g1, g2, _⟩ := r2
          obtain ⟨r, hr, _⟩ := g2.eff
          exact absurd (hD e (by rw [← hlen']; exact (List.getElem?_eq_some_iff.1 hr).1)) g2.new
        | nil =>
          simp only [runSlots, Option.some.injEq, Prod.mk.injEq] at r1
          obtain ⟨rfl, rfl⟩ := r1
          refine hQ ι' a w' ⟨s1, fun t => ?_, s2⟩ r8 r9
          by_cases hex : ∃ j, wr ros t j ∧ listed.getD j false = true
          · exact r6 t hex
          · rw [r5.tmD t fun j hj hw => hex ⟨j, hw, hall j (by
              obtain ⟨r, hr, _⟩ := hw
              rw [← hlen']; exact (List.getElem?_eq_some_iff.1 hr).1)⟩]
            exact r7 t hex
    | succ fuel ih =>
      intro listed a w' hsz hcnt hcl hinv
      refine ⟨fun hnone => ?_, fun i hi => ?_⟩
      · -- nothing is left
        have hall : ∀ i, i < ops.size → listed.getD i false = true := by
          intro i
          induction i using Nat.strongRecOn with
          | _ i ih2 =>
            intro hi
            have h1 := List.filter_eq_nil_iff.1 hnone i (by simpa using hi)
            have ho : ops[i]? = some ops[i] := Array.getElem?_eq_getElem hi
            rw [ho] at h1
            simp only [Option.map_some, Option.getD_some, Bool.and_eq_true, Bool.not_eq_true', not_and] at h1
            cases hb : listed.getD i false with
            | true => rfl
            | false =>
              have h2 : listed.getD i true = false := by
                rw [Array.getD_eq_getD_getElem?] at hb ⊢
                rw [Array.getElem?_eq_getElem (by omega)] at hb ⊢
                simpa using hb
              exfalso
              refine h1 h2 ?_
              rw [← Array.all_toList, List.all_eq_true]
              intro e he
              cases hbd : Region.binds .any e with
              | false => rfl
              | true =>
                have hlt := hedge i _ ho e he hbd
                simp [ih2 e.on hlt (by omega)]
        have := ih listed a w' hsz (by
          have : ((List.range ops.size).filter fun i => !listed.getD i false) = [] := List.filter_eq_nil_iff.2 fun i hi => by simp [hall i (by simpa using hi)]
          rw [this]; simp) hcl hinv
        cases fuel with
        | zero => exact this.2
        | succ f => exact this.1 hnone
      · -- one that may come next
        have hmem := List.mem_filter.1 hi
        have hilt : i < ops.size := by simpa using hmem.1
        have ho : ops[i]? = some ops[i] := Array.getElem?_eq_getElem hilt
        have hb := hmem.2
        rw [ho] at hb
        simp only [Option.map_some, Option.getD_some, Bool.and_eq_true, Bool.not_eq_true'] at hb
        obtain ⟨hb1, hb2⟩ := hb
        have hnl : ¬ listed.getD i false = true := by
          intro h
          rw [Array.getD_eq_getD_getElem?] at h hb1
          rw [Array.getElem?_eq_getElem (by omega)] at h hb1
          simp at h hb1
          rw [h] at hb1; cases hb1
        have hdir : ∀ e ∈ (ops[i]).after.toList, Region.binds .any e = true → listed.getD e.on false = true := by
          intro e he hbd
          rw [← Array.all_toList, List.all_eq_true] at hb2
          have := hb2 e he
          simpa [hbd] using this
        obtain ⟨r, hr, hro⟩ := hget i ops[i] (by simp)
        have hset : ∀ j, (listed.setIfInBounds i true).getD j false = true ↔ listed.getD j false = true ∨ j = i := fun j => by
          simp only [Array.getD_eq_getD_getElem?, Array.getElem?_setIfInBounds]
          by_cases hij : i = j
          · subst hij; simp [show i < listed.size by omega]
          · simp [hij, Ne.symm hij]
        refine inv_step hT hcall hent hN hg ho hr hro (hgl _ (by simp)) (hcov i _ ho) ?_ hnl ?_ hinv fun a' w2 hinv' => ?_
        · intro j hj l hl
          by_cases hjl : j < ops.size
          · exact pre_in hedge (S := fun j => listed.getD j false = true) (fun j o hj ho => hcl j o hj ho) j ops[j] (Array.getElem?_eq_getElem hjl) (hcl j _ hj (Array.getElem?_eq_getElem hjl)) l hl
          · rw [Array.getD_eq_getD_getElem?, Array.getElem?_eq_none (by omega)] at hj
            simp at hj
        · exact fun l hl => pre_in hedge (S := fun j => listed.getD j false = true) (fun j o hj ho => hcl j o hj ho) i ops[i] ho hdir l hl
        · have hfun : (fun j => listed.getD j false = true ∨ j = i) = fun j => (listed.setIfInBounds i true).getD j false = true := funext fun j => propext (hset j).symm
          rw [hfun] at hinv'
          refine ih _ a' w2 (by simpa using hsz) ?_ ?_ hinv'
          · have hlt : ((List.range ops.size).filter fun j => !(listed.setIfInBounds i true).getD j false).length < ((List.range ops.size).filter fun j => !listed.getD j false).length := by
              refine filter_lt (fun x hx => ?_) (by simp only [Bool.not_eq_true] at hnl; rw [hnl]; rfl) (by rw [(hset i).2 (.inr rfl)]; rfl) _ (by simpa using hilt)
              simp only [Bool.not_eq_true'] at hx ⊢
              cases hb3 : listed.getD x false with
              | false => rfl
              | true => rw [(hset x).2 (.inl hb3)] at hx; cases hx
            omega
          · intro j o' hj ho' e he hbd
            rcases (hset j).1 hj with hj | rfl
            · exact (hset e.on).2 (.inl (hcl j o' hj ho' e he hbd))
            · rw [ho] at ho'; injection ho' with ho'; subst ho'
              exact (hset e.on).2 (.inl (hdir e he hbd))
  refine main ops.size _ a w1 (by simp) ?_ ?_ inv0
  · refine Nat.le_trans (List.length_filter_le _ _) (by simp)
  · intro j o hj
    simp [Array.getD_eq_getD_getElem?, Array.getElem?_replicate] at hj
    split at hj <;> simp at hj

end Go.Ev

namespace Go.Ev
variable {P : Program} {T : TT}

def tmpsOf : List Operand → List Nat
  | [] => []
  | .tmp t :: r => t :: tmpsOf r
  | _ :: r => tmpsOf r
theorem mem_tmpsOf {t : Nat} : ∀ {l : List Operand}, Operand.tmp t ∈ l → t ∈ tmpsOf l
  | [], h => by cases h
  | x :: r, h => by
    rcases List.mem_cons.1 h with h1 | h2
    · subst h1; simp [tmpsOf]
    · have := mem_tmpsOf h2
      cases x <;> simp [tmpsOf, this]
def gdSlot : Option (Nat × Bool) → List Nat
  | some (d, _) => [d]
  | none => []
/-- The slots that an operation names. -/
def nmR (ops : Array Oper) (ros : List RO) (i : Nat) : List Nat :=
  (match ops[i]? with | some o => tmpsOf o.op.operands.toList | none => []) ++ (match ros[i]? with | some r => r.op.xs.filterMap X.slot ++ gdSlot r.gd | none => [])

def clsAt (ros : List RO) (i : Nat) : Nat := match ros[i]? with | some r => r.op.cls | none => 9
def dstAt (ros : List RO) (i : Nat) : Option Nat := match ros[i]? with | some r => r.dst | none => none

theorem wr_dstAt {ros : List RO} {t j : Nat} (h : wr ros t j) : dstAt ros j = some t ∧ j < ros.length := by
  obtain ⟨r, hr, hd⟩ := h
  exact ⟨by simp [dstAt, hr, hd], (List.getElem?_eq_some_iff.1 hr).1⟩

def allLt (n : Nat) (f : Nat → Bool) : Bool := (List.range n).all f
theorem allLt_spec {n : Nat} {f : Nat → Bool} (h : allLt n f = true) {i : Nat} (hi : i < n) : f i = true := List.all_eq_true.1 h i (by simpa using hi)

def goodOpsB (ros : List RO) (ms : List Nat) (n : Nat) : List Nat → List Nat → Bool
  | _, [] => true
  | D, i :: is => Nat.ble (clsAt ros i) 2 && (clsAt ros i != 1 || (dstAt ros i).isSome) && !(D.contains i) && allLt n (fun j => !(preOf ms i j) || D.contains j) && D.all (fun j => !(preOf ms j i)) && goodOpsB ros ms n (D ++ [i]) is

def chkableB (ros : List RO) (ms : List Nat) (nm : Nat → List Nat) (n i : Nat) : Bool :=
  allLt n fun j => match dstAt ros j with | some t => !((nm i).contains t) || preOf ms i j | none => true

def slotB (ros : List RO) (ms : List Nat) (nm : Nat → List Nat) (n : Nat) (D : List Nat) (s : Slot) (e : Nat) : Bool :=
  Nat.ble 3 (clsAt ros e) && Nat.blt e n && !(D.contains e) && D.all (fun j => !(preOf ms j e)) && D.all (fun j => Nat.blt (clsAt ros j) 3 || preOf ms e j) &&
  D.all (fun j => !(clsAt ros j == 1 || clsAt ros j == 2) || preOf ms e j || s.chk.contains j) && s.chk.all (fun j => D.contains j && chkableB ros ms nm n j) && s.ops.all (fun i => preOf ms i e)

def goodB (ros : List RO) (ms : List Nat) (nm : Nat → List Nat) (n : Nat) : List Nat → List Slot → Bool
  | D, [] => allLt n fun i => D.contains i
  | D, s :: ss => match s.eff with
    | none => false
    | some e => slotB ros ms nm n D s e && goodOpsB ros ms n (D ++ [e]) s.ops && goodB ros ms nm n (D ++ [e] ++ s.ops) ss

/-- The number of things that act ahead of i. -/
def slotNo (ms : List Nat) (i : Nat) : List Nat → Nat
  | [] => 0
  | e :: es => (if preOf ms i e then 1 else 0) + slotNo ms i es
def slotsFrom (ros : List RO) (ms : List Nat) (n : Nat) (effs : List Nat) : Nat → List Nat → List Slot
  | _, [] => []
  | k, e :: es => ⟨some e, (List.range n).filter (fun j => (clsAt ros j == 1 || clsAt ros j == 2) && Nat.blt (slotNo ms j effs) k && !(preOf ms e j)), (List.range n).filter fun j => Nat.ble (clsAt ros j) 2 && slotNo ms j effs == k⟩ :: slotsFrom ros ms n effs (k + 1) es

def planOf (ros : List RO) (ms : List Nat) (n : Nat) : List Nat × List Slot :=
  let effs := (List.range n).filter fun i => Nat.ble 3 (clsAt ros i)
  ((List.range n).filter fun j => Nat.ble (clsAt ros j) 2 && slotNo ms j effs == 0, slotsFrom ros ms n effs 1 effs)

def edgesB (ops : Array Oper) (n : Nat) : Bool := allLt n fun i => match ops[i]? with
  | some o => o.after.toList.all fun e => !(Region.binds .any e) || Nat.blt e.on i
  | none => true
def namesB (ros : List RO) (ms : List Nat) (nm : Nat → List Nat) (n : Nat) : Bool :=
  allLt n (fun i => allLt n fun j => i == j || (match dstAt ros i, dstAt ros j with | some t, some t' => t != t' | _, _ => true)) &&
  allLt n (fun i => allLt n fun j => match dstAt ros j with | some t => !((nm i).contains t) || j == i || preOf ms i j || preOf ms j i | none => true) &&
  allLt n fun i => Nat.blt (ms.getD i 0) (2 ^ n)

def globN (ng : Nat) (o : Oper) : Bool := o.op.operands.toList.all fun | .global g => Nat.blt g ng | _ => true

def planB (ops : Array Oper) (ros : List RO) : Option (List Nat × List Slot) :=
  let n := ops.size
  let ms := masksFrom ops.toList []
  let nm := nmR ops ros
  let pl := planOf ros ms n
  if edgesB ops n && namesB ros ms nm n && goodOpsB ros ms n [] pl.1 && goodB ros ms nm n pl.1 pl.2 then some pl else none

theorem preOf_lt {ms : List Nat} {n i j : Nat} (hm : Nat.blt (ms.getD i 0) (2 ^ n) = true) (h : preOf ms i j = true) : j < n := by
  rcases Nat.lt_or_ge j n with h1 | h1
  · exact h1
  · have h2 : ms.getD i 0 < 2 ^ n := by simpa using hm
    have h3 : ms.getD i 0 < 2 ^ j := Nat.lt_of_lt_of_le h2 (Nat.pow_le_pow_right (by omega) h1)
    unfold preOf at h
    rw [Nat.testBit_lt_two_pow h3] at h
    cases h

theorem clsAt_le {ros : List RO} {i k : Nat} (h : clsAt ros i ≤ k) (hk : k < 9) : ∃ r, ros[i]? = some r ∧ r.op.cls = clsAt ros i := by
  unfold clsAt at h ⊢
  cases hq : ros[i]? with
  | none => rw [hq] at h; simp at h; omega
  | some r => exact ⟨r, rfl, rfl⟩

theorem goodOpsB_spec {ros : List RO} {ms : List Nat} {n : Nat} (hm : ∀ i, i < n → Nat.blt (ms.getD i 0) (2 ^ n) = true) (hn : n = ros.length) : ∀ (is D : List Nat), goodOpsB ros ms n D is = true → GoodOps ros (preOf ms) D is
  | [], _, _ => trivial
  | i :: is, D, h => by
    simp only [goodOpsB, Bool.and_eq_true, Nat.ble_eq, Bool.or_eq_true, bne_iff_ne, ne_eq, Bool.not_eq_true'] at h
    obtain ⟨⟨⟨⟨⟨h1, h2⟩, h3⟩, h4⟩, h5⟩, h6⟩ := h
    obtain ⟨r, hr, hrc⟩ := clsAt_le h1 (by omega)
    have hin : i < n := by rw [hn]; exact (List.getElem?_eq_some_iff.1 hr).1
    refine ⟨⟨r, hr, by omega, fun hc hnone => ?_⟩, ?_, fun j hj => ?_, fun j hj => ?_, goodOpsB_spec hm hn is _ h6⟩
    · rcases h2 with h2 | h2
      · exact h2 (by omega)
      · simp [dstAt, hr, hnone] at h2
    · simpa using h3
    · have := allLt_spec h4 (preOf_lt (hm i hin) hj)
      simp only [hj, Bool.not_true, Bool.false_or] at this
      simpa using this
    · have := List.all_eq_true.1 h5 j hj
      simpa using this

theorem goodB_spec {ros : List RO} {ms : List Nat} {nm : Nat → List Nat} {n : Nat} (hm : ∀ i, i < n → Nat.blt (ms.getD i 0) (2 ^ n) = true) (hn : n = ros.length) : ∀ (ss : List Slot) (D : List Nat), goodB ros ms nm n D ss = true → Good ros (preOf ms) nm D ss
  | [], D, h => by
    intro i hi
    have := allLt_spec h (i := i) (by omega)
    simpa using this
  | s :: ss, D, h => by
    simp only [goodB] at h
    split at h
    · cases h
    · rename_i e he
      simp only [Bool.and_eq_true] at h
      obtain ⟨⟨h1, h2⟩, h3⟩ := h
      refine ⟨e, he, ?_, goodOpsB_spec hm hn _ _ h2, goodB_spec hm hn ss _ h3⟩
      simp only [slotB, Bool.and_eq_true, Nat.ble_eq, Nat.blt_eq, Bool.not_eq_true'] at h1
      obtain ⟨⟨⟨⟨⟨⟨⟨g1, g2⟩, g3⟩, g4⟩, g5⟩, g6⟩, g7⟩, g8⟩ := h1
      have hr : ∃ r, ros[e]? = some r := ⟨_, List.getElem?_eq_getElem (by omega)⟩
      obtain ⟨r, hr⟩ := hr
      refine ⟨⟨r, hr, by simpa [clsAt, hr] using g1⟩, by simpa using g3, fun j hj => ?_, fun j hj q hq hc => ?_, fun j hj q hq hc => ?_, fun j hj => ?_, fun i hi => ?_⟩
      · simpa using List.all_eq_true.1 g4 j hj
      · have := List.all_eq_true.1 g5 j hj
        simp only [Bool.or_eq_true, Nat.blt_eq, clsAt, hq] at this
        rcases this with h | h
        · omega
        · exact h
      · have := List.all_eq_true.1 g6 j hj
        simp only [clsAt, hq, Bool.or_eq_true, Bool.not_eq_true', Bool.or_eq_false_iff, beq_eq_false_iff_ne, ne_eq] at this
        rcases this with (h | h) | h
        · rcases hc with hc | hc
          · exact absurd hc h.1
          · exact absurd hc h.2
        · exact .inl h
        · exact .inr (by simpa using h)
      · have := List.all_eq_true.1 g7 j hj
        simp only [Bool.and_eq_true] at this
        refine ⟨by simpa using this.1, fun t ht l hl => ?_⟩
        obtain ⟨h5, h6⟩ := wr_dstAt hl
        have h7 := allLt_spec this.2 (i := l) (by omega)
        rw [h5] at h7
        simp only [Bool.or_eq_true, Bool.not_eq_true'] at h7
        rcases h7 with h7 | h7
        · exact absurd ht (by simpa using h7)
        · exact h7
      · exact List.all_eq_true.1 g8 i hi

theorem planB_spec {nt : Nat} {ops : Array Oper} {ros : List RO} (hros : resOps T nt ops ops.toList = some ros) {is0 : List Nat} {ss : List Slot} (h : planB ops ros = some (is0, ss)) :
    Names ros (preOf (masksFrom ops.toList [])) (nmR ops ros) ∧ (∀ (i : Nat) o, ops[i]? = some o → ∀ t, Operand.tmp t ∈ o.op.operands → t ∈ nmR ops ros i) ∧ (∀ (i : Nat) o, ops[i]? = some o → ∀ e ∈ o.after.toList, Region.binds .any e = true → e.on < i) ∧
      GoodOps ros (preOf (masksFrom ops.toList [])) [] is0 ∧ Good ros (preOf (masksFrom ops.toList [])) (nmR ops ros) is0 ss := by
  obtain ⟨hlen, _⟩ := resOps_get hros
  have hn : ops.size = ros.length := by simpa using hlen.symm
  unfold planB at h
  simp only at h
  split at h
  · rename_i hc
    injection h with h
    simp only [Bool.and_eq_true] at hc
    obtain ⟨⟨⟨c1, c2⟩, c3⟩, c4⟩ := hc
    rw [h] at c3 c4
    simp only [namesB, Bool.and_eq_true] at c2
    obtain ⟨⟨n1, n2⟩, n3⟩ := c2
    have hm : ∀ i, i < ops.size → Nat.blt ((masksFrom ops.toList []).getD i 0) (2 ^ ops.size) = true := fun i hi => allLt_spec n3 hi
    refine ⟨⟨fun t i j hi hj => ?_, fun i t j ht hj => ?_, fun i r hr => ⟨fun t ht => ?_, fun d want hd => ?_⟩⟩, fun i o ho t ht => ?_, fun i o ho e he hb => ?_, goodOpsB_spec hm hn _ _ c3, goodB_spec hm hn _ _ c4⟩
    · obtain ⟨a1, a2⟩ := wr_dstAt hi
      obtain ⟨b1, b2⟩ := wr_dstAt hj
      have := allLt_spec (allLt_spec n1 (i := i) (by omega)) (i := j) (by omega)
      rw [a1, b1] at this
      simpa using this
    · obtain ⟨b1, b2⟩ := wr_dstAt hj
      by_cases hi : i < ops.size
      · have := allLt_spec (allLt_spec n2 hi) (i := j) (by omega)
        rw [b1] at this
        simp only [Bool.or_eq_true, Bool.not_eq_true', beq_iff_eq] at this
        rcases this with ((h | h) | h) | h
        · exact absurd ht (by simpa using h)
        · exact .inl h
        · exact .inr (.inl h)
        · exact .inr (.inr h)
      · unfold nmR at ht
        rw [Array.getElem?_eq_none (by omega), List.getElem?_eq_none (by omega)] at ht
        simp at ht
    · unfold nmR; rw [hr]; simp only [List.mem_append]; exact .inr (.inl ht)
    · unfold nmR; simp [hr, hd, gdSlot]
    · unfold nmR; rw [ho]; simp only [List.mem_append]; exact .inl (mem_tmpsOf (by simpa using ht))
    · have hi : i < ops.size := (Array.getElem?_eq_some_iff.1 ho).1
      have := allLt_spec c1 hi
      rw [ho] at this
      have := List.all_eq_true.1 this e he
      simpa [hb] using this
  · cases h

theorem globN_spec (hT : TOK P T) {o : Oper} (h : globN T.ng o = true) : globOK P o = true := by
  unfold globN at h
  unfold globOK
  rw [List.all_eq_true] at h ⊢
  intro x hx
  have := h x hx
  cases x <;> simp_all
  have := hT.ng
  omega

/-- A region. -/
def runReg (T : TT) (nt : Nat) (call : CallF) (ops : Array Oper) (draw : Bool) (tm : TM) (h : H) : Option (TM × H) :=
  match resOps T nt ops ops.toList with
  | none => none
  | some ros => if ops.toList.all (globN T.ng) then
      (if draw then
        match planB ops ros with
        | none => none
        | some (is0, ss) => match runIx call ros is0 tm h with
          | none => none
          | some (tm, h) => runSlots call ros ss tm h
      else runOps call ros tm h)
    else none

theorem reg_wp {call : CallF} (hT : TOK P T) (hmix : P.follows .mixedOrders = true) (hcall : CallsOK P call) (hent : ∀ g args h v h', call g args h = some (v, h') → Enters P g) {nt : Nat} {ops : Array Oper} {id : Nat} {draw : Bool} {tm tmF : TM} {h hF : H}
    (hr : runReg T nt call ops draw tm h = some (tmF, hF)) {ι : Iota} {a : Act} {w : World} (hg : Globs P ι) (hrel : Rel nt ι tm a) (hh : HRel ι h w) {Q : Exit → Act → World → Prop}
    (hQ : ∀ ι' a' w', Rel nt ι' tmF a' → HRel ι' hF w' → Ext ι h w ι' hF w' → Q .normal a' w') : (Code.region id ops draw).wp P Q a w := by
  unfold runReg at hr
  split at hr
  · cases hr
  · rename_i ros hros
    split at hr
    · rename_i hgl
      have hgl' : ∀ o ∈ ops.toList, globOK P o = true := fun o ho => globN_spec hT (List.all_eq_true.1 hgl o ho)
      cases draw with
      | false =>
        simp only [Bool.false_eq_true, if_false] at hr
        exact wp_region_list (runOps_wp hT hcall hent ops.toList ros hros hgl' tm h tmF hF hr ι a w hg hrel hh hQ)
      | true =>
        simp only [if_true] at hr
        split at hr
        · cases hr
        · rename_i is0 ss hpl
          split at hr
          · cases hr
          · rename_i tm1 h1 h0
            obtain ⟨p1, p2, p3, p4, p5⟩ := planB_spec hros hpl
            exact draw_wp hT hmix hcall hent hros hgl' p1 p2 p3 p4 p5 h0 hr hg hrel hh hQ
    · cases hr

end Go.Ev
