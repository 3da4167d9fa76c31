import Derived.Test.YtlnffaalhedfmaaGreatDoorEvL6
import Derived.IntWalk
/-! A run with a number that came in: the code is parted where the number is brought down to a few. -/
namespace Go.Ev
variable {P : Program}

def nest : List BC → BC → BC
  | [], x => x
  | a :: l, x => .seq a (nest l x)
def spine : Nat → BC → List BC × BC
  | n + 1, .seq a b => (a :: (spine n b).1, (spine n b).2)
  | _, b => ([], b)
theorem nest_spine : ∀ (n : Nat) (b : BC), nest (spine n b).1 (spine n b).2 = b
  | 0, b => rfl
  | n + 1, b => by
    cases b <;> first | rfl | skip
    rename_i a b
    exact congrArg (BC.seq a) (nest_spine n b)

def seqL : BC → BC
  | .seq a _ => a
  | b => b
def seqR : BC → BC
  | .seq _ b => b
  | b => b

theorem nest_run {call : CallF} {n : Nat} : ∀ {l : List BC} {x : BC} {env env' : List V} {h h' : H}, execD call n (nest l .skip) env h = some (.nrm env', h') → execD call n (nest l x) env h = execD call n x env' h'
  | [], x, env, env', h, h', hr => by
    simp only [nest, execD, Option.some.injEq, Prod.mk.injEq, EX.nrm.injEq] at hr
    rw [hr.1, hr.2]
    rfl
  | a :: l, x, env, env', h, h', hr => by
    simp only [nest, execD] at hr ⊢
    cases ha : execD call n a env h with
    | none => rw [ha] at hr; cases hr
    | some p =>
      obtain ⟨ex, h1⟩ := p
      rw [ha] at hr
      cases ex with
      | nrm env1 => exact nest_run (l := l) hr
      | exit id env1 => cases hr
      | ret v => cases hr

theorem runB_nil (call : CallF) (env : List V) (h : H) : runB call [] env h = some (env, h) := rfl

theorem runB_op (call : CallF) (r : RO) (l : List BS) (env : List V) (h : H) : runB call (.op r :: l) env h = match stepB call r env h with | none => none | some (env, h) => runB call l env h := rfl

/-- One operation's step. -/
theorem stepB_bin {call : CallF} {d : Nat} {op : BinOp} {x y : X} {env : List V} {h : H} {v : V} (hv : binV op (evX (tmE env) x) (evX (tmE env) y) = some v) :
    stepB call ⟨some d, none, .bin op x y⟩ env h = some (v :: env, h) := by
  have h1 : semAll call (AO.map (evX (tmE env)) (.bin op x y)) h = some (v, h) := by
    have : semAll call (AO.map (evX (tmE env)) (.bin op x y)) h = (semP (AO.map (evX (tmE env)) (.bin op x y))).map (·, h) := rfl
    rw [this]
    show (binV op (evX (tmE env) x) (evX (tmE env) y)).map (·, h) = _
    rw [hv]
    rfl
  simp only [stepB, guardA, h1, pushE]

/-- (x % c + c) % c, as Go has it. -/
def md (x c : Int) : Int := (x.tmod c + c).tmod c
theorem md_lt (x : Int) {c : Int} (hc : 0 < c) : 0 ≤ md x c ∧ md x c < c := by
  have h1 := Int.tmod_lt_of_pos x hc
  have h2 := Int.lt_tmod_of_pos x hc
  have h3 : 0 ≤ x.tmod c + c := by omega
  exact ⟨Int.tmod_nonneg _ h3, Int.tmod_lt_of_pos _ hc⟩
theorem wrap_mid {a : Int} (h1 : -1000000 < a) (h2 : a < 1000000) : IntKind.i64.wrap a = a := IntWalk.i64_in a (by omega)
theorem md_run {call : CallF} {d1 d2 d3 p : Nat} {x c : Int} {env : List V} {h : H} (hc : 0 < c) (hc2 : c < 1000) (hp : env[p]? = some (.i .i64 x)) :
    runB call [.op ⟨some d1, none, .bin .rem (.t p) (.k (.i .i64 c))⟩, .op ⟨some d2, none, .bin .add (.t 0) (.k (.i .i64 c))⟩, .op ⟨some d3, none, .bin .rem (.t 0) (.k (.i .i64 c))⟩] env h =
      some (.i .i64 (md x c) :: .i .i64 (x.tmod c + c) :: .i .i64 (x.tmod c) :: env, h) := by
  have h1 := Int.tmod_lt_of_pos x hc
  have h2 := Int.lt_tmod_of_pos x hc
  have hne : ¬ c = 0 := by omega
  have hx : tmE env p = .i .i64 x := tmE_get hp
  have e1 : binV .rem (evX (tmE env) (.t p)) (evX (tmE env) (.k (.i .i64 c))) = some (.i .i64 (x.tmod c)) := by
    simp only [evX, hx, binV, binI, if_true, hne, if_false]
  have e2 : binV .add (evX (tmE (.i .i64 (x.tmod c) :: env)) (.t 0)) (evX (tmE (.i .i64 (x.tmod c) :: env)) (.k (.i .i64 c))) = some (.i .i64 (x.tmod c + c)) := by
    have : tmE (.i .i64 (x.tmod c) :: env) 0 = .i .i64 (x.tmod c) := rfl
    simp only [evX, this, binV, binI, if_true]
    rw [wrap_mid (by omega) (by omega)]
  have e3 : binV .rem (evX (tmE (.i .i64 (x.tmod c + c) :: .i .i64 (x.tmod c) :: env)) (.t 0)) (evX (tmE (.i .i64 (x.tmod c + c) :: .i .i64 (x.tmod c) :: env)) (.k (.i .i64 c))) = some (.i .i64 (md x c)) := by
    have : tmE (.i .i64 (x.tmod c + c) :: .i .i64 (x.tmod c) :: env) 0 = .i .i64 (x.tmod c + c) := rfl
    simp only [evX, this, binV, binI, if_true, hne, if_false]
    rfl
  simp only [runB, stepB_bin e1, stepB_bin e2, stepB_bin e3]

theorem rem_step {call : CallF} {d : Nat} {x y : X} {env : List V} {h : H} {a c : Int} (hx : evX (tmE env) x = .i .i64 a) (hy : evX (tmE env) y = .i .i64 c) (hc : 0 < c) :
    ∃ r : Int, -c < r ∧ r < c ∧ (0 ≤ a → 0 ≤ r) ∧ stepB call ⟨some d, none, .bin .rem x y⟩ env h = some (.i .i64 r :: env, h) := by
  refine ⟨a.tmod c, Int.lt_tmod_of_pos a hc, Int.tmod_lt_of_pos a hc, fun h => Int.tmod_nonneg _ h, stepB_bin ?_⟩
  have hne : ¬ c = 0 := by omega
  rw [hx, hy]
  simp only [binV, binI, if_true, hne, if_false]
theorem add_step {call : CallF} {d : Nat} {x y : X} {env : List V} {h : H} {a b : Int} (hx : evX (tmE env) x = .i .i64 a) (hy : evX (tmE env) y = .i .i64 b) (h1 : -1000000 < a + b) (h2 : a + b < 1000000) :
    stepB call ⟨some d, none, .bin .add x y⟩ env h = some (.i .i64 (a + b) :: env, h) := by
  refine stepB_bin ?_
  rw [hx, hy]
  simp only [binV, binI, if_true]
  rw [wrap_mid h1 h2]
theorem sub_step {call : CallF} {d : Nat} {x y : X} {env : List V} {h : H} {a b : Int} (hx : evX (tmE env) x = .i .i64 a) (hy : evX (tmE env) y = .i .i64 b) (h1 : -1000000 < a - b) (h2 : a - b < 1000000) :
    stepB call ⟨some d, none, .bin .sub x y⟩ env h = some (.i .i64 (a - b) :: env, h) := by
  refine stepB_bin ?_
  rw [hx, hy]
  simp only [binV, binI, if_true]
  rw [wrap_mid h1 h2]
theorem same_end {call : CallF} {n : Nat} {b : BC} {env e1 e2 : List V} {h h1 h2 : H} (a : execD call n b env h = some (.nrm e1, h1)) (c : execD call n b env h = some (.nrm e2, h2)) : e1 = e2 ∧ h1 = h2 := by
  rw [a] at c
  injection c with c
  injection c with c d
  injection c with c
  exact ⟨c, d⟩

/-- The end of a run of a piece. -/
def kI (env : List V) (h : H) : R := some (.tu env, h)
noncomputable def kP (p : Nat) (env : List V) (_ : H) : R := getE p env fun v => some (v, ⟨0, .lf⟩)
def noE : Nat → KE := fun _ _ _ => none
def noR : V → H → R := fun _ _ => none
def noN : KE := fun _ _ => none

/-- The run of the code ahead: it ends at its end; what lies at a place. -/
theorem ahead_at {call : CallF} {ck : CallK} (hc : CSnd call ck) {n p : Nat} {b : BC} {env : List V} {h : H} {v : V}
    (hr : execF ck n b env h (kP p) noE noR = some (v, ⟨0, .lf⟩)) : ∃ env' h', execD call n b env h = some (.nrm env', h') ∧ env'[p]? = some v := by
  obtain ⟨ex, h', h1, h2⟩ := execF_some hc b env h _ _ _ _ hr
  cases ex with
  | nrm env' =>
    obtain ⟨w, h3, h4⟩ := getE_some (n := p) (env := env') h2
    injection h4 with h4
    injection h4 with h4 _
    subst h4
    exact ⟨env', h', h1, h3⟩
  | exit id env' => cases h2
  | ret w => cases h2

/-- The run of the code ahead, then another piece's with some values more. -/
theorem ahead_then {call : CallF} {ck : CallK} (hc : CSnd call ck) {n : Nat} {b x : BC} {env : List V} {h : H} {vs : List V}
    (hr : isS (execF ck n b env h (fun env h => execF ck n x (vs ++ env) h noN noE kT) noE noR) = true) {env' : List V} {h' : H} (hb : execD call n b env h = some (.nrm env', h')) :
    ∃ h'', execD call n x (vs ++ env') h' = some (.ret (.b true), h'') := by
  obtain ⟨r, hr⟩ := isS_some hr
  obtain ⟨ex, h1, h2, h3⟩ := execF_some hc b env h _ _ _ _ hr
  rw [hb] at h2
  injection h2 with h2
  injection h2 with h2 h4
  subst h2; subst h4
  obtain ⟨ex2, h5, h6, h7⟩ := execF_some hc x _ _ _ _ _ _ h3
  cases ex2 with
  | nrm env2 => cases h7
  | exit id env2 => cases h7
  | ret w =>
    have := kT_some (h := h5) h7
    subst this
    exact ⟨h5, h6⟩

theorem callD_code {FT : Nat → Option FN} {n d g np : Nat} {b : BC} (hg : FT g = some (.code np b)) {args : List V} (hl : args.length = np) {h h' : H} {v : V} (hx : execD (callD FT n d) n b args h = some (.ret v, h')) :
    callD FT n (d + 1) g args h = some (v, h') := by
  simp only [callD, hg, hl, if_true, hx]

/-- What stands for a call, by a run in general. -/
theorem prim_of_callD {T : TT} {FT : Tr FN} (hT : TOK P T) (hmix : P.follows .mixedOrders = true) (hF : TrAll (FGood P T) FT id) {g : Nat} {f : List V → H → R}
    (hf : ∀ args h v h', f args h = some (v, h') → ∃ n d, callD (fun g => FT.get g) n d g args h = some (v, h')) : PrimOK P g f := by
  intro args h v h' hr ι xs w hg hargs hh
  obtain ⟨n, d, h1⟩ := hf args h v h' hr
  exact callD_ok hT hmix (FTOK.of_tree hF) d g args h v h' h1 ι xs w hg hargs hh

/-- What a run gives the row. -/
theorem calls_of_callD {T : TT} {FT : Tr FN} (hT : TOK P T) (hmix : P.follows .mixedOrders = true) (hF : TrAll (FGood P T) FT id) {n d g : Nat} {args : List V} {h h' : H}
    (hr : callD (fun g => FT.get g) n d g args h = some (.b true, h')) {ι : Iota} {xs : Array Value} {w : World} (hg : Globs P ι) (hargs : VRs ι args xs.toList) (hh : HRel ι h w) :
    Calls P g xs w fun e w' => e = .returned (.bool true) ∧ ∃ ι' h', HRel ι' h' w' ∧ Ext ι h w ι' h' w' := by
  refine (callD_ok hT hmix (FTOK.of_tree hF) d g args h _ h' hr ι xs w hg hargs hh).mono fun e w' ⟨x, ι', he, hv, h1, h2⟩ => ?_
  cases hv
  exact ⟨he, ι', h', h1, h2⟩

end Go.Ev
