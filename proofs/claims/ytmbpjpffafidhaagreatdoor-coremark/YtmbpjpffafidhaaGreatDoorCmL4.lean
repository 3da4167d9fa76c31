import Derived.Test.YtmbpjpffafidhaaGreatDoorCmL3
import Derived.LoopN
/-! Compiled code: slots of an environment for temporaries. -/
namespace Go.Ev

/-- A step of a region: an operation; a look at one again. -/
inductive BS where
  | op (r : RO)
  | chk (r : RO)

inductive BC where
  | skip
  | reg (l : List BS)
  | seq (a b : BC)
  | cond (x : X) (a b : BC)
  | block (id : Nat) (L : List Nat) (b : BC)
  | loop (b : BC)
  | exit (id : Nat)
  | ret (rs : List (AO X))
  | pre (ts ps : List Nat) (b : BC)
  | post (b : BC) (ts ps : List Nat)
  | bad

/-- How a piece of code ended, with the environment. -/
inductive EX where
  | nrm (env : List V)
  | exit (id : Nat) (env : List V)
  | ret (v : V)

def tmE (env : List V) : TM := fun n => env.getD n .u
def pushE (d : Option Nat) (v : V) (env : List V) : List V := match d with | none => env | some _ => v :: env

def stepB (call : CallF) (r : RO) (env : List V) (h : H) : Option (List V × H) :=
  match guardA r.gd (tmE env) with
  | none => none
  | some false => some (pushE r.dst (.tu []) env, h)
  | some true => match semAll call (r.op.map (evX (tmE env))) h with
    | none => none
    | some (v, h') => some (pushE r.dst v env, h')

def runB (call : CallF) : List BS → List V → H → Option (List V × H)
  | [], env, h => some (env, h)
  | .op r :: l, env, h => match stepB call r env h with
    | none => none
    | some (env, h) => runB call l env h
  | .chk r :: l, env, h => if chkA r (tmE env) h then runB call l env h else none

def pickE (env : List V) : List Nat → Option (List V)
  | [] => some []
  | p :: ps => match env[p]?, pickE env ps with
    | some v, some vs => some (v :: vs)
    | _, _ => none

def loopD (body : List V → H → Option (EX × H)) : Nat → List V → H → Option (EX × H)
  | 0, _, _ => none
  | n + 1, env, h => match body env h with
    | some (.nrm env', h') => loopD body n env' h'
    | r => r

def retV : List V → V
  | [v] => v
  | vs => .tu vs

def retsD (rs : List (AO X)) (env : List V) (h : H) : Option (List V) :=
  match rs with
  | [] => some []
  | r :: rs => match (match r with | .mv x => some (evX (tmE env) x) | r => semR (r.map (evX (tmE env))) h), retsD rs env h with
    | some v, some vs => some (v :: vs)
    | _, _ => none

def execD (call : CallF) (n : Nat) : BC → List V → H → Option (EX × H)
  | .skip, env, h => some (.nrm env, h)
  | .reg l, env, h => match runB call l env h with
    | none => none
    | some (env, h) => some (.nrm env, h)
  | .seq a b, env, h => match execD call n a env h with
    | some (.nrm env, h) => execD call n b env h
    | r => r
  | .cond x a b, env, h => match evX (tmE env) x with
    | .b true => execD call n a env h
    | .b false => execD call n b env h
    | _ => none
  | .block id _ b, env, h => match execD call n b env h with
    | some (.exit id' env, h) => if id' = id then some (.nrm env, h) else some (.exit id' env, h)
    | r => r
  | .loop b, env, h => loopD (execD call n b) n env h
  | .exit id, env, h => some (.exit id env, h)
  | .ret rs, env, h => match retsD rs env h with
    | some vs => some (.ret (retV vs), h)
    | none => none
  | .pre _ ps b, env, h => match pickE env ps with
    | none => none
    | some env => execD call n b env h
  | .post b _ ps, env, h => match execD call n b env h with
    | some (.nrm env, h) => match pickE env ps with
      | none => none
      | some env => some (.nrm env, h)
    | r => r
  | .bad, _, _ => none

/-- What is called: compiled code; something known by its contract. -/
inductive FN where
  | code (np : Nat) (b : BC)
  | prim (f : List V → H → Option (V × H))

def callD (FT : Nat → Option FN) (n : Nat) : Nat → CallF
  | 0 => fun _ _ _ => none
  | d + 1 => fun g args h => match FT g with
    | none => none
    | some (.prim f) => f args h
    | some (.code np b) => if args.length = np then (match execD (callD FT n d) n b args h with
      | some (.ret v, h') => some (v, h')
      | _ => none) else none

/-! ### compiling -/
/-- The places: which temporaries each slot of the environment is the value of. -/
abbrev Lay := List (List Nat)

def posOf (t : Nat) : Lay → Option Nat
  | [] => none
  | x :: L => if x.contains t then some 0 else (posOf t L).map (· + 1)
def delL (d : Nat) (L : Lay) : Lay := L.map (·.filter (· != d))
def addAt (d : Nat) : Nat → Lay → Lay
  | _, [] => []
  | 0, x :: L => (d :: x) :: L
  | p + 1, x :: L => x :: addAt d p L

def okX (L : Lay) : X → Bool
  | .k _ => true
  | .t t => (posOf t L).isSome
def toP (L : Lay) : X → X
  | .k v => .k v
  | .t t => .t ((posOf t L).getD 0)
def gdP (L : Lay) : Option (Nat × Bool) → Option (Option (Nat × Bool))
  | none => some none
  | some (d, b) => match posOf d L with
    | some p => some (some (p, b))
    | none => none

def opP (L : Lay) (r : RO) : Option RO :=
  match gdP L r.gd with
  | none => none
  | some gd => if r.op.xs.all (okX L) then some ⟨r.dst, gd, r.op.map (toP L)⟩ else none
def chkP (L : Lay) (r : RO) : Option RO :=
  match gdP L r.gd, r.dst with
  | some gd, some d => match posOf d L with
    | some p => if r.op.xs.all (okX L) then some ⟨some p, gd, r.op.map (toP L)⟩ else none
    | none => none
  | _, _ => none

def pushL (d : Option Nat) (L : Lay) : Lay := match d with | none => L | some d => [d] :: delL d L

/-- A move from a slot: the slot, the temporary. -/
def mvOf (L : Lay) (r : RO) : Option (Nat × Nat) :=
  match r.op, r.gd, r.dst with
  | .mv (.t t), none, some d => (posOf t L).map fun p => (p, d)
  | _, _, _ => none

def stepsP : List (Bool × RO) → Lay → Option (List BS × Lay)
  | [], L => some ([], L)
  | (true, r) :: l, L => match mvOf L r with
    | some (p, d) => stepsP l (addAt d p (delL d L))
    | none => match opP L r with
      | none => none
      | some r' => match stepsP l (pushL r.dst L) with
        | none => none
        | some (bs, L') => some (.op r' :: bs, L')
  | (false, r) :: l, L => match chkP L r with
    | none => none
    | some r' => match stepsP l L with
      | none => none
      | some (bs, L') => some (.chk r' :: bs, L')

def linIx (k : Bool) (ros : List RO) : List Nat → Option (List (Bool × RO))
  | [] => some []
  | i :: is => match ros[i]?, linIx k ros is with
    | some r, some l => some ((k, r) :: l)
    | _, _ => none
def linSlots (ros : List RO) : List Slot → Option (List (Bool × RO))
  | [] => some []
  | s :: ss => match linIx true ros s.eff.toList, linIx false ros s.chk, linIx true ros s.ops, linSlots ros ss with
    | some a, some b, some c, some d => some (a ++ (b ++ (c ++ d)))
    | _, _, _, _ => none

/-- The steps of a region, in the order in which they are run. -/
def linR (T : TT) (nt : Nat) (ops : Array Oper) (draw : Bool) : Option (List (Bool × RO)) :=
  match resOps T nt ops ops.toList with
  | none => none
  | some ros => if ops.toList.all (globN T.ng) then
      (if draw then
        match planB ops ros with
        | none => none
        | some (is0, ss) => match linIx true ros is0, linSlots ros ss with
          | some a, some b => some (a ++ b)
          | _, _ => none
      else some (ros.map (true, ·)))
    else none

def pickL (L : Lay) : List Nat → List Nat → Option Lay
  | [], [] => some []
  | t :: ts, p :: ps => match pickL L ts ps with
    | some ls => if posOf t L = some p then some ([t] :: ls) else none
    | none => none
  | _, _ => none

def cxOf (id : Nat) : List (Nat × Lay) → Option Lay
  | [] => none
  | (i, L) :: r => if i = id then some L else cxOf id r

def retP (T : TT) (L : Lay) : List ResultVar → Option (List (AO X))
  | [] => some []
  | .tmp t :: r => match posOf t L, retP T L r with
    | some p, some rs => some (.mv (.t p) :: rs)
    | _, _ => none
  | .cell t ty :: r => match posOf t L, T.ty ty, retP T L r with
    | some p, some i, some rs => some ((if TypeDesc.agg i.d then .ldn i.size (.t p) else .ld (.t p)) :: rs)
    | _, _, _ => none

/-- Code compiled, after a pattern. What comes last: the places after it, if it ends at its end. -/
def compC (T : TT) (nt : Nat) (rv : List ResultVar) : BC → Code → List (Nat × Lay) → Lay → Option (BC × Option Lay)
  | .pre ts ps b, c, cx, L => match pickL L ts ps with
    | none => none
    | some L' => match compC T nt rv b c cx L' with
      | none => none
      | some (b', lo) => some (.pre ts ps b', lo)
  | .post b ts ps, c, cx, L => match compC T nt rv b c cx L with
    | some (b', some L1) => match pickL L1 ts ps with
      | none => none
      | some L2 => some (.post b' ts ps, some L2)
    | _ => none
  | .bad, _, _, _ => some (.bad, none)
  | .skip, .skip, _, L => some (.skip, some L)
  | .reg _, .region _ ops draw, _, L => match linR T nt ops draw with
    | none => none
    | some l => match stepsP l L with
      | none => none
      | some (bs, L') => some (.reg bs, some L')
  | .seq a b, .seq x y, cx, L => match compC T nt rv a x cx L with
    | none => none
    | some (a', none) => some (.seq a' .skip, none)
    | some (a', some L1) => match compC T nt rv b y cx L1 with
      | none => none
      | some (b', lo) => some (.seq a' b', lo)
  | .cond _ a b, .cond x c d, cx, L => match X.of x with
    | none => none
    | some x' => match compC T nt rv a c cx L, compC T nt rv b d cx L with
      | some (a', la), some (b', lb) => if okX L x' then (match la, lb with
          | none, lb => some (.cond (toP L x') a' b', lb)
          | la, none => some (.cond (toP L x') a' b', la)
          | some la, some lb => if la = lb then some (.cond (toP L x') a' b', some la) else none) else none
      | _, _ => none
  | .block _ Lb b, .block id c, cx, L => match compC T nt rv b c ((id, Lb.map ([·])) :: cx) L with
    | some (b', none) => some (.block id Lb b', some (Lb.map ([·])))
    | some (b', some L') => if L' = Lb.map ([·]) then some (.block id Lb b', some (Lb.map ([·]))) else none
    | none => none
  | .loop b, .loop c, cx, L => match compC T nt rv b c cx L with
    | some (b', none) => some (.loop b', none)
    | some (b', some L') => if L' = L then some (.loop b', none) else none
    | none => none
  | .exit _, .exit id, cx, L => match cxOf id cx with
    | some L' => if L' = L then some (.exit id, none) else none
    | none => none
  | .ret _, .ret, _, L => match retP T L rv with
    | some rs => some (.ret rs, none)
    | none => none
  | _, _, _, _ => none

/-- A function. -/
def compF (T : TT) (fn : Func) (np : Nat) (hint : BC) : Option BC :=
  match fn.body with
  | none => none
  | some c => if Nat.ble np fn.ntmps then (match compC T fn.ntmps fn.results.toList hint c [] ((List.range np).map ([·])) with
    | none => none
    | some (b, none) => some b
    | some (b, some L) => match retP T L fn.results.toList with
      | some rs => some (.seq b (.ret rs))
      | none => none) else none

end Go.Ev

/-! Compiled regions are regions. -/
namespace Go.Ev
variable {P : Program} {T : TT}

theorem posOf_del {t d : Nat} (h : t ≠ d) : ∀ L : Lay, posOf t (delL d L) = posOf t L
  | [] => rfl
  | x :: L => by
    have ih := posOf_del h L
    unfold delL at ih
    have hc : (x.filter (· != d)).contains t = x.contains t := by
      rw [Bool.eq_iff_iff]
      simp [h]
    simp only [delL, List.map_cons, posOf, hc, ih]

theorem posOf_del_self {d : Nat} : ∀ L : Lay, posOf d (delL d L) = none
  | [] => rfl
  | x :: L => by
    have ih := posOf_del_self (d := d) L
    unfold delL at ih
    have hc : (x.filter (· != d)).contains d = false := by simp
    simp only [delL, List.map_cons, posOf, hc, ih]
    rfl

theorem posOf_add {t d : Nat} (h : t ≠ d) : ∀ (p : Nat) (L : Lay), posOf t (addAt d p L) = posOf t L
  | _, [] => by cases ‹Nat› <;> rfl
  | 0, x :: L => by
    have : (d :: x).contains t = x.contains t := by
      rw [Bool.eq_iff_iff]; simp [h]
    simp only [addAt, posOf, this]
  | p + 1, x :: L => by simp only [addAt, posOf, posOf_add h p L]

theorem posOf_add_self {d : Nat} : ∀ (p : Nat) (L : Lay), posOf d L = none → ∀ q, posOf d (addAt d p L) = some q → q = p
  | p, [], _, q, hq => by cases p <;> simp [addAt, posOf] at hq
  | 0, x :: L, _, q, hq => by
    simp [addAt, posOf] at hq; exact hq.symm
  | p + 1, x :: L, hn, q, hq => by
    simp only [posOf] at hn
    split at hn
    · cases hn
    · rename_i hc
      simp only [Option.map_eq_none_iff] at hn
      simp only [addAt, posOf, hc, Bool.false_eq_true, if_false, Option.map_eq_some_iff] at hq
      obtain ⟨r, hr, rfl⟩ := hq
      rw [posOf_add_self p L hn r hr]

def Agree (L : Lay) (tm : TM) (env : List V) : Prop := ∀ t p, posOf t L = some p → env[p]? = some (tm t)

theorem Agree.tmE {L : Lay} {tm : TM} {env : List V} (h : Agree L tm env) {t p : Nat} (hp : posOf t L = some p) : tmE env p = tm t := by
  simp [Ev.tmE, List.getD_eq_getElem?_getD, h t p hp]

theorem Agree.evX {L : Lay} {tm : TM} {env : List V} (h : Agree L tm env) {x : X} (hx : okX L x = true) : evX (Ev.tmE env) (toP L x) = Ev.evX tm x := by
  cases x with
  | k v => rfl
  | t t =>
    simp only [okX, Option.isSome_iff_exists] at hx
    obtain ⟨p, hp⟩ := hx
    simp only [toP, hp, Option.getD_some, Ev.evX]
    exact h.tmE hp

theorem Agree.push {L : Lay} {tm : TM} {env : List V} (h : Agree L tm env) (d : Option Nat) (v : V) : Agree (pushL d L) (putD tm d v) (pushE d v env) := by
  cases d with
  | none => exact h
  | some d =>
    intro t p hp
    by_cases he : t = d
    · subst he
      have : ([t] : List Nat).contains t = true := by simp
      simp only [pushL, posOf, this, if_true, Option.some.injEq] at hp
      subst hp
      simp [pushE, putD]
    · have : ([d] : List Nat).contains t = false := by simp [he]
      simp only [pushL, posOf, this, Bool.false_eq_true, if_false, posOf_del he, Option.map_eq_some_iff] at hp
      obtain ⟨q, h1, rfl⟩ := hp
      simp only [pushE, List.getElem?_cons_succ, putD, he, if_false]
      exact h t q h1

theorem Agree.alias {L : Lay} {tm : TM} {env : List V} (h : Agree L tm env) {t0 d p : Nat} (hp0 : posOf t0 L = some p) : Agree (addAt d p (delL d L)) (putD tm (some d) (tm t0)) env := by
  intro t q hq
  by_cases he : t = d
  · subst he
    have := posOf_add_self p _ (posOf_del_self L) q hq
    subst this
    simpa [putD] using h t0 _ hp0
  · rw [posOf_add he, posOf_del he] at hq
    simpa [putD, he] using h t q hq

theorem Agree.guard {L : Lay} {tm : TM} {env : List V} (h : Agree L tm env) {gd gd' : Option (Nat × Bool)} (hg : gdP L gd = some gd') : guardA gd' (Ev.tmE env) = guardA gd tm := by
  cases gd with
  | none => simp [gdP] at hg; subst hg; rfl
  | some x =>
    obtain ⟨d, b⟩ := x
    simp only [gdP] at hg
    split at hg
    · rename_i p hp
      injection hg with hg; subst hg
      simp only [guardA, h.tmE hp]
    · cases hg

theorem AO.map_map {α β γ : Type} (f : α → β) (g : β → γ) (o : AO α) : (o.map f).map g = o.map fun x => g (f x) := by
  cases o <;> simp [AO.map, Function.comp_def]

theorem Agree.map {L : Lay} {tm : TM} {env : List V} (h : Agree L tm env) {ao : AO X} (hx : ao.xs.all (okX L) = true) : (ao.map (toP L)).map (Ev.evX (Ev.tmE env)) = ao.map (Ev.evX tm) := by
  rw [AO.map_map]
  exact AO.map_congr _ fun x hm => h.evX (List.all_eq_true.1 hx x hm)

theorem Agree.pick {L : Lay} {tm : TM} {env : List V} (h : Agree L tm env) : ∀ {ts ps : List Nat} {L' : Lay} {env' : List V}, pickL L ts ps = some L' → pickE env ps = some env' → Agree L' tm env'
  | [], [], L', env', h1, h2 => by
    simp [pickL] at h1; subst h1
    intro t p hp; simp [posOf] at hp
  | [], _ :: _, L', env', h1, h2 => by simp [pickL] at h1
  | _ :: _, [], L', env', h1, h2 => by simp [pickL] at h1
  | t :: ts, q :: ps, L', env', h1, h2 => by
    simp only [pickL] at h1
    split at h1
    · rename_i ls hts
      split at h1
      · rename_i hq
        injection h1 with h1; subst h1
        simp only [pickE] at h2
        split at h2
        · rename_i v vs hv hvs
          injection h2 with h2; subst h2
          have := h t q hq
          rw [hv] at this; injection this with this; subst this
          intro t' p hp
          by_cases he : t' = t
          · subst he
            have : ([t'] : List Nat).contains t' = true := by simp
            simp only [posOf, this, if_true, Option.some.injEq] at hp
            subst hp; rfl
          · have : ([t] : List Nat).contains t' = false := by simp [he]
            simp only [posOf, this, Bool.false_eq_true, if_false, Option.map_eq_some_iff] at hp
            obtain ⟨r, h3, rfl⟩ := hp
            simpa using Agree.pick h hts hvs t' r h3
        · cases h2
      · cases h1
    · cases h1

def runLin (call : CallF) : List (Bool × RO) → TM → H → Option (TM × H)
  | [], tm, h => some (tm, h)
  | (true, r) :: l, tm, h => match stepA call r tm h with
    | none => none
    | some (tm, h) => runLin call l tm h
  | (false, r) :: l, tm, h => if chkA r tm h then runLin call l tm h else none

theorem opP_step {call : CallF} {L : Lay} {r r' : RO} (hr : opP L r = some r') {tm : TM} {env env' : List V} {h h' : H} (ha : Agree L tm env) (hs : stepB call r' env h = some (env', h')) :
    ∃ tm', stepA call r tm h = some (tm', h') ∧ Agree (pushL r.dst L) tm' env' := by
  unfold opP at hr
  split at hr
  · cases hr
  · rename_i gd hgd
    split at hr
    · rename_i hx
      injection hr with hr; subst hr
      simp only [stepB, ha.guard hgd, ha.map hx] at hs
      unfold stepA
      split at hs
      · cases hs
      · rename_i hg
        simp only [Option.some.injEq, Prod.mk.injEq] at hs
        obtain ⟨rfl, rfl⟩ := hs
        simp only [hg]
        exact ⟨_, rfl, ha.push _ _⟩
      · rename_i hg
        split at hs
        · cases hs
        · rename_i v h2 hsm
          simp only [Option.some.injEq, Prod.mk.injEq] at hs
          obtain ⟨rfl, rfl⟩ := hs
          simp only [hg, hsm]
          exact ⟨_, rfl, ha.push _ _⟩
    · cases hr

theorem chkP_step {L : Lay} {r r' : RO} (hr : chkP L r = some r') {tm : TM} {env : List V} {h : H} (ha : Agree L tm env) : chkA r' (Ev.tmE env) h = chkA r tm h := by
  unfold chkP at hr
  split at hr
  · rename_i gd d hgd hd
    split at hr
    · rename_i p hp
      split at hr
      · rename_i hx
        injection hr with hr; subst hr
        unfold chkA
        simp only [ha.guard hgd, ha.map hx, hd, AO.cls_map, ha.tmE hp]
      · cases hr
    · cases hr
  · cases hr

theorem stepsP_run {call : CallF} : ∀ {l : List (Bool × RO)} {L : Lay} {bs : List BS} {L' : Lay}, stepsP l L = some (bs, L') → ∀ {tm : TM} {env env' : List V} {h h' : H}, Agree L tm env → runB call bs env h = some (env', h') →
    ∃ tm', runLin call l tm h = some (tm', h') ∧ Agree L' tm' env'
  | [], L, bs, L', hst, tm, env, env', h, h', ha, hr => by
    simp only [stepsP, Option.some.injEq, Prod.mk.injEq] at hst
    obtain ⟨rfl, rfl⟩ := hst
    simp only [runB, Option.some.injEq, Prod.mk.injEq] at hr
    obtain ⟨rfl, rfl⟩ := hr
    exact ⟨tm, rfl, ha⟩
  | (true, r) :: l, L, bs, L', hst, tm, env, env', h, h', ha, hr => by
    simp only [stepsP] at hst
    split at hst
    · rename_i p d hmv
      unfold mvOf at hmv
      split at hmv
      · rename_i t0 d0 ho hg hd
        simp only [Option.map_eq_some_iff, Prod.mk.injEq] at hmv
        obtain ⟨p0, hp0, rfl, rfl⟩ := hmv
        obtain ⟨tm2, e3, e4⟩ := stepsP_run hst (ha.alias hp0) hr
        refine ⟨tm2, ?_, e4⟩
        have hst1 : stepA call r tm h = some (putD tm (some d0) (tm t0), h) := by
          unfold stepA
          rw [hg, ho, hd]
          rfl
        simp only [runLin, hst1, e3]
      · cases hmv
    · split at hst
      · cases hst
      · rename_i r' hop
        split at hst
        · cases hst
        · rename_i bs' L2 hl
          simp only [Option.some.injEq, Prod.mk.injEq] at hst
          obtain ⟨rfl, rfl⟩ := hst
          simp only [runB] at hr
          split at hr
          · cases hr
          · rename_i env1 h1 hs
            obtain ⟨tm1, e1, e2⟩ := opP_step hop ha hs
            obtain ⟨tm2, e3, e4⟩ := stepsP_run hl e2 hr
            exact ⟨tm2, by simp only [runLin, e1, e3], e4⟩
  | (false, r) :: l, L, bs, L', hst, tm, env, env', h, h', ha, hr => by
    simp only [stepsP] at hst
    split at hst
    · cases hst
    · rename_i r' hop
      split at hst
      · cases hst
      · rename_i bs' L2 hl
        simp only [Option.some.injEq, Prod.mk.injEq] at hst
        obtain ⟨rfl, rfl⟩ := hst
        simp only [runB] at hr
        split at hr
        · rename_i hc
          rw [chkP_step hop ha] at hc
          obtain ⟨tm2, e3, e4⟩ := stepsP_run hl ha hr
          exact ⟨tm2, by simp only [runLin, hc, if_true, e3], e4⟩
        · cases hr

theorem runLin_append {call : CallF} : ∀ {a b : List (Bool × RO)} {tm tm' : TM} {h h' : H}, runLin call (a ++ b) tm h = some (tm', h') → ∃ tm1 h1, runLin call a tm h = some (tm1, h1) ∧ runLin call b tm1 h1 = some (tm', h')
  | [], b, tm, tm', h, h', hr => ⟨tm, h, rfl, hr⟩
  | (true, r) :: a, b, tm, tm', h, h', hr => by
    simp only [List.cons_append, runLin] at hr
    split at hr
    · cases hr
    · rename_i tm1 h1 hs
      obtain ⟨tm2, h2, e1, e2⟩ := runLin_append hr
      exact ⟨tm2, h2, by simp only [runLin, hs, e1], e2⟩
  | (false, r) :: a, b, tm, tm', h, h', hr => by
    simp only [List.cons_append, runLin] at hr
    split at hr
    · rename_i hs
      obtain ⟨tm2, h2, e1, e2⟩ := runLin_append hr
      exact ⟨tm2, h2, by simp only [runLin, hs, if_true, e1], e2⟩
    · cases hr

theorem linIx_true {call : CallF} {ros : List RO} : ∀ {is : List Nat} {l : List (Bool × RO)}, linIx true ros is = some l → ∀ {tm : TM} {h : H}, runIx call ros is tm h = runLin call l tm h
  | [], l, hl, tm, h => by simp [linIx] at hl; subst hl; rfl
  | i :: is, l, hl, tm, h => by
    simp only [linIx] at hl
    split at hl
    · rename_i r l' hr hl'
      injection hl with hl; subst hl
      simp only [runIx, hr, runLin]
      cases stepA call r tm h with
      | none => rfl
      | some x => exact linIx_true hl'
    · cases hl

theorem linIx_false {call : CallF} {ros : List RO} : ∀ {is : List Nat} {l : List (Bool × RO)}, linIx false ros is = some l → ∀ {tm tm' : TM} {h h' : H}, runLin call l tm h = some (tm', h') →
    tm' = tm ∧ h' = h ∧ is.all (fun i => match ros[i]? with | some r => chkA r tm h | none => false) = true
  | [], l, hl, tm, tm', h, h', hr => by simp [linIx] at hl; subst hl; simp [runLin] at hr; simp [hr]
  | i :: is, l, hl, tm, tm', h, h', hr => by
    simp only [linIx] at hl
    split at hl
    · rename_i r l' hri hl'
      injection hl with hl; subst hl
      simp only [runLin] at hr
      split at hr
      · rename_i hc
        obtain ⟨e1, e2, e3⟩ := linIx_false hl' hr
        exact ⟨e1, e2, by simp only [List.all_cons, hri, hc, e3, Bool.and_self]⟩
      · cases hr
    · cases hl

theorem linSlots_run {call : CallF} {ros : List RO} : ∀ {ss : List Slot} {l : List (Bool × RO)}, linSlots ros ss = some l → ∀ {tm tm' : TM} {h h' : H}, runLin call l tm h = some (tm', h') → runSlots call ros ss tm h = some (tm', h')
  | [], l, hl, tm, tm', h, h', hr => by simp [linSlots] at hl; subst hl; simpa [runLin, runSlots] using hr
  | s :: ss, l, hl, tm, tm', h, h', hr => by
    simp only [linSlots] at hl
    split at hl
    · rename_i a b c d ha hb hc hd
      injection hl with hl; subst hl
      obtain ⟨tm1, h1, r1, r2⟩ := runLin_append hr
      obtain ⟨tm2, h2, r3, r4⟩ := runLin_append r2
      obtain ⟨tm3, h3, r5, r6⟩ := runLin_append r4
      obtain ⟨rfl, rfl, r7⟩ := linIx_false hb r3
      have e4 := linSlots_run hd r6
      rw [← linIx_true hc] at r5
      rw [← linIx_true ha] at r1
      have e5 : runSlot call ros s tm h = some (tm3, h3) := by
        unfold runSlot
        cases he : s.eff with
        | none =>
          rw [he] at r1
          simp only [Option.toList, runIx, Option.some.injEq, Prod.mk.injEq] at r1
          obtain ⟨rfl, rfl⟩ := r1
          simp only [r5]
          exact if_pos r7
        | some e =>
          rw [he] at r1
          simp only [Option.toList] at r1
          simp only [r1, r5]
          exact if_pos r7
      simp only [runSlots, e5, e4]
    · cases hl

theorem runOps_lin {call : CallF} : ∀ {ros : List RO} {tm : TM} {h : H}, runLin call (ros.map (true, ·)) tm h = runOps call ros tm h
  | [], tm, h => rfl
  | r :: ros, tm, h => by
    simp only [List.map_cons, runLin, runOps]
    cases stepA call r tm h with
    | none => rfl
    | some x => exact runOps_lin

theorem linR_run {call : CallF} {nt : Nat} {ops : Array Oper} {draw : Bool} {l : List (Bool × RO)} (hl : linR T nt ops draw = some l) {tm tm' : TM} {h h' : H} (hr : runLin call l tm h = some (tm', h')) :
    runReg T nt call ops draw tm h = some (tm', h') := by
  unfold linR at hl
  unfold runReg
  split at hl
  · cases hl
  · rename_i ros hros
    simp only [hros]
    split at hl
    · rename_i hg
      simp only [hg, if_true]
      cases draw with
      | false =>
        simp only [Bool.false_eq_true, if_false, Option.some.injEq] at hl
        subst hl
        rw [runOps_lin] at hr
        simpa using hr
      | true =>
        simp only [if_true] at hl
        split at hl
        · cases hl
        · rename_i is0 ss hpl
          simp only [hpl]
          split at hl
          · rename_i a b ha hb
            injection hl with hl; subst hl
            obtain ⟨tm1, h1, r1, r2⟩ := runLin_append hr
            rw [← linIx_true ha] at r1
            simp only [r1, linSlots_run hb r2, if_true]
          · cases hl
    · cases hl

end Go.Ev

/-! Results. -/
namespace Go.Ev
variable {P : Program} {T : TT}

def rstep (tmps : Array Value) : ResultVar → Sem Value
  | .tmp t => pure (tmps.getD t undef)
  | .cell a t => do loadVar t (← asAddr (tmps.getD a undef))

theorem run_mapML {α : Type} {f : α → Sem Value} {w : World} : ∀ {as : List α} {vs : List Value}, vs.length = as.length → (∀ (i : Nat) (x : α), as[i]? = some x → ∃ v, vs[i]? = some v ∧ (f x).run P w = .ok v w) → (as.mapM f).run P w = .ok vs w
  | [], [], _, _ => by simp
  | [], _ :: _, h, _ => by simp at h
  | _ :: _, [], h, _ => by simp at h
  | x :: as, v :: vs, hl, hf => by
    obtain ⟨v', h1, h2⟩ := hf 0 x rfl
    simp at h1; subst h1
    have := run_mapML (w := w) (f := f) (as := as) (vs := vs) (by simpa using hl) fun i x hx => by simpa using hf (i + 1) x (by simpa using hx)
    simp only [List.mapM_cons, Sem.run_bind, h2, Result.andThen_ok, this, Sem.run_pure]

theorem run_mapM {α : Type} {f : α → Sem Value} {w : World} {as : Array α} {vs : List Value} (hlen : vs.length = as.toList.length) (hf : ∀ (i : Nat) (x : α), as.toList[i]? = some x → ∃ v, vs[i]? = some v ∧ (f x).run P w = .ok v w) :
    (as.mapM f).run P w = .ok vs.toArray w := by
  rw [Array.mapM_eq_mapM_toList, Sem.run_map, run_mapML hlen hf, Result.andThen_ok]

theorem run_loadVar {t : Nat} (hT : TOK P T) {i : TI} (hi : T.ty t = some i) {ι : Iota} {h : H} {w : World} (hh : HRel ι h w) {x : V} {y : Value} (hx : VR ι x y) {v : V}
    (hs : semR (if TypeDesc.agg i.d then .ldn i.size x else .ld x) h = some v) : ∃ z, (do loadVar t (← asAddr y) : Sem Value).run P w = .ok z w ∧ VR ι v z := by
  cases hd : TypeDesc.agg i.d with
  | false =>
    rw [hd] at hs
    simp only [Bool.false_eq_true, if_false, semR] at hs
    split at hs
    · rename_i B of
      split at hs
      · rename_i cs fz q hB
        cases hx with
        | p _ _ e he =>
          obtain ⟨z, hz, hv⟩ := cell_of hh hB he hs
          refine ⟨z, ?_, hv⟩
          unfold loadVar
          simp only [Sem.run_bind, asAddr, Sem.run_pure, Result.andThen_ok, run_isAgg hT hi, hd, Bool.false_eq_true, if_false, run_load hz]
      · cases hs
    · cases hs
  | true =>
    rw [hd] at hs
    simp only [if_true, semR] at hs
    split at hs
    · rename_i B of
      simp only [Option.map_eq_some_iff] at hs
      obtain ⟨vs, hc, rfl⟩ := hs
      cases hx with
      | p _ _ e he =>
        obtain ⟨xs, r1, r2, _, r3⟩ := cellsAt_rel hh hc he
        refine ⟨.agg xs.toArray, ?_, .ag _ _ r1⟩
        unfold loadVar
        have := run_loadCells (P := P) xs r3
        rw [r2] at this
        simp only [Sem.run_bind, asAddr, Sem.run_pure, Result.andThen_ok, run_isAgg hT hi, hd, if_true, run_size hT hi, this]
    · cases hs

theorem retP_list {nt : Nat} (hT : TOK P T) {L : Lay} {tm : TM} {env : List V} {h : H} {ι : Iota} {a : Act} {w : World} (hag : Agree L tm env) (hrel : Rel nt ι tm a) (hh : HRel ι h w) :
    ∀ {rv : List ResultVar} {rs : List (AO X)} {vs : List V}, retP T L rv = some rs → retsD rs env h = some vs →
      ∃ xs : List Value, VRs ι vs xs ∧ xs.length = rv.length ∧ ∀ (i : Nat) (x : ResultVar), rv[i]? = some x → ∃ v, xs[i]? = some v ∧ (rstep a.tmps x).run P w = .ok v w
  | [], rs, vs, hr, hs => by
    simp [retP] at hr; subst hr
    simp [retsD] at hs; subst hs
    exact ⟨[], .nil, rfl, fun i x hx => by simp at hx⟩
  | .tmp t :: rv, rs, vs, hr, hs => by
    simp only [retP] at hr
    split at hr
    · rename_i p rs' hp hrs'
      injection hr with hr; subst hr
      simp only [retsD] at hs
      split at hs
      · rename_i v vs' hv hvs'
        injection hs with hs; subst hs
        injection hv with hv
        simp only [Ev.evX] at hv
        rw [hag.tmE hp] at hv
        subst hv
        obtain ⟨xs, e1, e2, e3⟩ := retP_list hT hag hrel hh hrs' hvs'
        refine ⟨a.tmps.getD t undef :: xs, .cons _ _ _ _ (hrel.vr t) e1, by simp [e2], fun i x hx => ?_⟩
        cases i with
        | zero =>
          simp at hx; subst hx
          exact ⟨_, rfl, by simp only [rstep, Sem.run_pure]⟩
        | succ i => simpa using e3 i x (by simpa using hx)
      · cases hs
    · cases hr
  | .cell t ty :: rv, rs, vs, hr, hs => by
    simp only [retP] at hr
    split at hr
    · rename_i p i0 rs' hp hi hrs'
      injection hr with hr; subst hr
      simp only [retsD] at hs
      split at hs
      · rename_i v vs' hv hvs'
        injection hs with hs; subst hs
        have hv' : semR (if TypeDesc.agg i0.d then .ldn i0.size (tm t) else .ld (tm t)) h = some v := by
          cases hd : TypeDesc.agg i0.d <;> rw [hd] at hv <;> simp only [Bool.false_eq_true, if_false, if_true, AO.map, Ev.evX, hag.tmE hp] at hv ⊢ <;> exact hv
        obtain ⟨z, z1, z2⟩ := run_loadVar hT hi hh (hrel.vr t) hv'
        obtain ⟨xs, e1, e2, e3⟩ := retP_list hT hag hrel hh hrs' hvs'
        refine ⟨z :: xs, .cons _ _ _ _ z2 e1, by simp [e2], fun i x hx => ?_⟩
        cases i with
        | zero =>
          simp at hx; subst hx
          exact ⟨_, rfl, z1⟩
        | succ i => simpa using e3 i x (by simpa using hx)
      · cases hs
    · cases hr

theorem results_eq (fn : Func) (tmps : Array Value) : results fn tmps = (do
    let vs ← fn.results.mapM (rstep tmps)
    pure (if h : vs.size = 1 then vs[0] else .tuple vs)) := by
  unfold results
  congr

theorem retP_results {nt : Nat} (hT : TOK P T) {L : Lay} {tm : TM} {env : List V} {h : H} {ι : Iota} {a : Act} {w : World} (hag : Agree L tm env) (hrel : Rel nt ι tm a) (hh : HRel ι h w) {fn : Func} {rs : List (AO X)} {vs : List V}
    (hr : retP T L fn.results.toList = some rs) (hs : retsD rs env h = some vs) : ∃ x, (results fn a.tmps).run P w = .ok x w ∧ VR ι (retV vs) x := by
  obtain ⟨xs, e1, e2, e3⟩ := retP_list hT hag hrel hh hr hs
  have hm := run_mapM (P := P) (w := w) (as := fn.results) (vs := xs) (f := rstep a.tmps) e2 e3
  refine ⟨if h : xs.toArray.size = 1 then xs.toArray[0] else .tuple xs.toArray, ?_, ?_⟩
  · rw [results_eq, Sem.run_bind, hm]
    simp only [Result.andThen_ok, Sem.run_pure]
  · clear hs hm e3 e2
    cases e1 with
    | nil => exact .tu _ _ .nil
    | cons v x vs xs hv hs =>
      cases hs with
      | nil => simpa [retV] using hv
      | cons v2 x2 vs xs hv2 hs =>
        have : ¬ (x :: x2 :: xs).toArray.size = 1 := by simp
        rw [dif_neg this]
        exact .tu _ _ (.cons _ _ _ _ hv (.cons _ _ _ _ hv2 hs))

end Go.Ev

/-! Compiled code is the code. -/
namespace Go.Ev
variable {P : Program} {T : TT}

/-- What is wanted of what stands behind. -/
def Behind (P : Program) (fn : Func) (cx : List (Nat × Lay)) (lo : Option Lay) (ι : Iota) (h : H) (w : World) (ex : EX) (h' : H) (Q : Exit → Act → World → Prop) : Prop :=
  ∀ ι' tm' a' w', Rel fn.ntmps ι' tm' a' → HRel ι' h' w' → Ext ι h w ι' h' w' →
    match ex with
    | .nrm env' => (∃ L', lo = some L' ∧ Agree L' tm' env') → Q .normal a' w'
    | .exit id env' => (∃ L', cxOf id cx = some L' ∧ Agree L' tm' env') → Q (.exit id) a' w'
    | .ret v => (∃ x, (results fn a'.tmps).run P w' = .ok x w' ∧ VR ι' v x) → Q .ret a' w'

theorem Behind.back {fn : Func} {cx : List (Nat × Lay)} {lo : Option Lay} {ι ι1 : Iota} {h h1 h' : H} {w w1 : World} {ex : EX} {Q : Exit → Act → World → Prop} (hb : Behind P fn cx lo ι h w ex h' Q) (he : Ext ι h w ι1 h1 w1) :
    Behind P fn cx lo ι1 h1 w1 ex h' Q := fun ι' tm' a' w' r1 r2 r3 => hb ι' tm' a' w' r1 r2 (he.trans r3)


theorem loopD_wp {call : CallF} {n : Nat} {b : BC} {c : Code} {fn : Func} {cx : List (Nat × Lay)} {L : Lay}
    (hbody : ∀ (env : List V) (h : H) (ex : EX) (h' : H), execD call n b env h = some (ex, h') → ∀ (ι : Iota) (tm : TM) (a : Act) (w : World), Globs P ι → Agree L tm env → Rel fn.ntmps ι tm a → HRel ι h w →
      ∀ Q, Behind P fn cx (some L) ι h w ex h' Q → c.wp P Q a w) : ∀ (m : Nat) (env : List V) (h : H) (ex : EX) (h' : H), loopD (execD call n b) m env h = some (ex, h') → ∀ (ι : Iota) (tm : TM) (a : Act) (w : World), Globs P ι → Agree L tm env → Rel fn.ntmps ι tm a → HRel ι h w →
      ∀ Q, Behind P fn cx none ι h w ex h' Q → Code.rounds P c Q m a w
  | 0, env, h, ex, h', hr, ι, tm, a, w, hg, ha, hrel, hh, Q, hQ => by simp [loopD] at hr
  | m + 1, env, h, ex, h', hr, ι, tm, a, w, hg, ha, hrel, hh, Q, hQ => by
    rw [rounds_succ]
    simp only [loopD] at hr
    split at hr
    · rename_i env1 h1 hb
      refine hbody env h _ h1 hb ι tm a w hg ha hrel hh _ fun ι1 tm1 a1 w1 r1 r2 r3 => ?_
      rintro ⟨L', e1, e2⟩
      injection e1 with e1; subst e1
      exact loopD_wp hbody m env1 h1 ex h' hr ι1 tm1 a1 w1 (hg.mono r3.le) e2 r1 r2 Q (hQ.back r3)
    · rename_i hne
      refine hbody env h ex h' hr ι tm a w hg ha hrel hh _ fun ι1 tm1 a1 w1 r1 r2 r3 => ?_
      cases ex with
      | nrm env1 => exact absurd hr (hne _ _)
      | exit id env1 => exact hQ ι1 tm1 a1 w1 r1 r2 r3
      | ret v => exact hQ ι1 tm1 a1 w1 r1 r2 r3

theorem code_wp {call : CallF} (hT : TOK P T) (hmix : P.follows .mixedOrders = true) (hcall : CallsOK P call) (hent : ∀ g args h v h', call g args h = some (v, h') → Enters P g) {fn : Func} {n : Nat} :
    ∀ (hint : BC) (c : Code) (cx : List (Nat × Lay)) (L : Lay) (b : BC) (lo : Option Lay), compC T fn.ntmps fn.results.toList hint c cx L = some (b, lo) →
    ∀ (env : List V) (h : H) (ex : EX) (h' : H), execD call n b env h = some (ex, h') → ∀ (ι : Iota) (tm : TM) (a : Act) (w : World), Globs P ι → Agree L tm env → Rel fn.ntmps ι tm a → HRel ι h w →
      ∀ Q, Behind P fn cx lo ι h w ex h' Q → c.wp P Q a w := by
  intro hint
  induction hint with
  | pre ts ps bb ih =>
    intro c cx L b lo hc env h ex h' hr ι tm a w hg ha hrel hh Q hQ
    simp only [compC] at hc
    split at hc
    · cases hc
    · rename_i L' hL'
      split at hc
      · cases hc
      · rename_i b' lo' hc'
        simp only [Option.some.injEq, Prod.mk.injEq] at hc
        obtain ⟨rfl, rfl⟩ := hc
        simp only [execD] at hr
        split at hr
        · cases hr
        · rename_i env1 he
          exact ih c cx L' b' _ hc' env1 h ex h' hr ι tm a w hg (ha.pick hL' he) hrel hh Q hQ
  | post bb ts ps ih =>
    intro c cx L b lo hc env h ex h' hr ι tm a w hg ha hrel hh Q hQ
    simp only [compC] at hc
    split at hc
    · rename_i b' L1 hc'
      split at hc
      · cases hc
      · rename_i L2 hL2
        simp only [Option.some.injEq, Prod.mk.injEq] at hc
        obtain ⟨rfl, rfl⟩ := hc
        simp only [execD] at hr
        split at hr
        · rename_i env1 h1 he
          split at hr
          · cases hr
          · rename_i env2 he2
            simp only [Option.some.injEq, Prod.mk.injEq] at hr
            obtain ⟨rfl, rfl⟩ := hr
            refine ih c cx L b' _ hc' env h _ h1 he ι tm a w hg ha hrel hh Q fun ι1 tm1 a1 w1 r1 r2 r3 => ?_
            rintro ⟨L', e1, e2⟩
            injection e1 with e1; subst e1
            exact hQ ι1 tm1 a1 w1 r1 r2 r3 ⟨_, rfl, e2.pick hL2 he2⟩
        · rename_i hne
          refine ih c cx L b' _ hc' env h ex h' hr ι tm a w hg ha hrel hh Q fun ι1 tm1 a1 w1 r1 r2 r3 => ?_
          cases ex with
          | nrm env1 => exact absurd hr (hne _ _)
          | exit id env1 => exact hQ ι1 tm1 a1 w1 r1 r2 r3
          | ret v => exact hQ ι1 tm1 a1 w1 r1 r2 r3
    · cases hc
  | bad =>
    intro c cx L b lo hc env h ex h' hr ι tm a w hg ha hrel hh Q hQ
    simp only [compC, Option.some.injEq, Prod.mk.injEq] at hc
    obtain ⟨rfl, rfl⟩ := hc
    simp [execD] at hr
  | skip =>
    intro c cx L b lo hc env h ex h' hr ι tm a w hg ha hrel hh Q hQ
    cases c <;> simp only [compC, Option.some.injEq, Prod.mk.injEq, reduceCtorEq] at hc
    obtain ⟨rfl, rfl⟩ := hc
    simp only [execD, Option.some.injEq, Prod.mk.injEq] at hr
    obtain ⟨rfl, rfl⟩ := hr
    exact wp_skip (hQ ι tm a w hrel hh (Ext.refl _ _ _) ⟨_, rfl, ha⟩)
  | reg l =>
    intro c cx L b lo hc env h ex h' hr ι tm a w hg ha hrel hh Q hQ
    cases c <;> simp only [compC, reduceCtorEq] at hc
    rename_i id ops draw
    split at hc
    · cases hc
    · rename_i l2 hl
      split at hc
      · cases hc
      · rename_i bs L' hst
        simp only [Option.some.injEq, Prod.mk.injEq] at hc
        obtain ⟨rfl, rfl⟩ := hc
        simp only [execD] at hr
        split at hr
        · cases hr
        · rename_i env1 h1 hrun
          simp only [Option.some.injEq, Prod.mk.injEq] at hr
          obtain ⟨rfl, rfl⟩ := hr
          obtain ⟨tm1, e1, e2⟩ := stepsP_run hst ha hrun
          exact reg_wp hT hmix hcall hent (linR_run hl e1) hg hrel hh fun ι1 a1 w1 r1 r2 r3 => hQ ι1 tm1 a1 w1 r1 r2 r3 ⟨_, rfl, e2⟩
  | seq x y ih1 ih2 =>
    intro c cx L b lo hc env h ex h' hr ι tm a w hg ha hrel hh Q hQ
    cases c <;> simp only [compC, reduceCtorEq] at hc
    rename_i c1 c2
    split at hc
    · cases hc
    · rename_i a' hc1
      simp only [Option.some.injEq, Prod.mk.injEq] at hc
      obtain ⟨rfl, rfl⟩ := hc
      simp only [execD] at hr
      split at hr
      · rename_i env1 h1 he
        refine wp_seq (ih1 c1 cx L a' _ hc1 env h _ h1 he ι tm a w hg ha hrel hh _ fun ι1 tm1 a1 w1 r1 r2 r3 => ?_)
        rintro ⟨L', e1, e2⟩
        cases e1
      · rename_i hne
        refine wp_seq (ih1 c1 cx L a' _ hc1 env h ex h' hr ι tm a w hg ha hrel hh _ fun ι1 tm1 a1 w1 r1 r2 r3 => ?_)
        cases ex with
        | nrm env1 => exact absurd hr (hne _ _)
        | exit id env1 => exact hQ ι1 tm1 a1 w1 r1 r2 r3
        | ret v => exact hQ ι1 tm1 a1 w1 r1 r2 r3
    · rename_i a' L1 hc1
      split at hc
      · cases hc
      · rename_i b' lo' hc2
        simp only [Option.some.injEq, Prod.mk.injEq] at hc
        obtain ⟨rfl, rfl⟩ := hc
        simp only [execD] at hr
        split at hr
        · rename_i env1 h1 he
          refine wp_seq (ih1 c1 cx L a' _ hc1 env h _ h1 he ι tm a w hg ha hrel hh _ fun ι1 tm1 a1 w1 r1 r2 r3 => ?_)
          rintro ⟨L', e1, e2⟩
          injection e1 with e1; subst e1
          exact ih2 c2 cx L1 b' _ hc2 env1 h1 ex h' hr ι1 tm1 a1 w1 (hg.mono r3.le) e2 r1 r2 Q (hQ.back r3)
        · rename_i hne
          refine wp_seq (ih1 c1 cx L a' _ hc1 env h ex h' hr ι tm a w hg ha hrel hh _ fun ι1 tm1 a1 w1 r1 r2 r3 => ?_)
          cases ex with
          | nrm env1 => exact absurd hr (hne _ _)
          | exit id env1 => exact hQ ι1 tm1 a1 w1 r1 r2 r3
          | ret v => exact hQ ι1 tm1 a1 w1 r1 r2 r3
  | cond x0 x y ih1 ih2 =>
    intro c cx L b lo hc env h ex h' hr ι tm a w hg ha hrel hh Q hQ
    cases c <;> simp only [compC, reduceCtorEq] at hc
    rename_i o c1 c2
    split at hc
    · cases hc
    · rename_i x' hx'
      split at hc
      · rename_i a' la b' lb hc1 hc2
        split at hc
        · rename_i hok
          have hval : VR ι (evX tm x') (a.eval o) → True := fun _ => trivial
          -- the two ways
          have fin : ∀ (b1 : BC) (lo1 : Option Lay), b1 = .cond (toP L x') a' b' → (∀ L', la = some L' → lo1 = some L') → (∀ L', lb = some L' → lo1 = some L') → b = b1 → lo = lo1 → (Code.cond o c1 c2).wp P Q a w := by
            rintro b1 lo1 rfl hla hlb rfl rfl
            simp only [execD] at hr
            rw [ha.evX hok] at hr
            have hv : ∀ t, evX tm x' = .b t → a.eval o = .bool t := by
              intro t ht
              have h1 : VR ι (evX tm x') (a.eval o) := by
                cases o with
                | tmp t => simp [X.of] at hx'; subst hx'; exact hrel.vr t
                | const v => 
                  simp only [X.of, Option.map_eq_some_iff] at hx'
                  obtain ⟨v', h1, rfl⟩ := hx'
                  exact V.of_rel ι h1
                | global g => simp [X.of] at hx'; subst hx'; simp [evX] at ht
                | func f => simp [X.of] at hx'; subst hx'; simp [evX] at ht
              rw [ht] at h1
              exact h1.bool_inv
            split at hr
            · rename_i ht
              refine wp_cond_true (hv _ ht) (ih1 c1 cx L a' _ hc1 env h ex h' hr ι tm a w hg ha hrel hh Q fun ι1 tm1 a1 w1 r1 r2 r3 => ?_)
              have := hQ ι1 tm1 a1 w1 r1 r2 r3
              cases ex with
              | nrm env1 => rintro ⟨L', e1, e2⟩; exact this ⟨L', hla _ e1, e2⟩
              | exit id env1 => exact this
              | ret v => exact this
            · rename_i ht
              refine wp_cond_false (hv _ ht) (ih2 c2 cx L b' _ hc2 env h ex h' hr ι tm a w hg ha hrel hh Q fun ι1 tm1 a1 w1 r1 r2 r3 => ?_)
              have := hQ ι1 tm1 a1 w1 r1 r2 r3
              cases ex with
              | nrm env1 => rintro ⟨L', e1, e2⟩; exact this ⟨L', hlb _ e1, e2⟩
              | exit id env1 => exact this
              | ret v => exact this
            · cases hr
          split at hc
          · simp only [Option.some.injEq, Prod.mk.injEq] at hc
            exact fin _ _ rfl (by simp) (fun _ h => h) hc.1.symm hc.2.symm
          · simp only [Option.some.injEq, Prod.mk.injEq] at hc
            exact fin _ _ rfl (fun _ h => h) (by simp) hc.1.symm hc.2.symm
          · rename_i la' lb'
            split at hc
            · rename_i he
              subst he
              simp only [Option.some.injEq, Prod.mk.injEq] at hc
              exact fin _ _ rfl (fun _ h => h) (fun _ h => h) hc.1.symm hc.2.symm
            · cases hc
        · cases hc
      · cases hc
  | block id0 Lb bb ih =>
    intro c cx L b lo hc env h ex h' hr ι tm a w hg ha hrel hh Q hQ
    cases c <;> simp only [compC, reduceCtorEq] at hc
    rename_i id c1
    have fin : ∀ (b' : BC) (lo1 : Option Lay), compC T fn.ntmps fn.results.toList bb c1 ((id, Lb.map ([·])) :: cx) L = some (b', lo1) → (∀ L', lo1 = some L' → L' = Lb.map ([·])) → b = .block id Lb b' → lo = some (Lb.map ([·])) → (Code.block id c1).wp P Q a w := by
      rintro b' lo1 hc1 hlo rfl rfl
      simp only [execD] at hr
      split at hr
      · rename_i id' env1 h1 he
        refine wp_block (ih c1 _ L b' _ hc1 env h _ h1 he ι tm a w hg ha hrel hh _ fun ι1 tm1 a1 w1 r1 r2 r3 => ?_)
        rintro ⟨L', e1, e2⟩
        simp only [cxOf] at e1
        simp only [Exit.inBlock]
        split at hr
        · rename_i hid
          simp only [Option.some.injEq, Prod.mk.injEq] at hr
          obtain ⟨rfl, rfl⟩ := hr
          rw [if_pos hid.symm] at e1
          injection e1 with e1; subst e1
          rw [if_pos hid]
          exact hQ ι1 tm1 a1 w1 r1 r2 r3 ⟨_, rfl, e2⟩
        · rename_i hid
          simp only [Option.some.injEq, Prod.mk.injEq] at hr
          obtain ⟨rfl, rfl⟩ := hr
          rw [if_neg (Ne.symm hid)] at e1
          rw [if_neg hid]
          exact hQ ι1 tm1 a1 w1 r1 r2 r3 ⟨L', e1, e2⟩
      · rename_i hne
        refine wp_block (ih c1 _ L b' _ hc1 env h ex h' hr ι tm a w hg ha hrel hh _ fun ι1 tm1 a1 w1 r1 r2 r3 => ?_)
        cases ex with
        | nrm env1 => rintro ⟨L', e1, e2⟩; exact hQ ι1 tm1 a1 w1 r1 r2 r3 ⟨L', by rw [hlo L' e1], e2⟩
        | exit id env1 => exact absurd hr (hne _ _ _)
        | ret v => exact hQ ι1 tm1 a1 w1 r1 r2 r3
    split at hc
    · rename_i b' hc1
      simp only [Option.some.injEq, Prod.mk.injEq] at hc
      exact fin _ _ hc1 (by simp) hc.1.symm hc.2.symm
    · rename_i b' L' hc1
      split at hc
      · rename_i he
        simp only [Option.some.injEq, Prod.mk.injEq] at hc
        exact fin _ _ hc1 (fun L2 h => by injection h with h; rw [← h]; exact he) hc.1.symm hc.2.symm
      · cases hc
    · cases hc
  | loop bb ih =>
    intro c cx L b lo hc env h ex h' hr ι tm a w hg ha hrel hh Q hQ
    cases c <;> simp only [compC, reduceCtorEq] at hc
    rename_i c1
    have fin : ∀ (b' : BC) (lo1 : Option Lay), compC T fn.ntmps fn.results.toList bb c1 cx L = some (b', lo1) → (∀ L', lo1 = some L' → L' = L) → b = .loop b' → lo = none → (Code.loop c1).wp P Q a w := by
      rintro b' lo1 hc1 hlo rfl rfl
      simp only [execD] at hr
      refine wp_loop_rounds n (loopD_wp (call := call) (n := n) (b := b') (cx := cx) (L := L) ?_ n env h ex h' hr ι tm a w hg ha hrel hh Q hQ)
      intro env h ex h' he ι tm a w hg ha hrel hh Q hQ
      refine ih c1 cx L b' _ hc1 env h ex h' he ι tm a w hg ha hrel hh Q fun ι1 tm1 a1 w1 r1 r2 r3 => ?_
      have := hQ ι1 tm1 a1 w1 r1 r2 r3
      cases ex with
      | nrm env1 => rintro ⟨L', e1, e2⟩; exact this ⟨L', by rw [hlo L' e1], e2⟩
      | exit id env1 => exact this
      | ret v => exact this
    split at hc
    · rename_i b' hc1
      simp only [Option.some.injEq, Prod.mk.injEq] at hc
      exact fin _ _ hc1 (by simp) hc.1.symm hc.2.symm
    · rename_i b' L' hc1
      split at hc
      · rename_i he
        simp only [Option.some.injEq, Prod.mk.injEq] at hc
        exact fin _ _ hc1 (fun L2 h => by injection h with h; rw [← h]; exact he) hc.1.symm hc.2.symm
      · cases hc
    · cases hc
  | exit id0 =>
    intro c cx L b lo hc env h ex h' hr ι tm a w hg ha hrel hh Q hQ
    cases c <;> simp only [compC, reduceCtorEq] at hc
    rename_i id
    split at hc
    · rename_i L' hL'
      split at hc
      · rename_i he
        simp only [Option.some.injEq, Prod.mk.injEq] at hc
        obtain ⟨rfl, rfl⟩ := hc
        simp only [execD, Option.some.injEq, Prod.mk.injEq] at hr
        obtain ⟨rfl, rfl⟩ := hr
        exact wp_exit (hQ ι tm a w hrel hh (Ext.refl _ _ _) ⟨L', hL', by rw [he]; exact ha⟩)
      · cases hc
    · cases hc
  | ret rs0 =>
    intro c cx L b lo hc env h ex h' hr ι tm a w hg ha hrel hh Q hQ
    cases c <;> simp only [compC, reduceCtorEq] at hc
    split at hc
    · rename_i rs hrs
      simp only [Option.some.injEq, Prod.mk.injEq] at hc
      obtain ⟨rfl, rfl⟩ := hc
      simp only [execD] at hr
      split at hr
      · rename_i vs hvs
        simp only [Option.some.injEq, Prod.mk.injEq] at hr
        obtain ⟨rfl, rfl⟩ := hr
        exact wp_ret (hQ ι tm a w hrel hh (Ext.refl _ _ _) (retP_results hT ha hrel hh hrs hvs))
      · cases hr
    · cases hc

end Go.Ev

/-! Compiled functions are the functions. -/
namespace Go.Ev
variable {P : Program} {T : TT}

def PrimOK (P : Program) (g : Nat) (f : List V → H → Option (V × H)) : Prop :=
  ∀ args h v h', f args h = some (v, h') → ∀ (ι : Iota) (xs : Array Value) (w : World), Globs P ι → VRs ι args xs.toList → HRel ι h w →
    Calls P g xs w fun e w' => ∃ x ι', e = .returned x ∧ VR ι' v x ∧ HRel ι' h' w' ∧ Ext ι h w ι' h' w'

structure FTOK (P : Program) (T : TT) (FT : Nat → Option FN) : Prop where
  code : ∀ g np b, FT g = some (.code np b) → ∃ fn hint, P.funcs[g]? = some fn ∧ compF T fn np hint = some b
  prim : ∀ g f, FT g = some (.prim f) → PrimOK P g f
  ent : ∀ g f, FT g = some f → Enters P g

theorem posOf_range' {t : Nat} : ∀ {n s p : Nat}, posOf t ((List.range' s n).map ([·])) = some p → t = s + p ∧ p < n
  | 0, s, p, h => by simp [posOf] at h
  | n + 1, s, p, h => by
    simp only [List.range'_succ, List.map_cons, posOf] at h
    split at h
    · rename_i hc
      injection h with h; subst h
      simp at hc; omega
    · simp only [Option.map_eq_some_iff] at h
      obtain ⟨q, h1, rfl⟩ := h
      have := posOf_range' h1
      omega

theorem callD_enters {FT : Nat → Option FN} (hF : FTOK P T FT) {n : Nat} : ∀ (d : Nat) (g : Nat) (args : List V) (h : H) (v : V) (h' : H), callD FT n d g args h = some (v, h') → Enters P g
  | 0, g, args, h, v, h', hc => by simp [callD] at hc
  | d + 1, g, args, h, v, h', hc => by
    simp only [callD] at hc
    split at hc
    · cases hc
    · rename_i f hf; exact hF.ent g _ hf
    · rename_i np b hf; exact hF.ent g _ hf

theorem callD_ok {FT : Nat → Option FN} (hT : TOK P T) (hmix : P.follows .mixedOrders = true) (hF : FTOK P T FT) {n : Nat} : ∀ d, CallsOK P (callD FT n d)
  | 0 => fun g args h v h' hc => by simp [callD] at hc
  | d + 1 => by
    intro g args h v h' hc ι xs w hg hargs hh
    simp only [callD] at hc
    split at hc
    · cases hc
    · rename_i f hf
      exact hF.prim g f hf args h v h' hc ι xs w hg hargs hh
    · rename_i np b hf
      split at hc
      · rename_i hlen
        obtain ⟨fn, hint, hfn, hcomp⟩ := hF.code g np b hf
        unfold compF at hcomp
        split at hcomp
        · cases hcomp
        · rename_i c hbody
          split at hcomp
          · rename_i hnp
            have hsz : xs.size = np := by
              have := hargs.length
              rw [hlen] at this
              simpa using this.symm
            have hnp' : np ≤ fn.ntmps := by simpa using hnp
            refine calls_of_wp hfn hbody ?_
            have hrel0 : Rel fn.ntmps ι (fun t => args.getD t (.tu [])) { tmps := xs ++ Array.replicate (fn.ntmps - xs.size) undef, defers := [] } := by
              refine ⟨by simp; omega, fun t => ?_, rfl⟩
              by_cases ht : t < xs.size
              · have h1 : t < args.length := by omega
                obtain ⟨x, e1, e2⟩ := hargs.get t _ (List.getElem?_eq_getElem h1)
                have e3 : xs[t]? = some x := by rw [← Array.getElem?_toList]; exact e1
                have e4 : (xs ++ Array.replicate (fn.ntmps - xs.size) undef).getD t undef = x := by
                  rw [Array.getD_eq_getD_getElem?, Array.getElem?_append_left ht, e3]; rfl
                simp only [e4]
                rw [List.getD_eq_getElem?_getD, List.getElem?_eq_getElem h1]
                exact e2
              · have h1 : args.length ≤ t := by omega
                have e4 : (xs ++ Array.replicate (fn.ntmps - xs.size) undef).getD t undef = undef := by
                  rw [Array.getD_eq_getD_getElem?, Array.getElem?_append_right (by omega)]
                  rw [Array.getElem?_replicate]
                  split <;> rfl
                simp only [e4]
                rw [List.getD_eq_getElem?_getD, List.getElem?_eq_none h1]
                exact .tu _ _ .nil
            have hag0 : Agree ((List.range np).map ([·])) (fun t => args.getD t (.tu [])) args := by
              intro t p hp
              rw [List.range_eq_range'] at hp
              obtain ⟨h1, h2⟩ := posOf_range' hp
              have h3 : t = p := by omega
              subst h3
              have : t < args.length := by omega
              simp [List.getD_eq_getElem?_getD, this]
            -- what is wanted of the end
            have hpost : ∀ (lo : Option Lay) (b' : BC) (ex : EX) (hE : H), execD (callD FT n d) n b' args h = some (ex, hE) → (compC T fn.ntmps fn.results.toList hint c [] ((List.range np).map ([·])) = some (b', lo)) →
                (match ex with
                  | .nrm env' => ∃ L rs vs, lo = some L ∧ retP T L fn.results.toList = some rs ∧ retsD rs env' hE = some vs ∧ v = retV vs ∧ h' = hE
                  | .exit _ _ => True
                  | .ret v' => v' = v ∧ hE = h') →
                c.wp P (bodyPost P fn fun e w' => ∃ x ι', e = .returned x ∧ VR ι' v x ∧ HRel ι' h' w' ∧ Ext ι h w ι' h' w') { tmps := xs ++ Array.replicate (fn.ntmps - xs.size) undef, defers := [] } w := by
              intro lo b' ex hE hex hcc hend
              refine code_wp hT hmix (callD_ok hT hmix hF d) (callD_enters hF d) hint c [] _ b' lo hcc args h ex hE hex ι _ _ w hg hag0 hrel0 hh _ fun ι1 tm1 a1 w1 r1 r2 r3 => ?_
              cases ex with
              | nrm env1 =>
                rintro ⟨L', e1, e2⟩
                obtain ⟨L, rs, vs, e3, e4, e5, rfl, rfl⟩ := hend
                rw [e1] at e3; injection e3 with e3; subst e3
                obtain ⟨x, e6, e7⟩ := retP_results hT e2 r1 r2 e4 e5
                exact ⟨r1.defers, x, e6, x, ι1, rfl, e7, r2, r3⟩
              | exit id env1 =>
                rintro ⟨L', e1, e2⟩
                simp [cxOf] at e1
              | ret v1 =>
                rintro ⟨x, e1, e2⟩
                obtain ⟨rfl, rfl⟩ := hend
                exact ⟨r1.defers, x, e1, x, ι1, rfl, e2, r2, r3⟩
            split at hc
            · rename_i v1 h1 hex
              simp only [Option.some.injEq, Prod.mk.injEq] at hc
              obtain ⟨rfl, rfl⟩ := hc
              split at hcomp
              · cases hcomp
              · rename_i b' hcc
                injection hcomp with hcomp; subst hcomp
                exact hpost none b' _ h1 hex hcc ⟨rfl, rfl⟩
              · rename_i b' L hcc
                split at hcomp
                · rename_i rs hrs
                  injection hcomp with hcomp; subst hcomp
                  simp only [execD] at hex
                  split at hex
                  · rename_i env1 h2 he
                    split at hex
                    · rename_i vs hvs
                      simp only [Option.some.injEq, Prod.mk.injEq, EX.ret.injEq] at hex
                      obtain ⟨rfl, rfl⟩ := hex
                      exact hpost (some L) b' _ h2 he hcc ⟨L, rs, vs, rfl, hrs, hvs, rfl, rfl⟩
                    · cases hex
                  · exact hpost (some L) b' _ h1 hex hcc ⟨rfl, rfl⟩
                · cases hcomp
            · cases hc
          · cases hcomp
      · cases hc

end Go.Ev
