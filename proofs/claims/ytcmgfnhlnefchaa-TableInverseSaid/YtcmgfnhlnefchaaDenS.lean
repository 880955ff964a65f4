/-
  Den, part S: an evaluator of the code on the abstract side: what it answers holds. (For calls whose arguments are known.)
-/
import Derived.Test.YtcmgfnhlnefchaaDenQ
namespace Go.Den
set_option linter.unusedVariables false
set_option linter.unusedSimpArgs false

/-- What is known of a function's code. -/
structure FI where
  nt : Nat
  rs : List RO
  ac : AC

abbrev CP := FuncId → List AV → Option AV
abbrev CI := FuncId → List AV → (Id → Option Ob) → (Nat → Nat) → Option (AV × (Id → Option Ob) × (Nat → Nat))

def evCallP (cp : CP) (st : St) (l : List AV) (dst : Option Nat) : Option St := match mapO (frzA st.ob 20) l, catO (idsA st.ob 20) l with
  | some (.f fn caps :: as), some is => match cp fn (as ++ caps) with
    | some r => some ((st.frz is).putO dst r)
    | none => none
  | _, _ => none
def evCallI (ci : CI) (st : St) (l : List AV) (dst : Option Nat) : Option St := match l with
  | .f fn caps :: as => match ci fn (as ++ caps) st.ob st.ct with
    | some r => some ((⟨st.sl, r.2.1, r.2.2⟩ : St).putO dst r.1)
    | none => none
  | _ => none
def isIA (isI : FuncId → Bool) : AV → Bool
  | .f fn _ => isI fn
  | _ => false

def evNil (st : St) (dst : Option Nat) (neg : Bool) : AV → Option St
  | .s v => bif isNilS v then some (st.putO dst (.s (.bool (!neg)))) else none
  | .d _ _ (_ :: _) => some (st.putO dst (.s (.bool neg)))
  | .o _ _ _ (_ + 1) => some (st.putO dst (.s (.bool neg)))
  | _ => none
def evSlx (st : St) (dst : Option Nat) (z : Nat) : AV → Option Int → Option Int → Option St
  | .o i z' off len, some l, some n => match st.ob i with
    | some o => bif Nat.beq z' z && (Nat.beq o.z z && (decide (0 ≤ l) && (decide (l ≤ n) && Nat.ble (off + n.toNat) o.es.length))) then some (st.putO dst (.o i z (off + l.toNat) (n.toNat - l.toNat))) else none
    | none => none
  | _, _, _ => none
def evAlt (st : St) (dst : Option Nat) : AOp → Option St
  | .nilS neg x => evNil st dst neg (ev st.get x)
  | .slc z x lo (some hi) none => evSlx st dst z (ev st.get x) (loA st.get lo) (intA (ev st.get hi))
  | _ => none
def orO : Option St → Option St → Option St
  | some s, _ => some s
  | none, r => r
def evOp (cp : CP) (ci : CI) (isI : FuncId → Bool) (drawn : Bool) (o : AOper) (st : St) : Option St := match o.op with
  | .call f args => bif !drawn && isIA isI (ev st.get f) then orO (evCallI ci st (ev st.get f :: args.map (ev st.get)) o.dst) (evCallP cp st (ev st.get f :: args.map (ev st.get)) o.dst) else evCallP cp st (ev st.get f :: args.map (ev st.get)) o.dst
  | op => match stepA st.get st.ob (st.ct (o.dst.getD 0)) (o.dst.getD 0) op with
    | some r => some (st.app o.dst r)
    | none => bif drawn then none else evAlt st o.dst op

def evW (cp : CP) (ci : CI) (isI : FuncId → Bool) : List AOper → St → Option St
  | [], st => some st
  | o :: rest, st => match o.guard with
    | none => match evOp cp ci isI false o st with
      | some s => evW cp ci isI rest s
      | none => none
    | some (d, want) => match st.get d with
      | .s v => bif gB v want then (match evOp cp ci isI false o st with
          | some s => evW cp ci isI rest s
          | none => none) else evW cp ci isI rest (st.putO o.dst (.s undef))
      | _ => none

def evD (cp : CP) (ci : CI) (isI : FuncId → Bool) : List AOper → List Ent → St → Option St
  | [], _, st => some st
  | o :: rest, log, st => match o.guard with
    | none => bif okI o.inc log (tchA st o.op) (modA st (o.dst.getD 0) o.op) then (match evOp cp ci isI true o st with
      | some s => evD cp ci isI rest (⟨o.idx, tchA st o.op, modA st (o.dst.getD 0) o.op⟩ :: log) s
      | none => none) else none
    | some (d, want) => match st.get d with
      | .s v => bif gB v want then (bif okI o.inc log (tchA st o.op) (modA st (o.dst.getD 0) o.op) then (match evOp cp ci isI true o st with
          | some s => evD cp ci isI rest (⟨o.idx, tchA st o.op, modA st (o.dst.getD 0) o.op⟩ :: log) s
          | none => none) else none) else evD cp ci isI rest log (st.putO o.dst (.s undef))
      | _ => none

def loopF (f : St → Option (AE × St)) : Nat → St → Option (AE × St)
  | 0, _ => none
  | n + 1, st => match f st with
    | some (.n, s) => loopF f n s
    | r => r

def evC (cp : CP) (ci : CI) (isI : FuncId → Bool) (n : Nat) : AC → St → Option (AE × St)
  | .region ops live, st => match evW cp ci isI ops st with
    | some s => some (.n, s.cut live)
    | none => none
  | .drawn ops live, st => match evD cp ci isI ops [] st with
    | some s => some (.n, s.cut live)
    | none => none
  | .seq x y, st => match evC cp ci isI n x st with
    | some (.n, s) => evC cp ci isI n y s
    | r => r
  | .cond c x y, st => match ev st.get c with
    | .s (.bool b) => bif b then evC cp ci isI n x st else evC cp ci isI n y st
    | _ => none
  | .block id x, st => match evC cp ci isI n x st with
    | some (.e i, s) => bif Nat.beq i id then some (.n, s) else some (.e i, s)
    | r => r
  | .loop x, st => loopF (evC cp ci isI n x) n st
  | .exit id, st => some (.e id, st)
  | .ret, st => some (.r, st)
  | .skip, st => some (.n, st)

/-- What is known of calls. -/
structure Knows (P : Program) (cp : CP) (ci : CI) : Prop where
  p : ∀ f args r, cp f args = some r → PCall P f args r
  i : ∀ f args ob ct r, ci f args ob ct = some r → ICall P f args ob ct fun a b c => a = r.1 ∧ b = r.2.1 ∧ c = r.2.2

section
variable {P : Program} {cp : CP} {ci : CI} {isI : FuncId → Bool}

theorem evCallP_sound (hk : Knows P cp ci) {st s : St} {l : List AV} {dst : Option Nat} (h : evCallP cp st l dst = some s) {K : St → Prop} (hK : K s) : callW P st l dst K := by
  unfold evCallP at h
  split at h
  · rename_i fn caps as is h1 h2
    split at h
    · rename_i r hr
      simp only [Option.some.injEq] at h
      subst h
      exact ⟨fn, caps, as, r, is, h1, h2, hk.p _ _ _ hr, hK⟩
    · cases h
  · cases h
theorem ICall.mono {f : FuncId} {args : List AV} {ob : Id → Option Ob} {ct : Nat → Nat} {K K' : AV → (Id → Option Ob) → (Nat → Nat) → Prop} (h : ICall P f args ob ct K) (hK : ∀ a b c, K a b c → K' a b c) : ICall P f args ob ct K' := by
  obtain ⟨h1, h2⟩ := h
  refine ⟨h1, fun en c sl a w vs hr hv => (h2 en c sl a w vs hr hv).mono fun e w' he => ?_⟩
  obtain ⟨v, r, ob', ct', c', e1, e2, e3⟩ := he
  exact ⟨v, r, ob', ct', c', e1, hK _ _ _ e2, e3⟩
theorem evCallI_sound (hk : Knows P cp ci) {st s : St} {l : List AV} {dst : Option Nat} (h : evCallI ci st l dst = some s) {K : St → Prop} (hK : K s) : icallW P st l dst K := by
  unfold evCallI at h
  split at h
  · rename_i fn caps as
    split at h
    · rename_i r hr
      simp only [Option.some.injEq] at h
      refine ⟨fn, caps, as, rfl, (hk.i _ _ _ _ _ hr).mono fun a b c => ?_⟩
      rintro ⟨rfl, rfl, rfl⟩
      rw [h]; exact hK
    · cases h
  · cases h
theorem evAlt_sound {st s : St} {dst : Option Nat} {op : AOp} (h : evAlt st dst op = some s) {K : St → Prop} (hK : K s) : altW st dst K op := by
  unfold evAlt at h
  split at h
  · rename_i neg x
    show nilW st dst K neg (ev st.get x)
    unfold evNil at h
    split at h
    · rename_i v hv
      rw [hv]
      cases hb : isNilS v with
      | false => rw [hb] at h; cases h
      | true => rw [hb] at h; simp only [cond_true, Option.some.injEq] at h; subst h; exact ⟨hb, hK⟩
    · rename_i f z e es hv
      rw [hv]
      simp only [Option.some.injEq] at h
      subst h
      intro b hb
      rw [hb (by simp)]
      cases neg <;> exact hK
    · rename_i i z off n hv
      rw [hv]
      simp only [Option.some.injEq] at h
      subst h
      intro b hb
      rw [hb (by omega)]
      cases neg <;> exact hK
    · cases h
  · rename_i z x lo hi
    show slxW st dst K z (ev st.get x) (loA st.get lo) (intA (ev st.get hi))
    unfold evSlx at h
    split at h
    · rename_i i z' off len l n h1 h2 h3
      rw [h1, h2, h3]
      split at h
      · rename_i ob hob
        obtain ⟨hb, h⟩ := bif_opt h
        simp only [Bool.and_eq_true, decide_eq_true_eq] at hb
        obtain ⟨b1, b2, b3, b4, b5⟩ := hb
        simp only [Option.some.injEq] at h
        subst h
        simp only [slxW, hob]
        exact ⟨Nat.eq_of_beq_eq_true b1, Nat.eq_of_beq_eq_true b2, b3, b4, Nat.le_of_ble_eq_true b5, hK⟩
      · cases h
    · cases h
  · cases h
theorem evOp_W (hk : Knows P cp ci) {o : AOper} {st s : St} (h : evOp cp ci isI false o st = some s) {K : St → Prop} (hK : K s) : opW P o K st := by
  unfold evOp at h
  unfold opW
  split at h
  · rename_i f args ho
    rw [ho]
    cases hb : (!false && isIA isI (ev st.get f)) with
    | true =>
      rw [hb] at h
      simp only [cond_true] at h
      unfold orO at h
      split at h
      · rename_i s1 hs1
        simp only [Option.some.injEq] at h
        subst h
        exact .inr (.inl (evCallI_sound hk hs1 hK))
      · exact .inl (evCallP_sound hk h hK)
    | false => rw [hb] at h; exact .inl (evCallP_sound hk h hK)
  · split at h
    · rename_i hn _ r hr
      simp only [Option.some.injEq] at h
      subst h
      split
      · rename_i f args ho; exact absurd ho (hn f args)
      · rw [hr]; exact hK
    · rename_i hn _ hr
      simp only [cond_false] at h
      split
      · rename_i f args ho; exact absurd ho (hn f args)
      · rw [hr]; exact evAlt_sound h hK
theorem evOp_D (hk : Knows P cp ci) {o : AOper} {st s : St} (h : evOp cp ci isI true o st = some s) {K : St → Prop} (hK : K s) : opD P o K st := by
  unfold evOp at h
  unfold opD
  split at h
  · rename_i f args ho
    rw [ho]
    exact evCallP_sound hk h hK
  · split at h
    · rename_i hn _ r hr
      simp only [Option.some.injEq] at h
      subst h
      split
      · rename_i f args ho; exact absurd ho (hn f args)
      · rw [hr]; exact hK
    · cases h
theorem evW_sound (hk : Knows P cp ci) {K : St → Prop} : ∀ {l : List AOper} {st s : St}, evW cp ci isI l st = some s → K s → opsW P l K st
  | [], st, s, h, hK => by simp only [evW, Option.some.injEq] at h; subst h; exact hK
  | o :: l, st, s, h, hK => by
    unfold evW at h
    unfold opsW
    have step : (match evOp cp ci isI false o st with
      | some s => evW cp ci isI l s
      | none => none) = some s → opW P o (opsW P l K) st := fun h => by
      split at h
      · rename_i s1 hs1; exact evOp_W hk hs1 (evW_sound hk h hK)
      · cases h
    cases hg : o.guard with
    | none => rw [hg] at h; exact step h
    | some dw =>
      obtain ⟨d, want⟩ := dw
      rw [hg] at h
      simp only at h ⊢
      split at h
      · rename_i v hv
        rw [hv]
        show if gB v want = true then _ else _
        cases hb : gB v want with
        | true => rw [hb] at h; exact step h
        | false => rw [hb] at h; exact evW_sound hk h hK
      · cases h
theorem evD_sound (hk : Knows P cp ci) {K : St → Prop} : ∀ {l : List AOper} {log : List Ent} {st s : St}, evD cp ci isI l log st = some s → K s → opsD P l log K st
  | [], _, st, s, h, hK => by simp only [evD, Option.some.injEq] at h; subst h; exact hK
  | o :: l, log, st, s, h, hK => by
    unfold evD at h
    unfold opsD
    have step : (bif okI o.inc log (tchA st o.op) (modA st (o.dst.getD 0) o.op) then (match evOp cp ci isI true o st with
      | some s => evD cp ci isI l (⟨o.idx, tchA st o.op, modA st (o.dst.getD 0) o.op⟩ :: log) s
      | none => none) else none) = some s → okI o.inc log (tchA st o.op) (modA st (o.dst.getD 0) o.op) = true ∧ opD P o (opsD P l (⟨o.idx, tchA st o.op, modA st (o.dst.getD 0) o.op⟩ :: log) K) st := fun h => by
      cases hb : okI o.inc log (tchA st o.op) (modA st (o.dst.getD 0) o.op) with
      | true =>
        rw [hb] at h
        simp only [cond_true] at h
        split at h
        · rename_i s1 hs1; exact ⟨rfl, evOp_D hk hs1 (evD_sound hk h hK)⟩
        · cases h
      | false => rw [hb] at h; cases h
    cases hg : o.guard with
    | none => rw [hg] at h; exact step h
    | some dw =>
      obtain ⟨d, want⟩ := dw
      rw [hg] at h
      simp only at h ⊢
      split at h
      · rename_i v hv
        rw [hv]
        show if gB v want = true then _ else _
        cases hb : gB v want with
        | true => rw [hb] at h; exact step h
        | false => rw [hb] at h; exact evD_sound hk h hK
      · cases h

theorem loopF_sound {f : St → Option (AE × St)} {x : AC} {Q : AE → St → Prop} (hx : ∀ (Q : AE → St → Prop) st e s, f st = some (e, s) → Q e s → dwp P x Q st) : ∀ (n : Nat) (st : St) (e : AE) (s : St), loopF f n st = some (e, s) → Q e s → e ≠ .n → dwp P (.loop x) Q st := by
  intro n st e s h hQ hne I hI
  induction n generalizing st with
  | zero => cases h
  | succ n ih =>
    unfold loopF at h
    refine hI st ?_
    split at h
    · rename_i s1 hs1
      exact hx _ st _ _ hs1 (ih s1 h)
    · rename_i r hr
      exact hx _ st _ _ h (by
        show Kseq I Q e s
        cases e with
        | n => exact absurd rfl hne
        | e i => exact hQ
        | r => exact hQ)
theorem loopF_ne {f : St → Option (AE × St)} : ∀ (n : Nat) (st : St) (e : AE) (s : St), loopF f n st = some (e, s) → e ≠ .n
  | 0, st, e, s, h => by cases h
  | n + 1, st, e, s, h => by
    unfold loopF at h
    split at h
    · exact loopF_ne n _ e s h
    · rename_i hr
      rintro rfl
      exact hr s h

theorem evC_sound (hk : Knows P cp ci) {n : Nat} : ∀ (ac : AC) (Q : AE → St → Prop) (st : St) (e : AE) (s : St), evC cp ci isI n ac st = some (e, s) → Q e s → dwp P ac Q st
  | .region ops live, Q, st, e, s, h, hQ => by
    unfold evC at h
    split at h
    · rename_i s1 hs1
      simp only [Option.some.injEq, Prod.mk.injEq] at h
      obtain ⟨rfl, rfl⟩ := h
      exact fun _ => evW_sound hk hs1 hQ
    · cases h
  | .drawn ops live, Q, st, e, s, h, hQ => by
    unfold evC at h
    split at h
    · rename_i s1 hs1
      simp only [Option.some.injEq, Prod.mk.injEq] at h
      obtain ⟨rfl, rfl⟩ := h
      exact fun _ => evD_sound hk hs1 hQ
    · cases h
  | .seq x y, Q, st, e, s, h, hQ => by
    unfold evC at h
    split at h
    · rename_i s1 hs1
      exact evC_sound hk x _ st _ _ hs1 (evC_sound hk y Q s1 e s h hQ)
    · rename_i hr
      refine evC_sound hk x _ st e s h ?_
      cases e with
      | n => exact absurd h (hr s)
      | e i => exact hQ
      | r => exact hQ
  | .cond c x y, Q, st, e, s, h, hQ => by
    unfold evC at h
    split at h
    · rename_i b hb
      show condW (ev st.get c) _ _
      rw [hb]
      cases b with
      | true => exact evC_sound hk x Q st e s h hQ
      | false => exact evC_sound hk y Q st e s h hQ
    · cases h
  | .block id x, Q, st, e, s, h, hQ => by
    unfold evC at h
    split at h
    · rename_i i s1 hs1
      refine evC_sound hk x _ st _ _ hs1 ?_
      show if i = id then Q .n s1 else Q (.e i) s1
      cases hb : Nat.beq i id with
      | true =>
        rw [hb] at h
        simp only [cond_true, Option.some.injEq, Prod.mk.injEq] at h
        obtain ⟨rfl, rfl⟩ := h
        rw [if_pos (Nat.eq_of_beq_eq_true hb)]; exact hQ
      | false =>
        rw [hb] at h
        simp only [cond_false, Option.some.injEq, Prod.mk.injEq] at h
        obtain ⟨rfl, rfl⟩ := h
        rw [if_neg (Nat.ne_of_beq_eq_false hb)]; exact hQ
    · rename_i hr
      refine evC_sound hk x _ st e s h ?_
      cases e with
      | n => exact hQ
      | e i => exact absurd h (hr i s)
      | r => exact hQ
  | .loop x, Q, st, e, s, h, hQ => by
    unfold evC at h
    exact loopF_sound (fun Q st e s h hQ => evC_sound hk x Q st e s h hQ) n st e s h hQ (loopF_ne n st e s h)
  | .exit id, Q, st, e, s, h, hQ => by
    simp only [evC, Option.some.injEq, Prod.mk.injEq] at h
    obtain ⟨rfl, rfl⟩ := h
    exact hQ
  | .ret, Q, st, e, s, h, hQ => by
    simp only [evC, Option.some.injEq, Prod.mk.injEq] at h
    obtain ⟨rfl, rfl⟩ := h
    exact hQ
  | .skip, Q, st, e, s, h, hQ => by
    simp only [evC, Option.some.injEq, Prod.mk.injEq] at h
    obtain ⟨rfl, rfl⟩ := h
    exact hQ
end

/-- Calls to a depth. 'ov': what is known besides. -/
def evX (T : FuncId → Option FI) (ov : CP) (isI : FuncId → Bool) (n : Nat) : Nat → CP × CI
  | 0 => (fun _ _ => none, fun _ _ _ _ => none)
  | d + 1 => (fun f args => match ov f args with
      | some r => some r
      | none => match T f with
        | some fi => bif Nat.ble args.length fi.nt then (match evC (evX T ov isI n d).1 (evX T ov isI n d).2 isI n fi.ac (St.init args) with
          | some (.e _, _) => none
          | some (_, st) => retA fi.rs st
          | none => none) else none
        | none => none,
    fun f args ob ct => match T f with
        | some fi => bif Nat.ble args.length fi.nt then (match evC (evX T ov isI n d).1 (evX T ov isI n d).2 isI n fi.ac ⟨fun i => args.getD i .u, ob, ct⟩ with
          | some (.e _, _) => none
          | some (_, st) => (mapO (resA st) fi.rs).map fun l => (oneOf l, st.ob, st.ct)
          | none => none) else none
        | none => none)

theorem evX_sound {P : Program} (hm : P.follows .mixedOrders = true) {T : FuncId → Option FI} (hT : ∀ f i, T f = some i → Fn P f i.nt i.rs i.ac) {ov : CP} (hov : ∀ f args r, ov f args = some r → PCall P f args r) {isI : FuncId → Bool} {n : Nat} : ∀ d, Knows P (evX T ov isI n d).1 (evX T ov isI n d).2
  | 0 => ⟨fun f args r h => (by cases h), fun f args ob ct r h => (by cases h)⟩
  | d + 1 => by
    have ih := evX_sound hm hT hov (isI := isI) (n := n) d
    refine ⟨fun f args r h => ?_, fun f args ob ct r h => ?_⟩
    · simp only [evX] at h
      split at h
      · rename_i r' hr
        simp only [Option.some.injEq] at h
        subst h
        exact hov _ _ _ hr
      · split at h
        · rename_i fi hfi
          cases hb : Nat.ble args.length fi.nt with
          | false => rw [hb] at h; cases h
          | true =>
            rw [hb] at h
            simp only [cond_true] at h
            split at h
            · cases h
            · rename_i e st hne hst
              refine pcall_of_dwp hm (hT f fi hfi) (Nat.le_of_ble_eq_true hb) (evC_sound ih _ _ _ _ _ hst ?_)
              cases e with
              | e i => exact absurd hst (by intro hh; exact hne i rfl)
              | n => exact h
              | r => exact h
            · cases h
        · cases h
    · simp only [evX] at h
      split at h
      · rename_i fi hfi
        cases hb : Nat.ble args.length fi.nt with
        | false => rw [hb] at h; cases h
        | true =>
          rw [hb] at h
          simp only [cond_true] at h
          split at h
          · cases h
          · rename_i e st hne hst
            refine icall_of_dwp hm (hT f fi hfi) (Nat.le_of_ble_eq_true hb) (evC_sound ih _ _ _ _ _ hst ?_)
            simp only [Option.map_eq_some_iff] at h
            obtain ⟨l, hl, rfl⟩ := h
            cases e with
            | e i => exact absurd hst (by intro hh; exact hne i rfl)
            | n => exact ⟨l, hl, rfl, rfl, rfl⟩
            | r => exact ⟨l, hl, rfl, rfl, rfl⟩
          · cases h
      · cases h

/-- A table of what is known, and a look into it. -/
def AllFn (P : Program) : List (Nat × FI) → Prop
  | [] => True
  | p :: l => Fn P p.1 p.2.nt p.2.rs p.2.ac ∧ AllFn P l
def tblF : List (Nat × FI) → FuncId → Option FI
  | [], _ => none
  | (k, i) :: l, f => bif Nat.beq f k then some i else tblF l f
theorem tbl_ok {P : Program} : ∀ {l : List (Nat × FI)}, AllFn P l → ∀ f i, tblF l f = some i → Fn P f i.nt i.rs i.ac
  | [], _, f, i, h => by cases h
  | p :: l, hl, f, i, h => by
    unfold tblF at h
    cases hb : Nat.beq f p.1 with
    | true =>
      rw [hb] at h
      simp only [cond_true, Option.some.injEq] at h
      subst h
      rw [Nat.eq_of_beq_eq_true hb]
      exact hl.1
    | false =>
      rw [hb] at h
      exact tbl_ok hl.2 f i h
end Go.Den
