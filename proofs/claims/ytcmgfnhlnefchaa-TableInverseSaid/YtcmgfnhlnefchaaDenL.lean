/-
  Den, part L: the operations of the program, translated; the translation is sound.
-/
import Derived.Test.YtcmgfnhlnefchaaDenK
namespace Go.Den
set_option linter.unusedVariables false
set_option linter.unusedSimpArgs false

def places (P : Program) (fs : Array Field) : Option (List (Nat × Nat)) := fs.toList.mapM fun f => (szOf P f.type).map fun n => (f.offset, n)

def cParts (P : Program) (pl : Nat → Option (Nat × Nat × TypeId)) (parts : List (Nat × Operand)) : Option (List (Nat × Nat × Opd)) :=
  parts.mapM fun p => match pl p.1 with
    | some (off, n, t) => (cOpd P t p.2).map fun y => (off, n, y)
    | none => none

def cOp (P : Program) (ty : TypeId) : Op → Option AOp
  | .move x => (cOpd P ty x).map .mov
  | .assign x => (cOpd P ty x).map .mov
  | .pick x y z => match cOpd P ty y, cOpd P ty z with
    | some y', some z' => some (.pick (cS x) y' z')
    | _, _ => none
  | .alloc e => (zeroT P e).map .new
  | .box e x => (cOpd P e x).map .box
  | .build t parts => match zeroT P t with
    | some zero => match P.underlying t with
      | some (.struct fs) => match places P fs with
        | some pl => (cParts P (fun i => match pl[i]?, fs[i]? with
            | some q, some f => some (q.1, q.2, f.type)
            | _, _ => none) parts.toList).map (.build zero)
        | none => none
      | some (.array _ e) => match szOf P e with
        | some n => (cParts P (fun i => some (i * n, n, e)) parts.toList).map (.build zero)
        | none => none
      | _ => none
    | none => none
  | .buildSlice t len parts => match P.underlying t with
    | some (.slice e) => match szOf P e, zeroT P e with
      | some z, some zero => if 0 < z ∧ len * z ≤ 2 ^ 24 ∧ zero.length = z then
          (parts.toList.mapM fun p => (cOpd P e p.2).map fun y => (p.1, y)).map (.bslice z (List.replicate len zero)) else none
      | _, _ => none
    | _ => none
  | .load t x => match szOf P t, aggOf P t with
    | some m, some agg => if 0 < m ∧ (agg = false → m = 1) then some (.load m agg (cS x)) else none
    | _, _ => none
  | .store t x y => match szOf P t, cOpd P t y with
    | some m, some y' => some (.store m (cS x) y')
    | _, _ => none
  | .nilCheck x => some (.nilck (cS x))
  | .binOp op t x y yt => match P.underlying t with
    | some (.int _) => some (.bin op (cS x) (cS y))
    | some .string => some (.bin op (cS x) (cS y))
    | some .bool => match op with
      | .eql => some (.eqB false (cS x) (cS y))
      | .neq => some (.eqB true (cS x) (cS y))
      | _ => none
    | some (.struct _) => match flatT P 100 t, cOpd P t x, cOpd P t y with
      | some ks, some x', some y' => if P.eqGuardType P.depth t = false then (match op with
          | .eql => some (.eqA false ks x' y')
          | .neq => some (.eqA true ks x' y')
          | _ => none) else none
      | _, _, _ => none
    | _ => none
  | .unOp op t x => some (.un op (cS x))
  | .convert src dst x => match P.underlying src, P.underlying dst with
    | some (.int _), some (.int k) => some (.cvI k (cS x))
    | _, _ => none
  | .makeFunc fn first caps => match fn with
    | .func f => if first.size = 0 then some (.mkf f (caps.toList.map cS)) else none
    | _ => none
  | .makeSlice t l k => match P.underlying t with
    | some (.slice e) => match P.info? e, zeroT P e with
      | some i, some zero => some (.mks i.size i.bytes zero (cS l) (cS k))
      | _, _ => none
    | _ => none
  | .slice t x lo hi mx => match P.underlying t with
    | some (.slice e) => match szOf P e with
      | some z => if 0 < z ∧ (mx.isSome = true → hi.isSome = true) then some (.slc z (cS x) (cSm lo) (cSm hi) (cSm mx)) else none
      | none => none
    | some .string => match mx with
      | none => some (.slcS (cS x) (cSm lo) (cSm hi))
      | some _ => none
    | _ => none
  | .fieldAddr t x i => match P.underlying t with
    | some (.struct fs) => match fs[i]? with
      | some f => match szOf P f.type with
        | some k => if 0 < k then some (.fad f.offset (cS x)) else none
        | none => none
      | none => none
    | _ => none
  | .field t x i => match P.underlying t with
    | some (.struct fs) => match fs[i]? with
      | some f => match szOf P f.type, aggOf P f.type with
        | some m, some agg => if 0 < m ∧ (agg = false → m = 1) then some (.fld agg f.offset m (cS x)) else none
        | _, _ => none
      | none => none
    | _ => none
  | .indexAddr t x i => match P.underlying t with
    | some (.slice e) => (szOf P e).map fun z => .iad z (cS x) (cS i)
    | some (.array len e) => (szOf P e).map fun z => .iadA len z (cS x) (cS i)
    | _ => none
  | .index t x i => match P.underlying t with
    | some (.array len e) => match szOf P e, aggOf P e with
      | some m, some agg => if 0 < m ∧ (agg = false → m = 1) then some (.idxA agg len m (cS x) (cS i)) else none
      | _, _ => none
    | some .string => some (.idxS (cS x) (cS i))
    | _ => none
  | .extract x i => some (.ext (cS x) i)
  | .call c => match c.callee with
    | .builtin b => match b with
      | .len => if c.args.size = 1 ∧ c.argTypes.size = 1 then (match c.args[0]?, c.argTypes[0]? with
        | some x, some t => match P.underlying t with
          | some (.slice _) => some (.len (cS x))
          | some .string => some (.lenS (cS x))
          | some (.array m _) => some (.lenA m)
          | _ => none
        | _, _ => none) else none
      | .append => if c.args.size = 2 ∧ c.argTypes.size = 2 then (match c.args[0]?, c.args[1]?, c.argTypes[0]?, c.argTypes[1]? with
        | some x, some y, some t, some u => match P.underlying t, P.underlying u with
          | some (.slice e), some (.slice _) => match P.info? e, zeroT P e, cOpd P t x, cOpd P u y with
            | some i, some zero, some x', some y' => if 0 < i.size ∧ zero.length = i.size then some (.app i.size i.bytes x' y') else none
            | _, _, _, _ => none
          | _, _ => none
        | _, _, _, _ => none) else none
      | .copy => if c.args.size = 2 ∧ c.argTypes.size = 2 then (match c.args[0]?, c.args[1]?, c.argTypes[0]?, c.argTypes[1]? with
        | some x, some y, some t, some u => match P.underlying t with
          | some (.slice e) => match szOf P e with
            | some z => if 0 < z then some (.copy z (cS x) (cS y)) else none
            | none => none
          | _ => none
        | _, _, _, _ => none) else none
      | .clear => if c.args.size = 1 ∧ c.argTypes.size = 1 then (match c.args[0]?, c.argTypes[0]? with
        | some x, some t => match P.underlying t with
          | some (.slice e) => match szOf P e, zeroT P e with
            | some z, some zero => if 0 < z then some (.clear z zero (cS x)) else none
            | _, _ => none
          | _ => none
        | _, _ => none) else none
      | .max => some (.mm true (c.args.toList.map cS))
      | .min => some (.mm false (c.args.toList.map cS))
      | _ => none
    | .value f => (((c.args.toList.zip c.argTypes.toList).mapM fun p => cOpd P p.2 p.1)).bind fun as => if c.args.size = c.argTypes.size then some (.call (cS f) as) else none
    | _ => none
  | _ => none

/-- Operations whose answer is told. -/
def cAlt (P : Program) : Op → Option AOp
  | .binOp op t x (.const (.slice none 0 0)) _ => match P.underlying t with
    | some (.slice _) => match op with
      | .eql => some (.nilS false (cS x))
      | .neq => some (.nilS true (cS x))
      | _ => none
    | _ => none
  | .call cl => match cl.callee, cl.args.toList, cl.argTypes.toList with
    | .builtin .cap, [x], [t] => match P.underlying t with
      | some (.slice _) => some (.capS (cS x))
      | _ => none
    | .builtin .append, [x, y], [t, u] => match P.underlying t, P.underlying u with
      | some (.slice e), some (.int _) => match P.info? e, zeroT P e with
        | some i, some zero => if 0 < i.size ∧ zero.length = i.size then some (.appz i.size i.bytes zero (cS x) (cS y)) else none
        | _, _ => none
      | _, _ => none
    | _, _, _ => none
  | _ => none
def isAlt : AOp → Bool
  | .nilS .. | .capS .. | .appz .. => true
  | _ => false
def cOpX (P : Program) (ty : TypeId) (op : Op) : Option AOp := match cAlt P op with
  | some a => some a
  | none => match cOp P ty op with
    | some a => bif isAlt a then none else some a
    | none => none

section
variable {P : Program} {en : Env} {c : Cx} {st : St} {a : Act} {w : World} {o : Oper} {r : Res} {n site : Nat}

theorem arr1 {α : Type} {xs : Array α} {x : α} (h : xs.size = 1) (h0 : xs[0]? = some x) : xs = #[x] := by
  apply Array.ext (by simpa using h)
  intro i h1 h2
  have : i = 0 := by simp at h2; omega
  subst this
  rw [Array.getElem?_eq_getElem h1] at h0
  simpa using h0
theorem arr2 {α : Type} {xs : Array α} {x y : α} (h : xs.size = 2) (h0 : xs[0]? = some x) (h1 : xs[1]? = some y) : xs = #[x, y] := by
  apply Array.ext (by simpa using h)
  intro i hi1 hi2
  rw [Array.getElem?_eq_getElem (by omega)] at h0 h1
  simp at hi2
  rcases Nat.lt_or_ge i 1 with h' | h'
  · have : i = 0 := by omega
    subst this
    simpa using h0
  · have : i = 1 := by omega
    subst this
    simpa using h1

theorem places_run {fs : Array Field} {pl : List (Nat × Nat)} (h : places P fs = some pl) (w : World) : (fs.mapM fun f => (do Pure.pure (f.offset, ← sizeOf f.type) : Sem (Nat × Nat))).run P w = .ok pl.toArray w := by
  have key : ∀ (l : List Field) (pl : List (Nat × Nat)), l.mapM (fun f => (szOf P f.type).map fun n => (f.offset, n)) = some pl → (l.mapM fun f => (do Pure.pure (f.offset, ← sizeOf f.type) : Sem (Nat × Nat))).run P w = .ok pl w := by
    intro l
    induction l with
    | nil => intro pl h; simp at h; subst h; simp
    | cons f l ih =>
      intro pl h
      rw [List.mapM_cons] at h
      cases hf : szOf P f.type with
      | none => simp [hf] at h
      | some k =>
        cases hl : l.mapM (fun f => (szOf P f.type).map fun n => (f.offset, n)) with
        | none => simp [hf, hl] at h
        | some ys =>
          simp [hf, hl] at h
          subst h
          rw [List.mapM_cons]
          simp only [Sem.run_bind, szOf_run hf, Result.andThen_ok, Sem.run_pure, ih ys hl]
  rw [Array.mapM_eq_mapM_toList]
  simp only [Sem.run_map, key fs.toList pl h, Result.andThen_ok]

theorem cParts_parts (h : StRel en c st a w) {pl : Nat → Option (Nat × Nat × TypeId)} {parts : List (Nat × Operand)} {ps : List (Nat × Nat × Opd)} (hp : cParts P pl parts = some ps) {place : Nat → Option (Nat × Nat)}
    (hpl : ∀ i off n t, pl i = some (off, n, t) → place i = some (off, n)) : Parts P c st a w place parts ps := by
  obtain ⟨h1, h2⟩ := mapM_get _ hp
  refine ⟨h1.symm, fun i p q hpi hqi => ?_⟩
  have := h2 i p q hpi hqi
  split at this
  · rename_i off n t he
    simp only [Option.map_eq_some_iff] at this
    obtain ⟨y, hy, rfl⟩ := this
    exact ⟨hpl _ _ _ _ he, cOpd_rel h hy⟩
  · cases this

theorem step_sound (h : StRel en c st a w) (hd : ∀ d, o.dst = some d → d < a.tmps.size) {ao : AOp} (hc : cOp P o.type o.op = some ao) (hcall : ∀ f as, ao ≠ .call f as)
    (hs : stepA st.get st.ob (st.ct (o.dst.getD 0)) (o.dst.getD 0) ao = some r) : Sound P en c st a w o r := by
  obtain ⟨x, hx⟩ : ∃ x, x = o.op := ⟨_, rfl⟩
  rw [← hx] at hc
  have hx := hx.symm
  cases x with
  | move x =>
    simp only [cOp, Option.map_eq_some_iff] at hc
    obtain ⟨y, hy, rfl⟩ := hc
    exact s_mov h hd (.inl hx) (cOpd_rel h hy) hs
  | assign x =>
    simp only [cOp, Option.map_eq_some_iff] at hc
    obtain ⟨y, hy, rfl⟩ := hc
    exact s_mov h hd (.inr hx) (cOpd_rel h hy) hs
  | pick x y z =>
    simp only [cOp] at hc
    split at hc
    · rename_i y' z' hy hz
      simp only [Option.some.injEq] at hc
      subst hc
      exact s_pick h hd hx (cOpd_rel h hy) (cOpd_rel h hz) hs
    · cases hc
  | alloc e =>
    simp only [cOp, Option.map_eq_some_iff] at hc
    obtain ⟨z, hz, rfl⟩ := hc
    exact s_new h hd hx hz hs
  | box e x =>
    simp only [cOp, Option.map_eq_some_iff] at hc
    obtain ⟨y, hy, rfl⟩ := hc
    exact s_box h hd hx (cOpd_rel h hy) hs
  | build t parts =>
    simp only [cOp] at hc
    split at hc
    · rename_i zero hzero
      split at hc
      · rename_i fs ht
        split at hc
        · rename_i pl hpl
          simp only [Option.map_eq_some_iff] at hc
          obtain ⟨ps, hps, rfl⟩ := hc
          refine s_build (place := fun i : Nat => pl[i]?) h hd hx hzero (fun z cells vs hz hf => ?_) (cParts_parts h hps (fun i off n t he => ?_)) hs
          · simp only [Instr.build, Sem.run_bind, hz, Result.andThen_ok, run_underlying ht, places_run hpl]
            have : (fun x : Nat => pl.toArray[x]?) = (fun i : Nat => pl[i]?) := by funext i; simp
            rw [this]
            simp [hf]
          · split at he
            · rename_i q f hq hf
              simp only [Option.some.injEq, Prod.mk.injEq] at he
              obtain ⟨e1, e2, _⟩ := he
              rw [hq, ← e1, ← e2]
            · cases he
        · cases hc
      · rename_i m e ht
        split at hc
        · rename_i n hn
          simp only [Option.map_eq_some_iff] at hc
          obtain ⟨ps, hps, rfl⟩ := hc
          refine s_build (place := fun i => some (i * n, n)) h hd hx hzero (fun z cells vs hz hf => ?_) (cParts_parts h hps (fun i off n t he => ?_)) hs
          · simp [Instr.build, hz, run_underlying ht, szOf_run hn, hf]
          · simp only [Option.some.injEq, Prod.mk.injEq] at he
            obtain ⟨e1, e2, _⟩ := he
            rw [← e1, ← e2]
        · cases hc
      · cases hc
    · cases hc
  | buildSlice t len parts =>
    simp only [cOp] at hc
    split at hc
    · rename_i e ht
      split at hc
      · rename_i z zero hz hzero
        replace hc := ite_opt hc
        obtain ⟨⟨hz0, hsm, hzl⟩, hc⟩ := hc
        simp only [Option.map_eq_some_iff] at hc
        obtain ⟨ps, hps, rfl⟩ := hc
        refine s_bslice h hd hx ht hz hz0 hsm hzero hzl ?_ hs
        obtain ⟨h1, h2⟩ := mapM_get _ hps
        refine ⟨by simp [h1], fun i p q hpi hqi => ?_⟩
        rw [List.getElem?_map] at hqi
        simp only [Option.map_eq_some_iff] at hqi
        obtain ⟨q', hq', rfl⟩ := hqi
        have := h2 i p q' hpi hq'
        simp only [Option.map_eq_some_iff] at this
        obtain ⟨y, hy, rfl⟩ := this
        exact ⟨rfl, cOpd_rel h hy⟩
      · cases hc
    · cases hc
  | load t x =>
    simp only [cOp] at hc
    split at hc
    · rename_i m agg hm hg
      replace hc := ite_opt hc
      obtain ⟨⟨h0, h1⟩, hc⟩ := hc
      simp only [Option.some.injEq] at hc
      subst hc
      exact s_load h hd hx hm hg h1 h0 hs
    · cases hc
  | store t x y =>
    simp only [cOp] at hc
    split at hc
    · rename_i m y' hm hy
      simp only [Option.some.injEq] at hc
      subst hc
      exact s_store h hd hx hm (cOpd_rel h hy) hs
    · cases hc
  | nilCheck x =>
    simp only [cOp, Option.some.injEq] at hc
    subst hc
    exact s_nilck h hd hx hs
  | binOp op t x y yt =>
    simp only [cOp] at hc
    split at hc
    · simp only [Option.some.injEq] at hc
      subst hc
      exact s_bin h hd hx hs
    · simp only [Option.some.injEq] at hc
      subst hc
      exact s_bin h hd hx hs
    · rename_i ht
      split at hc
      · simp only [Option.some.injEq] at hc
        subst hc
        exact s_eqB (neg := false) h hd hx ht hs
      · simp only [Option.some.injEq] at hc
        subst hc
        exact s_eqB (neg := true) h hd hx ht hs
      · cases hc
    · rename_i fs ht
      split at hc
      · rename_i ks x' y' hk hxx hyy
        replace hc := ite_opt hc
        obtain ⟨hgd, hc⟩ := hc
        have hg : aggOf P t = some true := by simp [aggOf, ht]
        split at hc
        · simp only [Option.some.injEq] at hc
          subst hc
          exact s_eqA (neg := false) h hd hx hk hg hgd (cOpd_rel h hxx) (cOpd_rel h hyy) hs
        · simp only [Option.some.injEq] at hc
          subst hc
          exact s_eqA (neg := true) h hd hx hk hg hgd (cOpd_rel h hxx) (cOpd_rel h hyy) hs
        · cases hc
      · cases hc
    · cases hc
  | unOp op t x =>
    simp only [cOp, Option.some.injEq] at hc
    subst hc
    exact s_un h hd hx hs
  | convert src dst x =>
    simp only [cOp] at hc
    split at hc
    · rename_i k0 k h1 h2
      simp only [Option.some.injEq] at hc
      subst hc
      exact s_cvI h hd hx h1 h2 hs
    · cases hc
  | makeFunc fn first caps =>
    simp only [cOp] at hc
    split at hc
    · rename_i f
      replace hc := ite_opt hc
      obtain ⟨h0, hc⟩ := hc
      simp only [Option.some.injEq] at hc
      subst hc
      have : first = #[] := Array.eq_empty_of_size_eq_zero h0
      subst this
      exact s_mkf h hd hx hs
    · cases hc
  | makeSlice t l k =>
    simp only [cOp] at hc
    split at hc
    · rename_i e ht
      split at hc
      · rename_i i zero hi hz
        simp only [Option.some.injEq] at hc
        subst hc
        exact s_mks h hd hx ht hi rfl rfl hz hs
      · cases hc
    · cases hc
  | slice t x lo hi mx =>
    simp only [cOp] at hc
    split at hc
    · rename_i e ht
      split at hc
      · rename_i z hz
        replace hc := ite_opt hc
        obtain ⟨⟨h0, h1⟩, hc⟩ := hc
        simp only [Option.some.injEq] at hc
        subst hc
        exact s_slc h hd hx ht hz h0 h1 hs
      · cases hc
    · rename_i ht
      split at hc
      · simp only [Option.some.injEq] at hc
        subst hc
        exact s_slcS h hd hx ht hs
      · cases hc
    · cases hc
  | fieldAddr t x i =>
    simp only [cOp] at hc
    split at hc
    · rename_i fs ht
      split at hc
      · rename_i f hf
        split at hc
        · rename_i k hk
          replace hc := ite_opt hc
          obtain ⟨h0, hc⟩ := hc
          simp only [Option.some.injEq] at hc
          subst hc
          exact s_fad h hd hx ht hf hk h0 hs
        · cases hc
      · cases hc
    · cases hc
  | field t x i =>
    simp only [cOp] at hc
    split at hc
    · rename_i fs ht
      split at hc
      · rename_i f hf
        split at hc
        · rename_i m agg hm hg
          replace hc := ite_opt hc
          obtain ⟨⟨h0, h1⟩, hc⟩ := hc
          simp only [Option.some.injEq] at hc
          subst hc
          exact s_fld h hd hx ht hf hm hg h1 h0 hs
        · cases hc
      · cases hc
    · cases hc
  | indexAddr t x i =>
    simp only [cOp] at hc
    split at hc
    · rename_i e ht
      simp only [Option.map_eq_some_iff] at hc
      obtain ⟨z, hz, rfl⟩ := hc
      exact s_iad h hd hx ht hz hs
    · rename_i len e ht
      simp only [Option.map_eq_some_iff] at hc
      obtain ⟨z, hz, rfl⟩ := hc
      exact s_iadA h hd hx ht hz hs
    · cases hc
  | index t x i =>
    simp only [cOp] at hc
    split at hc
    · rename_i len e ht
      split at hc
      · rename_i m agg hm hg
        replace hc := ite_opt hc
        obtain ⟨⟨h0, h1⟩, hc⟩ := hc
        simp only [Option.some.injEq] at hc
        subst hc
        exact s_idxA h hd hx ht hm hg h1 h0 hs
      · cases hc
    · rename_i ht
      simp only [Option.some.injEq] at hc
      subst hc
      exact s_idxS h hd hx ht hs
    · cases hc
  | extract x i =>
    simp only [cOp, Option.some.injEq] at hc
    subst hc
    exact s_ext h hd hx hs
  | call cl =>
    obtain ⟨callee, args, argTypes⟩ := cl
    cases callee with
    | invoke r m => simp [cOp] at hc
    | value f =>
      exfalso
      simp only [cOp, Option.bind_eq_some_iff] at hc
      obtain ⟨as, _, hc⟩ := hc
      obtain ⟨_, hc⟩ := ite_opt hc
      simp only [Option.some.injEq] at hc
      exact hcall _ _ hc.symm
    | builtin b =>
      cases b <;> simp only [cOp] at hc
      case len =>
        replace hc := ite_opt hc
        obtain ⟨⟨h1, h2⟩, hc⟩ := hc
        split at hc
        · rename_i x t hx0 ht0
          have e1 := arr1 h1 hx0
          have e2 := arr1 h2 ht0
          subst e1; subst e2
          split at hc
          · rename_i e ht
            simp only [Option.some.injEq] at hc
            subst hc
            exact s_len h hd hx ht hs
          · rename_i ht
            simp only [Option.some.injEq] at hc
            subst hc
            exact s_lenS h hd hx ht hs
          · rename_i m e ht
            simp only [Option.some.injEq] at hc
            subst hc
            exact s_lenA h hd hx ht hs
          · cases hc
        · cases hc
      case append =>
        replace hc := ite_opt hc
        obtain ⟨⟨h1, h2⟩, hc⟩ := hc
        split at hc
        · rename_i x y t u hx0 hx1 ht0 ht1
          have e1 := arr2 h1 hx0 hx1
          have e2 := arr2 h2 ht0 ht1
          subst e1; subst e2
          split at hc
          · rename_i e e' ht hu
            split at hc
            · rename_i i zero x' y' hi hz hxx hyy
              replace hc := ite_opt hc
              obtain ⟨⟨g1, g2⟩, hc⟩ := hc
              simp only [Option.some.injEq] at hc
              subst hc
              exact s_app h hd hx ht hu (fun k e => by cases e) hi rfl g1 rfl hz g2 (cOpd_rel h hxx) (cOpd_rel h hyy) hs
            · cases hc
          · cases hc
        · cases hc
      case copy =>
        replace hc := ite_opt hc
        obtain ⟨⟨h1, h2⟩, hc⟩ := hc
        split at hc
        · rename_i x y t u hx0 hx1 ht0 ht1
          have e1 := arr2 h1 hx0 hx1
          have e2 := arr2 h2 ht0 ht1
          subst e1; subst e2
          split at hc
          · rename_i e ht
            split at hc
            · rename_i z hz
              replace hc := ite_opt hc
              obtain ⟨g1, hc⟩ := hc
              simp only [Option.some.injEq] at hc
              subst hc
              exact s_copy h hd hx ht hz g1 hs
            · cases hc
          · cases hc
        · cases hc
      case clear =>
        replace hc := ite_opt hc
        obtain ⟨⟨h1, h2⟩, hc⟩ := hc
        split at hc
        · rename_i x t hx0 ht0
          have e1 := arr1 h1 hx0
          have e2 := arr1 h2 ht0
          subst e1; subst e2
          split at hc
          · rename_i e ht
            split at hc
            · rename_i z zero hz hzero
              replace hc := ite_opt hc
              obtain ⟨g1, hc⟩ := hc
              simp only [Option.some.injEq] at hc
              subst hc
              exact s_clear h hd hx ht hz g1 hzero hs
            · cases hc
          · cases hc
        · cases hc
      case max =>
        simp only [Option.some.injEq] at hc
        subst hc
        exact s_mm (mx := true) h hd hx hs
      case min =>
        simp only [Option.some.injEq] at hc
        subst hc
        exact s_mm (mx := false) h hd hx hs
      all_goals cases hc
  | _ => simp [cOp] at hc
end
end Go.Den
