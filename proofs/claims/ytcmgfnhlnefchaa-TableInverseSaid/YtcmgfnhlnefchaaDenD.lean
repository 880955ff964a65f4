/-
  Den, part D: what the program's operations are on the abstract side, and that each one comes to what is told there.
-/
import Derived.Test.YtcmgfnhlnefchaaDenC
import Derived.Laws.Slices
import Derived.Laws.CopyRow
import Derived.Laws.Cells
import Derived.Laws.Build
import Derived.Laws.StructEq
namespace Go.Den
set_option linter.unusedVariables false
set_option linter.unusedSimpArgs false

/-- The cells of a value of a type, nil slices told as such. -/
def leafT (P : Program) : Nat → TypeId → List Value → Option (List AV × List Value)
  | 0, _, _ => none
  | d + 1, t, l => match P.underlying t with
    | some (.struct fs) => fs.toList.foldl (fun acc f => match acc with
        | some (out, rest) => match leafT P d f.type rest with
          | some (cs, rest') => some (out ++ cs, rest')
          | none => none
        | none => none) (some ([], l))
    | some (.array n e) => (List.range n).foldl (fun acc _ => match acc with
        | some (out, rest) => match leafT P d e rest with
          | some (cs, rest') => some (out ++ cs, rest')
          | none => none
        | none => none) (some ([], l))
    | some (.slice e) => match l with
      | .slice none 0 0 :: rest => match P.info? e with
        | some i => if 0 < i.size then some ([.d true i.size []], rest) else none
        | none => none
      | _ => none
    | some _ => match l with
      | v :: rest => if v.oneCell' = true then some ([.s v], rest) else none
      | [] => none
    | none => none

theorem leafT_rel (P : Program) (c : Cx) (w : World) : ∀ (d : Nat) (t : TypeId) (l : List Value) (cs : List AV) (rest : List Value), leafT P d t l = some (cs, rest) →
    ∃ xs, l = xs ++ rest ∧ VRels c w cs xs ∧ One xs ∧ cs.all oneA = true
  | 0, t, l, cs, rest, h => by simp [leafT] at h
  | d + 1, t, l, cs, rest, h => by
    have fold : ∀ {α : Type} (us : List α) (ty : α → TypeId) (out : List AV) (l : List Value), us.foldl (fun acc f => match acc with
        | some (out, rest) => match leafT P d (ty f) rest with
          | some (cs, rest') => some (out ++ cs, rest')
          | none => none
        | none => none) (some (out, l)) = some (cs, rest) → ∃ cs' xs, cs = out ++ cs' ∧ l = xs ++ rest ∧ VRels c w cs' xs ∧ One xs ∧ cs'.all oneA = true := by
      intro α us ty
      induction us with
      | nil =>
        intro out l h
        simp only [List.foldl_nil, Option.some.injEq, Prod.mk.injEq] at h
        obtain ⟨rfl, rfl⟩ := h
        exact ⟨[], [], by simp, by simp, by simp [VRels], by simp [One], by simp⟩
      | cons u us ih =>
        intro out l h
        simp only [List.foldl_cons] at h
        cases hl : leafT P d (ty u) l with
        | none =>
          rw [hl] at h
          exfalso
          simp only at h
          have : ∀ us : List α, us.foldl (fun acc f => match acc with
            | some (out, rest) => match leafT P d (ty f) rest with
              | some (cs, rest') => some (out ++ cs, rest')
              | none => none
            | none => none) (none : Option (List AV × List Value)) = none := by
            intro us
            induction us with
            | nil => rfl
            | cons x xs ih => simpa using ih
          rw [this] at h
          cases h
        | some p =>
          obtain ⟨cs1, rest1⟩ := p
          rw [hl] at h
          obtain ⟨cs', xs, e1, e2, e3, e4, e5⟩ := ih (out ++ cs1) rest1 h
          obtain ⟨xs1, g1, g2, g3, g4⟩ := leafT_rel P c w d (ty u) l cs1 rest1 hl
          refine ⟨cs1 ++ cs', xs1 ++ xs, by rw [e1, List.append_assoc], by rw [g1, e2, List.append_assoc], VRels.append g2 e3, ?_, by simp [g4, e5]⟩
          intro v hv
          rcases List.mem_append.1 hv with hv | hv
          · exact g3 v hv
          · exact e4 v hv
    simp only [leafT] at h
    split at h
    · rename_i fs _
      obtain ⟨cs', xs, e1, e2, e3, e4, e5⟩ := fold fs.toList (·.type) [] l h
      obtain rfl : cs = cs' := by simpa using e1
      exact ⟨xs, e2, e3, e4, e5⟩
    · rename_i n e _
      obtain ⟨cs', xs, e1, e2, e3, e4, e5⟩ := fold (List.range n) (fun _ => e) [] l h
      obtain rfl : cs = cs' := by simpa using e1
      exact ⟨xs, e2, e3, e4, e5⟩
    · split at h
      · split at h
        · split at h
          · rename_i i _ hz
            simp only [Option.some.injEq, Prod.mk.injEq] at h
            obtain ⟨rfl, rfl⟩ := h
            refine ⟨[.slice none 0 0], rfl, ?_, by simp [One, Value.oneCell'], by simp [oneA]⟩
            simp only [VRels]
            refine ⟨_, [], rfl, ?_, rfl⟩
            simp only [VRel]
            exact ⟨none, 0, [], rfl, by simp, by simp, hz, by simp, by simp [VRelss], by simp [One], by simp⟩
          · cases h
        · cases h
      · cases h
    · split at h
      · split at h
        · rename_i hv
          simp only [Option.some.injEq, Prod.mk.injEq] at h
          obtain ⟨rfl, rfl⟩ := h
          refine ⟨[_], rfl, ?_, by simpa [One] using hv, by simpa [oneA] using hv⟩
          simp [VRels, VRel]
        · cases h
      · cases h
    · cases h

/-- A constant of a type. -/
def constT (P : Program) (t : TypeId) (v : Value) : Option AV :=
  match v with
  | .agg cs => match leafT P 20 t cs.toList with
    | some (as, []) => some (.g as)
    | _ => none
  | .tuple _ => none
  | v => match leafT P 20 t [v] with
    | some ([a], []) => some a
    | _ => none

theorem constT_rel (P : Program) (c : Cx) (w : World) (t : TypeId) (v : Value) (a : AV) (h : constT P t v = some a) : VRel c w a v := by
  unfold constT at h
  split at h
  · rename_i cs
    split at h
    · rename_i as hl
      obtain ⟨xs, e, hr, _⟩ := leafT_rel P c w 20 t _ _ _ hl
      simp only [Option.some.injEq] at h
      subst h
      simp only [VRel]
      exact ⟨cs, rfl, by rw [e, List.append_nil]; exact hr⟩
    · cases h
  · cases h
  · split at h
    · rename_i a' hl
      obtain ⟨xs, e, hr, _⟩ := leafT_rel P c w 20 t _ _ _ hl
      simp only [Option.some.injEq] at h
      subst h
      simp only [VRels] at hr
      obtain ⟨x, l, e1, h1, h2⟩ := hr
      subst e1; subst h2
      simp at e
      subst e
      exact h1
    · cases h

def cOpd (P : Program) (t : TypeId) : Operand → Option Opd
  | .tmp n => some (.t n)
  | .const v => (constT P t v).map .c
  | .func f => some (.c (.f f []))
  | .global g => some (.c (.s (.pointer (some ⟨g, 0, none⟩))))

theorem cOpd_rel {P : Program} {en : Env} {c : Cx} {st : St} {a : Act} {w : World} (h : StRel en c st a w) {t : TypeId} {x : Operand} {y : Opd} (hc : cOpd P t x = some y) :
    VRel c w (ev st.get y) (a.eval x) := by
  cases x with
  | tmp n =>
    simp only [cOpd, Option.some.injEq] at hc
    subst hc
    exact h.slots n
  | const v =>
    simp only [cOpd, Option.map_eq_some_iff] at hc
    obtain ⟨b, hb, rfl⟩ := hc
    exact constT_rel P c w t v b hb
  | func f =>
    simp only [cOpd, Option.some.injEq] at hc
    subst hc
    simp [ev, VRel, Act.eval, VRels]
  | global g =>
    simp only [cOpd, Option.some.injEq] at hc
    subst hc
    simp [ev, VRel, Act.eval]

def szOf (P : Program) (t : TypeId) : Option Nat := (P.info? t).map (·.size)
def aggOf (P : Program) (t : TypeId) : Option Bool := (P.underlying t).map fun | .struct _ | .array _ _ => true | _ => false
def zeroT (P : Program) (t : TypeId) : Option (List AV) :=
  match (P.info? t).bind (·.zero) with
  | some z => match leafT P 20 t z.cells.toList with
    | some (cs, []) => some cs
    | _ => none
  | none => none

theorem szOf_run {P : Program} {t : TypeId} {n : Nat} (h : szOf P t = some n) (w : World) : (sizeOf t).run P w = .ok n w := by
  simp only [szOf, Option.map_eq_some_iff] at h
  obtain ⟨i, hi, rfl⟩ := h
  simp [sizeOf, typeInfo, hi]
theorem aggOf_run {P : Program} {t : TypeId} {b : Bool} (h : aggOf P t = some b) (w : World) : (isAgg t).run P w = .ok b w := by
  simp only [aggOf, Option.map_eq_some_iff] at h
  obtain ⟨d, hd, rfl⟩ := h
  simp only [isAgg, underlying, Sem.run_bind, run_program, Result.andThen_ok, hd, Sem.run_pure]
  cases d <;> rfl
theorem zeroT_run {P : Program} {t : TypeId} {cs : List AV} (h : zeroT P t = some cs) (w : World) :
    ∃ z, (zeroValue t).run P w = .ok z w ∧ (∀ (c : Cx) (w : World), VRels c w cs z.cells.toList) ∧ One z.cells.toList ∧ cs.all oneA = true := by
  unfold zeroT at h
  split at h
  · rename_i z hz
    split at h
    · rename_i cs' hl
      simp only [Option.some.injEq] at h
      subst h
      refine ⟨z, ?_, fun c w => ?_, ?_, ?_⟩
      · cases hi : P.info? t with
        | none => simp [hi] at hz
        | some i =>
          simp only [hi, Option.bind_some] at hz
          simp [zeroValue, typeInfo, hi, hz]
      · obtain ⟨xs, e, hr, _⟩ := leafT_rel P c w 20 t _ _ _ hl
        rw [e, List.append_nil]; exact hr
      · obtain ⟨xs, e, _, h1, _⟩ := leafT_rel P ⟨fun _ _ => False, fun _ => ⟨0, 0, 0⟩, fun _ => False⟩ w 20 t _ _ _ hl
        rw [e, List.append_nil]; exact h1
      · obtain ⟨xs, e, _, _, h1⟩ := leafT_rel P ⟨fun _ _ => False, fun _ => ⟨0, 0, 0⟩, fun _ => False⟩ w 20 t _ _ _ hl
        exact h1
    · cases h
  · cases h
end Go.Den
