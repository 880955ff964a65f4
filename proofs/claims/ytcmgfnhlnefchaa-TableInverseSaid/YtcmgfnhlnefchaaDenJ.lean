/-
  Den, part J: equality of aggregates; appends, copies, clears.
-/
import Derived.Test.YtcmgfnhlnefchaaDenI
import Derived.Laws.Append
namespace Go.Den
set_option linter.unusedVariables false
set_option linter.unusedSimpArgs false

section
variable {P : Program} {en : Env} {c : Cx} {st : St} {a : Act} {w : World} {o : Oper} {r : Res} {n site : Nat}

/-! ### Equality -/
/-- A type whose values are compared cell by cell: the kinds of the cells in order (0: an integer, 1: a bool, 2: a string). -/
def flatT (P : Program) : Nat → TypeId → Option (List Nat)
  | 0, _ => none
  | d + 1, t => match P.underlying t with
    | some (.int _) => some [0]
    | some .bool => some [1]
    | some .string => some [2]
    | some (.struct fs) => if P.stoodInHeld t = true then none else fs.toList.foldl (fun acc f => match acc with
        | some out => if f.name = "_" then none else match flatT P d f.type with
          | some ks => if f.offset = out.length ∧ szOf P f.type = some ks.length ∧ 0 < ks.length ∧ (aggOf P f.type = some true ∨ (aggOf P f.type = some false ∧ ks.length = 1)) then some (out ++ ks) else none
          | none => none
        | none => none) (some [])
    | _ => none

theorem eqCells_len : ∀ {ks : List Nat} {xs ys : List AV} {b : Bool}, eqCells ks xs ys = some b → xs.length = ks.length ∧ ys.length = ks.length
  | ks, xs, ys, b, h => by
    unfold eqCells at h
    split at h
    · exact ⟨rfl, rfl⟩
    · obtain ⟨_, h⟩ := ite_opt h
      simp only [Option.map_eq_some_iff] at h
      obtain ⟨r, hr, _⟩ := h
      have := eqCells_len hr
      simp [this.1, this.2]
    · simp only [Option.map_eq_some_iff] at h
      obtain ⟨r, hr, _⟩ := h
      have := eqCells_len hr
      simp [this.1, this.2]
    · simp only [Option.map_eq_some_iff] at h
      obtain ⟨r, hr, _⟩ := h
      have := eqCells_len hr
      simp [this.1, this.2]
    · cases h
  termination_by ks => ks.length
  decreasing_by all_goals simp_all

theorem eqCells_split : ∀ {ks ls : List Nat} {xs ys : List AV} {b : Bool}, eqCells (ks ++ ls) xs ys = some b →
    ∃ p q, eqCells ks (xs.take ks.length) (ys.take ks.length) = some p ∧ eqCells ls (xs.drop ks.length) (ys.drop ks.length) = some q ∧ b = (p && q)
  | [], ls, xs, ys, b, h => ⟨true, b, by simp [eqCells], by simpa using h, by simp⟩
  | k :: ks, ls, xs, ys, b, h => by
    rw [List.cons_append] at h
    unfold eqCells at h
    split at h
    · rename_i e1; cases e1
    · rename_i e1
      injection e1 with e1 e2
      subst e1; subst e2
      obtain ⟨hk, h⟩ := ite_opt h
      simp only [Option.map_eq_some_iff] at h
      obtain ⟨r, hr, rfl⟩ := h
      obtain ⟨p, q, h1, h2, rfl⟩ := eqCells_split hr
      exact ⟨_, q, (by simp [eqCells, hk, h1]; rfl), by simpa using h2, by simp [Bool.and_assoc]⟩
    · rename_i e1
      injection e1 with e1 e2
      subst e1; subst e2
      simp only [Option.map_eq_some_iff] at h
      obtain ⟨r, hr, rfl⟩ := h
      obtain ⟨p, q, h1, h2, rfl⟩ := eqCells_split hr
      exact ⟨_, q, (by simp [eqCells, h1]; rfl), by simpa using h2, by simp [Bool.and_assoc]⟩
    · rename_i e1
      injection e1 with e1 e2
      subst e1; subst e2
      simp only [Option.map_eq_some_iff] at h
      obtain ⟨r, hr, rfl⟩ := h
      obtain ⟨p, q, h1, h2, rfl⟩ := eqCells_split hr
      exact ⟨_, q, (by simp [eqCells, h1]; rfl), by simpa using h2, by simp [Bool.and_assoc]⟩
    · cases h

theorem vrels_one {x : AV} {xs : List Value} (h : VRels c w [x] xs) : ∃ v, xs = [v] ∧ VRel c w x v := by
  simp only [VRels] at h
  obtain ⟨v, l, rfl, h1, rfl⟩ := h
  exact ⟨v, rfl, h1⟩

/-- What 'equalIn' comes to at a type whose values are compared cell by cell: an aggregate; a single cell. -/
def FlatOk (P : Program) (c : Cx) (w : World) (n : Nat) (t : TypeId) (ks : List Nat) : Prop :=
  ∀ (cs es : List AV) (b : Bool) (xs ys : List Value), eqCells ks cs es = some b → VRels c w cs xs → VRels c w es ys →
    (aggOf P t = some true → (Op.equalIn n t (.agg xs.toArray) (.agg ys.toArray)).run P w = .ok b w) ∧
    (aggOf P t = some false → ∀ x y, xs = [x] → ys = [y] → (Op.equalIn n t x y).run P w = .ok b w)

theorem flat_one {k : Nat} {cs es : List AV} {b : Bool} {x y : Value} (h : eqCells [k] cs es = some b) (h1 : VRels c w cs [x]) (h2 : VRels c w es [y]) :
    (k = 0 ∧ ∃ q u v, x = .int q u ∧ y = .int q v ∧ b = (u == v)) ∨ (k = 1 ∧ ∃ u v, x = .bool u ∧ y = .bool v ∧ b = (u == v)) ∨ (k = 2 ∧ ∃ u v, x = .string u ∧ y = .string v ∧ b = (u == v)) := by
  obtain ⟨l1, l2⟩ := eqCells_len h
  obtain ⟨p, rfl⟩ : ∃ p, cs = [p] := by
    cases cs with
    | nil => simp at l1
    | cons p l => exact ⟨p, by rw [List.eq_nil_of_length_eq_zero (l := l) (by simpa using l1)]⟩
  obtain ⟨q, rfl⟩ : ∃ q, es = [q] := by
    cases es with
    | nil => simp at l2
    | cons p l => exact ⟨p, by rw [List.eq_nil_of_length_eq_zero (l := l) (by simpa using l2)]⟩
  obtain ⟨x', ex, hx⟩ := vrels_one h1
  obtain ⟨y', ey, hy⟩ := vrels_one h2
  simp at ex ey
  subst ex; subst ey
  match k, p, q, h with
  | 0, .s (.int i u), .s (.int j v), h =>
    simp only [eqCells] at h
    obtain ⟨hk, h⟩ := ite_opt h
    simp at h
    exact .inl ⟨rfl, i, u, v, rel_s.1 hx, by rw [hk]; exact rel_s.1 hy, h.symm⟩
  | 1, .s (.bool u), .s (.bool v), h =>
    simp [eqCells] at h
    exact .inr (.inl ⟨rfl, u, v, rel_s.1 hx, rel_s.1 hy, h.symm⟩)
  | 2, .s (.string u), .s (.string v), h =>
    simp [eqCells] at h
    exact .inr (.inr ⟨rfl, u, v, rel_s.1 hx, rel_s.1 hy, h.symm⟩)

theorem part_of {t : TypeId} {m off : Nat} {xs : List Value} (hz : szOf P t = some m) (hle : off + m ≤ xs.length) (h0 : 0 < m) :
    (aggOf P t = some true → (part t xs.toArray off).run P w = .ok (.agg ((xs.drop off).take m).toArray) w) ∧
    (aggOf P t = some false → m = 1 → ∃ x, (xs.drop off).take m = [x] ∧ (part t xs.toArray off).run P w = .ok x w) := by
  constructor
  · intro hg
    simp only [part, Sem.run_bind, aggOf_run hg, Result.andThen_ok, if_true, szOf_run hz, Sem.run_pure]
    congr 2
    apply Array.ext'
    simp [List.extract_eq_take_drop]
  · intro hg hm
    subst hm
    have hlt : off < xs.length := by omega
    refine ⟨xs[off], by rw [List.drop_eq_getElem_cons hlt]; rfl, ?_⟩
    simp [part, aggOf_run hg, hlt]

theorem flat_ok (P : Program) (c : Cx) (w : World) : ∀ (d : Nat) (t : TypeId) (ks : List Nat), flatT P d t = some ks → ∀ (n : Nat), d ≤ n → FlatOk P c w n t ks
  | 0, t, ks, h => by simp [flatT] at h
  | d + 1, t, ks, h => by
    intro n hn
    obtain ⟨n, rfl⟩ : ∃ m, n = m + 1 := ⟨n - 1, by omega⟩
    intro cs es b xs ys hb hx hy
    simp only [flatT] at h
    split at h
    · rename_i k hu
      simp only [Option.some.injEq] at h
      subst h
      refine ⟨fun hg => by simp [aggOf, hu] at hg, fun _ x y ex ey => ?_⟩
      subst ex; subst ey
      rcases flat_one hb hx hy with ⟨_, q, u, v, rfl, rfl, rfl⟩ | ⟨h', _⟩ | ⟨h', _⟩
      · exact run_equalIn_int w n t q k u v hu
      · cases h'
      · cases h'
    · rename_i hu
      simp only [Option.some.injEq] at h
      subst h
      refine ⟨fun hg => by simp [aggOf, hu] at hg, fun _ x y ex ey => ?_⟩
      subst ex; subst ey
      rcases flat_one hb hx hy with ⟨h', _⟩ | ⟨_, u, v, rfl, rfl, rfl⟩ | ⟨h', _⟩
      · cases h'
      · exact run_equalIn_bool' w n t u v hu
      · cases h'
    · rename_i hu
      simp only [Option.some.injEq] at h
      subst h
      refine ⟨fun hg => by simp [aggOf, hu] at hg, fun _ x y ex ey => ?_⟩
      subst ex; subst ey
      rcases flat_one hb hx hy with ⟨h', _⟩ | ⟨h', _⟩ | ⟨_, u, v, rfl, rfl, rfl⟩
      · cases h'
      · cases h'
      · rw [run_equalIn_string w n t u v hu, beq_toListBytes]
    · rename_i fs hu
      split at h
      · cases h
      · rename_i hst
        refine ⟨fun _ => ?_, fun hg => by simp [aggOf, hu] at hg⟩
        have hfo : P.fieldsOf t = fs := by simp [Program.fieldsOf, hu]
        rw [run_equalIn_struct w n t _ _ (by rw [hfo]; exact hu) (by simpa using hst), hfo]
        have key : ∀ (l : List Field) (out : List Nat), l.foldl (fun acc f => match acc with
            | some out => if f.name = "_" then none else match flatT P d f.type with
              | some ks => if f.offset = out.length ∧ szOf P f.type = some ks.length ∧ 0 < ks.length ∧ (aggOf P f.type = some true ∨ (aggOf P f.type = some false ∧ ks.length = 1)) then some (out ++ ks) else none
              | none => none
            | none => none) (some out) = some ks → ∃ ls, ks = out ++ ls ∧ ∀ q, eqCells ls (cs.drop out.length) (es.drop out.length) = some q → (Op.eqFields n xs.toArray ys.toArray l).run P w = .ok q w := by
          intro l
          induction l with
          | nil =>
            intro out h
            simp only [List.foldl_nil, Option.some.injEq] at h
            subst h
            refine ⟨[], by simp, fun q hq => ?_⟩
            have hl := eqCells_len hq
            have e3 := List.eq_nil_of_length_eq_zero hl.1
            have e4 := List.eq_nil_of_length_eq_zero hl.2
            rw [e3, e4] at hq
            simp [eqCells] at hq
            subst hq
            simp [Op.eqFields]
          | cons f l ih =>
            intro out h
            have none_fold : ∀ l : List Field, l.foldl (fun acc f => match acc with
              | some out => if f.name = "_" then none else match flatT P d f.type with
                | some ks => if f.offset = out.length ∧ szOf P f.type = some ks.length ∧ 0 < ks.length ∧ (aggOf P f.type = some true ∨ (aggOf P f.type = some false ∧ ks.length = 1)) then some (out ++ ks) else none
                | none => none
              | none => none) (none : Option (List Nat)) = none := by
              intro l
              induction l with
              | nil => rfl
              | cons x xs ih => simpa using ih
            simp only [List.foldl_cons] at h
            split at h
            · rw [none_fold] at h; cases h
            · rename_i hname
              cases hf : flatT P d f.type with
              | none => rw [hf] at h; simp only at h; rw [none_fold] at h; cases h
              | some k1 =>
                rw [hf] at h
                simp only at h
                split at h
                · rename_i hcond
                  obtain ⟨ho, hz, h0, hag⟩ := hcond
                  obtain ⟨ls, e1, h2⟩ := ih (out ++ k1) h
                  refine ⟨k1 ++ ls, by rw [e1, List.append_assoc], fun q hq => ?_⟩
                  obtain ⟨p, q', g1, g2, rfl⟩ := eqCells_split hq
                  rw [List.drop_drop, List.drop_drop] at g2
                  have h2' := h2 q' (by rw [List.length_append]; exact g2)
                  have hcl := (eqCells_len hb).1
                  have hel := (eqCells_len hb).2
                  have hkl : out.length + k1.length ≤ ks.length := by rw [e1]; simp
                  have hxl := VRels.length hx
                  have hyl := VRels.length hy
                  have ihf := flat_ok P c w d f.type k1 hf n (by omega) _ _ p _ _ g1 (VRels.take (VRels.drop hx out.length) k1.length) (VRels.take (VRels.drop hy out.length) k1.length)
                  obtain ⟨px1, px2⟩ := part_of (P := P) (w := w) (off := f.offset) (xs := xs) hz (by omega) h0
                  obtain ⟨py1, py2⟩ := part_of (P := P) (w := w) (off := f.offset) (xs := ys) hz (by omega) h0
                  rw [ho] at px1 px2 py1 py2
                  rw [Op.eqFields, if_pos hname, ho]
                  rcases hag with hag | ⟨hag, hk1⟩
                  · simp only [Sem.run_bind, px1 hag, py1 hag, Result.andThen_ok, ihf.1 hag]
                    cases p
                    · simp
                    · simpa using h2'
                  · obtain ⟨x, ex, rx⟩ := px2 hag hk1
                    obtain ⟨y, ey, ry⟩ := py2 hag hk1
                    simp only [Sem.run_bind, rx, ry, Result.andThen_ok, ihf.2 hag x y ex ey]
                    cases p
                    · simp
                    · simpa using h2'
                · rw [none_fold] at h; cases h
        obtain ⟨ls, e1, h2⟩ := key fs.toList [] h
        obtain rfl : ks = ls := by simpa using e1
        exact h2 b (by simpa using hb)
    · cases h

theorem s_eqA (h : StRel en c st a w) (hd : ∀ d, o.dst = some d → d < a.tmps.size) {neg : Bool} {t yt : TypeId} {x y : Operand} {x' y' : Opd} {ks : List Nat} (ho : o.op = .binOp (if neg then .neq else .eql) t x y yt)
    (hf : flatT P 100 t = some ks) (hg : aggOf P t = some true) (hgd : P.eqGuardType P.depth t = false) (hx : VRel c w (ev st.get x') (a.eval x)) (hy : VRel c w (ev st.get y') (a.eval y))
    (hs : stepA st.get st.ob n site (.eqA neg ks x' y') = some r) : Sound P en c st a w o r := by
  simp only [stepA] at hs
  split at hs
  · rename_i u v he1 he2
    rw [he1] at hx
    rw [he2] at hy
    simp only [Option.map_eq_some_iff] at hs
    obtain ⟨b, hb, rfl⟩ := hs
    simp only [VRel] at hx hy
    obtain ⟨xs, ex, rx⟩ := hx
    obtain ⟨ys, ey, ry⟩ := hy
    have := (flat_ok P c w 100 t ks hf 10000 (by omega) u v b _ _ hb rx ry).1 hg
    simp only [Array.toArray_toList] at this
    refine sound_val h (v := .bool (if neg then !b else b)) ?_ (rel_s.2 rfl) hd
    simp only [execOp, ho, ex, ey]
    refine run_v ?_
    cases neg
    · simp [run_eqGuard_agg w _ t x y xs ys hgd, run_eql_struct, this]
    · simp [run_eqGuard_agg w _ t x y xs ys hgd, run_neq_struct, this]
  · cases hs
end
end Go.Den
