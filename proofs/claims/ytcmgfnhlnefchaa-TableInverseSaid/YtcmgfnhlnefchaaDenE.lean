/-
  Den, part E: each operation on the abstract side is what the machine does (all but appends and calls).
-/
import Derived.Test.YtcmgfnhlnefchaaDenD
namespace Go.Den
set_option linter.unusedVariables false
set_option linter.unusedSimpArgs false

theorem bif_opt {α : Type} {b : Bool} {o : Option α} {y : α} (h : (bif b then o else none) = some y) : b = true ∧ o = some y := by
  cases b with
  | false => cases h
  | true => exact ⟨rfl, h⟩
theorem ite_opt {α : Type} {p : Prop} [Decidable p] {o : Option α} {y : α} (h : (if p then o else none) = some y) : p ∧ o = some y := by
  by_cases hp : p
  · exact ⟨hp, by simpa [hp] using h⟩
  · simp [hp] at h

def cS : Operand → Opd
  | .tmp n => .t n
  | .const v => .c (.s v)
  | .func f => .c (.f f [])
  | .global g => .c (.s (.pointer (some ⟨g, 0, none⟩)))

def cSm : Option Operand → Option Opd
  | none => none
  | some x => some (cS x)

section
variable {P : Program} {en : Env} {c : Cx} {st : St} {a : Act} {w : World}

theorem cS_rel (h : StRel en c st a w) (x : Operand) : VRel c w (ev st.get (cS x)) (a.eval x) := by
  cases x with
  | tmp n => exact h.slots n
  | const v => simp [cS, ev, VRel, Act.eval]
  | func f => simp [cS, ev, VRel, Act.eval, VRels]
  | global g => simp [cS, ev, VRel, Act.eval]

def Sound (P : Program) (en : Env) (c : Cx) (st : St) (a : Act) (w : World) (o : Oper) (r : Res) : Prop :=
  ∃ nx v w' c', (execOp a.eval o).run P w = .ok nx w' ∧ (nx = .value v ∨ (nx = .skip ∧ v = undef)) ∧ Up c w c' w' ∧ StRel en c' (st.app o.dst r) (a.put o.dst v) w'

theorem sound_val (h : StRel en c st a w) {o : Oper} {av : AV} {v : Value} (hr : (execOp a.eval o).run P w = .ok (.value v) w) (hv : VRel c w av v) (hd : ∀ d, o.dst = some d → d < a.tmps.size) :
    Sound P en c st a w o (.v av) := ⟨_, v, w, c, hr, .inl rfl, Up.refl _ _, by simpa [St.app] using h.val hv hd⟩

/-! ### The parts of a value -/
theorem rel_s {v x : Value} : VRel c w (.s v) x ↔ x = v := by simp [VRel]
theorem rel_bool {b : Bool} {x : Value} (h : VRel c w (.s (.bool b)) x) : x = .bool b := by simpa [VRel] using h
theorem rel_int {k : IntKind} {n : Int} {x : Value} (h : VRel c w (.s (.int k n)) x) : x = .int k n := by simpa [VRel] using h
theorem intA_rel {a : AV} {x : Value} {n : Int} (hi : intA a = some n) (h : VRel c w a x) : ∃ k, x = .int k n := by
  unfold intA at hi
  split at hi
  · simp only [Option.some.injEq] at hi
    subst hi
    exact ⟨_, rel_int h⟩
  · cases hi
theorem cellsA_rel {a : AV} {x : Value} {cs : List AV} (hc : cellsA a = some cs) (h : VRel c w a x) : VRels c w cs x.cells.toList ∧ One x.cells.toList ∧ x.cells.toList.length = cs.length := by
  have one : ∀ {a : AV} {x : Value}, oneA a = true → VRel c w a x → x.oneCell' = true := by
    intro a x ho hr
    cases a <;> simp only [oneA] at ho <;> simp only [VRel] at hr
    case s v => rw [hr]; exact ho
    case d => obtain ⟨_, _, _, rfl, _⟩ := hr; rfl
    case q => obtain ⟨_, _, _, rfl, _⟩ := hr; rfl
    case o => obtain ⟨_, _, _, _, rfl, _⟩ := hr; rfl
    case p => obtain ⟨_, rfl⟩ := hr; rfl
    case f => obtain ⟨_, rfl, _⟩ := hr; rfl
    all_goals cases ho
  have ones : ∀ (l : List AV) (xs : List Value), l.all oneA = true → VRels c w l xs → One xs := by
    intro l
    induction l with
    | nil => intro xs _ hr; simp only [VRels] at hr; subst hr; simp [One]
    | cons a l ih =>
      intro xs hl hr
      simp only [VRels] at hr
      obtain ⟨x, ys, rfl, h1, h2⟩ := hr
      simp only [List.all_cons, Bool.and_eq_true] at hl
      intro v hv
      rcases List.mem_cons.1 hv with rfl | hv
      · exact one hl.1 h1
      · exact ih ys hl.2 h2 v hv
  have single : ∀ {a : AV}, oneA a = true → VRel c w a x → VRels c w [a] x.cells.toList ∧ One x.cells.toList ∧ x.cells.toList.length = 1 := by
    intro a ho hr
    have h1 := one ho hr
    have hx : x.cells = #[x] := by cases x <;> first | rfl | simp [Value.oneCell'] at h1
    rw [hx]
    refine ⟨?_, ?_, rfl⟩
    · simp only [VRels]; exact ⟨x, [], rfl, hr, rfl⟩
    · intro v hv; simp at hv; rw [hv]; exact h1
  cases a with
  | g l =>
    simp only [cellsA] at hc
    simp only [VRel] at h
    obtain ⟨xs, rfl, hr⟩ := h
    cases ho : l.all oneA with
    | false => simp [ho] at hc
    | true =>
      simp only [ho, cond_true, Option.some.injEq] at hc
      subst hc
      exact ⟨hr, ones _ _ ho hr, VRels.length hr⟩
  | _ =>
    simp only [cellsA] at hc
    obtain ⟨ho, hc⟩ := bif_opt hc
    simp only [Option.some.injEq] at hc
    subst hc
    exact single ho h
/-- The elements that are looked at lie there. -/
theorem elemsA_rel (h : StRel en c st a w) {z : Nat} {av : AV} {x : Value} {es : List (List AV)} (he : elemsA st.ob z av = some es) (hz : 0 < z) (hr : VRel c w av x) :
    ∃ A k xs, x = .slice A es.length k ∧ es.length ≤ k ∧ (∀ e ∈ es, e.length = z) ∧ VRelss c w es xs ∧ One xs ∧ (∀ (j : Nat) (v : Value), xs[j]? = some v → ∃ ad, A = some ad ∧ w.cell? (ad.add j) = some v) := by
  have addz : ∀ (b o j : Nat), (⟨b, o, none⟩ : Addr).add j = ⟨b, o + j, none⟩ := by intro b o j; unfold Addr.add; split <;> simp_all
  unfold elemsA at he
  split at he
  · rename_i full z' es'
    cases hb : Nat.beq z z' with
    | false => simp [hb] at he
    | true =>
      simp only [hb, cond_true, Option.some.injEq] at he
      subst he
      have := Nat.eq_of_beq_eq_true hb
      subst this
      simp only [VRel] at hr
      obtain ⟨A, k, xs, rfl, h1, _, _, h2, h3, h4, h5⟩ := hr
      refine ⟨A, k, xs, rfl, h1, h2, VRelss.up (Up.ofData c w) _ _ h3, h4, fun j v hj => ?_⟩
      obtain ⟨b, o, rfl, hh⟩ := h5 (by intro e; simp [e] at hj)
      exact ⟨_, rfl, by rw [addz]; exact (hh j v hj).2⟩
  · rename_i i z' off len
    cases hb : Nat.beq z z' with
    | false => simp [hb] at he
    | true =>
      simp only [hb, cond_true] at he
      have := Nat.eq_of_beq_eq_true hb
      subst this
      cases hob : st.ob i with
      | none => simp [hob] at he
      | some o =>
        simp only [hob] at he
        cases hc2 : (Nat.beq o.z z && Nat.ble (off + len) o.es.length) with
        | false => simp [hc2] at he
        | true =>
          simp only [hc2, cond_true, Option.some.injEq] at he
          subst he
          simp only [Bool.and_eq_true] at hc2
          obtain ⟨hz2, hl⟩ := hc2
          have hz2 := Nat.eq_of_beq_eq_true hz2
          have hl := Nat.le_of_ble_eq_true hl
          simp only [VRel] at hr
          obtain ⟨_, _, A, k, rfl, h1, h2, h3⟩ := hr
          obtain ⟨_, g1, g2, g3, g4, xs, g5, g6, g7⟩ := h.objs i o hob
          have hlen : ((o.es.drop off).take len).length = len := by simp; omega
          have hx : VRels c w ((o.es.drop off).take len).flatten ((xs.drop (off * z)).take (len * z)) := by
            have := VRels.take (VRels.drop (VRelss.flatten.1 g5) (off * z)) (len * z)
            rw [hz2] at g2
            rw [flatten_drop g2, flatten_take (fun e he => g2 e (List.mem_of_mem_drop he))] at this
            exact this
          refine ⟨A, k, (xs.drop (off * z)).take (len * z), by rw [hlen], by rw [hlen]; exact h1, fun e he => ?_, VRelss.flatten.2 hx, fun v hv => g6 v (List.mem_of_mem_drop (List.mem_of_mem_take hv)), fun j v hj => ?_⟩
          · have := g2 e (List.mem_of_mem_drop (List.mem_of_mem_take he)); omega
          · have hjl : j < len * z := by
              rcases Nat.lt_or_ge j (len * z) with h' | h'
              · exact h'
              · rw [List.getElem?_take, if_neg (by omega)] at hj; cases hj
            rw [List.getElem?_take, if_pos hjl, List.getElem?_drop] at hj
            have hk : 0 < k := by
              rcases Nat.eq_zero_or_pos len with h0 | h0
              · subst h0; simp at hjl
              · omega
            have hcp : 0 < (c.mu i).cap := by rw [← h2]; exact Nat.mul_pos (by omega) hz
            obtain ⟨cs, e, q1, q2, q3, _⟩ := g7 hcp
            refine ⟨_, h3 hk, ?_⟩
            rw [addz, cell_of_block q1, Nat.add_assoc]
            exact q3 _ _ hj
  · rename_i v
    cases hn : isNilS v with
    | false => simp [hn] at he
    | true =>
      simp only [hn, cond_true, Option.some.injEq] at he
      subst he
      unfold isNilS at hn
      split at hn
      · simp only [VRel] at hr
        subst hr
        exact ⟨none, 0, [], rfl, by simp, by simp, by simp [VRelss], by simp [One], by simp⟩
      · cases hn
  · cases he
end
end Go.Den
