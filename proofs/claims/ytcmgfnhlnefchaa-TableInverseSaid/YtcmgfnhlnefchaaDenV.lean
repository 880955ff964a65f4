/-
  Den, part V: from a given statement's reading of the arguments to data, and from what a call of data comes to to what a given statement asks.
-/
import Derived.Test.YtcmgfnhlnefchaaDenU
import Derived.ChangeSame
import Derived.ChangeArms
import Derived.OpenShut
import Derived.ReadAgain
import Derived.Deep.Slices
import Derived.RowKit
namespace Go.Den
open Go.ChangeShapes Go.WideShapes Go.RowKit
set_option linter.unusedVariables false
set_option linter.unusedSimpArgs false

def old (W : World) : Nat → Nat → Prop := fun b _ => b < W.heap.size

section
variable {H : Type} {enc : TypeId × Value → H} {P : Program} {W : World}

/-- How data of a type read: as what. -/
def Reads (enc : TypeId × Value → H) (P : Program) (W : World) (t : TypeId) {α : Type} (E : α → List AV) (ok : α → Prop) : Prop :=
  ∀ (fuel : Nat) (cs : List Value) (x : DataW H × List MemPlace), DataW.trod enc P W 0 (fun _ => true) true fuel t cs = some x → ∃ a, ok a ∧ VRels (dataCx (old W)) W (E a) cs ∧ One cs

theorem reads_int {t : TypeId} {k : IntKind} (ht : P.underlying t = some (.int k)) : Reads enc P W t (fun n : Int => [.s (.int k n)]) (fun n => (Lit.int k n).wf = true) := by
  intro fuel cs x h
  obtain ⟨n, rfl, _, hw⟩ := DataW.trod_int ht h
  exact ⟨n, hw, by simp [VRels, VRel], by simp [One, Value.oneCell']⟩
theorem reads_bool {t : TypeId} (ht : P.underlying t = some .bool) : Reads enc P W t (fun b : Bool => [.s (.bool b)]) (fun _ => True) := by
  intro fuel cs x h
  obtain ⟨b, rfl, _⟩ := DataW.trod_bool ht h
  exact ⟨b, trivial, by simp [VRels, VRel], by simp [One, Value.oneCell']⟩
theorem reads_string {t : TypeId} (ht : P.underlying t = some .string) : Reads enc P W t (fun s : ByteArray => [.s (.string s)]) (fun s => s.size ≤ maxLen) := by
  intro fuel cs x h
  obtain ⟨s, rfl, _, hs⟩ := DataW.trod_string ht h
  exact ⟨s, hs, by simp [VRels, VRel], by simp [One, Value.oneCell']⟩

theorem vrelss_snoc {c : Cx} {w : World} {es : List (List AV)} {e : List AV} {xs ys : List Value} (h : VRelss c w es xs) (k : VRels c w e ys) : VRelss c w (es ++ [e]) (xs ++ ys) := by
  refine VRelss.flatten.2 ?_
  rw [List.flatten_append]
  refine VRels.append (VRelss.flatten.1 h) ?_
  simpa using k

theorem reads_slice {α : Type} {t e : TypeId} {E : α → List AV} {ok : α → Prop} {z : Nat} (ht : P.underlying t = some (.slice e)) (hc : P.cellsOf e = z) (hz : 0 < z) (hE : ∀ a, (E a).length = z) (he : Reads enc P W e E ok) :
    Reads enc P W t (fun l : List α => [.d false z (l.map E)]) (fun l => ∀ a ∈ l, ok a) := by
  intro fuel cs x h
  rcases Deep.open_slice ht h with ⟨rfl, rfl⟩ | ⟨a, len, cap, m, n, D, Pl, rfl, hb, hlc, hcm, hm, hx, hel⟩
  · refine ⟨[], by simp, ?_, by simp [One, Value.oneCell']⟩
    simp only [VRels, VRel, List.map_nil]
    exact ⟨_, [], rfl, ⟨none, 0, [], rfl, by simp, by simp, hz, by simp, by simp [VRelss], by simp [One], fun hne => absurd rfl hne⟩, rfl⟩
  · have hlm : len ≤ m := by rw [hm]; simp; exact hlc
    have key : ∀ k, k ≤ len → ∃ (l : List α) (xs : List Value), l.length = k ∧ (∀ a ∈ l, ok a) ∧ VRelss (dataCx (old W)) W (l.map E) xs ∧ One xs ∧ xs.length = k * z ∧ ∀ (j : Nat) (v : Value), xs[j]? = some v → W.cell? (a.add j) = some v := by
      intro k
      induction k with
      | zero => exact fun _ => ⟨[], [], rfl, by simp, by simp [VRelss], by simp [One], by simp, by simp⟩
      | succ k ih =>
        intro hk
        obtain ⟨l, xs, g1, g2, g3, g4, g5, g6⟩ := ih (by omega)
        obtain ⟨cs', h1, h2⟩ := hel k (by omega)
        obtain ⟨u, q1, q2, q3⟩ := he _ _ _ h2
        obtain ⟨_, r2, r3⟩ := World.cells?_some h1
        rw [hc] at r2 r3
        refine ⟨l ++ [u], xs ++ cs', by simp [g1], fun b hb => ?_, ?_, fun v hv => ?_, by rw [List.length_append, g5, r2, Nat.succ_mul], fun j v hj => ?_⟩
        · rcases List.mem_append.1 hb with hb | hb
          · exact g2 b hb
          · simp at hb; subst hb; exact q1
        · rw [List.map_append]; exact vrelss_snoc g3 q2
        · rcases List.mem_append.1 hv with hv | hv
          · exact g4 v hv
          · exact q3 v hv
        · by_cases hjx : j < xs.length
          · rw [List.getElem?_append_left hjx] at hj; exact g6 j v hj
          · rw [List.getElem?_append_right (by omega)] at hj
            have hjl : j - xs.length < z := by
              rcases Nat.lt_or_ge (j - xs.length) z with h' | h'
              · exact h'
              · rw [List.getElem?_eq_none (by omega)] at hj; cases hj
            have := r3 (j - xs.length) hjl
            rw [hj, Deep.add_add, g5, show k * z + (j - k * z) = j by omega] at this
            exact this
    obtain ⟨l, xs, g1, g2, g3, g4, g5, g6⟩ := key len (Nat.le_refl _)
    refine ⟨l, g2, ?_, by simp [One, Value.oneCell']⟩
    simp only [VRels, VRel]
    refine ⟨_, [], rfl, ⟨some a, cap, xs, by rw [List.length_map, g1], by rw [List.length_map, g1]; exact hlc, by simp, hz, fun u hu => ?_, ?_, g4, fun hne => ?_⟩, rfl⟩
    · obtain ⟨b, _, rfl⟩ := List.mem_map.1 hu; exact hE b
    · exact g3
    · have h0 : ∃ v, xs[0]? = some v := by
        cases xs with
        | nil => exact absurd rfl hne
        | cons v xs => exact ⟨v, rfl⟩
      obtain ⟨v0, h0⟩ := h0
      have hc0 := g6 0 v0 h0
      obtain ⟨b, o, sp⟩ := a
      have hsp : sp = none := by
        cases sp with
        | none => rfl
        | some s =>
          simp [World.cell?, Addr.add] at hc0
          split at hc0 <;> simp at hc0
      subst hsp
      refine ⟨b, o, rfl, fun j v hj => ?_⟩
      have := g6 j v hj
      rw [addz] at this
      exact ⟨World.block_lt_of_cell? W _ this, this⟩

theorem reads_array {α : Type} {t e : TypeId} {E : α → List AV} {ok : α → Prop} {n z : Nat} (ht : P.underlying t = some (.array n e)) (hc : P.cellsOf e = z) (hct : P.cellsOf t = n * z) (he : Reads enc P W e E ok) :
    Reads enc P W t (fun l : List α => (l.map E).flatten) (fun l => l.length = n ∧ ∀ a ∈ l, ok a) := by
  intro fuel cs x h
  obtain ⟨xs, m, _, rfl, hl, hlen, hel⟩ := DataW.trod_array ht h
  rw [hct] at hl
  rw [hc] at hel
  have key : ∀ k, k ≤ n → ∃ l : List α, l.length = k ∧ (∀ a ∈ l, ok a) ∧ VRels (dataCx (old W)) W (l.map E).flatten (cs.take (k * z)) ∧ One (cs.take (k * z)) := by
    intro k
    induction k with
    | zero => exact fun _ => ⟨[], rfl, by simp, by simp [VRels], by simp [One]⟩
    | succ k ih =>
      intro hk
      obtain ⟨l, g1, g2, g3, g4⟩ := ih (by omega)
      have hx := hel k (by omega)
      rw [List.getElem?_eq_getElem (by omega)] at hx
      obtain ⟨u, q1, q2, q3⟩ := he _ _ _ hx
      have hsp : cs.take ((k + 1) * z) = cs.take (k * z) ++ (cs.drop (k * z)).take z := by
        rw [Nat.succ_mul, List.take_add]
      refine ⟨l ++ [u], by simp [g1], fun b hb => ?_, ?_, fun v hv => ?_⟩
      · rcases List.mem_append.1 hb with hb | hb
        · exact g2 b hb
        · simp at hb; subst hb; exact q1
      · rw [hsp, List.map_append, List.flatten_append]
        refine VRels.append g3 ?_
        simpa using q2
      · rw [hsp] at hv
        rcases List.mem_append.1 hv with hv | hv
        · exact g4 v hv
        · exact q3 v hv
  obtain ⟨l, g1, g2, g3, g4⟩ := key n (Nat.le_refl _)
  rw [List.take_of_length_le (by omega)] at g3 g4
  exact ⟨l, ⟨g1, g2⟩, g3, g4⟩

/-- The same data under another name. -/
theorem Reads.as {α β : Type} {t : TypeId} {E : α → List AV} {ok : α → Prop} {E' : β → List AV} {ok' : β → Prop} (h : Reads enc P W t E ok) (hm : ∀ a, ok a → ∃ b, ok' b ∧ E' b = E a) : Reads enc P W t E' ok' := by
  intro fuel cs x hx
  obtain ⟨a, h1, h2, h3⟩ := h fuel cs x hx
  obtain ⟨b, k1, k2⟩ := hm a h1
  exact ⟨b, k1, by rw [k2]; exact h2, h3⟩

/-! ### Arguments -/
theorem arg_agg {α : Type} {t : TypeId} {E : α → List AV} {ok : α → Prop} {v : Value} {d : DataW H} {ps : List MemPlace} {r : Reach} {b0 : Nat} (hr : Reads enc P W t E ok) (ht : (∃ fs, P.underlying t = some (.struct fs)) ∨ ∃ n e, P.underlying t = some (.array n e))
    (hv : Value.okWide P W r b0 t v) (hd : DataW.Trod enc P W 0 (fun _ => true) true t v d ps) : ∃ a, ok a ∧ VRel (dataCx (old W)) W (.g (E a)) v := by
  obtain ⟨fuel, hf⟩ := hd
  obtain ⟨a, h1, h2, _⟩ := hr _ _ _ hf
  obtain ⟨cs, rfl⟩ : ∃ cs, v = .agg cs := by
    rcases ht with ⟨fs, ht⟩ | ⟨n, e, ht⟩
    · unfold Value.okWide at hv; rw [ht] at hv; obtain ⟨cs, e, _⟩ := hv; exact ⟨cs, e⟩
    · unfold Value.okWide at hv; rw [ht] at hv; obtain ⟨cs, e, _⟩ := hv; exact ⟨cs, e⟩
  refine ⟨a, h1, ?_⟩
  simp only [VRel]
  exact ⟨cs, rfl, h2⟩
theorem arg_slice {α : Type} {t e : TypeId} {y : α → AV} {ok : α → Prop} {v : Value} {d : DataW H} {ps : List MemPlace} {r : Reach} {b0 : Nat} (hr : Reads enc P W t (fun a => [y a]) ok) (ht : P.underlying t = some (.slice e))
    (hv : Value.okWide P W r b0 t v) (hd : DataW.Trod enc P W 0 (fun _ => true) true t v d ps) : ∃ a, ok a ∧ VRel (dataCx (old W)) W (y a) v := by
  obtain ⟨fuel, hf⟩ := hd
  obtain ⟨a, h1, h2, h3⟩ := hr _ _ _ hf
  have hcell : v.cells.toList = [v] := by
    cases v with
    | agg cs =>
      unfold Value.okWide at hv
      rw [ht] at hv
      simp [Cell.okWide, ht, Cell.ok] at hv
    | _ => rfl
  rw [hcell] at h2
  refine ⟨a, h1, ?_⟩
  simp only [VRels] at h2
  obtain ⟨x, l, e, h2, _⟩ := h2
  injection e with e1 _
  rw [e1]; exact h2

/-! ### What a statement asks -/
theorem post_of_true {f : Func} {s : ChangeSpec} {apart fresh handsOn again : Bool} {W' : World} {args : Array Value} {v : Value} {ds gs : List (DataW H)} {before pa pv : List MemPlace}
    (hW : DataW.Whole enc P f.params.toList s.vars apart W args.toList ds gs before)
    (hres : ∀ (b : Nat) (sp : Nat → Bool) (hd : Bool), DataW.TrodAll enc P W' b sp hd f.resultTypes.toList (v.resultList f.resultTypes.size) (s.fn H (ds ++ gs)).results [])
    (hargs : ∀ sp : Nat → Bool, (∀ p ∈ before, sp p.block = true) → DataW.TrodAll enc P W' 0 sp true f.params.toList args.toList (s.fn H (ds ++ gs)).args pa)
    (hvars : ∀ sp : Nat → Bool, (∀ p ∈ before, sp p.block = true) → DataW.TrodVars enc P W' sp s.vars (s.fn H (ds ++ gs)).vars pv)
    (hps : before = pa ++ pv) (hb : Below W.heap.size W W')
    (hok : ∀ (j : Nat) (t : TypeId) (r : Value), f.resultTypes[j]? = some t → (v.resultList f.resultTypes.size)[j]? = some r → Value.okWide P W' .any 0 t r) :
    s.post enc P f apart fresh handsOn again W args v W' := by
  have hlt := hW.lt
  have hold : ∀ p ∈ before, (fun b => decide (b < W.heap.size)) p.block = true := fun p hp => by simpa using hlt p hp
  refine ⟨ds, gs, before, [], pa, pv, hW, hres _ _ _, hargs _ hold, hvars _ hold, World.keptBut_mono (fun p hp => ⟨hp, ?_⟩) (hb.frame (· ∈ before)), fun _ => ?_⟩
  · rw [hps, List.mem_append] at hp
    exact Or.inr hp
  · obtain ⟨_, _, _, _, _, hz, hn⟩ := hW
    refine ⟨hok, _, _, ([] ++ pa) ++ pv, ⟨[] ++ pa, pv, trodAll_append (hargs _ (fun _ _ => rfl)) (hres _ _ _), hvars _ (fun _ _ => rfl), rfl, ?_, ?_⟩, ?_⟩
    · intro b off hp
      have hp' : MemPlace.cell b off ∈ before := by rw [hps]; simpa using hp
      rw [hb.frozen (p := ⟨b, off, none⟩) (hlt _ hp')]
      exact hz b off hp'
    · intro ha
      have := hn ha
      rw [hps] at this
      simpa using this
    · intro p hp _
      rw [hps]
      simpa using hp

theorem trodAll_carry {W' : World} (hb : Below W.heap.size W W') : ∀ {ts : List TypeId} {vs : List Value} {ds : List (DataW H)} {ps : List MemPlace}, DataW.TrodAll enc P W 0 (fun _ => true) true ts vs ds ps → DataW.TrodAll enc P W' 0 (fun _ => true) true ts vs ds ps
  | [], _, _, _, h => by
    obtain ⟨rfl, rfl, rfl⟩ := trodAll_nil h
    rfl
  | t :: ts, _, _, _, h => by
    obtain ⟨v, vs1, d, ds1, a, b, rfl, rfl, rfl, h1, h2⟩ := trodAll_cons h
    obtain ⟨fuel, hf⟩ := h1
    exact ⟨a, b, ⟨fuel, DataW.trod_carry fuel t _ _ hf (fun p hp => hb.same (DataW.trod_lt fuel t _ _ hf p hp))⟩, trodAll_carry hb h2, rfl⟩
end
end Go.Den
