/-
  Den, part M: giving memory up to readers; what a call of a function over data comes to; the code on the abstract side.
-/
import Derived.Test.YtcmgfnhlnefchaaDenL
namespace Go.Den
set_option linter.unusedVariables false
set_option linter.unusedSimpArgs false

def mapO {α β : Type} (f : α → Option β) : List α → Option (List β)
  | [] => some []
  | x :: xs => match f x, mapO f xs with
    | some y, some ys => some (y :: ys)
    | _, _ => none

/-- A value told as data; the memory that it leads to is written by nobody any more. -/
def frzA (ob : Id → Option Ob) : Nat → AV → Option AV
  | 0, _ => none
  | d + 1, .u => some .u
  | d + 1, .s v => some (.s v)
  | d + 1, .g cs => (mapO (frzA ob d) cs).map .g
  | d + 1, .t cs => (mapO (frzA ob d) cs).map .t
  | d + 1, .f fn cs => (mapO (frzA ob d) cs).map (.f fn)
  | d + 1, .d _ z es => some (.d false z es)
  | d + 1, .q es z k off => some (.q es z k off)
  | d + 1, .o i z off len => match ob i with
    | some o => bif Nat.beq o.z z && Nat.ble (off + len) o.es.length then (mapO (mapO (frzA ob d)) ((o.es.drop off).take len)).map (.d false z) else none
    | none => none
  | d + 1, .p i z k off => match ob i with
    | some o => bif Nat.beq o.z z && Nat.blt k o.es.length && Nat.blt off z then (mapO (mapO (frzA ob d)) o.es).map fun es => .q es z k off else none
    | none => none

/-- The lists one after the other. -/
def catO {α β : Type} (f : α → Option (List β)) : List α → Option (List β)
  | [] => some []
  | x :: xs => match f x, catO f xs with
    | some y, some ys => some (y ++ ys)
    | _, _ => none

/-- The memory that a value leads to. -/
def idsA (ob : Id → Option Ob) : Nat → AV → Option (List Id)
  | 0, _ => none
  | d + 1, .g cs => catO (idsA ob d) cs
  | d + 1, .t cs => catO (idsA ob d) cs
  | d + 1, .f _ cs => catO (idsA ob d) cs
  | d + 1, .o i _ off len => match ob i with
    | some o => (catO (catO (idsA ob d)) ((o.es.drop off).take len)).map (i :: ·)
    | none => none
  | d + 1, .p i _ _ _ => match ob i with
    | some o => (catO (catO (idsA ob d)) o.es).map (i :: ·)
    | none => none
  | _ + 1, _ => some []

def St.frz (st : St) : List Id → St
  | [] => st
  | i :: is => match st.ob i with
    | some o => (st.setOb i (some ⟨o.z, o.es, false, o.cap⟩)).frz is
    | none => st.frz is

section
variable {P : Program} {en : Env} {c : Cx} {st : St} {a : Act} {w : World}

theorem StRel.frz : ∀ (is : List Id) {c : Cx} {st : St}, StRel en c st a w → ∃ c', Up c w c' w ∧ StRel en c' (st.frz is) a w
  | [], c, st, h => ⟨c, Up.refl _ _, h⟩
  | i :: is, c, st, h => by
    simp only [St.frz]
    split
    · rename_i o ho
      obtain ⟨c1, u1, h1⟩ := h.freeze ho
      obtain ⟨c2, u2, h2⟩ := StRel.frz is h1
      exact ⟨c2, u1.trans u2, h2⟩
    · exact StRel.frz is h

theorem mapO_rel {c c' : Cx} {f : AV → Option AV} (hf : ∀ a b x, f a = some b → VRel c w a x → VRel c' w b x) : ∀ {as bs : List AV} {xs : List Value}, mapO f as = some bs → VRels c w as xs → VRels c' w bs xs ∧ bs.length = as.length
  | [], bs, xs, h, r => by simp only [mapO, Option.some.injEq] at h; subst h; exact ⟨by simpa [VRels] using r, rfl⟩
  | a :: as, bs, xs, h, r => by
    simp only [mapO] at h
    split at h
    · rename_i y ys hy hys
      simp only [Option.some.injEq] at h
      subst h
      simp only [VRels] at r
      obtain ⟨x, l, rfl, r1, r2⟩ := r
      obtain ⟨g1, g2⟩ := mapO_rel hf hys r2
      simp only [VRels]
      exact ⟨⟨x, l, rfl, hf _ _ _ hy r1, g1⟩, by simp [g2]⟩
    · cases h
theorem mapO_rels {c c' : Cx} {f : AV → Option AV} (hf : ∀ a b x, f a = some b → VRel c w a x → VRel c' w b x) {z : Nat} : ∀ {es fs : List (List AV)} {xs : List Value}, mapO (mapO f) es = some fs → (∀ e ∈ es, e.length = z) → VRelss c w es xs → VRelss c' w fs xs ∧ fs.length = es.length ∧ ∀ e ∈ fs, e.length = z
  | [], fs, xs, h, hz, r => by simp only [mapO, Option.some.injEq] at h; subst h; exact ⟨by simpa [VRelss] using r, rfl, by simp⟩
  | e :: es, fs, xs, h, hz, r => by
    simp only [mapO] at h
    split at h
    · rename_i y ys hy hys
      simp only [Option.some.injEq] at h
      subst h
      simp only [VRelss] at r
      obtain ⟨x, l, rfl, r1, r2⟩ := r
      obtain ⟨g1, g2, g3⟩ := mapO_rels hf hys (fun e he => hz e (List.mem_cons_of_mem _ he)) r2
      obtain ⟨k1, k2⟩ := mapO_rel hf hy r1
      simp only [VRelss]
      refine ⟨⟨x, l, rfl, k1, g1⟩, by simp [g2], fun u hu => ?_⟩
      rcases List.mem_cons.1 hu with rfl | hu
      · rw [k2]; exact hz e List.mem_cons_self
      · exact g3 u hu
    · cases h

/-- Of this memory nobody writes any more. -/
def Frzn (ob : Id → Option Ob) (is : List Id) : Prop := ∀ i ∈ is, ∀ o, ob i = some o → o.wr = false

theorem mapO_relI {c c' : Cx} {f : AV → Option AV} {g : AV → Option (List Id)} {ob : Id → Option Ob} (hf : ∀ a b x is, f a = some b → g a = some is → Frzn ob is → VRel c w a x → VRel c' w b x) :
    ∀ {as bs : List AV} {xs : List Value} {is : List Id}, mapO f as = some bs → catO g as = some is → Frzn ob is → VRels c w as xs → VRels c' w bs xs ∧ bs.length = as.length
  | [], bs, xs, is, h, _, _, r => by simp only [mapO, Option.some.injEq] at h; subst h; exact ⟨by simpa [VRels] using r, rfl⟩
  | a :: as, bs, xs, is, h, hi, hz, r => by
    simp only [mapO] at h
    simp only [catO] at hi
    split at h
    · rename_i y ys hy hys
      split at hi
      · rename_i i1 i2 h1 h2
        simp only [Option.some.injEq] at h hi
        subst h; subst hi
        simp only [VRels] at r
        obtain ⟨x, l, rfl, r1, r2⟩ := r
        obtain ⟨g1, g2⟩ := mapO_relI hf hys h2 (fun i hm => hz i (List.mem_append_right _ hm)) r2
        simp only [VRels]
        exact ⟨⟨x, l, rfl, hf _ _ _ _ hy h1 (fun i hm => hz i (List.mem_append_left _ hm)) r1, g1⟩, by simp [g2]⟩
      · cases hi
    · cases h
theorem mapO_relsI {c c' : Cx} {f : AV → Option AV} {g : AV → Option (List Id)} {ob : Id → Option Ob} (hf : ∀ a b x is, f a = some b → g a = some is → Frzn ob is → VRel c w a x → VRel c' w b x) {z : Nat} :
    ∀ {es fs : List (List AV)} {xs : List Value} {is : List Id}, mapO (mapO f) es = some fs → catO (catO g) es = some is → Frzn ob is → (∀ e ∈ es, e.length = z) → VRelss c w es xs → VRelss c' w fs xs ∧ fs.length = es.length ∧ ∀ e ∈ fs, e.length = z
  | [], fs, xs, is, h, _, _, hz, r => by simp only [mapO, Option.some.injEq] at h; subst h; exact ⟨by simpa [VRelss] using r, rfl, by simp⟩
  | e :: es, fs, xs, is, h, hi, hfz, hz, r => by
    simp only [mapO] at h
    simp only [catO] at hi
    split at h
    · rename_i y ys hy hys
      split at hi
      · rename_i i1 i2 h1 h2
        simp only [Option.some.injEq] at h hi
        subst h; subst hi
        simp only [VRelss] at r
        obtain ⟨x, l, rfl, r1, r2⟩ := r
        obtain ⟨g1, g2, g3⟩ := mapO_relsI hf hys h2 (fun i hm => hfz i (List.mem_append_right _ hm)) (fun e he => hz e (List.mem_cons_of_mem _ he)) r2
        obtain ⟨k1, k2⟩ := mapO_relI hf hy h1 (fun i hm => hfz i (List.mem_append_left _ hm)) r1
        simp only [VRelss]
        refine ⟨⟨x, l, rfl, k1, g1⟩, by simp [g2], fun u hu => ?_⟩
        rcases List.mem_cons.1 hu with rfl | hu
        · rw [k2]; exact hz e List.mem_cons_self
        · exact g3 u hu
      · cases hi
    · cases h

theorem frz_rel (h : StRel en c st a w) : ∀ (d : Nat) (av av' : AV) (x : Value) (is : List Id), frzA st.ob d av = some av' → idsA st.ob d av = some is → Frzn st.ob is → VRel c w av x → VRel c.data w av' x
  | 0, av, av', x, is, hf, _, _, _ => by simp [frzA] at hf
  | d + 1, av, av', x, is, hf, hi, hfz, r => by
    have ih := frz_rel h d
    cases av with
    | u => simp only [frzA, Option.some.injEq] at hf; subst hf; simp [VRel]
    | s v => simp only [frzA, Option.some.injEq] at hf; subst hf; simpa [VRel] using r
    | g cs =>
      simp only [frzA, Option.map_eq_some_iff] at hf
      simp only [idsA] at hi
      obtain ⟨bs, hbs, rfl⟩ := hf
      simp only [VRel] at r ⊢
      obtain ⟨xs, e, r⟩ := r
      exact ⟨xs, e, (mapO_relI (fun a b x is => ih a b x is) hbs hi hfz r).1⟩
    | t cs =>
      simp only [frzA, Option.map_eq_some_iff] at hf
      simp only [idsA] at hi
      obtain ⟨bs, hbs, rfl⟩ := hf
      simp only [VRel] at r ⊢
      obtain ⟨xs, e, r⟩ := r
      exact ⟨xs, e, (mapO_relI (fun a b x is => ih a b x is) hbs hi hfz r).1⟩
    | f fn cs =>
      simp only [frzA, Option.map_eq_some_iff] at hf
      simp only [idsA] at hi
      obtain ⟨bs, hbs, rfl⟩ := hf
      simp only [VRel] at r ⊢
      obtain ⟨xs, e, r⟩ := r
      exact ⟨xs, e, (mapO_relI (fun a b x is => ih a b x is) hbs hi hfz r).1⟩
    | d full z es =>
      simp only [frzA, Option.some.injEq] at hf
      subst hf
      simp only [VRel] at r ⊢
      obtain ⟨A, k, xs, e, g1, g2, g3⟩ := r
      exact ⟨A, k, xs, e, g1, (fun hh => by cases hh), g3⟩
    | q es z k off =>
      simp only [frzA, Option.some.injEq] at hf
      subst hf
      simp only [VRel] at r ⊢
      exact r
    | o i z off len =>
      simp only [frzA] at hf
      simp only [idsA] at hi
      split at hf
      · rename_i o ho
        rw [ho] at hi
        simp only [Option.map_eq_some_iff] at hi
        obtain ⟨is', hi, rfl⟩ := hi
        have hwr := hfz i List.mem_cons_self o ho
        have hfz' : Frzn st.ob is' := fun j hj => hfz j (List.mem_cons_of_mem _ hj)
        obtain ⟨hb, hf⟩ := bif_opt hf
        simp only [Option.map_eq_some_iff] at hf
        obtain ⟨es, hes, rfl⟩ := hf
        simp only [Bool.and_eq_true] at hb
        obtain ⟨hz, hle⟩ := hb
        have hz := Nat.eq_of_beq_eq_true hz
        have hle := Nat.le_of_ble_eq_true hle
        simp only [VRel] at r
        obtain ⟨hal, hz0, A, k, ex, k1, k2, k3⟩ := r
        obtain ⟨_, m1, m2, m3, m4, xs, m5, m6, m7⟩ := h.objs i o ho
        rw [hz] at m2 m3
        have hxl := VRelss.length m5 m2
        have hdz : ∀ e ∈ (o.es.drop off).take len, e.length = z := fun e he => m2 e (List.mem_of_mem_drop (List.mem_of_mem_take he))
        have hx : VRelss c w ((o.es.drop off).take len) ((xs.drop (off * z)).take (len * z)) := by
          have := VRels.take (VRels.drop (VRelss.flatten.1 m5) (off * z)) (len * z)
          rw [flatten_drop m2, flatten_take (fun e he => m2 e (List.mem_of_mem_drop he))] at this
          exact VRelss.flatten.2 this
        obtain ⟨g1, g2, g3⟩ := mapO_relsI (fun a b x is => ih a b x is) hes hi hfz' hdz hx
        have hlen : es.length = len := by rw [g2]; simp; omega
        simp only [VRel]
        refine ⟨A, k, _, by rw [hlen]; exact ex, by rw [hlen]; exact k1, (fun hh => by cases hh), hz0, g3, g1, fun v hv => m6 v (List.mem_of_mem_drop (List.mem_of_mem_take hv)), fun hne => ?_⟩
        have hlp : 0 < len := by
          rcases Nat.eq_zero_or_pos len with h0 | h0
          · exfalso; apply hne; rw [h0]; simp
          · exact h0
        have hcp : 0 < (c.mu i).cap := by rw [← k2]; exact Nat.mul_pos (by omega) hz0
        obtain ⟨cs, ty, p1, p2, p3, po, p4, p5⟩ := m7 hcp
        refine ⟨_, _, k3 (by omega), fun j v hj => ?_⟩
        have hjl : j < len * z := by
          rcases Nat.lt_or_ge j (len * z) with h' | h'
          · exact h'
          · rw [List.getElem?_take, if_neg (by omega)] at hj; cases hj
        rw [List.getElem?_take, if_pos hjl, List.getElem?_drop] at hj
        have hlt : off * z + j < xs.length := by
          rcases Nat.lt_or_ge (off * z + j) xs.length with h' | h'
          · exact h'
          · rw [List.getElem?_eq_none h'] at hj; cases hj
        rw [Nat.add_assoc]
        exact ⟨(p5 hwr).1 _ hlt, by rw [cell_of_block p1]; exact p3 _ _ hj⟩
      · cases hf
    | p i z k off =>
      simp only [frzA] at hf
      simp only [idsA] at hi
      split at hf
      · rename_i o ho
        rw [ho] at hi
        simp only [Option.map_eq_some_iff] at hi
        obtain ⟨is', hi, rfl⟩ := hi
        have hwr := hfz i List.mem_cons_self o ho
        have hfz' : Frzn st.ob is' := fun j hj => hfz j (List.mem_cons_of_mem _ hj)
        obtain ⟨hb, hf⟩ := bif_opt hf
        simp only [Option.map_eq_some_iff] at hf
        obtain ⟨es, hes, rfl⟩ := hf
        simp only [Bool.and_eq_true] at hb
        obtain ⟨⟨hz, hk⟩, hofz⟩ := hb
        have hz := Nat.eq_of_beq_eq_true hz
        have hk : k < o.es.length := Nat.le_of_ble_eq_true hk
        simp only [VRel] at r
        obtain ⟨hal, ex⟩ := r
        obtain ⟨_, m1, m2, m3, m4, xs, m5, m6, m7⟩ := h.objs i o ho
        rw [hz] at m1 m2 m3
        obtain ⟨g1, g2, g3⟩ := mapO_relsI (fun a b x is => ih a b x is) hes hi hfz' m2 m5
        have hcp : 0 < (c.mu i).cap := by
          have : 1 * 1 ≤ o.es.length * z := Nat.mul_le_mul (by omega) m1
          omega
        obtain ⟨cs, ty, p1, p2, p3, po, p4, p5⟩ := m7 hcp
        simp only [VRel]
        refine ⟨(c.mu i).blk, (c.mu i).off, xs, ex, g3, g1, m6, fun j v hj => ?_⟩
        have hlt : j < xs.length := by
          rcases Nat.lt_or_ge j xs.length with h' | h'
          · exact h'
          · rw [List.getElem?_eq_none h'] at hj; cases hj
        exact ⟨(p5 hwr).1 _ hlt, by rw [cell_of_block p1]; exact p3 _ _ hj⟩
      · cases hf
end

/-! ### What is frozen besides makes no difference -/
/-- The same memory, but for who may write it. -/
def Like (ob ob' : Id → Option Ob) (is : List Id) : Prop := ∀ i ∈ is, (ob i).map (fun o => (o.z, o.es)) = (ob' i).map (fun o => (o.z, o.es))

theorem catO_congr {α β : Type} {f g : α → Option (List β)} : ∀ {l : List α} {r : List β}, catO f l = some r → (∀ x ∈ l, ∀ y, f x = some y → (∀ b ∈ y, b ∈ r) → g x = some y) → catO g l = some r
  | [], r, h, _ => h
  | x :: xs, r, h, hg => by
    simp only [catO] at h
    split at h
    · rename_i y ys hy hys
      simp only [Option.some.injEq] at h
      subst h
      have h1 := hg x List.mem_cons_self y hy (fun b hb => List.mem_append_left _ hb)
      have h2 := catO_congr hys (g := g) (fun q hu v hv hb => hg q (List.mem_cons_of_mem _ hu) v hv (fun b hb' => List.mem_append_right _ (hb b hb')))
      simp only [catO, h1, h2]
    · cases h
theorem mapO_congr {α β γ : Type} {f g : α → Option β} {k : α → Option (List γ)} : ∀ {l : List α} {r : List β} {is : List γ}, mapO f l = some r → catO k l = some is → (∀ x ∈ l, ∀ y js, f x = some y → k x = some js → (∀ b ∈ js, b ∈ is) → g x = some y) → mapO g l = some r
  | [], r, is, h, _, _ => h
  | x :: xs, r, is, h, hk, hg => by
    simp only [mapO] at h
    simp only [catO] at hk
    split at h
    · rename_i y ys hy hys
      split at hk
      · rename_i j1 j2 h1 h2
        simp only [Option.some.injEq] at h hk
        subst h; subst hk
        have e1 := hg x List.mem_cons_self y j1 hy h1 (fun b hb => List.mem_append_left _ hb)
        have e2 := mapO_congr hys h2 (g := g) (fun q hu v js hv hj hb => hg q (List.mem_cons_of_mem _ hu) v js hv hj (fun b hb' => List.mem_append_right _ (hb b hb')))
        simp only [mapO, e1, e2]
      · cases hk
    · cases h

theorem idsA_like {ob ob' : Id → Option Ob} : ∀ (d : Nat) (av : AV) (is : List Id), idsA ob d av = some is → Like ob ob' is → idsA ob' d av = some is
  | 0, av, is, h, _ => by simp [idsA] at h
  | d + 1, av, is, h, hl => by
    have ih := idsA_like (ob := ob) (ob' := ob') d
    cases av with
    | g cs => simp only [idsA] at h ⊢; exact catO_congr h (fun x _ y hy hb => ih x y hy (fun i hi => hl i (hb i hi)))
    | t cs => simp only [idsA] at h ⊢; exact catO_congr h (fun x _ y hy hb => ih x y hy (fun i hi => hl i (hb i hi)))
    | f fn cs => simp only [idsA] at h ⊢; exact catO_congr h (fun x _ y hy hb => ih x y hy (fun i hi => hl i (hb i hi)))
    | o i z off len =>
      simp only [idsA] at h ⊢
      split at h
      · rename_i o ho
        simp only [Option.map_eq_some_iff] at h
        obtain ⟨js, h, rfl⟩ := h
        have he := hl i List.mem_cons_self
        rw [ho] at he
        cases ho' : ob' i with
        | none => rw [ho'] at he; cases he
        | some o' =>
          rw [ho'] at he
          simp only [Option.map_some, Option.some.injEq, Prod.mk.injEq] at he
          simp only [← he.2]
          rw [catO_congr h (fun x _ y hy hb => catO_congr hy (fun q _ v hv hb' => ih q v hv (fun k hk => hl k (List.mem_cons_of_mem _ (hb k (hb' k hk))))))]
          rfl
      · cases h
    | p i z k off =>
      simp only [idsA] at h ⊢
      split at h
      · rename_i o ho
        simp only [Option.map_eq_some_iff] at h
        obtain ⟨js, h, rfl⟩ := h
        have he := hl i List.mem_cons_self
        rw [ho] at he
        cases ho' : ob' i with
        | none => rw [ho'] at he; cases he
        | some o' =>
          rw [ho'] at he
          simp only [Option.map_some, Option.some.injEq, Prod.mk.injEq] at he
          simp only [← he.2]
          rw [catO_congr h (fun x _ y hy hb => catO_congr hy (fun q _ v hv hb' => ih q v hv (fun k hk => hl k (List.mem_cons_of_mem _ (hb k (hb' k hk))))))]
          rfl
      · cases h
    | _ => simpa [idsA] using h

theorem frzA_like {ob ob' : Id → Option Ob} : ∀ (d : Nat) (av av' : AV) (is : List Id), frzA ob d av = some av' → idsA ob d av = some is → Like ob ob' is → frzA ob' d av = some av'
  | 0, av, av', is, h, _, _ => by simp [frzA] at h
  | d + 1, av, av', is, h, hi, hl => by
    have ih := frzA_like (ob := ob) (ob' := ob') d
    cases av with
    | g cs =>
      simp only [frzA, Option.map_eq_some_iff] at h ⊢
      simp only [idsA] at hi
      obtain ⟨bs, hbs, rfl⟩ := h
      exact ⟨bs, mapO_congr hbs hi (fun x _ y js hy hj hb => ih x y js hy hj (fun i hm => hl i (hb i hm))), rfl⟩
    | t cs =>
      simp only [frzA, Option.map_eq_some_iff] at h ⊢
      simp only [idsA] at hi
      obtain ⟨bs, hbs, rfl⟩ := h
      exact ⟨bs, mapO_congr hbs hi (fun x _ y js hy hj hb => ih x y js hy hj (fun i hm => hl i (hb i hm))), rfl⟩
    | f fn cs =>
      simp only [frzA, Option.map_eq_some_iff] at h ⊢
      simp only [idsA] at hi
      obtain ⟨bs, hbs, rfl⟩ := h
      exact ⟨bs, mapO_congr hbs hi (fun x _ y js hy hj hb => ih x y js hy hj (fun i hm => hl i (hb i hm))), rfl⟩
    | o i z off len =>
      simp only [frzA] at h ⊢
      simp only [idsA] at hi
      split at h
      · rename_i o ho
        rw [ho] at hi
        simp only [Option.map_eq_some_iff] at hi
        obtain ⟨js, hi, rfl⟩ := hi
        have he := hl i List.mem_cons_self
        rw [ho] at he
        cases ho' : ob' i with
        | none => rw [ho'] at he; cases he
        | some o' =>
          rw [ho'] at he
          simp only [Option.map_some, Option.some.injEq, Prod.mk.injEq] at he
          simp only [← he.1, ← he.2]
          obtain ⟨hb, h⟩ := bif_opt h
          rw [hb, cond_true]
          simp only [Option.map_eq_some_iff] at h ⊢
          obtain ⟨es, hes, rfl⟩ := h
          exact ⟨es, mapO_congr hes hi (fun x _ y js' hy hj hb => mapO_congr hy hj (fun q _ v ks hv hk hb' => ih q v ks hv hk (fun m hm => hl m (List.mem_cons_of_mem _ (hb m (hb' m hm)))))), rfl⟩
      · cases h
    | p i z k off =>
      simp only [frzA] at h ⊢
      simp only [idsA] at hi
      split at h
      · rename_i o ho
        rw [ho] at hi
        simp only [Option.map_eq_some_iff] at hi
        obtain ⟨js, hi, rfl⟩ := hi
        have he := hl i List.mem_cons_self
        rw [ho] at he
        cases ho' : ob' i with
        | none => rw [ho'] at he; cases he
        | some o' =>
          rw [ho'] at he
          simp only [Option.map_some, Option.some.injEq, Prod.mk.injEq] at he
          simp only [← he.1, ← he.2]
          obtain ⟨hb, h⟩ := bif_opt h
          rw [hb, cond_true]
          simp only [Option.map_eq_some_iff] at h ⊢
          obtain ⟨es, hes, rfl⟩ := h
          exact ⟨es, mapO_congr hes hi (fun x _ y js' hy hj hb => mapO_congr hy hj (fun q _ v ks hv hk hb' => ih q v ks hv hk (fun m hm => hl m (List.mem_cons_of_mem _ (hb m (hb' m hm)))))), rfl⟩
      · cases h
    | _ => simpa [frzA] using h

theorem St.frz_ob : ∀ (is : List Id) (st : St) (i : Id), (st.frz is).ob i = (st.ob i).map fun o => if i ∈ is then ⟨o.z, o.es, false, o.cap⟩ else o
  | [], st, i => by cases h : st.ob i <;> simp [St.frz, h]
  | j :: is, st, i => by
    simp only [St.frz]
    split
    · rename_i o ho
      rw [St.frz_ob is, St.ob_setOb]
      by_cases hij : i = j
      · subst hij
        rw [if_pos rfl, ho]
        simp
      · rw [if_neg hij]
        cases h : st.ob i with
        | none => rfl
        | some o' => simp [hij]
    · rename_i ho
      rw [St.frz_ob is]
      cases h : st.ob i with
      | none => rfl
      | some o' =>
        have hij : i ≠ j := fun e => by rw [e, ho] at h; cases h
        simp [hij]
theorem St.frz_get : ∀ (is : List Id) (st : St) (i : Nat), (st.frz is).get i = st.get i
  | [], _, _ => rfl
  | j :: is, st, i => by
    simp only [St.frz]
    split
    · rw [St.frz_get is]; rfl
    · exact St.frz_get is st i
theorem St.frz_sl : ∀ (is : List Id) (st : St), (st.frz is).sl = st.sl
  | [], _ => rfl
  | j :: is, st => by
    simp only [St.frz]
    split
    · rw [St.frz_sl is]; rfl
    · exact St.frz_sl is st
theorem St.frz_ct : ∀ (is : List Id) (st : St), (st.frz is).ct = st.ct
  | [], _ => rfl
  | j :: is, st => by
    simp only [St.frz]
    split
    · rw [St.frz_ct is]; rfl
    · exact St.frz_ct is st
theorem frz_like (st : St) (is js : List Id) : Like st.ob (st.frz is).ob js := fun i _ => by
  rw [St.frz_ob]
  cases h : st.ob i with
  | none => rfl
  | some o => simp only [Option.map_some]; split <;> rfl
theorem frz_frzn (st : St) (is : List Id) : Frzn (st.frz is).ob is := fun i hi o ho => by
  rw [St.frz_ob] at ho
  cases h : st.ob i with
  | none => rw [h] at ho; cases ho
  | some o' => rw [h] at ho; simp [hi] at ho; rw [← ho]

/-! ### Functions over data -/
def dataCx (F : Nat → Nat → Prop) : Cx := ⟨F, fun _ => ⟨0, 0, 0⟩, fun _ => False⟩

def Callable (P : Program) (f : FuncId) : Prop := ∃ g, P.funcs[f]? = some g ∧ g.body.isSome = true ∧ (g.name == "runtime.NumGoroutine") = false

/-- Function f, called with these arguments, hands back this: whatever lies in memory besides, nothing that was there changes. -/
def PCall (P : Program) (f : FuncId) (args : List AV) (res : AV) : Prop :=
  Callable P f ∧ ∀ (F : Nat → Nat → Prop) (w : World) (vs : List Value), (∀ b i, F b i → b < w.heap.size) → VRels (dataCx F) w args vs →
    Calls P f vs.toArray w fun e w' => ∃ v, e = .returned v ∧ VRel (dataCx fun b i => F b i ∨ (w.heap.size ≤ b ∧ b < w'.heap.size)) w' res v ∧ RowKit.Below w.heap.size w w'

/-- Function f, called with these arguments in this memory, hands back r and leaves that memory: what the caller owns may be written. -/
def ICall (P : Program) (f : FuncId) (args : List AV) (ob : Id → Option Ob) (ct : Nat → Nat) (K : AV → (Id → Option Ob) → (Nat → Nat) → Prop) : Prop :=
  Callable P f ∧ ∀ (en : Env) (c : Cx) (sl : Nat → AV) (a : Act) (w : World) (vs : List Value), StRel en c ⟨sl, ob, ct⟩ a w → VRels c w args vs →
    Calls P f vs.toArray w fun e w' => ∃ v r ob' ct' c', e = .returned v ∧ K r ob' ct' ∧ Up c w c' w' ∧ VRel c' w' r v ∧ StRel en c' ⟨sl, ob', ct'⟩ a w'

/-! ### Code -/
inductive AC where
  | region (ops : List AOper) (live : List Nat)
  | drawn (ops : List AOper) (live : List Nat)
  | seq (x y : AC)
  | cond (c : Opd) (x y : AC)
  | block (id : Nat) (x : AC)
  | loop (x : AC)
  | exit (id : Nat)
  | ret
  | skip

inductive AE where
  | n
  | e (id : Nat)
  | r

/-- A call: its arguments are told as data. -/
def callW (P : Program) (st : St) (l : List AV) (dst : Option Nat) (K : St → Prop) : Prop :=
  ∃ fn caps as r is, mapO (frzA st.ob 20) l = some (.f fn caps :: as) ∧ catO (idsA st.ob 20) l = some is ∧ PCall P fn (as ++ caps) r ∧ K ((st.frz is).putO dst r)

def resW (st : St) (dst : Option Nat) (K : St → Prop) : Option Res → Prop
  | some r => K (st.app dst r)
  | none => False

/-- An operation that is worked out, or else that is told. -/
def resX (st : St) (dst : Option Nat) (K : St → Prop) (alt : Prop) : Option Res → Prop
  | some r => K (st.app dst r)
  | none => alt

/-- Is a slice nil? Of an empty one nobody knows. -/
def nilW (st : St) (dst : Option Nat) (K : St → Prop) (neg : Bool) : AV → Prop
  | .s v => isNilS v = true ∧ K (st.putO dst (.s (.bool (!neg))))
  | .d _ _ es => ∀ b : Bool, (es ≠ [] → b = false) → K (st.putO dst (.s (.bool (if neg then !b else b))))
  | .o _ _ _ len => ∀ b : Bool, (0 < len → b = false) → K (st.putO dst (.s (.bool (if neg then !b else b))))
  | _ => False
/-- A capacity that nobody knows is known from now on. -/
def capW (st : St) (dst : Option Nat) (K : St → Prop) : AV → Prop
  | .o i z off len => match st.ob i with
    | some o => o.z = z ∧ o.wr = true ∧ off + len ≤ o.es.length ∧ ∀ k, o.es.length ≤ k → (∀ k', o.cap = some k' → k = k') →
        K ((st.setOb i (some ⟨z, o.es ++ List.replicate (k - o.es.length) (List.replicate z .u), true, some k⟩)).putO dst (.s (.int .i64 (k - off : Nat))))
    | none => False
  | _ => False
/-- A slice up to what is known behind its end. -/
def slxW (st : St) (dst : Option Nat) (K : St → Prop) (z : Nat) : AV → Option Int → Option Int → Prop
  | .o i z' off len, some l, some n => match st.ob i with
    | some o => z' = z ∧ o.z = z ∧ 0 ≤ l ∧ l ≤ n ∧ off + n.toNat ≤ o.es.length ∧ K (st.putO dst (.o i z (off + l.toNat) (n.toNat - l.toNat)))
    | none => False
  | _, _, _ => False
def loA (get : Nat → AV) : Option Opd → Option Int
  | none => some 0
  | some l => intA (ev get l)
/-- Zeros behind a slice that has no room for them. -/
def appzW (st : St) (dst : Option Nat) (K : St → Prop) (z bytes : Nat) (zero : List AV) : AV → Option Int → Prop
  | .o i z' off len, some n => match st.ob i with
    | some o => z' = z ∧ o.z = z ∧ 0 ≤ n ∧ off + len ≤ o.es.length ∧ (∃ k, o.cap = some k ∧ k < off + len + n.toNat) ∧ (len + n.toNat) * bytes ≤ 70368744177664 ∧ len + n.toNat ≤ 70368744177664 ∧
        K (st.app dst (.nw (.o (.l (dst.getD 0) (st.ct (dst.getD 0))) z 0 (len + n.toNat)) (st.ct (dst.getD 0)) ⟨z, (o.es.drop off).take len ++ List.replicate n.toNat zero, true, none⟩))
    | none => False
  | _, _ => False
def altW (st : St) (dst : Option Nat) (K : St → Prop) : AOp → Prop
  | .nilS neg x => nilW st dst K neg (ev st.get x)
  | .capS x => capW st dst K (ev st.get x)
  | .slc z x lo (some hi) none => slxW st dst K z (ev st.get x) (loA st.get lo) (intA (ev st.get hi))
  | .appz z bytes zero s n => appzW st dst K z bytes zero (ev st.get s) (intA (ev st.get n))
  | _ => False

/-- Function f, which has no Go text, called with these arguments in this memory. -/
def XCall (P : Program) (f : FuncId) (args : List AV) (ob : Id → Option Ob) (ct : Nat → Nat) (K : AV → Prop) : Prop :=
  ∀ (en : Env) (c : Cx) (sl : Nat → AV) (a : Act) (w : World) (vs : List Value), StRel en c ⟨sl, ob, ct⟩ a w → VRels c w args vs →
    ∃ v r, (callFunc f vs.toArray).run P w = .ok (.value v) w ∧ K r ∧ VRel c w r v
def xcallW (P : Program) (st : St) (l : List AV) (dst : Option Nat) (K : St → Prop) : Prop :=
  ∃ fn caps as, l = .f fn caps :: as ∧ XCall P fn (as ++ caps) st.ob st.ct (fun r => K (st.putO dst r))

/-- A call that works on the memory of the caller. -/
def icallW (P : Program) (st : St) (l : List AV) (dst : Option Nat) (K : St → Prop) : Prop :=
  ∃ fn caps as, l = .f fn caps :: as ∧ ICall P fn (as ++ caps) st.ob st.ct (fun r ob ct => K ((⟨st.sl, ob, ct⟩ : St).putO dst r))

/-- One operation of a region that draws its order. -/
def opD (P : Program) (o : AOper) (K : St → Prop) (st : St) : Prop :=
  match o.op with
  | .call f args => callW P st (ev st.get f :: args.map (ev st.get)) o.dst K
  | op => resW st o.dst K (stepA st.get st.ob (st.ct (o.dst.getD 0)) (o.dst.getD 0) op)

/-- One operation of a region in the order of the text. -/
def opW (P : Program) (o : AOper) (K : St → Prop) (st : St) : Prop :=
  match o.op with
  | .call f args => callW P st (ev st.get f :: args.map (ev st.get)) o.dst K ∨ icallW P st (ev st.get f :: args.map (ev st.get)) o.dst K ∨ xcallW P st (ev st.get f :: args.map (ev st.get)) o.dst K
  | op => resX st o.dst K (altW st o.dst K op) (stepA st.get st.ob (st.ct (o.dst.getD 0)) (o.dst.getD 0) op)

def asB : Value → Option Bool
  | .bool b => some b
  | _ => none
/-- Whether a guard's value is the one that is wanted. -/
def gB : Value → Bool → Bool
  | .bool b, want => b == want
  | _, _ => false
def guardW : AV → Bool → Prop → Prop → Prop
  | .s v, want, A, B => if gB v want = true then A else B
  | _, _, _, _ => False

/-- The memory that a value names. -/
def refA : AV → List Id
  | .o i _ _ _ => [i]
  | .p i _ _ _ => [i]
  | _ => []

/-- What an operation looks at. -/
def tchA (st : St) : AOp → List Id
  | .load _ _ x => refA (ev st.get x)
  | .store _ x _ => refA (ev st.get x)
  | .app _ _ x y => refA (ev st.get x) ++ refA (ev st.get y)
  | .copy _ x y => refA (ev st.get x) ++ refA (ev st.get y)
  | .clear _ _ x => refA (ev st.get x)
  | .call f args => (catO (idsA st.ob 20) (ev st.get f :: args.map (ev st.get))).getD []
  | _ => []

/-- What an operation changes, or makes. -/
def modA (st : St) (site : Nat) : AOp → List Id
  | .new _ => [.l site (st.ct site)]
  | .box _ => [.l site (st.ct site)]
  | .bslice _ _ _ => [.l site (st.ct site)]
  | .mks _ _ _ _ _ => [.l site (st.ct site)]
  | .store _ x _ => refA (ev st.get x)
  | .app _ _ x _ => .l site (st.ct site) :: refA (ev st.get x)
  | .copy _ x _ => refA (ev st.get x)
  | .clear _ _ x => refA (ev st.get x)
  | _ => []

def disj : List Id → List Id → Bool
  | [], _ => true
  | x :: xs, ys => !ys.contains x && disj xs ys

/-- What has been done before in a region: the operation's number, what it looked at, what it changed. -/
structure Ent where
  k : Nat
  t : List Id
  m : List Id

def okI (inc : List Nat) (log : List Ent) (t m : List Id) : Bool :=
  match inc with
  | [] => true
  | _ => log.all fun e => !inc.contains e.k || (disj e.m t && disj m e.t && disj e.m m)

def opsD (P : Program) : List AOper → List Ent → (St → Prop) → St → Prop
  | [], _, K, st => K st
  | o :: rest, log, K, st => match o.guard with
    | none => okI o.inc log (tchA st o.op) (modA st (o.dst.getD 0) o.op) = true ∧ opD P o (opsD P rest (⟨o.idx, tchA st o.op, modA st (o.dst.getD 0) o.op⟩ :: log) K) st
    | some (d, want) => guardW (st.get d) want
        (okI o.inc log (tchA st o.op) (modA st (o.dst.getD 0) o.op) = true ∧ opD P o (opsD P rest (⟨o.idx, tchA st o.op, modA st (o.dst.getD 0) o.op⟩ :: log) K) st)
        (opsD P rest log K (st.putO o.dst (.s undef)))

def opsW (P : Program) : List AOper → (St → Prop) → St → Prop
  | [], K, st => K st
  | o :: rest, K, st => match o.guard with
    | none => opW P o (opsW P rest K) st
    | some (d, want) => guardW (st.get d) want (opW P o (opsW P rest K) st) (opsW P rest K (st.putO o.dst (.s undef)))

def St.cut (st : St) (live : List Nat) : St := { st with sl := fun j => bif live.contains j then st.sl j else .u }

def Kr (live : List Nat) (Q : AE → St → Prop) (st : St) : Prop := Q .n (st.cut live)
def Kseq (K : St → Prop) (Q : AE → St → Prop) : AE → St → Prop
  | .n, st => K st
  | e, st => Q e st
def Kblock (id : Nat) (Q : AE → St → Prop) : AE → St → Prop
  | .e id', st => if id' = id then Q .n st else Q (.e id') st
  | e, st => Q e st
def condW : AV → Prop → Prop → Prop
  | .s (.bool true), A, _ => A
  | .s (.bool false), _, B => B
  | _, _, _ => False

/-- No memory has a name that is still to be given. -/
def Fresh (st : St) : Prop := ∀ s n, st.ct s ≤ n → st.ob (.l s n) = none

theorem StRel.freshA {en : Env} {c : Cx} {st : St} {a : Act} {w : World} (h : StRel en c st a w) : Fresh st := fun s n hn => by
  cases ho : st.ob (.l s n) with
  | none => rfl
  | some o => exact absurd (h.fresh s n (h.objs _ o ho).1) (Nat.not_lt.2 hn)

/-- What is left to show behind a piece of code. -/
def dwp (P : Program) : AC → (AE → St → Prop) → St → Prop
  | .region ops live, Q, st => Fresh st → opsW P ops (Kr live Q) st
  | .drawn ops live, Q, st => Fresh st → opsD P ops [] (Kr live Q) st
  | .seq x y, Q, st => dwp P x (Kseq (dwp P y Q) Q) st
  | .cond c x y, Q, st => condW (ev st.get c) (dwp P x Q st) (dwp P y Q st)
  | .block id x, Q, st => dwp P x (Kblock id Q) st
  | .loop x, Q, st => ∀ I : St → Prop, (∀ st, dwp P x (Kseq I Q) st → I st) → I st
  | .exit id, Q, st => Q (.e id) st
  | .ret, Q, st => Q .r st
  | .skip, Q, st => Q .n st
end Go.Den
