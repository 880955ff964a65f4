/-
  The plain law of tables: sorted lists of rows, a row put into one, taken out of one. No program here.
-/
import Derived.Test.YtcmgfnhlnefchaaF13
namespace Go.Proofs.Ytcmgfnhlnefchaa
open Go.Den
set_option linter.unusedVariables false
set_option linter.unusedSimpArgs false

/-! ### Comparisons are orders -/
structure Tot {α : Type} (c : α → α → Int) : Prop where
  eq : ∀ a b, c a b = 0 → a = b
  refl : ∀ a, c a a = 0
  anti : ∀ a b, c a b < 0 → 0 < c b a
  anti' : ∀ a b, 0 < c a b → c b a < 0
  trans : ∀ a b d, c a b < 0 → c b d < 0 → c a d < 0

theorem sgn_lt {a b : Int} : sgn a b < 0 ↔ a < b := by unfold sgn; split <;> (try split) <;> omega
theorem sgn_gt {a b : Int} : 0 < sgn a b ↔ b < a := by unfold sgn; split <;> (try split) <;> omega

theorem tot_sgn : Tot sgn where
  eq a b h := sgn_zero.1 h
  refl a := sgn_zero.2 rfl
  anti a b h := sgn_gt.2 (sgn_lt.1 h)
  anti' a b h := sgn_lt.2 (sgn_gt.1 h)
  trans a b d h k := sgn_lt.2 (Int.lt_trans (sgn_lt.1 h) (sgn_lt.1 k))

/-- Lists, in the order of their elements. -/
def lexI {α : Type} (c : α → α → Int) : List α → List α → Int
  | x :: xs, y :: ys => if c x y = 0 then lexI c xs ys else c x y
  | xs, ys => sgn xs.length ys.length

theorem lexI_eq {α : Type} {c : α → α → Int} (hc : Tot c) : ∀ a b, lexI c a b = 0 → a = b
  | [], [], _ => rfl
  | [], y :: ys, h => by have := sgn_zero.1 (show sgn _ _ = 0 from h); simp at this <;> omega
  | x :: xs, [], h => by have := sgn_zero.1 (show sgn _ _ = 0 from h); simp at this <;> omega
  | x :: xs, y :: ys, h => by
    simp only [lexI] at h
    split at h
    · rename_i h0; rw [hc.eq _ _ h0, lexI_eq hc _ _ h]
    · contradiction
theorem lexI_refl {α : Type} {c : α → α → Int} (hc : Tot c) : ∀ a, lexI c a a = 0
  | [] => sgn_zero.2 rfl
  | x :: xs => by simp only [lexI, hc.refl, if_true]; exact lexI_refl hc xs
theorem lexI_anti {α : Type} {c : α → α → Int} (hc : Tot c) : ∀ a b, (lexI c a b < 0 → 0 < lexI c b a) ∧ (0 < lexI c a b → lexI c b a < 0)
  | [], [] => ⟨fun h => by simp [lexI, sgn] at h, fun h => by simp [lexI, sgn] at h⟩
  | [], y :: ys => ⟨fun h => sgn_gt.2 (by simp only [List.length_cons, List.length_nil]; omega), fun h => by have := sgn_gt.1 h; simp at this <;> omega⟩
  | x :: xs, [] => ⟨fun h => by have := sgn_lt.1 h; simp at this <;> omega, fun h => sgn_lt.2 (by simp only [List.length_cons, List.length_nil]; omega)⟩
  | x :: xs, y :: ys => by
    have ih := lexI_anti hc xs ys
    simp only [lexI]
    by_cases h0 : c x y = 0
    · have := hc.eq _ _ h0
      subst this
      simp only [hc.refl, if_true]; exact ih
    · have h1 : c y x ≠ 0 := fun e => h0 (by rw [hc.eq _ _ e]; exact hc.refl _)
      simp only [h0, h1, if_false]
      exact ⟨hc.anti _ _, hc.anti' _ _⟩
theorem lexI_trans {α : Type} {c : α → α → Int} (hc : Tot c) : ∀ a b d, lexI c a b < 0 → lexI c b d < 0 → lexI c a d < 0
  | [], [], d, h, _ => by simp [lexI, sgn] at h
  | x :: xs, [], d, h, _ => by have := sgn_lt.1 (show sgn _ _ < 0 from h); simp at this <;> omega
  | a, y :: ys, [], _, k => by have := sgn_lt.1 (show sgn _ _ < 0 from k); simp at this <;> omega
  | [], y :: ys, z :: zs, _, _ => sgn_lt.2 (by simp only [List.length_cons, List.length_nil]; omega)
  | x :: xs, y :: ys, z :: zs, h, k => by
    simp only [lexI] at h k ⊢
    by_cases h0 : c x y = 0
    · have e := hc.eq _ _ h0
      subst e
      simp only [hc.refl, if_true] at h
      by_cases k0 : c x z = 0
      · simp only [k0, if_true] at k ⊢
        exact lexI_trans hc xs ys zs h k
      · simp only [k0, if_false] at k ⊢; exact k
    · simp only [h0, if_false] at h
      by_cases k0 : c y z = 0
      · have e := hc.eq _ _ k0
        subst e
        simp only [h0, if_false]; exact h
      · simp only [k0, if_false] at k
        have := hc.trans _ _ _ h k
        rw [if_neg (by omega)]; exact this
theorem tot_lexI {α : Type} {c : α → α → Int} (hc : Tot c) : Tot (lexI c) where
  eq := lexI_eq hc
  refl := lexI_refl hc
  anti a b := (lexI_anti hc a b).1
  anti' a b := (lexI_anti hc a b).2
  trans := lexI_trans hc

def cmpU (x y : UInt8) : Int := sgn x.toNat y.toNat
theorem tot_cmpU : Tot cmpU where
  eq a b h := by have := tot_sgn.eq _ _ h; exact UInt8.toNat_inj.1 (by omega)
  refl a := tot_sgn.refl _
  anti a b := tot_sgn.anti _ _
  anti' a b := tot_sgn.anti' _ _
  trans a b d := tot_sgn.trans _ _ _
theorem cmpB_lex : ∀ a b, cmpB a b = lexI cmpU a b
  | [], [] => rfl
  | [], y :: ys => rfl
  | x :: xs, [] => rfl
  | x :: xs, y :: ys => by
    simp only [cmpB, lexI, cmpB_lex xs ys]
    by_cases h : x = y
    · subst h; simp [tot_cmpU.refl]
    · have : cmpU x y ≠ 0 := fun e => h (tot_cmpU.eq _ _ e)
      rw [if_neg h, if_neg this]; rfl
theorem tot_cmpB : Tot cmpB := by
  have : cmpB = lexI cmpU := by funext a b; exact cmpB_lex a b
  rw [this]; exact tot_lexI tot_cmpU
theorem cmpV_cases (a b : V) : cmpV a b = if sgn a.k b.k = 0 then (if sgn a.i b.i = 0 then cmpB a.s.data.toList b.s.data.toList else sgn a.i b.i) else sgn a.k b.k := by
  unfold cmpV
  by_cases h : a.k = b.k
  · rw [if_pos h, if_pos (sgn_zero.2 h)]
    by_cases h2 : a.i = b.i
    · rw [if_pos h2, if_pos (sgn_zero.2 h2)]
    · rw [if_neg h2, if_neg (fun e => h2 (sgn_zero.1 e))]
  · rw [if_neg h, if_neg (fun e => h (sgn_zero.1 e))]
theorem ba_ext {a b : ByteArray} (h : a.data.toList = b.data.toList) : a = b := by
  obtain ⟨a⟩ := a; obtain ⟨b⟩ := b
  simp only [ByteArray.mk.injEq]
  exact Array.ext' h
theorem tot_cmpV : Tot cmpV where
  eq a b h := by
    rw [cmpV_cases] at h
    split at h
    · rename_i h1
      split at h
      · rename_i h2
        have e3 := ba_ext (tot_cmpB.eq _ _ h)
        have e1 := sgn_zero.1 h1
        have e2 := sgn_zero.1 h2
        obtain ⟨a1, a2, a3⟩ := a
        obtain ⟨b1, b2, b3⟩ := b
        simp_all
      · contradiction
    · contradiction
  refl a := by rw [cmpV_cases, if_pos (sgn_zero.2 rfl), if_pos (sgn_zero.2 rfl)]; exact tot_cmpB.refl _
  anti a b h := by
    rw [cmpV_cases] at h ⊢
    by_cases h1 : a.k = b.k
    · rw [if_pos (sgn_zero.2 h1)] at h
      rw [if_pos (sgn_zero.2 h1.symm)]
      by_cases h2 : a.i = b.i
      · rw [if_pos (sgn_zero.2 h2)] at h
        rw [if_pos (sgn_zero.2 h2.symm)]; exact tot_cmpB.anti _ _ h
      · rw [if_neg (fun e => h2 (sgn_zero.1 e))] at h
        rw [if_neg (fun e => h2 (sgn_zero.1 e).symm)]; exact tot_sgn.anti _ _ h
    · rw [if_neg (fun e => h1 (sgn_zero.1 e))] at h
      rw [if_neg (fun e => h1 (sgn_zero.1 e).symm)]; exact tot_sgn.anti _ _ h
  anti' a b h := by
    rw [cmpV_cases] at h ⊢
    by_cases h1 : a.k = b.k
    · rw [if_pos (sgn_zero.2 h1)] at h
      rw [if_pos (sgn_zero.2 h1.symm)]
      by_cases h2 : a.i = b.i
      · rw [if_pos (sgn_zero.2 h2)] at h
        rw [if_pos (sgn_zero.2 h2.symm)]; exact tot_cmpB.anti' _ _ h
      · rw [if_neg (fun e => h2 (sgn_zero.1 e))] at h
        rw [if_neg (fun e => h2 (sgn_zero.1 e).symm)]; exact tot_sgn.anti' _ _ h
    · rw [if_neg (fun e => h1 (sgn_zero.1 e))] at h
      rw [if_neg (fun e => h1 (sgn_zero.1 e).symm)]; exact tot_sgn.anti' _ _ h
  trans a b d h k := by
    rw [cmpV_cases] at h k ⊢
    by_cases h1 : a.k = b.k
    · rw [if_pos (sgn_zero.2 h1)] at h
      by_cases k1 : b.k = d.k
      · rw [if_pos (sgn_zero.2 k1)] at k
        rw [if_pos (sgn_zero.2 (h1.trans k1))]
        by_cases h2 : a.i = b.i
        · rw [if_pos (sgn_zero.2 h2)] at h
          by_cases k2 : b.i = d.i
          · rw [if_pos (sgn_zero.2 k2)] at k
            rw [if_pos (sgn_zero.2 (h2.trans k2))]; exact tot_cmpB.trans _ _ _ h k
          · rw [if_neg (fun e => k2 (sgn_zero.1 e))] at k
            rw [h2, if_neg (fun e => k2 (sgn_zero.1 e))]; exact k
        · rw [if_neg (fun e => h2 (sgn_zero.1 e))] at h
          by_cases k2 : b.i = d.i
          · rw [← k2, if_neg (fun e => h2 (sgn_zero.1 e))]; exact h
          · rw [if_neg (fun e => k2 (sgn_zero.1 e))] at k
            have := tot_sgn.trans _ _ _ h k
            rw [if_neg (by omega)]; exact this
      · rw [if_neg (fun e => k1 (sgn_zero.1 e))] at k
        rw [h1, if_neg (fun e => k1 (sgn_zero.1 e))]; exact k
    · rw [if_neg (fun e => h1 (sgn_zero.1 e))] at h
      by_cases k1 : b.k = d.k
      · rw [← k1, if_neg (fun e => h1 (sgn_zero.1 e))]; exact h
      · rw [if_neg (fun e => k1 (sgn_zero.1 e))] at k
        have := tot_sgn.trans _ _ _ h k
        rw [if_neg (by omega)]; exact this
theorem cmpL_lex : ∀ a b, cmpL a b = lexI cmpV a b
  | [], [] => rfl
  | [], y :: ys => rfl
  | x :: xs, [] => rfl
  | x :: xs, y :: ys => by simp only [cmpL, lexI, cmpL_lex xs ys]
theorem tot_cmpL : Tot cmpL := by
  have : cmpL = lexI cmpV := by funext a b; exact cmpL_lex a b
  rw [this]; exact tot_lexI tot_cmpV

/-! ### Sorted lists -/
def Lt (k : Int) (s t : R) : Prop := cmpL (keyR s k) (keyR t k) < 0
def Srt (k : Int) (l : List R) : Prop := l.Pairwise (Lt k)

theorem findI_app {c : R → Int} : ∀ {A B : List R}, (∀ s ∈ A, c s < 0) → (∀ t, B.head? = some t → 0 ≤ c t) → findI c (A ++ B) = A.length
  | [], [], _, _ => rfl
  | [], t :: B, _, h => by
    have := h t rfl
    simp only [List.nil_append, findI, List.length_nil]; rw [if_neg (by omega)]
  | a :: A, B, ha, hb => by
    simp only [List.cons_append, findI, List.length_cons]
    rw [if_pos (ha a List.mem_cons_self), findI_app (fun s hs => ha s (List.mem_cons_of_mem _ hs)) hb]
theorem isAt_app {c : R → Int} {A B : List R} (ha : ∀ s ∈ A, c s < 0) (hb : ∀ t, B.head? = some t → 0 ≤ c t) : isAt c (A ++ B) = match B with
    | t :: _ => c t == 0
    | [] => false := by
  unfold isAt
  rw [findI_app ha hb]
  cases B with
  | nil => simp
  | cons t B => simp

/-- A sorted list, parted at a key. -/
theorem srt_split {k : Int} {l : List R} (h : Srt k l) (q : List V) : ∃ A B, l = A ++ B ∧ (∀ s ∈ A, cmpK k q s < 0) ∧ (∀ t, B.head? = some t → 0 ≤ cmpK k q t) ∧ (∀ t B', B = t :: B' → ∀ s ∈ B', 0 < cmpK k q s) := by
  induction l with
  | nil => exact ⟨[], [], rfl, by simp, by simp, by simp⟩
  | cons r l ih =>
    have h := List.pairwise_cons.1 h
    obtain ⟨h1, h2⟩ := h
    by_cases hr : cmpK k q r < 0
    · obtain ⟨A, B, e, g1, g2, g3⟩ := ih h2
      refine ⟨r :: A, B, by rw [e]; rfl, fun s hs => ?_, g2, g3⟩
      rcases List.mem_cons.1 hs with rfl | hs
      · exact hr
      · exact g1 s hs
    · refine ⟨[], r :: l, rfl, by simp, fun t ht => ?_, fun t B' e s hs => ?_⟩
      · simp only [List.head?_cons, Option.some.injEq] at ht
        subst ht; omega
      · injection e with e1 e2
        subst e1; subst e2
        have hlt := h1 s hs
        show 0 < cmpL (keyR s k) q
        have hr' : ¬ cmpL (keyR r k) q < 0 := hr
        rcases Int.lt_or_le 0 (cmpL (keyR r k) q) with h0 | h0
        · have a1 := tot_cmpL.anti' _ _ h0
          have := tot_cmpL.trans _ _ _ a1 hlt
          exact tot_cmpL.anti _ _ this
        · have : keyR r k = q := tot_cmpL.eq _ _ (by omega)
          rw [← this]
          exact tot_cmpL.anti _ _ hlt

theorem mono_srt {k : Int} {l : List R} (h : Srt k l) (q : List V) : Mono (cmpK k q) l := by
  intro s t hs ht hst hneg
  rcases Nat.lt_or_ge s t with hlt | hge
  · have := (List.pairwise_iff_getElem.1 h) s t hs ht hlt
    exact tot_cmpL.trans _ _ _ this hneg
  · have : s = t := by omega
    subst this; exact hneg

/-- All rows have three cells. -/
def Neat (l : List R) : Prop := ∀ r ∈ l, r.neat

theorem putI_neat {k : Int} {l : List R} {r : R} (hl : Neat l) (hr : r.neat) (hk : k ≤ 3) :
    putI k l r = (l.take (findI (cmpK k (keyR r k)) l) ++ r :: l.drop (if isAt (cmpK k (keyR r k)) l = true then findI (cmpK k (keyR r k)) l + 1 else findI (cmpK k (keyR r k)) l), 0) := by
  unfold putI
  rw [if_neg]
  rintro (h | ⟨h1, h2⟩)
  · rw [hr.cells] at h; omega
  · obtain ⟨r0, hr0⟩ : ∃ r0, l[0]? = some r0 := ⟨l[0], by simp [h1]⟩
    refine h2 r0 hr0 ?_
    rw [hr.cells, (hl r0 (List.mem_of_getElem? hr0)).cells]

theorem put_new {k : Int} {A B : List R} {r : R} (hl : Neat (A ++ B)) (hr : r.neat) (hk : k ≤ 3) (ha : ∀ s ∈ A, cmpK k (keyR r k) s < 0) (hb : ∀ s ∈ B, 0 < cmpK k (keyR r k) s) :
    findI (cmpK k (keyR r k)) (A ++ B) = A.length ∧ isAt (cmpK k (keyR r k)) (A ++ B) = false ∧ putI k (A ++ B) r = (A ++ r :: B, 0) := by
  have hb' : ∀ t, B.head? = some t → 0 ≤ cmpK k (keyR r k) t := fun t ht => by
    have := hb t (List.mem_of_mem_head? ht); omega
  have h1 := findI_app ha hb'
  have h2 : isAt (cmpK k (keyR r k)) (A ++ B) = false := by
    rw [isAt_app ha hb']
    cases B with
    | nil => rfl
    | cons t B => have := hb t List.mem_cons_self; simp; omega
  refine ⟨h1, h2, ?_⟩
  rw [putI_neat hl hr hk, h1, h2]
  simp
theorem put_old {k : Int} {A B : List R} {r t : R} (hl : Neat (A ++ t :: B)) (hr : r.neat) (hk : k ≤ 3) (ha : ∀ s ∈ A, cmpK k (keyR r k) s < 0) (ht : cmpK k (keyR r k) t = 0) :
    findI (cmpK k (keyR r k)) (A ++ t :: B) = A.length ∧ isAt (cmpK k (keyR r k)) (A ++ t :: B) = true ∧ putI k (A ++ t :: B) r = (A ++ r :: B, 0) := by
  have hb' : ∀ s, (t :: B).head? = some s → 0 ≤ cmpK k (keyR r k) s := fun s hs => by
    simp at hs; subst hs; omega
  have h1 := findI_app ha hb'
  have h2 : isAt (cmpK k (keyR r k)) (A ++ t :: B) = true := by
    rw [isAt_app ha hb']; simp [ht]
  refine ⟨h1, h2, ?_⟩
  rw [putI_neat hl hr hk, h1, h2]
  simp
theorem del_at {k : Int} {A B : List R} {t : R} (ha : ∀ s ∈ A, Lt k s t) : delI k (A ++ t :: B) (keyR t k) = (A ++ B, 0) := by
  have hb' : ∀ s, (t :: B).head? = some s → 0 ≤ cmpK k (keyR t k) s := fun s hs => by
    simp at hs; subst hs
    have : cmpK k (keyR t k) t = 0 := tot_cmpL.refl _
    omega
  have ha' : ∀ s ∈ A, cmpK k (keyR t k) s < 0 := ha
  unfold delI
  rw [isAt_app ha' hb', findI_app ha' hb']
  have : cmpK k (keyR t k) t = 0 := tot_cmpL.refl _
  simp [this]

theorem srt_mid {k : Int} {A B : List R} {r : R} : Srt k (A ++ r :: B) ↔ Srt k A ∧ Srt k B ∧ (∀ s ∈ A, Lt k s r) ∧ (∀ s ∈ B, Lt k r s) ∧ (∀ s ∈ A, ∀ t ∈ B, Lt k s t) := by
  unfold Srt
  rw [List.pairwise_append, List.pairwise_cons]
  constructor
  · rintro ⟨h1, ⟨h2, h3⟩, h4⟩
    exact ⟨h1, h3, fun s hs => h4 s hs r List.mem_cons_self, h2, fun s hs t ht => h4 s hs t (List.mem_cons_of_mem _ ht)⟩
  · rintro ⟨h1, h2, h3, h4, h5⟩
    refine ⟨h1, ⟨h4, h2⟩, fun s hs t ht => ?_⟩
    rcases List.mem_cons.1 ht with rfl | ht
    · exact h3 s hs
    · exact h5 s hs t ht
theorem srt_cut {k : Int} {A B : List R} {r : R} (h : Srt k (A ++ r :: B)) : Srt k (A ++ B) := by
  obtain ⟨h1, h2, _, _, h5⟩ := srt_mid.1 h
  exact List.pairwise_append.2 ⟨h1, h2, h5⟩

/-- What a row that is put comes to: one of two. -/
theorem put_cases {k : Int} {l : List R} {r : R} (hs : Srt k l) (hl : Neat l) (hr : r.neat) (hk : k ≤ 3) :
    (∃ A B, l = A ++ B ∧ findI (cmpK k (keyR r k)) l = A.length ∧ isAt (cmpK k (keyR r k)) l = false ∧ putI k l r = (A ++ r :: B, 0) ∧ Srt k (A ++ r :: B)) ∨
    (∃ A t B, l = A ++ t :: B ∧ findI (cmpK k (keyR r k)) l = A.length ∧ isAt (cmpK k (keyR r k)) l = true ∧ putI k l r = (A ++ r :: B, 0) ∧ Srt k (A ++ r :: B)) := by
  obtain ⟨A, B, rfl, g1, g2, g3⟩ := srt_split hs (keyR r k)
  have new : (∀ s ∈ B, 0 < cmpK k (keyR r k) s) → (∃ A' B', A ++ B = A' ++ B' ∧ findI (cmpK k (keyR r k)) (A ++ B) = A'.length ∧ isAt (cmpK k (keyR r k)) (A ++ B) = false ∧ putI k (A ++ B) r = (A' ++ r :: B', 0) ∧ Srt k (A' ++ r :: B')) := fun hb => by
    obtain ⟨e1, e2, e3⟩ := put_new hl hr hk g1 hb
    have hp := List.pairwise_append.1 hs
    exact ⟨A, B, rfl, e1, e2, e3, srt_mid.2 ⟨hp.1, hp.2.1, g1, fun s hs => tot_cmpL.anti' _ _ (hb s hs), hp.2.2⟩⟩
  cases B with
  | nil => exact .inl (new (by simp))
  | cons t B =>
    have ht := g2 t rfl
    rcases Int.lt_or_le 0 (cmpK k (keyR r k) t) with h0 | h0
    · refine .inl (new fun s hs => ?_)
      rcases List.mem_cons.1 hs with rfl | hs
      · exact h0
      · exact g3 t B rfl s hs
    · have h0 : cmpK k (keyR r k) t = 0 := by omega
      obtain ⟨e1, e2, e3⟩ := put_old hl hr hk g1 h0
      obtain ⟨q1, q2, q3, q4, q5⟩ := srt_mid.1 hs
      exact .inr ⟨A, t, B, rfl, e1, e2, e3, srt_mid.2 ⟨q1, q2, g1, fun s hs => tot_cmpL.anti' _ _ (g3 t B rfl s hs), q5⟩⟩

theorem neat_add1 {k : Int} {l : List R} {r : R} (hl : Neat l) (hr : r.neat) : Neat (add1 k l r) := fun s hs => by
  rcases add1_mem s hs with hs | rfl
  · exact hl s hs
  · exact hr
theorem srt_add1 {k : Int} {l : List R} {r : R} (hs : Srt k l) (hl : Neat l) (hr : r.neat) (hk : k ≤ 3) : Srt k (add1 k l r) := by
  unfold add1
  split
  · exact hs
  · rcases put_cases hs hl hr hk with ⟨A, B, _, _, _, e, h⟩ | ⟨A, t, B, _, _, _, e, h⟩ <;> (rw [e]; exact h)
theorem made_ok {k : Int} (hk : k ≤ 3) : ∀ (rs acc : List R), Neat rs → Neat acc → Srt k acc → Neat (addAll k acc rs) ∧ Srt k (addAll k acc rs) ∧ (addAll k acc rs).length ≤ acc.length + rs.length
  | [], acc, _, h2, h3 => ⟨h2, h3, by simp [addAll]⟩
  | r :: rs, acc, h1, h2, h3 => by
    have hr := h1 r List.mem_cons_self
    obtain ⟨g1, g2, g3⟩ := made_ok hk rs (add1 k acc r) (fun s hs => h1 s (List.mem_cons_of_mem _ hs)) (neat_add1 h2 hr) (srt_add1 h3 h2 hr hk)
    refine ⟨g1, g2, ?_⟩
    have := @add1_len k acc r
    simp only [addAll, List.length_cons]; omega
theorem made_is {x : List B4} {k : Int} (hx : ∀ b ∈ x, b.ok) (hk : k ≤ 3) : Neat (made x k) ∧ Srt k (made x k) ∧ (made x k).length ≤ 12 := by
  obtain ⟨g1, g2, g3⟩ := made_ok hk ((x.take 12).map rowOf) [] (fun r hr => by
    obtain ⟨b, hb, rfl⟩ := List.mem_map.1 hr
    exact (rowOf_is (hx b (List.mem_of_mem_take hb))).1) (by intro r hr; cases hr) List.Pairwise.nil
  refine ⟨g1, g2, ?_⟩
  have : ((x.take 12).map rowOf).length ≤ 12 := by simp; omega
  unfold made
  simp only [List.length_nil] at g3; omega

theorem valid_srt {k : Int} {l : List R} (hl : Neat l) (hs : Srt k l) (h1 : 1 ≤ k) (h3 : k ≤ 3) : validR l k = true := by
  rw [validR_true fun t ht => ?_]
  · simpa using h1
  · rw [rowOk_at ht]
    have c1 := (hl l[t] (List.getElem_mem ht)).cells
    have c2 := (hl (l[0]'(by omega)) (List.getElem_mem _)).cells
    rw [c1, c2]
    have : ordAt l k t = true := by
      cases t with
      | zero => rfl
      | succ t =>
        have := (List.pairwise_iff_getElem.1 hs) t (t + 1) (by omega) ht (by omega)
        simp only [ordAt, List.getElem?_eq_getElem ht, List.getElem?_eq_getElem (show t < l.length by omega)]
        exact decide_eq_true this
    simp [this]; omega
end Go.Proofs.Ytcmgfnhlnefchaa
