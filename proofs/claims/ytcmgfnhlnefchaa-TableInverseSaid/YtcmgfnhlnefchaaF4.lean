/-
  What the functions that look for a key come to.
-/
import Derived.Test.YtcmgfnhlnefchaaF3
namespace Go.Proofs.Ytcmgfnhlnefchaa
open Go.Den
set_option linter.unusedVariables false
set_option linter.unusedSimpArgs false

/-- The first place at which the comparison is not below zero. -/
def findI (c : R → Int) : List R → Nat
  | [] => 0
  | r :: rs => if c r < 0 then findI c rs + 1 else 0
/-- Whether it is zero there. -/
def isAt (c : R → Int) (l : List R) : Bool := match l[findI c l]? with
  | some r => c r == 0
  | none => false
theorem findI_le (c : R → Int) : ∀ l, findI c l ≤ l.length
  | [] => Nat.le_refl _
  | r :: rs => by
    simp only [findI]; split
    · simpa using findI_le c rs
    · simp
theorem findI_eq {c : R → Int} : ∀ {l : List R} {i : Nat}, i ≤ l.length → (∀ t (h : t < l.length), t < i → c l[t] < 0) → (∀ h : i < l.length, 0 ≤ c l[i]) → findI c l = i
  | [], i, h1, _, _ => by simp [findI] at *; omega
  | r :: rs, 0, _, _, h3 => by
    have := h3 (by simp)
    simp only [List.getElem_cons_zero] at this
    simp only [findI]; rw [if_neg (by omega)]
  | r :: rs, i + 1, h1, h2, h3 => by
    have h0 := h2 0 (by simp) (by omega)
    simp only [List.getElem_cons_zero] at h0
    simp only [findI]; rw [if_pos h0, findI_eq (i := i) (by simpa using h1)]
    · intro t ht hti
      have := h2 (t + 1) (by simpa using ht) (by omega)
      simpa using this
    · intro h
      have := h3 (by simpa using h)
      simpa using this
theorem isAt_of {c : R → Int} {l : List R} {i : Nat} (h : findI c l = i) : isAt c l = if h : i < l.length then c l[i] == 0 else false := by
  simp only [isAt, h]
  split
  · rename_i r hr
    obtain ⟨h1, h2⟩ := List.getElem?_eq_some_iff.1 hr
    rw [dif_pos h1, h2]
  · rename_i hr
    rw [dif_neg (by simpa using hr)]

/-- Once it is not below zero, it stays so. -/
def Mono (c : R → Int) (l : List R) : Prop := ∀ s t (hs : s < l.length) (ht : t < l.length), s ≤ t → c l[t] < 0 → c l[s] < 0

theorem wrap_u64 (n : Nat) (h : n < 18446744073709551616) : IntKind.u64.wrap (n : Int) = (n : Int) := by
  simp [IntKind.wrap, IntKind.bits, IntKind.signed]
  omega

theorem step63 (l : List R) (key : List V) (k : Int) (hl : l.length ≤ 1000000000) (hr : ∀ r ∈ l, r.cells.length ≤ 1000000000) (hk : key.length < 1000000000000) (hmono : Mono (fun r => cmpL (keyR r k) key) l) :
    PCall Try.prog 63 [dR l, dV key, .f 64 [.q [[aI k]] 1 0 0]] (.t [aI (findI (fun r => cmpL (keyR r k) key) l), aB (isAt (fun r => cmpL (keyR r k) key) l)]) := by
  refine pcall_of_dwp mixed fn63 (by simp) (init_run fun ob ct _ => ?_)
  simp only [List.zipIdx_cons, List.zipIdx_nil, List.map_cons, List.map_nil]
  unfold ac63
  have hcall : ∀ (t : Nat) (ht : t < l.length), PCall Try.prog 64 ([.g (eR l[t]), dV key] ++ [.q [[aI k]] 1 0 0]) (aI (cmpL (keyR l[t] k) key)) := fun t ht => step64 l[t] key k (hr _ (by simp)) hk
  generalize hcd : (fun r => cmpL (keyR r k) key) = c at hmono ⊢
  have hcc : ∀ r, cmpL (keyR r k) key = c r := fun r => by rw [← hcd]
  simp only [hcc] at hcall
  first | refine run_reg_seq (st' := ?_) ?_ ?_ | refine run_assoc (run_reg_seq (st' := ?_) ?_ ?_) | refine run_reg (st' := ?_) ?_ ?_
  rotate_left 1
  · intro hf K hK; simp [live63, g63_0]; exact hK
  first | refine run_reg_seq (st' := ?_) ?_ ?_ | refine run_assoc (run_reg_seq (st' := ?_) ?_ ?_) | refine run_reg (st' := ?_) ?_ ?_
  rotate_left 1
  · intro hf K hK; simp [live63, g63_1]; exact hK
  first | refine run_reg_seq (st' := ?_) ?_ ?_ | refine run_assoc (run_reg_seq (st' := ?_) ?_ ?_) | refine run_reg (st' := ?_) ?_ ?_
  rotate_left 1
  · intro hf K hK; simp [live63, g63_2]; exact hK
  first | refine run_block (run_loop fun I hI => ?_) | refine run_seq (run_block (run_loop fun I hI => ?_)) | refine run_loop fun I hI => ?_ | refine run_seq (run_loop fun I hI => ?_)
  have key : ∀ (m i j : Nat) (x y z : AV) (ob : Den.Id → Option Ob) (ct : Nat → Nat), j - i ≤ m → i ≤ j → j ≤ l.length → (∀ t (h : t < l.length), t < i → c l[t] < 0) → (∀ t (h : t < l.length), j ≤ t → 0 ≤ c l[t]) →
      I (St.of [(0, dR l), (1, dV key), (2, .f 64 [.q [[aI k]] 1 0 0]), (6, aI 0), (7, aB false), (8, aI l.length), (9, aI i), (10, aI j), (11, x), (17, y), (31, z)] ob ct) := by
    intro m
    induction m with
    | zero =>
      intro i j x y z ob ct hm hij hjl h1 h2
      have hij' : i = j := by omega
      subst hij'
      have hf := findI_eq hjl h1 fun h => h2 i h (Nat.le_refl _)
      have ha := isAt_of hf
      refine hI _ ?_
      first | refine run_reg_seq (st' := ?_) ?_ ?_ | refine run_assoc (run_reg_seq (st' := ?_) ?_ ?_) | refine run_reg (st' := ?_) ?_ ?_
      rotate_left 1
      · intro hf K hK; simp [live63, g63_3, binV]; exact hK
      first | refine run_cond_seq (b := false) (by simp []) (fun h => by cases h) (fun _ => ?_) | refine run_assoc (run_cond_seq (b := false) (by simp []) (fun h => by cases h) (fun _ => ?_)) | refine run_cond (b := false) (by simp []) (fun h => by cases h) (fun _ => ?_)
      try refine run_skip_seq ?_
      try refine run_exit_seq ?_
      by_cases hlt : i < l.length
      · rw [dif_pos hlt] at ha
        first | refine run_reg_seq (st' := ?_) ?_ ?_ | refine run_assoc (run_reg_seq (st' := ?_) ?_ ?_) | refine run_reg (st' := ?_) ?_ ?_
        rotate_left 1
        · intro hf K hK; simp [live63, g63_8, hlt, binV, eR]
          refine .inl (callW_of (hcall i hlt) [] (by simp [mapO, frzA, eR]) (by simp [catO, idsA]) ?_)
          simp [live63, g63_8, hlt, binV]; exact hK
        simp [Kret, dwp, Kseq, retA, res63, mapO, catO, resA, frzA, idsA, oneOf, hf, ha]
      · rw [dif_neg hlt] at ha
        first | refine run_reg_seq (st' := ?_) ?_ ?_ | refine run_assoc (run_reg_seq (st' := ?_) ?_ ?_) | refine run_reg (st' := ?_) ?_ ?_
        rotate_left 1
        · intro hf K hK; simp [live63, g63_8, hlt, binV]; exact hK
        simp [Kret, dwp, Kseq, retA, res63, mapO, catO, resA, frzA, idsA, oneOf, hf, ha]
    | succ m ih =>
      intro i j x y z ob ct hm hij hjl h1 h2
      by_cases hlt : i < j
      · have hadd : IntKind.i64.wrap ((i : Int) + (j : Int)) = ((i + j : Nat) : Int) := by
          have := wrap_nat (i + j) (by omega)
          simpa using this
        have hu : IntKind.u64.wrap ((i : Int) + (j : Int)) = ((i + j : Nat) : Int) := by
          have := wrap_u64 (i + j) (by omega)
          simpa using this
        have hd : IntKind.u64.wrap (((i : Int) + (j : Int)).fdiv 2) = (((i + j) / 2 : Nat) : Int) := by
          have e : ((i : Int) + (j : Int)).fdiv 2 = (((i + j) / 2 : Nat) : Int) := by
            rw [Int.fdiv_eq_ediv_of_nonneg _ (by omega)]; omega
          rw [e]; exact wrap_u64 _ (by omega)
        have hd2 : IntKind.i64.wrap (((i : Int) + (j : Int)).fdiv 2) = (((i + j) / 2 : Nat) : Int) := by
          have e : ((i : Int) + (j : Int)).fdiv 2 = (((i + j) / 2 : Nat) : Int) := by
            rw [Int.fdiv_eq_ediv_of_nonneg _ (by omega)]; omega
          rw [e]; exact wrap_nat _ (by omega)
        refine hI _ ?_
        first | refine run_reg_seq (st' := ?_) ?_ ?_ | refine run_assoc (run_reg_seq (st' := ?_) ?_ ?_) | refine run_reg (st' := ?_) ?_ ?_
        rotate_left 1
        · intro hf K hK; simp [live63, g63_3, binV, hlt]; exact hK
        first | refine run_cond_seq (b := true) (by simp []) (fun _ => ?_) (fun h => by cases h) | refine run_assoc (run_cond_seq (b := true) (by simp []) (fun _ => ?_) (fun h => by cases h)) | refine run_cond (b := true) (by simp []) (fun _ => ?_) (fun h => by cases h)
        try refine run_skip_seq ?_
        try refine run_exit_seq ?_
        first | refine run_reg_seq (st' := St.of [(0, dR l), (1, dV key), (2, .f 64 [.q [[aI k]] 1 0 0]), (6, aI 0), (7, aB false), (8, aI l.length), (9, aI i), (10, aI j), (11, aI (((i + j) / 2 : Nat) : Int)), (17, aB true), (31, z)] ob ct) ?_ ?_
        · intro hf K hK; simp [live63, g63_4, binV, hadd, hu, hd, hd2, IntKind.bits]; simpa using hK
        have hh : (i + j) / 2 < l.length := by omega
        generalize hhd : (i + j) / 2 = h at hh
        first | refine run_reg_seq (st' := ?_) ?_ ?_ | refine run_assoc (run_reg_seq (st' := ?_) ?_ ?_) | refine run_reg (st' := ?_) ?_ ?_
        rotate_left 1
        · intro hf K hK; simp [live63, g63_5, hh, binV, eR]
          refine .inl (callW_of (hcall h hh) [] (by simp [mapO, frzA, eR]) (by simp [catO, idsA]) ?_)
          simp [live63, g63_5, hh, binV]; exact hK
        by_cases hc : c l[h] < 0
        · first | refine run_cond_seq (b := true) (by simp [hc]) (fun _ => ?_) (fun h => by cases h) | refine run_assoc (run_cond_seq (b := true) (by simp [hc]) (fun _ => ?_) (fun h => by cases h)) | refine run_cond (b := true) (by simp [hc]) (fun _ => ?_) (fun h => by cases h)
          try refine run_skip_seq ?_
          try refine run_exit_seq ?_
          first | refine run_reg_seq (st' := ?_) ?_ ?_ | refine run_assoc (run_reg_seq (st' := ?_) ?_ ?_) | refine run_reg (st' := ?_) ?_ ?_
          rotate_left 1
          · intro hf K hK; simp [live63, g63_6, binV]; exact hK
          rw [wrap_succ (by omega)]
          refine ih (h + 1) j _ _ _ _ _ (by omega) (by omega) hjl (fun t ht hti => ?_) h2
          exact hmono t h ht hh (by omega) hc
        · first | refine run_cond_seq (b := false) (by simp [hc]) (fun h => by cases h) (fun _ => ?_) | refine run_assoc (run_cond_seq (b := false) (by simp [hc]) (fun h => by cases h) (fun _ => ?_)) | refine run_cond (b := false) (by simp [hc]) (fun h => by cases h) (fun _ => ?_)
          try refine run_skip_seq ?_
          try refine run_exit_seq ?_
          first | refine run_reg_seq (st' := ?_) ?_ ?_ | refine run_assoc (run_reg_seq (st' := ?_) ?_ ?_) | refine run_reg (st' := ?_) ?_ ?_
          rotate_left 1
          · intro hf K hK; simp [live63, g63_7]; exact hK
          refine ih i h _ _ _ _ _ (by omega) (by omega) (by omega) h1 (fun t ht hti => ?_)
          rcases Int.lt_or_le (c l[t]) 0 with hn | hn
          · exact absurd (hmono h t hh ht hti hn) hc
          · exact hn
      · have hij' : i = j := by omega
        subst hij'
        exact ih i i x y z ob ct (by omega) (by omega) hjl h1 h2
  exact key l.length 0 l.length _ _ _ _ _ (by omega) (by omega) (by omega) (fun t _ h => absurd h (by omega)) (fun t h h' => absurd h (by omega))

abbrev cmpK (k : Int) (key : List V) : R → Int := fun r => cmpL (keyR r k) key

theorem step42 (l : List R) (key : List V) (k : Int) (hl : l.length ≤ 1000000000) (hr : ∀ r ∈ l, r.cells.length ≤ 1000000000) (hk : key.length < 1000000000000) (hmono : Mono (cmpK k key) l) :
    PCall Try.prog 42 [dR l, aI k, dV key] (.t [aI (findI (cmpK k key) l), aB (isAt (cmpK k key) l)]) := by
  refine pcall_of_dwp mixed fn42 (by simp) (init_run fun ob ct _ => ?_)
  simp only [List.zipIdx_cons, List.zipIdx_nil, List.map_cons, List.map_nil]
  unfold ac42
  first | refine run_reg_seq (st' := ?_) ?_ ?_ | refine run_assoc (run_reg_seq (st' := ?_) ?_ ?_) | refine run_reg (st' := ?_) ?_ ?_
  rotate_left 1
  · intro hf K hK; simp [live42, g42_0]; exact hK
  first | refine run_reg_seq (st' := ?_) ?_ ?_ | refine run_assoc (run_reg_seq (st' := ?_) ?_ ?_) | refine run_reg (st' := ?_) ?_ ?_
  rotate_left 1
  · intro hf K hK; simp [live42, g42_1]
    refine .inl (callW_of0 (step63 l key k hl hr hk hmono) [.l 4 (ct 4)] (by simp [mapO, catO, frzA]) (by simp [mapO, catO, idsA]) ?_)
    simp [live42, g42_1]
    exact hK
  simp [Kret, dwp, Kseq, retA, res42, mapO, catO, resA, frzA, idsA, oneOf]

theorem step10 (l : List R) (key : List V) (k : Int) (hl : l.length ≤ 1000000000) (hr : ∀ r ∈ l, r.cells.length ≤ 1000000000) (hk : key.length < 1000000000000) (hmono : Mono (cmpK k key) l) :
    PCall Try.prog 10 [dR l, aI k, dV key] (.g [aI (findI (cmpK k key) l), aB (isAt (cmpK k key) l)]) := by
  refine pcall_of_dwp mixed fn10 (by simp) (init_run fun ob ct _ => ?_)
  simp only [List.zipIdx_cons, List.zipIdx_nil, List.map_cons, List.map_nil]
  unfold ac10
  first | refine run_reg_seq (st' := ?_) ?_ ?_ | refine run_assoc (run_reg_seq (st' := ?_) ?_ ?_) | refine run_reg (st' := ?_) ?_ ?_
  rotate_left 1
  · intro hf K hK; simp [live10, g10_0]; exact hK
  first | refine run_reg_seq (st' := ?_) ?_ ?_ | refine run_assoc (run_reg_seq (st' := ?_) ?_ ?_) | refine run_reg (st' := ?_) ?_ ?_
  rotate_left 1
  · intro hf K hK; simp [live10, g10_1]
    refine .inl (callW_of0 (step42 l key k hl hr hk hmono) [] (by simp [mapO, catO, frzA]) (by simp [mapO, catO, idsA]) ?_)
    simp [live10, g10_1]
    exact hK
  first | refine run_reg_seq (st' := ?_) ?_ ?_ | refine run_assoc (run_reg_seq (st' := ?_) ?_ ?_) | refine run_reg (st' := ?_) ?_ ?_
  rotate_left 1
  · intro hf K hK; simp [live10, g10_2]; exact hK
  simp [Kret, dwp, Kseq, retA, res10, mapO, catO, resA, frzA, idsA, oneOf]

def V.okL (l : List V) : Prop := ∀ v ∈ l, v.ok
def R.ok (r : R) : Prop := r.cells.length ≤ 1000000000 ∧ ∀ c ∈ r.cells, c.v.ok
theorem keyR_ok {r : R} (h : r.ok) (k : Int) : ∀ v ∈ keyR r k, v.ok := by
  intro v hv
  have := List.mem_of_mem_take hv
  simp only [vals, List.mem_map] at this
  obtain ⟨c, hc, rfl⟩ := this
  exact h.2 c hc

theorem step26 (l : List R) (key : List V) (k : Int) (hl : l.length ≤ 1000000000) (hr : ∀ r ∈ l, r.ok) (hk : key.length < 1000000000000) (hko : ∀ v ∈ key, v.ok) :
    PCall Try.prog 26 [dR l, aI k, dV key] (.g [aI (findI (cmpK k key) l), aB (isAt (cmpK k key) l)]) := by
  refine pcall_of_dwp mixed fn26 (by simp) (init_run fun ob ct _ => ?_)
  simp only [List.zipIdx_cons, List.zipIdx_nil, List.map_cons, List.map_nil]
  unfold ac26
  first | refine run_reg_seq (st' := ?_) ?_ ?_ | refine run_assoc (run_reg_seq (st' := ?_) ?_ ?_) | refine run_reg (st' := ?_) ?_ ?_
  rotate_left 1
  · intro hf K hK; simp [live26, g26_0]; exact hK
  first | refine run_reg_seq (st' := ?_) ?_ ?_ | refine run_assoc (run_reg_seq (st' := ?_) ?_ ?_) | refine run_reg (st' := ?_) ?_ ?_
  rotate_left 1
  · intro hf K hK; simp [live26, g26_1]; exact hK
  first | refine run_block (run_loop fun I hI => ?_) | refine run_seq (run_block (run_loop fun I hI => ?_)) | refine run_loop fun I hI => ?_ | refine run_seq (run_loop fun I hI => ?_)
  have key : ∀ (m i : Nat) (x y z : AV) (b : Den.Id) (ob : Den.Id → Option Ob) (ct : Nat → Nat), i + m = l.length → (∀ t (h : t < l.length), t < i → cmpK k key l[t] < 0) → ob b = some ⟨2, [[aI 0, aB false]], true, some 1⟩ →
      I (St.of [(0, dR l), (1, aI k), (2, dV key), (6, .p b 2 0 0), (7, aI i), (8, x), (12, y), (24, z)] ob ct) := by
    intro m
    induction m with
    | zero =>
      intro i x y z b ob ct hi h1 hb
      have hn : ¬ i < l.length := by omega
      have hf := findI_eq (by omega) h1 fun h => absurd h hn
      have ha := isAt_of hf
      rw [dif_neg hn] at ha
      refine hI _ ?_
      first | refine run_reg_seq (st' := ?_) ?_ ?_ | refine run_assoc (run_reg_seq (st' := ?_) ?_ ?_) | refine run_reg (st' := ?_) ?_ ?_
      rotate_left 1
      · intro hf K hK; simp [live26, g26_2, binV, hn]; exact hK
      first | refine run_cond_seq (b := false) (by simp []) (fun h => by cases h) (fun _ => ?_) | refine run_assoc (run_cond_seq (b := false) (by simp []) (fun h => by cases h) (fun _ => ?_)) | refine run_cond (b := false) (by simp []) (fun h => by cases h) (fun _ => ?_)
      try refine run_skip_seq ?_
      try refine run_exit_seq ?_
      first | refine run_reg_seq (st' := ?_) ?_ ?_ | refine run_assoc (run_reg_seq (st' := ?_) ?_ ?_) | refine run_reg (st' := ?_) ?_ ?_
      rotate_left 1
      · intro hf K hK; simp [live26, g26_7, hb]; exact hK
      simp [Kret, dwp, Kseq, retA, res26, mapO, catO, resA, frzA, idsA, oneOf, hf, ha, show l.length = i by omega]
    | succ m ih =>
      intro i x y z b ob ct hi h1 hb
      have hlt : i < l.length := by omega
      refine hI _ ?_
      first | refine run_reg_seq (st' := ?_) ?_ ?_ | refine run_assoc (run_reg_seq (st' := ?_) ?_ ?_) | refine run_reg (st' := ?_) ?_ ?_
      rotate_left 1
      · intro hf K hK; simp [live26, g26_2, binV, hlt]; exact hK
      first | refine run_cond_seq (b := true) (by simp []) (fun _ => ?_) (fun h => by cases h) | refine run_assoc (run_cond_seq (b := true) (by simp []) (fun _ => ?_) (fun h => by cases h)) | refine run_cond (b := true) (by simp []) (fun _ => ?_) (fun h => by cases h)
      try refine run_skip_seq ?_
      try refine run_exit_seq ?_
      refine run_seq ?_
      have ho := hr l[i] (by simp)
      first | refine run_reg_seq (st' := ?_) ?_ ?_ | refine run_assoc (run_reg_seq (st' := ?_) ?_ ?_) | refine run_reg (st' := ?_) ?_ ?_
      rotate_left 1
      · intro hf K hK; simp [live26, g26_3, hlt, eR]
        refine .inl (callW_of0 (step9 l[i] k ho.1) [] (by simp [mapO, catO, frzA, hlt, eR]) (by simp [mapO, catO, idsA, hlt, eR]) ?_)
        simp [live26, g26_3, hlt, eR]
        refine .inl (callW_of0 (step44 (keyR l[i] k) key (keyR_ok ho k) hko (keyR_len _ _ ho.1) hk) [] (by simp [mapO, catO, frzA, hlt, eR]) (by simp [mapO, catO, idsA, hlt, eR]) ?_)
        simp [live26, g26_3, hlt, eR]
        exact hK
      first | refine run_reg_seq (st' := ?_) ?_ ?_ | refine run_assoc (run_reg_seq (st' := ?_) ?_ ?_) | refine run_reg (st' := ?_) ?_ ?_
      rotate_left 1
      · intro hf K hK; simp [live26, g26_4, binV]; exact hK
      by_cases hc : cmpK k key l[i] < 0
      · first | refine run_cond_seq (b := false) (by simp [hc]) (fun h => by cases h) (fun _ => ?_) | refine run_assoc (run_cond_seq (b := false) (by simp [hc]) (fun h => by cases h) (fun _ => ?_)) | refine run_cond (b := false) (by simp [hc]) (fun h => by cases h) (fun _ => ?_)
        try refine run_skip_seq ?_
        try refine run_exit_seq ?_
        first | refine run_reg_seq (st' := ?_) ?_ ?_ | refine run_assoc (run_reg_seq (st' := ?_) ?_ ?_) | refine run_reg (st' := ?_) ?_ ?_
        rotate_left 1
        · intro hf K hK; simp [live26, g26_6, binV]; exact hK
        rw [wrap_succ (by omega)]
        refine ih (i + 1) _ _ _ _ _ _ (by omega) (fun t ht hti => ?_) hb
        rcases Nat.lt_or_ge t i with h | h
        · exact h1 t ht h
        · have : t = i := by omega
          subst this; exact hc
      · have hf := findI_eq (by omega) h1 fun _ => Int.not_lt.1 hc
        have ha := isAt_of hf
        rw [dif_pos hlt] at ha
        first | refine run_cond_seq (b := true) (by simp [hc, Int.not_lt.1 hc]) (fun _ => ?_) (fun h => by cases h) | refine run_assoc (run_cond_seq (b := true) (by simp [hc, Int.not_lt.1 hc]) (fun _ => ?_) (fun h => by cases h)) | refine run_cond (b := true) (by simp [hc, Int.not_lt.1 hc]) (fun _ => ?_) (fun h => by cases h)
        try refine run_skip_seq ?_
        try refine run_exit_seq ?_
        first | refine run_reg_seq (st' := ?_) ?_ ?_ | refine run_assoc (run_reg_seq (st' := ?_) ?_ ?_) | refine run_reg (st' := ?_) ?_ ?_
        rotate_left 1
        · intro hf K hK; simp [live26, g26_5, hb, binV]; exact hK
        simp [Kret, dwp, Kseq, retA, res26, mapO, catO, resA, frzA, idsA, oneOf, hf, ha]
  exact key l.length 0 _ _ _ _ _ _ (by omega) (fun t _ h => absurd h (by omega)) (by simp)

theorem step21 (a b : List V) (ha : ∀ v ∈ a, v.ok) (hb : ∀ v ∈ b, v.ok) (la : a.length < 1000000000000) (lb : b.length < 1000000000000) : PCall Try.prog 21 [dV a, dV b] (aB (cmpL a b == 0)) := by
  refine pcall_of_dwp mixed fn21 (by simp) (init_run fun ob ct _ => ?_)
  simp only [List.zipIdx_cons, List.zipIdx_nil, List.map_cons, List.map_nil]
  unfold ac21
  first | refine run_reg_seq (st' := ?_) ?_ ?_ | refine run_assoc (run_reg_seq (st' := ?_) ?_ ?_) | refine run_reg (st' := ?_) ?_ ?_
  rotate_left 1
  · intro hf K hK; simp [live21, g21_0]; exact hK
  first | refine run_reg_seq (st' := ?_) ?_ ?_ | refine run_assoc (run_reg_seq (st' := ?_) ?_ ?_) | refine run_reg (st' := ?_) ?_ ?_
  rotate_left 1
  · intro hf K hK; simp [live21, g21_1, binV]
    refine .inl (callW_of0 (step44 a b ha hb la lb) [] (by simp [mapO, catO, frzA, binV]) (by simp [mapO, catO, idsA, binV]) ?_)
    simp [live21, g21_1, binV]
    exact hK
  simp [Kret, dwp, Kseq, retA, res21, mapO, catO, resA, frzA, idsA, oneOf]

end Go.Proofs.Ytcmgfnhlnefchaa
