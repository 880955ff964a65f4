/-
  What the function that makes lists of rows out of bytes comes to.
-/
import Derived.Test.YtcmgfnhlnefchaaF12
namespace Go.Proofs.Ytcmgfnhlnefchaa
open Go.Den
set_option linter.unusedVariables false
set_option linter.unusedSimpArgs false

structure B4 where
  b0 : Int
  b1 : Int
  b2 : Int
  b3 : Int
def eB (b : B4) : List AV := [aU b.b0, aU b.b1, aU b.b2, aU b.b3]
def B4.ok (b : B4) : Prop := 0 ≤ b.b1 ∧ b.b1 < 256
abbrev dB (l : List B4) : AV := .d false 4 (l.map eB)
@[simp] theorem len_eB (b : B4) : (eB b).length = 4 := rfl
@[simp] theorem take_eB (b : B4) : (eB b).take 4 = eB b := rfl

@[simp] theorem frz_eB {ob : Den.Id → Option Ob} {d : Nat} (hd : 0 < d) (r : B4) : mapO (frzA ob d) (eB r) = some (eB r) := frz_plain0 hd rfl
@[simp] theorem ids_eB {ob : Den.Id → Option Ob} {d : Nat} (hd : 0 < d) (r : B4) : catO (idsA ob d) (eB r) = some [] := ids_plain0 hd rfl
def RowOf (b : B4) (r : R) : Prop := r.neat ∧ PCall Try.prog 8 [.g (eB b)] (.g (eR r))
open Classical in
noncomputable def rowOf (b : B4) : R := if h : ∃ r, RowOf b r then h.choose else ⟨[], [], []⟩
theorem rowOf_is {b : B4} (h : b.ok) : RowOf b (rowOf b) := by
  have e := ex8 b.b0 b.b1 b.b2 b.b3 h.1 h.2
  have e : ∃ r, RowOf b r := e
  unfold rowOf
  rw [dif_pos e]
  exact e.choose_spec

theorem R.neat.ok {r : R} (h : r.neat) : r.ok := ⟨by rw [h.cells]; decide, fun c hc => by have := h.small c hc; show c.v.s.size < _; exact Nat.lt_of_le_of_lt this (by decide)⟩
theorem R.neat.fit {r : R} (h : r.neat) : r.fit := ⟨by rw [h.cells]; decide, Nat.le_trans h.shares (by decide), Nat.le_trans h.tags (by decide)⟩

/-- One row more, if its key is new. -/
def add1 (k : Int) (l : List R) (r : R) : List R := if isAt (cmpK k (keyR r k)) l = true then l else (putI k l r).1
def addAll (k : Int) : List R → List R → List R
  | acc, [] => acc
  | acc, r :: rs => addAll k (add1 k acc r) rs
noncomputable def made (x : List B4) (k : Int) : List R := addAll k [] ((x.take 12).map rowOf)

theorem putI_mem {k : Int} {l : List R} {r : R} : ∀ s ∈ (putI k l r).1, s ∈ l ∨ s = r := by
  intro s hs
  unfold putI at hs
  split at hs
  · simp at hs
  · simp only [List.mem_append, List.mem_cons] at hs
    rcases hs with hs | rfl | hs
    · exact .inl (List.mem_of_mem_take hs)
    · exact .inr rfl
    · exact .inl (List.mem_of_mem_drop hs)
theorem putI_len {k : Int} {l : List R} {r : R} : (putI k l r).1.length ≤ l.length + 1 := by
  unfold putI
  split
  · simp
  · have := findI_le (cmpK k (keyR r k)) l
    simp only [List.length_append, List.length_take, List.length_cons, List.length_drop]
    split <;> omega
theorem add1_mem {k : Int} {l : List R} {r : R} : ∀ s ∈ add1 k l r, s ∈ l ∨ s = r := by
  intro s hs
  unfold add1 at hs
  split at hs
  · exact .inl hs
  · exact putI_mem s hs
theorem add1_len {k : Int} {l : List R} {r : R} : (add1 k l r).length ≤ l.length + 1 := by
  unfold add1
  split
  · omega
  · exact putI_len

theorem drop_take_cons {α : Type} {x : List α} {i n : Nat} (h : i < x.length) (hn : i < n) : (x.take n).drop i = x[i] :: (x.take n).drop (i + 1) := by
  rw [List.drop_eq_getElem_cons (by simp; omega)]
  simp

set_option maxHeartbeats 2000000 in
theorem step7 (x : List B4) (k : Int) (hx : ∀ b ∈ x, b.ok) (hk : k ≤ 3) : PCall Try.prog 7 [dB x, aI k] (dR (made x k)) := by
  refine pcall_of_dwp mixed fn7 (by simp) (init_run fun ob ct _ => ?_)
  simp only [List.zipIdx_cons, List.zipIdx_nil, List.map_cons, List.map_nil]
  unfold ac7
  first | refine run_reg_seq (st' := ?_) ?_ ?_ | refine run_assoc (run_reg_seq (st' := ?_) ?_ ?_) | refine run_reg (st' := ?_) ?_ ?_
  rotate_left 1
  · intro hf K hK; simp [live7, g7_0]; first | exact hK | ((repeat' apply And.intro) <;> first | exact hK | omega)
  first | refine run_reg_seq (st' := ?_) ?_ ?_ | refine run_assoc (run_reg_seq (st' := ?_) ?_ ?_) | refine run_reg (st' := ?_) ?_ ?_
  rotate_left 1
  · intro hf K hK; simp [live7, g7_1]; first | exact hK | ((repeat' apply And.intro) <;> first | exact hK | omega)
  first | refine run_reg_seq (st' := ?_) ?_ ?_ | refine run_assoc (run_reg_seq (st' := ?_) ?_ ?_) | refine run_reg (st' := ?_) ?_ ?_
  rotate_left 1
  · intro hf K hK; simp [live7, g7_2]; first | exact hK | ((repeat' apply And.intro) <;> first | exact hK | omega)
  first | refine run_block (run_loop fun I hI => ?_) | refine run_seq (run_block (run_loop fun I hI => ?_)) | refine run_loop fun I hI => ?_ | refine run_seq (run_loop fun I hI => ?_)
  have key : ∀ (m i : Nat) (acc : List R) (x4 x7 x16 x31 : AV) (ob : Den.Id → Option Ob) (ct : Nat → Nat), i + m = min x.length 12 → acc.length ≤ i → (∀ r ∈ acc, r.neat) → addAll k acc (((x.take 12).drop i).map rowOf) = made x k →
      I (St.of [(0, dB x), (1, aI k), (4, x4), (5, dR acc), (6, aI i), (7, x7), (16, x16), (31, x31)] ob ct) := by
    intro m
    induction m with
    | zero =>
      intro i acc x4 x7 x16 x31 ob ct hi hlen hacc hm
      have hacc2 : acc = made x k := by
        rw [← hm, List.drop_eq_nil_of_le (by simp; omega)]; rfl
      refine hI _ ?_
      by_cases h1 : i < x.length
      · have h2 : ¬ i < 12 := by omega
        have h2' : ¬ (i : Int) < 12 := by omega
        first | refine run_reg_seq (st' := ?_) ?_ ?_ | refine run_assoc (run_reg_seq (st' := ?_) ?_ ?_) | refine run_reg (st' := ?_) ?_ ?_
        rotate_left 1
        · intro hf K hK; simp [live7, g7_3, binV, h1, h2']; first | exact hK | ((repeat' apply And.intro) <;> first | exact hK | omega)
        first | refine run_cond_seq (b := false) (by simp []) (fun h => by cases h) (fun _ => ?_) | refine run_assoc (run_cond_seq (b := false) (by simp []) (fun h => by cases h) (fun _ => ?_)) | refine run_cond (b := false) (by simp []) (fun h => by cases h) (fun _ => ?_)
        try refine run_skip_seq ?_
        try refine run_exit_seq ?_
        first | refine run_reg_seq (st' := ?_) ?_ ?_ | refine run_assoc (run_reg_seq (st' := ?_) ?_ ?_) | refine run_reg (st' := ?_) ?_ ?_
        rotate_left 1
        · intro hf K hK; simp [live7, g7_8]; first | exact hK | ((repeat' apply And.intro) <;> first | exact hK | omega)
        simp [Kret, dwp, Kseq, retA, res7, mapO, catO, resA, frzA, idsA, oneOf, hacc2]
      · first | refine run_reg_seq (st' := ?_) ?_ ?_ | refine run_assoc (run_reg_seq (st' := ?_) ?_ ?_) | refine run_reg (st' := ?_) ?_ ?_
        rotate_left 1
        · intro hf K hK; simp [live7, g7_3, binV, h1]; first | exact hK | ((repeat' apply And.intro) <;> first | exact hK | omega)
        first | refine run_cond_seq (b := false) (by simp []) (fun h => by cases h) (fun _ => ?_) | refine run_assoc (run_cond_seq (b := false) (by simp []) (fun h => by cases h) (fun _ => ?_)) | refine run_cond (b := false) (by simp []) (fun h => by cases h) (fun _ => ?_)
        try refine run_skip_seq ?_
        try refine run_exit_seq ?_
        first | refine run_reg_seq (st' := ?_) ?_ ?_ | refine run_assoc (run_reg_seq (st' := ?_) ?_ ?_) | refine run_reg (st' := ?_) ?_ ?_
        rotate_left 1
        · intro hf K hK; simp [live7, g7_8]; first | exact hK | ((repeat' apply And.intro) <;> first | exact hK | omega)
        simp [Kret, dwp, Kseq, retA, res7, mapO, catO, resA, frzA, idsA, oneOf, hacc2]
    | succ m ih =>
      intro i acc x4 x7 x16 x31 ob ct hi hlen hacc hm
      have h1 : i < x.length := by omega
      have h2 : (i : Int) < 12 := by omega
      obtain ⟨hr, hp⟩ := rowOf_is (hx x[i] (List.getElem_mem h1))
      rw [drop_take_cons h1 (by omega), List.map_cons] at hm
      generalize rowOf x[i] = r at hr hp hm
      refine hI _ ?_
      first | refine run_reg_seq (st' := ?_) ?_ ?_ | refine run_assoc (run_reg_seq (st' := ?_) ?_ ?_) | refine run_reg (st' := ?_) ?_ ?_
      rotate_left 1
      · intro hf K hK; simp [live7, g7_3, binV, h1, h2]; first | exact hK | ((repeat' apply And.intro) <;> first | exact hK | omega)
      first | refine run_cond_seq (b := true) (by simp []) (fun _ => ?_) (fun h => by cases h) | refine run_assoc (run_cond_seq (b := true) (by simp []) (fun _ => ?_) (fun h => by cases h)) | refine run_cond (b := true) (by simp []) (fun _ => ?_) (fun h => by cases h)
      try refine run_skip_seq ?_
      try refine run_exit_seq ?_
      refine run_seq ?_
      first | refine run_block ?_ | refine run_seq (run_block ?_) | refine run_assoc (run_seq (run_block ?_))
      first | refine run_reg_seq (st' := ?_) ?_ ?_ | refine run_assoc (run_reg_seq (st' := ?_) ?_ ?_) | refine run_reg (st' := ?_) ?_ ?_
      rotate_left 1
      · intro hf K hK; simp [live7, g7_4, h1]
        refine .inl (callW_of0 (hp) [] (by simp [mapO, catO, frzA, h1]) (by simp [mapO, catO, idsA, h1]) ?_)
        simp [live7, g7_4, h1]; first | exact hK | ((repeat' apply And.intro) <;> first | exact hK | omega)
      first | refine run_reg_seq (st' := ?_) ?_ ?_ | refine run_assoc (run_reg_seq (st' := ?_) ?_ ?_) | refine run_reg (st' := ?_) ?_ ?_
      rotate_left 1
      · intro hf K hK; simp [live7, g7_5]
        refine .inl (callW_of0 (step9 r k hr.ok.1) [] (by simp [mapO, catO, frzA]) (by simp [mapO, catO, idsA]) ?_)
        simp [live7, g7_5]
        refine .inl (callW_of0 (step26 acc (keyR r k) k (by omega) (fun s hs => (hacc s hs).ok) (keyR_len _ _ hr.ok.1) (keyR_ok hr.ok k)) [] (by simp [mapO, catO, frzA]) (by simp [mapO, catO, idsA]) ?_)
        simp [live7, g7_5]
        first | exact hK | ((repeat' apply And.intro) <;> first | exact hK | omega)
      have hstep : ∀ (x4 x7 x16 x31 : AV) (ob : Den.Id → Option Ob) (ct : Nat → Nat), I (St.of [(0, dB x), (1, aI k), (4, x4), (5, dR (add1 k acc r)), (6, aI ((i + 1 : Nat) : Int)), (7, x7), (16, x16), (31, x31)] ob ct) := by
        intro x4 x7 x16 x31 ob ct
        refine ih (i + 1) _ _ _ _ _ _ _ (by omega) (by have := @add1_len k acc r; omega) (fun s hs => ?_) hm
        rcases add1_mem s hs with hs | rfl
        · exact hacc s hs
        · exact hr
      by_cases hat : isAt (cmpK k (keyR r k)) acc = true
      · first | refine run_cond_seq (b := false) (by simp [hat]) (fun h => by cases h) (fun _ => ?_) | refine run_assoc (run_cond_seq (b := false) (by simp [hat]) (fun h => by cases h) (fun _ => ?_)) | refine run_cond (b := false) (by simp [hat]) (fun h => by cases h) (fun _ => ?_)
        try refine run_skip_seq ?_
        try refine run_exit_seq ?_
        first | refine run_reg_seq (st' := ?_) ?_ ?_ | refine run_assoc (run_reg_seq (st' := ?_) ?_ ?_) | refine run_reg (st' := ?_) ?_ ?_
        rotate_left 1
        · intro hf K hK; simp [live7, g7_7, binV]; first | exact hK | ((repeat' apply And.intro) <;> first | exact hK | omega)
        rw [wrap_succ (by omega)]
        have := hstep
        rw [add1, if_pos hat] at this
        exact this _ _ _ _ _ _
      · first | refine run_cond_seq (b := true) (by simp [hat]) (fun _ => ?_) (fun h => by cases h) | refine run_assoc (run_cond_seq (b := true) (by simp [hat]) (fun _ => ?_) (fun h => by cases h)) | refine run_cond (b := true) (by simp [hat]) (fun _ => ?_) (fun h => by cases h)
        try refine run_skip_seq ?_
        try refine run_exit_seq ?_
        first | refine run_reg_seq (st' := ?_) ?_ ?_ | refine run_assoc (run_reg_seq (st' := ?_) ?_ ?_) | refine run_reg (st' := ?_) ?_ ?_
        rotate_left 1
        · intro hf K hK; simp [live7, g7_6]
          refine .inl (callW_of0 (step27 acc r k (by omega) (fun s hs => (hacc s hs).ok) hr.ok) [] (by simp [mapO, catO, frzA]) (by simp [mapO, catO, idsA]) ?_)
          simp [live7, g7_6]; first | exact hK | ((repeat' apply And.intro) <;> first | exact hK | omega)
        first | refine run_reg_seq (st' := ?_) ?_ ?_ | refine run_assoc (run_reg_seq (st' := ?_) ?_ ?_) | refine run_reg (st' := ?_) ?_ ?_
        rotate_left 1
        · intro hf K hK; simp [live7, g7_7, binV]; first | exact hK | ((repeat' apply And.intro) <;> first | exact hK | omega)
        rw [wrap_succ (by omega)]
        have := hstep
        rw [add1, if_neg hat] at this
        exact this _ _ _ _ _ _
  have hi0 : ∀ i : Nat, True := fun _ => trivial
  cases x with
  | nil =>
    refine hI _ ?_
    first | refine run_reg_seq (st' := ?_) ?_ ?_ | refine run_assoc (run_reg_seq (st' := ?_) ?_ ?_) | refine run_reg (st' := ?_) ?_ ?_
    rotate_left 1
    · intro hf K hK; simp [live7, g7_3, binV]; first | exact hK | ((repeat' apply And.intro) <;> first | exact hK | omega)
    first | refine run_cond_seq (b := false) (by simp []) (fun h => by cases h) (fun _ => ?_) | refine run_assoc (run_cond_seq (b := false) (by simp []) (fun h => by cases h) (fun _ => ?_)) | refine run_cond (b := false) (by simp []) (fun h => by cases h) (fun _ => ?_)
    try refine run_skip_seq ?_
    try refine run_exit_seq ?_
    first | refine run_reg_seq (st' := ?_) ?_ ?_ | refine run_assoc (run_reg_seq (st' := ?_) ?_ ?_) | refine run_reg (st' := ?_) ?_ ?_
    rotate_left 1
    · intro hf K hK; simp [live7, g7_8]; first | exact hK | ((repeat' apply And.intro) <;> first | exact hK | omega)
    simp [Kret, dwp, Kseq, retA, res7, mapO, catO, resA, frzA, idsA, oneOf, made, addAll]
  | cons b x =>
    obtain ⟨hr, hp⟩ := rowOf_is (hx b List.mem_cons_self)
    have hm : made (b :: x) k = addAll k (add1 k [] (rowOf b)) (((((b :: x).take 12).drop 1)).map rowOf) := rfl
    generalize rowOf b = r at hr hp hm
    refine hI _ ?_
    first | refine run_reg_seq (st' := ?_) ?_ ?_ | refine run_assoc (run_reg_seq (st' := ?_) ?_ ?_) | refine run_reg (st' := ?_) ?_ ?_
    rotate_left 1
    · intro hf K hK; simp [live7, g7_3, binV]; first | exact hK | ((repeat' apply And.intro) <;> first | exact hK | omega)
    first | refine run_cond_seq (b := true) (by simp []) (fun _ => ?_) (fun h => by cases h) | refine run_assoc (run_cond_seq (b := true) (by simp []) (fun _ => ?_) (fun h => by cases h)) | refine run_cond (b := true) (by simp []) (fun _ => ?_) (fun h => by cases h)
    try refine run_skip_seq ?_
    try refine run_exit_seq ?_
    refine run_seq ?_
    first | refine run_block ?_ | refine run_seq (run_block ?_) | refine run_assoc (run_seq (run_block ?_))
    first | refine run_reg_seq (st' := ?_) ?_ ?_ | refine run_assoc (run_reg_seq (st' := ?_) ?_ ?_) | refine run_reg (st' := ?_) ?_ ?_
    rotate_left 1
    · intro hf K hK; simp [live7, g7_4]
      refine .inl (callW_of0 (hp) [] (by simp [mapO, catO, frzA]) (by simp [mapO, catO, idsA]) ?_)
      simp [live7, g7_4]; first | exact hK | ((repeat' apply And.intro) <;> first | exact hK | omega)
    first | refine run_reg_seq (st' := ?_) ?_ ?_ | refine run_assoc (run_reg_seq (st' := ?_) ?_ ?_) | refine run_reg (st' := ?_) ?_ ?_
    rotate_left 1
    · intro hf K hK; simp [live7, g7_5]
      refine .inl (callW_of0 (step9 r k hr.ok.1) [] (by simp [mapO, catO, frzA]) (by simp [mapO, catO, idsA]) ?_)
      simp [live7, g7_5]
      refine .inl (callW_of0 (step26 [] (keyR r k) k (by simp) (fun s hs => by cases hs) (keyR_len _ _ hr.ok.1) (keyR_ok hr.ok k)) [.l 8 (ct 8)] (by simp [mapO, catO, frzA]) (by simp [mapO, catO, idsA]) ?_)
      simp [live7, g7_5]
      first | exact hK | ((repeat' apply And.intro) <;> first | exact hK | omega)
    have hat : isAt (cmpK k (keyR r k)) [] = false := rfl
    first | refine run_cond_seq (b := true) (by simp [hat]) (fun _ => ?_) (fun h => by cases h) | refine run_assoc (run_cond_seq (b := true) (by simp [hat]) (fun _ => ?_) (fun h => by cases h)) | refine run_cond (b := true) (by simp [hat]) (fun _ => ?_) (fun h => by cases h)
    try refine run_skip_seq ?_
    try refine run_exit_seq ?_
    first | refine run_reg_seq (st' := ?_) ?_ ?_ | refine run_assoc (run_reg_seq (st' := ?_) ?_ ?_) | refine run_reg (st' := ?_) ?_ ?_
    rotate_left 1
    · intro hf K hK; simp [live7, g7_6]
      refine .inl (callW_of0 (step27 [] r k (by simp) (fun s hs => by cases hs) hr.ok) [.l 8 (ct 8)] (by simp [mapO, catO, frzA]) (by simp [mapO, catO, idsA]) ?_)
      simp [live7, g7_6]; first | exact hK | ((repeat' apply And.intro) <;> first | exact hK | omega)
    have w1 : IntKind.i64.wrap 1 = 1 := by decide
    first | refine run_reg_seq (st' := ?_) ?_ ?_ | refine run_assoc (run_reg_seq (st' := ?_) ?_ ?_) | refine run_reg (st' := ?_) ?_ ?_
    rotate_left 1
    · intro hf K hK; simp [live7, g7_7, binV, w1]; first | exact hK | ((repeat' apply And.intro) <;> first | exact hK | omega)
    have hadd : add1 k [] r = (putI k [] r).1 := rfl
    rw [← hadd]
    refine key (min (b :: x).length 12 - 1) 1 (add1 k [] r) _ _ _ _ _ _ (by simp; omega) (by have := @add1_len k [] r; simpa using this) (fun s hs => ?_) hm.symm
    rcases add1_mem s hs with hs | rfl
    · cases hs
    · exact hr

end Go.Proofs.Ytcmgfnhlnefchaa
