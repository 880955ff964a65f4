/-
  What the reference's functions that put and delete rows come to.
-/
import Derived.Test.YtcmgfnhlnefchaaF7
namespace Go.Proofs.Ytcmgfnhlnefchaa
open Go.Den
set_option linter.unusedVariables false
set_option linter.unusedSimpArgs false

/-- The list without the row of a key. -/
def delI (k : Int) (l : List R) (key : List V) : List R × Int := if isAt (cmpK k key) l = true then (l.take (findI (cmpK k key) l) ++ l.drop (findI (cmpK k key) l + 1), 0) else ([], 4)

theorem step28 (l : List R) (key : List V) (k : Int) (hl : l.length ≤ 1000000) (hr : ∀ r ∈ l, r.ok) (hk : key.length < 1000000000000) (hko : ∀ v ∈ key, v.ok) :
    PCall Try.prog 28 [dR l, aI k, dV key] (.g [dR (delI k l key).1, aI (delI k l key).2]) := by
  refine pcall_of_dwp mixed fn28 (by simp) (init_run fun ob ct _ => ?_)
  simp only [List.zipIdx_cons, List.zipIdx_nil, List.map_cons, List.map_nil]
  unfold ac28
  first | refine run_reg_seq (st' := ?_) ?_ ?_ | refine run_assoc (run_reg_seq (st' := ?_) ?_ ?_) | refine run_reg (st' := ?_) ?_ ?_
  rotate_left 1
  · intro hf K hK; simp [live28, g28_0]; first | exact hK | ((repeat' apply And.intro) <;> first | exact hK | omega)
  first | refine run_reg_seq (st' := ?_) ?_ ?_ | refine run_assoc (run_reg_seq (st' := ?_) ?_ ?_) | refine run_reg (st' := ?_) ?_ ?_
  rotate_left 1
  · intro hf K hK; simp [live28, g28_1]
    refine .inl (callW_of0 (step26 l key k (by omega) hr hk hko) [] (by simp [mapO, catO, frzA]) (by simp [mapO, catO, idsA]) ?_)
    simp [live28, g28_1]
    first | exact hK | ((repeat' apply And.intro) <;> first | exact hK | omega)
  first | refine run_reg_seq (st' := ?_) ?_ ?_ | refine run_assoc (run_reg_seq (st' := ?_) ?_ ?_) | refine run_reg (st' := ?_) ?_ ?_
  rotate_left 1
  · intro hf K hK; simp [live28, g28_2]; first | exact hK | ((repeat' apply And.intro) <;> first | exact hK | omega)
  by_cases h : isAt (cmpK k key) l = true
  · first | refine run_cond_seq (b := false) (by simp [h]) (fun h => by cases h) (fun _ => ?_) | refine run_assoc (run_cond_seq (b := false) (by simp [h]) (fun h => by cases h) (fun _ => ?_)) | refine run_cond (b := false) (by simp [h]) (fun h => by cases h) (fun _ => ?_)
    try refine run_skip_seq ?_
    try refine run_exit_seq ?_
    have hle := findI_le (cmpK k key) l
    have hlt : findI (cmpK k key) l < l.length := by
      rcases Nat.lt_or_ge (findI (cmpK k key) l) l.length with h' | h'
      · exact h'
      · rw [isAt_of rfl, dif_neg (by omega)] at h; cases h
    simp only [delI, if_pos h]
    generalize findI (cmpK k key) l = i at hle hlt ⊢
    have m1 : min i l.length = i := by omega
    have hs : (i : Int) ≤ (l.length : Int) := by omega
    have hs1 : (i : Int) + 1 ≤ (l.length : Int) := by omega
    have hn1 : (0 : Int) ≤ (i : Int) + 1 := by omega
    have htn : ((i : Int) + 1).toNat = i + 1 := by omega
    have hw : IntKind.i64.wrap ((i : Int) + 1) = (i : Int) + 1 := by
      have := wrap_succ (n := i) (by omega)
      simpa using this
    have q1 : i * 72 ≤ 70368744177664 := by omega
    have q2 : i ≤ 70368744177664 := by omega
    have q3 : (i + (l.length - (i + 1))) * 72 ≤ 70368744177664 := by omega
    have q4 : i + (l.length - (i + 1)) ≤ 70368744177664 := by omega
    first | refine run_drawn_seq (st' := ?_) ?_ ?_ | refine run_assoc (run_drawn_seq (st' := ?_) ?_ ?_) | refine run_drawn (st' := ?_) ?_ ?_
    rotate_left 1
    · intro hf K hK; simp [live28, g28_4, binV, m1, hs, hs1, hn1, htn, hw, hlt, hle, q1, q2, q3, q4]; first | exact hK | ((repeat' apply And.intro) <;> first | exact hK | omega)
    have p1 : plainL ((l.map eR).take i) = true := plainL_take (plainL_map plain_eR l) i
    have p2 : plainL ((l.map eR).drop (i + 1)) = true := plainL_drop (plainL_map plain_eR l) (i + 1)
    have p3 : i + (l.length - (i + 1)) = i + (l.length - (i + 1)) := rfl
    have p4 : ((l.map eR).take i ++ (l.map eR).drop (i + 1)).take (i + (l.length - (i + 1))) = (l.map eR).take i ++ (l.map eR).drop (i + 1) := List.take_of_length_le (by simp; omega)
    simp [Kret, dwp, Kseq, retA, res28, mapO, catO, resA, frzA, idsA, oneOf, m1, p1, p2, p4]
  · first | refine run_cond_seq (b := true) (by simp [h]) (fun _ => ?_) (fun h => by cases h) | refine run_assoc (run_cond_seq (b := true) (by simp [h]) (fun _ => ?_) (fun h => by cases h)) | refine run_cond (b := true) (by simp [h]) (fun _ => ?_) (fun h => by cases h)
    try refine run_skip_seq ?_
    try refine run_exit_seq ?_
    first | refine run_reg_seq (st' := ?_) ?_ ?_ | refine run_assoc (run_reg_seq (st' := ?_) ?_ ?_) | refine run_reg (st' := ?_) ?_ ?_
    rotate_left 1
    · intro hf K hK; simp [live28, g28_3]; first | exact hK | ((repeat' apply And.intro) <;> first | exact hK | omega)
    simp [Kret, dwp, Kseq, retA, res28, mapO, catO, resA, frzA, idsA, oneOf, delI, h]

/-- The list with a row. -/
def putI (k : Int) (l : List R) (r : R) : List R × Int :=
  if (r.cells.length : Int) < k ∨ (0 < l.length ∧ ∀ r0, l[0]? = some r0 → r.cells.length ≠ r0.cells.length) then ([], 140)
  else (l.take (findI (cmpK k (keyR r k)) l) ++ r :: l.drop (if isAt (cmpK k (keyR r k)) l = true then findI (cmpK k (keyR r k)) l + 1 else findI (cmpK k (keyR r k)) l), 0)

def t27 : AC := (.seq (.region g27_3 live27) (.seq (.drawn g27_4 live27) (.seq (.seq (.region g27_5 live27) (.cond (.t 47) (.region g27_6 live27) .skip)) (.seq (.region g27_7 live27) .ret))))
set_option maxHeartbeats 1000000 in
theorem step27t (l : List R) (r : R) (k : Int) (hl : l.length ≤ 1000000) (hr : ∀ r ∈ l, r.ok) (ho : r.ok) (hput : putI k l r = (l.take (findI (cmpK k (keyR r k)) l) ++ r :: l.drop (if isAt (cmpK k (keyR r k)) l = true then findI (cmpK k (keyR r k)) l + 1 else findI (cmpK k (keyR r k)) l), 0))
    (x2 x7 x8 x29 x47 : AV) (n5 n6 : Nat) (ob : Den.Id → Option Ob) (ct : Nat → Nat) (h5 : ob (.l 5 n5) = some ⟨3, [eR r], true, some 1⟩) (h6 : ob (.l 6 n6) = some ⟨2, [[.d true 3 [], aI 0]], true, some 1⟩) :
    dwp Try.prog t27 (Kret res27 (.g [dR (putI k l r).1, aI (putI k l r).2])) (St.of [(0, dR l), (1, aI k), (2, x2), (5, .p (.l 5 n5) 3 0 0), (6, .p (.l 6 n6) 2 0 0), (7, x7), (8, x8), (29, x29), (47, x47)] ob ct) := by
  rw [hput]
  unfold t27
  generalize hI : findI (cmpK k (keyR r k)) l = i
  have hle : i ≤ l.length := hI ▸ findI_le (cmpK k (keyR r k)) l
  generalize hB : isAt (cmpK k (keyR r k)) l = b
  have hbl : b = true → i < l.length := fun hb => by
    rcases Nat.lt_or_ge i l.length with h | h
    · exact h
    · rw [isAt_of hI, dif_neg (by omega)] at hB; rw [hb] at hB; cases hB
  have hc := step26 l (keyR r k) k (by omega) hr (keyR_len _ _ ho.1) (keyR_ok ho k)
  rw [hI, hB] at hc
  first | refine run_reg_seq (st' := ?_) ?_ ?_ | refine run_assoc (run_reg_seq (st' := ?_) ?_ ?_) | refine run_reg (st' := ?_) ?_ ?_
  rotate_left 1
  · intro hf K hK; simp [live27, g27_3, h5, h6]
    refine .inl (callW_of0 (step9 r k ho.1) [] (by simp [mapO, catO, frzA, h5, h6]) (by simp [mapO, catO, idsA, h5, h6]) ?_)
    simp [live27, g27_3, h5, h6]
    refine .inl (callW_of0 (hc) [] (by simp [mapO, catO, frzA, h5, h6]) (by simp [mapO, catO, idsA, h5, h6]) ?_)
    simp [live27, g27_3, h5, h6]
    first | exact hK | ((repeat' apply And.intro) <;> first | exact hK | omega)
  have m1 : min i l.length = i := by omega
  have hs : (i : Int) ≤ (l.length : Int) := by omega
  first | refine run_drawn_seq (st' := ?_) ?_ ?_ | refine run_assoc (run_drawn_seq (st' := ?_) ?_ ?_) | refine run_drawn (st' := ?_) ?_ ?_
  rotate_left 1
  · intro hf K hK; simp [live27, g27_4, h5, h6, m1, hs, hle]; first | exact hK | ((repeat' apply And.intro) <;> first | exact hK | omega)
  first | refine run_reg_seq (st' := ?_) ?_ ?_ | refine run_assoc (run_reg_seq (st' := ?_) ?_ ?_) | refine run_reg (st' := ?_) ?_ ?_
  rotate_left 1
  · intro hf K hK; simp [live27, g27_5]; first | exact hK | ((repeat' apply And.intro) <;> first | exact hK | omega)
  have p1 : plainL ((l.map eR).take i) = true := plainL_take (plainL_map plain_eR l) i
  cases b with
  | true =>
    have hlt := hbl rfl
    have hw : IntKind.i64.wrap ((i : Int) + 1) = (i : Int) + 1 := by
      have := wrap_succ (n := i) (by omega)
      simpa using this
    have hs1 : (i : Int) + 1 ≤ (l.length : Int) := by omega
    have hn1 : (0 : Int) ≤ (i : Int) + 1 := by omega
    have htn : ((i : Int) + 1).toNat = i + 1 := by omega
    first | refine run_cond_seq (b := true) (by simp []) (fun _ => ?_) (fun h => by cases h) | refine run_assoc (run_cond_seq (b := true) (by simp []) (fun _ => ?_) (fun h => by cases h)) | refine run_cond (b := true) (by simp []) (fun _ => ?_) (fun h => by cases h)
    try refine run_skip_seq ?_
    try refine run_exit_seq ?_
    first | refine run_reg_seq (st' := ?_) ?_ ?_ | refine run_assoc (run_reg_seq (st' := ?_) ?_ ?_) | refine run_reg (st' := ?_) ?_ ?_
    rotate_left 1
    · intro hf K hK; simp [live27, g27_6, binV, hw]; first | exact hK | ((repeat' apply And.intro) <;> first | exact hK | omega)
    first | refine run_reg_seq (st' := ?_) ?_ ?_ | refine run_assoc (run_reg_seq (st' := ?_) ?_ ?_) | refine run_reg (st' := ?_) ?_ ?_
    rotate_left 1
    · intro hf K hK; simp [live27, g27_7, m1, hs1, hn1, htn, h5, h6]; first | exact hK | ((repeat' apply And.intro) <;> first | exact hK | omega)
    have p2 : plainL ((l.map eR).drop (i + 1)) = true := plainL_drop (plainL_map plain_eR l) (i + 1)
    have p4 : ((l.map eR).take i ++ eR r :: (l.map eR).drop (i + 1)).take (i + 1 + (l.length - (i + 1))) = (l.map eR).take i ++ eR r :: (l.map eR).drop (i + 1) := List.take_of_length_le (by simp; omega)
    have p5 : i + 1 + (l.length - (i + 1)) ≤ i + (l.length - (i + 1) + 1) := by omega
    simp [Kret, dwp, Kseq, retA, res27, mapO, catO, resA, frzA, idsA, oneOf, m1, p1, p2, p4, p5, h5, h6]
  | false =>
    first | refine run_cond_seq (b := false) (by simp []) (fun h => by cases h) (fun _ => ?_) | refine run_assoc (run_cond_seq (b := false) (by simp []) (fun h => by cases h) (fun _ => ?_)) | refine run_cond (b := false) (by simp []) (fun h => by cases h) (fun _ => ?_)
    try refine run_skip_seq ?_
    try refine run_exit_seq ?_
    first | refine run_reg_seq (st' := ?_) ?_ ?_ | refine run_assoc (run_reg_seq (st' := ?_) ?_ ?_) | refine run_reg (st' := ?_) ?_ ?_
    rotate_left 1
    · intro hf K hK; simp [live27, g27_7, m1, hs, h5, h6]; first | exact hK | ((repeat' apply And.intro) <;> first | exact hK | omega)
    have p2 : plainL ((l.map eR).drop i) = true := plainL_drop (plainL_map plain_eR l) i
    have p4 : ((l.map eR).take i ++ eR r :: (l.map eR).drop i).take (i + 1 + (l.length - i)) = (l.map eR).take i ++ eR r :: (l.map eR).drop i := List.take_of_length_le (by simp; omega)
    have p5 : i + 1 + (l.length - i) ≤ i + (l.length - i + 1) := by omega
    simp [Kret, dwp, Kseq, retA, res27, mapO, catO, resA, frzA, idsA, oneOf, m1, p1, p2, p4, p5, h5, h6]

set_option maxHeartbeats 1000000 in
theorem step27 (l : List R) (r : R) (k : Int) (hl : l.length ≤ 1000000) (hr : ∀ r ∈ l, r.ok) (ho : r.ok) :
    PCall Try.prog 27 [dR l, aI k, .g (eR r)] (.g [dR (putI k l r).1, aI (putI k l r).2]) := by
  refine pcall_of_dwp mixed fn27 (by simp) (init_run fun ob ct _ => ?_)
  simp only [List.zipIdx_cons, List.zipIdx_nil, List.map_cons, List.map_nil]
  unfold ac27
  first | refine run_reg_seq (st' := ?_) ?_ ?_ | refine run_assoc (run_reg_seq (st' := ?_) ?_ ?_) | refine run_reg (st' := ?_) ?_ ?_
  rotate_left 1
  · intro hf K hK; simp [live27, g27_0]; first | exact hK | ((repeat' apply And.intro) <;> first | exact hK | omega)
  by_cases c1 : (r.cells.length : Int) < k
  · first | refine run_ro_seq (st' := ?_) rfl ?_ ?_ | refine run_assoc (run_ro_seq (st' := ?_) rfl ?_ ?_) | refine run_ro (st' := ?_) rfl ?_ ?_
    rotate_left 1
    · intro hf K hK; simp [live27, g27_1, binV, c1]; first | exact hK | ((repeat' apply And.intro) <;> first | exact hK | omega)
    first | refine run_cond_seq (b := true) (by simp []) (fun _ => ?_) (fun h => by cases h) | refine run_assoc (run_cond_seq (b := true) (by simp []) (fun _ => ?_) (fun h => by cases h)) | refine run_cond (b := true) (by simp []) (fun _ => ?_) (fun h => by cases h)
    try refine run_skip_seq ?_
    try refine run_exit_seq ?_
    first | refine run_reg_seq (st' := ?_) ?_ ?_ | refine run_assoc (run_reg_seq (st' := ?_) ?_ ?_) | refine run_reg (st' := ?_) ?_ ?_
    rotate_left 1
    · intro hf K hK; simp [live27, g27_2]; first | exact hK | ((repeat' apply And.intro) <;> first | exact hK | omega)
    simp [Kret, dwp, Kseq, retA, res27, mapO, catO, resA, frzA, idsA, oneOf, putI, c1]
  · cases l with
    | nil =>
      first | refine run_ro_seq (st' := ?_) rfl ?_ ?_ | refine run_assoc (run_ro_seq (st' := ?_) rfl ?_ ?_) | refine run_ro (st' := ?_) rfl ?_ ?_
      rotate_left 1
      · intro hf K hK; simp [live27, g27_1, binV, c1]; first | exact hK | ((repeat' apply And.intro) <;> first | exact hK | omega)
      first | refine run_cond_seq (b := false) (by simp []) (fun h => by cases h) (fun _ => ?_) | refine run_assoc (run_cond_seq (b := false) (by simp []) (fun h => by cases h) (fun _ => ?_)) | refine run_cond (b := false) (by simp []) (fun h => by cases h) (fun _ => ?_)
      try refine run_skip_seq ?_
      try refine run_exit_seq ?_
      exact step27t [] r k hl hr ho (by simp [putI, c1]) _ _ _ _ _ _ _ _ _ (by simp) (by simp)
    | cons r0 l =>
      by_cases c2 : r.cells.length = r0.cells.length
      · have c2' : ((r.cells.length : Int) != (r0.cells.length : Int)) = false := by rw [c2]; simp
        first | refine run_ro_seq (st' := ?_) rfl ?_ ?_ | refine run_assoc (run_ro_seq (st' := ?_) rfl ?_ ?_) | refine run_ro (st' := ?_) rfl ?_ ?_
        rotate_left 1
        · intro hf K hK; simp [live27, g27_1, binV, c1, eR, c2']; first | exact hK | ((repeat' apply And.intro) <;> first | exact hK | omega)
        first | refine run_cond_seq (b := false) (by simp []) (fun h => by cases h) (fun _ => ?_) | refine run_assoc (run_cond_seq (b := false) (by simp []) (fun h => by cases h) (fun _ => ?_)) | refine run_cond (b := false) (by simp []) (fun h => by cases h) (fun _ => ?_)
        try refine run_skip_seq ?_
        try refine run_exit_seq ?_
        exact step27t (r0 :: l) r k hl hr ho (by rw [putI, if_neg]; rintro (h | ⟨_, h⟩); exact c1 h; exact h r0 rfl c2) _ _ _ _ _ _ _ _ _ (by simp [eR]) (by simp)
      · have c2' : ((r.cells.length : Int) != (r0.cells.length : Int)) = true := by rw [bne_iff_ne]; omega
        first | refine run_ro_seq (st' := ?_) rfl ?_ ?_ | refine run_assoc (run_ro_seq (st' := ?_) rfl ?_ ?_) | refine run_ro (st' := ?_) rfl ?_ ?_
        rotate_left 1
        · intro hf K hK; simp [live27, g27_1, binV, c1, eR, c2']; first | exact hK | ((repeat' apply And.intro) <;> first | exact hK | omega)
        first | refine run_cond_seq (b := true) (by simp []) (fun _ => ?_) (fun h => by cases h) | refine run_assoc (run_cond_seq (b := true) (by simp []) (fun _ => ?_) (fun h => by cases h)) | refine run_cond (b := true) (by simp []) (fun _ => ?_) (fun h => by cases h)
        try refine run_skip_seq ?_
        try refine run_exit_seq ?_
        first | refine run_reg_seq (st' := ?_) ?_ ?_ | refine run_assoc (run_reg_seq (st' := ?_) ?_ ?_) | refine run_reg (st' := ?_) ?_ ?_
        rotate_left 1
        · intro hf K hK; simp [live27, g27_2]; first | exact hK | ((repeat' apply And.intro) <;> first | exact hK | omega)
        simp [Kret, dwp, Kseq, retA, res27, mapO, catO, resA, frzA, idsA, oneOf, putI, c1, c2]

end Go.Proofs.Ytcmgfnhlnefchaa
