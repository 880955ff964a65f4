/-
  What the table package's own comparisons come to.
-/
import Derived.Test.YtcmgfnhlnefchaaF1
namespace Go.Proofs.Ytcmgfnhlnefchaa
open Go.Den
set_option linter.unusedVariables false
set_option linter.unusedSimpArgs false

theorem step96 (a : Int) : PCall Try.prog 96 [aI a] (aB false) := by
  refine pcall_of_dwp mixed fn96 (by simp) (init_run fun ob ct _ => ?_)
  simp only [List.zipIdx_cons, List.zipIdx_nil, List.map_cons, List.map_nil]
  unfold ac96
  first | refine run_reg_seq (st' := ?_) ?_ ?_ | refine run_assoc (run_reg_seq (st' := ?_) ?_ ?_) | refine run_reg (st' := ?_) ?_ ?_
  rotate_left 1
  · intro hf K hK; simp [live96, g96_0]; exact hK
  first | refine run_reg_seq (st' := ?_) ?_ ?_ | refine run_assoc (run_reg_seq (st' := ?_) ?_ ?_) | refine run_reg (st' := ?_) ?_ ?_
  rotate_left 1
  · intro hf K hK; simp [live96, g96_1, binV]; exact hK
  simp [Kret, dwp, Kseq, retA, res96, mapO, catO, resA, frzA, idsA, oneOf]
theorem step97 (a : ByteArray) : PCall Try.prog 97 [aS a] (aB false) := by
  refine pcall_of_dwp mixed fn97 (by simp) (init_run fun ob ct _ => ?_)
  simp only [List.zipIdx_cons, List.zipIdx_nil, List.map_cons, List.map_nil]
  unfold ac97
  first | refine run_reg_seq (st' := ?_) ?_ ?_ | refine run_assoc (run_reg_seq (st' := ?_) ?_ ?_) | refine run_reg (st' := ?_) ?_ ?_
  rotate_left 1
  · intro hf K hK; simp [live97, g97_0]; exact hK
  first | refine run_reg_seq (st' := ?_) ?_ ?_ | refine run_assoc (run_reg_seq (st' := ?_) ?_ ?_) | refine run_reg (st' := ?_) ?_ ?_
  rotate_left 1
  · intro hf K hK; simp [live97, g97_1, binV]; exact hK
  simp [Kret, dwp, Kseq, retA, res97, mapO, catO, resA, frzA, idsA, oneOf]
theorem step83 (a b : Int) : PCall Try.prog 83 [aI a, aI b] (aI (sgn a b)) := by
  refine pcall_of_dwp mixed fn83 (by simp) (init_run fun ob ct _ => ?_)
  simp only [List.zipIdx_cons, List.zipIdx_nil, List.map_cons, List.map_nil]
  unfold ac83
  first | refine run_reg_seq (st' := ?_) ?_ ?_ | refine run_assoc (run_reg_seq (st' := ?_) ?_ ?_) | refine run_reg (st' := ?_) ?_ ?_
  rotate_left 1
  · intro hf K hK; simp [live83, g83_0]; exact hK
  first | refine run_reg_seq (st' := ?_) ?_ ?_ | refine run_assoc (run_reg_seq (st' := ?_) ?_ ?_) | refine run_reg (st' := ?_) ?_ ?_
  rotate_left 1
  · intro hf K hK; simp [live83, g83_1]
    refine .inl (callW_of0 (step96 a) [] (by simp [mapO, catO, frzA]) (by simp [mapO, catO, idsA]) ?_)
    simp [live83, g83_1]; exact hK
  first | refine run_reg_seq (st' := ?_) ?_ ?_ | refine run_assoc (run_reg_seq (st' := ?_) ?_ ?_) | refine run_reg (st' := ?_) ?_ ?_
  rotate_left 1
  · intro hf K hK; simp [live83, g83_2]
    refine .inl (callW_of0 (step96 b) [] (by simp [mapO, catO, frzA]) (by simp [mapO, catO, idsA]) ?_)
    simp [live83, g83_2]; exact hK
  first | refine run_reg_seq (st' := ?_) ?_ ?_ | refine run_assoc (run_reg_seq (st' := ?_) ?_ ?_) | refine run_reg (st' := ?_) ?_ ?_
  rotate_left 1
  · intro hf K hK; simp [live83, g83_3]; exact hK
  first | refine run_cond_seq (b := false) (by simp []) (fun h => by cases h) (fun _ => ?_) | refine run_assoc (run_cond_seq (b := false) (by simp []) (fun h => by cases h) (fun _ => ?_)) | refine run_cond (b := false) (by simp []) (fun h => by cases h) (fun _ => ?_)
  try refine run_skip_seq ?_
  try refine run_exit_seq ?_
  first | refine run_reg_seq (st' := ?_) ?_ ?_ | refine run_assoc (run_reg_seq (st' := ?_) ?_ ?_) | refine run_reg (st' := ?_) ?_ ?_
  rotate_left 1
  · intro hf K hK; simp [live83, g83_7]; exact hK
  first | refine run_cond_seq (b := false) (by simp []) (fun h => by cases h) (fun _ => ?_) | refine run_assoc (run_cond_seq (b := false) (by simp []) (fun h => by cases h) (fun _ => ?_)) | refine run_cond (b := false) (by simp []) (fun h => by cases h) (fun _ => ?_)
  try refine run_skip_seq ?_
  try refine run_exit_seq ?_
  first | refine run_reg_seq (st' := ?_) ?_ ?_ | refine run_assoc (run_reg_seq (st' := ?_) ?_ ?_) | refine run_reg (st' := ?_) ?_ ?_
  rotate_left 1
  · intro hf K hK; simp [live83, g83_9, binV]; exact hK
  by_cases h1 : a < b
  · first | refine run_cond_seq (b := true) (by simp [h1]) (fun _ => ?_) (fun h => by cases h) | refine run_assoc (run_cond_seq (b := true) (by simp [h1]) (fun _ => ?_) (fun h => by cases h)) | refine run_cond (b := true) (by simp [h1]) (fun _ => ?_) (fun h => by cases h)
    try refine run_skip_seq ?_
    try refine run_exit_seq ?_
    first | refine run_reg_seq (st' := ?_) ?_ ?_ | refine run_assoc (run_reg_seq (st' := ?_) ?_ ?_) | refine run_reg (st' := ?_) ?_ ?_
    rotate_left 1
    · intro hf K hK; simp [live83, g83_10]; exact hK
    simp [Kret, dwp, Kseq, retA, res83, mapO, catO, resA, frzA, idsA, oneOf, sgn, h1]
  · first | refine run_cond_seq (b := false) (by simp [h1]) (fun h => by cases h) (fun _ => ?_) | refine run_assoc (run_cond_seq (b := false) (by simp [h1]) (fun h => by cases h) (fun _ => ?_)) | refine run_cond (b := false) (by simp [h1]) (fun h => by cases h) (fun _ => ?_)
    try refine run_skip_seq ?_
    try refine run_exit_seq ?_
    first | refine run_reg_seq (st' := ?_) ?_ ?_ | refine run_assoc (run_reg_seq (st' := ?_) ?_ ?_) | refine run_reg (st' := ?_) ?_ ?_
    rotate_left 1
    · intro hf K hK; simp [live83, g83_11, binV]; exact hK
    by_cases h2 : b < a
    · first | refine run_cond_seq (b := true) (by simp [h2]) (fun _ => ?_) (fun h => by cases h) | refine run_assoc (run_cond_seq (b := true) (by simp [h2]) (fun _ => ?_) (fun h => by cases h)) | refine run_cond (b := true) (by simp [h2]) (fun _ => ?_) (fun h => by cases h)
      try refine run_skip_seq ?_
      try refine run_exit_seq ?_
      first | refine run_reg_seq (st' := ?_) ?_ ?_ | refine run_assoc (run_reg_seq (st' := ?_) ?_ ?_) | refine run_reg (st' := ?_) ?_ ?_
      rotate_left 1
      · intro hf K hK; simp [live83, g83_12]; exact hK
      simp [Kret, dwp, Kseq, retA, res83, mapO, catO, resA, frzA, idsA, oneOf, sgn, h1, h2]
    · first | refine run_cond_seq (b := false) (by simp [h2]) (fun h => by cases h) (fun _ => ?_) | refine run_assoc (run_cond_seq (b := false) (by simp [h2]) (fun h => by cases h) (fun _ => ?_)) | refine run_cond (b := false) (by simp [h2]) (fun h => by cases h) (fun _ => ?_)
      try refine run_skip_seq ?_
      try refine run_exit_seq ?_
      first | refine run_reg_seq (st' := ?_) ?_ ?_ | refine run_assoc (run_reg_seq (st' := ?_) ?_ ?_) | refine run_reg (st' := ?_) ?_ ?_
      rotate_left 1
      · intro hf K hK; simp [live83, g83_13]; exact hK
      simp [Kret, dwp, Kseq, retA, res83, mapO, catO, resA, frzA, idsA, oneOf, sgn, h1, h2]

theorem u8_sgn (x y : UInt8) : sgn x.toNat y.toNat = if x < y then -1 else if y < x then 1 else 0 := by
  simp only [sgn, UInt8.lt_iff_toNat_lt, Int.ofNat_lt]
theorem cmpB_less : ∀ (xs ys : List UInt8), (Op.bytesLess xs ys = true → cmpB xs ys = -1) ∧ (Op.bytesLess xs ys = false → xs ≠ ys → cmpB xs ys = 1) ∧ (xs = ys → cmpB xs ys = 0)
  | [], [] => by simp [Op.bytesLess, cmpB, sgn]
  | [], y :: ys => by simp [Op.bytesLess, cmpB, sgn]
  | x :: xs, [] => by simp [Op.bytesLess, cmpB, sgn]; omega
  | x :: xs, y :: ys => by
    obtain ⟨h1, h2, h3⟩ := cmpB_less xs ys
    by_cases hxy : x = y
    · subst hxy
      have : ¬ x < x := by simp [UInt8.lt_iff_toNat_lt]
      simp [Op.bytesLess, cmpB, this]
      exact ⟨h1, h2, h3⟩
    · have hne : x.toNat ≠ y.toNat := fun e => hxy (UInt8.toNat_inj.1 e)
      simp only [Op.bytesLess, cmpB, if_neg hxy, u8_sgn, UInt8.lt_iff_toNat_lt]
      simp [hxy]
      constructor
      · intro h h'; omega
      · intro h
        rw [if_neg (by omega), if_pos (by omega)]

theorem step84 (a b : ByteArray) : PCall Try.prog 84 [aS a, aS b] (aI (cmpB a.data.toList b.data.toList)) := by
  refine pcall_of_dwp mixed fn84 (by simp) (init_run fun ob ct _ => ?_)
  simp only [List.zipIdx_cons, List.zipIdx_nil, List.map_cons, List.map_nil]
  unfold ac84
  obtain ⟨k1, k2, k3⟩ := cmpB_less a.data.toList b.data.toList
  first | refine run_reg_seq (st' := ?_) ?_ ?_ | refine run_assoc (run_reg_seq (st' := ?_) ?_ ?_) | refine run_reg (st' := ?_) ?_ ?_
  rotate_left 1
  · intro hf K hK; simp [live84, g84_0]; exact hK
  first | refine run_reg_seq (st' := ?_) ?_ ?_ | refine run_assoc (run_reg_seq (st' := ?_) ?_ ?_) | refine run_reg (st' := ?_) ?_ ?_
  rotate_left 1
  · intro hf K hK; simp [live84, g84_1]
    refine .inl (callW_of0 (step97 a) [] (by simp [mapO, catO, frzA]) (by simp [mapO, catO, idsA]) ?_)
    simp [live84, g84_1]; exact hK
  first | refine run_reg_seq (st' := ?_) ?_ ?_ | refine run_assoc (run_reg_seq (st' := ?_) ?_ ?_) | refine run_reg (st' := ?_) ?_ ?_
  rotate_left 1
  · intro hf K hK; simp [live84, g84_2]
    refine .inl (callW_of0 (step97 b) [] (by simp [mapO, catO, frzA]) (by simp [mapO, catO, idsA]) ?_)
    simp [live84, g84_2]; exact hK
  first | refine run_reg_seq (st' := ?_) ?_ ?_ | refine run_assoc (run_reg_seq (st' := ?_) ?_ ?_) | refine run_reg (st' := ?_) ?_ ?_
  rotate_left 1
  · intro hf K hK; simp [live84, g84_3]; exact hK
  first | refine run_cond_seq (b := false) (by simp []) (fun h => by cases h) (fun _ => ?_) | refine run_assoc (run_cond_seq (b := false) (by simp []) (fun h => by cases h) (fun _ => ?_)) | refine run_cond (b := false) (by simp []) (fun h => by cases h) (fun _ => ?_)
  try refine run_skip_seq ?_
  try refine run_exit_seq ?_
  first | refine run_reg_seq (st' := ?_) ?_ ?_ | refine run_assoc (run_reg_seq (st' := ?_) ?_ ?_) | refine run_reg (st' := ?_) ?_ ?_
  rotate_left 1
  · intro hf K hK; simp [live84, g84_7]; exact hK
  first | refine run_cond_seq (b := false) (by simp []) (fun h => by cases h) (fun _ => ?_) | refine run_assoc (run_cond_seq (b := false) (by simp []) (fun h => by cases h) (fun _ => ?_)) | refine run_cond (b := false) (by simp []) (fun h => by cases h) (fun _ => ?_)
  try refine run_skip_seq ?_
  try refine run_exit_seq ?_
  first | refine run_reg_seq (st' := ?_) ?_ ?_ | refine run_assoc (run_reg_seq (st' := ?_) ?_ ?_) | refine run_reg (st' := ?_) ?_ ?_
  rotate_left 1
  · intro hf K hK; simp [live84, g84_9, binV, ByteArray.toList_eq]; exact hK
  by_cases h1 : Op.bytesLess a.data.toList b.data.toList = true
  · first | refine run_cond_seq (b := true) (by simp [h1]) (fun _ => ?_) (fun h => by cases h) | refine run_assoc (run_cond_seq (b := true) (by simp [h1]) (fun _ => ?_) (fun h => by cases h)) | refine run_cond (b := true) (by simp [h1]) (fun _ => ?_) (fun h => by cases h)
    try refine run_skip_seq ?_
    try refine run_exit_seq ?_
    first | refine run_reg_seq (st' := ?_) ?_ ?_ | refine run_assoc (run_reg_seq (st' := ?_) ?_ ?_) | refine run_reg (st' := ?_) ?_ ?_
    rotate_left 1
    · intro hf K hK; simp [live84, g84_10]; exact hK
    simp [Kret, dwp, Kseq, retA, res84, mapO, catO, resA, frzA, idsA, oneOf, k1 h1]
  · simp only [Bool.not_eq_true] at h1
    first | refine run_cond_seq (b := false) (by simp [h1]) (fun h => by cases h) (fun _ => ?_) | refine run_assoc (run_cond_seq (b := false) (by simp [h1]) (fun h => by cases h) (fun _ => ?_)) | refine run_cond (b := false) (by simp [h1]) (fun h => by cases h) (fun _ => ?_)
    try refine run_skip_seq ?_
    try refine run_exit_seq ?_
    first | refine run_reg_seq (st' := ?_) ?_ ?_ | refine run_assoc (run_reg_seq (st' := ?_) ?_ ?_) | refine run_reg (st' := ?_) ?_ ?_
    rotate_left 1
    · intro hf K hK; simp [live84, g84_11, binV, ByteArray.toList_eq]; exact hK
    by_cases h2 : a.data.toList = b.data.toList
    · have h2' : a.data = b.data := Array.ext' h2
      first | refine run_cond_seq (b := false) (by simp [h1, h2, h2']) (fun h => by cases h) (fun _ => ?_) | refine run_assoc (run_cond_seq (b := false) (by simp [h1, h2, h2']) (fun h => by cases h) (fun _ => ?_)) | refine run_cond (b := false) (by simp [h1, h2, h2']) (fun h => by cases h) (fun _ => ?_)
      try refine run_skip_seq ?_
      try refine run_exit_seq ?_
      first | refine run_reg_seq (st' := ?_) ?_ ?_ | refine run_assoc (run_reg_seq (st' := ?_) ?_ ?_) | refine run_reg (st' := ?_) ?_ ?_
      rotate_left 1
      · intro hf K hK; simp [live84, g84_13]; exact hK
      simp [Kret, dwp, Kseq, retA, res84, mapO, catO, resA, frzA, idsA, oneOf, k3 h2]
    · have h2' : ¬ a.data = b.data := fun e => h2 (by rw [e])
      first | refine run_cond_seq (b := true) (by simp [h1, h2, h2']) (fun _ => ?_) (fun h => by cases h) | refine run_assoc (run_cond_seq (b := true) (by simp [h1, h2, h2']) (fun _ => ?_) (fun h => by cases h)) | refine run_cond (b := true) (by simp [h1, h2, h2']) (fun _ => ?_) (fun h => by cases h)
      try refine run_skip_seq ?_
      try refine run_exit_seq ?_
      first | refine run_reg_seq (st' := ?_) ?_ ?_ | refine run_assoc (run_reg_seq (st' := ?_) ?_ ?_) | refine run_reg (st' := ?_) ?_ ?_
      rotate_left 1
      · intro hf K hK; simp [live84, g84_12]; exact hK
      simp [Kret, dwp, Kseq, retA, res84, mapO, catO, resA, frzA, idsA, oneOf, k2 h1 h2]

def firstI : List Int → Int
  | [] => 0
  | x :: xs => if x = 0 then firstI xs else x
theorem step82 (l : List Int) (hl : l.length < 1000000000000) : PCall Try.prog 82 [.d false 1 (l.map fun n => [aI n])] (aI (firstI l)) := by
  refine pcall_of_dwp mixed fn82 (by simp) (init_run fun ob ct _ => ?_)
  simp only [List.zipIdx_cons, List.zipIdx_nil, List.map_cons, List.map_nil]
  unfold ac82
  first | refine run_reg_seq (st' := ?_) ?_ ?_ | refine run_assoc (run_reg_seq (st' := ?_) ?_ ?_) | refine run_reg (st' := ?_) ?_ ?_
  rotate_left 1
  · intro hf K hK; simp [live82, g82_0]; exact hK
  first | refine run_reg_seq (st' := ?_) ?_ ?_ | refine run_assoc (run_reg_seq (st' := ?_) ?_ ?_) | refine run_reg (st' := ?_) ?_ ?_
  rotate_left 1
  · intro hf K hK; simp [live82, g82_1]; exact hK
  first | refine run_reg_seq (st' := ?_) ?_ ?_ | refine run_assoc (run_reg_seq (st' := ?_) ?_ ?_) | refine run_reg (st' := ?_) ?_ ?_
  rotate_left 1
  · intro hf K hK; simp [live82, g82_2]; exact hK
  first | refine run_block (run_loop fun I hI => ?_) | refine run_seq (run_block (run_loop fun I hI => ?_)) | refine run_loop fun I hI => ?_ | refine run_seq (run_loop fun I hI => ?_)
  have key : ∀ (m i : Nat) (x y z : AV) (ob : Den.Id → Option Ob) (ct : Nat → Nat), i + m = l.length → firstI (l.drop i) = firstI l →
      I (St.of [(0, .d false 1 (l.map fun n => [aI n])), (2, aI 0), (3, aI 0), (5, x), (6, .d false 1 (l.map fun n => [aI n])), (7, aI l.length), (8, aI i), (9, y), (14, z)] ob ct) := by
    intro m
    induction m with
    | zero =>
      intro i x y z ob ct hi he
      refine hI _ ?_
      have h1 : ¬ i < l.length := by omega
      first | refine run_reg_seq (st' := ?_) ?_ ?_ | refine run_assoc (run_reg_seq (st' := ?_) ?_ ?_) | refine run_reg (st' := ?_) ?_ ?_
      rotate_left 1
      · intro hf K hK; simp [live82, g82_3, binV, h1]; exact hK
      first | refine run_cond_seq (b := false) (by simp []) (fun h => by cases h) (fun _ => ?_) | refine run_assoc (run_cond_seq (b := false) (by simp []) (fun h => by cases h) (fun _ => ?_)) | refine run_cond (b := false) (by simp []) (fun h => by cases h) (fun _ => ?_)
      try refine run_skip_seq ?_
      try refine run_exit_seq ?_
      first | refine run_reg_seq (st' := ?_) ?_ ?_ | refine run_assoc (run_reg_seq (st' := ?_) ?_ ?_) | refine run_reg (st' := ?_) ?_ ?_
      rotate_left 1
      · intro hf K hK; simp [live82, g82_8]; exact hK
      rw [List.drop_eq_nil_of_le (by omega)] at he
      simp [Kret, dwp, Kseq, retA, res82, mapO, catO, resA, frzA, idsA, oneOf, ← he, firstI]
    | succ m ih =>
      intro i x y z ob ct hi he
      refine hI _ ?_
      have h1 : i < l.length := by omega
      rw [List.drop_eq_getElem_cons h1] at he
      first | refine run_reg_seq (st' := ?_) ?_ ?_ | refine run_assoc (run_reg_seq (st' := ?_) ?_ ?_) | refine run_reg (st' := ?_) ?_ ?_
      rotate_left 1
      · intro hf K hK; simp [live82, g82_3, binV, h1]; exact hK
      first | refine run_cond_seq (b := true) (by simp []) (fun _ => ?_) (fun h => by cases h) | refine run_assoc (run_cond_seq (b := true) (by simp []) (fun _ => ?_) (fun h => by cases h)) | refine run_cond (b := true) (by simp []) (fun _ => ?_) (fun h => by cases h)
      try refine run_skip_seq ?_
      try refine run_exit_seq ?_
      refine run_seq ?_
      first | refine run_reg_seq (st' := ?_) ?_ ?_ | refine run_assoc (run_reg_seq (st' := ?_) ?_ ?_) | refine run_reg (st' := ?_) ?_ ?_
      rotate_left 1
      · intro hf K hK; simp [live82, g82_4, h1]; exact hK
      first | refine run_reg_seq (st' := ?_) ?_ ?_ | refine run_assoc (run_reg_seq (st' := ?_) ?_ ?_) | refine run_reg (st' := ?_) ?_ ?_
      rotate_left 1
      · intro hf K hK; simp [live82, g82_5, binV]; exact hK
      by_cases h2 : l[i] = 0
      · first | refine run_cond_seq (b := false) (by simp [h2]) (fun h => by cases h) (fun _ => ?_) | refine run_assoc (run_cond_seq (b := false) (by simp [h2]) (fun h => by cases h) (fun _ => ?_)) | refine run_cond (b := false) (by simp [h2]) (fun h => by cases h) (fun _ => ?_)
        try refine run_skip_seq ?_
        try refine run_exit_seq ?_
        first | refine run_reg_seq (st' := ?_) ?_ ?_ | refine run_assoc (run_reg_seq (st' := ?_) ?_ ?_) | refine run_reg (st' := ?_) ?_ ?_
        rotate_left 1
        · intro hf K hK; simp [live82, g82_7, binV]; exact hK
        rw [wrap_succ (by omega)]
        refine ih (i + 1) _ _ _ _ _ (by omega) ?_
        rw [← he]; simp [firstI, h2]
      · first | refine run_cond_seq (b := true) (by simp [h2]) (fun _ => ?_) (fun h => by cases h) | refine run_assoc (run_cond_seq (b := true) (by simp [h2]) (fun _ => ?_) (fun h => by cases h)) | refine run_cond (b := true) (by simp [h2]) (fun _ => ?_) (fun h => by cases h)
        try refine run_skip_seq ?_
        try refine run_exit_seq ?_
        first | refine run_reg_seq (st' := ?_) ?_ ?_ | refine run_assoc (run_reg_seq (st' := ?_) ?_ ?_) | refine run_reg (st' := ?_) ?_ ?_
        rotate_left 1
        · intro hf K hK; simp [live82, g82_6]; exact hK
        simp only [firstI, if_neg h2] at he
        simp [Kret, dwp, Kseq, retA, res82, mapO, catO, resA, frzA, idsA, oneOf, he]
  exact key l.length 0 _ _ _ _ _ (by omega) rfl

theorem sgn_zero {a b : Int} : sgn a b = 0 ↔ a = b := by
  simp only [sgn]; split <;> (try split) <;> omega
theorem firstI_cmp (a b : V) : firstI [sgn a.k b.k, sgn a.i b.i, cmpB a.s.data.toList b.s.data.toList] = cmpV a b := by
  simp only [firstI, cmpV, sgn_zero]
  split <;> (try split) <;> (try split) <;> simp_all
theorem step76 (a b : V) : PCall Try.prog 76 [.g (eV a), .g (eV b)] (aI (cmpV a b)) := by
  refine pcall_of_dwp mixed fn76 (by simp) (init_run fun ob ct _ => ?_)
  simp only [List.zipIdx_cons, List.zipIdx_nil, List.map_cons, List.map_nil]
  unfold ac76
  first | refine run_reg_seq (st' := ?_) ?_ ?_ | refine run_assoc (run_reg_seq (st' := ?_) ?_ ?_) | refine run_reg (st' := ?_) ?_ ?_
  rotate_left 1
  · intro hf K hK; simp [live76, g76_0, eV]; exact hK
  rw [← firstI_cmp]
  first | refine run_drawn_seq (st' := ?_) ?_ ?_ | refine run_assoc (run_drawn_seq (st' := ?_) ?_ ?_) | refine run_drawn (st' := ?_) ?_ ?_
  rotate_left 1
  · intro hf K hK; simp [live76, g76_1]
    refine (callW_of0 (step83 a.k b.k) [] (by simp [mapO, catO, frzA]) (by simp [mapO, catO, idsA]) ?_)
    simp [live76, g76_1]
    refine (callW_of0 (step83 a.i b.i) [] (by simp [mapO, catO, frzA]) (by simp [mapO, catO, idsA]) ?_)
    simp [live76, g76_1]
    refine (callW_of0 (step84 a.s b.s) [] (by simp [mapO, catO, frzA]) (by simp [mapO, catO, idsA]) ?_)
    simp [live76, g76_1]
    refine (callW_of0 (step82 [sgn a.k b.k, sgn a.i b.i, cmpB a.s.data.toList b.s.data.toList] (by simp)) [.l 20 (ct 20)] (by simp [mapO, catO, frzA]) (by simp [mapO, catO, idsA]) ?_)
    simp [live76, g76_1]
    exact hK
  simp [Kret, dwp, Kseq, retA, res76, mapO, catO, resA, frzA, idsA, oneOf]

end Go.Proofs.Ytcmgfnhlnefchaa
