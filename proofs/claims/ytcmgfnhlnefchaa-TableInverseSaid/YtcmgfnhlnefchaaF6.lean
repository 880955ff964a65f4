/-
  What the functions that compare lists of rows come to.
-/
import Derived.Test.YtcmgfnhlnefchaaF5
namespace Go.Proofs.Ytcmgfnhlnefchaa
open Go.Den
set_option linter.unusedVariables false
set_option linter.unusedSimpArgs false

def fitL (l : List R) : Prop := l.length ≤ 1000000000 ∧ ∀ r ∈ l, r.fit

theorem step31 (a b : List R) (ha : fitL a) (hb : fitL b) : PCall Try.prog 31 [dR a, dR b] (aB (decide (a = b))) := by
  refine pcall_of_dwp mixed fn31 (by simp) (init_run fun ob ct _ => ?_)
  simp only [List.zipIdx_cons, List.zipIdx_nil, List.map_cons, List.map_nil]
  unfold ac31
  have la := ha.1
  first | refine run_reg_seq (st' := ?_) ?_ ?_ | refine run_assoc (run_reg_seq (st' := ?_) ?_ ?_) | refine run_reg (st' := ?_) ?_ ?_
  rotate_left 1
  · intro hf K hK; simp [live31, g31_0]; first | exact hK | ((repeat' apply And.intro) <;> first | exact hK | omega)
  by_cases hlen : a.length = b.length
  · first | refine run_reg_seq (st' := ?_) ?_ ?_ | refine run_assoc (run_reg_seq (st' := ?_) ?_ ?_) | refine run_reg (st' := ?_) ?_ ?_
    rotate_left 1
    · intro hf K hK; simp [live31, g31_1, binV, hlen]; first | exact hK | ((repeat' apply And.intro) <;> first | exact hK | omega)
    first | refine run_cond_seq (b := false) (by simp []) (fun h => by cases h) (fun _ => ?_) | refine run_assoc (run_cond_seq (b := false) (by simp []) (fun h => by cases h) (fun _ => ?_)) | refine run_cond (b := false) (by simp []) (fun h => by cases h) (fun _ => ?_)
    try refine run_skip_seq ?_
    try refine run_exit_seq ?_
    first | refine run_reg_seq (st' := ?_) ?_ ?_ | refine run_assoc (run_reg_seq (st' := ?_) ?_ ?_) | refine run_reg (st' := ?_) ?_ ?_
    rotate_left 1
    · intro hf K hK; simp [live31, g31_3]; first | exact hK | ((repeat' apply And.intro) <;> first | exact hK | omega)
    first | refine run_block (run_loop fun I hI => ?_) | refine run_seq (run_block (run_loop fun I hI => ?_)) | refine run_loop fun I hI => ?_ | refine run_seq (run_loop fun I hI => ?_)
    have key : ∀ (m i : Nat) (x y : AV) (ob : Den.Id → Option Ob) (ct : Nat → Nat), i + m = a.length → a.take i = b.take i →
        I (St.of [(0, dR a), (1, dR b), (4, aB false), (5, aI i), (10, aB false), (14, x), (26, y)] ob ct) := by
      intro m
      induction m with
      | zero =>
        intro i x y ob ct hi he
        have h1 : ¬ i < a.length := by omega
        refine hI _ ?_
        first | refine run_reg_seq (st' := ?_) ?_ ?_ | refine run_assoc (run_reg_seq (st' := ?_) ?_ ?_) | refine run_reg (st' := ?_) ?_ ?_
        rotate_left 1
        · intro hf K hK; simp [live31, g31_4, binV, h1]; first | exact hK | ((repeat' apply And.intro) <;> first | exact hK | omega)
        first | refine run_cond_seq (b := false) (by simp []) (fun h => by cases h) (fun _ => ?_) | refine run_assoc (run_cond_seq (b := false) (by simp []) (fun h => by cases h) (fun _ => ?_)) | refine run_cond (b := false) (by simp []) (fun h => by cases h) (fun _ => ?_)
        try refine run_skip_seq ?_
        try refine run_exit_seq ?_
        first | refine run_reg_seq (st' := ?_) ?_ ?_ | refine run_assoc (run_reg_seq (st' := ?_) ?_ ?_) | refine run_reg (st' := ?_) ?_ ?_
        rotate_left 1
        · intro hf K hK; simp [live31, g31_8]; first | exact hK | ((repeat' apply And.intro) <;> first | exact hK | omega)
        have : i = a.length := by omega
        subst this
        have := take_all_eq he hlen
        simp [Kret, dwp, Kseq, retA, res31, mapO, catO, resA, frzA, idsA, oneOf, this]
      | succ m ih =>
        intro i x y ob ct hi he
        have h1 : i < a.length := by omega
        have h2 : i < b.length := by omega
        refine hI _ ?_
        first | refine run_reg_seq (st' := ?_) ?_ ?_ | refine run_assoc (run_reg_seq (st' := ?_) ?_ ?_) | refine run_reg (st' := ?_) ?_ ?_
        rotate_left 1
        · intro hf K hK; simp [live31, g31_4, binV, h1]; first | exact hK | ((repeat' apply And.intro) <;> first | exact hK | omega)
        first | refine run_cond_seq (b := true) (by simp []) (fun _ => ?_) (fun h => by cases h) | refine run_assoc (run_cond_seq (b := true) (by simp []) (fun _ => ?_) (fun h => by cases h)) | refine run_cond (b := true) (by simp []) (fun _ => ?_) (fun h => by cases h)
        try refine run_skip_seq ?_
        try refine run_exit_seq ?_
        refine run_seq ?_
        first | refine run_ro_seq (st' := ?_) rfl ?_ ?_ | refine run_assoc (run_ro_seq (st' := ?_) rfl ?_ ?_) | refine run_ro (st' := ?_) rfl ?_ ?_
        rotate_left 1
        · intro hf K hK; simp [live31, g31_5, h1, h2]
          refine (callW_of0 (step13 a[i] b[i] (ha.2 _ (by simp)) (hb.2 _ (by simp))) [] (by simp [mapO, catO, frzA, h1, h2]) (by simp [mapO, catO, idsA, h1, h2]) ?_)
          simp [live31, g31_5, h1, h2]
          first | exact hK | ((repeat' apply And.intro) <;> first | exact hK | omega)
        by_cases hne : a[i] = b[i]
        · first | refine run_cond_seq (b := false) (by simp [hne]) (fun h => by cases h) (fun _ => ?_) | refine run_assoc (run_cond_seq (b := false) (by simp [hne]) (fun h => by cases h) (fun _ => ?_)) | refine run_cond (b := false) (by simp [hne]) (fun h => by cases h) (fun _ => ?_)
          try refine run_skip_seq ?_
          try refine run_exit_seq ?_
          first | refine run_reg_seq (st' := ?_) ?_ ?_ | refine run_assoc (run_reg_seq (st' := ?_) ?_ ?_) | refine run_reg (st' := ?_) ?_ ?_
          rotate_left 1
          · intro hf K hK; simp [live31, g31_7, binV]; first | exact hK | ((repeat' apply And.intro) <;> first | exact hK | omega)
          rw [wrap_succ (by omega)]
          exact ih (i + 1) _ _ _ _ (by omega) (take_eq_step he h1 h2 hne)
        · first | refine run_cond_seq (b := true) (by simp [hne]) (fun _ => ?_) (fun h => by cases h) | refine run_assoc (run_cond_seq (b := true) (by simp [hne]) (fun _ => ?_) (fun h => by cases h)) | refine run_cond (b := true) (by simp [hne]) (fun _ => ?_) (fun h => by cases h)
          try refine run_skip_seq ?_
          try refine run_exit_seq ?_
          first | refine run_reg_seq (st' := ?_) ?_ ?_ | refine run_assoc (run_reg_seq (st' := ?_) ?_ ?_) | refine run_reg (st' := ?_) ?_ ?_
          rotate_left 1
          · intro hf K hK; simp [live31, g31_6]; first | exact hK | ((repeat' apply And.intro) <;> first | exact hK | omega)
          have : ¬ a = b := fun e => hne (by subst e; rfl)
          simp [Kret, dwp, Kseq, retA, res31, mapO, catO, resA, frzA, idsA, oneOf, this]
    exact key a.length 0 _ _ _ _ (by omega) rfl
  · have hb1 : ((a.length : Int) != (b.length : Int)) = true := by rw [bne_iff_ne]; omega
    first | refine run_reg_seq (st' := ?_) ?_ ?_ | refine run_assoc (run_reg_seq (st' := ?_) ?_ ?_) | refine run_reg (st' := ?_) ?_ ?_
    rotate_left 1
    · intro hf K hK; simp [live31, g31_1, binV, hb1]; first | exact hK | ((repeat' apply And.intro) <;> first | exact hK | omega)
    first | refine run_cond_seq (b := true) (by simp [hb1]) (fun _ => ?_) (fun h => by cases h) | refine run_assoc (run_cond_seq (b := true) (by simp [hb1]) (fun _ => ?_) (fun h => by cases h)) | refine run_cond (b := true) (by simp [hb1]) (fun _ => ?_) (fun h => by cases h)
    try refine run_skip_seq ?_
    try refine run_exit_seq ?_
    first | refine run_reg_seq (st' := ?_) ?_ ?_ | refine run_assoc (run_reg_seq (st' := ?_) ?_ ?_) | refine run_reg (st' := ?_) ?_ ?_
    rotate_left 1
    · intro hf K hK; simp [live31, g31_2]; first | exact hK | ((repeat' apply And.intro) <;> first | exact hK | omega)
    have : ¬ a = b := fun e => hlen (by rw [e])
    simp [Kret, dwp, Kseq, retA, res31, mapO, catO, resA, frzA, idsA, oneOf, this]

theorem step14 (a b : List R) (e f : Int) (ha : fitL a) (hb : fitL b) : PCall Try.prog 14 [.g [dR a, aI e], .g [dR b, aI f]] (aB (decide (e = f) && decide (a = b))) := by
  refine pcall_of_dwp mixed fn14 (by simp) (init_run fun ob ct _ => ?_)
  simp only [List.zipIdx_cons, List.zipIdx_nil, List.map_cons, List.map_nil]
  unfold ac14
  first | refine run_reg_seq (st' := ?_) ?_ ?_ | refine run_assoc (run_reg_seq (st' := ?_) ?_ ?_) | refine run_reg (st' := ?_) ?_ ?_
  rotate_left 1
  · intro hf K hK; simp [live14, g14_0]; first | exact hK | ((repeat' apply And.intro) <;> first | exact hK | omega)
  by_cases h : e = f
  · subst h
    first | refine run_reg_seq (st' := ?_) ?_ ?_ | refine run_assoc (run_reg_seq (st' := ?_) ?_ ?_) | refine run_reg (st' := ?_) ?_ ?_
    rotate_left 1
    · intro hf K hK; simp [live14, g14_1, binV]
      refine .inl (callW_of0 (step31 a b ha hb) [] (by simp [mapO, catO, frzA, binV]) (by simp [mapO, catO, idsA, binV]) ?_)
      simp [live14, g14_1, binV]
      first | exact hK | ((repeat' apply And.intro) <;> first | exact hK | omega)
    simp [Kret, dwp, Kseq, retA, res14, mapO, catO, resA, frzA, idsA, oneOf]
  · have hb1 : (e == f) = false := by simpa using h
    first | refine run_reg_seq (st' := ?_) ?_ ?_ | refine run_assoc (run_reg_seq (st' := ?_) ?_ ?_) | refine run_reg (st' := ?_) ?_ ?_
    rotate_left 1
    · intro hf K hK; simp [live14, g14_1, binV, hb1]; first | exact hK | ((repeat' apply And.intro) <;> first | exact hK | omega)
    simp [Kret, dwp, Kseq, retA, res14, mapO, catO, resA, frzA, idsA, oneOf, h]

end Go.Proofs.Ytcmgfnhlnefchaa
