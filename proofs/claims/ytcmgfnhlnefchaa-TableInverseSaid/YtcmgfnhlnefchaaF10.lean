/-
  What the program's function that deletes rows comes to.
-/
import Derived.Test.YtcmgfnhlnefchaaF9
namespace Go.Proofs.Ytcmgfnhlnefchaa
open Go.Den
set_option linter.unusedVariables false
set_option linter.unusedSimpArgs false

theorem step45 (l : List R) (key : List V) (k : Int) (hl : l.length ≤ 1000000) (hr : ∀ r ∈ l, r.cells.length ≤ 1000000000) (hk : key.length < 1000000000000) (hmono : Mono (cmpK k key) l) :
    PCall Try.prog 45 [dR l, aI k, dV key] (.t [dR (delI k l key).1, aI (delI k l key).2]) := by
  have hc := step42 l key k (by omega) hr hk hmono
  generalize hI : findI (cmpK k key) l = i at hc
  generalize hB : isAt (cmpK k key) l = b at hc
  have hbl : b = true → i < l.length := fun hb => by
    rcases Nat.lt_or_ge i l.length with h | h
    · exact h
    · rw [isAt_of hI, dif_neg (by omega)] at hB; rw [hb] at hB; cases hB
  refine pcall_of_dwp mixed fn45 (by simp) (init_run fun ob ct _ => ?_)
  simp only [List.zipIdx_cons, List.zipIdx_nil, List.map_cons, List.map_nil]
  unfold ac45
  first | refine run_reg_seq (st' := ?_) ?_ ?_ | refine run_assoc (run_reg_seq (st' := ?_) ?_ ?_) | refine run_reg (st' := ?_) ?_ ?_
  rotate_left 1
  · intro hf K hK; simp [live45, g45_0]; first | exact hK | ((repeat' apply And.intro) <;> first | exact hK | omega)
  first | refine run_reg_seq (st' := ?_) ?_ ?_ | refine run_assoc (run_reg_seq (st' := ?_) ?_ ?_) | refine run_reg (st' := ?_) ?_ ?_
  rotate_left 1
  · intro hf K hK; simp [live45, g45_1]
    refine .inl (callW_of0 (hc) [] (by simp [mapO, catO, frzA]) (by simp [mapO, catO, idsA]) ?_)
    simp [live45, g45_1]
    first | exact hK | ((repeat' apply And.intro) <;> first | exact hK | omega)
  first | refine run_reg_seq (st' := ?_) ?_ ?_ | refine run_assoc (run_reg_seq (st' := ?_) ?_ ?_) | refine run_reg (st' := ?_) ?_ ?_
  rotate_left 1
  · intro hf K hK; simp [live45, g45_2]; first | exact hK | ((repeat' apply And.intro) <;> first | exact hK | omega)
  cases b with
  | false =>
    first | refine run_cond_seq (b := true) (by simp []) (fun _ => ?_) (fun h => by cases h) | refine run_assoc (run_cond_seq (b := true) (by simp []) (fun _ => ?_) (fun h => by cases h)) | refine run_cond (b := true) (by simp []) (fun _ => ?_) (fun h => by cases h)
    try refine run_skip_seq ?_
    try refine run_exit_seq ?_
    first | refine run_reg_seq (st' := ?_) ?_ ?_ | refine run_assoc (run_reg_seq (st' := ?_) ?_ ?_) | refine run_reg (st' := ?_) ?_ ?_
    rotate_left 1
    · intro hf K hK; simp [live45, g45_3]; first | exact hK | ((repeat' apply And.intro) <;> first | exact hK | omega)
    simp [Kret, dwp, Kseq, retA, res45, mapO, catO, resA, frzA, idsA, oneOf, delI, hB]
  | true =>
    have hlt := hbl rfl
    first | refine run_cond_seq (b := false) (by simp []) (fun h => by cases h) (fun _ => ?_) | refine run_assoc (run_cond_seq (b := false) (by simp []) (fun h => by cases h) (fun _ => ?_)) | refine run_cond (b := false) (by simp []) (fun h => by cases h) (fun _ => ?_)
    try refine run_skip_seq ?_
    try refine run_exit_seq ?_
    have hw : IntKind.i64.wrap ((i : Int) + 1) = (i : Int) + 1 := by
      have := wrap_succ (n := i) (by omega)
      simpa using this
    first | refine run_k fun K hK hf => ?_ | refine run_assoc (run_k fun K hK hf => ?_)
    simp [live45, g45_4]
    refine .inr (.inl (icallW_of rfl (icall52 l hl _ _ _ (fun h0 => by subst h0; simp at hlt) ?_)))
    simp [live45, g45_4, binV, hw]
    refine .inr (.inl (icallW_of rfl ?_))
    refine icall69 l i (.l 7 (ct 7)) hl hlt _ _ none (by simp) _ fun id ob' ct' rest cap' hid => ?_
    simp [live45, g45_4]
    rw [hK]
    have hlen : (l.take i ++ l.drop (i + 1)).length = l.length - 1 := by simp; omega
    have hd : delI k l key = (l.take i ++ l.drop (i + 1), 0) := by simp only [delI, hB, if_true, hI]
    rw [hd]
    generalize l.take i ++ l.drop (i + 1) = l' at hid hlen ⊢
    rw [← hlen]
    have p4 : (l'.map eR ++ rest).take l'.length = l'.map eR := List.take_left' (by simp)
    simp [Kret, dwp, Kseq, retA, res45, mapO, catO, resA, frzA, idsA, oneOf, hid, p4]

theorem step15 (l : List R) (key : List V) (k : Int) (hl : l.length ≤ 1000000) (hr : ∀ r ∈ l, r.cells.length ≤ 1000000000) (hk : key.length < 1000000000000) (hmono : Mono (cmpK k key) l) :
    PCall Try.prog 15 [dR l, aI k, dV key] (.g [dR (delI k l key).1, aI (delI k l key).2]) := by
  refine pcall_of_dwp mixed fn15 (by simp) (init_run fun ob ct _ => ?_)
  simp only [List.zipIdx_cons, List.zipIdx_nil, List.map_cons, List.map_nil]
  unfold ac15
  first | refine run_reg_seq (st' := ?_) ?_ ?_ | refine run_assoc (run_reg_seq (st' := ?_) ?_ ?_) | refine run_reg (st' := ?_) ?_ ?_
  rotate_left 1
  · intro hf K hK; simp [live15, g15_0]; first | exact hK | ((repeat' apply And.intro) <;> first | exact hK | omega)
  first | refine run_reg_seq (st' := ?_) ?_ ?_ | refine run_assoc (run_reg_seq (st' := ?_) ?_ ?_) | refine run_reg (st' := ?_) ?_ ?_
  rotate_left 1
  · intro hf K hK; simp [live15, g15_1]
    refine .inl (callW_of0 (step45 l key k hl hr hk hmono) [] (by simp [mapO, catO, frzA]) (by simp [mapO, catO, idsA]) ?_)
    simp [live15, g15_1]
    first | exact hK | ((repeat' apply And.intro) <;> first | exact hK | omega)
  first | refine run_reg_seq (st' := ?_) ?_ ?_ | refine run_assoc (run_reg_seq (st' := ?_) ?_ ?_) | refine run_reg (st' := ?_) ?_ ?_
  rotate_left 1
  · intro hf K hK; simp [live15, g15_2]; first | exact hK | ((repeat' apply And.intro) <;> first | exact hK | omega)
  simp [Kret, dwp, Kseq, retA, res15, mapO, catO, resA, frzA, idsA, oneOf]

end Go.Proofs.Ytcmgfnhlnefchaa
