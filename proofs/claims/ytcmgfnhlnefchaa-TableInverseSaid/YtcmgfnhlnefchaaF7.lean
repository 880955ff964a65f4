/-
  What the functions that say which lists are valid come to.
-/
import Derived.Test.YtcmgfnhlnefchaaF6
namespace Go.Proofs.Ytcmgfnhlnefchaa
open Go.Den
set_option linter.unusedVariables false
set_option linter.unusedSimpArgs false

def ordAt (l : List R) (k : Int) : Nat → Bool
  | 0 => true
  | j + 1 => match l[j]?, l[j + 1]? with
    | some p, some r => decide (cmpL (keyR p k) (keyR r k) < 0)
    | _, _ => true
def rowOk (l : List R) (k : Int) (i : Nat) : Bool := match l[i]?, l[0]? with
  | some r, some r0 => decide (k ≤ r.cells.length) && (decide (r.cells.length = r0.cells.length) && ordAt l k i)
  | _, _ => true
def validR (l : List R) (k : Int) : Bool := decide (1 ≤ k) && (List.range l.length).all (rowOk l k)
theorem validR_false {l : List R} {k : Int} {i : Nat} (h : i < l.length) (hr : rowOk l k i = false) : validR l k = false := by
  simp only [validR, Bool.and_eq_false_iff, List.all_eq_false]
  exact .inr ⟨i, List.mem_range.2 h, by simp [hr]⟩
theorem validR_true {l : List R} {k : Int} (h : ∀ t, t < l.length → rowOk l k t = true) : validR l k = decide (1 ≤ k) := by
  simp only [validR]
  rw [List.all_eq_true.2 fun t ht => h t (List.mem_range.1 ht), Bool.and_true]
theorem rowOk_at {l : List R} {k : Int} {i : Nat} (h : i < l.length) : rowOk l k i = (decide (k ≤ l[i].cells.length) && (decide (l[i].cells.length = (l[0]'(by omega)).cells.length) && ordAt l k i)) := by
  simp only [rowOk, List.getElem?_eq_getElem h, List.getElem?_eq_getElem (show 0 < l.length by omega)]

set_option maxHeartbeats 1000000 in
theorem step12 (l : List R) (k : Int) (hl : l.length ≤ 1000000000) (hr : ∀ r ∈ l, r.ok) : PCall Try.prog 12 [dR l, aI k] (aB (validR l k)) := by
  refine pcall_of_dwp mixed fn12 (by simp) (init_run fun ob ct _ => ?_)
  simp only [List.zipIdx_cons, List.zipIdx_nil, List.map_cons, List.map_nil]
  unfold ac12
  first | refine run_reg_seq (st' := ?_) ?_ ?_ | refine run_assoc (run_reg_seq (st' := ?_) ?_ ?_) | refine run_reg (st' := ?_) ?_ ?_
  rotate_left 1
  · intro hf K hK; simp [live12, g12_0]; first | exact hK | ((repeat' apply And.intro) <;> first | exact hK | omega)
  first | refine run_reg_seq (st' := ?_) ?_ ?_ | refine run_assoc (run_reg_seq (st' := ?_) ?_ ?_) | refine run_reg (st' := ?_) ?_ ?_
  rotate_left 1
  · intro hf K hK; simp [live12, g12_1]; first | exact hK | ((repeat' apply And.intro) <;> first | exact hK | omega)
  first | refine run_block (run_loop fun I hI => ?_) | refine run_seq (run_block (run_loop fun I hI => ?_)) | refine run_loop fun I hI => ?_ | refine run_seq (run_loop fun I hI => ?_)
  have key : ∀ (m i : Nat) (x y z u4 : AV) (ob : Den.Id → Option Ob) (ct : Nat → Nat), i + m = l.length → (∀ t, t < i → rowOk l k t = true) →
      I (St.of [(0, dR l), (1, aI k), (4, u4), (5, aI i), (9, x), (33, y), (52, z)] ob ct) := by
    intro m
    induction m with
    | zero =>
      intro i x y z u4 ob ct hi he
      have h1 : ¬ i < l.length := by omega
      refine hI _ ?_
      first | refine run_reg_seq (st' := ?_) ?_ ?_ | refine run_assoc (run_reg_seq (st' := ?_) ?_ ?_) | refine run_reg (st' := ?_) ?_ ?_
      rotate_left 1
      · intro hf K hK; simp [live12, g12_2, binV, h1]; first | exact hK | ((repeat' apply And.intro) <;> first | exact hK | omega)
      first | refine run_cond_seq (b := false) (by simp []) (fun h => by cases h) (fun _ => ?_) | refine run_assoc (run_cond_seq (b := false) (by simp []) (fun h => by cases h) (fun _ => ?_)) | refine run_cond (b := false) (by simp []) (fun h => by cases h) (fun _ => ?_)
      try refine run_skip_seq ?_
      try refine run_exit_seq ?_
      first | refine run_reg_seq (st' := ?_) ?_ ?_ | refine run_assoc (run_reg_seq (st' := ?_) ?_ ?_) | refine run_reg (st' := ?_) ?_ ?_
      rotate_left 1
      · intro hf K hK; simp [live12, g12_8, binV]; first | exact hK | ((repeat' apply And.intro) <;> first | exact hK | omega)
      have := validR_true (l := l) (k := k) fun t ht => he t (by omega)
      simp [Kret, dwp, Kseq, retA, res12, mapO, catO, resA, frzA, idsA, oneOf, this]
    | succ m ih =>
      intro i x y z u4 ob ct hi he
      have h1 : i < l.length := by omega
      have h0 : 0 < l.length := by omega
      have hrow := rowOk_at (k := k) h1
      refine hI _ ?_
      first | refine run_reg_seq (st' := ?_) ?_ ?_ | refine run_assoc (run_reg_seq (st' := ?_) ?_ ?_) | refine run_reg (st' := ?_) ?_ ?_
      rotate_left 1
      · intro hf K hK; simp [live12, g12_2, binV, h1]; first | exact hK | ((repeat' apply And.intro) <;> first | exact hK | omega)
      first | refine run_cond_seq (b := true) (by simp []) (fun _ => ?_) (fun h => by cases h) | refine run_assoc (run_cond_seq (b := true) (by simp []) (fun _ => ?_) (fun h => by cases h)) | refine run_cond (b := true) (by simp []) (fun _ => ?_) (fun h => by cases h)
      try refine run_skip_seq ?_
      try refine run_exit_seq ?_
      refine run_seq ?_
      by_cases c1 : (l[i].cells.length : Int) < k
      · first | refine run_ro_seq (st' := ?_) rfl ?_ ?_ | refine run_assoc (run_ro_seq (st' := ?_) rfl ?_ ?_) | refine run_ro (st' := ?_) rfl ?_ ?_
        rotate_left 1
        · intro hf K hK; simp [live12, g12_3, binV, h1, h0, c1]; first | exact hK | ((repeat' apply And.intro) <;> first | exact hK | omega)
        first | refine run_cond_seq (b := true) (by simp []) (fun _ => ?_) (fun h => by cases h) | refine run_assoc (run_cond_seq (b := true) (by simp []) (fun _ => ?_) (fun h => by cases h)) | refine run_cond (b := true) (by simp []) (fun _ => ?_) (fun h => by cases h)
        try refine run_skip_seq ?_
        try refine run_exit_seq ?_
        first | refine run_reg_seq (st' := ?_) ?_ ?_ | refine run_assoc (run_reg_seq (st' := ?_) ?_ ?_) | refine run_reg (st' := ?_) ?_ ?_
        rotate_left 1
        · intro hf K hK; simp [live12, g12_4]; first | exact hK | ((repeat' apply And.intro) <;> first | exact hK | omega)
        rw [show decide (k ≤ (l[i].cells.length : Int)) = false by simp; omega] at hrow
        have := validR_false h1 hrow
        simp [Kret, dwp, Kseq, retA, res12, mapO, catO, resA, frzA, idsA, oneOf, this]
      · have hk1 : decide (k ≤ (l[i].cells.length : Int)) = true := by simp; omega
        rw [hk1] at hrow
        by_cases c2 : l[i].cells.length = (l[0]'h0).cells.length
        · rw [show decide (l[i].cells.length = (l[0]'h0).cells.length) = true by simpa using c2] at hrow
          have c2' : ((l[i].cells.length : Int) != ((l[0]'h0).cells.length : Int)) = false := by rw [c2]; simp
          first | refine run_ro_seq (st' := ?_) rfl ?_ ?_ | refine run_assoc (run_ro_seq (st' := ?_) rfl ?_ ?_) | refine run_ro (st' := ?_) rfl ?_ ?_
          rotate_left 1
          · intro hf K hK; simp [live12, g12_3, binV, h1, h0, c1, c2']; first | exact hK | ((repeat' apply And.intro) <;> first | exact hK | omega)
          first | refine run_cond_seq (b := false) (by simp []) (fun h => by cases h) (fun _ => ?_) | refine run_assoc (run_cond_seq (b := false) (by simp []) (fun h => by cases h) (fun _ => ?_)) | refine run_cond (b := false) (by simp []) (fun h => by cases h) (fun _ => ?_)
          try refine run_skip_seq ?_
          try refine run_exit_seq ?_
          cases i with
          | zero =>
            first | refine run_ro_seq (st' := ?_) rfl ?_ ?_ | refine run_assoc (run_ro_seq (st' := ?_) rfl ?_ ?_) | refine run_ro (st' := ?_) rfl ?_ ?_
            rotate_left 1
            · intro hf K hK; simp [live12, g12_5, binV]; first | exact hK | ((repeat' apply And.intro) <;> first | exact hK | omega)
            first | refine run_cond_seq (b := false) (by simp []) (fun h => by cases h) (fun _ => ?_) | refine run_assoc (run_cond_seq (b := false) (by simp []) (fun h => by cases h) (fun _ => ?_)) | refine run_cond (b := false) (by simp []) (fun h => by cases h) (fun _ => ?_)
            try refine run_skip_seq ?_
            try refine run_exit_seq ?_
            first | refine run_reg_seq (st' := ?_) ?_ ?_ | refine run_assoc (run_reg_seq (st' := ?_) ?_ ?_) | refine run_reg (st' := ?_) ?_ ?_
            rotate_left 1
            · intro hf K hK; simp [live12, g12_7, binV]; first | exact hK | ((repeat' apply And.intro) <;> first | exact hK | omega)
            refine ih 1 _ _ _ _ _ _ (by omega) (fun t ht => ?_)
            have : t = 0 := by omega
            subst this
            rw [hrow]; rfl
          | succ j =>
            have hj : j < l.length := by omega
            have o1 := hr l[j] (by simp)
            have o2 := hr l[j + 1] (by simp)
            have hsub : IntKind.i64.wrap (((j : Int) + 1) - 1) = (j : Int) := by
              rw [show ((j : Int) + 1) - 1 = (j : Int) by omega]; exact wrap_nat j (by omega)
            have hsub' : IntKind.i64.wrap (j : Int) = (j : Int) := wrap_nat j (by omega)
            have hpos : (0 : Int) < (j : Int) + 1 := by omega
            have hnn : (0 : Int) ≤ (j : Int) + 1 := by omega
            have hli : (j : Int) + 1 < (l.length : Int) := by omega
            have htn : ((j : Int) + 1).toNat = j + 1 := by omega
            first | refine run_ro_seq (st' := ?_) rfl ?_ ?_ | refine run_assoc (run_ro_seq (st' := ?_) rfl ?_ ?_) | refine run_ro (st' := ?_) rfl ?_ ?_
            rotate_left 1
            · intro hf K hK; simp [live12, g12_5, binV, h1, hj, hsub, hsub', hpos, hnn, hli, htn]
              refine (callW_of0 (step9 l[j] k o1.1) [] (by simp [mapO, catO, frzA, binV, h1, hj, hsub, hsub', hpos, hnn, hli, htn]) (by simp [mapO, catO, idsA, binV, h1, hj, hsub, hsub', hpos, hnn, hli, htn]) ?_)
              simp [live12, g12_5, binV, h1, hj, hsub, hsub', hpos, hnn, hli, htn]
              refine (callW_of0 (step9 l[j + 1] k o2.1) [] (by simp [mapO, catO, frzA, binV, h1, hj, hsub, hsub', hpos, hnn, hli, htn]) (by simp [mapO, catO, idsA, binV, h1, hj, hsub, hsub', hpos, hnn, hli, htn]) ?_)
              simp [live12, g12_5, binV, h1, hj, hsub, hsub', hpos, hnn, hli, htn]
              refine (callW_of0 (step44 (keyR l[j] k) (keyR l[j + 1] k) (keyR_ok o1 k) (keyR_ok o2 k) (keyR_len _ _ o1.1) (keyR_len _ _ o2.1)) [] (by simp [mapO, catO, frzA, binV, h1, hj, hsub, hsub', hpos, hnn, hli, htn]) (by simp [mapO, catO, idsA, binV, h1, hj, hsub, hsub', hpos, hnn, hli, htn]) ?_)
              simp [live12, g12_5, binV, h1, hj, hsub, hsub', hpos, hnn, hli, htn]
              first | exact hK | ((repeat' apply And.intro) <;> first | exact hK | omega)
            have hord : ordAt l k (j + 1) = decide (cmpL (keyR l[j] k) (keyR l[j + 1] k) < 0) := by
              simp only [ordAt, List.getElem?_eq_getElem hj, List.getElem?_eq_getElem h1]
            by_cases c3 : cmpL (keyR l[j] k) (keyR l[j + 1] k) < 0
            · first | refine run_cond_seq (b := false) (by simp [c3]) (fun h => by cases h) (fun _ => ?_) | refine run_assoc (run_cond_seq (b := false) (by simp [c3]) (fun h => by cases h) (fun _ => ?_)) | refine run_cond (b := false) (by simp [c3]) (fun h => by cases h) (fun _ => ?_)
              try refine run_skip_seq ?_
              try refine run_exit_seq ?_
              first | refine run_reg_seq (st' := ?_) ?_ ?_ | refine run_assoc (run_reg_seq (st' := ?_) ?_ ?_) | refine run_reg (st' := ?_) ?_ ?_
              rotate_left 1
              · intro hf K hK; simp [live12, g12_7, binV]; first | exact hK | ((repeat' apply And.intro) <;> first | exact hK | omega)
              have hw : IntKind.i64.wrap ((j : Int) + 1 + 1) = ((j + 1 + 1 : Nat) : Int) := by
                have := wrap_nat (j + 1 + 1) (by omega)
                simpa using this
              rw [hw]
              refine ih (j + 1 + 1) _ _ _ _ _ _ (by omega) (fun t ht => ?_)
              rcases Nat.lt_or_ge t (j + 1) with h | h
              · exact he t h
              · have : t = j + 1 := by omega
                subst this
                rw [hrow, hord]; simp [c3]
            · first | refine run_cond_seq (b := true) (by simp [c3, Int.not_lt.1 c3]) (fun _ => ?_) (fun h => by cases h) | refine run_assoc (run_cond_seq (b := true) (by simp [c3, Int.not_lt.1 c3]) (fun _ => ?_) (fun h => by cases h)) | refine run_cond (b := true) (by simp [c3, Int.not_lt.1 c3]) (fun _ => ?_) (fun h => by cases h)
              try refine run_skip_seq ?_
              try refine run_exit_seq ?_
              first | refine run_reg_seq (st' := ?_) ?_ ?_ | refine run_assoc (run_reg_seq (st' := ?_) ?_ ?_) | refine run_reg (st' := ?_) ?_ ?_
              rotate_left 1
              · intro hf K hK; simp [live12, g12_6]; first | exact hK | ((repeat' apply And.intro) <;> first | exact hK | omega)
              rw [hord, show decide (cmpL (keyR l[j] k) (keyR l[j + 1] k) < 0) = false by simpa using c3] at hrow
              have := validR_false h1 hrow
              simp [Kret, dwp, Kseq, retA, res12, mapO, catO, resA, frzA, idsA, oneOf, this]
        · have c2' : ((l[i].cells.length : Int) != ((l[0]'h0).cells.length : Int)) = true := by rw [bne_iff_ne]; omega
          rw [show decide (l[i].cells.length = (l[0]'h0).cells.length) = false by simpa using c2] at hrow
          first | refine run_ro_seq (st' := ?_) rfl ?_ ?_ | refine run_assoc (run_ro_seq (st' := ?_) rfl ?_ ?_) | refine run_ro (st' := ?_) rfl ?_ ?_
          rotate_left 1
          · intro hf K hK; simp [live12, g12_3, binV, h1, h0, c1, c2']; first | exact hK | ((repeat' apply And.intro) <;> first | exact hK | omega)
          first | refine run_cond_seq (b := true) (by simp []) (fun _ => ?_) (fun h => by cases h) | refine run_assoc (run_cond_seq (b := true) (by simp []) (fun _ => ?_) (fun h => by cases h)) | refine run_cond (b := true) (by simp []) (fun _ => ?_) (fun h => by cases h)
          try refine run_skip_seq ?_
          try refine run_exit_seq ?_
          first | refine run_reg_seq (st' := ?_) ?_ ?_ | refine run_assoc (run_reg_seq (st' := ?_) ?_ ?_) | refine run_reg (st' := ?_) ?_ ?_
          rotate_left 1
          · intro hf K hK; simp [live12, g12_4]; first | exact hK | ((repeat' apply And.intro) <;> first | exact hK | omega)
          have := validR_false h1 hrow
          simp [Kret, dwp, Kseq, retA, res12, mapO, catO, resA, frzA, idsA, oneOf, this]
  exact key l.length 0 _ _ _ _ _ _ (by omega) (fun t h => absurd h (by omega))

end Go.Proofs.Ytcmgfnhlnefchaa
