/-
  What the functions that make rows and lists of rows out of bytes come to.
-/
import Derived.Test.YtcmgfnhlnefchaaF11
namespace Go.Proofs.Ytcmgfnhlnefchaa
open Go.Den
set_option linter.unusedVariables false
set_option linter.unusedSimpArgs false

structure R.neat (r : R) : Prop where
  cells : r.cells.length = 3
  small : ∀ c ∈ r.cells, c.v.small
  shares : r.shares.length ≤ 6
  tags : r.tags.length ≤ 1

set_option maxHeartbeats 2000000 in
theorem ex8 (b0 b1 b2 b3 : Int) (h1 : 0 ≤ b1) (h1' : b1 < 256) : ∃ r : R, r.neat ∧ PCall Try.prog 8 [.g [aU b0, aU b1, aU b2, aU b3]] (.g (eR r)) := by
  obtain ⟨v0, s0, p0⟩ := ex41a 0 (IntKind.u8.wrap (12 + b0.tmod 4))
  have q1 : 0 ≤ IntKind.u8.wrap (b1.tdiv 6) := by
    simp [IntKind.wrap, IntKind.bits, IntKind.signed]; omega
  obtain ⟨v1, s1, p1⟩ := ex41b (b1.tmod 6) ((IntKind.u8.wrap (b1.tdiv 6)).tmod 5) (Int.tmod_nonneg _ q1) (by have := Int.tmod_lt_of_pos (IntKind.u8.wrap (b1.tdiv 6)) (show (0 : Int) < 5 by decide); omega)
  obtain ⟨v2, s2, p2⟩ := ex41c b2 b3
  refine ⟨⟨[⟨v0, IntKind.i64.wrap (b3.tmod 3), IntKind.i64.wrap (b2.tmod 4)⟩, ⟨v1, IntKind.i64.wrap (b3.tmod 3), IntKind.i64.wrap (b2.tmod 4)⟩, ⟨v2, IntKind.i64.wrap (b3.tmod 3), IntKind.i64.wrap (b2.tmod 4)⟩],
    if b3.tmod 4 = 1 then [IntKind.i64.wrap b2, 0, 0, 0, 0, IntKind.i64.wrap b0] else [], if b3.tmod 4 = 2 then [(IntKind.i64.wrap (b0.tmod 3), IntKind.i64.wrap (1 + IntKind.i64.wrap (b2.tmod 3)))] else []⟩, ⟨rfl, ?_, ?_, ?_⟩, ?_⟩
  · intro c hc
    simp only [List.mem_cons, List.not_mem_nil, or_false] at hc
    rcases hc with rfl | rfl | rfl
    · exact s0
    · exact s1
    · exact s2
  · dsimp only; split <;> simp
  · dsimp only; split <;> simp
  refine pcall_of_dwp mixed fn8 (by simp) (init_run fun ob ct _ => ?_)
  simp only [List.zipIdx_cons, List.zipIdx_nil, List.map_cons, List.map_nil]
  unfold ac8
  first | refine run_reg_seq (st' := ?_) ?_ ?_ | refine run_assoc (run_reg_seq (st' := ?_) ?_ ?_) | refine run_reg (st' := ?_) ?_ ?_
  rotate_left 1
  · intro hf K hK; simp [live8, g8_0]; first | exact hK | ((repeat' apply And.intro) <;> first | exact hK | omega)
  first | refine run_reg_seq (st' := ?_) ?_ ?_ | refine run_assoc (run_reg_seq (st' := ?_) ?_ ?_) | refine run_reg (st' := ?_) ?_ ?_
  rotate_left 1
  · intro hf K hK; simp [live8, g8_1]; first | exact hK | ((repeat' apply And.intro) <;> first | exact hK | omega)
  first | refine run_reg_seq (st' := ?_) ?_ ?_ | refine run_assoc (run_reg_seq (st' := ?_) ?_ ?_) | refine run_reg (st' := ?_) ?_ ?_
  rotate_left 1
  · intro hf K hK; simp [live8, g8_2]
    refine .inl (callW_of0 (step40) [] (by simp [mapO, catO, frzA]) (by simp [mapO, catO, idsA]) ?_)
    simp [live8, g8_2]; first | exact hK | ((repeat' apply And.intro) <;> first | exact hK | omega)
  first | refine run_reg_seq (st' := ?_) ?_ ?_ | refine run_assoc (run_reg_seq (st' := ?_) ?_ ?_) | refine run_reg (st' := ?_) ?_ ?_
  rotate_left 1
  · intro hf K hK; simp [live8, g8_3, binV]; first | exact hK | ((repeat' apply And.intro) <;> first | exact hK | omega)
  first | refine run_reg_seq (st' := ?_) ?_ ?_ | refine run_assoc (run_reg_seq (st' := ?_) ?_ ?_) | refine run_reg (st' := ?_) ?_ ?_
  rotate_left 1
  · intro hf K hK; simp [live8, g8_4]; first | exact hK | ((repeat' apply And.intro) <;> first | exact hK | omega)
  first | refine run_block (run_loop fun I hI => ?_) | refine run_seq (run_block (run_loop fun I hI => ?_)) | refine run_loop fun I hI => ?_ | refine run_seq (run_loop fun I hI => ?_)
  refine hI _ ?_
  first | refine run_reg_seq (st' := ?_) ?_ ?_ | refine run_assoc (run_reg_seq (st' := ?_) ?_ ?_) | refine run_reg (st' := ?_) ?_ ?_
  rotate_left 1
  · intro hf K hK; simp [live8, g8_5, binV]; first | exact hK | ((repeat' apply And.intro) <;> first | exact hK | omega)
  first | refine run_cond_seq (b := true) (by simp []) (fun _ => ?_) (fun h => by cases h) | refine run_assoc (run_cond_seq (b := true) (by simp []) (fun _ => ?_) (fun h => by cases h)) | refine run_cond (b := true) (by simp []) (fun _ => ?_) (fun h => by cases h)
  try refine run_skip_seq ?_
  try refine run_exit_seq ?_
  refine run_seq ?_
  first | refine run_block ?_ | refine run_seq (run_block ?_) | refine run_assoc (run_seq (run_block ?_))
  have w1 : IntKind.i64.wrap 1 = 1 := by decide
  have w2 : IntKind.i64.wrap 2 = 2 := by decide
  have w3 : IntKind.i64.wrap 3 = 3 := by decide
  first | refine run_drawn_seq (st' := ?_) ?_ ?_ | refine run_assoc (run_drawn_seq (st' := ?_) ?_ ?_) | refine run_drawn (st' := ?_) ?_ ?_
  rotate_left 1
  · intro hf K hK; simp [live8, g8_6, binV]
    refine (callW_of0 (p0) [] (by simp [mapO, catO, frzA, binV]) (by simp [mapO, catO, idsA, binV]) ?_)
    simp [live8, g8_6, binV, eV]; first | exact hK | ((repeat' apply And.intro) <;> first | exact hK | omega)
  first | refine run_reg_seq (st' := ?_) ?_ ?_ | refine run_assoc (run_reg_seq (st' := ?_) ?_ ?_) | refine run_reg (st' := ?_) ?_ ?_
  rotate_left 1
  · intro hf K hK; simp [live8, g8_7, binV, w1]; first | exact hK | ((repeat' apply And.intro) <;> first | exact hK | omega)
  refine hI _ ?_
  first | refine run_reg_seq (st' := ?_) ?_ ?_ | refine run_assoc (run_reg_seq (st' := ?_) ?_ ?_) | refine run_reg (st' := ?_) ?_ ?_
  rotate_left 1
  · intro hf K hK; simp [live8, g8_5, binV]; first | exact hK | ((repeat' apply And.intro) <;> first | exact hK | omega)
  first | refine run_cond_seq (b := true) (by simp []) (fun _ => ?_) (fun h => by cases h) | refine run_assoc (run_cond_seq (b := true) (by simp []) (fun _ => ?_) (fun h => by cases h)) | refine run_cond (b := true) (by simp []) (fun _ => ?_) (fun h => by cases h)
  try refine run_skip_seq ?_
  try refine run_exit_seq ?_
  refine run_seq ?_
  first | refine run_block ?_ | refine run_seq (run_block ?_) | refine run_assoc (run_seq (run_block ?_))
  first | refine run_drawn_seq (st' := ?_) ?_ ?_ | refine run_assoc (run_drawn_seq (st' := ?_) ?_ ?_) | refine run_drawn (st' := ?_) ?_ ?_
  rotate_left 1
  · intro hf K hK; simp [live8, g8_6, binV]
    refine (callW_of0 (p1) [] (by simp [mapO, catO, frzA, binV]) (by simp [mapO, catO, idsA, binV]) ?_)
    simp [live8, g8_6, binV, eV]; first | exact hK | ((repeat' apply And.intro) <;> first | exact hK | omega)
  first | refine run_reg_seq (st' := ?_) ?_ ?_ | refine run_assoc (run_reg_seq (st' := ?_) ?_ ?_) | refine run_reg (st' := ?_) ?_ ?_
  rotate_left 1
  · intro hf K hK; simp [live8, g8_7, binV, w2]; first | exact hK | ((repeat' apply And.intro) <;> first | exact hK | omega)
  refine hI _ ?_
  first | refine run_reg_seq (st' := ?_) ?_ ?_ | refine run_assoc (run_reg_seq (st' := ?_) ?_ ?_) | refine run_reg (st' := ?_) ?_ ?_
  rotate_left 1
  · intro hf K hK; simp [live8, g8_5, binV]; first | exact hK | ((repeat' apply And.intro) <;> first | exact hK | omega)
  first | refine run_cond_seq (b := true) (by simp []) (fun _ => ?_) (fun h => by cases h) | refine run_assoc (run_cond_seq (b := true) (by simp []) (fun _ => ?_) (fun h => by cases h)) | refine run_cond (b := true) (by simp []) (fun _ => ?_) (fun h => by cases h)
  try refine run_skip_seq ?_
  try refine run_exit_seq ?_
  refine run_seq ?_
  first | refine run_block ?_ | refine run_seq (run_block ?_) | refine run_assoc (run_seq (run_block ?_))
  first | refine run_drawn_seq (st' := ?_) ?_ ?_ | refine run_assoc (run_drawn_seq (st' := ?_) ?_ ?_) | refine run_drawn (st' := ?_) ?_ ?_
  rotate_left 1
  · intro hf K hK; simp [live8, g8_6, binV]
    refine (callW_of0 (p2) [] (by simp [mapO, catO, frzA, binV]) (by simp [mapO, catO, idsA, binV]) ?_)
    simp [live8, g8_6, binV, eV]; first | exact hK | ((repeat' apply And.intro) <;> first | exact hK | omega)
  first | refine run_reg_seq (st' := ?_) ?_ ?_ | refine run_assoc (run_reg_seq (st' := ?_) ?_ ?_) | refine run_reg (st' := ?_) ?_ ?_
  rotate_left 1
  · intro hf K hK; simp [live8, g8_7, binV, w3]; first | exact hK | ((repeat' apply And.intro) <;> first | exact hK | omega)
  refine hI _ ?_
  first | refine run_reg_seq (st' := ?_) ?_ ?_ | refine run_assoc (run_reg_seq (st' := ?_) ?_ ?_) | refine run_reg (st' := ?_) ?_ ?_
  rotate_left 1
  · intro hf K hK; simp [live8, g8_5, binV]; first | exact hK | ((repeat' apply And.intro) <;> first | exact hK | omega)
  first | refine run_cond_seq (b := false) (by simp []) (fun h => by cases h) (fun _ => ?_) | refine run_assoc (run_cond_seq (b := false) (by simp []) (fun h => by cases h) (fun _ => ?_)) | refine run_cond (b := false) (by simp []) (fun h => by cases h) (fun _ => ?_)
  try refine run_skip_seq ?_
  try refine run_exit_seq ?_
  first | refine run_reg_seq (st' := ?_) ?_ ?_ | refine run_assoc (run_reg_seq (st' := ?_) ?_ ?_) | refine run_reg (st' := ?_) ?_ ?_
  rotate_left 1
  · intro hf K hK; simp [live8, g8_8, binV]; first | exact hK | ((repeat' apply And.intro) <;> first | exact hK | omega)
  by_cases h61 : b3.tmod 4 = 1
  · first | refine run_cond_seq (b := true) (by simp [h61]) (fun _ => ?_) (fun h => by cases h) | refine run_assoc (run_cond_seq (b := true) (by simp [h61]) (fun _ => ?_) (fun h => by cases h)) | refine run_cond (b := true) (by simp [h61]) (fun _ => ?_) (fun h => by cases h)
    try refine run_skip_seq ?_
    try refine run_exit_seq ?_
    first | refine run_reg_seq (st' := ?_) ?_ ?_ | refine run_assoc (run_reg_seq (st' := ?_) ?_ ?_) | refine run_reg (st' := ?_) ?_ ?_
    rotate_left 1
    · intro hf K hK; simp [live8, g8_9, binV]; first | exact hK | ((repeat' apply And.intro) <;> first | exact hK | omega)
    first | refine run_reg_seq (st' := ?_) ?_ ?_ | refine run_assoc (run_reg_seq (st' := ?_) ?_ ?_) | refine run_reg (st' := ?_) ?_ ?_
    rotate_left 1
    · intro hf K hK; simp [live8, g8_10, binV, h61]; first | exact hK | ((repeat' apply And.intro) <;> first | exact hK | omega)
    first | refine run_cond_seq (b := false) (by simp []) (fun h => by cases h) (fun _ => ?_) | refine run_assoc (run_cond_seq (b := false) (by simp []) (fun h => by cases h) (fun _ => ?_)) | refine run_cond (b := false) (by simp []) (fun h => by cases h) (fun _ => ?_)
    try refine run_skip_seq ?_
    try refine run_exit_seq ?_
    first | refine run_reg_seq (st' := ?_) ?_ ?_ | refine run_assoc (run_reg_seq (st' := ?_) ?_ ?_) | refine run_reg (st' := ?_) ?_ ?_
    rotate_left 1
    · intro hf K hK; simp [live8, g8_12]; first | exact hK | ((repeat' apply And.intro) <;> first | exact hK | omega)
    simp [Kret, dwp, Kseq, retA, res8, mapO, catO, resA, frzA, idsA, oneOf, eR, eC, eN, h61]
  · first | refine run_cond_seq (b := false) (by simp [h61]) (fun h => by cases h) (fun _ => ?_) | refine run_assoc (run_cond_seq (b := false) (by simp [h61]) (fun h => by cases h) (fun _ => ?_)) | refine run_cond (b := false) (by simp [h61]) (fun h => by cases h) (fun _ => ?_)
    try refine run_skip_seq ?_
    try refine run_exit_seq ?_
    by_cases h73 : b3.tmod 4 = 2
    · first | refine run_reg_seq (st' := ?_) ?_ ?_ | refine run_assoc (run_reg_seq (st' := ?_) ?_ ?_) | refine run_reg (st' := ?_) ?_ ?_
      rotate_left 1
      · intro hf K hK; simp [live8, g8_10, binV, h73]; first | exact hK | ((repeat' apply And.intro) <;> first | exact hK | omega)
      first | refine run_cond_seq (b := true) (by simp []) (fun _ => ?_) (fun h => by cases h) | refine run_assoc (run_cond_seq (b := true) (by simp []) (fun _ => ?_) (fun h => by cases h)) | refine run_cond (b := true) (by simp []) (fun _ => ?_) (fun h => by cases h)
      try refine run_skip_seq ?_
      try refine run_exit_seq ?_
      first | refine run_reg_seq (st' := ?_) ?_ ?_ | refine run_assoc (run_reg_seq (st' := ?_) ?_ ?_) | refine run_reg (st' := ?_) ?_ ?_
      rotate_left 1
      · intro hf K hK; simp [live8, g8_11, binV]; first | exact hK | ((repeat' apply And.intro) <;> first | exact hK | omega)
      first | refine run_reg_seq (st' := ?_) ?_ ?_ | refine run_assoc (run_reg_seq (st' := ?_) ?_ ?_) | refine run_reg (st' := ?_) ?_ ?_
      rotate_left 1
      · intro hf K hK; simp [live8, g8_12]; first | exact hK | ((repeat' apply And.intro) <;> first | exact hK | omega)
      simp [Kret, dwp, Kseq, retA, res8, mapO, catO, resA, frzA, idsA, oneOf, eR, eC, eN, h61, h73]
    · first | refine run_reg_seq (st' := ?_) ?_ ?_ | refine run_assoc (run_reg_seq (st' := ?_) ?_ ?_) | refine run_reg (st' := ?_) ?_ ?_
      rotate_left 1
      · intro hf K hK; simp [live8, g8_10, binV, h73]; first | exact hK | ((repeat' apply And.intro) <;> first | exact hK | omega)
      first | refine run_cond_seq (b := false) (by simp [h73]) (fun h => by cases h) (fun _ => ?_) | refine run_assoc (run_cond_seq (b := false) (by simp [h73]) (fun h => by cases h) (fun _ => ?_)) | refine run_cond (b := false) (by simp [h73]) (fun h => by cases h) (fun _ => ?_)
      try refine run_skip_seq ?_
      try refine run_exit_seq ?_
      first | refine run_reg_seq (st' := ?_) ?_ ?_ | refine run_assoc (run_reg_seq (st' := ?_) ?_ ?_) | refine run_reg (st' := ?_) ?_ ?_
      rotate_left 1
      · intro hf K hK; simp [live8, g8_12]; first | exact hK | ((repeat' apply And.intro) <;> first | exact hK | omega)
      simp [Kret, dwp, Kseq, retA, res8, mapO, catO, resA, frzA, idsA, oneOf, eR, eC, eN, h61, h73]

end Go.Proofs.Ytcmgfnhlnefchaa
