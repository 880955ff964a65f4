/-
  What the functions that make values and rows out of bytes come to: some row, of which what matters is told.
-/
import Derived.Test.YtcmgfnhlnefchaaF10
namespace Go.Proofs.Ytcmgfnhlnefchaa
open Go.Den
set_option linter.unusedVariables false
set_option linter.unusedSimpArgs false

abbrev aU (n : Int) : AV := .s (.int .u8 n)
def V.small (v : V) : Prop := v.s.size ≤ 40

def T0 : List (Nat × FI) := [(60, ⟨13, res60, ac60⟩), (40, ⟨5, res40, ac40⟩)]
theorem T0_ok : ∀ f i, tblF T0 f = some i → Den.Fn Try.prog f i.nt i.rs i.ac := by
  intro f i h
  unfold T0 tblF at h
  cases h1 : Nat.beq f 60 with
  | true => rw [h1] at h; simp only [cond_true, Option.some.injEq] at h; subst h; rw [Nat.eq_of_beq_eq_true h1]; exact fn60
  | false =>
    rw [h1] at h
    unfold tblF at h
    cases h2 : Nat.beq f 40 with
    | true => rw [h2] at h; simp only [cond_false, cond_true, Option.some.injEq] at h; subst h; rw [Nat.eq_of_beq_eq_true h2]; exact fn40
    | false => rw [h2] at h; cases h
theorem step60_0 : PCall Try.prog 60 [aI 0] (aI 1000000) := (evX_sound mixed T0_ok (ov := fun _ _ => none) (by intro _ _ _ h; cases h) (isI := fun _ => false) (n := 20) 3).p _ _ _ (by kernel_rfl)
theorem step60_2 : PCall Try.prog 60 [aI 2] (aI 10000) := (evX_sound mixed T0_ok (ov := fun _ _ => none) (by intro _ _ _ h; cases h) (isI := fun _ => false) (n := 20) 3).p _ _ _ (by kernel_rfl)
theorem step40 : PCall Try.prog 40 [] (.d false 3 [[aI 2, aI 0, aB false], [aI 3, aI 0, aB true], [aI 2, aI 2, aB true]]) := (evX_sound mixed T0_ok (ov := fun _ _ => none) (by intro _ _ _ h; cases h) (isI := fun _ => false) (n := 20) 3).p _ _ _ (by kernel_rfl)

theorem step57 : PCall Try.prog 57 [] (.g (eV ⟨0, 0, ⟨#[]⟩⟩)) := by
  refine pcall_of_dwp mixed fn57 (by simp) (init_run fun ob ct _ => ?_)
  simp only [List.zipIdx_cons, List.zipIdx_nil, List.map_cons, List.map_nil]
  unfold ac57
  first | refine run_reg_seq (st' := ?_) ?_ ?_ | refine run_assoc (run_reg_seq (st' := ?_) ?_ ?_) | refine run_reg (st' := ?_) ?_ ?_
  rotate_left 1
  · intro hf K hK; simp [live57, g57_0]; first | exact hK | ((repeat' apply And.intro) <;> first | exact hK | omega)
  first | refine run_reg_seq (st' := ?_) ?_ ?_ | refine run_assoc (run_reg_seq (st' := ?_) ?_ ?_) | refine run_reg (st' := ?_) ?_ ?_
  rotate_left 1
  · intro hf K hK; simp [live57, g57_1]; first | exact hK | ((repeat' apply And.intro) <;> first | exact hK | omega)
  simp [Kret, dwp, Kseq, retA, res57, mapO, catO, resA, frzA, idsA, oneOf, eV]
theorem step59 (n : Int) : PCall Try.prog 59 [aI n] (.g (eV ⟨2, n, ⟨#[]⟩⟩)) := by
  refine pcall_of_dwp mixed fn59 (by simp) (init_run fun ob ct _ => ?_)
  simp only [List.zipIdx_cons, List.zipIdx_nil, List.map_cons, List.map_nil]
  unfold ac59
  first | refine run_reg_seq (st' := ?_) ?_ ?_ | refine run_assoc (run_reg_seq (st' := ?_) ?_ ?_) | refine run_reg (st' := ?_) ?_ ?_
  rotate_left 1
  · intro hf K hK; simp [live59, g59_0]; first | exact hK | ((repeat' apply And.intro) <;> first | exact hK | omega)
  first | refine run_reg_seq (st' := ?_) ?_ ?_ | refine run_assoc (run_reg_seq (st' := ?_) ?_ ?_) | refine run_reg (st' := ?_) ?_ ?_
  rotate_left 1
  · intro hf K hK; simp [live59, g59_1]; first | exact hK | ((repeat' apply And.intro) <;> first | exact hK | omega)
  simp [Kret, dwp, Kseq, retA, res59, mapO, catO, resA, frzA, idsA, oneOf, eV]
theorem step61 (s : ByteArray) : PCall Try.prog 61 [aS s] (.g (eV ⟨3, 0, s⟩)) := by
  refine pcall_of_dwp mixed fn61 (by simp) (init_run fun ob ct _ => ?_)
  simp only [List.zipIdx_cons, List.zipIdx_nil, List.map_cons, List.map_nil]
  unfold ac61
  first | refine run_reg_seq (st' := ?_) ?_ ?_ | refine run_assoc (run_reg_seq (st' := ?_) ?_ ?_) | refine run_reg (st' := ?_) ?_ ?_
  rotate_left 1
  · intro hf K hK; simp [live61, g61_0]; first | exact hK | ((repeat' apply And.intro) <;> first | exact hK | omega)
  first | refine run_reg_seq (st' := ?_) ?_ ?_ | refine run_assoc (run_reg_seq (st' := ?_) ?_ ?_) | refine run_reg (st' := ?_) ?_ ?_
  rotate_left 1
  · intro hf K hK; simp [live61, g61_1]; first | exact hK | ((repeat' apply And.intro) <;> first | exact hK | omega)
  simp [Kret, dwp, Kseq, retA, res61, mapO, catO, resA, frzA, idsA, oneOf, eV]
theorem step56 (n : Int) : PCall Try.prog 56 [aI n] (.g (eV ⟨2, IntKind.i64.wrap (n * 1000000), ⟨#[]⟩⟩)) := by
  refine pcall_of_dwp mixed fn56 (by simp) (init_run fun ob ct _ => ?_)
  simp only [List.zipIdx_cons, List.zipIdx_nil, List.map_cons, List.map_nil]
  unfold ac56
  first | refine run_reg_seq (st' := ?_) ?_ ?_ | refine run_assoc (run_reg_seq (st' := ?_) ?_ ?_) | refine run_reg (st' := ?_) ?_ ?_
  rotate_left 1
  · intro hf K hK; simp [live56, g56_0]; first | exact hK | ((repeat' apply And.intro) <;> first | exact hK | omega)
  first | refine run_reg_seq (st' := ?_) ?_ ?_ | refine run_assoc (run_reg_seq (st' := ?_) ?_ ?_) | refine run_reg (st' := ?_) ?_ ?_
  rotate_left 1
  · intro hf K hK; simp [live56, g56_1, binV]
    refine .inl (callW_of0 (step59 (IntKind.i64.wrap (n * 1000000))) [] (by simp [mapO, catO, frzA, binV]) (by simp [mapO, catO, idsA, binV]) ?_)
    simp [live56, g56_1, binV, eV]; first | exact hK | ((repeat' apply And.intro) <;> first | exact hK | omega)
  simp [Kret, dwp, Kseq, retA, res56, mapO, catO, resA, frzA, idsA, oneOf, eV]
def wl : List ByteArray := [⟨#[]⟩, ⟨#[97]⟩, ⟨#[98]⟩, ⟨#[97, 98]⟩, ⟨#[97, 32, 98]⟩, ⟨#[98, 32, 97, 32, 99]⟩, ⟨#[120, 45, 121]⟩, ⟨#[45]⟩, ⟨#[49, 50]⟩, ⟨#[45, 48, 46, 53]⟩, ⟨#[97, 34, 98]⟩, ⟨#[92]⟩, ⟨#[48]⟩, ⟨#[55, 46, 50, 53]⟩, ⟨#[97, 98, 99, 100, 101, 102, 103, 104, 105, 106, 107, 108, 109, 110, 111, 112, 113, 114, 115, 116, 117, 118, 119, 120, 121, 122, 97, 98, 99, 100, 101, 102, 103, 104, 105, 106, 107, 108, 109, 110]⟩]
theorem wl_small : ∀ s ∈ wl, s.size ≤ 40 := by decide
theorem ex62 (n : Int) (h0 : 0 ≤ n) : ∃ s : ByteArray, s.size ≤ 40 ∧ PCall Try.prog 62 [aI n] (aS s) := by
  obtain ⟨k, hk⟩ : ∃ k : Nat, n.tmod 15 = k := ⟨(n.tmod 15).toNat, by rw [Int.toNat_of_nonneg (Int.tmod_nonneg _ h0)]⟩
  have hlt : k < 15 := by
    have := Int.tmod_lt_of_pos n (show (0 : Int) < 15 by decide)
    omega
  have hlw : k < wl.length := hlt
  refine ⟨wl[k], wl_small _ (List.getElem_mem _), ?_⟩
  have hget : (wl.map fun s => [aS s])[k]? = some [aS wl[k]] := by simp [hlw]
  generalize wl[k] = s at hget
  have hk15 : (k : Int) < 15 := by omega
  refine pcall_of_dwp mixed fn62 (by simp) (init_run fun ob ct _ => ?_)
  simp only [List.zipIdx_cons, List.zipIdx_nil, List.map_cons, List.map_nil]
  unfold ac62
  first | refine run_reg_seq (st' := ?_) ?_ ?_ | refine run_assoc (run_reg_seq (st' := ?_) ?_ ?_) | refine run_reg (st' := ?_) ?_ ?_
  rotate_left 1
  · intro hf K hK; simp [live62, g62_0]; first | exact hK | ((repeat' apply And.intro) <;> first | exact hK | omega)
  first | refine run_reg_seq (st' := ?_) ?_ ?_ | refine run_assoc (run_reg_seq (st' := ?_) ?_ ?_) | refine run_reg (st' := ?_) ?_ ?_
  rotate_left 1
  · intro hf K hK; simp only [wl, List.map_cons, List.map_nil] at hget; simp [live62, g62_1, binV, hk, hk15, hget]; first | exact hK | ((repeat' apply And.intro) <;> first | exact hK | omega)
  simp [Kret, dwp, Kseq, retA, res62, mapO, catO, resA, frzA, idsA, oneOf]

theorem ex41a (b0 b1 : Int) : ∃ v : V, v.small ∧ PCall Try.prog 41 [.g [aI 2, aI 0, aB false], .g [aU b0, aU b1]] (.g (eV v)) := by
  by_cases h4 : b0.tmod 4 = 1
  · refine ⟨⟨2, IntKind.i64.wrap (IntKind.i64.wrap (IntKind.i64.wrap (b1.tmod 40) - 12) * 1000000), ⟨#[]⟩⟩, (by show 0 ≤ 40; omega), ?_⟩
    refine pcall_of_dwp mixed fn41 (by simp) (init_run fun ob ct _ => ?_)
    simp only [List.zipIdx_cons, List.zipIdx_nil, List.map_cons, List.map_nil]
    unfold ac41
    first | refine run_reg_seq (st' := ?_) ?_ ?_ | refine run_assoc (run_reg_seq (st' := ?_) ?_ ?_) | refine run_reg (st' := ?_) ?_ ?_
    rotate_left 1
    · intro hf K hK; simp [live41, g41_0]; first | exact hK | ((repeat' apply And.intro) <;> first | exact hK | omega)
    first | refine run_reg_seq (st' := ?_) ?_ ?_ | refine run_assoc (run_reg_seq (st' := ?_) ?_ ?_) | refine run_reg (st' := ?_) ?_ ?_
    rotate_left 1
    · intro hf K hK; simp [live41, g41_1]; first | exact hK | ((repeat' apply And.intro) <;> first | exact hK | omega)
    first | refine run_cond_seq (b := false) (by simp []) (fun h => by cases h) (fun _ => ?_) | refine run_assoc (run_cond_seq (b := false) (by simp []) (fun h => by cases h) (fun _ => ?_)) | refine run_cond (b := false) (by simp []) (fun h => by cases h) (fun _ => ?_)
    try refine run_skip_seq ?_
    try refine run_exit_seq ?_
    first | refine run_reg_seq (st' := ?_) ?_ ?_ | refine run_assoc (run_reg_seq (st' := ?_) ?_ ?_) | refine run_reg (st' := ?_) ?_ ?_
    rotate_left 1
    · intro hf K hK; simp [live41, g41_3]; first | exact hK | ((repeat' apply And.intro) <;> first | exact hK | omega)
    first | refine run_block ?_ | refine run_seq (run_block ?_) | refine run_assoc (run_seq (run_block ?_))
    first | refine run_reg_seq (st' := ?_) ?_ ?_ | refine run_assoc (run_reg_seq (st' := ?_) ?_ ?_) | refine run_reg (st' := ?_) ?_ ?_
    rotate_left 1
    · intro hf K hK; simp [live41, g41_4, binV]; first | exact hK | ((repeat' apply And.intro) <;> first | exact hK | omega)
    first | refine run_cond_seq (b := false) (by simp []) (fun h => by cases h) (fun _ => ?_) | refine run_assoc (run_cond_seq (b := false) (by simp []) (fun h => by cases h) (fun _ => ?_)) | refine run_cond (b := false) (by simp []) (fun h => by cases h) (fun _ => ?_)
    try refine run_skip_seq ?_
    try refine run_exit_seq ?_
    first | refine run_reg_seq (st' := ?_) ?_ ?_ | refine run_assoc (run_reg_seq (st' := ?_) ?_ ?_) | refine run_reg (st' := ?_) ?_ ?_
    rotate_left 1
    · intro hf K hK; simp [live41, g41_6, binV]; first | exact hK | ((repeat' apply And.intro) <;> first | exact hK | omega)
    first | refine run_cond_seq (b := true) (by simp []) (fun _ => ?_) (fun h => by cases h) | refine run_assoc (run_cond_seq (b := true) (by simp []) (fun _ => ?_) (fun h => by cases h)) | refine run_cond (b := true) (by simp []) (fun _ => ?_) (fun h => by cases h)
    try refine run_skip_seq ?_
    try refine run_exit_seq ?_
    first | refine run_reg_seq (st' := ?_) ?_ ?_ | refine run_assoc (run_reg_seq (st' := ?_) ?_ ?_) | refine run_reg (st' := ?_) ?_ ?_
    rotate_left 1
    · intro hf K hK; simp [live41, g41_7, binV]; first | exact hK | ((repeat' apply And.intro) <;> first | exact hK | omega)
    first | refine run_reg_seq (st' := ?_) ?_ ?_ | refine run_assoc (run_reg_seq (st' := ?_) ?_ ?_) | refine run_reg (st' := ?_) ?_ ?_
    rotate_left 1
    · intro hf K hK; simp [live41, g41_8, binV]; first | exact hK | ((repeat' apply And.intro) <;> first | exact hK | omega)
    first | refine run_cond_seq (b := true) (by simp [h4]) (fun _ => ?_) (fun h => by cases h) | refine run_assoc (run_cond_seq (b := true) (by simp [h4]) (fun _ => ?_) (fun h => by cases h)) | refine run_cond (b := true) (by simp [h4]) (fun _ => ?_) (fun h => by cases h)
    try refine run_skip_seq ?_
    try refine run_exit_seq ?_
    first | refine run_reg_seq (st' := ?_) ?_ ?_ | refine run_assoc (run_reg_seq (st' := ?_) ?_ ?_) | refine run_reg (st' := ?_) ?_ ?_
    rotate_left 1
    · intro hf K hK; simp [live41, g41_9, binV]
      refine .inl (callW_of0 (step60_0) [] (by simp [mapO, catO, frzA, binV]) (by simp [mapO, catO, idsA, binV]) ?_)
      simp [live41, g41_9, binV]
      refine .inl (callW_of0 (step59 (IntKind.i64.wrap (IntKind.i64.wrap (IntKind.i64.wrap (b1.tmod 40) - 12) * 1000000))) [] (by simp [mapO, catO, frzA, binV]) (by simp [mapO, catO, idsA, binV]) ?_)
      simp [live41, g41_9, binV]
      first | exact hK | ((repeat' apply And.intro) <;> first | exact hK | omega)
    simp [Kret, dwp, Kseq, retA, res41, mapO, catO, resA, frzA, idsA, oneOf, eV]
  · refine ⟨⟨2, IntKind.i64.wrap (IntKind.i64.wrap (IntKind.i64.wrap (b1.tmod 40) - 12) * 1000000), ⟨#[]⟩⟩, (by show 0 ≤ 40; omega), ?_⟩
    refine pcall_of_dwp mixed fn41 (by simp) (init_run fun ob ct _ => ?_)
    simp only [List.zipIdx_cons, List.zipIdx_nil, List.map_cons, List.map_nil]
    unfold ac41
    first | refine run_reg_seq (st' := ?_) ?_ ?_ | refine run_assoc (run_reg_seq (st' := ?_) ?_ ?_) | refine run_reg (st' := ?_) ?_ ?_
    rotate_left 1
    · intro hf K hK; simp [live41, g41_0]; first | exact hK | ((repeat' apply And.intro) <;> first | exact hK | omega)
    first | refine run_reg_seq (st' := ?_) ?_ ?_ | refine run_assoc (run_reg_seq (st' := ?_) ?_ ?_) | refine run_reg (st' := ?_) ?_ ?_
    rotate_left 1
    · intro hf K hK; simp [live41, g41_1]; first | exact hK | ((repeat' apply And.intro) <;> first | exact hK | omega)
    first | refine run_cond_seq (b := false) (by simp []) (fun h => by cases h) (fun _ => ?_) | refine run_assoc (run_cond_seq (b := false) (by simp []) (fun h => by cases h) (fun _ => ?_)) | refine run_cond (b := false) (by simp []) (fun h => by cases h) (fun _ => ?_)
    try refine run_skip_seq ?_
    try refine run_exit_seq ?_
    first | refine run_reg_seq (st' := ?_) ?_ ?_ | refine run_assoc (run_reg_seq (st' := ?_) ?_ ?_) | refine run_reg (st' := ?_) ?_ ?_
    rotate_left 1
    · intro hf K hK; simp [live41, g41_3]; first | exact hK | ((repeat' apply And.intro) <;> first | exact hK | omega)
    first | refine run_block ?_ | refine run_seq (run_block ?_) | refine run_assoc (run_seq (run_block ?_))
    first | refine run_reg_seq (st' := ?_) ?_ ?_ | refine run_assoc (run_reg_seq (st' := ?_) ?_ ?_) | refine run_reg (st' := ?_) ?_ ?_
    rotate_left 1
    · intro hf K hK; simp [live41, g41_4, binV]; first | exact hK | ((repeat' apply And.intro) <;> first | exact hK | omega)
    first | refine run_cond_seq (b := false) (by simp []) (fun h => by cases h) (fun _ => ?_) | refine run_assoc (run_cond_seq (b := false) (by simp []) (fun h => by cases h) (fun _ => ?_)) | refine run_cond (b := false) (by simp []) (fun h => by cases h) (fun _ => ?_)
    try refine run_skip_seq ?_
    try refine run_exit_seq ?_
    first | refine run_reg_seq (st' := ?_) ?_ ?_ | refine run_assoc (run_reg_seq (st' := ?_) ?_ ?_) | refine run_reg (st' := ?_) ?_ ?_
    rotate_left 1
    · intro hf K hK; simp [live41, g41_6, binV]; first | exact hK | ((repeat' apply And.intro) <;> first | exact hK | omega)
    first | refine run_cond_seq (b := true) (by simp []) (fun _ => ?_) (fun h => by cases h) | refine run_assoc (run_cond_seq (b := true) (by simp []) (fun _ => ?_) (fun h => by cases h)) | refine run_cond (b := true) (by simp []) (fun _ => ?_) (fun h => by cases h)
    try refine run_skip_seq ?_
    try refine run_exit_seq ?_
    first | refine run_reg_seq (st' := ?_) ?_ ?_ | refine run_assoc (run_reg_seq (st' := ?_) ?_ ?_) | refine run_reg (st' := ?_) ?_ ?_
    rotate_left 1
    · intro hf K hK; simp [live41, g41_7, binV]; first | exact hK | ((repeat' apply And.intro) <;> first | exact hK | omega)
    first | refine run_reg_seq (st' := ?_) ?_ ?_ | refine run_assoc (run_reg_seq (st' := ?_) ?_ ?_) | refine run_reg (st' := ?_) ?_ ?_
    rotate_left 1
    · intro hf K hK; simp [live41, g41_8, binV]; first | exact hK | ((repeat' apply And.intro) <;> first | exact hK | omega)
    first | refine run_cond_seq (b := false) (by simp [h4]) (fun h => by cases h) (fun _ => ?_) | refine run_assoc (run_cond_seq (b := false) (by simp [h4]) (fun h => by cases h) (fun _ => ?_)) | refine run_cond (b := false) (by simp [h4]) (fun h => by cases h) (fun _ => ?_)
    try refine run_skip_seq ?_
    try refine run_exit_seq ?_
    first | refine run_reg_seq (st' := ?_) ?_ ?_ | refine run_assoc (run_reg_seq (st' := ?_) ?_ ?_) | refine run_reg (st' := ?_) ?_ ?_
    rotate_left 1
    · intro hf K hK; simp [live41, g41_10, binV]
      refine .inl (callW_of0 (step56 (IntKind.i64.wrap (IntKind.i64.wrap (b1.tmod 40) - 12))) [] (by simp [mapO, catO, frzA, binV]) (by simp [mapO, catO, idsA, binV]) ?_)
      simp [live41, g41_10, binV]
      first | exact hK | ((repeat' apply And.intro) <;> first | exact hK | omega)
    simp [Kret, dwp, Kseq, retA, res41, mapO, catO, resA, frzA, idsA, oneOf, eV]
theorem ex41b (b0 b1 : Int) (h1 : 0 ≤ b1) (h2 : b1 < 256) : ∃ v : V, v.small ∧ PCall Try.prog 41 [.g [aI 3, aI 0, aB true], .g [aU b0, aU b1]] (.g (eV v)) := by
  by_cases h5 : b0.tmod 5 = 0
  · refine ⟨⟨0, 0, ⟨#[]⟩⟩, (by show 0 ≤ 40; omega), ?_⟩
    refine pcall_of_dwp mixed fn41 (by simp) (init_run fun ob ct _ => ?_)
    simp only [List.zipIdx_cons, List.zipIdx_nil, List.map_cons, List.map_nil]
    unfold ac41
    first | refine run_reg_seq (st' := ?_) ?_ ?_ | refine run_assoc (run_reg_seq (st' := ?_) ?_ ?_) | refine run_reg (st' := ?_) ?_ ?_
    rotate_left 1
    · intro hf K hK; simp [live41, g41_0]; first | exact hK | ((repeat' apply And.intro) <;> first | exact hK | omega)
    first | refine run_reg_seq (st' := ?_) ?_ ?_ | refine run_assoc (run_reg_seq (st' := ?_) ?_ ?_) | refine run_reg (st' := ?_) ?_ ?_
    rotate_left 1
    · intro hf K hK; simp [live41, g41_1, binV]; first | exact hK | ((repeat' apply And.intro) <;> first | exact hK | omega)
    first | refine run_cond_seq (b := true) (by simp [h5]) (fun _ => ?_) (fun h => by cases h) | refine run_assoc (run_cond_seq (b := true) (by simp [h5]) (fun _ => ?_) (fun h => by cases h)) | refine run_cond (b := true) (by simp [h5]) (fun _ => ?_) (fun h => by cases h)
    try refine run_skip_seq ?_
    try refine run_exit_seq ?_
    first | refine run_reg_seq (st' := ?_) ?_ ?_ | refine run_assoc (run_reg_seq (st' := ?_) ?_ ?_) | refine run_reg (st' := ?_) ?_ ?_
    rotate_left 1
    · intro hf K hK; simp [live41, g41_2]
      refine .inl (callW_of0 (step57) [] (by simp [mapO, catO, frzA]) (by simp [mapO, catO, idsA]) ?_)
      simp [live41, g41_2, eV]; first | exact hK | ((repeat' apply And.intro) <;> first | exact hK | omega)
    simp [Kret, dwp, Kseq, retA, res41, mapO, catO, resA, frzA, idsA, oneOf, eV]
  · obtain ⟨s, hs, hw⟩ := ex62 b1 h1
    refine ⟨⟨3, 0, s⟩, hs, ?_⟩
    have hwr : IntKind.i64.wrap b1 = b1 := by
      obtain ⟨n, rfl⟩ : ∃ n : Nat, b1 = n := ⟨b1.toNat, (Int.toNat_of_nonneg h1).symm⟩
      exact wrap_nat n (by omega)
    refine pcall_of_dwp mixed fn41 (by simp) (init_run fun ob ct _ => ?_)
    simp only [List.zipIdx_cons, List.zipIdx_nil, List.map_cons, List.map_nil]
    unfold ac41
    first | refine run_reg_seq (st' := ?_) ?_ ?_ | refine run_assoc (run_reg_seq (st' := ?_) ?_ ?_) | refine run_reg (st' := ?_) ?_ ?_
    rotate_left 1
    · intro hf K hK; simp [live41, g41_0]; first | exact hK | ((repeat' apply And.intro) <;> first | exact hK | omega)
    first | refine run_reg_seq (st' := ?_) ?_ ?_ | refine run_assoc (run_reg_seq (st' := ?_) ?_ ?_) | refine run_reg (st' := ?_) ?_ ?_
    rotate_left 1
    · intro hf K hK; simp [live41, g41_1, binV]; first | exact hK | ((repeat' apply And.intro) <;> first | exact hK | omega)
    first | refine run_cond_seq (b := false) (by simp [h5]) (fun h => by cases h) (fun _ => ?_) | refine run_assoc (run_cond_seq (b := false) (by simp [h5]) (fun h => by cases h) (fun _ => ?_)) | refine run_cond (b := false) (by simp [h5]) (fun h => by cases h) (fun _ => ?_)
    try refine run_skip_seq ?_
    try refine run_exit_seq ?_
    first | refine run_reg_seq (st' := ?_) ?_ ?_ | refine run_assoc (run_reg_seq (st' := ?_) ?_ ?_) | refine run_reg (st' := ?_) ?_ ?_
    rotate_left 1
    · intro hf K hK; simp [live41, g41_3]; first | exact hK | ((repeat' apply And.intro) <;> first | exact hK | omega)
    first | refine run_block ?_ | refine run_seq (run_block ?_) | refine run_assoc (run_seq (run_block ?_))
    first | refine run_reg_seq (st' := ?_) ?_ ?_ | refine run_assoc (run_reg_seq (st' := ?_) ?_ ?_) | refine run_reg (st' := ?_) ?_ ?_
    rotate_left 1
    · intro hf K hK; simp [live41, g41_4, binV]; first | exact hK | ((repeat' apply And.intro) <;> first | exact hK | omega)
    first | refine run_cond_seq (b := false) (by simp []) (fun h => by cases h) (fun _ => ?_) | refine run_assoc (run_cond_seq (b := false) (by simp []) (fun h => by cases h) (fun _ => ?_)) | refine run_cond (b := false) (by simp []) (fun h => by cases h) (fun _ => ?_)
    try refine run_skip_seq ?_
    try refine run_exit_seq ?_
    first | refine run_reg_seq (st' := ?_) ?_ ?_ | refine run_assoc (run_reg_seq (st' := ?_) ?_ ?_) | refine run_reg (st' := ?_) ?_ ?_
    rotate_left 1
    · intro hf K hK; simp [live41, g41_6, binV]; first | exact hK | ((repeat' apply And.intro) <;> first | exact hK | omega)
    first | refine run_cond_seq (b := false) (by simp []) (fun h => by cases h) (fun _ => ?_) | refine run_assoc (run_cond_seq (b := false) (by simp []) (fun h => by cases h) (fun _ => ?_)) | refine run_cond (b := false) (by simp []) (fun h => by cases h) (fun _ => ?_)
    try refine run_skip_seq ?_
    try refine run_exit_seq ?_
    first | refine run_reg_seq (st' := ?_) ?_ ?_ | refine run_assoc (run_reg_seq (st' := ?_) ?_ ?_) | refine run_reg (st' := ?_) ?_ ?_
    rotate_left 1
    · intro hf K hK; simp [live41, g41_11, hwr]
      refine .inl (callW_of0 (hw) [] (by simp [mapO, catO, frzA, hwr]) (by simp [mapO, catO, idsA, hwr]) ?_)
      simp [live41, g41_11, hwr]
      refine .inl (callW_of0 (step61 s) [] (by simp [mapO, catO, frzA, hwr]) (by simp [mapO, catO, idsA, hwr]) ?_)
      simp [live41, g41_11, hwr]
      first | exact hK | ((repeat' apply And.intro) <;> first | exact hK | omega)
    simp [Kret, dwp, Kseq, retA, res41, mapO, catO, resA, frzA, idsA, oneOf, eV]
theorem ex41c (b0 b1 : Int) : ∃ v : V, v.small ∧ PCall Try.prog 41 [.g [aI 2, aI 2, aB true], .g [aU b0, aU b1]] (.g (eV v)) := by
  by_cases h5 : b0.tmod 5 = 0
  · refine ⟨⟨0, 0, ⟨#[]⟩⟩, (by show 0 ≤ 40; omega), ?_⟩
    refine pcall_of_dwp mixed fn41 (by simp) (init_run fun ob ct _ => ?_)
    simp only [List.zipIdx_cons, List.zipIdx_nil, List.map_cons, List.map_nil]
    unfold ac41
    first | refine run_reg_seq (st' := ?_) ?_ ?_ | refine run_assoc (run_reg_seq (st' := ?_) ?_ ?_) | refine run_reg (st' := ?_) ?_ ?_
    rotate_left 1
    · intro hf K hK; simp [live41, g41_0]; first | exact hK | ((repeat' apply And.intro) <;> first | exact hK | omega)
    first | refine run_reg_seq (st' := ?_) ?_ ?_ | refine run_assoc (run_reg_seq (st' := ?_) ?_ ?_) | refine run_reg (st' := ?_) ?_ ?_
    rotate_left 1
    · intro hf K hK; simp [live41, g41_1, binV]; first | exact hK | ((repeat' apply And.intro) <;> first | exact hK | omega)
    first | refine run_cond_seq (b := true) (by simp [h5]) (fun _ => ?_) (fun h => by cases h) | refine run_assoc (run_cond_seq (b := true) (by simp [h5]) (fun _ => ?_) (fun h => by cases h)) | refine run_cond (b := true) (by simp [h5]) (fun _ => ?_) (fun h => by cases h)
    try refine run_skip_seq ?_
    try refine run_exit_seq ?_
    first | refine run_reg_seq (st' := ?_) ?_ ?_ | refine run_assoc (run_reg_seq (st' := ?_) ?_ ?_) | refine run_reg (st' := ?_) ?_ ?_
    rotate_left 1
    · intro hf K hK; simp [live41, g41_2]
      refine .inl (callW_of0 (step57) [] (by simp [mapO, catO, frzA]) (by simp [mapO, catO, idsA]) ?_)
      simp [live41, g41_2, eV]; first | exact hK | ((repeat' apply And.intro) <;> first | exact hK | omega)
    simp [Kret, dwp, Kseq, retA, res41, mapO, catO, resA, frzA, idsA, oneOf, eV]
  by_cases h4 : b0.tmod 4 = 1
  · refine ⟨⟨2, IntKind.i64.wrap (IntKind.i64.wrap (IntKind.i64.wrap (b1.tmod 40) - 12) * 10000), ⟨#[]⟩⟩, (by show 0 ≤ 40; omega), ?_⟩
    refine pcall_of_dwp mixed fn41 (by simp) (init_run fun ob ct _ => ?_)
    simp only [List.zipIdx_cons, List.zipIdx_nil, List.map_cons, List.map_nil]
    unfold ac41
    first | refine run_reg_seq (st' := ?_) ?_ ?_ | refine run_assoc (run_reg_seq (st' := ?_) ?_ ?_) | refine run_reg (st' := ?_) ?_ ?_
    rotate_left 1
    · intro hf K hK; simp [live41, g41_0]; first | exact hK | ((repeat' apply And.intro) <;> first | exact hK | omega)
    first | refine run_reg_seq (st' := ?_) ?_ ?_ | refine run_assoc (run_reg_seq (st' := ?_) ?_ ?_) | refine run_reg (st' := ?_) ?_ ?_
    rotate_left 1
    · intro hf K hK; simp [live41, g41_1, binV]; first | exact hK | ((repeat' apply And.intro) <;> first | exact hK | omega)
    first | refine run_cond_seq (b := false) (by simp [h5]) (fun h => by cases h) (fun _ => ?_) | refine run_assoc (run_cond_seq (b := false) (by simp [h5]) (fun h => by cases h) (fun _ => ?_)) | refine run_cond (b := false) (by simp [h5]) (fun h => by cases h) (fun _ => ?_)
    try refine run_skip_seq ?_
    try refine run_exit_seq ?_
    first | refine run_reg_seq (st' := ?_) ?_ ?_ | refine run_assoc (run_reg_seq (st' := ?_) ?_ ?_) | refine run_reg (st' := ?_) ?_ ?_
    rotate_left 1
    · intro hf K hK; simp [live41, g41_3]; first | exact hK | ((repeat' apply And.intro) <;> first | exact hK | omega)
    first | refine run_block ?_ | refine run_seq (run_block ?_) | refine run_assoc (run_seq (run_block ?_))
    first | refine run_reg_seq (st' := ?_) ?_ ?_ | refine run_assoc (run_reg_seq (st' := ?_) ?_ ?_) | refine run_reg (st' := ?_) ?_ ?_
    rotate_left 1
    · intro hf K hK; simp [live41, g41_4, binV]; first | exact hK | ((repeat' apply And.intro) <;> first | exact hK | omega)
    first | refine run_cond_seq (b := false) (by simp []) (fun h => by cases h) (fun _ => ?_) | refine run_assoc (run_cond_seq (b := false) (by simp []) (fun h => by cases h) (fun _ => ?_)) | refine run_cond (b := false) (by simp []) (fun h => by cases h) (fun _ => ?_)
    try refine run_skip_seq ?_
    try refine run_exit_seq ?_
    first | refine run_reg_seq (st' := ?_) ?_ ?_ | refine run_assoc (run_reg_seq (st' := ?_) ?_ ?_) | refine run_reg (st' := ?_) ?_ ?_
    rotate_left 1
    · intro hf K hK; simp [live41, g41_6, binV]; first | exact hK | ((repeat' apply And.intro) <;> first | exact hK | omega)
    first | refine run_cond_seq (b := true) (by simp []) (fun _ => ?_) (fun h => by cases h) | refine run_assoc (run_cond_seq (b := true) (by simp []) (fun _ => ?_) (fun h => by cases h)) | refine run_cond (b := true) (by simp []) (fun _ => ?_) (fun h => by cases h)
    try refine run_skip_seq ?_
    try refine run_exit_seq ?_
    first | refine run_reg_seq (st' := ?_) ?_ ?_ | refine run_assoc (run_reg_seq (st' := ?_) ?_ ?_) | refine run_reg (st' := ?_) ?_ ?_
    rotate_left 1
    · intro hf K hK; simp [live41, g41_7, binV]; first | exact hK | ((repeat' apply And.intro) <;> first | exact hK | omega)
    first | refine run_reg_seq (st' := ?_) ?_ ?_ | refine run_assoc (run_reg_seq (st' := ?_) ?_ ?_) | refine run_reg (st' := ?_) ?_ ?_
    rotate_left 1
    · intro hf K hK; simp [live41, g41_8, binV]; first | exact hK | ((repeat' apply And.intro) <;> first | exact hK | omega)
    first | refine run_cond_seq (b := true) (by simp [h4]) (fun _ => ?_) (fun h => by cases h) | refine run_assoc (run_cond_seq (b := true) (by simp [h4]) (fun _ => ?_) (fun h => by cases h)) | refine run_cond (b := true) (by simp [h4]) (fun _ => ?_) (fun h => by cases h)
    try refine run_skip_seq ?_
    try refine run_exit_seq ?_
    first | refine run_reg_seq (st' := ?_) ?_ ?_ | refine run_assoc (run_reg_seq (st' := ?_) ?_ ?_) | refine run_reg (st' := ?_) ?_ ?_
    rotate_left 1
    · intro hf K hK; simp [live41, g41_9, binV]
      refine .inl (callW_of0 (step60_2) [] (by simp [mapO, catO, frzA, binV]) (by simp [mapO, catO, idsA, binV]) ?_)
      simp [live41, g41_9, binV]
      refine .inl (callW_of0 (step59 (IntKind.i64.wrap (IntKind.i64.wrap (IntKind.i64.wrap (b1.tmod 40) - 12) * 10000))) [] (by simp [mapO, catO, frzA, binV]) (by simp [mapO, catO, idsA, binV]) ?_)
      simp [live41, g41_9, binV]
      first | exact hK | ((repeat' apply And.intro) <;> first | exact hK | omega)
    simp [Kret, dwp, Kseq, retA, res41, mapO, catO, resA, frzA, idsA, oneOf, eV]
  · refine ⟨⟨2, IntKind.i64.wrap (IntKind.i64.wrap (IntKind.i64.wrap (b1.tmod 40) - 12) * 1000000), ⟨#[]⟩⟩, (by show 0 ≤ 40; omega), ?_⟩
    refine pcall_of_dwp mixed fn41 (by simp) (init_run fun ob ct _ => ?_)
    simp only [List.zipIdx_cons, List.zipIdx_nil, List.map_cons, List.map_nil]
    unfold ac41
    first | refine run_reg_seq (st' := ?_) ?_ ?_ | refine run_assoc (run_reg_seq (st' := ?_) ?_ ?_) | refine run_reg (st' := ?_) ?_ ?_
    rotate_left 1
    · intro hf K hK; simp [live41, g41_0]; first | exact hK | ((repeat' apply And.intro) <;> first | exact hK | omega)
    first | refine run_reg_seq (st' := ?_) ?_ ?_ | refine run_assoc (run_reg_seq (st' := ?_) ?_ ?_) | refine run_reg (st' := ?_) ?_ ?_
    rotate_left 1
    · intro hf K hK; simp [live41, g41_1, binV]; first | exact hK | ((repeat' apply And.intro) <;> first | exact hK | omega)
    first | refine run_cond_seq (b := false) (by simp [h5]) (fun h => by cases h) (fun _ => ?_) | refine run_assoc (run_cond_seq (b := false) (by simp [h5]) (fun h => by cases h) (fun _ => ?_)) | refine run_cond (b := false) (by simp [h5]) (fun h => by cases h) (fun _ => ?_)
    try refine run_skip_seq ?_
    try refine run_exit_seq ?_
    first | refine run_reg_seq (st' := ?_) ?_ ?_ | refine run_assoc (run_reg_seq (st' := ?_) ?_ ?_) | refine run_reg (st' := ?_) ?_ ?_
    rotate_left 1
    · intro hf K hK; simp [live41, g41_3]; first | exact hK | ((repeat' apply And.intro) <;> first | exact hK | omega)
    first | refine run_block ?_ | refine run_seq (run_block ?_) | refine run_assoc (run_seq (run_block ?_))
    first | refine run_reg_seq (st' := ?_) ?_ ?_ | refine run_assoc (run_reg_seq (st' := ?_) ?_ ?_) | refine run_reg (st' := ?_) ?_ ?_
    rotate_left 1
    · intro hf K hK; simp [live41, g41_4, binV]; first | exact hK | ((repeat' apply And.intro) <;> first | exact hK | omega)
    first | refine run_cond_seq (b := false) (by simp []) (fun h => by cases h) (fun _ => ?_) | refine run_assoc (run_cond_seq (b := false) (by simp []) (fun h => by cases h) (fun _ => ?_)) | refine run_cond (b := false) (by simp []) (fun h => by cases h) (fun _ => ?_)
    try refine run_skip_seq ?_
    try refine run_exit_seq ?_
    first | refine run_reg_seq (st' := ?_) ?_ ?_ | refine run_assoc (run_reg_seq (st' := ?_) ?_ ?_) | refine run_reg (st' := ?_) ?_ ?_
    rotate_left 1
    · intro hf K hK; simp [live41, g41_6, binV]; first | exact hK | ((repeat' apply And.intro) <;> first | exact hK | omega)
    first | refine run_cond_seq (b := true) (by simp []) (fun _ => ?_) (fun h => by cases h) | refine run_assoc (run_cond_seq (b := true) (by simp []) (fun _ => ?_) (fun h => by cases h)) | refine run_cond (b := true) (by simp []) (fun _ => ?_) (fun h => by cases h)
    try refine run_skip_seq ?_
    try refine run_exit_seq ?_
    first | refine run_reg_seq (st' := ?_) ?_ ?_ | refine run_assoc (run_reg_seq (st' := ?_) ?_ ?_) | refine run_reg (st' := ?_) ?_ ?_
    rotate_left 1
    · intro hf K hK; simp [live41, g41_7, binV]; first | exact hK | ((repeat' apply And.intro) <;> first | exact hK | omega)
    first | refine run_reg_seq (st' := ?_) ?_ ?_ | refine run_assoc (run_reg_seq (st' := ?_) ?_ ?_) | refine run_reg (st' := ?_) ?_ ?_
    rotate_left 1
    · intro hf K hK; simp [live41, g41_8, binV]; first | exact hK | ((repeat' apply And.intro) <;> first | exact hK | omega)
    first | refine run_cond_seq (b := false) (by simp [h4]) (fun h => by cases h) (fun _ => ?_) | refine run_assoc (run_cond_seq (b := false) (by simp [h4]) (fun h => by cases h) (fun _ => ?_)) | refine run_cond (b := false) (by simp [h4]) (fun h => by cases h) (fun _ => ?_)
    try refine run_skip_seq ?_
    try refine run_exit_seq ?_
    first | refine run_reg_seq (st' := ?_) ?_ ?_ | refine run_assoc (run_reg_seq (st' := ?_) ?_ ?_) | refine run_reg (st' := ?_) ?_ ?_
    rotate_left 1
    · intro hf K hK; simp [live41, g41_10, binV]
      refine .inl (callW_of0 (step56 (IntKind.i64.wrap (IntKind.i64.wrap (b1.tmod 40) - 12))) [] (by simp [mapO, catO, frzA, binV]) (by simp [mapO, catO, idsA, binV]) ?_)
      simp [live41, g41_10, binV]
      first | exact hK | ((repeat' apply And.intro) <;> first | exact hK | omega)
    simp [Kret, dwp, Kseq, retA, res41, mapO, catO, resA, frzA, idsA, oneOf, eV]

end Go.Proofs.Ytcmgfnhlnefchaa
