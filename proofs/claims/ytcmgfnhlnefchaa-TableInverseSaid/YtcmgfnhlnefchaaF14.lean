/-
  The fixed calls that each statement begins with, worked out.
-/
import Derived.Test.YtcmgfnhlnefchaaF13
import Derived.Test.YtcmgfnhlnefchaaCode4
namespace Go.Proofs.Ytcmgfnhlnefchaa
open Go.Den
set_option linter.unusedVariables false
set_option linter.unusedSimpArgs false

/-! ### Data told back -/
def decV : List AV → Option V
  | [.s (.int .i64 k), .s (.int .i64 i), .s (.string s)] => some ⟨k, i, s⟩
  | _ => none
def decC : List AV → Option C
  | [.s (.int .i64 k), .s (.int .i64 i), .s (.string s), .s (.int .i64 a), .s (.int .i64 b)] => some ⟨⟨k, i, s⟩, a, b⟩
  | _ => none
def decI : List AV → Option Int
  | [.s (.int .i64 k)] => some k
  | _ => none
def decN : List AV → Option (Int × Int)
  | [.s (.int .i64 k), .s (.int .i64 i)] => some (k, i)
  | _ => none
def decL {α : Type} (f : List AV → Option α) : List (List AV) → Option (List α)
  | [] => some []
  | e :: es => match f e, decL f es with
    | some x, some xs => some (x :: xs)
    | _, _ => none
def decR : List AV → Option R
  | [.d false 5 cs, .d false 1 ss, .d false 2 ts] => match decL decC cs, decL decI ss, decL decN ts with
    | some a, some b, some c => some ⟨a, b, c⟩
    | _, _, _ => none
  | _ => none
theorem decC_eq : ∀ {e : List AV} {c : C}, decC e = some c → eC c = e := by
  intro e c h
  unfold decC at h
  split at h
  · simp only [Option.some.injEq] at h; subst h; rfl
  · cases h
theorem decI_eq : ∀ {e : List AV} {c : Int}, decI e = some c → [aI c] = e := by
  intro e c h
  unfold decI at h
  split at h
  · simp only [Option.some.injEq] at h; subst h; rfl
  · cases h
theorem decN_eq : ∀ {e : List AV} {c : Int × Int}, decN e = some c → eN c = e := by
  intro e c h
  unfold decN at h
  split at h
  · simp only [Option.some.injEq] at h; subst h; rfl
  · cases h
theorem decL_eq {α : Type} {f : List AV → Option α} {g : α → List AV} (hf : ∀ {e : List AV} {c : α}, f e = some c → g c = e) : ∀ {es : List (List AV)} {l : List α}, decL f es = some l → l.map g = es
  | [], l, h => by simp only [decL, Option.some.injEq] at h; subst h; rfl
  | e :: es, l, h => by
    simp only [decL] at h
    split at h
    · rename_i x xs h1 h2
      simp only [Option.some.injEq] at h
      subst h
      rw [List.map_cons, hf h1, decL_eq hf h2]
    · cases h
theorem decR_eq : ∀ {e : List AV} {r : R}, decR e = some r → eR r = e := by
  intro e r h
  unfold decR at h
  split at h
  · split at h
    · rename_i a b c h1 h2 h3
      simp only [Option.some.injEq] at h
      subst h
      simp only [eR, decL_eq decC_eq h1, decL_eq decI_eq h2, decL_eq decN_eq h3]
    · cases h
  · cases h

def monoB (c : R → Int) : List R → Bool
  | [] => true
  | r :: rs => if c r < 0 then monoB c rs else (r :: rs).all fun s => decide (0 ≤ c s)
theorem monoB_mono {c : R → Int} : ∀ {l : List R}, monoB c l = true → Mono c l
  | [], _ => fun s t hs => absurd hs (by simp)
  | r :: rs, h => by
    unfold monoB at h
    split at h
    · rename_i h0
      have ih := monoB_mono h
      intro s t hs ht hst hneg
      cases s with
      | zero => simpa using h0
      | succ s =>
        cases t with
        | zero => omega
        | succ t =>
          simp only [List.getElem_cons_succ] at hneg ⊢
          exact ih s t (by simpa using hs) (by simpa using ht) (by omega) hneg
    · rw [List.all_eq_true] at h
      intro s t hs ht hst hneg
      have := of_decide_eq_true (h _ (List.getElem_mem ht))
      omega

/-- A row put into a list, where that is worked out. -/
def ov43 : List AV → Option AV
  | [.d false 3 es, .s (.int .i64 k), .g c] => match decL decR es, decR c with
    | some l, some r => bif Nat.ble l.length 1000000 && l.all (fun s => Nat.ble s.cells.length 1000000000) && Nat.ble r.cells.length 1000000000 && monoB (cmpK k (keyR r k)) l then some (.t [dR (putI k l r).1, aI (putI k l r).2]) else none
    | _, _ => none
  | _ => none
theorem ov43_ok {args : List AV} {r : AV} (h : ov43 args = some r) : PCall Try.prog 43 args r := by
  unfold ov43 at h
  split at h
  · rename_i es k c
    split at h
    · rename_i l s h1 h2
      obtain ⟨hb, h⟩ := bif_opt h
      simp only [Bool.and_eq_true] at hb
      obtain ⟨⟨⟨b1, b2⟩, b3⟩, b4⟩ := hb
      simp only [Option.some.injEq] at h
      subst h
      rw [← decL_eq decR_eq h1, ← decR_eq h2]
      exact step43 l s k (Nat.le_of_ble_eq_true b1) (fun t ht => Nat.le_of_ble_eq_true (List.all_eq_true.1 b2 t ht)) (Nat.le_of_ble_eq_true b3) (monoB_mono b4)
    · cases h
  · cases h

theorem step52e : PCall Try.prog 52 [.d false 3 []] (.d false 3 []) := by
  refine pcall_of_dwp mixed fn52 (by simp) (init_run fun ob ct _ => ?_)
  simp only [List.zipIdx_cons, List.zipIdx_nil, List.map_cons, List.map_nil]
  unfold ac52
  first | refine run_reg_seq (st' := ?_) ?_ ?_ | refine run_assoc (run_reg_seq (st' := ?_) ?_ ?_) | refine run_reg (st' := ?_) ?_ ?_
  rotate_left 1
  · intro hf K hK; simp [live52, g52_0]; first | exact hK | ((repeat' apply And.intro) <;> first | exact hK | omega)
  first | refine run_k fun K hK hf => ?_ | refine run_assoc (run_k fun K hK hf => ?_)
  simp [live52, g52_1]
  rw [hK]
  refine ⟨?_, ?_⟩
  · first | refine run_cond_seq (b := false) (by simp []) (fun h => by cases h) (fun _ => ?_) | refine run_assoc (run_cond_seq (b := false) (by simp []) (fun h => by cases h) (fun _ => ?_)) | refine run_cond (b := false) (by simp []) (fun h => by cases h) (fun _ => ?_)
    try refine run_skip_seq ?_
    try refine run_exit_seq ?_
    first | refine run_reg_seq (st' := ?_) ?_ ?_ | refine run_assoc (run_reg_seq (st' := ?_) ?_ ?_) | refine run_reg (st' := ?_) ?_ ?_
    rotate_left 1
    · intro hf K hK; simp [live52, g52_3]; first | exact hK | ((repeat' apply And.intro) <;> first | exact hK | omega)
    simp [Kret, dwp, Kseq, retA, res52, mapO, catO, resA, frzA, idsA, oneOf]
  · first | refine run_cond_seq (b := true) (by simp []) (fun _ => ?_) (fun h => by cases h) | refine run_assoc (run_cond_seq (b := true) (by simp []) (fun _ => ?_) (fun h => by cases h)) | refine run_cond (b := true) (by simp []) (fun _ => ?_) (fun h => by cases h)
    try refine run_skip_seq ?_
    try refine run_exit_seq ?_
    first | refine run_reg_seq (st' := ?_) ?_ ?_ | refine run_assoc (run_reg_seq (st' := ?_) ?_ ?_) | refine run_reg (st' := ?_) ?_ ?_
    rotate_left 1
    · intro hf K hK; simp [live52, g52_2]; first | exact hK | ((repeat' apply And.intro) <;> first | exact hK | omega)
    simp [Kret, dwp, Kseq, retA, res52, mapO, catO, resA, frzA, idsA, oneOf]
def ov52 : List AV → Option AV
  | [.d false 3 []] => some (.d false 3 [])
  | _ => none
theorem ov52_ok {args : List AV} {r : AV} (h : ov52 args = some r) : PCall Try.prog 52 args r := by
  unfold ov52 at h
  split at h
  · simp only [Option.some.injEq] at h; subst h; exact step52e
  · cases h
def ov6 : CP := fun f args => bif Nat.beq f 43 then ov43 args else bif Nat.beq f 52 then ov52 args else none
theorem ov6_ok : ∀ f args r, ov6 f args = some r → PCall Try.prog f args r := by
  intro f args r h
  unfold ov6 at h
  cases h1 : Nat.beq f 43 with
  | true => rw [h1] at h; rw [Nat.eq_of_beq_eq_true h1]; exact ov43_ok h
  | false =>
    rw [h1] at h
    cases h2 : Nat.beq f 52 with
    | true => rw [h2] at h; rw [Nat.eq_of_beq_eq_true h2]; exact ov52_ok h
    | false => rw [h2] at h; cases h

def T6 : List (Nat × FI) := [(6, ⟨193, res6, ac6⟩), (10, ⟨19, res10, ac10⟩), (11, ⟨19, res11, ac11⟩), (13, ⟨87, res13, ac13⟩), (14, ⟨17, res14, ac14⟩), (15, ⟨19, res15, ac15⟩), (17, ⟨51, res17, ac17⟩), (18, ⟨16, res18, ac18⟩), (21, ⟨9, res21, ac21⟩), (22, ⟨14, res22, ac22⟩), (23, ⟨25, res23, ac23⟩), (25, ⟨24, res25, ac25⟩), (29, ⟨19, res29, ac29⟩), (31, ⟨27, res31, ac31⟩), (32, ⟨46, res32, ac32⟩), (34, ⟨33, res34, ac34⟩), (38, ⟨13, res38, ac38⟩), (39, ⟨6, res39, ac39⟩), (42, ⟨14, res42, ac42⟩), (44, ⟨36, res44, ac44⟩), (45, ⟨25, res45, ac45⟩), (46, ⟨4, res46, ac46⟩), (47, ⟨18, res47, ac47⟩), (48, ⟨8, res48, ac48⟩), (49, ⟨8, res49, ac49⟩), (50, ⟨8, res50, ac50⟩), (51, ⟨24, res51, ac51⟩), (52, ⟨8, res52, ac52⟩), (56, ⟨6, res56, ac56⟩), (59, ⟨5, res59, ac59⟩), (63, ⟨49, res63, ac63⟩), (64, ⟨11, res64, ac64⟩), (65, ⟨8, res65, ac65⟩), (67, ⟨30, res67, ac67⟩), (68, ⟨11, res68, ac68⟩), (69, ⟨33, res69, ac69⟩), (70, ⟨13, res70, ac70⟩), (71, ⟨14, res71, ac71⟩), (72, ⟨26, res72, ac72⟩), (73, ⟨26, res73, ac73⟩), (74, ⟨26, res74, ac74⟩), (75, ⟨39, res75, ac75⟩), (76, ⟨22, res76, ac76⟩), (79, ⟨39, res79, ac79⟩), (82, ⟨18, res82, ac82⟩), (83, ⟨20, res83, ac83⟩), (84, ⟨20, res84, ac84⟩), (96, ⟨6, res96, ac96⟩), (97, ⟨6, res97, ac97⟩), (80, ⟨148, res80, ac80⟩), (81, ⟨8, res81, ac81⟩), (94, ⟨19, res94, ac94⟩), (95, ⟨25, res95, ac95⟩), (86, ⟨53, res86, ac86⟩)]
theorem T6_ok : AllFn Try.prog T6 := ⟨fn6, fn10, fn11, fn13, fn14, fn15, fn17, fn18, fn21, fn22, fn23, fn25, fn29, fn31, fn32, fn34, fn38, fn39, fn42, fn44, fn45, fn46, fn47, fn48, fn49, fn50, fn51, fn52, fn56, fn59, fn63, fn64, fn65, fn67, fn68, fn69, fn70, fn71, fn72, fn73, fn74, fn75, fn76, fn79, fn82, fn83, fn84, fn96, fn97, fn80, fn81, fn94, fn95, fn86, trivial⟩
def isI6 : FuncId → Bool := fun f => Nat.beq f 52 || (Nat.beq f 66 || (Nat.beq f 69 || (Nat.beq f 71 || (Nat.beq f 80 || Nat.beq f 86))))
theorem step6 : PCall Try.prog 6 [] (aB true) := (evX_sound mixed (tbl_ok T6_ok) ov6_ok (isI := isI6) (n := 30) 12).p _ _ _ (by kernel_rfl)

end Go.Proofs.Ytcmgfnhlnefchaa
