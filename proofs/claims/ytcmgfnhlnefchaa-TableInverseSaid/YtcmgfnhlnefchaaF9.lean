/-
  What copies of lists, and rows that are put into lists, come to.
-/
import Derived.Test.YtcmgfnhlnefchaaF8
import Derived.Test.YtcmgfnhlnefchaaDenU
import Derived.Test.YtcmgfnhlnefchaaCode3
namespace Go.Proofs.Ytcmgfnhlnefchaa
open Go.Den
set_option linter.unusedVariables false
set_option linter.unusedSimpArgs false

theorem icall52 (l : List R) (hl : l.length ≤ 1000000) (ob : Den.Id → Option Ob) (ct : Nat → Nat) (K : AV → (Den.Id → Option Ob) → (Nat → Nat) → Prop) (h1 : l = [] → K (.d true 3 []) ob ct)
    (h2 : K (.o (.l 7 (ct 7)) 3 0 l.length) (updO (updO (updO ob (.l 5 (ct 5)) (some ⟨3, [], true, some 0⟩)) (.l 5 (ct 5)) none) (.l 7 (ct 7)) (some ⟨3, l.map eR, true, none⟩)) (bumpC (bumpC ct 5) 7)) : ICall Try.prog 52 [dR l] ob ct K := by
  refine icall_of_dwp mixed fn52 (by simp) (init_runI ?_)
  simp only [List.zipIdx_cons, List.zipIdx_nil, List.map_cons, List.map_nil]
  unfold ac52
  first | refine run_reg_seq (st' := ?_) ?_ ?_ | refine run_assoc (run_reg_seq (st' := ?_) ?_ ?_) | refine run_reg (st' := ?_) ?_ ?_
  rotate_left 1
  · intro hf K hK; simp [live52, g52_0]; first | exact hK | ((repeat' apply And.intro) <;> first | exact hK | omega)
  first | refine run_k fun K hK hf => ?_ | refine run_assoc (run_k fun K hK hf => ?_)
  simp [live52, g52_1]
  rw [hK]
  refine ⟨?_, fun hl0 => ?_⟩
  · first | refine run_cond_seq (b := false) (by simp []) (fun h => by cases h) (fun _ => ?_) | refine run_assoc (run_cond_seq (b := false) (by simp []) (fun h => by cases h) (fun _ => ?_)) | refine run_cond (b := false) (by simp []) (fun h => by cases h) (fun _ => ?_)
    try refine run_skip_seq ?_
    try refine run_exit_seq ?_
    first | refine run_reg_seq (st' := ?_) ?_ ?_ | refine run_assoc (run_reg_seq (st' := ?_) ?_ ?_) | refine run_reg (st' := ?_) ?_ ?_
    rotate_left 1
    · intro hf K hK; simp [live52, g52_3]; first | exact hK | ((repeat' apply And.intro) <;> first | exact hK | omega)
    simp [KI, dwp, Kseq, res52, mapO, resA, oneOf]
    exact h2
  · first | refine run_cond_seq (b := true) (by simp []) (fun _ => ?_) (fun h => by cases h) | refine run_assoc (run_cond_seq (b := true) (by simp []) (fun _ => ?_) (fun h => by cases h)) | refine run_cond (b := true) (by simp []) (fun _ => ?_) (fun h => by cases h)
    try refine run_skip_seq ?_
    try refine run_exit_seq ?_
    first | refine run_reg_seq (st' := ?_) ?_ ?_ | refine run_assoc (run_reg_seq (st' := ?_) ?_ ?_) | refine run_reg (st' := ?_) ?_ ?_
    rotate_left 1
    · intro hf K hK; simp [live52, g52_2]; first | exact hK | ((repeat' apply And.intro) <;> first | exact hK | omega)
    simp [KI, dwp, Kseq, res52, mapO, resA, oneOf]
    exact h1 hl0

theorem xcall77 {i j : Den.Id} {za zb offa offb la lb : Nat} {oa obb : Ob} {ob : Den.Id → Option Ob} {ct : Nat → Nat} {K : AV → Prop} (ha : ob i = some oa) (hb' : ob j = some obb) (hij : i ≠ j) (hla : 0 < la) (hlb : 0 < lb) (hK : K (aB false)) :
    XCall Try.prog 77 [.o i za offa la, .o j zb offb lb] ob ct K :=
  xcall_overlaps (fn := Try.f77) (t := 25) (e := 31) (z := 3) Try.func77 (by kernel_rfl) (by kernel_rfl) (by kernel_rfl) (by kernel_rfl) (tR := 4) (by kernel_rfl) (by kernel_rfl) (by kernel_rfl) (by kernel_rfl) ha hb' hij hla hlb hK

set_option maxHeartbeats 1000000 in
theorem icall66 (l : List R) (r : R) (i : Nat) (s v : Den.Id) (hl : l.length ≤ 1000000) (hi : i ≤ l.length) (ob : Den.Id → Option Ob) (ct : Nat → Nat) (cap : Option Nat) (hs : ob s = some ⟨3, l.map eR, true, cap⟩) (hv : ob v = some ⟨3, [eR r], true, some 1⟩) (hsv : s ≠ v)
    (K : AV → (Den.Id → Option Ob) → (Nat → Nat) → Prop) (h : ∀ id ob' ct' rest cap', ob' id = some ⟨3, (l.take i ++ r :: l.drop i).map eR ++ rest, true, cap'⟩ → K (.o id 3 0 (l.length + 1)) ob' ct') : ICall Try.prog 66 [.o s 3 0 l.length, aI i, .o v 3 0 1] ob ct K := by
  refine icall_of_dwp mixed fn66 (by simp) (init_runI ?_)
  simp only [List.zipIdx_cons, List.zipIdx_nil, List.map_cons, List.map_nil]
  unfold ac66
  first | refine run_reg_seq (st' := ?_) ?_ ?_ | refine run_assoc (run_reg_seq (st' := ?_) ?_ ?_) | refine run_reg (st' := ?_) ?_ ?_
  rotate_left 1
  · intro hf K hK; simp [live66, g66_0]; first | exact hK | ((repeat' apply And.intro) <;> first | exact hK | omega)
  have hi' : (i : Int) ≤ (l.length : Int) := by omega
  first | refine run_reg_seq (st' := ?_) ?_ ?_ | refine run_assoc (run_reg_seq (st' := ?_) ?_ ?_) | refine run_reg (st' := ?_) ?_ ?_
  rotate_left 1
  · intro hf K hK; simp [live66, g66_1, hi']; first | exact hK | ((repeat' apply And.intro) <;> first | exact hK | omega)
  first | refine run_reg_seq (st' := ?_) ?_ ?_ | refine run_assoc (run_reg_seq (st' := ?_) ?_ ?_) | refine run_reg (st' := ?_) ?_ ?_
  rotate_left 1
  · intro hf K hK; simp [live66, g66_2]; first | exact hK | ((repeat' apply And.intro) <;> first | exact hK | omega)
  first | refine run_reg_seq (st' := ?_) ?_ ?_ | refine run_assoc (run_reg_seq (st' := ?_) ?_ ?_) | refine run_reg (st' := ?_) ?_ ?_
  rotate_left 1
  · intro hf K hK; simp [live66, g66_3, binV]; first | exact hK | ((repeat' apply And.intro) <;> first | exact hK | omega)
  first | refine run_cond_seq (b := false) (by simp []) (fun h => by cases h) (fun _ => ?_) | refine run_assoc (run_cond_seq (b := false) (by simp []) (fun h => by cases h) (fun _ => ?_)) | refine run_cond (b := false) (by simp []) (fun h => by cases h) (fun _ => ?_)
  try refine run_skip_seq ?_
  try refine run_exit_seq ?_
  first | refine run_reg_seq (st' := ?_) ?_ ?_ | refine run_assoc (run_reg_seq (st' := ?_) ?_ ?_) | refine run_reg (st' := ?_) ?_ ?_
  rotate_left 1
  · intro hf K hK; simp [live66, g66_5]; first | exact hK | ((repeat' apply And.intro) <;> first | exact hK | omega)
  by_cases h1 : i = l.length
  · first | refine run_reg_seq (st' := ?_) ?_ ?_ | refine run_assoc (run_reg_seq (st' := ?_) ?_ ?_) | refine run_reg (st' := ?_) ?_ ?_
    rotate_left 1
    · intro hf K hK; simp [live66, g66_6, binV, h1]; first | exact hK | ((repeat' apply And.intro) <;> first | exact hK | omega)
    first | refine run_cond_seq (b := true) (by simp []) (fun _ => ?_) (fun h => by cases h) | refine run_assoc (run_cond_seq (b := true) (by simp []) (fun _ => ?_) (fun h => by cases h)) | refine run_cond (b := true) (by simp []) (fun _ => ?_) (fun h => by cases h)
    try refine run_skip_seq ?_
    try refine run_exit_seq ?_
    first | refine run_reg_seq (st' := ?_) ?_ ?_ | refine run_assoc (run_reg_seq (st' := ?_) ?_ ?_) | refine run_reg (st' := ?_) ?_ ?_
    rotate_left 1
    · intro hf K hK; simp [live66, g66_7, hs, hv]; first | exact hK | ((repeat' apply And.intro) <;> first | exact hK | omega)
    simp [KI, dwp, Kseq, res66, mapO, resA, oneOf]
    refine h _ _ _ [] none ?_
    simp [h1]
  · have h1' : ¬ (i : Int) = (l.length : Int) := by omega
    have hlt : i < l.length := by omega
    first | refine run_reg_seq (st' := ?_) ?_ ?_ | refine run_assoc (run_reg_seq (st' := ?_) ?_ ?_) | refine run_reg (st' := ?_) ?_ ?_
    rotate_left 1
    · intro hf K hK; simp [live66, g66_6, binV]; first | exact hK | ((repeat' apply And.intro) <;> first | exact hK | omega)
    first | refine run_cond_seq (b := false) (by simp [h1']) (fun h => by cases h) (fun _ => ?_) | refine run_assoc (run_cond_seq (b := false) (by simp [h1']) (fun h => by cases h) (fun _ => ?_)) | refine run_cond (b := false) (by simp [h1']) (fun h => by cases h) (fun _ => ?_)
    try refine run_skip_seq ?_
    try refine run_exit_seq ?_
    have hw : IntKind.i64.wrap ((l.length : Int) + 1) = (l.length : Int) + 1 := by
      have := wrap_succ (n := l.length) (by omega)
      simpa using this
    first | refine run_k fun K hK hf => ?_ | refine run_assoc (run_k fun K hK hf => ?_)
    simp [live66, g66_8, hs, binV, hw]
    have nv := hf.of_ne hv 40
    have ns := hf.of_ne hs 40
    intro kk hkk hcap
    rw [hK]
    by_cases hg : (kk : Int) < (l.length : Int) + 1
    · have hkl : kk = l.length := by omega
      subst hkl
      first | refine run_cond_seq (b := true) (by simp [hg]) (fun _ => ?_) (fun h => by cases h) | refine run_assoc (run_cond_seq (b := true) (by simp [hg]) (fun _ => ?_) (fun h => by cases h)) | refine run_cond (b := true) (by simp [hg]) (fun _ => ?_) (fun h => by cases h)
      try refine run_skip_seq ?_
      try refine run_exit_seq ?_
      have hsub : IntKind.i64.wrap ((l.length : Int) + 1 - (i : Int)) = ((l.length + 1 - i : Nat) : Int) := by
        rw [show (l.length : Int) + 1 - (i : Int) = ((l.length + 1 - i : Nat) : Int) by omega]
        exact wrap_nat _ (by omega)
      have hn : (0 : Int) ≤ (i : Int) := by omega
      first | refine run_reg_seq (st' := ?_) ?_ ?_ | refine run_assoc (run_reg_seq (st' := ?_) ?_ ?_) | refine run_reg (st' := ?_) ?_ ?_
      rotate_left 1
      · intro hf K hK; simp [live66, g66_9, hs, binV, hw, hi', hsub]; first | exact hK | ((repeat' apply And.intro) <;> first | exact hK | omega)
      have e1 : i + (l.length + 1 - i) = l.length + 1 := by omega
      rw [e1]
      generalize hes0 : List.take i (List.map eR l) ++ List.replicate (l.length + 1 - i) [AV.d true 5 [], AV.d true 1 [], AV.d true 2 []] = es0
      have l0 : es0.length = l.length + 1 := by rw [← hes0]; simp; omega
      have t0 : es0.take i = (l.map eR).take i := by rw [← hes0]; exact List.take_left' (by simp; omega)
      have hin1 : (i : Int) ≤ (l.length : Int) + 1 := by omega
      have m2 : min (l.length + 1 - i) 1 = 1 := by omega
      have e2 : i + (l.length - i) = l.length := by omega
      have tk1 : List.take (l.length + 1 - i) [eR r] = [eR r] := List.take_of_length_le (by simp; omega)
      first | refine run_reg_seq (st' := ?_) ?_ ?_ | refine run_assoc (run_reg_seq (st' := ?_) ?_ ?_) | refine run_reg (st' := ?_) ?_ ?_
      rotate_left 1
      · intro hf K hK; simp [live66, g66_10, hv, nv, nv.symm, hsv, hsv.symm, l0, hin1, m2, tk1]; first | exact hK | ((repeat' apply And.intro) <;> first | exact hK | omega)
      generalize hes1 : List.take i es0 ++ eR r :: List.drop (i + 1) es0 = es1
      have l1 : es1.length = l.length + 1 := by rw [← hes1]; simp; omega
      have t1 : es1.take (i + 1) = (l.map eR).take i ++ [eR r] := by
        rw [← hes1, t0, show (l.map eR).take i ++ eR r :: List.drop (i + 1) es0 = ((l.map eR).take i ++ [eR r]) ++ List.drop (i + 1) es0 by simp]
        exact List.take_left' (by simp; omega)
      have hwi : IntKind.i64.wrap ((i : Int) + 1) = (i : Int) + 1 := by
        have := wrap_succ (n := i) (by omega)
        simpa using this
      have hin2 : (i : Int) + 1 ≤ (l.length : Int) + 1 := by omega
      have hin3 : (0 : Int) ≤ (i : Int) + 1 := by omega
      have htn : ((i : Int) + 1).toNat = i + 1 := by omega
      first | refine run_drawn_seq (st' := ?_) ?_ ?_ | refine run_assoc (run_drawn_seq (st' := ?_) ?_ ?_) | refine run_drawn (st' := ?_) ?_ ?_
      rotate_left 1
      · intro hf K hK; simp [live66, g66_11, hs, ns, ns.symm, binV, hwi, hin2, hin3, htn, hi', l1, e2]; first | exact hK | ((repeat' apply And.intro) <;> first | exact hK | omega)
      first | refine run_reg_seq (st' := ?_) ?_ ?_ | refine run_assoc (run_reg_seq (st' := ?_) ?_ ?_) | refine run_reg (st' := ?_) ?_ ?_
      rotate_left 1
      · intro hf K hK; simp [live66, g66_12]; first | exact hK | ((repeat' apply And.intro) <;> first | exact hK | omega)
      simp [KI, dwp, Kseq, res66, mapO, resA, oneOf]
      refine h _ _ _ [] none ?_
      have tk : List.take (l.length - i) (List.drop i (List.map eR l)) = List.drop i (List.map eR l) := List.take_of_length_le (by simp)
      simp
      rw [t1, tk, tk, (List.drop_eq_nil_of_le (by omega) : List.drop (i + 1 + (l.length - i)) es1 = [])]
      simp
    · first | refine run_cond_seq (b := false) (by simp [hg]) (fun h => by cases h) (fun _ => ?_) | refine run_assoc (run_cond_seq (b := false) (by simp [hg]) (fun h => by cases h) (fun _ => ?_)) | refine run_cond (b := false) (by simp [hg]) (fun h => by cases h) (fun _ => ?_)
      try refine run_skip_seq ?_
      try refine run_exit_seq ?_
      have htl : ((l.length : Int) + 1).toNat = l.length + 1 := by omega
      have hnl : (0 : Int) ≤ (l.length : Int) + 1 := by omega
      generalize hes0 : List.map eR l ++ List.replicate (kk - l.length) [AV.u, AV.u, AV.u] = es0
      have l0 : es0.length = kk := by rw [← hes0]; simp; omega
      have t0 : es0.take l.length = l.map eR := by rw [← hes0]; exact List.take_left' (by simp)
      have hgt : ¬ (l.length : Int) + 1 ≤ (l.length : Int) := by omega
      first | refine run_reg_seq (st' := ?_) ?_ ?_ | refine run_assoc (run_reg_seq (st' := ?_) ?_ ?_) | refine run_reg (st' := ?_) ?_ ?_
      rotate_left 1
      · intro hf K hK; simp [live66, g66_13, binV, hw, htl, hnl, l0, hgt]; first | exact hK | ((repeat' apply And.intro) <;> first | exact hK | omega)
      have hwi : IntKind.i64.wrap ((i : Int) + 1) = (i : Int) + 1 := by
        have := wrap_succ (n := i) (by omega)
        simpa using this
      have hin2 : (i : Int) ≤ (l.length : Int) := by omega
      have hin3 : (0 : Int) ≤ (i : Int) + 1 := by omega
      have htn : ((i : Int) + 1).toNat = i + 1 := by omega
      first | refine run_k fun K hK hf => ?_ | refine run_assoc (run_k fun K hK hf => ?_)
      simp [live66, g66_14, binV, hwi, hin2, hin3, htn]
      refine .inr (.inr (xcallW_of rfl (xcall77 (i := v) (j := s) (oa := ⟨3, [eR r], true, some 1⟩) (obb := ⟨3, es0, true, some kk⟩) (by simp [hsv.symm, hv]) (by simp) hsv.symm (by omega) (by omega) ?_)))
      simp [live66, g66_14]
      rw [hK]
      first | refine run_cond_seq (b := true) (by simp []) (fun _ => ?_) (fun h => by cases h) | refine run_assoc (run_cond_seq (b := true) (by simp []) (fun _ => ?_) (fun h => by cases h)) | refine run_cond (b := true) (by simp []) (fun _ => ?_) (fun h => by cases h)
      try refine run_skip_seq ?_
      try refine run_exit_seq ?_
      have e2 : i + (l.length + 1 - i) = l.length + 1 := by omega
      have e3 : i + 1 + (l.length - i) = l.length + 1 := by omega
      have hle1 : l.length + 1 ≤ kk := by omega
      have m3 : min (l.length + 1 - i) (l.length - i) = l.length - i := by omega
      have hin4 : (i : Int) ≤ (l.length : Int) + 1 := by omega
      have m4 : min (l.length - i) (l.length + 1 - i) = l.length - i := by omega
      have m5 : min (l.length + 1 - i) (kk - i) = l.length + 1 - i := by omega
      first | refine run_drawn_seq (st' := ?_) ?_ ?_ | refine run_assoc (run_drawn_seq (st' := ?_) ?_ ?_) | refine run_drawn (st' := ?_) ?_ ?_
      rotate_left 1
      · intro hf K hK; simp [live66, g66_15, binV, hwi, hin2, hin3, htn, l0, e2, e3, hle1, m3, m4, m5, hin4]; first | exact hK | ((repeat' apply And.intro) <;> first | exact hK | omega)
      generalize hes1 : List.take (i + 1) es0 ++ (List.take (l.length - i) (List.take (l.length + 1 - i) (List.drop i es0)) ++ List.drop (l.length + 1) es0) = es1
      have l1 : es1.length = kk := by rw [← hes1]; simp; omega
      have ta : (List.take (i + 1) es0).length = i + 1 := by simp; omega
      have tb : List.take (l.length - i) (List.take (l.length + 1 - i) (List.drop i es0)) = List.drop i (l.map eR) := by
        rw [List.take_take, Nat.min_eq_left (by omega), ← t0, List.drop_take]
      have t1 : es1.take i = (l.map eR).take i := by
        rw [← hes1, List.take_append_of_le_length (by omega), List.take_take, Nat.min_eq_left (by omega), ← t0, List.take_take, Nat.min_eq_left hi]
      have d1 : es1.drop (i + 1) = (l.map eR).drop i ++ es0.drop (l.length + 1) := by
        rw [← hes1, tb]; exact List.drop_left' ta
      have tk1 : List.take (l.length + 1 - i) [eR r] = [eR r] := List.take_of_length_le (by simp; omega)
      have m6 : min (l.length + 1 - i) 1 = 1 := by omega
      first | refine run_reg_seq (st' := ?_) ?_ ?_ | refine run_assoc (run_reg_seq (st' := ?_) ?_ ?_) | refine run_reg (st' := ?_) ?_ ?_
      rotate_left 1
      · intro hf K hK; simp [live66, g66_16, hv, hsv, hsv.symm, l1, hin4, tk1, e2, hle1, m6]; first | exact hK | ((repeat' apply And.intro) <;> first | exact hK | omega)
      first | refine run_reg_seq (st' := ?_) ?_ ?_ | refine run_assoc (run_reg_seq (st' := ?_) ?_ ?_) | refine run_reg (st' := ?_) ?_ ?_
      rotate_left 1
      · intro hf K hK; simp [live66, g66_17]; first | exact hK | ((repeat' apply And.intro) <;> first | exact hK | omega)
      simp [KI, dwp, Kseq, res66, mapO, resA, oneOf]
      refine h _ _ _ (es0.drop (l.length + 1)) (some kk) ?_
      simp
      rw [t1, d1]

theorem icall66n (r : R) (v : Den.Id) (ob : Den.Id → Option Ob) (ct : Nat → Nat) (hv : ob v = some ⟨3, [eR r], true, some 1⟩)
    (K : AV → (Den.Id → Option Ob) → (Nat → Nat) → Prop) (h : ∀ id ob' ct' rest cap', ob' id = some ⟨3, [eR r] ++ rest, true, cap'⟩ → K (.o id 3 0 1) ob' ct') : ICall Try.prog 66 [.d true 3 [], aI 0, .o v 3 0 1] ob ct K := by
  refine icall_of_dwp mixed fn66 (by simp) (init_runI ?_)
  simp only [List.zipIdx_cons, List.zipIdx_nil, List.map_cons, List.map_nil]
  unfold ac66
  first | refine run_reg_seq (st' := ?_) ?_ ?_ | refine run_assoc (run_reg_seq (st' := ?_) ?_ ?_) | refine run_reg (st' := ?_) ?_ ?_
  rotate_left 1
  · intro hf K hK; simp [live66, g66_0]; first | exact hK | ((repeat' apply And.intro) <;> first | exact hK | omega)
  first | refine run_reg_seq (st' := ?_) ?_ ?_ | refine run_assoc (run_reg_seq (st' := ?_) ?_ ?_) | refine run_reg (st' := ?_) ?_ ?_
  rotate_left 1
  · intro hf K hK; simp [live66, g66_1]; first | exact hK | ((repeat' apply And.intro) <;> first | exact hK | omega)
  first | refine run_reg_seq (st' := ?_) ?_ ?_ | refine run_assoc (run_reg_seq (st' := ?_) ?_ ?_) | refine run_reg (st' := ?_) ?_ ?_
  rotate_left 1
  · intro hf K hK; simp [live66, g66_2]; first | exact hK | ((repeat' apply And.intro) <;> first | exact hK | omega)
  first | refine run_reg_seq (st' := ?_) ?_ ?_ | refine run_assoc (run_reg_seq (st' := ?_) ?_ ?_) | refine run_reg (st' := ?_) ?_ ?_
  rotate_left 1
  · intro hf K hK; simp [live66, g66_3, binV]; first | exact hK | ((repeat' apply And.intro) <;> first | exact hK | omega)
  first | refine run_cond_seq (b := false) (by simp []) (fun h => by cases h) (fun _ => ?_) | refine run_assoc (run_cond_seq (b := false) (by simp []) (fun h => by cases h) (fun _ => ?_)) | refine run_cond (b := false) (by simp []) (fun h => by cases h) (fun _ => ?_)
  try refine run_skip_seq ?_
  try refine run_exit_seq ?_
  first | refine run_reg_seq (st' := ?_) ?_ ?_ | refine run_assoc (run_reg_seq (st' := ?_) ?_ ?_) | refine run_reg (st' := ?_) ?_ ?_
  rotate_left 1
  · intro hf K hK; simp [live66, g66_5]; first | exact hK | ((repeat' apply And.intro) <;> first | exact hK | omega)
  first | refine run_reg_seq (st' := ?_) ?_ ?_ | refine run_assoc (run_reg_seq (st' := ?_) ?_ ?_) | refine run_reg (st' := ?_) ?_ ?_
  rotate_left 1
  · intro hf K hK; simp [live66, g66_6, binV]; first | exact hK | ((repeat' apply And.intro) <;> first | exact hK | omega)
  first | refine run_cond_seq (b := true) (by simp []) (fun _ => ?_) (fun h => by cases h) | refine run_assoc (run_cond_seq (b := true) (by simp []) (fun _ => ?_) (fun h => by cases h)) | refine run_cond (b := true) (by simp []) (fun _ => ?_) (fun h => by cases h)
  try refine run_skip_seq ?_
  try refine run_exit_seq ?_
  first | refine run_reg_seq (st' := ?_) ?_ ?_ | refine run_assoc (run_reg_seq (st' := ?_) ?_ ?_) | refine run_reg (st' := ?_) ?_ ?_
  rotate_left 1
  · intro hf K hK; simp [live66, g66_7, hv]; first | exact hK | ((repeat' apply And.intro) <;> first | exact hK | omega)
  simp [KI, dwp, Kseq, res66, mapO, resA, oneOf]
  refine h _ _ _ [] none ?_
  simp

def t43 : AC := (.seq (.region g43_3 live43) (.seq (.region g43_4 live43) (.seq (.seq (.region g43_5 live43) (.cond (.t 43) (.seq (.region g43_6 live43) (.seq (.region g43_7 live43) .ret)) .skip)) (.seq (.region g43_8 live43) .ret))))

set_option maxHeartbeats 1000000 in
theorem step43u (l : List R) (r : R) (k : Int) (i : Nat) (b : Bool) (hl : l.length ≤ 1000000) (hle : i ≤ l.length) (hbl : b = true → i < l.length) (hcell : r.cells.length ≤ 1000000000) (hc : PCall Try.prog 42 [dR l, aI k, dV (keyR r k)] (.t [aI i, aB b]))
    (x2 x9 x10 x31 x43 : AV) (n5 n7 : Nat) (ob : Den.Id → Option Ob) (ct : Nat → Nat) (h5 : ob (.l 5 n5) = some ⟨3, [eR r], true, some 1⟩) (h7 : ob (.l 7 n7) = some ⟨3, l.map eR, true, none⟩) :
    dwp Try.prog (.seq (.region g43_4 live43) (.seq (.seq (.region g43_5 live43) (.cond (.t 43) (.seq (.region g43_6 live43) (.seq (.region g43_7 live43) .ret)) .skip)) (.seq (.region g43_8 live43) .ret))) (Kret res43 (.t [dR (l.take i ++ r :: l.drop (if b = true then i + 1 else i)), aI 0])) (St.of [(0, dR l), (1, aI k), (2, x2), (5, .p (.l 5 n5) 3 0 0), (6, .d true 3 []), (7, aI 0), (8, .o (.l 7 n7) 3 0 l.length), (9, x9), (10, x10), (31, x31), (43, x43)] ob ct) := by
  first | refine run_reg_seq (st' := ?_) ?_ ?_ | refine run_assoc (run_reg_seq (st' := ?_) ?_ ?_) | refine run_reg (st' := ?_) ?_ ?_
  rotate_left 1
  · intro hf K hK; simp [live43, g43_4, h5, h7]
    refine .inl (callW_of0 (step22 r k hcell) [] (by simp [mapO, catO, frzA, h5, h7]) (by simp [mapO, catO, idsA, h5, h7]) ?_)
    simp [live43, g43_4, h5, h7]
    refine .inl (callW_of0 (hc) [] (by simp [mapO, catO, frzA, h5, h7]) (by simp [mapO, catO, idsA, h5, h7]) ?_)
    simp [live43, g43_4, h5, h7]
    first | exact hK | ((repeat' apply And.intro) <;> first | exact hK | omega)
  first | refine run_reg_seq (st' := ?_) ?_ ?_ | refine run_assoc (run_reg_seq (st' := ?_) ?_ ?_) | refine run_reg (st' := ?_) ?_ ?_
  rotate_left 1
  · intro hf K hK; simp [live43, g43_5]; first | exact hK | ((repeat' apply And.intro) <;> first | exact hK | omega)
  cases b with
  | true =>
    have hlt := hbl rfl
    have hlt' : (i : Int) < (l.length : Int) := by omega
    have hget : (l.map eR)[i]? = some (eR l[i]) := by simp [hlt]
    generalize hes : l.map eR = es at h7 hget
    first | refine run_cond_seq (b := true) (by simp []) (fun _ => ?_) (fun h => by cases h) | refine run_assoc (run_cond_seq (b := true) (by simp []) (fun _ => ?_) (fun h => by cases h)) | refine run_cond (b := true) (by simp []) (fun _ => ?_) (fun h => by cases h)
    try refine run_skip_seq ?_
    try refine run_exit_seq ?_
    first | refine run_reg_seq (st' := ?_) ?_ ?_ | refine run_assoc (run_reg_seq (st' := ?_) ?_ ?_) | refine run_reg (st' := ?_) ?_ ?_
    rotate_left 1
    · intro hf K hK; simp [live43, g43_6, h5, h7, hlt', hget]; first | exact hK | ((repeat' apply And.intro) <;> first | exact hK | omega)
    first | refine run_reg_seq (st' := ?_) ?_ ?_ | refine run_assoc (run_reg_seq (st' := ?_) ?_ ?_) | refine run_reg (st' := ?_) ?_ ?_
    rotate_left 1
    · intro hf K hK; simp [live43, g43_7]; first | exact hK | ((repeat' apply And.intro) <;> first | exact hK | omega)
    have hset : es.set i (eR r) = (l.take i ++ r :: l.drop (i + 1)).map eR := by
      rw [set_at (a := es.take i) (b := es.drop (i + 1)) (x := eR l[i]) (j := i) ?_ ?_]
      · rw [← hes]; simp
      · rw [← hes, show eR l[i] = (l.map eR)[i]'(by simpa using hlt) by simp]
        rw [← List.drop_eq_getElem_cons, List.take_append_drop]
      · rw [← hes]; simp; omega
    have hlen : (l.take i ++ r :: l.drop (i + 1)).length = l.length := by simp; omega
    have hle2 : l.length ≤ es.length := by rw [← hes]; simp
    generalize hw : l.take i ++ r :: l.drop (i + 1) = l' at hset hlen
    rw [← hlen] at hle2 ⊢
    simp [Kret, dwp, Kseq, retA, res43, mapO, catO, resA, frzA, idsA, oneOf, h7, hset, hw, hle2]
  | false =>
    first | refine run_cond_seq (b := false) (by simp []) (fun h => by cases h) (fun _ => ?_) | refine run_assoc (run_cond_seq (b := false) (by simp []) (fun h => by cases h) (fun _ => ?_)) | refine run_cond (b := false) (by simp []) (fun h => by cases h) (fun _ => ?_)
    try refine run_skip_seq ?_
    try refine run_exit_seq ?_
    first | refine run_k fun K hK hf => ?_ | refine run_assoc (run_k fun K hK hf => ?_)
    simp [live43, g43_8, h5, h7]
    refine .inr (.inl (icallW_of rfl (icall66 l r i (.l 7 n7) (.l 52 (ct 52)) hl hle _ _ none (by simp [h7]) (by simp) (by simp) _ fun id ob' ct' rest cap' hid => ?_)))
    simp [live43, g43_8]
    rw [hK]
    have hlen : (l.take i ++ r :: l.drop i).length = l.length + 1 := by simp; omega
    generalize hw : l.take i ++ r :: l.drop i = l' at hid hlen
    rw [← hlen]
    have p4 : (l'.map eR ++ rest).take l'.length = l'.map eR := List.take_left' (by simp)
    simp [Kret, dwp, Kseq, retA, res43, mapO, catO, resA, frzA, idsA, oneOf, hid, p4, hw]

theorem step43v (l : List R) (r : R) (k : Int) (hl : l.length ≤ 1000000) (hcell : r.cells.length ≤ 1000000000) (hc : PCall Try.prog 42 [dR l, aI k, dV (keyR r k)] (.t [aI (findI (cmpK k (keyR r k)) l), aB (isAt (cmpK k (keyR r k)) l)]))
    (hput : putI k l r = (l.take (findI (cmpK k (keyR r k)) l) ++ r :: l.drop (if isAt (cmpK k (keyR r k)) l = true then findI (cmpK k (keyR r k)) l + 1 else findI (cmpK k (keyR r k)) l), 0))
    (x2 x8 x9 x10 x31 x43 : AV) (n5 : Nat) (ob : Den.Id → Option Ob) (ct : Nat → Nat) (h5 : ob (.l 5 n5) = some ⟨3, [eR r], true, some 1⟩) (hn5 : n5 ≠ ct 5) :
    dwp Try.prog t43 (Kret res43 (.t [dR (putI k l r).1, aI (putI k l r).2])) (St.of [(0, dR l), (1, aI k), (2, x2), (5, .p (.l 5 n5) 3 0 0), (6, .d true 3 []), (7, aI 0), (8, x8), (9, x9), (10, x10), (31, x31), (43, x43)] ob ct) := by
  rw [hput]
  unfold t43
  generalize hI : findI (cmpK k (keyR r k)) l = i at hc ⊢
  have hle : i ≤ l.length := hI ▸ findI_le (cmpK k (keyR r k)) l
  generalize hB : isAt (cmpK k (keyR r k)) l = b at hc ⊢
  have hbl : b = true → i < l.length := fun hb => by
    rcases Nat.lt_or_ge i l.length with h | h
    · exact h
    · rw [isAt_of hI, dif_neg (by omega)] at hB; rw [hb] at hB; cases hB
  first | refine run_k fun K hK hf => ?_ | refine run_assoc (run_k fun K hK hf => ?_)
  simp [live43, g43_3]
  refine .inr (.inl (icallW_of rfl (icall52 l hl _ _ _ ?_ ?_)))
  · intro hl0
    subst hl0
    simp [live43, g43_3]
    rw [hK]
    have hi0 : i = 0 := by simpa using hle
    have hb0 : b = false := by
      cases b with
      | false => rfl
      | true => have := hbl rfl; simp at this
    subst hi0; subst hb0
    first | refine run_reg_seq (st' := ?_) ?_ ?_ | refine run_assoc (run_reg_seq (st' := ?_) ?_ ?_) | refine run_reg (st' := ?_) ?_ ?_
    rotate_left 1
    · intro hf K hK; simp [live43, g43_4, h5]
      refine .inl (callW_of0 (step22 r k hcell) [] (by simp [mapO, catO, frzA, h5]) (by simp [mapO, catO, idsA, h5]) ?_)
      simp [live43, g43_4, h5]
      refine .inl (callW_of0 (hc) [] (by simp [mapO, catO, frzA, h5]) (by simp [mapO, catO, idsA, h5]) ?_)
      simp [live43, g43_4, h5]
      first | exact hK | ((repeat' apply And.intro) <;> first | exact hK | omega)
    first | refine run_reg_seq (st' := ?_) ?_ ?_ | refine run_assoc (run_reg_seq (st' := ?_) ?_ ?_) | refine run_reg (st' := ?_) ?_ ?_
    rotate_left 1
    · intro hf K hK; simp [live43, g43_5]; first | exact hK | ((repeat' apply And.intro) <;> first | exact hK | omega)
    first | refine run_cond_seq (b := false) (by simp []) (fun h => by cases h) (fun _ => ?_) | refine run_assoc (run_cond_seq (b := false) (by simp []) (fun h => by cases h) (fun _ => ?_)) | refine run_cond (b := false) (by simp []) (fun h => by cases h) (fun _ => ?_)
    try refine run_skip_seq ?_
    try refine run_exit_seq ?_
    first | refine run_k fun K hK hf => ?_ | refine run_assoc (run_k fun K hK hf => ?_)
    simp [live43, g43_8, h5]
    refine .inr (.inl (icallW_of rfl (icall66n r (.l 52 (ct 52)) _ _ (by simp) _ fun id ob' ct' rest cap' hid => ?_)))
    simp [live43, g43_8]
    rw [hK]
    simp [Kret, dwp, Kseq, retA, res43, mapO, catO, resA, frzA, idsA, oneOf, hid, eR, aI]
  · simp [live43, g43_3]
    rw [hK]
    exact step43u l r k i b hl hle hbl hcell hc _ _ _ _ _ _ _ _ _ (by simp [h5, hn5]) (by simp)

set_option maxHeartbeats 1000000 in
theorem step43 (l : List R) (r : R) (k : Int) (hl : l.length ≤ 1000000) (hr : ∀ r ∈ l, r.cells.length ≤ 1000000000) (ho : r.cells.length ≤ 1000000000) (hmono : Mono (cmpK k (keyR r k)) l) :
    PCall Try.prog 43 [dR l, aI k, .g (eR r)] (.t [dR (putI k l r).1, aI (putI k l r).2]) := by
  have hc := step42 l (keyR r k) k (by omega) hr (keyR_len _ _ ho) hmono
  refine pcall_of_dwp mixed fn43 (by simp) (init_run fun ob ct _ => ?_)
  simp only [List.zipIdx_cons, List.zipIdx_nil, List.map_cons, List.map_nil]
  unfold ac43
  first | refine run_reg_seq (st' := ?_) ?_ ?_ | refine run_assoc (run_reg_seq (st' := ?_) ?_ ?_) | refine run_reg (st' := ?_) ?_ ?_
  rotate_left 1
  · intro hf K hK; simp [live43, g43_0]; first | exact hK | ((repeat' apply And.intro) <;> first | exact hK | omega)
  by_cases c1 : (r.cells.length : Int) < k
  · first | refine run_ro_seq (st' := ?_) rfl ?_ ?_ | refine run_assoc (run_ro_seq (st' := ?_) rfl ?_ ?_) | refine run_ro (st' := ?_) rfl ?_ ?_
    rotate_left 1
    · intro hf K hK; simp [live43, g43_1, binV, c1]; first | exact hK | ((repeat' apply And.intro) <;> first | exact hK | omega)
    first | refine run_cond_seq (b := true) (by simp []) (fun _ => ?_) (fun h => by cases h) | refine run_assoc (run_cond_seq (b := true) (by simp []) (fun _ => ?_) (fun h => by cases h)) | refine run_cond (b := true) (by simp []) (fun _ => ?_) (fun h => by cases h)
    try refine run_skip_seq ?_
    try refine run_exit_seq ?_
    first | refine run_reg_seq (st' := ?_) ?_ ?_ | refine run_assoc (run_reg_seq (st' := ?_) ?_ ?_) | refine run_reg (st' := ?_) ?_ ?_
    rotate_left 1
    · intro hf K hK; simp [live43, g43_2]; first | exact hK | ((repeat' apply And.intro) <;> first | exact hK | omega)
    simp [Kret, dwp, Kseq, retA, res43, mapO, catO, resA, frzA, idsA, oneOf, putI, c1]
  · cases l with
    | nil =>
      first | refine run_ro_seq (st' := ?_) rfl ?_ ?_ | refine run_assoc (run_ro_seq (st' := ?_) rfl ?_ ?_) | refine run_ro (st' := ?_) rfl ?_ ?_
      rotate_left 1
      · intro hf K hK; simp [live43, g43_1, binV, c1]; first | exact hK | ((repeat' apply And.intro) <;> first | exact hK | omega)
      first | refine run_cond_seq (b := false) (by simp []) (fun h => by cases h) (fun _ => ?_) | refine run_assoc (run_cond_seq (b := false) (by simp []) (fun h => by cases h) (fun _ => ?_)) | refine run_cond (b := false) (by simp []) (fun h => by cases h) (fun _ => ?_)
      try refine run_skip_seq ?_
      try refine run_exit_seq ?_
      exact step43v [] r k hl ho hc (by simp [putI, c1]) _ _ _ _ _ _ _ _ _ (by simp [eR]) (by simp)
    | cons r0 l =>
      by_cases c2 : r.cells.length = r0.cells.length
      · have c2' : ((r.cells.length : Int) != (r0.cells.length : Int)) = false := by rw [c2]; simp
        first | refine run_ro_seq (st' := ?_) rfl ?_ ?_ | refine run_assoc (run_ro_seq (st' := ?_) rfl ?_ ?_) | refine run_ro (st' := ?_) rfl ?_ ?_
        rotate_left 1
        · intro hf K hK; simp [live43, g43_1, binV, c1, eR, c2']; first | exact hK | ((repeat' apply And.intro) <;> first | exact hK | omega)
        first | refine run_cond_seq (b := false) (by simp []) (fun h => by cases h) (fun _ => ?_) | refine run_assoc (run_cond_seq (b := false) (by simp []) (fun h => by cases h) (fun _ => ?_)) | refine run_cond (b := false) (by simp []) (fun h => by cases h) (fun _ => ?_)
        try refine run_skip_seq ?_
        try refine run_exit_seq ?_
        exact step43v (r0 :: l) r k hl ho hc (by rw [putI, if_neg]; rintro (h | ⟨_, h⟩); exact c1 h; exact h r0 rfl c2) _ _ _ _ _ _ _ _ _ (by simp [eR]) (by simp)
      · have c2' : ((r.cells.length : Int) != (r0.cells.length : Int)) = true := by rw [bne_iff_ne]; omega
        first | refine run_ro_seq (st' := ?_) rfl ?_ ?_ | refine run_assoc (run_ro_seq (st' := ?_) rfl ?_ ?_) | refine run_ro (st' := ?_) rfl ?_ ?_
        rotate_left 1
        · intro hf K hK; simp [live43, g43_1, binV, c1, eR, c2']; first | exact hK | ((repeat' apply And.intro) <;> first | exact hK | omega)
        first | refine run_cond_seq (b := true) (by simp []) (fun _ => ?_) (fun h => by cases h) | refine run_assoc (run_cond_seq (b := true) (by simp []) (fun _ => ?_) (fun h => by cases h)) | refine run_cond (b := true) (by simp []) (fun _ => ?_) (fun h => by cases h)
        try refine run_skip_seq ?_
        try refine run_exit_seq ?_
        first | refine run_reg_seq (st' := ?_) ?_ ?_ | refine run_assoc (run_reg_seq (st' := ?_) ?_ ?_) | refine run_reg (st' := ?_) ?_ ?_
        rotate_left 1
        · intro hf K hK; simp [live43, g43_2]; first | exact hK | ((repeat' apply And.intro) <;> first | exact hK | omega)
        simp [Kret, dwp, Kseq, retA, res43, mapO, catO, resA, frzA, idsA, oneOf, putI, c1, c2]

theorem step11 (l : List R) (r : R) (k : Int) (hl : l.length ≤ 1000000) (hr : ∀ r ∈ l, r.cells.length ≤ 1000000000) (ho : r.cells.length ≤ 1000000000) (hmono : Mono (cmpK k (keyR r k)) l) :
    PCall Try.prog 11 [dR l, aI k, .g (eR r)] (.g [dR (putI k l r).1, aI (putI k l r).2]) := by
  refine pcall_of_dwp mixed fn11 (by simp) (init_run fun ob ct _ => ?_)
  simp only [List.zipIdx_cons, List.zipIdx_nil, List.map_cons, List.map_nil]
  unfold ac11
  first | refine run_reg_seq (st' := ?_) ?_ ?_ | refine run_assoc (run_reg_seq (st' := ?_) ?_ ?_) | refine run_reg (st' := ?_) ?_ ?_
  rotate_left 1
  · intro hf K hK; simp [live11, g11_0]; first | exact hK | ((repeat' apply And.intro) <;> first | exact hK | omega)
  first | refine run_reg_seq (st' := ?_) ?_ ?_ | refine run_assoc (run_reg_seq (st' := ?_) ?_ ?_) | refine run_reg (st' := ?_) ?_ ?_
  rotate_left 1
  · intro hf K hK; simp [live11, g11_1]
    refine .inl (callW_of0 (step43 l r k hl hr ho hmono) [] (by simp [mapO, catO, frzA]) (by simp [mapO, catO, idsA]) ?_)
    simp [live11, g11_1]
    first | exact hK | ((repeat' apply And.intro) <;> first | exact hK | omega)
  first | refine run_reg_seq (st' := ?_) ?_ ?_ | refine run_assoc (run_reg_seq (st' := ?_) ?_ ?_) | refine run_reg (st' := ?_) ?_ ?_
  rotate_left 1
  · intro hf K hK; simp [live11, g11_2]; first | exact hK | ((repeat' apply And.intro) <;> first | exact hK | omega)
  simp [Kret, dwp, Kseq, retA, res11, mapO, catO, resA, frzA, idsA, oneOf]

theorem icall69 (l : List R) (i : Nat) (s : Den.Id) (hl : l.length ≤ 1000000) (hi : i < l.length) (ob : Den.Id → Option Ob) (ct : Nat → Nat) (cap : Option Nat) (hs : ob s = some ⟨3, l.map eR, true, cap⟩)
    (K : AV → (Den.Id → Option Ob) → (Nat → Nat) → Prop) (h : ∀ id ob' ct' rest cap', ob' id = some ⟨3, (l.take i ++ l.drop (i + 1)).map eR ++ rest, true, cap'⟩ → K (.o id 3 0 (l.length - 1)) ob' ct') : ICall Try.prog 69 [.o s 3 0 l.length, aI i, aI ((i + 1 : Nat) : Int)] ob ct K := by
  refine icall_of_dwp mixed fn69 (by simp) (init_runI ?_)
  simp only [List.zipIdx_cons, List.zipIdx_nil, List.map_cons, List.map_nil]
  unfold ac69
  first | refine run_reg_seq (st' := ?_) ?_ ?_ | refine run_assoc (run_reg_seq (st' := ?_) ?_ ?_) | refine run_reg (st' := ?_) ?_ ?_
  rotate_left 1
  · intro hf K hK; simp [live69, g69_0]; first | exact hK | ((repeat' apply And.intro) <;> first | exact hK | omega)
  have hi1 : (i : Int) + 1 ≤ (l.length : Int) := by omega
  have hi2 : (i : Int) ≤ (i : Int) + 1 := by omega
  have hi3 : (0 : Int) ≤ (i : Int) + 1 := by omega
  have htn : ((i : Int) + 1).toNat = i + 1 := by omega
  first | refine run_reg_seq (st' := ?_) ?_ ?_ | refine run_assoc (run_reg_seq (st' := ?_) ?_ ?_) | refine run_reg (st' := ?_) ?_ ?_
  rotate_left 1
  · intro hf K hK; simp [live69, g69_1, hi1, hi2, hi3, htn]; first | exact hK | ((repeat' apply And.intro) <;> first | exact hK | omega)
  first | refine run_reg_seq (st' := ?_) ?_ ?_ | refine run_assoc (run_reg_seq (st' := ?_) ?_ ?_) | refine run_reg (st' := ?_) ?_ ?_
  rotate_left 1
  · intro hf K hK; simp [live69, g69_2, binV]; first | exact hK | ((repeat' apply And.intro) <;> first | exact hK | omega)
  have hne : ¬ (i : Int) = (i : Int) + 1 := by omega
  first | refine run_cond_seq (b := false) (by simp [hne]) (fun h => by cases h) (fun _ => ?_) | refine run_assoc (run_cond_seq (b := false) (by simp [hne]) (fun h => by cases h) (fun _ => ?_)) | refine run_cond (b := false) (by simp [hne]) (fun h => by cases h) (fun _ => ?_)
  try refine run_skip_seq ?_
  try refine run_exit_seq ?_
  first | refine run_reg_seq (st' := ?_) ?_ ?_ | refine run_assoc (run_reg_seq (st' := ?_) ?_ ?_) | refine run_reg (st' := ?_) ?_ ?_
  rotate_left 1
  · intro hf K hK; simp [live69, g69_4]; first | exact hK | ((repeat' apply And.intro) <;> first | exact hK | omega)
  have hi4 : (i : Int) ≤ (l.length : Int) := by omega
  have e1 : i + 1 + (l.length - (i + 1)) = l.length := by omega
  have hne2 : ¬ i = l.length := by omega
  have tk : List.take (l.length - (i + 1)) (List.drop (i + 1) (List.map eR l)) = List.drop (i + 1) (List.map eR l) := List.take_of_length_le (by simp)
  have e2 : i + (l.length - (i + 1)) = l.length - 1 := by omega
  have e3 : l.length - 1 ≤ l.length := by omega
  first | refine run_drawn_seq (st' := ?_) ?_ ?_ | refine run_assoc (run_drawn_seq (st' := ?_) ?_ ?_) | refine run_drawn (st' := ?_) ?_ ?_
  rotate_left 1
  · intro hf K hK; simp [live69, g69_5, hs, hi1, hi3, hi4, htn, e1, hne2, tk, e2, e3]; first | exact hK | ((repeat' apply And.intro) <;> first | exact hK | omega)
  generalize hes : List.take i (List.map eR l) ++ (List.drop (i + 1) (List.map eR l) ++ List.drop (l.length - 1) (List.map eR l)) = es0
  have t0 : es0.take (l.length - 1) = (l.take i ++ l.drop (i + 1)).map eR := by
    rw [← hes, ← List.append_assoc]
    rw [List.take_left' (by simp; omega)]
    simp
  have l0 : es0.length = l.length := by rw [← hes]; simp; omega
  have e4 : l.length - 1 + (l.length - (l.length - 1)) = l.length := by omega
  have e5 : ((l.length - 1 : Nat) : Int) ≤ (l.length : Int) := by omega
  have e6 : ¬ ((l.length : Int) ≤ ((l.length - 1 : Nat) : Int)) := by omega
  first | refine run_reg_seq (st' := ?_) ?_ ?_ | refine run_assoc (run_reg_seq (st' := ?_) ?_ ?_) | refine run_reg (st' := ?_) ?_ ?_
  rotate_left 1
  · intro hf K hK; simp [live69, g69_6, l0, e3, e4, e5, e6]; first | exact hK | ((repeat' apply And.intro) <;> first | exact hK | omega)
  first | refine run_reg_seq (st' := ?_) ?_ ?_ | refine run_assoc (run_reg_seq (st' := ?_) ?_ ?_) | refine run_reg (st' := ?_) ?_ ?_
  rotate_left 1
  · intro hf K hK; simp [live69, g69_7]; first | exact hK | ((repeat' apply And.intro) <;> first | exact hK | omega)
  simp [KI, dwp, Kseq, res69, mapO, resA, oneOf]
  refine h _ _ _ (List.replicate (l.length - (l.length - 1)) [AV.d true 5 [], AV.d true 1 [], AV.d true 2 []]) cap ?_
  simp
  rw [t0, (List.drop_eq_nil_of_le (by omega) : List.drop l.length es0 = [])]
  simp

end Go.Proofs.Ytcmgfnhlnefchaa
