/-
  What the functions that compare values come to.
-/
import Derived.Test.YtcmgfnhlnefchaaEnc
import Derived.Test.YtcmgfnhlnefchaaCode1
import Derived.Test.YtcmgfnhlnefchaaCode2
namespace Go.Proofs.Ytcmgfnhlnefchaa
open Go.Den
set_option linter.unusedVariables false
set_option linter.unusedSimpArgs false

def sgn (a b : Int) : Int := if a < b then -1 else if b < a then 1 else 0

theorem step68 (a b : Int) : PCall Try.prog 68 [aI a, aI b] (aI (sgn a b)) := by
  refine pcall_of_dwp mixed fn68 (by simp) (init_run fun ob ct _ => ?_)
  simp only [List.zipIdx_cons, List.zipIdx_nil, List.map_cons, List.map_nil]
  unfold ac68
  first | refine run_reg_seq (st' := ?_) ?_ ?_ | refine run_assoc (run_reg_seq (st' := ?_) ?_ ?_) | refine run_reg (st' := ?_) ?_ ?_
  rotate_left 1
  · intro hf K hK; simp [live68, g68_0]; exact hK
  first | refine run_reg_seq (st' := ?_) ?_ ?_ | refine run_assoc (run_reg_seq (st' := ?_) ?_ ?_) | refine run_reg (st' := ?_) ?_ ?_
  rotate_left 1
  · intro hf K hK; simp [live68, g68_1, binV]; exact hK
  by_cases h1 : a < b
  · first | refine run_cond_seq (b := true) (by simp [h1]) (fun _ => ?_) (fun h => by cases h) | refine run_assoc (run_cond_seq (b := true) (by simp [h1]) (fun _ => ?_) (fun h => by cases h)) | refine run_cond (b := true) (by simp [h1]) (fun _ => ?_) (fun h => by cases h)
    try refine run_skip_seq ?_
    try refine run_exit_seq ?_
    first | refine run_reg_seq (st' := ?_) ?_ ?_ | refine run_assoc (run_reg_seq (st' := ?_) ?_ ?_) | refine run_reg (st' := ?_) ?_ ?_
    rotate_left 1
    · intro hf K hK; simp [live68, g68_2]; exact hK
    simp [Kret, dwp, Kseq, retA, res68, mapO, catO, resA, frzA, idsA, oneOf, sgn, h1]
  · first | refine run_cond_seq (b := false) (by simp [h1]) (fun h => by cases h) (fun _ => ?_) | refine run_assoc (run_cond_seq (b := false) (by simp [h1]) (fun h => by cases h) (fun _ => ?_)) | refine run_cond (b := false) (by simp [h1]) (fun h => by cases h) (fun _ => ?_)
    try refine run_skip_seq ?_
    try refine run_exit_seq ?_
    first | refine run_reg_seq (st' := ?_) ?_ ?_ | refine run_assoc (run_reg_seq (st' := ?_) ?_ ?_) | refine run_reg (st' := ?_) ?_ ?_
    rotate_left 1
    · intro hf K hK; simp [live68, g68_3, binV]; exact hK
    by_cases h2 : b < a
    · first | refine run_cond_seq (b := true) (by simp [h2]) (fun _ => ?_) (fun h => by cases h) | refine run_assoc (run_cond_seq (b := true) (by simp [h2]) (fun _ => ?_) (fun h => by cases h)) | refine run_cond (b := true) (by simp [h2]) (fun _ => ?_) (fun h => by cases h)
      try refine run_skip_seq ?_
      try refine run_exit_seq ?_
      first | refine run_reg_seq (st' := ?_) ?_ ?_ | refine run_assoc (run_reg_seq (st' := ?_) ?_ ?_) | refine run_reg (st' := ?_) ?_ ?_
      rotate_left 1
      · intro hf K hK; simp [live68, g68_4]; exact hK
      simp [Kret, dwp, Kseq, retA, res68, mapO, catO, resA, frzA, idsA, oneOf, sgn, h1, h2]
    · first | refine run_cond_seq (b := false) (by simp [h2]) (fun h => by cases h) (fun _ => ?_) | refine run_assoc (run_cond_seq (b := false) (by simp [h2]) (fun h => by cases h) (fun _ => ?_)) | refine run_cond (b := false) (by simp [h2]) (fun h => by cases h) (fun _ => ?_)
      try refine run_skip_seq ?_
      try refine run_exit_seq ?_
      first | refine run_reg_seq (st' := ?_) ?_ ?_ | refine run_assoc (run_reg_seq (st' := ?_) ?_ ?_) | refine run_reg (st' := ?_) ?_ ?_
      rotate_left 1
      · intro hf K hK; simp [live68, g68_5]; exact hK
      simp [Kret, dwp, Kseq, retA, res68, mapO, catO, resA, frzA, idsA, oneOf, sgn, h1, h2]

/-- The comparison of two texts, byte by byte. -/
def cmpB : List UInt8 → List UInt8 → Int
  | x :: xs, y :: ys => if x = y then cmpB xs ys else sgn x.toNat y.toNat
  | xs, ys => sgn xs.length ys.length
theorem ba_get {s : ByteArray} {i : Nat} (h : i < s.size) : s[i]? = some (s.data.toList[i]'(by simpa using h)) := by
  rw [getElem?_pos s i h]; rfl
theorem cmpB_end {xs ys : List UInt8} {i : Nat} (h : ¬ (i < xs.length ∧ i < ys.length)) (hi : i ≤ xs.length) (hj : i ≤ ys.length) : cmpB (xs.drop i) (ys.drop i) = sgn xs.length ys.length := by
  have key : ∀ (us vs : List UInt8), us = [] ∨ vs = [] → cmpB us vs = sgn us.length vs.length := by
    intro us vs h
    rcases h with rfl | rfl
    · cases vs <;> rfl
    · cases us <;> rfl
  rw [key _ _ (by
    rcases Nat.lt_or_ge i xs.length with h1 | h1
    · right; apply List.drop_eq_nil_of_le; omega
    · left; apply List.drop_eq_nil_of_le; omega)]
  simp only [List.length_drop, sgn]
  split <;> split <;> (try split) <;> (try split) <;> omega
theorem u8_ne {x y : UInt8} : ((x.toNat : Int) != (y.toNat : Int)) = !(decide (x = y)) := by
  by_cases h : x = y
  · subst h; simp
  · have : x.toNat ≠ y.toNat := fun e => h (UInt8.toNat_inj.1 e)
    simp [h]; omega
theorem wrap_u8 (x : UInt8) : IntKind.i64.wrap (x.toNat : Int) = (x.toNat : Int) := wrap_nat _ (by have := x.toNat_lt; omega)

theorem step79 (a b : ByteArray) (ha : a.size < 1000000000000) (hb : b.size < 1000000000000) : PCall Try.prog 79 [aS a, aS b] (aI (cmpB a.data.toList b.data.toList)) := by
  refine pcall_of_dwp mixed fn79 (by simp) (init_run fun ob ct _ => ?_)
  simp only [List.zipIdx_cons, List.zipIdx_nil, List.map_cons, List.map_nil]
  unfold ac79
  first | refine run_reg_seq (st' := ?_) ?_ ?_ | refine run_assoc (run_reg_seq (st' := ?_) ?_ ?_) | refine run_reg (st' := ?_) ?_ ?_
  rotate_left 1
  · intro hf K hK; simp [live79, g79_0]; exact hK
  first | refine run_reg_seq (st' := ?_) ?_ ?_ | refine run_assoc (run_reg_seq (st' := ?_) ?_ ?_) | refine run_reg (st' := ?_) ?_ ?_
  rotate_left 1
  · intro hf K hK; simp [live79, g79_1]; exact hK
  first | refine run_block (run_loop fun I hI => ?_) | refine run_seq (run_block (run_loop fun I hI => ?_)) | refine run_loop fun I hI => ?_ | refine run_seq (run_loop fun I hI => ?_)
  have la : a.data.toList.length = a.size := by simp
  have lb : b.data.toList.length = b.size := by simp
  have key : ∀ (m i : Nat) (x y z : AV) (ob : Den.Id → Option Ob) (ct : Nat → Nat), i + m = min a.size b.size → cmpB (a.data.toList.drop i) (b.data.toList.drop i) = cmpB a.data.toList b.data.toList →
      I (St.of [(0, aS a), (1, aS b), (4, x), (5, aI i), (15, y), (24, z)] ob ct) := by
    intro m
    induction m with
    | zero =>
      intro i x y z ob ct hi he
      have hend : cmpB a.data.toList b.data.toList = sgn a.size b.size := by
        rw [← he, cmpB_end (by omega) (by omega) (by omega), la, lb]
      refine hI _ ?_
      by_cases h1 : i < a.size
      · have h2 : ¬ i < b.size := by omega
        first | refine run_reg_seq (st' := ?_) ?_ ?_ | refine run_assoc (run_reg_seq (st' := ?_) ?_ ?_) | refine run_reg (st' := ?_) ?_ ?_
        rotate_left 1
        · intro hf K hK; simp [live79, g79_2, binV, h1, h2]; exact hK
        first | refine run_cond_seq (b := false) (by simp []) (fun h => by cases h) (fun _ => ?_) | refine run_assoc (run_cond_seq (b := false) (by simp []) (fun h => by cases h) (fun _ => ?_)) | refine run_cond (b := false) (by simp []) (fun h => by cases h) (fun _ => ?_)
        try refine run_skip_seq ?_
        try refine run_exit_seq ?_
        first | refine run_reg_seq (st' := ?_) ?_ ?_ | refine run_assoc (run_reg_seq (st' := ?_) ?_ ?_) | refine run_reg (st' := ?_) ?_ ?_
        rotate_left 1
        · intro hf K hK; simp [live79, g79_6]
          refine .inl (callW_of0 (step68 a.size b.size) [] (by simp [mapO, catO, frzA]) (by simp [mapO, catO, idsA]) ?_)
          simp [live79, g79_6]; exact hK
        simp [Kret, dwp, Kseq, retA, res79, mapO, catO, resA, frzA, idsA, oneOf, hend]
      · first | refine run_reg_seq (st' := ?_) ?_ ?_ | refine run_assoc (run_reg_seq (st' := ?_) ?_ ?_) | refine run_reg (st' := ?_) ?_ ?_
        rotate_left 1
        · intro hf K hK; simp [live79, g79_2, binV, h1]; exact hK
        first | refine run_cond_seq (b := false) (by simp []) (fun h => by cases h) (fun _ => ?_) | refine run_assoc (run_cond_seq (b := false) (by simp []) (fun h => by cases h) (fun _ => ?_)) | refine run_cond (b := false) (by simp []) (fun h => by cases h) (fun _ => ?_)
        try refine run_skip_seq ?_
        try refine run_exit_seq ?_
        first | refine run_reg_seq (st' := ?_) ?_ ?_ | refine run_assoc (run_reg_seq (st' := ?_) ?_ ?_) | refine run_reg (st' := ?_) ?_ ?_
        rotate_left 1
        · intro hf K hK; simp [live79, g79_6]
          refine .inl (callW_of0 (step68 a.size b.size) [] (by simp [mapO, catO, frzA]) (by simp [mapO, catO, idsA]) ?_)
          simp [live79, g79_6]; exact hK
        simp [Kret, dwp, Kseq, retA, res79, mapO, catO, resA, frzA, idsA, oneOf, hend]
    | succ m ih =>
      intro i x y z ob ct hi he
      have h1 : i < a.size := by omega
      have h2 : i < b.size := by omega
      refine hI _ ?_
      first | refine run_reg_seq (st' := ?_) ?_ ?_ | refine run_assoc (run_reg_seq (st' := ?_) ?_ ?_) | refine run_reg (st' := ?_) ?_ ?_
      rotate_left 1
      · intro hf K hK; simp [live79, g79_2, binV, h1, h2]; exact hK
      first | refine run_cond_seq (b := true) (by simp []) (fun _ => ?_) (fun h => by cases h) | refine run_assoc (run_cond_seq (b := true) (by simp []) (fun _ => ?_) (fun h => by cases h)) | refine run_cond (b := true) (by simp []) (fun _ => ?_) (fun h => by cases h)
      try refine run_skip_seq ?_
      try refine run_exit_seq ?_
      refine run_seq ?_
      have ga := ba_get h1
      have gb := ba_get h2
      generalize hx : a.data.toList[i]'(by omega) = xa at ga
      generalize hy : b.data.toList[i]'(by omega) = xb at gb
      first | refine run_drawn_seq (st' := ?_) ?_ ?_ | refine run_assoc (run_drawn_seq (st' := ?_) ?_ ?_) | refine run_drawn (st' := ?_) ?_ ?_
      rotate_left 1
      · intro hf K hK; simp [live79, g79_3, binV, ga, gb, u8_ne]; exact hK
      rw [List.drop_eq_getElem_cons (show i < a.data.toList.length by omega), List.drop_eq_getElem_cons (show i < b.data.toList.length by omega), hx, hy] at he
      by_cases hxy : xa = xb
      · first | refine run_cond_seq (b := false) (by simp [hxy]) (fun h => by cases h) (fun _ => ?_) | refine run_assoc (run_cond_seq (b := false) (by simp [hxy]) (fun h => by cases h) (fun _ => ?_)) | refine run_cond (b := false) (by simp [hxy]) (fun h => by cases h) (fun _ => ?_)
        try refine run_skip_seq ?_
        try refine run_exit_seq ?_
        first | refine run_reg_seq (st' := ?_) ?_ ?_ | refine run_assoc (run_reg_seq (st' := ?_) ?_ ?_) | refine run_reg (st' := ?_) ?_ ?_
        rotate_left 1
        · intro hf K hK; simp [live79, g79_5, binV]; exact hK
        rw [wrap_succ (by omega)]
        refine ih (i + 1) _ _ _ _ _ (by omega) ?_
        rw [← he]; simp [cmpB, hxy]
      · first | refine run_cond_seq (b := true) (by simp [hxy]) (fun _ => ?_) (fun h => by cases h) | refine run_assoc (run_cond_seq (b := true) (by simp [hxy]) (fun _ => ?_) (fun h => by cases h)) | refine run_cond (b := true) (by simp [hxy]) (fun _ => ?_) (fun h => by cases h)
        try refine run_skip_seq ?_
        try refine run_exit_seq ?_
        first | refine run_drawn_seq (st' := ?_) ?_ ?_ | refine run_assoc (run_drawn_seq (st' := ?_) ?_ ?_) | refine run_drawn (st' := ?_) ?_ ?_
        rotate_left 1
        · intro hf K hK; simp [live79, g79_4, ga, gb, wrap_u8]
          refine (callW_of0 (step68 xa.toNat xb.toNat) [] (by simp [mapO, catO, frzA, ga, gb, wrap_u8]) (by simp [mapO, catO, idsA, ga, gb, wrap_u8]) ?_)
          simp [live79, g79_4, ga, gb, wrap_u8]; exact hK
        simp only [cmpB, if_neg hxy] at he
        simp [Kret, dwp, Kseq, retA, res79, mapO, catO, resA, frzA, idsA, oneOf, he]
  exact key (min a.size b.size) 0 _ _ _ _ _ (by omega) rfl

def V.ok (v : V) : Prop := v.s.size < 1000000000000
def cmpV (a b : V) : Int := if a.k = b.k then (if a.i = b.i then cmpB a.s.data.toList b.s.data.toList else sgn a.i b.i) else sgn a.k b.k

theorem step67 (a b : V) (ha : a.ok) (hb : b.ok) : PCall Try.prog 67 [.g (eV a), .g (eV b)] (aI (cmpV a b)) := by
  refine pcall_of_dwp mixed fn67 (by simp) (init_run fun ob ct _ => ?_)
  simp only [List.zipIdx_cons, List.zipIdx_nil, List.map_cons, List.map_nil]
  unfold ac67
  first | refine run_reg_seq (st' := ?_) ?_ ?_ | refine run_assoc (run_reg_seq (st' := ?_) ?_ ?_) | refine run_reg (st' := ?_) ?_ ?_
  rotate_left 1
  · intro hf K hK; simp [live67, g67_0, eV]; exact hK
  first | refine run_reg_seq (st' := ?_) ?_ ?_ | refine run_assoc (run_reg_seq (st' := ?_) ?_ ?_) | refine run_reg (st' := ?_) ?_ ?_
  rotate_left 1
  · intro hf K hK; simp [live67, g67_1, binV]; exact hK
  by_cases h1 : a.k = b.k
  · first | refine run_cond_seq (b := false) (by simp [h1]) (fun h => by cases h) (fun _ => ?_) | refine run_assoc (run_cond_seq (b := false) (by simp [h1]) (fun h => by cases h) (fun _ => ?_)) | refine run_cond (b := false) (by simp [h1]) (fun h => by cases h) (fun _ => ?_)
    try refine run_skip_seq ?_
    try refine run_exit_seq ?_
    first | refine run_reg_seq (st' := ?_) ?_ ?_ | refine run_assoc (run_reg_seq (st' := ?_) ?_ ?_) | refine run_reg (st' := ?_) ?_ ?_
    rotate_left 1
    · intro hf K hK; simp [live67, g67_3, binV]; exact hK
    by_cases h2 : a.i = b.i
    · first | refine run_cond_seq (b := false) (by simp [h2]) (fun h => by cases h) (fun _ => ?_) | refine run_assoc (run_cond_seq (b := false) (by simp [h2]) (fun h => by cases h) (fun _ => ?_)) | refine run_cond (b := false) (by simp [h2]) (fun h => by cases h) (fun _ => ?_)
      try refine run_skip_seq ?_
      try refine run_exit_seq ?_
      first | refine run_reg_seq (st' := ?_) ?_ ?_ | refine run_assoc (run_reg_seq (st' := ?_) ?_ ?_) | refine run_reg (st' := ?_) ?_ ?_
      rotate_left 1
      · intro hf K hK; simp [live67, g67_5]
        refine .inl (callW_of0 (step79 a.s b.s ha hb) [] (by simp [mapO, catO, frzA]) (by simp [mapO, catO, idsA]) ?_)
        simp [live67, g67_5]; exact hK
      simp [Kret, dwp, Kseq, retA, res67, mapO, catO, resA, frzA, idsA, oneOf, cmpV, h1, h2]
    · first | refine run_cond_seq (b := true) (by simp [h2]) (fun _ => ?_) (fun h => by cases h) | refine run_assoc (run_cond_seq (b := true) (by simp [h2]) (fun _ => ?_) (fun h => by cases h)) | refine run_cond (b := true) (by simp [h2]) (fun _ => ?_) (fun h => by cases h)
      try refine run_skip_seq ?_
      try refine run_exit_seq ?_
      first | refine run_reg_seq (st' := ?_) ?_ ?_ | refine run_assoc (run_reg_seq (st' := ?_) ?_ ?_) | refine run_reg (st' := ?_) ?_ ?_
      rotate_left 1
      · intro hf K hK; simp [live67, g67_4]
        refine .inl (callW_of0 (step68 a.i b.i) [] (by simp [mapO, catO, frzA]) (by simp [mapO, catO, idsA]) ?_)
        simp [live67, g67_4]; exact hK
      simp [Kret, dwp, Kseq, retA, res67, mapO, catO, resA, frzA, idsA, oneOf, cmpV, h1, h2]
  · first | refine run_cond_seq (b := true) (by simp [h1]) (fun _ => ?_) (fun h => by cases h) | refine run_assoc (run_cond_seq (b := true) (by simp [h1]) (fun _ => ?_) (fun h => by cases h)) | refine run_cond (b := true) (by simp [h1]) (fun _ => ?_) (fun h => by cases h)
    try refine run_skip_seq ?_
    try refine run_exit_seq ?_
    first | refine run_reg_seq (st' := ?_) ?_ ?_ | refine run_assoc (run_reg_seq (st' := ?_) ?_ ?_) | refine run_reg (st' := ?_) ?_ ?_
    rotate_left 1
    · intro hf K hK; simp [live67, g67_2]
      refine .inl (callW_of0 (step68 a.k b.k) [] (by simp [mapO, catO, frzA]) (by simp [mapO, catO, idsA]) ?_)
      simp [live67, g67_2]; exact hK
    simp [Kret, dwp, Kseq, retA, res67, mapO, catO, resA, frzA, idsA, oneOf, cmpV, h1]

def cmpL : List V → List V → Int
  | x :: xs, y :: ys => if cmpV x y = 0 then cmpL xs ys else cmpV x y
  | xs, ys => sgn xs.length ys.length
theorem cmpL_end {xs ys : List V} {i : Nat} (h : ¬ (i < xs.length ∧ i < ys.length)) (hi : i ≤ xs.length) (hj : i ≤ ys.length) : cmpL (xs.drop i) (ys.drop i) = sgn xs.length ys.length := by
  have key : ∀ (us vs : List V), us = [] ∨ vs = [] → cmpL us vs = sgn us.length vs.length := by
    intro us vs h
    rcases h with rfl | rfl
    · cases vs <;> rfl
    · cases us <;> rfl
  rw [key _ _ (by
    rcases Nat.lt_or_ge i xs.length with h1 | h1
    · right; apply List.drop_eq_nil_of_le; omega
    · left; apply List.drop_eq_nil_of_le; omega)]
  simp only [List.length_drop, sgn]
  split <;> split <;> (try split) <;> (try split) <;> omega

theorem step44 (a b : List V) (ha : ∀ v ∈ a, v.ok) (hb : ∀ v ∈ b, v.ok) (la : a.length < 1000000000000) (lb : b.length < 1000000000000) : PCall Try.prog 44 [dV a, dV b] (aI (cmpL a b)) := by
  refine pcall_of_dwp mixed fn44 (by simp) (init_run fun ob ct _ => ?_)
  simp only [List.zipIdx_cons, List.zipIdx_nil, List.map_cons, List.map_nil]
  unfold ac44
  first | refine run_reg_seq (st' := ?_) ?_ ?_ | refine run_assoc (run_reg_seq (st' := ?_) ?_ ?_) | refine run_reg (st' := ?_) ?_ ?_
  rotate_left 1
  · intro hf K hK; simp [live44, g44_0]; exact hK
  first | refine run_reg_seq (st' := ?_) ?_ ?_ | refine run_assoc (run_reg_seq (st' := ?_) ?_ ?_) | refine run_reg (st' := ?_) ?_ ?_
  rotate_left 1
  · intro hf K hK; simp [live44, g44_1]; exact hK
  first | refine run_block (run_loop fun I hI => ?_) | refine run_seq (run_block (run_loop fun I hI => ?_)) | refine run_loop fun I hI => ?_ | refine run_seq (run_loop fun I hI => ?_)
  have key : ∀ (m i : Nat) (x y z a6 : AV) (ob : Den.Id → Option Ob) (ct : Nat → Nat), i + m = min a.length b.length → cmpL (a.drop i) (b.drop i) = cmpL a b →
      I (St.of [(0, dV a), (1, dV b), (4, x), (5, aI i), (6, a6), (16, y), (29, z)] ob ct) := by
    intro m
    induction m with
    | zero =>
      intro i x y z a6 ob ct hi he
      have hend : cmpL a b = sgn a.length b.length := by
        rw [← he, cmpL_end (by omega) (by omega) (by omega)]
      refine hI _ ?_
      by_cases h1 : i < a.length
      · have h2 : ¬ i < b.length := by omega
        first | refine run_reg_seq (st' := ?_) ?_ ?_ | refine run_assoc (run_reg_seq (st' := ?_) ?_ ?_) | refine run_reg (st' := ?_) ?_ ?_
        rotate_left 1
        · intro hf K hK; simp [live44, g44_2, binV, h1, h2]; exact hK
        first | refine run_cond_seq (b := false) (by simp []) (fun h => by cases h) (fun _ => ?_) | refine run_assoc (run_cond_seq (b := false) (by simp []) (fun h => by cases h) (fun _ => ?_)) | refine run_cond (b := false) (by simp []) (fun h => by cases h) (fun _ => ?_)
        try refine run_skip_seq ?_
        try refine run_exit_seq ?_
        first | refine run_reg_seq (st' := ?_) ?_ ?_ | refine run_assoc (run_reg_seq (st' := ?_) ?_ ?_) | refine run_reg (st' := ?_) ?_ ?_
        rotate_left 1
        · intro hf K hK; simp [live44, g44_7]
          refine .inl (callW_of0 (step68 a.length b.length) [] (by simp [mapO, catO, frzA]) (by simp [mapO, catO, idsA]) ?_)
          simp [live44, g44_7]; exact hK
        simp [Kret, dwp, Kseq, retA, res44, mapO, catO, resA, frzA, idsA, oneOf, hend]
      · first | refine run_reg_seq (st' := ?_) ?_ ?_ | refine run_assoc (run_reg_seq (st' := ?_) ?_ ?_) | refine run_reg (st' := ?_) ?_ ?_
        rotate_left 1
        · intro hf K hK; simp [live44, g44_2, binV, h1]; exact hK
        first | refine run_cond_seq (b := false) (by simp []) (fun h => by cases h) (fun _ => ?_) | refine run_assoc (run_cond_seq (b := false) (by simp []) (fun h => by cases h) (fun _ => ?_)) | refine run_cond (b := false) (by simp []) (fun h => by cases h) (fun _ => ?_)
        try refine run_skip_seq ?_
        try refine run_exit_seq ?_
        first | refine run_reg_seq (st' := ?_) ?_ ?_ | refine run_assoc (run_reg_seq (st' := ?_) ?_ ?_) | refine run_reg (st' := ?_) ?_ ?_
        rotate_left 1
        · intro hf K hK; simp [live44, g44_7]
          refine .inl (callW_of0 (step68 a.length b.length) [] (by simp [mapO, catO, frzA]) (by simp [mapO, catO, idsA]) ?_)
          simp [live44, g44_7]; exact hK
        simp [Kret, dwp, Kseq, retA, res44, mapO, catO, resA, frzA, idsA, oneOf, hend]
    | succ m ih =>
      intro i x y z a6 ob ct hi he
      have h1 : i < a.length := by omega
      have h2 : i < b.length := by omega
      refine hI _ ?_
      first | refine run_reg_seq (st' := ?_) ?_ ?_ | refine run_assoc (run_reg_seq (st' := ?_) ?_ ?_) | refine run_reg (st' := ?_) ?_ ?_
      rotate_left 1
      · intro hf K hK; simp [live44, g44_2, binV, h1, h2]; exact hK
      first | refine run_cond_seq (b := true) (by simp []) (fun _ => ?_) (fun h => by cases h) | refine run_assoc (run_cond_seq (b := true) (by simp []) (fun _ => ?_) (fun h => by cases h)) | refine run_cond (b := true) (by simp []) (fun _ => ?_) (fun h => by cases h)
      try refine run_skip_seq ?_
      try refine run_exit_seq ?_
      refine run_seq ?_
      first | refine run_drawn_seq (st' := ?_) ?_ ?_ | refine run_assoc (run_drawn_seq (st' := ?_) ?_ ?_) | refine run_drawn (st' := ?_) ?_ ?_
      rotate_left 1
      · intro hf K hK; simp [live44, g44_3, h1, h2, eV]
        refine (callW_of0 (step67 a[i] b[i] (ha _ (by simp)) (hb _ (by simp))) [] (by simp [mapO, catO, frzA, h1, h2, eV]) (by simp [mapO, catO, idsA, h1, h2, eV]) ?_)
        simp [live44, g44_3, h1, h2, eV]; exact hK
      rw [List.drop_eq_getElem_cons h1, List.drop_eq_getElem_cons h2] at he
      first | refine run_reg_seq (st' := ?_) ?_ ?_ | refine run_assoc (run_reg_seq (st' := ?_) ?_ ?_) | refine run_reg (st' := ?_) ?_ ?_
      rotate_left 1
      · intro hf K hK; simp [live44, g44_4, binV]; exact hK
      by_cases hxy : cmpV a[i] b[i] = 0
      · first | refine run_cond_seq (b := false) (by simp [hxy]) (fun h => by cases h) (fun _ => ?_) | refine run_assoc (run_cond_seq (b := false) (by simp [hxy]) (fun h => by cases h) (fun _ => ?_)) | refine run_cond (b := false) (by simp [hxy]) (fun h => by cases h) (fun _ => ?_)
        try refine run_skip_seq ?_
        try refine run_exit_seq ?_
        first | refine run_reg_seq (st' := ?_) ?_ ?_ | refine run_assoc (run_reg_seq (st' := ?_) ?_ ?_) | refine run_reg (st' := ?_) ?_ ?_
        rotate_left 1
        · intro hf K hK; simp [live44, g44_6, binV]; exact hK
        rw [wrap_succ (by omega)]
        refine ih (i + 1) _ _ _ _ _ _ (by omega) ?_
        rw [← he]; simp [cmpL, hxy]
      · first | refine run_cond_seq (b := true) (by simp [hxy]) (fun _ => ?_) (fun h => by cases h) | refine run_assoc (run_cond_seq (b := true) (by simp [hxy]) (fun _ => ?_) (fun h => by cases h)) | refine run_cond (b := true) (by simp [hxy]) (fun _ => ?_) (fun h => by cases h)
        try refine run_skip_seq ?_
        try refine run_exit_seq ?_
        first | refine run_reg_seq (st' := ?_) ?_ ?_ | refine run_assoc (run_reg_seq (st' := ?_) ?_ ?_) | refine run_reg (st' := ?_) ?_ ?_
        rotate_left 1
        · intro hf K hK; simp [live44, g44_5]; exact hK
        simp only [cmpL, if_neg hxy] at he
        simp [Kret, dwp, Kseq, retA, res44, mapO, catO, resA, frzA, idsA, oneOf, he]
  exact key (min a.length b.length) 0 _ _ _ _ _ _ (by omega) rfl

end Go.Proofs.Ytcmgfnhlnefchaa
