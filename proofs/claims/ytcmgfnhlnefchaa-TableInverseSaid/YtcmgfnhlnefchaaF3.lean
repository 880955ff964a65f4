/-
  What the functions that make keys come to.
-/
import Derived.Test.YtcmgfnhlnefchaaF2
namespace Go.Proofs.Ytcmgfnhlnefchaa
open Go.Den
set_option linter.unusedVariables false
set_option linter.unusedSimpArgs false

def vals (r : R) : List V := r.cells.map (·.v)
def keyR (r : R) (k : Int) : List V := (vals r).take k.toNat
theorem dV_vals (r : R) : dV (vals r) = .d false 3 (r.cells.map fun c => eV c.v) := by
  simp only [dV, vals, List.map_map]; rfl

theorem step24 (r : R) (hl : r.cells.length ≤ 1000000000) : PCall Try.prog 24 [.g (eR r)] (dV (vals r)) := by
  refine pcall_of_dwp mixed fn24 (by simp) (init_run fun ob ct _ => ?_)
  simp only [List.zipIdx_cons, List.zipIdx_nil, List.map_cons, List.map_nil]
  unfold ac24
  rw [dV_vals]
  first | refine run_reg_seq (st' := ?_) ?_ ?_ | refine run_assoc (run_reg_seq (st' := ?_) ?_ ?_) | refine run_reg (st' := ?_) ?_ ?_
  rotate_left 1
  · intro hf K hK; simp [live24, g24_0, eR]; exact hK
  first | refine run_reg_seq (st' := ?_) ?_ ?_ | refine run_assoc (run_reg_seq (st' := ?_) ?_ ?_) | refine run_reg (st' := ?_) ?_ ?_
  rotate_left 1
  · intro hf K hK; simp [live24, g24_1]; exact hK
  first | refine run_reg_seq (st' := ?_) ?_ ?_ | refine run_assoc (run_reg_seq (st' := ?_) ?_ ?_) | refine run_reg (st' := ?_) ?_ ?_
  rotate_left 1
  · intro hf K hK; simp [live24, g24_2]; exact hK
  first | refine run_block (run_loop fun I hI => ?_) | refine run_seq (run_block (run_loop fun I hI => ?_)) | refine run_loop fun I hI => ?_ | refine run_seq (run_loop fun I hI => ?_)
  have key : ∀ (m j : Nat) (a0 x : AV) (b id : Den.Id) (cap : Option Nat) (ob : Den.Id → Option Ob) (ct : Nat → Nat), j + m = r.cells.length → ob b = some ⟨3, [eR r], true, some 1⟩ → ob id = some ⟨3, (r.cells.take j).map (fun c => eV c.v), true, cap⟩ → id ≠ b →
      I (St.of [(0, a0), (1, .p b 3 0 0), (2, .d true 3 []), (3, .o id 3 0 j), (4, aI j), (10, x)] ob ct) := by
    intro m
    induction m with
    | zero =>
      intro j a0 x b id cap ob ct hj hb hid hne
      have h1 : ¬ j < r.cells.length := by omega
      refine hI _ ?_
      first | refine run_reg_seq (st' := ?_) ?_ ?_ | refine run_assoc (run_reg_seq (st' := ?_) ?_ ?_) | refine run_reg (st' := ?_) ?_ ?_
      rotate_left 1
      · intro hf K hK; simp [live24, g24_3, hb, hid, eR, binV, h1]; exact hK
      first | refine run_cond_seq (b := false) (by simp []) (fun h => by cases h) (fun _ => ?_) | refine run_assoc (run_cond_seq (b := false) (by simp []) (fun h => by cases h) (fun _ => ?_)) | refine run_cond (b := false) (by simp []) (fun h => by cases h) (fun _ => ?_)
      try refine run_skip_seq ?_
      try refine run_exit_seq ?_
      first | refine run_reg_seq (st' := ?_) ?_ ?_ | refine run_assoc (run_reg_seq (st' := ?_) ?_ ?_) | refine run_reg (st' := ?_) ?_ ?_
      rotate_left 1
      · intro hf K hK; simp [live24, g24_6]; exact hK
      have hjl : j = r.cells.length := by omega
      rw [hjl, List.take_length] at hid
      simp [Kret, dwp, Kseq, retA, res24, mapO, catO, resA, frzA, idsA, oneOf, hid, eV, hjl]
    | succ m ih =>
      intro j a0 x b id cap ob ct hj hb hid hne
      have h1 : j < r.cells.length := by omega
      refine hI _ ?_
      first | refine run_reg_seq (st' := ?_) ?_ ?_ | refine run_assoc (run_reg_seq (st' := ?_) ?_ ?_) | refine run_reg (st' := ?_) ?_ ?_
      rotate_left 1
      · intro hf K hK; simp [live24, g24_3, hb, hid, eR, binV, h1]; exact hK
      first | refine run_cond_seq (b := true) (by simp []) (fun _ => ?_) (fun h => by cases h) | refine run_assoc (run_cond_seq (b := true) (by simp []) (fun _ => ?_) (fun h => by cases h)) | refine run_cond (b := true) (by simp []) (fun _ => ?_) (fun h => by cases h)
      try refine run_skip_seq ?_
      try refine run_exit_seq ?_
      refine run_seq (run_reg' (st' := ?_) fun hf => ⟨?_, ?_⟩); rotate_left 1
      · intro K hK
        have n1 := hf.of_ne hid 20
        have n2 := hf.of_ne hid 21
        have n3 := hf.of_ne hb 20
        have n4 := hf.of_ne hb 21
        have m1 : min j r.cells.length = j := by omega
        have m2 : (j + 1) * 32 ≤ 70368744177664 := by omega
        have m3 : j ≤ 70368744177663 := by omega
        simp [live24, g24_4, hb, hid, eR, eC, binV, n1, n2, n3, n4, h1, m1, m2, m3]
        exact hK
      have n3 := hf.of_ne hb 20
      have n4 := hf.of_ne hb 21
      first | refine run_reg_seq (st' := ?_) ?_ ?_ | refine run_assoc (run_reg_seq (st' := ?_) ?_ ?_) | refine run_reg (st' := ?_) ?_ ?_
      rotate_left 1
      · intro hf K hK; simp [live24, g24_5, binV]; exact hK
      rw [wrap_succ (by omega)]
      exact ih (j + 1) _ _ _ _ none _ _ (by omega) (by simp [hb, hne.symm, n3, n4]) (by simp only [take_snoc h1]; simp [eV]) (by simp [n4.symm])
  exact key r.cells.length 0 _ _ _ _ (some 0) _ _ (by omega) (by simp [eR]) (by simp) (by simp)

theorem keyR_cases (r : R) (k : Int) : (if 0 ≤ k then (if k ≤ (r.cells.length : Int) then k else (r.cells.length : Int)) else 0) = ((min k.toNat r.cells.length : Nat) : Int) := by
  split
  · split <;> omega
  · omega
theorem keyR_take (r : R) (k : Int) : List.take (min k.toNat r.cells.length) (r.cells.map fun c => eV c.v) = (keyR r k).map eV := by
  simp only [keyR, vals, List.map_take, List.map_map]
  rw [show (eV ∘ fun x : C => x.v) = fun c => eV c.v from rfl]
  rcases Nat.le_total k.toNat r.cells.length with h | h
  · rw [Nat.min_eq_left h]
  · rw [Nat.min_eq_right h, List.take_of_length_le (by simp), List.take_of_length_le (by simpa using h)]

theorem step9 (r : R) (k : Int) (hl : r.cells.length ≤ 1000000000) : PCall Try.prog 9 [.g (eR r), aI k] (dV (keyR r k)) := by
  refine pcall_of_dwp mixed fn9 (by simp) (init_run fun ob ct _ => ?_)
  simp only [List.zipIdx_cons, List.zipIdx_nil, List.map_cons, List.map_nil]
  unfold ac9
  first | refine run_reg_seq (st' := ?_) ?_ ?_ | refine run_assoc (run_reg_seq (st' := ?_) ?_ ?_) | refine run_reg (st' := ?_) ?_ ?_
  rotate_left 1
  · intro hf K hK; simp [live9, g9_0, eR]; exact hK
  rw [dV, ← keyR_take]
  have hc := step24 r hl
  rw [dV_vals] at hc
  rcases Int.lt_or_le k 0 with h0 | h0
  · have e1 : k.toNat = 0 := by omega
    first | refine run_drawn_seq (st' := ?_) ?_ ?_ | refine run_assoc (run_drawn_seq (st' := ?_) ?_ ?_) | refine run_drawn (st' := ?_) ?_ ?_
    rotate_left 1
    · intro hf K hK; simp [live9, g9_1, eR, mmV, mm2, h0, e1, show ¬ 0 ≤ k by omega, show ¬ (0 < k) by omega, show ¬ ((r.cells.length : Int) < k) by omega]
      refine (callW_of0 (hc) [] (by simp [mapO, catO, frzA, eR, mmV, mm2, h0, e1, show ¬ 0 ≤ k by omega, show ¬ (0 < k) by omega, show ¬ ((r.cells.length : Int) < k) by omega]) (by simp [mapO, catO, idsA, eR, mmV, mm2, h0, e1, show ¬ 0 ≤ k by omega, show ¬ (0 < k) by omega, show ¬ ((r.cells.length : Int) < k) by omega]) ?_)
      simp [live9, g9_1, eR, mmV, mm2, h0, e1, show ¬ 0 ≤ k by omega, show ¬ (0 < k) by omega, show ¬ ((r.cells.length : Int) < k) by omega]
      exact hK
    simp [Kret, dwp, Kseq, retA, res9, mapO, catO, resA, frzA, idsA, oneOf, e1]
  · rcases Int.lt_or_le (r.cells.length : Int) k with h1 | h1
    · have e1 : min k.toNat r.cells.length = r.cells.length := by omega
      by_cases h2 : r.cells.length = 0
      · first | refine run_drawn_seq (st' := ?_) ?_ ?_ | refine run_assoc (run_drawn_seq (st' := ?_) ?_ ?_) | refine run_drawn (st' := ?_) ?_ ?_
        rotate_left 1
        · intro hf K hK; simp [live9, g9_1, eR, mmV, mm2, h0, h1, e1, h2, show 0 < k by omega]
          refine (callW_of0 (hc) [] (by simp [mapO, catO, frzA, eR, mmV, mm2, h0, h1, e1, h2, show 0 < k by omega]) (by simp [mapO, catO, idsA, eR, mmV, mm2, h0, h1, e1, h2, show 0 < k by omega]) ?_)
          simp [live9, g9_1, eR, mmV, mm2, h0, h1, e1, h2, show 0 < k by omega]
          exact hK
        simp [Kret, dwp, Kseq, retA, res9, mapO, catO, resA, frzA, idsA, oneOf, e1, h2]
      · first | refine run_drawn_seq (st' := ?_) ?_ ?_ | refine run_assoc (run_drawn_seq (st' := ?_) ?_ ?_) | refine run_drawn (st' := ?_) ?_ ?_
        rotate_left 1
        · intro hf K hK; simp [live9, g9_1, eR, mmV, mm2, h0, h1, e1, show 0 < r.cells.length by omega]
          refine (callW_of0 (hc) [] (by simp [mapO, catO, frzA, eR, mmV, mm2, h0, h1, e1, show 0 < r.cells.length by omega]) (by simp [mapO, catO, idsA, eR, mmV, mm2, h0, h1, e1, show 0 < r.cells.length by omega]) ?_)
          simp [live9, g9_1, eR, mmV, mm2, h0, h1, e1, show 0 < r.cells.length by omega]
          exact hK
        simp [Kret, dwp, Kseq, retA, res9, mapO, catO, resA, frzA, idsA, oneOf, e1]
    · have e1 : min k.toNat r.cells.length = k.toNat := by omega
      have e2 : k.toNat ≤ r.cells.length := by omega
      by_cases h2 : k = 0
      · first | refine run_drawn_seq (st' := ?_) ?_ ?_ | refine run_assoc (run_drawn_seq (st' := ?_) ?_ ?_) | refine run_drawn (st' := ?_) ?_ ?_
        rotate_left 1
        · intro hf K hK; simp [live9, g9_1, eR, mmV, mm2, h2, show ¬ ((r.cells.length : Int) < 0) by omega]
          refine (callW_of0 (hc) [] (by simp [mapO, catO, frzA, eR, mmV, mm2, h2, show ¬ ((r.cells.length : Int) < 0) by omega]) (by simp [mapO, catO, idsA, eR, mmV, mm2, h2, show ¬ ((r.cells.length : Int) < 0) by omega]) ?_)
          simp [live9, g9_1, eR, mmV, mm2, h2, show ¬ ((r.cells.length : Int) < 0) by omega]
          exact hK
        simp [Kret, dwp, Kseq, retA, res9, mapO, catO, resA, frzA, idsA, oneOf, h2]
      · first | refine run_drawn_seq (st' := ?_) ?_ ?_ | refine run_assoc (run_drawn_seq (st' := ?_) ?_ ?_) | refine run_drawn (st' := ?_) ?_ ?_
        rotate_left 1
        · intro hf K hK; simp [live9, g9_1, eR, mmV, mm2, h0, h1, e1, e2, show ¬ ((r.cells.length : Int) < k) by omega, show (0 < k) by omega]
          refine (callW_of0 (hc) [] (by simp [mapO, catO, frzA, eR, mmV, mm2, h0, h1, e1, e2, show ¬ ((r.cells.length : Int) < k) by omega, show (0 < k) by omega]) (by simp [mapO, catO, idsA, eR, mmV, mm2, h0, h1, e1, e2, show ¬ ((r.cells.length : Int) < k) by omega, show (0 < k) by omega]) ?_)
          simp [live9, g9_1, eR, mmV, mm2, h0, h1, e1, e2, show ¬ ((r.cells.length : Int) < k) by omega, show (0 < k) by omega]
          exact hK
        simp [Kret, dwp, Kseq, retA, res9, mapO, catO, resA, frzA, idsA, oneOf, e1]

theorem set_at {α : Type} {es : List α} {j : Nat} {a b : List α} {x y : α} (hs : es = a ++ x :: b) (hj : a.length = j) : es.set j y = a ++ y :: b := by
  subst hs; subst hj
  simp [List.set_append]

theorem step23 (r : R) (hl : r.cells.length ≤ 1000000000) : PCall Try.prog 23 [.g (eR r)] (dV (vals r)) := by
  refine pcall_of_dwp mixed fn23 (by simp) (init_run fun ob ct _ => ?_)
  simp only [List.zipIdx_cons, List.zipIdx_nil, List.map_cons, List.map_nil]
  unfold ac23
  rw [dV_vals]
  first | refine run_reg_seq (st' := ?_) ?_ ?_ | refine run_assoc (run_reg_seq (st' := ?_) ?_ ?_) | refine run_reg (st' := ?_) ?_ ?_
  rotate_left 1
  · intro hf K hK; simp [live23, g23_0, eR]; exact hK
  first | refine run_reg_seq (st' := ?_) ?_ ?_ | refine run_assoc (run_reg_seq (st' := ?_) ?_ ?_) | refine run_reg (st' := ?_) ?_ ?_
  rotate_left 1
  · intro hf K hK; simp [live23, g23_1, eR, show (r.cells.length : Int) * 32 ≤ 140737488355328 by omega, show (r.cells.length : Int) ≤ 140737488355328 by omega]; exact hK
  first | refine run_reg_seq (st' := ?_) ?_ ?_ | refine run_assoc (run_reg_seq (st' := ?_) ?_ ?_) | refine run_reg (st' := ?_) ?_ ?_
  rotate_left 1
  · intro hf K hK; simp [live23, g23_2]; exact hK
  first | refine run_block (run_loop fun I hI => ?_) | refine run_seq (run_block (run_loop fun I hI => ?_)) | refine run_loop fun I hI => ?_ | refine run_seq (run_loop fun I hI => ?_)
  have key : ∀ (m j : Nat) (a0 x y z : AV) (b id : Den.Id) (cap : Option Nat) (ob : Den.Id → Option Ob) (ct : Nat → Nat), j + m = r.cells.length → ob b = some ⟨3, [eR r], true, some 1⟩ → ob id = some ⟨3, (r.cells.take j).map (fun c => eV c.v) ++ List.replicate m [aI 0, aI 0, aS ⟨#[]⟩], true, cap⟩ → id ≠ b →
      I (St.of [(0, a0), (1, .p b 3 0 0), (2, .d true 3 []), (3, .o id 3 0 r.cells.length), (4, x), (10, aI r.cells.length), (11, aI j), (12, y)] ob ct) := by
    intro m
    induction m with
    | zero =>
      intro j a0 x y z b id cap ob ct hj hb hid hne
      have h1 : ¬ j < r.cells.length := by omega
      refine hI _ ?_
      first | refine run_reg_seq (st' := ?_) ?_ ?_ | refine run_assoc (run_reg_seq (st' := ?_) ?_ ?_) | refine run_reg (st' := ?_) ?_ ?_
      rotate_left 1
      · intro hf K hK; simp [live23, g23_3, hb, hid, eR, binV, h1]; exact hK
      first | refine run_cond_seq (b := false) (by simp []) (fun h => by cases h) (fun _ => ?_) | refine run_assoc (run_cond_seq (b := false) (by simp []) (fun h => by cases h) (fun _ => ?_)) | refine run_cond (b := false) (by simp []) (fun h => by cases h) (fun _ => ?_)
      try refine run_skip_seq ?_
      try refine run_exit_seq ?_
      first | refine run_reg_seq (st' := ?_) ?_ ?_ | refine run_assoc (run_reg_seq (st' := ?_) ?_ ?_) | refine run_reg (st' := ?_) ?_ ?_
      rotate_left 1
      · intro hf K hK; simp [live23, g23_7]; exact hK
      have hjl : j = r.cells.length := by omega
      rw [hjl, List.take_length] at hid
      simp only [List.replicate_zero, List.append_nil] at hid
      simp [Kret, dwp, Kseq, retA, res23, mapO, catO, resA, frzA, idsA, oneOf, hid, eV, hjl]
    | succ m ih =>
      intro j a0 x y z b id cap ob ct hj hb hid hne
      have h1 : j < r.cells.length := by omega
      refine hI _ ?_
      first | refine run_reg_seq (st' := ?_) ?_ ?_ | refine run_assoc (run_reg_seq (st' := ?_) ?_ ?_) | refine run_reg (st' := ?_) ?_ ?_
      rotate_left 1
      · intro hf K hK; simp [live23, g23_3, hb, hid, eR, binV, h1]; exact hK
      first | refine run_cond_seq (b := true) (by simp []) (fun _ => ?_) (fun h => by cases h) | refine run_assoc (run_cond_seq (b := true) (by simp []) (fun _ => ?_) (fun h => by cases h)) | refine run_cond (b := true) (by simp []) (fun _ => ?_) (fun h => by cases h)
      try refine run_skip_seq ?_
      try refine run_exit_seq ?_
      refine run_seq ?_
      first | refine run_reg_seq (st' := ?_) ?_ ?_ | refine run_assoc (run_reg_seq (st' := ?_) ?_ ?_) | refine run_reg (st' := ?_) ?_ ?_
      rotate_left 1
      · intro hf K hK; simp [live23, g23_4]; exact hK
      have hrep : List.replicate (m + 1) [aI 0, aI 0, aS ⟨#[]⟩] = [aI 0, aI 0, aS ⟨#[]⟩] :: List.replicate m [aI 0, aI 0, aS ⟨#[]⟩] := rfl
      have hlen : ((r.cells.take j).map (fun c => eV c.v)).length = j := by simp; omega
      have hget : ((r.cells.take j).map (fun c => eV c.v) ++ List.replicate (m + 1) [aI 0, aI 0, aS ⟨#[]⟩])[j]? = some [aI 0, aI 0, aS ⟨#[]⟩] := by
        rw [List.getElem?_append_right (by omega), hlen, hrep]; simp
      have hset : ∀ e, ((r.cells.take j).map (fun c => eV c.v) ++ List.replicate (m + 1) [aI 0, aI 0, aS ⟨#[]⟩]).set j e = (r.cells.take j).map (fun c => eV c.v) ++ e :: List.replicate m [aI 0, aI 0, aS ⟨#[]⟩] := fun e => set_at (by rw [hrep]) hlen
      generalize hes : ((r.cells.take j).map (fun c => eV c.v) ++ List.replicate (m + 1) [aI 0, aI 0, aS ⟨#[]⟩]) = es at hid hget hset
      first | refine run_reg_seq (st' := ?_) ?_ ?_ | refine run_assoc (run_reg_seq (st' := ?_) ?_ ?_) | refine run_reg (st' := ?_) ?_ ?_
      rotate_left 1
      · intro hf K hK; simp [live23, g23_5, hb, hid, eR, eC, h1, hget, hset]; exact hK
      first | refine run_reg_seq (st' := ?_) ?_ ?_ | refine run_assoc (run_reg_seq (st' := ?_) ?_ ?_) | refine run_reg (st' := ?_) ?_ ?_
      rotate_left 1
      · intro hf K hK; simp [live23, g23_6, binV]; exact hK
      rw [wrap_succ (by omega)]
      exact ih (j + 1) _ _ _ (aI 0) _ _ cap _ _ (by omega) (by simp [hb, hne.symm]) (by simp only [take_snoc h1]; simp [eV]) hne
  exact key r.cells.length 0 _ _ _ (aI 0) _ _ _ _ _ (by omega) (by simp [eR]) (by simp; rfl) (by simp)

theorem step22 (r : R) (k : Int) (hl : r.cells.length ≤ 1000000000) : PCall Try.prog 22 [.g (eR r), aI k] (dV (keyR r k)) := by
  refine pcall_of_dwp mixed fn22 (by simp) (init_run fun ob ct _ => ?_)
  simp only [List.zipIdx_cons, List.zipIdx_nil, List.map_cons, List.map_nil]
  unfold ac22
  first | refine run_reg_seq (st' := ?_) ?_ ?_ | refine run_assoc (run_reg_seq (st' := ?_) ?_ ?_) | refine run_reg (st' := ?_) ?_ ?_
  rotate_left 1
  · intro hf K hK; simp [live22, g22_0, eR]; exact hK
  rw [dV, ← keyR_take]
  have hc := step23 r hl
  rw [dV_vals] at hc
  rcases Int.lt_or_le k 0 with h0 | h0
  · have e1 : k.toNat = 0 := by omega
    first | refine run_drawn_seq (st' := ?_) ?_ ?_ | refine run_assoc (run_drawn_seq (st' := ?_) ?_ ?_) | refine run_drawn (st' := ?_) ?_ ?_
    rotate_left 1
    · intro hf K hK; simp [live22, g22_1, eR, mmV, mm2, h0, e1, show ¬ 0 ≤ k by omega, show ¬ (0 < k) by omega, show ¬ ((r.cells.length : Int) < k) by omega]
      refine (callW_of0 (hc) [] (by simp [mapO, catO, frzA, eR, mmV, mm2, h0, e1, show ¬ 0 ≤ k by omega, show ¬ (0 < k) by omega, show ¬ ((r.cells.length : Int) < k) by omega]) (by simp [mapO, catO, idsA, eR, mmV, mm2, h0, e1, show ¬ 0 ≤ k by omega, show ¬ (0 < k) by omega, show ¬ ((r.cells.length : Int) < k) by omega]) ?_)
      simp [live22, g22_1, eR, mmV, mm2, h0, e1, show ¬ 0 ≤ k by omega, show ¬ (0 < k) by omega, show ¬ ((r.cells.length : Int) < k) by omega]
      exact hK
    simp [Kret, dwp, Kseq, retA, res22, mapO, catO, resA, frzA, idsA, oneOf, e1]
  · rcases Int.lt_or_le (r.cells.length : Int) k with h1 | h1
    · have e1 : min k.toNat r.cells.length = r.cells.length := by omega
      by_cases h2 : r.cells.length = 0
      · first | refine run_drawn_seq (st' := ?_) ?_ ?_ | refine run_assoc (run_drawn_seq (st' := ?_) ?_ ?_) | refine run_drawn (st' := ?_) ?_ ?_
        rotate_left 1
        · intro hf K hK; simp [live22, g22_1, eR, mmV, mm2, h0, h1, e1, h2, show 0 < k by omega]
          refine (callW_of0 (hc) [] (by simp [mapO, catO, frzA, eR, mmV, mm2, h0, h1, e1, h2, show 0 < k by omega]) (by simp [mapO, catO, idsA, eR, mmV, mm2, h0, h1, e1, h2, show 0 < k by omega]) ?_)
          simp [live22, g22_1, eR, mmV, mm2, h0, h1, e1, h2, show 0 < k by omega]
          exact hK
        simp [Kret, dwp, Kseq, retA, res22, mapO, catO, resA, frzA, idsA, oneOf, e1, h2]
      · first | refine run_drawn_seq (st' := ?_) ?_ ?_ | refine run_assoc (run_drawn_seq (st' := ?_) ?_ ?_) | refine run_drawn (st' := ?_) ?_ ?_
        rotate_left 1
        · intro hf K hK; simp [live22, g22_1, eR, mmV, mm2, h0, h1, e1, show 0 < r.cells.length by omega]
          refine (callW_of0 (hc) [] (by simp [mapO, catO, frzA, eR, mmV, mm2, h0, h1, e1, show 0 < r.cells.length by omega]) (by simp [mapO, catO, idsA, eR, mmV, mm2, h0, h1, e1, show 0 < r.cells.length by omega]) ?_)
          simp [live22, g22_1, eR, mmV, mm2, h0, h1, e1, show 0 < r.cells.length by omega]
          exact hK
        simp [Kret, dwp, Kseq, retA, res22, mapO, catO, resA, frzA, idsA, oneOf, e1]
    · have e1 : min k.toNat r.cells.length = k.toNat := by omega
      have e2 : k.toNat ≤ r.cells.length := by omega
      by_cases h2 : k = 0
      · first | refine run_drawn_seq (st' := ?_) ?_ ?_ | refine run_assoc (run_drawn_seq (st' := ?_) ?_ ?_) | refine run_drawn (st' := ?_) ?_ ?_
        rotate_left 1
        · intro hf K hK; simp [live22, g22_1, eR, mmV, mm2, h2, show ¬ ((r.cells.length : Int) < 0) by omega]
          refine (callW_of0 (hc) [] (by simp [mapO, catO, frzA, eR, mmV, mm2, h2, show ¬ ((r.cells.length : Int) < 0) by omega]) (by simp [mapO, catO, idsA, eR, mmV, mm2, h2, show ¬ ((r.cells.length : Int) < 0) by omega]) ?_)
          simp [live22, g22_1, eR, mmV, mm2, h2, show ¬ ((r.cells.length : Int) < 0) by omega]
          exact hK
        simp [Kret, dwp, Kseq, retA, res22, mapO, catO, resA, frzA, idsA, oneOf, h2]
      · first | refine run_drawn_seq (st' := ?_) ?_ ?_ | refine run_assoc (run_drawn_seq (st' := ?_) ?_ ?_) | refine run_drawn (st' := ?_) ?_ ?_
        rotate_left 1
        · intro hf K hK; simp [live22, g22_1, eR, mmV, mm2, h0, h1, e1, e2, show ¬ ((r.cells.length : Int) < k) by omega, show (0 < k) by omega]
          refine (callW_of0 (hc) [] (by simp [mapO, catO, frzA, eR, mmV, mm2, h0, h1, e1, e2, show ¬ ((r.cells.length : Int) < k) by omega, show (0 < k) by omega]) (by simp [mapO, catO, idsA, eR, mmV, mm2, h0, h1, e1, e2, show ¬ ((r.cells.length : Int) < k) by omega, show (0 < k) by omega]) ?_)
          simp [live22, g22_1, eR, mmV, mm2, h0, h1, e1, e2, show ¬ ((r.cells.length : Int) < k) by omega, show (0 < k) by omega]
          exact hK
        simp [Kret, dwp, Kseq, retA, res22, mapO, catO, resA, frzA, idsA, oneOf, e1]


theorem step75 (a b : List V) (la : a.length < 1000000000000) (lb : b.length < 1000000000000) : PCall Try.prog 75 [dV a, dV b, .f 76 []] (aI (cmpL a b)) := by
  refine pcall_of_dwp mixed fn75 (by simp) (init_run fun ob ct _ => ?_)
  simp only [List.zipIdx_cons, List.zipIdx_nil, List.map_cons, List.map_nil]
  unfold ac75
  first | refine run_reg_seq (st' := ?_) ?_ ?_ | refine run_assoc (run_reg_seq (st' := ?_) ?_ ?_) | refine run_reg (st' := ?_) ?_ ?_
  rotate_left 1
  · intro hf K hK; simp [live75, g75_0]; exact hK
  first | refine run_reg_seq (st' := ?_) ?_ ?_ | refine run_assoc (run_reg_seq (st' := ?_) ?_ ?_) | refine run_reg (st' := ?_) ?_ ?_
  rotate_left 1
  · intro hf K hK; simp [live75, g75_1]; exact hK
  first | refine run_block (run_loop fun I hI => ?_) | refine run_seq (run_block (run_loop fun I hI => ?_)) | refine run_loop fun I hI => ?_ | refine run_seq (run_loop fun I hI => ?_)
  have key : ∀ (m i : Nat) (x y z a7 a8 a9 b1 b2 : AV) (ob : Den.Id → Option Ob) (ct : Nat → Nat), i + m = a.length → i ≤ b.length → cmpL (a.drop i) (b.drop i) = cmpL a b →
      I (St.of [(0, dV a), (1, dV b), (2, .f 76 []), (6, aI 0), (7, a7), (8, a8), (9, a9), (10, b1), (11, dV a), (12, aI a.length), (13, aI i), (14, b2), (21, x), (31, y), (38, z)] ob ct) := by
    intro m
    induction m with
    | zero =>
      intro i x y z a7 a8 a9 b1 b2 ob ct hi hib he
      have h1 : ¬ i < a.length := by omega
      have hend : cmpL a b = sgn a.length b.length := by
        rw [← he, cmpL_end (by omega) (by omega) (by omega)]
      refine hI _ ?_
      first | refine run_reg_seq (st' := ?_) ?_ ?_ | refine run_assoc (run_reg_seq (st' := ?_) ?_ ?_) | refine run_reg (st' := ?_) ?_ ?_
      rotate_left 1
      · intro hf K hK; simp [live75, g75_2, binV, h1]; exact hK
      first | refine run_cond_seq (b := false) (by simp []) (fun h => by cases h) (fun _ => ?_) | refine run_assoc (run_cond_seq (b := false) (by simp []) (fun h => by cases h) (fun _ => ?_)) | refine run_cond (b := false) (by simp []) (fun h => by cases h) (fun _ => ?_)
      try refine run_skip_seq ?_
      try refine run_exit_seq ?_
      first | refine run_reg_seq (st' := ?_) ?_ ?_ | refine run_assoc (run_reg_seq (st' := ?_) ?_ ?_) | refine run_reg (st' := ?_) ?_ ?_
      rotate_left 1
      · intro hf K hK; simp [live75, g75_11, binV]; exact hK
      by_cases h2 : a.length < b.length
      · first | refine run_cond_seq (b := true) (by simp [h2]) (fun _ => ?_) (fun h => by cases h) | refine run_assoc (run_cond_seq (b := true) (by simp [h2]) (fun _ => ?_) (fun h => by cases h)) | refine run_cond (b := true) (by simp [h2]) (fun _ => ?_) (fun h => by cases h)
        try refine run_skip_seq ?_
        try refine run_exit_seq ?_
        first | refine run_reg_seq (st' := ?_) ?_ ?_ | refine run_assoc (run_reg_seq (st' := ?_) ?_ ?_) | refine run_reg (st' := ?_) ?_ ?_
        rotate_left 1
        · intro hf K hK; simp [live75, g75_12]; exact hK
        simp [Kret, dwp, Kseq, retA, res75, mapO, catO, resA, frzA, idsA, oneOf, hend, sgn, h2]
      · first | refine run_cond_seq (b := false) (by simp [h2]) (fun h => by cases h) (fun _ => ?_) | refine run_assoc (run_cond_seq (b := false) (by simp [h2]) (fun h => by cases h) (fun _ => ?_)) | refine run_cond (b := false) (by simp [h2]) (fun h => by cases h) (fun _ => ?_)
        try refine run_skip_seq ?_
        try refine run_exit_seq ?_
        first | refine run_reg_seq (st' := ?_) ?_ ?_ | refine run_assoc (run_reg_seq (st' := ?_) ?_ ?_) | refine run_reg (st' := ?_) ?_ ?_
        rotate_left 1
        · intro hf K hK; simp [live75, g75_13]; exact hK
        simp [Kret, dwp, Kseq, retA, res75, mapO, catO, resA, frzA, idsA, oneOf, hend, sgn, h2, show ¬ b.length < a.length by omega]
    | succ m ih =>
      intro i x y z a7 a8 a9 b1 b2 ob ct hi hib he
      have h1 : i < a.length := by omega
      refine hI _ ?_
      first | refine run_reg_seq (st' := ?_) ?_ ?_ | refine run_assoc (run_reg_seq (st' := ?_) ?_ ?_) | refine run_reg (st' := ?_) ?_ ?_
      rotate_left 1
      · intro hf K hK; simp [live75, g75_2, binV, h1]; exact hK
      first | refine run_cond_seq (b := true) (by simp []) (fun _ => ?_) (fun h => by cases h) | refine run_assoc (run_cond_seq (b := true) (by simp []) (fun _ => ?_) (fun h => by cases h)) | refine run_cond (b := true) (by simp []) (fun _ => ?_) (fun h => by cases h)
      try refine run_skip_seq ?_
      try refine run_exit_seq ?_
      refine run_seq ?_
      first | refine run_reg_seq (st' := ?_) ?_ ?_ | refine run_assoc (run_reg_seq (st' := ?_) ?_ ?_) | refine run_reg (st' := ?_) ?_ ?_
      rotate_left 1
      · intro hf K hK; simp [live75, g75_3, h1, eV]; exact hK
      first | refine run_reg_seq (st' := ?_) ?_ ?_ | refine run_assoc (run_reg_seq (st' := ?_) ?_ ?_) | refine run_reg (st' := ?_) ?_ ?_
      rotate_left 1
      · intro hf K hK; simp [live75, g75_4, binV]; exact hK
      by_cases h2 : b.length ≤ i
      · first | refine run_cond_seq (b := true) (by simp [h2]) (fun _ => ?_) (fun h => by cases h) | refine run_assoc (run_cond_seq (b := true) (by simp [h2]) (fun _ => ?_) (fun h => by cases h)) | refine run_cond (b := true) (by simp [h2]) (fun _ => ?_) (fun h => by cases h)
        try refine run_skip_seq ?_
        try refine run_exit_seq ?_
        first | refine run_reg_seq (st' := ?_) ?_ ?_ | refine run_assoc (run_reg_seq (st' := ?_) ?_ ?_) | refine run_reg (st' := ?_) ?_ ?_
        rotate_left 1
        · intro hf K hK; simp [live75, g75_5]; exact hK
        rw [cmpL_end (by omega) (by omega) (by omega)] at he
        simp [Kret, dwp, Kseq, retA, res75, mapO, catO, resA, frzA, idsA, oneOf, ← he, sgn, show ¬ a.length < b.length by omega, show b.length < a.length by omega]
      · have h3 : i < b.length := by omega
        first | refine run_cond_seq (b := false) (by simp [h2]) (fun h => by cases h) (fun _ => ?_) | refine run_assoc (run_cond_seq (b := false) (by simp [h2]) (fun h => by cases h) (fun _ => ?_)) | refine run_cond (b := false) (by simp [h2]) (fun h => by cases h) (fun _ => ?_)
        try refine run_skip_seq ?_
        try refine run_exit_seq ?_
        first | refine run_reg_seq (st' := ?_) ?_ ?_ | refine run_assoc (run_reg_seq (st' := ?_) ?_ ?_) | refine run_reg (st' := ?_) ?_ ?_
        rotate_left 1
        · intro hf K hK; simp [live75, g75_6, h3, eV]; exact hK
        first | refine run_reg_seq (st' := ?_) ?_ ?_ | refine run_assoc (run_reg_seq (st' := ?_) ?_ ?_) | refine run_reg (st' := ?_) ?_ ?_
        rotate_left 1
        · intro hf K hK; simp [live75, g75_7, eV]
          refine .inl (callW_of0 (step76 a[i] b[i]) [] (by simp [mapO, catO, frzA, eV]) (by simp [mapO, catO, idsA, eV]) ?_)
          simp [live75, g75_7, eV]; exact hK
        rw [List.drop_eq_getElem_cons h1, List.drop_eq_getElem_cons h3] at he
        first | refine run_reg_seq (st' := ?_) ?_ ?_ | refine run_assoc (run_reg_seq (st' := ?_) ?_ ?_) | refine run_reg (st' := ?_) ?_ ?_
        rotate_left 1
        · intro hf K hK; simp [live75, g75_8, binV]; exact hK
        by_cases hxy : cmpV a[i] b[i] = 0
        · first | refine run_cond_seq (b := false) (by simp [hxy]) (fun h => by cases h) (fun _ => ?_) | refine run_assoc (run_cond_seq (b := false) (by simp [hxy]) (fun h => by cases h) (fun _ => ?_)) | refine run_cond (b := false) (by simp [hxy]) (fun h => by cases h) (fun _ => ?_)
          try refine run_skip_seq ?_
          try refine run_exit_seq ?_
          first | refine run_reg_seq (st' := ?_) ?_ ?_ | refine run_assoc (run_reg_seq (st' := ?_) ?_ ?_) | refine run_reg (st' := ?_) ?_ ?_
          rotate_left 1
          · intro hf K hK; simp [live75, g75_10, binV]; exact hK
          rw [wrap_succ (by omega)]
          refine ih (i + 1) _ _ _ _ _ _ _ _ _ _ (by omega) (by omega) ?_
          rw [← he]; simp [cmpL, hxy]
        · first | refine run_cond_seq (b := true) (by simp [hxy]) (fun _ => ?_) (fun h => by cases h) | refine run_assoc (run_cond_seq (b := true) (by simp [hxy]) (fun _ => ?_) (fun h => by cases h)) | refine run_cond (b := true) (by simp [hxy]) (fun _ => ?_) (fun h => by cases h)
          try refine run_skip_seq ?_
          try refine run_exit_seq ?_
          first | refine run_reg_seq (st' := ?_) ?_ ?_ | refine run_assoc (run_reg_seq (st' := ?_) ?_ ?_) | refine run_reg (st' := ?_) ?_ ?_
          rotate_left 1
          · intro hf K hK; simp [live75, g75_9]; exact hK
          simp only [cmpL, if_neg hxy] at he
          simp [Kret, dwp, Kseq, retA, res75, mapO, catO, resA, frzA, idsA, oneOf, he]
  exact key a.length 0 _ _ _ _ _ _ _ _ _ _ (by omega) (by omega) rfl

theorem step65 (a b : List V) (la : a.length < 1000000000000) (lb : b.length < 1000000000000) : PCall Try.prog 65 [dV a, dV b] (aI (cmpL a b)) := by
  refine pcall_of_dwp mixed fn65 (by simp) (init_run fun ob ct _ => ?_)
  simp only [List.zipIdx_cons, List.zipIdx_nil, List.map_cons, List.map_nil]
  unfold ac65
  first | refine run_reg_seq (st' := ?_) ?_ ?_ | refine run_assoc (run_reg_seq (st' := ?_) ?_ ?_) | refine run_reg (st' := ?_) ?_ ?_
  rotate_left 1
  · intro hf K hK; simp [live65, g65_0]; exact hK
  first | refine run_reg_seq (st' := ?_) ?_ ?_ | refine run_assoc (run_reg_seq (st' := ?_) ?_ ?_) | refine run_reg (st' := ?_) ?_ ?_
  rotate_left 1
  · intro hf K hK; simp [live65, g65_1]
    refine .inl (callW_of0 (step75 a b la lb) [] (by simp [mapO, catO, frzA]) (by simp [mapO, catO, idsA]) ?_)
    simp [live65, g65_1]; exact hK
  simp [Kret, dwp, Kseq, retA, res65, mapO, catO, resA, frzA, idsA, oneOf]

theorem keyR_len (r : R) (k : Int) (h : r.cells.length ≤ 1000000000) : (keyR r k).length < 1000000000000 := by
  simp only [keyR, vals, List.length_take, List.length_map]; omega

theorem step64 (r : R) (l : List V) (k : Int) (hr : r.cells.length ≤ 1000000000) (hl : l.length < 1000000000000) : PCall Try.prog 64 [.g (eR r), dV l, .q [[aI k]] 1 0 0] (aI (cmpL (keyR r k) l)) := by
  refine pcall_of_dwp mixed fn64 (by simp) (init_run fun ob ct _ => ?_)
  simp only [List.zipIdx_cons, List.zipIdx_nil, List.map_cons, List.map_nil]
  unfold ac64
  first | refine run_reg_seq (st' := ?_) ?_ ?_ | refine run_assoc (run_reg_seq (st' := ?_) ?_ ?_) | refine run_reg (st' := ?_) ?_ ?_
  rotate_left 1
  · intro hf K hK; simp [live64, g64_0, eR]; exact hK
  first | refine run_reg_seq (st' := ?_) ?_ ?_ | refine run_assoc (run_reg_seq (st' := ?_) ?_ ?_) | refine run_reg (st' := ?_) ?_ ?_
  rotate_left 1
  · intro hf K hK; simp [live64, g64_1, eR]
    refine .inl (callW_of0 (step22 r k hr) [] (by simp [mapO, catO, frzA, eR]) (by simp [mapO, catO, idsA, eR]) ?_)
    simp [live64, g64_1, eR]
    refine .inl (callW_of0 (step65 (keyR r k) l (keyR_len r k hr) hl) [] (by simp [mapO, catO, frzA, eR]) (by simp [mapO, catO, idsA, eR]) ?_)
    simp [live64, g64_1, eR]
    exact hK
  simp [Kret, dwp, Kseq, retA, res64, mapO, catO, resA, frzA, idsA, oneOf]

theorem step70 (r s : R) (k : Int) (hr : r.cells.length ≤ 1000000000) (hs : s.cells.length ≤ 1000000000) : PCall Try.prog 70 [.g (eR r), .g (eR s), .q [[aI k]] 1 0 0] (aI (cmpL (keyR r k) (keyR s k))) := by
  refine pcall_of_dwp mixed fn70 (by simp) (init_run fun ob ct _ => ?_)
  simp only [List.zipIdx_cons, List.zipIdx_nil, List.map_cons, List.map_nil]
  unfold ac70
  first | refine run_reg_seq (st' := ?_) ?_ ?_ | refine run_assoc (run_reg_seq (st' := ?_) ?_ ?_) | refine run_reg (st' := ?_) ?_ ?_
  rotate_left 1
  · intro hf K hK; simp [live70, g70_0, eR]; exact hK
  first | refine run_drawn_seq (st' := ?_) ?_ ?_ | refine run_assoc (run_drawn_seq (st' := ?_) ?_ ?_) | refine run_drawn (st' := ?_) ?_ ?_
  rotate_left 1
  · intro hf K hK; simp [live70, g70_1, eR]
    refine (callW_of0 (step22 r k hr) [] (by simp [mapO, catO, frzA, eR]) (by simp [mapO, catO, idsA, eR]) ?_)
    simp [live70, g70_1, eR]
    refine (callW_of0 (step22 s k hs) [] (by simp [mapO, catO, frzA, eR]) (by simp [mapO, catO, idsA, eR]) ?_)
    simp [live70, g70_1, eR]
    refine (callW_of0 (step65 (keyR r k) (keyR s k) (keyR_len r k hr) (keyR_len s k hs)) [] (by simp [mapO, catO, frzA, eR]) (by simp [mapO, catO, idsA, eR]) ?_)
    simp [live70, g70_1, eR]
    exact hK
  simp [Kret, dwp, Kseq, retA, res70, mapO, catO, resA, frzA, idsA, oneOf]

theorem step46 (k : Int) : PCall Try.prog 46 [aI k] (.f 70 [.q [[aI k]] 1 0 0]) := by
  refine pcall_of_dwp mixed fn46 (by simp) (init_run fun ob ct _ => ?_)
  simp only [List.zipIdx_cons, List.zipIdx_nil, List.map_cons, List.map_nil]
  unfold ac46
  first | refine run_reg_seq (st' := ?_) ?_ ?_ | refine run_assoc (run_reg_seq (st' := ?_) ?_ ?_) | refine run_reg (st' := ?_) ?_ ?_
  rotate_left 1
  · intro hf K hK; simp [live46, g46_0]; exact hK
  first | refine run_reg_seq (st' := ?_) ?_ ?_ | refine run_assoc (run_reg_seq (st' := ?_) ?_ ?_) | refine run_reg (st' := ?_) ?_ ?_
  rotate_left 1
  · intro hf K hK; simp [live46, g46_1]; exact hK
  simp [Kret, dwp, Kseq, retA, res46, mapO, catO, resA, frzA, idsA, oneOf]

end Go.Proofs.Ytcmgfnhlnefchaa
