/-
  What the functions that compare rows come to.
-/
import Derived.Test.YtcmgfnhlnefchaaF4
namespace Go.Proofs.Ytcmgfnhlnefchaa
open Go.Den
set_option linter.unusedVariables false
set_option linter.unusedSimpArgs false

theorem take_eq_step {α : Type} {l r : List α} {i : Nat} (h : l.take i = r.take i) (hi : i < l.length) (hj : i < r.length) (he : l[i] = r[i]) : l.take (i + 1) = r.take (i + 1) := by
  rw [List.take_succ_eq_append_getElem hi, List.take_succ_eq_append_getElem hj, h, he]
theorem take_all_eq {α : Type} {l r : List α} (h : l.take l.length = r.take l.length) (hl : l.length = r.length) : l = r := by
  rw [List.take_length] at h
  rw [h, hl, List.take_length]

def t13c : AC := .seq (.seq (.region g13_13 live13) (.block 4 (.loop (.seq (.seq (.region g13_14 live13) (.cond (.t 73) .skip (.exit 4))) (.seq (.block 5 (.seq (.drawn g13_15 live13) (.cond (.t 86) (.seq (.region g13_16 live13) .ret) .skip))) (.region g13_17 live13)))))) (.seq (.region g13_18 live13) .ret)
def t13b : AC := .seq (.seq (.region g13_8 live13) (.block 2 (.loop (.seq (.seq (.region g13_9 live13) (.cond (.t 55) .skip (.exit 2))) (.seq (.block 3 (.seq (.drawn g13_10 live13) (.cond (.t 68) (.seq (.region g13_11 live13) .ret) .skip))) (.region g13_12 live13)))))) t13c

theorem step13c (a b : R) (b1 b2 : Den.Id) (hc : a.cells = b.cells) (hs : a.shares = b.shares) (lt : a.tags.length = b.tags.length) (hl : a.tags.length ≤ 1000000000)
    (x0 x1 x5 x6 x7 y1 y2 y3 y4 y5 y6 y7 : AV) (ob : Den.Id → Option Ob) (ct : Nat → Nat) (hb1 : ob b1 = some ⟨3, [eR a], true, some 1⟩) (hb2 : ob b2 = some ⟨3, [eR b], true, some 1⟩) :
    dwp Try.prog t13c (Kret res13 (aB (decide (a = b)))) (St.of [(0, x0), (1, x1), (2, .p b1 3 0 0), (3, .p b2 3 0 0), (4, aB false), (5, x5), (6, x6), (7, x7), (32, y1), (37, y2), (50, y3), (55, y4), (68, y5), (73, y6), (86, y7)] ob ct) := by
  unfold t13c
  first | refine run_reg_seq (st' := ?_) ?_ ?_ | refine run_assoc (run_reg_seq (st' := ?_) ?_ ?_) | refine run_reg (st' := ?_) ?_ ?_
  rotate_left 1
  · intro hf K hK; simp [live13, g13_13]; first | exact hK | ((repeat' apply And.intro) <;> first | exact hK | omega)
  first | refine run_block (run_loop fun I hI => ?_) | refine run_seq (run_block (run_loop fun I hI => ?_)) | refine run_loop fun I hI => ?_ | refine run_seq (run_loop fun I hI => ?_)
  have key : ∀ (m i : Nat) (y6 y7 : AV), i + m = a.tags.length → a.tags.take i = b.tags.take i →
      I (St.of [(0, x0), (1, x1), (2, .p b1 3 0 0), (3, .p b2 3 0 0), (4, aB false), (5, x5), (6, x6), (7, aI i), (32, y1), (37, y2), (50, y3), (55, y4), (68, y5), (73, y6), (86, y7)] ob ct) := by
    intro m
    induction m with
    | zero =>
      intro i y6 y7 hi he
      have h1 : ¬ i < a.tags.length := by omega
      refine hI _ ?_
      first | refine run_reg_seq (st' := ?_) ?_ ?_ | refine run_assoc (run_reg_seq (st' := ?_) ?_ ?_) | refine run_reg (st' := ?_) ?_ ?_
      rotate_left 1
      · intro hf K hK; simp [live13, g13_14, hb1, binV, h1]; first | exact hK | ((repeat' apply And.intro) <;> first | exact hK | omega)
      first | refine run_cond_seq (b := false) (by simp []) (fun h => by cases h) (fun _ => ?_) | refine run_assoc (run_cond_seq (b := false) (by simp []) (fun h => by cases h) (fun _ => ?_)) | refine run_cond (b := false) (by simp []) (fun h => by cases h) (fun _ => ?_)
      try refine run_skip_seq ?_
      try refine run_exit_seq ?_
      first | refine run_reg_seq (st' := ?_) ?_ ?_ | refine run_assoc (run_reg_seq (st' := ?_) ?_ ?_) | refine run_reg (st' := ?_) ?_ ?_
      rotate_left 1
      · intro hf K hK; simp [live13, g13_18]; first | exact hK | ((repeat' apply And.intro) <;> first | exact hK | omega)
      have : i = a.tags.length := by omega
      subst this
      have ht := take_all_eq he lt
      have : a = b := by cases a; cases b; simp_all
      simp [Kret, dwp, Kseq, retA, res13, mapO, catO, resA, frzA, idsA, oneOf, this]
    | succ m ih =>
      intro i y6 y7 hi he
      have h1 : i < a.tags.length := by omega
      have h2 : i < b.tags.length := by omega
      refine hI _ ?_
      first | refine run_reg_seq (st' := ?_) ?_ ?_ | refine run_assoc (run_reg_seq (st' := ?_) ?_ ?_) | refine run_reg (st' := ?_) ?_ ?_
      rotate_left 1
      · intro hf K hK; simp [live13, g13_14, hb1, binV, h1]; first | exact hK | ((repeat' apply And.intro) <;> first | exact hK | omega)
      first | refine run_cond_seq (b := true) (by simp []) (fun _ => ?_) (fun h => by cases h) | refine run_assoc (run_cond_seq (b := true) (by simp []) (fun _ => ?_) (fun h => by cases h)) | refine run_cond (b := true) (by simp []) (fun _ => ?_) (fun h => by cases h)
      try refine run_skip_seq ?_
      try refine run_exit_seq ?_
      refine run_seq ?_
      first | refine run_ro_seq (st' := ?_) rfl ?_ ?_ | refine run_assoc (run_ro_seq (st' := ?_) rfl ?_ ?_) | refine run_ro (st' := ?_) rfl ?_ ?_
      rotate_left 1
      · intro hf K hK; simp [live13, g13_15, hb1, hb2, h1, h2]; first | exact hK | ((repeat' apply And.intro) <;> first | exact hK | omega)
      by_cases hne : a.tags[i] = b.tags[i]
      · first | refine run_cond_seq (b := false) (by simp [hne]) (fun h => by cases h) (fun _ => ?_) | refine run_assoc (run_cond_seq (b := false) (by simp [hne]) (fun h => by cases h) (fun _ => ?_)) | refine run_cond (b := false) (by simp [hne]) (fun h => by cases h) (fun _ => ?_)
        try refine run_skip_seq ?_
        try refine run_exit_seq ?_
        first | refine run_reg_seq (st' := ?_) ?_ ?_ | refine run_assoc (run_reg_seq (st' := ?_) ?_ ?_) | refine run_reg (st' := ?_) ?_ ?_
        rotate_left 1
        · intro hf K hK; simp [live13, g13_17, binV]; first | exact hK | ((repeat' apply And.intro) <;> first | exact hK | omega)
        rw [wrap_succ (by omega)]
        exact ih (i + 1) _ _ (by omega) (take_eq_step he h1 h2 hne)
      · first | refine run_cond_seq (b := true) (by simp [hne]) (fun _ => ?_) (fun h => by cases h) | refine run_assoc (run_cond_seq (b := true) (by simp [hne]) (fun _ => ?_) (fun h => by cases h)) | refine run_cond (b := true) (by simp [hne]) (fun _ => ?_) (fun h => by cases h)
        try refine run_skip_seq ?_
        try refine run_exit_seq ?_
        first | refine run_reg_seq (st' := ?_) ?_ ?_ | refine run_assoc (run_reg_seq (st' := ?_) ?_ ?_) | refine run_reg (st' := ?_) ?_ ?_
        rotate_left 1
        · intro hf K hK; simp [live13, g13_16]; first | exact hK | ((repeat' apply And.intro) <;> first | exact hK | omega)
        have : ¬ a = b := fun e => hne (by subst e; rfl)
        simp [Kret, dwp, Kseq, retA, res13, mapO, catO, resA, frzA, idsA, oneOf, this]
  exact key a.tags.length 0 _ _ (by omega) rfl

theorem step13b (a b : R) (b1 b2 : Den.Id) (hc : a.cells = b.cells) (ls : a.shares.length = b.shares.length) (lt : a.tags.length = b.tags.length) (hl : a.tags.length ≤ 1000000000) (hl2 : a.shares.length ≤ 1000000000)
    (x0 x1 x5 x6 x7 y1 y2 y3 y4 y5 y6 y7 : AV) (ob : Den.Id → Option Ob) (ct : Nat → Nat) (hb1 : ob b1 = some ⟨3, [eR a], true, some 1⟩) (hb2 : ob b2 = some ⟨3, [eR b], true, some 1⟩) :
    dwp Try.prog t13b (Kret res13 (aB (decide (a = b)))) (St.of [(0, x0), (1, x1), (2, .p b1 3 0 0), (3, .p b2 3 0 0), (4, aB false), (5, x5), (6, x6), (7, x7), (32, y1), (37, y2), (50, y3), (55, y4), (68, y5), (73, y6), (86, y7)] ob ct) := by
  unfold t13b
  first | refine run_reg_seq (st' := ?_) ?_ ?_ | refine run_assoc (run_reg_seq (st' := ?_) ?_ ?_) | refine run_reg (st' := ?_) ?_ ?_
  rotate_left 1
  · intro hf K hK; simp [live13, g13_8]; first | exact hK | ((repeat' apply And.intro) <;> first | exact hK | omega)
  first | refine run_block (run_loop fun I hI => ?_) | refine run_seq (run_block (run_loop fun I hI => ?_)) | refine run_loop fun I hI => ?_ | refine run_seq (run_loop fun I hI => ?_)
  have key : ∀ (m i : Nat) (y4 y5 : AV), i + m = a.shares.length → a.shares.take i = b.shares.take i →
      I (St.of [(0, x0), (1, x1), (2, .p b1 3 0 0), (3, .p b2 3 0 0), (4, aB false), (5, x5), (6, aI i), (7, x7), (32, y1), (37, y2), (50, y3), (55, y4), (68, y5), (73, y6), (86, y7)] ob ct) := by
    intro m
    induction m with
    | zero =>
      intro i y4 y5 hi he
      have h1 : ¬ i < a.shares.length := by omega
      refine hI _ ?_
      first | refine run_reg_seq (st' := ?_) ?_ ?_ | refine run_assoc (run_reg_seq (st' := ?_) ?_ ?_) | refine run_reg (st' := ?_) ?_ ?_
      rotate_left 1
      · intro hf K hK; simp [live13, g13_9, hb1, binV, h1]; first | exact hK | ((repeat' apply And.intro) <;> first | exact hK | omega)
      first | refine run_cond_seq (b := false) (by simp []) (fun h => by cases h) (fun _ => ?_) | refine run_assoc (run_cond_seq (b := false) (by simp []) (fun h => by cases h) (fun _ => ?_)) | refine run_cond (b := false) (by simp []) (fun h => by cases h) (fun _ => ?_)
      try refine run_skip_seq ?_
      try refine run_exit_seq ?_
      have : i = a.shares.length := by omega
      subst this
      exact step13c a b b1 b2 hc (take_all_eq he ls) lt hl _ _ _ _ _ _ _ _ _ _ _ _ _ _ hb1 hb2
    | succ m ih =>
      intro i y4 y5 hi he
      have h1 : i < a.shares.length := by omega
      have h2 : i < b.shares.length := by omega
      refine hI _ ?_
      first | refine run_reg_seq (st' := ?_) ?_ ?_ | refine run_assoc (run_reg_seq (st' := ?_) ?_ ?_) | refine run_reg (st' := ?_) ?_ ?_
      rotate_left 1
      · intro hf K hK; simp [live13, g13_9, hb1, binV, h1]; first | exact hK | ((repeat' apply And.intro) <;> first | exact hK | omega)
      first | refine run_cond_seq (b := true) (by simp []) (fun _ => ?_) (fun h => by cases h) | refine run_assoc (run_cond_seq (b := true) (by simp []) (fun _ => ?_) (fun h => by cases h)) | refine run_cond (b := true) (by simp []) (fun _ => ?_) (fun h => by cases h)
      try refine run_skip_seq ?_
      try refine run_exit_seq ?_
      refine run_seq ?_
      first | refine run_ro_seq (st' := ?_) rfl ?_ ?_ | refine run_assoc (run_ro_seq (st' := ?_) rfl ?_ ?_) | refine run_ro (st' := ?_) rfl ?_ ?_
      rotate_left 1
      · intro hf K hK; simp [live13, g13_10, hb1, hb2, h1, h2, binV]; first | exact hK | ((repeat' apply And.intro) <;> first | exact hK | omega)
      by_cases hne : a.shares[i] = b.shares[i]
      · first | refine run_cond_seq (b := false) (by simp [hne]) (fun h => by cases h) (fun _ => ?_) | refine run_assoc (run_cond_seq (b := false) (by simp [hne]) (fun h => by cases h) (fun _ => ?_)) | refine run_cond (b := false) (by simp [hne]) (fun h => by cases h) (fun _ => ?_)
        try refine run_skip_seq ?_
        try refine run_exit_seq ?_
        first | refine run_reg_seq (st' := ?_) ?_ ?_ | refine run_assoc (run_reg_seq (st' := ?_) ?_ ?_) | refine run_reg (st' := ?_) ?_ ?_
        rotate_left 1
        · intro hf K hK; simp [live13, g13_12, binV]; first | exact hK | ((repeat' apply And.intro) <;> first | exact hK | omega)
        rw [wrap_succ (by omega)]
        exact ih (i + 1) _ _ (by omega) (take_eq_step he h1 h2 hne)
      · first | refine run_cond_seq (b := true) (by simp [hne]) (fun _ => ?_) (fun h => by cases h) | refine run_assoc (run_cond_seq (b := true) (by simp [hne]) (fun _ => ?_) (fun h => by cases h)) | refine run_cond (b := true) (by simp [hne]) (fun _ => ?_) (fun h => by cases h)
        try refine run_skip_seq ?_
        try refine run_exit_seq ?_
        first | refine run_reg_seq (st' := ?_) ?_ ?_ | refine run_assoc (run_reg_seq (st' := ?_) ?_ ?_) | refine run_reg (st' := ?_) ?_ ?_
        rotate_left 1
        · intro hf K hK; simp [live13, g13_11]; first | exact hK | ((repeat' apply And.intro) <;> first | exact hK | omega)
        have : ¬ a = b := fun e => hne (by subst e; rfl)
        simp [Kret, dwp, Kseq, retA, res13, mapO, catO, resA, frzA, idsA, oneOf, this]
  exact key a.shares.length 0 _ _ (by omega) rfl

def R.fit (r : R) : Prop := r.cells.length ≤ 1000000000 ∧ r.shares.length ≤ 1000000000 ∧ r.tags.length ≤ 1000000000

set_option maxHeartbeats 1000000 in
theorem step13 (a b : R) (ha : a.fit) (hb : b.fit) : PCall Try.prog 13 [.g (eR a), .g (eR b)] (aB (decide (a = b))) := by
  refine pcall_of_dwp mixed fn13 (by simp) (init_run fun ob ct _ => ?_)
  simp only [List.zipIdx_cons, List.zipIdx_nil, List.map_cons, List.map_nil]
  unfold ac13
  first | refine run_reg_seq (st' := ?_) ?_ ?_ | refine run_assoc (run_reg_seq (st' := ?_) ?_ ?_) | refine run_reg (st' := ?_) ?_ ?_
  rotate_left 1
  · intro hf K hK; simp [live13, g13_0]; first | exact hK | ((repeat' apply And.intro) <;> first | exact hK | omega)
  have hn : ∀ (h : ¬ (a.cells.length = b.cells.length ∧ a.shares.length = b.shares.length ∧ a.tags.length = b.tags.length)), decide (a = b) = false := by
    intro h; simp only [decide_eq_false_iff_not]; rintro rfl; exact h ⟨rfl, rfl, rfl⟩
  by_cases h1 : a.cells.length = b.cells.length
  · by_cases h2 : a.shares.length = b.shares.length
    · by_cases h3 : a.tags.length = b.tags.length
      · first | refine run_reg_seq (st' := ?_) ?_ ?_ | refine run_assoc (run_reg_seq (st' := ?_) ?_ ?_) | refine run_reg (st' := ?_) ?_ ?_
        rotate_left 1
        · intro hf K hK; simp [live13, g13_1, binV, h1, h2, h3, -resW_ite, -resW_bif, -resX_ite, -resX_bif]; first | exact hK | ((repeat' apply And.intro) <;> first | exact hK | omega)
        first | refine run_cond_seq (b := false) (by simp []) (fun h => by cases h) (fun _ => ?_) | refine run_assoc (run_cond_seq (b := false) (by simp []) (fun h => by cases h) (fun _ => ?_)) | refine run_cond (b := false) (by simp []) (fun h => by cases h) (fun _ => ?_)
        try refine run_skip_seq ?_
        try refine run_exit_seq ?_
        first | refine run_reg_seq (st' := ?_) ?_ ?_ | refine run_assoc (run_reg_seq (st' := ?_) ?_ ?_) | refine run_reg (st' := ?_) ?_ ?_
        rotate_left 1
        · intro hf K hK; simp [live13, g13_3]; first | exact hK | ((repeat' apply And.intro) <;> first | exact hK | omega)
        first | refine run_block (run_loop fun I hI => ?_) | refine run_seq (run_block (run_loop fun I hI => ?_)) | refine run_loop fun I hI => ?_ | refine run_seq (run_loop fun I hI => ?_)
        have key : ∀ (m i : Nat) (y2 y3 : AV) (ob : Den.Id → Option Ob) (ct : Nat → Nat) (x0 x1 x6 x7 y1 y4 y5 y6 y7 : AV) (b1 b2 : Den.Id), i + m = a.cells.length → a.cells.take i = b.cells.take i → ob b1 = some ⟨3, [eR a], true, some 1⟩ → ob b2 = some ⟨3, [eR b], true, some 1⟩ →
            I (St.of [(0, x0), (1, x1), (2, .p b1 3 0 0), (3, .p b2 3 0 0), (4, aB false), (5, aI i), (6, x6), (7, x7), (32, y1), (37, y2), (50, y3), (55, y4), (68, y5), (73, y6), (86, y7)] ob ct) := by
          intro m
          induction m with
          | zero =>
            intro i y2 y3 ob ct x0 x1 x6 x7 y1 y4 y5 y6 y7 b1 b2 hi he hb1 hb2
            have h4 : ¬ i < a.cells.length := by omega
            refine hI _ ?_
            first | refine run_reg_seq (st' := ?_) ?_ ?_ | refine run_assoc (run_reg_seq (st' := ?_) ?_ ?_) | refine run_reg (st' := ?_) ?_ ?_
            rotate_left 1
            · intro hf K hK; simp [live13, g13_4, hb1, binV, h4]; first | exact hK | ((repeat' apply And.intro) <;> first | exact hK | omega)
            first | refine run_cond_seq (b := false) (by simp []) (fun h => by cases h) (fun _ => ?_) | refine run_assoc (run_cond_seq (b := false) (by simp []) (fun h => by cases h) (fun _ => ?_)) | refine run_cond (b := false) (by simp []) (fun h => by cases h) (fun _ => ?_)
            try refine run_skip_seq ?_
            try refine run_exit_seq ?_
            have : i = a.cells.length := by omega
            subst this
            exact step13b a b b1 b2 (take_all_eq he h1) h2 h3 ha.2.2 ha.2.1 _ _ _ _ _ _ _ _ _ _ _ _ _ _ hb1 hb2
          | succ m ih =>
            intro i y2 y3 ob ct x0 x1 x6 x7 y1 y4 y5 y6 y7 b1 b2 hi he hb1 hb2
            have hh := ha.1
            have h4 : i < a.cells.length := by omega
            have h5 : i < b.cells.length := by omega
            refine hI _ ?_
            first | refine run_reg_seq (st' := ?_) ?_ ?_ | refine run_assoc (run_reg_seq (st' := ?_) ?_ ?_) | refine run_reg (st' := ?_) ?_ ?_
            rotate_left 1
            · intro hf K hK; simp [live13, g13_4, hb1, binV, h4]; first | exact hK | ((repeat' apply And.intro) <;> first | exact hK | omega)
            first | refine run_cond_seq (b := true) (by simp []) (fun _ => ?_) (fun h => by cases h) | refine run_assoc (run_cond_seq (b := true) (by simp []) (fun _ => ?_) (fun h => by cases h)) | refine run_cond (b := true) (by simp []) (fun _ => ?_) (fun h => by cases h)
            try refine run_skip_seq ?_
            try refine run_exit_seq ?_
            refine run_seq ?_
            first | refine run_ro_seq (st' := ?_) rfl ?_ ?_ | refine run_assoc (run_ro_seq (st' := ?_) rfl ?_ ?_) | refine run_ro (st' := ?_) rfl ?_ ?_
            rotate_left 1
            · intro hf K hK; simp [live13, g13_5, hb1, hb2, h4, h5]; first | exact hK | ((repeat' apply And.intro) <;> first | exact hK | omega)
            by_cases hne : a.cells[i] = b.cells[i]
            · first | refine run_cond_seq (b := false) (by simp [hne]) (fun h => by cases h) (fun _ => ?_) | refine run_assoc (run_cond_seq (b := false) (by simp [hne]) (fun h => by cases h) (fun _ => ?_)) | refine run_cond (b := false) (by simp [hne]) (fun h => by cases h) (fun _ => ?_)
              try refine run_skip_seq ?_
              try refine run_exit_seq ?_
              first | refine run_reg_seq (st' := ?_) ?_ ?_ | refine run_assoc (run_reg_seq (st' := ?_) ?_ ?_) | refine run_reg (st' := ?_) ?_ ?_
              rotate_left 1
              · intro hf K hK; simp [live13, g13_7, binV]; first | exact hK | ((repeat' apply And.intro) <;> first | exact hK | omega)
              rw [wrap_succ (by omega)]
              exact ih (i + 1) _ _ _ _ _ _ _ _ _ _ _ _ _ _ _ (by omega) (take_eq_step he h4 h5 hne) hb1 hb2
            · first | refine run_cond_seq (b := true) (by simp [hne]) (fun _ => ?_) (fun h => by cases h) | refine run_assoc (run_cond_seq (b := true) (by simp [hne]) (fun _ => ?_) (fun h => by cases h)) | refine run_cond (b := true) (by simp [hne]) (fun _ => ?_) (fun h => by cases h)
              try refine run_skip_seq ?_
              try refine run_exit_seq ?_
              first | refine run_reg_seq (st' := ?_) ?_ ?_ | refine run_assoc (run_reg_seq (st' := ?_) ?_ ?_) | refine run_reg (st' := ?_) ?_ ?_
              rotate_left 1
              · intro hf K hK; simp [live13, g13_6]; first | exact hK | ((repeat' apply And.intro) <;> first | exact hK | omega)
              have : ¬ a = b := fun e => hne (by subst e; rfl)
              simp [Kret, dwp, Kseq, retA, res13, mapO, catO, resA, frzA, idsA, oneOf, this]
        exact key a.cells.length 0 _ _ _ _ _ _ _ _ _ _ _ _ _ _ _ (by omega) rfl (by simp) (by simp)
      · have hb3 : ((a.tags.length : Int) != (b.tags.length : Int)) = true := by rw [bne_iff_ne]; omega
        first | refine run_reg_seq (st' := ?_) ?_ ?_ | refine run_assoc (run_reg_seq (st' := ?_) ?_ ?_) | refine run_reg (st' := ?_) ?_ ?_
        rotate_left 1
        · intro hf K hK; simp [live13, g13_1, binV, h1, h2, hb3, -resW_ite, -resW_bif, -resX_ite, -resX_bif]; first | exact hK | ((repeat' apply And.intro) <;> first | exact hK | omega)
        first | refine run_cond_seq (b := true) (by simp [hb3]) (fun _ => ?_) (fun h => by cases h) | refine run_assoc (run_cond_seq (b := true) (by simp [hb3]) (fun _ => ?_) (fun h => by cases h)) | refine run_cond (b := true) (by simp [hb3]) (fun _ => ?_) (fun h => by cases h)
        try refine run_skip_seq ?_
        try refine run_exit_seq ?_
        first | refine run_reg_seq (st' := ?_) ?_ ?_ | refine run_assoc (run_reg_seq (st' := ?_) ?_ ?_) | refine run_reg (st' := ?_) ?_ ?_
        rotate_left 1
        · intro hf K hK; simp [live13, g13_2]; first | exact hK | ((repeat' apply And.intro) <;> first | exact hK | omega)
        simp [Kret, dwp, Kseq, retA, res13, mapO, catO, resA, frzA, idsA, oneOf, hn fun h => h3 h.2.2]
    · have hb2 : ((a.shares.length : Int) != (b.shares.length : Int)) = true := by rw [bne_iff_ne]; omega
      first | refine run_reg_seq (st' := ?_) ?_ ?_ | refine run_assoc (run_reg_seq (st' := ?_) ?_ ?_) | refine run_reg (st' := ?_) ?_ ?_
      rotate_left 1
      · intro hf K hK; simp [live13, g13_1, binV, h1, hb2, -resW_ite, -resW_bif, -resX_ite, -resX_bif]; first | exact hK | ((repeat' apply And.intro) <;> first | exact hK | omega)
      first | refine run_cond_seq (b := true) (by simp []) (fun _ => ?_) (fun h => by cases h) | refine run_assoc (run_cond_seq (b := true) (by simp []) (fun _ => ?_) (fun h => by cases h)) | refine run_cond (b := true) (by simp []) (fun _ => ?_) (fun h => by cases h)
      try refine run_skip_seq ?_
      try refine run_exit_seq ?_
      first | refine run_reg_seq (st' := ?_) ?_ ?_ | refine run_assoc (run_reg_seq (st' := ?_) ?_ ?_) | refine run_reg (st' := ?_) ?_ ?_
      rotate_left 1
      · intro hf K hK; simp [live13, g13_2]; first | exact hK | ((repeat' apply And.intro) <;> first | exact hK | omega)
      simp [Kret, dwp, Kseq, retA, res13, mapO, catO, resA, frzA, idsA, oneOf, hn fun h => h2 h.2.1]
  · have hb1 : ((a.cells.length : Int) != (b.cells.length : Int)) = true := by rw [bne_iff_ne]; omega
    first | refine run_reg_seq (st' := ?_) ?_ ?_ | refine run_assoc (run_reg_seq (st' := ?_) ?_ ?_) | refine run_reg (st' := ?_) ?_ ?_
    rotate_left 1
    · intro hf K hK; simp [live13, g13_1, binV, hb1, -resW_ite, -resW_bif, -resX_ite, -resX_bif]; first | exact hK | ((repeat' apply And.intro) <;> first | exact hK | omega)
    first | refine run_cond_seq (b := true) (by simp []) (fun _ => ?_) (fun h => by cases h) | refine run_assoc (run_cond_seq (b := true) (by simp []) (fun _ => ?_) (fun h => by cases h)) | refine run_cond (b := true) (by simp []) (fun _ => ?_) (fun h => by cases h)
    try refine run_skip_seq ?_
    try refine run_exit_seq ?_
    first | refine run_reg_seq (st' := ?_) ?_ ?_ | refine run_assoc (run_reg_seq (st' := ?_) ?_ ?_) | refine run_reg (st' := ?_) ?_ ?_
    rotate_left 1
    · intro hf K hK; simp [live13, g13_2]; first | exact hK | ((repeat' apply And.intro) <;> first | exact hK | omega)
    simp [Kret, dwp, Kseq, retA, res13, mapO, catO, resA, frzA, idsA, oneOf, hn fun h => h1 h.1]

end Go.Proofs.Ytcmgfnhlnefchaa
