/-
  The first statement's function: it answers true.
-/
import Derived.Test.YtcmgfnhlnefchaaF14
import Derived.Test.YtcmgfnhlnefchaaG1
namespace Go.Proofs.Ytcmgfnhlnefchaa
open Go.Den
set_option linter.unusedVariables false
set_option linter.unusedSimpArgs false

theorem put_all {k : Int} {l : List R} {r : R} (hs : Srt k l) (hl : Neat l) (hr : r.neat) (hk : k ≤ 3) :
    ∃ (n : Nat) (b : Bool) (p : List R), findI (cmpK k (keyR r k)) l = n ∧ isAt (cmpK k (keyR r k)) l = b ∧ putI k l r = (p, 0) ∧ n ≤ l.length ∧ n < p.length ∧ p[n]? = some r ∧ Srt k p ∧ Neat p ∧ p.length ≤ l.length + 1 ∧
      (b = false → delI k p (keyR r k) = (l, 0)) ∧ (b = true → p.length = l.length) := by
  rcases put_cases hs hl hr hk with ⟨A, B, rfl, e1, e2, e3, h⟩ | ⟨A, t, B, rfl, e1, e2, e3, h⟩
  · refine ⟨A.length, false, A ++ r :: B, e1, e2, e3, by simp, by simp, by simp, h, fun s hs => ?_, by simp; omega, fun _ => ?_, (fun hb => by cases hb)⟩
    · simp only [List.mem_append, List.mem_cons] at hs
      rcases hs with hs | rfl | hs
      · exact hl s (by simp [hs])
      · exact hr
      · exact hl s (by simp [hs])
    · exact del_at (srt_mid.1 h).2.2.1
  · refine ⟨A.length, true, A ++ r :: B, e1, e2, e3, by simp, by simp, by simp, h, fun s hs => ?_, by simp, (fun hb => by cases hb), (fun _ => by simp)⟩
    simp only [List.mem_append, List.mem_cons] at hs
    rcases hs with hs | rfl | hs
    · exact hl s (by simp [hs])
    · exact hr
    · exact hl s (by simp [hs])

theorem del_all {k : Int} {l : List R} (hs : Srt k l) (hl : Neat l) (hk : k ≤ 3) {j : Nat} (hj : j < l.length) :
    ∃ d, delI k l (keyR l[j] k) = (d, 0) ∧ Srt k d ∧ Neat d ∧ d.length ≤ l.length ∧ putI k d l[j] = (l, 0) := by
  have e : l = l.take j ++ l[j] :: l.drop (j + 1) := by rw [← List.drop_eq_getElem_cons hj, List.take_append_drop]
  generalize hA : l.take j = A at e
  generalize hB : l.drop (j + 1) = B at e
  generalize hr : l[j] = r at e
  have hrn : r.neat := hr ▸ hl _ (List.getElem_mem hj)
  clear hr hj hA hB
  subst e
  obtain ⟨q1, q2, q3, q4, q5⟩ := srt_mid.1 hs
  refine ⟨A ++ B, del_at q3, srt_cut hs, fun s hs => ?_, by simp, ?_⟩
  · simp only [List.mem_append] at hs
    rcases hs with hs | hs
    · exact hl s (by simp [hs])
    · exact hl s (by simp [hs])
  · exact (put_new (fun s hs => by
      simp only [List.mem_append] at hs
      rcases hs with hs | hs
      · exact hl s (by simp [hs])
      · exact hl s (by simp [hs])) hrn hk q3 (fun s hs => tot_cmpL.anti _ _ (q4 s hs))).2.2

theorem neat_okL {l : List R} (h : Neat l) : ∀ r ∈ l, r.ok := fun r hr => (h r hr).ok
theorem neat_cells {l : List R} (h : Neat l) : ∀ r ∈ l, r.cells.length ≤ 1000000000 := fun r hr => (h r hr).ok.1
theorem neat_fitL {l : List R} (h : Neat l) (hl : l.length ≤ 1000000) : fitL l := ⟨by omega, fun r hr => (h r hr).fit⟩
theorem step12n {l : List R} {k : Int} (hl : Neat l) (hs : Srt k l) (h1 : 1 ≤ k) (h3 : k ≤ 3) (hn : l.length ≤ 1000000) : PCall Try.prog 12 [dR l, aI k] (aB true) := by
  have := step12 l k (by omega) (neat_okL hl)
  rw [valid_srt hl hs h1 h3] at this; exact this
theorem step13n {r : R} (h : r.neat) : PCall Try.prog 13 [.g (eR r), .g (eR r)] (aB true) := by
  have := step13 r r h.fit h.fit
  rwa [show decide (r = r) = true by simp] at this
theorem step14n {l : List R} (hl : Neat l) (hn : l.length ≤ 1000000) : PCall Try.prog 14 [.g [dR l, aI 0], .g [dR l, aI 0]] (aB true) := by
  have := step14 l l 0 0 (neat_fitL hl hn) (neat_fitL hl hn)
  rwa [show (decide ((0 : Int) = 0) && decide (l = l)) = true by simp] at this
theorem step15n {l p : List R} {q : List V} {k : Int} (hl : Neat l) (hs : Srt k l) (hn : l.length ≤ 1000000) (hq : q.length < 1000000000000) (h : delI k l q = (p, 0)) : PCall Try.prog 15 [dR l, aI k, dV q] (.g [dR p, aI 0]) := by
  have := step15 l q k hn (neat_cells hl) hq (mono_srt hs q)
  rwa [h] at this
theorem step11n {l p : List R} {r : R} {k : Int} (hl : Neat l) (hs : Srt k l) (hn : l.length ≤ 1000000) (hr : r.neat) (h : putI k l r = (p, 0)) : PCall Try.prog 11 [dR l, aI k, .g (eR r)] (.g [dR p, aI 0]) := by
  have := step11 l r k hn (neat_cells hl) hr.ok.1 (mono_srt hs _)
  rwa [h] at this
theorem step10n {l : List R} {q : List V} {k : Int} {n : Nat} {b : Bool} (hl : Neat l) (hs : Srt k l) (hn : l.length ≤ 1000000) (hq : q.length < 1000000000000) (h1 : findI (cmpK k q) l = n) (h2 : isAt (cmpK k q) l = b) : PCall Try.prog 10 [dR l, aI k, dV q] (.g [aI n, aB b]) := by
  have := step10 l q k (by omega) (neat_cells hl) hq (mono_srt hs q)
  rwa [h1, h2] at this

def t3b : AC := (.seq (.seq (.region g3_12 live3) (.cond (.t 108) (.seq (.region g3_13 live3) .ret) .skip)) (.seq (.region g3_14 live3) (.seq (.region g3_15 live3) (.seq (.region g3_16 live3) .ret))))

set_option maxHeartbeats 2000000 in
theorem step3t (x : List B4) (i : Int) (hi0 : 0 ≤ i) (hi1 : i < 256) {k : Int} (hk1 : 1 ≤ k) (hk3 : k ≤ 3) {l : List R} (hl : Neat l) (hs : Srt k l) (hln : l.length ≤ 1000000)
    (x1 x4 x10 x11 x12 x13 x14 x15 x18 x79 x105 x108 : AV) (ob : Den.Id → Option Ob) (ct : Nat → Nat) :
    dwp Try.prog t3b (Kret res3 (aB true)) (St.of [(0, dB x), (1, x1), (2, aU i), (4, x4), (6, aB false), (7, aB true), (8, aI k), (9, dR l), (10, x10), (11, x11), (12, x12), (13, x13), (14, x14), (15, x15), (18, x18), (79, x79), (105, x105), (108, x108)] ob ct) := by
  unfold t3b
  rcases Nat.eq_zero_or_pos l.length with h0 | hpos
  · first | refine run_reg_seq (st' := ?_) ?_ ?_ | refine run_assoc (run_reg_seq (st' := ?_) ?_ ?_) | refine run_reg (st' := ?_) ?_ ?_
    rotate_left 1
    · intro hf K hK; simp [live3, g3_12, binV, h0]; first | exact hK | ((repeat' apply And.intro) <;> first | exact hK | omega)
    first | refine run_cond_seq (b := true) (by simp []) (fun _ => ?_) (fun h => by cases h) | refine run_assoc (run_cond_seq (b := true) (by simp []) (fun _ => ?_) (fun h => by cases h)) | refine run_cond (b := true) (by simp []) (fun _ => ?_) (fun h => by cases h)
    try refine run_skip_seq ?_
    try refine run_exit_seq ?_
    first | refine run_reg_seq (st' := ?_) ?_ ?_ | refine run_assoc (run_reg_seq (st' := ?_) ?_ ?_) | refine run_reg (st' := ?_) ?_ ?_
    rotate_left 1
    · intro hf K hK; simp [live3, g3_13]; first | exact hK | ((repeat' apply And.intro) <;> first | exact hK | omega)
    simp [Kret, dwp, Kseq, retA, res3, mapO, catO, resA, frzA, idsA, oneOf]
  · have h0 : ¬ (l.length : Int) = 0 := by omega
    have hne : ¬ l = [] := by rintro rfl; simp at hpos
    first | refine run_reg_seq (st' := ?_) ?_ ?_ | refine run_assoc (run_reg_seq (st' := ?_) ?_ ?_) | refine run_reg (st' := ?_) ?_ ?_
    rotate_left 1
    · intro hf K hK; simp [live3, g3_12, binV]; first | exact hK | ((repeat' apply And.intro) <;> first | exact hK | omega)
    first | refine run_cond_seq (b := false) (by simp [hne]) (fun h => by cases h) (fun _ => ?_) | refine run_assoc (run_cond_seq (b := false) (by simp [hne]) (fun h => by cases h) (fun _ => ?_)) | refine run_cond (b := false) (by simp [hne]) (fun h => by cases h) (fun _ => ?_)
    try refine run_skip_seq ?_
    try refine run_exit_seq ?_
    obtain ⟨j, hj⟩ : ∃ j : Nat, i.tmod l.length = j := ⟨(i.tmod l.length).toNat, (Int.toNat_of_nonneg (Int.tmod_nonneg _ hi0)).symm⟩
    have hjl : j < l.length := by
      have := Int.tmod_lt_of_pos i (show (0 : Int) < l.length by omega)
      omega
    have hwi : IntKind.i64.wrap i = i := by
      obtain ⟨m, rfl⟩ : ∃ m : Nat, i = m := ⟨i.toNat, (Int.toNat_of_nonneg hi0).symm⟩
      exact wrap_nat m (by omega)
    obtain ⟨d, d1, d2, d3, d4, d5⟩ := del_all hs hl hk3 hjl
    have hon := hl l[j] (List.getElem_mem hjl)
    have hget2 : l[j]? = some l[j] := List.getElem?_eq_getElem hjl
    generalize l[j] = own at d1 d5 hon hget2
    have hjl' : (j : Int) < (l.length : Int) := by omega
    have hdn : d.length ≤ 1000000 := by omega
    first | refine run_reg_seq (st' := ?_) ?_ ?_ | refine run_assoc (run_reg_seq (st' := ?_) ?_ ?_) | refine run_reg (st' := ?_) ?_ ?_
    rotate_left 1
    · intro hf K hK; simp [live3, g3_14, binV, hwi, hj, hjl', hget2, h0, hne]; first | exact hK | ((repeat' apply And.intro) <;> first | exact hK | omega)
    first | refine run_reg_seq (st' := ?_) ?_ ?_ | refine run_assoc (run_reg_seq (st' := ?_) ?_ ?_) | refine run_reg (st' := ?_) ?_ ?_
    rotate_left 1
    · intro hf K hK; simp [live3, g3_15]
      refine .inl (callW_of0 (step9 own k hon.ok.1) [] (by simp [mapO, catO, frzA]) (by simp [mapO, catO, idsA]) ?_)
      simp [live3, g3_15]
      refine .inl (callW_of0 (step15n hl hs hln (keyR_len own k hon.ok.1) d1) [] (by simp [mapO, catO, frzA]) (by simp [mapO, catO, idsA]) ?_)
      simp [live3, g3_15]
      first | exact hK | ((repeat' apply And.intro) <;> first | exact hK | omega)
    first | refine run_reg_seq (st' := ?_) ?_ ?_ | refine run_assoc (run_reg_seq (st' := ?_) ?_ ?_) | refine run_reg (st' := ?_) ?_ ?_
    rotate_left 1
    · intro hf K hK; simp [live3, g3_16, binV]
      refine .inl (callW_of0 (step12n d3 d2 hk1 hk3 hdn) [] (by simp [mapO, catO, frzA, binV]) (by simp [mapO, catO, idsA, binV]) ?_)
      simp [live3, g3_16, binV]
      refine .inl (callW_of0 (step11n d3 d2 hdn hon d5) [] (by simp [mapO, catO, frzA, binV]) (by simp [mapO, catO, idsA, binV]) ?_)
      simp [live3, g3_16, binV]
      refine .inl (callW_of0 (step14n hl hln) [] (by simp [mapO, catO, frzA, binV]) (by simp [mapO, catO, idsA, binV]) ?_)
      simp [live3, g3_16, binV]
      first | exact hK | ((repeat' apply And.intro) <;> first | exact hK | omega)
    simp [Kret, dwp, Kseq, retA, res3, mapO, catO, resA, frzA, idsA, oneOf]

set_option maxHeartbeats 2000000 in
theorem step3 (x : List B4) (b : B4) (i : Int) (hx : ∀ b ∈ x, b.ok) (hb : b.ok) (hi0 : 0 ≤ i) (hi1 : i < 256) : PCall Try.prog 3 [dB x, .g (eB b), aU i] (aB true) := by
  obtain ⟨k, hk1, hk3, hke⟩ : ∃ k : Int, 1 ≤ k ∧ k ≤ 3 ∧ IntKind.i64.wrap (1 + IntKind.i64.wrap (i.tmod 3)) = k := by
    have h0 := Int.tmod_nonneg 3 hi0
    have h1 := Int.tmod_lt_of_pos i (show (0 : Int) < 3 by decide)
    obtain ⟨m, hm⟩ : ∃ m : Nat, i.tmod 3 = m := ⟨(i.tmod 3).toNat, (Int.toNat_of_nonneg h0).symm⟩
    rw [hm] at h0 h1 ⊢
    rw [wrap_nat m (by omega), Int.add_comm, wrap_succ (by omega)]
    exact ⟨((m + 1 : Nat) : Int), by omega, by omega, rfl⟩
  obtain ⟨hl, hs, hn⟩ := made_is hx hk3
  have h7 := step7 x k hx hk3
  generalize made x k = l at hl hs hn h7
  obtain ⟨hr, h8⟩ := rowOf_is hb
  generalize rowOf b = r at hr h8
  obtain ⟨n, is, p, e1, e2, e3, hnl, hnp, hget, hsp, hlp, hpl, hdel, heq⟩ := put_all hs hl hr hk3
  have hq := keyR_len r k hr.ok.1
  have hln : l.length ≤ 1000000 := by omega
  have hpn : p.length ≤ 1000000 := by omega
  have hg1 : ¬ ((l.length : Int) < (n : Int)) := by omega
  have hg2 : ¬ ((p.length : Int) ≤ (n : Int)) := by omega
  have hg3 : (n : Int) < (p.length : Int) := by omega
  refine pcall_of_dwp mixed fn3 (by simp) (init_run fun ob ct _ => ?_)
  simp only [List.zipIdx_cons, List.zipIdx_nil, List.map_cons, List.map_nil]
  unfold ac3
  first | refine run_reg_seq (st' := ?_) ?_ ?_ | refine run_assoc (run_reg_seq (st' := ?_) ?_ ?_) | refine run_reg (st' := ?_) ?_ ?_
  rotate_left 1
  · intro hf K hK; simp [live3, g3_0]; first | exact hK | ((repeat' apply And.intro) <;> first | exact hK | omega)
  first | refine run_reg_seq (st' := ?_) ?_ ?_ | refine run_assoc (run_reg_seq (st' := ?_) ?_ ?_) | refine run_reg (st' := ?_) ?_ ?_
  rotate_left 1
  · intro hf K hK; simp [live3, g3_1]
    refine .inl (callW_of0 (step6) [] (by simp [mapO, catO, frzA]) (by simp [mapO, catO, idsA]) ?_)
    simp [live3, g3_1]; first | exact hK | ((repeat' apply And.intro) <;> first | exact hK | omega)
  first | refine run_reg_seq (st' := ?_) ?_ ?_ | refine run_assoc (run_reg_seq (st' := ?_) ?_ ?_) | refine run_reg (st' := ?_) ?_ ?_
  rotate_left 1
  · intro hf K hK; simp [live3, g3_2]; first | exact hK | ((repeat' apply And.intro) <;> first | exact hK | omega)
  first | refine run_cond_seq (b := false) (by simp []) (fun h => by cases h) (fun _ => ?_) | refine run_assoc (run_cond_seq (b := false) (by simp []) (fun h => by cases h) (fun _ => ?_)) | refine run_cond (b := false) (by simp []) (fun h => by cases h) (fun _ => ?_)
  try refine run_skip_seq ?_
  try refine run_exit_seq ?_
  first | refine run_reg_seq (st' := ?_) ?_ ?_ | refine run_assoc (run_reg_seq (st' := ?_) ?_ ?_) | refine run_reg (st' := ?_) ?_ ?_
  rotate_left 1
  · intro hf K hK; simp [live3, g3_4, binV, hke]; first | exact hK | ((repeat' apply And.intro) <;> first | exact hK | omega)
  first | refine run_drawn_seq (st' := ?_) ?_ ?_ | refine run_assoc (run_drawn_seq (st' := ?_) ?_ ?_) | refine run_drawn (st' := ?_) ?_ ?_
  rotate_left 1
  · intro hf K hK; simp [live3, g3_5, catO, idsA]
    refine (callW_of0 (h7) [] (by simp [mapO, catO, frzA, catO, idsA]) (by simp [mapO, catO, idsA, catO, idsA]) ?_)
    simp [live3, g3_5, catO, idsA]
    refine (callW_of0 (h8) [] (by simp [mapO, catO, frzA, catO, idsA]) (by simp [mapO, catO, idsA, catO, idsA]) ?_)
    simp [live3, g3_5, catO, idsA]
    first | exact hK | ((repeat' apply And.intro) <;> first | exact hK | omega)
  first | refine run_reg_seq (st' := ?_) ?_ ?_ | refine run_assoc (run_reg_seq (st' := ?_) ?_ ?_) | refine run_reg (st' := ?_) ?_ ?_
  rotate_left 1
  · intro hf K hK; simp [live3, g3_6]
    refine .inl (callW_of0 (step9 r k hr.ok.1) [] (by simp [mapO, catO, frzA]) (by simp [mapO, catO, idsA]) ?_)
    simp [live3, g3_6]
    first | exact hK | ((repeat' apply And.intro) <;> first | exact hK | omega)
  first | refine run_drawn_seq (st' := ?_) ?_ ?_ | refine run_assoc (run_drawn_seq (st' := ?_) ?_ ?_) | refine run_drawn (st' := ?_) ?_ ?_
  rotate_left 1
  · intro hf K hK; simp [live3, g3_7, catO, idsA]
    refine (callW_of0 (step10n hl hs hln hq e1 e2) [] (by simp [mapO, catO, frzA, catO, idsA]) (by simp [mapO, catO, idsA, catO, idsA]) ?_)
    simp [live3, g3_7, catO, idsA]
    refine (callW_of0 (step11n hl hs hln hr e3) [] (by simp [mapO, catO, frzA, catO, idsA]) (by simp [mapO, catO, idsA, catO, idsA]) ?_)
    simp [live3, g3_7, catO, idsA]
    first | exact hK | ((repeat' apply And.intro) <;> first | exact hK | omega)
  have hg0 : ¬ ((n : Int) < 0) := by omega
  first | refine run_ro_seq (st' := ?_) rfl ?_ ?_ | refine run_assoc (run_ro_seq (st' := ?_) rfl ?_ ?_) | refine run_ro (st' := ?_) rfl ?_ ?_
  rotate_left 1
  · intro hf K hK; simp [live3, g3_8, binV, hg0, hg1, hg2, hg3, hget]
    refine (callW_of0 (step12n hlp hsp hk1 hk3 hpn) [] (by simp [mapO, catO, frzA, binV, hg0, hg1, hg2, hg3, hget]) (by simp [mapO, catO, idsA, binV, hg0, hg1, hg2, hg3, hget]) ?_)
    simp [live3, g3_8, binV, hg0, hg1, hg2, hg3, hget]
    refine (callW_of0 (step13n hr) [] (by simp [mapO, catO, frzA, binV, hg0, hg1, hg2, hg3, hget]) (by simp [mapO, catO, idsA, binV, hg0, hg1, hg2, hg3, hget]) ?_)
    simp [live3, g3_8, binV, hg0, hg1, hg2, hg3, hget]
    first | exact hK | ((repeat' apply And.intro) <;> first | exact hK | omega)
  first | refine run_cond_seq (b := false) (by simp []) (fun h => by cases h) (fun _ => ?_) | refine run_assoc (run_cond_seq (b := false) (by simp []) (fun h => by cases h) (fun _ => ?_)) | refine run_cond (b := false) (by simp []) (fun h => by cases h) (fun _ => ?_)
  try refine run_skip_seq ?_
  try refine run_exit_seq ?_
  cases is with
  | false =>
    first | refine run_reg_seq (st' := ?_) ?_ ?_ | refine run_assoc (run_reg_seq (st' := ?_) ?_ ?_) | refine run_reg (st' := ?_) ?_ ?_
    rotate_left 1
    · intro hf K hK; simp [live3, g3_10, binV]
      refine .inl (callW_of0 (step15n hlp hsp hpn hq (hdel rfl)) [] (by simp [mapO, catO, frzA, binV]) (by simp [mapO, catO, idsA, binV]) ?_)
      simp [live3, g3_10, binV]
      refine .inl (callW_of0 (step14n hl hln) [] (by simp [mapO, catO, frzA, binV]) (by simp [mapO, catO, idsA, binV]) ?_)
      simp [live3, g3_10, binV]
      first | exact hK | ((repeat' apply And.intro) <;> first | exact hK | omega)
    first | refine run_cond_seq (b := false) (by simp []) (fun h => by cases h) (fun _ => ?_) | refine run_assoc (run_cond_seq (b := false) (by simp []) (fun h => by cases h) (fun _ => ?_)) | refine run_cond (b := false) (by simp []) (fun h => by cases h) (fun _ => ?_)
    try refine run_skip_seq ?_
    try refine run_exit_seq ?_
    exact step3t x i hi0 hi1 hk1 hk3 hl hs hln _ _ _ _ _ _ _ _ _ _ _ _ _ _
  | true =>
    have hpe := heq rfl
    have hbne : ((p.length : Int) != (l.length : Int)) = false := by rw [hpe]; simp
    first | refine run_reg_seq (st' := ?_) ?_ ?_ | refine run_assoc (run_reg_seq (st' := ?_) ?_ ?_) | refine run_reg (st' := ?_) ?_ ?_
    rotate_left 1
    · intro hf K hK; simp (maxSteps := 4000000) [live3, g3_10, binV, hbne]; first | exact hK | ((repeat' apply And.intro) <;> first | exact hK | omega)
    first | refine run_cond_seq (b := false) (by simp []) (fun h => by cases h) (fun _ => ?_) | refine run_assoc (run_cond_seq (b := false) (by simp []) (fun h => by cases h) (fun _ => ?_)) | refine run_cond (b := false) (by simp []) (fun h => by cases h) (fun _ => ?_)
    try refine run_skip_seq ?_
    try refine run_exit_seq ?_
    exact step3t x i hi0 hi1 hk1 hk3 hl hs hln _ _ _ _ _ _ _ _ _ _ _ _ _ _

end Go.Proofs.Ytcmgfnhlnefchaa
