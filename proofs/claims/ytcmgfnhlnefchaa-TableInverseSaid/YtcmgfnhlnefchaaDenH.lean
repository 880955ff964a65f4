/-
  Den, part H: fields, elements, lengths; aggregates and slices that are built; equality of aggregates.
-/
import Derived.Test.YtcmgfnhlnefchaaDenG
namespace Go.Den
set_option linter.unusedVariables false
set_option linter.unusedSimpArgs false

section
variable {P : Program} {en : Env} {c : Cx} {st : St} {a : Act} {w : World} {o : Oper} {r : Res} {n site : Nat}

theorem s_slcS (h : StRel en c st a w) (hd : ∀ d, o.dst = some d → d < a.tmps.size) {t : TypeId} {x : Operand} {lo hi : Option Operand} (ho : o.op = .slice t x lo hi none) (ht : P.underlying t = some .string)
    (hs : stepA st.get st.ob n site (.slcS (cS x) (cSm lo) (cSm hi)) = some r) : Sound P en c st a w o r := by
  have hx := cS_rel h x
  simp only [stepA] at hs
  split at hs
  · rename_i s he
    rw [he] at hx
    split at hs
    · rename_i hh hhi
      split at hs
      · rename_i l hlo
        simp only [Option.some.injEq] at hs
        subst hs
        obtain ⟨hr, hl, hhl⟩ := bounds_run (P := P) (isS := false) (cap := s.size) h hhi hlo (Nat.le_refl _)
        refine sound_val h (v := .string (s.extract l hh)) ?_ (rel_s.2 rfl) hd
        simp only [execOp, ho, rel_s.1 hx, Option.map_none]
        exact run_v (by simp [Instr.sliceAt, run_underlying ht, Instr.slice, hr])
      · cases hs
    · cases hs
  · cases hs

theorem s_fad (h : StRel en c st a w) (hd : ∀ d, o.dst = some d → d < a.tmps.size) {t : TypeId} {x : Operand} {i : Nat} {fs : Array Field} {f : Field} {k : Nat} (ho : o.op = .fieldAddr t x i) (ht : P.underlying t = some (.struct fs)) (hf : fs[i]? = some f) (hz : szOf P f.type = some k) (hk : 0 < k)
    (hs : stepA st.get st.ob n site (.fad f.offset (cS x)) = some r) : Sound P en c st a w o r := by
  have hx := cS_rel h x
  have run : ∀ {b p : Nat}, a.eval x = .pointer (some ⟨b, p, none⟩) → (execOp a.eval o).run P w = .ok (.value (.pointer (some ⟨b, p + f.offset, none⟩))) w := by
    intro b p he
    simp only [execOp, ho, he]
    refine run_v ?_
    have hk0 : ¬ (k = 0) := by omega
    simp [Instr.fieldAt, run_underlying ht, hf, Instr.sureAddr, fieldPlace, szOf_run hz, hk0, addz]
  simp only [stepA] at hs
  split at hs
  · rename_i i' z k' off he
    rw [he] at hx
    simp only [Option.some.injEq] at hs
    subst hs
    simp only [VRel] at hx
    refine sound_val h (run hx.2) ?_ hd
    simp only [VRel]
    exact ⟨hx.1, by simp [Nat.add_assoc]⟩
  · rename_i es z k' off he
    rw [he] at hx
    simp only [Option.some.injEq] at hs
    subst hs
    simp only [VRel] at hx
    obtain ⟨b, p, xs, e, g⟩ := hx
    refine sound_val h (run e) ?_ hd
    simp only [VRel]
    exact ⟨b, p, xs, by simp [Nat.add_assoc], g⟩
  · cases hs

theorem part_run {t : TypeId} {m : Nat} {agg : Bool} (hz : szOf P t = some m) (hg : aggOf P t = some agg) (hm : agg = false → m = 1) {cs : List AV} {xs : Array Value} (hr : VRels c w cs xs.toList) {d : Nat} (hle : d + m ≤ cs.length) (hpos : 0 < m)
    {q : Res} (hq : (bif agg then some (Res.v (.g ((cs.drop d).take m))) else (cs[d]?).map Res.v) = some q) :
    ∃ v av, (part t xs d).run P w = .ok v w ∧ q = .v av ∧ VRel c w av v := by
  have hl := VRels.length hr
  cases agg with
  | true =>
    simp only [cond_true, Option.some.injEq] at hq
    refine ⟨.agg (xs.extract d (d + m)), _, ?_, hq.symm, ?_⟩
    · simp [part, aggOf_run hg, szOf_run hz]
    · simp only [VRel]
      refine ⟨_, rfl, ?_⟩
      have := VRels.take (VRels.drop hr d) m
      have e : (xs.extract d (d + m)).toList = (xs.toList.drop d).take m := by simp [List.extract_eq_take_drop]
      rw [e]; exact this
  | false =>
    have := hm rfl
    subst this
    have hlt : d < cs.length := by omega
    simp only [cond_false, List.getElem?_eq_getElem hlt, Option.map_some, Option.some.injEq] at hq
    obtain ⟨x, hx1, hx2⟩ := VRels.get hr d _ (List.getElem?_eq_getElem hlt)
    refine ⟨x, _, ?_, hq.symm, hx2⟩
    have : xs[d]? = some x := by simpa using hx1
    simp [part, aggOf_run hg, this]

theorem s_fld (h : StRel en c st a w) (hd : ∀ d, o.dst = some d → d < a.tmps.size) {t : TypeId} {x : Operand} {i : Nat} {fs : Array Field} {f : Field} {m : Nat} {agg : Bool} (ho : o.op = .field t x i) (ht : P.underlying t = some (.struct fs)) (hf : fs[i]? = some f) (hz : szOf P f.type = some m) (hg : aggOf P f.type = some agg) (hm : agg = false → m = 1) (hpos : 0 < m)
    (hs : stepA st.get st.ob n site (.fld agg f.offset m (cS x)) = some r) : Sound P en c st a w o r := by
  have hx := cS_rel h x
  simp only [stepA] at hs
  split at hs
  · rename_i cs he
    rw [he] at hx
    replace hs := bif_opt hs
    obtain ⟨hb, hs⟩ := hs
    simp only [VRel] at hx
    obtain ⟨xs, ex, hr⟩ := hx
    obtain ⟨v, av, h1, rfl, h2⟩ := part_run (P := P) hz hg hm hr (Nat.le_of_ble_eq_true hb) hpos hs
    refine sound_val h (v := v) ?_ h2 hd
    simp only [execOp, ho, ex]
    exact run_v (by simp [Instr.field, run_underlying ht, hf, asAgg, h1])
  · cases hs

theorem s_idxA (h : StRel en c st a w) (hd : ∀ d, o.dst = some d → d < a.tmps.size) {t e : TypeId} {x i : Operand} {len m : Nat} {agg : Bool} (ho : o.op = .index t x i) (ht : P.underlying t = some (.array len e)) (hz : szOf P e = some m) (hg : aggOf P e = some agg) (hm : agg = false → m = 1) (hpos : 0 < m)
    (hs : stepA st.get st.ob n site (.idxA agg len m (cS x) (cS i)) = some r) : Sound P en c st a w o r := by
  have hx := cS_rel h x
  simp only [stepA] at hs
  split at hs
  · rename_i q cs hi he
    rw [he] at hx
    obtain ⟨k, ek⟩ := intA_rel hi (cS_rel h i)
    replace hs := ite_opt hs
    obtain ⟨hq, hs⟩ := hs
    replace hs := bif_opt hs
    obtain ⟨hb, hs⟩ := hs
    simp only [VRel] at hx
    obtain ⟨xs, ex, hr⟩ := hx
    have hle := Nat.le_of_ble_eq_true hb
    rw [Nat.succ_mul] at hle
    obtain ⟨v, av, h1, rfl, h2⟩ := part_run (P := P) hz hg hm hr hle hpos hs
    refine sound_val h (v := v) ?_ h2 hd
    simp only [execOp, ho, ex, ek]
    exact run_v (by simp [Instr.index, run_underlying ht, asIntOf, hq.1, hq.2, szOf_run hz, h1])
  · cases hs

theorem s_idxS (h : StRel en c st a w) (hd : ∀ d, o.dst = some d → d < a.tmps.size) {t : TypeId} {x i : Operand} (ho : o.op = .index t x i) (ht : P.underlying t = some .string)
    (hs : stepA st.get st.ob n site (.idxS (cS x) (cS i)) = some r) : Sound P en c st a w o r := by
  have hx := cS_rel h x
  simp only [stepA] at hs
  split at hs
  · rename_i q s hi he
    rw [he] at hx
    obtain ⟨k, ek⟩ := intA_rel hi (cS_rel h i)
    replace hs := ite_opt hs
    obtain ⟨hq, hs⟩ := hs
    split at hs
    · rename_i b hb
      simp only [Option.some.injEq] at hs
      subst hs
      refine sound_val h (v := .int .u8 b.toNat) ?_ (rel_s.2 rfl) hd
      simp only [execOp, ho, rel_s.1 hx, ek]
      exact run_v (by simp [Instr.index, run_underlying ht, asIntOf, hq, hb])
    · cases hs
  · cases hs

theorem s_iad (h : StRel en c st a w) (hd : ∀ d, o.dst = some d → d < a.tmps.size) {t e : TypeId} {x i : Operand} {z : Nat} (ho : o.op = .indexAddr t x i) (ht : P.underlying t = some (.slice e)) (hz : szOf P e = some z)
    (hs : stepA st.get st.ob n site (.iad z (cS x) (cS i)) = some r) : Sound P en c st a w o r := by
  have hx := cS_rel h x
  simp only [stepA] at hs
  split at hs
  · rename_i q hi
    obtain ⟨k, ek⟩ := intA_rel hi (cS_rel h i)
    split at hs
    · rename_i full z' es he
      rw [he] at hx
      replace hs := ite_opt hs
      obtain ⟨hq, hs⟩ := hs
      replace hs := bif_opt hs
      obtain ⟨hb, hs⟩ := hs
      have hzz := Nat.eq_of_beq_eq_true hb
      simp only [Option.some.injEq] at hs
      subst hs
      simp only [VRel] at hx
      obtain ⟨A, kk, xs, ex, g1, g2, g3, g4, g5, g6, g7⟩ := hx
      have hne : xs ≠ [] := by
        intro e0
        have := VRelss.length g5 g4
        rw [e0] at this
        have h1 : 1 * 1 ≤ es.length * z' := Nat.mul_le_mul (by omega) g3
        simp at this; omega
      obtain ⟨b, p, rfl, hh⟩ := g7 hne
      refine sound_val h (v := .pointer (some ⟨b, p + q.toNat * z, none⟩)) ?_ ?_ hd
      · simp only [execOp, ho, ex, ek]
        exact run_v (by simp [Instr.indexAt, run_underlying ht, asIntOf, hq.1, hq.2, szOf_run hz, addz])
      · simp only [VRel]
        exact ⟨b, p, xs, by simp, by rw [hzz]; exact g4, g5, g6, hh⟩
    · rename_i i' z' off len he
      rw [he] at hx
      replace hs := ite_opt hs
      obtain ⟨hq, hs⟩ := hs
      replace hs := bif_opt hs
      obtain ⟨hb, hs⟩ := hs
      have hzz := Nat.eq_of_beq_eq_true hb
      simp only [Option.some.injEq] at hs
      subst hs
      simp only [VRel] at hx
      obtain ⟨hal, g3, A, kk, ex, g1, g2, g4⟩ := hx
      rw [g4 (by omega)] at ex
      refine sound_val h (v := .pointer (some ⟨(c.mu i').blk, (c.mu i').off + off * z' + q.toNat * z, none⟩)) ?_ ?_ hd
      · simp only [execOp, ho, ex, ek]
        exact run_v (by simp [Instr.indexAt, run_underlying ht, asIntOf, hq.1, hq.2, szOf_run hz, addz])
      · simp only [VRel]
        refine ⟨hal, ?_⟩
        rw [hzz, Nat.add_mul]
        congr 3
        omega
    · cases hs
  · cases hs

theorem s_iadA (h : StRel en c st a w) (hd : ∀ d, o.dst = some d → d < a.tmps.size) {t e : TypeId} {x i : Operand} {len z : Nat} (ho : o.op = .indexAddr t x i) (ht : P.underlying t = some (.array len e)) (hz : szOf P e = some z)
    (hs : stepA st.get st.ob n site (.iadA len z (cS x) (cS i)) = some r) : Sound P en c st a w o r := by
  have hx := cS_rel h x
  simp only [stepA] at hs
  split at hs
  · rename_i q hi
    obtain ⟨k, ek⟩ := intA_rel hi (cS_rel h i)
    replace hs := ite_opt hs
    obtain ⟨hq, hs⟩ := hs
    have run : ∀ {b p : Nat}, a.eval x = .pointer (some ⟨b, p, none⟩) → (execOp a.eval o).run P w = .ok (.value (.pointer (some ⟨b, p + q.toNat * z, none⟩))) w := by
      intro b p he
      simp only [execOp, ho, he, ek]
      exact run_v (by simp [Instr.indexAt, run_underlying ht, asIntOf, Instr.sureAddr, hq.1, hq.2, szOf_run hz, addz])
    split at hs
    · rename_i i' z' k' off he
      rw [he] at hx
      simp only [Option.some.injEq] at hs
      subst hs
      simp only [VRel] at hx
      refine sound_val h (run hx.2) ?_ hd
      simp only [VRel]
      exact ⟨hx.1, by simp [Nat.add_assoc]⟩
    · rename_i es z' k' off he
      rw [he] at hx
      simp only [Option.some.injEq] at hs
      subst hs
      simp only [VRel] at hx
      obtain ⟨b, p, xs, e, g⟩ := hx
      refine sound_val h (run e) ?_ hd
      simp only [VRel]
      exact ⟨b, p, xs, by simp [Nat.add_assoc], g⟩
    · cases hs
  · cases hs

theorem s_ext (h : StRel en c st a w) (hd : ∀ d, o.dst = some d → d < a.tmps.size) {x : Operand} {i : Nat} (ho : o.op = .extract x i)
    (hs : stepA st.get st.ob n site (.ext (cS x) i) = some r) : Sound P en c st a w o r := by
  have hx := cS_rel h x
  simp only [stepA] at hs
  split at hs
  · rename_i vs he
    rw [he] at hx
    simp only [Option.map_eq_some_iff] at hs
    obtain ⟨av, hav, rfl⟩ := hs
    simp only [VRel] at hx
    obtain ⟨xs, ex, hr⟩ := hx
    obtain ⟨v, hv1, hv2⟩ := VRels.get hr i av hav
    refine sound_val h (v := v) ?_ hv2 hd
    simp only [execOp, ho, ex]
    have : xs[i]? = some v := by simpa using hv1
    exact run_v (by simp [Instr.extract, this])
  · cases hs

theorem s_len (h : StRel en c st a w) (hd : ∀ d, o.dst = some d → d < a.tmps.size) {x : Operand} {t e : TypeId} (ho : o.op = .call { callee := .builtin .len, args := #[x], argTypes := #[t] }) (ht : P.underlying t = some (.slice e))
    (hs : stepA st.get st.ob n site (.len (cS x)) = some r) : Sound P en c st a w o r := by
  have hx := cS_rel h x
  have run : ∀ {A : Option Addr} {m k : Nat}, a.eval x = .slice A m k → (execOp a.eval o).run P w = .ok (.value (.int .i64 m)) w := by
    intro A m k he
    simp [execOp, ho, resolve, invoke, builtin, he, Builtin.len_, run_underlying ht, goInt]
  simp only [stepA] at hs
  split at hs
  · rename_i full z es he
    rw [he] at hx; simp only [VRel] at hx
    obtain ⟨A, k, xs, ex, _⟩ := hx
    simp only [Option.some.injEq] at hs
    subst hs
    exact sound_val h (run ex) (rel_s.2 rfl) hd
  · rename_i i z off len he
    rw [he] at hx; simp only [VRel] at hx
    obtain ⟨_, _, A, k, ex, _⟩ := hx
    simp only [Option.some.injEq] at hs
    subst hs
    exact sound_val h (run ex) (rel_s.2 rfl) hd
  · rename_i v he
    rw [he] at hx
    replace hs := bif_opt hs
    obtain ⟨hn, hs⟩ := hs
    unfold isNilS at hn
    split at hn
    · simp only [Option.some.injEq] at hs
      subst hs
      exact sound_val h (run (rel_s.1 hx)) (rel_s.2 rfl) hd
    · cases hn
  · cases hs

theorem s_lenS (h : StRel en c st a w) (hd : ∀ d, o.dst = some d → d < a.tmps.size) {x : Operand} {t : TypeId} (ho : o.op = .call { callee := .builtin .len, args := #[x], argTypes := #[t] }) (ht : P.underlying t = some .string)
    (hs : stepA st.get st.ob n site (.lenS (cS x)) = some r) : Sound P en c st a w o r := by
  have hx := cS_rel h x
  simp only [stepA] at hs
  split at hs
  · rename_i s he
    rw [he] at hx
    simp only [Option.some.injEq] at hs
    subst hs
    refine sound_val h (v := .int .i64 s.size) ?_ (rel_s.2 rfl) hd
    simp [execOp, ho, resolve, invoke, builtin, rel_s.1 hx, Builtin.len_, run_underlying ht, goInt]
  · cases hs

theorem s_lenA (h : StRel en c st a w) (hd : ∀ d, o.dst = some d → d < a.tmps.size) {x : Operand} {t e : TypeId} {m : Nat} (ho : o.op = .call { callee := .builtin .len, args := #[x], argTypes := #[t] }) (ht : P.underlying t = some (.array m e))
    (hs : stepA st.get st.ob n site (.lenA m) = some r) : Sound P en c st a w o r := by
  simp only [stepA, Option.some.injEq] at hs
  subst hs
  refine sound_val h (v := .int .i64 m) ?_ (rel_s.2 rfl) hd
  simp [execOp, ho, resolve, invoke, builtin, Builtin.len_, run_underlying ht, goInt]

/-! ### min, max -/
theorem fold_none (mx : Bool) : ∀ l : List AV, l.foldl (mm2 mx) none = none
  | [] => rfl
  | y :: l => by
    have : mm2 mx none y = none := by simp [mm2]
    rw [List.foldl_cons, this]; exact fold_none mx l

theorem mm2_some {mx : Bool} {k : IntKind} {p : Int} {y r : AV} (h : mm2 mx (some (.s (.int k p))) y = some r) : ∃ k' q, y = .s (.int k' q) := by
  unfold mm2 at h
  split at h
  · rename_i e1; exact ⟨_, _, rfl⟩
  · cases h

theorem mm_rel (mx : Bool) : ∀ (l : List AV) (xs : List Value) (k : IntKind) (p : Int) (r : AV), VRels c w l xs → l.foldl (mm2 mx) (some (.s (.int k p))) = some r →
    ∃ v, (xs.foldlM (if mx then Builtin.max2 else Builtin.min2) (.int k p)).run P w = .ok v w ∧ VRel c w r v
  | [], xs, k, p, r, hr, h => by
    simp only [VRels] at hr
    subst hr
    simp only [List.foldl_nil, Option.some.injEq] at h
    subst h
    exact ⟨.int k p, by simp, rel_s.2 rfl⟩
  | y :: l, xs, k, p, r, hr, h => by
    simp only [VRels] at hr
    obtain ⟨x, ys, rfl, h1, h2⟩ := hr
    rw [List.foldl_cons] at h
    have hy : ∃ k' q, y = .s (.int k' q) := by
      cases hm : mm2 mx (some (.s (.int k p))) y with
      | none => rw [hm, fold_none] at h; cases h
      | some r' => exact mm2_some hm
    obtain ⟨k', q, rfl⟩ := hy
    have ex := rel_s.1 h1
    subst ex
    simp only [mm2] at h
    obtain ⟨v, hv1, hv2⟩ := mm_rel mx l ys k (if mx then (if q > p then q else p) else (if q < p then q else p)) r h2 h
    refine ⟨v, ?_, hv2⟩
    rw [List.foldlM_cons]
    cases mx
    · simp only [Bool.false_eq_true, if_false] at hv1 ⊢; simp [Builtin.min2, hv1]
    · simp only [if_true] at hv1 ⊢; simp [Builtin.max2, hv1]

theorem s_mm (h : StRel en c st a w) (hd : ∀ d, o.dst = some d → d < a.tmps.size) {mx : Bool} {xs : Array Operand} {ts : Array TypeId} (ho : o.op = .call { callee := .builtin (if mx then .max else .min), args := xs, argTypes := ts })
    (hs : stepA st.get st.ob n site (.mm mx (xs.toList.map cS)) = some r) : Sound P en c st a w o r := by
  have hr := maps_rel h xs.toList
  simp only [stepA, Option.map_eq_some_iff] at hs
  obtain ⟨av, hav, rfl⟩ := hs
  cases hl : (xs.toList.map cS).map (ev st.get) with
  | nil => rw [hl] at hav; cases hav
  | cons y l =>
    rw [hl] at hav hr
    have hy : ∃ k q, y = .s (.int k q) := by
      unfold mmV at hav
      split at hav
      · rename_i e; injection e with e1 e2; exact ⟨_, _, e1⟩
      · cases hav
    obtain ⟨k, q, rfl⟩ := hy
    simp only [VRels] at hr
    obtain ⟨x, ys, hxs, h1, h2⟩ := hr
    have ex := rel_s.1 h1
    subst ex
    obtain ⟨v, hv1, hv2⟩ := mm_rel (P := P) mx l ys k q av h2 hav
    refine sound_val h (v := v) ?_ hv2 hd
    have hargs : (xs.map a.eval).toList = .int k q :: ys := by simpa using hxs
    cases mx
    · simp only [Bool.false_eq_true, if_false] at ho hv1
      simp [execOp, ho, resolve, invoke, builtin, Builtin.min_, hxs, hv1]
    · simp only [if_true] at ho hv1
      simp [execOp, ho, resolve, invoke, builtin, Builtin.max_, hxs, hv1]
end
end Go.Den
