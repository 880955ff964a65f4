/-
  Den, part K: appends, copies, clears.
-/
import Derived.Test.YtcmgfnhlnefchaaDenJ
namespace Go.Den
set_option linter.unusedVariables false
set_option linter.unusedSimpArgs false

section
variable {P : Program} {en : Env} {c : Cx} {st : St} {a : Act} {w : World} {o : Oper} {r : Res} {n site : Nat}

/-- The cells that are read ahead of a write. -/
theorem fc_run {A : Option Addr} {z m m' k : Nat} {xs : List Value} (hl : xs.length = m * z) (hx : ∀ (j : Nat) (v : Value), xs[j]? = some v → ∃ ad, A = some ad ∧ w.cell? (ad.add j) = some v) :
    (Builtin.firstCells z m (.slice A m' k)).run P w = .ok xs.toArray w := by
  cases A with
  | none =>
    cases xs with
    | nil => simp [Builtin.firstCells]
    | cons x xs =>
      obtain ⟨ad, e, _⟩ := hx 0 x (by simp)
      cases e
  | some b =>
    exact run_firstCells_some w z m b m' k xs hl (fun j v hj => by
      obtain ⟨ad, e, h⟩ := hx j v hj
      cases e
      exact h)

theorem zeroCells_size (z : Array Value) (n : Nat) : (Builtin.zeroCells z n).size = n * z.size := by simp [Builtin.zeroCells]

theorem zeroCells_mem {z : Array Value} {n : Nat} {v : Value} (h : v ∈ Builtin.zeroCells z n) : v ∈ z.toList := by
  simp only [Builtin.zeroCells, Array.mem_map, Array.mem_range] at h
  obtain ⟨i, hi, rfl⟩ := h
  have hz : 0 < z.size := by
    rcases Nat.eq_zero_or_pos z.size with h0 | h0
    · rw [h0] at hi; simp at hi
    · exact h0
  have hlt : i % z.size < z.size := Nat.mod_lt _ hz
  rw [getElem!_pos z _ hlt]
  simp

/-- An append that grows. -/
theorem run_app_grow {t u e : TypeId} {ty : TypeId} {i : TypeInfo} {zv : Value} {du : TypeDesc} (ht : P.underlying t = some (.slice e)) (hu : P.underlying u = some du) (hdu : ∀ k, du ≠ .int k) (hi : P.info? e = some i) (hzv : (zeroValue e).run P w = .ok zv w) (hzs : zv.cells.size = i.size)
    {B A : Option Addr} {sLen sCap m k : Nat} {olds news : List Value} (hlo : olds.length = sLen * i.size) (hlod : ∀ (j : Nat) (v : Value), olds[j]? = some v → ∃ ad, B = some ad ∧ w.cell? (ad.add j) = some v)
    (hl : news.length = m * i.size) (hn : ∀ (j : Nat) (v : Value), news[j]? = some v → ∃ ad, A = some ad ∧ w.cell? (ad.add j) = some v) (hg : sCap < sLen + m) (h46 : (sLen + m) * i.bytes ≤ 70368744177664) (h63 : sLen + m ≤ 70368744177664) :
    ∃ (cap : Nat) (cs : Array Value), (Builtin.append_ #[t, u] ty #[.slice B sLen sCap, .slice A m k]).run P w =
      .ok (.slice (some ⟨w.heap.size, 0, none⟩) (sLen + m) cap) ({ w with drawn := w.drawn + 1, heap := w.heap.push (.cells cs e) } : World) ∧ sLen + m ≤ cap ∧ cs.size = cap * i.size ∧ (∀ (j : Nat) (v : Value), (olds ++ news)[j]? = some v → cs[j]? = some v) ∧ ∀ (j : Nat) (v : Value), cs[j]? = some v → v ∈ olds ++ news ∨ v ∈ zv.cells.toList := by
  have hcut : sLen + m ≤ grownCap w (sLen + m) sCap e := by simp only [grownCap, Question.cut]; omega
  refine ⟨grownCap w (sLen + m) sCap e, (olds ++ news).toArray ++ Builtin.zeroCells zv.cells (grownCap w (sLen + m) sCap e - (sLen + m)), ?_, hcut, ?_, ?_, ?_⟩
  · have hnn : ¬ (sLen + m ≤ sCap) := by omega
    have hfit := growslice_fits (bytes := i.bytes) hg (by omega)
    have h63' : ¬ (((sLen + m : Nat) : Int) > IntKind.i64.max) := by simp only [IntKind.max, IntKind.signed, IntKind.bits]; simp; omega
    have h48' : ¬ (Builtin.nextslicecap (sLen + m) sCap * i.bytes > 2 ^ 48) := by omega
    have hf := fc_run (P := P) (w := { w with drawn := w.drawn + 1 }) (A := A) (m := m) (m' := m) (k := k) (z := i.size) (xs := news) hl (fun j v hj => hn j v hj)
    have hfo := fc_run (P := P) (w := { w with drawn := w.drawn + 1 }) (A := B) (m := sLen) (m' := sLen) (k := sCap) (z := i.size) (xs := olds) hlo (fun j v hj => hlod j v hj)
    have hz' : (zeroValue e).run P { w with drawn := w.drawn + 1 } = .ok zv { w with drawn := w.drawn + 1 } := by
      cases hzz : i.zero with
      | none => simp [zeroValue, typeInfo, hi, hzz] at hzv
      | some zz =>
        simp [zeroValue, typeInfo, hi, hzz] at hzv ⊢
        exact hzv
    have hzeros : (match du with | .int _ => true | _ => false) = false := by cases du <;> first | rfl | (rename_i k; exact absurd rfl (hdu k))
    simp only [Builtin.append_, List.getElem?_toArray, List.getElem?_cons_zero, List.getElem?_cons_succ, Sem.run_bind, run_underlying ht, run_underlying hu, Result.andThen_ok, sizeOf, typeInfo, run_program, hi, Sem.run_pure, hzeros, Builtin.lenOf, if_neg hnn, Bool.false_eq_true, if_false]
    rw [if_neg (fun hh => h63' hh.1)]
    simp only [Sem.run_bind, run_program, Result.andThen_ok, hi, Sem.run_pure]
    rw [if_neg h48']
    simp only [hi, run_program, Sem.run_bind, run_choose, Question.forced, Bool.false_eq_true, if_false, Result.andThen_ok, run_askRoom, hfo, hf, hz', Bool.not_false, if_true, Sem.run_pure, newRow, run_newObj]
    simp [grownCap]
  · simp [zeroCells_size, hzs, hlo, hl]
    rw [← Nat.add_mul, ← Nat.add_mul]
    congr 1
    omega
  · intro j v hj
    have hlt : j < (olds ++ news).length := by
      rcases Nat.lt_or_ge j (olds ++ news).length with h' | h'
      · exact h'
      · rw [List.getElem?_eq_none h'] at hj; cases hj
    rw [Array.getElem?_append_left (by simpa using hlt)]
    simpa using hj
  · intro j v hj
    have hm := Array.mem_of_getElem? hj
    rw [Array.mem_append] at hm
    rcases hm with hm | hm
    · exact .inl (by simpa using hm)
    · exact .inr (zeroCells_mem hm)

/-- An append for which there is room. -/
theorem run_app_room {t u e : TypeId} {ty : TypeId} {i : TypeInfo} {du : TypeDesc} (ht : P.underlying t = some (.slice e)) (hu : P.underlying u = some du) (hdu : ∀ k, du ≠ .int k) (hi : P.info? e = some i)
    {B A : Option Addr} {sLen sCap m k : Nat} {news : List Value} (hl : news.length = m * i.size) (hn : ∀ (j : Nat) (v : Value), news[j]? = some v → ∃ ad, A = some ad ∧ w.cell? (ad.add j) = some v) (h1 : One news) (hg : sLen + m ≤ sCap) :
    (B = none ∨ m = 0 → (Builtin.append_ #[t, u] ty #[.slice B sLen sCap, .slice A m k]).run P w = .ok (.slice B (sLen + m) sCap) w) ∧
    (∀ (b p : Nat) (cs : Array Value) (ety : TypeId), B = some ⟨b, p, none⟩ → w.heap[b]? = some (.cells cs ety (0, 0)) → p + sLen * i.size + news.length ≤ cs.size →
      (Builtin.append_ #[t, u] ty #[.slice B sLen sCap, .slice A m k]).run P w =
        .ok (.slice B (sLen + m) sCap) (w.setRow b (cs.toList.take (p + sLen * i.size) ++ news ++ cs.toList.drop (p + sLen * i.size + news.length)).toArray)) := by
  have hf := fc_run (P := P) (w := w) (A := A) (m := m) (m' := m) (k := k) (z := i.size) (xs := news) hl hn
  have hzeros : (match du with | .int _ => true | _ => false) = false := by cases du <;> first | rfl | (rename_i k; exact absurd rfl (hdu k))
  have base : (Builtin.append_ #[t, u] ty #[.slice B sLen sCap, .slice A m k]).run P w =
      (((match B with | some a => storeCells (a.add (sLen * i.size)) news | none => Pure.pure ()) : Sem Unit).run P w).andThen fun _ w => .ok (.slice B (sLen + m) sCap) w := by
    simp only [Builtin.append_, List.getElem?_toArray, List.getElem?_cons_zero, List.getElem?_cons_succ, Sem.run_bind, run_underlying ht, run_underlying hu, Result.andThen_ok, sizeOf, typeInfo, run_program, hi, Sem.run_pure, hzeros, Builtin.lenOf, if_pos hg, Bool.false_eq_true, if_false, Bool.not_false, if_true, hf]
    cases B <;> simp
  constructor
  · intro hB
    rw [base]
    rcases hB with rfl | rfl
    · simp
    · have : news = [] := List.eq_nil_of_length_eq_zero (by simpa using hl)
      subst this
      cases B <;> simp [storeCells]
  · intro b p cs ety hB hb hle
    subst hB
    rw [base]
    simp only [addz]
    rw [run_storeCells b _ cs ety news hb hle h1]
    simp

theorem app_exec {t u : TypeId} {x y : Operand} {v : Value} {w' : World} (ho : o.op = .call { callee := .builtin .append, args := #[x, y], argTypes := #[t, u] }) (h : (Builtin.append_ #[t, u] o.type #[a.eval x, a.eval y]).run P w = .ok v w') :
    (execOp a.eval o).run P w = .ok (.value v) w' := by
  simp [execOp, ho, resolve, invoke, builtin, h]

/-- What grows goes to a new block. -/
theorem app_new (h : StRel en c st a w) (hd : ∀ d, o.dst = some d → d < a.tmps.size) {e : TypeId} {z cap m : Nat} {cs : Array Value} {es : List (List AV)} {xs : List Value} (hz : 0 < z) (he : ∀ x ∈ es, x.length = z) (hr : VRelss c w es xs) (h1 : One xs) (hm : es.length = m) (hmc : m ≤ cap) (hcs : cs.size = cap * z)
    (hxs : ∀ (j : Nat) (v : Value), xs[j]? = some v → cs[j]? = some v) (hone : ∀ (j : Nat) (v : Value), cs[j]? = some v → v.oneCell' = true)
    (hrun : (execOp a.eval o).run P w = .ok (.value (.slice (some ⟨w.heap.size, 0, none⟩) m cap)) ({ w with drawn := w.drawn + 1, heap := w.heap.push (.cells cs e) } : World)) :
    Sound P en c st a w o (.nw (.o (.l (o.dst.getD 0) (st.ct (o.dst.getD 0))) z 0 m) (st.ct (o.dst.getD 0)) ⟨z, es, true, none⟩) := by
  have hup := Up.drew c w (w.drawn + 1)
  obtain ⟨c', hu, hst⟩ := StRel.new (h.drew (w.drawn + 1)) (dst := o.dst) (n := 0) (o := ⟨z, es, true, none⟩) (av := .o (.l (o.dst.getD 0) (st.ct (o.dst.getD 0))) z 0 m)
    (v := .slice (some ⟨w.heap.size, 0, none⟩) m cap) (cs := cs) (e := e) (cap := cap * z) hd (.inr trivial) rfl hz he (by simp) (xs := xs)
    (VRelss.up hup _ _ hr) h1 (by rw [hm]; exact Nat.mul_le_mul_right z hmc) (by omega) hxs (fun i u _ hu => hone i u hu)
    (by intro c' w' ha hmu; simp only [VRel]; rw [hmu]; exact ⟨ha, hz, _, cap, rfl, hmc, by simp, by simp⟩)
  exact ⟨_, _, _, c', hrun, .inl rfl, hup.trans hu, hst⟩

/-- A new name for what is no memory at all. -/
theorem StRel.empty (h : StRel en c st a w) {dst : Option Nat} {z : Nat} (hz : 0 < z) {v : Value} {av : AV} (hd : ∀ d, dst = some d → d < a.tmps.size)
    (hv : ∀ c' w', c'.al (.l (dst.getD 0) (st.ct (dst.getD 0))) → c'.mu (.l (dst.getD 0) (st.ct (dst.getD 0))) = ⟨0, 0, 0⟩ → VRel c' w' av v) :
    ∃ c', Up c w c' w ∧ StRel en c' (st.app dst (.nw av (st.ct (dst.getD 0)) ⟨z, [], true, none⟩)) (a.put dst v) w := by
  have hal : ¬ c.al (.l (dst.getD 0) (st.ct (dst.getD 0))) := fun hh => Nat.lt_irrefl _ (h.fresh _ _ hh)
  have hup := Up.add (c := c) (w := w) (w' := w) (h := ⟨0, 0, 0⟩) hal (fun _ _ _ => rfl)
  have hnot : ∀ i o', st.ob i = some o' → i ≠ .l (dst.getD 0) (st.ct (dst.getD 0)) := fun i o' ho e => hal (e ▸ (h.objs i o' ho).1)
  have hmu : ∀ i o', st.ob i = some o' → (c.add (.l (dst.getD 0) (st.ct (dst.getD 0))) ⟨0, 0, 0⟩).mu i = c.mu i := fun i o' ho => by simp only [Cx.add]; rw [if_neg (hnot i o' ho)]
  have hal' : (c.add (.l (dst.getD 0) (st.ct (dst.getD 0))) ⟨0, 0, 0⟩).al (.l (dst.getD 0) (st.ct (dst.getD 0))) := Or.inl rfl
  have hmu' : (c.add (.l (dst.getD 0) (st.ct (dst.getD 0))) ⟨0, 0, 0⟩).mu (.l (dst.getD 0) (st.ct (dst.getD 0))) = ⟨0, 0, 0⟩ := by simp [Cx.add]
  refine ⟨_, hup, ?_⟩
  refine { slots := ?_, objs := ?_, inj := ?_, own := ?_, fresh := ?_, Fin := h.Fin, F0 := h.F0, F1 := h.F1, cell := h.cell, os := h.os, tape := h.tape, output := h.output, size := h.size, block := h.block, defers := ?_, tsz := ?_ }
  · intro i
    simp only [St.app]
    refine slots_put (st := (st.setOb (.l (dst.getD 0) (st.ct (dst.getD 0))) (some ⟨z, [], true, none⟩)).bump (dst.getD 0)) ?_ (hv _ _ hal' hmu') hd i
    intro i
    exact VRel.up hup _ _ (h.slots i)
  · intro i o' ho
    simp only [St.app, ob_putO, St.ob_bump, St.ob_setOb] at ho
    by_cases hi : i = .l (dst.getD 0) (st.ct (dst.getD 0))
    · rw [if_pos hi] at ho
      simp only [Option.some.injEq] at ho
      subst ho
      refine ⟨.inl hi, ?_⟩
      have : (c.add (.l (dst.getD 0) (st.ct (dst.getD 0))) ⟨0, 0, 0⟩).mu i = ⟨0, 0, 0⟩ := by simp [Cx.add, hi]
      rw [this]
      exact ⟨hz, by simp, by simp, by simp, [], by simp [VRelss], by simp [One], fun hc => absurd hc (by simp)⟩
    · rw [if_neg hi] at ho
      refine ⟨.inr (h.objs i o' ho).1, ?_⟩
      rw [hmu i o' ho]
      exact ObRel.up hup (h.objs i o' ho).2 (fun hc => rfl) (fun _ => Iff.rfl)
  · intro i j o1 o2 hi hj hne
    simp only [St.app, ob_putO, St.ob_bump, St.ob_setOb] at hi hj
    by_cases ei : i = .l (dst.getD 0) (st.ct (dst.getD 0))
    · intro hc; simp [Cx.add, ei] at hc
    · by_cases ej : j = .l (dst.getD 0) (st.ct (dst.getD 0))
      · intro _ hc; simp [Cx.add, ej] at hc
      · rw [if_neg ei] at hi
        rw [if_neg ej] at hj
        rw [hmu i _ hi, hmu j _ hj]
        exact h.inj i j _ _ hi hj hne
  · intro i o' ho
    simp only [St.app, ob_putO, St.ob_bump, St.ob_setOb] at ho
    by_cases ei : i = .l (dst.getD 0) (st.ct (dst.getD 0))
    · intro hc; simp [Cx.add, ei] at hc
    · rw [if_neg ei] at ho
      rw [hmu i _ ho]
      exact h.own i _ ho
  · intro s m hal'
    simp only [St.app, ct_putO, St.ct_bump, St.ct_setOb]
    rcases hal' with e' | hal'
    · injection e' with e1 e2
      subst e1; subst e2
      simp
    · have := h.fresh s m hal'
      split <;> omega
  · rw [put_defers]; exact h.defers
  · rw [put_size]; exact h.tsz

theorem s_app (h : StRel en c st a w) (hd : ∀ d, o.dst = some d → d < a.tmps.size) {t u e : TypeId} {x y : Operand} {x' y' : Opd} {i : TypeInfo} {du : TypeDesc} {z bytes : Nat} {zero : List AV} (ho : o.op = .call { callee := .builtin .append, args := #[x, y], argTypes := #[t, u] })
    (ht : P.underlying t = some (.slice e)) (hu : P.underlying u = some du) (hdu : ∀ k, du ≠ .int k) (hi : P.info? e = some i) (hz : i.size = z) (hz0 : 0 < z) (hb : i.bytes = bytes) (hzero : zeroT P e = some zero) (hzl : zero.length = z)
    (hx : VRel c w (ev st.get x') (a.eval x)) (hy : VRel c w (ev st.get y') (a.eval y))
    (hs : stepA st.get st.ob (st.ct (o.dst.getD 0)) (o.dst.getD 0) (.app z bytes x' y') = some r) : Sound P en c st a w o r := by
  subst hz; subst hb
  obtain ⟨zv, hz1, hz2, hz3, _⟩ := zeroT_run hzero w
  have hzs : zv.cells.size = i.size := by have := VRels.length (hz2 c w); simp at this; omega
  simp only [stepA] at hs
  split at hs
  · rename_i new hnew
    obtain ⟨A, k, news, ey, g1, g2, g3, g4, g5⟩ := elemsA_rel h hnew hz0 hy
    have hnl := VRelss.length g3 g2
    -- an append to nil
    have nilcase : ∀ (hbd : new.length * i.bytes ≤ 70368744177664) (hbl : new.length ≤ 70368744177664) (B : Option Addr) (hB : a.eval x = .slice B 0 0) ,
        Sound P en c st a w o (.nw (.o (.l (o.dst.getD 0) (st.ct (o.dst.getD 0))) i.size 0 new.length) (st.ct (o.dst.getD 0)) ⟨i.size, new, true, none⟩) := by
      intro hbd hbl B hB
      rcases Nat.eq_zero_or_pos new.length with h0 | hpos
      · have hn0 : new = [] := List.eq_nil_of_length_eq_zero h0
        subst hn0
        have hxs : news = [] := List.eq_nil_of_length_eq_zero (by simpa using hnl)
        have hrun := (run_app_room (P := P) (w := w) (ty := o.type) (B := B) (A := A) (sLen := 0) (sCap := 0) (m := 0) (k := k) ht hu hdu hi (news := news) (by simpa using hnl) g5 g4 (Nat.le_refl _)).1 (.inr rfl)
        obtain ⟨c', hu', hst⟩ := StRel.empty h (dst := o.dst) (z := i.size) (v := .slice B 0 0) (av := .o (.l (o.dst.getD 0) (st.ct (o.dst.getD 0))) i.size 0 0) hz0 hd
          (by intro c' w' ha hm; simp only [VRel]; rw [hm]; exact ⟨ha, hz0, B, 0, rfl, Nat.le_refl _, by simp, by simp⟩)
        refine ⟨_, _, w, c', app_exec ho ?_, .inl rfl, hu', by simpa using hst⟩
        rw [hB, ey]
        simpa using hrun
      · obtain ⟨cap, cs, hrun, hc1, hc2, hc3, hc4⟩ := run_app_grow (P := P) (w := w) (ty := o.type) (B := B) (A := A) (sLen := 0) (sCap := 0) (m := new.length) (k := k) (olds := []) (news := news) ht hu hdu hi hz1 hzs (by simp) (by simp) hnl g5 (by omega) (by simpa using hbd) (by omega)
        simp only [List.nil_append, Nat.zero_add] at hrun hc1 hc3
        refine app_new (e := e) h hd hz0 g2 g3 g4 rfl hc1 hc2 hc3 (fun j v hj => (hc4 j v hj).elim (fun hm => g4 v (by simpa using hm)) (fun hm => hz3 v hm)) (app_exec ho ?_)
        rw [hB, ey]
        exact hrun
    split at hs
    · rename_i v hev
      rw [hev] at hx
      replace hs := bif_opt hs
      obtain ⟨hn, hs⟩ := hs
      unfold isNilS at hn
      split at hn
      · replace hs := ite_opt hs
        obtain ⟨⟨q1, q2, q3⟩, hs⟩ := hs
        simp only [Option.some.injEq] at hs
        subst hs
        exact nilcase q1 q2 none (rel_s.1 hx)
      · cases hn
    · rename_i full z' es hev
      rw [hev] at hx
      replace hs := ite_opt hs
      obtain ⟨⟨q1, q2, q3, _, q4, q5⟩, hs⟩ := hs
      simp only [Option.some.injEq] at hs
      subst hs
      subst q2
      simp only [VRel] at hx
      obtain ⟨B, kb, olds, ex, k1, k2, _, k3, k4', k5, k6⟩ := hx
      have k4 := VRelss.up (Up.ofData c w) _ _ k4'
      have hkb := k2 q1
      subst hkb
      have holds := VRelss.length k4 k3
      rcases List.eq_nil_or_concat es with hes | ⟨_, _, hes⟩
      · subst hes
        simp only [List.length_nil, Nat.zero_add, List.nil_append] at q4 q5 ⊢
        exact nilcase q4 q5 B ex
      have hesne : es ≠ [] := by rw [hes]; simp
      have hnpos : 0 < new.length := by
        rcases Nat.eq_zero_or_pos new.length with h0 | hpos
        · rcases q3 with q3 | q3
          · exact absurd (List.eq_nil_of_length_eq_zero h0) q3
          · exact absurd q3 hesne
        · exact hpos
      clear hes
      obtain ⟨cap, cs, hrun, hc1, hc2, hc3, hc4⟩ := run_app_grow (P := P) (w := w) (ty := o.type) (B := B) (A := A) (sLen := es.length) (sCap := es.length) (m := new.length) (k := k) (olds := olds) (news := news) ht hu hdu hi hz1 hzs holds
        (fun j v hj => by
          obtain ⟨b, p, rfl, hh⟩ := k6 (by intro e0; simp [e0] at hj)
          exact ⟨_, rfl, by rw [addz]; exact (hh j v hj).2⟩) hnl g5 (by omega) q4 q5
      refine app_new (e := e) h hd hz0 (fun e he => ?_) (VRelss.flatten.2 ?_) (fun v hv => ?_) (by simp) hc1 hc2 hc3 (fun j v hj => (hc4 j v hj).elim (fun hm => (List.mem_append.1 hm).elim (k5 v) (g4 v)) (fun hm => hz3 v hm)) (app_exec ho ?_)
      · rcases List.mem_append.1 he with he | he
        · exact k3 e he
        · exact g2 e he
      · rw [List.flatten_append]; exact VRels.append (VRelss.flatten.1 k4) (VRelss.flatten.1 g3)
      · rcases List.mem_append.1 hv with hv | hv
        · exact k5 v hv
        · exact g4 v hv
      · rw [ex, ey]; exact hrun
    · rename_i i' z' off len hev
      rw [hev] at hx
      split at hs
      · rename_i ob hob
        replace hs := ite_opt hs
        obtain ⟨⟨q1, q2, q4, q5⟩, hs⟩ := hs
        subst q1
        simp only [VRel] at hx
        obtain ⟨hal, _, B, kb, ex, k1, k2, k3⟩ := hx
        obtain ⟨_, m1, m2, m3, m4, xs, m5, m6, m7⟩ := h.objs i' ob hob
        rw [q2] at m2 m3 m4
        have hxl := VRelss.length m5 m2
        have hoff : off * i.size ≤ (c.mu i').cap := by rw [← k2, Nat.add_mul]; omega
        split at hs
        · -- it moves, or grows in place
          rename_i hend
          simp only [Option.some.injEq] at hs
          subst hs
          have hdl : (ob.es.drop off).length = len := by simp; omega
          have hdz : ∀ x ∈ ob.es.drop off, x.length = i.size := fun x hx => m2 x (List.mem_of_mem_drop hx)
          have hdr : ∀ {c' : Cx} {w' : World}, Up c w c' w' → VRelss c' w' (ob.es.drop off) (xs.drop (off * i.size)) := fun hu => by
            have := VRels.drop (VRelss.flatten.1 (VRelss.up hu _ _ m5)) (off * i.size)
            rw [flatten_drop m2] at this
            exact VRelss.flatten.2 this
          have hdo : One (xs.drop (off * i.size)) := fun v hv => m6 v (List.mem_of_mem_drop hv)
          have hdlen : (xs.drop (off * i.size)).length = len * i.size := by rw [VRelss.length (hdr (Up.refl c w)) hdz, hdl]
          have hread : ∀ (j : Nat) (v : Value), (xs.drop (off * i.size))[j]? = some v → ∃ ad, B = some ad ∧ w.cell? (ad.add j) = some v := fun j v hj => by
            have hjl : j < len * i.size := by
              rcases Nat.lt_or_ge j (len * i.size) with h' | h'
              · exact h'
              · rw [List.getElem?_eq_none (by omega)] at hj; cases hj
            have hlp : 0 < len := by
              rcases Nat.eq_zero_or_pos len with h0 | h0
              · subst h0; simp at hjl
              · exact h0
            have hcp : 0 < (c.mu i').cap := by
              rw [← k2]; exact Nat.mul_pos (by omega) hz0
            obtain ⟨cs, e', p1, p2, p3, _⟩ := m7 hcp
            refine ⟨_, k3 (by omega), ?_⟩
            rw [List.getElem?_drop] at hj
            rw [addz, cell_of_block p1, Nat.add_assoc]
            exact p3 _ _ hj
          have happ : ∀ x ∈ ob.es.drop off ++ new, x.length = i.size := fun x hx => by
            rcases List.mem_append.1 hx with hx | hx
            · exact hdz x hx
            · exact g2 x hx
          have happr : ∀ {c' : Cx} {w' : World}, Up c w c' w' → VRelss c' w' (ob.es.drop off ++ new) (xs.drop (off * i.size) ++ news) := fun hu => by
            refine VRelss.flatten.2 ?_
            rw [List.flatten_append]
            exact VRels.append (VRelss.flatten.1 (hdr hu)) (VRelss.flatten.1 (VRelss.up hu _ _ g3))
          have happo : One (xs.drop (off * i.size) ++ news) := fun v hv => by
            rcases List.mem_append.1 hv with hv | hv
            · exact hdo v hv
            · exact g4 v hv
          rcases Nat.lt_or_ge kb (len + new.length) with hgrow | hroom
          · -- a new block
            obtain ⟨cap, cs, hrun, hc1, hc2, hc3, hc4⟩ := run_app_grow (P := P) (w := w) (ty := o.type) (B := B) (A := A) (sLen := len) (sCap := kb) (m := new.length) (k := k) (olds := xs.drop (off * i.size)) (news := news) ht hu hdu hi hz1 hzs hdlen hread hnl g5 hgrow q4 q5
            have hS := app_new (e := e) (h.drop i') hd hz0 happ (happr (Up.refl c w)) happo (by simp; omega) hc1 hc2 hc3 (fun j v hj => (hc4 j v hj).elim (happo v) (fun hm => hz3 v hm)) (app_exec ho (by rw [ex, ey]; exact hrun))
            obtain ⟨nx, v, w', c', r1, r2, r3, r4⟩ := hS
            cases hwr : ob.wr with
            | true => exact ⟨nx, v, w', c', r1, r2, r3, r4⟩
            | false =>
              have hj : ((st.setOb i' none).app o.dst (.nw (.o (.l (o.dst.getD 0) (st.ct (o.dst.getD 0))) i.size 0 (len + new.length)) (st.ct (o.dst.getD 0)) ⟨i.size, ob.es.drop off ++ new, true, none⟩)).ob (.l (o.dst.getD 0) (st.ct (o.dst.getD 0))) = some ⟨i.size, ob.es.drop off ++ new, true, none⟩ := by
                simp [St.app, ob_putO, St.ob_setOb]
              obtain ⟨c'', s1, s2⟩ := StRel.freeze r4 hj
              refine ⟨nx, v, w', c'', r1, r2, r3.trans s1, ?_⟩
              have : (((st.setOb i' none).app o.dst (.nw (.o (.l (o.dst.getD 0) (st.ct (o.dst.getD 0))) i.size 0 (len + new.length)) (st.ct (o.dst.getD 0)) ⟨i.size, ob.es.drop off ++ new, true, none⟩)).setOb (.l (o.dst.getD 0) (st.ct (o.dst.getD 0))) (some ⟨i.size, ob.es.drop off ++ new, false, none⟩)) =
                  st.app o.dst (.mv (.o (.l (o.dst.getD 0) (st.ct (o.dst.getD 0))) i.size 0 (len + new.length)) i' (st.ct (o.dst.getD 0)) ⟨i.size, ob.es.drop off ++ new, false, none⟩) := by
                simp only [St.app]
                cases o.dst <;> (simp only [St.putO, St.put, St.setOb, St.bump, St.mk.injEq, true_and, and_true]; funext j; split <;> simp_all)
              rw [← this]
              exact s2
          · -- in place
            rcases Nat.eq_zero_or_pos (c.mu i').cap with hc0 | hcp
            · -- there is no memory at all
              have hk0 : kb = 0 := by
                have : (off + kb) * i.size = 0 := by omega
                rcases Nat.mul_eq_zero.1 this with h' | h' <;> omega
              have hl0 : len = 0 := by omega
              have hn0 : new = [] := List.eq_nil_of_length_eq_zero (by omega)
              subst hk0; subst hl0; subst hn0
              have hd0 : ob.es.drop off = [] := List.eq_nil_of_length_eq_zero hdl
              have hrun := (run_app_room (P := P) (w := w) (ty := o.type) (B := B) (A := A) (sLen := 0) (sCap := 0) (m := 0) (k := k) ht hu hdu hi (news := news) (by simpa using hnl) g5 g4 (Nat.le_refl _)).1 (.inr rfl)
              obtain ⟨c', hu', hst⟩ := StRel.empty (h.drop i') (dst := o.dst) (z := i.size) (v := .slice B 0 0) (av := .o (.l (o.dst.getD 0) (st.ct (o.dst.getD 0))) i.size 0 0) hz0 hd
                (by
                  intro c' w' ha hm
                  have hm' : c'.mu (.l (o.dst.getD 0) (st.ct (o.dst.getD 0))) = ⟨0, 0, 0⟩ := hm
                  simp only [VRel]; exact ⟨ha, hz0, B, 0, rfl, Nat.le_refl _, by rw [hm']; simp, by simp⟩)
              have hexec := app_exec ho (w := w) (P := P) (v := .slice B 0 0) (w' := w) (by rw [ex, ey]; simpa using hrun)
              simp only [hd0, List.length_nil, Nat.add_zero, List.append_nil]
              cases hwr : ob.wr with
              | true => exact ⟨_, _, w, c', hexec, .inl rfl, hu', hst⟩
              | false =>
                have hj : ((st.setOb i' none).app o.dst (.nw (.o (.l (o.dst.getD 0) (st.ct (o.dst.getD 0))) i.size 0 0) (st.ct (o.dst.getD 0)) ⟨i.size, [], true, none⟩)).ob (.l (o.dst.getD 0) (st.ct (o.dst.getD 0))) = some ⟨i.size, [], true, none⟩ := by
                  simp [St.app, ob_putO, St.ob_setOb]
                obtain ⟨c'', s1, s2⟩ := StRel.freeze hst hj
                refine ⟨_, _, w, c'', hexec, .inl rfl, hu'.trans s1, ?_⟩
                have : (((st.setOb i' none).app o.dst (.nw (.o (.l (o.dst.getD 0) (st.ct (o.dst.getD 0))) i.size 0 0) (st.ct (o.dst.getD 0)) ⟨i.size, [], true, none⟩)).setOb (.l (o.dst.getD 0) (st.ct (o.dst.getD 0))) (some ⟨i.size, [], false, none⟩)) =
                    st.app o.dst (.mv (.o (.l (o.dst.getD 0) (st.ct (o.dst.getD 0))) i.size 0 0) i' (st.ct (o.dst.getD 0)) ⟨i.size, [], false, none⟩) := by
                  simp only [St.app]
                  cases o.dst <;> (simp only [St.putO, St.put, St.setOb, St.bump, St.mk.injEq, true_and, and_true]; funext j; split <;> simp_all)
                rw [← this]
                exact s2
            · obtain ⟨cs, ety, p1, p2, p3, po, p4, p5⟩ := m7 hcp
              have hcap2 : off * i.size + kb * i.size = (c.mu i').cap := by rw [← k2, Nat.add_mul]
              have hroom2 : (len + new.length) * i.size ≤ kb * i.size := Nat.mul_le_mul_right _ hroom
              have hnl2 : len * i.size + news.length = (len + new.length) * i.size := by rw [hnl, Nat.add_mul]
              have hxle : off * i.size + len * i.size = xs.length := by rw [hxl, ← hend, Nat.add_mul]
              let p := (c.mu i').off + off * i.size
              let cs' : Array Value := (cs.toList.take (p + len * i.size) ++ news ++ cs.toList.drop (p + len * i.size + news.length)).toArray
              have hfit : p + len * i.size + news.length ≤ cs.size := by show (c.mu i').off + off * i.size + _ + _ ≤ _; omega
              have hcs' : cs'.toList = splice cs.toList (p + len * i.size) news := rfl
              have hget : ∀ j : Nat, cs'[j]? = (splice cs.toList (p + len * i.size) news)[j]? := fun j => by rw [← hcs']; simp
              have hrun := run_app_room (P := P) (w := w) (ty := o.type) (B := B) (A := A) (sLen := len) (sCap := kb) (m := new.length) (k := k) ht hu hdu hi (news := news) hnl g5 g4 hroom
              have hrun2 : (Builtin.append_ #[t, u] o.type #[.slice B len kb, .slice A new.length k]).run P w = .ok (.slice B (len + new.length) kb) (w.setRow (c.mu i').blk cs') := by
                rcases Nat.eq_zero_or_pos kb with hk0 | hkp
                · have hn0 : new = [] := List.eq_nil_of_length_eq_zero (by omega)
                  subst hn0
                  have hns : news = [] := List.eq_nil_of_length_eq_zero (by simpa using hnl)
                  have he2 : cs' = cs := by apply Array.ext'; rw [hcs', hns]; simp [splice]
                  rw [he2, setRow_self w _ cs ety (0, 0) p1]
                  exact hrun.1 (.inr rfl)
                · exact hrun.2 _ _ cs ety (k3 hkp) p1 hfit
              have hnot : ¬ c.al (.l (o.dst.getD 0) (st.ct (o.dst.getD 0))) := fun hh => Nat.lt_irrefl _ (h.fresh _ _ hh)
              have hjne : Id.l (o.dst.getD 0) (st.ct (o.dst.getD 0)) ≠ i' := fun e => hnot (e ▸ hal)
              obtain ⟨c', hu', hst⟩ := StRel.write h (dst := o.dst) (i := i') (j := .l (o.dst.getD 0) (st.ct (o.dst.getD 0))) (o := ob) (o' := ⟨i.size, ob.es.drop off ++ new, ob.wr, none⟩)
                (av := .o (.l (o.dst.getD 0) (st.ct (o.dst.getD 0))) i.size 0 (len + new.length)) (v := .slice B (len + new.length) kb) (cs := cs) (cs' := cs') (e := ety) (off := p) (cap := kb * i.size) hd hob hcp p1
                (by have := splice_length cs.toList (p + len * i.size) news (by simpa using hfit); rw [← hcs'] at this; simpa using this)
                (fun q hf => by
                  rw [hget, splice_get _ _ _ (by simpa using hfit)]
                  have hqlt : q < p + len * i.size := by
                    cases hwr : ob.wr with
                    | true => exact absurd hf (p4 hwr q)
                    | false =>
                      rcases Nat.lt_or_ge q ((c.mu i').off + xs.length) with h' | h'
                      · show q < (c.mu i').off + off * i.size + len * i.size; omega
                      · exact absurd hf ((p5 hwr).2 q h')
                  rw [if_pos hqlt]; simp)
                (.inr ⟨hnot, rfl⟩) rfl hz0 happ (by simp) (xs := xs.drop (off * i.size) ++ news) (fun c' w' hu => happr hu) happo
                (by
                  have : (ob.es.drop off ++ new).length = len + new.length := by rw [List.length_append, hdl]
                  show (ob.es.drop off ++ new).length * i.size ≤ _
                  rw [this]; exact hroom2)
                (by show (c.mu i').off + off * i.size + kb * i.size ≤ _; omega)
                (fun q v hq => by
                  rw [hget, splice_get _ _ _ (by simpa using hfit)]
                  by_cases hq1 : q < len * i.size
                  · rw [List.getElem?_append_left (by omega), List.getElem?_drop] at hq
                    rw [if_pos (by omega)]
                    have := p3 _ _ hq
                    rw [show p + q = (c.mu i').off + (off * i.size + q) by show (c.mu i').off + off * i.size + q = _; omega]
                    simpa using this
                  · rw [List.getElem?_append_right (by omega), hdlen] at hq
                    have hqn : q - len * i.size < news.length := by
                      rcases Nat.lt_or_ge (q - len * i.size) news.length with h' | h'
                      · exact h'
                      · rw [List.getElem?_eq_none h'] at hq; cases hq
                    rw [if_neg (by omega), if_pos (by omega), show p + q - (p + len * i.size) = q - len * i.size by omega]
                    exact hq)
                (fun q v hqc hq => by
                  rw [hget, splice_get _ _ _ (by simpa using hfit)] at hq
                  have hshow : p + q = (c.mu i').off + (off * i.size + q) := by show (c.mu i').off + off * i.size + q = _; omega
                  split at hq
                  · exact po (off * i.size + q) v (by omega) (by rw [← hshow]; simpa using hq)
                  · split at hq
                    · exact g4 v (List.mem_of_getElem? hq)
                    · exact po (off * i.size + q) v (by omega) (by rw [← hshow]; simpa using hq))
                (by show (xs.drop (off * i.size) ++ news).length = (ob.es.drop off ++ new).length * i.size; rw [List.length_append, List.length_append, hdl, hdlen, hnl2])
                (fun hw q hf => by
                  rw [List.length_append, hdlen]
                  rcases Nat.lt_or_ge q ((c.mu i').off + xs.length) with h' | h'
                  · show q < (c.mu i').off + off * i.size + _; omega
                  · exact absurd hf ((p5 hw).2 q h'))
                (fun c' w' hu ha hm => by
                  simp only [VRel]
                  refine ⟨ha, hz0, B, kb, rfl, hroom, by rw [hm]; simp, fun hk => ?_⟩
                  rw [hm, k3 hk]; simp)
              refine ⟨_, _, _, c', app_exec ho (by rw [ex, ey]; exact hrun2), .inl rfl, hu', ?_⟩
              have : ({ st with ob := fun x => if x = .l (o.dst.getD 0) (st.ct (o.dst.getD 0)) then some ⟨i.size, ob.es.drop off ++ new, ob.wr, none⟩ else if x = i' then none else st.ob x, ct := if Id.l (o.dst.getD 0) (st.ct (o.dst.getD 0)) = i' then st.ct else (st.bump (o.dst.getD 0)).ct } : St).putO o.dst (.o (.l (o.dst.getD 0) (st.ct (o.dst.getD 0))) i.size 0 (len + new.length)) =
                  st.app o.dst (.mv (.o (.l (o.dst.getD 0) (st.ct (o.dst.getD 0))) i.size 0 (len + new.length)) i' (st.ct (o.dst.getD 0)) ⟨i.size, ob.es.drop off ++ new, ob.wr, none⟩) := by
                rw [if_neg hjne]
                rfl
              rw [← this]
              exact hst
        · -- inside what is known
          replace hs := ite_opt hs
          obtain ⟨⟨q6, q7⟩, hs⟩ := hs
          simp only [Option.some.injEq] at hs
          subst hs
          have hroom : len + new.length ≤ kb := by
            have : (off + len + new.length) * i.size ≤ (off + kb) * i.size := by
              rw [k2]; exact Nat.le_trans (Nat.mul_le_mul_right _ q6) m3
            have := Nat.le_of_mul_le_mul_right this hz0
            omega
          have hrun := run_app_room (P := P) (w := w) (ty := o.type) (B := B) (A := A) (sLen := len) (sCap := kb) (m := new.length) (k := k) ht hu hdu hi (news := news) hnl g5 g4 hroom
          have hle2 : (off + len + new.length) * i.size ≤ ob.es.length * i.size := Nat.mul_le_mul_right _ q6
          have hexp : (off + len + new.length) * i.size = (off + len) * i.size + news.length := by rw [hnl, Nat.add_mul]
          have hset : ∀ {l : List (List AV)} {p : Nat} {m : List (List AV)}, (∀ x ∈ l, x.length = i.size) → (∀ x ∈ m, x.length = i.size) → p + m.length ≤ l.length → (splice l p m).flatten = splice l.flatten (p * i.size) m.flatten := by
            intro l p m hl hm hle
            unfold splice
            rw [List.flatten_append, List.flatten_append, ← flatten_take hl, ← flatten_drop hl, flatten_length hm, ← Nat.add_mul]
          refine s_write (nx := .value (.slice B (len + new.length) kb)) (v := .slice B (len + new.length) kb) (p := (off + len) * i.size) (ys := news) (es' := splice ob.es (off + len) new) (av := .o i' i.size off (len + new.length)) h hd hob q7 (.inl rfl) ?_ g4
            (by rw [q2]; omega) (splice_length _ _ _ (by omega)) (fun x hx => ?_) (fun c' w' xs' hu hr => ?_) (fun ds ty hpos r1 r2 => ?_) (fun h0 => ?_)
          · simp only [VRel]
            exact ⟨hal, hz0, B, kb, rfl, hroom, k2, k3⟩
          · rw [q2]
            unfold splice at hx
            rcases List.mem_append.1 hx with hx | hx
            · rcases List.mem_append.1 hx with hx | hx
              · exact m2 x (List.mem_of_mem_take hx)
              · exact g2 x hx
            · exact m2 x (List.mem_of_mem_drop hx)
          · rw [hset m2 g2 (by omega)]
            exact splice_rels hr (VRels.up hu _ _ (VRelss.flatten.1 g3)) _
          · refine app_exec ho ?_
            rw [ex, ey]
            rcases Nat.eq_zero_or_pos kb with hk0 | hkp
            · have hn0 : new = [] := List.eq_nil_of_length_eq_zero (by omega)
              subst hn0
              have hns : news = [] := List.eq_nil_of_length_eq_zero (by simpa using hnl)
              subst hns
              have := hrun.1 (.inr rfl)
              simp only [List.append_nil, List.length_nil, Nat.add_zero, List.take_append_drop, Array.toArray_toList] at this ⊢
              rw [setRow_self w _ ds ty (0, 0) r1]
              exact this
            · have hcap2 : off * i.size + kb * i.size = (c.mu i').cap := by rw [← k2, Nat.add_mul]
              have := hrun.2 _ _ ds ty (k3 hkp) r1 (by
                have e1 : (off + len) * i.size = off * i.size + len * i.size := Nat.add_mul _ _ _
                omega)
              rw [show (c.mu i').off + off * i.size + len * i.size = (c.mu i').off + (off + len) * i.size by rw [Nat.add_mul]; omega] at this
              exact this
          · have hk0 : kb = 0 := by
              have : (off + kb) * i.size = 0 := by omega
              rcases Nat.mul_eq_zero.1 this with h' | h' <;> omega
            have hn0 : new = [] := List.eq_nil_of_length_eq_zero (by omega)
            subst hn0
            exact app_exec ho (by rw [ex, ey]; exact hrun.1 (.inr rfl))
      · cases hs
    · cases hs
  · cases hs

theorem splice_flat {z : Nat} {l : List (List AV)} {p : Nat} {m : List (List AV)} (hl : ∀ x ∈ l, x.length = z) (hm : ∀ x ∈ m, x.length = z) : (splice l p m).flatten = splice l.flatten (p * z) m.flatten := by
  unfold splice
  rw [List.flatten_append, List.flatten_append, ← flatten_take hl, ← flatten_drop hl, flatten_length hm, ← Nat.add_mul]
theorem splice_mem {α : Type} {l m : List α} {p : Nat} {x : α} (h : x ∈ splice l p m) : x ∈ l ∨ x ∈ m := by
  unfold splice at h
  rcases List.mem_append.1 h with h | h
  · rcases List.mem_append.1 h with h | h
    · exact .inl (List.mem_of_mem_take h)
    · exact .inr h
  · exact .inl (List.mem_of_mem_drop h)

/-- Elements of an owned slice are written anew. -/
theorem s_elems (h : StRel en c st a w) (hd : ∀ d, o.dst = some d → d < a.tmps.size) {i : Id} {z off len : Nat} {ob : Ob} {B : Option Addr} {kb : Nat} {new : List (List AV)} {news : List Value} {av : AV} {nx : Next} {v : Value}
    (hob : st.ob i = some ob) (hwr : ob.wr = true) (hz : ob.z = z) (hz0 : 0 < z) (hk1 : len ≤ kb) (hk2 : (off + kb) * z = (c.mu i).cap) (hk3 : 0 < kb → B = some ⟨(c.mu i).blk, (c.mu i).off + off * z, none⟩)
    (hle : off + len ≤ ob.es.length) (hnl : new.length ≤ len) (hnz : ∀ x ∈ new, x.length = z) (hr : VRelss c w new news) (h1 : One news) (hnx : nx = .value v ∨ (nx = .skip ∧ v = undef)) (hv : VRel c w av v)
    (hrun : ∀ (b p : Nat) (cs : Array Value) (ty : TypeId), 0 < len → B = some ⟨b, p, none⟩ → w.heap[b]? = some (.cells cs ty (0, 0)) → p + news.length ≤ cs.size →
      (execOp a.eval o).run P w = .ok nx (w.setRow b (cs.toList.take p ++ news ++ cs.toList.drop (p + news.length)).toArray))
    (hrun0 : len = 0 → (execOp a.eval o).run P w = .ok nx w) :
    Sound P en c st a w o (.up av i { ob with es := splice ob.es off new }) := by
  obtain ⟨_, m1, m2, m3, m4, xs, m5, m6, m7⟩ := h.objs i ob hob
  rw [hz] at m2 m3
  have hnlen := VRelss.length hr hnz
  have hle2 : (off + len) * z ≤ ob.es.length * z := Nat.mul_le_mul_right _ hle
  have hn2 : new.length * z ≤ len * z := Nat.mul_le_mul_right _ hnl
  have hexp : (off + len) * z = off * z + len * z := Nat.add_mul _ _ _
  refine s_write (p := off * z) (ys := news) (es' := splice ob.es off new) h hd hob hwr hnx hv h1 (by rw [hz]; omega) (splice_length _ _ _ (by omega)) (fun x hx => ?_) (fun c' w' xs' hu hr' => ?_) (fun ds ty hpos r1 r2 => ?_) (fun h0 => ?_)
  · rw [hz]
    rcases splice_mem hx with hx | hx
    · exact m2 x hx
    · exact hnz x hx
  · rw [splice_flat m2 hnz]
    exact splice_rels hr' (VRels.up hu _ _ (VRelss.flatten.1 hr)) _
  · rcases Nat.eq_zero_or_pos len with hl0 | hlp
    · have hn0 : new = [] := List.eq_nil_of_length_eq_zero (by omega)
      have hns : news = [] := List.eq_nil_of_length_eq_zero (by rw [hnlen, hn0]; simp)
      subst hns
      simp only [List.append_nil, List.length_nil, Nat.add_zero, List.take_append_drop, Array.toArray_toList]
      rw [setRow_self w _ ds ty (0, 0) r1]
      exact hrun0 hl0
    · exact hrun _ _ ds ty hlp (hk3 (by omega)) r1 (by
        have : off * z + kb * z = (c.mu i).cap := by rw [← hk2, Nat.add_mul]
        have : len * z ≤ kb * z := Nat.mul_le_mul_right _ hk1
        omega)
  · have : (off + kb) * z = 0 := by omega
    rcases Nat.mul_eq_zero.1 this with h' | h'
    · exact hrun0 (by omega)
    · omega

def stB : Option Addr → List Value → Sem Unit
  | some a, vs => storeCells a vs
  | none, _ => Pure.pure ()

theorem s_copy (h : StRel en c st a w) (hd : ∀ d, o.dst = some d → d < a.tmps.size) {t u e : TypeId} {x y : Operand} {z : Nat} (ho : o.op = .call { callee := .builtin .copy, args := #[x, y], argTypes := #[t, u] })
    (ht : P.underlying t = some (.slice e)) (hz : szOf P e = some z) (hz0 : 0 < z)
    (hs : stepA st.get st.ob n site (.copy z (cS x) (cS y)) = some r) : Sound P en c st a w o r := by
  have hx := cS_rel h x
  have hy := cS_rel h y
  simp only [stepA] at hs
  split at hs
  · rename_i new i z' off len hnew hev
    rw [hev] at hx
    obtain ⟨A, k, news, ey, g1, g2, g3, g4, g5⟩ := elemsA_rel h hnew hz0 hy
    split at hs
    · rename_i ob hob
      replace hs := ite_opt hs
      obtain ⟨⟨q1, q2, q3, q4⟩, hs⟩ := hs
      simp only [Option.some.injEq] at hs
      subst hs
      subst q1
      simp only [VRel] at hx
      obtain ⟨hal, _, B, kb, ex, k1, k2, k3⟩ := hx
      have hnl := VRelss.length g3 g2
      -- the elements that are copied
      have hread : ∀ (j : Nat) (v : Value), (news.take (min new.length len * z'))[j]? = some v → ∃ ad, A = some ad ∧ w.cell? (ad.add j) = some v := fun j v hj => by
        have : j < min new.length len * z' := by
          rcases Nat.lt_or_ge j (min new.length len * z') with h' | h'
          · exact h'
          · rw [List.getElem?_take, if_neg (by omega)] at hj; cases hj
        rw [List.getElem?_take, if_pos this] at hj
        exact g5 j v hj
      have hmin : min new.length len * z' ≤ new.length * z' := Nat.mul_le_mul_right _ (Nat.min_le_left _ _)
      have hfc : (Builtin.firstCells z' (min new.length len) (.slice A new.length k)).run P w = .ok (news.take (min new.length len * z')).toArray w :=
        fc_run (by rw [List.length_take]; omega) hread
      have htk : new.take len = new.take (min new.length len) := by
        rcases Nat.le_total new.length len with h' | h'
        · rw [Nat.min_eq_left h', List.take_of_length_le h', List.take_of_length_le (Nat.le_refl _)]
        · rw [Nat.min_eq_right h']
      have hone : One (news.take (min new.length len * z')) := fun v hv => g4 v (List.mem_of_mem_take hv)
      have hrel : VRelss c w (new.take len) (news.take (min new.length len * z')) := by
        rw [htk]
        have := VRels.take (VRelss.flatten.1 g3) (min new.length len * z')
        rw [flatten_take g2] at this
        exact VRelss.flatten.2 this
      have exec : ∀ {w' : World}, (stB B (news.take (min new.length len * z'))).run P w = .ok () w' →
          (execOp a.eval o).run P w = .ok (.value (.int .i64 (min new.length len : Nat))) w' := by
        intro w' hw
        simp only [execOp, ho, resolve, invoke, builtin, Sem.run_bind, Sem.run_pure, Result.andThen_ok, List.map_toArray, List.map_cons, List.map_nil, ex, ey]
        have : (Builtin.copy_ #[t, u] o.type #[.slice B len kb, .slice A new.length k]).run P w = .ok (.int .i64 (min new.length len : Nat)) w' := by
          simp only [Builtin.copy_, List.getElem?_toArray, List.getElem?_cons_zero, List.getElem?_cons_succ, Sem.run_bind, run_underlying ht, Result.andThen_ok, Builtin.lenOf, Sem.run_pure, szOf_run hz]
          have hfc' : (Builtin.firstCells z' (Nat.min new.length len) (.slice A new.length k)).run P w = .ok (news.take (min new.length len * z')).toArray w := hfc
          simp only [hfc', Result.andThen_ok]
          cases B with
          | none => simp [stB] at hw; subst hw; simp [goInt]
          | some b => simp only [stB] at hw; simp only [Sem.run_bind, hw, Result.andThen_ok, Sem.run_pure]; rfl
        rw [this]
        rfl
      refine s_elems h hd hob q4 q2 hz0 k1 k2 k3 q3 (by simp; omega) (fun x hx => g2 x (List.mem_of_mem_take hx)) hrel hone (.inl rfl) (rel_s.2 rfl) (fun b p cs ty hlp hB hb hfit => ?_) (fun hl0 => ?_)
      · refine exec ?_
        rw [hB]
        exact run_storeCells b p cs ty _ hb hfit hone
      · refine exec ?_
        have : news.take (min new.length len * z') = [] := by rw [hl0]; simp
        rw [this]
        cases B <;> simp [stB, storeCells]
    · cases hs
  · cases hs

theorem s_clear (h : StRel en c st a w) (hd : ∀ d, o.dst = some d → d < a.tmps.size) {t e : TypeId} {x : Operand} {z : Nat} {zero : List AV} (ho : o.op = .call { callee := .builtin .clear, args := #[x], argTypes := #[t] })
    (ht : P.underlying t = some (.slice e)) (hz : szOf P e = some z) (hz0 : 0 < z) (hzero : zeroT P e = some zero)
    (hs : stepA st.get st.ob n site (.clear z zero (cS x)) = some r) : Sound P en c st a w o r := by
  have hx := cS_rel h x
  simp only [stepA] at hs
  split at hs
  · rename_i i z' off len hev
    rw [hev] at hx
    split at hs
    · rename_i ob hob
      replace hs := ite_opt hs
      obtain ⟨⟨q1, q2, q3, q4, q5, q6⟩, hs⟩ := hs
      simp only [Option.some.injEq] at hs
      subst hs
      subst q1
      simp only [VRel] at hx
      obtain ⟨hal, _, B, kb, ex, k1, k2, k3⟩ := hx
      obtain ⟨zv, hz1, hz2, hz3, _⟩ := zeroT_run hzero w
      have hzs : zv.cells.size = z' := by have := VRels.length (hz2 c w); simp at this; omega
      have hcells : ∀ m, (Builtin.zeroCells zv.cells m).toList = (List.replicate m zv.cells.toList).flatten := fun m => by
        have := range_rep zv.cells hzs hz0 m
        unfold Builtin.zeroCells
        rw [hzs] at *
        exact this
      have hval : VRel c w (.t []) (.tuple #[]) := by simp [VRel, VRels]
      refine s_elems h hd hob q4 q2 hz0 k1 k2 k3 q3 (by simp) (fun x hx => by rw [List.eq_of_mem_replicate hx, q5]) (VRelss.flatten.2 (rep_rels (hz2 c w) len)) (rep_one hz3 len) (nx := .value (.tuple #[])) (v := .tuple #[]) (.inl rfl) hval (fun b p cs ty hlp hB hb hfit => ?_) (fun hl0 => ?_)
      · have hst := run_storeCells (P := P) b p cs ty _ hb hfit (rep_one hz3 len)
        have hne : len ≠ 0 := by omega
        simp only [execOp, ho, resolve, invoke, builtin, Sem.run_bind, Sem.run_pure, Result.andThen_ok, List.map_toArray, List.map_cons, List.map_nil, ex, hB]
        have : (Builtin.clear_ #[t] o.type #[.slice (some ⟨b, p, none⟩) len kb]).run P w = .ok (.tuple #[]) (w.setRow b (cs.toList.take p ++ (List.replicate len zv.cells.toList).flatten ++ cs.toList.drop (p + (List.replicate len zv.cells.toList).flatten.length)).toArray) := by
          obtain ⟨m, rfl⟩ : ∃ m, len = m + 1 := ⟨len - 1, by omega⟩
          simp only [Builtin.clear_, List.getElem?_toArray, List.getElem?_cons_zero, Sem.run_bind, run_underlying ht, Result.andThen_ok, hz1, hcells, hst, Sem.run_pure]
        rw [this]
        rfl
      · subst hl0
        simp only [execOp, ho, resolve, invoke, builtin, Sem.run_bind, Sem.run_pure, Result.andThen_ok, List.map_toArray, List.map_cons, List.map_nil, ex]
        have : (Builtin.clear_ #[t] o.type #[.slice B 0 kb]).run P w = .ok (.tuple #[]) w := by
          cases B <;> simp [Builtin.clear_, run_underlying ht]
        rw [this]
        rfl
    · cases hs
  · cases hs
end
end Go.Den
