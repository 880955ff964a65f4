/-
  Den, part I: aggregates and slices that are built, slices that are made, equality of aggregates.
-/
import Derived.Test.YtcmgfnhlnefchaaDenH
import Derived.IntWalk
namespace Go.Den
set_option linter.unusedVariables false
set_option linter.unusedSimpArgs false

section
variable {P : Program} {en : Env} {c : Cx} {st : St} {a : Act} {w : World} {o : Oper} {r : Res} {n site : Nat}

/-- The machine's way of laying cells in their places. -/
theorem fold_splice : ∀ (vs : List Value) (cells : Array Value) (off j : Nat), off + j + vs.length ≤ cells.size →
    ((vs.zipIdx j).foldl (fun cs (c, j) => cs.setIfInBounds (off + j) c) cells).toList = splice cells.toList (off + j) vs
  | [], cells, off, j, _ => by simp [splice]
  | v :: vs, cells, off, j, h => by
    simp only [List.length_cons] at h
    rw [List.zipIdx_cons, List.foldl_cons, fold_splice vs _ off (j + 1) (by simp; omega)]
    apply List.ext_getElem?
    intro k
    rw [splice_get _ _ _ (by simp; omega), splice_get _ _ _ (by simp; omega)]
    simp only [Array.toList_setIfInBounds, List.getElem?_set, Array.length_toList, List.length_cons]
    by_cases h1 : k < off + j
    · rw [if_pos (by omega), if_neg (by omega), if_pos h1]
    · by_cases h2 : k = off + j
      · subst h2
        rw [if_pos (by omega), if_pos rfl, if_pos (by omega), if_neg (by omega), if_pos (by omega)]
        simp
      · by_cases h3 : k < off + j + (vs.length + 1)
        · rw [if_neg (by omega), if_pos (by omega), if_neg (by omega), if_pos h3]
          rw [show k - (off + j) = (k - (off + (j + 1))) + 1 by omega, List.getElem?_cons_succ]
        · rw [if_neg (by omega), if_neg (by omega), if_neg (by omega), if_neg (by omega), if_neg (by omega)]

theorem fill_run {place : Nat → Option (Nat × Nat)} : ∀ (ps : List (Nat × Value)) (qs : List (Nat × Nat × List AV)) (cells : Array Value) (cs out : List AV),
    VRels c w cs cells.toList → One cells.toList → ps.length = qs.length → (∀ (i : Nat) (p : Nat × Value) (q : Nat × Nat × List AV), ps[i]? = some p → qs[i]? = some q → place p.1 = some (q.1, q.2.1) ∧ VRels c w q.2.2 p.2.cells.toList ∧ One p.2.cells.toList) →
    fillA cs qs = some out → ∃ res, Instr.fill place cells ps = some res ∧ VRels c w out res.toList ∧ One res.toList ∧ res.size = cells.size
  | [], qs, cells, cs, out, h1, h0, hl, _, hf => by
    cases qs with
    | nil => simp only [fillA, Option.some.injEq] at hf; subst hf; exact ⟨cells, rfl, h1, h0, rfl⟩
    | cons q qs => simp at hl
  | p :: ps, qs, cells, cs, out, h1, h0, hl, hp, hf => by
    cases qs with
    | nil => simp at hl
    | cons q qs =>
      obtain ⟨off, m, new⟩ := q
      simp only [fillA] at hf
      replace hf := bif_opt hf
      obtain ⟨hb, hf⟩ := hf
      simp only [Bool.and_eq_true] at hb
      have hm := Nat.eq_of_beq_eq_true hb.1
      have hle := Nat.le_of_ble_eq_true hb.2
      obtain ⟨g1, g2, g3⟩ := hp 0 p (off, m, new) (by simp) (by simp)
      simp only at g1 g2 g3
      have hlen := VRels.length g2
      have hcl := VRels.length h1
      have hsz : p.2.cells.size = m := by simp at hlen; omega
      have hsp : (p.2.cells.zipIdx.foldl (fun cs (c, j) => cs.setIfInBounds (off + j) c) cells).toList = splice cells.toList off p.2.cells.toList := by
        have := fold_splice p.2.cells.toList cells off 0 (by simp at hcl ⊢; omega)
        simp only [Nat.add_zero] at this
        rw [← this]
        rw [← Array.foldl_toList]
        simp
      have hsize : (p.2.cells.zipIdx.foldl (fun cs (c, j) => cs.setIfInBounds (off + j) c) cells).size = cells.size := by
        rw [← Array.length_toList, hsp, splice_length _ _ _ (by simp at hcl ⊢; omega), Array.length_toList]
      obtain ⟨res, e1, e2, e3, e4⟩ := fill_run (place := place) ps qs (p.2.cells.zipIdx.foldl (fun cs (c, j) => cs.setIfInBounds (off + j) c) cells) (splice cs off new) out
        (by rw [hsp]; exact splice_rels h1 g2 off) (by rw [hsp]; exact splice_one h0 g3 off) (by simpa using hl) (fun i p' q' hp' hq' => hp (i + 1) p' q' (by simpa using hp') (by simpa using hq')) hf
      refine ⟨res, ?_, e2, e3, by rw [e4, hsize]⟩
      have hc : ¬ (p.2.cells.size ≠ m || off + p.2.cells.size > cells.size) = true := by
        simp at hcl
        simp; omega
      obtain ⟨i, v⟩ := p
      simp only at g1 hc e1 ⊢
      simp only [Instr.fill, g1]
      rw [if_neg hc]
      exact e1

/-- What stands in the places of an aggregate. -/
structure Parts (P : Program) (c : Cx) (st : St) (a : Act) (w : World) (place : Nat → Option (Nat × Nat)) (parts : List (Nat × Operand)) (ps : List (Nat × Nat × Opd)) : Prop where
  len : parts.length = ps.length
  each : ∀ (i : Nat) (p : Nat × Operand) (q : Nat × Nat × Opd), parts[i]? = some p → ps[i]? = some q → place p.1 = some (q.1, q.2.1) ∧ VRel c w (ev st.get q.2.2) (a.eval p.2)

theorem mapM_get {α β : Type} (f : α → Option β) : ∀ {l : List α} {r : List β}, l.mapM f = some r → r.length = l.length ∧ ∀ (i : Nat) (x : α) (y : β), l[i]? = some x → r[i]? = some y → f x = some y
  | [], r, h => by simp at h; subst h; simp
  | x :: l, r, h => by
    rw [List.mapM_cons] at h
    cases hx : f x with
    | none => rw [hx] at h; cases h
    | some y =>
      rw [hx] at h
      cases hl : l.mapM f with
      | none => simp [hl] at h
      | some ys =>
        simp [hl] at h
        subst h
        obtain ⟨h1, h2⟩ := mapM_get f hl
        refine ⟨by simp [h1], fun i u v hu hv => ?_⟩
        cases i with
        | zero => simp at hu hv; rw [← hu, ← hv]; exact hx
        | succ i => exact h2 i u v (by simpa using hu) (by simpa using hv)

theorem parts_fill {place : Nat → Option (Nat × Nat)} {parts : List (Nat × Operand)} {ps : List (Nat × Nat × Opd)} (hp : Parts P c st a w place parts ps) {qs : List (Nat × Nat × List AV)}
    (hq : ps.mapM (fun x => (cellsA (ev st.get x.2.2)).map fun cs => (x.1, x.2.1, cs)) = some qs) :
    (parts.map fun x => (x.1, a.eval x.2)).length = qs.length ∧ ∀ (i : Nat) (p : Nat × Value) (q : Nat × Nat × List AV), (parts.map fun x => (x.1, a.eval x.2))[i]? = some p → qs[i]? = some q →
      place p.1 = some (q.1, q.2.1) ∧ VRels c w q.2.2 p.2.cells.toList ∧ One p.2.cells.toList := by
  obtain ⟨h1, h2⟩ := mapM_get _ hq
  refine ⟨by simp [h1, hp.len], fun i p q hpi hqi => ?_⟩
  rw [List.getElem?_map] at hpi
  simp only [Option.map_eq_some_iff] at hpi
  obtain ⟨x, hx, rfl⟩ := hpi
  have hi : i < ps.length := by
    have : i < parts.length := by
      rcases Nat.lt_or_ge i parts.length with h' | h'
      · exact h'
      · rw [List.getElem?_eq_none h'] at hx; cases hx
    rw [← hp.len]; exact this
  obtain ⟨g1, g2⟩ := hp.each i x _ hx (List.getElem?_eq_getElem hi)
  have := h2 i _ q (List.getElem?_eq_getElem hi) hqi
  simp only [Option.map_eq_some_iff] at this
  obtain ⟨cs, hcs, rfl⟩ := this
  obtain ⟨k1, k2, _⟩ := cellsA_rel hcs g2
  exact ⟨g1, k1, k2⟩

theorem s_build (h : StRel en c st a w) (hd : ∀ d, o.dst = some d → d < a.tmps.size) {t : TypeId} {parts : Array (Nat × Operand)} {zero : List AV} {ps : List (Nat × Nat × Opd)} {place : Nat → Option (Nat × Nat)} (ho : o.op = .build t parts) (hz : zeroT P t = some zero)
    (hrun : ∀ (z : Value) (cells : Array Value) (vs : List (Nat × Value)), (zeroValue t).run P w = .ok z w → Instr.fill place z.cells vs = some cells → (Instr.build t vs.toArray).run P w = .ok (.agg cells) w)
    (hp : Parts P c st a w place parts.toList ps) (hs : stepA st.get st.ob n site (.build zero ps) = some r) : Sound P en c st a w o r := by
  simp only [stepA] at hs
  split at hs
  · rename_i qs hq
    simp only [Option.map_eq_some_iff] at hs
    obtain ⟨cs, hcs, rfl⟩ := hs
    obtain ⟨h1, h2⟩ := parts_fill hp hq
    obtain ⟨z, hz1, hz2, hz3, _⟩ := zeroT_run hz w
    obtain ⟨res, e1, e2, e3, _⟩ := fill_run (place := place) _ qs z.cells zero cs (hz2 c w) hz3 h1 h2 hcs
    refine sound_val h (v := .agg res) ?_ (by simp only [VRel]; exact ⟨_, rfl, e2⟩) hd
    simp only [execOp, ho]
    refine run_v ?_
    have := hrun z res _ hz1 e1
    rwa [show (parts.map fun (i, x) => (i, a.eval x)) = (parts.toList.map fun x => (x.1, a.eval x.2)).toArray from Array.ext' (by simp)]
  · cases hs

/-- Elements: the same, with each part an element. -/
theorem fillE_A {z : Nat} : ∀ (ps : List (Nat × List AV)) (es out : List (List AV)), (∀ e ∈ es, e.length = z) → fillE z es ps = some out →
    fillA es.flatten (ps.map fun p => (p.1 * z, z, p.2)) = some out.flatten ∧ (∀ e ∈ out, e.length = z) ∧ out.length = es.length
  | [], es, out, he, h => by simp only [fillE, Option.some.injEq] at h; subst h; exact ⟨by simp [fillA], he, rfl⟩
  | (i, new) :: ps, es, out, he, h => by
    simp only [fillE] at h
    replace h := bif_opt h
    obtain ⟨hb, h⟩ := h
    simp only [Bool.and_eq_true] at hb
    have hn := Nat.eq_of_beq_eq_true hb.1
    have hi : i < es.length := Nat.le_of_ble_eq_true hb.2
    have he' : ∀ e ∈ es.set i new, e.length = z := fun e hm => by
      rcases List.mem_or_eq_of_mem_set hm with h1 | h1
      · exact he e h1
      · rw [h1, hn]
    obtain ⟨g1, g2, g3⟩ := fillE_A ps (es.set i new) out he' h
    refine ⟨?_, g2, by simpa using g3⟩
    simp only [List.map_cons, fillA]
    have hle : i * z + z ≤ es.flatten.length := by
      rw [flatten_length he]
      have := Nat.mul_le_mul_right z hi
      rw [Nat.succ_mul] at this; exact this
    have hfs : (es.set i new).flatten = splice es.flatten (i * z) new := by
      have e1 : new = splice (es[i]) 0 new := by
        have : es[i].length = z := he _ (List.getElem_mem hi)
        simp only [splice, List.take_zero, List.nil_append, Nat.zero_add]
        rw [List.drop_eq_nil_of_le (by omega), List.append_nil]
      have := flatten_set he (List.getElem?_eq_getElem hi) 0 new (by omega)
      rw [← e1] at this
      simpa using this
    rw [← hfs, g1]
    rw [show Nat.beq new.length z = true from hb.1, show Nat.ble (i * z + z) es.flatten.length = true from Nat.ble_eq_true_of_le hle]
    rfl

/-- A new row in a block of its own. -/
theorem s_row (h : StRel en c st a w) (hd : ∀ d, o.dst = some d → d < a.tmps.size) {z : Nat} {es : List (List AV)} {cells : Array Value} {e : TypeId} (hz : 0 < z) (he : ∀ x ∈ es, x.length = z) (hr : VRels c w es.flatten cells.toList) (h1 : One cells.toList)
    (hrun : (execOp a.eval o).run P w = .ok (.value (.slice (some ⟨w.heap.size, 0, none⟩) es.length es.length)) { w with heap := w.heap.push (.cells cells e) }) :
    Sound P en c st a w o (.nw (.o (.l (o.dst.getD 0) (st.ct (o.dst.getD 0))) z 0 es.length) (st.ct (o.dst.getD 0)) ⟨z, es, true, some es.length⟩) := by
  have hl : cells.size = es.length * z := by
    have := VRels.length hr
    rw [flatten_length he] at this
    simpa using this
  obtain ⟨c', hu, hst⟩ := StRel.new h (dst := o.dst) (n := 0) (o := ⟨z, es, true, some es.length⟩) (av := .o (.l (o.dst.getD 0) (st.ct (o.dst.getD 0))) z 0 es.length)
    (v := .slice (some ⟨w.heap.size, 0, none⟩) es.length es.length) (cs := cells) (e := e) (cap := es.length * z) hd (.inr trivial) rfl hz he (by simp) (xs := cells.toList)
    (VRelss.flatten.2 hr) h1 (Nat.le_refl _) (by omega) (by simp) (fun i u _ hu => h1 u (by simpa using Array.mem_of_getElem? hu))
    (by intro c' w' ha hm; simp only [VRel]; rw [hm]; exact ⟨ha, hz, _, es.length, rfl, Nat.le_refl _, by simp, by simp⟩)
  exact ⟨_, _, _, c', hrun, .inl rfl, hu, hst⟩

theorem flatten_at {α : Type} {z : Nat} : ∀ (l : List (List α)) (q : Nat) (x : List α), (∀ y ∈ l, y.length = z) → l[q]? = some x → ∀ j, j < z → l.flatten[q * z + j]? = x[j]?
  | [], q, x, _, h, _, _ => by simp at h
  | y :: l, 0, x, hy, hq, j, hj => by
    have hyl := hy y List.mem_cons_self
    simp at hq; subst hq
    rw [List.flatten_cons, Nat.zero_mul, Nat.zero_add, List.getElem?_append_left (by omega)]
  | y :: l, q + 1, x, hy, hq, j, hj => by
    have hyl := hy y List.mem_cons_self
    have := flatten_at l q x (fun u hu => hy u (List.mem_cons_of_mem _ hu)) (by simpa using hq) j hj
    rw [List.flatten_cons, Nat.succ_mul, List.getElem?_append_right (by omega), show q * z + z + j - y.length = q * z + j by omega]
    exact this

theorem range_rep (zc : Array Value) {z : Nat} (hzs : zc.size = z) (hz0 : 0 < z) (m : Nat) : ((Array.range (m * z)).map (fun i => zc[i % zc.size]!)).toList = (List.replicate m zc.toList).flatten := by
  apply List.ext_getElem?
  intro k
  have hfl : ∀ x ∈ List.replicate m zc.toList, x.length = z := fun x hx => by rw [List.eq_of_mem_replicate hx]; simpa using hzs
  by_cases hk : k < m * z
  · have hdiv : k / z < m := by rw [Nat.div_lt_iff_lt_mul hz0]; exact hk
    have hmod : k % z < z := Nat.mod_lt _ hz0
    have e1 : ((Array.range (m * z)).map (fun i => zc[i % zc.size]!)).toList[k]? = some (zc[k % z]'(by omega)) := by
      simp only [Array.toList_map, List.getElem?_map, Array.toList_range, List.getElem?_range hk, Option.map_some, hzs, Option.some.injEq]
      exact getElem!_pos zc (k % z) (by omega)
    rw [e1]
    have h3 := flatten_at (List.replicate m zc.toList) (k / z) zc.toList hfl (by simp [hdiv]) (k % z) hmod
    rw [show k / z * z + k % z = k by rw [Nat.mul_comm]; exact Nat.div_add_mod k z] at h3
    rw [h3]
    simp [hzs, hmod]
  · have hl : (List.replicate m zc.toList).flatten.length = m * z := by simp [hzs]
    rw [List.getElem?_eq_none (by simp; omega), List.getElem?_eq_none (by omega)]

theorem rep_rels {zero : List AV} {zc : List Value} (h : VRels c w zero zc) : ∀ m, VRels c w (List.replicate m zero).flatten (List.replicate m zc).flatten
  | 0 => by simp [VRels]
  | m + 1 => by simp only [List.replicate_succ, List.flatten_cons]; exact VRels.append h (rep_rels h m)
theorem rep_one {zc : List Value} (h : One zc) (m : Nat) : One (List.replicate m zc).flatten := by
  intro v hv
  obtain ⟨l, hl1, hl2⟩ := List.mem_flatten.1 hv
  rw [List.eq_of_mem_replicate hl1] at hl2
  exact h v hl2

theorem s_bslice (h : StRel en c st a w) (hd : ∀ d, o.dst = some d → d < a.tmps.size) {t e : TypeId} {len z : Nat} {parts : Array (Nat × Operand)} {zero : List AV} {ps : List (Nat × Opd)} (ho : o.op = .buildSlice t len parts) (ht : P.underlying t = some (.slice e)) (hz : szOf P e = some z) (hz0 : 0 < z) (hsmall : len * z ≤ 2 ^ 24) (hzero : zeroT P e = some zero) (hzl : zero.length = z)
    (hp : Parts P c st a w (fun i => some (i * z, z)) parts.toList (ps.map fun x => (x.1 * z, z, x.2)))
    (hs : stepA st.get st.ob (st.ct (o.dst.getD 0)) (o.dst.getD 0) (.bslice z (List.replicate len zero) ps) = some r) : Sound P en c st a w o r := by
  simp only [stepA] at hs
  split at hs
  · rename_i qs hq
    simp only [Option.map_eq_some_iff] at hs
    obtain ⟨es, hes, rfl⟩ := hs
    have hrep : ∀ x ∈ List.replicate len zero, x.length = z := fun x hx => by rw [List.eq_of_mem_replicate hx, hzl]
    obtain ⟨g1, g2, g3⟩ := fillE_A qs _ es hrep hes
    have hq' : (ps.map fun x => (x.1 * z, z, x.2)).mapM (fun x => (cellsA (ev st.get x.2.2)).map fun cs => (x.1, x.2.1, cs)) = some (qs.map fun p => (p.1 * z, z, p.2)) := by
      clear hp hes g1 ho
      induction ps generalizing qs with
      | nil => simp at hq; subst hq; simp
      | cons p ps ih =>
        rw [List.mapM_cons] at hq
        cases hx : cellsA (ev st.get p.2) with
        | none => simp [hx] at hq
        | some cs =>
          cases hl : ps.mapM (fun x => (cellsA (ev st.get x.2)).map fun cs => (x.1, cs)) with
          | none => simp [hx, hl] at hq
          | some ys =>
            simp [hx, hl] at hq
            subst hq
            rw [List.map_cons, List.mapM_cons, ih ys hl]
            simp [hx]
    obtain ⟨h1, h2⟩ := parts_fill hp hq'
    obtain ⟨zv, hz1, hz2, hz3, _⟩ := zeroT_run hzero w
    have hzs : zv.cells.size = z := by have := VRels.length (hz2 c w); simp at this; omega
    have hsm : ¬ (len * z > 2 ^ 24) := by omega
    have hmap : (parts.map fun (i, x) => (i, a.eval x)).toList = parts.toList.map fun x => (x.1, a.eval x.2) := by simp
    have hlen : es.length = len := by simpa using g3
    have main : ∀ (zz : Array Value), (0 < len → zz = zv.cells) → ((Instr.buildSlice t len (parts.map fun (i, x) => (i, a.eval x))).run P w =
          match Instr.fill (fun i => some (i * z, z)) ((Array.range (len * z)).map (fun i => zz[i % zz.size]!)) (parts.toList.map fun x => (x.1, a.eval x.2)) with
          | some cells => .ok (.slice (some ⟨w.heap.size, 0, none⟩) len len) { w with heap := w.heap.push (.cells cells e) }
          | none => (stuck "buildSlice: a part of the wrong size" : Sem Value).run P w) →
        Sound P en c st a w o (.nw (.o (.l (o.dst.getD 0) (st.ct (o.dst.getD 0))) z 0 es.length) (st.ct (o.dst.getD 0)) ⟨z, es, true, some es.length⟩) := by
      intro zz hzz hrun
      have hstart : ((Array.range (len * z)).map (fun i => zz[i % zz.size]!)).toList = (List.replicate len zv.cells.toList).flatten := by
        rcases Nat.eq_zero_or_pos len with h0 | hpos
        · subst h0; simp
        · rw [hzz hpos]; exact range_rep zv.cells hzs hz0 len
      obtain ⟨res, e1, e2, e3, _⟩ := fill_run (place := fun i => some (i * z, z)) _ _ ((Array.range (len * z)).map (fun i => zz[i % zz.size]!)) (List.replicate len zero).flatten es.flatten
        (by rw [hstart]; exact rep_rels (hz2 c w) len) (by rw [hstart]; exact rep_one hz3 len) h1 h2 g1
      refine s_row h hd (cells := res) (e := e) hz0 g2 e2 e3 ?_
      simp only [execOp, ho]
      refine run_v ?_
      rw [hrun, e1, hlen]
    rcases Nat.eq_zero_or_pos len with h0 | hpos
    · have h00 : len * z = 0 := by rw [h0]; simp
      refine main #[] (fun hh => by omega) ?_
      simp only [Instr.buildSlice, Sem.run_bind, run_underlying ht, Result.andThen_ok, szOf_run hz, hsm, if_false, if_pos h00, Sem.run_pure, hmap, newRow]
      generalize Instr.fill (fun i => some (i * z, z)) ((Array.range (len * z)).map (fun i => (#[] : Array Value)[i % (#[] : Array Value).size]!)) (parts.toList.map fun x => (x.1, a.eval x.2)) = F
      cases F <;> simp
    · refine main zv.cells (fun _ => rfl) ?_
      have hne : ¬ (len * z = 0) := by
        intro h0
        rcases Nat.mul_eq_zero.1 h0 with h' | h' <;> omega
      simp only [Instr.buildSlice, Sem.run_bind, run_underlying ht, Result.andThen_ok, szOf_run hz, hsm, if_false, if_neg hne, Sem.run_pure, hmap, newRow, hz1]
      generalize Instr.fill (fun i => some (i * z, z)) ((Array.range (len * z)).map (fun i => zv.cells[i % zv.cells.size]!)) (parts.toList.map fun x => (x.1, a.eval x.2)) = F
      cases F <;> simp
  · cases hs

theorem s_mks (h : StRel en c st a w) (hd : ∀ d, o.dst = some d → d < a.tmps.size) {t e : TypeId} {l k : Operand} {z bytes : Nat} {zero : List AV} {inf : TypeInfo} (ho : o.op = .makeSlice t l k) (ht : P.underlying t = some (.slice e)) (hi : P.info? e = some inf) (hz : inf.size = z) (hb : inf.bytes = bytes) (hzero : zeroT P e = some zero)
    (hs : stepA st.get st.ob (st.ct (o.dst.getD 0)) (o.dst.getD 0) (.mks z bytes zero (cS l) (cS k)) = some r) : Sound P en c st a w o r := by
  simp only [stepA] at hs
  split at hs
  · rename_i p q hp hq
    replace hs := ite_opt hs
    obtain ⟨⟨hpq, h0, hbytes, hsm, hzl, hz0, hone⟩, hs⟩ := hs
    simp only [Option.some.injEq] at hs
    subst hs
    subst hpq
    obtain ⟨k1, e1⟩ := intA_rel hp (cS_rel h l)
    obtain ⟨k2, e2⟩ := intA_rel hq (cS_rel h k)
    obtain ⟨zv, hz1, hz2, hz3, _⟩ := zeroT_run hzero w
    have hzs : zv.cells.size = z := by have := VRels.length (hz2 c w); simp at this; omega
    obtain ⟨m, rfl⟩ := Int.eq_ofNat_of_zero_le h0
    have hrep : ∀ x ∈ List.replicate m zero, x.length = z := fun x hx => by rw [List.eq_of_mem_replicate hx, hzl]
    have hszo : szOf P e = some z := by simp [szOf, hi, hz]
    have hwrap : IntKind.i64.wrap (m : Int) = m := IntWalk.i64_in _ (by omega)
    have key : (Instr.makeSlice t (.int k1 m) (.int k2 m)).run P w = .ok (.slice (some ⟨w.heap.size, 0, none⟩) m m) { w with heap := w.heap.push (.cells (List.replicate m zv.cells.toList).flatten.toArray e) } := by
      have n1 : ¬ ((m : Int) < 0) := by omega
      have n2 : ¬ ((bytes : Int) * m > 281474976710656) := by rw [Int.mul_comm]; omega
      have hty : (typeInfo e).run P w = .ok inf w := by simp [typeInfo, hi]
      have hcond : (((decide ((m : Int) < 0) || decide ((bytes : Int) * m > 2 ^ 48)) || decide ((m : Int) < 0)) || decide ((m : Int) > m)) = false := by
        simp; omega
      have n3 : ¬ ((m : Int) > m) := by omega
      have n4 : ((m : Int)).toNat = m := by simp
      simp only [Instr.makeSlice, run_underlying ht, asInt, asIntOf, Sem.run_bind, Sem.run_pure, Result.andThen_ok, hty, hb, hwrap]
      rw [if_neg (by simp; omega)]
      simp only [Sem.run_bind, run_askRoom, Result.andThen_ok, szOf_run hszo, n4]
      rcases Nat.eq_zero_or_pos m with hm0 | hmpos
      · subst hm0
        simp [newRow]
        congr 2
        exact Array.ext' (by simp)
      · have hmz : ¬ (m * z = 0) := by
          intro h0'
          rcases Nat.mul_eq_zero.1 h0' with h' | h' <;> omega
        have hcells : (Array.range (m * z)).map (fun i => zv.cells[i % zv.cells.size]!) = (List.replicate m zv.cells.toList).flatten.toArray := by
          apply Array.ext'
          rw [range_rep zv.cells hzs hz0 m]
        rw [if_neg hmz]
        simp only [Sem.run_bind, hz1, Result.andThen_ok, Sem.run_pure, newRow, run_newObj]
        have := hcells
        simp only [this]
    have := s_row (P := P) (o := o) h hd (z := z) (es := List.replicate m zero) (cells := (List.replicate m zv.cells.toList).flatten.toArray) (e := e) hz0 hrep (by simpa using rep_rels (hz2 c w) m) (by simpa using rep_one hz3 m)
      (by simp only [execOp, ho, e1, e2]; simpa using run_v key)
    simpa using this
  · cases hs
end
end Go.Den
