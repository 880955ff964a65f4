/-
  Den, part F: the operations that only compute, and those that read, lay or write memory of the call's own.
-/
import Derived.Test.YtcmgfnhlnefchaaDenE
namespace Go.Den
set_option linter.unusedVariables false
set_option linter.unusedSimpArgs false

section
variable {P : Program} {en : Env} {c : Cx} {st : St} {a : Act} {w : World} {o : Oper} {r : Res} {n site : Nat}

theorem addz (b o j : Nat) : (⟨b, o, none⟩ : Addr).add j = ⟨b, o + j, none⟩ := by unfold Addr.add; split <;> simp_all

theorem run_v {s : Sem Value} {x : Value} {w' : World} (h : s.run P w = .ok x w') : (do pure (Next.value (← s)) : Sem Next).run P w = .ok (.value x) w' := by
  simp [h]
theorem run_u {s : Sem Unit} {w' : World} (h : s.run P w = .ok () w') : (do s; pure Next.skip : Sem Next).run P w = .ok .skip w' := by
  simp [h]

theorem s_mov (h : StRel en c st a w) (hd : ∀ d, o.dst = some d → d < a.tmps.size) {x : Operand} {y : Opd} (ho : o.op = .move x ∨ o.op = .assign x) (hx : VRel c w (ev st.get y) (a.eval x))
    (hs : stepA st.get st.ob n site (.mov y) = some r) : Sound P en c st a w o r := by
  simp only [stepA, Option.some.injEq] at hs
  subst hs
  refine sound_val h (v := a.eval x) ?_ hx hd
  rcases ho with ho | ho <;> simp [execOp, ho]

theorem s_pick (h : StRel en c st a w) (hd : ∀ d, o.dst = some d → d < a.tmps.size) {x y z : Operand} (ho : o.op = .pick x y z)
    {y' z' : Opd} (hy : VRel c w (ev st.get y') (a.eval y)) (hz : VRel c w (ev st.get z') (a.eval z)) (hs : stepA st.get st.ob n site (.pick (cS x) y' z') = some r) : Sound P en c st a w o r := by
  have hx := cS_rel h x
  simp only [stepA] at hs
  split at hs
  · rename_i he
    rw [he] at hx
    simp only [Option.some.injEq] at hs
    subst hs
    exact sound_val h (v := a.eval y) (by simp [execOp, ho, rel_bool hx, asBool]) hy hd
  · rename_i he
    rw [he] at hx
    simp only [Option.some.injEq] at hs
    subst hs
    exact sound_val h (v := a.eval z) (by simp [execOp, ho, rel_bool hx, asBool]) hz hd
  · cases hs

/-- A fresh variable. -/
theorem s_var (h : StRel en c st a w) (hd : ∀ d, o.dst = some d → d < a.tmps.size) {cells : List AV} {v : Value} {e : TypeId} (hr : (execOp a.eval o).run P w = .ok (.value (.pointer (some ⟨w.heap.size, 0, none⟩))) { w with heap := w.heap.push (.cells v.cells e) })
    (hc : VRels c w cells v.cells.toList) (h1 : One v.cells.toList) (hl : 0 < cells.length) :
    Sound P en c st a w o (.nw (.p (.l (o.dst.getD 0) (st.ct (o.dst.getD 0))) cells.length 0 0) (st.ct (o.dst.getD 0)) ⟨cells.length, [cells], true, some 1⟩) := by
  have hsz : v.cells.toList.length = cells.length := VRels.length hc
  obtain ⟨c', hu, hst⟩ := StRel.new h (dst := o.dst) (n := 0) (o := ⟨cells.length, [cells], true, some 1⟩) (av := .p (.l (o.dst.getD 0) (st.ct (o.dst.getD 0))) cells.length 0 0)
    (v := .pointer (some ⟨w.heap.size, 0, none⟩)) (cs := v.cells) (e := e) (cap := cells.length) hd (.inr trivial) rfl hl (by simp) (by simp) (xs := v.cells.toList)
    (by simp only [VRelss]; exact ⟨_, [], by simp, hc, rfl⟩) h1 (by simp) (by simp at hsz; omega) (by simp) (fun i u _ hu => h1 u (by simpa using Array.mem_of_getElem? hu))
    (by intro c' w' ha hm; simp only [VRel]; rw [hm]; simp [ha])
  exact ⟨_, _, _, c', hr, .inl rfl, hu, hst⟩

theorem s_new (h : StRel en c st a w) (hd : ∀ d, o.dst = some d → d < a.tmps.size) {e : TypeId} (ho : o.op = .alloc e) {cells : List AV} (hz : zeroT P e = some cells)
    (hs : stepA st.get st.ob (st.ct (o.dst.getD 0)) (o.dst.getD 0) (.new cells) = some r) : Sound P en c st a w o r := by
  simp only [stepA] at hs
  obtain ⟨hl, hs⟩ := bif_opt hs
  simp only [Option.some.injEq] at hs
  subst hs
  obtain ⟨z, hz1, hz2, hz3, _⟩ := zeroT_run hz w
  refine s_var h hd (v := z) (e := e) ?_ (hz2 c w) hz3 (by have := Nat.le_of_ble_eq_true hl; omega)
  simp [execOp, ho, Instr.alloc, hz1, newVar, newRow]

theorem s_box (h : StRel en c st a w) (hd : ∀ d, o.dst = some d → d < a.tmps.size) {e : TypeId} {x : Operand} {y : Opd} (ho : o.op = .box e x) (hx : VRel c w (ev st.get y) (a.eval x))
    (hs : stepA st.get st.ob (st.ct (o.dst.getD 0)) (o.dst.getD 0) (.box y) = some r) : Sound P en c st a w o r := by
  simp only [stepA] at hs
  split at hs
  · rename_i cells hc
    obtain ⟨hl, hs⟩ := bif_opt hs
    simp only [Option.some.injEq] at hs
    subst hs
    obtain ⟨h1, h2, h3⟩ := cellsA_rel hc hx
    refine s_var h hd (v := a.eval x) (e := e) ?_ h1 h2 (by have := Nat.le_of_ble_eq_true hl; omega)
    simp [execOp, ho, Instr.box, newVar, newRow]
  · cases hs

/-! ### Reading -/
theorem cells_of_ob (h : StRel en c st a w) {i : Id} {ob : Ob} (ho : st.ob i = some ob) {k : Nat} {e : List AV} (he : ob.es[k]? = some e) {off m : Nat} (hm : off + m ≤ e.length) (hpos : 0 < m) :
    ∃ cs ty, w.heap[(c.mu i).blk]? = some (.cells cs ty (0, 0)) ∧ ∃ xs, VRels c w ((e.drop off).take m) xs ∧ One xs ∧ xs.length = m ∧
      ∀ (j : Nat) (v : Value), xs[j]? = some v → cs[(c.mu i).off + k * ob.z + off + j]? = some v := by
  obtain ⟨_, g1, g2, g3, g4, ys, g5, g6, g7⟩ := h.objs i ob ho
  have hk : k < ob.es.length := by
    rcases Nat.lt_or_ge k ob.es.length with h' | h'
    · exact h'
    · rw [List.getElem?_eq_none h'] at he; cases he
  have hel : e.length = ob.z := g2 e (List.mem_of_getElem? he)
  have hcap : 0 < (c.mu i).cap := by
    have : 1 * 1 ≤ ob.es.length * ob.z := Nat.mul_le_mul (by omega) (by omega)
    omega
  obtain ⟨cs, ty, q1, q2, q3, _⟩ := g7 hcap
  have hfl : VRels c w (ob.es.drop k).flatten (ys.drop (k * ob.z)) := by rw [← flatten_drop g2]; exact VRels.drop (VRelss.flatten.1 g5) _
  have hdr : ob.es.drop k = e :: ob.es.drop (k + 1) := by
    have h1 : ob.es[k] = e := by rw [List.getElem?_eq_getElem hk] at he; simpa using he
    rw [← h1]; exact List.drop_eq_getElem_cons hk
  rw [hdr, List.flatten_cons] at hfl
  obtain ⟨x1, x2, ex, r1, r2⟩ := VRels.split hfl
  have l1 := VRels.length r1
  refine ⟨cs, ty, q1, (x1.drop off).take m, VRels.take (VRels.drop r1 off) m, fun v hv => g6 v ?_, by simp; omega, fun j v hj => ?_⟩
  · have : v ∈ ys.drop (k * ob.z) := by rw [ex]; exact List.mem_append_left _ (List.mem_of_mem_drop (List.mem_of_mem_take hv))
    exact List.mem_of_mem_drop this
  · have hjm : j < m := by
      rcases Nat.lt_or_ge j m with h' | h'
      · exact h'
      · rw [List.getElem?_take, if_neg (by omega)] at hj; cases hj
    rw [List.getElem?_take, if_pos hjm, List.getElem?_drop] at hj
    have : ys[k * ob.z + (off + j)]? = some v := by
      have h2 : (ys.drop (k * ob.z))[off + j]? = some v := by rw [ex, List.getElem?_append_left (by omega)]; exact hj
      rwa [List.getElem?_drop] at h2
    have := q3 _ _ this
    rwa [show (c.mu i).off + k * ob.z + off + j = (c.mu i).off + (k * ob.z + (off + j)) by omega]

theorem cells_of_q {es : List (List AV)} {z k off0 : Nat} {x : Value} (hr : VRel c w (.q es z k off0) x) {e : List AV} (he : es[k]? = some e) {m : Nat} (hm : off0 + m ≤ e.length) :
    ∃ b o, x = .pointer (some ⟨b, o, none⟩) ∧ ∃ xs, VRels c w ((e.drop off0).take m) xs ∧ One xs ∧ xs.length = m ∧ ∀ (j : Nat) (v : Value), xs[j]? = some v → w.cell? ⟨b, o + j, none⟩ = some v := by
  simp only [VRel] at hr
  obtain ⟨b, o, ys, rfl, h1, h2', h3, h4⟩ := hr
  have h2 := VRelss.up (Up.ofData c w) _ _ h2'
  have hk : k < es.length := by
    rcases Nat.lt_or_ge k es.length with h' | h'
    · exact h'
    · rw [List.getElem?_eq_none h'] at he; cases he
  have hel : e.length = z := h1 e (List.mem_of_getElem? he)
  have hfl : VRels c w (es.drop k).flatten (ys.drop (k * z)) := by rw [← flatten_drop h1]; exact VRels.drop (VRelss.flatten.1 h2) _
  have hdr : es.drop k = e :: es.drop (k + 1) := by
    have h1 : es[k] = e := by rw [List.getElem?_eq_getElem hk] at he; simpa using he
    rw [← h1]; exact List.drop_eq_getElem_cons hk
  rw [hdr, List.flatten_cons] at hfl
  obtain ⟨x1, x2, ex, r1, r2⟩ := VRels.split hfl
  have l1 := VRels.length r1
  refine ⟨b, o + k * z + off0, rfl, (x1.drop off0).take m, VRels.take (VRels.drop r1 off0) m, fun v hv => h3 v ?_, by simp; omega, fun j v hj => ?_⟩
  · have : v ∈ ys.drop (k * z) := by rw [ex]; exact List.mem_append_left _ (List.mem_of_mem_drop (List.mem_of_mem_take hv))
    exact List.mem_of_mem_drop this
  · have hjm : j < m := by
      rcases Nat.lt_or_ge j m with h' | h'
      · exact h'
      · rw [List.getElem?_take, if_neg (by omega)] at hj; cases hj
    rw [List.getElem?_take, if_pos hjm, List.getElem?_drop] at hj
    have : ys[k * z + (off0 + j)]? = some v := by
      have h2 : (ys.drop (k * z))[off0 + j]? = some v := by rw [ex, List.getElem?_append_left (by omega)]; exact hj
      rwa [List.getElem?_drop] at h2
    have := (h4 _ _ this).2
    rwa [show o + k * z + off0 + j = o + (k * z + (off0 + j)) by omega]

theorem load_of {t : TypeId} {m : Nat} {agg : Bool} (hz : szOf P t = some m) (hg : aggOf P t = some agg) (hm : agg = false → m = 1) {b off : Nat} {xs : List Value} (hl : xs.length = m)
    (hx : ∀ (j : Nat) (v : Value), xs[j]? = some v → w.cell? ⟨b, off + j, none⟩ = some v) :
    (Instr.loadAt t (.pointer (some ⟨b, off, none⟩))).run P w = .ok (bif agg then .agg xs.toArray else xs.getD 0 undef) w := by
  simp only [Instr.loadAt, Instr.sureAddr, Sem.run_bind, Sem.run_pure, Result.andThen_ok, loadVar, aggOf_run hg]
  cases agg with
  | true =>
    simp only [if_true, Sem.run_bind, szOf_run hz, Result.andThen_ok, cond_true]
    have := run_loadCells_list (P := P) w ⟨b, off, none⟩ xs (fun j v hj => by rw [addz]; exact hx j v hj)
    rw [hl] at this
    simp [this]
  | false =>
    have h1 := hm rfl
    have h0 : xs[0]? = some (xs.getD 0 undef) := by
      cases xs with
      | nil => simp at hl; omega
      | cons x l => simp
    have := hx 0 _ h0
    simp only [Nat.add_zero] at this
    simp only [Bool.false_eq_true, if_false, run_load, this, cond_false]

theorem s_load (h : StRel en c st a w) (hd : ∀ d, o.dst = some d → d < a.tmps.size) {t : TypeId} {x : Operand} (ho : o.op = .load t x) {m : Nat} {agg : Bool} (hz : szOf P t = some m) (hg : aggOf P t = some agg) (hm : agg = false → m = 1) (hpos : 0 < m)
    (hs : stepA st.get st.ob n site (.load m agg (cS x)) = some r) : Sound P en c st a w o r := by
  have hx := cS_rel h x
  have fin : ∀ {e : List AV} {off b p : Nat} {xs : List Value}, a.eval x = .pointer (some ⟨b, p, none⟩) → off + m ≤ e.length → VRels c w ((e.drop off).take m) xs → xs.length = m →
      (∀ (j : Nat) (v : Value), xs[j]? = some v → w.cell? ⟨b, p + j, none⟩ = some v) → (bif agg then some (Res.v (.g ((e.drop off).take m))) else (e[off]?).map Res.v) = some r → Sound P en c st a w o r := by
    intro e off b p xs he hle hr hl hcell hres
    have hload := load_of hz hg hm hl hcell
    have hex : (execOp a.eval o).run P w = .ok (.value (bif agg then .agg xs.toArray else xs.getD 0 undef)) w := by
      simp only [execOp, ho, he]; exact run_v hload
    cases hag : agg with
    | true =>
      rw [hag] at hres hex
      simp only [cond_true, Option.some.injEq] at hres
      subst hres
      exact sound_val h hex (by simp only [cond_true, VRel]; exact ⟨_, rfl, hr⟩) hd
    | false =>
      rw [hag] at hres hex
      have h1 := hm hag
      subst h1
      simp only [cond_false] at hres
      have hlt : off < e.length := by omega
      rw [List.getElem?_eq_getElem hlt] at hres
      simp only [Option.map_some, Option.some.injEq] at hres
      subst hres
      refine sound_val h hex ?_ hd
      have : (e.drop off).take 1 = [e[off]] := by rw [List.drop_eq_getElem_cons hlt]; rfl
      rw [this] at hr
      simp only [VRels] at hr
      obtain ⟨y, l, rfl, hy, rfl⟩ := hr
      simpa using hy
  simp only [stepA] at hs
  split at hs
  · rename_i i z k off he
    rw [he] at hx
    split at hs
    · rename_i ob hob
      split at hs
      · rename_i e hek
        obtain ⟨hb, hs⟩ := bif_opt hs
        simp only [Bool.and_eq_true] at hb
        have hle := Nat.le_of_ble_eq_true hb.1
        have hzz := Nat.eq_of_beq_eq_true hb.2
        obtain ⟨cs, ty, q1, xs, q2, q3, q4, q5⟩ := cells_of_ob h hob hek hle hpos
        simp only [VRel] at hx
        refine fin (hx.2) hle q2 q4 (fun j v hj => ?_) hs
        rw [cell_of_block q1, hzz]
        exact q5 j v hj
      · cases hs
    · cases hs
  · rename_i es z k off he
    rw [he] at hx
    split at hs
    · rename_i e hek
      obtain ⟨hb, hs⟩ := bif_opt hs
      have hle := Nat.le_of_ble_eq_true hb
      obtain ⟨b, p, hp, xs, q2, q3, q4, q5⟩ := cells_of_q hx hek hle
      exact fin hp hle q2 q4 q5 hs
    · cases hs
  · cases hs

/-! ### Writing -/
theorem run_storeCells (b o : Nat) (cs : Array Value) (ty : TypeId) (vs : List Value) (hb : w.heap[b]? = some (.cells cs ty (0, 0))) (hl : o + vs.length ≤ cs.size) (h1 : One vs) :
    (storeCells ⟨b, o, none⟩ vs).run P w = .ok () (w.setRow b (cs.toList.take o ++ vs ++ cs.toList.drop (o + vs.length)).toArray) := by
  have := run_storeCells_at P b o ty vs 0 cs w hb (by omega) h1
  simpa using this

theorem splice_get {α : Type} (l : List α) (off : Nat) (new : List α) (h : off + new.length ≤ l.length) (j : Nat) :
    (splice l off new)[j]? = if j < off then l[j]? else if j < off + new.length then new[j - off]? else l[j]? := by
  unfold splice
  have h0 : (l.take off).length = off := by simp; omega
  rw [List.append_assoc]
  by_cases h1 : j < off
  · rw [if_pos h1, List.getElem?_append_left (by omega), List.getElem?_take, if_pos h1]
  · rw [if_neg h1, List.getElem?_append_right (by omega), h0]
    by_cases h2 : j < off + new.length
    · rw [if_pos h2, List.getElem?_append_left (by omega)]
    · rw [if_neg h2, List.getElem?_append_right (by omega), List.getElem?_drop]
      congr 1; omega
theorem splice_length {α : Type} (l : List α) (off : Nat) (new : List α) (h : off + new.length ≤ l.length) : (splice l off new).length = l.length := by
  unfold splice; simp; omega
theorem splice_rels {l new : List AV} {xs ys : List Value} (hl : VRels c w l xs) (hn : VRels c w new ys) (off : Nat) : VRels c w (splice l off new) (splice xs off ys) := by
  unfold splice
  rw [VRels.length hn]
  exact VRels.append (VRels.append (VRels.take hl off) hn) (VRels.drop hl _)
theorem splice_one {xs ys : List Value} (h1 : One xs) (h2 : One ys) (off : Nat) : One (splice xs off ys) := by
  intro v hv
  unfold splice at hv
  rcases List.mem_append.1 hv with hv | hv
  · rcases List.mem_append.1 hv with hv | hv
    · exact h1 v (List.mem_of_mem_take hv)
    · exact h2 v hv
  · exact h1 v (List.mem_of_mem_drop hv)

/-- Part of an object's cells is written anew: 'new' at the flat place p. -/
theorem s_write (h : StRel en c st a w) (hd : ∀ d, o.dst = some d → d < a.tmps.size) {i : Id} {ob : Ob} (hob : st.ob i = some ob) (hwr : ob.wr = true) {p : Nat} {ys : List Value} {es' : List (List AV)} {av : AV} {nx : Next} {v : Value}
    (hnx : nx = .value v ∨ (nx = .skip ∧ v = undef)) (hv : VRel c w av v) (h1 : One ys) (hp : p + ys.length ≤ ob.es.length * ob.z)
    (hes : es'.length = ob.es.length) (hez : ∀ e ∈ es', e.length = ob.z) (hrel : ∀ (c' : Cx) (w' : World) (xs : List Value), Up c w c' w' → VRels c' w' ob.es.flatten xs → VRels c' w' es'.flatten (splice xs p ys))
    (hrun : ∀ (cs : Array Value) (ty : TypeId), 0 < (c.mu i).cap → w.heap[(c.mu i).blk]? = some (.cells cs ty (0, 0)) → (c.mu i).off + (c.mu i).cap ≤ cs.size →
      (execOp a.eval o).run P w = .ok nx (w.setRow (c.mu i).blk (cs.toList.take ((c.mu i).off + p) ++ ys ++ cs.toList.drop ((c.mu i).off + p + ys.length)).toArray))
    (hrun0 : (c.mu i).cap = 0 → (execOp a.eval o).run P w = .ok nx w) :
    Sound P en c st a w o (.up av i { ob with es := es' }) := by
  obtain ⟨hal, g1, g2, g3, g4, xs, g5, g6, g7⟩ := h.objs i ob hob
  have hxl := VRelss.length g5 g2
  rcases Nat.eq_zero_or_pos (c.mu i).cap with h0 | hpos
  · -- nothing there
    have hes0 : ob.es = [] := by
      have : ob.es.length * ob.z = 0 := by omega
      rcases Nat.mul_eq_zero.1 this with h' | h'
      · exact List.eq_nil_of_length_eq_zero h'
      · omega
    have hes1 : es' = [] := List.eq_nil_of_length_eq_zero (by rw [hes, hes0]; rfl)
    refine ⟨nx, v, w, c, hrun0 h0, hnx, Up.refl _ _, ?_⟩
    have e1 : (st.app o.dst (.up av i { ob with es := es' })) = st.putO o.dst av := by
      simp only [St.app]
      have : st.setOb i (some { ob with es := es' }) = st := by
        have hh : ({ ob with es := es' } : Ob) = ob := by cases ob; simp at hes0 ⊢; rw [hes1, hes0]
        rw [hh]
        cases st with
        | mk sl obf ct =>
          simp only [St.setOb, St.mk.injEq, true_and, and_true]
          funext j
          split
          · rename_i e; rw [e]; exact hob.symm
          · rfl
      rw [this]
    rw [e1]
    exact h.val hv hd
  · obtain ⟨cs, ty, q1, q2, q3, qo, q4, q5⟩ := g7 hpos
    let cs' : Array Value := (cs.toList.take ((c.mu i).off + p) ++ ys ++ cs.toList.drop ((c.mu i).off + p + ys.length)).toArray
    have hfit : (c.mu i).off + p + ys.length ≤ cs.size := by omega
    have hcs' : cs'.toList = splice cs.toList ((c.mu i).off + p) ys := rfl
    have hget : ∀ j : Nat, cs'[j]? = (splice cs.toList ((c.mu i).off + p) ys)[j]? := fun j => by rw [← hcs']; simp
    obtain ⟨c', hu, hst⟩ := StRel.write h (dst := o.dst) (i := i) (j := i) (o := ob) (o' := { ob with es := es' }) (av := av) (v := v) (cs := cs) (cs' := cs') (e := ty) (off := (c.mu i).off) (cap := (c.mu i).cap) hd hob hpos q1
      (by have := splice_length cs.toList ((c.mu i).off + p) ys (by simpa using hfit); rw [← hcs'] at this; simpa using this)
      (fun k hf => absurd hf (q4 hwr k)) (.inl ⟨rfl, rfl, rfl⟩) rfl g1 hez g4 (xs := splice xs p ys)
      (fun c' w' hu => VRelss.flatten.2 (hrel c' w' xs hu (VRelss.flatten.1 (VRelss.up hu _ _ g5)))) (splice_one g6 h1 p) (by simpa [hes] using g3) q2
      (fun j u hj => by
        have hpx : p + ys.length ≤ xs.length := by omega
        rw [hget, splice_get _ _ _ (by simpa using hfit)]
        rw [splice_get _ _ _ hpx] at hj
        by_cases hj1 : j < p
        · rw [if_pos hj1] at hj; rw [if_pos (by omega)]; simpa using q3 j u hj
        · rw [if_neg hj1] at hj
          rw [if_neg (by omega)]
          by_cases hj2 : j < p + ys.length
          · rw [if_pos hj2] at hj; rw [if_pos (by omega)]; rw [show (c.mu i).off + j - ((c.mu i).off + p) = j - p by omega]; exact hj
          · rw [if_neg hj2] at hj; rw [if_neg (by omega)]; simpa using q3 j u hj)
      (fun j u hjc hj => by
        rw [hget, splice_get _ _ _ (by simpa using hfit)] at hj
        split at hj
        · exact qo j u hjc (by simpa using hj)
        · split at hj
          · exact h1 u (List.mem_of_getElem? hj)
          · exact qo j u hjc (by simpa using hj))
      (by rw [splice_length _ _ _ (by omega), hxl, hes])
      (fun hw => by rw [hwr] at hw; cases hw)
      (fun c' w' hu _ _ => VRel.up hu _ _ hv)
    refine ⟨nx, v, _, c', hrun cs ty hpos q1 q2, hnx, hu, ?_⟩
    have e1 : (st.app o.dst (.up av i { ob with es := es' })) = ({ st with ob := fun x => if x = i then some { ob with es := es' } else if x = i then none else st.ob x, ct := if i = i then st.ct else (st.bump (o.dst.getD 0)).ct } : St).putO o.dst av := by
      simp only [St.app, if_true]
      congr 1
      cases st with
      | mk sl obf ct =>
        simp only [St.setOb, St.mk.injEq, true_and, and_true]
        funext j
        split <;> rfl
    rw [e1]
    exact hst

theorem flatten_set {z : Nat} : ∀ {es : List (List AV)} {k : Nat} {e : List AV}, (∀ x ∈ es, x.length = z) → es[k]? = some e → ∀ (off : Nat) (cs : List AV), off + cs.length ≤ z →
    (es.set k (splice e off cs)).flatten = splice es.flatten (k * z + off) cs
  | [], k, e, _, h, _, _, _ => by simp at h
  | x :: es, 0, e, hz, h, off, cs, hl => by
    simp at h; subst h
    have hx := hz x List.mem_cons_self
    simp only [List.set_cons_zero, List.flatten_cons, splice, Nat.zero_mul, Nat.zero_add]
    rw [List.take_append_of_le_length (by omega), List.drop_append_of_le_length (by omega)]
    simp
  | x :: es, k + 1, e, hz, h, off, cs, hl => by
    have hx := hz x List.mem_cons_self
    have ih := flatten_set (es := es) (k := k) (e := e) (fun y hy => hz y (List.mem_cons_of_mem _ hy)) (by simpa using h) off cs hl
    simp only [List.set_cons_succ, List.flatten_cons, ih]
    unfold splice
    have e1 : (k + 1) * z + off = x.length + (k * z + off) := by rw [hx, Nat.succ_mul]; omega
    rw [e1, List.take_length_add_append, Nat.add_assoc x.length, List.drop_length_add_append]
    simp

theorem s_store (h : StRel en c st a w) (hd : ∀ d, o.dst = some d → d < a.tmps.size) {t : TypeId} {x y : Operand} {y' : Opd} (ho : o.op = .store t x y) {m : Nat} (hz : szOf P t = some m) (hy : VRel c w (ev st.get y') (a.eval y))
    (hs : stepA st.get st.ob n site (.store m (cS x) y') = some r) : Sound P en c st a w o r := by
  have hx := cS_rel h x
  simp only [stepA] at hs
  split at hs
  · rename_i i z k off he
    rw [he] at hx
    split at hs
    · rename_i ob cs hob hcs
      split at hs
      · rename_i e hek
        obtain ⟨hb, hs⟩ := bif_opt hs
        simp only [Option.some.injEq] at hs
        subst hs
        simp only [Bool.and_eq_true] at hb
        obtain ⟨⟨⟨hwr, hzz⟩, hlen⟩, hle⟩ := hb
        have hzz := Nat.eq_of_beq_eq_true hzz
        have hlen := Nat.eq_of_beq_eq_true hlen
        have hle := Nat.le_of_ble_eq_true hle
        obtain ⟨r1, r2, r3⟩ := cellsA_rel hcs hy
        obtain ⟨_, g1, g2, g3, _⟩ := h.objs i ob hob
        have hk : k < ob.es.length := by
          rcases Nat.lt_or_ge k ob.es.length with h' | h'
          · exact h'
          · rw [List.getElem?_eq_none h'] at hek; cases hek
        have hel : e.length = ob.z := g2 e (List.mem_of_getElem? hek)
        have hkz : (k + 1) * ob.z ≤ ob.es.length * ob.z := Nat.mul_le_mul_right _ hk
        rw [Nat.succ_mul] at hkz
        simp only [VRel] at hx
        have hst : ∀ (ds : Array Value) (ty : TypeId), 0 < (c.mu i).cap → w.heap[(c.mu i).blk]? = some (.cells ds ty (0, 0)) → (c.mu i).off + (c.mu i).cap ≤ ds.size → (execOp a.eval o).run P w = .ok .skip (w.setRow (c.mu i).blk
              (ds.toList.take ((c.mu i).off + (k * ob.z + off)) ++ (a.eval y).cells.toList ++ ds.toList.drop ((c.mu i).off + (k * ob.z + off) + (a.eval y).cells.toList.length)).toArray) := by
          intro ds ty hpos q1 q2
          simp only [execOp, ho]
          refine run_u ?_
          have e1 : (a.eval y).cells.size = m := by simp at r3; omega
          have e2 : ((a.eval y).cells.size ≠ m) = False := by simp [e1]
          simp only [Instr.storeAt, Instr.sureAddr, hx.2, Sem.run_bind, Sem.run_pure, Result.andThen_ok, storeVar, szOf_run hz, e2, if_false]
          rw [show (c.mu i).off + k * z + off = (c.mu i).off + (k * ob.z + off) by rw [hzz]; omega]
          exact run_storeCells _ _ ds ty _ q1 (by omega) r2
        refine s_write (nx := .skip) (v := undef) (p := k * ob.z + off) (ys := (a.eval y).cells.toList) (es' := ob.es.set k (splice e off cs)) (av := .u) h hd hob hwr (.inr ⟨rfl, rfl⟩) (by simp [VRel]) r2 (by omega) (by simp) (fun x hx' => ?_) (fun c' w' xs hu hr => ?_) hst (fun h0 => ?_)
        · rcases List.mem_or_eq_of_mem_set hx' with hm | hm
          · exact g2 x hm
          · rw [hm, splice_length _ _ _ (by omega), hel]
        · rw [flatten_set g2 hek off cs (by omega)]
          exact splice_rels hr (VRels.up hu _ _ r1) _
        · exfalso
          have : 1 * 1 ≤ ob.es.length * ob.z := Nat.mul_le_mul (by omega) (by omega)
          omega
      · cases hs
    · cases hs
  · cases hs
end
end Go.Den
