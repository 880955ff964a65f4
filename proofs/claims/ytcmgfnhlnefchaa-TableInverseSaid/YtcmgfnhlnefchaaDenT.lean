/-
  Den, part T: operations whose answer is told and not worked out: is a slice nil, its capacity, a slice up to its capacity, zeros behind a full slice.
-/
import Derived.Test.YtcmgfnhlnefchaaDenM
namespace Go.Den
set_option linter.unusedVariables false
set_option linter.unusedSimpArgs false

section
variable {P : Program} {en : Env} {c : Cx} {st : St} {a : Act} {w : World} {o : Oper}

def SoundK (P : Program) (en : Env) (c : Cx) (a : Act) (w : World) (o : Oper) (K : St → Prop) : Prop :=
  ∃ v w' c' st', (execOp a.eval o).run P w = .ok (.value v) w' ∧ K st' ∧ Up c w c' w' ∧ StRel en c' st' (a.put o.dst v) w'

theorem soundK_val (h : StRel en c st a w) (hd : ∀ d, o.dst = some d → d < a.tmps.size) {K : St → Prop} {av : AV} {v : Value} (hr : (execOp a.eval o).run P w = .ok (.value v) w) (hv : VRel c w av v) (hk : K (st.putO o.dst av)) : SoundK P en c a w o K :=
  ⟨v, w, c, _, hr, hk, Up.refl _ _, h.val hv hd⟩

theorem run_equalIn_nil (w : World) (d : Nat) (t e : TypeId) (ht : P.underlying t = some (.slice e)) (A : Option Addr) (n k : Nat) : (Op.equalIn (d + 1) t (.slice A n k) (.slice none 0 0)).run P w = .ok A.isNone w := by
  cases A <;> simp [Op.equalIn, run_underlying ht]

theorem s_nilS (h : StRel en c st a w) (hd : ∀ d, o.dst = some d → d < a.tmps.size) {neg : Bool} {t e yt : TypeId} {x : Operand} (ho : o.op = .binOp (if neg then .neq else .eql) t x (.const (.slice none 0 0)) yt) (ht : P.underlying t = some (.slice e))
    {K : St → Prop} (hk : nilW st o.dst K neg (ev st.get (cS x))) : SoundK P en c a w o K := by
  have hx := cS_rel h x
  have run : ∀ {A : Option Addr} {n k : Nat}, a.eval x = .slice A n k → (execOp a.eval o).run P w = .ok (.value (.bool (if neg then !A.isNone else A.isNone))) w := by
    intro A n k he
    have hn : a.eval (.const (.slice none 0 0)) = .slice none 0 0 := rfl
    simp only [execOp, ho, he, hn]
    refine run_v ?_
    cases neg
    · simp [eqGuard, binOp, Op.equal, Op.maxDepth, run_equalIn_nil w _ t e ht]
    · simp [eqGuard, binOp, Op.equal, Op.maxDepth, run_equalIn_nil w _ t e ht]
  unfold nilW at hk
  split at hk
  · rename_i v he
    rw [he] at hx
    obtain ⟨hn, hk⟩ := hk
    unfold isNilS at hn
    split at hn
    · refine soundK_val h hd (run (rel_s.1 hx)) (rel_s.2 ?_) hk
      cases neg <;> rfl
    · cases hn
  · rename_i full z es he
    rw [he] at hx
    simp only [VRel] at hx
    obtain ⟨A, k, xs, ex, g1, g2, g3, g4, g5, g6, g7⟩ := hx
    refine soundK_val h hd (run ex) (rel_s.2 rfl) (hk A.isNone fun hne => ?_)
    have hxl := VRelss.length g5 g4
    have hxs : xs ≠ [] := by
      intro e0
      rw [e0] at hxl
      have : es.length * z = 0 := by simpa using hxl.symm
      rcases Nat.mul_eq_zero.1 this with h' | h'
      · exact hne (List.eq_nil_of_length_eq_zero h')
      · omega
    obtain ⟨b, p, hA, _⟩ := g7 hxs
    rw [hA]; rfl
  · rename_i i z off len he
    rw [he] at hx
    simp only [VRel] at hx
    obtain ⟨hal, hz, A, k, ex, g1, g2, g3⟩ := hx
    refine soundK_val h hd (run ex) (rel_s.2 rfl) (hk A.isNone fun hp => ?_)
    rw [g3 (by omega)]; rfl
  · exact hk.elim

/-- What is behind the end of the memory that is known. -/
theorem StRel.grown (h : StRel en c st a w) {i : Id} {ob : Ob} (hob : st.ob i = some ob) (hwr : ob.wr = true) {k : Nat} (hk : (c.mu i).cap = k * ob.z) :
    StRel en c (st.setOb i (some ⟨ob.z, ob.es ++ List.replicate (k - ob.es.length) (List.replicate ob.z .u), true, some k⟩)) a w := by
  obtain ⟨hal, g1, g2, g3, g4, xs, g5, g6, g7⟩ := h.objs i ob hob
  have hxl := VRelss.length g5 g2
  have hle : ob.es.length ≤ k := by rw [hk] at g3; exact Nat.le_of_mul_le_mul_right g3 g1
  have hnew : ObRel c w (c.mu i) ⟨ob.z, ob.es ++ List.replicate (k - ob.es.length) (List.replicate ob.z .u), true, some k⟩ := by
    refine ⟨g1, fun e he => ?_, ?_, fun k' e => ?_, ?_⟩
    · rcases List.mem_append.1 he with he | he
      · exact g2 e he
      · rw [List.eq_of_mem_replicate he]; simp
    · simp only [List.length_append, List.length_replicate]
      rw [hk, Nat.add_sub_cancel' hle]; exact Nat.le_refl _
    · simp only [Option.some.injEq] at e; subst e; exact hk
    · have us : ∀ (n : Nat) (l : List Value), l.length = n → VRels c w (List.replicate n .u) l := by
        intro n
        induction n with
        | zero => intro l hl; have := List.eq_nil_of_length_eq_zero hl; subst this; simp [VRels]
        | succ n ih =>
          intro l hl
          cases l with
          | nil => simp at hl
          | cons x l =>
            simp only [List.replicate_succ, VRels]
            exact ⟨x, l, rfl, by simp [VRel], ih l (by simpa using hl)⟩
      have uss : ∀ (m : Nat) (l : List Value), l.length = m * ob.z → VRelss c w (List.replicate m (List.replicate ob.z .u)) l := by
        intro m
        induction m with
        | zero => intro l hl; have := List.eq_nil_of_length_eq_zero (by simpa using hl); subst this; simp [VRelss]
        | succ m ih =>
          intro l hl
          rw [Nat.succ_mul] at hl
          simp only [List.replicate_succ, VRelss]
          exact ⟨l.take ob.z, l.drop ob.z, (List.take_append_drop _ _).symm, us _ _ (by simp; omega), ih _ (by simp; omega)⟩
      rcases Nat.eq_zero_or_pos (c.mu i).cap with h0 | hpos
      · have hx0 : xs = [] := List.eq_nil_of_length_eq_zero (by omega)
        have hk0 : k = 0 := by
          rw [hk] at h0
          rcases Nat.mul_eq_zero.1 h0 with h' | h' <;> omega
        subst hk0
        have he0 : ob.es = [] := List.eq_nil_of_length_eq_zero (by omega)
        refine ⟨[], ?_, by simp [One], fun hc => by omega⟩
        simp [he0, VRelss]
      · obtain ⟨cs, e, q1, q2, q3, qo, q4, q5⟩ := g7 hpos
        have hmul : ob.es.length * ob.z ≤ k * ob.z := Nat.mul_le_mul_right _ hle
        have hrest : ((cs.toList.drop ((c.mu i).off + xs.length)).take (k * ob.z - xs.length)).length = (k - ob.es.length) * ob.z := by
          rw [Nat.sub_mul]
          simp only [List.length_take, List.length_drop, Array.length_toList]
          omega
        refine ⟨xs ++ (cs.toList.drop ((c.mu i).off + xs.length)).take (k * ob.z - xs.length), ?_, ?_, fun _ => ⟨cs, e, q1, q2, ?_, qo, fun _ => q4 hwr, fun hw => by cases hw⟩⟩
        · refine VRelss.flatten.2 ?_
          rw [List.flatten_append]
          exact VRels.append (VRelss.flatten.1 g5) (VRelss.flatten.1 (uss _ _ hrest))
        · intro v hv
          rcases List.mem_append.1 hv with hv | hv
          · exact g6 v hv
          · obtain ⟨j, hj⟩ := List.mem_iff_getElem?.1 hv
            have hjl : j < k * ob.z - xs.length := by
              rcases Nat.lt_or_ge j (k * ob.z - xs.length) with h' | h'
              · exact h'
              · rw [List.getElem?_take, if_neg (by omega)] at hj; cases hj
            rw [List.getElem?_take, if_pos hjl, List.getElem?_drop] at hj
            exact qo (xs.length + j) v (by omega) (by rw [← Nat.add_assoc]; simpa using hj)
        · intro j v hj
          by_cases hjx : j < xs.length
          · rw [List.getElem?_append_left hjx] at hj; exact q3 j v hj
          · rw [List.getElem?_append_right (by omega)] at hj
            have hjl : j - xs.length < k * ob.z - xs.length := by
              rcases Nat.lt_or_ge (j - xs.length) (k * ob.z - xs.length) with h' | h'
              · exact h'
              · rw [List.getElem?_take, if_neg (by omega)] at hj; cases hj
            rw [List.getElem?_take, if_pos hjl, List.getElem?_drop] at hj
            rw [show (c.mu i).off + j = (c.mu i).off + xs.length + (j - xs.length) by omega]
            simpa using hj
  have hsame : ∀ x o2, (st.setOb i (some ⟨ob.z, ob.es ++ List.replicate (k - ob.es.length) (List.replicate ob.z .u), true, some k⟩)).ob x = some o2 → ∃ o1, st.ob x = some o1 := by
    intro x o2 hx
    rw [St.ob_setOb] at hx
    by_cases e : x = i
    · exact ⟨ob, by rw [e]; exact hob⟩
    · rw [if_neg e] at hx; exact ⟨o2, hx⟩
  exact { slots := h.slots, objs := fun x o2 hx => by
            rw [St.ob_setOb] at hx
            by_cases e : x = i
            · rw [if_pos e] at hx
              simp only [Option.some.injEq] at hx
              subst hx; subst e
              exact ⟨hal, hnew⟩
            · rw [if_neg e] at hx; exact h.objs x o2 hx,
          inj := fun x y o1 o2 h1 h2 hne => by
            obtain ⟨u1, e1⟩ := hsame x o1 h1
            obtain ⟨u2, e2⟩ := hsame y o2 h2
            exact h.inj x y u1 u2 e1 e2 hne,
          own := fun x o1 h1 => by
            obtain ⟨u1, e1⟩ := hsame x o1 h1
            exact h.own x u1 e1,
          fresh := h.fresh, Fin := h.Fin, F0 := h.F0, F1 := h.F1, cell := h.cell, os := h.os, tape := h.tape, output := h.output, size := h.size, block := h.block, defers := h.defers, tsz := h.tsz }

theorem s_capS (h : StRel en c st a w) (hd : ∀ d, o.dst = some d → d < a.tmps.size) {t e : TypeId} {x : Operand} (ho : o.op = .call { callee := .builtin .cap, args := #[x], argTypes := #[t] }) (ht : P.underlying t = some (.slice e))
    {K : St → Prop} (hk : capW st o.dst K (ev st.get (cS x))) : SoundK P en c a w o K := by
  have hx := cS_rel h x
  unfold capW at hk
  split at hk
  · rename_i i z off len he
    rw [he] at hx
    split at hk
    · rename_i ob hob
      obtain ⟨q1, q2, q3, hk⟩ := hk
      subst q1
      simp only [VRel] at hx
      obtain ⟨hal, hz, A, kb, ex, g1, g2, g3⟩ := hx
      obtain ⟨_, m1, m2, m3, m4, _⟩ := h.objs i ob hob
      have hle : ob.es.length ≤ off + kb := by rw [← g2] at m3; exact Nat.le_of_mul_le_mul_right m3 m1
      have hK := hk (off + kb) hle (fun k' e => by
        have := m4 k' e
        rw [← g2] at this
        exact Nat.eq_of_mul_eq_mul_right m1 this)
      refine soundK_val (h.grown hob q2 (k := off + kb) g2.symm) hd (v := .int .i64 ((off + kb - off : Nat))) ?_ (rel_s.2 rfl) hK
      rw [Nat.add_sub_cancel_left]
      simp [execOp, ho, resolve, invoke, builtin, ex, Builtin.cap_, run_underlying ht, goInt]
    · exact hk.elim
  · exact hk.elim

theorem s_slx (h : StRel en c st a w) (hd : ∀ d, o.dst = some d → d < a.tmps.size) {t e : TypeId} {x hi : Operand} {lo : Option Operand} {z : Nat} (ho : o.op = .slice t x lo (some hi) none) (ht : P.underlying t = some (.slice e)) (hz : szOf P e = some z)
    {K : St → Prop} (hk : slxW st o.dst K z (ev st.get (cS x)) (loA st.get (cSm lo)) (intA (ev st.get (cS hi)))) : SoundK P en c a w o K := by
  have hx := cS_rel h x
  have hy := cS_rel h hi
  unfold slxW at hk
  split at hk
  · rename_i i z' off len l n he hlo hn
    rw [he] at hx
    split at hk
    · rename_i ob hob
      obtain ⟨q1, q2, ql, qln, q4, hk⟩ := hk
      have q3 : 0 ≤ n := by omega
      subst q1; subst q2
      simp only [VRel] at hx
      obtain ⟨hal, hz0, A, kb, ex, g1, g2, g3⟩ := hx
      obtain ⟨_, m1, m2, m3, m4, _⟩ := h.objs i ob hob
      have hle : ob.es.length ≤ off + kb := by rw [← g2] at m3; exact Nat.le_of_mul_le_mul_right m3 m1
      obtain ⟨ik, hie⟩ : ∃ ik, a.eval hi = .int ik n := by
        unfold intA at hn
        split at hn
        · rename_i ik m hev
          simp only [Option.some.injEq] at hn
          subst hn
          rw [hev] at hy
          exact ⟨ik, rel_s.1 hy⟩
        · cases hn
      refine soundK_val h hd (v := .slice (if kb = l.toNat then A else A.map (·.add (l.toNat * ob.z))) (n.toNat - l.toNat) (kb - l.toNat)) ?_ ?_ hk
      · simp only [execOp, ho]
        refine run_v ?_
        have hb : (Instr.sliceBound (.int ik n) kb .sliceAcap).run P w = .ok n.toNat w := run_sliceBound w ik n kb _ q3 (by omega)
        have hbs : (Instr.sliceBounds true len kb (lo.map a.eval) (some (.int ik n)) none).run P w = .ok (l.toNat, n.toNat, kb) w := by
          cases lo with
          | none =>
            simp only [cSm, loA, Option.some.injEq] at hlo
            subst hlo
            simp [Instr.sliceBounds, hb]
          | some lo =>
            simp only [cSm, loA] at hlo
            obtain ⟨jk, hje⟩ : ∃ jk, a.eval lo = .int jk l := by
              have hl := cS_rel h lo
              unfold intA at hlo
              split at hlo
              · rename_i jk m hev
                simp only [Option.some.injEq] at hlo
                subst hlo
                rw [hev] at hl
                exact ⟨jk, rel_s.1 hl⟩
              · cases hlo
            have hb2 : (Instr.sliceBound (.int jk l) n.toNat .sliceB).run P w = .ok l.toNat w := run_sliceBound w jk l n.toNat _ ql (by omega)
            simp [Instr.sliceBounds, hb, hje, hb2]
        simp [Instr.sliceAt, run_underlying ht, Instr.slice, ex, hie, hbs, szOf_run hz]
      · simp only [VRel]
        refine ⟨hal, hz0, _, kb - l.toNat, rfl, by omega, ?_, fun hk => ?_⟩
        · rw [← g2]; congr 1; omega
        · rw [if_neg (by omega), g3 (by omega)]
          simp only [Option.map_some, addz, Option.some.injEq, Addr.mk.injEq, and_true, true_and]
          rw [Nat.add_mul]; omega
    · exact hk.elim
  · exact hk.elim

/-- Zeros appended; the slice grows. -/
theorem run_appz_grow {t u e : TypeId} {ty : TypeId} {i : TypeInfo} {zv : Value} {ik : IntKind} (ht : P.underlying t = some (.slice e)) (hu : P.underlying u = some (.int ik)) (hi : P.info? e = some i) (hzv : (zeroValue e).run P w = .ok zv w) (hzs : zv.cells.size = i.size) (hz0 : 0 < i.size)
    {B : Option Addr} {sLen sCap m : Nat} {xk : IntKind} {olds : List Value} (hlo : olds.length = sLen * i.size) (hlod : ∀ (j : Nat) (v : Value), olds[j]? = some v → ∃ ad, B = some ad ∧ w.cell? (ad.add j) = some v)
    (hg : sCap < sLen + m) (h46 : (sLen + m) * i.bytes ≤ 70368744177664) (h63 : sLen + m ≤ 70368744177664) :
    ∃ (cap : Nat) (cs : Array Value), (Builtin.append_ #[t, u] ty #[.slice B sLen sCap, .int xk m]).run P w =
      .ok (.slice (some ⟨w.heap.size, 0, none⟩) (sLen + m) cap) ({ w with drawn := w.drawn + 1, heap := w.heap.push (.cells cs e) } : World) ∧ sLen + m ≤ cap ∧ cs.size = cap * i.size ∧
      (∀ (j : Nat) (v : Value), (olds ++ (Builtin.zeroCells zv.cells m).toList)[j]? = some v → cs[j]? = some v) ∧ ∀ (j : Nat) (v : Value), cs[j]? = some v → v ∈ olds ∨ v ∈ zv.cells.toList := by
  have hcut : sLen + m ≤ grownCap w (sLen + m) sCap e := by simp only [grownCap, Question.cut]; omega
  have hzl : (Builtin.zeroCells zv.cells m).size = m * i.size := by rw [zeroCells_size, hzs]
  refine ⟨grownCap w (sLen + m) sCap e, olds.toArray ++ Builtin.zeroCells zv.cells m ++ Builtin.zeroCells zv.cells (grownCap w (sLen + m) sCap e - (sLen + m)), ?_, hcut, ?_, ?_, ?_⟩
  · have hnn : ¬ (sLen + m ≤ sCap) := by omega
    have hfit := growslice_fits (bytes := i.bytes) hg (by omega)
    have h48' : ¬ (Builtin.nextslicecap (sLen + m) sCap * i.bytes > 2 ^ 48) := by omega
    have h63' : ¬ (((sLen + m : Nat) : Int) > IntKind.i64.max) := by simp only [IntKind.max, IntKind.signed, IntKind.bits]; simp; omega
    have hwm : IntKind.i64.wrap ((m : Nat) : Int) = (m : Int) := by
      simp [IntKind.wrap, IntKind.bits, IntKind.signed]; omega
    have hneg : ¬ ((m : Int) < 0) := by omega
    have hmb : m * i.bytes ≤ 70368744177664 := Nat.le_trans (Nat.mul_le_mul_right _ (Nat.le_add_left m sLen)) h46
    have hbig : ¬ ((m : Int) * (i.bytes : Int) > 2 ^ 48) := by
      have : (m : Int) * (i.bytes : Int) = ((m * i.bytes : Nat) : Int) := by simp
      rw [this]; omega
    have hfo := fc_run (P := P) (w := { w with drawn := w.drawn + 1 }) (A := B) (m := sLen) (m' := sLen) (k := sCap) (z := i.size) (xs := olds) hlo (fun j v hj => hlod j v hj)
    have hz' : (zeroValue e).run P { w with drawn := w.drawn + 1 } = .ok zv { w with drawn := w.drawn + 1 } := by
      cases hzz : i.zero with
      | none => simp [zeroValue, typeInfo, hi, hzz] at hzv
      | some zz =>
        simp [zeroValue, typeInfo, hi, hzz] at hzv ⊢
        exact hzv
    simp only [Builtin.append_, List.getElem?_toArray, List.getElem?_cons_zero, List.getElem?_cons_succ, Sem.run_bind, run_underlying ht, run_underlying hu, Result.andThen_ok, sizeOf, typeInfo, run_program, hi, Sem.run_pure, if_true, asInt, asIntOf, hwm, if_neg hneg, if_neg hbig, Int.toNat_natCast, if_neg hnn]
    rw [if_neg (fun hh => h63' hh.1)]
    simp only [Sem.run_bind, run_program, Result.andThen_ok, hi, Sem.run_pure]
    rw [if_neg h48']
    simp only [hi, run_program, Sem.run_bind, run_choose, Question.forced, Bool.false_eq_true, if_false, Result.andThen_ok, run_askRoom, hfo, hz', Bool.not_true, if_true, Sem.run_pure, newRow, run_newObj]
    have hz'' : (zeroValue e).run P w.drew = .ok zv w.drew := hz'
    by_cases h0 : m * i.size = 0
    · have hm0 : m = 0 := by rcases Nat.mul_eq_zero.1 h0 with h' | h' <;> omega
      subst hm0
      have hzc0 : Builtin.zeroCells zv.cells 0 = #[] := by simp [Builtin.zeroCells]
      simp [grownCap, hz'', hzc0]
      rfl
    · simp [grownCap, hz'', h0]
      rfl
  · simp only [Array.size_append, List.size_toArray, hlo, hzl, zeroCells_size, hzs]
    rw [← Nat.add_mul, ← Nat.add_mul]
    congr 1
    omega
  · intro j v hj
    have hlt : j < (olds ++ (Builtin.zeroCells zv.cells m).toList).length := by
      rcases Nat.lt_or_ge j (olds ++ (Builtin.zeroCells zv.cells m).toList).length with h' | h'
      · exact h'
      · rw [List.getElem?_eq_none h'] at hj; cases hj
    rw [Array.getElem?_append_left (by simpa using hlt)]
    have : (olds.toArray ++ Builtin.zeroCells zv.cells m).toList = olds ++ (Builtin.zeroCells zv.cells m).toList := by simp
    rw [← this, Array.getElem?_toList] at hj
    exact hj
  · intro j v hj
    have hm := Array.mem_of_getElem? hj
    rw [Array.mem_append, Array.mem_append] at hm
    rcases hm with (hm | hm) | hm
    · exact .inl (by simpa using hm)
    · exact .inr (zeroCells_mem hm)
    · exact .inr (zeroCells_mem hm)

theorem s_appz (h : StRel en c st a w) (hd : ∀ d, o.dst = some d → d < a.tmps.size) {t u e : TypeId} {x y : Operand} {i : TypeInfo} {ik : IntKind} {zero : List AV} (ho : o.op = .call { callee := .builtin .append, args := #[x, y], argTypes := #[t, u] })
    (ht : P.underlying t = some (.slice e)) (hu : P.underlying u = some (.int ik)) (hi : P.info? e = some i) (hz0 : 0 < i.size) (hzero : zeroT P e = some zero) (hzl : zero.length = i.size)
    {K : St → Prop} (hk : appzW st o.dst K i.size i.bytes zero (ev st.get (cS x)) (intA (ev st.get (cS y)))) : SoundK P en c a w o K := by
  obtain ⟨zv, hz1, hz2, hz3, _⟩ := zeroT_run hzero w
  have hzs : zv.cells.size = i.size := by have := VRels.length (hz2 c w); simp at this; omega
  have hx := cS_rel h x
  have hy := cS_rel h y
  unfold appzW at hk
  split at hk
  · rename_i i' z' off len n he hn
    rw [he] at hx
    split at hk
    · rename_i ob hob
      obtain ⟨q1, q2, q3, q4, ⟨k, qk1, qk2⟩, q5, q6, hk⟩ := hk
      subst q1
      simp only [VRel] at hx
      obtain ⟨hal, _, B, kb, ex, k1, k2, k3⟩ := hx
      obtain ⟨_, m1, m2, m3, m4, xs, m5, m6, m7⟩ := h.objs i' ob hob
      rw [q2] at m2 m3 m4
      have hxl := VRelss.length m5 m2
      have hcap : off + kb = k := by
        have := m4 k qk1
        rw [← k2] at this
        exact Nat.eq_of_mul_eq_mul_right hz0 this
      obtain ⟨xk, hie⟩ : ∃ xk, a.eval y = .int xk n := by
        unfold intA at hn
        split at hn
        · rename_i ik' m hev
          simp only [Option.some.injEq] at hn
          subst hn
          rw [hev] at hy
          exact ⟨ik', rel_s.1 hy⟩
        · cases hn
      obtain ⟨m, rfl⟩ : ∃ m : Nat, n = m := ⟨n.toNat, (Int.toNat_of_nonneg q3).symm⟩
      simp only [Int.toNat_natCast] at q5 q6 qk2 hk
      -- the elements that are there
      have hle2 : (off + len) * i.size ≤ ob.es.length * i.size := Nat.mul_le_mul_right _ q4
      have hexp : (off + len) * i.size = off * i.size + len * i.size := Nat.add_mul _ _ _
      have hdz : ∀ x ∈ (ob.es.drop off).take len, x.length = i.size := fun x hx => m2 x (List.mem_of_mem_drop (List.mem_of_mem_take hx))
      have hdr : VRelss c w ((ob.es.drop off).take len) ((xs.drop (off * i.size)).take (len * i.size)) := by
        have := VRels.take (VRels.drop (VRelss.flatten.1 m5) (off * i.size)) (len * i.size)
        rw [flatten_drop m2, flatten_take (fun e he => m2 e (List.mem_of_mem_drop he))] at this
        exact VRelss.flatten.2 this
      have hdl : ((xs.drop (off * i.size)).take (len * i.size)).length = len * i.size := by simp; omega
      have hel : ((ob.es.drop off).take len).length = len := by simp; omega
      have hread : ∀ (j : Nat) (v : Value), ((xs.drop (off * i.size)).take (len * i.size))[j]? = some v → ∃ ad, B = some ad ∧ w.cell? (ad.add j) = some v := fun j v hj => by
        have hjl : j < len * i.size := by
          rcases Nat.lt_or_ge j (len * i.size) with h' | h'
          · exact h'
          · rw [List.getElem?_eq_none (by omega)] at hj; cases hj
        have hlp : 0 < len := by
          rcases Nat.eq_zero_or_pos len with h0 | h0
          · subst h0; simp at hjl
          · exact h0
        have hcp : 0 < (c.mu i').cap := by rw [← k2]; exact Nat.mul_pos (by omega) hz0
        obtain ⟨cs, e', p1, p2, p3, _⟩ := m7 hcp
        refine ⟨_, k3 (by omega), ?_⟩
        rw [List.getElem?_take, if_pos hjl, List.getElem?_drop] at hj
        rw [addz, cell_of_block p1, Nat.add_assoc]
        exact p3 _ _ hj
      obtain ⟨cap, cs, hrun, hc1, hc2, hc3, hc4⟩ := run_appz_grow (P := P) (w := w) (ty := o.type) (B := B) (sLen := len) (sCap := kb) (m := m) (xk := xk) (olds := (xs.drop (off * i.size)).take (len * i.size)) ht hu hi hz1 hzs hz0 hdl hread (by omega) q5 q6
      have hone : One ((xs.drop (off * i.size)).take (len * i.size)) := fun v hv => m6 v (List.mem_of_mem_drop (List.mem_of_mem_take hv))
      have hzc : (Builtin.zeroCells zv.cells m).toList = (List.replicate m zv.cells.toList).flatten := by
        have := range_rep zv.cells hzs hz0 m
        unfold Builtin.zeroCells
        rw [hzs]
        rw [hzs] at this
        exact this
      have hS := app_new (e := e) (z := i.size) (cap := cap) (m := len + m) (cs := cs) (es := (ob.es.drop off).take len ++ List.replicate m zero) (xs := (xs.drop (off * i.size)).take (len * i.size) ++ (Builtin.zeroCells zv.cells m).toList) h hd hz0
        (fun x hx => by
          rcases List.mem_append.1 hx with hx | hx
          · exact hdz x hx
          · rw [List.eq_of_mem_replicate hx]; exact hzl)
        (by
          refine VRelss.flatten.2 ?_
          rw [List.flatten_append, hzc]
          exact VRels.append (VRelss.flatten.1 hdr) (rep_rels (hz2 c w) m))
        (fun v hv => by
          rcases List.mem_append.1 hv with hv | hv
          · exact hone v hv
          · exact hz3 v (zeroCells_mem (by simpa using hv)))
        (by rw [List.length_append, hel, List.length_replicate]) hc1 hc2 hc3
        (fun j v hj => (hc4 j v hj).elim (hone v) (fun hm => hz3 v hm))
        (app_exec ho (by rw [ex, hie]; exact hrun))
      obtain ⟨nx, v, w', c', r1, r2, r3, r4⟩ := hS
      have hnx : nx = .value v := by
        rw [app_exec ho (by rw [ex, hie]; exact hrun)] at r1
        rcases r2 with r2 | ⟨r2, _⟩
        · exact r2
        · rw [r2] at r1; cases r1
      subst hnx
      exact ⟨v, w', c', _, r1, hk, r3, r4⟩
    · exact hk.elim
  · exact hk.elim
end

/-! ### What the translation of an operation says of it -/
theorem inv_slc {P : Program} {ty : TypeId} {op : Op} {z : Nat} {x' hi' : Opd} {lo' : Option Opd} (h : cOp P ty op = some (.slc z x' lo' (some hi') none)) :
    ∃ t e x lo hi, op = .slice t x lo (some hi) none ∧ P.underlying t = some (.slice e) ∧ szOf P e = some z ∧ x' = cS x ∧ lo' = cSm lo ∧ hi' = cS hi := by
  cases op
  case slice t x lo hi mx =>
    simp only [cOp] at h
    split at h
    · rename_i e ht
      split at h
      · rename_i z' hz
        obtain ⟨_, h⟩ := ite_opt h
        simp only [Option.some.injEq, AOp.slc.injEq] at h
        obtain ⟨rfl, rfl, h1, h2, h3⟩ := h
        cases mx with
        | some m => simp [cSm] at h3
        | none => cases hi with
          | none => simp [cSm] at h2
          | some hi =>
            simp only [cSm, Option.some.injEq] at h2
            exact ⟨t, e, x, lo, hi, rfl, ht, hz, rfl, h1.symm, h2.symm⟩
      · cases h
    · split at h <;> cases h
    · cases h
  all_goals (exfalso; revert h; simp only [cOp]; (repeat' split) <;> intro h <;> first | cases h | (simp at h; done) | (obtain ⟨_, _, h⟩ := Option.bind_eq_some_iff.1 h; first | cases h | (obtain ⟨_, h⟩ := ite_opt h; cases h)) | (obtain ⟨_, h⟩ := ite_opt h; first | cases h | (simp at h; done) | (simp [Option.bind_eq_some_iff] at h; done) | (revert h; (repeat' split) <;> intro h <;> first | cases h | (simp at h; done) | (obtain ⟨_, _, h⟩ := Option.bind_eq_some_iff.1 h; first | cases h | (obtain ⟨_, h⟩ := ite_opt h; cases h)) | (obtain ⟨_, h⟩ := ite_opt h; first | cases h | (simp at h; done)))) | (simp [Option.bind_eq_some_iff] at h; done))

theorem altop_sound {P : Program} {en : Env} {c : Cx} {st : St} {a : Act} {w : World} {o : Oper} (h : StRel en c st a w) (hd : ∀ d, o.dst = some d → d < a.tmps.size) {ao : AOp} (hc : cAlt P o.op = some ao) {K : St → Prop} (hk : altW st o.dst K ao) : SoundK P en c a w o K := by
  obtain ⟨x, hx⟩ : ∃ x, x = o.op := ⟨_, rfl⟩
  rw [← hx] at hc
  have hx := hx.symm
  unfold cAlt at hc
  split at hc
  · split at hc
    · rename_i e ht
      split at hc
      · simp only [Option.some.injEq] at hc
        subst hc
        exact s_nilS (neg := false) h hd hx ht hk
      · simp only [Option.some.injEq] at hc
        subst hc
        exact s_nilS (neg := true) h hd hx ht hk
      · cases hc
    · cases hc
  · rename_i cl _
    obtain ⟨callee, args, ts⟩ := cl
    simp only at hc
    generalize ha : args.toList = A at hc
    generalize hts : ts.toList = T at hc
    split at hc
    · rename_i x t _
      obtain rfl : args = #[x] := Array.ext' ha
      obtain rfl : ts = #[t] := Array.ext' hts
      split at hc
      · rename_i e ht
        simp only [Option.some.injEq] at hc
        subst hc
        exact s_capS h hd hx ht hk
      · cases hc
    · rename_i x y t u _
      obtain rfl : args = #[x, y] := Array.ext' ha
      obtain rfl : ts = #[t, u] := Array.ext' hts
      split at hc
      · rename_i e ik ht hu
        split at hc
        · rename_i i zero hi hz
          obtain ⟨⟨g1, g2⟩, hc⟩ := ite_opt hc
          simp only [Option.some.injEq] at hc
          subst hc
          exact s_appz h hd hx ht hu hi g1 hz g2 hk
        · cases hc
      · cases hc
    · cases hc
  · cases hc

theorem alt_sound {P : Program} {en : Env} {c : Cx} {st : St} {a : Act} {w : World} {o : Oper} (h : StRel en c st a w) (hd : ∀ d, o.dst = some d → d < a.tmps.size) {ao : AOp} (hc : cOp P o.type o.op = some ao) (hn : isAlt ao = false) {K : St → Prop} (hk : altW st o.dst K ao) : SoundK P en c a w o K := by
  cases ao with
  | nilS neg y => cases hn
  | capS y => cases hn
  | appz z bytes zero x' y' => cases hn
  | slc z x' lo hi mx =>
    cases hi with
    | none => cases lo <;> exact hk.elim
    | some hi => cases mx with
      | some m => cases lo <;> exact hk.elim
      | none =>
        obtain ⟨t, e, x, lo, hi, ho, ht, hz, rfl, rfl, rfl⟩ := inv_slc hc
        exact s_slx h hd ho ht hz hk
  | _ => exact hk.elim
end Go.Den
