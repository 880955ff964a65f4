/-
  Den, part G: the operations that compute a value out of values.
-/
import Derived.Test.YtcmgfnhlnefchaaDenF
namespace Go.Den
set_option linter.unusedVariables false
set_option linter.unusedSimpArgs false

section
variable {P : Program} {en : Env} {c : Cx} {st : St} {a : Act} {w : World} {o : Oper} {r : Res} {n site : Nat}

theorem s_nilck (h : StRel en c st a w) (hd : ∀ d, o.dst = some d → d < a.tmps.size) {x : Operand} (ho : o.op = .nilCheck x)
    (hs : stepA st.get st.ob n site (.nilck (cS x)) = some r) : Sound P en c st a w o r := by
  have hx := cS_rel h x
  simp only [stepA] at hs
  split at hs
  · rename_i i z k off he
    rw [he] at hx
    simp only [Option.some.injEq] at hs
    subst hs
    refine sound_val h (v := a.eval x) ?_ hx hd
    simp only [VRel] at hx
    simp [execOp, ho, hx.2]
  · rename_i es z k off he
    rw [he] at hx
    simp only [Option.some.injEq] at hs
    subst hs
    refine sound_val h (v := a.eval x) ?_ hx hd
    simp only [VRel] at hx
    obtain ⟨b, p, xs, e, _⟩ := hx
    simp [execOp, ho, e]
  · rename_i fn caps he
    rw [he] at hx
    simp only [Option.some.injEq] at hs
    subst hs
    refine sound_val h (v := a.eval x) ?_ hx hd
    simp only [VRel] at hx
    obtain ⟨xs, e, _⟩ := hx
    simp [execOp, ho, e]
  · cases hs

theorem binV_run {op : BinOp} {t : TypeId} {x y v : Value} (hb : binV op x y = some v) : (binOp op t x y).run P w = .ok v w := by
  unfold binV at hb
  split at hb
  · rename_i k p k' q
    cases op <;> simp only at hb
    case shl =>
      split at hb
      · cases hb
      · rename_i hq; simp only [Option.some.injEq] at hb; subst hb; simp [binOp, Op.shift, hq]
    case shr =>
      split at hb
      · cases hb
      · rename_i hq; simp only [Option.some.injEq] at hb; subst hb; simp [binOp, Op.shift, hq]
    case quo =>
      obtain ⟨hk, hb⟩ := ite_opt hb
      split at hb
      · cases hb
      · rename_i hq; simp only [Option.some.injEq] at hb; subst hb; simp [binOp, hk, Op.intDiv, hq]
    case rem =>
      obtain ⟨hk, hb⟩ := ite_opt hb
      split at hb
      · cases hb
      · rename_i hq; simp only [Option.some.injEq] at hb; subst hb; simp [binOp, hk, Op.intDiv, hq]
    all_goals
      obtain ⟨hk, hb⟩ := ite_opt hb
      simp only [Option.some.injEq] at hb
      subst hb
      simp [binOp, hk, Op.intArith, Op.intBits, Op.intCmp]
  · rename_i p q
    cases op <;> simp only at hb
    case add =>
      obtain ⟨hk, hb⟩ := ite_opt hb
      simp only [Option.some.injEq] at hb
      subst hb
      have : ¬ (((p.size + q.size : Nat) : Int) > IntKind.i64.max) := by simp only [IntKind.max, IntKind.signed, IntKind.bits]; simp; omega
      simp [binOp, Op.stringOp]
      omega
    all_goals cases hb
    all_goals simp [binOp, Op.stringOp]
  · cases hb

theorem binV_guard {op : BinOp} {t : TypeId} {X Y : Operand} {x y v : Value} (hb : binV op x y = some v) : (eqGuard op t X Y x y).run P w = .ok () w := by
  unfold binV at hb
  split at hb
  · cases op <;> simp [eqGuard]
  · cases op <;> simp [eqGuard]
  · cases hb

theorem s_bin (h : StRel en c st a w) (hd : ∀ d, o.dst = some d → d < a.tmps.size) {op : BinOp} {t yt : TypeId} {x y : Operand} (ho : o.op = .binOp op t x y yt)
    (hs : stepA st.get st.ob n site (.bin op (cS x) (cS y)) = some r) : Sound P en c st a w o r := by
  have hx := cS_rel h x
  have hy := cS_rel h y
  simp only [stepA] at hs
  split at hs
  · rename_i u v he1 he2
    rw [he1] at hx
    rw [he2] at hy
    simp only [Option.map_eq_some_iff] at hs
    obtain ⟨q, hq, rfl⟩ := hs
    refine sound_val h (v := q) ?_ (rel_s.2 rfl) hd
    simp only [execOp, ho, rel_s.1 hx, rel_s.1 hy]
    exact run_v (by simp [binV_guard hq, binV_run hq])
  · cases hs

theorem s_eqB (h : StRel en c st a w) (hd : ∀ d, o.dst = some d → d < a.tmps.size) {neg : Bool} {t yt : TypeId} {x y : Operand} (ho : o.op = .binOp (if neg then .neq else .eql) t x y yt) (ht : P.underlying t = some .bool)
    (hs : stepA st.get st.ob n site (.eqB neg (cS x) (cS y)) = some r) : Sound P en c st a w o r := by
  have hx := cS_rel h x
  have hy := cS_rel h y
  simp only [stepA] at hs
  split at hs
  · rename_i u v he1 he2
    rw [he1] at hx
    rw [he2] at hy
    simp only [Option.some.injEq] at hs
    subst hs
    refine sound_val h (v := .bool (if neg then !(u == v) else u == v)) ?_ (rel_s.2 rfl) hd
    simp only [execOp, ho, rel_s.1 hx, rel_s.1 hy]
    refine run_v ?_
    cases neg
    · simp [eqGuard, binOp, Op.equal, Op.maxDepth, run_equalIn_bool' w _ t _ _ ht]
    · simp [eqGuard, binOp, Op.equal, Op.maxDepth, run_equalIn_bool' w _ t _ _ ht]
  · cases hs

theorem s_un (h : StRel en c st a w) (hd : ∀ d, o.dst = some d → d < a.tmps.size) {op : UnOp} {t : TypeId} {x : Operand} (ho : o.op = .unOp op t x)
    (hs : stepA st.get st.ob n site (.un op (cS x)) = some r) : Sound P en c st a w o r := by
  have hx := cS_rel h x
  simp only [stepA] at hs
  split at hs
  · rename_i b he
    rw [he] at hx
    simp only [Option.some.injEq] at hs
    subst hs
    refine sound_val h (v := .bool (!b)) ?_ (rel_s.2 rfl) hd
    simp only [execOp, ho, rel_s.1 hx]
    exact run_v (by simp [Op.unary])
  · rename_i k q he
    rw [he] at hx
    simp only [Option.some.injEq] at hs
    subst hs
    refine sound_val h (v := .int k (k.wrap (0 - q))) ?_ (rel_s.2 rfl) hd
    simp only [execOp, ho, rel_s.1 hx]
    exact run_v (by simp [Op.unary, Op.intArith])
  · cases hs

theorem s_cvI (h : StRel en c st a w) (hd : ∀ d, o.dst = some d → d < a.tmps.size) {src dst : TypeId} {x : Operand} {k k0 : IntKind} (ho : o.op = .convert src dst x) (h1 : P.underlying src = some (.int k0)) (h2 : P.underlying dst = some (.int k))
    (hs : stepA st.get st.ob n site (.cvI k (cS x)) = some r) : Sound P en c st a w o r := by
  have hx := cS_rel h x
  simp only [stepA] at hs
  split at hs
  · rename_i k' q he
    rw [he] at hx
    simp only [Option.some.injEq] at hs
    subst hs
    refine sound_val h (v := .int k (k.wrap q)) ?_ (rel_s.2 rfl) hd
    simp only [execOp, ho, rel_s.1 hx]
    exact run_v (by simp [convert, run_underlying h1, run_underlying h2, Conv.intToInt])
  · cases hs

theorem maps_rel (h : StRel en c st a w) : ∀ (l : List Operand), VRels c w ((l.map cS).map (ev st.get)) (l.map a.eval)
  | [] => by simp [VRels]
  | x :: l => by simp only [List.map_cons, VRels]; exact ⟨_, _, rfl, cS_rel h x, maps_rel h l⟩

theorem s_mkf (h : StRel en c st a w) (hd : ∀ d, o.dst = some d → d < a.tmps.size) {fn : FuncId} {caps : Array Operand} (ho : o.op = .makeFunc (.func fn) #[] caps)
    (hs : stepA st.get st.ob n site (.mkf fn (caps.toList.map cS)) = some r) : Sound P en c st a w o r := by
  simp only [stepA, Option.some.injEq] at hs
  subst hs
  refine sound_val h (v := .func (.func fn) #[] (caps.map a.eval)) ?_ ?_ hd
  · simp only [execOp, ho]
    exact run_v (by simp [Instr.makeFunc])
  · simp only [VRel]
    refine ⟨_, rfl, ?_⟩
    have := maps_rel h caps.toList
    simpa using this

theorem bnd_run {d : Nat} {hi : Int} {x : Operand} {m : Nat} (h : StRel en c st a w) (hb : bndA st.get d hi (some (cS x)) = some m) : ∃ k : IntKind, ∃ q : Int, a.eval x = .int k q ∧ 0 ≤ q ∧ q ≤ hi ∧ m = q.toNat := by
  simp only [bndA] at hb
  split at hb
  · rename_i q hq
    obtain ⟨hq2, hb⟩ := ite_opt hb
    simp only [Option.some.injEq] at hb
    obtain ⟨k, hk⟩ := intA_rel hq (cS_rel h x)
    exact ⟨k, q, hk, hq2.1, hq2.2, hb.symm⟩
  · cases hb

/-- What the bounds of a slice expression come to. -/
theorem bounds_run (h : StRel en c st a w) {isS : Bool} {len cap : Nat} {lo hi : Option Operand} {l hh : Nat} (hhi : bndA st.get len len (cSm hi) = some hh) (hlo : bndA st.get 0 hh (cSm lo) = some l) (hc : len ≤ cap) :
    (Instr.sliceBounds isS len cap (lo.map a.eval) (hi.map a.eval) none).run P w = .ok (l, hh, cap) w ∧ l ≤ hh ∧ hh ≤ len := by
  have h1 : hh ≤ len := by
    cases hi with
    | none => simp [cSm, bndA] at hhi; omega
    | some x => obtain ⟨k, q, _, h2, h3, h4⟩ := bnd_run h hhi; omega
  have h2 : l ≤ hh := by
    cases lo with
    | none => simp [cSm, bndA] at hlo; omega
    | some x => obtain ⟨k, q, _, h2, h3, h4⟩ := bnd_run h hlo; omega
  refine ⟨?_, h2, h1⟩
  have ehi : ∀ (code : BoundsCode) (x : Operand), hi = some x → (Instr.sliceBound (a.eval x) cap code).run P w = .ok hh w := by
    intro code x hx
    subst hx
    obtain ⟨k, q, e, g1, g2, g3⟩ := bnd_run h hhi
    rw [e, run_sliceBound w k q cap code g1 (by omega), g3]
  have elo : ∀ (code : BoundsCode) (x : Operand), lo = some x → (Instr.sliceBound (a.eval x) hh code).run P w = .ok l w := by
    intro code x hx
    subst hx
    obtain ⟨k, q, e, g1, g2, g3⟩ := bnd_run h hlo
    rw [e, run_sliceBound w k q hh code g1 (by omega), g3]
  cases hi with
  | none =>
    simp only [cSm, bndA, Option.some.injEq] at hhi
    subst hhi
    cases lo with
    | none => simp only [cSm, bndA, Option.some.injEq] at hlo; subst hlo; simp [Instr.sliceBounds]
    | some x => simp [Instr.sliceBounds, elo _ x rfl]
  | some y =>
    cases lo with
    | none => simp only [cSm, bndA, Option.some.injEq] at hlo; subst hlo; simp [Instr.sliceBounds, ehi _ y rfl]
    | some x => simp [Instr.sliceBounds, ehi _ y rfl, elo _ x rfl]

/-- With a third index. -/
theorem bounds_run3 (h : StRel en c st a w) {isS : Bool} {len cap : Nat} {lo hi : Option Operand} {mx : Operand} {l hh m : Nat} (hm : bndA st.get 0 len (some (cS mx)) = some m) (hhi : bndA st.get len m (cSm hi) = some hh) (hlo : bndA st.get 0 hh (cSm lo) = some l) (hhm : hh ≤ m) (hsome : hi.isSome = true) (hc : len ≤ cap) :
    (Instr.sliceBounds isS len cap (lo.map a.eval) (hi.map a.eval) (some (a.eval mx))).run P w = .ok (l, hh, m) w ∧ l ≤ hh ∧ m ≤ len := by
  obtain ⟨km, qm, em, m1, m2, m3⟩ := bnd_run h hm
  have h2 : l ≤ hh := by
    cases lo with
    | none => simp [cSm, bndA] at hlo; omega
    | some x => obtain ⟨k, q, _, h2, h3, h4⟩ := bnd_run h hlo; omega
  refine ⟨?_, h2, by omega⟩
  cases hi with
  | none => cases hsome
  | some y =>
    obtain ⟨kh, qh, eh, g1, g2, g3⟩ := bnd_run h hhi
    have e1 : ∀ code, (Instr.sliceBound (a.eval mx) cap code).run P w = .ok m w := fun code => by rw [em, run_sliceBound w km qm cap code m1 (by omega), m3]
    have e2 : ∀ code, (Instr.sliceBound (a.eval y) m code).run P w = .ok hh w := fun code => by rw [eh, run_sliceBound w kh qh m code g1 (by omega), g3]
    cases lo with
    | none => simp only [cSm, bndA, Option.some.injEq] at hlo; subst hlo; simp [Instr.sliceBounds, e1, e2]
    | some x =>
      obtain ⟨kl, ql, el, k1, k2, k3⟩ := bnd_run h hlo
      have e3 : ∀ code, (Instr.sliceBound (a.eval x) hh code).run P w = .ok l w := fun code => by rw [el, run_sliceBound w kl ql hh code k1 (by omega), k3]
      simp [Instr.sliceBounds, e1, e2, e3]

theorem map_cS (lo : Option Operand) (f : Operand → Value) : (lo.map f) = lo.map f := rfl

/-- A part of a slice that nobody writes. -/
theorem rel_d_cut {full full' : Bool} {z : Nat} {es : List (List AV)} {A : Option Addr} {k l hh m : Nat} (hr : VRel c w (.d full z es) (.slice A es.length k)) (h1 : l ≤ hh) (h2 : hh ≤ es.length) (h3 : hh ≤ m) (h4 : m ≤ k) (hf : full' = true → m = hh) :
    VRel c w (.d full' z ((es.take hh).drop l)) (.slice (if m = l then A else A.map (·.add (l * z))) (hh - l) (m - l)) := by
  simp only [VRel] at hr ⊢
  obtain ⟨A', k', xs, e, g1, g2, g3, g4, g5, g6, g7⟩ := hr
  injection e with e1 e2 e3
  subst e1; subst e3
  have hlen : ((es.take hh).drop l).length = hh - l := by simp; omega
  have hx : VRels c.data w ((es.take hh).drop l).flatten ((xs.take (hh * z)).drop (l * z)) := by
    have := VRels.drop (VRels.take (VRelss.flatten.1 g5) (hh * z)) (l * z)
    rw [flatten_take g4, flatten_drop (fun e he => g4 e (List.mem_of_mem_take he))] at this
    exact this
  refine ⟨_, m - l, (xs.take (hh * z)).drop (l * z), by rw [hlen], by rw [hlen]; omega, fun hh' => by rw [hlen, hf hh'], g3, fun e he => g4 e (List.mem_of_mem_take (List.mem_of_mem_drop he)), VRelss.flatten.2 hx, fun v hv => g6 v (List.mem_of_mem_take (List.mem_of_mem_drop hv)), fun hne => ?_⟩
  have hxl := VRelss.length g5 g4
  have hlt : l < hh := by
    rcases Nat.lt_or_ge l hh with h' | h'
    · exact h'
    · exfalso; apply hne; simp; have := Nat.mul_le_mul_right z h'; omega
  obtain ⟨b, p, rfl, hh'⟩ := g7 (by intro e0; simp [e0] at hne)
  refine ⟨b, p + l * z, by rw [if_neg (by omega)]; simp [addz], fun j v hj => ?_⟩
  have hjl : l * z + j < hh * z := by
    rcases Nat.lt_or_ge (l * z + j) (hh * z) with h' | h'
    · exact h'
    · rw [List.getElem?_drop, List.getElem?_take, if_neg (by omega)] at hj; cases hj
  rw [List.getElem?_drop, List.getElem?_take, if_pos hjl] at hj
  have := hh' _ v hj
  rwa [← Nat.add_assoc] at this

theorem s_slc (h : StRel en c st a w) (hd : ∀ d, o.dst = some d → d < a.tmps.size) {t e : TypeId} {x : Operand} {lo hi mx : Option Operand} {z : Nat} (ho : o.op = .slice t x lo hi mx) (ht : P.underlying t = some (.slice e)) (hz : szOf P e = some z) (hz0 : 0 < z) (hmx : mx.isSome = true → hi.isSome = true)
    (hs : stepA st.get st.ob n site (.slc z (cS x) (cSm lo) (cSm hi) (cSm mx)) = some r) : Sound P en c st a w o r := by
  have hx := cS_rel h x
  have run : ∀ {A : Option Addr} {len cap l hh m : Nat}, a.eval x = .slice A len cap → (Instr.sliceBounds true len cap (lo.map a.eval) (hi.map a.eval) (mx.map a.eval)).run P w = .ok (l, hh, m) w →
      (execOp a.eval o).run P w = .ok (.value (.slice (if m = l then A else A.map (·.add (l * z))) (hh - l) (m - l))) w := by
    intro A len cap l hh m he hb
    simp only [execOp, ho, he]
    exact run_v (by simp [Instr.sliceAt, run_underlying ht, Instr.slice, hb, szOf_run hz])
  simp only [stepA] at hs
  split at hs
  · -- data
    rename_i full z' es he
    rw [he] at hx
    have hx0 := hx
    simp only [VRel] at hx
    obtain ⟨A, k, xs, ex, g1, g2, g3, _⟩ := hx
    rw [ex] at hx0
    split at hs
    · rename_i hmx0
      have hmxn : mx = none := by cases mx <;> simp [cSm] at hmx0 ⊢
      subst hmxn
      split at hs
      · rename_i hh hhi
        split at hs
        · rename_i l hlo
          replace hs := bif_opt hs; obtain ⟨hb, hs⟩ := hs
          have hzz := Nat.eq_of_beq_eq_true hb
          subst hzz
          simp only [Option.some.injEq] at hs
          subst hs
          obtain ⟨hr, hl, hhl⟩ := bounds_run (P := P) (isS := true) h hhi hlo g1
          refine sound_val h (run ex hr) (rel_d_cut hx0 hl hhl (by omega) (Nat.le_refl _) (fun hf => ?_)) hd
          simp only [Bool.and_eq_true] at hf
          have := g2 hf.1
          have := Nat.eq_of_beq_eq_true hf.2
          omega
        · cases hs
      · cases hs
    · rename_i m0 hmx0
      cases mx with
      | none => simp [cSm] at hmx0
      | some mo =>
        simp only [cSm, Option.some.injEq] at hmx0
        subst hmx0
        split at hs
        · rename_i m hm
          split at hs
          · rename_i hh hhi
            split at hs
            · rename_i l hlo
              replace hs := bif_opt hs; obtain ⟨hb, hs⟩ := hs
              simp only [Bool.and_eq_true] at hb
              have hzz := Nat.eq_of_beq_eq_true hb.1
              subst hzz
              have hhm := Nat.le_of_ble_eq_true hb.2
              simp only [Option.some.injEq] at hs
              subst hs
              obtain ⟨hr, hl, hml⟩ := bounds_run3 (P := P) (isS := true) h hm hhi hlo hhm (hmx rfl) g1
              refine sound_val h (run ex hr) (rel_d_cut hx0 hl (by omega) hhm (by omega) (fun hf => (Nat.eq_of_beq_eq_true hf).symm)) hd
            · cases hs
          · cases hs
        · cases hs
  · -- owned
    rename_i i z' off len he
    rw [he] at hx
    simp only [VRel] at hx
    obtain ⟨hal, g3, A, k, ex, g1, g2, g4⟩ := hx
    split at hs
    · rename_i hmx0
      have hmxn : mx = none := by cases mx <;> simp [cSm] at hmx0 ⊢
      subst hmxn
      split at hs
      · rename_i hh hhi
        split at hs
        · rename_i l hlo
          replace hs := bif_opt hs; obtain ⟨hb, hs⟩ := hs
          have hzz := Nat.eq_of_beq_eq_true hb
          subst hzz
          simp only [Option.some.injEq] at hs
          subst hs
          obtain ⟨hr, hl, hhl⟩ := bounds_run (P := P) (isS := true) h hhi hlo g1
          refine sound_val h (run ex hr) ?_ hd
          simp only [VRel]
          refine ⟨hal, g3, _, k - l, rfl, by omega, ?_, fun hk => ?_⟩
          · rw [← g2]; congr 1; omega
          · rw [if_neg (by omega), g4 (by omega)]
            simp only [Option.map_some, addz, Option.some.injEq, Addr.mk.injEq, and_true, true_and]
            rw [Nat.add_mul]; omega
        · cases hs
      · cases hs
    · rename_i m0 hmx0
      cases mx with
      | none => simp [cSm] at hmx0
      | some mo =>
        simp only [cSm, Option.some.injEq] at hmx0
        subst hmx0
        split at hs
        · rename_i m hm
          split at hs
          · rename_i hh hhi
            split at hs
            · rename_i l hlo
              replace hs := bif_opt hs; obtain ⟨hb, hs⟩ := hs
              simp only [Bool.and_eq_true] at hb
              have hhm := Nat.le_of_ble_eq_true hb.2
              simp only [Option.some.injEq] at hs
              subst hs
              obtain ⟨hr, hl, hml⟩ := bounds_run3 (P := P) (isS := true) h hm hhi hlo hhm (hmx rfl) g1
              exact sound_val h (run ex hr) (by simp [VRel]) hd
            · cases hs
          · cases hs
        · cases hs
  · -- nil
    rename_i v he
    rw [he] at hx
    replace hs := bif_opt hs; obtain ⟨hn, hs⟩ := hs
    unfold isNilS at hn
    split at hn
    · have ex := rel_s.1 hx
      split at hs
      · rename_i hh l hhi hlo hmx0
        have hmxn : mx = none := by cases mx <;> simp [cSm] at hmx0 ⊢
        subst hmxn
        simp only [Option.some.injEq] at hs
        subst hs
        have hh0 : hh = 0 := by
          cases hi with
          | none => simp [cSm, bndA] at hhi; omega
          | some y => obtain ⟨k, q, _, h2, h3, h4⟩ := bnd_run h hhi; omega
        subst hh0
        obtain ⟨hr, hl, hhl⟩ := bounds_run (P := P) (isS := true) (cap := 0) h hhi hlo (Nat.le_refl _)
        refine sound_val h (run ex hr) ?_ hd
        have : l = 0 := by omega
        subst this
        exact rel_s.2 (by simp)
      · cases hs
    · cases hn
  · cases hs
end
end Go.Den
