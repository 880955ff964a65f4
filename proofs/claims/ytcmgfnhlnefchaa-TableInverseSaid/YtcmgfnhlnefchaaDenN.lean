/-
  Den, part N: code is translated, and what is shown of the translation holds of the machine (regions in the order of the text).
-/
import Derived.Test.YtcmgfnhlnefchaaDenT
namespace Go.Den
set_option linter.unusedVariables false
set_option linter.unusedSimpArgs false

section
variable {P : Program} {en : Env} {c : Cx} {st : St} {a : Act} {w : World}

/-- A call that leaves all that was there as it was. -/
theorem StRel.called (h : StRel en c st a w) {w' : World} (hb : RowKit.Below w.heap.size w w') {dst : Option Nat} {r : AV} {v : Value} (hd : ∀ d, dst = some d → d < a.tmps.size)
    (hv : VRel (dataCx fun b i => c.F b i ∨ (w.heap.size ≤ b ∧ b < w'.heap.size)) w' r v) :
    ∃ c', Up c w c' w' ∧ StRel en c' (st.putO dst r) (a.put dst v) w' := by
  let c' : Cx := { c with F := fun b i => c.F b i ∨ (w.heap.size ≤ b ∧ b < w'.heap.size) }
  have hcell : ∀ b i, b < w.heap.size → w'.cell? ⟨b, i, none⟩ = w.cell? ⟨b, i, none⟩ := fun b i hlt => by simp only [World.cell?, hb.block b hlt]
  have hup : Up c w c' w' := ⟨fun _ _ h => .inl h, fun b i hf => hcell b i (h.Fin b i hf), fun _ h => h, fun _ _ => rfl⟩
  have hval : VRel c' w' r v := VRel.up (c := dataCx fun b i => c.F b i ∨ (w.heap.size ≤ b ∧ b < w'.heap.size)) (w := w') (c' := c') (w' := w') ⟨fun _ _ h => h, fun _ _ _ => rfl, fun _ h => h.elim, fun _ h => h.elim⟩ _ _ hv
  have hlt : ∀ i o, st.ob i = some o → 0 < (c.mu i).cap → (c.mu i).blk < w.heap.size := fun i o ho hc => by
    obtain ⟨_, _, _, _, _, _, _, _, g7⟩ := h.objs i o ho
    obtain ⟨cs, e, q1, _⟩ := g7 hc
    exact (Array.getElem?_eq_some_iff.1 q1).1
  refine ⟨c', hup, ?_⟩
  refine { slots := slots_put (fun i => VRel.up hup _ _ (h.slots i)) hval hd, objs := ?_, inj := by rw [ob_putO]; exact h.inj, own := by rw [ob_putO]; exact h.own, fresh := by rw [ct_putO]; exact h.fresh, Fin := ?_, F0 := fun b i hf => .inl (h.F0 b i hf), F1 := ?_, cell := ?_, os := hb.os.trans h.os, tape := hb.tape.trans h.tape, output := hb.output.trans h.output, size := Nat.le_trans h.size hb.size, block := ?_, defers := by rw [put_defers]; exact h.defers, tsz := by rw [put_size]; exact h.tsz }
  · rw [ob_putO]
    intro i o ho
    obtain ⟨hal, g1, g2, g3, g4, xs, g5, g6, g7⟩ := h.objs i o ho
    refine ⟨hal, g1, g2, g3, g4, xs, VRelss.up hup _ _ g5, g6, fun hc => ?_⟩
    obtain ⟨cs, e, q1, q2, q3, qo, q4, q5⟩ := g7 hc
    have hl := hlt i o ho hc
    refine ⟨cs, e, (hb.block _ hl).trans q1, q2, q3, qo, fun hw k hf => ?_, fun hw => ⟨fun k hk => .inl ((q5 hw).1 k hk), fun k hk hf => ?_⟩⟩
    · rcases hf with hf | ⟨h1, _⟩
      · exact q4 hw k hf
      · exact absurd hl (Nat.not_lt.2 h1)
    · rcases hf with hf | ⟨h1, _⟩
      · exact (q5 hw).2 k hk hf
      · exact absurd hl (Nat.not_lt.2 h1)
  · intro b i hf
    rcases hf with hf | ⟨_, h2⟩
    · exact Nat.lt_of_lt_of_le (h.Fin b i hf) hb.size
    · exact h2
  · intro b i hf
    rcases hf with hf | ⟨h1, _⟩
    · exact h.F1 b i hf
    · exact .inr (.inl (Nat.le_trans h.size h1))
  · intro b i hf
    rw [hcell b i (h.Fin b i (h.F0 b i hf))]
    exact h.cell b i hf
  · intro k hk hX
    rw [hb.block k (Nat.lt_of_lt_of_le hk h.size)]
    exact h.block k hk hX

theorem frzL_rel (h : StRel en c st a w) {d : Nat} {as bs : List AV} {xs : List Value} {is : List Id} (hf : mapO (frzA st.ob d) as = some bs) (hi : catO (idsA st.ob d) as = some is) (hz : Frzn st.ob is) (hr : VRels c w as xs) : VRels c.data w bs xs :=
  (mapO_relI (fun a b x is => frz_rel h d a b x is) hf hi hz hr).1

theorem call_exec {o : Oper} {f : Operand} {args : Array Operand} {ts : Array TypeId} {fn : FuncId} {caps : Array Value} (ho : o.op = .call { callee := .value f, args := args, argTypes := ts }) (hf : a.eval f = .func (.func fn) #[] caps) (hc : Callable P fn) :
    (execOp a.eval o).run P w = .ok (.enter fn (args.map a.eval ++ caps)) w := by
  obtain ⟨g, h1, h2, h3⟩ := hc
  have h4 : g.body.isNone = false := by cases hb : g.body <;> simp [hb] at h2 ⊢
  simp only [execOp, ho, resolve, hf, Deferred.ofValue, Sem.run_bind, Sem.run_pure, Result.andThen_ok, invoke, callFunc, run_program, h1, h3, h4, Bool.false_eq_true, if_false]
  simp

def Nx (en : Env) (c0 : Cx) (w0 : World) (K : St → Prop) (a : Act) (w : World) : Prop := ∃ c st, K st ∧ Up c0 w0 c w ∧ StRel en c st a w

def isCall : AOp → Bool
  | .call .. => true
  | _ => false
theorem bif_none {b : Bool} {α : Type} {x : Option α} {z : α} (h : (bif b then none else x) = some z) : b = false ∧ x = some z := by
  cases b with
  | true => cases h
  | false => exact ⟨rfl, h⟩
theorem cAlt_alt {op : Op} {ao : AOp} (h : cAlt P op = some ao) : isAlt ao = true := by
  unfold cAlt at h
  split at h
  · split at h
    · split at h
      · simp only [Option.some.injEq] at h; subst h; rfl
      · simp only [Option.some.injEq] at h; subst h; rfl
      · cases h
    · cases h
  · split at h
    · split at h
      · simp only [Option.some.injEq] at h; subst h; rfl
      · cases h
    · split at h
      · split at h
        · obtain ⟨_, h⟩ := ite_opt h
          simp only [Option.some.injEq] at h; subst h; rfl
        · cases h
      · cases h
    · cases h
  · cases h
theorem cAlt_call {op : Op} {ao : AOp} (h : cAlt P op = some ao) : isCall ao = false := by
  have := cAlt_alt h
  cases ao <;> first | rfl | cases this
theorem cAlt_none {op : Op} {ao : AOp} (h : cAlt P op = some ao) {g : Nat → AV} {ob : Id → Option Ob} {n s : Nat} : stepA g ob n s ao = none := by
  have := cAlt_alt h
  cases ao <;> first | rfl | cases this

/-- One operation. -/
theorem op_sound (h : StRel en c st a w) {o : Oper} {ao : AOp} {inc : List Nat} {idx : Nat} {g : Option (Nat × Bool)} {c0 : Cx} {w0 : World} (hup : Up c0 w0 c w) (hd : ∀ d, o.dst = some d → d < en.nt) (hc : cOpX P o.type o.op = some ao) {K : St → Prop} (hk : opW P ⟨o.dst, ao, g, inc, idx⟩ K st) {Q : Exit → Act → World → Prop} :
    o.wp P a w (Nx en c0 w0 K) Q := by
  have hd' : ∀ d, o.dst = some d → d < a.tmps.size := fun d e => by rw [h.tsz]; exact hd d e
  cases hic : isCall ao with
  | false =>
    have hncall : ∀ f as, ao ≠ .call f as := fun f as e => by rw [e] at hic; cases hic
    have hk' : resX st o.dst K (altW st o.dst K ao) (stepA st.get st.ob (st.ct (o.dst.getD 0)) (o.dst.getD 0) ao) := by
      unfold opW at hk
      split at hk
      · rename_i f as e; exact absurd e (hncall f as)
      · exact hk
    have fin : SoundK P en c a w o K → o.wp P a w (Nx en c0 w0 K) Q := by
      rintro ⟨v, w', c', st', h1, h2, h3, h4⟩
      unfold Oper.wp
      rw [h1]
      exact ⟨c', st', h2, hup.trans h3, h4⟩
    unfold cOpX at hc
    split at hc
    · rename_i ao' hca
      simp only [Option.some.injEq] at hc
      subst hc
      have hnone : stepA st.get st.ob (st.ct (o.dst.getD 0)) (o.dst.getD 0) ao' = none := cAlt_none hca
      rw [hnone] at hk'
      exact fin (altop_sound h hd' hca hk')
    split at hc
    rotate_left 1
    · cases hc
    rename_i ao' hco
    obtain ⟨hna, hc⟩ := bif_none hc
    simp only [Option.some.injEq] at hc
    subst hc
    have hc := hco
    unfold resX at hk'
    split at hk'
    · rename_i r hr
      obtain ⟨nx, v, w', c', h1, h2, h3, h4⟩ := step_sound h hd' hc hncall hr
      unfold Oper.wp
      rw [h1]
      rcases h2 with rfl | ⟨rfl, rfl⟩
      · exact ⟨c', _, hk', hup.trans h3, h4⟩
      · exact ⟨c', _, hk', hup.trans h3, h4⟩
    · exact fin (alt_sound h hd' hc hna hk')
  | true =>
    have hc : cOp P o.type o.op = some ao := by
      unfold cOpX at hc
      split at hc
      · rename_i ao' hca
        simp only [Option.some.injEq] at hc
        subst hc
        have := cAlt_call hca
        rw [hic] at this; cases this
      · split at hc
        · rename_i ao' hco
          obtain ⟨_, hc⟩ := bif_none hc
          simp only [Option.some.injEq] at hc
          subst hc; exact hco
        · cases hc
    cases ao with
    | call f as =>
      unfold opW at hk
      -- the operation is a call
      have hop : ∃ fo args ts, o.op = .call { callee := .value fo, args := args, argTypes := ts } ∧ f = cS fo ∧ VRels c w (as.map (ev st.get)) (args.toList.map a.eval) := by
        obtain ⟨x, hx⟩ : ∃ x, x = o.op := ⟨_, rfl⟩
        rw [← hx] at hc
        cases x <;> simp only [cOp] at hc
        case call cl =>
          obtain ⟨callee, args, ts⟩ := cl
          cases callee with
          | invoke r m => simp at hc
          | builtin b =>
            exfalso
            cases b <;> simp only at hc
            all_goals first
              | cases hc
              | (obtain ⟨_, hc⟩ := ite_opt hc
                 split at hc
                 · first
                   | cases hc
                   | (split at hc <;> first
                      | cases hc
                      | (simp at hc; done)
                      | (split at hc <;> first
                         | cases hc
                         | (obtain ⟨_, hc⟩ := ite_opt hc; cases hc)))
                 · cases hc)
          | value fo =>
            simp only [Option.bind_eq_some_iff] at hc
            obtain ⟨as', has, hc⟩ := hc
            obtain ⟨hsz, hc⟩ := ite_opt hc
            simp only [Option.some.injEq, AOp.call.injEq] at hc
            obtain ⟨rfl, rfl⟩ := hc
            refine ⟨fo, args, ts, hx.symm, rfl, ?_⟩
            have key : ∀ (l : List Operand) (ts : List TypeId) (as : List Opd), l.length = ts.length → (l.zip ts).mapM (fun p => cOpd P p.2 p.1) = some as → VRels c w (as.map (ev st.get)) (l.map a.eval) := by
              intro l
              induction l with
              | nil => intro ts as _ hm; simp at hm; subst hm; simp [VRels]
              | cons x l ih =>
                intro ts as hl hm
                cases ts with
                | nil => simp at hl
                | cons t ts =>
                  rw [List.zip_cons_cons, List.mapM_cons] at hm
                  cases hx : cOpd P t x with
                  | none => simp [hx] at hm
                  | some y =>
                    cases hq : (l.zip ts).mapM (fun p => cOpd P p.2 p.1) with
                    | none => simp [hx, hq] at hm
                    | some ys =>
                      simp [hx, hq] at hm
                      subst hm
                      simp only [List.map_cons, VRels]
                      exact ⟨_, _, rfl, cOpd_rel h hx, ih ts ys (by simpa using hl) hq⟩
            exact key args.toList ts.toList as' (by simpa using hsz) has
        all_goals (exfalso; revert hc; (repeat' split) <;> intro hc <;> first | cases hc | (simp at hc; done) | (obtain ⟨_, hc⟩ := ite_opt hc; first | cases hc | (simp at hc; done) | (revert hc; (repeat' split) <;> intro hc <;> cases hc)))
      obtain ⟨fo, args, ts, ho, rfl, hargs⟩ := hop
      rcases hk with hk | hk | hk
      case inr.inr =>
        obtain ⟨fn, caps, bs, hl, hx⟩ := hk
        have hall : VRels c w (ev st.get (cS fo) :: as.map (ev st.get)) (a.eval fo :: args.toList.map a.eval) := by
          simp only [VRels]
          exact ⟨_, _, rfl, cS_rel h fo, hargs⟩
        rw [hl] at hall
        simp only [VRels] at hall
        obtain ⟨xf, xs, e1, hf1, hf2⟩ := hall
        injection e1 with e1 e2
        subst e1; subst e2
        simp only [VRel] at hf1
        obtain ⟨capv, ecap, hcap⟩ := hf1
        obtain ⟨v, r, hrun, hK, hv⟩ := hx en c st.sl a w _ h (VRels.append hf2 hcap)
        have harr : (args.toList.map a.eval ++ capv.toList).toArray = args.map a.eval ++ capv := by
          apply Array.ext'; simp
        rw [harr] at hrun
        have hex : (execOp a.eval o).run P w = .ok (.value v) w := by
          simp only [execOp, ho, resolve, ecap, Deferred.ofValue, Sem.run_bind, Sem.run_pure, Result.andThen_ok, invoke]
          simpa using hrun
        unfold Oper.wp
        rw [hex]
        exact ⟨c, _, hK, hup, h.val hv hd'⟩
      case inr.inl =>
        obtain ⟨fn, caps, bs, hl, hcallable, hcall⟩ := hk
        have hall : VRels c w (ev st.get (cS fo) :: as.map (ev st.get)) (a.eval fo :: args.toList.map a.eval) := by
          simp only [VRels]
          exact ⟨_, _, rfl, cS_rel h fo, hargs⟩
        rw [hl] at hall
        simp only [VRels] at hall
        obtain ⟨xf, xs, e1, hf1, hf2⟩ := hall
        injection e1 with e1 e2
        subst e1; subst e2
        simp only [VRel] at hf1
        obtain ⟨capv, ecap, hcap⟩ := hf1
        have hcl := hcall en c st.sl a w _ h (VRels.append hf2 hcap)
        unfold Oper.wp
        rw [call_exec ho ecap hcallable]
        have harr : (args.toList.map a.eval ++ capv.toList).toArray = args.map a.eval ++ capv := by
          apply Array.ext'; simp
        rw [harr] at hcl
        refine Calls.mono hcl ?_
        rintro e w' ⟨v, r, ob', ct', c', rfl, hK, u, hv, h'⟩
        exact ⟨c', _, hK, hup.trans u, h'.val hv hd'⟩
      obtain ⟨fn, caps, bs, r, is, hf, his, hp, hK⟩ := hk
      obtain ⟨c1, u1, h1⟩ := StRel.frz is h
      have his' : catO (idsA (st.frz is).ob 20) (ev st.get (cS fo) :: as.map (ev st.get)) = some is := catO_congr his (fun x _ y hy hb => idsA_like 20 x y hy (frz_like st is _))
      have hf' : mapO (frzA (st.frz is).ob 20) (ev st.get (cS fo) :: as.map (ev st.get)) = some (.f fn caps :: bs) := mapO_congr hf his (fun x _ y js hy hj hb => frzA_like 20 x y js hy hj (frz_like st is _))
      have hall : VRels c w (ev st.get (cS fo) :: as.map (ev st.get)) (a.eval fo :: args.toList.map a.eval) := by
        simp only [VRels]
        exact ⟨_, _, rfl, cS_rel h fo, hargs⟩
      have hdat := frzL_rel h1 hf' his' (frz_frzn st is) (VRels.up u1 _ _ hall)
      simp only [VRels] at hdat
      obtain ⟨xf, xs, e1, hf1, hf2⟩ := hdat
      injection e1 with e1 e2
      subst e1; subst e2
      simp only [VRel] at hf1
      obtain ⟨capv, ecap, hcap⟩ := hf1
      obtain ⟨hcallable, hcall⟩ := hp
      have hvs : VRels (dataCx c1.F) w (bs ++ caps) (args.toList.map a.eval ++ capv.toList) :=
        VRels.up (c := c1.data) (w := w) (c' := dataCx c1.F) (w' := w) ⟨fun _ _ h => h, fun _ _ _ => rfl, fun _ h => h.elim, fun _ h => h.elim⟩ _ _ (VRels.append hf2 hcap)
      have hcl := hcall c1.F w _ h1.Fin hvs
      unfold Oper.wp
      rw [call_exec ho ecap hcallable]
      have harr : (args.toList.map a.eval ++ capv.toList).toArray = args.map a.eval ++ capv := by
        apply Array.ext'; simp
      rw [harr] at hcl
      refine Calls.mono hcl ?_
      rintro e w' ⟨v, rfl, hv, hb⟩
      obtain ⟨c2, u2, h2⟩ := StRel.called h1 hb hd' hv
      exact ⟨c2, _, hK, hup.trans (u1.trans u2), h2⟩
    | _ => cases hic

/-! ### Regions in the order of the text -/
def cGuard (ops : Array Oper) : Option (Nat × Bool) → Option (Option (Nat × Bool))
  | none => some none
  | some (j, want) => match (ops[j]?).bind (·.dst) with
    | some d => some (some (d, want))
    | none => none

def gOk : Option (Nat × Bool) → Nat → Bool
  | none, _ => true
  | some (d, _), nt => decide (d < nt)

def cOper (P : Program) (nt : Nat) (ops : Array Oper) (inc : List Nat) (idx : Nat) (o : Oper) : Option AOper :=
  match cOpX P o.type o.op, cGuard ops o.guard with
  | some ao, some g => if o.dst.all (fun d => decide (d < nt)) = true ∧ gOk g nt = true then some ⟨o.dst, ao, g, inc, idx⟩ else none
  | _, _ => none

theorem guard_yields {ops : Array Oper} {o : Oper} {d : Nat} {want : Bool} {b : Value} (h : StRel en c st a w) (hg : cGuard ops o.guard = some (some (d, want))) (hd : d < en.nt) (hb : st.get d = .s b) :
    Region.wanted o (yielded ops a.tmps) = gB b want := by
  unfold cGuard at hg
  split at hg
  · cases hg
  · rename_i j want' hgu
    split at hg
    · rename_i d' hd'
      simp only [Option.some.injEq, Prod.mk.injEq] at hg
      obtain ⟨rfl, rfl⟩ := hg
      have hs := h.slots d'
      rw [hb] at hs
      have hs := rel_s.1 hs
      have hsz : d' < a.tmps.size := by rw [h.tsz]; exact hd
      have hv : a.tmps[d']? = some b := by
        rw [Array.getElem?_eq_getElem hsz]
        have : a.tmps.getD d' undef = a.tmps[d'] := by simp [hsz]
        rw [← this, hs]
      have hy : yielded ops a.tmps j = asB b := by
        unfold yielded
        rw [hd']
        simp only [Option.bind_some, hv]
        clear hv hs hb
        cases b <;> rfl
      unfold Region.wanted
      rw [hgu]
      simp only [hy]
      clear hy hv hs hb
      cases b with
      | bool b => cases b <;> cases want' <;> rfl
      | _ => cases want' <;> rfl
    · cases hg

theorem guard_none {ops : Array Oper} {o : Oper} (hg : cGuard ops o.guard = some none) (y : Nat → Option Bool) : Region.wanted o y = true := by
  unfold cGuard at hg
  split at hg
  · rename_i hn
    simp [Region.wanted, hn]
  · split at hg <;> cases hg

theorem guardW_some {av : AV} {want : Bool} {A B : Prop} (h : guardW av want A B) : ∃ b, av = .s b ∧ (gB b want = true → A) ∧ (¬ gB b want = true → B) := by
  unfold guardW at h
  split at h
  · rename_i b
    refine ⟨b, rfl, fun e => ?_, fun e => ?_⟩
    · rw [if_pos e] at h; exact h
    · rw [if_neg e] at h; exact h
  · exact h.elim

theorem ops_sound {ops : Array Oper} {Q : Exit → Act → World → Prop} {K : St → Prop} {c0 : Cx} {w0 : World} (hQ : ∀ c st a w, K st → Up c0 w0 c w → StRel en c st a w → Q .normal a w) :
    ∀ (l : List Oper) (aos : List AOper), l.mapM (cOper P en.nt ops [] 0) = some aos → ∀ {c : Cx} {st : St} {a : Act} {w : World}, opsW P aos K st → Up c0 w0 c w → StRel en c st a w → wpList P ops Q l a w
  | [], aos, hc, c, st, a, w, hk, hup, h => by
    simp at hc
    subst hc
    exact hQ c st a w hk hup h
  | o :: l, aos, hc, c, st, a, w, hk, hup, h => by
    rw [List.mapM_cons] at hc
    cases ho : cOper P en.nt ops [] 0 o with
    | none => simp [ho] at hc
    | some ao =>
      cases hl : l.mapM (cOper P en.nt ops [] 0) with
      | none => simp [ho, hl] at hc
      | some aos' =>
        simp [ho, hl] at hc
        subst hc
        unfold cOper at ho
        split at ho
        · rename_i x g hx hg
          obtain ⟨⟨hd, hgd⟩, ho⟩ := ite_opt ho
          simp only [Option.some.injEq] at ho
          subst ho
          have hd' : ∀ d, o.dst = some d → d < en.nt := fun d e => by rw [e] at hd; simpa using hd
          have step : ∀ {c : Cx} {st : St} {a : Act} {w : World}, opW P ⟨o.dst, x, g, [], 0⟩ (opsW P aos' K) st → Up c0 w0 c w → StRel en c st a w → o.wp P a w (wpList P ops Q l) Q := fun hk hup h => by
            have := op_sound (Q := Q) h hup hd' hx hk
            refine Oper.wp_mono ?_ this
            rintro a' w' ⟨c', st', hk', hup', h'⟩
            exact ops_sound hQ l aos' hl hk' hup' h'
          simp only [opsW] at hk
          unfold wpList
          cases g with
          | none =>
            rw [if_pos (guard_none hg _)]
            exact .inl (step hk hup h)
          | some dw =>
            obtain ⟨d, want⟩ := dw
            simp only at hk
            obtain ⟨b, hb, h1, h2⟩ := guardW_some hk
            have hw := guard_yields h hg (by simpa [gOk] using hgd) hb
            by_cases hbw : gB b want = true
            · rw [if_pos (by rw [hw]; simp [hbw])]
              exact .inl (step (h1 hbw) hup h)
            · rw [if_neg (by rw [hw]; simp [hbw])]
              refine ops_sound hQ l aos' hl (h2 hbw) hup (StRel.val (v := undef) h (by simp [VRel]) (fun d e => by rw [h.tsz]; exact hd' d e))
        · cases ho

theorem StRel.cut (h : StRel en c st a w) (live : List Nat) : StRel en c (st.cut live) a w where
  slots i := by
    show VRel c w (bif live.contains i then st.sl i else .u) _
    cases live.contains i
    · simp [VRel]
    · exact h.slots i
  objs := h.objs
  inj := h.inj
  own := h.own
  fresh := h.fresh
  Fin := h.Fin
  F0 := h.F0
  F1 := h.F1
  cell := h.cell
  os := h.os
  tape := h.tape
  output := h.output
  size := h.size
  block := h.block
  defers := h.defers
  tsz := h.tsz
end
end Go.Den
