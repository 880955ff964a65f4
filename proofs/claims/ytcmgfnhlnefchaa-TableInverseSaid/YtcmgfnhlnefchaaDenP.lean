/-
  Den, part P: whole functions: what is shown of the translation of its body holds of every call.
-/
import Derived.Test.YtcmgfnhlnefchaaDenR
namespace Go.Den
set_option linter.unusedVariables false
set_option linter.unusedSimpArgs false

section
variable {P : Program} {en : Env} {c : Cx} {st : St} {a : Act} {w : World}

def Post (en : Env) (c0 : Cx) (w0 : World) (Q : AE → St → Prop) : Exit → Act → World → Prop
  | .normal, a, w => Nx en c0 w0 (Q .n) a w
  | .exit id, a, w => Nx en c0 w0 (Q (.e id)) a w
  | .ret, a, w => Nx en c0 w0 (Q .r) a w
  | _, _, _ => False

/-- What is before what, in a region: bit i of number j: operation i comes ahead of j. -/
def incOf (ops : Array Oper) (aops : List AOp) (j : Nat) : List Nat :=
  (List.range j).filter fun i => !((Region.before ops).getD j 0).testBit i &&
    (match aops[i]?, aops[j]? with
     | some x, some y => (x.makes || AOp.looks x) && (y.makes || AOp.looks y)
     | _, _ => true)

def cRegion (P : Program) (nt : Nat) (live : List Nat) (ops : Array Oper) (draw : Bool) : Option AC :=
  if draw = true then
    match ops.toList.mapM (fun o => cOpX P o.type o.op) with
    | some aops => match (ops.toList.zipIdx).mapM (fun p => cOper P nt ops (incOf ops aops p.2) p.2 p.1) with
      | some l => if chkDraw ops l = true then some (.drawn l live) else none
      | none => none
    | none => none
  else (ops.toList.mapM (cOper P nt ops [] 0)).map fun l => .region l live

def cCode (P : Program) (nt : Nat) (live : List Nat) : Code → Option AC
  | .skip => some .skip
  | .region _ ops draw => cRegion P nt live ops draw
  | .seq x y => match cCode P nt live x, cCode P nt live y with
    | some x', some y' => some (.seq x' y')
    | _, _ => none
  | .cond k x y => match cCode P nt live x, cCode P nt live y with
    | some x', some y' => some (.cond (cS k) x' y')
    | _, _ => none
  | .block id x => (cCode P nt live x).map (.block id)
  | .loop x => (cCode P nt live x).map .loop
  | .exit id => some (.exit id)
  | .ret => some .ret
  | _ => none

theorem condW_some {av : AV} {A B : Prop} (h : condW av A B) : ∃ b, av = .s (.bool b) ∧ (b = true → A) ∧ (b = false → B) := by
  unfold condW at h
  split at h
  · exact ⟨true, rfl, fun _ => h, (fun e => by cases e)⟩
  · exact ⟨false, rfl, (fun e => by cases e), fun _ => h⟩
  · exact h.elim

theorem draw_sound {ops : Array Oper} {id : Nat} {live : List Nat} {ac : AC} (hm : P.follows .mixedOrders = true) (hc : cRegion P en.nt live ops true = some ac) {c0 : Cx} {w0 : World} {Q : AE → St → Prop} (hk : dwp P ac Q st) (hup : Up c0 w0 c w) (h : StRel en c st a w) :
    (Code.region id ops true).wp P (Post en c0 w0 Q) a w := by
  simp only [cRegion, if_true] at hc
  split at hc
  · rename_i aops ha
    split at hc
    · rename_i l hl
      obtain ⟨hchk, hc⟩ := ite_opt hc
      simp only [Option.some.injEq] at hc
      subst hc
      refine draw_sound' (K := Kr live Q) hm (fun c st a w hk hup h => ?_) hl hchk (hk h.freshA) hup h
      exact ⟨c, _, hk, hup, h.cut live⟩
    · cases hc
  · cases hc


/-- From a loop's head on: whatever has been shown of its rounds. -/
theorem loop_unroll {x : Code} {Q : Exit → Act → World → Prop} (I : Act → World → Prop)
    (hI : ∀ a w, I a w → ∀ (b : Frame) (k : List Item) (cs : List Frame), ∃ e a' w', Q e a' w' ∧ Arrives P (lone (b.at a (.code x :: .inLoop x :: k)) cs w) b k cs e a' w') (h : I a w) : (Code.loop x).wp P Q a w := by
  intro b k cs
  obtain ⟨e, a', w', hq, harr⟩ := hI a w h b k cs
  exact ⟨e, a', w', hq, .of_steps (.one step_loop) harr⟩

theorem code_sound (hm : P.follows .mixedOrders = true) {live : List Nat} {c0 : Cx} {w0 : World} : ∀ (code : Code) (ac : AC), cCode P en.nt live code = some ac → ∀ {Q : AE → St → Prop} {c : Cx} {st : St} {a : Act} {w : World}, dwp P ac Q st → Up c0 w0 c w → StRel en c st a w → code.wp P (Post en c0 w0 Q) a w := by
  intro code
  induction code with
  | skip =>
    intro ac hc Q c st a w hk hup h
    simp only [cCode, Option.some.injEq] at hc
    subst hc
    exact wp_skip ⟨c, st, hk, hup, h⟩
  | region id ops draw =>
    intro ac hc Q c st a w hk hup h
    cases draw with
    | true => exact draw_sound hm hc hk hup h
    | false =>
      simp only [cCode, cRegion, Bool.false_eq_true, if_false, Option.map_eq_some_iff] at hc
      obtain ⟨l, hl, rfl⟩ := hc
      refine wp_region_list (ops_sound (Q := Post en c0 w0 Q) (K := Kr live Q) (fun c st a w hk hup h => ?_) ops.toList l hl (hk h.freshA) hup h)
      exact ⟨c, _, hk, hup, h.cut live⟩
  | seq x y ihx ihy =>
    intro ac hc Q c st a w hk hup h
    simp only [cCode] at hc
    split at hc
    · rename_i x' y' hx hy
      simp only [Option.some.injEq] at hc
      subst hc
      refine wp_seq (wp_mono (ihx x' hx hk hup h) ?_)
      intro e a' w' hp
      cases e with
      | normal =>
        obtain ⟨c', st', hk', hup', h'⟩ := hp
        exact ihy y' hy hk' hup' h'
      | exit id => exact hp
      | ret => exact hp
      | goto l => exact hp
      | panic ch => exact hp
      | outgrown => exact hp
    · cases hc
  | cond k x y ihx ihy =>
    intro ac hc Q c st a w hk hup h
    simp only [cCode] at hc
    split at hc
    · rename_i x' y' hx hy
      simp only [Option.some.injEq] at hc
      subst hc
      obtain ⟨b, hb, h1, h2⟩ := condW_some hk
      have hv := cS_rel h k
      rw [hb] at hv
      refine wp_cond (rel_bool hv) ?_
      cases b with
      | true => exact ihx x' hx (h1 rfl) hup h
      | false => exact ihy y' hy (h2 rfl) hup h
    · cases hc
  | block id x ih =>
    intro ac hc Q c st a w hk hup h
    simp only [cCode, Option.map_eq_some_iff] at hc
    obtain ⟨x', hx, rfl⟩ := hc
    refine wp_block (wp_mono (ih x' hx hk hup h) ?_)
    intro e a' w' hp
    cases e with
    | exit id' =>
      obtain ⟨c', st', hk', hup', h'⟩ := hp
      simp only [Exit.inBlock]
      simp only [Kblock] at hk'
      split
      · rename_i e; rw [if_pos e] at hk'; exact ⟨c', st', hk', hup', h'⟩
      · rename_i e; rw [if_neg e] at hk'; exact ⟨c', st', hk', hup', h'⟩
    | normal => exact hp
    | ret => exact hp
    | goto l => exact hp
    | panic ch => exact hp
    | outgrown => exact hp
  | loop x ih =>
    intro ac hc Q c st a w hk hup h
    simp only [cCode, Option.map_eq_some_iff] at hc
    obtain ⟨x', hx, rfl⟩ := hc
    let I : St → Prop := fun st => ∀ (c : Cx) (a : Act) (w : World), Up c0 w0 c w → StRel en c st a w → ∀ (b : Frame) (k : List Item) (cs : List Frame), ∃ e a' w', Post en c0 w0 Q e a' w' ∧ Arrives P (lone (b.at a (.code x :: .inLoop x :: k)) cs w) b k cs e a' w'
    have hI : I st := hk I (fun st hd c a w hup h b k cs => by
      obtain ⟨e, a₁, w₁, hq, harr⟩ := ih x' hx hd hup h b (.inLoop x :: k) cs
      cases e with
      | normal =>
        obtain ⟨c1, st1, hI1, hup1, h1⟩ := hq
        obtain ⟨e₂, a₂, w₂, hq₂, harr₂⟩ := hI1 c1 a₁ w₁ hup1 h1 b k cs
        exact ⟨e₂, a₂, w₂, hq₂, .of_steps (Steps.trans harr (.one step_inLoop)) harr₂⟩
      | exit id => exact ⟨.exit id, a₁, w₁, (show Post en c0 w0 Q (.exit id) a₁ w₁ from hq), .pass (x := .inLoop x) rfl (fun _ _ => .inl (by simp)) harr⟩
      | goto l => exact hq.elim
      | ret => exact ⟨.ret, a₁, w₁, (show Post en c0 w0 Q .ret a₁ w₁ from hq), .pass (x := .inLoop x) rfl (fun _ _ => .inl (by simp)) harr⟩
      | panic ch => exact hq.elim
      | outgrown => exact hq.elim)
    refine loop_unroll (fun a w => ∃ c st, I st ∧ Up c0 w0 c w ∧ StRel en c st a w) (fun a w ⟨c, st, hI, hup, h⟩ => hI c a w hup h) ⟨c, st, hI, hup, h⟩
  | exit id =>
    intro ac hc Q c st a w hk hup h
    simp only [cCode, Option.some.injEq] at hc
    subst hc
    exact wp_exit ⟨c, st, hk, hup, h⟩
  | ret =>
    intro ac hc Q c st a w hk hup h
    simp only [cCode, Option.some.injEq] at hc
    subst hc
    exact wp_ret ⟨c, st, hk, hup, h⟩
  | _ => intro ac hc; simp [cCode] at hc
end

/-! ### Results -/
inductive RO where
  | t (n : Nat)
  | c (n m : Nat) (agg : Bool)

def cRes1 (P : Program) : ResultVar → Option RO
  | .tmp t => some (.t t)
  | .cell x t => match szOf P t, aggOf P t with
    | some m, some agg => if 0 < m ∧ (agg = false → m = 1) then some (.c x m agg) else none
    | _, _ => none
def cRes (P : Program) (rs : Array ResultVar) : Option (List RO) := rs.toList.mapM (cRes1 P)

def resA (st : St) : RO → Option AV
  | .t n => some (st.get n)
  | .c n m agg => match stepA st.get st.ob 0 0 (.load m agg (.t n)) with
    | some (.v av) => some av
    | _ => none

def oneOf : List AV → AV
  | [x] => x
  | l => .t l

/-- What a call hands back, as data. -/
def retA (rs : List RO) (st : St) : Option AV := match mapO (resA st) rs with
  | some l => match mapO (frzA st.ob 20) l, catO (idsA st.ob 20) l with
    | some l', some _ => some (oneOf l')
    | _, _ => none
  | none => none

def Kret (rs : List RO) (r : AV) : AE → St → Prop
  | .e _, _ => False
  | _, st => retA rs st = some r

def St.init (args : List AV) : St := ⟨fun i => args.getD i .u, fun _ => none, fun _ => 0⟩

/-- What the loader and the translation say of a function. -/
structure Fn (P : Program) (f : FuncId) (nt : Nat) (rs : List RO) (ac : AC) : Prop where
  ex : ∃ fn code live, P.funcs[f]? = some fn ∧ fn.body = some code ∧ (fn.name == "runtime.NumGoroutine") = false ∧ fn.ntmps = nt ∧ cRes P fn.results = some rs ∧ cCode P nt live code = some ac

section
variable {P : Program} {en : Env} {c : Cx} {st : St} {a : Act} {w : World}

theorem load_val (h : StRel en c st a w) {t : TypeId} {x : Nat} {m : Nat} {agg : Bool} {av : AV} (hz : szOf P t = some m) (hg : aggOf P t = some agg) (hm : agg = false → m = 1) (hpos : 0 < m)
    (hs : stepA st.get st.ob 0 0 (.load m agg (.t x)) = some (.v av)) : ∃ v, (Instr.loadAt t (a.tmps.getD x undef)).run P w = .ok v w ∧ VRel c w av v := by
  have hx := cS_rel h (.tmp x)
  have fin : ∀ {e : List AV} {off b p : Nat} {xs : List Value}, a.tmps.getD x undef = .pointer (some ⟨b, p, none⟩) → off + m ≤ e.length → VRels c w ((e.drop off).take m) xs → xs.length = m →
      (∀ (j : Nat) (v : Value), xs[j]? = some v → w.cell? ⟨b, p + j, none⟩ = some v) → (bif agg then some (Res.v (.g ((e.drop off).take m))) else (e[off]?).map Res.v) = some (.v av) →
      ∃ v, (Instr.loadAt t (a.tmps.getD x undef)).run P w = .ok v w ∧ VRel c w av v := by
    intro e off b p xs he hle hr hl hcell hres
    have hload := load_of (P := P) hz hg hm hl hcell
    rw [he]
    refine ⟨_, hload, ?_⟩
    cases hag : agg with
    | true =>
      rw [hag] at hres
      simp only [cond_true, Option.some.injEq, Res.v.injEq] at hres
      subst hres
      simp only [cond_true, VRel]; exact ⟨_, rfl, hr⟩
    | false =>
      rw [hag] at hres
      have h1 := hm hag
      subst h1
      simp only [cond_false] at hres
      have hlt : off < e.length := by omega
      rw [List.getElem?_eq_getElem hlt] at hres
      simp only [Option.map_some, Option.some.injEq, Res.v.injEq] at hres
      subst hres
      have : (e.drop off).take 1 = [e[off]] := by rw [List.drop_eq_getElem_cons hlt]; rfl
      rw [this] at hr
      simp only [VRels] at hr
      obtain ⟨y, l, rfl, hy, rfl⟩ := hr
      simpa using hy
  simp only [stepA] at hs
  split at hs
  · rename_i i z k off he
    rw [show cS (.tmp x) = .t x from rfl, he] at hx
    split at hs
    · rename_i ob hob
      split at hs
      · rename_i e hek
        obtain ⟨hb, hs⟩ := bif_opt hs
        simp only [Bool.and_eq_true] at hb
        have hle := Nat.le_of_ble_eq_true hb.1
        have hzz := Nat.eq_of_beq_eq_true hb.2
        obtain ⟨cs, ty, q1, xs, q2, q3, q4, q5⟩ := cells_of_ob h hob hek hle hpos
        simp only [VRel] at hx
        refine fin (hx.2) hle q2 q4 (fun j v hj => ?_) hs
        rw [cell_of_block q1, hzz]
        exact q5 j v hj
      · cases hs
    · cases hs
  · rename_i es z k off he
    rw [show cS (.tmp x) = .t x from rfl, he] at hx
    split at hs
    · rename_i e hek
      obtain ⟨hb, hs⟩ := bif_opt hs
      have hle := Nat.le_of_ble_eq_true hb
      obtain ⟨b, p, hp, xs, q2, q3, q4, q5⟩ := cells_of_q hx hek hle
      exact fin hp hle q2 q4 q5 hs
    · cases hs
  · cases hs

def resRun (tmps : Array Value) : ResultVar → Sem Value
  | .tmp t => Pure.pure (tmps.getD t undef)
  | .cell x t => do loadVar t (← asAddr (tmps.getD x undef))

theorem results_eq (fn : Func) (tmps : Array Value) : results fn tmps = (do
    let vs ← fn.results.mapM (resRun tmps)
    Pure.pure (if h : vs.size = 1 then vs[0] else .tuple vs)) := rfl

theorem res_vals (h : StRel en c st a w) : ∀ (rv : List ResultVar) (rs : List RO) (l : List AV), rv.mapM (cRes1 P) = some rs → mapO (resA st) rs = some l →
    ∃ xs : List Value, (rv.mapM (resRun a.tmps)).run P w = .ok xs w ∧ VRels c w l xs := by
  intro rv
  induction rv with
  | nil => intro rs l hr hl; simp at hr; subst hr; simp only [mapO, Option.some.injEq] at hl; subst hl; exact ⟨[], by simp, by simp [VRels]⟩
  | cons x rv ih =>
    intro rs l hr hl
    rw [List.mapM_cons] at hr
    cases hx : cRes1 P x with
    | none => simp [hx] at hr
    | some y =>
      cases hrest : rv.mapM (cRes1 P) with
      | none => simp [hx, hrest] at hr
      | some ys =>
        simp [hx, hrest] at hr
        subst hr
        simp only [mapO] at hl
        split at hl
        · rename_i av avs hav havs
          simp only [Option.some.injEq] at hl
          subst hl
          obtain ⟨xs, r1, r2⟩ := ih ys avs hrest havs
          cases x with
          | tmp t =>
            simp only [cRes1, Option.some.injEq] at hx
            subst hx
            simp only [resA, Option.some.injEq] at hav
            subst hav
            refine ⟨a.tmps.getD t undef :: xs, ?_, ?_⟩
            · rw [List.mapM_cons]
              simp only [resRun, Sem.run_bind, Sem.run_pure, Result.andThen_ok, r1]
            · simp only [VRels]; exact ⟨_, _, rfl, h.slots t, r2⟩
          | cell x t =>
            simp only [cRes1] at hx
            split at hx
            · rename_i m agg hm' hg
              obtain ⟨⟨q1, q2⟩, hx⟩ := ite_opt hx
              simp only [Option.some.injEq] at hx
              subst hx
              simp only [resA] at hav
              split at hav
              · rename_i av' hst'
                simp only [Option.some.injEq] at hav
                subst hav
                obtain ⟨v, e1, e2⟩ := load_val (P := P) h hm' hg q2 q1 hst'
                have e3 : (loadVar t =<< asAddr (a.tmps.getD x undef)).run P w = .ok v w := by
                  revert e1
                  cases hp : a.tmps.getD x undef with
                  | pointer p => cases p with
                    | some p => exact fun h => h
                    | none => simp [Instr.loadAt, Instr.sureAddr]
                  | _ => simp [Instr.loadAt, Instr.sureAddr]
                refine ⟨v :: xs, ?_, ?_⟩
                · rw [List.mapM_cons]
                  have e4 : (resRun a.tmps (.cell x t)).run P w = .ok v w := e3
                  simp only [Sem.run_bind, Sem.run_pure, Result.andThen_ok, r1, e4]
                · simp only [VRels]; exact ⟨_, _, rfl, e2, r2⟩
              · cases hav
            · cases hx
        · cases hl

theorem oneOf_rel {l : List AV} {xs : List Value} (h : VRels c w l xs) : VRel c w (oneOf l) (if h : xs.toArray.size = 1 then xs.toArray[0] else .tuple xs.toArray) := by
  have hl := VRels.length h
  match l, xs, h, hl with
  | [], [], h, _ => simp [oneOf, VRel, VRels]
  | [x], [y], h, _ =>
    simp only [VRels] at h
    obtain ⟨x', l', e, h1, rfl⟩ := h
    injection e with e1 e2
    subst e1
    simpa [oneOf] using h1
  | x :: x' :: l, y :: y' :: ys, h, _ =>
    simp only [oneOf, VRel]
    refine ⟨_, ?_, h⟩
    simp
end

theorem pcall_of_dwp {P : Program} {f nt : Nat} {rs : List RO} {ac : AC} (hm : P.follows .mixedOrders = true) (hF : Fn P f nt rs ac) {args : List AV} {r : AV} (hl : args.length ≤ nt) (h : dwp P ac (Kret rs r) (St.init args)) : PCall P f args r := by
  obtain ⟨fn, code, live, h1, h2, h3, h4, h5, h6⟩ := hF.ex
  refine ⟨⟨fn, h1, by rw [h2]; rfl, h3⟩, fun F w vs hF hvs => ?_⟩
  have hvl := VRels.length hvs
  have hst : StRel ⟨nt, w, F, fun _ => False⟩ (dataCx F) (St.init args) { tmps := vs.toArray ++ Array.replicate (fn.ntmps - vs.toArray.size) undef, defers := [] } w := by
    refine { slots := ?_, objs := ?_, inj := ?_, own := ?_, fresh := ?_, Fin := hF, F0 := fun _ _ h => h, F1 := fun _ _ h => .inl h, cell := fun _ _ _ => rfl, os := rfl, tape := rfl, output := rfl, size := Nat.le_refl _, block := fun _ _ _ => rfl, defers := rfl, tsz := ?_ }
    · intro i
      show VRel _ _ (args.getD i .u) _
      rcases Nat.lt_or_ge i args.length with hi | hi
      · obtain ⟨x, hx1, hx2⟩ := VRels.get hvs i args[i] (by simp [hi])
        have : (vs.toArray ++ Array.replicate (fn.ntmps - vs.toArray.size) undef).getD i undef = x := by
          have hiv : i < vs.length := by omega
          rw [List.getElem?_eq_getElem hiv] at hx1
          simp only [Option.some.injEq] at hx1
          simp [Array.getElem?_append, hiv, hx1]
        rw [this]
        simpa [List.getD, hi] using hx2
      · have : args.getD i .u = .u := by simp [List.getD, List.getElem?_eq_none hi]
        rw [this]; simp [VRel]
    · intro i o ho; cases ho
    · intro i j o o' ho; cases ho
    · intro i o ho; cases ho
    · intro s n hal; cases hal
    · simp only [Array.size_append, Array.size_replicate, List.size_toArray]; omega
  refine calls_of_wp h1 h2 (wp_mono (code_sound hm (en := ⟨nt, w, F, fun _ => False⟩) code ac h6 h (Up.refl _ _) hst) ?_)
  have fin : ∀ {c : Cx} {st : St} {a' : Act} {w' : World}, retA rs st = some r → StRel ⟨nt, w, F, fun _ => False⟩ c st a' w' →
      a'.defers = [] ∧ ∃ v, (results fn a'.tmps).run P w' = .ok v w' ∧ (∃ v', Ending.returned v = .returned v' ∧ VRel (dataCx fun b i => F b i ∨ (w.heap.size ≤ b ∧ b < w'.heap.size)) w' r v' ∧ RowKit.Below w.heap.size w w') := by
    intro c st a' w' hret hrel
    refine ⟨hrel.defers, ?_⟩
    unfold retA at hret
    split at hret
    · rename_i l hl0
      split at hret
      · rename_i l' is hl1 hl2
        simp only [Option.some.injEq] at hret
        obtain ⟨xs, hrun, hxs⟩ := res_vals (P := P) hrel fn.results.toList rs l h5 hl0
        obtain ⟨c1, u1, h1'⟩ := StRel.frz is hrel
        have his' : catO (idsA (st.frz is).ob 20) l = some is := catO_congr hl2 (fun x _ y hy hb => idsA_like 20 x y hy (frz_like st is _))
        have hf' : mapO (frzA (st.frz is).ob 20) l = some l' := mapO_congr hl1 hl2 (fun x _ y js hy hj hb => frzA_like 20 x y js hy hj (frz_like st is _))
        have hdat := frzL_rel h1' hf' his' (frz_frzn st is) (VRels.up u1 _ _ hxs)
        have hup : Up c1.data w' (dataCx fun b i => F b i ∨ (w.heap.size ≤ b ∧ b < w'.heap.size)) w' := by
          refine ⟨fun b i hf => ?_, fun _ _ _ => rfl, fun _ h => h.elim, fun _ h => h.elim⟩
          rcases h1'.F1 b i hf with h | h | h
          · exact .inl h
          · exact .inr ⟨h, h1'.Fin b i hf⟩
          · exact h.elim
        have hres := oneOf_rel (VRels.up hup _ _ hdat)
        refine ⟨_, ?_, _, rfl, hret ▸ hres, ⟨hrel.os, hrel.tape, hrel.output, hrel.size, fun k hk => hrel.block k hk (fun h => h)⟩⟩
        rw [results_eq, Array.mapM_eq_mapM_toList]
        simp only [Sem.run_bind, Sem.run_pure, Result.andThen_ok, hrun, Sem.run_map]
      · cases hret
    · cases hret
  intro e a' w' hp
  cases e with
  | normal =>
    obtain ⟨c, st, hk, _, hrel⟩ := hp
    exact fin hk hrel
  | ret =>
    obtain ⟨c, st, hk, _, hrel⟩ := hp
    exact fin hk hrel
  | exit id => obtain ⟨c, st, hk, _⟩ := hp; exact hk.elim
  | goto l => exact hp.elim
  | panic ch => exact hp.elim
  | outgrown => exact hp.elim

/-! ### Calls that work on the caller's memory -/
def KI (rs : List RO) (K : AV → (Id → Option Ob) → (Nat → Nat) → Prop) : AE → St → Prop
  | .e _, _ => False
  | _, st => ∃ l, mapO (resA st) rs = some l ∧ K (oneOf l) st.ob st.ct

theorem icall_of_dwp {P : Program} {f nt : Nat} {rs : List RO} {ac : AC} (hm : P.follows .mixedOrders = true) (hF : Fn P f nt rs ac) {args : List AV} {ob : Id → Option Ob} {ct : Nat → Nat} {K : AV → (Id → Option Ob) → (Nat → Nat) → Prop} (hl : args.length ≤ nt)
    (h : dwp P ac (KI rs K) ⟨fun i => args.getD i .u, ob, ct⟩) : ICall P f args ob ct K := by
  obtain ⟨fn, code, live, h1, h2, h3, h4, h5, h6⟩ := hF.ex
  refine ⟨⟨fn, h1, by rw [h2]; rfl, h3⟩, fun en c sl a w vs hr hvs => ?_⟩
  have hvl := VRels.length hvs
  have hst : StRel ⟨nt, en.w, en.F, en.X⟩ c ⟨fun i => args.getD i .u, ob, ct⟩ { tmps := vs.toArray ++ Array.replicate (fn.ntmps - vs.toArray.size) undef, defers := [] } w := by
    refine { slots := ?_, objs := hr.objs, inj := hr.inj, own := hr.own, fresh := hr.fresh, Fin := hr.Fin, F0 := hr.F0, F1 := hr.F1, cell := hr.cell, os := hr.os, tape := hr.tape, output := hr.output, size := hr.size, block := hr.block, defers := rfl, tsz := ?_ }
    · intro i
      show VRel _ _ (args.getD i .u) _
      rcases Nat.lt_or_ge i args.length with hi | hi
      · obtain ⟨x, hx1, hx2⟩ := VRels.get hvs i args[i] (by simp [hi])
        have : (vs.toArray ++ Array.replicate (fn.ntmps - vs.toArray.size) undef).getD i undef = x := by
          have hiv : i < vs.length := by omega
          rw [List.getElem?_eq_getElem hiv] at hx1
          simp only [Option.some.injEq] at hx1
          simp [Array.getElem?_append, hiv, hx1]
        rw [this]
        simpa [List.getD, hi] using hx2
      · have : args.getD i .u = .u := by simp [List.getD, List.getElem?_eq_none hi]
        rw [this]; simp [VRel]
    · simp only [Array.size_append, Array.size_replicate, List.size_toArray]; omega
  refine calls_of_wp h1 h2 (wp_mono (code_sound hm (en := ⟨nt, en.w, en.F, en.X⟩) code ac h6 h (Up.refl _ _) hst) ?_)
  have fin : ∀ {c' : Cx} {st : St} {a' : Act} {w' : World}, (∃ l, mapO (resA st) rs = some l ∧ K (oneOf l) st.ob st.ct) → Up c w c' w' → StRel ⟨nt, en.w, en.F, en.X⟩ c' st a' w' →
      a'.defers = [] ∧ ∃ v, (results fn a'.tmps).run P w' = .ok v w' ∧ (∃ v' r ob' ct' c', Ending.returned v = .returned v' ∧ K r ob' ct' ∧ Up c w c' w' ∧ VRel c' w' r v' ∧ StRel en c' ⟨sl, ob', ct'⟩ a w') := by
    intro c' st a' w' ⟨l, hl0, hK⟩ hup hrel
    refine ⟨hrel.defers, ?_⟩
    obtain ⟨xs, hrun, hxs⟩ := res_vals (P := P) hrel fn.results.toList rs l h5 hl0
    refine ⟨_, ?_, _, _, _, _, c', rfl, hK, hup, oneOf_rel hxs, ?_⟩
    · rw [results_eq, Array.mapM_eq_mapM_toList]
      simp only [Sem.run_bind, Sem.run_pure, Result.andThen_ok, hrun, Sem.run_map]
    · exact { slots := fun i => VRel.up hup _ _ (hr.slots i), objs := hrel.objs, inj := hrel.inj, own := hrel.own, fresh := hrel.fresh, Fin := hrel.Fin, F0 := hrel.F0, F1 := hrel.F1, cell := hrel.cell, os := hrel.os, tape := hrel.tape, output := hrel.output, size := hrel.size, block := hrel.block, defers := hr.defers, tsz := hr.tsz }
  intro e a' w' hp
  cases e with
  | normal =>
    obtain ⟨c, st, hk, hup, hrel⟩ := hp
    exact fin hk hup hrel
  | ret =>
    obtain ⟨c, st, hk, hup, hrel⟩ := hp
    exact fin hk hup hrel
  | exit id => obtain ⟨c, st, hk, _⟩ := hp; exact hk.elim
  | goto l => exact hp.elim
  | panic ch => exact hp.elim
  | outgrown => exact hp.elim
end Go.Den
