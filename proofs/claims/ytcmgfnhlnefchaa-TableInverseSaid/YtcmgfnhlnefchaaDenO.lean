/-
  Den, part O: regions that draw their order: operations that look at nothing that the others change may be taken in any order.
-/
import Derived.Test.YtcmgfnhlnefchaaDenN
namespace Go.Den
set_option linter.unusedVariables false
set_option linter.unusedSimpArgs false

/-- The slots that an operation names. -/
def AOp.opds : AOp → List Opd
  | .mov x | .box x | .nilck x | .un _ x | .cvI _ x | .fad _ x | .fld _ _ _ x | .ext x _ | .len x | .lenS x | .clear _ _ x => [x]
  | .pick c a b => [c, a, b]
  | .new _ | .lenA _ => []
  | .build _ ps => ps.map (·.2.2)
  | .bslice _ _ ps => ps.map (·.2)
  | .load _ _ x => [x]
  | .store _ a x | .bin _ a x | .eqA _ _ a x | .eqB _ a x | .iad _ a x | .iadA _ _ a x | .idxA _ _ _ a x | .idxS a x | .app _ _ a x | .copy _ a x => [a, x]
  | .mkf _ l | .mm _ l => l
  | .mks _ _ _ a b => [a, b]
  | .slc _ x lo hi mx => x :: (lo.toList ++ hi.toList ++ mx.toList)
  | .slcS x lo hi => x :: (lo.toList ++ hi.toList)
  | .nilS _ x | .capS x => [x]
  | .appz _ _ _ x y => [x, y]
  | .call f l => f :: l

/-- Does it make memory? -/
def AOp.makes : AOp → Bool
  | .new _ | .box _ | .bslice .. | .mks .. | .app .. => true
  | _ => false

/-- Does it look at memory? -/
def AOp.looks : AOp → Bool
  | .load .. | .store .. | .app .. | .copy .. | .clear .. | .call .. => true
  | _ => false

def slotsOf (o : AOper) : List Nat := (o.op.opds.filterMap fun | .t n => some n | .c _ => none) ++ (match o.guard with | some (d, _) => [d] | none => [])

theorem mapM_congr' {α β : Type} {f g : α → Option β} {l : List α} (h : ∀ x ∈ l, f x = g x) : l.mapM f = l.mapM g := by
  induction l with
  | nil => rfl
  | cons x l ih =>
    rw [List.mapM_cons, List.mapM_cons, h x List.mem_cons_self, ih fun y hy => h y (List.mem_cons_of_mem _ hy)]

theorem bndA_congr {g g' : Nat → AV} {d : Nat} {hi : Int} {x : Option Opd} (h : ∀ y ∈ x.toList, ev g y = ev g' y) : bndA g d hi x = bndA g' d hi x := by
  cases x with
  | none => rfl
  | some y => simp only [bndA]; rw [h y (by simp)]

theorem Like.at {ob ob' : Id → Option Ob} {is : List Id} (h : Like ob ob' is) {i : Id} (hi : i ∈ is) {o : Ob} (ho : ob i = some o) : ∃ o', ob' i = some o' ∧ o'.z = o.z ∧ o'.es = o.es := by
  have := h i hi
  rw [ho] at this
  cases h' : ob' i with
  | none => rw [h'] at this; cases this
  | some o' =>
    rw [h'] at this
    simp only [Option.map_some, Option.some.injEq, Prod.mk.injEq] at this
    exact ⟨o', rfl, this.1.symm, this.2.symm⟩
theorem Like.none {ob ob' : Id → Option Ob} {is : List Id} (h : Like ob ob' is) {i : Id} (hi : i ∈ is) (ho : ob i = .none) : ob' i = .none := by
  have := h i hi
  rw [ho] at this
  cases h' : ob' i with
  | none => rfl
  | some o' => rw [h'] at this; cases this

theorem elemsA_like {ob ob' : Id → Option Ob} {z : Nat} {v : AV} (h : Like ob ob' (refA v)) : elemsA ob z v = elemsA ob' z v := by
  cases v with
  | o i z' off len =>
    simp only [elemsA]
    cases ho : ob i with
    | none => rw [h.none (by simp [refA]) ho]
    | some o =>
      obtain ⟨o', h1, h2, h3⟩ := h.at (by simp [refA]) ho
      rw [h1]; simp only [h2, h3]
  | _ => rfl

/-- What an operation writes of what was there. -/
def wrA (st : St) : AOp → List Id
  | .store _ x _ => refA (ev st.get x)
  | .app _ _ x _ => refA (ev st.get x)
  | .copy _ x _ => refA (ev st.get x)
  | .clear _ _ x => refA (ev st.get x)
  | _ => []

/-- The slots that are not named do not matter; of memory only what is looked at. -/
theorem stepA_local {st st' : St} {n site : Nat} {op : AOp} {r : Res} (hev : ∀ x ∈ op.opds, ev st'.get x = ev st.get x) (hl : Like st.ob st'.ob (tchA st op)) (hm : ∀ i ∈ wrA st op, st'.ob i = st.ob i)
    (hs : stepA st.get st.ob n site op = some r) : stepA st'.get st'.ob n site op = some r := by
  cases op with
  | build zero ps =>
    simp only [stepA] at hs ⊢
    rw [mapM_congr' (g := fun x => (cellsA (ev st.get x.2.2)).map fun cs => (x.1, x.2.1, cs))]
    · exact hs
    · intro x hx
      rw [hev x.2.2 (by simp only [AOp.opds]; exact List.mem_map.2 ⟨x, hx, rfl⟩)]
  | bslice z zero ps =>
    simp only [stepA] at hs ⊢
    rw [mapM_congr' (g := fun x => (cellsA (ev st.get x.2)).map fun cs => (x.1, cs))]
    · exact hs
    · intro x hx
      rw [hev x.2 (by simp only [AOp.opds]; exact List.mem_map.2 ⟨x, hx, rfl⟩)]
  | mkf fn caps =>
    simp only [stepA] at hs ⊢
    rw [List.map_congr_left (l := caps) (g := ev st.get) (fun x hx => hev x hx)]
    exact hs
  | mm b xs =>
    simp only [stepA] at hs ⊢
    rw [List.map_congr_left (l := xs) (g := ev st.get) (fun x hx => hev x hx)]
    exact hs
  | slc z x lo hi mx =>
    simp only [stepA] at hs ⊢
    have h1 : ∀ d h, bndA st'.get d h lo = bndA st.get d h lo := fun d h => bndA_congr fun y hy => hev y (by simp [AOp.opds, hy])
    have h2 : ∀ d h, bndA st'.get d h hi = bndA st.get d h hi := fun d h => bndA_congr fun y hy => hev y (by simp [AOp.opds, hy])
    have h3 : ∀ d h, bndA st'.get d h mx = bndA st.get d h mx := fun d h => bndA_congr fun y hy => hev y (by simp [AOp.opds, hy])
    rw [hev x (by simp [AOp.opds])]
    cases mx with
    | none => simp only [h1, h2]; exact hs
    | some m =>
      simp only [h1, h2, h3]; exact hs
  | slcS x lo hi =>
    simp only [stepA] at hs ⊢
    have h1 : ∀ d h, bndA st'.get d h lo = bndA st.get d h lo := fun d h => bndA_congr fun y hy => hev y (by simp [AOp.opds, hy])
    have h2 : ∀ d h, bndA st'.get d h hi = bndA st.get d h hi := fun d h => bndA_congr fun y hy => hev y (by simp [AOp.opds, hy])
    rw [hev x (by simp [AOp.opds])]
    simp only [h1, h2]; exact hs
  | load m agg x =>
    simp only [stepA] at hs ⊢
    rw [hev x (by simp [AOp.opds])]
    cases hx : ev st.get x with
    | p i z k off =>
      rw [hx] at hs
      simp only at hs ⊢
      cases ho : st.ob i with
      | none => rw [ho] at hs; cases hs
      | some o =>
        rw [ho] at hs
        obtain ⟨o', h1, h2, h3⟩ := hl.at (i := i) (by simp [tchA, hx, refA]) ho
        rw [h1]
        simp only [h2, h3]
        exact hs
    | _ => rw [hx] at hs; exact hs
  | store m x y =>
    simp only [stepA] at hs ⊢
    rw [hev x (by simp [AOp.opds]), hev y (by simp [AOp.opds])]
    cases hx : ev st.get x with
    | p i z k off =>
      rw [hx] at hs
      simp only at hs ⊢
      rw [hm i (by simp [wrA, hx, refA])]
      exact hs
    | _ => rw [hx] at hs; exact hs
  | app z bytes x y =>
    simp only [stepA] at hs ⊢
    rw [hev x (by simp [AOp.opds]), hev y (by simp [AOp.opds]), ← elemsA_like (ob := st.ob) (ob' := st'.ob) (fun i hi => hl i (by simp [tchA, hi]))]
    cases hx : ev st.get x with
    | o i z' off len =>
      rw [hx] at hs
      simp only at hs ⊢
      rw [hm i (by simp [wrA, hx, refA])]
      exact hs
    | _ => rw [hx] at hs; exact hs
  | copy z x y =>
    simp only [stepA] at hs ⊢
    rw [hev x (by simp [AOp.opds]), hev y (by simp [AOp.opds]), ← elemsA_like (ob := st.ob) (ob' := st'.ob) (fun i hi => hl i (by simp [tchA, hi]))]
    cases hel : elemsA st.ob z (ev st.get y) with
    | none => rw [hel] at hs; cases hs
    | some new =>
      rw [hel] at hs
      cases hx : ev st.get x with
      | o i z' off len =>
        rw [hx] at hs
        simp only at hs ⊢
        rw [hm i (by simp [wrA, hx, refA])]
        exact hs
      | _ => rw [hx] at hs; exact hs
  | clear z zero x =>
    simp only [stepA] at hs ⊢
    rw [hev x (by simp [AOp.opds])]
    cases hx : ev st.get x with
    | o i z' off len =>
      rw [hx] at hs
      simp only at hs ⊢
      rw [hm i (by simp [wrA, hx, refA])]
      exact hs
    | _ => rw [hx] at hs; exact hs
  | call f l => simp [stepA] at hs
  | nilS a b => simp [stepA] at hs
  | capS a => simp [stepA] at hs
  | appz a b d e f => simp [stepA] at hs
  | new cells => exact hs
  | lenA n => exact hs
  | pick x y z =>
    simp only [stepA] at hs ⊢
    rw [hev x (by simp [AOp.opds]), hev y (by simp [AOp.opds]), hev z (by simp [AOp.opds])]; exact hs
  | mov x => simp only [stepA] at hs ⊢; rw [hev x (by simp [AOp.opds])]; exact hs
  | box x => simp only [stepA] at hs ⊢; rw [hev x (by simp [AOp.opds])]; exact hs
  | nilck x => simp only [stepA] at hs ⊢; rw [hev x (by simp [AOp.opds])]; exact hs
  | un op x => simp only [stepA] at hs ⊢; rw [hev x (by simp [AOp.opds])]; exact hs
  | cvI k x => simp only [stepA] at hs ⊢; rw [hev x (by simp [AOp.opds])]; exact hs
  | fad d x => simp only [stepA] at hs ⊢; rw [hev x (by simp [AOp.opds])]; exact hs
  | fld g d m x => simp only [stepA] at hs ⊢; rw [hev x (by simp [AOp.opds])]; exact hs
  | ext x i => simp only [stepA] at hs ⊢; rw [hev x (by simp [AOp.opds])]; exact hs
  | len x => simp only [stepA] at hs ⊢; rw [hev x (by simp [AOp.opds])]; exact hs
  | lenS x => simp only [stepA] at hs ⊢; rw [hev x (by simp [AOp.opds])]; exact hs
  | bin op x y => simp only [stepA] at hs ⊢; rw [hev x (by simp [AOp.opds]), hev y (by simp [AOp.opds])]; exact hs
  | eqA a b x y => simp only [stepA] at hs ⊢; rw [hev x (by simp [AOp.opds]), hev y (by simp [AOp.opds])]; exact hs
  | eqB a x y => simp only [stepA] at hs ⊢; rw [hev x (by simp [AOp.opds]), hev y (by simp [AOp.opds])]; exact hs
  | iad z x y => simp only [stepA] at hs ⊢; rw [hev x (by simp [AOp.opds]), hev y (by simp [AOp.opds])]; exact hs
  | iadA a b x y => simp only [stepA] at hs ⊢; rw [hev x (by simp [AOp.opds]), hev y (by simp [AOp.opds])]; exact hs
  | idxA a b d x y => simp only [stepA] at hs ⊢; rw [hev x (by simp [AOp.opds]), hev y (by simp [AOp.opds])]; exact hs
  | idxS x y => simp only [stepA] at hs ⊢; rw [hev x (by simp [AOp.opds]), hev y (by simp [AOp.opds])]; exact hs
  | mks a b d x y => simp only [stepA] at hs ⊢; rw [hev x (by simp [AOp.opds]), hev y (by simp [AOp.opds])]; exact hs

/-! ### What an operation does to a state -/
structure Dl where
  v : AV
  set : List (Id × Option Ob)
  fz : List Id
  mks : Bool

def lookI : List (Id × Option Ob) → Id → Option (Option Ob)
  | [], _ => none
  | (k, v) :: l, i => if i = k then some v else lookI l i

def Dl.ob (δ : Dl) (ob : Id → Option Ob) (i : Id) : Option Ob := match lookI δ.set i with
  | some x => x
  | none => if i ∈ δ.fz then (ob i).map fun o => ⟨o.z, o.es, false, o.cap⟩ else ob i
def Dl.app (δ : Dl) (dst : Option Nat) (st : St) : St := (⟨st.sl, δ.ob st.ob, fun s => if δ.mks = true ∧ s = dst.getD 0 then st.ct s + 1 else st.ct s⟩ : St).putO dst δ.v

def dlOf (site : Nat) : Res → Dl
  | .v a => ⟨a, [], [], false⟩
  | .nw a n o => ⟨a, [(.l site n, some o)], [], true⟩
  | .up a i o => ⟨a, [(i, some o)], [], false⟩
  | .mv a i n o => ⟨a, [(.l site n, some o), (i, none)], [], true⟩

theorem St.ext {s t : St} (h1 : s.sl = t.sl) (h2 : s.ob = t.ob) (h3 : s.ct = t.ct) : s = t := by cases s; cases t; simp_all
theorem putO_sl (st : St) (dst : Option Nat) (v : AV) (i : Nat) : (st.putO dst v).sl i = if dst = some i then v else st.sl i := by
  cases dst with
  | none => simp [St.putO]
  | some d =>
    simp only [St.putO, St.put, Option.some.injEq]
    by_cases h : i = d
    · subst h; simp
    · rw [beq_ne h, if_neg (fun e => h e.symm)]; rfl

theorem dlOf_app (st : St) (dst : Option Nat) (r : Res) : st.app dst r = (dlOf (dst.getD 0) r).app dst st := by
  apply St.ext
  · funext i
    cases r <;> simp only [St.app, Dl.app, dlOf, putO_sl] <;> rfl
  · funext i
    cases r with
    | v a => simp [St.app, Dl.app, dlOf, Dl.ob, lookI, ob_putO]
    | nw a n o =>
      simp only [St.app, Dl.app, dlOf, Dl.ob, lookI, ob_putO, St.ob_bump, St.ob_setOb]
      split <;> simp_all
    | up a j o =>
      simp only [St.app, Dl.app, dlOf, Dl.ob, lookI, ob_putO, St.ob_bump, St.ob_setOb]
      split <;> simp_all
    | mv a j n o =>
      simp only [St.app, Dl.app, dlOf, Dl.ob, lookI, ob_putO, St.ob_bump, St.ob_setOb]
      by_cases h1 : i = .l (dst.getD 0) n
      · simp [h1]
      · by_cases h2 : i = j
        · subst h2; simp [h1]
        · simp [h1, h2]
  · funext s
    cases r <;> simp [St.app, Dl.app, dlOf, ct_putO, St.ct_bump]

/-! ### One operation, guarded or not, at work -/
structure It where
  i : Nat
  o : AOper
  d : Dl
  t : List Id
  m : List Id

def agree (st st' : St) (o : AOper) (t m : List Id) : Prop :=
  (∀ n ∈ slotsOf o, st'.get n = st.get n) ∧ Like st.ob st'.ob t ∧ (∀ i ∈ m, st'.ob i = st.ob i) ∧ (o.op.makes = true → st'.ct (o.dst.getD 0) = st.ct (o.dst.getD 0))

/-- The item's operation, at this state, does what the item says. -/
def ItW (P : Program) (x : It) (st : St) : Prop :=
  (x.t = tchA st x.o.op ∧ x.m = modA st (x.o.dst.getD 0) x.o.op ∧
    match x.o.op with
    | .call f args => ∃ fn caps as r is, mapO (frzA st.ob 20) (ev st.get f :: args.map (ev st.get)) = some (.f fn caps :: as) ∧ catO (idsA st.ob 20) (ev st.get f :: args.map (ev st.get)) = some is ∧ PCall P fn (as ++ caps) r ∧ x.d = ⟨r, [], is, false⟩
    | op => ∃ r, stepA st.get st.ob (st.ct (x.o.dst.getD 0)) (x.o.dst.getD 0) op = some r ∧ x.d = dlOf (x.o.dst.getD 0) r)

def ItOk (P : Program) (x : It) (st : St) : Prop := match x.o.guard with
  | none => ItW P x st
  | some (d, want) => ∃ b, st.get d = .s b ∧ (gB b want = true → ItW P x st) ∧ (¬ gB b want = true → x.d = ⟨.s undef, [], [], false⟩ ∧ x.t = [] ∧ x.m = [])

theorem ev_agree {st st' : St} {o : AOper} (h : ∀ n ∈ slotsOf o, st'.get n = st.get n) : ∀ x ∈ o.op.opds, ev st'.get x = ev st.get x := by
  intro x hx
  cases x with
  | c a => rfl
  | t n => exact h n (List.mem_append_left _ (List.mem_filterMap.2 ⟨.t n, hx, rfl⟩))

theorem wrA_mod (st : St) (site : Nat) (op : AOp) : ∀ i ∈ wrA st op, i ∈ modA st site op := by
  intro i hi
  cases op <;> simp only [wrA, modA] at hi ⊢ <;> first | exact hi | (cases hi; done) | exact List.mem_cons_of_mem _ hi

theorem tchA_agree {st st' : St} {op : AOp} (hev : ∀ x ∈ op.opds, ev st'.get x = ev st.get x) (hc : ∀ f l, op ≠ .call f l) : tchA st' op = tchA st op := by
  cases op <;> simp only [tchA] <;> first
    | rfl
    | (rw [hev _ (by simp [AOp.opds])]; done)
    | (rw [hev _ (by simp [AOp.opds]), hev _ (by simp [AOp.opds])]; done)
    | exact absurd rfl (hc _ _)
    | skip
theorem modA_agree {st st' : St} {op : AOp} {site : Nat} (hev : ∀ x ∈ op.opds, ev st'.get x = ev st.get x) (hct : op.makes = true → st'.ct site = st.ct site) : modA st' site op = modA st site op := by
  cases op <;> simp only [modA] <;> first
    | rfl
    | (rw [hct rfl]; done)
    | (rw [hct rfl, hev _ (by simp [AOp.opds])]; done)
    | (rw [hev _ (by simp [AOp.opds])]; done)
    | skip

theorem stepA_ct {g : Nat → AV} {ob : Id → Option Ob} {n n' site : Nat} {op : AOp} {r : Res} (hmk : ¬ op.makes = true) (h : stepA g ob n site op = some r) : stepA g ob n' site op = some r := by
  cases op with
  | new cells => exact absurd rfl hmk
  | box x => exact absurd rfl hmk
  | bslice a b d => exact absurd rfl hmk
  | mks a b d e f => exact absurd rfl hmk
  | app a b d e => exact absurd rfl hmk
  | _ => simp only [stepA] at h ⊢; exact h

theorem ItW.loc {P : Program} {x : It} {st st' : St} (ha : agree st st' x.o x.t x.m) (h : ItW P x st) : ItW P x st' := by
  obtain ⟨h1, h2, h3⟩ := h
  obtain ⟨a1, a2, a3, a4⟩ := ha
  have hev := ev_agree a1
  by_cases hcall : ∃ f l, x.o.op = .call f l
  · obtain ⟨f, l, hop⟩ := hcall
    unfold ItW
    rw [hop] at h1 h2 h3 ⊢
    rw [hop] at hev
    simp only at h3 ⊢
    obtain ⟨fn, caps, as, r, is, g1, g2, g3, g4⟩ := h3
    have e1 : ev st'.get f :: l.map (ev st'.get) = ev st.get f :: l.map (ev st.get) := by
      rw [hev f (by simp [AOp.opds]), List.map_congr_left (g := ev st.get) (fun y hy => hev y (by simp [AOp.opds, hy]))]
    have ht : x.t = is := by rw [h1]; simp only [tchA, g2, Option.getD_some]
    rw [ht] at a2
    have g2' : catO (idsA st'.ob 20) (ev st.get f :: l.map (ev st.get)) = some is := catO_congr g2 (fun x _ y hy hb => idsA_like 20 x y hy (fun i hi => a2 i (hb i hi)))
    have g1' : mapO (frzA st'.ob 20) (ev st.get f :: l.map (ev st.get)) = some (.f fn caps :: as) := mapO_congr g1 g2 (fun x _ y js hy hj hb => frzA_like 20 x y js hy hj (fun i hi => a2 i (hb i hi)))
    refine ⟨?_, ?_, fn, caps, as, r, is, by rw [e1]; exact g1', by rw [e1]; exact g2', g3, g4⟩
    · simp only [tchA, e1, g2', Option.getD_some]; exact ht
    · exact h2
  · have hc : ∀ f l, x.o.op ≠ .call f l := fun f l e => hcall ⟨f, l, e⟩
    have hstep : ∃ r, stepA st.get st.ob (st.ct (x.o.dst.getD 0)) (x.o.dst.getD 0) x.o.op = some r ∧ x.d = dlOf (x.o.dst.getD 0) r := by
      revert h3
      cases hop : x.o.op <;> first | exact absurd hop (hc _ _) | exact id
    obtain ⟨r, g1, g2⟩ := hstep
    have g1' : stepA st'.get st'.ob (st'.ct (x.o.dst.getD 0)) (x.o.dst.getD 0) x.o.op = some r := by
      have hloc := stepA_local (st' := st') hev (by rw [← h1]; exact a2) (fun i hi => a3 i (by rw [h2]; exact wrA_mod _ _ _ i hi)) g1
      by_cases hmk : x.o.op.makes = true
      · rw [a4 hmk]; exact hloc
      · exact stepA_ct hmk hloc
    refine ⟨by rw [tchA_agree hev hc]; exact h1, by rw [modA_agree hev a4]; exact h2, ?_⟩
    revert g1'
    cases hop : x.o.op <;> first | exact absurd hop (hc _ _) | (intro g1'; exact ⟨r, g1', g2⟩)

theorem ItOk.loc {P : Program} {x : It} {st st' : St} (ha : agree st st' x.o x.t x.m) (h : ItOk P x st) : ItOk P x st' := by
  unfold ItOk at h ⊢
  cases hg : x.o.guard with
  | none => rw [hg] at h; exact ItW.loc ha h
  | some dw =>
    obtain ⟨d, want⟩ := dw
    rw [hg] at h
    simp only at h ⊢
    obtain ⟨b, h1, h2, h3⟩ := h
    exact ⟨b, by rw [ha.1 d (by simp [slotsOf, hg])]; exact h1, fun e => ItW.loc ha (h2 e), h3⟩

/-! ### Two operations that are apart -/
structure Ind (x y : It) : Prop where
  a : ∀ d, x.o.dst = some d → d ∉ slotsOf y.o
  b : ∀ d, y.o.dst = some d → d ∉ slotsOf x.o
  c : ∀ d, x.o.dst = some d → y.o.dst ≠ some d
  mt : ∀ i ∈ x.m, i ∉ y.t
  tm : ∀ i ∈ y.m, i ∉ x.t
  mm : ∀ i ∈ x.m, i ∉ y.m
  sx : x.o.op.makes = true → x.o.dst.isSome = true
  sy : y.o.op.makes = true → y.o.dst.isSome = true

theorem Ind.symm {x y : It} (h : Ind x y) : Ind y x := ⟨h.b, h.a, fun d e e' => h.c d e' e, h.tm, h.mt, fun i hi hi' => h.mm i hi' hi, h.sy, h.sx⟩

def It.app (x : It) (st : St) : St := x.d.app x.o.dst st

/-- What an item does is within what it says. -/
structure Bnd (x : It) : Prop where
  set : ∀ i, (lookI x.d.set i).isSome = true → i ∈ x.m
  fz : ∀ i ∈ x.d.fz, i ∈ x.t
  mks : x.d.mks = true → x.o.op.makes = true

def IsV (o : Option Res) : Prop := ∀ r, o = some r → ∃ a, r = .v a
theorem isV_none : IsV none := fun _ h => by cases h
theorem isV_some (a : AV) : IsV (some (.v a)) := fun r h => by simp only [Option.some.injEq] at h; exact ⟨a, h.symm⟩
theorem isV_map {α : Type} (f : α → AV) (o : Option α) : IsV (o.map fun x => .v (f x)) := fun r h => by
  simp only [Option.map_eq_some_iff] at h
  obtain ⟨x, _, h⟩ := h
  exact ⟨_, h.symm⟩
theorem isV_map' (o : Option AV) : IsV (o.map Res.v) := isV_map id o
theorem isV_bif {b : Bool} {o o' : Option Res} (h : IsV o) (h' : IsV o') : IsV (bif b then o else o') := by cases b; exact h'; exact h
theorem isV_ite {p : Prop} [Decidable p] {o : Option Res} (h : IsV o) : IsV (if p then o else none) := by
  by_cases hp : p
  · rw [if_pos hp]; exact h
  · rw [if_neg hp]; exact isV_none

theorem stepA_keys {st : St} {site : Nat} {op : AOp} {r : Res} (hs : stepA st.get st.ob (st.ct site) site op = some r) :
    (∀ i, (lookI (dlOf site r).set i).isSome = true → i ∈ modA st site op) ∧ (dlOf site r).fz = [] ∧ ((dlOf site r).mks = true → op.makes = true) := by
  have hv : ∀ a, r = .v a → (∀ i, (lookI (dlOf site r).set i).isSome = true → i ∈ modA st site op) ∧ (dlOf site r).fz = [] ∧ ((dlOf site r).mks = true → op.makes = true) := by
    rintro a rfl; simp [dlOf, lookI]
  have hn : ∀ a o, r = .nw a (st.ct site) o → Id.l site (st.ct site) ∈ modA st site op → op.makes = true → (∀ i, (lookI (dlOf site r).set i).isSome = true → i ∈ modA st site op) ∧ (dlOf site r).fz = [] ∧ ((dlOf site r).mks = true → op.makes = true) := by
    rintro a o rfl hm hk
    refine ⟨fun i hi => ?_, rfl, fun _ => hk⟩
    by_cases h : i = .l site (st.ct site)
    · rw [h]; exact hm
    · simp [dlOf, lookI, h] at hi
  have hu : ∀ a j o, r = .up a j o → j ∈ modA st site op → (∀ i, (lookI (dlOf site r).set i).isSome = true → i ∈ modA st site op) ∧ (dlOf site r).fz = [] ∧ ((dlOf site r).mks = true → op.makes = true) := by
    rintro a j o rfl hm
    refine ⟨fun i hi => ?_, rfl, fun h => by cases h⟩
    by_cases h : i = j
    · rw [h]; exact hm
    · simp [dlOf, lookI, h] at hi
  have hw : ∀ a j o, r = .mv a j (st.ct site) o → j ∈ modA st site op → Id.l site (st.ct site) ∈ modA st site op → op.makes = true → (∀ i, (lookI (dlOf site r).set i).isSome = true → i ∈ modA st site op) ∧ (dlOf site r).fz = [] ∧ ((dlOf site r).mks = true → op.makes = true) := by
    rintro a j o rfl hm hm' hk
    refine ⟨fun i hi => ?_, rfl, fun _ => hk⟩
    by_cases h : i = .l site (st.ct site)
    · rw [h]; exact hm'
    · by_cases h' : i = j
      · rw [h']; exact hm
      · simp [dlOf, lookI, h, h'] at hi
  cases op with
  | new cells =>
    simp only [stepA] at hs
    obtain ⟨_, hs⟩ := bif_opt hs
    simp only [Option.some.injEq] at hs
    exact hn _ _ hs.symm (by simp [modA]) rfl
  | box x =>
    simp only [stepA] at hs
    split at hs
    · obtain ⟨_, hs⟩ := bif_opt hs
      simp only [Option.some.injEq] at hs
      exact hn _ _ hs.symm (by simp [modA]) rfl
    · cases hs
  | bslice z zero ps =>
    simp only [stepA] at hs
    split at hs
    · simp only [Option.map_eq_some_iff] at hs
      obtain ⟨es, _, hs⟩ := hs
      exact hn _ _ hs.symm (by simp [modA]) rfl
    · cases hs
  | mks z b zero l k =>
    simp only [stepA] at hs
    split at hs
    · obtain ⟨_, hs⟩ := ite_opt hs
      simp only [Option.some.injEq] at hs
      exact hn _ _ hs.symm (by simp [modA]) rfl
    · cases hs
  | store m x y =>
    simp only [stepA] at hs
    split at hs
    · rename_i i z k off he
      split at hs
      · split at hs
        · obtain ⟨_, hs⟩ := bif_opt hs
          simp only [Option.some.injEq] at hs
          exact hu _ _ _ hs.symm (by simp [modA, he, refA])
        · cases hs
      · cases hs
    · cases hs
  | copy z x y =>
    simp only [stepA] at hs
    split at hs
    · rename_i i z' off len _ he
      split at hs
      · obtain ⟨_, hs⟩ := ite_opt hs
        simp only [Option.some.injEq] at hs
        exact hu _ _ _ hs.symm (by simp [modA, he, refA])
      · cases hs
    · cases hs
  | clear z zero x =>
    simp only [stepA] at hs
    split at hs
    · rename_i i z' off len he
      split at hs
      · obtain ⟨_, hs⟩ := ite_opt hs
        simp only [Option.some.injEq] at hs
        exact hu _ _ _ hs.symm (by simp [modA, he, refA])
      · cases hs
    · cases hs
  | app z b x y =>
    simp only [stepA] at hs
    split at hs
    · split at hs
      · obtain ⟨_, hs⟩ := bif_opt hs
        obtain ⟨_, hs⟩ := ite_opt hs
        simp only [Option.some.injEq] at hs
        exact hn _ _ hs.symm (by simp [modA]) rfl
      · obtain ⟨_, hs⟩ := ite_opt hs
        simp only [Option.some.injEq] at hs
        exact hn _ _ hs.symm (by simp [modA]) rfl
      · rename_i i z' off len he
        split at hs
        · obtain ⟨_, hs⟩ := ite_opt hs
          split at hs
          · simp only [Option.some.injEq] at hs
            exact hw _ _ _ hs.symm (by simp [modA, he, refA]) (by simp [modA]) rfl
          · obtain ⟨_, hs⟩ := ite_opt hs
            simp only [Option.some.injEq] at hs
            exact hu _ _ _ hs.symm (by simp [modA, he, refA])
        · cases hs
      · cases hs
    · cases hs
  | call f l => simp [stepA] at hs
  | _ =>
    have : ∃ a, r = .v a := by
      refine (show IsV (stepA st.get st.ob (st.ct site) site _) from ?_) r hs
      simp only [stepA]
      repeat' (first | exact isV_some _ | exact isV_none | exact isV_map' _ | exact isV_map _ _ | refine isV_bif ?_ ?_ | apply isV_ite | split)
    exact hv _ this.choose_spec


theorem ItW.bnd {P : Program} {x : It} {st : St} (h : ItW P x st) : Bnd x := by
  obtain ⟨h1, h2, h3⟩ := h
  by_cases hcall : ∃ f l, x.o.op = .call f l
  · obtain ⟨f, l, hop⟩ := hcall
    rw [hop] at h1 h3
    simp only at h3
    obtain ⟨fn, caps, as, r, is, g1, g2, g3, g4⟩ := h3
    have ht : x.t = is := by rw [h1]; simp only [tchA, g2, Option.getD_some]
    exact ⟨fun i hi => by rw [g4] at hi; simp [lookI] at hi, fun i hi => by rw [g4] at hi; rw [ht]; exact hi, fun e => by rw [g4] at e; cases e⟩
  · have hc : ∀ f l, x.o.op ≠ .call f l := fun f l e => hcall ⟨f, l, e⟩
    have hstep : ∃ r, stepA st.get st.ob (st.ct (x.o.dst.getD 0)) (x.o.dst.getD 0) x.o.op = some r ∧ x.d = dlOf (x.o.dst.getD 0) r := by
      revert h3
      cases hop : x.o.op <;> first | exact absurd hop (hc _ _) | exact id
    obtain ⟨r, g1, g2⟩ := hstep
    obtain ⟨k1, k2, k3⟩ := stepA_keys g1
    exact ⟨fun i hi => by rw [h2]; rw [g2] at hi; exact k1 i hi, fun i hi => (by rw [g2, k2] at hi; cases hi), fun e => by rw [g2] at e; exact k3 e⟩
theorem ItOk.bnd {P : Program} {x : It} {st : St} (h : ItOk P x st) : Bnd x := by
  unfold ItOk at h
  split at h
  · exact h.bnd
  · rename_i d want _
    obtain ⟨b, _, h1, h2⟩ := h
    by_cases hb : gB b want = true
    · exact (h1 hb).bnd
    · obtain ⟨h2, h3, h4⟩ := h2 hb
      exact ⟨fun i hi => by rw [h2] at hi; simp [lookI] at hi, fun i hi => (by rw [h2] at hi; cases hi), fun e => by rw [h2] at e; cases e⟩

theorem It.app_get {x : It} {st : St} {n : Nat} (h : x.o.dst ≠ some n) : (x.app st).get n = st.get n := by
  show (x.d.app x.o.dst st).sl n = st.sl n
  simp only [Dl.app, putO_sl, if_neg h]
theorem It.app_ob (x : It) (st : St) : (x.app st).ob = x.d.ob st.ob := by simp only [It.app, Dl.app, ob_putO]
theorem It.app_ct (x : It) (st : St) (s : Nat) : (x.app st).ct s = if x.d.mks = true ∧ s = x.o.dst.getD 0 then st.ct s + 1 else st.ct s := by simp only [It.app, Dl.app, ct_putO]

theorem agree_app {x y : It} {st : St} (hb : Bnd x) (h : Ind x y) : agree st (x.app st) y.o y.t y.m := by
  refine ⟨fun n hn => It.app_get fun e => h.a n e hn, fun i hi => ?_, fun i hi => ?_, fun hm => ?_⟩
  · rw [It.app_ob]
    simp only [Dl.ob]
    split
    · rename_i v hv
      exact absurd hi (h.mt i (hb.set i (by rw [hv]; rfl)))
    · split
      · cases st.ob i <;> rfl
      · rfl
  · rw [It.app_ob]
    simp only [Dl.ob]
    split
    · rename_i v hv
      exact absurd hi (h.mm i (hb.set i (by rw [hv]; rfl)))
    · rw [if_neg fun hf => h.tm i hi (hb.fz i hf)]
  · rw [It.app_ct]
    split
    · rename_i e
      exfalso
      have h1 := h.sx (hb.mks e.1)
      have h2 := h.sy hm
      obtain ⟨d, hd⟩ := Option.isSome_iff_exists.1 h1
      obtain ⟨d', hd'⟩ := Option.isSome_iff_exists.1 h2
      rw [hd, hd'] at e
      have e2 := e.2
      simp only [Option.getD_some] at e2
      exact h.c d hd (by rw [hd', e2])
    · rfl
theorem agree_symm {st st' : St} {o : AOper} {t m : List Id} (h : agree st st' o t m) : agree st' st o t m :=
  ⟨fun n hn => (h.1 n hn).symm, fun i hi => (h.2.1 i hi).symm, fun i hi => (h.2.2.1 i hi).symm, fun hm => (h.2.2.2 hm).symm⟩

theorem app_comm {x y : It} (st : St) (hx : Bnd x) (hy : Bnd y) (h : Ind x y) : y.app (x.app st) = x.app (y.app st) := by
  apply St.ext
  · funext n
    simp only [It.app, Dl.app, putO_sl]
    by_cases h1 : y.o.dst = some n
    · rw [if_pos h1, if_neg fun e => h.c n e h1, if_pos h1]
    · rw [if_neg h1]; split <;> rfl
  · funext i
    rw [It.app_ob, It.app_ob, It.app_ob, It.app_ob]
    simp only [Dl.ob]
    cases h1 : lookI y.d.set i with
    | some v =>
      have hym := hy.set i (by rw [h1]; rfl)
      cases h2 : lookI x.d.set i with
      | some u => exact absurd hym (h.mm i (hx.set i (by rw [h2]; rfl)))
      | none => simp only []; rw [if_neg fun hf => h.tm i hym (hx.fz i hf)]
    | none =>
      cases h2 : lookI x.d.set i with
      | some u =>
        have hxm := hx.set i (by rw [h2]; rfl)
        simp only []
        rw [if_neg fun hf => h.mt i hxm (hy.fz i hf)]
      | none =>
        simp only []
        split <;> split <;> cases st.ob i <;> rfl
  · funext s
    rw [It.app_ct, It.app_ct, It.app_ct, It.app_ct]
    split <;> split <;> omega

theorem diamond {P : Program} {x y : It} {st : St} (hx : ItOk P x st) (hy : ItOk P y (x.app st)) (h : Ind x y) : ItOk P y st ∧ ItOk P x (y.app st) ∧ y.app (x.app st) = x.app (y.app st) := by
  have hy' := ItOk.loc (agree_symm (agree_app hx.bnd h)) hy
  exact ⟨hy', ItOk.loc (agree_app hy'.bnd h.symm) hx, app_comm st hx.bnd hy'.bnd h⟩

/-! ### Many -/
def Run (P : Program) : List It → St → St → Prop
  | [], st, st' => st = st'
  | x :: xs, st, st' => ItOk P x st ∧ Run P xs (x.app st) st'

theorem run_first {P : Program} {y : It} {zs : List It} {st' : St} : ∀ {xs : List It} {st : St}, Run P (xs ++ y :: zs) st st' → (∀ x ∈ xs, Ind x y) → ItOk P y st ∧ Run P (xs ++ zs) (y.app st) st'
  | [], st, h, _ => h
  | x :: xs, st, h, hi => by
    obtain ⟨h1, h2⟩ := h
    obtain ⟨h3, h4⟩ := run_first h2 fun z hz => hi z (List.mem_cons_of_mem _ hz)
    obtain ⟨d1, d2, d3⟩ := diamond h1 h3 (hi x List.mem_cons_self)
    exact ⟨d1, d2, by rw [← d3]; exact h4⟩

/-! ### The region as it stands in the text -/
def bef (ops : Array Oper) (j i : Nat) : Bool := ((Region.before ops).getD j 0).testBit i
def apartA (x y : AOper) : Bool :=
  (match x.dst with | some d => !(slotsOf y).contains d && !(y.dst == some d) | none => true) && (match y.dst with | some d => !(slotsOf x).contains d | none => true)
def memA (x : AOper) : Bool := x.op.makes || x.op.looks
def pairOk (ops : Array Oper) (x y : AOper) : Bool := bef ops y.idx x.idx || (apartA x y && (y.inc.contains x.idx || !memA x || !memA y))
def chkPairs (ops : Array Oper) : List AOper → Bool
  | [] => true
  | x :: xs => xs.all (pairOk ops x) && chkPairs ops xs
def chkDraw (ops : Array Oper) (l : List AOper) : Bool :=
  l.all (fun o => !o.op.makes || o.dst.isSome) && chkPairs ops l &&
  (List.range ops.size).all fun j =>
    (ops[j]?).all fun o => o.after.toList.all (fun e => !Region.binds .any e || Nat.blt e.on j) &&
      (List.range ops.size).all fun i => !bef ops j i || o.after.toList.any fun e => Region.binds .any e && (Nat.beq e.on i || bef ops e.on i)

theorem Like.refl (ob : Id → Option Ob) (is : List Id) : Like ob ob is := fun _ _ => rfl

def Sep (x y : It) : Prop := y.o.inc.contains x.o.idx = true → (∀ i ∈ x.m, i ∉ y.t) ∧ (∀ i ∈ y.m, i ∉ x.t) ∧ ∀ i ∈ x.m, i ∉ y.m

theorem disj_spec : ∀ {xs ys : List Id}, disj xs ys = true → ∀ i ∈ xs, i ∉ ys
  | [], _, _, i, hi => by cases hi
  | x :: xs, ys, h, i, hi => by
    simp only [disj, Bool.and_eq_true, Bool.not_eq_true'] at h
    rcases List.mem_cons.1 hi with rfl | hi
    · intro hm; simp [List.contains_iff_mem, hm] at h
    · exact disj_spec h.2 i hi

/-- What has been worked out in the order of the text. -/
theorem opsD_run {P : Program} {K : St → Prop} : ∀ (l : List AOper) (log : List Ent) (st : St), opsD P l log K st →
    ∃ its : List It, its.map (·.o) = l ∧ ∃ st', Run P its st st' ∧ K st' ∧ its.Pairwise Sep ∧ ∀ e ∈ log, ∀ y ∈ its, y.o.inc.contains e.k = true → (∀ i ∈ e.m, i ∉ y.t) ∧ (∀ i ∈ y.m, i ∉ e.t) ∧ ∀ i ∈ e.m, i ∉ y.m
  | [], log, st, h => ⟨[], rfl, st, rfl, h, List.Pairwise.nil, fun _ _ _ hy => by cases hy⟩
  | o :: l, log, st, h => by
    have work : ∀ {hok : okI o.inc log (tchA st o.op) (modA st (o.dst.getD 0) o.op) = true} (hop : opD P o (opsD P l (⟨o.idx, tchA st o.op, modA st (o.dst.getD 0) o.op⟩ :: log) K) st) (hg : ∀ x : It, x.o = o → ItW P x st → ItOk P x st),
        ∃ its : List It, its.map (·.o) = o :: l ∧ ∃ st', Run P its st st' ∧ K st' ∧ its.Pairwise Sep ∧ ∀ e ∈ log, ∀ y ∈ its, y.o.inc.contains e.k = true → (∀ i ∈ e.m, i ∉ y.t) ∧ (∀ i ∈ y.m, i ∉ e.t) ∧ ∀ i ∈ e.m, i ∉ y.m := by
      intro hok hop hg
      have hx : ∃ x : It, x.o = o ∧ x.t = tchA st o.op ∧ x.m = modA st (o.dst.getD 0) o.op ∧ ItW P x st ∧ opsD P l (⟨o.idx, tchA st o.op, modA st (o.dst.getD 0) o.op⟩ :: log) K (x.app st) := by
        by_cases hcall : ∃ f as, o.op = .call f as
        · obtain ⟨f, as, ho⟩ := hcall
          have hop' := hop
          unfold opD at hop'
          rw [ho] at hop'
          simp only at hop'
          obtain ⟨fn, caps, bs, r, is, g1, g2, g3, g4⟩ := hop'
          refine ⟨⟨o.idx, o, ⟨r, [], is, false⟩, tchA st o.op, modA st (o.dst.getD 0) o.op⟩, rfl, rfl, rfl, ⟨rfl, rfl, ?_⟩, ?_⟩
          · simp only [ho]; exact ⟨fn, caps, bs, r, is, g1, g2, g3, rfl⟩
          · have e : (⟨o.idx, o, ⟨r, [], is, false⟩, tchA st o.op, modA st (o.dst.getD 0) o.op⟩ : It).app st = (st.frz is).putO o.dst r := by
              apply St.ext
              · funext n; simp only [It.app, Dl.app, putO_sl, St.frz_sl]
              · funext i
                rw [It.app_ob, ob_putO, St.frz_ob]
                simp only [Dl.ob, lookI]
                by_cases hi : i ∈ is <;> cases st.ob i <;> simp [hi]
              · funext s; rw [It.app_ct, ct_putO, St.frz_ct]; simp
            rw [e]
            simpa only [ho] using g4
        · have hc : ∀ f l, o.op ≠ .call f l := fun f l e => hcall ⟨f, l, e⟩
          have hr : resW st o.dst (opsD P l (⟨o.idx, tchA st o.op, modA st (o.dst.getD 0) o.op⟩ :: log) K) (stepA st.get st.ob (st.ct (o.dst.getD 0)) (o.dst.getD 0) o.op) := by
            unfold opD at hop
            revert hop
            cases ho : o.op <;> first | exact absurd ho (hc _ _) | exact id
          unfold resW at hr
          split at hr
          · rename_i r hs
            refine ⟨⟨o.idx, o, dlOf (o.dst.getD 0) r, tchA st o.op, modA st (o.dst.getD 0) o.op⟩, rfl, rfl, rfl, ⟨rfl, rfl, ?_⟩, ?_⟩
            · simp only
              revert hs
              cases ho : o.op <;> first | exact absurd ho (hc _ _) | exact fun hs => ⟨r, hs, rfl⟩
            · show opsD P l _ K ((dlOf (o.dst.getD 0) r).app o.dst st)
              rw [← dlOf_app]; exact hr
          · exact hr.elim
      obtain ⟨x, hxo, hxt, hxm, hxw, hK⟩ := hx
      obtain ⟨its, h1, st', h2, h3, h4, h5⟩ := opsD_run l _ _ hK
      refine ⟨x :: its, by simp [hxo, h1], st', ⟨hg x hxo hxw, h2⟩, h3, List.pairwise_cons.2 ⟨fun y hy => ?_, h4⟩, fun e he y hy => ?_⟩
      · have := h5 ⟨o.idx, tchA st o.op, modA st (o.dst.getD 0) o.op⟩ List.mem_cons_self y hy
        simpa only [Sep, hxo, hxt, hxm] using this
      · rcases List.mem_cons.1 hy with rfl | hy
        · intro hc
          rw [hxo] at hc
          rw [hxt, hxm]
          unfold okI at hok
          split at hok
          · rename_i hn; rw [hn] at hc; simp at hc
          · have := List.all_eq_true.1 hok e he
            simp only [hc, Bool.not_true, Bool.false_or, Bool.and_eq_true] at this
            exact ⟨disj_spec this.1.1, disj_spec this.1.2, disj_spec this.2⟩
        · exact h5 e (List.mem_cons_of_mem _ he) y hy
    unfold opsD at h
    cases hg : o.guard with
    | none =>
      rw [hg] at h
      exact work (hok := h.1) h.2 fun x hx hw => by unfold ItOk; rw [hx, hg]; exact hw
    | some dw =>
      obtain ⟨d, want⟩ := dw
      rw [hg] at h
      simp only at h
      obtain ⟨b, hb, h1, h2⟩ := guardW_some h
      by_cases hbw : gB b want = true
      · exact work (hok := (h1 hbw).1) (h1 hbw).2 fun x hx hw => by
          unfold ItOk; rw [hx, hg]; exact ⟨b, hb, fun _ => hw, fun hn => absurd hbw hn⟩
      · let x : It := ⟨o.idx, o, ⟨.s undef, [], [], false⟩, [], []⟩
        have hxa : x.app st = st.putO o.dst (.s undef) := by
          apply St.ext
          · funext n; simp only [x, It.app, Dl.app, putO_sl]
          · funext i; rw [It.app_ob, ob_putO]; simp [x, Dl.ob, lookI]
          · funext s; rw [It.app_ct, ct_putO]; simp [x]
        obtain ⟨its, g1, st', g2, g3, g4, g5⟩ := opsD_run l log _ (h2 hbw)
        refine ⟨x :: its, by simp [x, g1], st', ⟨?_, by rw [hxa]; exact g2⟩, g3, List.pairwise_cons.2 ⟨fun y hy _ => ⟨fun i hi => (by cases hi), fun i _ hi => (by cases hi), fun i hi => (by cases hi)⟩, g4⟩, fun e he y hy => ?_⟩
        · unfold ItOk
          rw [show x.o.guard = some (d, want) from hg]
          exact ⟨b, hb, fun e => absurd e hbw, fun _ => ⟨rfl, rfl, rfl⟩⟩
        · rcases List.mem_cons.1 hy with rfl | hy
          · intro _
            exact ⟨fun i _ hi => (by cases hi), fun i hi => (by cases hi), fun i _ hi => (by cases hi)⟩
          · exact g5 e he y hy
end Go.Den
