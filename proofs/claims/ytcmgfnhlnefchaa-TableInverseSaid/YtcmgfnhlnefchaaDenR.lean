/-
  Den, part R: regions that draw their order, on the machine.
-/
import Derived.Test.YtcmgfnhlnefchaaDenO
namespace Go.Den
set_option linter.unusedVariables false
set_option linter.unusedSimpArgs false

theorem ItW.opW {P : Program} {x : It} {st : St} (h : ItW P x st) : opW P x.o (fun s => s = x.app st) st := by
  obtain ⟨h1, h2, h3⟩ := h
  by_cases hcall : ∃ f l, x.o.op = .call f l
  · obtain ⟨f, l, hop⟩ := hcall
    unfold Den.opW
    rw [hop] at h3
    simp only [hop] at h3 ⊢
    obtain ⟨fn, caps, as, r, is, g1, g2, g3, g4⟩ := h3
    refine .inl ⟨fn, caps, as, r, is, g1, g2, g3, ?_⟩
    apply St.ext
    · funext n; simp only [It.app, Dl.app, putO_sl, St.frz_sl, g4]
    · funext i
      rw [It.app_ob, ob_putO, St.frz_ob]
      simp only [Dl.ob, lookI, g4]
      by_cases hi : i ∈ is <;> cases st.ob i <;> simp [hi]
    · funext s; rw [It.app_ct, ct_putO, St.frz_ct]; simp [g4]
  · have hc : ∀ f l, x.o.op ≠ .call f l := fun f l e => hcall ⟨f, l, e⟩
    have hstep : ∃ r, stepA st.get st.ob (st.ct (x.o.dst.getD 0)) (x.o.dst.getD 0) x.o.op = some r ∧ x.d = dlOf (x.o.dst.getD 0) r := by
      revert h3
      cases hop : x.o.op <;> first | exact absurd hop (hc _ _) | exact id
    obtain ⟨r, g1, g2⟩ := hstep
    have hr : resW st x.o.dst (fun s => s = x.app st) (stepA st.get st.ob (st.ct (x.o.dst.getD 0)) (x.o.dst.getD 0) x.o.op) := by
      rw [g1]
      show st.app x.o.dst r = x.app st
      rw [dlOf_app, ← g2]; rfl
    unfold Den.opW
    split
    · rename_i f l e; exact absurd e (hc f l)
    · rw [g1] at hr ⊢; exact hr

theorem mem_ready {ops : Array Oper} {listed : Array Bool} {i : Nat} : i ∈ Region.ready .any ops listed ↔ i < ops.size ∧ listed.getD i true = false ∧ ∃ o, ops[i]? = some o ∧ ∀ e ∈ o.after, Region.binds .any e = true → listed.getD e.on false = true := by
  unfold Region.ready
  simp only [List.mem_filter, List.mem_range, Bool.and_eq_true, Bool.not_eq_true']
  constructor
  · rintro ⟨h1, h2, h3⟩
    refine ⟨h1, h2, ?_⟩
    cases ho : ops[i]? with
    | none => rw [ho] at h3; simp at h3
    | some o =>
      rw [ho] at h3
      simp only [Option.map_some, Option.getD_some] at h3
      refine ⟨o, rfl, fun e he hb => ?_⟩
      have := Array.all_eq_true_iff_forall_mem.1 h3 e he
      simpa [hb] using this
  · rintro ⟨h1, h2, o, ho, h3⟩
    refine ⟨h1, h2, ?_⟩
    rw [ho]
    simp only [Option.map_some, Option.getD_some]
    refine Array.all_eq_true_iff_forall_mem.2 fun e he => ?_
    cases hb : Region.binds .any e with
    | false => rfl
    | true => simpa using h3 e he hb

theorem getD_in {listed : Array Bool} {i : Nat} (h : i < listed.size) (d d' : Bool) : listed.getD i d = listed.getD i d' := by
  simp [Array.getD, h]

section
variable {P : Program} {en : Env}

theorem draw_any {ops : Array Oper} {Q : Exit → Act → World → Prop} {K : St → Prop} {c0 : Cx} {w0 : World} (hQ : ∀ c st a w, K st → Up c0 w0 c w → StRel en c st a w → Q .normal a w)
    {l : List AOper} (hlen : l.length = ops.size) (htr : ∀ j o, ops[j]? = some o → ∃ inc ao, l[j]? = some ao ∧ cOper P en.nt ops inc j o = some ao)
    (hC : ∀ j o, ops[j]? = some o → ∀ e ∈ o.after, Region.binds .any e = true → e.on < j)
    (hD : ∀ j o, ops[j]? = some o → ∀ i, i < ops.size → bef ops j i = true → ∃ e ∈ o.after, Region.binds .any e = true ∧ (e.on = i ∨ bef ops e.on i = true)) :
    ∀ (fuel : Nat) (its : List It) (listed : Array Bool) {c : Cx} {st st' : St} {a : Act} {w : World}, listed.size = ops.size →
      (∀ j, j < ops.size → (listed.getD j true = false ↔ ∃ x ∈ its, x.o.idx = j)) → (∀ x ∈ its, l[x.o.idx]? = some x.o) →
      its.Pairwise (fun x y => x.o.idx < y.o.idx ∧ (bef ops y.o.idx x.o.idx = false → Ind x y)) →
      (∀ j k, j < ops.size → k < ops.size → listed.getD j true = true → bef ops j k = true → listed.getD k true = true) →
      its.length ≤ fuel → Run P its st st' → K st' → Up c0 w0 c w → StRel en c st a w → wpAny P .any ops Q fuel listed a w := by
  -- nothing is left
  have empty : ∀ {listed : Array Bool}, (∀ j, j < ops.size → (listed.getD j true = false ↔ ∃ x ∈ ([] : List It), x.o.idx = j)) → Region.ready .any ops listed = [] := by
    intro listed h
    apply List.eq_nil_iff_forall_not_mem.2
    intro i hi
    obtain ⟨h1, h2, _⟩ := mem_ready.1 hi
    obtain ⟨x, hx, _⟩ := (h i h1).1 h2
    cases hx
  intro fuel
  induction fuel with
  | zero =>
    intro its listed c st st' a w hsz hun hlk hpw hcl hfu hrun hK hup hrel
    have : its = [] := List.length_eq_zero_iff.1 (by omega)
    subst this
    refine ⟨empty hun, ?_⟩
    have e : st = st' := hrun
    exact hQ c st a w (by rw [e]; exact hK) hup hrel
  | succ fuel ih =>
    intro its listed c st st' a w hsz hun hlk hpw hcl hfu hrun hK hup hrel
    have hidx : ∀ x ∈ its, x.o.idx < ops.size := fun x hx => by
      have := hlk x hx
      rcases Nat.lt_or_ge x.o.idx l.length with h | h
      · omega
      · rw [List.getElem?_eq_none h] at this; cases this
    refine ⟨fun hr => ?_, fun i hi => ?_⟩
    · cases its with
      | nil =>
        have e : st = st' := hrun
        exact hQ c st a w (by rw [e]; exact hK) hup hrel
      | cons x rest =>
        exfalso
        have hx := hidx x List.mem_cons_self
        have : x.o.idx ∈ Region.ready .any ops listed := by
          refine mem_ready.2 ⟨hx, (hun _ hx).2 ⟨x, List.mem_cons_self, rfl⟩, ops[x.o.idx], by simp [hx], fun e he hb => ?_⟩
          have hlt := hC x.o.idx _ (by simp [hx]) e he hb
          rw [getD_in (by omega) false true]
          cases hg : listed.getD e.on true with
          | true => rfl
          | false =>
            exfalso
            obtain ⟨y, hy, hyi⟩ := (hun e.on (by omega)).1 hg
            rcases List.mem_cons.1 hy with rfl | hy
            · omega
            · have := (List.pairwise_cons.1 hpw).1 y hy
              omega
        rw [hr] at this
        cases this
    · obtain ⟨h1, h2, o, ho, h3⟩ := mem_ready.1 hi
      obtain ⟨y, hy, hyi⟩ := (hun i h1).1 h2
      obtain ⟨xs, zs, rfl⟩ := List.append_of_mem hy
      have hpw' := List.pairwise_append.1 hpw
      have hyz := List.pairwise_cons.1 hpw'.2.1
      -- what has been listed is listed
      have hbl : ∀ k, k < ops.size → bef ops i k = true → listed.getD k true = true := by
        intro k hk hb
        obtain ⟨e, he, hbi, hor⟩ := hD i o ho k hk hb
        have hel := h3 e he hbi
        have heo := hC i o ho e he hbi
        rw [getD_in (by omega) false true] at hel
        rcases hor with rfl | hor
        · exact hel
        · exact hcl e.on k (by omega) hk hel hor
      have hind : ∀ x ∈ xs, Ind x y := by
        intro x hx
        have hp := hpw'.2.2 x hx y List.mem_cons_self
        refine hp.2 ?_
        cases hb : bef ops y.o.idx x.o.idx with
        | false => rfl
        | true =>
          exfalso
          have hxm : x ∈ xs ++ y :: zs := List.mem_append_left _ hx
          rw [hyi] at hb
          have := hbl x.o.idx (hidx x hxm) hb
          rw [(hun x.o.idx (hidx x hxm)).2 ⟨x, hxm, rfl⟩] at this
          cases this
      obtain ⟨hok, hrun'⟩ := run_first hrun hind
      have hne : ∀ x ∈ xs ++ zs, x.o.idx ≠ i := by
        intro x hx
        rcases List.mem_append.1 hx with hx | hx
        · have := (hpw'.2.2 x hx y List.mem_cons_self).1; omega
        · have := (hyz.1 x hx).1; omega
      have hmem : ∀ x ∈ xs ++ zs, x ∈ xs ++ y :: zs := by
        intro x hx
        rcases List.mem_append.1 hx with hx | hx
        · exact List.mem_append_left _ hx
        · exact List.mem_append_right _ (List.mem_cons_of_mem _ hx)
      -- what is left to show behind the operation
      have next : ∀ {c : Cx} {a : Act} {w : World}, Up c0 w0 c w → StRel en c (y.app st) a w → wpAny P .any ops Q fuel (listed.setIfInBounds i true) a w := by
        intro c a w hup hrel
        have hget : ∀ j d, (listed.setIfInBounds i true).getD j d = if j = i ∧ i < listed.size then true else listed.getD j d := by
          intro j d
          simp only [Array.getD_eq_getD_getElem?, Array.getElem?_setIfInBounds]
          by_cases hji : i = j
          · subst hji
            by_cases hs : i < listed.size <;> simp [hs]
          · simp only [if_neg hji]
            rw [if_neg (fun (e : j = i ∧ i < listed.size) => hji e.1.symm)]
        refine ih (xs ++ zs) _ (by simp [hsz]) (fun j hj => ?_) (fun x hx => hlk x (hmem x hx)) ?_ (fun j k hj hk hlj hb => ?_) (by simp at hfu ⊢; omega) hrun' hK hup hrel
        · rw [hget]
          by_cases hji : j = i
          · rw [if_pos ⟨hji, by omega⟩]
            constructor
            · intro e; cases e
            · rintro ⟨x, hx, hxi⟩; exact absurd (hxi.trans hji) (hne x hx)
          · rw [if_neg fun e => hji e.1, hun j hj]
            constructor
            · rintro ⟨x, hx, hxi⟩
              refine ⟨x, ?_, hxi⟩
              rcases List.mem_append.1 hx with hx | hx
              · exact List.mem_append_left _ hx
              · rcases List.mem_cons.1 hx with rfl | hx
                · exact absurd (hxi.symm.trans hyi) hji
                · exact List.mem_append_right _ hx
            · rintro ⟨x, hx, hxi⟩; exact ⟨x, hmem x hx, hxi⟩
        · exact List.pairwise_append.2 ⟨hpw'.1, hyz.2, fun x hx z hz => hpw'.2.2 x hx z (List.mem_cons_of_mem _ hz)⟩
        · rw [hget] at hlj ⊢
          split
          · rfl
          · by_cases hji : j = i
            · subst hji; exact hbl k hk hb
            · rw [if_neg fun e => hji e.1] at hlj
              exact hcl j k hj hk hlj hb
      -- the operation
      obtain ⟨inc, ao, hao, hco⟩ := htr i o ho
      have hyo : y.o = ao := by
        have := hlk y hy
        rw [hyi, hao] at this
        simpa using this.symm
      unfold cOper at hco
      split at hco
      · rename_i x g hx hg
        obtain ⟨⟨hd, hgd⟩, hco⟩ := ite_opt hco
        simp only [Option.some.injEq] at hco
        have hd' : ∀ d, o.dst = some d → d < en.nt := fun d e => by rw [e] at hd; simpa using hd
        unfold wpOp
        rw [ho]
        simp only
        have hyo' := hyo.trans hco.symm
        have work : ItW P y st → o.wp P a w (wpAny P .any ops Q fuel (listed.setIfInBounds i true)) Q := by
          intro hw
          have hop := hw.opW
          rw [hyo'] at hop
          have := op_sound (Q := Q) hrel hup hd' hx hop
          refine Oper.wp_mono ?_ this
          rintro a' w' ⟨c', st1, rfl, hup', h'⟩
          exact next hup' h'
        unfold ItOk at hok
        rw [hyo'] at hok
        simp only at hok
        cases g with
        | none =>
          rw [if_pos (guard_none hg _)]
          exact .inl (work hok)
        | some dw =>
          obtain ⟨d, want⟩ := dw
          simp only at hok
          obtain ⟨b, hb, k1, k2⟩ := hok
          have hw := guard_yields hrel hg (by simpa [gOk] using hgd) hb
          by_cases hbw : gB b want = true
          · rw [if_pos (by rw [hw]; simp [hbw])]
            exact .inl (work (k1 hbw))
          · rw [if_neg (by rw [hw]; simp [hbw])]
            obtain ⟨k2, _, _⟩ := k2 hbw
            have hxa : y.app st = st.putO o.dst (.s undef) := by
              have hdst : y.o.dst = o.dst := by rw [hyo']
              apply St.ext
              · funext n; simp only [It.app, Dl.app, putO_sl, k2, hdst]
              · funext i; rw [It.app_ob, ob_putO]; simp [k2, Dl.ob, lookI]
              · funext s; rw [It.app_ct, ct_putO]; simp [k2]
            refine next hup ?_
            rw [hxa]
            exact StRel.val (v := undef) hrel (by simp [VRel]) (fun d e => by rw [hrel.tsz]; exact hd' d e)
      · cases hco

theorem makes_none {x : It} (hm : memA x.o = false) {st : St} (h : ItW P x st) : x.t = [] ∧ x.m = [] := by
  obtain ⟨h1, h2, _⟩ := h
  rw [h1, h2]
  revert hm
  unfold memA
  cases x.o.op <;> simp [AOp.makes, AOp.looks, tchA, modA]
theorem ItOk.none {x : It} (hm : memA x.o = false) {st : St} (h : ItOk P x st) : x.t = [] ∧ x.m = [] := by
  unfold ItOk at h
  split at h
  · exact makes_none hm h
  · rename_i d want _
    obtain ⟨b, _, h1, h2⟩ := h
    by_cases hb : gB b want = true
    · exact makes_none hm (h1 hb)
    · exact (h2 hb).2
theorem Run.each : ∀ {its : List It} {st st' : St}, Run P its st st' → ∀ x ∈ its, ∃ s, ItOk P x s
  | [], _, _, _, x, hx => by cases hx
  | y :: ys, st, st', h, x, hx => by
    rcases List.mem_cons.1 hx with rfl | hx
    · exact ⟨_, h.1⟩
    · exact Run.each h.2 x hx

theorem apartA_spec {x y : AOper} (h : apartA x y = true) : (∀ d, x.dst = some d → d ∉ slotsOf y) ∧ (∀ d, y.dst = some d → d ∉ slotsOf x) ∧ (∀ d, x.dst = some d → y.dst ≠ some d) := by
  unfold apartA at h
  simp only [Bool.and_eq_true] at h
  refine ⟨fun d hd hm => ?_, fun d hd hm => ?_, fun d hd he => ?_⟩
  · have h1 := h.1; rw [hd] at h1; simp [List.contains_iff_mem, hm] at h1
  · have h1 := h.2; rw [hd] at h1; simp [List.contains_iff_mem, hm] at h1
  · have h1 := h.1; rw [hd] at h1; simp [he] at h1

theorem chkPairs_spec {ops : Array Oper} : ∀ {l : List AOper}, chkPairs ops l = true → l.Pairwise fun x y => pairOk ops x y = true
  | [], _ => List.Pairwise.nil
  | x :: xs, h => by
    simp only [chkPairs, Bool.and_eq_true] at h
    exact List.pairwise_cons.2 ⟨fun y hy => List.all_eq_true.1 h.1 y hy, chkPairs_spec h.2⟩

theorem pair_and {α : Type} {R S : α → α → Prop} : ∀ {l : List α}, l.Pairwise R → l.Pairwise S → l.Pairwise fun x y => R x y ∧ S x y
  | [], _, _ => List.Pairwise.nil
  | x :: xs, h, k => by
    obtain ⟨h1, h2⟩ := List.pairwise_cons.1 h
    obtain ⟨k1, k2⟩ := List.pairwise_cons.1 k
    exact List.pairwise_cons.2 ⟨fun y hy => ⟨h1 y hy, k1 y hy⟩, pair_and h2 k2⟩

/-- A region that draws its order, from the translation's own check. -/
theorem draw_sound' {ops : Array Oper} {id : Nat} (hm : P.follows .mixedOrders = true) {Q : Exit → Act → World → Prop} {K : St → Prop} {c0 : Cx} {w0 : World} (hQ : ∀ c st a w, K st → Up c0 w0 c w → StRel en c st a w → Q .normal a w)
    {l : List AOper} {incs : Nat → List Nat} (hl : (ops.toList.zipIdx).mapM (fun p => cOper P en.nt ops (incs p.2) p.2 p.1) = some l) (hchk : chkDraw ops l = true)
    {c : Cx} {st : St} {a : Act} {w : World} (hk : opsD P l [] K st) (hup : Up c0 w0 c w) (h : StRel en c st a w) :
    (Code.region id ops true).wp P Q a w := by
  obtain ⟨hlen, hget⟩ := mapM_get _ hl
  simp only [List.length_zipIdx, Array.length_toList] at hlen
  have htr : ∀ j o, ops[j]? = some o → ∃ inc ao, l[j]? = some ao ∧ cOper P en.nt ops inc j o = some ao := by
    intro j o ho
    have hj : j < ops.size := (Array.getElem?_eq_some_iff.1 ho).1
    have hjl : j < l.length := by omega
    refine ⟨incs j, l[j], by simp [hjl], ?_⟩
    have := hget j (o, j) l[j] (by simp [List.getElem?_zipIdx, ho]) (by simp [hjl])
    exact this
  have hidx : ∀ (j : Nat) (ao : AOper), l[j]? = some ao → ao.idx = j := by
    intro j ao hao
    have hjl : j < l.length := by
      rcases Nat.lt_or_ge j l.length with h | h
      · exact h
      · rw [List.getElem?_eq_none h] at hao; cases hao
    obtain ⟨inc, ao', h1, h2⟩ := htr j ops[j] (by simp [show j < ops.size by omega])
    rw [hao] at h1
    simp only [Option.some.injEq] at h1
    subst h1
    unfold cOper at h2
    split at h2
    · obtain ⟨_, h2⟩ := ite_opt h2
      simp only [Option.some.injEq] at h2
      rw [← h2]
    · cases h2
  unfold chkDraw at hchk
  simp only [Bool.and_eq_true] at hchk
  obtain ⟨⟨hA, hB⟩, hE⟩ := hchk
  have hE' := List.all_eq_true.1 hE
  have hE2 : ∀ j o, ops[j]? = some o → (o.after.toList.all (fun e => !Region.binds .any e || Nat.blt e.on j) = true) ∧ ((List.range ops.size).all fun i => !bef ops j i || o.after.toList.any fun e => Region.binds .any e && (Nat.beq e.on i || bef ops e.on i)) = true := by
    intro j o ho
    have hj : j < ops.size := (Array.getElem?_eq_some_iff.1 ho).1
    have := hE' j (List.mem_range.2 hj)
    rw [ho] at this
    simpa only [Option.all_some, Bool.and_eq_true] using this
  obtain ⟨its, hits, st', hrun, hK, hsep, _⟩ := opsD_run l [] st hk
  have hlk : ∀ (k : Nat) (x : It), its[k]? = some x → l[k]? = some x.o := by
    intro k x hx
    rw [← hits, List.getElem?_map, hx]; rfl
  have hki : ∀ (k : Nat) (x : It), its[k]? = some x → x.o.idx = k := fun k x hx => hidx k x.o (hlk k x hx)
  have hmk : ∀ x ∈ its, x.o.op.makes = true → x.o.dst.isSome = true := by
    intro x hx hm'
    have : x.o ∈ l := by rw [← hits]; exact List.mem_map.2 ⟨x, hx, rfl⟩
    have := List.all_eq_true.1 hA x.o this
    simpa [hm'] using this
  have hpair : its.Pairwise fun x y => pairOk ops x.o y.o = true := by
    have := chkPairs_spec hB
    rw [← hits, List.pairwise_map] at this
    exact this
  have hlt : its.Pairwise fun x y => x.o.idx < y.o.idx := by
    rw [List.pairwise_iff_getElem]
    intro i j hi hj hij
    rw [hki i its[i] (by simp [hi]), hki j its[j] (by simp [hj])]
    exact hij
  refine wp_region_any hm ?_
  have hsize : its.length = ops.size := by
    rw [← hlen, ← hits]; simp
  have hw : StRel en c st a { w with drawn := w.drawn + 1 } := StRel.drew h (w.drawn + 1)
  have hupd : Up c0 w0 c { w with drawn := w.drawn + 1 } := hup.trans ⟨fun _ _ h => h, fun _ _ _ => rfl, fun _ h => h, fun _ _ => rfl⟩
  refine draw_any hQ hlen htr ?_ ?_ ops.size its (Array.replicate ops.size false) (by simp) (fun j hj => ?_) (fun x hx => ?_) ?_ (fun j k hj hk' hlj _ => ?_) (by omega) hrun hK hupd hw
  · intro j o ho e he hb
    have := List.all_eq_true.1 (hE2 j o ho).1 e (by simpa using he)
    simp only [hb, Bool.not_true, Bool.false_or] at this
    exact Nat.le_of_ble_eq_true this
  · intro j o ho i hi hb
    have := List.all_eq_true.1 (hE2 j o ho).2 i (List.mem_range.2 hi)
    simp only [hb, Bool.not_true, Bool.false_or, List.any_eq_true, Bool.and_eq_true, Bool.or_eq_true] at this
    obtain ⟨e, he, hbi, hor⟩ := this
    refine ⟨e, by simpa using he, hbi, ?_⟩
    rcases hor with hor | hor
    · exact .inl (Nat.eq_of_beq_eq_true hor)
    · exact .inr hor
  · have : (Array.replicate ops.size false).getD j true = false := by simp [Array.getD, hj]
    rw [this]
    have hji : j < its.length := by omega
    exact ⟨fun _ => ⟨its[j], List.getElem_mem hji, hki j _ (by simp [hji])⟩, fun _ => rfl⟩
  · obtain ⟨k, hk', hkx⟩ := List.getElem_of_mem hx
    have : its[k]? = some x := by rw [List.getElem?_eq_getElem hk', hkx]
    rw [hki k x this]
    exact hlk k x this
  · -- pairs
    have hall := List.pairwise_iff_getElem.1 (pair_and hlt (pair_and hpair hsep))
    rw [List.pairwise_iff_getElem]
    intro i j hi hj hij
    obtain ⟨g1, g2, g3⟩ := hall i j hi hj hij
    refine ⟨g1, fun hb => ?_⟩
    unfold pairOk at g2
    rw [hb, Bool.false_or, Bool.and_eq_true] at g2
    obtain ⟨a1, a2, a3⟩ := apartA_spec g2.1
    have hxm := List.getElem_mem hi
    have hym := List.getElem_mem hj
    have hmem : (∀ k ∈ (its[i]).m, k ∉ (its[j]).t) ∧ (∀ k ∈ (its[j]).m, k ∉ (its[i]).t) ∧ ∀ k ∈ (its[i]).m, k ∉ (its[j]).m := by
      have g := g2.2
      simp only [Bool.or_eq_true, Bool.not_eq_true'] at g
      rcases g with (g | g) | g
      · exact g3 g
      · obtain ⟨s, hs⟩ := Run.each hrun _ hxm
        obtain ⟨e1, e2⟩ := hs.none g
        rw [e1, e2]
        exact ⟨fun k hk => (by cases hk), fun k _ hk => (by cases hk), fun k hk => (by cases hk)⟩
      · obtain ⟨s, hs⟩ := Run.each hrun _ hym
        obtain ⟨e1, e2⟩ := hs.none g
        rw [e1, e2]
        exact ⟨fun k _ hk => (by cases hk), fun k hk => (by cases hk), fun k _ hk => (by cases hk)⟩
    exact ⟨a1, a2, a3, hmem.1, hmem.2.1, hmem.2.2, hmk _ hxm, hmk _ hym⟩
  · exfalso
    have : (Array.replicate ops.size false).getD j true = false := by simp [Array.getD, hj]
    rw [this] at hlj
    cases hlj
end
end Go.Den
