/-
  Den, part Q: working a piece of code out: the forms that a state is brought to.
-/
import Derived.Test.YtcmgfnhlnefchaaDenP
namespace Go.Den
set_option linter.unusedVariables false
set_option linter.unusedSimpArgs false

def slF : List (Nat × AV) → Nat → AV
  | [], _ => .u
  | (k, v) :: l, i => bif Nat.beq i k then v else slF l i
def St.of (l : List (Nat × AV)) (ob : Id → Option Ob) (ct : Nat → Nat) : St := ⟨slF l, ob, ct⟩
def updO (ob : Id → Option Ob) (i : Id) (o : Option Ob) : Id → Option Ob := fun j => if j = i then o else ob j
def bumpC (ct : Nat → Nat) (s : Nat) : Nat → Nat := fun j => bif Nat.beq j s then ct j + 1 else ct j

theorem slF_map (st : St) : ∀ (live : List Nat) (i : Nat), slF (live.map fun j => (j, st.get j)) i = bif live.contains i then st.get i else .u
  | [], i => rfl
  | k :: l, i => by
    simp only [List.map_cons, slF, List.contains_cons]
    by_cases h : i = k
    · subst h; simp
    · rw [beq_ne h, slF_map st l i, show (i == k) = false by simp [h]]; simp
theorem St.cut_eq (st : St) (live : List Nat) : st.cut live = St.of (live.map fun i => (i, st.get i)) st.ob st.ct := by
  simp only [St.cut, St.of, St.mk.injEq, and_true]
  funext i
  rw [slF_map]; rfl
theorem St.get_of_cons (k : Nat) (v : AV) (l : List (Nat × AV)) (ob : Id → Option Ob) (ct : Nat → Nat) (i : Nat) : (St.of ((k, v) :: l) ob ct).get i = if i = k then v else (St.of l ob ct).get i := by
  simp only [St.of, St.get, slF]
  by_cases h : i = k
  · subst h; simp
  · rw [beq_ne h, if_neg h]; rfl
theorem St.get_of_nil (ob : Id → Option Ob) (ct : Nat → Nat) (i : Nat) : (St.of [] ob ct).get i = .u := rfl
theorem St.ob_of (l : List (Nat × AV)) (ob : Id → Option Ob) (ct : Nat → Nat) : (St.of l ob ct).ob = ob := rfl
theorem St.ct_of (l : List (Nat × AV)) (ob : Id → Option Ob) (ct : Nat → Nat) : (St.of l ob ct).ct = ct := rfl
theorem St.ob_setOb' (st : St) (i : Id) (o : Option Ob) : (st.setOb i o).ob = updO st.ob i o := rfl
theorem St.ct_bump' (st : St) (s : Nat) : (st.bump s).ct = bumpC st.ct s := rfl
theorem updO_at (ob : Id → Option Ob) (i : Id) (o : Option Ob) (j : Id) : updO ob i o j = if j = i then o else ob j := rfl
theorem bumpC_at (ct : Nat → Nat) (s j : Nat) : bumpC ct s j = if j = s then ct j + 1 else ct j := by
  by_cases h : j = s
  · subst h; simp [bumpC]
  · simp [bumpC, beq_ne h, h]
theorem St.get_frz (st : St) (is : List Id) (i : Nat) : (st.frz is).get i = st.get i := St.frz_get is st i
theorem St.init_of (args : List AV) : St.init args = St.of (args.zipIdx.map fun p => (p.2, p.1)) (fun _ => none) (fun _ => 0) := by
  simp only [St.init, St.of, St.mk.injEq, and_true]
  funext i
  have key : ∀ (l : List AV) (k i : Nat), k ≤ i → slF ((l.zipIdx k).map fun p => (p.2, p.1)) i = l.getD (i - k) .u := by
    intro l
    induction l with
    | nil => intro k i _; simp [slF]
    | cons x l ih =>
      intro k i hk
      simp only [List.zipIdx_cons, List.map_cons, slF]
      by_cases h : i = k
      · subst h; simp
      · rw [beq_ne h, cond_false, ih (k + 1) i (by omega)]
        rw [show i - k = (i - (k + 1)) + 1 by omega]
        simp
  rw [key args 0 i (Nat.zero_le _)]; simp

theorem init_run {P : Program} {ac : AC} {Q : AE → St → Prop} {args : List AV} (h : ∀ ob ct, (∀ i, ob i = none) → dwp P ac Q (St.of (args.zipIdx.map fun p => (p.2, p.1)) ob ct)) : dwp P ac Q (St.init args) := by
  rw [St.init_of]; exact h _ _ fun _ => rfl

theorem init_runI {P : Program} {ac : AC} {Q : AE → St → Prop} {args : List AV} {ob : Id → Option Ob} {ct : Nat → Nat} (h : dwp P ac Q (St.of (args.zipIdx.map fun p => (p.2, p.1)) ob ct)) : dwp P ac Q ⟨fun i => args.getD i .u, ob, ct⟩ := by
  have e : (⟨fun i => args.getD i .u, ob, ct⟩ : St) = St.of (args.zipIdx.map fun p => (p.2, p.1)) ob ct := by
    have := St.init_of args
    simp only [St.init, St.of, St.mk.injEq, and_true] at this ⊢
    exact this
  rw [e]; exact h

theorem beq_iff (i j : Nat) : Nat.beq i j = decide (i = j) := by
  by_cases h : i = j
  · subst h; simp
  · simp [beq_ne h, h]
theorem ble_iff (i j : Nat) : Nat.ble i j = decide (i ≤ j) := by
  cases h : Nat.ble i j with
  | true => simp [Nat.le_of_ble_eq_true h]
  | false =>
    have : ¬ i ≤ j := fun hh => by rw [Nat.ble_eq_true_of_le hh] at h; cases h
    simp [this]
theorem blt_iff (i j : Nat) : Nat.blt i j = decide (i < j) := ble_iff (i + 1) j
theorem dwp_loop {P : Program} {x : AC} {Q : AE → St → Prop} {st : St} (h : ∀ I : St → Prop, (∀ st, dwp P x (Kseq I Q) st → I st) → I st) : dwp P (.loop x) Q st := h

theorem Fresh.ne {st : St} (h : Fresh st) {i : Id} {o : Ob} (ho : st.ob i = some o) (s n : Nat) (hn : st.ct s ≤ n) : i ≠ .l s n := fun e => by
  rw [e, h s n hn] at ho; cases ho
theorem Fresh.of_ne {l : List (Nat × AV)} {ob : Id → Option Ob} {ct : Nat → Nat} (h : Fresh (St.of l ob ct)) {i : Id} {o : Ob} (ho : ob i = some o) (s : Nat) : i ≠ .l s (ct s) := h.ne (st := St.of l ob ct) ho s _ (Nat.le_refl _)

section
variable {P : Program} {ops : List AOper} {live : List Nat} {x y z : AC} {Q : AE → St → Prop} {K : St → Prop} {st : St}
theorem run_reg {st' : St} (h : Fresh st → ∀ K : St → Prop, K st' → opsW P ops (fun s => K (s.cut live)) st) (hq : Q .n st') : dwp P (.region ops live) Q st := fun hf => h hf (fun s => Q .n s) hq
theorem run_drawn {st' : St} (h : Fresh st → ∀ K : St → Prop, K st' → opsD P ops [] (fun s => K (s.cut live)) st) (hq : Q .n st') : dwp P (.drawn ops live) Q st := fun hf => h hf (fun s => Q .n s) hq
theorem run_reg' {st' : St} (h : Fresh st → (∀ K : St → Prop, K st' → opsW P ops (fun s => K (s.cut live)) st) ∧ Q .n st') : dwp P (.region ops live) Q st := fun hf => (h hf).1 (fun s => Q .n s) (h hf).2
theorem run_drawn' {st' : St} (h : Fresh st → (∀ K : St → Prop, K st' → opsD P ops [] (fun s => K (s.cut live)) st) ∧ Q .n st') : dwp P (.drawn ops live) Q st := fun hf => (h hf).1 (fun s => Q .n s) (h hf).2
theorem run_k (h : ∀ K : St → Prop, K = dwp P y Q → Fresh st → opsW P ops (fun s => K (s.cut live)) st) : dwp P (.seq (.region ops live) y) Q st := fun hf => h _ rfl hf
theorem run_dk (h : ∀ K : St → Prop, K = dwp P y Q → Fresh st → opsD P ops [] (fun s => K (s.cut live)) st) : dwp P (.seq (.drawn ops live) y) Q st := fun hf => h _ rfl hf
theorem run_dem {A : Type} {C : A → Prop} {st' : A → St} (h : Fresh st → ∀ K : St → Prop, (∀ x, C x → K (st' x)) → opsW P ops (fun s => K (s.cut live)) st) (hq : ∀ x, C x → Q .n (st' x)) : dwp P (.region ops live) Q st := fun hf => h hf (fun s => Q .n s) hq
theorem run_dem_seq {A : Type} {C : A → Prop} {st' : A → St} (h : Fresh st → ∀ K : St → Prop, (∀ x, C x → K (st' x)) → opsW P ops (fun s => K (s.cut live)) st) (hq : ∀ x, C x → dwp P y Q (st' x)) : dwp P (.seq (.region ops live) y) Q st := run_dem h hq
theorem run_seq (h : dwp P x (Kseq (dwp P y Q) Q) st) : dwp P (.seq x y) Q st := h
theorem run_reg_seq {st' : St} (h : Fresh st → ∀ K : St → Prop, K st' → opsW P ops (fun s => K (s.cut live)) st) (hq : dwp P y Q st') : dwp P (.seq (.region ops live) y) Q st := run_reg h hq
theorem run_drawn_seq {st' : St} (h : Fresh st → ∀ K : St → Prop, K st' → opsD P ops [] (fun s => K (s.cut live)) st) (hq : dwp P y Q st') : dwp P (.seq (.drawn ops live) y) Q st := run_drawn h hq
theorem Kseq_Kseq (K K' : St → Prop) : Kseq K (Kseq K' Q) = Kseq K Q := by
  funext e st; cases e <;> rfl
theorem run_assoc (h : dwp P (.seq x (.seq y z)) Q st) : dwp P (.seq (.seq x y) z) Q st := by
  show dwp P x (Kseq (dwp P y (Kseq (dwp P z Q) Q)) (Kseq (dwp P z Q) Q)) st
  rw [Kseq_Kseq]; exact h
theorem run_cond {c : Opd} {b : Bool} (hc : ev st.get c = .s (.bool b)) (h1 : b = true → dwp P x Q st) (h2 : b = false → dwp P y Q st) : dwp P (.cond c x y) Q st := by
  show condW (ev st.get c) _ _
  rw [hc]
  cases b with
  | true => exact h1 rfl
  | false => exact h2 rfl
theorem run_cond_seq {c : Opd} {b : Bool} (hc : ev st.get c = .s (.bool b)) (h1 : b = true → dwp P (.seq x z) Q st) (h2 : b = false → dwp P (.seq y z) Q st) : dwp P (.seq (.cond c x y) z) Q st :=
  run_seq (run_cond hc h1 h2)
theorem run_skip_seq (h : dwp P y Q st) : dwp P (.seq .skip y) Q st := h
theorem run_exit_seq {id : Nat} (h : Q (.e id) st) : dwp P (.seq (.exit id) y) Q st := h
theorem run_ret_seq (h : Q .r st) : dwp P (.seq .ret y) Q st := h
theorem run_block {id : Nat} (h : dwp P x (Kblock id Q) st) : dwp P (.block id x) Q st := h
theorem run_loop (h : ∀ I : St → Prop, (∀ st, dwp P x (Kseq I Q) st → I st) → I st) : dwp P (.loop x) Q st := h
end

attribute [simp] St.get_of_cons St.get_of_nil St.ob_of St.ct_of St.ob_setOb' St.ct_bump' updO_at bumpC_at St.get_put ob_putO ct_putO beq_iff ble_iff blt_iff St.cut_eq
@[simp] theorem resW_some (st : St) (dst : Option Nat) (K : St → Prop) (r : Res) : resW st dst K (some r) = K (st.app dst r) := rfl
@[simp] theorem resX_some (st : St) (dst : Option Nat) (K : St → Prop) (alt : Prop) (r : Res) : resX st dst K alt (some r) = K (st.app dst r) := rfl
@[simp] theorem resX_none (st : St) (dst : Option Nat) (K : St → Prop) (alt : Prop) : resX st dst K alt none = alt := rfl
attribute [simp] altW nilW capW slxW appzW loA
@[simp] theorem resW_ite (st : St) (dst : Option Nat) (K : St → Prop) (c : Prop) [Decidable c] (r : Option Res) : resW st dst K (if c then r else none) = (c ∧ resW st dst K r) := by
  by_cases h : c
  · simp [h]
  · simp only [if_neg h, h, false_and]; rfl
@[simp] theorem resX_ite (st : St) (dst : Option Nat) (K : St → Prop) (c : Prop) [Decidable c] (r : Option Res) : resX st dst K False (if c then r else none) = (c ∧ resX st dst K False r) := by
  by_cases h : c
  · simp [h]
  · simp only [if_neg h, h, false_and]; rfl
@[simp] theorem resW_bif (st : St) (dst : Option Nat) (K : St → Prop) (c : Bool) (r : Option Res) : resW st dst K (bif c then r else none) = (c = true ∧ resW st dst K r) := by
  cases c
  · simp only [cond_false, Bool.false_eq_true, false_and]; rfl
  · simp
@[simp] theorem resX_bif (st : St) (dst : Option Nat) (K : St → Prop) (c : Bool) (r : Option Res) : resX st dst K False (bif c then r else none) = (c = true ∧ resX st dst K False r) := by
  cases c
  · simp only [cond_false, Bool.false_eq_true, false_and]; rfl
  · simp
@[simp] theorem app_v (st : St) (dst : Option Nat) (a : AV) : st.app dst (.v a) = st.putO dst a := rfl
@[simp] theorem app_nw (st : St) (dst : Option Nat) (a : AV) (n : Nat) (o : Ob) : st.app dst (.nw a n o) = ((st.setOb (.l (dst.getD 0) n) (some o)).bump (dst.getD 0)).putO dst a := rfl
@[simp] theorem app_up (st : St) (dst : Option Nat) (a : AV) (i : Id) (o : Ob) : st.app dst (.up a i o) = (st.setOb i (some o)).putO dst a := rfl
@[simp] theorem app_mv (st : St) (dst : Option Nat) (a : AV) (i : Id) (n : Nat) (o : Ob) : st.app dst (.mv a i n o) = (((st.setOb i none).setOb (.l (dst.getD 0) n) (some o)).bump (dst.getD 0)).putO dst a := rfl
attribute [simp] Value.oneCell'
@[simp] theorem gB_bool (b w : Bool) : gB (.bool b) w = (b == w) := rfl
@[simp] theorem gB_undef (w : Bool) : gB undef w = false := rfl
attribute [simp] opsW opsD opW opD stepA ev okI St.putO Kblock cellsA oneA fillA fillE splice intA bndA elemsA guardW tchA modA refA disj isNilS
attribute [simp] Kseq_Kseq

@[simp] theorem wrap_nat (n : Nat) (h : n < 9223372036854775808) : IntKind.i64.wrap (n : Int) = (n : Int) := by
  simp [IntKind.wrap, IntKind.bits, IntKind.signed]
  omega

theorem wrap_succ {n : Nat} (h : n < 4611686018427387904) : IntKind.i64.wrap ((n : Int) + 1) = ((n + 1 : Nat) : Int) := by
  have := wrap_nat (n + 1) (by omega)
  simpa using this
theorem take_snoc {α β : Type} {f : α → β} {l : List α} {j : Nat} (h : j < l.length) : (l.take (j + 1)).map f = (l.map f).take j ++ [f l[j]] := by
  rw [List.take_add_one, List.map_append, List.map_take]
  simp [List.getElem?_eq_getElem h]

@[simp] theorem take_len_map {α β : Type} (f : α → β) (l : List α) : (l.map f).take l.length = l.map f := by
  rw [List.take_of_length_le]; simp

/-! ### Data -/
def plainA : AV → Bool
  | .u => true
  | .s _ => true
  | .d full _ _ => !full
  | .q .. => true
  | _ => false
theorem frz_plain {ob : Id → Option Ob} {d : Nat} {a : AV} (h : plainA a = true) : frzA ob (d + 1) a = some a := by
  cases a <;> simp [plainA] at h <;> simp [frzA, h]
theorem ids_plain {ob : Id → Option Ob} {d : Nat} {a : AV} (h : plainA a = true) : idsA ob (d + 1) a = some [] := by
  cases a <;> simp [plainA] at h <;> simp [idsA, h]
theorem mapO_plain {ob : Id → Option Ob} {d : Nat} : ∀ {l : List AV}, l.all plainA = true → mapO (frzA ob (d + 1)) l = some l
  | [], _ => rfl
  | a :: l, h => by
    simp only [List.all_cons, Bool.and_eq_true] at h
    simp only [mapO, frz_plain h.1, mapO_plain h.2]
theorem catO_plain {ob : Id → Option Ob} {d : Nat} : ∀ {l : List AV}, l.all plainA = true → catO (idsA ob (d + 1)) l = some []
  | [], _ => rfl
  | a :: l, h => by
    simp only [List.all_cons, Bool.and_eq_true] at h
    simp only [catO, ids_plain h.1, catO_plain h.2, List.nil_append]
def plainL (es : List (List AV)) : Bool := es.all (·.all plainA)
theorem mapO_plainL' {ob : Id → Option Ob} {d : Nat} : ∀ {l : List (List AV)}, plainL l = true → mapO (mapO (frzA ob (d + 1))) l = some l
  | [], _ => rfl
  | a :: l, h => by
    simp only [plainL, List.all_cons, Bool.and_eq_true] at h
    simp only [mapO, mapO_plain h.1, mapO_plainL' h.2]
@[simp] theorem mapO_plainL {ob : Id → Option Ob} {d : Nat} {l : List (List AV)} (h : plainL l = true) (hd : 0 < d) : mapO (mapO (frzA ob d)) l = some l := by
  obtain ⟨k, rfl⟩ : ∃ k, d = k + 1 := ⟨d - 1, by omega⟩
  exact mapO_plainL' h
theorem catO_plainL' {ob : Id → Option Ob} {d : Nat} : ∀ {l : List (List AV)}, plainL l = true → catO (catO (idsA ob (d + 1))) l = some []
  | [], _ => rfl
  | a :: l, h => by
    simp only [plainL, List.all_cons, Bool.and_eq_true] at h
    simp only [catO, catO_plain h.1, catO_plainL' h.2, List.nil_append]
@[simp] theorem catO_plainL {ob : Id → Option Ob} {d : Nat} {l : List (List AV)} (h : plainL l = true) (hd : 0 < d) : catO (catO (idsA ob d)) l = some [] := by
  obtain ⟨k, rfl⟩ : ∃ k, d = k + 1 := ⟨d - 1, by omega⟩
  exact catO_plainL' h
@[simp] theorem plainL_map {α : Type} {f : α → List AV} (h : ∀ x, (f x).all plainA = true) (l : List α) : plainL (l.map f) = true := by
  simp only [plainL, List.all_map, List.all_eq_true]
  intro x _; exact h x
@[simp] theorem plainL_append (a b : List (List AV)) : plainL (a ++ b) = (plainL a && plainL b) := by simp [plainL]
@[simp] theorem plainL_nil : plainL [] = true := rfl
@[simp] theorem plainL_cons (e : List AV) (es : List (List AV)) : plainL (e :: es) = (e.all plainA && plainL es) := by simp [plainL]
theorem plainL_take {es : List (List AV)} (h : plainL es = true) (n : Nat) : plainL (es.take n) = true := by
  simp only [plainL, List.all_eq_true] at h ⊢
  intro x hx; exact h x (List.mem_of_mem_take hx)
theorem plainL_drop {es : List (List AV)} (h : plainL es = true) (n : Nat) : plainL (es.drop n) = true := by
  simp only [plainL, List.all_eq_true] at h ⊢
  intro x hx; exact h x (List.mem_of_mem_drop hx)
attribute [simp] plainA

/-! ### Calls -/
def frzO (ob : Id → Option Ob) (is : List Id) : Id → Option Ob := fun i => (ob i).map fun o => if i ∈ is then ⟨o.z, o.es, false, o.cap⟩ else o
@[simp] theorem St.ob_frz (st : St) (is : List Id) : (st.frz is).ob = frzO st.ob is := by
  funext i; rw [St.frz_ob]; rfl
theorem frzO_at (ob : Id → Option Ob) (is : List Id) (i : Id) : frzO ob is i = (ob i).map fun o => if i ∈ is then ⟨o.z, o.es, false, o.cap⟩ else o := rfl
@[simp] theorem St.ct_frz (st : St) (is : List Id) : (st.frz is).ct = st.ct := St.frz_ct is st
@[simp] theorem St.frz_nil (st : St) : st.frz [] = st := rfl
attribute [simp] frzO_at
attribute [simp] St.get_frz

theorem callW_of {P : Program} {st : St} {fn : FuncId} {caps as : List AV} {r : AV} (hp : PCall P fn (as ++ caps) r) (is : List Id) {l : List AV} {dst : Option Nat} {K : St → Prop}
    (h1 : mapO (frzA st.ob 20) l = some (.f fn caps :: as)) (h2 : catO (idsA st.ob 20) l = some is) (hk : K ((st.frz is).putO dst r)) : callW P st l dst K := ⟨fn, caps, as, r, is, h1, h2, hp, hk⟩
theorem callW_of0 {P : Program} {st : St} {fn : FuncId} {us : List AV} {r : AV} (hp : PCall P fn us r) (is : List Id) {l : List AV} {dst : Option Nat} {K : St → Prop}
    (h1 : mapO (frzA st.ob 20) l = some (.f fn [] :: us)) (h2 : catO (idsA st.ob 20) l = some is) (hk : K ((st.frz is).putO dst r)) : callW P st l dst K := ⟨fn, [], us, r, is, h1, h2, by rw [List.append_nil]; exact hp, hk⟩
/-- The slots of a state, and other memory. -/
def St.mem (st : St) (ob : Id → Option Ob) (ct : Nat → Nat) : St := ⟨st.sl, ob, ct⟩
@[simp] theorem St.get_mem (st : St) (ob : Id → Option Ob) (ct : Nat → Nat) (i : Nat) : (st.mem ob ct).get i = st.get i := rfl
@[simp] theorem St.ob_mem (st : St) (ob : Id → Option Ob) (ct : Nat → Nat) : (st.mem ob ct).ob = ob := rfl
@[simp] theorem St.ct_mem (st : St) (ob : Id → Option Ob) (ct : Nat → Nat) : (st.mem ob ct).ct = ct := rfl
theorem icallW_of {P : Program} {st : St} {fn : FuncId} {caps as : List AV} {l : List AV} {dst : Option Nat} {K : St → Prop} (h1 : l = .f fn caps :: as)
    (hp : ICall P fn (as ++ caps) st.ob st.ct (fun r ob ct => K ((st.mem ob ct).putO dst r))) : icallW P st l dst K := ⟨fn, caps, as, h1, hp⟩

/-! ### Regions that draw their order and change nothing -/
def roA : AOp → Bool
  | .new _ | .box _ | .bslice .. | .mks .. | .store .. | .app .. | .copy .. | .clear .. => false
  | _ => true
theorem modA_ro {op : AOp} (h : roA op = true) (st : St) (site : Nat) : modA st site op = [] := by
  cases op <;> first | rfl | (cases h)
theorem opD_mono {P : Program} {o : AOper} {K K' : St → Prop} (h : ∀ s, K s → K' s) {st : St} (hk : opD P o K st) : opD P o K' st := by
  unfold opD at hk ⊢
  split at hk
  · obtain ⟨fn, caps, as', r, is, h1, h2, h3, h4⟩ := hk
    exact ⟨fn, caps, as', r, is, h1, h2, h3, h _ h4⟩
  · unfold resW at hk ⊢
    split at hk
    · exact h _ hk
    · exact hk.elim
def opsR (P : Program) : List AOper → (St → Prop) → St → Prop
  | [], K, st => K st
  | o :: rest, K, st => match o.guard with
    | none => opD P o (opsR P rest K) st
    | some (d, want) => guardW (st.get d) want (opD P o (opsR P rest K) st) (opsR P rest K (st.putO o.dst (.s undef)))
theorem okI_ro {inc : List Nat} {log : List Ent} {t : List Id} (h : ∀ e ∈ log, e.m = []) : okI inc log t [] = true := by
  unfold okI
  split
  · rfl
  · rw [List.all_eq_true]
    intro e he
    rw [h e he]
    simp
theorem opsR_D {P : Program} {K : St → Prop} : ∀ {l : List AOper} {log : List Ent} {st : St}, l.all (fun o => roA o.op) = true → (∀ e ∈ log, e.m = []) → opsR P l K st → opsD P l log K st
  | [], _, _, _, _, h => h
  | o :: l, log, st, hl, hlog, h => by
    simp only [List.all_cons, Bool.and_eq_true] at hl
    have hm := modA_ro hl.1 st (o.dst.getD 0)
    have step : opD P o (opsR P l K) st → okI o.inc log (tchA st o.op) (modA st (o.dst.getD 0) o.op) = true ∧ opD P o (opsD P l (⟨o.idx, tchA st o.op, modA st (o.dst.getD 0) o.op⟩ :: log) K) st := fun h => by
      refine ⟨by rw [hm]; exact okI_ro hlog, opD_mono (fun s hs => opsR_D hl.2 (fun e he => ?_) hs) h⟩
      rcases List.mem_cons.1 he with rfl | he
      · exact hm
      · exact hlog e he
    unfold opsR at h
    unfold opsD
    cases hg : o.guard with
    | none => rw [hg] at h; exact step h
    | some dw =>
      obtain ⟨d, want⟩ := dw
      rw [hg] at h
      simp only at h ⊢
      obtain ⟨b, hb, h1, h2⟩ := guardW_some h
      rw [hb]
      show if gB b want = true then _ else _
      by_cases hbw : gB b want = true
      · rw [if_pos hbw]; exact step (h1 hbw)
      · rw [if_neg hbw]; exact opsR_D hl.2 hlog (h2 hbw)
attribute [simp] opsR
theorem run_ro {P : Program} {ops : List AOper} {live : List Nat} {Q : AE → St → Prop} {st st' : St} (hro : ops.all (fun o => roA o.op) = true) (h : Fresh st → ∀ K : St → Prop, K st' → opsR P ops (fun s => K (s.cut live)) st) (hq : Q .n st') : dwp P (.drawn ops live) Q st := fun hf => opsR_D hro (fun _ he => by cases he) (h hf (fun s => Q .n s) hq)
theorem run_ro_seq {P : Program} {ops : List AOper} {live : List Nat} {y : AC} {Q : AE → St → Prop} {st st' : St} (hro : ops.all (fun o => roA o.op) = true) (h : Fresh st → ∀ K : St → Prop, K st' → opsR P ops (fun s => K (s.cut live)) st) (hq : dwp P y Q st') : dwp P (.seq (.drawn ops live) y) Q st := run_ro hro h hq
end Go.Den
