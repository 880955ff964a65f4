/-
  Den, part A: abstract values, what it means that a machine value has one, and the abstract state of a call.
-/
import Derived.Calls
import Derived.Tactics
import Derived.Orders
import Derived.Laws.Sem
import Derived.Below
import Derived.WalkKit
import Derived.KernelRfl
namespace Go.Den
set_option linter.unusedVariables false
set_option linter.unusedSimpArgs false

/-- The name of a piece of memory that a call owns: the site that made it and how often the site had been at work before; or one that came in. -/
inductive Id where
  | l (site n : Nat)
  | x (i : Id)
  deriving DecidableEq

/-- Abstract values. 'd': a slice whose elements nobody writes any more; 'q': a pointer into such; 'o', 'p': a slice of, a pointer into, memory that is owned. -/
inductive AV where
  | u
  | s (v : Value)
  | g (cs : List AV)
  | t (vs : List AV)
  | d (full : Bool) (z : Nat) (es : List (List AV))
  | q (es : List (List AV)) (z k off : Nat)
  | o (i : Id) (z off len : Nat)
  | p (i : Id) (z k off : Nat)
  | f (fn : FuncId) (caps : List AV)

/-- Where a piece of owned memory lies: block, first cell, cells up to the end of the capacity. -/
structure Home where
  blk : Nat
  off : Nat
  cap : Nat

structure Cx where
  F : Nat → Nat → Prop
  mu : Id → Home
  al : Id → Prop

/-- What is known of data: no memory that is owned. -/
def Cx.data (c : Cx) : Cx := { c with al := fun _ => False }

def Held (F : Nat → Nat → Prop) (w : World) (b o : Nat) (xs : List Value) : Prop :=
  ∀ i v, xs[i]? = some v → F b (o + i) ∧ w.cell? ⟨b, o + i, none⟩ = some v
/-- Each fills one cell. -/
def One (xs : List Value) : Prop := ∀ v ∈ xs, v.oneCell' = true

mutual
def VRel (c : Cx) (w : World) : AV → Value → Prop
  | .u, _ => True
  | .s v, x => x = v
  | .g cs, x => ∃ xs, x = .agg xs ∧ VRels c w cs xs.toList
  | .t vs, x => ∃ xs, x = .tuple xs ∧ VRels c w vs xs.toList
  | .d full z es, x => ∃ a k xs, x = .slice a es.length k ∧ es.length ≤ k ∧ (full = true → k = es.length) ∧ 0 < z ∧ (∀ e ∈ es, e.length = z) ∧ VRelss c.data w es xs ∧ One xs ∧
      (xs ≠ [] → ∃ b o, a = some ⟨b, o, none⟩ ∧ Held c.F w b o xs)
  | .q es z k off, x => ∃ b o xs, x = .pointer (some ⟨b, o + k * z + off, none⟩) ∧ (∀ e ∈ es, e.length = z) ∧ VRelss c.data w es xs ∧ One xs ∧ Held c.F w b o xs
  | .o i z off len, x => c.al i ∧ 0 < z ∧ ∃ a k, x = .slice a len k ∧ len ≤ k ∧ (off + k) * z = (c.mu i).cap ∧ (0 < k → a = some ⟨(c.mu i).blk, (c.mu i).off + off * z, none⟩)
  | .p i z k off, x => c.al i ∧ x = .pointer (some ⟨(c.mu i).blk, (c.mu i).off + k * z + off, none⟩)
  | .f fn caps, x => ∃ xs, x = .func (.func fn) #[] xs ∧ VRels c w caps xs.toList
def VRels (c : Cx) (w : World) : List AV → List Value → Prop
  | [], l => l = []
  | a :: as, l => ∃ x xs, l = x :: xs ∧ VRel c w a x ∧ VRels c w as xs
def VRelss (c : Cx) (w : World) : List (List AV) → List Value → Prop
  | [], l => l = []
  | e :: es, l => ∃ x xs, l = x ++ xs ∧ VRels c w e x ∧ VRelss c w es xs
end

/-- The later context knows what the elder one knew. -/
structure Up (c : Cx) (w : World) (c' : Cx) (w' : World) : Prop where
  F : ∀ b i, c.F b i → c'.F b i
  cell : ∀ b i, c.F b i → w'.cell? ⟨b, i, none⟩ = w.cell? ⟨b, i, none⟩
  al : ∀ i, c.al i → c'.al i
  mu : ∀ i, c.al i → c'.mu i = c.mu i

theorem Up.refl (c : Cx) (w : World) : Up c w c w := ⟨fun _ _ h => h, fun _ _ _ => rfl, fun _ h => h, fun _ _ => rfl⟩
theorem Up.trans {c c' c'' : Cx} {w w' w'' : World} (h : Up c w c' w') (k : Up c' w' c'' w'') : Up c w c'' w'' :=
  ⟨fun b i x => k.F b i (h.F b i x), fun b i x => (k.cell b i (h.F b i x)).trans (h.cell b i x), fun i x => k.al i (h.al i x), fun i x => (k.mu i (h.al i x)).trans (h.mu i x)⟩

theorem Up.data {c c' : Cx} {w w' : World} (h : Up c w c' w') : Up c.data w c'.data w' := ⟨h.F, h.cell, fun _ h => h, fun _ h => h.elim⟩
theorem Up.ofData (c : Cx) (w : World) : Up c.data w c w := ⟨fun _ _ h => h, fun _ _ _ => rfl, fun _ h => h.elim, fun _ h => h.elim⟩

theorem Held.up {c c' : Cx} {w w' : World} (h : Up c w c' w') {b o : Nat} {xs : List Value} (k : Held c.F w b o xs) : Held c'.F w' b o xs := fun i v e => by
  obtain ⟨h1, h2⟩ := k i v e
  exact ⟨h.F _ _ h1, (h.cell _ _ h1).trans h2⟩

mutual
theorem VRel.up {c c' : Cx} {w w' : World} (h : Up c w c' w') : ∀ (a : AV) (x : Value), VRel c w a x → VRel c' w' a x
  | .u, _, _ => by simp [VRel]
  | .s v, x, k => by simpa [VRel] using k
  | .g cs, x, k => by
    simp only [VRel] at k ⊢
    obtain ⟨xs, e, r⟩ := k
    exact ⟨xs, e, VRels.up h cs _ r⟩
  | .t vs, x, k => by
    simp only [VRel] at k ⊢
    obtain ⟨xs, e, r⟩ := k
    exact ⟨xs, e, VRels.up h vs _ r⟩
  | .d full z es, x, k => by
    simp only [VRel] at k ⊢
    obtain ⟨a, n, xs, e, h1, h2, hz, h3, h4, h1c, h5⟩ := k
    refine ⟨a, n, xs, e, h1, h2, hz, h3, VRelss.up h.data es _ h4, h1c, fun hne => ?_⟩
    obtain ⟨b, o, ha, hh⟩ := h5 hne
    exact ⟨b, o, ha, Held.up h hh⟩
  | .q es z k off, x, r => by
    simp only [VRel] at r ⊢
    obtain ⟨b, o, xs, e, h3, h4, h1c, h5⟩ := r
    exact ⟨b, o, xs, e, h3, VRelss.up h.data es _ h4, h1c, Held.up h h5⟩
  | .o i z off len, x, k => by
    simp only [VRel] at k ⊢
    obtain ⟨ha, hz, a, n, e, h1, h2, h3⟩ := k
    rw [h.mu i ha]
    exact ⟨h.al i ha, hz, a, n, e, h1, h2, h3⟩
  | .p i z k off, x, r => by
    simp only [VRel] at r ⊢
    rw [h.mu i r.1]
    exact ⟨h.al i r.1, r.2⟩
  | .f fn caps, x, k => by
    simp only [VRel] at k ⊢
    obtain ⟨xs, e, r⟩ := k
    exact ⟨xs, e, VRels.up h caps _ r⟩
theorem VRels.up {c c' : Cx} {w w' : World} (h : Up c w c' w') : ∀ (as : List AV) (xs : List Value), VRels c w as xs → VRels c' w' as xs
  | [], xs, k => by simpa [VRels] using k
  | a :: as, xs, k => by
    simp only [VRels] at k ⊢
    obtain ⟨x, l, e, r1, r2⟩ := k
    exact ⟨x, l, e, VRel.up h a x r1, VRels.up h as l r2⟩
theorem VRelss.up {c c' : Cx} {w w' : World} (h : Up c w c' w') : ∀ (es : List (List AV)) (xs : List Value), VRelss c w es xs → VRelss c' w' es xs
  | [], xs, k => by simpa [VRelss] using k
  | a :: as, xs, k => by
    simp only [VRelss] at k ⊢
    obtain ⟨x, l, e, r1, r2⟩ := k
    exact ⟨x, l, e, VRels.up h a x r1, VRelss.up h as l r2⟩
end

/-! ### Lists of values -/
theorem VRels.length {c : Cx} {w : World} : ∀ {as : List AV} {xs : List Value}, VRels c w as xs → xs.length = as.length
  | [], xs, k => by simp only [VRels] at k; simp [k]
  | a :: as, xs, k => by
    simp only [VRels] at k
    obtain ⟨x, l, e, r1, r2⟩ := k
    simp [e, VRels.length r2]
theorem VRels.get {c : Cx} {w : World} : ∀ {as : List AV} {xs : List Value}, VRels c w as xs → ∀ (i : Nat) (a : AV), as[i]? = some a → ∃ x, xs[i]? = some x ∧ VRel c w a x
  | [], xs, k, i, a, h => by simp at h
  | b :: as, xs, k, i, a, h => by
    simp only [VRels] at k
    obtain ⟨x, l, e, r1, r2⟩ := k
    subst e
    cases i with
    | zero => simp at h; subst h; exact ⟨x, by simp, r1⟩
    | succ i => simpa using VRels.get r2 i a (by simpa using h)
theorem VRels.append {c : Cx} {w : World} : ∀ {as bs : List AV} {xs ys : List Value}, VRels c w as xs → VRels c w bs ys → VRels c w (as ++ bs) (xs ++ ys)
  | [], bs, xs, ys, k, r => by simp only [VRels] at k; subst k; simpa using r
  | a :: as, bs, xs, ys, k, r => by
    simp only [VRels] at k
    obtain ⟨x, l, e, r1, r2⟩ := k
    subst e
    simp only [List.cons_append, VRels]
    exact ⟨x, l ++ ys, rfl, r1, VRels.append r2 r⟩
theorem VRels.split {c : Cx} {w : World} : ∀ {as bs : List AV} {zs : List Value}, VRels c w (as ++ bs) zs → ∃ xs ys, zs = xs ++ ys ∧ VRels c w as xs ∧ VRels c w bs ys
  | [], bs, zs, k => ⟨[], zs, rfl, by simp [VRels], by simpa using k⟩
  | a :: as, bs, zs, k => by
    simp only [List.cons_append, VRels] at k
    obtain ⟨x, l, e, r1, r2⟩ := k
    obtain ⟨xs, ys, e2, h1, h2⟩ := VRels.split r2
    exact ⟨x :: xs, ys, by simp [e, e2], by simp only [VRels]; exact ⟨x, xs, rfl, r1, h1⟩, h2⟩
theorem VRels.take {c : Cx} {w : World} : ∀ {as : List AV} {xs : List Value}, VRels c w as xs → ∀ n, VRels c w (as.take n) (xs.take n)
  | [], xs, h, n => by simp only [VRels] at h; subst h; simp [VRels]
  | a :: as, xs, h, 0 => by simp [VRels]
  | a :: as, xs, h, n + 1 => by
    simp only [VRels] at h
    obtain ⟨x, l, rfl, r1, r2⟩ := h
    simp only [List.take_succ_cons, VRels]
    exact ⟨x, _, rfl, r1, VRels.take r2 n⟩
theorem VRels.drop {c : Cx} {w : World} : ∀ {as : List AV} {xs : List Value}, VRels c w as xs → ∀ n, VRels c w (as.drop n) (xs.drop n)
  | [], xs, h, n => by simp only [VRels] at h; subst h; simp [VRels]
  | a :: as, xs, h, 0 => by simpa using h
  | a :: as, xs, h, n + 1 => by
    simp only [VRels] at h
    obtain ⟨x, l, rfl, r1, r2⟩ := h
    simpa using VRels.drop r2 n
theorem VRelss.flatten {c : Cx} {w : World} : ∀ {es : List (List AV)} {xs : List Value}, VRelss c w es xs ↔ VRels c w es.flatten xs
  | [], xs => by simp [VRelss, VRels]
  | e :: es, xs => by
    simp only [VRelss, List.flatten_cons]
    constructor
    · rintro ⟨x, y, rfl, h1, h2⟩; exact VRels.append h1 (VRelss.flatten.1 h2)
    · intro h; obtain ⟨x, y, e, h1, h2⟩ := VRels.split h; exact ⟨x, y, e, h1, VRelss.flatten.2 h2⟩
theorem flatten_length {z : Nat} : ∀ {es : List (List AV)}, (∀ e ∈ es, e.length = z) → es.flatten.length = es.length * z
  | [], _ => by simp
  | e :: es, h => by
    have := flatten_length (es := es) fun x hx => h x (List.mem_cons_of_mem _ hx)
    simp only [List.flatten_cons, List.length_append, this, h e List.mem_cons_self, List.length_cons, Nat.succ_mul]; omega
theorem flatten_take {z : Nat} : ∀ {es : List (List AV)}, (∀ e ∈ es, e.length = z) → ∀ n, es.flatten.take (n * z) = (es.take n).flatten
  | [], _, n => by simp
  | e :: es, h, 0 => by simp
  | e :: es, h, n + 1 => by
    have he : e.length = z := h e List.mem_cons_self
    have := flatten_take (es := es) (fun x hx => h x (List.mem_cons_of_mem _ hx)) n
    rw [List.flatten_cons, List.take_succ_cons, List.flatten_cons, Nat.succ_mul, Nat.add_comm, ← he, List.take_length_add_append, he, this]
theorem flatten_drop {z : Nat} : ∀ {es : List (List AV)}, (∀ e ∈ es, e.length = z) → ∀ n, es.flatten.drop (n * z) = (es.drop n).flatten
  | [], _, n => by simp
  | e :: es, h, 0 => by simp
  | e :: es, h, n + 1 => by
    have he : e.length = z := h e List.mem_cons_self
    have := flatten_drop (es := es) (fun x hx => h x (List.mem_cons_of_mem _ hx)) n
    rw [List.flatten_cons, List.drop_succ_cons, Nat.succ_mul, Nat.add_comm, ← he, List.drop_length_add_append, he, this]
theorem VRelss.length {c : Cx} {w : World} {z : Nat} {es : List (List AV)} {xs : List Value} (h : VRelss c w es xs) (hz : ∀ e ∈ es, e.length = z) : xs.length = es.length * z := by
  rw [VRels.length (VRelss.flatten.1 h), flatten_length hz]

/-! ### The abstract state of a call -/
structure Ob where
  z : Nat
  es : List (List AV)
  wr : Bool
  cap : Option Nat

structure St where
  sl : Nat → AV
  ob : Id → Option Ob
  ct : Nat → Nat

def St.put (st : St) (i : Nat) (v : AV) : St := { st with sl := fun j => bif Nat.beq j i then v else st.sl j }
def St.putO (st : St) : Option Nat → AV → St
  | some i, v => st.put i v
  | none, _ => st
def St.setOb (st : St) (i : Id) (o : Option Ob) : St := { st with ob := fun j => if j = i then o else st.ob j }
def St.bump (st : St) (s : Nat) : St := { st with ct := fun j => bif Nat.beq j s then st.ct j + 1 else st.ct j }
def St.get (st : St) (i : Nat) : AV := st.sl i

theorem beq_self (i : Nat) : Nat.beq i i = true := Nat.beq_refl i
theorem beq_ne {i j : Nat} (h : i ≠ j) : Nat.beq i j = false := by
  cases e : Nat.beq i j with
  | false => rfl
  | true => exact absurd (Nat.eq_of_beq_eq_true e) h
@[simp] theorem St.get_put_same (st : St) (i : Nat) (v : AV) : (st.put i v).get i = v := by simp [St.get, St.put]
theorem St.get_put_ne (st : St) {i j : Nat} (v : AV) (h : j ≠ i) : (st.put i v).get j = st.get j := by simp [St.get, St.put, beq_ne h]
theorem St.get_put (st : St) (i j : Nat) (v : AV) : (st.put i v).get j = if j = i then v else st.get j := by
  by_cases h : j = i
  · subst h; simp
  · rw [St.get_put_ne st v h, if_neg h]
@[simp] theorem St.ob_put (st : St) (i : Nat) (v : AV) : (st.put i v).ob = st.ob := rfl
@[simp] theorem St.ct_put (st : St) (i : Nat) (v : AV) : (st.put i v).ct = st.ct := rfl
@[simp] theorem St.get_setOb (st : St) (i : Id) (o : Option Ob) (j : Nat) : (st.setOb i o).get j = st.get j := rfl
@[simp] theorem St.ct_setOb (st : St) (i : Id) (o : Option Ob) : (st.setOb i o).ct = st.ct := rfl
@[simp] theorem St.get_bump (st : St) (s j : Nat) : (st.bump s).get j = st.get j := rfl
@[simp] theorem St.ob_bump (st : St) (s : Nat) : (st.bump s).ob = st.ob := rfl
theorem St.ob_setOb (st : St) (i j : Id) (o : Option Ob) : (st.setOb i o).ob j = if j = i then o else st.ob j := rfl
theorem St.ct_bump (st : St) (s j : Nat) : (st.bump s).ct j = if j = s then st.ct j + 1 else st.ct j := by
  by_cases h : j = s
  · subst h; simp [St.bump]
  · simp [St.bump, beq_ne h, h]

/-! ### How the machine's state fits the abstract one -/
/-- What a call began with: the world; what nobody may write; the blocks of others that it may write. -/
structure Env where
  nt : Nat
  w : World
  F : Nat → Nat → Prop
  X : Nat → Prop

def ObRel (c : Cx) (w : World) (h : Home) (o : Ob) : Prop :=
  0 < o.z ∧ (∀ e ∈ o.es, e.length = o.z) ∧ (o.es.length * o.z ≤ h.cap) ∧ (∀ k, o.cap = some k → h.cap = k * o.z) ∧
  ∃ xs, VRelss c w o.es xs ∧ One xs ∧
    (0 < h.cap → ∃ cs e, w.heap[h.blk]? = some (.cells cs e (0, 0)) ∧ h.off + h.cap ≤ cs.size ∧ (∀ i v, xs[i]? = some v → cs[h.off + i]? = some v) ∧ (∀ (i : Nat) (v : Value), i < h.cap → cs[h.off + i]? = some v → v.oneCell' = true) ∧
      (o.wr = true → ∀ i, ¬ c.F h.blk i) ∧ (o.wr = false → (∀ i, i < xs.length → c.F h.blk (h.off + i)) ∧ ∀ i, h.off + xs.length ≤ i → ¬ c.F h.blk i))

structure StRel (en : Env) (c : Cx) (st : St) (a : Act) (w : World) : Prop where
  slots : ∀ i, VRel c w (st.get i) (a.tmps.getD i undef)
  objs : ∀ i o, st.ob i = some o → c.al i ∧ ObRel c w (c.mu i) o
  inj : ∀ i j o o', st.ob i = some o → st.ob j = some o' → i ≠ j → 0 < (c.mu i).cap → 0 < (c.mu j).cap → (c.mu i).blk ≠ (c.mu j).blk
  own : ∀ i o, st.ob i = some o → 0 < (c.mu i).cap → en.w.heap.size ≤ (c.mu i).blk ∨ en.X (c.mu i).blk
  fresh : ∀ s n, c.al (.l s n) → n < st.ct s
  Fin : ∀ b i, c.F b i → b < w.heap.size
  F0 : ∀ b i, en.F b i → c.F b i
  F1 : ∀ b i, c.F b i → en.F b i ∨ en.w.heap.size ≤ b ∨ en.X b
  cell : ∀ b i, en.F b i → w.cell? ⟨b, i, none⟩ = en.w.cell? ⟨b, i, none⟩
  os : w.os = en.w.os
  tape : w.tape = en.w.tape
  output : w.output = en.w.output
  size : en.w.heap.size ≤ w.heap.size
  block : ∀ k, k < en.w.heap.size → ¬ en.X k → w.heap[k]? = en.w.heap[k]?
  defers : a.defers = []
  tsz : a.tmps.size = en.nt

end Go.Den
