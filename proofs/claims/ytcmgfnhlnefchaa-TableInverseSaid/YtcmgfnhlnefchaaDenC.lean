/-
  Den, part C: what becomes of the relation between the machine's state and the abstract one when a value is set down, memory is made, changed or moved.
-/
import Derived.Test.YtcmgfnhlnefchaaDenB
namespace Go.Den
set_option linter.unusedVariables false
set_option linter.unusedSimpArgs false

variable {en : Env} {c : Cx} {st : St} {a : Act} {w : World}

theorem put_getD (a : Act) (dst : Option Nat) (v : Value) (i : Nat) (h : ∀ d, dst = some d → d < a.tmps.size) :
    (a.put dst v).tmps.getD i undef = if dst = some i then v else a.tmps.getD i undef := by
  cases dst with
  | none => simp [Act.put]
  | some d =>
    have hd := h d rfl
    simp only [Act.put, Option.some.injEq]
    by_cases e : d = i
    · subst e; simp [hd]
    · simp [e, Array.getElem?_setIfInBounds_ne e]
theorem put_defers (a : Act) (dst : Option Nat) (v : Value) : (a.put dst v).defers = a.defers := by cases dst <;> rfl
theorem put_size (a : Act) (dst : Option Nat) (v : Value) : (a.put dst v).tmps.size = a.tmps.size := by cases dst <;> simp [Act.put]
theorem get_putO (st : St) (dst : Option Nat) (v : AV) (i : Nat) : (st.putO dst v).get i = if dst = some i then v else st.get i := by
  cases dst with
  | none => simp [St.putO]
  | some d =>
    simp only [St.putO, St.get_put, Option.some.injEq]
    by_cases e : d = i
    · subst e; simp
    · rw [if_neg e, if_neg (fun h : i = d => e h.symm)]
theorem ob_putO (st : St) (dst : Option Nat) (v : AV) : (st.putO dst v).ob = st.ob := by cases dst <;> rfl
theorem ct_putO (st : St) (dst : Option Nat) (v : AV) : (st.putO dst v).ct = st.ct := by cases dst <;> rfl

/-- The slots, one of them set anew. -/
theorem slots_put {c' : Cx} {w' : World} {dst : Option Nat} {av : AV} {v : Value} (hs : ∀ i, VRel c' w' (st.get i) (a.tmps.getD i undef)) (hv : VRel c' w' av v) (hd : ∀ d, dst = some d → d < a.tmps.size) (i : Nat) :
    VRel c' w' ((st.putO dst av).get i) ((a.put dst v).tmps.getD i undef) := by
  rw [get_putO, put_getD a dst v i hd]
  split
  · exact hv
  · exact hs i

theorem StRel.val (h : StRel en c st a w) {dst : Option Nat} {av : AV} {v : Value} (hv : VRel c w av v) (hd : ∀ d, dst = some d → d < a.tmps.size) :
    StRel en c (st.putO dst av) (a.put dst v) w where
  slots := slots_put h.slots hv hd
  objs := by rw [ob_putO]; exact h.objs
  inj := by rw [ob_putO]; exact h.inj
  own := by rw [ob_putO]; exact h.own
  fresh := by rw [ct_putO]; exact h.fresh
  Fin := h.Fin
  F0 := h.F0
  F1 := h.F1
  cell := h.cell
  os := h.os
  tape := h.tape
  output := h.output
  size := h.size
  block := h.block
  defers := by rw [put_defers]; exact h.defers
  tsz := by rw [put_size]; exact h.tsz

/-- A draw changes nothing that is told. -/
theorem Up.drew (c : Cx) (w : World) (n : Nat) : Up c w c { w with drawn := n } := ⟨fun _ _ h => h, fun _ _ _ => rfl, fun _ h => h, fun _ _ => rfl⟩
theorem ObRel.up {c' : Cx} {w' : World} (hu : Up c w c' w') {h : Home} {o : Ob} (k : ObRel c w h o)
    (hb : 0 < h.cap → w'.heap[h.blk]? = w.heap[h.blk]?) (hF : ∀ i, c'.F h.blk i ↔ c.F h.blk i) : ObRel c' w' h o := by
  obtain ⟨hz, h1, h2, h3, xs, h4, h5, h6⟩ := k
  refine ⟨hz, h1, h2, h3, xs, VRelss.up hu _ _ h4, h5, fun hc => ?_⟩
  obtain ⟨cs, e, g1, g2, g3, go, g4, g5⟩ := h6 hc
  refine ⟨cs, e, (hb hc).trans g1, g2, g3, go, fun hw i => by rw [hF]; exact g4 hw i, fun hw => ?_⟩
  obtain ⟨k1, k2⟩ := g5 hw
  exact ⟨fun i hi => (hF _).2 (k1 i hi), fun i hi hf => k2 i hi ((hF _).1 hf)⟩
theorem StRel.drew (h : StRel en c st a w) (n : Nat) : StRel en c st a { w with drawn := n } where
  slots i := VRel.up (Up.drew c w n) _ _ (h.slots i)
  objs i o e := ⟨(h.objs i o e).1, ObRel.up (Up.drew c w n) (h.objs i o e).2 (fun _ => rfl) (fun _ => Iff.rfl)⟩
  inj := h.inj
  own := h.own
  fresh := h.fresh
  Fin := h.Fin
  F0 := h.F0
  F1 := h.F1
  cell := h.cell
  os := h.os
  tape := h.tape
  output := h.output
  size := h.size
  block := h.block
  defers := h.defers
  tsz := h.tsz

/-- The context in which one more piece of memory is known. -/
def Cx.add (c : Cx) (i : Id) (h : Home) : Cx := { c with mu := fun j => if j = i then h else c.mu j, al := fun j => j = i ∨ c.al j }
theorem Up.add {w' : World} {i : Id} {h : Home} (hi : ¬ c.al i) (hc : ∀ b k, c.F b k → w'.cell? ⟨b, k, none⟩ = w.cell? ⟨b, k, none⟩) : Up c w (c.add i h) w' :=
  ⟨fun _ _ h => h, hc, fun _ h => .inr h, fun j hj => by simp only [Cx.add]; rw [if_neg (fun e : j = i => hi (by rw [← e]; exact hj))]⟩

theorem cell_push (w : World) (o : Obj) {b i : Nat} (hb : b < w.heap.size) : ({ w with heap := w.heap.push o } : World).cell? ⟨b, i, none⟩ = w.cell? ⟨b, i, none⟩ := by
  have e : (w.heap.push o)[b]? = w.heap[b]? := by rw [Array.getElem?_push, if_neg (by omega)]
  simp only [World.cell?, e]

/-- A new piece of memory, in a block of its own that has just been laid behind all others. -/
theorem StRel.new (h : StRel en c st a w) {dst : Option Nat} {n : Nat} {o : Ob} {av : AV} {v : Value} {cs : Array Value} {e : TypeId} {cap : Nat} (hd : ∀ d, dst = some d → d < a.tmps.size) (hdst : dst.getD 0 = n ∨ True)
    (hwr : o.wr = true) (hz : 0 < o.z) (he : ∀ x ∈ o.es, x.length = o.z) (hk : ∀ k, o.cap = some k → cap = k * o.z) {xs : List Value} (hx : VRelss c w o.es xs) (h1 : One xs)
    (hcap : o.es.length * o.z ≤ cap) (hcs : cap ≤ cs.size) (hxs : ∀ (i : Nat) (u : Value), xs[i]? = some u → cs[i]? = some u) (hone : ∀ (i : Nat) (u : Value), i < cap → cs[i]? = some u → u.oneCell' = true)
    (hv : ∀ c' w', c'.al (.l (dst.getD 0) (st.ct (dst.getD 0))) → c'.mu (.l (dst.getD 0) (st.ct (dst.getD 0))) = ⟨w.heap.size, 0, cap⟩ → VRel c' w' av v) :
    ∃ c', Up c w c' { w with heap := w.heap.push (.cells cs e) } ∧
      StRel en c' (st.app dst (.nw av (st.ct (dst.getD 0)) o)) (a.put dst v) { w with heap := w.heap.push (.cells cs e) } := by
  have hal : ¬ c.al (.l (dst.getD 0) (st.ct (dst.getD 0))) := fun hh => Nat.lt_irrefl _ (h.fresh _ _ hh)
  have hcell : ∀ b k, c.F b k → ({ w with heap := w.heap.push (.cells cs e) } : World).cell? ⟨b, k, none⟩ = w.cell? ⟨b, k, none⟩ := fun b k hf => cell_push w _ (h.Fin b k hf)
  have hup := Up.add (h := ⟨w.heap.size, 0, cap⟩) hal hcell
  have hnot : ∀ i o', st.ob i = some o' → i ≠ .l (dst.getD 0) (st.ct (dst.getD 0)) := fun i o' ho e => hal (e ▸ (h.objs i o' ho).1)
  have hmu : ∀ i o', st.ob i = some o' → (c.add (.l (dst.getD 0) (st.ct (dst.getD 0))) ⟨w.heap.size, 0, cap⟩).mu i = c.mu i := fun i o' ho => by simp only [Cx.add]; rw [if_neg (hnot i o' ho)]
  have hlt : ∀ i o', st.ob i = some o' → 0 < (c.mu i).cap → (c.mu i).blk < w.heap.size := fun i o' ho hc => by
    obtain ⟨_, _, _, _, _, _, _, _, h6⟩ := h.objs i o' ho
    obtain ⟨cs', e', g1, _⟩ := h6 hc
    exact (Array.getElem?_eq_some_iff.1 g1).1
  have hal' : (c.add (.l (dst.getD 0) (st.ct (dst.getD 0))) ⟨w.heap.size, 0, cap⟩).al (.l (dst.getD 0) (st.ct (dst.getD 0))) := Or.inl rfl
  have hmu' : (c.add (.l (dst.getD 0) (st.ct (dst.getD 0))) ⟨w.heap.size, 0, cap⟩).mu (.l (dst.getD 0) (st.ct (dst.getD 0))) = ⟨w.heap.size, 0, cap⟩ := by simp [Cx.add]
  refine ⟨_, hup, ?_⟩
  refine { slots := ?_, objs := ?_, inj := ?_, own := ?_, fresh := ?_, Fin := ?_, F0 := h.F0, F1 := h.F1, cell := ?_, os := h.os, tape := h.tape, output := h.output, size := ?_, block := ?_, defers := ?_, tsz := ?_ }
  · intro i
    simp only [St.app]
    refine slots_put (st := (st.setOb (.l (dst.getD 0) (st.ct (dst.getD 0))) (some o)).bump (dst.getD 0)) ?_ (hv _ _ hal' hmu') hd i
    intro i
    exact VRel.up hup _ _ (h.slots i)
  · intro i o' ho
    simp only [St.app, ob_putO, St.ob_bump, St.ob_setOb] at ho
    by_cases hi : i = .l (dst.getD 0) (st.ct (dst.getD 0))
    · rw [if_pos hi] at ho
      obtain rfl : o = o' := by simpa using ho
      refine ⟨.inl hi, ?_⟩
      have : (c.add (.l (dst.getD 0) (st.ct (dst.getD 0))) ⟨w.heap.size, 0, cap⟩).mu i = ⟨w.heap.size, 0, cap⟩ := by simp [Cx.add, hi]
      rw [this]
      refine ⟨hz, he, hcap, hk, xs, VRelss.up hup _ _ hx, h1, fun _ => ⟨cs, e, ?_, ?_, ?_, ?_, ?_, ?_⟩⟩
      · simp
      · simpa using hcs
      · simpa using hxs
      · simpa using hone
      · intro _ i hf
        have := h.Fin _ _ hf
        simp at this
      · intro hw; rw [hwr] at hw; cases hw
    · rw [if_neg hi] at ho
      refine ⟨.inr (h.objs i o' ho).1, ?_⟩
      rw [hmu i o' ho]
      refine ObRel.up hup (h.objs i o' ho).2 (fun hc => ?_) (fun _ => Iff.rfl)
      have := hlt i o' ho hc
      simp only [Array.getElem?_push]
      rw [if_neg (by omega)]
  · intro i j o1 o2 hi hj hne
    simp only [St.app, ob_putO, St.ob_bump, St.ob_setOb] at hi hj
    by_cases ei : i = .l (dst.getD 0) (st.ct (dst.getD 0)) <;> by_cases ej : j = .l (dst.getD 0) (st.ct (dst.getD 0))
    · exact absurd (ei.trans ej.symm) hne
    · rw [if_neg ej] at hj
      rw [hmu j _ hj]
      simp only [Cx.add, ei, if_true]
      intro _ hc
      have := hlt j _ hj hc
      omega
    · rw [if_neg ei] at hi
      rw [hmu i _ hi]
      simp only [Cx.add, ej, if_true]
      intro hc _
      have := hlt i _ hi hc
      omega
    · rw [if_neg ei] at hi
      rw [if_neg ej] at hj
      rw [hmu i _ hi, hmu j _ hj]
      exact h.inj i j _ _ hi hj hne
  · intro i o' ho
    simp only [St.app, ob_putO, St.ob_bump, St.ob_setOb] at ho
    by_cases ei : i = .l (dst.getD 0) (st.ct (dst.getD 0))
    · simp only [Cx.add, ei, if_true]
      intro _
      exact .inl h.size
    · rw [if_neg ei] at ho
      rw [hmu i _ ho]
      exact h.own i _ ho
  · intro s m hal'
    simp only [St.app, ct_putO, St.ct_bump, St.ct_setOb]
    rcases hal' with e' | hal'
    · injection e' with e1 e2
      subst e1; subst e2
      simp
    · have := h.fresh s m hal'
      split <;> omega
  · intro b i hf
    have := h.Fin b i hf
    simp; omega
  · intro b i hf
    rw [hcell b i (h.F0 b i hf)]
    exact h.cell b i hf
  · have := h.size
    simp; omega
  · intro k hk hX
    have := h.size
    simp only [Array.getElem?_push]
    rw [if_neg (by omega)]
    exact h.block k hk hX
  · rw [put_defers]; exact h.defers
  · rw [put_size]; exact h.tsz
/-- A block's cells, set anew. -/
theorem setRow_get (w : World) (g : Nat) (cs cs' : Array Value) (e : TypeId) (fr : Nat × Nat) (h : w.heap[g]? = some (.cells cs e fr)) : (w.setRow g cs').heap[g]? = some (.cells cs' e fr) := setRow_heap w g cs cs' e fr h
theorem setRow_other (w : World) (g : Nat) (cs' : Array Value) (k : Nat) (h : k ≠ g) : (w.setRow g cs').heap[k]? = w.heap[k]? := by
  simp only [World.setRow, Array.getElem?_modify]
  rw [if_neg (fun e : g = k => h e.symm)]
theorem setRow_size (w : World) (g : Nat) (cs' : Array Value) : (w.setRow g cs').heap.size = w.heap.size := by simp [World.setRow]
theorem cell_of_block {w : World} {g : Nat} {cs : Array Value} {e : TypeId} {fr : Nat × Nat} (h : w.heap[g]? = some (.cells cs e fr)) (k : Nat) : w.cell? ⟨g, k, none⟩ = cs[k]? := by
  simp [World.cell?, h]

/-- Memory that is owned is written where nobody reads; it stays under its name, or moves to a new one. -/
theorem StRel.write (h : StRel en c st a w) {dst : Option Nat} {i j : Id} {o o' : Ob} {av : AV} {v : Value} {cs cs' : Array Value} {e : TypeId} {off cap : Nat} (hd : ∀ d, dst = some d → d < a.tmps.size)
    (ho : st.ob i = some o) (hcap0 : 0 < (c.mu i).cap) (hcs : w.heap[(c.mu i).blk]? = some (.cells cs e (0, 0))) (hsz : cs'.size = cs.size) (hF : ∀ k, c.F (c.mu i).blk k → cs'[k]? = cs[k]?)
    (hj : j = i ∧ off = (c.mu i).off ∧ cap = (c.mu i).cap ∨ ¬ c.al j ∧ j = .l (dst.getD 0) (st.ct (dst.getD 0)))
    (hwr : o'.wr = o.wr) (hz : 0 < o'.z) (he : ∀ x ∈ o'.es, x.length = o'.z) (hk : ∀ k, o'.cap = some k → cap = k * o'.z) {xs : List Value} (hx : ∀ c' w', Up c w c' w' → VRelss c' w' o'.es xs) (h1 : One xs)
    (hcap : o'.es.length * o'.z ≤ cap) (hfit : off + cap ≤ cs.size) (hxs : ∀ (i : Nat) (u : Value), xs[i]? = some u → cs'[off + i]? = some u) (hone : ∀ (i : Nat) (u : Value), i < cap → cs'[off + i]? = some u → u.oneCell' = true) (hxl : xs.length = o'.es.length * o'.z)
    (hfr : o.wr = false → ∀ k, c.F (c.mu i).blk k → k < off + xs.length)
    (hv : ∀ c' w', Up c w c' w' → c'.al j → c'.mu j = ⟨(c.mu i).blk, off, cap⟩ → VRel c' w' av v) :
    ∃ c', Up c w c' (w.setRow (c.mu i).blk cs') ∧
      StRel en c' ({ st with ob := fun x => if x = j then some o' else if x = i then none else st.ob x, ct := if j = i then st.ct else (st.bump (dst.getD 0)).ct }.putO dst av) (a.put dst v) (w.setRow (c.mu i).blk cs') := by
  obtain ⟨blk, hblk⟩ : ∃ blk, blk = (c.mu i).blk := ⟨_, rfl⟩
  rw [← hblk] at hcs hF hv hfr ⊢
  let c' : Cx := { F := fun b k => c.F b k ∨ (o.wr = false ∧ b = blk ∧ off ≤ k ∧ k < off + xs.length), mu := fun x => if x = j then ⟨blk, off, cap⟩ else c.mu x, al := fun x => x = j ∨ c.al x }
  have hcell : ∀ b k, c.F b k → (w.setRow blk cs').cell? ⟨b, k, none⟩ = w.cell? ⟨b, k, none⟩ := fun b k hf => by
    by_cases hb : b = blk
    · subst hb
      rw [cell_of_block (setRow_get w b cs cs' e _ hcs), cell_of_block hcs, hF k hf]
    · simp only [World.cell?, setRow_other w blk cs' b hb]
  have hmuj : ∀ x, c.al x → c'.mu x = c.mu x := fun x hx => by
    show (if x = j then _ else c.mu x) = c.mu x
    split
    · rename_i ex
      rcases hj with ⟨hji, h2, h3⟩ | ⟨hn, _⟩
      · rw [ex, hji, h2, h3, hblk]
      · exact absurd (ex ▸ hx) hn
    · rfl
  have hup : Up c w c' (w.setRow blk cs') := ⟨fun _ _ h => .inl h, hcell, fun _ h => .inr h, hmuj⟩
  have hblkne : ∀ x o2, st.ob x = some o2 → x ≠ i → 0 < (c.mu x).cap → (c.mu x).blk ≠ blk := fun x o2 hx hne hc => by
    rw [hblk]; exact h.inj x i o2 o hx ho hne hc hcap0
  have hbl : blk < w.heap.size := (Array.getElem?_eq_some_iff.1 hcs).1
  obtain ⟨_, _, _, _, xs0, _, _, h60⟩ := (h.objs i o ho).2
  obtain ⟨cs0, e0, g1, g2, g3, go, g4, g5⟩ := h60 hcap0
  refine ⟨c', hup, ?_⟩
  refine { slots := ?_, objs := ?_, inj := ?_, own := ?_, fresh := ?_, Fin := ?_, F0 := fun b k hf => .inl (h.F0 b k hf), F1 := ?_, cell := ?_, os := h.os, tape := h.tape, output := h.output, size := ?_, block := ?_, defers := ?_, tsz := ?_ }
  · intro k
    refine slots_put ?_ (hv _ _ hup (.inl rfl) (by show (if j = j then _ else _) = _; rw [if_pos rfl])) hd k
    intro k
    exact VRel.up hup _ _ (h.slots k)
  · intro x o2 hx2
    simp only [ob_putO] at hx2
    by_cases hxj : x = j
    · rw [if_pos hxj] at hx2
      obtain rfl : o' = o2 := by simpa using hx2
      refine ⟨.inl hxj, ?_⟩
      have : c'.mu x = ⟨blk, off, cap⟩ := by show (if x = j then _ else _) = _; rw [if_pos hxj]
      rw [this]
      refine ⟨hz, he, hcap, hk, xs, hx _ _ hup, h1, fun _ => ⟨cs', e, setRow_get w blk cs cs' e _ hcs, by rw [hsz]; exact hfit, hxs, hone, ?_, ?_⟩⟩
      · intro hw k hf
        rcases hf with hf | ⟨hw2, _⟩
        · rw [hwr] at hw; rw [hblk] at hf; exact g4 hw k hf
        · rw [← hwr, hw] at hw2; cases hw2
      · intro hw
        rw [hwr] at hw
        refine ⟨fun k hk => .inr ⟨hw, rfl, by dsimp only; omega, by dsimp only; omega⟩, fun k hk hf => ?_⟩
        dsimp only at hk hf
        rcases hf with hf | ⟨_, _, _, h4⟩
        · have := hfr hw k hf; omega
        · omega
    · rw [if_neg hxj] at hx2
      by_cases hxi : x = i
      · rw [if_pos hxi] at hx2; cases hx2
      · rw [if_neg hxi] at hx2
        obtain ⟨ha2, hr2⟩ := h.objs x o2 hx2
        refine ⟨.inr ha2, ?_⟩
        rw [hmuj x ha2]
        have hcase : 0 < (c.mu x).cap → (c.mu x).blk ≠ blk := hblkne x o2 hx2 hxi
        obtain ⟨q1, q2, q3, q4, ys, q5, q6, q7⟩ := hr2
        refine ⟨q1, q2, q3, q4, ys, VRelss.up hup _ _ q5, q6, fun hc => ?_⟩
        obtain ⟨ds, e2, r1, r2, r3, ro, r4, r5⟩ := q7 hc
        have hne := hcase hc
        refine ⟨ds, e2, by rw [setRow_other w blk cs' _ hne]; exact r1, r2, r3, ro, fun hw k hf => ?_, fun hw => ⟨fun k hk => .inl ((r5 hw).1 k hk), fun k hk hf => ?_⟩⟩
        · rcases hf with hf | ⟨_, hb, _⟩
          · exact r4 hw k hf
          · exact hne hb
        · rcases hf with hf | ⟨_, hb, _⟩
          · exact (r5 hw).2 k hk hf
          · exact hne hb
  · intro x y o1 o2 hx1 hy1 hne
    simp only [ob_putO] at hx1 hy1
    by_cases ex : x = j <;> by_cases ey : y = j
    · exact absurd (ex.trans ey.symm) hne
    · rw [if_neg ey] at hy1
      by_cases eyi : y = i
      · rw [if_pos eyi] at hy1; cases hy1
      · rw [if_neg eyi] at hy1
        rw [hmuj y (h.objs y o2 hy1).1]
        have : c'.mu x = ⟨blk, off, cap⟩ := by show (if x = j then _ else _) = _; rw [if_pos ex]
        rw [this]
        intro _ hc
        exact fun e => hblkne y o2 hy1 eyi hc e.symm
    · rw [if_neg ex] at hx1
      by_cases exi : x = i
      · rw [if_pos exi] at hx1; cases hx1
      · rw [if_neg exi] at hx1
        rw [hmuj x (h.objs x o1 hx1).1]
        have : c'.mu y = ⟨blk, off, cap⟩ := by show (if y = j then _ else _) = _; rw [if_pos ey]
        rw [this]
        intro hc _
        exact hblkne x o1 hx1 exi hc
    · rw [if_neg ex] at hx1
      rw [if_neg ey] at hy1
      by_cases exi : x = i
      · rw [if_pos exi] at hx1; cases hx1
      · by_cases eyi : y = i
        · rw [if_pos eyi] at hy1; cases hy1
        · rw [if_neg exi] at hx1
          rw [if_neg eyi] at hy1
          rw [hmuj x (h.objs x o1 hx1).1, hmuj y (h.objs y o2 hy1).1]
          exact h.inj x y o1 o2 hx1 hy1 hne
  · intro x o2 hx2
    simp only [ob_putO] at hx2
    by_cases ex : x = j
    · have : c'.mu x = ⟨blk, off, cap⟩ := by show (if x = j then _ else _) = _; rw [if_pos ex]
      rw [this]
      intro _
      rw [hblk]
      exact h.own i o ho hcap0
    · rw [if_neg ex] at hx2
      by_cases exi : x = i
      · rw [if_pos exi] at hx2; cases hx2
      · rw [if_neg exi] at hx2
        rw [hmuj x (h.objs x o2 hx2).1]
        exact h.own x o2 hx2
  · intro s m hal'
    simp only [ct_putO]
    have key : c.al (.l s m) → m < (if j = i then st.ct else (st.bump (dst.getD 0)).ct) s := fun hh => by
      have := h.fresh s m hh
      split
      · exact this
      · rw [St.ct_bump]; split <;> omega
    rcases hal' with e' | hal'
    · rcases hj with ⟨hji, _⟩ | ⟨hn, hj2⟩
      · exact key (by rw [e', hji]; exact (h.objs i o ho).1)
      · have hne : j ≠ i := fun e2 => hn (e2 ▸ (h.objs i o ho).1)
        rw [if_neg hne, St.ct_bump]
        rw [hj2] at e'
        injection e' with e1 e2
        subst e1; subst e2
        simp
    · exact key hal'
  · intro b k hf
    rw [setRow_size]
    rcases hf with hf | ⟨_, hb, _⟩
    · exact h.Fin b k hf
    · omega
  · intro b k hf
    rcases hf with hf | ⟨_, hb, _⟩
    · exact h.F1 b k hf
    · right
      rw [hb, hblk]
      exact h.own i o ho hcap0
  · intro b k hf
    rw [hcell b k (h.F0 b k hf)]
    exact h.cell b k hf
  · rw [setRow_size]; exact h.size
  · intro k hk hX
    have hne : k ≠ blk := fun e2 => by
      subst e2
      rcases h.own i o ho hcap0 with h1 | h1
      · rw [← hblk] at h1; omega
      · rw [← hblk] at h1; exact hX h1
    rw [setRow_other w blk cs' k hne]
    exact h.block k hk hX
  · rw [put_defers]; exact h.defers
  · rw [put_size]; exact h.tsz

/-- What is owned may be given up to readers: nobody writes it any more. -/
theorem StRel.freeze (h : StRel en c st a w) {i : Id} {o : Ob} (ho : st.ob i = some o) :
    ∃ c', Up c w c' w ∧ StRel en c' (st.setOb i (some { o with wr := false })) a w := by
  obtain ⟨hal, g1, g2, g3, g4, xs, g5, g6, g7⟩ := h.objs i o ho
  have hxl := VRelss.length g5 g2
  let c' : Cx := { c with F := fun b k => c.F b k ∨ (0 < (c.mu i).cap ∧ b = (c.mu i).blk ∧ (c.mu i).off ≤ k ∧ k < (c.mu i).off + xs.length) }
  have hup : Up c w c' w := ⟨fun _ _ h => .inl h, fun _ _ _ => rfl, fun _ h => h, fun _ _ => rfl⟩
  refine ⟨c', hup, ?_⟩
  have hbl : 0 < (c.mu i).cap → (c.mu i).blk < w.heap.size := fun hc => by
    obtain ⟨cs, e, q1, _⟩ := g7 hc
    exact (Array.getElem?_eq_some_iff.1 q1).1
  refine { slots := fun k => VRel.up hup _ _ (h.slots k), objs := ?_, inj := ?_, own := ?_, fresh := h.fresh, Fin := ?_, F0 := fun b k hf => .inl (h.F0 b k hf), F1 := ?_, cell := h.cell, os := h.os, tape := h.tape, output := h.output, size := h.size, block := h.block, defers := h.defers, tsz := h.tsz }
  · intro x o2 hx
    rw [St.ob_setOb] at hx
    by_cases hxi : x = i
    · rw [if_pos hxi] at hx
      simp only [Option.some.injEq] at hx
      subst hx
      subst hxi
      refine ⟨hal, g1, g2, g3, g4, xs, VRelss.up hup _ _ g5, g6, fun hc => ?_⟩
      obtain ⟨cs, e, q1, q2, q3, qo, q4, q5⟩ := g7 hc
      refine ⟨cs, e, q1, q2, q3, qo, (fun hw => by cases hw), fun _ => ⟨fun k hk => .inr ⟨hc, rfl, by show (c.mu x).off ≤ (c.mu x).off + k; omega, by show (c.mu x).off + k < _; omega⟩, fun k hk hf => ?_⟩⟩
      rcases hf with hf | ⟨_, _, _, h4⟩
      · cases hw : o.wr with
        | true => exact q4 hw k hf
        | false => exact (q5 hw).2 k hk hf
      · have hk' : (c.mu x).off + xs.length ≤ k := hk
        omega
    · rw [if_neg hxi] at hx
      obtain ⟨ha2, q1, q2, q3, q4, ys, q5, q6, q7⟩ := h.objs x o2 hx
      refine ⟨ha2, q1, q2, q3, q4, ys, VRelss.up hup _ _ q5, q6, fun hc => ?_⟩
      obtain ⟨cs, e, r1, r2, r3, ro, r4, r5⟩ := q7 hc
      have hne : 0 < (c.mu i).cap → (c.mu x).blk ≠ (c.mu i).blk := fun hci => h.inj x i o2 o hx ho hxi hc hci
      refine ⟨cs, e, r1, r2, r3, ro, fun hw k hf => ?_, fun hw => ⟨fun k hk => .inl ((r5 hw).1 k hk), fun k hk hf => ?_⟩⟩
      · rcases hf with hf | ⟨h1, h2, _⟩
        · exact r4 hw k hf
        · exact hne h1 h2
      · rcases hf with hf | ⟨h1, h2, _⟩
        · exact (r5 hw).2 k hk hf
        · exact hne h1 h2
  · intro x y o1 o2 hx hy
    rw [St.ob_setOb] at hx hy
    have get : ∀ z oz, (if z = i then some { o with wr := false } else st.ob z) = some oz → ∃ oz', st.ob z = some oz' := fun z oz hz => by
      split at hz
      · rename_i e; exact ⟨o, e ▸ ho⟩
      · exact ⟨oz, hz⟩
    obtain ⟨ox, hx'⟩ := get x o1 hx
    obtain ⟨oy, hy'⟩ := get y o2 hy
    exact h.inj x y ox oy hx' hy'
  · intro x o2 hx
    rw [St.ob_setOb] at hx
    by_cases hxi : x = i
    · subst hxi; exact h.own x o ho
    · rw [if_neg hxi] at hx; exact h.own x o2 hx
  · intro b k hf
    rcases hf with hf | ⟨h1, h2, _⟩
    · exact h.Fin b k hf
    · rw [h2]; exact hbl h1
  · intro b k hf
    rcases hf with hf | ⟨h1, h2, _⟩
    · exact h.F1 b k hf
    · right; rw [h2]; exact h.own i o ho h1

/-- What is owned may be forgotten. -/
theorem StRel.drop (h : StRel en c st a w) (i : Id) : StRel en c (st.setOb i none) a w where
  slots := h.slots
  objs x o e := by
    rw [St.ob_setOb] at e
    split at e
    · cases e
    · exact h.objs x o e
  inj x y o o' ex ey := by
    rw [St.ob_setOb] at ex ey
    split at ex
    · cases ex
    · split at ey
      · cases ey
      · exact h.inj x y o o' ex ey
  own x o e := by
    rw [St.ob_setOb] at e
    split at e
    · cases e
    · exact h.own x o e
  fresh := h.fresh
  Fin := h.Fin
  F0 := h.F0
  F1 := h.F1
  cell := h.cell
  os := h.os
  tape := h.tape
  output := h.output
  size := h.size
  block := h.block
  defers := h.defers
  tsz := h.tsz
end Go.Den
