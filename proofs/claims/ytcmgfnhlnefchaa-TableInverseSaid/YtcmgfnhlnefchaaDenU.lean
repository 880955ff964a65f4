/-
  Den, part U: calls of functions that have no Go text: slices.overlaps.
-/
import Derived.Test.YtcmgfnhlnefchaaDenS
import Derived.Lib.Overlaps
namespace Go.Den
set_option linter.unusedVariables false
set_option linter.unusedSimpArgs false

section
variable {P : Program}
theorem run_frozen00 {w : World} {b o : Nat} {cs : Array Value} {e : TypeId} (h : w.heap[b]? = some (.cells cs e (0, 0))) : w.frozen? ⟨b, o, none⟩ = false := by
  simp [World.frozen?, h]
theorem run_extern {f : FuncId} {fn : Func} {e : Array Value → Sem Value} {args : Array Value} {v : Value} {w : World} (hf : P.funcs[f]? = some fn) (hname : (fn.name == "runtime.NumGoroutine") = false) (hb : fn.body.isNone = true) (hn : Extern.findNext fn = none) (he : Extern.find fn = some e) (hr : (e args).run P w = .ok v w) :
    (callFunc f args).run P w = .ok (.value v) w := by
  simp only [callFunc, Sem.run_bind, run_program, Result.andThen_ok, hf, hname, hb, hn, he]
  simp [hr]

theorem xcall_overlaps {f : FuncId} {fn : Func} {t e : TypeId} {z : Nat} (hf : P.funcs[f]? = some fn) (hname : (fn.name == "runtime.NumGoroutine") = false) (hb : fn.body.isNone = true) (hn : Extern.findNext fn = none) (he : Extern.find fn = some (Extern.SlicesOverlaps.overlaps fn.params fn.resultTypes))
    {tR : TypeId} (hp : fn.params = #[t, t]) (hr : fn.resultTypes = #[tR]) (ht : P.underlying t = some (.slice e)) (hz : szOf P e = some z)
    {i j : Id} {za zb offa offb la lb : Nat} {oa obb : Ob} {ob : Id → Option Ob} {ct : Nat → Nat} {K : AV → Prop} (ha : ob i = some oa) (hb' : ob j = some obb) (hij : i ≠ j) (hla : 0 < la) (hlb : 0 < lb) (hK : K (.s (.bool false))) :
    XCall P f [.o i za offa la, .o j zb offb lb] ob ct K := by
  intro en c sl a w vs hst hvs
  simp only [VRels, VRel] at hvs
  obtain ⟨x, l, rfl, ⟨a1, a2, A, ka, rfl, a4, a5, a6⟩, y, l2, rfl, ⟨b1, b2, B, kb, rfl, b4, b5, b6⟩, rfl⟩ := hvs
  refine ⟨.bool false, _, run_extern hf hname hb hn he ?_, hK, rel_s.2 rfl⟩
  rw [hp, hr]
  have ca : 0 < (c.mu i).cap := by rw [← a5]; exact Nat.mul_pos (by omega) a2
  have cb : 0 < (c.mu j).cap := by rw [← b5]; exact Nat.mul_pos (by omega) b2
  obtain ⟨_, _, _, _, _, xa, _, _, ga⟩ := hst.objs i oa ha
  obtain ⟨_, _, _, _, _, xb, _, _, gb⟩ := hst.objs j obb hb'
  obtain ⟨csa, ea, qa, _⟩ := ga ca
  obtain ⟨csb, eb, qb, qb2, _⟩ := gb cb
  have hA := a6 (by omega)
  have hB := b6 (by omega)
  subst hA; subst hB
  exact Lib.run_overlaps_apart w t tR e ht z (fun w' => szOf_run hz w') _ _ la ka lb kb (hst.inj i j oa obb ha hb' hij ca cb) ea eb csa.size csb.size (by simp [World.shape?, qa]) (by simp [World.shape?, qb]) (by omega) (by simp [World.frozen?, qa]) (by simp [World.frozen?, qa])

theorem xcallW_of {P : Program} {st : St} {fn : FuncId} {caps as : List AV} {l : List AV} {dst : Option Nat} {K : St → Prop} (h1 : l = .f fn caps :: as)
    (hp : XCall P fn (as ++ caps) st.ob st.ct (fun r => K (st.putO dst r))) : xcallW P st l dst K := ⟨fn, caps, as, h1, hp⟩
end
end Go.Den
