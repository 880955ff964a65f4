/-
  'chapmanlaw14.TableInverse': WHATEVER THE INPUT, the call returns true, and each argument reads behind it as it read before. No condition.
-/
import Derived.Test.YtcmgfnhlnefchaaRows
import Derived.Test.YtcmgfnhlnefchaaF15
import Derived.Test.YtcmgfnhlnefchaaDenV
import Derived.WalkKit
import Derived.ProofKit
import Derived.OpenShut
import Derived.JoinedCond
namespace Go.Proofs.Ytcmgfnhlnefchaa.inverse
open Go.ChangeShapes Go.WideShapes Go.ChangeAt Go.RowKit Go.Den
set_option linter.unusedVariables false

theorem own : ownKnob Try.prog.godebug = none := by kernel_rfl
theorem kids : Kids Try.prog (· < Try.prog.types.size) := kids_rows (by kernel_rfl) (by kernel_rfl)
theorem full : ∀ t e, t < Try.prog.types.size → Try.prog.underlying t = some (.slice e) → 0 < Try.prog.cellsOf e := slices_full_of _ (by kernel_rfl)
theorem u22 : Try.prog.underlying 22 = some (.slice 23) := by kernel_rfl
theorem u23 : Try.prog.underlying 23 = some (.array 4 5) := by kernel_rfl
theorem u5 : Try.prog.underlying 5 = some (.int .u8) := by kernel_rfl
theorem u4 : Try.prog.underlying 4 = some .bool := by kernel_rfl
theorem c23 : Try.prog.cellsOf 23 = 4 := by kernel_rfl
theorem c5 : Try.prog.cellsOf 5 = 1 := by kernel_rfl

section
variable {H : Type} {enc : TypeId × Value → H} {W : World}
theorem wf_u8 {n : Int} (h : (Lit.int .u8 n).wf = true) : 0 ≤ n ∧ n < 256 := by
  have := h
  simp [Lit.wf, IntKind.min, IntKind.max, IntKind.signed, IntKind.bits] at this
  omega
theorem reads23 : Reads enc Try.prog W 23 eB B4.ok :=
  (reads_array u23 c5 (by rw [c23]) (reads_int u5)).as fun l ⟨hl, ho⟩ => by
    match l, hl with
    | [a, b, c, d], _ =>
      refine ⟨⟨a, b, c, d⟩, ?_, rfl⟩
      exact wf_u8 (ho b (by simp))
theorem reads22 : Reads enc Try.prog W 22 (fun l : List B4 => [dB l]) (fun l => ∀ b ∈ l, b.ok) := reads_slice u22 c23 (by decide) (fun _ => rfl) reads23
end

set_option maxRecDepth 100000 in
theorem contract (H : Type) (enc : TypeId × Value → H) (W : World) (base : Nat) (args : Array Value) (ds gs : List (DataW H)) (before : List MemPlace)
    (hval : ∀ (j : Nat) t v, Try.f3.params[j]? = some t → args[j]? = some v → Value.okWide Try.prog W .any base t v)
    (hW : DataW.Whole enc Try.prog Try.f3.params.toList Rows.tableInverseSpec.vars false W args.toList ds gs before) :
    Calls Try.prog 3 args W fun e W' => ∃ v, e = .returned v ∧ Rows.tableInverseSpec.post enc Try.prog Try.f3 false true false false W args v W' := by
  have hW' := hW
  obtain ⟨p, q, hA0, hV, rfl, hfz, hnd⟩ := hW
  have hA : DataW.TrodAll enc Try.prog W 0 (fun _ => true) true Try.f3.params.toList args.toList ds p := hA0
  have hAk := hA
  rw [Try.params3] at hA hval
  obtain ⟨v0, vs0, d0, ds0, p0, q0, hargs, rfl, rfl, h0, r0⟩ := trodAll_cons hA
  obtain ⟨v1, vs1, d1, ds1, p1, q1, rfl, rfl, rfl, h1, r1⟩ := trodAll_cons r0
  obtain ⟨v2, vs2, d2, ds2, p2, q2, rfl, rfl, rfl, h2, r2⟩ := trodAll_cons r1
  obtain ⟨rfl, rfl, rfl⟩ := trodAll_nil r2
  obtain rfl : args = #[v0, v1, v2] := Array.ext' hargs
  obtain ⟨hg0, hq0⟩ : gs = [] ∧ q = [] := trodVars_none hV
  subst hg0; subst hq0
  have k0 : Value.okWide Try.prog W .any base 22 v0 := hval 0 22 v0 (by simp) (by simp)
  have k1 : Value.okWide Try.prog W .any base 23 v1 := hval 1 23 v1 (by simp) (by simp)
  have k2 : Value.okWide Try.prog W .any base 5 v2 := hval 2 5 v2 (by simp) (by simp)
  obtain ⟨x, hx, a0⟩ := arg_slice (P := Try.prog) (t := 22) (e := 23) (y := fun l : List B4 => dB l) (reads22 (enc := enc) (W := W)) u22 k0 h0
  obtain ⟨b, hb, a1⟩ := arg_agg (P := Try.prog) (t := 23) (reads23 (enc := enc) (W := W)) (.inr ⟨4, 5, u23⟩) k1 h1
  obtain ⟨i, rfl, rfl, rfl, w2⟩ := open_int u5 k2 h2
  obtain ⟨hi0, hi1⟩ := wf_u8 w2
  have hc := (step3 x b i hx hb hi0 hi1).2 (old W) W [v0, v1, .int .u8 i] (fun _ _ h => h) (by
    simp only [VRels]
    exact ⟨_, _, rfl, a0, _, _, rfl, a1, _, _, rfl, rel_s.2 rfl, rfl⟩)
  simp only [List.append_nil] at hW'
  refine Calls.mono hc fun e W' => ?_
  rintro ⟨v, rfl, hv, hbelow⟩
  have hv := rel_s.1 hv
  subst hv
  exact ⟨_, rfl, post_of_true (pv := []) hW' (fun _ _ _ => trodAll_cons_mk (shut_bool u4 _) trodAll_mk0)
    (fun sp hsp => DataW.TrodAll.respare kids full (by rw [Try.params3]; decide) (trodAll_carry hbelow hAk) (fun p hp => hsp p (by simpa using hp))) (fun _ _ => rfl) (by simp)
    hbelow (ok_one (by kernel_rfl) rfl (okWide_bool_mk u4 _))⟩

set_option maxRecDepth 100000 in
theorem lifted (os : Os) (started : os.Started) (H : Type) (enc : TypeId × Value → H) :
    ReturnsInHanded {} Try.checked os 3 .any (Rows.tableInverseSpec.pre6 enc Try.prog Try.f3 Rows.tableInverseRow.domain false) (Rows.tableInverseSpec.post enc Try.prog Try.f3 false true false false) := by
  refine returnsInHanded_of_change (C := Try.checked) own started (by kernel_rfl) Try.func3
    (ChangeSpec.witness6 (enc := enc) (C := Try.checked) false ⟨#[], #[.slice none 0 0, .agg #[.int .u8 0, .int .u8 0, .int .u8 0, .int .u8 0], .int .u8 0], []⟩ 8 (by kernel_rfl) (by kernel_rfl) (by kernel_rfl) (by kernel_rfl)) ?_
  intro W base args ds gs before hval hW _ _
  exact contract H enc W base args ds gs before hval hW

theorem over : Rows.tableInverseRow.holds Try.pinned (OpenSpec.ofChange Rows.tableInverseSpec) :=
  OpenClaim.holds_of_wide 3 Try.f3 rfl rfl rfl rfl rfl rfl rfl ⟨rfl, rfl, rfl, rfl, rfl⟩ rfl rfl rfl rfl rfl (by kernel_rfl) Try.func3 (by kernel_rfl)
    (of_decide_eq_true (by kernel_rfl)) (by unfold Func.isWrapper; first | (rw [if_pos (by decide +kernel)]; kernel_rfl) | (rw [if_neg (by decide +kernel)]; exact ⟨rfl, rfl⟩))
    (fun os started H enc _ => lifted os started H enc)

theorem proved : Rows.TableInverseSaid := over
end Go.Proofs.Ytcmgfnhlnefchaa.inverse
namespace Go.Proofs.Ytcmgfnhlnefchaa
theorem inverse_holds : Rows.TableInverseSaid := inverse.proved
end Go.Proofs.Ytcmgfnhlnefchaa
#print axioms Go.Proofs.Ytcmgfnhlnefchaa.inverse_holds
