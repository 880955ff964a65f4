/-
  No cell of these rows narrows 'for every input' (looked for: loops, veiled, ifaces, maps, wideKeys, modest, calm, conditions, laid).
  DERIVED. THE GIVEN ROWS OF THIS SEAT. 3 by the template 'for every input the law returns true; each argument reads behind the call as it read before'; 0 by the template 'total and deterministic' (their statements: YtcmgfnhlnefchaaTotals.lean).
  GIVEN WITH THE SEED: the statements are not yours to turn. If you find one false, say at which input.
  Laid BY PROGRAM, IN A SANDBOX (cutbox-rows.mjs): the forced cells as the released guide's own fill.sh prints them over the translation 1877df6ba0606fd8… (all of the seat's roots in one cut). By AI agents, Wed Nov 11 2026. No macro, syntax, notation, axiom, sorry.
-/
import Derived.Test.YtcmgfnhlnefchaaChecked
import GoSem.Claim
import GoSem.ClaimJoined
import GoSem.ClaimMapViews
import Derived.JoinedTies
import Derived.KernelRfl
namespace Go.Proofs.Ytcmgfnhlnefchaa
/- THE CELL 'sum', in the pinned program and in every row, IS THE sha256 OF THE DUMP (.gsa) THAT YtcmgfnhlnefchaaProg.lean LOADS. Nothing in Lean hashes anything: it is a label: what it is worth is what the hold of that sum in a sandbox is worth. -/
noncomputable def Try.pinned : Pinned := { name := "ytcmgfnhlnefchaa", sum := "1877df6ba0606fd849b80babff7e974d95e4c0a1078c804eff5f73086f58af2c", checked := Try.checked }
namespace Rows
def none {H : Type} : Left H := { results := [], args := [] }

/-- 'chapmanlaw14.TableInverse': WHATEVER THE INPUT: true; the input reads as it did. -/
def tableInverseSpec : ChangeSpec := { name := "tableInverse", fn := fun _ => fun
  | [d1, d2, d3] => { results := [.lit (.bool true)], args := [d1, d2, d3] }
  | _ => none }
def tableInverseRow : OpenClaim := { program := "ytcmgfnhlnefchaa", sum := "1877df6ba0606fd849b80babff7e974d95e4c0a1078c804eff5f73086f58af2c", func := "chapman/chapmanlaw14.TableInverse", spec := "tableInverse", inPlace := ["slices.overlaps[chapman/api.Row]"], unfollowed := true, recurses := true, apart := false }
def TableInverseSaid : Prop := tableInverseRow.holds Try.pinned (OpenSpec.ofChange tableInverseSpec)

/-- ITS FALSE NEIGHBOUR: 'it returns false'. Refute it at one input. -/
def tableInverseWrong : ChangeSpec := { name := "tableInverse", fn := fun _ => fun
  | [d1, d2, d3] => { results := [.lit (.bool false)], args := [d1, d2, d3] }
  | _ => none }
def TableInverseWrongFalsely : Prop := tableInverseRow.holds Try.pinned (OpenSpec.ofChange tableInverseWrong)

/-- 'chapmanlaw14.TableMatchesReference': WHATEVER THE INPUT: true; the input reads as it did. -/
def tableMatchesReferenceSpec : ChangeSpec := { name := "tableMatchesReference", fn := fun _ => fun
  | [d1, d2, d3] => { results := [.lit (.bool true)], args := [d1, d2, d3] }
  | _ => none }
def tableMatchesReferenceRow : OpenClaim := { program := "ytcmgfnhlnefchaa", sum := "1877df6ba0606fd849b80babff7e974d95e4c0a1078c804eff5f73086f58af2c", func := "chapman/chapmanlaw14.TableMatchesReference", spec := "tableMatchesReference", inPlace := ["slices.overlaps[chapman/api.Row]"], unfollowed := true, recurses := true, apart := false }
def TableMatchesReferenceSaid : Prop := tableMatchesReferenceRow.holds Try.pinned (OpenSpec.ofChange tableMatchesReferenceSpec)

/-- ITS FALSE NEIGHBOUR: 'it returns false'. Refute it at one input. -/
def tableMatchesReferenceWrong : ChangeSpec := { name := "tableMatchesReference", fn := fun _ => fun
  | [d1, d2, d3] => { results := [.lit (.bool false)], args := [d1, d2, d3] }
  | _ => none }
def TableMatchesReferenceWrongFalsely : Prop := tableMatchesReferenceRow.holds Try.pinned (OpenSpec.ofChange tableMatchesReferenceWrong)

/-- 'chapmanlaw14.TableEquality': WHATEVER THE INPUT: true; the input reads as it did. -/
def tableEqualitySpec : ChangeSpec := { name := "tableEquality", fn := fun _ => fun
  | [d1, d2, d3] => { results := [.lit (.bool true)], args := [d1, d2, d3] }
  | _ => none }
def tableEqualityRow : OpenClaim := { program := "ytcmgfnhlnefchaa", sum := "1877df6ba0606fd849b80babff7e974d95e4c0a1078c804eff5f73086f58af2c", func := "chapman/chapmanlaw14.TableEquality", spec := "tableEquality", inPlace := ["slices.overlaps[chapman/api.Row]"], unfollowed := true, recurses := true, apart := false }
def TableEqualitySaid : Prop := tableEqualityRow.holds Try.pinned (OpenSpec.ofChange tableEqualitySpec)

/-- ITS FALSE NEIGHBOUR: 'it returns false'. Refute it at one input. -/
def tableEqualityWrong : ChangeSpec := { name := "tableEquality", fn := fun _ => fun
  | [d1, d2, d3] => { results := [.lit (.bool false)], args := [d1, d2, d3] }
  | _ => none }
def TableEqualityWrongFalsely : Prop := tableEqualityRow.holds Try.pinned (OpenSpec.ofChange tableEqualityWrong)

/- THE SECOND FORM. 'bulk': how many values and letters a reading holds, each counted each time it is reached (what is shared counts as often as it is met; a slice's spare places count too). A statement '..UptoSaid' is the law's where the arguments, and the package variables that the reading takes, are together of bulk at most 1048576: NARROWER than '..Said'. Prove '..Said' where nothing that the law and all that it calls make is longer than what came in: it says more and counts as full. Else prove '..UptoSaid'. A law counts once. -/
mutual
def uptoBulk {H : Type} : DataW H → Nat
  | .lit (.string bytes) => bytes.length + 1
  | .lit _ => 1
  | .nil => 1
  | .ptr d => uptoBulk d + 1
  | .slice elems spare => uptoBulkAll elems + uptoBulkAll spare + 1
  | .agg parts => uptoBulkAll parts + 1
  | .iface _ d => uptoBulk d + 1
  | .map entries => uptoBulkEntries entries + 1
  | .held _ => 1
def uptoBulkAll {H : Type} : List (DataW H) → Nat
  | [] => 0
  | d :: r => uptoBulk d + uptoBulkAll r
def uptoBulkEntries {H : Type} : List (Lit × DataW H) → Nat
  | [] => 0
  | x :: r => uptoBulkEntry x + uptoBulkEntries r
def uptoBulkEntry {H : Type} : Lit × DataW H → Nat
  | (.string bytes, d) => bytes.length + uptoBulk d + 1
  | (_, d) => uptoBulk d + 1
 end
def uptoSmall : (H : Type) → List (DataW H) → Bool := fun _ ds => decide (uptoBulkAll ds ≤ 1048576)
def OpenSpec.upto (s : _root_.Go.ChangeSpec) : _root_.Go.OpenSpec := { _root_.Go.OpenSpec.ofChange s with cond := some uptoSmall }

/-- 'chapmanlaw14.TableInverse', WHERE WHAT IT READS IS OF BULK AT MOST 1048576: true; the input reads as it did. -/
def tableInverseUptoRow : OpenClaim := { program := "ytcmgfnhlnefchaa", sum := "1877df6ba0606fd849b80babff7e974d95e4c0a1078c804eff5f73086f58af2c", func := "chapman/chapmanlaw14.TableInverse", spec := "tableInverse", inPlace := ["slices.overlaps[chapman/api.Row]"], unfollowed := true, recurses := true, apart := false, narrowed := true }
def TableInverseUptoSaid : Prop := tableInverseUptoRow.holds Try.pinned (OpenSpec.upto tableInverseSpec)

/-- 'chapmanlaw14.TableMatchesReference', WHERE WHAT IT READS IS OF BULK AT MOST 1048576: true; the input reads as it did. -/
def tableMatchesReferenceUptoRow : OpenClaim := { program := "ytcmgfnhlnefchaa", sum := "1877df6ba0606fd849b80babff7e974d95e4c0a1078c804eff5f73086f58af2c", func := "chapman/chapmanlaw14.TableMatchesReference", spec := "tableMatchesReference", inPlace := ["slices.overlaps[chapman/api.Row]"], unfollowed := true, recurses := true, apart := false, narrowed := true }
def TableMatchesReferenceUptoSaid : Prop := tableMatchesReferenceUptoRow.holds Try.pinned (OpenSpec.upto tableMatchesReferenceSpec)

/-- 'chapmanlaw14.TableEquality', WHERE WHAT IT READS IS OF BULK AT MOST 1048576: true; the input reads as it did. -/
def tableEqualityUptoRow : OpenClaim := { program := "ytcmgfnhlnefchaa", sum := "1877df6ba0606fd849b80babff7e974d95e4c0a1078c804eff5f73086f58af2c", func := "chapman/chapmanlaw14.TableEquality", spec := "tableEquality", inPlace := ["slices.overlaps[chapman/api.Row]"], unfollowed := true, recurses := true, apart := false, narrowed := true }
def TableEqualityUptoSaid : Prop := tableEqualityUptoRow.holds Try.pinned (OpenSpec.upto tableEqualitySpec)

end Rows
end Go.Proofs.Ytcmgfnhlnefchaa
