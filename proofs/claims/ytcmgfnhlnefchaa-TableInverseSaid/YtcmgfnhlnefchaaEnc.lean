/-
  The data of tables as plain Lean values, and how they lie in the program's memory.
-/
import Derived.Test.YtcmgfnhlnefchaaDenQ
import Derived.Test.YtcmgfnhlnefchaaProg
namespace Go.Proofs.Ytcmgfnhlnefchaa
open Go.Den

structure V where
  k : Int
  i : Int
  s : ByteArray
  deriving DecidableEq
structure C where
  v : V
  st : Int
  seq : Int
  deriving DecidableEq
structure R where
  cells : List C
  shares : List Int
  tags : List (Int × Int)
  deriving DecidableEq
abbrev aI (n : Int) : AV := .s (.int .i64 n)
abbrev aB (b : Bool) : AV := .s (.bool b)
abbrev aS (s : ByteArray) : AV := .s (.string s)
def eV (v : V) : List AV := [aI v.k, aI v.i, aS v.s]
def eC (c : C) : List AV := [aI c.v.k, aI c.v.i, aS c.v.s, aI c.st, aI c.seq]
def eN (p : Int × Int) : List AV := [aI p.1, aI p.2]
def eR (r : R) : List AV := [.d false 5 (r.cells.map eC), .d false 1 (r.shares.map fun n => [aI n]), .d false 2 (r.tags.map eN)]
abbrev dV (l : List V) : AV := .d false 3 (l.map eV)
abbrev dR (l : List R) : AV := .d false 3 (l.map eR)
@[simp] theorem plain_eV (v : V) : (eV v).all plainA = true := rfl
@[simp] theorem plain_eC (c : C) : (eC c).all plainA = true := rfl
@[simp] theorem plain_eN (p : Int × Int) : (eN p).all plainA = true := rfl
@[simp] theorem plain_eR (r : R) : (eR r).all plainA = true := rfl
@[simp] theorem len_eV (v : V) : (eV v).length = 3 := rfl
@[simp] theorem len_eC (c : C) : (eC c).length = 5 := rfl
@[simp] theorem len_eR (r : R) : (eR r).length = 3 := rfl
@[simp] theorem len_eN (p : Int × Int) : (eN p).length = 2 := rfl
@[simp] theorem one_eV (v : V) : (eV v).all oneA = true := rfl
@[simp] theorem one_eC (v : C) : (eC v).all oneA = true := rfl
@[simp] theorem one_eN (v : Int × Int) : (eN v).all oneA = true := rfl
@[simp] theorem one_eR (v : R) : (eR v).all oneA = true := rfl
@[simp] theorem take_eV (v : V) : (eV v).take 3 = eV v := rfl
@[simp] theorem take_eC (c : C) : (eC c).take 5 = eC c := rfl
@[simp] theorem take3_eC (c : C) : (eC c).take 3 = eV c.v := rfl
@[simp] theorem take_eN (p : Int × Int) : (eN p).take 2 = eN p := rfl
@[simp] theorem take_eR (r : R) : (eR r).take 3 = eR r := rfl
@[simp] theorem eR_0 (r : R) : (eR r)[0]? = some (.d false 5 (r.cells.map eC)) := rfl
@[simp] theorem eR_1 (r : R) : (eR r)[1]? = some (.d false 1 (r.shares.map fun n => [aI n])) := rfl
@[simp] theorem eR_2 (r : R) : (eR r)[2]? = some (.d false 2 (r.tags.map eN)) := rfl
@[simp] theorem eC_0 (c : C) : (eC c)[0]? = some (aI c.v.k) := rfl
@[simp] theorem eC_1 (c : C) : (eC c)[1]? = some (aI c.v.i) := rfl
@[simp] theorem eC_2 (c : C) : (eC c)[2]? = some (aS c.v.s) := rfl
@[simp] theorem eC_3 (c : C) : (eC c)[3]? = some (aI c.st) := rfl
@[simp] theorem eC_4 (c : C) : (eC c)[4]? = some (aI c.seq) := rfl
@[simp] theorem eV_0 (c : V) : (eV c)[0]? = some (aI c.k) := rfl
@[simp] theorem eV_1 (c : V) : (eV c)[1]? = some (aI c.i) := rfl
@[simp] theorem eV_2 (c : V) : (eV c)[2]? = some (aS c.s) := rfl
theorem frz_plain0 {ob : Den.Id → Option Ob} {d : Nat} (hd : 0 < d) {l : List AV} (h : l.all plainA = true) : mapO (frzA ob d) l = some l := by
  obtain ⟨k, rfl⟩ : ∃ k, d = k + 1 := ⟨d - 1, by omega⟩
  exact mapO_plain h
theorem ids_plain0 {ob : Den.Id → Option Ob} {d : Nat} (hd : 0 < d) {l : List AV} (h : l.all plainA = true) : catO (idsA ob d) l = some [] := by
  obtain ⟨k, rfl⟩ : ∃ k, d = k + 1 := ⟨d - 1, by omega⟩
  exact catO_plain h
@[simp] theorem frz_eV {ob : Den.Id → Option Ob} {d : Nat} (hd : 0 < d) (r : V) : mapO (frzA ob d) (eV r) = some (eV r) := frz_plain0 hd rfl
@[simp] theorem ids_eV {ob : Den.Id → Option Ob} {d : Nat} (hd : 0 < d) (r : V) : catO (idsA ob d) (eV r) = some [] := ids_plain0 hd rfl
@[simp] theorem frz_eR {ob : Den.Id → Option Ob} {d : Nat} (hd : 0 < d) (r : R) : mapO (frzA ob d) (eR r) = some (eR r) := frz_plain0 hd rfl
@[simp] theorem ids_eR {ob : Den.Id → Option Ob} {d : Nat} (hd : 0 < d) (r : R) : catO (idsA ob d) (eR r) = some [] := ids_plain0 hd rfl
@[simp] theorem frzL_eR {ob : Den.Id → Option Ob} {d : Nat} (hd : 0 < d) (l : List R) : mapO (mapO (frzA ob d)) (l.map eR) = some (l.map eR) := mapO_plainL (plainL_map plain_eR l) hd
@[simp] theorem idsL_eR {ob : Den.Id → Option Ob} {d : Nat} (hd : 0 < d) (l : List R) : catO (catO (idsA ob d)) (l.map eR) = some [] := catO_plainL (plainL_map plain_eR l) hd
@[simp] theorem drop_eR (r : R) : (eR r).drop 3 = [] := rfl
theorem ba_beq (a b : ByteArray) : ((a == b) = true) ↔ a = b := by
  constructor
  · intro h
    obtain ⟨a⟩ := a; obtain ⟨b⟩ := b
    have h : ByteArray.beq ⟨a⟩ ⟨b⟩ = true := h
    unfold ByteArray.beq at h
    have := eq_of_beq h
    simpa using this
  · rintro rfl
    show ByteArray.beq a a = true
    unfold ByteArray.beq
    exact beq_self_eq_true _
@[simp] theorem eq_eC (x y : C) : eqCells [0, 0, 2, 0, 0] (eC x) (eC y) = some (decide (x = y)) := by
  obtain ⟨⟨a1, a2, a3⟩, a4, a5⟩ := x
  obtain ⟨⟨b1, b2, b3⟩, b4, b5⟩ := y
  simp only [eqCells, eC, if_true, Option.map_some, Option.some.injEq, C.mk.injEq, V.mk.injEq]
  apply Bool.eq_iff_iff.2
  simp only [Bool.and_eq_true, beq_iff_eq, decide_eq_true_eq, and_true, and_assoc, ba_beq]
@[simp] theorem eq_eN (x y : Int × Int) : eqCells [0, 0] (eN x) (eN y) = some (decide (x = y)) := by
  obtain ⟨a1, a2⟩ := x
  obtain ⟨b1, b2⟩ := y
  simp only [eqCells, eN, if_true, Option.map_some, Option.some.injEq, Prod.mk.injEq]
  apply Bool.eq_iff_iff.2
  simp only [Bool.and_eq_true, beq_iff_eq, decide_eq_true_eq, and_true]

theorem mixed : Try.prog.follows .mixedOrders = true := by kernel_rfl
end Go.Proofs.Ytcmgfnhlnefchaa
