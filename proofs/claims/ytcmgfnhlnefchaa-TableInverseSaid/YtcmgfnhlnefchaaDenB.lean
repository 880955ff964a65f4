/-
  Den, part B: the operations on abstract values, the code over them, and what a piece of code comes to.
-/
import Derived.Test.YtcmgfnhlnefchaaDenA
namespace Go.Den
set_option linter.unusedVariables false
set_option linter.unusedSimpArgs false

inductive Opd where
  | t (n : Nat)
  | c (a : AV)

inductive AOp where
  | mov (x : Opd)
  | pick (c a b : Opd)
  | new (cells : List AV)
  | box (x : Opd)
  | build (zero : List AV) (parts : List (Nat × Nat × Opd))
  | bslice (z : Nat) (zero : List (List AV)) (parts : List (Nat × Opd))
  | load (n : Nat) (agg : Bool) (a : Opd)
  | store (n : Nat) (a x : Opd)
  | nilck (x : Opd)
  | bin (op : BinOp) (x y : Opd)
  | eqA (neg : Bool) (ks : List Nat) (x y : Opd)
  | eqB (neg : Bool) (x y : Opd)
  | un (op : UnOp) (x : Opd)
  | cvI (k : IntKind) (x : Opd)
  | mkf (fn : FuncId) (caps : List Opd)
  | mks (z : Nat) (bytes : Nat) (zero : List AV) (l c : Opd)
  | slc (z : Nat) (x : Opd) (lo hi mx : Option Opd)
  | slcS (x : Opd) (lo hi : Option Opd)
  | fad (off : Nat) (x : Opd)
  | fld (agg : Bool) (off n : Nat) (x : Opd)
  | iad (z : Nat) (x i : Opd)
  | iadA (len z : Nat) (x i : Opd)
  | idxA (agg : Bool) (len z : Nat) (x i : Opd)
  | idxS (x i : Opd)
  | ext (x : Opd) (i : Nat)
  | len (x : Opd)
  | lenS (x : Opd)
  | lenA (n : Nat)
  | app (z bytes : Nat) (s x : Opd)
  | copy (z : Nat) (d s : Opd)
  | clear (z : Nat) (zero : List AV) (x : Opd)
  | mm (mx : Bool) (xs : List Opd)
  | nilS (neg : Bool) (x : Opd)
  | capS (x : Opd)
  | appz (z bytes : Nat) (zero : List AV) (s n : Opd)
  | call (f : Opd) (args : List Opd)

/-- 'inc': the earlier operations of a region that draws its order that may come behind this one, or ahead of it. -/
structure AOper where
  dst : Option Nat
  op : AOp
  guard : Option (Nat × Bool)
  inc : List Nat
  idx : Nat

/-- What an operation comes to: a value; a new piece of memory besides; a piece of memory changed; one gone and a new one. -/
inductive Res where
  | v (a : AV)
  | nw (a : AV) (n : Nat) (o : Ob)
  | up (a : AV) (i : Id) (o : Ob)
  | mv (a : AV) (i : Id) (n : Nat) (o : Ob)

def St.app (st : St) (dst : Option Nat) : Res → St
  | .v a => st.putO dst a
  | .nw a n o => ((st.setOb (.l (dst.getD 0) n) (some o)).bump (dst.getD 0)).putO dst a
  | .up a i o => (st.setOb i (some o)).putO dst a
  | .mv a i n o => (((st.setOb i none).setOb (.l (dst.getD 0) n) (some o)).bump (dst.getD 0)).putO dst a

def ev (get : Nat → AV) : Opd → AV
  | .t n => get n
  | .c a => a

def oneA : AV → Bool
  | .s v => v.oneCell'
  | .d .. | .q .. | .o .. | .p .. | .f .. => true
  | _ => false

/-- The cells of a value that is stored. -/
def cellsA : AV → Option (List AV)
  | .g cs => bif cs.all oneA then some cs else none
  | a => bif oneA a then some [a] else none

def isNilS : Value → Bool
  | .slice none 0 0 => true
  | _ => false

/-- Elements of a slice that is looked at, with the reading of owned memory 'ob'. -/
def elemsA (ob : Id → Option Ob) (z : Nat) : AV → Option (List (List AV))
  | .d _ z' es => bif Nat.beq z z' then some es else none
  | .o i z' off len => bif Nat.beq z z' then
      (match ob i with
      | some b => bif Nat.beq b.z z && Nat.ble (off + len) b.es.length then some ((b.es.drop off).take len) else none
      | none => none) else none
  | .s v => bif isNilS v then some [] else none
  | _ => none

def splice {α : Type} (l : List α) (off : Nat) (new : List α) : List α := l.take off ++ new ++ l.drop (off + new.length)

def fillA : List AV → List (Nat × Nat × List AV) → Option (List AV)
  | cs, [] => some cs
  | cs, (off, n, new) :: rest => bif Nat.beq new.length n && Nat.ble (off + n) cs.length then fillA (splice cs off new) rest else none

def fillE (z : Nat) : List (List AV) → List (Nat × List AV) → Option (List (List AV))
  | es, [] => some es
  | es, (i, new) :: rest => bif Nat.beq new.length z && Nat.blt i es.length then fillE z (es.set i new) rest else none

def binV (op : BinOp) : Value → Value → Option Value
  | .int k a, .int k' b =>
    match op with
    | .shl => if b < 0 then none else some (.int k (k.wrap (a * 2 ^ (min b.toNat k.bits))))
    | .shr => if b < 0 then none else some (.int k (a.fdiv (2 ^ (min b.toNat k.bits))))
    | .add => if k = k' then some (.int k (k.wrap (a + b))) else none
    | .sub => if k = k' then some (.int k (k.wrap (a - b))) else none
    | .mul => if k = k' then some (.int k (k.wrap (a * b))) else none
    | .quo => if k = k' then (if b = 0 then none else some (.int k (k.wrap (a.tdiv b)))) else none
    | .rem => if k = k' then (if b = 0 then none else some (.int k (a.tmod b))) else none
    | .and => if k = k' then some (.int k (k.wrap (BitVec.ofInt k.bits a &&& BitVec.ofInt k.bits b).toNat)) else none
    | .or => if k = k' then some (.int k (k.wrap (BitVec.ofInt k.bits a ||| BitVec.ofInt k.bits b).toNat)) else none
    | .xor => if k = k' then some (.int k (k.wrap (BitVec.ofInt k.bits a ^^^ BitVec.ofInt k.bits b).toNat)) else none
    | .andNot => if k = k' then some (.int k (k.wrap (BitVec.ofInt k.bits a &&& ~~~(BitVec.ofInt k.bits b)).toNat)) else none
    | .eql => if k = k' then some (.bool (a == b)) else none
    | .neq => if k = k' then some (.bool (a != b)) else none
    | .lss => if k = k' then some (.bool (decide (a < b))) else none
    | .leq => if k = k' then some (.bool (decide (a ≤ b))) else none
    | .gtr => if k = k' then some (.bool (decide (a > b))) else none
    | .geq => if k = k' then some (.bool (decide (a ≥ b))) else none
  | .string a, .string b =>
    match op with
    | .add => if a.size + b.size ≤ 4611686018427387904 then some (.string (a ++ b)) else none
    | .eql => some (.bool (a.toList == b.toList))
    | .neq => some (.bool (!(a.toList == b.toList)))
    | .lss => some (.bool (Op.bytesLess a.toList b.toList))
    | .leq => some (.bool (Op.bytesLess a.toList b.toList || a.toList == b.toList))
    | .gtr => some (.bool (!(Op.bytesLess a.toList b.toList || a.toList == b.toList)))
    | .geq => some (.bool (!(Op.bytesLess a.toList b.toList)))
    | _ => none
  | _, _ => none

def eqCells : List Nat → List AV → List AV → Option Bool
  | [], [], [] => some true
  | 0 :: ks, .s (.int k a) :: xs, .s (.int k' b) :: ys => if k = k' then (eqCells ks xs ys).map fun r => a == b && r else none
  | 1 :: ks, .s (.bool a) :: xs, .s (.bool b) :: ys => (eqCells ks xs ys).map fun r => a == b && r
  | 2 :: ks, .s (.string a) :: xs, .s (.string b) :: ys => (eqCells ks xs ys).map fun r => a == b && r
  | _, _, _ => none

def intA : AV → Option Int
  | .s (.int _ n) => some n
  | _ => none

def bndA (get : Nat → AV) (d : Nat) (hi : Int) : Option Opd → Option Nat
  | none => some d
  | some x => match intA (ev get x) with
    | some n => if 0 ≤ n ∧ n ≤ hi then some n.toNat else none
    | none => none

def mm2 (mx : Bool) : Option AV → AV → Option AV
  | some (.s (.int k x)), .s (.int _ y) => some (.s (.int k (if mx then (if y > x then y else x) else (if y < x then y else x))))
  | _, _ => none

def mmV (mx : Bool) : List AV → Option AV
  | .s (.int k a) :: rest => rest.foldl (mm2 mx) (some (.s (.int k a)))
  | _ => none

/-- One operation that is no call. 'n': how often its site has been at work. -/
def stepA (get : Nat → AV) (ob : Id → Option Ob) (n site : Nat) : AOp → Option Res
  | .mov x => some (.v (ev get x))
  | .pick c a b => match ev get c with
    | .s (.bool true) => some (.v (ev get a))
    | .s (.bool false) => some (.v (ev get b))
    | _ => none
  | .new cells => bif Nat.blt 0 cells.length then some (.nw (.p (.l site n) cells.length 0 0) n ⟨cells.length, [cells], true, some 1⟩) else none
  | .box x => match cellsA (ev get x) with
    | some cells => bif Nat.blt 0 cells.length then some (.nw (.p (.l site n) cells.length 0 0) n ⟨cells.length, [cells], true, some 1⟩) else none
    | none => none
  | .build zero parts => match parts.mapM fun x => (cellsA (ev get x.2.2)).map fun cs => (x.1, x.2.1, cs) with
    | some ps => (fillA zero ps).map fun cs => .v (.g cs)
    | none => none
  | .bslice z zero parts => match parts.mapM fun x => (cellsA (ev get x.2)).map fun cs => (x.1, cs) with
    | some ps => (fillE z zero ps).map fun es => .nw (.o (.l site n) z 0 es.length) n ⟨z, es, true, some es.length⟩
    | none => none
  | .load m agg a => match ev get a with
    | .p i z k off => match ob i with
      | some o => match o.es[k]? with
        | some e => bif Nat.ble (off + m) e.length && Nat.beq z o.z then (bif agg then some (.v (.g ((e.drop off).take m))) else (e[off]?).map .v) else none
        | none => none
      | none => none
    | .q es z k off => match es[k]? with
      | some e => bif Nat.ble (off + m) e.length then (bif agg then some (.v (.g ((e.drop off).take m))) else (e[off]?).map .v) else none
      | none => none
    | _ => none
  | .store m a x => match ev get a with
    | .p i z k off => match ob i, cellsA (ev get x) with
      | some o, some cs => match o.es[k]? with
        | some e => bif o.wr && Nat.beq z o.z && Nat.beq cs.length m && Nat.ble (off + m) e.length then some (.up .u i { o with es := o.es.set k (splice e off cs) }) else none
        | none => none
      | _, _ => none
    | _ => none
  | .nilck x => match ev get x with
    | .p i z k off => some (.v (.p i z k off))
    | .q es z k off => some (.v (.q es z k off))
    | .f fn caps => some (.v (.f fn caps))
    | _ => none
  | .bin op x y => match ev get x, ev get y with
    | .s a, .s b => (binV op a b).map fun r => .v (.s r)
    | _, _ => none
  | .eqA neg ks x y => match ev get x, ev get y with
    | .g a, .g b => (eqCells ks a b).map fun r => .v (.s (.bool (if neg then !r else r)))
    | _, _ => none
  | .eqB neg x y => match ev get x, ev get y with
    | .s (.bool a), .s (.bool b) => some (.v (.s (.bool (if neg then !(a == b) else a == b))))
    | _, _ => none
  | .un op x => match op, ev get x with
    | .not, .s (.bool b) => some (.v (.s (.bool (!b))))
    | .neg, .s (.int k a) => some (.v (.s (.int k (k.wrap (0 - a)))))
    | _, _ => none
  | .cvI k x => match ev get x with
    | .s (.int _ a) => some (.v (.s (.int k (k.wrap a))))
    | _ => none
  | .mkf fn caps => some (.v (.f fn (caps.map (ev get))))
  | .mks z bytes zero l c => match intA (ev get l), intA (ev get c) with
    | some a, some b => if a = b ∧ 0 ≤ a ∧ a * bytes ≤ 140737488355328 ∧ a ≤ 140737488355328 ∧ zero.length = z ∧ 0 < z ∧ zero.all oneA = true then
        some (.nw (.o (.l site n) z 0 a.toNat) n ⟨z, List.replicate a.toNat zero, true, some a.toNat⟩) else none
    | _, _ => none
  | .slc z x lo hi mx => match ev get x with
    | .d full z' es => match mx with
      | none => match bndA get es.length es.length hi with
        | some h => match bndA get 0 h lo with
          | some l => bif Nat.beq z z' then some (.v (.d (full && Nat.beq h es.length) z ((es.take h).drop l))) else none
          | none => none
        | none => none
      | some m => match bndA get 0 es.length (some m) with
        | some m => match bndA get es.length m hi with
          | some h => match bndA get 0 h lo with
            | some l => bif Nat.beq z z' && Nat.ble h m then some (.v (.d (Nat.beq h m) z ((es.take h).drop l))) else none
            | none => none
          | none => none
        | none => none
    | .o i z' off len => match mx with
      | none => match bndA get len len hi with
        | some h => match bndA get 0 h lo with
          | some l => bif Nat.beq z z' then some (.v (.o i z (off + l) (h - l))) else none
          | none => none
        | none => none
      | some m => match bndA get 0 len (some m) with
        | some m => match bndA get len m hi with
          | some h => match bndA get 0 h lo with
            | some l => bif Nat.beq z z' && Nat.ble h m then some (.v .u) else none
            | none => none
          | none => none
        | none => none
    | .s v => bif isNilS v then (match bndA get 0 0 hi, bndA get 0 0 lo, mx with
      | some _, some _, none => some (.v (.s (.slice none 0 0)))
      | _, _, _ => none) else none
    | _ => none
  | .slcS x lo hi => match ev get x with
    | .s (.string s) => match bndA get s.size s.size hi with
      | some h => match bndA get 0 h lo with
        | some l => some (.v (.s (.string (s.extract l h))))
        | none => none
      | none => none
    | _ => none
  | .fad d x => match ev get x with
    | .p i z k off => some (.v (.p i z k (off + d)))
    | .q es z k off => some (.v (.q es z k (off + d)))
    | _ => none
  | .fld agg d m x => match ev get x with
    | .g cs => bif Nat.ble (d + m) cs.length then (bif agg then some (.v (.g ((cs.drop d).take m))) else (cs[d]?).map .v) else none
    | _ => none
  | .iad z x i => match intA (ev get i) with
    | some a => match ev get x with
      | .d _ z' es => if 0 ≤ a ∧ a < (es.length : Int) then (bif Nat.beq z z' then some (.v (.q es z a.toNat 0)) else none) else none
      | .o i z' off len => if 0 ≤ a ∧ a < (len : Int) then (bif Nat.beq z z' then some (.v (.p i z (off + a.toNat) 0)) else none) else none
      | _ => none
    | none => none
  | .iadA len z x i => match intA (ev get i) with
    | some a => if 0 ≤ a ∧ a < (len : Int) then (match ev get x with
      | .p i z' k off => some (.v (.p i z' k (off + a.toNat * z)))
      | .q es z' k off => some (.v (.q es z' k (off + a.toNat * z)))
      | _ => none) else none
    | none => none
  | .idxA agg len z x i => match intA (ev get i), ev get x with
    | some a, .g cs => if 0 ≤ a ∧ a < (len : Int) then (bif Nat.ble ((a.toNat + 1) * z) cs.length then (bif agg then some (.v (.g ((cs.drop (a.toNat * z)).take z))) else (cs[a.toNat * z]?).map .v) else none) else none
    | _, _ => none
  | .idxS x i => match intA (ev get i), ev get x with
    | some a, .s (.string s) => if 0 ≤ a then (match s[a.toNat]? with
      | some b => some (.v (.s (.int .u8 b.toNat)))
      | none => none) else none
    | _, _ => none
  | .ext x i => match ev get x with
    | .t vs => (vs[i]?).map .v
    | _ => none
  | .len x => match ev get x with
    | .d _ _ es => some (.v (.s (.int .i64 es.length)))
    | .o _ _ _ len => some (.v (.s (.int .i64 len)))
    | .s v => bif isNilS v then some (.v (.s (.int .i64 0))) else none
    | _ => none
  | .lenS x => match ev get x with
    | .s (.string s) => some (.v (.s (.int .i64 s.size)))
    | _ => none
  | .lenA m => some (.v (.s (.int .i64 m)))
  | .app z bytes s x => match elemsA ob z (ev get x) with
    | some new => match ev get s with
      | .s v => bif isNilS v then (if new.length * bytes ≤ 70368744177664 ∧ new.length ≤ 70368744177664 ∧ 0 < z then some (.nw (.o (.l site n) z 0 new.length) n ⟨z, new, true, none⟩) else none) else none
      | .d full z' es => if full = true ∧ z' = z ∧ (new ≠ [] ∨ es = []) ∧ 0 < z ∧ (es.length + new.length) * bytes ≤ 70368744177664 ∧ es.length + new.length ≤ 70368744177664 then
          some (.nw (.o (.l site n) z 0 (es.length + new.length)) n ⟨z, es ++ new, true, none⟩) else none
      | .o i z' off len => match ob i with
        | some o => if z' = z ∧ o.z = z ∧ (len + new.length) * bytes ≤ 70368744177664 ∧ len + new.length ≤ 70368744177664 then
            (if off + len = o.es.length then some (.mv (.o (.l site n) z 0 (len + new.length)) i n ⟨z, o.es.drop off ++ new, o.wr, none⟩)
             else if off + len + new.length ≤ o.es.length ∧ o.wr = true then some (.up (.o i z off (len + new.length)) i { o with es := splice o.es (off + len) new }) else none) else none
        | none => none
      | _ => none
    | none => none
  | .copy z d x => match elemsA ob z (ev get x), ev get d with
    | some new, .o i z' off len => match ob i with
      | some o => if z' = z ∧ o.z = z ∧ off + len ≤ o.es.length ∧ o.wr = true then
          some (.up (.s (.int .i64 (min new.length len : Nat))) i { o with es := splice o.es off (new.take len) }) else none
      | none => none
    | _, _ => none
  | .clear z zero x => match ev get x with
    | .o i z' off len => match ob i with
      | some o => if z' = z ∧ o.z = z ∧ off + len ≤ o.es.length ∧ o.wr = true ∧ zero.length = z ∧ zero.all oneA = true then
          some (.up (.t []) i { o with es := splice o.es off (List.replicate len zero) }) else none
      | none => none
    | _ => none
  | .mm mx xs => (mmV mx (xs.map (ev get))).map .v
  | .nilS .. => none
  | .capS .. => none
  | .appz .. => none
  | .call .. => none

end Go.Den
