/- A small machine of values (the VM): what a Go function's code answers, as a plain Lean function. Definitions alone: no claim about the program stands here. -/
import Derived.Calls
section
set_option linter.unusedSimpArgs false
set_option linter.unusedVariables false
namespace Go.Vm
open Go

/-- Values: a slice that is only read is the list of what it holds ('snap'); one that the running code owns is a row of the machine's heap ('sl'). -/
inductive V where
  | undef
  | bool (b : Bool)
  | int (k : IntKind) (n : Int)
  | float (k : FloatKind) (b : Nat)
  | str (s : List UInt8)
  | nilp
  | ptr (id off : Nat)
  | cref (cs : List V)
  | eptr (id ver i off : Nat)
  | nils
  | snap (l : List V)
  | sl (id ver s off len : Nat)
  | nilm
  | map (id : Nat)
  | nilf
  | func (f : Nat) (caps : List V)
  | nili
  | iface (t : Nat) (v : V)
  | agg (cs : List V)
  | tuple (vs : List V)
  deriving Inhabited

def V.cells : V → List V
  | .agg cs => cs
  | .undef => []
  | .tuple _ => []
  | v => [v]

/-- What a temporary holds: a value, or the address of a variable of this call's own. -/
inductive T where
  | v (x : V)
  | loc (d g off : Nat)

/-- Blocks of the heap. -/
inductive HO where
  | cells (cs : List V)
  | row (ver : Nat) (l : List V)
  | map (es : List (V × V × Nat)) (clock : Nat)
  | hole

inductive Opd where
  | t (n : Nat)
  | c (v : V)

/-- Kinds of comparable cells. -/
inductive K where
  | int (k : IntKind)
  | str
  | bool
  | float (k : FloatKind)
  deriving DecidableEq

/-- Kinds of keys: a number, a text, a struct or an array of cells. -/
inductive KT where
  | int
  | str
  | agg (ks : List K)
  deriving DecidableEq

/-- What an address is said to be. -/
inductive Acc where
  | loc (d : Nat)
  | ptr
  | eptr
  | cref
  deriving DecidableEq

inductive SO where
  | mov (x : Opd)
  | pick (c a b : Opd)
  | build (zero : List V) (ps : List (Nat × Nat × Opd))
  | bsnap (size : Nat) (xs : List Opd)
  | brow (size : Nat) (xs : List Opd)
  | nilck (x : Opd)
  | bin (op : BinOp) (x y : Opd)
  | cmpB (neg : Bool) (x y : Opd)
  | cmpA (neg : Bool) (ks : List K) (x y : Opd)
  | cmpN (neg : Bool) (tk : Nat) (x y : Opd)
  | un (op : UnOp) (x : Opd)
  | cvI (k : IntKind) (x : Opd)
  | cvF (k : FloatKind) (x : Opd)
  | cvFI (k : IntKind) (x : Opd)
  | cvSB (x : Opd)
  | cvBS (x : Opd)
  | cvSS (x : Opd)
  | mkif (t : Nat) (x : Opd)
  | mkfn (f : Nat) (caps : List Opd)
  | slice (str : Bool) (size : Nat) (x : Opd) (lo hi mx : Option Opd)
  | faddr (off : Nat) (x : Opd)
  | field (ag : Bool) (off n : Nat) (x : Opd)
  | iaddr (arr : Option Nat) (size : Nat) (x i : Opd)
  | index (arr : Option (Nat × Nat × Bool)) (x i : Opd)
  | extract (x : Opd) (i : Nat)
  | len (tk : Nat) (x : Opd)
  | num (n : Int)
  | minmax (isMax : Bool) (xs : List Opd)
  | load (strict ag : Bool) (n : Nat) (a : Opd)
  | lookup (ks : KT) (zero : V) (ok : Bool) (m k : Opd)
  | allocL (zero : List V)
  | allocH (slot : Option Nat) (zero : List V)
  | boxL (x : Opd)
  | boxH (slot : Option Nat) (x : Opd)
  | mkmap (slot : Option Nat)
  | mkslice (slot : Option Nat) (bytes size : Nat) (zero : V) (len cap : Opd)
  | store (n : Nat) (a x : Opd)
  | mapup (ks : KT) (m k v : Opd)
  | mapent (ks : KT) (zero : V) (m k : Opd)
  | entst (m s v : Opd)
  | append (size bytes : Nat) (x y : Opd)
  | copy (x y : Opd)
  | clear (zero : V) (x : Opd)
  | cap (x : Opd)
  | panic (x : Opd)
  | call (strict : Bool) (f : Opd) (args : List Opd)
  | pcall (f : Opd) (args : List Opd)
  | loadA (A : Acc) (ag : Bool) (n : Nat) (a : Opd)
  | loadN (x : Nat) (ag : Bool) (n : Nat) (a : Opd)
  | storeA (A : Acc) (n : Nat) (a x : Opd)
  | tassert (t : Nat) (x : Opd)
  | ifn (neg : Bool) (x : Opd)
  | frzL (n : Nat) (x : Opd)
  | appendz (size bytes : Nat) (zero : V) (x n : Opd)
  | no

structure SOper where
  d : Option Nat
  g : Option (Nat × Bool)
  o : SO

inductive SC where
  | skip
  | ops (l : List SOper)
  | draw (k : Nat) (deps : List (List Nat)) (l : List SOper)
  | seq (a b : SC)
  | cond (c : Opd) (a b : SC)
  | block (id : Nat) (ks ls : List Nat) (c : SC)
  | loop (ks ls : List Nat) (c : SC)
  | exit (id : Nat)
  | ret

/-- Where a result stands at the end: in a temporary, or in a variable. -/
inductive RV where
  | t (n : Nat)
  | c (n : Nat) (ag : Bool) (sz : Nat)

/-- A body that defers a call of a closure: what comes ahead, where the closure stands, what comes behind. -/
structure DF where
  pre : SC
  t : Nat
  rest : SC

/-- A closure that is called so, and recovers: what comes ahead, where the panic's value goes, what comes behind. -/
structure RF where
  pre : SC
  d : Nat
  rest : SC

structure SF where
  res : List RV
  body : SC
  keep : Bool := false
  dfr : Option DF := none
  rcv : Option RF := none

structure St where
  e : Nat → T
  m : Nat → Option (Nat × List V)
  g : Nat
  rb : Nat
  h : List HO

inductive Ex where
  | normal
  | exit (id : Nat)
  | ret
  | pan (v : V)

inductive CR where
  | ret (v : V)
  | pan (v : V)

inductive Out where
  | ok (x : T) (σ : St)
  | pan (v : V) (σ : St)

def upd {α : Type} (f : Nat → α) (d : Nat) (x : α) : Nat → α := fun t => bif t == d then x else f t

def St.put (σ : St) (d : Option Nat) (x : T) : St :=
  match d with
  | some d => { σ with e := upd σ.e d x }
  | none => σ

def St.ev (σ : St) : Opd → T
  | .t n => σ.e n
  | .c v => .v v

def T.val : T → Option V
  | .v x => some x
  | .loc .. => none

def St.val (σ : St) (x : Opd) : Option V := (σ.ev x).val
def St.vals (σ : St) : List Opd → Option (List V)
  | [] => some []
  | x :: xs => (σ.val x).bind fun v => (σ.vals xs).bind fun vs => some (v :: vs)

/-- A part of a row of cells, put in place of what stood there. -/
def setRange (cs : List V) (off : Nat) (xs : List V) : List V := cs.take off ++ xs ++ cs.drop (off + xs.length)

def mkv (ag : Bool) (cs : List V) : Option V :=
  match ag, cs with
  | true, cs => some (.agg cs)
  | false, [v] => some v
  | false, _ => none

def cut (cs : List V) (off n : Nat) : Option (List V) := if off + n ≤ cs.length then some ((cs.drop off).take n) else none

/-- Is a cell of a kind? Are two? -/
def V.isK : K → V → Bool
  | .int k, .int k' _ => k == k'
  | .str, .str _ => true
  | .bool, .bool _ => true
  | _, _ => false

def eqK : K → V → V → Option Bool
  | .bool, .bool a, .bool b => some (a == b)
  | .int q, .int k a, .int k' b => if k = q ∧ k' = q then some (a == b) else none
  | .str, .str a, .str b => some (a == b)
  | .float q, .float k a, .float k' b => if k = q ∧ k' = q then some (q.format.order a b == some .eq) else none
  | _, _, _ => none

def eqKs : List K → List V → List V → Option Bool
  | [], [], [] => some true
  | k :: ks, x :: xs, y :: ys => (eqK k x y).bind fun a => (eqKs ks xs ys).bind fun b => some (a && b)
  | _, _, _ => none

/-- No number with a point: keys. -/
def K.plain : K → Bool
  | .float _ => false
  | _ => true
def KT.plain : KT → Bool
  | .agg ks => ks.all K.plain
  | _ => true

/-- A key: a struct or an array of so many cells, or a number, a text. -/
def isKey (ks : KT) (x : V) : Bool :=
  match ks, x with
  | .agg ks, .agg cs => ks.length == cs.length && (ks.zip cs).all fun p => V.isK p.1 p.2
  | .int, .int .. => true
  | .str, .str _ => true
  | _, _ => false

def eqKey (ks : KT) (x y : V) : Option Bool :=
  match ks, x, y with
  | .agg ks, .agg xs, .agg ys => eqKs ks xs ys
  | .int, .int k a, .int k' b => if k = k' then some (a == b) else none
  | .str, .str a, .str b => some (a == b)
  | _, _, _ => none

def eqN (tk : Nat) (x y : V) : Option Bool :=
  match tk, x, y with
  | 0, .nilp, .nilp => some true
  | 0, .nilp, .ptr .. | 0, .ptr .., .nilp | 0, .nilp, .cref .. | 0, .cref .., .nilp | 0, .nilp, .eptr .. | 0, .eptr .., .nilp => some false
  | 1, .nils, .nils => some true
  | 1, .sl .., .nils | 1, .nils, .sl .. => some false
  | 1, .snap (_ :: _), .nils | 1, .nils, .snap (_ :: _) => some false
  | 2, .nilm, .nilm => some true
  | 2, .nilm, .map _ | 2, .map _, .nilm => some false
  | 3, .nilf, .nilf => some true
  | 3, .nilf, .func .. | 3, .func .., .nilf => some false
  | _, _, _ => none

def bitsV (op : BinOp) (k : IntKind) (x y : Int) : Option V :=
  match op with
  | .and => some (.int k (k.wrap (BitVec.ofInt k.bits x &&& BitVec.ofInt k.bits y).toNat))
  | .or => some (.int k (k.wrap (BitVec.ofInt k.bits x ||| BitVec.ofInt k.bits y).toNat))
  | .xor => some (.int k (k.wrap (BitVec.ofInt k.bits x ^^^ BitVec.ofInt k.bits y).toNat))
  | .andNot => some (.int k (k.wrap (BitVec.ofInt k.bits x &&& ~~~(BitVec.ofInt k.bits y)).toNat))
  | _ => none

def intV (op : BinOp) (k : IntKind) (a b : Int) : Option V :=
  match op with
  | .add => some (.int k (k.wrap (a + b)))
  | .sub => some (.int k (k.wrap (a - b)))
  | .mul => some (.int k (k.wrap (a * b)))
  | .quo => if b = 0 then none else some (.int k (k.wrap (a.tdiv b)))
  | .rem => if b = 0 then none else some (.int k (a.tmod b))
  | .eql => some (.bool (a == b))
  | .neq => some (.bool (a != b))
  | .lss => some (.bool (a < b))
  | .leq => some (.bool (a ≤ b))
  | .gtr => some (.bool (a > b))
  | .geq => some (.bool (a ≥ b))
  | op => bitsV op k a b

def strV (op : BinOp) (a b : List UInt8) : Option V :=
  match op with
  | .add => if a.length + b.length < 2 ^ 62 then some (.str (a ++ b)) else none
  | .eql => some (.bool (a == b))
  | .neq => some (.bool !(a == b))
  | .lss => some (.bool (Op.bytesLess a b))
  | .leq => some (.bool (Op.bytesLess a b || a == b))
  | .gtr => some (.bool !(Op.bytesLess a b || a == b))
  | .geq => some (.bool !(Op.bytesLess a b))
  | _ => none

def floatV (op : BinOp) (k : FloatKind) (x y : Nat) : Option V :=
  match op with
  | .add => (k.format.add x y).map (.float k)
  | .sub => (k.format.sub x y).map (.float k)
  | .mul => (k.format.mul x y).map (.float k)
  | .quo => (k.format.div x y).map (.float k)
  | .eql => some (.bool (k.format.order x y == some .eq))
  | .neq => some (.bool (k.format.order x y != some .eq))
  | .lss => some (.bool (k.format.order x y == some .lt))
  | .leq => some (.bool (k.format.order x y == some .lt || k.format.order x y == some .eq))
  | .gtr => some (.bool (k.format.order x y == some .gt))
  | .geq => some (.bool (k.format.order x y == some .gt || k.format.order x y == some .eq))
  | _ => none

def shiftV (op : BinOp) (k : IntKind) (x y : Int) : Option V :=
  if y < 0 then none else
  match op with
  | .shl => some (.int k (k.wrap (x * 2 ^ (min y.toNat k.bits))))
  | .shr => some (.int k (x.fdiv (2 ^ (min y.toNat k.bits))))
  | _ => none

def binV (op : BinOp) (x y : V) : Option V :=
  match x, y with
  | .int k a, .int k' b =>
    match op with
    | .shl | .shr => shiftV op k a b
    | _ => if k = k' then intV op k a b else none
  | .str a, .str b => strV op a b
  | .float k a, .float k' b => if k = k' then floatV op k a b else none
  | _, _ => none

def unV (op : UnOp) (x : V) : Option V :=
  match op, x with
  | .neg, .int k n => some (.int k (k.wrap (0 - n)))
  | .xor, .int k n => bitsV .xor k (if k.signed then -1 else k.max) n
  | .not, .bool b => some (.bool !b)
  | .neg, .float k b => some (.float k (Op.negFloat k b))
  | _, _ => none

def mm2 (isMax : Bool) : V → V → Option V
  | .int k x, .int _ y => some (.int k (if isMax then (if y > x then y else x) else (if y < x then y else x)))
  | .str x, .str y => some (.str (if isMax then (if Op.bytesLess x y then y else x) else (if Op.bytesLess x y || x == y then x else y)))
  | _, _ => none

def mms (isMax : Bool) : V → List V → Option V
  | x, [] => some x
  | x, y :: ys => (mm2 isMax x y).bind fun z => mms isMax z ys

/-- Bytes as a list of values, and back. -/
def bytesV (s : List UInt8) : List V := s.map fun b => .int .u8 (b.toNat : Int)
def unbytes : List V → Option (List UInt8)
  | [] => some []
  | .int .u8 n :: r => (unbytes r).bind fun s => if 0 ≤ n ∧ n < 256 then some (UInt8.ofNat n.toNat :: s) else none
  | _ :: _ => none

/-- What a slice holds now. -/
def St.elems (σ : St) : V → Option (List V)
  | .nils => some []
  | .snap l => some l
  | .sl id ver _ off len =>
    match σ.h[id]? with
    | some (.row ver' l) => if ver' = ver ∧ off + len ≤ l.length then some ((l.drop off).take len) else none
    | _ => none
  | _ => none

/-- What is appended, or copied. -/
def St.srcV (σ : St) : V → Option (List V)
  | .str s => some (bytesV s)
  | y => σ.elems y

/-- Bounds of a slice expression: within what is there. -/
def bound1 (σ : St) (x : Option Opd) (dflt : Nat) : Option Nat :=
  match x with
  | none => some dflt
  | some x =>
    match σ.val x with
    | some (.int _ i) => if 0 ≤ i then some i.toNat else none
    | _ => none

def sliceV (σ : St) (str : Bool) (size : Nat) (x : V) (lo hi : Option Opd) (mx : Option Opd) : Option V :=
  match str, x with
  | true, .str s =>
    match mx with
    | some _ => none
    | none => (bound1 σ hi s.length).bind fun h => (bound1 σ lo 0).bind fun l => if l ≤ h ∧ h ≤ s.length then some (.str ((s.drop l).take (h - l))) else none
  | false, .nils =>
    (bound1 σ mx 0).bind fun m => (bound1 σ hi 0).bind fun h => (bound1 σ lo 0).bind fun l => if l = 0 ∧ h = 0 ∧ m = 0 then some .nils else none
  | false, .snap s =>
    (bound1 σ mx s.length).bind fun m => (bound1 σ hi s.length).bind fun h => (bound1 σ lo 0).bind fun l =>
      if l ≤ h ∧ h ≤ s.length ∧ h ≤ m ∧ m ≤ s.length ∧ (s.all fun v => v.cells.length == size) then some (.snap ((s.drop l).take (h - l))) else none
  | false, .sl id ver sz off len =>
    (bound1 σ mx len).bind fun m => (bound1 σ hi len).bind fun h => (bound1 σ lo 0).bind fun l =>
      if l ≤ h ∧ h ≤ len ∧ h ≤ m ∧ m ≤ len ∧ sz = size then some (.sl id ver sz (off + l) (h - l)) else none
  | _, _ => none

/-- An operation that looks at temporaries alone. -/
def pureO (σ : St) : SO → Option T
  | .mov x => some (σ.ev x)
  | .pick c a b =>
    match σ.ev c, σ.ev a, σ.ev b with
    | .v (.bool true), a, _ => some a
    | .v (.bool false), _, b => some b
    | _, _, _ => none
  | .build zero ps =>
    (ps.foldl (fun (acc : Option (List V)) p => acc.bind fun cs => (σ.val p.2.2).bind fun x =>
      if x.cells.length = p.2.1 ∧ p.1 + p.2.1 ≤ cs.length then some (setRange cs p.1 x.cells) else none) (some zero)).map fun cs => .v (.agg cs)
  | .bsnap size xs => (σ.vals xs).bind fun vs => if vs.all (fun v => v.cells.length == size) then some (.v (.snap vs)) else none
  | .nilck x =>
    match σ.ev x with
    | .v .undef | .v .nilp | .v .nili | .v .nilf => none
    | .v (.ptr a b) => some (.v (.ptr a b))
    | .v (.cref a) => some (.v (.cref a))
    | .v (.eptr a b c d) => some (.v (.eptr a b c d))
    | .loc a b c => some (.loc a b c)
    | _ => none
  | .bin op x y => (σ.val x).bind fun a => (σ.val y).bind fun b => (binV op a b).map .v
  | .cmpB neg x y => match σ.val x, σ.val y with | some (.bool a), some (.bool b) => some (.v (.bool (neg ^^ (a == b)))) | _, _ => none
  | .cmpA neg ks x y =>
    match σ.val x, σ.val y with
    | some (.agg a), some (.agg b) => (eqKs ks a b).map fun t => .v (.bool (neg ^^ t))
    | _, _ => none
  | .cmpN neg tk x y => (σ.val x).bind fun a => (σ.val y).bind fun b => (eqN tk a b).map fun t => .v (.bool (neg ^^ t))
  | .un op x => (σ.val x).bind fun a => (unV op a).map .v
  | .cvI k x => match σ.val x with | some (.int _ n) => some (.v (.int k (k.wrap n))) | _ => none
  | .cvF k x => match σ.val x with | some (.int _ n) => some (.v (.float k (k.nearest n))) | _ => none
  | .cvFI k x =>
    match σ.val x with
    | some (.float s b) =>
      match (s.decode b).toInt .zero with
      | some n => if k.min ≤ n ∧ n ≤ k.max then some (.v (.int k n)) else none
      | none => none
    | _ => none
  | .cvSS x => match σ.val x with | some (.str s) => some (.v (.str s)) | _ => none
  | .mkif t x => (σ.val x).map fun v => .v (.iface t v)
  | .mkfn f caps => (σ.vals caps).map fun vs => .v (.func f vs)
  | .slice str size x lo hi mx => (σ.val x).bind fun v => (sliceV σ str size v lo hi mx).map .v
  | .faddr off x =>
    match σ.ev x with
    | .loc d g o => some (.loc d g (o + off))
    | .v (.ptr id o) => some (.v (.ptr id (o + off)))
    | .v (.cref cs) => some (.v (.cref (cs.drop off)))
    | .v (.eptr id ver i o) => some (.v (.eptr id ver i (o + off)))
    | _ => none
  | .field ag off n x =>
    match σ.val x with
    | some (.agg cs) => (cut cs off n).bind fun c => (mkv ag c).map .v
    | _ => none
  | .iaddr none size x i =>
    match σ.val x, σ.val i with
    | some (.snap l), some (.int _ i) => if 0 ≤ i then (l[i.toNat]?).bind fun v => if v.cells.length = size then some (.v (.cref v.cells)) else none else none
    | some (.sl id ver sz off len), some (.int _ i) => if 0 ≤ i ∧ i < len ∧ sz = size then some (.v (.eptr id ver (off + i.toNat) 0)) else none
    | _, _ => none
  | .iaddr (some n) size x i =>
    match σ.ev x, σ.val i with
    | .loc d g o, some (.int _ i) => if 0 ≤ i ∧ i < n then some (.loc d g (o + i.toNat * size)) else none
    | .v (.ptr id o), some (.int _ i) => if 0 ≤ i ∧ i < n then some (.v (.ptr id (o + i.toNat * size))) else none
    | .v (.cref cs), some (.int _ i) => if 0 ≤ i ∧ i < n then some (.v (.cref (cs.drop (i.toNat * size)))) else none
    | .v (.eptr id ver j o), some (.int _ i) => if 0 ≤ i ∧ i < n then some (.v (.eptr id ver j (o + i.toNat * size))) else none
    | _, _ => none
  | .index none x i =>
    match σ.val x, σ.val i with
    | some (.str s), some (.int _ i) => if 0 ≤ i then (s[i.toNat]?).map fun b => .v (.int .u8 (b.toNat : Int)) else none
    | _, _ => none
  | .index (some (n, size, ag)) x i =>
    match σ.val x, σ.val i with
    | some (.agg cs), some (.int _ i) => if 0 ≤ i ∧ i < n then (cut cs (i.toNat * size) size).bind fun c => (mkv ag c).map .v else none
    | _, _ => none
  | .extract x i =>
    match σ.val x with
    | some (.tuple vs) => (vs[i]?).map .v
    | _ => none
  | .len tk x =>
    match tk, σ.val x with
    | 0, some (.str s) => some (.v (.int .i64 (s.length : Int)))
    | 1, some .nils => some (.v (.int .i64 0))
    | 1, some (.snap l) => some (.v (.int .i64 (l.length : Int)))
    | 1, some (.sl _ _ _ _ len) => some (.v (.int .i64 (len : Int)))
    | 2, some .nilm => some (.v (.int .i64 0))
    | _, _ => none
  | .num n => some (.v (.int .i64 n))
  | .cap x => match σ.val x with | some .nils => some (.v (.int .i64 0)) | _ => none
  | .minmax isMax xs => (σ.vals xs).bind fun vs => match vs with | [] => none | x :: r => (mms isMax x r).map .v
  | .tassert t x => match σ.val x with | some (.iface t' v) => if t' = t then some (.v (.tuple [v, .bool true])) else none | _ => none
  | .ifn neg x => match σ.val x with | some .nili => some (.v (.bool (neg ^^ true))) | some (.iface _ _) => some (.v (.bool (neg ^^ false))) | _ => none
  | _ => none

/-- The cells at an address, so many. -/
def St.cellsAt (σ : St) (n : Nat) : T → Option (List V)
  | .loc d g off =>
    match σ.m d with
    | some (g', cs) => if g' = g then cut cs off n else none
    | none => none
  | .v (.ptr id off) =>
    match σ.h[id]? with
    | some (.cells cs) => cut cs off n
    | _ => none
  | .v (.cref cs) => cut cs 0 n
  | .v (.eptr id ver i off) =>
    match σ.h[id]? with
    | some (.row ver' l) => if ver' = ver then (l[i]?).bind fun v => cut v.cells off n else none
    | _ => none
  | _ => none

def T.local : T → Bool
  | .loc .. => true
  | .v (.cref _) => true
  | _ => false

/-- Is an address what it is said to be? -/
def Acc.ok : Acc → T → Bool
  | .loc d, .loc d' _ _ => d == d'
  | .ptr, .v (.ptr _ _) => true
  | .eptr, .v (.eptr _ _ _ _) => true
  | .cref, .v (.cref _) => true
  | _, _ => false

/-- A load through a pointer that is another one than a temporary's. -/
def St.loadN (σ : St) (x : Nat) (ag : Bool) (n : Nat) (a : T) : Option T :=
  match a, σ.e x with
  | .v (.ptr id off), .v (.ptr id' _) => if id = id' then none else (σ.cellsAt n (.v (.ptr id off))).bind fun cs => (mkv ag cs).map .v
  | _, _ => none

def findE (ks : KT) (k : V) : List (V × V × Nat) → Option (Option (V × Nat))
  | [] => some none
  | (k', v, b) :: r => (eqKey ks k k').bind fun t => bif t then some (some (v, b)) else findE ks k r

/-- An operation that reads memory. -/
def readO (σ : St) : SO → Option T
  | .load strict ag n a =>
    if strict && !(σ.ev a).local then none else
    (σ.cellsAt n (σ.ev a)).bind fun cs => (mkv ag cs).map .v
  | .loadA A ag n a =>
    if A.ok (σ.ev a) = true then (σ.cellsAt n (σ.ev a)).bind fun cs => (mkv ag cs).map .v else none
  | .loadN x ag n a => σ.loadN x ag n (σ.ev a)
  | .lookup ks zero ok m k =>
    match σ.val m, (σ.val k).filter (isKey ks) with
    | some .nilm, some _ => some (.v (bif ok then .tuple [zero, .bool false] else zero))
    | some (.map id), some k =>
      match σ.h[id]? with
      | some (.map es _) =>
        match findE ks k es with
        | some (some (v, _)) => some (.v (bif ok then .tuple [v, .bool true] else v))
        | some none => some (.v (bif ok then .tuple [zero, .bool false] else zero))
        | none => none
      | _ => none
    | _, _ => none
  | .len tk x =>
    match tk, σ.val x with
    | 2, some (.map id) =>
      match σ.h[id]? with
      | some (.map es _) => some (.v (.int .i64 (es.length : Int)))
      | _ => none
    | _, _ => none
  | .cvBS x =>
    match σ.val x with
    | some v => (σ.elems v).bind fun l => (unbytes l).map fun s => .v (.str s)
    | _ => none
  | _ => none

/-- A new block. -/
def St.newH (σ : St) (slot : Option Nat) (o : HO) : Option (Nat × St) :=
  match slot with
  | none => some (σ.h.length, { σ with h := σ.h ++ [o] })
  | some j =>
    match σ.h[σ.rb + j]? with
    | some .hole => some (σ.rb + j, { σ with h := σ.h.set (σ.rb + j) o })
    | _ => none

/-- A store of cells at an address. -/
def St.storeAt (σ : St) (xs : List V) : T → Option St
  | .loc d g off =>
    match σ.m d with
    | some (g', cs) => if g' = g ∧ off + xs.length ≤ cs.length then some { σ with m := upd σ.m d (some (g, setRange cs off xs)) } else none
    | none => none
  | .v (.ptr id off) =>
    match σ.h[id]? with
    | some (.cells cs) => if off + xs.length ≤ cs.length then some { σ with h := σ.h.set id (.cells (setRange cs off xs)) } else none
    | _ => none
  | .v (.eptr id ver i off) =>
    match σ.h[id]? with
    | some (.row ver' l) =>
      match l[i]? with
      | some (.agg cs) => if ver' = ver ∧ off + xs.length ≤ cs.length then some { σ with h := σ.h.set id (.row ver (l.set i (.agg (setRange cs off xs)))) } else none
      | some _ =>
        match xs with
        | [x] => if ver' = ver ∧ off = 0 ∧ x.cells.length = 1 then some { σ with h := σ.h.set id (.row ver (l.set i x)) } else none
        | _ => none
      | none => none
    | _ => none
  | _ => none

def setE (ks : KT) (k v : V) : List (V × V × Nat) → Option (List (V × V × Nat))
  | [] => none
  | (k', v', b) :: r => (eqKey ks k k').bind fun t => bif t then some ((k, v, b) :: r) else (setE ks k v r).map ((k', v', b) :: ·)

def setBorn (n : Nat) (v : V) : List (V × V × Nat) → Option (List (V × V × Nat))
  | [] => none
  | (k', v', b) :: r => if b = n then some ((k', v, b) :: r) else (setBorn n v r).map ((k', v', b) :: ·)

def far : Nat := 2 ^ 32

/-- An operation that writes memory, or makes some. -/
def effO (σ : St) (d : Option Nat) : SO → Option Out
  | .allocL zero =>
    match d with
    | some d => some (.ok (.loc d σ.g 0) { σ with m := upd σ.m d (some (σ.g, zero)), g := σ.g + 1 })
    | none => none
  | .boxL x =>
    match d, σ.val x with
    | some d, some v => if v.cells.length = 0 then none else some (.ok (.loc d σ.g 0) { σ with m := upd σ.m d (some (σ.g, v.cells)), g := σ.g + 1 })
    | _, _ => none
  | .allocH slot zero => (σ.newH slot (.cells zero)).map fun p => .ok (.v (.ptr p.1 0)) p.2
  | .boxH slot x => (σ.val x).bind fun v => if v.cells.length = 0 then none else (σ.newH slot (.cells v.cells)).map fun p => .ok (.v (.ptr p.1 0)) p.2
  | .mkmap slot => (σ.newH slot (.map [] 0)).map fun p => .ok (.v (.map p.1)) p.2
  | .mkslice slot bytes size zero l c =>
    match σ.val l, σ.val c with
    | some (.int _ l), some (.int _ c) =>
      if 0 ≤ l ∧ l ≤ c ∧ c * bytes < far ∧ c < far ∧ zero.cells.length = size ∧ 0 < size then
        (σ.newH slot (.row 0 (List.replicate l.toNat zero))).map fun p => .ok (.v (.sl p.1 0 size 0 l.toNat)) p.2
      else none
    | _, _ => none
  | .brow size xs =>
    (σ.vals xs).bind fun vs => if vs.all (fun v => v.cells.length == size) ∧ 0 < size then
      (σ.newH none (.row 0 vs)).map fun p => .ok (.v (.sl p.1 0 size 0 vs.length)) p.2 else none
  | .cvSB x =>
    match σ.val x with
    | some (.str s) => (σ.newH none (.row 0 (bytesV s))).map fun p => .ok (.v (.sl p.1 0 1 0 s.length)) p.2
    | _ => none
  | .store n a x =>
    (σ.val x).bind fun v => if v.cells.length = n then (σ.storeAt v.cells (σ.ev a)).map fun σ' => .ok (.v .undef) σ' else none
  | .mapup ks m k v =>
    match σ.val m, (σ.val k).filter (isKey ks), σ.val v with
    | some (.map id), some k, some v =>
      match σ.h[id]? with
      | some (.map es clock) =>
        match findE ks k es with
        | some (some _) => (setE ks k v es).map fun es' => .ok (.v .undef) { σ with h := σ.h.set id (.map es' clock) }
        | some none => some (.ok (.v .undef) { σ with h := σ.h.set id (.map (es ++ [(k, v, clock)]) (clock + 1)) })
        | none => none
      | _ => none
    | _, _, _ => none
  | .mapent ks zero m k =>
    match σ.val m, (σ.val k).filter (isKey ks) with
    | some (.map id), some k =>
      match σ.h[id]? with
      | some (.map es clock) =>
        match findE ks k es with
        | some (some (v, b)) => (setE ks k v es).map fun es' => .ok (.v (.tuple [v, .int .i64 (b : Int)])) { σ with h := σ.h.set id (.map es' clock) }
        | some none => some (.ok (.v (.tuple [zero, .int .i64 (clock : Int)])) { σ with h := σ.h.set id (.map (es ++ [(k, zero, clock)]) (clock + 1)) })
        | none => none
      | _ => none
    | _, _ => none
  | .entst m s v =>
    match σ.val m, σ.val s, σ.val v with
    | some (.map id), some (.int _ n), some v =>
      match σ.h[id]? with
      | some (.map es clock) => if 0 ≤ n then (setBorn n.toNat v es).map fun es' => .ok (.v .undef) { σ with h := σ.h.set id (.map es' clock) } else none
      | _ => none
    | _, _, _ => none
  | .append size bytes x y =>
    match σ.val x, σ.val y with
    | some x, some y =>
      (σ.srcV y).bind fun add =>
      if add.all (fun v => v.cells.length == size) then
        match x with
        | .nils =>
          bif add.isEmpty then some (.ok (.v .nils) σ) else
          if add.length * bytes < far ∧ add.length < far ∧ 0 < size then some (.ok (.v (.sl σ.h.length 0 size 0 add.length)) { σ with h := σ.h ++ [HO.row 0 add] }) else none
        | .sl id ver sz off len =>
          match σ.h[id]? with
          | some (.row ver' l) =>
            if ver' = ver ∧ sz = size ∧ off = 0 ∧ len ≤ l.length ∧ (len + add.length) * bytes < far ∧ len + add.length < far then
              some (.ok (.v (.sl id (ver + 1) size 0 (len + add.length))) { σ with h := σ.h.set id (.row (ver + 1) (l.take len ++ add)) })
            else none
          | _ => none
        | _ => none
      else none
    | _, _ => none
  | .copy x y =>
    match σ.val x, σ.val y with
    | some x, some y =>
      (σ.srcV y).bind fun src =>
      if src.all (fun v => v.cells.length == 1) then
        match x with
        | .nils => some (.ok (.v (.int .i64 0)) σ)
        | .sl id ver sz off len =>
          match σ.h[id]? with
          | some (.row ver' l) =>
            if ver' = ver ∧ sz = 1 ∧ off + len ≤ l.length then
              some (.ok (.v (.int .i64 ((min src.length len : Nat) : Int))) { σ with h := σ.h.set id (.row ver (l.take off ++ src.take (min src.length len) ++ l.drop (off + min src.length len))) })
            else none
          | _ => none
        | _ => none
      else none
    | _, _ => none
  | .panic x => (σ.val x).bind fun v => match v with | .iface t y => some (.pan (.iface t y) σ) | _ => none
  | .storeA A n a x =>
    (σ.val x).bind fun v => if v.cells.length = n ∧ A.ok (σ.ev a) = true then (σ.storeAt v.cells (σ.ev a)).map fun σ' => .ok (.v .undef) σ' else none
  | .frzL n x =>
    match σ.ev x with
    | .loc d g off =>
      match σ.m d with
      | some (g', cs) => if g' = g ∧ off = 0 ∧ cs.length = n ∧ cs.all (fun v => v.cells.length == 1) then some (.ok (.v (.snap cs)) { σ with m := upd σ.m d none }) else none
      | none => none
    | _ => none
  | .appendz size bytes zero x n =>
    match σ.val x, σ.val n with
    | some .nils, some (.int _ k) =>
      if 0 < k ∧ k * bytes < far ∧ k < far ∧ zero.cells.length = size ∧ 0 < size then
        some (.ok (.v (.sl σ.h.length 0 size 0 k.toNat)) { σ with h := σ.h ++ [HO.row 0 (List.replicate k.toNat zero)] })
      else none
    | _, _ => none
  | _ => none

/-- Does a value name no block of the heap? -/
def V.pure : V → Bool
  | .undef | .bool _ | .int .. | .float .. | .str _ | .nilp | .nilf | .nilm | .nili => true
  | .snap l => pures l
  | .cref l => pures l
  | .agg l => pures l
  | .tuple l => pures l
  | .iface _ v => v.pure
  | .func _ l => pures l
  | _ => false
where pures : List V → Bool
  | [] => true
  | v :: r => v.pure && pures r

/-- What other functions answer: their number, what they are given, the heap. -/
abbrev Calls1 := Nat → List V → List HO → Option (CR × List HO)

open Classical in
/-- One operation. -/
noncomputable def stepO (call : Calls1) (σ : St) (d : Option Nat) (o : SO) : Option Out :=
  match o with
  | .call strict f args =>
    match σ.val f, σ.vals args with
    | some (.func f caps), some vs =>
      match call f (vs ++ caps) σ.h with
      | some (.ret v, h) => if strict = true ∧ h ≠ σ.h then none else some (.ok (.v v) { σ with h := h })
      | some (.pan v, h) => if strict = true then none else some (.pan v { σ with h := h })
      | none => none
    | _, _ => none
  | .pcall f args =>
    match σ.val f, σ.vals args with
    | some (.func f caps), some vs =>
      if V.pure.pures (vs ++ caps) = true then
        match call f (vs ++ caps) [] with
        | some (.ret v, []) => if v.pure = true then some (.ok (.v v) σ) else none
        | _ => none
      else none
    | _, _ => none
  | o =>
    match pureO σ o with
    | some x => some (.ok x σ)
    | none =>
      match readO σ o with
      | some x => some (.ok x σ)
      | none => effO σ d o

/-- One operation with its guard. -/
noncomputable def stepG (call : Calls1) (o : SOper) (σ : St) : Option (Ex × St) :=
  match o.g with
  | none =>
    match stepO call σ o.d o.o with
    | some (.ok x σ) => some (.normal, σ.put o.d x)
    | some (.pan v σ) => some (.pan v, σ)
    | none => none
  | some (t, want) =>
    match σ.e t with
    | .v (.bool b) =>
      bif b == want then
        match stepO call σ o.d o.o with
        | some (.ok x σ) => some (.normal, σ.put o.d x)
        | some (.pan v σ) => some (.pan v, σ)
        | none => none
      else some (.normal, σ.put o.d (.v (.tuple [])))
    | .v (.tuple []) => some (.normal, σ.put o.d (.v (.tuple [])))
    | _ => none

noncomputable def runOps (call : Calls1) : List SOper → St → Option (Ex × St)
  | [], σ => some (.normal, σ)
  | o :: os, σ =>
    match stepG call o σ with
    | some (.normal, σ) => runOps call os σ
    | r => r

/-- The orders in which a region's operations may come: each once, behind those that it waits for. -/
def ready (deps : List (List Nat)) (n : Nat) (done : List Nat) : List Nat :=
  (List.range n).filter fun i => !done.contains i && (deps.getD i []).all done.contains

def orders (deps : List (List Nat)) (n : Nat) : Nat → List Nat → List (List Nat)
  | 0, _ => [[]]
  | fuel + 1, done =>
    match ready deps n done with
    | [] => [[]]
    | i :: r => (i :: r).flatMap fun j => (orders deps n fuel (j :: done)).map (j :: ·)

def pickOps (l : List SOper) (is : List Nat) : List SOper := is.filterMap (l[·]?)

def St.drawn (σ : St) (k : Nat) : St := { σ with rb := σ.h.length, h := σ.h ++ List.replicate k .hole }

/-- Where orders are drawn a panic is not told. -/
def onlyN : Option (Ex × St) → Option (Ex × St)
  | some (.normal, σ) => some (.normal, σ)
  | _ => none

/-- Where an operation may panic in a drawn order (a region whose number is odd), what the region's temporaries hold then is forgotten. -/
def dsts (l : List SOper) : List Nat := l.filterMap (·.d)
def forgetE (l : List SOper) (σ : St) : St := { σ with e := fun t => bif (dsts l).contains t then .v .undef else σ.e t }
def sameD (p : Bool) (l : List SOper) : Option (Ex × St) → Option (Ex × St) → Prop
  | some (.normal, σ), some (.normal, σ') => σ = σ'
  | some (.pan v, σ), some (.pan v', σ') => p = true ∧ v = v' ∧ forgetE l σ = forgetE l σ'
  | _, _ => False
def outD (p : Bool) (l : List SOper) : Option (Ex × St) → Option (Ex × St)
  | some (.normal, σ) => some (.normal, σ)
  | some (.pan v, σ) => bif p then some (.pan v, forgetE l σ) else none
  | _ => none

open Classical in
noncomputable def runDraw (call : Calls1) (k : Nat) (deps : List (List Nat)) (l : List SOper) (σ : St) : Option (Ex × St) :=
  if ∀ is ∈ orders deps l.length l.length [], sameD (k % 2 == 1) l (runOps call (pickOps l is) (σ.drawn (k / 2))) (runOps call l (σ.drawn (k / 2))) then outD (k % 2 == 1) l (runOps call l (σ.drawn (k / 2))) else none

/-- What is kept at the head of a loop: some temporaries, some variables; the rest is forgotten. -/
def keepE (e : Nat → T) : List Nat → Nat → T
  | [] => fun _ => .v .undef
  | t :: ts => upd (keepE e ts) t (e t)
def keepM (m : Nat → Option (Nat × List V)) : List Nat → Nat → Option (Nat × List V)
  | [] => fun _ => none
  | t :: ts => upd (keepM m ts) t (m t)
def St.keep (σ : St) (ks ls : List Nat) : St := { σ with e := keepE σ.e ks, m := keepM σ.m ls }

def iter (f : St → Option (Ex × St)) : Nat → St → Option (Ex × St)
  | 0, _ => none
  | n + 1, σ =>
    match f σ with
    | some (.normal, σ) => iter f n σ
    | r => r

noncomputable def codeN (call : Calls1) (n : Nat) : SC → St → Option (Ex × St)
  | .skip, σ => some (.normal, σ)
  | .ops l, σ => runOps call l σ
  | .draw k deps l, σ => runDraw call k deps l σ
  | .seq a b, σ =>
    match codeN call n a σ with
    | some (.normal, σ) => codeN call n b σ
    | r => r
  | .cond c a b, σ =>
    match σ.ev c with
    | .v (.bool t) => bif t then codeN call n a σ else codeN call n b σ
    | _ => none
  | .block id ks ls c, σ =>
    match codeN call n c σ with
    | some (.exit id', σ) => if id' = id then some (.normal, σ.keep ks ls) else some (.exit id', σ)
    | r => r
  | .loop ks ls c, σ => iter (fun σ => codeN call n c (σ.keep ks ls)) n σ
  | .exit id, σ => some (.exit id, σ)
  | .ret, σ => some (.ret, σ)

/-- A value that is answered: its own rows, from now on only read, are lists. -/
def frz1 (n : Nat) (h : List HO) (v : V) : Option V :=
  if v.pure then some v else
  match v with
  | .nils => some (.snap [])
  | .sl id ver _ off len =>
    if id < n then none else
    match h[id]? with
    | some (.row ver' l) => if ver' = ver ∧ off + len ≤ l.length ∧ V.pure.pures l then some (.snap ((l.drop off).take len)) else none
    | _ => none
  | _ => none

def frzs (n : Nat) (h : List HO) : List V → Option (List V)
  | [] => some []
  | v :: r => (frz1 n h v).bind fun v => (frzs n h r).bind fun r => some (v :: r)

def frz2 (n : Nat) (h : List HO) (v : V) : Option V :=
  match v with
  | .agg cs => (frzs n h cs).map .agg
  | v => frz1 n h v

def frz2s (n : Nat) (h : List HO) : List V → Option (List V)
  | [] => some []
  | v :: r => (frz2 n h v).bind fun v => (frz2s n h r).bind fun r => some (v :: r)

def frz (n : Nat) (h : List HO) (v : V) : Option V :=
  match v with
  | .tuple vs => (frz2s n h vs).map .tuple
  | v => frz2 n h v

/-- The same, where rows hold rows. -/
def frzN1 (n : Nat) (h : List HO) (v : V) : Option V :=
  match frz1 n h v with
  | some v' => some v'
  | none =>
    match v with
    | .sl id ver _ off len =>
      if id < n then none else
      match h[id]? with
      | some (.row ver' l) => if ver' = ver ∧ off + len ≤ l.length then (frz2s n h l).map fun l' => .snap ((l'.drop off).take len) else none
      | _ => none
    | _ => none
def frzNs (n : Nat) (h : List HO) : List V → Option (List V)
  | [] => some []
  | v :: r => (frzN1 n h v).bind fun v => (frzNs n h r).bind fun r => some (v :: r)
def frzN2 (n : Nat) (h : List HO) (v : V) : Option V :=
  match v with
  | .agg cs => (frzNs n h cs).map .agg
  | v => frzN1 n h v
def frzN2s (n : Nat) (h : List HO) : List V → Option (List V)
  | [] => some []
  | v :: r => (frzN2 n h v).bind fun v => (frzN2s n h r).bind fun r => some (v :: r)
def frzN (n : Nat) (h : List HO) (v : V) : Option V :=
  match v with
  | .tuple vs => (frzN2s n h vs).map .tuple
  | v => frzN2 n h v
/-- The one, or the other. -/
def frzF (n : Nat) (h : List HO) (v : V) : Option V :=
  match frz n h v with
  | some v' => some v'
  | none => frzN n h v

/-- Does a value name no block from one on? -/
def V.lo (n : Nat) : V → Bool
  | .ptr id _ => decide (id < n)
  | .eptr id _ _ _ => decide (id < n)
  | .sl id _ _ _ _ => decide (id < n)
  | .map id => decide (id < n)
  | .cref l => los n l
  | .snap l => los n l
  | .agg l => los n l
  | .tuple l => los n l
  | .func _ l => los n l
  | .iface _ v => v.lo n
  | _ => true
where los (n : Nat) : List V → Bool
  | [] => true
  | v :: r => v.lo n && los n r
/-- May a block of the caller's be left so, when what the call made is forgotten? -/
def HO.lo (n : Nat) : HO → HO → Bool
  | .cells _, .cells cs => V.lo.los n cs
  | .row v _, .row v' l => v == v' && V.lo.los n l
  | .map _ _, .map es _ => es.all fun p => p.1.lo n && p.2.1.lo n
  | .hole, .hole => true
  | _, _ => false
def HO.okTo (n : Nat) (a b : HO) : Prop := b = a ∨ HO.lo n a b = true
def topOK (n : Nat) : List HO → List HO → Prop
  | [], _ => True
  | a :: r, b :: r' => HO.okTo n a b ∧ topOK n r r'
  | _ :: _, [] => False

open Classical in
/-- The end of a call: what was there is as it was, or names nothing that the call made, and the answer names no block: then all that the call made is forgotten. -/
noncomputable def finish (keep : Bool) (h : List HO) (r : CR) (h' : List HO) : CR × List HO :=
  match r with
  | .ret v =>
    if keep = false ∧ h'.take h.length = h then
      match frzF h.length h' v with
      | some v' => (.ret v', h)
      | none => (.ret v, h')
    else if keep = false ∧ topOK h.length h h' then
      match frzF h.length h' v with
      | some v' => (.ret v', h'.take h.length)
      | none => (.ret v, h')
    else (.ret v, h')
  | .pan v => if h'.take h.length = h ∧ v.pure = true then (.pan v, h) else if topOK h.length h h' ∧ v.pure = true then (.pan v, h'.take h.length) else (.pan v, h')

def resultV (σ : St) : RV → Option V
  | .t n => (σ.e n).val
  | .c n ag sz => (σ.cellsAt sz (σ.e n)).bind (mkv ag)

def resultVs (σ : St) : List RV → Option (List V)
  | [] => some []
  | r :: rs => (resultV σ r).bind fun v => (resultVs σ rs).bind fun vs => some (v :: vs)

def results (σ : St) (rs : List RV) : Option V :=
  match rs with
  | [r] => resultV σ r
  | rs => (resultVs σ rs).map .tuple

def argsE : Nat → List V → Nat → T
  | _, [] => fun _ => .v .undef
  | i, v :: vs => upd (argsE (i + 1) vs) i (.v v)

def St.init (args : List V) (h : List HO) : St := { e := argsE 0 args, m := fun _ => none, g := 0, rb := 0, h := h }

noncomputable def endOf (sf : SF) (h : List HO) : Option (Ex × St) → Option (CR × List HO)
  | some (.ret, σ) | some (.normal, σ) => (results σ sf.res).map fun v => finish sf.keep h (.ret v) σ.h
  | some (.pan v, σ) => some (finish sf.keep h (.pan v) σ.h)
  | _ => none

/-- The functions that are known: by their code, or by an answer that is proved apart. -/
structure Env where
  fn : Nat → Option SF
  ext : Nat → Option (List V → List HO → Option (CR × List HO))

/-- The panic's value that a deferred call recovers. -/
def pvOf : Ex → Option V
  | .normal => some .nili
  | .ret => some .nili
  | .pan v => some v
  | .exit _ => none

/-- A body's last exit. -/
def Ex.isEnd : Ex → Bool
  | .normal => true
  | .ret => true
  | _ => false

/-- The closure that was deferred. -/
noncomputable def closeN (X : Env) (call : Calls1) (n : Nat) (g : Nat) (caps : List V) (pv : V) (h : List HO) : Option (List HO) :=
  (X.fn g).bind fun sf => sf.rcv.bind fun R =>
    match codeN call n R.pre (St.init caps h) with
    | some (.normal, σ) => (codeN call n R.rest (σ.put (some R.d) (.v pv))).bind fun p => if p.1.isEnd = true then some p.2.h else none
    | _ => none

noncomputable def bodyN (X : Env) (call : Calls1) (n : Nat) (sf : SF) (args : List V) (h : List HO) : Option (CR × List HO) :=
  match sf.dfr, sf.rcv with
  | none, none => endOf sf h (codeN call n sf.body (St.init args h))
  | some D, none =>
    match codeN call n D.pre (St.init args h) with
    | some (.normal, σ) =>
      match σ.e D.t with
      | .v (.func g caps) =>
        (codeN call n D.rest σ).bind fun p => (pvOf p.1).bind fun pv => (closeN X call n g caps pv p.2.h).bind fun h' =>
          (results { p.2 with h := h' } sf.res).map fun v => finish sf.keep h (.ret v) h'
      | _ => none
    | _ => none
  | _, _ => none

noncomputable def callN (X : Env) : Nat → Calls1
  | 0, _, _, _ => none
  | n + 1, f, args, h =>
    match X.ext f with
    | some e => e args h
    | none =>
      match X.fn f with
      | some sf => bodyN X (callN X n) n sf args h
      | none => none

end Go.Vm
end
