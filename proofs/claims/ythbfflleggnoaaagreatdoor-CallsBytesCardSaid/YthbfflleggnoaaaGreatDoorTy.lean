/- The program's data as Lean data, and as the VM's values. -/
import Derived.Test.YthbfflleggnoaaaGreatDoorVmDef
set_option linter.unusedSimpArgs false
set_option linter.unusedVariables false
namespace Go.Vm.Tryz
open Go Go.Vm

abbrev I (n : Int) : V := .int .i64 n
abbrev B (b : Bool) : V := .bool b
abbrev Str := List UInt8
abbrev S (s : Str) : V := .str s
def R (n : Int) : Prop := -9223372036854775808 ≤ n ∧ n ≤ 9223372036854775807

/-- A slice: nil, or one that holds a list. -/
abbrev Sl (α : Type) := Option (List α)
def Sl.l {α : Type} : Sl α → List α
  | none => []
  | some l => l
def Sl.v {α : Type} (f : α → V) : Sl α → V
  | none => .nils
  | some l => .snap (l.map f)
@[simp] theorem Sl.l_none {α : Type} : Sl.l (none : Sl α) = [] := rfl
@[simp] theorem Sl.l_some {α : Type} (l : List α) : Sl.l (some l) = l := rfl
@[simp] theorem Sl.v_none {α : Type} (f : α → V) : Sl.v f none = .nils := rfl
@[simp] theorem Sl.v_some {α : Type} (f : α → V) (l : List α) : Sl.v f (some l) = .snap (l.map f) := rfl
/-- A slice that holds a list. -/
def Row {α : Type} (f : α → V) (v : V) (l : List α) : Prop := v = .nils ∧ l = [] ∨ v = .snap (l.map f)
theorem Sl.row {α : Type} (f : α → V) : ∀ o : Sl α, Row f (Sl.v f o) (Sl.l o)
  | none => .inl ⟨rfl, rfl⟩
  | some _ => .inr rfl

structure Stamp where
  time : Int
  who : Int
  deriving DecidableEq
structure Piece where
  index : Int
  at_ : Stamp
  data : Str
  deriving DecidableEq
structure Xattr where
  name : Str
  at_ : Stamp
  val : Str
  gone : Bool
  deriving DecidableEq
structure Inode where
  id : Stamp
  kind : Int
  text : Str
  aAt : Stamp
  mode : Int
  time : Int
  sAt : Stamp
  n : Int
  pieces : Sl Piece
  xattrs : Sl Xattr
  deriving DecidableEq
/-- A vector: eight numbers. -/
structure Vec where
  l : List Int
  len : l.length = 8
  deriving DecidableEq
abbrev Vec.c (v : Vec) : List V := v.l.map I
@[simp] theorem Vec.len_ (v : Vec) : v.l.length = 8 := v.len
structure Link where
  id : Stamp
  node : Stamp
  at_ : Stamp
  parent : Stamp
  name : Str
  alive : Vec
  dead : Vec
  deriving DecidableEq
structure State where
  seen : Vec
  nodes : Sl Inode
  links : Sl Link
  deriving DecidableEq
structure Stat where
  node : Stamp
  kind : Int
  mode : Int
  time : Int
  size : Int
  links : Int
  deriving DecidableEq
structure Answer where
  err : Int
  data : Str
  names : Sl Str
  stat : Stat
  deriving DecidableEq

abbrev Piece.v (p : Piece) : V := .agg [I p.index, I p.at_.time, I p.at_.who, S p.data]
abbrev Xattr.v (x : Xattr) : V := .agg [S x.name, I x.at_.time, I x.at_.who, S x.val, B x.gone]
abbrev Inode.c (n : Inode) : List V := [I n.id.time, I n.id.who, I n.kind, S n.text, I n.aAt.time, I n.aAt.who, I n.mode, .int .u64 n.time, I n.sAt.time, I n.sAt.who, I n.n,
  Sl.v Piece.v n.pieces, Sl.v Xattr.v n.xattrs]
abbrev Inode.v (n : Inode) : V := .agg n.c
abbrev Link.c (l : Link) : List V := [I l.id.time, I l.id.who, I l.node.time, I l.node.who, I l.at_.time, I l.at_.who, I l.parent.time, I l.parent.who, S l.name] ++ (l.alive.c ++ l.dead.c)
abbrev Link.v (l : Link) : V := .agg l.c
abbrev State.c (s : State) : List V := s.seen.c ++ [Sl.v Inode.v s.nodes, Sl.v Link.v s.links]
abbrev State.v (s : State) : V := .agg s.c
abbrev Stat.c (s : Stat) : List V := [I s.node.time, I s.node.who, I s.kind, I s.mode, .int .u64 s.time, I s.size, I s.links]
abbrev Answer.v (a : Answer) : V := .agg ([I a.err, S a.data, Sl.v S a.names] ++ a.stat.c)
end Go.Vm.Tryz
