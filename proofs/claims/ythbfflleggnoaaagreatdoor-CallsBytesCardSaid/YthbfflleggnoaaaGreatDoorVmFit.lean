/- When the VM's code is that of a function of a program: asked by a plain computation. -/
import Derived.Test.YthbfflleggnoaaaGreatDoorVmDef
import Derived.DeepKeys
set_option linter.unusedSimpArgs false
set_option linter.unusedVariables false
namespace Go.Vm
open Go

def fitC : Value → V → Bool
  | .bool a, .bool b => a == b
  | .int k n, .int k' n' => k == k' && n == n'
  | .float k n, .float k' n' => k == k' && n == n'
  | .string b, .str s => b.data.toList == s
  | .pointer none, .nilp => true
  | .slice none 0 0, .nils => true
  | .map none, .nilm => true
  | .nilFunc, .nilf => true
  | .nilIface, .nili => true
  | _, _ => false

def fitCs : List Value → List V → Bool
  | [], [] => true
  | x :: xs, v :: vs => fitC x v && fitCs xs vs
  | _, _ => false

def fitV : Value → V → Bool
  | .agg xs, .agg vs => fitCs xs.toList vs
  | x, v => fitC x v

def fitX : Operand → Opd → Bool
  | .tmp t, .t n => t == n
  | .const v, .c x => fitV v x
  | .func f, .c (.func g []) => f == g
  | _, _ => false

def fitXs : List Operand → List Opd → Bool
  | [], [] => true
  | x :: xs, v :: vs => fitX x v && fitXs xs vs
  | _, _ => false

def fitXo : Option Operand → Option Opd → Bool
  | none, none => true
  | some x, some y => fitX x y
  | _, _ => false

def aggD : TypeDesc → Bool
  | .struct _ => true
  | .array _ _ => true
  | _ => false

section
variable (P : Program)
def aggT (t : TypeId) : Option Bool := (P.underlying t).map aggD
def sizeT (t : TypeId) : Option Nat := (P.info? t).map (·.size)
def zeroFit (t : TypeId) (cs : List V) : Bool :=
  match (P.info? t).bind (·.zero) with
  | some z => fitCs z.cells.toList cs
  | none => false
def elemT (t : TypeId) : Option TypeId := match P.underlying t with | some (.slice e) => some e | _ => none
def fieldT (t : TypeId) (f : Nat) : Option Field := match P.underlying t with | some (.struct fs) => fs[f]? | _ => none
def fieldsOk (t : TypeId) : Bool := match P.underlying t with | some (.struct fs) => fs.all fun f => (P.info? f.type).isSome | _ => false
def arrT (t : TypeId) : Option (Nat × TypeId) := match P.underlying t with | some (.array n e) => some (n, e) | _ => none

/-- The parts of a struct's or an array's literal. -/
def fitParts (place : Nat → Option (Nat × Nat)) : List (Nat × Operand) → List (Nat × Nat × Opd) → Bool
  | [], [] => true
  | (i, x) :: ps, (off, n, y) :: qs => place i == some (off, n) && 0 < n && fitX x y && fitParts place ps qs
  | _, _ => false

def placeT (t : TypeId) (i : Nat) : Option (Nat × Nat) :=
  match P.underlying t with
  | some (.struct fs) => (fs[i]?).bind fun f => (sizeT P f.type).map fun n => (f.offset, n)
  | some (.array _ e) => (sizeT P e).map fun n => (i * n, n)
  | _ => none

def fitIdx : Nat → List (Nat × Operand) → List Opd → Bool
  | _, [], [] => true
  | i, (j, x) :: ps, y :: ys => i == j && fitX x y && fitIdx (i + 1) ps ys
  | _, _, _ => false

/-- The kinds of a comparable type's cells, in order; its parts follow one another. -/
def kindsGo (f : TypeId → Option (List K)) : Nat → List Field → Option (List K)
  | _, [] => some []
  | off, fd :: r => if fd.name != "_" && fd.offset == off then (f fd.type).bind fun ks => (kindsGo f (off + ks.length) r).map fun q => ks ++ q else none

def kindsT : Nat → TypeId → Option (List K)
  | 0, _ => none
  | d + 1, t =>
    match P.underlying t with
    | some .bool => some [.bool]
    | some (.int k) => some [.int k]
    | some .string => some [.str]
    | some (.array n e) => (kindsT d e).bind fun ks => if sizeT P e == some ks.length then some (List.replicate n ks).flatten else none
    | some (.struct fs) => if P.stoodInHeld t then none else kindsGo (fun t => (kindsT d t).bind fun ks => if sizeT P t == some ks.length then some ks else none) 0 fs.toList
    | _ => none

def keyFit (t : TypeId) (ks : KT) : Bool :=
  match ks with
  | .agg ks => aggT P t == some true && kindsT P 20 t == some ks
  | .int => match P.underlying t with | some (.int _) => true | _ => false
  | .str => match P.underlying t with | some .string => true | _ => false

def fitO (op : Op) (so : SO) : Bool :=
  match op, so with
  | .move x, .mov y => fitX x y
  | .assign x, .mov y => fitX x y
  | .pick c a b, .pick c' a' b' => fitX c c' && fitX a a' && fitX b b'
  | .alloc t, .allocL z => zeroFit P t z
  | .alloc t, .allocH _ z => zeroFit P t z
  | .box _ x, .boxL y => fitX x y
  | .box _ x, .boxH _ y => fitX x y
  | .build t ps, .build z qs => zeroFit P t z && (fieldsOk P t || (match arrT P t with | some (_, e) => (sizeT P e).isSome | none => false)) && fitParts (placeT P t) ps.toList qs
  | .buildSlice t n ps, .bsnap z ys => (match elemT P t with | some e => sizeT P e == some z && (((P.info? e).bind (·.zero)).any fun v => v.cells.size == z) | none => false) && 0 < z && n == ys.length && n * z ≤ 16777216 && fitIdx 0 ps.toList ys
  | .buildSlice t n ps, .brow z ys => (match elemT P t with | some e => sizeT P e == some z && (((P.info? e).bind (·.zero)).any fun v => v.cells.size == z) | none => false) && 0 < z && n == ys.length && n * z ≤ 16777216 && fitIdx 0 ps.toList ys
  | .load t a, .load _ ag n b => aggT P t == some ag && sizeT P t == some n && (ag || n == 1) && fitX a b
  | .load t a, .loadA _ ag n b => aggT P t == some ag && sizeT P t == some n && (ag || n == 1) && fitX a b
  | .load t a, .loadN _ ag n b => aggT P t == some ag && sizeT P t == some n && (ag || n == 1) && fitX a b
  | .store t a x, .store n b y => sizeT P t == some n && 0 < n && fitX a b && fitX x y
  | .store t a x, .storeA _ n b y => sizeT P t == some n && 0 < n && fitX a b && fitX x y
  | .typeAssert x _ t ok, .tassert t' y => ok && t == t' && (match P.underlying t with | some (.interface _) => false | some _ => true | none => false) && fitX x y
  | .nilCheck x, .nilck y => fitX x y
  | .binOp o _ x y _, .bin o' x' y' => o == o' && fitX x x' && fitX y y'
  | .binOp o t x y _, .cmpB neg x' y' => (o == (if neg then .neq else .eql)) && P.underlying t matches some .bool && fitX x x' && fitX y y'
  | .binOp o t x y _, .cmpA neg ks x' y' => (o == (if neg then .neq else .eql)) && keyFit P t (.agg ks) && !P.eqGuardType P.depth t && fitX x x' && fitX y y'
  | .binOp o t x y _, .cmpN neg tk x' y' => (o == (if neg then .neq else .eql)) && (match tk, P.underlying t with
      | 0, some (.pointer _) => true
      | 1, some (.slice _) => true
      | 2, some (.map _ _) => true
      | 3, some (.func _ _ _) => true
      | _, _ => false) && fitX x x' && fitX y y'
  | .binOp o t x y _, .ifn neg x' => (o == (if neg then .neq else .eql)) && (match P.underlying t with | some (.interface _) => true | _ => false) && (match y with | .const .nilIface => true | _ => false) && fitX x x'
  | .unOp o _ x, .un o' y => o == o' && fitX x y
  | .convert src dst x, .cvI k y => (P.underlying src).isSome && (match P.underlying dst with | some (.int q) => q == k | _ => false) && fitX x y
  | .convert src dst x, .cvF k y => (P.underlying src).isSome && (match P.underlying dst with | some (.float q) => q == k | _ => false) && fitX x y
  | .convert src dst x, .cvFI k y => (P.underlying src).isSome && (match P.underlying dst with | some (.int q) => q == k | _ => false) && fitX x y
  | .convert src dst x, .cvSS y => (P.underlying src).isSome && (P.underlying dst matches some .string) && fitX x y
  | .convert src dst x, .cvSB y => (P.underlying src).isSome && (match P.underlying dst with | some (.slice e) => (P.underlying e matches some (.int .u8)) | _ => false) && fitX x y
  | .convert src dst x, .cvBS y => (match P.underlying src with | some (.slice e) => (P.underlying e matches some (.int .u8)) | _ => false) && (P.underlying dst matches some .string) && fitX x y
  | .makeInterface t x, .mkif t' y => t == t' && (match P.underlying t with | some (.interface _) => false | some _ => true | none => false) && fitX x y
  | .makeFunc (.func f) first caps, .mkfn f' ys => f == f' && first.isEmpty && fitXs caps.toList ys
  | .makeMap _ none, .mkmap _ => true
  | .makeSlice t l c, .mkslice _ bytes z zero l' c' => (match elemT P t with
      | some e => sizeT P e == some z && ((P.info? e).map (·.bytes)) == some bytes && (((P.info? e).bind (·.zero)).any fun v => fitV v zero && v.cells.size == z)
      | none => false) && fitX l l' && fitX c c'
  | .slice t x lo hi mx, .slice str z x' lo' hi' mx' => (if str then (P.underlying t matches some .string) else match elemT P t with | some e => sizeT P e == some z | none => false) &&
      fitX x x' && fitXo lo lo' && fitXo hi hi' && fitXo mx mx' && (mx.isNone || hi.isSome)
  | .fieldAddr t x f, .faddr off y => (match fieldT P t f with | some fd => fd.offset == off && (sizeT P fd.type).any (fun n => n != 0) | none => false) && fitX x y
  | .field t x f, .field ag off n y => (match fieldT P t f with | some fd => fd.offset == off && sizeT P fd.type == some n && aggT P fd.type == some ag && (ag || n == 1) | none => false) && fitX x y
  | .indexAddr t x i, .iaddr none z y j => (match elemT P t with | some e => sizeT P e == some z | none => false) && fitX x y && fitX i j
  | .indexAddr t x i, .iaddr (some n) z y j => (match arrT P t with | some (n', e) => n == n' && sizeT P e == some z | none => false) && fitX x y && fitX i j
  | .index t x i, .index none y j => (P.underlying t matches some .string) && fitX x y && fitX i j
  | .index t x i, .index (some (n, z, ag)) y j => (match arrT P t with | some (n', e) => n == n' && sizeT P e == some z && aggT P e == some ag && (ag || z == 1) | none => false) && fitX x y && fitX i j
  | .lookup t x i ok, .lookup ks zero ok' y j => (match P.underlying t with | some (.map k e) => keyFit P k ks && (((P.info? e).bind (·.zero)).any fun v => fitV v zero) | _ => false) && ok == ok' && fitX x y && fitX i j
  | .mapUpdate t x k v, .mapup ks y k' v' => (match P.underlying t with | some (.map kt _) => keyFit P kt ks | _ => false) && fitX x y && fitX k k' && fitX v v'
  | .mapEntry t x k, .mapent ks zero y k' => (match P.underlying t with | some (.map kt e) => keyFit P kt ks && (((P.info? e).bind (·.zero)).any fun v => fitV v zero) | _ => false) && fitX x y && fitX k k'
  | .entryStore _ x s v, .entst y s' v' => fitX x y && fitX s s' && fitX v v'
  | .extract x i, .extract y j => i == j && fitX x y
  | .panic x, .panic y => fitX x y
  | .call { callee := .value f, args := args, .. }, .call _ f' args' => fitX f f' && fitXs args.toList args'
  | .call { callee := .value f, args := args, .. }, .pcall f' args' => fitX f f' && fitXs args.toList args'
  | .call { callee := .builtin b, args := args, argTypes := ts }, so =>
    match b, so with
    | .len, .len tk y => (match args.toList, ts.toList with
        | [x], [t] => (match tk, P.underlying t with | 0, some .string => true | 1, some (.slice _) => true | 2, some (.map _ _) => true | _, _ => false) && fitX x y
        | _, _ => false)
    | .len, .num n => (match args.toList, ts.toList with
        | [_], [t] => (match P.underlying t with | some (.array m _) => n == (m : Int) | some (.pointer a) => (match P.underlying a with | some (.array m _) => n == (m : Int) | _ => false) | _ => false)
        | _, _ => false)
    | .cap, .cap y => (match args.toList, ts.toList with
        | [x], [t] => (P.underlying t matches some (.slice _)) && fitX x y
        | _, _ => false)
    | .max, .minmax true ys => fitXs args.toList ys
    | .min, .minmax false ys => fitXs args.toList ys
    | .append, .append z bytes y1 y2 => (match args.toList, ts.toList with
        | [x1, x2], [t, u] => (match elemT P t with
            | some e => sizeT P e == some z && ((P.info? e).map (·.bytes)) == some bytes && (((P.info? e).bind (·.zero)).any fun v => v.cells.size == z)
            | none => false) && (match P.underlying u with | some (.int _) => false | some _ => true | none => false) && fitX x1 y1 && fitX x2 y2
        | _, _ => false)
    | .append, .appendz z bytes zero y1 y2 => (match args.toList, ts.toList with
        | [x1, x2], [t, u] => (match elemT P t with
            | some e => sizeT P e == some z && ((P.info? e).map (·.bytes)) == some bytes && (((P.info? e).bind (·.zero)).any fun v => fitV v zero && v.cells.size == z)
            | none => false) && (match P.underlying u with | some (.int _) => true | _ => false) && fitX x1 y1 && fitX x2 y2
        | _, _ => false)
    | .copy, .copy y1 y2 => (match args.toList, ts.toList with
        | [x1, x2], [t, _] => (match elemT P t with | some e => sizeT P e == some 1 | none => false) && fitX x1 y1 && fitX x2 y2
        | _, _ => false)
    | .clear, .clear zero y => (match args.toList, ts.toList with
        | [x], [t] => (match elemT P t with | some e => (((P.info? e).bind (·.zero)).any fun v => fitV v zero) | none => false) && fitX x y
        | _, _ => false)
    | _, .no => true
    | _, _ => false
  | _, .no => true
  | _, _ => false
end

def fitGuard (ops : Array Oper) : Option (Nat × Bool) → Option (Nat × Bool) → Bool
  | none, none => true
  | some (j, w), some (t, w') => w == w' && ((ops[j]?).bind (·.dst)) == some t
  | _, _ => false

def fitOper (P : Program) (nt : Nat) (ops : Array Oper) (o : Oper) (s : SOper) : Bool :=
  o.dst == s.d && (s.d.all (· < nt)) && fitGuard ops o.guard s.g && fitO P o.op s.o

def fitOps (P : Program) (nt : Nat) (ops : Array Oper) : List Oper → List SOper → Bool
  | [], [] => true
  | o :: os, s :: ss => fitOper P nt ops o s && fitOps P nt ops os ss
  | _, _ => false

/-- What an operation waits for is among what the VM has it wait for, at least: the VM's orders are more. -/
def fitDeps (o : Oper) (ds : List Nat) : Bool := ds.all fun j => o.after.any fun e => e.on == j && Region.binds .any e

def fitDepss : List Oper → List (List Nat) → Bool
  | [], [] => true
  | o :: os, d :: ds => fitDeps o d && fitDepss os ds
  | _, _ => false

/-- What an operation waits for stands before it. -/
def fitBack : Nat → List Oper → Bool
  | _, [] => true
  | i, o :: os => (o.after.all fun e => !Region.binds .any e || decide (e.on < i)) && fitBack (i + 1) os

def fitCode (P : Program) (nt : Nat) : Code → SC → Bool
  | .skip, .skip => true
  | .region _ ops false, .ops l => fitOps P nt ops ops.toList l
  | .region _ ops true, .draw _ deps l => fitOps P nt ops ops.toList l && fitDepss ops.toList deps && fitBack 0 ops.toList
  | .region _ ops _, .skip => ops.isEmpty
  | .seq a b, .seq a' b' => fitCode P nt a a' && fitCode P nt b b'
  | .cond c a b, .cond c' a' b' => fitX c c' && fitCode P nt a a' && fitCode P nt b b'
  | .block id c, .block id' _ _ c' => id == id' && fitCode P nt c c'
  | .loop c, .loop _ _ c' => fitCode P nt c c'
  | .exit id, .exit id' => id == id'
  | .ret, .ret => true
  | _, _ => false

def fitRes (P : Program) : List ResultVar → List RV → Bool
  | [], [] => true
  | .tmp t :: rs, .t n :: ss => t == n && fitRes P rs ss
  | .cell a t :: rs, .c n ag z :: ss => a == n && aggT P t == some ag && sizeT P t == some z && (ag || z == 1) && fitRes P rs ss
  | _, _ => false

/-- A body that defers a call of a closure. -/
def fitD (P : Program) (nt : Nat) : Code → SC → Nat → SC → Bool
  | .seq a b, .seq a' pre, t, rest => fitCode P nt a a' && fitD P nt b pre t rest
  | .seq (.region _ ops false) b, .ops l, t, rest =>
    (match ops.toList, l with
      | [o1, o2], [s1] => fitOper P nt ops o1 s1 && s1.d == some t && s1.g.isNone && o2.guard.isNone && o2.dst.isNone &&
          (match o2.op with | .defer { callee := .value (.tmp t'), args := as, .. } => t' == t && as.isEmpty | _ => false)
      | _, _ => false) && fitCode P nt b rest
  | _, _, _, _ => false

/-- A closure that recovers. -/
def fitR (P : Program) (nt : Nat) : Code → SC → Nat → SC → Bool
  | .seq a b, .seq a' pre, d, rest => fitCode P nt a a' && fitR P nt b pre d rest
  | .seq (.region _ ops false) b, .skip, d, rest =>
    (match ops.toList with
      | [o] => o.dst == some d && d < nt && o.guard.isNone && (match o.op with | .call { callee := .builtin .recover, .. } => true | _ => false)
      | _ => false) && fitCode P nt b rest
  | _, _, _, _ => false

def fitFn (P : Program) (fn : Func) (sf : SF) : Bool :=
  match fn.body with
  | some c => fn.name != "runtime.NumGoroutine" && (match sf.dfr, sf.rcv with
      | none, none => fitCode P fn.ntmps c sf.body
      | some D, none => fitD P fn.ntmps c D.pre D.t D.rest
      | none, some R => fitR P fn.ntmps c R.pre R.d R.rest && fn.results.isEmpty
      | _, _ => false) && fitRes P fn.results.toList sf.res
  | none => false

end Go.Vm
