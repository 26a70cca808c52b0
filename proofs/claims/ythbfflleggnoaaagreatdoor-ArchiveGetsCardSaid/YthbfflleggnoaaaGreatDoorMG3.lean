/- The equations by which simp computes what code answers. Orders that are drawn: a static check by which all of them give one answer. The VM as a program that Lean's kernel can run: what it answers, the VM answers. No claim about the program stands here. Functions without a body, by the model's own entries. What code comes to, as a condition on its end; loops by an invariant. -/
import Derived.Test.YthbfflleggnoaaaGreatDoorMG1
import Derived.Test.YthbfflleggnoaaaGreatDoorMG2
import Derived.Laws.Externs
import Derived.Lib.Bytealg
section
set_option linter.unusedSimpArgs false
set_option linter.unusedVariables false
namespace Go.Vm
open Go

attribute [simp] run_nil run_skip run_seq run_block run_e run_exit run_ret run_ops run_o_nil run_o contK_nil contK_exit_c contK_exit_o contK_exit_e contK_ret contK_pan
attribute [simp] keepE keepM

section
variable {X : Env} {c : Calls1} {e : Nat → T} {m : Nat → Option (Nat × List V)} {g rb : Nat} {h : List HO} {d : Option Nat} {os : List SOper} {k : List It} {σ : St}

@[simp] theorem after_ok (x : T) : after X (some (.ok x σ)) d os k = run X (.o os :: k) (σ.put d x) := rfl
@[simp] theorem after_pan (v : V) : after X (some (.pan v σ)) d os k = some (.pan v, σ) := contK_pan X σ k v
@[simp] theorem after_none : after X none d os k = none := rfl
@[simp] theorem put_some (t : Nat) (x : T) : St.put ⟨e, m, g, rb, h⟩ (some t) x = ⟨upd e t x, m, g, rb, h⟩ := rfl
@[simp] theorem put_none (x : T) : St.put σ none x = σ := rfl
@[simp] theorem upd_app {α : Type} (f : Nat → α) (t : Nat) (x : α) (n : Nat) : upd f t x n = bif n == t then x else f n := rfl
@[simp] theorem ev_t (n : Nat) : St.ev ⟨e, m, g, rb, h⟩ (.t n) = e n := rfl
@[simp] theorem ev_c (v : V) : St.ev σ (.c v) = .v v := rfl
@[simp] theorem T_val (v : V) : T.val (.v v) = some v := rfl
@[simp] theorem T_val_loc (a b c : Nat) : T.val (.loc a b c) = none := rfl
@[simp] theorem val_t (n : Nat) : St.val ⟨e, m, g, rb, h⟩ (.t n) = (e n).val := rfl
@[simp] theorem val_c (v : V) : St.val σ (.c v) = some v := rfl
@[simp] theorem vals_nil : St.vals σ [] = some [] := rfl
@[simp] theorem vals_cons (x : Opd) (xs : List Opd) : St.vals σ (x :: xs) = (σ.val x).bind fun v => (σ.vals xs).bind fun vs => some (v :: vs) := rfl
@[simp] theorem cells_agg (cs : List V) : V.cells (.agg cs) = cs := rfl
@[simp] theorem cells_int (k : IntKind) (n : Int) : V.cells (.int k n) = [.int k n] := rfl
@[simp] theorem cells_bool (b : Bool) : V.cells (.bool b) = [.bool b] := rfl
@[simp] theorem cells_str (b : List UInt8) : V.cells (.str b) = [.str b] := rfl
@[simp] theorem cells_snap (b : List V) : V.cells (.snap b) = [.snap b] := rfl
@[simp] theorem cells_nils : V.cells .nils = [.nils] := rfl
@[simp] theorem cells_ptr (a b : Nat) : V.cells (.ptr a b) = [.ptr a b] := rfl
@[simp] theorem cells_map (a : Nat) : V.cells (.map a) = [.map a] := rfl
@[simp] theorem cells_sl (a b c d f : Nat) : V.cells (.sl a b c d f) = [.sl a b c d f] := rfl
@[simp] theorem mkv_true (cs : List V) : mkv true cs = some (.agg cs) := rfl
@[simp] theorem mkv_false (v : V) : mkv false [v] = some v := rfl
@[simp] theorem cut_def (cs : List V) (off n : Nat) : cut cs off n = if off + n ≤ cs.length then some ((cs.drop off).take n) else none := rfl
@[simp] theorem setRange_def (cs : List V) (off : Nat) (xs : List V) : setRange cs off xs = cs.take off ++ xs ++ cs.drop (off + xs.length) := rfl

attribute [simp] eqK eqKs eqN isKey eqKey V.isK bitsV intV strV floatV shiftV binV unV mm2 mms St.elems bound1 sliceV St.cellsAt T.local findE setE setBorn St.newH St.storeAt

@[simp] theorem stepO_mov (x : Opd) : stepO c σ d (.mov x) = some (.ok (σ.ev x) σ) := rfl

/-- The answer of an operation that looks at temporaries, or reads. -/
def okO (σ : St) (r : Option T) : Option Out := r.map fun x => .ok x σ
@[simp] theorem okO_some (x : T) : okO σ (some x) = some (.ok x σ) := rfl
@[simp] theorem okO_none : okO σ none = none := rfl

def isPureO : SO → Bool
  | .mov .. | .pick .. | .build .. | .bsnap .. | .nilck .. | .bin .. | .cmpB .. | .cmpA .. | .cmpN .. | .un .. | .cvI .. | .cvF .. | .cvFI .. | .cvSS .. | .mkif .. | .mkfn ..
  | .slice .. | .faddr .. | .field .. | .iaddr .. | .index .. | .extract .. | .num .. | .minmax .. | .cap .. | .tassert .. | .ifn .. => true
  | _ => false

theorem stepO_pure {o : SO} (ho : isPureO o = true) : stepO c σ d o = okO σ (pureO σ o) := by
  cases o <;> first | (cases ho; done) | skip
  all_goals
    simp only [stepO, okO]
    split
    · rename_i e; rw [e]; rfl
    · rename_i e; rw [e]; rfl

theorem stepO_read {o : SO} (ho : ∀ σ : St, pureO σ o = none) (he : ∀ (σ : St) d, effO σ d o = none) (hc : ∀ s f a, o ≠ .call s f a) (hp : ∀ f a, o ≠ .pcall f a := by intro _ _ h; cases h) : stepO c σ d o = okO σ (readO σ o) := by
  cases o <;> first | (exact absurd rfl (hc _ _ _)) | (exact absurd rfl (hp _ _)) | skip
  all_goals
    simp only [stepO, okO, ho, he]
    split
    · rename_i e; rw [e]; rfl
    · rename_i e; rw [e]; rfl

theorem stepO_eff {o : SO} (ho : ∀ σ : St, pureO σ o = none) (he : ∀ (σ : St), readO σ o = none) (hc : ∀ s f a, o ≠ .call s f a) (hp : ∀ f a, o ≠ .pcall f a := by intro _ _ h; cases h) : stepO c σ d o = effO σ d o := by
  cases o <;> first | (exact absurd rfl (hc _ _ _)) | (exact absurd rfl (hp _ _)) | skip
  all_goals simp only [stepO, ho, he]

@[simp] theorem stepO_pick (a b c' : Opd) : stepO c σ d (.pick a b c') = okO σ (match σ.ev a, σ.ev b, σ.ev c' with
    | .v (.bool true), a, _ => some a
    | .v (.bool false), _, b => some b
    | _, _, _ => none) := stepO_pure rfl
@[simp] theorem stepO_build (zero : List V) (ps : List (Nat × Nat × Opd)) : stepO c σ d (.build zero ps) = okO σ (pureO σ (.build zero ps)) := stepO_pure rfl
@[simp] theorem pureO_build (zero : List V) (ps : List (Nat × Nat × Opd)) : pureO σ (.build zero ps) =
    (ps.foldl (fun (acc : Option (List V)) p => acc.bind fun cs => (σ.val p.2.2).bind fun x =>
      if x.cells.length = p.2.1 ∧ p.1 + p.2.1 ≤ cs.length then some (setRange cs p.1 x.cells) else none) (some zero)).map fun cs => .v (.agg cs) := rfl
@[simp] theorem stepO_bsnap (n : Nat) (xs : List Opd) : stepO c σ d (.bsnap n xs) = okO σ ((σ.vals xs).bind fun vs => if vs.all (fun v => v.cells.length == n) then some (.v (.snap vs)) else none) := stepO_pure rfl
@[simp] theorem stepO_nilck (x : Opd) : stepO c σ d (.nilck x) = okO σ (match σ.ev x with
    | .v .undef | .v .nilp | .v .nili | .v .nilf => none
    | .v (.ptr a b) => some (.v (.ptr a b))
    | .v (.cref a) => some (.v (.cref a))
    | .v (.eptr a b c d) => some (.v (.eptr a b c d))
    | .loc a b c => some (.loc a b c)
    | _ => none) := stepO_pure rfl
@[simp] theorem stepO_bin (op : BinOp) (x y : Opd) : stepO c σ d (.bin op x y) = okO σ ((σ.val x).bind fun a => (σ.val y).bind fun b => (binV op a b).map .v) := stepO_pure rfl
@[simp] theorem stepO_cmpB (n : Bool) (x y : Opd) : stepO c σ d (.cmpB n x y) = okO σ (match σ.val x, σ.val y with | some (.bool a), some (.bool b) => some (.v (.bool (n ^^ (a == b)))) | _, _ => none) := stepO_pure rfl
@[simp] theorem stepO_cmpA (n : Bool) (ks : List K) (x y : Opd) : stepO c σ d (.cmpA n ks x y) = okO σ (match σ.val x, σ.val y with
    | some (.agg a), some (.agg b) => (eqKs ks a b).map fun t => .v (.bool (n ^^ t))
    | _, _ => none) := stepO_pure rfl
@[simp] theorem stepO_cmpN (n : Bool) (tk : Nat) (x y : Opd) : stepO c σ d (.cmpN n tk x y) = okO σ ((σ.val x).bind fun a => (σ.val y).bind fun b => (eqN tk a b).map fun t => .v (.bool (n ^^ t))) := stepO_pure rfl
@[simp] theorem stepO_un (op : UnOp) (x : Opd) : stepO c σ d (.un op x) = okO σ ((σ.val x).bind fun a => (unV op a).map .v) := stepO_pure rfl
@[simp] theorem stepO_cvI (k : IntKind) (x : Opd) : stepO c σ d (.cvI k x) = okO σ (match σ.val x with | some (.int _ n) => some (.v (.int k (k.wrap n))) | _ => none) := stepO_pure rfl
@[simp] theorem stepO_cvF (k : FloatKind) (x : Opd) : stepO c σ d (.cvF k x) = okO σ (match σ.val x with | some (.int _ n) => some (.v (.float k (k.nearest n))) | _ => none) := stepO_pure rfl
@[simp] theorem stepO_cvSS (x : Opd) : stepO c σ d (.cvSS x) = okO σ (match σ.val x with | some (.str s) => some (.v (.str s)) | _ => none) := stepO_pure rfl
@[simp] theorem stepO_mkif (t : Nat) (x : Opd) : stepO c σ d (.mkif t x) = okO σ ((σ.val x).map fun v => .v (.iface t v)) := stepO_pure rfl
@[simp] theorem stepO_mkfn (f : Nat) (xs : List Opd) : stepO c σ d (.mkfn f xs) = okO σ ((σ.vals xs).map fun vs => .v (.func f vs)) := stepO_pure rfl
@[simp] theorem stepO_slice (str : Bool) (z : Nat) (x : Opd) (lo hi mx : Option Opd) : stepO c σ d (.slice str z x lo hi mx) = okO σ ((σ.val x).bind fun v => (sliceV σ str z v lo hi mx).map .v) := stepO_pure rfl
@[simp] theorem stepO_faddr (n : Nat) (x : Opd) : stepO c σ d (.faddr n x) = okO σ (match σ.ev x with
    | .loc d g o => some (.loc d g (o + n))
    | .v (.ptr id o) => some (.v (.ptr id (o + n)))
    | .v (.cref cs) => some (.v (.cref (cs.drop n)))
    | .v (.eptr id ver i o) => some (.v (.eptr id ver i (o + n)))
    | _ => none) := stepO_pure rfl
@[simp] theorem stepO_field (ag : Bool) (off n : Nat) (x : Opd) : stepO c σ d (.field ag off n x) = okO σ (match σ.val x with
    | some (.agg cs) => (cut cs off n).bind fun c => (mkv ag c).map .v
    | _ => none) := stepO_pure rfl
@[simp] theorem stepO_iaddr (arr : Option Nat) (size : Nat) (x i : Opd) : stepO c σ d (.iaddr arr size x i) = okO σ (pureO σ (.iaddr arr size x i)) := stepO_pure rfl
@[simp] theorem pureO_iaddr_none (size : Nat) (x i : Opd) : pureO σ (.iaddr none size x i) = match σ.val x, σ.val i with
    | some (.snap l), some (.int _ i) => if 0 ≤ i then (l[i.toNat]?).bind fun v => if v.cells.length = size then some (.v (.cref v.cells)) else none else none
    | some (.sl id ver sz off len), some (.int _ i) => if 0 ≤ i ∧ i < len ∧ sz = size then some (.v (.eptr id ver (off + i.toNat) 0)) else none
    | _, _ => none := rfl
@[simp] theorem pureO_iaddr_some (n size : Nat) (x i : Opd) : pureO σ (.iaddr (some n) size x i) = match σ.ev x, σ.val i with
    | .loc d g o, some (.int _ i) => if 0 ≤ i ∧ i < n then some (.loc d g (o + i.toNat * size)) else none
    | .v (.ptr id o), some (.int _ i) => if 0 ≤ i ∧ i < n then some (.v (.ptr id (o + i.toNat * size))) else none
    | .v (.cref cs), some (.int _ i) => if 0 ≤ i ∧ i < n then some (.v (.cref (cs.drop (i.toNat * size)))) else none
    | .v (.eptr id ver j o), some (.int _ i) => if 0 ≤ i ∧ i < n then some (.v (.eptr id ver j (o + i.toNat * size))) else none
    | _, _ => none := rfl
@[simp] theorem stepO_index (arr : Option (Nat × Nat × Bool)) (x i : Opd) : stepO c σ d (.index arr x i) = okO σ (pureO σ (.index arr x i)) := stepO_pure rfl
@[simp] theorem pureO_index_none (x i : Opd) : pureO σ (.index none x i) = match σ.val x, σ.val i with
    | some (.str s), some (.int _ i) => if 0 ≤ i then (s[i.toNat]?).map fun b => .v (.int .u8 (b.toNat : Int)) else none
    | _, _ => none := rfl
@[simp] theorem pureO_index_some (n size : Nat) (ag : Bool) (x i : Opd) : pureO σ (.index (some (n, size, ag)) x i) = match σ.val x, σ.val i with
    | some (.agg cs), some (.int _ i) => if 0 ≤ i ∧ i < n then (cut cs (i.toNat * size) size).bind fun c => (mkv ag c).map .v else none
    | _, _ => none := rfl
theorem cut_one (cs : List V) (k : Nat) : ((cut cs k 1).bind fun c => (mkv false c).map T.v) = (cs[k]?).map T.v := by
  unfold cut
  by_cases h : k + 1 ≤ cs.length
  · rw [if_pos h]
    have hk : k < cs.length := by omega
    rw [List.getElem?_eq_getElem hk, List.drop_eq_getElem_cons hk]
    rfl
  · rw [if_neg h, List.getElem?_eq_none (by omega)]
    rfl

@[simp high] theorem stepO_index1 (n : Nat) (x i : Opd) : stepO c σ d (.index (some (n, 1, false)) x i) = okO σ (match σ.val x, σ.val i with
    | some (.agg cs), some (.int _ i) => if 0 ≤ i ∧ i < n then (cs[i.toNat]?).map .v else none
    | _, _ => none) := by
  rw [stepO_pure rfl]
  congr 1
  simp only [pureO, Nat.mul_one]
  simp only [cut_one]
  rfl

theorem setRange_one (cs : List V) (off : Nat) (x : V) (h : off + 1 ≤ cs.length) : setRange cs off [x] = cs.set off x := by
  simp only [setRange, List.length_singleton]
  rw [List.set_eq_take_append_cons_drop, if_pos (by omega)]
  simp

@[simp high] theorem storeAt_loc1 (e : Nat → T) (m : Nat → Option (Nat × List V)) (g rb : Nat) (h : List HO) (x : V) (d g' off : Nat) : St.storeAt ⟨e, m, g, rb, h⟩ [x] (.loc d g' off) = match m d with
    | some (g1, cs) => if g1 = g' ∧ off + 1 ≤ cs.length then some ⟨e, upd m d (some (g', cs.set off x)), g, rb, h⟩ else none
    | none => none := by
  unfold St.storeAt
  dsimp only
  cases m d with
  | none => rfl
  | some q =>
    obtain ⟨g1, cs⟩ := q
    dsimp only [List.length_singleton]
    split
    · rename_i hc; rw [setRange_one _ _ _ hc.2]
    · rfl

/-- One cell at an address. -/
def St.cellAt (σ : St) : T → Option V
  | .loc d g off =>
    match σ.m d with
    | some (g', cs) => if g' = g then cs[off]? else none
    | none => none
  | .v (.ptr id off) =>
    match σ.h[id]? with
    | some (.cells cs) => cs[off]?
    | _ => none
  | .v (.cref cs) => cs[0]?
  | .v (.eptr id ver i off) =>
    match σ.h[id]? with
    | some (.row ver' l) => if ver' = ver then (l[i]?).bind fun v => v.cells[off]? else none
    | _ => none
  | _ => none
attribute [simp] St.cellAt

theorem cellAt_ok (σ : St) (t : T) : ((σ.cellsAt 1 t).bind fun cs => (mkv false cs).map T.v) = (σ.cellAt t).map T.v := by
  unfold St.cellsAt St.cellAt
  cases t with
  | loc d g off =>
    dsimp only
    cases σ.m d with
    | none => rfl
    | some q =>
      obtain ⟨g', cs⟩ := q
      dsimp only
      split
      · exact cut_one cs off
      · rfl
  | v u =>
    cases u <;> try rfl
    case ptr id off =>
      dsimp only
      cases σ.h[id]? with
      | none => rfl
      | some q => cases q <;> first | rfl | exact cut_one _ _
    case cref cs => exact cut_one cs 0
    case eptr id ver i off =>
      dsimp only
      cases σ.h[id]? with
      | none => rfl
      | some q =>
        cases q <;> try rfl
        rename_i ver' l
        dsimp only
        split
        · cases l[i]? with
          | none => rfl
          | some v => exact cut_one _ _
        · rfl

@[simp high] theorem stepO_load1 (st : Bool) (a : Opd) : stepO c σ d (.load st false 1 a) = okO σ (if st && !(σ.ev a).local then none else (σ.cellAt (σ.ev a)).map .v) := by
  have : stepO c σ d (.load st false 1 a) = okO σ (readO σ (.load st false 1 a)) := stepO_read (fun _ => rfl) (fun _ _ => rfl) (fun _ _ _ h => by cases h)
  rw [this]
  simp only [readO, cellAt_ok]

@[simp] theorem stepO_no : stepO c σ d .no = none := rfl
@[simp] theorem stepO_tassert (t : Nat) (x : Opd) : stepO c σ d (.tassert t x) = okO σ (match σ.val x with | some (.iface t' v) => if t' = t then some (.v (.tuple [v, .bool true])) else none | _ => none) := stepO_pure rfl
@[simp] theorem stepO_ifn (neg : Bool) (x : Opd) : stepO c σ d (.ifn neg x) = okO σ (match σ.val x with | some .nili => some (.v (.bool (neg ^^ true))) | some (.iface _ _) => some (.v (.bool (neg ^^ false))) | _ => none) := stepO_pure rfl
@[simp] theorem stepO_loadA (A : Acc) (ag : Bool) (n : Nat) (a : Opd) : stepO c σ d (.loadA A ag n a) = okO σ (if A.ok (σ.ev a) = true then (σ.cellsAt n (σ.ev a)).bind fun cs => (mkv ag cs).map .v else none) := stepO_read (fun _ => rfl) (fun _ _ => rfl) (fun _ _ _ h => by cases h)
@[simp] theorem stepO_loadN (x : Nat) (ag : Bool) (n : Nat) (a : Opd) : stepO c σ d (.loadN x ag n a) = okO σ (σ.loadN x ag n (σ.ev a)) := stepO_read (fun _ => rfl) (fun _ _ => rfl) (fun _ _ _ h => by cases h)
@[simp] theorem stepO_storeA (A : Acc) (n : Nat) (a x : Opd) : stepO c σ d (.storeA A n a x) = (σ.val x).bind fun v => if v.cells.length = n ∧ A.ok (σ.ev a) = true then (σ.storeAt v.cells (σ.ev a)).map fun σ' => .ok (.v .undef) σ' else none := stepO_eff (fun _ => rfl) (fun _ => rfl) (fun _ _ _ h => by cases h)
@[simp] theorem stepO_frzL (n : Nat) (x : Opd) : stepO c σ d (.frzL n x) = effO σ d (.frzL n x) := stepO_eff (fun _ => rfl) (fun _ => rfl) (fun _ _ _ h => by cases h)
@[simp] theorem stepO_appendz (z b : Nat) (v : V) (x y : Opd) : stepO c σ d (.appendz z b v x y) = effO σ d (.appendz z b v x y) := stepO_eff (fun _ => rfl) (fun _ => rfl) (fun _ _ _ h => by cases h)
@[simp] theorem stepO_pcall (f : Opd) (args : List Opd) : stepO c σ d (.pcall f args) =
    match σ.val f, σ.vals args with
    | some (.func f caps), some vs =>
      if V.pure.pures (vs ++ caps) = true then
        match c f (vs ++ caps) [] with
        | some (.ret v, []) => if v.pure = true then some (.ok (.v v) σ) else none
        | _ => none
      else none
    | _, _ => none := rfl
attribute [simp] Acc.ok St.loadN
@[simp] theorem stepO_extract (x : Opd) (i : Nat) : stepO c σ d (.extract x i) = okO σ (match σ.val x with
    | some (.tuple vs) => (vs[i]?).map .v
    | _ => none) := stepO_pure rfl
@[simp] theorem stepO_num (n : Int) : stepO c σ d (.num n) = some (.ok (.v (.int .i64 n)) σ) := rfl
@[simp] theorem stepO_minmax (b : Bool) (xs : List Opd) : stepO c σ d (.minmax b xs) = okO σ ((σ.vals xs).bind fun vs => match vs with | [] => none | x :: r => (mms b x r).map .v) := stepO_pure rfl
@[simp] theorem stepO_cap (x : Opd) : stepO c σ d (.cap x) = okO σ (match σ.val x with | some .nils => some (.v (.int .i64 0)) | _ => none) := stepO_pure rfl

@[simp] theorem stepO_len0 (x : Opd) : stepO c σ d (.len 0 x) = okO σ (match σ.val x with
    | some (.str s) => some (.v (.int .i64 (s.length : Int)))
    | _ => none) := by
  simp only [stepO, pureO, readO, effO]
  cases σ.val x with
  | none => rfl
  | some v => cases v <;> rfl
@[simp] theorem stepO_len1 (x : Opd) : stepO c σ d (.len 1 x) = okO σ (match σ.val x with
    | some .nils => some (.v (.int .i64 0))
    | some (.snap l) => some (.v (.int .i64 (l.length : Int)))
    | some (.sl _ _ _ _ len) => some (.v (.int .i64 (len : Int)))
    | _ => none) := by
  simp only [stepO, pureO, readO, effO]
  cases σ.val x with
  | none => rfl
  | some v => cases v <;> rfl
@[simp] theorem stepO_len2 (x : Opd) : stepO c σ d (.len 2 x) = okO σ (match σ.val x with
    | some .nilm => some (.v (.int .i64 0))
    | some (.map id) =>
      match σ.h[id]? with
      | some (.map es _) => some (.v (.int .i64 (es.length : Int)))
      | _ => none
    | _ => none) := by
  simp only [stepO, pureO, readO, effO]
  cases σ.val x with
  | none => rfl
  | some v =>
    cases v <;> first | rfl | skip
    case map id =>
      show (match (match σ.h[id]? with
          | some (.map es _) => some (T.v (.int .i64 (es.length : Int)))
          | _ => none) with
        | some x => some (Out.ok x σ)
        | none => none) = okO σ (match σ.h[id]? with
          | some (.map es _) => some (T.v (.int .i64 (es.length : Int)))
          | _ => none)
      generalize σ.h[id]? = q
      cases q with
      | none => rfl
      | some o => cases o <;> rfl

@[simp] theorem stepO_load (s ag : Bool) (n : Nat) (a : Opd) : stepO c σ d (.load s ag n a) = okO σ (if s && !(σ.ev a).local then none else
    (σ.cellsAt n (σ.ev a)).bind fun cs => (mkv ag cs).map .v) := stepO_read (fun _ => rfl) (fun _ _ => rfl) (fun _ _ _ h => by cases h)
@[simp] theorem stepO_lookup (ks : KT) (zero : V) (ok : Bool) (x i : Opd) : stepO c σ d (.lookup ks zero ok x i) = okO σ (readO σ (.lookup ks zero ok x i)) :=
  stepO_read (fun _ => rfl) (fun _ _ => rfl) (fun _ _ _ h => by cases h)
@[simp] theorem readO_lookup (ks : KT) (zero : V) (ok : Bool) (x i : Opd) : readO σ (.lookup ks zero ok x i) =
    match σ.val x, (σ.val i).filter (isKey ks) with
    | some .nilm, some _ => some (.v (bif ok then .tuple [zero, .bool false] else zero))
    | some (.map id), some k =>
      match σ.h[id]? with
      | some (.map es _) =>
        match findE ks k es with
        | some (some (v, _)) => some (.v (bif ok then .tuple [v, .bool true] else v))
        | some none => some (.v (bif ok then .tuple [zero, .bool false] else zero))
        | none => none
      | _ => none
    | _, _ => none := rfl
@[simp] theorem stepO_cvBS (x : Opd) : stepO c σ d (.cvBS x) = okO σ (match σ.val x with
    | some v => (σ.elems v).bind fun l => (unbytes l).map fun s => .v (.str s)
    | _ => none) := stepO_read (fun _ => rfl) (fun _ _ => rfl) (fun _ _ _ h => by cases h)

@[simp] theorem stepO_allocL (z : List V) (t : Nat) : stepO c ⟨e, m, g, rb, h⟩ (some t) (.allocL z) = some (.ok (.loc t g 0) ⟨e, upd m t (some (g, z)), g + 1, rb, h⟩) := rfl
@[simp] theorem stepO_boxL (x : Opd) (t : Nat) : stepO c ⟨e, m, g, rb, h⟩ (some t) (.boxL x) = match St.val ⟨e, m, g, rb, h⟩ x with
    | some v => if v.cells.length = 0 then none else some (.ok (.loc t g 0) ⟨e, upd m t (some (g, v.cells)), g + 1, rb, h⟩)
    | none => none := by
  refine (stepO_eff (fun _ => rfl) (fun _ => rfl) (fun _ _ _ h => by cases h)).trans ?_
  simp only [effO]
  cases St.val ⟨e, m, g, rb, h⟩ x <;> rfl
@[simp] theorem stepO_allocH (s : Option Nat) (z : List V) : stepO c σ d (.allocH s z) = (σ.newH s (.cells z)).map fun p => .ok (.v (.ptr p.1 0)) p.2 := stepO_eff (fun _ => rfl) (fun _ => rfl) (fun _ _ _ h => by cases h)
@[simp] theorem stepO_boxH (s : Option Nat) (x : Opd) : stepO c σ d (.boxH s x) = (σ.val x).bind fun v => if v.cells.length = 0 then none else (σ.newH s (.cells v.cells)).map fun p => .ok (.v (.ptr p.1 0)) p.2 := stepO_eff (fun _ => rfl) (fun _ => rfl) (fun _ _ _ h => by cases h)
@[simp] theorem stepO_mkmap (s : Option Nat) : stepO c σ d (.mkmap s) = (σ.newH s (.map [] 0)).map fun p => .ok (.v (.map p.1)) p.2 := stepO_eff (fun _ => rfl) (fun _ => rfl) (fun _ _ _ h => by cases h)
@[simp] theorem stepO_mkslice (s : Option Nat) (b z : Nat) (zero : V) (x y : Opd) : stepO c σ d (.mkslice s b z zero x y) = effO σ d (.mkslice s b z zero x y) := stepO_eff (fun _ => rfl) (fun _ => rfl) (fun _ _ _ h => by cases h)
@[simp] theorem stepO_brow (n : Nat) (xs : List Opd) : stepO c σ d (.brow n xs) = effO σ d (.brow n xs) := stepO_eff (fun _ => rfl) (fun _ => rfl) (fun _ _ _ h => by cases h)
@[simp] theorem stepO_cvSB (x : Opd) : stepO c σ d (.cvSB x) = effO σ d (.cvSB x) := stepO_eff (fun _ => rfl) (fun _ => rfl) (fun _ _ _ h => by cases h)
@[simp] theorem stepO_store (n : Nat) (a x : Opd) : stepO c σ d (.store n a x) = (σ.val x).bind fun v => if v.cells.length = n then (σ.storeAt v.cells (σ.ev a)).map fun σ' => .ok (.v .undef) σ' else none := stepO_eff (fun _ => rfl) (fun _ => rfl) (fun _ _ _ h => by cases h)
@[simp] theorem stepO_mapup (ks : KT) (x k v : Opd) : stepO c σ d (.mapup ks x k v) = effO σ d (.mapup ks x k v) := stepO_eff (fun _ => rfl) (fun _ => rfl) (fun _ _ _ h => by cases h)
@[simp] theorem stepO_mapent (ks : KT) (z : V) (x k : Opd) : stepO c σ d (.mapent ks z x k) = effO σ d (.mapent ks z x k) := stepO_eff (fun _ => rfl) (fun _ => rfl) (fun _ _ _ h => by cases h)
@[simp] theorem stepO_entst (x k v : Opd) : stepO c σ d (.entst x k v) = effO σ d (.entst x k v) := stepO_eff (fun _ => rfl) (fun _ => rfl) (fun _ _ _ h => by cases h)
@[simp] theorem stepO_append (z b : Nat) (x y : Opd) : stepO c σ d (.append z b x y) = effO σ d (.append z b x y) := stepO_eff (fun _ => rfl) (fun _ => rfl) (fun _ _ _ h => by cases h)
@[simp] theorem stepO_copy (x y : Opd) : stepO c σ d (.copy x y) = effO σ d (.copy x y) := stepO_eff (fun _ => rfl) (fun _ => rfl) (fun _ _ _ h => by cases h)
@[simp] theorem stepO_clear (z : V) (x : Opd) : stepO c σ d (.clear z x) = effO σ d (.clear z x) := stepO_eff (fun _ => rfl) (fun _ => rfl) (fun _ _ _ h => by cases h)
@[simp] theorem stepO_panic (x : Opd) : stepO c σ d (.panic x) = (σ.val x).bind fun v => match v with | .iface t y => some (.pan (.iface t y) σ) | _ => none := stepO_eff (fun _ => rfl) (fun _ => rfl) (fun _ _ _ h => by cases h)

/-- A test, and a guard: taken apart where the bool is known. -/
noncomputable def condK (X : Env) (t : T) (a b : SC) (k : List It) (σ : St) : Option (Ex × St) :=
  match t with
  | .v (.bool t) => bif t then run X (.c a :: k) σ else run X (.c b :: k) σ
  | _ => none
noncomputable def guardK (X : Env) (t : T) (w : Bool) (d : Option Nat) (o : SO) (os : List SOper) (k : List It) (σ : St) : Option (Ex × St) :=
  match t with
  | .v (.bool b) => bif b == w then after X (stepO (VC X) σ d o) d os k else run X (.o os :: k) (σ.put d (.v (.tuple [])))
  | .v (.tuple []) => run X (.o os :: k) (σ.put d (.v (.tuple [])))
  | _ => none
@[simp] theorem run_condK (x : Opd) (a b : SC) : run X (.c (.cond x a b) :: k) σ = condK X (σ.ev x) a b k σ := by
  unfold condK
  split
  · rename_i h; rw [run_cond X σ k x a b h]
  · rename_i h
    simp only [run, contK, codeL_cond]
@[simp] theorem run_guardK (t : Nat) (w : Bool) (o : SO) : run X (.o (⟨d, some (t, w), o⟩ :: os) :: k) σ = guardK X (σ.e t) w d o os k σ := by
  unfold guardK
  split
  · rename_i h; rw [run_g X σ k d t w o os h]
  · rename_i h
    simp only [run, contK, runOps, stepG, h]
  · rename_i h h2
    simp only [run, contK, runOps, stepG]
@[simp] theorem condK_true (a b : SC) : condK X (.v (.bool true)) a b k σ = run X (.c a :: k) σ := rfl
@[simp] theorem condK_false (a b : SC) : condK X (.v (.bool false)) a b k σ = run X (.c b :: k) σ := rfl
@[simp] theorem guardK_tt (o : SO) : guardK X (.v (.bool true)) true d o os k σ = after X (stepO (VC X) σ d o) d os k := rfl
@[simp] theorem guardK_ff (o : SO) : guardK X (.v (.bool false)) false d o os k σ = after X (stepO (VC X) σ d o) d os k := rfl
@[simp] theorem guardK_tf (o : SO) : guardK X (.v (.bool true)) false d o os k σ = run X (.o os :: k) (σ.put d (.v (.tuple []))) := rfl
@[simp] theorem guardK_ft (o : SO) : guardK X (.v (.bool false)) true d o os k σ = run X (.o os :: k) (σ.put d (.v (.tuple []))) := rfl
theorem condK_ite (t : Bool) (a b : SC) : condK X (.v (.bool t)) a b k σ = if t = true then run X (.c a :: k) σ else run X (.c b :: k) σ := by cases t <;> rfl
@[simp] theorem guardK_un (w : Bool) (o : SO) : guardK X (.v (.tuple [])) w d o os k σ = run X (.o os :: k) (σ.put d (.v (.tuple []))) := rfl
theorem guardK_ite (t w : Bool) (o : SO) : guardK X (.v (.bool t)) w d o os k σ = if t = w then after X (stepO (VC X) σ d o) d os k else run X (.o os :: k) (σ.put d (.v (.tuple []))) := by
  cases t <;> cases w <;> rfl

@[simp] theorem run_d_nil' : run X (.d [] :: k) σ = run X k σ := rfl
@[simp] theorem run_d' (o : SO) : run X (.d (⟨d, none, o⟩ :: os) :: k) σ = afterD X (stepO (VC X) σ d o) d os k := run_d X σ k d o os
@[simp] theorem afterD_ok (x : T) : afterD X (some (.ok x σ)) d os k = run X (.d os :: k) (σ.put d x) := rfl
@[simp] theorem afterD_pan (v : V) : afterD X (some (.pan v σ)) d os k = none := rfl
@[simp] theorem afterD_none : afterD X none d os k = none := rfl
noncomputable def guardD (X : Env) (t : T) (w : Bool) (d : Option Nat) (o : SO) (os : List SOper) (k : List It) (σ : St) : Option (Ex × St) :=
  match t with
  | .v (.bool b) => bif b == w then afterD X (stepO (VC X) σ d o) d os k else run X (.d os :: k) (σ.put d (.v (.tuple [])))
  | .v (.tuple []) => run X (.d os :: k) (σ.put d (.v (.tuple [])))
  | _ => none
@[simp] theorem run_guardD (t : Nat) (w : Bool) (o : SO) : run X (.d (⟨d, some (t, w), o⟩ :: os) :: k) σ = guardD X (σ.e t) w d o os k σ := by
  unfold guardD
  split
  · rename_i h; rw [run_dg X σ k d t w o os h]
  · rename_i h
    simp only [run, contK, runOps, stepG, onlyN, h]
  · rename_i h h2
    simp only [run, contK, runOps, stepG, onlyN]
@[simp] theorem guardD_tt (o : SO) : guardD X (.v (.bool true)) true d o os k σ = afterD X (stepO (VC X) σ d o) d os k := rfl
@[simp] theorem guardD_ff (o : SO) : guardD X (.v (.bool false)) false d o os k σ = afterD X (stepO (VC X) σ d o) d os k := rfl
@[simp] theorem guardD_tf (o : SO) : guardD X (.v (.bool true)) false d o os k σ = run X (.d os :: k) (σ.put d (.v (.tuple []))) := rfl
@[simp] theorem guardD_ft (o : SO) : guardD X (.v (.bool false)) true d o os k σ = run X (.d os :: k) (σ.put d (.v (.tuple []))) := rfl
@[simp] theorem guardD_un (w : Bool) (o : SO) : guardD X (.v (.tuple [])) w d o os k σ = run X (.d os :: k) (σ.put d (.v (.tuple []))) := rfl
theorem guardD_ite (t w : Bool) (o : SO) : guardD X (.v (.bool t)) w d o os k σ = if t = w then afterD X (stepO (VC X) σ d o) d os k else run X (.d os :: k) (σ.put d (.v (.tuple []))) := by
  cases t <;> cases w <;> rfl
@[simp] theorem run_p_nil' (all : List SOper) : run X (.p all [] :: k) σ = run X k σ := rfl
@[simp] theorem run_p' (all : List SOper) (o : SO) : run X (.p all (⟨d, none, o⟩ :: os) :: k) σ = afterP X all (stepO (VC X) σ d o) d os k := run_p X σ k all d o os
@[simp] theorem afterP_ok (all : List SOper) (x : T) : afterP X all (some (.ok x σ)) d os k = run X (.p all os :: k) (σ.put d x) := rfl
@[simp] theorem afterP_pan (all : List SOper) (v : V) : afterP X all (some (.pan v σ)) d os k = some (.pan v, forgetE all σ) := rfl
@[simp] theorem afterP_none (all : List SOper) : afterP X all none d os k = none := rfl
@[simp] theorem forgetE_h (all : List SOper) : (forgetE all σ).h = σ.h := rfl
noncomputable def guardP (X : Env) (all : List SOper) (t : T) (w : Bool) (d : Option Nat) (o : SO) (os : List SOper) (k : List It) (σ : St) : Option (Ex × St) :=
  match t with
  | .v (.bool b) => bif b == w then afterP X all (stepO (VC X) σ d o) d os k else run X (.p all os :: k) (σ.put d (.v (.tuple [])))
  | .v (.tuple []) => run X (.p all os :: k) (σ.put d (.v (.tuple [])))
  | _ => none
@[simp] theorem run_guardP (all : List SOper) (t : Nat) (w : Bool) (o : SO) : run X (.p all (⟨d, some (t, w), o⟩ :: os) :: k) σ = guardP X all (σ.e t) w d o os k σ := by
  unfold guardP
  split
  · rename_i h; rw [run_pg X σ k all d t w o os h]
  · rename_i h
    simp only [run, contK, runOps, stepG, h]
  · rename_i h h2
    simp only [run, contK, runOps, stepG, outD]
@[simp] theorem guardP_tt (all : List SOper) (o : SO) : guardP X all (.v (.bool true)) true d o os k σ = afterP X all (stepO (VC X) σ d o) d os k := rfl
@[simp] theorem guardP_ff (all : List SOper) (o : SO) : guardP X all (.v (.bool false)) false d o os k σ = afterP X all (stepO (VC X) σ d o) d os k := rfl
@[simp] theorem guardP_tf (all : List SOper) (o : SO) : guardP X all (.v (.bool true)) false d o os k σ = run X (.p all os :: k) (σ.put d (.v (.tuple []))) := rfl
@[simp] theorem guardP_ft (all : List SOper) (o : SO) : guardP X all (.v (.bool false)) true d o os k σ = run X (.p all os :: k) (σ.put d (.v (.tuple []))) := rfl
@[simp] theorem guardP_un (all : List SOper) (w : Bool) (o : SO) : guardP X all (.v (.tuple [])) w d o os k σ = run X (.p all os :: k) (σ.put d (.v (.tuple []))) := rfl
theorem guardP_ite (all : List SOper) (t w : Bool) (o : SO) : guardP X all (.v (.bool t)) w d o os k σ = if t = w then afterP X all (stepO (VC X) σ d o) d os k else run X (.p all os :: k) (σ.put d (.v (.tuple []))) := by
  cases t <;> cases w <;> rfl
@[simp] theorem drawn_def (n : Nat) : St.drawn ⟨e, m, g, rb, h⟩ n = ⟨e, m, g, h.length, h ++ List.replicate n .hole⟩ := rfl

/-- What follows a call. -/
noncomputable def called (strict : Bool) (r : Option (CR × List HO)) (σ : St) : Option Out :=
  open Classical in
  match r with
  | some (.ret v, h) => if strict = true ∧ h ≠ σ.h then none else some (.ok (.v v) { σ with h := h })
  | some (.pan v, h) => if strict = true then none else some (.pan v { σ with h := h })
  | none => none

@[simp] theorem stepO_call (s : Bool) (f : Opd) (args : List Opd) : stepO c σ d (.call s f args) =
    match σ.val f, σ.vals args with
    | some (.func f caps), some vs => called s (c f (vs ++ caps) σ.h) σ
    | _, _ => none := rfl
@[simp] theorem called_ret (v : V) (h' : List HO) : called false (some (.ret v, h')) ⟨e, m, g, rb, h⟩ = some (.ok (.v v) ⟨e, m, g, rb, h'⟩) := by simp [called]
@[simp] theorem called_strict (v : V) : called true (some (.ret v, h)) ⟨e, m, g, rb, h⟩ = some (.ok (.v v) ⟨e, m, g, rb, h⟩) := by simp [called]
@[simp] theorem called_pan (v : V) (h' : List HO) : called false (some (.pan v, h')) ⟨e, m, g, rb, h⟩ = some (.pan v ⟨e, m, g, rb, h'⟩) := by simp [called]

@[simp] theorem keep_def (ks ls : List Nat) : St.keep ⟨e, m, g, rb, h⟩ ks ls = ⟨keepE e ks, keepM m ls, g, rb, h⟩ := rfl
@[simp] theorem init_def (args : List V) (h : List HO) : St.init args h = ⟨argsE 0 args, fun _ => none, 0, 0, h⟩ := rfl
attribute [simp] argsE

@[simp] theorem endOf_ret (sf : SF) (h' : List HO) : endOf sf h' (some (.ret, σ)) = (results σ sf.res).map fun v => finish sf.keep h' (.ret v) σ.h := rfl
@[simp] theorem endOf_normal (sf : SF) (h' : List HO) : endOf sf h' (some (.normal, σ)) = (results σ sf.res).map fun v => finish sf.keep h' (.ret v) σ.h := rfl
@[simp] theorem endOf_pan (sf : SF) (h' : List HO) (v : V) : endOf sf h' (some (.pan v, σ)) = some (finish sf.keep h' (.pan v) σ.h) := rfl
@[simp] theorem results_one (r : RV) : results σ [r] = resultV σ r := rfl
attribute [simp] resultV resultVs
@[simp] theorem results_two (r s : RV) : results σ [r, s] = (resultVs σ [r, s]).map .tuple := rfl
@[simp] theorem results_no : results σ [] = some (.tuple []) := rfl
end

/-- An answer that names no block, where nothing that was there has turned. -/
theorem finish_same (h : List HO) (v : V) (hv : v.pure = true) : finish false h (.ret v) h = (.ret v, h) := by
  have : frz h.length h v = some v := by
    cases v <;> first | (simp only [frz, frz2, frz1, hv, if_true]; done) | skip
    case agg cs =>
      have key : ∀ l : List V, V.pure.pures l = true → frzs h.length h l = some l := by
        intro l
        induction l with
        | nil => intro _; rfl
        | cons a l ih =>
          intro hl
          simp only [V.pure.pures, Bool.and_eq_true] at hl
          simp only [frzs, frz1, hl.1, if_true, Option.bind_some, ih hl.2]
      simp only [frz, frz2, key cs hv, Option.map_some]
    case tuple vs =>
      have key : ∀ l : List V, V.pure.pures l = true → frzs h.length h l = some l := by
        intro l
        induction l with
        | nil => intro _; rfl
        | cons a l ih =>
          intro hl
          simp only [V.pure.pures, Bool.and_eq_true] at hl
          simp only [frzs, frz1, hl.1, if_true, Option.bind_some, ih hl.2]
      have key2 : ∀ l : List V, V.pure.pures l = true → frz2s h.length h l = some l := by
        intro l
        induction l with
        | nil => intro _; rfl
        | cons a l ih =>
          intro hl
          simp only [V.pure.pures, Bool.and_eq_true] at hl
          have ha : frz2 h.length h a = some a := by
            cases a <;> first | (simp only [frz2, frz1, hl.1, if_true]; done) | skip
            case agg cs => simp only [frz2, key cs hl.1, Option.map_some]
          simp only [frz2s, ha, Option.bind_some, ih hl.2]
      simp only [frz, key2 vs hv, Option.map_some]
  have hF : frzF h.length h v = some v := by unfold frzF; rw [this]
  simp [finish, hF]

/-- The end of a call whose answer may name blocks. -/
noncomputable def finS (h : List HO) (v : V) : CR × List HO := finish false h (.ret v) h
@[simp] theorem finish_cond (h : List HO) (v : V) : finish false h (.ret v) h = bif v.pure then (.ret v, h) else finS h v := by
  cases hp : v.pure with
  | true => exact finish_same h v hp
  | false => rfl

attribute [simp] V.pure V.pure.pures

end Go.Vm
end

section
set_option linter.unusedSimpArgs false
set_option linter.unusedVariables false
namespace Go.Vm
open Go

def Opd.reads : Opd → List Nat
  | .t n => [n]
  | .c _ => []
def readsL (l : List Opd) : List Nat := l.flatMap Opd.reads
def readsO : Option Opd → List Nat
  | some x => x.reads
  | none => []

def SO.reads : SO → List Nat
  | .mov x => x.reads
  | .pick c a b => c.reads ++ (a.reads ++ b.reads)
  | .build _ ps => readsL (ps.map (·.2.2))
  | .bsnap _ xs => readsL xs
  | .brow _ xs => readsL xs
  | .nilck x => x.reads
  | .bin _ x y => x.reads ++ y.reads
  | .cmpB _ x y => x.reads ++ y.reads
  | .cmpA _ _ x y => x.reads ++ y.reads
  | .cmpN _ _ x y => x.reads ++ y.reads
  | .un _ x => x.reads
  | .cvI _ x => x.reads
  | .cvF _ x => x.reads
  | .cvFI _ x => x.reads
  | .cvSB x => x.reads
  | .cvBS x => x.reads
  | .cvSS x => x.reads
  | .mkif _ x => x.reads
  | .mkfn _ caps => readsL caps
  | .slice _ _ x lo hi mx => x.reads ++ (readsO lo ++ (readsO hi ++ readsO mx))
  | .faddr _ x => x.reads
  | .field _ _ _ x => x.reads
  | .iaddr _ _ x i => x.reads ++ i.reads
  | .index _ x i => x.reads ++ i.reads
  | .extract x _ => x.reads
  | .len _ x => x.reads
  | .num _ => []
  | .minmax _ xs => readsL xs
  | .load _ _ _ a => a.reads
  | .lookup _ _ _ m k => m.reads ++ k.reads
  | .allocL _ => []
  | .allocH _ _ => []
  | .boxL x => x.reads
  | .boxH _ x => x.reads
  | .mkmap _ => []
  | .mkslice _ _ _ _ l c => l.reads ++ c.reads
  | .store _ a x => a.reads ++ x.reads
  | .mapup _ m k v => m.reads ++ (k.reads ++ v.reads)
  | .mapent _ _ m k => m.reads ++ k.reads
  | .entst m s v => m.reads ++ (s.reads ++ v.reads)
  | .append _ _ x y => x.reads ++ y.reads
  | .copy x y => x.reads ++ y.reads
  | .clear _ x => x.reads
  | .cap x => x.reads
  | .panic x => x.reads
  | .call _ f args => f.reads ++ readsL args
  | .pcall f args => f.reads ++ readsL args
  | .loadA _ _ _ a => a.reads
  | .loadN x _ _ a => [x] ++ a.reads
  | .storeA _ _ a x => a.reads ++ x.reads
  | .tassert _ x => x.reads
  | .ifn _ x => x.reads
  | .frzL _ x => x.reads
  | .appendz _ _ _ x n => x.reads ++ n.reads
  | .no => []

inductive Cls where
  | p
  | rl
  | r
  | c
  | a (j : Nat)
  | s

def SO.cls : SO → Cls
  | .load true _ _ _ => .rl
  | .load false _ _ _ => .r
  | .loadA A _ _ _ => (match A with | .loc _ => .rl | .cref => .rl | _ => .r)
  | .loadN .. => .r
  | .storeA .. => .s
  | .frzL .. => .s
  | .appendz .. => .s
  | .lookup .. => .r
  | .cvBS _ => .r
  | .len tk _ => if tk = 2 then .r else .p
  | .call true _ _ => .c
  | .allocH (some j) _ => .a j
  | .boxH (some j) _ => .a j
  | .mkmap (some j) => .a j
  | .mkslice (some j) _ _ _ _ _ => .a j
  | .allocL _ => .s
  | .boxL _ => .s
  | .allocH none _ => .s
  | .boxH none _ => .s
  | .mkmap none => .s
  | .mkslice none _ _ _ _ _ => .s
  | .store .. => .s
  | .mapup .. => .s
  | .mapent .. => .s
  | .entst .. => .s
  | .append .. => .s
  | .copy .. => .s
  | .clear .. => .s
  | .cvSB _ => .s
  | .brow .. => .s
  | .panic _ => .s
  | .call false _ _ => .s
  | .no => .s
  | _ => .p

def Agree (r : List Nat) (σ σ' : St) : Prop := ∀ t ∈ r, σ.e t = σ'.e t

section
variable {σ σ' : St}
theorem Agree.left {a b : List Nat} (h : Agree (a ++ b) σ σ') : Agree a σ σ' := fun t ht => h t (List.mem_append.2 (.inl ht))
theorem Agree.right {a b : List Nat} (h : Agree (a ++ b) σ σ') : Agree b σ σ' := fun t ht => h t (List.mem_append.2 (.inr ht))
theorem ev_agree {x : Opd} (h : Agree x.reads σ σ') : σ.ev x = σ'.ev x := by
  cases x with
  | t n => exact h n (by simp [Opd.reads])
  | c v => rfl
theorem val_agree {x : Opd} (h : Agree x.reads σ σ') : σ.val x = σ'.val x := by unfold St.val; rw [ev_agree h]
theorem vals_agree : ∀ {xs : List Opd}, Agree (readsL xs) σ σ' → σ.vals xs = σ'.vals xs
  | [], _ => rfl
  | x :: xs, h => by
    have h' : Agree (x.reads ++ readsL xs) σ σ' := by simpa [readsL] using h
    simp only [St.vals, val_agree h'.left, vals_agree h'.right]
theorem bound_agree {x : Option Opd} (h : Agree (readsO x) σ σ') (d : Nat) : bound1 σ x d = bound1 σ' x d := by
  cases x with
  | none => rfl
  | some x => simp only [bound1, val_agree (x := x) h]
theorem slice_agree {str : Bool} {z : Nat} {v : V} {lo hi mx : Option Opd} (h1 : Agree (readsO lo) σ σ') (h2 : Agree (readsO hi) σ σ') (h3 : Agree (readsO mx) σ σ') : sliceV σ str z v lo hi mx = sliceV σ' str z v lo hi mx := by
  unfold sliceV
  simp only [bound_agree h1, bound_agree h2, bound_agree h3]
theorem fold_agree (zero : Option (List V)) : ∀ {ps : List (Nat × Nat × Opd)}, Agree (readsL (ps.map (·.2.2))) σ σ' → ∀ acc : Option (List V),
    (ps.foldl (fun (acc : Option (List V)) p => acc.bind fun cs => (σ.val p.2.2).bind fun x => if x.cells.length = p.2.1 ∧ p.1 + p.2.1 ≤ cs.length then some (setRange cs p.1 x.cells) else none) acc) =
    (ps.foldl (fun (acc : Option (List V)) p => acc.bind fun cs => (σ'.val p.2.2).bind fun x => if x.cells.length = p.2.1 ∧ p.1 + p.2.1 ≤ cs.length then some (setRange cs p.1 x.cells) else none) acc)
  | [], _, acc => rfl
  | p :: ps, h, acc => by
    have h' : Agree (p.2.2.reads ++ readsL (ps.map (·.2.2))) σ σ' := by simpa [readsL] using h
    simp only [List.foldl_cons, val_agree h'.left]
    exact fold_agree zero h'.right _

theorem pure_agree {o : SO} (h : Agree o.reads σ σ') : pureO σ o = pureO σ' o := by
  cases o <;> try rfl
  case mov x => simp only [pureO, ev_agree (x := x) h]
  case pick c a b => simp only [pureO, ev_agree (x := c) h.left, ev_agree (x := a) h.right.left, ev_agree (x := b) h.right.right]
  case build z ps => simp only [pureO]; rw [fold_agree none (ps := ps) h]
  case bsnap z xs => simp only [pureO, vals_agree (xs := xs) h]
  case nilck x => simp only [pureO, ev_agree (x := x) h]
  case bin o x y => simp only [pureO, val_agree (x := x) h.left, val_agree (x := y) h.right]
  case cmpB n x y => simp only [pureO, val_agree (x := x) h.left, val_agree (x := y) h.right]
  case cmpA n ks x y => simp only [pureO, val_agree (x := x) h.left, val_agree (x := y) h.right]
  case cmpN n tk x y => simp only [pureO, val_agree (x := x) h.left, val_agree (x := y) h.right]
  case un o x => simp only [pureO, val_agree (x := x) h]
  case cvI k x => simp only [pureO, val_agree (x := x) h]
  case cvF k x => simp only [pureO, val_agree (x := x) h]
  case cvFI k x => simp only [pureO, val_agree (x := x) h]
  case cvSS x => simp only [pureO, val_agree (x := x) h]
  case mkif t x => simp only [pureO, val_agree (x := x) h]
  case mkfn f xs => simp only [pureO, vals_agree (xs := xs) h]
  case slice str z x lo hi mx => simp only [pureO, val_agree (x := x) h.left, slice_agree (lo := lo) (hi := hi) (mx := mx) h.right.left h.right.right.left h.right.right.right]
  case faddr off x => simp only [pureO, ev_agree (x := x) h]
  case field ag off n x => simp only [pureO, val_agree (x := x) h]
  case iaddr arr z x i => cases arr <;> simp only [pureO, ev_agree (x := x) h.left, val_agree (x := x) h.left, val_agree (x := i) h.right]
  case index arr x i => cases arr <;> simp only [pureO, val_agree (x := x) h.left, val_agree (x := i) h.right]
  case extract x i => simp only [pureO, val_agree (x := x) h]
  case len tk x => simp only [pureO, val_agree (x := x) h]
  case minmax m xs => simp only [pureO, vals_agree (xs := xs) h]
  case cap x => simp only [pureO, val_agree (x := x) h]
  case tassert t x => simp only [pureO, val_agree (x := x) h]
  case ifn t x => simp only [pureO, val_agree (x := x) h]

theorem elems_agree (h : σ.h = σ'.h) (v : V) : σ.elems v = σ'.elems v := by unfold St.elems; rw [h]

theorem read_agree {o : SO} (h : Agree o.reads σ σ') (hm : σ.m = σ'.m) (hh : σ.h = σ'.h) : readO σ o = readO σ' o := by
  cases o <;> try rfl
  case load st ag n a =>
    have hc : σ.cellsAt n (σ.ev a) = σ'.cellsAt n (σ'.ev a) := by rw [ev_agree (x := a) h]; unfold St.cellsAt; rw [hm, hh]
    simp only [readO]; rw [hc, ev_agree (x := a) h]
  case loadA A ag n a =>
    have hc : σ.cellsAt n (σ.ev a) = σ'.cellsAt n (σ'.ev a) := by rw [ev_agree (x := a) h]; unfold St.cellsAt; rw [hm, hh]
    simp only [readO]; rw [hc, ev_agree (x := a) h]
  case loadN x ag n a =>
    have hx : σ.e x = σ'.e x := h x (by simp [SO.reads])
    have hc : ∀ t, σ.cellsAt n t = σ'.cellsAt n t := fun t => by unfold St.cellsAt; rw [hm, hh]
    simp only [readO, St.loadN, hx, hc, ev_agree (x := a) (Agree.right (a := [x]) h)]
  case lookup ks z ok m k => simp only [readO, val_agree (x := m) h.left, val_agree (x := k) h.right, hh]
  case len tk x => simp only [readO, val_agree (x := x) h, hh]
  case cvBS x => simp only [readO, val_agree (x := x) h, elems_agree hh]

theorem readL_agree {ag : Bool} {n : Nat} {a : Opd} (h : Agree a.reads σ σ') (hm : σ.m = σ'.m) : readO σ (.load true ag n a) = readO σ' (.load true ag n a) := by
  simp only [readO, ev_agree h, Bool.true_and]
  cases he : σ'.ev a with
  | loc d g off => simp only [T.local, St.cellsAt, hm] <;> rfl
  | v x => cases x <;> simp only [T.local, St.cellsAt, hm] <;> rfl

theorem readA_agree {A : Acc} {ag : Bool} {n : Nat} {a : Opd} (h : Agree a.reads σ σ') (hA : (∃ d, A = .loc d ∧ σ.m d = σ'.m d) ∨ A = .cref) : readO σ (.loadA A ag n a) = readO σ' (.loadA A ag n a) := by
  simp only [readO, ev_agree h]
  rcases hA with ⟨d, rfl, hm⟩ | rfl
  · cases he : σ'.ev a with
    | loc d' g off =>
      by_cases hd : d = d'
      · subst hd; simp only [St.cellsAt, hm]
      · simp [hd]
    | v x => cases x <;> simp [Acc.ok]
  · cases he : σ'.ev a with
    | loc d' g off => simp [Acc.ok]
    | v x => cases x <;> simp only [Acc.ok, St.cellsAt] <;> rfl

end

/-- What an operation that is not of class 's' does. -/
noncomputable def deltaO (call : Calls1) (σ : St) (o : SO) : Option (T × Option (Nat × HO)) :=
  match o with
  | .call true f args =>
    match σ.val f, σ.vals args with
    | some (.func f caps), some vs =>
      match call f (vs ++ caps) σ.h with
      | some (.ret v, h) => open Classical in if h ≠ σ.h then none else some (.v v, none)
      | _ => none
    | _, _ => none
  | .pcall f args =>
    match σ.val f, σ.vals args with
    | some (.func f caps), some vs =>
      if V.pure.pures (vs ++ caps) = true then
        match call f (vs ++ caps) [] with
        | some (.ret v, []) => if v.pure = true then some (.v v, none) else none
        | _ => none
      else none
    | _, _ => none
  | .allocH (some j) zero => match σ.h[σ.rb + j]? with | some .hole => some (.v (.ptr (σ.rb + j) 0), some (σ.rb + j, .cells zero)) | _ => none
  | .boxH (some j) x => (σ.val x).bind fun v => if v.cells.length = 0 then none else match σ.h[σ.rb + j]? with | some .hole => some (.v (.ptr (σ.rb + j) 0), some (σ.rb + j, .cells v.cells)) | _ => none
  | .mkmap (some j) => match σ.h[σ.rb + j]? with | some .hole => some (.v (.map (σ.rb + j)), some (σ.rb + j, .map [] 0)) | _ => none
  | .mkslice (some j) bytes size zero l c =>
    match σ.val l, σ.val c with
    | some (.int _ l), some (.int _ c) =>
      if 0 ≤ l ∧ l ≤ c ∧ c * bytes < far ∧ c < far ∧ zero.cells.length = size ∧ 0 < size then
        match σ.h[σ.rb + j]? with | some .hole => some (.v (.sl (σ.rb + j) 0 size 0 l.toNat), some (σ.rb + j, .row 0 (List.replicate l.toNat zero))) | _ => none
      else none
    | _, _ => none
  | o => (match pureO σ o with | some x => some x | none => readO σ o).map fun x => (x, none)

def St.setU (σ : St) : Option (Nat × HO) → St
  | some (i, o) => { σ with h := σ.h.set i o }
  | none => σ

def Cls.notS : Cls → Bool
  | .s => false
  | _ => true

theorem delta_step {call : Calls1} {σ : St} {d : Option Nat} {o : SO} (hc : o.cls.notS = true) : stepO call σ d o = (deltaO call σ o).map fun p => .ok p.1 (σ.setU p.2) := by
  have rd : ∀ {o : SO}, (∀ s f a, o ≠ .call s f a) → (∀ f a, o ≠ .pcall f a) → effO σ d o = none → stepO call σ d o = ((match pureO σ o with | some x => some x | none => readO σ o).map fun x => ((x, none) : T × Option (Nat × HO))).map fun (p : T × Option (Nat × HO)) => Out.ok p.1 (σ.setU p.2) := by
    intro o hne hnp he
    have : stepO call σ d o = (match pureO σ o with | some x => some (.ok x σ) | none => match readO σ o with | some x => some (.ok x σ) | none => effO σ d o) := by
      cases o <;> first | rfl | exact absurd rfl (hne _ _ _) | exact absurd rfl (hnp _ _)
    rw [this, he]
    cases pureO σ o with
    | some x => rfl
    | none => cases readO σ o <;> rfl
  cases o <;> try (exact rd (fun _ _ _ h => by cases h) (fun _ _ h => by cases h) rfl)
  all_goals try (cases hc; done)
  case call s f a =>
    cases s with
    | false => cases hc
    | true =>
      simp only [stepO, deltaO]
      cases e1 : σ.val f with
      | none => rfl
      | some fv =>
        cases e2 : σ.vals a with
        | none => cases fv <;> rfl
        | some vs =>
          cases fv <;> try rfl
          rename_i fid caps
          dsimp only
          cases e3 : call fid (vs ++ caps) σ.h with
          | none => rfl
          | some q =>
            obtain ⟨r, h⟩ := q
            cases r with
            | ret v =>
              by_cases hh : h = σ.h
              · subst hh; simp [St.setU]
              · simp [hh]
            | pan v => simp
  case pcall f a =>
    simp only [stepO, deltaO]
    cases e1 : σ.val f with
    | none => rfl
    | some fv =>
      cases e2 : σ.vals a with
      | none => cases fv <;> rfl
      | some vs =>
        cases fv <;> try rfl
        rename_i fid caps
        dsimp only
        split
        · cases e3 : call fid (vs ++ caps) [] with
          | none => rfl
          | some q =>
            obtain ⟨r, h⟩ := q
            cases r with
            | ret v =>
              cases h with
              | nil =>
                dsimp only
                split <;> rfl
              | cons _ _ => rfl
            | pan v => rfl
        · rfl
  case allocH slot z =>
    cases slot with
    | none => cases hc
    | some j =>
      simp only [stepO, pureO, readO, effO, St.newH, deltaO]
      cases hx : σ.h[σ.rb + j]? with
      | none => rfl
      | some q => cases q <;> rfl
  case boxH slot x =>
    cases slot with
    | none => cases hc
    | some j =>
      simp only [stepO, pureO, readO, effO, St.newH, deltaO]
      cases σ.val x with
      | none => rfl
      | some v =>
        simp only [Option.bind_some]
        split
        · rfl
        · cases hx : σ.h[σ.rb + j]? with
          | none => rfl
          | some q => cases q <;> rfl
  case mkmap slot =>
    cases slot with
    | none => cases hc
    | some j =>
      simp only [stepO, pureO, readO, effO, St.newH, deltaO]
      cases hx : σ.h[σ.rb + j]? with
      | none => rfl
      | some q => cases q <;> rfl
  case mkslice slot b z zero l c =>
    cases slot with
    | none => cases hc
    | some j =>
      simp only [stepO, pureO, readO, effO, St.newH, deltaO]
      cases hl : σ.val l with
      | none => rfl
      | some lv =>
        cases hcv : σ.val c with
        | none => cases lv <;> rfl
        | some cv =>
          cases lv <;> try rfl
          cases cv <;> try rfl
          dsimp only
          split
          · cases hx : σ.h[σ.rb + j]? with
            | none => rfl
            | some q => cases q <;> rfl
          · rfl

/-! ### what an operation's answer hangs on -/

def Cls.heap : Cls → Bool
  | .r => true
  | .c => true
  | .a _ => true
  | _ => false

theorem delta_agree {call : Calls1} {σ σ' : St} {o : SO} (hc : o.cls.notS = true) (h : Agree o.reads σ σ') (hm : σ.m = σ'.m) (hrb : σ.rb = σ'.rb)
    (hh : (match o.cls with | .r => σ.h = σ'.h | .c => σ.h = σ'.h | .a j => σ.h[σ.rb + j]? = σ'.h[σ.rb + j]? | _ => True)) : deltaO call σ o = deltaO call σ' o := by
  have pr : ∀ {o : SO}, Agree o.reads σ σ' → readO σ o = readO σ' o →
      (match pureO σ o with | some x => some x | none => readO σ o).map (fun x => ((x, none) : T × Option (Nat × HO))) = (match pureO σ' o with | some x => some x | none => readO σ' o).map (fun x => ((x, none) : T × Option (Nat × HO))) := by
    intro o h1 h2; rw [pure_agree h1, h2]
  cases o <;> try (exact pr h rfl)
  all_goals try (cases hc; done)
  case lookup => exact pr h (read_agree h hm hh)
  case cvBS => exact pr h (read_agree h hm hh)
  case len tk x =>
    by_cases e : tk = 2
    · subst e; exact pr h (read_agree h hm hh)
    · refine pr h ?_
      simp only [readO]
      split
      · exact absurd rfl e
      · split
        · exact absurd rfl e
        · rfl
  case load st ag n a =>
    cases st with
    | true => exact pr h (readL_agree h hm)
    | false => exact pr h (read_agree h hm hh)
  case loadA A ag n a =>
    cases A with
    | loc d => exact pr h (readA_agree h (.inl ⟨d, rfl, by rw [hm]⟩))
    | cref => exact pr h (readA_agree h (.inr rfl))
    | ptr => exact pr h (read_agree h hm hh)
    | eptr => exact pr h (read_agree h hm hh)
  case loadN x ag n a => exact pr h (read_agree h hm hh)
  case pcall f a => simp only [deltaO, val_agree (x := f) h.left, vals_agree (xs := a) h.right]
  case call s f a =>
    cases s with
    | false => cases hc
    | true =>
      have hh' : σ.h = σ'.h := hh
      have e1 := val_agree (x := f) h.left
      have e2 := vals_agree (xs := a) h.right
      simp only [deltaO, e1, e2]
      clear e1 e2 h hh pr hm hrb
      generalize σ'.val f = fv
      generalize σ'.vals a = av
      obtain ⟨e, m, g, rb, h⟩ := σ
      obtain ⟨e', m', g', rb', h'⟩ := σ'
      dsimp only at hh' ⊢
      subst hh'
      rfl
  case allocH slot z =>
    cases slot with
    | none => cases hc
    | some j =>
      have hh' : σ.h[σ.rb + j]? = σ'.h[σ.rb + j]? := hh
      simp only [deltaO]
      rw [hh', hrb]
  case boxH slot x =>
    cases slot with
    | none => cases hc
    | some j =>
      have hh' : σ.h[σ.rb + j]? = σ'.h[σ.rb + j]? := hh
      simp only [deltaO]
      rw [val_agree (x := x) h, hh', hrb]
  case mkmap slot =>
    cases slot with
    | none => cases hc
    | some j =>
      have hh' : σ.h[σ.rb + j]? = σ'.h[σ.rb + j]? := hh
      simp only [deltaO]
      rw [hh', hrb]
  case mkslice slot b z zero l c =>
    cases slot with
    | none => cases hc
    | some j =>
      have hh' : σ.h[σ.rb + j]? = σ'.h[σ.rb + j]? := hh
      simp only [deltaO]
      rw [val_agree (x := l) h.left, val_agree (x := c) h.right, hh', hrb]

/-! ### two operations that may change places -/

def SOper.rd (s : SOper) : List Nat := (match s.g with | some (t, _) => [t] | none => []) ++ s.o.reads

def indepC : Cls → Cls → Bool
  | .p, _ => true
  | _, .p => true
  | .s, _ => false
  | _, .s => false
  | .a i, .a j => i != j
  | .a _, .rl => true
  | .rl, .a _ => true
  | .a _, _ => false
  | _, .a _ => false
  | _, _ => true

def notIn (d : Option Nat) (l : List Nat) : Bool := match d with | some d => !l.contains d | none => true

/-- What an operation turns: a variable; a block of cells behind a pointer; a row; something of the heap. -/
inductive EK where
  | var (d : Nat)
  | hp (a : Opd)
  | he
  | hh

def SOper.ek (s : SOper) : Option EK :=
  match s.o with
  | .allocL _ => s.d.map .var
  | .boxL _ => s.d.map .var
  | .storeA (.loc d) _ _ _ => some (.var d)
  | .storeA .ptr _ a _ => some (.hp a)
  | .storeA .eptr _ _ _ => some .he
  | .append .. => some .hh
  | .mapup .. => some .hh
  | .mapent .. => some .hh
  | .entst .. => some .hh
  | .copy .. => some .hh
  | .call false _ _ => some .hh
  | _ => none

/-- What an operation reads. -/
inductive RK where
  | loc (d : Nat)
  | no
  | ptr
  | ptrN (x : Nat)
  | eptr
  | h

def SOper.rk (s : SOper) : Option RK :=
  match s.o with
  | .loadA (.loc d) _ _ _ => some (.loc d)
  | .loadA .cref _ _ _ => some .no
  | .loadA .ptr _ _ _ => some .ptr
  | .loadA .eptr _ _ _ => some .eptr
  | .loadN x _ _ _ => some (.ptrN x)
  | .lookup .. => some .h
  | .cvBS _ => some .h
  | .call true _ _ => some .h
  | _ => none

def compat : EK → RK → Bool
  | .var d, .loc d' => d != d'
  | .var _, _ => true
  | _, .loc _ => true
  | _, .no => true
  | .hp _, .eptr => true
  | .he, .ptr => true
  | .he, .ptrN _ => true
  | .hp (.t y), .ptrN x => y == x
  | _, _ => false

def effRead (a b : SOper) : Bool :=
  match a.ek, b.rk with
  | some e, some r => compat e r
  | _, _ => false

/-- A look-up, and the entry of that key made: the look-up answers alike behind it. -/
def lkme (l m : SOper) : Bool :=
  match l.o, l.g, m.o, m.g with
  | .lookup ks (.int q n) false (.t x) (.t k), none, .mapent ks' (.int q' n') (.t x') (.t k'), none => decide (ks = ks') && decide (q = q') && decide (n = n') && x == x' && k == k'
  | _, _, _, _ => false

def indepT (a b : SOper) : Bool := notIn a.d b.rd && notIn b.d a.rd && notIn a.d b.d.toList

def indep1 (a b : SOper) : Bool := notIn a.d b.rd && notIn b.d a.rd && notIn a.d b.d.toList && indepC a.o.cls b.o.cls

/-- May they change places? Operations of class 'p' may with any, if no temporary is in the way. -/
def indep (a b : SOper) : Bool :=
  indep1 a b || (indepT a b && (effRead a b || effRead b a || lkme a b || lkme b a))

/-- What an operation does, its guard asked. -/
noncomputable def deltaG (call : Calls1) (σ : St) (s : SOper) : Option (T × Option (Nat × HO)) :=
  match s.g with
  | none => deltaO call σ s.o
  | some (t, want) =>
    match σ.e t with
    | .v (.bool b) => bif b == want then deltaO call σ s.o else some (.v (.tuple []), none)
    | .v (.tuple []) => some (.v (.tuple []), none)
    | _ => none

theorem deltaG_step {call : Calls1} {σ : St} {s : SOper} (hc : s.o.cls.notS = true) : stepG call s σ = (deltaG call σ s).map fun p => (.normal, (σ.setU p.2).put s.d p.1) := by
  obtain ⟨d, g, o⟩ := s
  dsimp only at hc
  have key : (match stepO call σ d o with | some (.ok x σ) => some (Ex.normal, σ.put d x) | some (.pan v σ) => some (.pan v, σ) | none => none) = (deltaO call σ o).map fun p => (Ex.normal, (σ.setU p.2).put d p.1) := by
    rw [delta_step hc]
    cases deltaO call σ o <;> rfl
  unfold stepG deltaG
  cases g with
  | none => exact key
  | some q =>
    obtain ⟨t, want⟩ := q
    dsimp only
    cases σ.e t with
    | loc a b c => rfl
    | v x =>
      cases x <;> try rfl
      case tuple l => cases l <;> rfl
      rename_i b
      dsimp only
      cases (b == want) with
      | true => exact key
      | false => rfl

theorem deltaG_agree {call : Calls1} {σ σ' : St} {s : SOper} (hc : s.o.cls.notS = true) (h : Agree s.rd σ σ') (hm : σ.m = σ'.m) (hrb : σ.rb = σ'.rb)
    (hh : (match s.o.cls with | .r => σ.h = σ'.h | .c => σ.h = σ'.h | .a j => σ.h[σ.rb + j]? = σ'.h[σ.rb + j]? | _ => True)) : deltaG call σ s = deltaG call σ' s := by
  obtain ⟨d, g, o⟩ := s
  have hd := delta_agree (call := call) (o := o) hc (Agree.right h) hm hrb hh
  unfold deltaG
  cases g with
  | none => exact hd
  | some q =>
    obtain ⟨t, want⟩ := q
    have ht : σ.e t = σ'.e t := h t (by simp [SOper.rd])
    dsimp only
    rw [ht, hd]

/-- The place that an operation fills is its own. -/
theorem deltaO_slot {call : Calls1} {σ : St} {o : SO} {x : T} {u : Option (Nat × HO)} (h : deltaO call σ o = some (x, u)) : u = none ∨ ∃ j, o.cls = .a j ∧ ∃ q, u = some (σ.rb + j, q) := by
  have pr : ∀ (o : SO), deltaO call σ o = (match pureO σ o with | some x => some x | none => readO σ o).map (fun x => ((x, none) : T × Option (Nat × HO))) → deltaO call σ o = some (x, u) → u = none := by
    intro o hd h
    rw [hd] at h
    obtain ⟨y, _, e⟩ := Option.map_eq_some_iff.1 h
    cases e; rfl
  cases o <;> try (exact .inl (pr _ rfl h))
  case call s f a =>
    cases s with
    | false => exact .inl (pr _ rfl h)
    | true =>
      left
      simp only [deltaO] at h
      split at h
      · split at h
        · split at h
          · cases h
          · cases h; rfl
        · cases h
      · cases h
  case pcall f a =>
    left
    simp only [deltaO] at h
    split at h
    · split at h
      · split at h
        · split at h
          · cases h; rfl
          · cases h
        · cases h
      · cases h
    · cases h
  case allocH slot z =>
    cases slot with
    | none => exact .inl (pr _ rfl h)
    | some j =>
      right
      simp only [deltaO] at h
      split at h
      · cases h; exact ⟨j, rfl, _, rfl⟩
      · cases h
  case boxH slot z =>
    cases slot with
    | none => exact .inl (pr _ rfl h)
    | some j =>
      right
      simp only [deltaO, Option.bind_eq_some_iff] at h
      obtain ⟨v, _, h⟩ := h
      split at h
      · cases h
      · split at h
        · cases h; exact ⟨j, rfl, _, rfl⟩
        · cases h
  case mkmap slot =>
    cases slot with
    | none => exact .inl (pr _ rfl h)
    | some j =>
      right
      simp only [deltaO] at h
      split at h
      · cases h; exact ⟨j, rfl, _, rfl⟩
      · cases h
  case mkslice slot b z zero l c =>
    cases slot with
    | none => exact .inl (pr _ rfl h)
    | some j =>
      right
      simp only [deltaO] at h
      split at h
      · split at h
        · split at h
          · cases h; exact ⟨j, rfl, _, rfl⟩
          · cases h
        · cases h
      · cases h

theorem deltaG_slot {call : Calls1} {σ : St} {s : SOper} {x : T} {u : Option (Nat × HO)} (h : deltaG call σ s = some (x, u)) : u = none ∨ ∃ j, s.o.cls = .a j ∧ ∃ q, u = some (σ.rb + j, q) := by
  unfold deltaG at h
  split at h
  · exact deltaO_slot h
  · split at h
    · rename_i b _
      cases hb : (b == _) with
      | true => rw [hb] at h; exact deltaO_slot h
      | false => rw [hb] at h; cases h; exact .inl rfl
    · cases h; exact .inl rfl
    · cases h

theorem put_e {σ : St} {d : Option Nat} {x : T} {t : Nat} (h : d ≠ some t) : (σ.put d x).e t = σ.e t := by
  cases d with
  | none => rfl
  | some d =>
    show (bif t == d then x else σ.e t) = σ.e t
    have : (t == d) = false := by simpa using fun e => h (by rw [e])
    rw [this]; rfl

theorem put_m (σ : St) (d : Option Nat) (x : T) : (σ.put d x).m = σ.m := by cases d <;> rfl
theorem put_rb (σ : St) (d : Option Nat) (x : T) : (σ.put d x).rb = σ.rb := by cases d <;> rfl
theorem put_h (σ : St) (d : Option Nat) (x : T) : (σ.put d x).h = σ.h := by cases d <;> rfl
theorem setU_e (σ : St) (u : Option (Nat × HO)) : (σ.setU u).e = σ.e := by cases u <;> rfl
theorem setU_m (σ : St) (u : Option (Nat × HO)) : (σ.setU u).m = σ.m := by cases u <;> rfl
theorem setU_rb (σ : St) (u : Option (Nat × HO)) : (σ.setU u).rb = σ.rb := by cases u <;> rfl

theorem notIn_ne {d : Option Nat} {l : List Nat} (h : notIn d l = true) {t : Nat} (ht : t ∈ l) : d ≠ some t := by
  intro e; subst e
  have : l.contains t = false := by simpa [notIn] using h
  simp [ht] at this

/-! ### an operation of class 'p' and any other -/

def Out.put (d : Option Nat) (x : T) : Out → Out
  | .ok y σ => .ok y (σ.put d x)
  | .pan v σ => .pan v (σ.put d x)

theorem put_agree {σ : St} {d : Option Nat} {x : T} {r : List Nat} (h : notIn d r = true) : Agree r (σ.put d x) σ := fun t ht => put_e (notIn_ne h ht)

theorem notIn_append {d : Option Nat} {a b : List Nat} (h : notIn d (a ++ b) = true) : notIn d a = true ∧ notIn d b = true := by
  cases d with
  | none => exact ⟨rfl, rfl⟩
  | some d => simpa [notIn] using h

theorem put_eff {σ : St} {d : Option Nat} {x : T} {dd : Option Nat} {o : SO} (h : notIn d o.reads = true) : effO (σ.put d x) dd o = (effO σ dd o).map (Out.put d x) := by
  cases d with
  | none =>
    have : ∀ q : Option Out, q.map (Out.put none x) = q := by
      intro q; cases q with
      | none => rfl
      | some q => cases q <;> rfl
    rw [this]; rfl
  | some d =>
    have hv : ∀ {y : Opd}, notIn (some d) y.reads = true → (σ.put (some d) x).val y = σ.val y := fun hy => val_agree (put_agree hy)
    have he : ∀ {y : Opd}, notIn (some d) y.reads = true → (σ.put (some d) x).ev y = σ.ev y := fun hy => ev_agree (put_agree hy)
    have hnew : ∀ (slot : Option Nat) (o : HO), (σ.put (some d) x).newH slot o = (σ.newH slot o).map fun p => (p.1, p.2.put (some d) x) := by
      intro slot o
      cases slot with
      | none => rfl
      | some j =>
        show (match σ.h[σ.rb + j]? with | some .hole => _ | _ => _) = _
        simp only [St.newH]
        cases σ.h[σ.rb + j]? with
        | none => rfl
        | some q => cases q <;> rfl
    have hh : (σ.put (some d) x).h = σ.h := rfl
    have hel : ∀ v : V, (σ.put (some d) x).elems v = σ.elems v := fun v => rfl
    have hsrc : ∀ v : V, (σ.put (some d) x).srcV v = σ.srcV v := fun v => rfl
    have mm : ∀ {α : Type} (q : Option α) (f : α → Out) (g : α → Out), (∀ a, g a = Out.put (some d) x (f a)) → q.map g = (q.map f).map (Out.put (some d) x) := by
      intro α q f g hfg; cases q with
      | none => rfl
      | some a => simp [hfg]
    cases o <;> try rfl
    case allocL z => cases dd <;> rfl
    case boxL y =>
      simp only [effO, hv (y := y) h]
      cases dd with
      | none => rfl
      | some dd =>
        cases σ.val y with
        | none => rfl
        | some v => dsimp only; split <;> rfl
    case allocH slot z => simp only [effO, hnew, Option.map_map]; rfl
    case boxH slot y =>
      simp only [effO, hv (y := y) h, hnew]
      cases σ.val y with
      | none => rfl
      | some v => simp only [Option.bind_some]; split
                  · rfl
                  · simp only [Option.map_map]; rfl
    case mkmap slot => simp only [effO, hnew, Option.map_map]; rfl
    case mkslice slot b z zero l c =>
      obtain ⟨h1, h2⟩ := notIn_append h
      simp only [effO, hv h1, hv h2, hnew]
      cases σ.val l with
      | none => rfl
      | some lv =>
        cases σ.val c with
        | none => cases lv <;> rfl
        | some cv =>
          cases lv <;> try rfl
          cases cv <;> try rfl
          dsimp only
          split
          · simp only [Option.map_map]; rfl
          · rfl
    case brow z xs =>
      have : (σ.put (some d) x).vals xs = σ.vals xs := vals_agree (put_agree h)
      simp only [effO, this, hnew]
      cases σ.vals xs with
      | none => rfl
      | some vs =>
        simp only [Option.bind_some]
        split
        · simp only [Option.map_map]; rfl
        · rfl
    case cvSB y =>
      simp only [effO, hv (y := y) h, hnew]
      cases σ.val y with
      | none => rfl
      | some v => cases v <;> rfl
    case store n a y =>
      obtain ⟨h1, h2⟩ := notIn_append h
      simp only [effO, he h1, hv h2]
      cases σ.val y with
      | none => rfl
      | some v =>
        simp only [Option.bind_some]
        split
        · have hst : ∀ (t : T) (cs : List V), (σ.put (some d) x).storeAt cs t = (σ.storeAt cs t).map fun τ => τ.put (some d) x := by
            intro t cs
            cases t with
            | loc d' g off =>
              show (match σ.m d' with | some (g', cs') => _ | none => _) = _
              simp only [St.storeAt]
              cases σ.m d' with
              | none => rfl
              | some q => obtain ⟨g', cs'⟩ := q; dsimp only; split <;> rfl
            | v u =>
              cases u <;> try rfl
              case ptr id off =>
                show (match σ.h[id]? with | some (.cells cs') => _ | _ => _) = _
                simp only [St.storeAt]
                cases σ.h[id]? with
                | none => rfl
                | some q => cases q <;> try rfl
                            dsimp only; split <;> rfl
              case eptr id ver i off =>
                show (match σ.h[id]? with | some (.row ver' l) => _ | _ => _) = _
                simp only [St.storeAt]
                cases σ.h[id]? with
                | none => rfl
                | some q =>
                  cases q <;> try rfl
                  rename_i ver' l
                  dsimp only
                  cases l[i]? with
                  | none => rfl
                  | some e =>
                    cases e <;> first
                      | (dsimp only; split <;> rfl; done)
                      | (cases cs with
                         | nil => rfl
                         | cons c cs => cases cs with
                           | nil => dsimp only; split <;> rfl
                           | cons _ _ => rfl)
          rw [hst]
          simp only [Option.map_map]; rfl
        · rfl
    case storeA A n a y =>
      obtain ⟨h1, h2⟩ := notIn_append h
      simp only [effO, he h1, hv h2]
      cases σ.val y with
      | none => rfl
      | some v =>
        simp only [Option.bind_some, he h1]
        split
        · have hst : ∀ (t : T) (cs : List V), (σ.put (some d) x).storeAt cs t = (σ.storeAt cs t).map fun τ => τ.put (some d) x := by
            intro t cs
            cases t with
            | loc d' g off =>
              show (match σ.m d' with | some (g', cs') => _ | none => _) = _
              simp only [St.storeAt]
              cases σ.m d' with
              | none => rfl
              | some q => obtain ⟨g', cs'⟩ := q; dsimp only; split <;> rfl
            | v u =>
              cases u <;> try rfl
              case ptr id off =>
                show (match σ.h[id]? with | some (.cells cs') => _ | _ => _) = _
                simp only [St.storeAt]
                cases σ.h[id]? with
                | none => rfl
                | some q => cases q <;> try rfl
                            dsimp only; split <;> rfl
              case eptr id ver i off =>
                show (match σ.h[id]? with | some (.row ver' l) => _ | _ => _) = _
                simp only [St.storeAt]
                cases σ.h[id]? with
                | none => rfl
                | some q =>
                  cases q <;> try rfl
                  rename_i ver' l
                  dsimp only
                  cases l[i]? with
                  | none => rfl
                  | some e =>
                    cases e <;> first
                      | (dsimp only; split <;> rfl; done)
                      | (cases cs with
                         | nil => rfl
                         | cons c cs => cases cs with
                           | nil => dsimp only; split <;> rfl
                           | cons _ _ => rfl)
          rw [hst]
          simp only [Option.map_map]; rfl
        · rfl
    case frzL n y =>
      simp only [effO, he (y := y) h]
      cases σ.ev y with
      | v u => rfl
      | loc d' g off =>
        show (match σ.m d' with | some (g', cs') => _ | none => _) = _
        dsimp only
        cases σ.m d' with
        | none => rfl
        | some q => obtain ⟨g', cs'⟩ := q; dsimp only; split <;> rfl
    case appendz z b zz y1 y2 =>
      obtain ⟨h1, h2⟩ := notIn_append h
      simp only [effO, hv h1, hv h2, hh]
      cases σ.val y1 with
      | none => rfl
      | some v1 =>
        cases σ.val y2 with
        | none => cases v1 <;> rfl
        | some v2 =>
          cases v1 <;> try rfl
          cases v2 <;> try rfl
          dsimp only
          split <;> rfl
    case mapup ks m k v =>
      obtain ⟨h1, h2⟩ := notIn_append h
      obtain ⟨h2, h3⟩ := notIn_append h2
      simp only [effO, hv h1, hv h2, hv h3, hh]
      cases σ.val m with
      | none => rfl
      | some mv =>
        cases (σ.val k).filter (isKey ks) with
        | none => cases mv <;> rfl
        | some kv =>
          cases σ.val v with
          | none => cases mv <;> rfl
          | some vv =>
            cases mv <;> try rfl
            rename_i id
            dsimp only
            cases σ.h[id]? with
            | none => rfl
            | some q =>
              cases q <;> try rfl
              dsimp only
              split
              · simp only [Option.map_map]; rfl
              · rfl
              · rfl
    case mapent ks zero m k =>
      obtain ⟨h1, h2⟩ := notIn_append h
      simp only [effO, hv h1, hv h2, hh]
      cases σ.val m with
      | none => rfl
      | some mv =>
        cases (σ.val k).filter (isKey ks) with
        | none => cases mv <;> rfl
        | some kv =>
          cases mv <;> try rfl
          rename_i id
          dsimp only
          cases σ.h[id]? with
          | none => rfl
          | some q =>
            cases q <;> try rfl
            dsimp only
            split
            · simp only [Option.map_map]; rfl
            · rfl
            · rfl
    case entst m s v =>
      obtain ⟨h1, h2⟩ := notIn_append h
      obtain ⟨h2, h3⟩ := notIn_append h2
      simp only [effO, hv h1, hv h2, hv h3, hh]
      cases σ.val m with
      | none => rfl
      | some mv =>
        cases σ.val s with
        | none => cases mv <;> rfl
        | some sv =>
          cases σ.val v with
          | none => cases mv <;> cases sv <;> rfl
          | some vv =>
            cases mv <;> try rfl
            cases sv <;> try rfl
            rename_i id _ _
            dsimp only
            cases σ.h[id]? with
            | none => rfl
            | some q =>
              cases q <;> try rfl
              dsimp only
              split
              · simp only [Option.map_map]; rfl
              · rfl
    case append z b y1 y2 =>
      obtain ⟨h1, h2⟩ := notIn_append h
      simp only [effO, hv h1, hv h2, hsrc, hh]
      cases σ.val y1 with
      | none => rfl
      | some v1 =>
        cases σ.val y2 with
        | none => rfl
        | some v2 =>
          dsimp only
          cases σ.srcV v2 with
          | none => rfl
          | some add =>
            simp only [Option.bind_some]
            split
            · cases v1 <;> try rfl
              · dsimp only
                cases add.isEmpty with
                | true => rfl
                | false => simp only [cond_false]; split <;> rfl
              · rename_i id ver sz off len
                dsimp only
                cases σ.h[id]? with
                | none => rfl
                | some q =>
                  cases q <;> try rfl
                  dsimp only
                  split <;> rfl
            · rfl
    case copy y1 y2 =>
      obtain ⟨h1, h2⟩ := notIn_append h
      simp only [effO, hv h1, hv h2, hsrc, hh]
      cases σ.val y1 with
      | none => rfl
      | some v1 =>
        cases σ.val y2 with
        | none => rfl
        | some v2 =>
          dsimp only
          cases σ.srcV v2 with
          | none => rfl
          | some add =>
            simp only [Option.bind_some]
            split
            · cases v1 <;> try rfl
              rename_i id ver sz off len
              dsimp only
              cases σ.h[id]? with
              | none => rfl
              | some q =>
                cases q <;> try rfl
                dsimp only
                split <;> rfl
            · rfl
    case panic y =>
      simp only [effO, hv (y := y) h]
      cases σ.val y with
      | none => rfl
      | some v => cases v <;> rfl

theorem put_step {call : Calls1} {σ : St} {d : Option Nat} {x : T} {dd : Option Nat} {o : SO} (h : notIn d o.reads = true) : stepO call (σ.put d x) dd o = (stepO call σ dd o).map (Out.put d x) := by
  by_cases hpc : ∃ f a, o = .pcall f a
  · obtain ⟨f, a, rfl⟩ := hpc
    obtain ⟨h1, h2⟩ := notIn_append h
    have e1 := val_agree (put_agree (x := x) (σ := σ) h1)
    have e2 := vals_agree (put_agree (x := x) (σ := σ) (r := readsL a) h2)
    simp only [stepO, e1, e2]
    cases σ.val f with
    | none => rfl
    | some fv =>
      cases σ.vals a with
      | none => cases fv <;> rfl
      | some vs =>
        cases fv <;> try rfl
        rename_i fid caps
        dsimp only
        split
        · cases e3 : call fid (vs ++ caps) [] with
          | none => rfl
          | some q =>
            obtain ⟨r, h⟩ := q
            cases r with
            | ret v =>
              cases h with
              | nil =>
                dsimp only
                split <;> rfl
              | cons _ _ => rfl
            | pan v => rfl
        · rfl
  by_cases hc : ∃ s f a, o = .call s f a
  · obtain ⟨s, f, a, rfl⟩ := hc
    obtain ⟨h1, h2⟩ := notIn_append h
    have e1 := val_agree (put_agree (x := x) (σ := σ) h1)
    have e2 := vals_agree (put_agree (x := x) (σ := σ) (r := readsL a) h2)
    simp only [stepO, e1, e2]
    have e3 : (σ.put d x).h = σ.h := put_h σ d x
    cases σ.val f with
    | none => rfl
    | some fv =>
      cases σ.vals a with
      | none => cases fv <;> rfl
      | some vs =>
        cases fv <;> try rfl
        rename_i fid caps
        dsimp only
        rw [e3]
        cases call fid (vs ++ caps) σ.h with
        | none => rfl
        | some q =>
          obtain ⟨r, h'⟩ := q
          cases r with
          | ret v =>
            dsimp only
            by_cases hh : s = true ∧ h' ≠ σ.h
            · rw [if_pos hh, if_pos hh]; rfl
            · rw [if_neg hh, if_neg hh]; cases d <;> rfl
          | pan v =>
            dsimp only
            by_cases hh : s = true
            · rw [if_pos hh, if_pos hh]; rfl
            · rw [if_neg hh, if_neg hh]; cases d <;> rfl
  · have hs : ∀ σ : St, stepO call σ dd o = (match pureO σ o with | some x => some (.ok x σ) | none => match readO σ o with | some x => some (.ok x σ) | none => effO σ dd o) := by
      intro σ; cases o <;> first | rfl | exact absurd ⟨_, _, _, rfl⟩ hc | exact absurd ⟨_, _, rfl⟩ hpc
    rw [hs, hs, pure_agree (put_agree h), read_agree (put_agree h) (put_m _ _ _) (put_h _ _ _), put_eff h]
    cases pureO σ o with
    | some y => rfl
    | none => cases readO σ o <;> rfl

theorem eff_e {σ : St} {dd : Option Nat} {o : SO} {y : T} {σ' : St} (h : effO σ dd o = some (.ok y σ')) : σ'.e = σ.e := by
  have hnew : ∀ {slot : Option Nat} {o : HO} {q : Nat × St}, σ.newH slot o = some q → q.2.e = σ.e := by
    intro slot o q h
    cases slot with
    | none => cases h; rfl
    | some j => simp only [St.newH] at h; split at h
                · cases h; rfl
                · cases h
  have hst : ∀ {t : T} {cs : List V} {τ : St}, σ.storeAt cs t = some τ → τ.e = σ.e := by
    intro t cs τ h
    unfold St.storeAt at h
    repeat' split at h
    all_goals first | (cases h; rfl) | (cases h; done)
  cases o <;> try (cases h; done)
  all_goals simp only [effO, Option.bind_eq_some_iff, Option.map_eq_some_iff] at h
  case allocL => split at h <;> cases h; rfl
  case boxL => (repeat' split at h) <;> first | (cases h; rfl) | (cases h; done)
  case allocH => obtain ⟨q, hq, e⟩ := h; cases e; exact hnew hq
  case boxH =>
    obtain ⟨v, _, h⟩ := h
    split at h
    · cases h
    · obtain ⟨q, hq, e⟩ := Option.map_eq_some_iff.1 h; cases e; exact hnew hq
  case mkmap => obtain ⟨q, hq, e⟩ := h; cases e; exact hnew hq
  case mkslice =>
    split at h
    · split at h
      · obtain ⟨q, hq, e⟩ := Option.map_eq_some_iff.1 h; cases e; exact hnew hq
      · cases h
    · cases h
  case brow =>
    obtain ⟨v, _, h⟩ := h
    split at h
    · obtain ⟨q, hq, e⟩ := Option.map_eq_some_iff.1 h; cases e; exact hnew hq
    · cases h
  case cvSB =>
    split at h
    · obtain ⟨q, hq, e⟩ := Option.map_eq_some_iff.1 h; cases e; exact hnew hq
    · cases h
  case store =>
    obtain ⟨v, _, h⟩ := h
    split at h
    · obtain ⟨q, hq, e⟩ := Option.map_eq_some_iff.1 h; cases e; exact hst hq
    · cases h
  case storeA =>
    obtain ⟨v, _, h⟩ := h
    split at h
    · obtain ⟨q, hq, e⟩ := Option.map_eq_some_iff.1 h; cases e; exact hst hq
    · cases h
  case frzL => (repeat' split at h) <;> first | (cases h; rfl) | (cases h; done)
  case appendz => (repeat' split at h) <;> first | (cases h; rfl) | (cases h; done)
  case mapup =>
    (repeat' split at h) <;> first | (cases h; rfl) | (cases h; done) | (obtain ⟨q, hq, e⟩ := Option.map_eq_some_iff.1 h; cases e; rfl)
  case mapent =>
    (repeat' split at h) <;> first | (cases h; rfl) | (cases h; done) | (obtain ⟨q, hq, e⟩ := Option.map_eq_some_iff.1 h; cases e; rfl)
  case entst =>
    (repeat' split at h) <;> first | (cases h; rfl) | (cases h; done) | (obtain ⟨q, hq, e⟩ := Option.map_eq_some_iff.1 h; cases e; rfl)
  case append =>
    split at h
    · obtain ⟨add, _, h⟩ := Option.bind_eq_some_iff.1 h
      split at h
      · split at h
        · cases hemp : add.isEmpty with
          | true => rw [hemp] at h; cases h; rfl
          | false => rw [hemp] at h; simp only [cond_false] at h; split at h <;> cases h; rfl
        · (repeat' split at h) <;> first | (cases h; rfl) | (cases h; done)
        · cases h
      · cases h
    · cases h
  case copy =>
    split at h
    · obtain ⟨add, _, h⟩ := Option.bind_eq_some_iff.1 h
      (repeat' split at h) <;> first | (cases h; rfl) | (cases h; done)
    · cases h
  case panic =>
    obtain ⟨v, _, h⟩ := h
    split at h <;> cases h

theorem step_e {call : Calls1} {σ : St} {dd : Option Nat} {o : SO} {y : T} {σ' : St} (h : stepO call σ dd o = some (.ok y σ')) : σ'.e = σ.e := by
  by_cases hc : ∃ s f a, o = .call s f a
  · obtain ⟨s, f, a, rfl⟩ := hc
    simp only [stepO] at h
    (repeat' split at h) <;> first | (cases h; rfl) | (cases h; done)
  by_cases hpc : ∃ f a, o = .pcall f a
  · obtain ⟨f, a, rfl⟩ := hpc
    simp only [stepO] at h
    (repeat' split at h) <;> first | (cases h; rfl) | (cases h; done)
  · have hs : stepO call σ dd o = (match pureO σ o with | some x => some (.ok x σ) | none => match readO σ o with | some x => some (.ok x σ) | none => effO σ dd o) := by
      cases o <;> first | rfl | exact absurd ⟨_, _, _, rfl⟩ hc | exact absurd ⟨_, _, rfl⟩ hpc
    rw [hs] at h
    split at h
    · cases h; rfl
    · split at h
      · cases h; rfl
      · exact eff_e h

/-- What the one did is nothing to the other. -/
theorem frame {call : Calls1} {σ : St} {a b : SOper} {x : T} {u : Option (Nat × HO)} (hcb : b.o.cls.notS = true) (ha : deltaG call σ a = some (x, u)) (hab : notIn a.d b.rd = true) (hc : indepC a.o.cls b.o.cls = true) :
    deltaG call ((σ.setU u).put a.d x) b = deltaG call σ b := by
  refine deltaG_agree hcb (fun t ht => ?_) ?_ ?_ ?_
  · rw [put_e (notIn_ne hab ht), setU_e]
  · rw [put_m, setU_m]
  · rw [put_rb, setU_rb]
  · rcases deltaG_slot ha with rfl | ⟨j, hj, q, rfl⟩
    · have e1 : ((σ.setU none).put a.d x).h = σ.h := by rw [put_h]; rfl
      have e2 : ((σ.setU none).put a.d x).rb = σ.rb := by rw [put_rb]; rfl
      cases b.o.cls <;> simp only [e1, e2]
    · rw [hj] at hc
      cases hb : b.o.cls with
      | r => rw [hb] at hc; cases hc
      | c => rw [hb] at hc; cases hc
      | a i =>
        rw [hb] at hc
        have hne : j ≠ i := by simpa [indepC] using hc
        show ((σ.setU (some (σ.rb + j, q))).put a.d x).h[((σ.setU (some (σ.rb + j, q))).put a.d x).rb + i]? = σ.h[((σ.setU (some (σ.rb + j, q))).put a.d x).rb + i]?
        rw [put_h, put_rb, setU_rb]
        show (σ.h.set (σ.rb + j) q)[σ.rb + i]? = _
        rw [List.getElem?_set]
        rw [if_neg (by omega)]
      | p => trivial
      | rl => trivial
      | s => trivial

theorem indepC_comm {a b : Cls} : indepC a b = indepC b a := by
  cases a <;> cases b <;> first | rfl | exact bne_comm

theorem put_put {σ : St} {d d' : Option Nat} {x y : T} (hne : notIn d d'.toList = true) : (σ.put d y).put d' x = (σ.put d' x).put d y := by
  cases d with
  | none => cases d' <;> rfl
  | some i =>
    cases d' with
    | none => rfl
    | some j =>
      have this : i ≠ j := by
        intro e; subst e; simp [notIn] at hne
      show ({ σ with e := upd (upd σ.e i y) j x } : St) = { σ with e := upd (upd σ.e j x) i y }
      congr 1
      funext t
      simp only [upd]
      by_cases e : t = j
      · subst e
        have : (t == i) = false := by simpa using fun e => this e.symm
        simp [this]
      · have : (t == j) = false := by simpa using e
        simp [this]

/-- One operation ahead of which a temporary was set that it does not look at. -/
theorem put_stepG {call : Calls1} {σ : St} {d : Option Nat} {x : T} {s : SOper} (h : notIn d s.rd = true) (hd : notIn d s.d.toList = true) :
    stepG call s (σ.put d x) = (stepG call s σ).map fun p => (p.1, p.2.put d x) := by
  obtain ⟨sd, g, o⟩ := s
  have key : (match stepO call (σ.put d x) sd o with | some (.ok x σ) => some (Ex.normal, σ.put sd x) | some (.pan v σ) => some (.pan v, σ) | none => none) =
      (match stepO call σ sd o with | some (.ok x σ) => some (Ex.normal, σ.put sd x) | some (.pan v σ) => some (.pan v, σ) | none => none).map fun (p : Ex × St) => (p.1, p.2.put d x) := by
    have hr : notIn d o.reads = true := by unfold SOper.rd at h; exact (notIn_append h).2
    rw [put_step hr]
    cases stepO call σ sd o with
    | none => rfl
    | some q =>
      cases q with
      | ok y σ' => simp only [Option.map_some, Out.put]; rw [put_put hd]
      | pan v σ' => rfl
  unfold stepG
  cases g with
  | none => exact key
  | some q =>
    obtain ⟨t, want⟩ := q
    have ht : (σ.put d x).e t = σ.e t := put_e (notIn_ne h (by simp [SOper.rd]))
    dsimp only
    rw [ht]
    cases σ.e t with
    | loc a b c => rfl
    | v u =>
      cases u <;> try rfl
      case tuple l =>
        cases l with
        | nil =>
          simp only [Option.map_some]
          rw [put_put hd]
        | cons _ _ => rfl
      rename_i b
      dsimp only
      cases (b == want) with
      | true => exact key
      | false =>
        simp only [cond_false, Option.map_some]
        rw [put_put hd]

theorem stepG_e {call : Calls1} {σ σ' : St} {s : SOper} (h : stepG call s σ = some (.normal, σ')) {t : Nat} (ht : s.d ≠ some t) : σ'.e t = σ.e t := by
  obtain ⟨sd, g, o⟩ := s
  have key : (match stepO call σ sd o with | some (.ok x σ) => some (Ex.normal, σ.put sd x) | some (.pan v σ) => some (.pan v, σ) | none => none) = some (.normal, σ') → σ'.e t = σ.e t := by
    intro h
    cases hst : stepO call σ sd o with
    | none => rw [hst] at h; cases h
    | some q =>
      rw [hst] at h
      cases q with
      | ok y τ => cases h; rw [put_e ht, step_e hst]
      | pan v τ => cases h
  unfold stepG at h
  cases g with
  | none => exact key h
  | some q =>
    obtain ⟨t', want⟩ := q
    dsimp only at h
    split at h
    · rename_i b _
      cases hb : (b == want) with
      | true => rw [hb] at h; exact key h
      | false => rw [hb] at h; cases h; exact put_e ht
    · cases h; exact put_e ht
    · cases h

/-- An operation of class 'p': what it sets. -/
theorem stepG_p {call : Calls1} {σ σ' : St} {s : SOper} (hc : s.o.cls = .p) (h : stepG call s σ = some (.normal, σ')) : ∃ x, deltaG call σ s = some (x, none) ∧ σ' = σ.put s.d x := by
  have hn : s.o.cls.notS = true := by rw [hc]; rfl
  rw [deltaG_step hn] at h
  obtain ⟨⟨x, u⟩, h1, e⟩ := Option.map_eq_some_iff.1 h
  simp only [Prod.mk.injEq, true_and] at e
  rcases deltaG_slot h1 with rfl | ⟨j, hj, _⟩
  · exact ⟨x, h1, e.symm⟩
  · rw [hc] at hj; cases hj

theorem deltaG_p {call : Calls1} {σ σ' : St} {s : SOper} (hc : s.o.cls = .p) (h : Agree s.rd σ σ') : deltaG call σ s = deltaG call σ' s := by
  obtain ⟨d, g, o⟩ := s
  dsimp only at hc
  have ho := Agree.right h
  have hd : deltaO call σ o = deltaO call σ' o := by
    have pr : ∀ {o : SO}, Agree o.reads σ σ' → readO σ o = readO σ' o →
        (match pureO σ o with | some x => some x | none => readO σ o).map (fun x => ((x, none) : T × Option (Nat × HO))) = (match pureO σ' o with | some x => some x | none => readO σ' o).map (fun x => ((x, none) : T × Option (Nat × HO))) := by
      intro o h1 h2; rw [pure_agree h1, h2]
    cases o <;> try (exact pr ho rfl)
    all_goals try (cases hc; done)
    case len tk x =>
      by_cases e : tk = 2
      · subst e; cases hc
      · refine pr ho ?_
        simp only [readO]
        split
        · exact absurd rfl e
        · split
          · exact absurd rfl e
          · rfl
    case load st ag n a => cases st <;> cases hc
    case loadA A ag n a => cases A <;> cases hc
    case pcall f a => simp only [deltaO, val_agree (x := f) ho.left, vals_agree (xs := a) ho.right]
    case call s f a => cases s <;> cases hc
    case allocH slot z => cases slot <;> cases hc
    case boxH slot z => cases slot <;> cases hc
    case mkmap slot => cases slot <;> cases hc
    case mkslice slot b z zero l c => cases slot <;> cases hc
  unfold deltaG
  cases g with
  | none => exact hd
  | some q =>
    obtain ⟨t, want⟩ := q
    have ht : σ.e t = σ'.e t := h t (by simp [SOper.rd])
    dsimp only
    rw [ht, hd]

theorem p_step {call : Calls1} {σ : St} {s : SOper} (hc : s.o.cls = .p) {x : T} (h : deltaG call σ s = some (x, none)) : stepG call s σ = some (.normal, σ.put s.d x) := by
  have hn : s.o.cls.notS = true := by rw [hc]; rfl
  rw [deltaG_step hn, h]; rfl

/-- They change places. -/
theorem swap1 {call : Calls1} {σ σ1 σ2 : St} {a b : SOper} (h : indep1 a b = true) (ha : stepG call a σ = some (.normal, σ1)) (hb : stepG call b σ1 = some (.normal, σ2)) :
    ∃ σ1', stepG call b σ = some (.normal, σ1') ∧ stepG call a σ1' = some (.normal, σ2) := by
  simp only [indep1, Bool.and_eq_true] at h
  obtain ⟨⟨⟨h1, h2⟩, h3⟩, h4⟩ := h
  have h3' : notIn b.d a.d.toList = true := by
    cases hb : b.d with
    | none => rfl
    | some j => cases ha : a.d with
      | none => rfl
      | some i => rw [ha, hb] at h3; simp [notIn] at h3 ⊢; exact fun e => h3 e.symm
  by_cases hpa : a.o.cls = .p
  · obtain ⟨x, da, rfl⟩ := stepG_p hpa ha
    rw [put_stepG h1 h3] at hb
    obtain ⟨⟨e, σ1'⟩, hs, e1⟩ := Option.map_eq_some_iff.1 hb
    simp only [Prod.mk.injEq] at e1
    obtain ⟨rfl, rfl⟩ := e1
    refine ⟨σ1', hs, p_step hpa ?_⟩
    rw [← da]
    exact deltaG_p hpa fun t ht => stepG_e hs (notIn_ne h2 ht)
  by_cases hpb : b.o.cls = .p
  · obtain ⟨y, db, rfl⟩ := stepG_p hpb hb
    have : deltaG call σ b = some (y, none) := by
      rw [← db]; exact deltaG_p hpb fun t ht => (stepG_e ha (notIn_ne h1 ht)).symm
    refine ⟨_, p_step hpb this, ?_⟩
    rw [put_stepG h2 h3', ha]; rfl
  have hca : a.o.cls.notS = true := by revert h4 hpa hpb; cases a.o.cls <;> cases b.o.cls <;> simp [indepC, Cls.notS]
  have hcb : b.o.cls.notS = true := by revert h4 hpa hpb; cases a.o.cls <;> cases b.o.cls <;> simp [indepC, Cls.notS]
  rw [deltaG_step hca] at ha
  obtain ⟨⟨x, u⟩, da, e1⟩ := Option.map_eq_some_iff.1 ha
  simp only [Prod.mk.injEq, true_and] at e1
  subst e1
  rw [deltaG_step hcb, frame hcb da h1 h4] at hb
  obtain ⟨⟨y, v⟩, db, e2⟩ := Option.map_eq_some_iff.1 hb
  simp only [Prod.mk.injEq, true_and] at e2
  subst e2
  refine ⟨(σ.setU v).put b.d y, by rw [deltaG_step hcb, db]; rfl, ?_⟩
  rw [deltaG_step hca, frame hca db h2 (by rw [indepC_comm]; exact h4), da]
  simp only [Option.map_some, Option.some.injEq, Prod.mk.injEq, true_and]
  -- the two states are one
  have hdd : ∀ i j, a.d = some i → b.d = some j → i ≠ j := by
    intro i j e1 e2 e3
    rw [e1, e2, e3] at h3
    simp [notIn] at h3
  have hst : ∀ (σ : St) (d d' : Option Nat) (x y : T), (∀ i j, d = some i → d' = some j → i ≠ j) → ((σ.put d y).put d' x) = ((σ.put d' x).put d y) := by
    intro σ d d' x y hne
    cases d with
    | none => cases d' <;> rfl
    | some i =>
      cases d' with
      | none => rfl
      | some j =>
        have := hne i j rfl rfl
        show ({ σ with e := upd (upd σ.e i y) j x } : St) = { σ with e := upd (upd σ.e j x) i y }
        congr 1
        funext t
        simp only [upd]
        by_cases e : t = j
        · subst e
          have : (t == i) = false := by simpa using fun e => this e.symm
          simp [this]
        · have : (t == j) = false := by simpa using e
          simp [this]
  have hsu : ∀ (σ : St) (d : Option Nat) (x : T) (u : Option (Nat × HO)), (σ.put d x).setU u = (σ.setU u).put d x := by
    intro σ d x u; cases d <;> cases u <;> rfl
  have huv : (σ.setU v).setU u = (σ.setU u).setU v := by
    rcases deltaG_slot da with rfl | ⟨i, hi, q, rfl⟩
    · rfl
    · rcases deltaG_slot db with rfl | ⟨j, hj, q', rfl⟩
      · rfl
      · rw [hi, hj] at h4
        have hne : i ≠ j := by simpa [indepC] using h4
        show ({ σ with h := (σ.h.set (σ.rb + j) q').set (σ.rb + i) q } : St) = { σ with h := (σ.h.set (σ.rb + i) q).set (σ.rb + j) q' }
        congr 1
        rw [List.set_comm _ _ (by omega)]
  rw [hsu, hsu, huv]
  exact hst _ b.d a.d x y (fun i j e1 e2 e3 => hdd j i e2 e1 e3.symm)

/-! ### one that turns something, and one that reads something else -/

theorem stepG_cases {call : Calls1} {σ σ1 : St} {s : SOper} (h : stepG call s σ = some (.normal, σ1)) : (∃ x τ, stepO call σ s.d s.o = some (.ok x τ) ∧ σ1 = τ.put s.d x) ∨ σ1 = σ.put s.d (.v (.tuple [])) := by
  obtain ⟨d, g, o⟩ := s
  have key : (match stepO call σ d o with | some (.ok x σ) => some (Ex.normal, σ.put d x) | some (.pan v σ) => some (.pan v, σ) | none => none) = some (.normal, σ1) → ∃ x τ, stepO call σ d o = some (.ok x τ) ∧ σ1 = τ.put d x := by
    intro h
    cases hs : stepO call σ d o with
    | none => rw [hs] at h; cases h
    | some q =>
      rw [hs] at h
      cases q with
      | ok x τ => cases h; exact ⟨x, τ, rfl, rfl⟩
      | pan v τ => cases h
  unfold stepG at h
  cases g with
  | none => exact .inl (key h)
  | some q =>
    obtain ⟨t, want⟩ := q
    dsimp only at h
    split at h
    · rename_i b _
      cases hb : (b == want) with
      | true => rw [hb] at h; exact .inl (key h)
      | false => rw [hb] at h; cases h; exact .inr rfl
    · cases h; exact .inr rfl
    · cases h

def EK.did (e : EK) (σ σ1 : St) : Prop :=
  σ1.rb = σ.rb ∧ match e with
  | .var d => σ1.h = σ.h ∧ ∀ d', d' ≠ d → σ1.m d' = σ.m d'
  | .hp a => σ1.m = σ.m ∧ (σ1.h = σ.h ∨ ∃ id off cs cs', σ.ev a = .v (.ptr id off) ∧ σ.h[id]? = some (.cells cs) ∧ σ1.h = σ.h.set id (.cells cs'))
  | .he => σ1.m = σ.m ∧ (σ1.h = σ.h ∨ ∃ id v l v' l', σ.h[id]? = some (.row v l) ∧ σ1.h = σ.h.set id (.row v' l'))
  | .hh => σ1.m = σ.m

theorem EK.did_refl (e : EK) (σ : St) : e.did σ σ := by
  cases e with
  | var d => exact ⟨rfl, rfl, fun _ _ => rfl⟩
  | hp a => exact ⟨rfl, rfl, .inl rfl⟩
  | he => exact ⟨rfl, rfl, .inl rfl⟩
  | hh => exact ⟨rfl, rfl⟩

theorem EK.did_put {e : EK} {σ τ : St} (h : e.did σ τ) (d : Option Nat) (x : T) : e.did σ (τ.put d x) := by
  unfold EK.did at h ⊢
  rw [put_rb, put_m, put_h]; exact h

theorem effO_rb {σ : St} {dd : Option Nat} {o : SO} {y : T} {σ' : St} (h : effO σ dd o = some (.ok y σ')) (ho : (∃ z, o = .allocL z) ∨ (∃ z, o = .boxL z) ∨ (∃ A n a x, o = .storeA A n a x) ∨ (∃ z b x y, o = .append z b x y) ∨ (∃ a b c d, o = .mapup a b c d) ∨ (∃ a b c d, o = .mapent a b c d) ∨ (∃ a b c, o = .entst a b c) ∨ (∃ a b, o = .copy a b)) : σ'.rb = σ.rb := by
  have hst : ∀ {t : T} {cs : List V} {τ : St}, σ.storeAt cs t = some τ → τ.rb = σ.rb := by
    intro t cs τ h
    unfold St.storeAt at h
    repeat' split at h
    all_goals first | (cases h; rfl) | (cases h; done)
  rcases ho with ⟨z, rfl⟩ | ⟨z, rfl⟩ | ⟨A, n, a, x, rfl⟩ | ⟨z, b, x, y, rfl⟩ | ⟨a, b, c, d, rfl⟩ | ⟨a, b, c, d, rfl⟩ | ⟨a, b, c, rfl⟩ | ⟨a, b, rfl⟩
  all_goals simp only [effO, Option.bind_eq_some_iff, Option.map_eq_some_iff] at h
  · split at h <;> cases h; rfl
  · (repeat' split at h) <;> first | (cases h; rfl) | (cases h; done)
  · obtain ⟨v, _, h⟩ := h
    split at h
    · obtain ⟨q, hq, e⟩ := Option.map_eq_some_iff.1 h; cases e; exact hst hq
    · cases h
  · split at h
    · obtain ⟨add, _, h⟩ := Option.bind_eq_some_iff.1 h
      split at h
      · split at h
        · cases hemp : add.isEmpty with
          | true => rw [hemp] at h; cases h; rfl
          | false => rw [hemp] at h; simp only [cond_false] at h; split at h <;> cases h; rfl
        · (repeat' split at h) <;> first | (cases h; rfl) | (cases h; done)
        · cases h
      · cases h
    · cases h
  · (repeat' split at h) <;> first | (cases h; rfl) | (cases h; done) | (obtain ⟨q, hq, e⟩ := Option.map_eq_some_iff.1 h; cases e; rfl)
  · (repeat' split at h) <;> first | (cases h; rfl) | (cases h; done) | (obtain ⟨q, hq, e⟩ := Option.map_eq_some_iff.1 h; cases e; rfl)
  · (repeat' split at h) <;> first | (cases h; rfl) | (cases h; done) | (obtain ⟨q, hq, e⟩ := Option.map_eq_some_iff.1 h; cases e; rfl)
  · split at h
    · obtain ⟨add, _, h⟩ := Option.bind_eq_some_iff.1 h
      (repeat' split at h) <;> first | (cases h; rfl) | (cases h; done)
    · cases h

theorem ek_did {call : Calls1} {σ σ1 : St} {s : SOper} {e : EK} (hk : s.ek = some e) (h : stepG call s σ = some (.normal, σ1)) : e.did σ σ1 := by
  rcases stepG_cases h with ⟨x, τ, hs, rfl⟩ | rfl
  case inr => exact EK.did_put (EK.did_refl e σ) _ _
  refine EK.did_put ?_ _ _
  obtain ⟨d, g, o⟩ := s
  unfold SOper.ek at hk
  dsimp only at hk hs
  by_cases hcall : ∃ st f args, o = .call st f args
  · obtain ⟨st, f, args, rfl⟩ := hcall
    cases st with
    | true => cases hk
    | false =>
      cases hk
      simp only [stepO] at hs
      split at hs
      · split at hs
        · simp only [Bool.false_eq_true, false_and, if_false] at hs
          cases hs
          exact ⟨rfl, rfl⟩
        · simp only [Bool.false_eq_true, if_false] at hs
          cases hs
        · cases hs
      · cases hs
  have he : effO σ d o = some (.ok x τ) := by
    cases o <;> first | (cases hk; done) | exact hs | exact absurd ⟨_, _, _, rfl⟩ hcall
  cases o <;> first | (cases hk; done) | exact absurd ⟨_, _, _, rfl⟩ hcall | skip
  case allocL z =>
    obtain ⟨v, hv, rfl⟩ := Option.map_eq_some_iff.1 hk
    subst hv
    simp only [effO] at he
    cases he
    exact ⟨rfl, rfl, fun d' hd => by show upd σ.m v _ d' = _; unfold upd; have : (d' == v) = false := by simpa using hd
                                     rw [this]; rfl⟩
  case boxL z =>
    obtain ⟨v, hv, rfl⟩ := Option.map_eq_some_iff.1 hk
    subst hv
    simp only [effO] at he
    split at he
    · split at he
      · cases he
      · rename_i e1 _ _
        cases e1
        cases he
        exact ⟨rfl, rfl, fun d' hd => by show upd σ.m v _ d' = _; unfold upd; have : (d' == v) = false := by simpa using hd
                                         rw [this]; rfl⟩
    · cases he
  case storeA A n a y =>
    have hrb := effO_rb he (.inr (.inr (.inl ⟨_, _, _, _, rfl⟩)))
    simp only [effO, Option.bind_eq_some_iff] at he
    obtain ⟨v, _, he⟩ := he
    split at he
    · rename_i hc
      obtain ⟨_, hA⟩ := hc
      obtain ⟨q, hq, e1⟩ := Option.map_eq_some_iff.1 he
      cases e1
      cases A with
      | loc d' =>
        cases hk
        cases hev : σ.ev a with
        | v u => rw [hev] at hA; cases u <;> cases hA
        | loc d2 g2 off =>
          rw [hev] at hA hq
          have : d' = d2 := by simpa [Acc.ok] using hA
          subst this
          unfold St.storeAt at hq
          dsimp only at hq
          split at hq
          · split at hq
            · cases hq
              exact ⟨rfl, rfl, fun d3 hd => by show upd σ.m d' _ d3 = _; unfold upd; have : (d3 == d') = false := by simpa using hd
                                               rw [this]; rfl⟩
            · cases hq
          · cases hq
      | ptr =>
        cases hk
        cases hev : σ.ev a with
        | loc d2 g2 off => rw [hev] at hA; cases hA
        | v u =>
          rw [hev] at hA hq
          cases u <;> first | (cases hA; done) | skip
          rename_i id off
          unfold St.storeAt at hq
          dsimp only at hq
          split at hq
          · rename_i cs hcs
            split at hq
            · cases hq
              exact ⟨rfl, rfl, .inr ⟨id, off, cs, _, hev, hcs, rfl⟩⟩
            · cases hq
          · cases hq
      | eptr =>
        cases hk
        cases hev : σ.ev a with
        | loc d2 g2 off => rw [hev] at hA; cases hA
        | v u =>
          rw [hev] at hA hq
          cases u <;> first | (cases hA; done) | skip
          rename_i id ver i off
          unfold St.storeAt at hq
          dsimp only at hq
          split at hq
          · rename_i ver' l hl
            split at hq
            · split at hq
              · cases hq; exact ⟨rfl, rfl, .inr ⟨id, _, l, _, _, hl, rfl⟩⟩
              · cases hq
            · split at hq
              · split at hq
                · cases hq; exact ⟨rfl, rfl, .inr ⟨id, _, l, _, _, hl, rfl⟩⟩
                · cases hq
              · cases hq
            · cases hq
          · cases hq
      | cref => cases hk
    · cases he
  case append z b y1 y2 =>
    cases hk
    refine ⟨effO_rb he (.inr (.inr (.inr (.inl ⟨_, _, _, _, rfl⟩)))), ?_⟩
    simp only [effO] at he
    split at he
    · obtain ⟨add, _, h⟩ := Option.bind_eq_some_iff.1 he
      split at h
      · split at h
        · cases hemp : add.isEmpty with
          | true => rw [hemp] at h; cases h; rfl
          | false => rw [hemp] at h; simp only [cond_false] at h; split at h <;> cases h; rfl
        · (repeat' split at h) <;> first | (cases h; rfl) | (cases h; done)
        · cases h
      · cases h
    · cases he
  case mapup =>
    cases hk
    refine ⟨effO_rb he (.inr (.inr (.inr (.inr (.inl ⟨_, _, _, _, rfl⟩))))), ?_⟩
    simp only [effO] at he
    (repeat' split at he) <;> first | (cases he; rfl) | (cases he; done) | (obtain ⟨q, hq, e⟩ := Option.map_eq_some_iff.1 he; cases e; rfl)
  case mapent =>
    cases hk
    refine ⟨effO_rb he (.inr (.inr (.inr (.inr (.inr (.inl ⟨_, _, _, _, rfl⟩)))))), ?_⟩
    simp only [effO] at he
    (repeat' split at he) <;> first | (cases he; rfl) | (cases he; done) | (obtain ⟨q, hq, e⟩ := Option.map_eq_some_iff.1 he; cases e; rfl)
  case entst =>
    cases hk
    refine ⟨effO_rb he (.inr (.inr (.inr (.inr (.inr (.inr (.inl ⟨_, _, _, rfl⟩))))))), ?_⟩
    simp only [effO] at he
    (repeat' split at he) <;> first | (cases he; rfl) | (cases he; done) | (obtain ⟨q, hq, e⟩ := Option.map_eq_some_iff.1 he; cases e; rfl)
  case copy =>
    cases hk
    refine ⟨effO_rb he (.inr (.inr (.inr (.inr (.inr (.inr (.inr ⟨_, _, rfl⟩))))))), ?_⟩
    simp only [effO] at he
    split at he
    · obtain ⟨add, _, h⟩ := Option.bind_eq_some_iff.1 he
      (repeat' split at h) <;> first | (cases h; rfl) | (cases h; done)
    · cases he

theorem rk_notS {s : SOper} {r : RK} (h : s.rk = some r) : s.o.cls.notS = true ∧ ∀ j, s.o.cls ≠ .a j := by
  obtain ⟨d, g, o⟩ := s
  unfold SOper.rk at h
  dsimp only at h ⊢
  cases o <;> first | (cases h; done) | skip
  case loadA A ag n a => cases A <;> exact ⟨rfl, fun j h => by cases h⟩
  case call st f a =>
    cases st with
    | false => cases h
    | true => exact ⟨rfl, fun j h => by cases h⟩
  all_goals exact ⟨rfl, fun j h => by cases h⟩

/-- Nothing that a reader looks at was turned. -/
theorem rk_frame {call : Calls1} {σ σ1 : St} {s : SOper} {r : RK} {e : EK} (hr : s.rk = some r) (hd : e.did σ σ1) (hag : Agree s.rd σ1 σ) (hc : compat e r = true) (hev : ∀ y, e = .hp (.t y) → r = .ptrN y → σ1.e y = σ.e y) :
    deltaG call σ1 s = deltaG call σ s := by
  obtain ⟨d, g, o⟩ := s
  have ho := Agree.right hag
  have hd' : deltaO call σ1 o = deltaO call σ o := by
    have pr : ∀ {o : SO}, Agree o.reads σ1 σ → readO σ1 o = readO σ o →
        (match pureO σ1 o with | some x => some x | none => readO σ1 o).map (fun x => ((x, none) : T × Option (Nat × HO))) = (match pureO σ o with | some x => some x | none => readO σ o).map (fun x => ((x, none) : T × Option (Nat × HO))) := by
      intro o h1 h2; rw [pure_agree h1, h2]
    have hvar : ∀ {d}, e = .var d → σ1.h = σ.h := by rintro d rfl; exact hd.2.1
    have hcp : ∀ id off n, r = .ptr ∨ (∃ x, r = .ptrN x ∧ ∀ id' o', σ.e x = .v (.ptr id' o') → id ≠ id') → σ1.cellsAt n (.v (.ptr id off)) = σ.cellsAt n (.v (.ptr id off)) := by
      intro id off n hrr
      cases e with
      | var d => simp only [St.cellsAt, hd.2.1]
      | he =>
        rcases hd.2.2 with h | ⟨id', v, l, v', l', h1, h2⟩
        · simp only [St.cellsAt, h]
        · simp only [St.cellsAt, h2, List.getElem?_set]
          by_cases hi : id' = id
          · subst hi
            have hl := (List.getElem?_eq_some_iff.1 h1).1
            rw [if_pos rfl, if_pos hl, h1]
          · rw [if_neg hi]
      | hp a =>
        rcases hrr with rfl | ⟨x, rfl, hx⟩
        · cases a <;> cases hc
        · rcases hd.2.2 with h | ⟨id', off', cs, cs', h1, h2, h3⟩
          · simp only [St.cellsAt, h]
          · cases a with
            | c v => cases hc
            | t y =>
              have : y = x := by simpa [compat] using hc
              subst this
              have hne := hx id' off' h1
              simp only [St.cellsAt, h3, List.getElem?_set, if_neg (Ne.symm hne)]
      | hh => rcases hrr with rfl | ⟨x, rfl, hx⟩ <;> cases hc
    unfold SOper.rk at hr
    dsimp only at hr
    cases o <;> first | (cases hr; done) | skip
    case loadA A ag n a =>
      cases A with
      | loc dd =>
        cases hr
        refine pr ho (readA_agree ho (.inl ⟨dd, rfl, ?_⟩))
        cases e with
        | var d2 => exact hd.2.2 dd (fun h => by subst h; simp [compat] at hc)
        | hp a => rw [hd.2.1]
        | he => rw [hd.2.1]
        | hh => rw [show σ1.m = σ.m from hd.2]
      | cref => cases hr; exact pr ho (readA_agree ho (.inr rfl))
      | ptr =>
        cases hr
        refine pr ho ?_
        simp only [readO, ev_agree (x := a) ho]
        cases he : σ.ev a with
        | loc a b c => simp
        | v u =>
          cases u <;> try (simp; done)
          rename_i id off
          rw [hcp id off n (.inl rfl)]
      | eptr =>
        cases hr
        refine pr ho ?_
        simp only [readO, ev_agree (x := a) ho]
        cases he : σ.ev a with
        | loc a b c => simp
        | v u =>
          cases u <;> try (simp; done)
          rename_i id ver i off
          have : σ1.cellsAt n (.v (.eptr id ver i off)) = σ.cellsAt n (.v (.eptr id ver i off)) := by
            cases e with
            | var d => simp only [St.cellsAt, hd.2.1]
            | hp a =>
              rcases hd.2.2 with h | ⟨id', off', cs, cs', h1, h2, h3⟩
              · simp only [St.cellsAt, h]
              · simp only [St.cellsAt, h3, List.getElem?_set]
                by_cases hi : id' = id
                · subst hi
                  have hl := (List.getElem?_eq_some_iff.1 h2).1
                  rw [if_pos rfl, if_pos hl, h2]
                · rw [if_neg hi]
            | he => cases hc
            | hh => cases hc
          rw [this]
    case loadN x ag n a =>
      cases hr
      refine pr ho ?_
      have hx : σ1.e x = σ.e x := ho x (by simp [SO.reads])
      have ha := ev_agree (x := a) (Agree.right (a := [x]) ho)
      simp only [readO, St.loadN, hx, ha]
      cases he : σ.ev a with
      | loc a b c => rfl
      | v u =>
        cases u <;> try rfl
        rename_i id off
        cases hex : σ.e x with
        | loc a b c => rfl
        | v u2 =>
          cases u2 <;> try rfl
          rename_i id' off'
          dsimp only
          by_cases hi : id = id'
          · rw [if_pos hi, if_pos hi]
          · rw [if_neg hi, if_neg hi]
            rw [hcp id off n (.inr ⟨x, rfl, fun id2 o2 h2 => by rw [hex] at h2; cases h2; exact hi⟩)]
    case lookup ks z ok m k =>
      cases hr
      have hh : σ1.h = σ.h := by cases e <;> first | exact hd.2.1 | (rename_i q; cases q <;> cases hc; done) | (cases hc; done)
      refine pr ho ?_
      simp only [readO, val_agree (x := m) ho.left, val_agree (x := k) ho.right, hh]
    case cvBS y =>
      cases hr
      have hh : σ1.h = σ.h := by cases e <;> first | exact hd.2.1 | (rename_i q; cases q <;> cases hc; done) | (cases hc; done)
      refine pr ho ?_
      simp only [readO, val_agree (x := y) ho, elems_agree hh]
    case call st f a =>
      cases st with
      | false => cases hr
      | true =>
        cases hr
        have hh : σ1.h = σ.h := by cases e <;> first | exact hd.2.1 | (rename_i q; cases q <;> cases hc; done) | (cases hc; done)
        simp only [deltaO, val_agree (x := f) ho.left, vals_agree (xs := a) ho.right]
        clear hcp hvar pr hev hag ho hd
        generalize σ.val f = fv
        generalize σ.vals a = av
        obtain ⟨e', m', g', rb', h'⟩ := σ
        obtain ⟨e'', m'', g'', rb'', h''⟩ := σ1
        dsimp only at hh ⊢
        subst hh
        rfl
  unfold deltaG
  cases g with
  | none => exact hd'
  | some q =>
    obtain ⟨t, want⟩ := q
    have ht : σ1.e t = σ.e t := hag t (by simp [SOper.rd])
    dsimp only
    rw [ht, hd']

theorem reader_step {call : Calls1} {σ σ1 : St} {s : SOper} (hn : s.o.cls.notS = true) (ha : ∀ j, s.o.cls ≠ .a j) (h : stepG call s σ = some (.normal, σ1)) : ∃ x, deltaG call σ s = some (x, none) ∧ σ1 = σ.put s.d x := by
  rw [deltaG_step hn] at h
  obtain ⟨⟨x, u⟩, h1, e⟩ := Option.map_eq_some_iff.1 h
  simp only [Prod.mk.injEq, true_and] at e
  rcases deltaG_slot h1 with rfl | ⟨j, hj, _⟩
  · exact ⟨x, h1, e.symm⟩
  · exact absurd hj (ha j)

theorem reader_of {call : Calls1} {σ : St} {s : SOper} (hn : s.o.cls.notS = true) {x : T} (h : deltaG call σ s = some (x, none)) : stepG call s σ = some (.normal, σ.put s.d x) := by
  rw [deltaG_step hn, h]; rfl

/-- One that turns something, and a reader that it does not touch. -/
theorem swapER {call : Calls1} {σ : St} {a b : SOper} (hn : b.o.cls.notS = true) (hna : ∀ j, b.o.cls ≠ .a j) (h1 : notIn a.d b.rd = true) (h2 : notIn b.d a.rd = true) (h3 : notIn a.d b.d.toList = true)
    (hf : ∀ {σ σ1 : St}, stepG call a σ = some (.normal, σ1) → deltaG call σ1 b = deltaG call σ b) :
    (∀ {σ1 σ2 : St}, stepG call a σ = some (.normal, σ1) → stepG call b σ1 = some (.normal, σ2) → ∃ σ1', stepG call b σ = some (.normal, σ1') ∧ stepG call a σ1' = some (.normal, σ2)) ∧
    (∀ {σ1 σ2 : St}, stepG call b σ = some (.normal, σ1) → stepG call a σ1 = some (.normal, σ2) → ∃ σ1', stepG call a σ = some (.normal, σ1') ∧ stepG call b σ1' = some (.normal, σ2)) := by
  have h3' : notIn b.d a.d.toList = true := by
    cases hb : b.d with
    | none => rfl
    | some j => cases ha : a.d with
      | none => rfl
      | some i => rw [ha, hb] at h3; simp [notIn] at h3 ⊢; exact fun e => h3 e.symm
  constructor
  · intro σ1 σ2 ha hb
    obtain ⟨y, db, rfl⟩ := reader_step hn hna hb
    rw [hf ha] at db
    refine ⟨_, reader_of hn db, ?_⟩
    rw [put_stepG h2 h3', ha]; rfl
  · intro σ1 σ2 hb ha
    obtain ⟨y, db, rfl⟩ := reader_step hn hna hb
    rw [put_stepG h2 h3'] at ha
    obtain ⟨⟨e, σ1'⟩, hs, e1⟩ := Option.map_eq_some_iff.1 ha
    simp only [Prod.mk.injEq] at e1
    obtain ⟨rfl, rfl⟩ := e1
    refine ⟨σ1', hs, reader_of hn ?_⟩
    rw [hf hs]; exact db

theorem effRead_frame {call : Calls1} {a b : SOper} (h : effRead a b = true) (h1 : notIn a.d b.rd = true) {σ σ1 : St} (ha : stepG call a σ = some (.normal, σ1)) : deltaG call σ1 b = deltaG call σ b := by
  unfold effRead at h
  split at h
  · rename_i e r he hr
    refine rk_frame hr (ek_did he ha) (fun t ht => stepG_e ha (notIn_ne h1 ht)) h fun y hy hyr => ?_
    refine stepG_e ha (notIn_ne h1 (t := y) ?_)
    subst hyr
    obtain ⟨d, g, o⟩ := b
    unfold SOper.rk at hr
    dsimp only at hr
    cases o <;> first | (cases hr; done) | skip
    case loadA A _ _ _ => cases A <;> cases hr
    case loadN x _ _ _ => cases hr; simp [SOper.rd, SO.reads]
    case call st _ _ => cases st <;> cases hr
  · cases h

/-! a look-up, and the entry of that key made -/

theorem eqKs_refl : ∀ (ks : List K) (cs : List V), ks.length = cs.length → ((ks.zip cs).all fun p => V.isK p.1 p.2) = true → eqKs ks cs cs = some true
  | [], [], _, _ => rfl
  | [], _ :: _, h, _ => by simp at h
  | _ :: _, [], h, _ => by simp at h
  | k :: ks, c :: cs, h, hh => by
    simp only [List.zip_cons_cons, List.all_cons, Bool.and_eq_true] at hh
    have ih := eqKs_refl ks cs (by simpa using h) hh.2
    have : eqK k c c = some true := by
      cases k <;> cases c <;> first | (simp [V.isK] at hh; done) | skip
      · rename_i k1 k2 n
        have h3 : k1 = k2 := by simpa only [V.isK, beq_iff_eq] using hh.1
        subst h3
        simp only [eqK, and_self, if_true, beq_self_eq_true]
      · simp only [eqK, beq_self_eq_true]
      · simp only [eqK, beq_self_eq_true]
    simp only [eqKs, this, ih, Option.bind_some, Bool.and_self]

theorem eqKey_refl {ks : KT} {k : V} (h : isKey ks k = true) : eqKey ks k k = some true := by
  cases ks with
  | int => cases k <;> first | (simp [isKey] at h; done) | simp only [eqKey, if_true, beq_self_eq_true]
  | str => cases k <;> first | (simp [isKey] at h; done) | simp only [eqKey, beq_self_eq_true]
  | agg l =>
    cases k <;> first | (simp [isKey] at h; done) | skip
    simp only [isKey, Bool.and_eq_true, beq_iff_eq] at h
    exact eqKs_refl _ _ h.1 h.2

theorem findE_setE {ks : KT} {k v : V} {b : Nat} (hk : eqKey ks k k = some true) : ∀ {es es' : List (V × V × Nat)}, findE ks k es = some (some (v, b)) → setE ks k v es = some es' → findE ks k es' = some (some (v, b))
  | [], _, h, _ => by cases h
  | (k', v', b') :: r, es', h, hs => by
    unfold findE at h
    unfold setE at hs
    cases e : eqKey ks k k' with
    | none => rw [e] at h; cases h
    | some t =>
      rw [e] at h hs
      simp only [Option.bind_some] at h hs
      cases t with
      | true =>
        simp only [cond_true] at h hs
        cases h; cases hs
        simp only [findE, hk, Option.bind_some, cond_true]
      | false =>
        simp only [cond_false] at h hs
        obtain ⟨r', hr', e2⟩ := Option.map_eq_some_iff.1 hs
        subst e2
        have := findE_setE hk h hr'
        simp only [findE, e, this, Option.bind_some, cond_false]

theorem findE_app {ks : KT} {k z : V} {c : Nat} (hk : eqKey ks k k = some true) : ∀ {es : List (V × V × Nat)}, findE ks k es = some none → findE ks k (es ++ [(k, z, c)]) = some (some (z, c))
  | [], _ => by simp only [List.nil_append, findE, hk, Option.bind_some, cond_true]
  | (k', v', b') :: r, h => by
    unfold findE at h
    cases e : eqKey ks k k' with
    | none => rw [e] at h; cases h
    | some t =>
      rw [e] at h
      simp only [Option.bind_some] at h
      cases t with
      | true => cases h
      | false =>
        simp only [cond_false] at h
        have := findE_app (z := z) (c := c) hk h
        simp only [List.cons_append, findE, e, this, Option.bind_some, cond_false]

theorem lkme_frame {call : Calls1} {l m : SOper} (h : lkme l m = true) (h1 : notIn m.d l.rd = true) {σ σ1 : St} (hm : stepG call m σ = some (.normal, σ1)) : deltaG call σ1 l = deltaG call σ l := by
  obtain ⟨ld, lg, lo⟩ := l
  obtain ⟨md, mg, mo⟩ := m
  unfold lkme at h
  dsimp only at h
  split at h
  · rename_i ks q n x k ks' q' n' x' k'
    simp only [Bool.and_eq_true, decide_eq_true_eq, beq_iff_eq] at h
    obtain ⟨⟨⟨⟨rfl, rfl⟩, rfl⟩, rfl⟩, rfl⟩ := h
    have hxe : σ1.e x = σ.e x := stepG_e hm (notIn_ne h1 (by simp [SOper.rd, SO.reads, Opd.reads]))
    have hke : σ1.e k = σ.e k := stepG_e hm (notIn_ne h1 (by simp [SOper.rd, SO.reads, Opd.reads]))
    have hvx : σ1.val (.t x) = σ.val (.t x) := by show (σ1.e x).val = _; rw [hxe]; rfl
    have hvk : σ1.val (.t k) = σ.val (.t k) := by show (σ1.e k).val = _; rw [hke]; rfl
    rcases stepG_cases hm with ⟨y, τ, hs, rfl⟩ | rfl
    case inr =>
      unfold deltaG
      simp only [deltaO, pureO, readO, hvx, hvk, put_h]
    have he : effO σ md (.mapent ks (.int q n) (.t x) (.t k)) = some (.ok y τ) := hs
    unfold deltaG
    simp only [deltaO, pureO, readO, hvx, hvk, put_h]
    simp only [effO] at he
    split at he
    · rename_i id kv hmv hkv
      have hik : isKey ks kv = true := by
        cases hv : σ.val (.t k) with
        | none => rw [hv] at hkv; cases hkv
        | some kk =>
          rw [hv] at hkv
          simp only [Option.filter] at hkv
          split at hkv
          · cases hkv; assumption
          · cases hkv
      have hrefl := eqKey_refl hik
      rw [hmv, hkv]
      dsimp only
      split at he
      · rename_i es clock hid
        have hlt : id < σ.h.length := by
          rcases Nat.lt_or_ge id σ.h.length with h | h
          · exact h
          · rw [List.getElem?_eq_none h] at hid; cases hid
        split at he
        · rename_i v b hfe
          obtain ⟨es', hes', e2⟩ := Option.map_eq_some_iff.1 he
          cases e2
          have := findE_setE hrefl hfe hes'
          simp [List.getElem?_set, hlt, this, hid, hfe]
        · rename_i hfe
          cases he
          have := findE_app (z := .int q n) (c := clock) hrefl hfe
          simp [List.getElem?_set, hlt, this, hid, hfe]
        · cases he
      · cases he
    · cases he
  · cases h

/-- They change places. -/
theorem swap {call : Calls1} {σ σ1 σ2 : St} {a b : SOper} (h : indep a b = true) (ha : stepG call a σ = some (.normal, σ1)) (hb : stepG call b σ1 = some (.normal, σ2)) :
    ∃ σ1', stepG call b σ = some (.normal, σ1') ∧ stepG call a σ1' = some (.normal, σ2) := by
  simp only [indep, Bool.or_eq_true, Bool.and_eq_true] at h
  rcases h with h | ⟨h, hk⟩
  · exact swap1 h ha hb
  · simp only [indepT, Bool.and_eq_true] at h
    obtain ⟨⟨h1, h2⟩, h3⟩ := h
    have h3' : notIn b.d a.d.toList = true := by
      cases hb : b.d with
      | none => rfl
      | some j => cases ha : a.d with
        | none => rfl
        | some i => rw [ha, hb] at h3; simp [notIn] at h3 ⊢; exact fun e => h3 e.symm
    have lkn : ∀ {l m : SOper}, lkme l m = true → l.o.cls.notS = true ∧ ∀ j, l.o.cls ≠ .a j := by
      intro l m h
      obtain ⟨ld, lg, lo⟩ := l
      unfold lkme at h
      dsimp only at h
      split at h
      · exact ⟨rfl, fun j h => by cases h⟩
      · cases h
    rcases hk with ((hk | hk) | hk) | hk
    · have hr : b.o.cls.notS = true ∧ ∀ j, b.o.cls ≠ .a j := by
        unfold effRead at hk
        split at hk
        · rename_i hr; exact rk_notS hr
        · cases hk
      exact (swapER (call := call) (σ := σ) hr.1 hr.2 h1 h2 h3 (fun h => effRead_frame hk h1 h)).1 ha hb
    · have hr : a.o.cls.notS = true ∧ ∀ j, a.o.cls ≠ .a j := by
        unfold effRead at hk
        split at hk
        · rename_i hr; exact rk_notS hr
        · cases hk
      exact (swapER (call := call) (σ := σ) hr.1 hr.2 h2 h1 h3' (fun h => effRead_frame hk h2 h)).2 ha hb
    · obtain ⟨r1, r2⟩ := lkn hk
      exact (swapER (call := call) (σ := σ) r1 r2 h2 h1 h3' (fun h => lkme_frame hk h2 h)).2 ha hb
    · obtain ⟨r1, r2⟩ := lkn hk
      exact (swapER (call := call) (σ := σ) r1 r2 h1 h2 h3 (fun h => lkme_frame hk h1 h)).1 ha hb

/-! ### orders -/

/-- What an operation waits for, through others too. -/
def clos : List (List Nat) → List (List Nat) → List (List Nat)
  | acc, [] => acc
  | acc, ds :: r => clos (acc ++ [ds ++ ds.flatMap fun d => acc.getD d []]) r

/-- Any two operations of which none waits for the other may change places. -/
def drawOk (deps : List (List Nat)) (l : List SOper) : Bool :=
  let cl := clos [] deps
  deps.length == l.length &&
  (List.range l.length).all fun j => (deps.getD j []).all (fun i => decide (i < j)) &&
    (List.range j).all fun i => (cl.getD j []).contains i || (match l[i]?, l[j]? with | some a, some b => indep a b | _, _ => false)

theorem clos_len : ∀ (acc deps : List (List Nat)), (clos acc deps).length = acc.length + deps.length
  | acc, [] => rfl
  | acc, d :: r => by rw [clos, clos_len]; simp; omega

theorem clos_keep : ∀ (deps acc : List (List Nat)) (i : Nat), i < acc.length → (clos acc deps).getD i [] = acc.getD i []
  | [], acc, i, _ => rfl
  | d :: r, acc, i, h => by
    rw [clos, clos_keep r _ i (by simp; omega)]
    rw [List.getD_eq_getElem?_getD, List.getD_eq_getElem?_getD, List.getElem?_append_left h]

theorem clos_at : ∀ (deps acc : List (List Nat)) (i : Nat), i < deps.length → (∀ k, k < deps.length → ∀ d ∈ deps.getD k [], d < acc.length + k) →
    (clos acc deps).getD (acc.length + i) [] = deps.getD i [] ++ (deps.getD i []).flatMap fun d => (clos acc deps).getD d []
  | [], _, i, h, _ => by simp at h
  | d :: r, acc, i, h, hb => by
    rw [clos]
    have hb0 := hb 0 (by simp)
    cases i with
    | zero =>
      rw [clos_keep r _ _ (by simp)]
      simp only [Nat.add_zero, List.getD_eq_getElem?_getD, List.getElem?_append_right (Nat.le_refl _), Nat.sub_self, List.getElem?_cons_zero, Option.getD_some]
      congr 1
      have : ∀ x ∈ d, (acc[x]?).getD [] = ((clos (acc ++ [d ++ d.flatMap fun d => (acc[d]?).getD []]) r)[x]?).getD [] := by
        intro x hx
        have hx' : x < acc.length := by have := hb0 x (by simpa using hx); omega
        have := clos_keep r (acc ++ [d ++ d.flatMap fun d => (acc[d]?).getD []]) x (by simp; omega)
        rw [List.getD_eq_getElem?_getD, List.getD_eq_getElem?_getD, List.getElem?_append_left hx'] at this
        exact this.symm
      exact flatMap_congr' this
    | succ i =>
      have := clos_at r (acc ++ [d ++ d.flatMap fun d => acc.getD d []]) i (by simpa using h) (fun k hk q hq => by
        have := hb (k + 1) (by simpa using hk) q (by simpa using hq)
        simp; omega)
      have e : (acc ++ [d ++ d.flatMap fun d => acc.getD d []]).length + i = acc.length + (i + 1) := by simp; omega
      rw [e] at this
      simpa using this
where
  flatMap_congr' {α β : Type} {l : List α} {f g : α → List β} (h : ∀ x ∈ l, f x = g x) : l.flatMap f = l.flatMap g := by
    induction l with
    | nil => rfl
    | cons a l ih => rw [List.flatMap_cons, List.flatMap_cons, h a (by simp), ih fun x hx => h x (by simp [hx])]

/-- One goes ahead of those that it does not wait for. -/
theorem move_front {call : Calls1} {b : SOper} : ∀ (l : List SOper) {r : List SOper} {σ : St} {σ' : St}, (∀ a ∈ l, indep a b = true) → runOps call (l ++ b :: r) σ = some (.normal, σ') → runOps call (b :: (l ++ r)) σ = some (.normal, σ')
  | [], _, _, _, _, h => h
  | a :: l, r, σ, σ', hi, h => by
    have hcons : ∀ {x : SOper} {xs : List SOper} {σ σ' : St}, runOps call (x :: xs) σ = some (.normal, σ') ↔ ∃ σ1, stepG call x σ = some (.normal, σ1) ∧ runOps call xs σ1 = some (.normal, σ') := by
      intro x xs σ σ'
      simp only [runOps]
      cases hs : stepG call x σ with
      | none => simp
      | some q =>
        obtain ⟨e, σ1⟩ := q
        cases e <;> simp
    obtain ⟨σ1, h1, h2⟩ := hcons.1 h
    have h3 := move_front l (fun x hx => hi x (by simp [hx])) h2
    obtain ⟨σ2, h4, h5⟩ := hcons.1 h3
    obtain ⟨σ1', h6, h7⟩ := swap (hi a (by simp)) h1 h4
    exact hcons.2 ⟨σ1', h6, hcons.2 ⟨σ2, h7, h5⟩⟩

theorem runOps_cons_normal {call : Calls1} {x : SOper} {xs : List SOper} {σ σ' : St} : runOps call (x :: xs) σ = some (.normal, σ') ↔ ∃ σ1, stepG call x σ = some (.normal, σ1) ∧ runOps call xs σ1 = some (.normal, σ') := by
  simp only [runOps]
  cases hs : stepG call x σ with
  | none => simp
  | some q =>
    obtain ⟨e, σ1⟩ := q
    cases e <;> simp

theorem drawOk_all {call : Calls1} {deps : List (List Nat)} {l : List SOper} (h : drawOk deps l = true) : ∀ (fuel : Nat) (q : List Nat) (done : List Nat) (σ σ' : St), q = ((List.range l.length).filter fun i => !done.contains i) → q.length = fuel →
    (∀ d ∈ done, ∀ i ∈ (clos [] deps).getD d [], i ∈ done) → runOps call (pickOps l q) σ = some (.normal, σ') → ∀ is ∈ orders deps l.length fuel done, runOps call (pickOps l is) σ = some (.normal, σ')
  | 0, q, done, σ, σ', hq, hlen, hcl, hr, is, his => by
    simp only [orders, List.mem_singleton] at his
    subst his
    have : q = [] := List.eq_nil_of_length_eq_zero hlen
    rw [this] at hr; exact hr
  | fuel + 1, q, done, σ, σ', hq, hlen, hcl, hr, is, his => by
    simp only [drawOk, Bool.and_eq_true, beq_iff_eq, List.all_eq_true, List.mem_range, Bool.or_eq_true, decide_eq_true_eq] at h
    obtain ⟨hlen0, hall⟩ := h
    have hback : ∀ k, k < deps.length → ∀ d ∈ deps.getD k [], d < ([] : List (List Nat)).length + k := fun k hk d hd => by simpa using (hall k (by omega)).1 d hd
    have hclos : ∀ j, j < l.length → (clos [] deps).getD j [] = deps.getD j [] ++ (deps.getD j []).flatMap fun d => (clos [] deps).getD d [] := fun j hj => by
      simpa using clos_at deps [] j (by omega) hback
    -- something is ready
    have hmem : ∀ i, i ∈ q ↔ i < l.length ∧ i ∉ done := by intro i; rw [hq]; simp
    have hready : ∃ i, i ∈ ready deps l.length done := by
      obtain ⟨m, hm⟩ : ∃ m, m ∈ q := by
        cases q with
        | nil => simp at hlen
        | cons m r => exact ⟨m, by simp⟩
      have key : ∀ m, m ∈ q → ∃ i, i ∈ ready deps l.length done := by
        intro m
        induction m using Nat.strongRecOn with
        | _ m ih =>
          intro hm
          by_cases hd : (deps.getD m []).all done.contains = true
          · refine ⟨m, ?_⟩
            simp only [ready, List.mem_filter, List.mem_range, Bool.and_eq_true]
            obtain ⟨h1, h2⟩ := (hmem m).1 hm
            exact ⟨h1, by simpa using h2, hd⟩
          · have : ∃ d ∈ deps.getD m [], d ∉ done := by
              simpa using hd
            obtain ⟨d, hd1, hd2⟩ := this
            obtain ⟨h1, _⟩ := (hmem m).1 hm
            have hlt := (hall m h1).1 d hd1
            exact ih d hlt ((hmem d).2 ⟨by omega, hd2⟩)
      exact key m hm
    have hcase : ∃ j ∈ ready deps l.length done, is ∈ (orders deps l.length fuel (j :: done)).map (j :: ·) := by
      unfold orders at his
      cases hrd : ready deps l.length done with
      | nil => obtain ⟨i, hi⟩ := hready; rw [hrd] at hi; cases hi
      | cons x xs => rw [hrd] at his; exact List.mem_flatMap.1 his
    obtain ⟨j, hj, his'⟩ := hcase
    obtain ⟨is', his1, rfl⟩ := List.mem_map.1 his'
    simp only [ready, List.mem_filter, List.mem_range, Bool.and_eq_true, Bool.not_eq_true'] at hj
    obtain ⟨hj1, hj2, hj3⟩ := hj
    have hjd : j ∉ done := by simpa using hj2
    have hjq : j ∈ q := (hmem j).2 ⟨hj1, hjd⟩
    -- all that it waits for is done
    have hcj : ∀ i ∈ (clos [] deps).getD j [], i ∈ done := by
      intro i hi
      rw [hclos j hj1] at hi
      have hdj : ∀ d ∈ deps.getD j [], d ∈ done := fun d hd => by simpa using List.all_eq_true.1 hj3 d hd
      rcases List.mem_append.1 hi with h | h
      · exact hdj i h
      · obtain ⟨d, hd, hi'⟩ := List.mem_flatMap.1 h
        exact hcl d (hdj d hd) i hi'
    -- those ahead of it
    obtain ⟨q1, q2, hsplit, hlt⟩ : ∃ q1 q2, q = q1 ++ j :: q2 ∧ (∀ x ∈ q1, x < j) := by
      obtain ⟨q1, q2, e⟩ := List.append_of_mem hjq
      refine ⟨q1, q2, e, fun x hx => ?_⟩
      have hsort : q.Pairwise (· < ·) := by
        rw [hq]; exact List.Pairwise.filter _ List.pairwise_lt_range
      rw [e] at hsort
      exact (List.pairwise_append.1 hsort).2.2 x hx j (by simp)
    have hpick : ∀ a b : List Nat, pickOps l (a ++ b) = pickOps l a ++ pickOps l b := fun a b => by simp [pickOps]
    obtain ⟨b, hb⟩ : ∃ b, l[j]? = some b := ⟨l[j], List.getElem?_eq_getElem hj1⟩
    have hcons : ∀ r : List Nat, pickOps l (j :: r) = b :: pickOps l r := fun r => by simp [pickOps, hb]
    rw [hsplit, hpick, hcons] at hr
    have hfront := move_front (pickOps l q1) (b := b) (by
      intro a ha
      simp only [pickOps, List.mem_filterMap] at ha
      obtain ⟨x, hx, hxa⟩ := ha
      have hxj := hlt x hx
      have hxq : x ∈ q := by rw [hsplit]; simp [hx]
      have hxd := ((hmem x).1 hxq).2
      rcases (hall j hj1).2 x hxj with h | h
      · exact absurd (hcj x (by simpa using h)) hxd
      · rw [hxa, hb] at h; exact h) hr
    rw [hcons]
    obtain ⟨σ1, h1, h2⟩ := runOps_cons_normal.1 hfront
    refine runOps_cons_normal.2 ⟨σ1, h1, ?_⟩
    rw [← hpick] at h2
    refine drawOk_all (by simp only [drawOk, Bool.and_eq_true, beq_iff_eq, List.all_eq_true, List.mem_range, Bool.or_eq_true, decide_eq_true_eq]; exact ⟨hlen0, hall⟩) fuel (q1 ++ q2) (j :: done) σ1 σ' ?_ ?_ ?_ h2 is' his1
    · have hnd : q.Nodup := by
        rw [hq]; exact List.Pairwise.filter _ List.nodup_range
      have e1 : (List.range l.length).filter (fun i => !(j :: done).contains i) = q.filter (fun i => i != j) := by
        rw [hq, List.filter_filter]
        congr 1
        funext i
        by_cases e : i = j
        · subst e; simp
        · have : (i == j) = false := by simpa using e
          simp [this, e]
      rw [e1, hsplit]
      rw [hsplit] at hnd
      have hnd' := List.nodup_append.1 hnd
      have hn1 : ∀ x ∈ q1, x ≠ j := fun x hx e => Nat.lt_irrefl j (e ▸ hlt x hx)
      have hn2 : ∀ x ∈ q2, x ≠ j := fun x hx e => by
        have := (List.nodup_cons.1 hnd'.2.1).1
        rw [e] at hx; exact this hx
      rw [List.filter_append, List.filter_cons_of_neg (by simp), List.filter_eq_self.2 (fun x hx => by simpa using hn1 x hx), List.filter_eq_self.2 (fun x hx => by simpa using hn2 x hx)]
    · have := congrArg List.length hsplit
      simp at this ⊢
      omega
    · intro d hd i hi
      rcases List.mem_cons.1 hd with rfl | hd
      · exact List.mem_cons_of_mem _ (hcj i hi)
      · exact List.mem_cons_of_mem _ (hcl d hd i hi)

theorem pick_range (l : List SOper) : pickOps l (List.range l.length) = l := by
  have : ∀ (l : List SOper) (k : Nat) (pre : List SOper), pre.length = k → ((List.range' k l.length).filterMap ((pre ++ l)[·]?)) = l := by
    intro l
    induction l with
    | nil => intro k pre _; rfl
    | cons x l ih =>
      intro k pre hk
      have h1 : (pre ++ x :: l)[k]? = some x := by rw [List.getElem?_append_right (by omega)]; simp [hk]
      have h2 := ih (k + 1) (pre ++ [x]) (by simp [hk])
      rw [List.append_assoc] at h2
      simp only [List.length_cons, List.range'_succ, List.filterMap_cons, h1]
      exact congrArg _ h2
  have h := this l 0 [] rfl
  rw [List.range_eq_range']
  exact h


/-- A region that draws, where it goes well. -/
theorem runDraw_normal {call : Calls1} {k : Nat} {deps : List (List Nat)} {l : List SOper} (h : drawOk deps l = true) {σ σ' : St} (h1 : runOps call l (σ.drawn (k / 2)) = some (.normal, σ')) : runDraw call k deps l σ = some (.normal, σ') := by
  unfold runDraw
  rw [if_pos]
  · rw [h1]; rfl
  · intro is his
    rw [h1]
    have := drawOk_all h l.length (List.range l.length) [] _ _ (by symm; exact List.filter_eq_self.2 (fun x _ => by simp)) (by simp) (fun d hd => by cases hd) (by rw [pick_range l]; exact h1) is his
    rw [this]
    rfl

/-- The answer of a region that draws, and does not panic. -/
theorem runDraw_ok {call : Calls1} {k : Nat} {deps : List (List Nat)} {l : List SOper} (h : drawOk deps l = true) (hk : k % 2 = 0) (σ : St) : runDraw call k deps l σ = onlyN (runOps call l (σ.drawn (k / 2))) := by
  have hkb : (k % 2 == 1) = false := by rw [hk]; rfl
  cases hr : runOps call l (σ.drawn (k / 2)) with
  | none => unfold runDraw; rw [hr]; split <;> rfl
  | some r =>
    obtain ⟨e, σ'⟩ := r
    cases e
    case normal => rw [runDraw_normal h hr]; rfl
    case pan v => unfold runDraw; rw [hr, hkb]; split <;> rfl
    all_goals (unfold runDraw; rw [hr]; split <;> rfl)

/-! ### panics in a drawn order -/

/-- Does an operation set its temporary alone? -/
def quiet (s : SOper) : Bool := s.o.cls.notS && (match s.o.cls with | .a _ => false | _ => true)
def isMov (s : SOper) : Bool := s.g.isNone && (match s.o with | .mov _ => true | _ => false)
def mayPan (o : SO) : Bool := !o.cls.notS

/-- Where one may panic, what may come ahead of it or behind it, as is drawn, sets temporaries alone. -/
def panOk (deps : List (List Nat)) (l : List SOper) : Bool :=
  let cl := clos [] deps
  (List.range l.length).all fun k => match l[k]? with
    | some s => !mayPan s.o || (drawOk (deps.take k) (l.take k) &&
        ((List.range k).all fun j => (cl.getD k []).contains j || match l[j]? with | some a => quiet a && notIn a.d s.rd && notIn a.d s.d.toList | none => false) &&
        ((List.range l.length).all fun i => decide (i ≤ k) || (cl.getD i []).contains k || match l[i]? with | some b => isMov b && ((List.range (k + 1)).all fun j => match l[j]? with | some a => notIn b.d a.rd && notIn b.d a.d.toList | none => false) | none => false))
    | none => true

/-- Temporaries that are set. -/
def puts : List (Option Nat × T) → St → St
  | [], σ => σ
  | (d, x) :: r, σ => puts r (σ.put d x)

theorem puts_app (a b : List (Option Nat × T)) (σ : St) : puts (a ++ b) σ = puts b (puts a σ) := by
  induction a generalizing σ with
  | nil => rfl
  | cons p a ih => exact ih _

theorem puts_stepG {call : Calls1} {s : SOper} : ∀ (ms : List (Option Nat × T)) {σ : St}, (∀ p ∈ ms, notIn p.1 s.rd = true ∧ notIn p.1 s.d.toList = true) → stepG call s (puts ms σ) = (stepG call s σ).map fun q => (q.1, puts ms q.2)
  | [], σ, _ => by show stepG call s σ = _; cases stepG call s σ <;> rfl
  | (d, x) :: r, σ, h => by
    obtain ⟨h1, h2⟩ := h (d, x) (by simp)
    show stepG call s (puts r (σ.put d x)) = _
    rw [puts_stepG r (fun p hp => h p (by simp [hp])), put_stepG h1 h2]
    cases stepG call s σ <;> rfl

theorem forget_put {l : List SOper} {d : Option Nat} (hd : ∀ t, d = some t → t ∈ dsts l) (σ : St) (x : T) : forgetE l (σ.put d x) = forgetE l σ := by
  cases d with
  | none => rfl
  | some t =>
    have ht := hd t rfl
    unfold forgetE St.put
    dsimp only
    congr 1
    funext t'
    by_cases e : t' = t
    · subst e
      have : (dsts l).contains t' = true := by simpa using ht
      rw [this]; rfl
    · have : upd σ.e t x t' = σ.e t' := by
        have hb : (t' == t) = false := by simpa using e
        simp [upd, hb]
      rw [this]
theorem forget_puts {l : List SOper} : ∀ (ms : List (Option Nat × T)) (σ : St), (∀ p ∈ ms, ∀ t, p.1 = some t → t ∈ dsts l) → forgetE l (puts ms σ) = forgetE l σ
  | [], _, _ => rfl
  | (d, x) :: r, σ, h => by
    show forgetE l (puts r (σ.put d x)) = _
    rw [forget_puts r _ (fun p hp => h p (by simp [hp])), forget_put (h (d, x) (by simp))]

theorem runOps_app {call : Calls1} : ∀ (a : List SOper) {b : List SOper} {σ : St}, runOps call (a ++ b) σ = match runOps call a σ with | some (.normal, σ) => runOps call b σ | r => r
  | [], b, σ => rfl
  | x :: a, b, σ => by
    simp only [List.cons_append, runOps]
    cases stepG call x σ with
    | none => rfl
    | some q =>
      obtain ⟨e, σ1⟩ := q
      cases e <;> first | rfl | exact runOps_app a

/-- Where a run panics. -/
theorem runOps_pan {call : Calls1} {v : V} {σ' : St} : ∀ {l : List SOper} {σ : St}, runOps call l σ = some (.pan v, σ') → ∃ k s σk, l[k]? = some s ∧ runOps call (l.take k) σ = some (.normal, σk) ∧ stepG call s σk = some (.pan v, σ')
  | [], σ, h => by simp [runOps] at h
  | x :: l, σ, h => by
    simp only [runOps] at h
    cases hs : stepG call x σ with
    | none => rw [hs] at h; cases h
    | some q =>
      obtain ⟨e, σ1⟩ := q
      rw [hs] at h
      cases e
      case normal =>
        obtain ⟨k, s, σk, h1, h2, h3⟩ := runOps_pan (l := l) h
        refine ⟨k + 1, s, σk, by simpa using h1, ?_, h3⟩
        rw [List.take_succ_cons]
        simp only [runOps, hs]
        exact h2
      case pan v' => cases h; exact ⟨0, x, σ, rfl, rfl, hs⟩
      all_goals cases h

theorem quiet_run {call : Calls1} : ∀ {l : List SOper} {σ σ' : St}, (∀ s ∈ l, quiet s = true) → runOps call l σ = some (.normal, σ') → ∃ ms : List (Option Nat × T), σ' = puts ms σ ∧ ∀ p ∈ ms, ∃ s ∈ l, p.1 = s.d
  | [], σ, σ', _, h => by cases h; exact ⟨[], rfl, fun _ h => by cases h⟩
  | x :: l, σ, σ', hq, h => by
    obtain ⟨σ1, h1, h2⟩ := runOps_cons_normal.1 h
    have hx := hq x (by simp)
    simp only [quiet, Bool.and_eq_true] at hx
    obtain ⟨y, _, rfl⟩ := reader_step hx.1 (fun j hj => by rw [hj] at hx; exact absurd hx.2 (by simp)) h1
    obtain ⟨ms, e, hm⟩ := quiet_run (fun s hs => hq s (by simp [hs])) h2
    refine ⟨(x.d, y) :: ms, e, fun p hp => ?_⟩
    rcases List.mem_cons.1 hp with rfl | hp
    · exact ⟨x, by simp, rfl⟩
    · obtain ⟨s, hs, e⟩ := hm p hp; exact ⟨s, by simp [hs], e⟩

theorem mov_step {call : Calls1} {b : SOper} (hb : isMov b = true) (σ : St) : ∃ x, stepG call b σ = some (.normal, σ.put b.d x) := by
  obtain ⟨d, g, o⟩ := b
  simp only [isMov, Bool.and_eq_true] at hb
  cases g with
  | some _ => simp at hb
  | none =>
    cases o <;> first | (simp at hb; done) | skip
    rename_i x
    exact ⟨σ.ev x, rfl⟩

theorem stepG_pan {call : Calls1} {s : SOper} {σ σ' : St} {v : V} (h : stepG call s σ = some (.pan v, σ')) : mayPan s.o = true := by
  obtain ⟨d, g, o⟩ := s
  have key : (match stepO call σ d o with | some (.ok x σ) => some (Ex.normal, σ.put d x) | some (.pan v σ) => some (.pan v, σ) | none => none) = some (.pan v, σ') → mayPan o = true := by
    intro h
    cases hst : stepO call σ d o with
    | none => rw [hst] at h; cases h
    | some q =>
      rw [hst] at h
      cases q with
      | ok y τ => cases h
      | pan v' τ =>
        cases hn : o.cls.notS with
        | false => simp [mayPan, hn]
        | true =>
          rw [delta_step hn] at hst
          cases hd : deltaO call σ o with
          | none => rw [hd] at hst; cases hst
          | some p => rw [hd] at hst; cases hst
  unfold stepG at h
  cases g with
  | none => exact key h
  | some q =>
    obtain ⟨t, want⟩ := q
    dsimp only at h
    split at h
    · rename_i b _
      cases hb : (b == want) with
      | true => rw [hb] at h; exact key h
      | false => rw [hb] at h; cases h
    · cases h
    · cases h
theorem nodup_split {x : Nat} : ∀ {a b c d : List Nat}, (a ++ x :: b).Nodup → a ++ x :: b = c ++ x :: d → a = c
  | [], b, [], d, _, _ => rfl
  | [], b, y :: c, d, hn, e => by
    exfalso
    simp only [List.nil_append, List.cons_append, List.cons.injEq] at e
    obtain ⟨rfl, rfl⟩ := e
    exact (List.nodup_cons.1 hn).1 (by simp)
  | y :: a, b, [], d, hn, e => by
    exfalso
    simp only [List.nil_append, List.cons_append, List.cons.injEq] at e
    obtain ⟨rfl, rfl⟩ := e
    exact (List.nodup_cons.1 hn).1 (by simp)
  | y :: a, b, z :: c, d, hn, e => by
    simp only [List.cons_append, List.cons.injEq] at e
    obtain ⟨rfl, e⟩ := e
    rw [nodup_split (List.nodup_cons.1 hn).2 e]


/-- A list is an order. -/
theorem mem_orders {deps : List (List Nat)} {n : Nat} : ∀ (xs done : List Nat), xs.Nodup → (∀ x ∈ xs, x < n ∧ x ∉ done) → (∀ a x b, xs = a ++ x :: b → ∀ d ∈ deps.getD x [], d ∈ done ∨ d ∈ a) → xs ∈ orders deps n xs.length done
  | [], _, _, _, _ => by simp [orders]
  | x :: xs, done, hn, hx, hd => by
    have hr : x ∈ ready deps n done := by
      obtain ⟨h1, h2⟩ := hx x (by simp)
      simp only [ready, List.mem_filter, List.mem_range, Bool.and_eq_true]
      refine ⟨h1, by simpa using h2, List.all_eq_true.2 fun d h => ?_⟩
      rcases hd [] x xs rfl d h with h | h
      · simpa using h
      · cases h
    have ih := mem_orders (deps := deps) (n := n) xs (x :: done) (List.nodup_cons.1 hn).2 (fun y hy => ⟨(hx y (by simp [hy])).1, fun h => by
        rcases List.mem_cons.1 h with rfl | h
        · exact (List.nodup_cons.1 hn).1 hy
        · exact (hx y (by simp [hy])).2 h⟩)
      (fun a y b e d h => by
        rcases hd (x :: a) y b (by rw [e]; rfl) d h with h | h
        · exact .inl (List.mem_cons_of_mem _ h)
        · rcases List.mem_cons.1 h with rfl | h
          · exact .inl List.mem_cons_self
          · exact .inr h)
    show x :: xs ∈ orders deps n (xs.length + 1) done
    unfold orders
    split
    · rename_i e; rw [e] at hr; cases hr
    · rename_i i r e
      rw [← e]
      exact List.mem_flatMap.2 ⟨x, hr, List.mem_map.2 ⟨xs, ih, rfl⟩⟩

/-- What an order is. -/
theorem orders_spec {deps : List (List Nat)} {n : Nat} (hb : ∀ j, j < n → ∀ d ∈ deps.getD j [], d < j) : ∀ (fuel : Nat) (done xs : List Nat), xs ∈ orders deps n fuel done → ((List.range n).filter fun i => !done.contains i).length = fuel →
    xs.Nodup ∧ (∀ x ∈ xs, x < n ∧ x ∉ done) ∧ (∀ a x b, xs = a ++ x :: b → ∀ d ∈ deps.getD x [], d ∈ done ∨ d ∈ a) ∧ ∀ i, i < n → i ∈ done ∨ i ∈ xs
  | 0, done, xs, h, hf => by
    simp only [orders, List.mem_singleton] at h
    subst h
    refine ⟨List.nodup_nil, ?_, ?_, fun i hi => .inl ?_⟩
    · intro x h; cases h
    · intro a x b e; cases a <;> cases e
    have := List.eq_nil_of_length_eq_zero hf
    rw [List.filter_eq_nil_iff] at this
    simpa using this i (List.mem_range.2 hi)
  | fuel + 1, done, xs, h, hf => by
    have hready : ready deps n done ≠ [] := by
      intro he
      have hne : ((List.range n).filter fun i => !done.contains i) ≠ [] := by intro e; rw [e] at hf; cases hf
      obtain ⟨m, hm⟩ := List.exists_mem_of_ne_nil _ hne
      have key : ∀ m, m < n → m ∉ done → False := by
        intro m
        induction m using Nat.strongRecOn with
        | _ m ih =>
          intro h1 h2
          have hnr : m ∉ ready deps n done := by rw [he]; simp
          apply hnr
          simp only [ready, List.mem_filter, List.mem_range, Bool.and_eq_true]
          refine ⟨h1, by simpa using h2, List.all_eq_true.2 fun d hd => ?_⟩
          by_cases hdd : d ∈ done
          · simpa using hdd
          · exact (ih d (hb m h1 d hd) (Nat.lt_trans (hb m h1 d hd) h1) hdd).elim
      simp only [List.mem_filter, List.mem_range] at hm
      exact key m hm.1 (by simpa using hm.2)
    obtain ⟨j, hj, his⟩ : ∃ j ∈ ready deps n done, xs ∈ (orders deps n fuel (j :: done)).map (j :: ·) := by
      unfold orders at h
      cases hrd : ready deps n done with
      | nil => exact absurd hrd hready
      | cons x r => rw [hrd] at h; exact List.mem_flatMap.1 h
    obtain ⟨ys, hys, rfl⟩ := List.mem_map.1 his
    simp only [ready, List.mem_filter, List.mem_range, Bool.and_eq_true, Bool.not_eq_true'] at hj
    obtain ⟨hj1, hj2, hj3⟩ := hj
    have hjd : j ∉ done := by simpa using hj2
    have hlen : ((List.range n).filter fun i => !(j :: done).contains i).length = fuel := by
      have e1 : (List.range n).filter (fun i => !(j :: done).contains i) = ((List.range n).filter fun i => !done.contains i).filter (fun i => i != j) := by
        rw [List.filter_filter]
        congr 1
        funext i
        by_cases e : i = j
        · subst e; simp
        · have : (i == j) = false := by simpa using e
          simp [this, e]
      have hnd : ((List.range n).filter fun i => !done.contains i).Nodup := List.Pairwise.filter _ List.nodup_range
      have hm : j ∈ ((List.range n).filter fun i => !done.contains i) := by simp [hj1, hjd]
      rw [e1]
      have h2 : ((List.range n).filter fun i => !done.contains i).filter (fun i => i != j) = ((List.range n).filter fun i => !done.contains i).erase j := by
        rw [hnd.erase_eq_filter]
      rw [h2, List.length_erase_of_mem hm, hf]
      rfl
    obtain ⟨h1, h2, h3, h4⟩ := orders_spec hb fuel (j :: done) ys hys hlen
    refine ⟨List.nodup_cons.2 ⟨fun h => (h2 j h).2 (by simp), h1⟩, ?_, ?_, ?_⟩
    · intro x hx
      rcases List.mem_cons.1 hx with rfl | hx
      · exact ⟨hj1, hjd⟩
      · exact ⟨(h2 x hx).1, fun h => (h2 x hx).2 (by simp [h])⟩
    · intro a x b e d hd
      cases a with
      | nil => cases e; exact .inl (by simpa using List.all_eq_true.1 hj3 d hd)
      | cons y a =>
        cases e
        rcases h3 a x b rfl d hd with h | h
        · rcases List.mem_cons.1 h with rfl | h
          · exact .inr (by simp)
          · exact .inl h
        · exact .inr (by simp [h])
    · intro i hi
      rcases h4 i hi with h | h
      · rcases List.mem_cons.1 h with rfl | h
        · exact .inr (by simp)
        · exact .inl h
      · exact .inr (by simp [h])

theorem pick_app (l : List SOper) (a b : List Nat) : pickOps l (a ++ b) = pickOps l a ++ pickOps l b := by simp [pickOps]

/-- All orders panic alike. -/
theorem panOk_all {call : Calls1} {deps : List (List Nat)} {l : List SOper} (hd : drawOk deps l = true) (hp : panOk deps l = true) {σ σ' : St} {v : V} (hr : runOps call l σ = some (.pan v, σ')) :
    ∀ is ∈ orders deps l.length l.length [], ∃ σ2, runOps call (pickOps l is) σ = some (.pan v, σ2) ∧ forgetE l σ2 = forgetE l σ' := by
  intro is his
  obtain ⟨k, s, σk, hk, hrk, hsk⟩ := runOps_pan hr
  have hkl : k < l.length := by
    rcases Nat.lt_or_ge k l.length with h | h
    · exact h
    · rw [List.getElem?_eq_none h] at hk; cases hk
  have hmp := stepG_pan hsk
  have hpk := List.all_eq_true.1 hp k (List.mem_range.2 hkl)
  rw [hk] at hpk
  simp only [hmp, Bool.not_true, Bool.false_or, Bool.and_eq_true, List.all_eq_true, List.mem_range, Bool.or_eq_true, decide_eq_true_eq] at hpk
  obtain ⟨⟨hdk, hq⟩, hmv⟩ := hpk
  simp only [drawOk, Bool.and_eq_true, beq_iff_eq, List.all_eq_true, List.mem_range, Bool.or_eq_true, decide_eq_true_eq] at hd
  obtain ⟨hlen0, hall⟩ := hd
  have hb : ∀ j, j < l.length → ∀ d ∈ deps.getD j [], d < j := fun j hj => (hall j hj).1
  have hback : ∀ k, k < deps.length → ∀ d ∈ deps.getD k [], d < ([] : List (List Nat)).length + k := fun k hk d hd => by simpa using (hall k (by omega)).1 d hd
  have hclos : ∀ j, j < l.length → (clos [] deps).getD j [] = deps.getD j [] ++ (deps.getD j []).flatMap fun d => (clos [] deps).getD d [] := fun j hj => by
    simpa using clos_at deps [] j (by omega) hback
  obtain ⟨hnd, hlt, hdep, hcov⟩ := orders_spec hb l.length [] is his (by rw [List.filter_eq_self.2 (fun x _ => by simp)]; simp)
  have hkis : k ∈ is := (hcov k hkl).resolve_left (by simp)
  obtain ⟨q, q', hsplit⟩ := List.append_of_mem hkis
  -- what an element of the order waits for stands ahead of it
  have hclo : ∀ (m : Nat) (a b : List Nat) (x : Nat), x < m → is = a ++ x :: b → ∀ i ∈ (clos [] deps).getD x [], i ∈ a := by
    intro m
    induction m with
    | zero => intro a b x hx; omega
    | succ m ih =>
      intro a b x hx he i hi
      have hxl := (hlt x (by rw [he]; simp)).1
      rw [hclos x hxl] at hi
      rcases List.mem_append.1 hi with h | h
      · exact (hdep a x b he i h).resolve_left (by simp)
      · obtain ⟨d, hd1, hd2⟩ := List.mem_flatMap.1 h
        have hda := (hdep a x b he d hd1).resolve_left (by simp)
        have hdx := hb x hxl d hd1
        obtain ⟨a1, a2, e⟩ := List.append_of_mem hda
        have := ih a1 (a2 ++ x :: b) d (by omega) (by rw [he, e]; simp) i hd2
        rw [e]; simp [this]
  have hkq : k ∉ q := by
    rw [hsplit] at hnd
    intro h
    exact (List.nodup_append.1 hnd).2.2 k h k (by simp) rfl
  have hqn : q.Nodup := by rw [hsplit] at hnd; exact (List.nodup_append.1 hnd).1
  have hmov : ∀ i ∈ q, k < i → ∃ b, l[i]? = some b ∧ isMov b = true ∧ ∀ j, j ≤ k → ∃ a, l[j]? = some a ∧ notIn b.d a.rd = true ∧ notIn b.d a.d.toList = true := by
    intro i hi hki
    have hil := (hlt i (by rw [hsplit]; simp [hi])).1
    rcases hmv i hil with (h | h) | h
    · omega
    · exfalso
      obtain ⟨a1, a2, e⟩ := List.append_of_mem hi
      have := hclo (i + 1) a1 (a2 ++ k :: q') i (by omega) (by rw [hsplit, e]; simp) k (by simpa using h)
      exact hkq (by rw [e]; simp [this])
    · cases hb' : l[i]? with
      | none => rw [hb'] at h; cases h
      | some b =>
        rw [hb'] at h
        simp only [Bool.and_eq_true, List.all_eq_true, List.mem_range] at h
        refine ⟨b, rfl, h.1, fun j hj => ?_⟩
        have h2 := h.2 j (by omega)
        cases ha : l[j]? with
        | none => rw [ha] at h2; cases h2
        | some a => rw [ha] at h2; simp only [Bool.and_eq_true] at h2; exact ⟨a, rfl, h2⟩
  -- those below k, and the rest of them
  obtain ⟨q1, hq1⟩ : ∃ q1, q1 = q.filter fun i => decide (i < k) := ⟨_, rfl⟩
  obtain ⟨R, hR⟩ : ∃ R, R = (List.range k).filter fun i => !q1.contains i := ⟨_, rfl⟩
  have hq1m : ∀ i, i ∈ q1 ↔ i ∈ q ∧ i < k := by intro i; rw [hq1]; simp
  have hRm : ∀ i, i ∈ R ↔ i < k ∧ i ∉ q1 := by intro i; rw [hR]; simp
  have hord : (q1 ++ R) ∈ orders (deps.take k) (l.take k).length (q1 ++ R).length [] := by
    refine mem_orders (q1 ++ R) [] ?_ ?_ ?_
    · refine List.nodup_append.2 ⟨by rw [hq1]; exact List.Pairwise.filter _ hqn, by rw [hR]; exact List.Pairwise.filter _ List.nodup_range, ?_⟩
      intro a ha b hb' e
      subst e
      exact ((hRm a).1 hb').2 ha
    · intro x hx
      have hxk : x < k := by
        rcases List.mem_append.1 hx with h | h
        · exact ((hq1m x).1 h).2
        · exact ((hRm x).1 h).1
      exact ⟨by simp; omega, by simp⟩
    · intro a x b e d hdx
      have hxm : x ∈ q1 ++ R := by rw [e]; simp
      have hxk : x < k := by
        rcases List.mem_append.1 hxm with h | h
        · exact ((hq1m x).1 h).2
        · exact ((hRm x).1 h).1
      have hdx' : d ∈ deps.getD x [] := by
        rw [List.getD_eq_getElem?_getD] at hdx ⊢
        rwa [List.getElem?_take_of_lt hxk] at hdx
      have hdlt := hb x (by omega) d hdx'
      right
      by_cases hxq : x ∈ q1
      · -- x stands in q1
        have hxq' := ((hq1m x).1 hxq).1
        obtain ⟨b1, b2, eb⟩ := List.append_of_mem hxq'
        have hdb : d ∈ b1 := (hdep b1 x (b2 ++ k :: q') (by rw [hsplit, eb]; simp) d hdx').resolve_left (by simp)
        have e2 : q1 = b1.filter (fun i => decide (i < k)) ++ x :: b2.filter (fun i => decide (i < k)) := by
          rw [hq1, eb, List.filter_append, List.filter_cons_of_pos (by simpa using hxk)]
        have hnn : (q1 ++ R).Nodup := by
          refine List.nodup_append.2 ⟨by rw [hq1]; exact List.Pairwise.filter _ hqn, by rw [hR]; exact List.Pairwise.filter _ List.nodup_range, ?_⟩
          intro a ha b hb' e
          subst e
          exact ((hRm a).1 hb').2 ha
        have e3 : q1 ++ R = b1.filter (fun i => decide (i < k)) ++ x :: (b2.filter (fun i => decide (i < k)) ++ R) := by rw [e2]; simp
        have : a = b1.filter (fun i => decide (i < k)) := by
          rw [e] at e3
          rw [e] at hnn
          exact nodup_split hnn e3
        rw [this]
        simp [hdb]
        omega
      · have hxR : x ∈ R := (List.mem_append.1 hxm).resolve_left hxq
        -- all of q1, and what is less in R, stand ahead
        have hsorted : R.Pairwise (· < ·) := by rw [hR]; exact List.Pairwise.filter _ List.pairwise_lt_range
        by_cases hdq : d ∈ q1
        · obtain ⟨c, hc⟩ : ∃ c, a = q1 ++ c := by
            rcases List.append_eq_append_iff.1 e with ⟨c, h1, h2⟩ | ⟨c, h1, h2⟩
            · exact ⟨c, h1⟩
            · cases c with
              | nil => exact ⟨[], by simpa using h1.symm⟩
              | cons y c =>
                exfalso
                have : x ∈ q1 := by
                  rw [h1]
                  have : x = y := by simpa using (List.cons.inj h2).1
                  rw [this]; simp
                exact hxq this
          rw [hc]; simp [hdq]
        · have hdR : d ∈ R := (hRm d).2 ⟨by omega, hdq⟩
          have hdm : d ∈ q1 ++ R := by simp [hdR]
          rw [e] at hdm
          rcases List.mem_append.1 hdm with h | h
          · exact h
          · exfalso
            rcases List.mem_cons.1 h with h | h
            · omega
            · -- d stands behind x in q1 ++ R, so in R
              rcases List.append_eq_append_iff.1 e with ⟨c, h1, h2⟩ | ⟨c, h1, h2⟩
              · rw [h2] at hsorted
                have := (List.pairwise_append.1 hsorted).2.1
                have := (List.pairwise_cons.1 this).1 d h
                omega
              · cases c with
                | nil =>
                  simp at h2
                  rw [← h2] at hsorted
                  have := (List.pairwise_cons.1 hsorted).1 d h
                  omega
                | cons y c =>
                  have : x ∈ q1 := by
                    rw [h1]
                    have : x = y := by simpa using (List.cons.inj h2).1
                    rw [this]; simp
                  exact hxq this
  have hlenk : (q1 ++ R).length = (l.take k).length := by
    have hnn : (q1 ++ R).Nodup := by
      refine List.nodup_append.2 ⟨by rw [hq1]; exact List.Pairwise.filter _ hqn, by rw [hR]; exact List.Pairwise.filter _ List.nodup_range, ?_⟩
      intro a ha b hb' e
      subst e
      exact ((hRm a).1 hb').2 ha
    have hperm : (q1 ++ R).Perm (List.range k) := by
      rw [List.perm_ext_iff_of_nodup hnn List.nodup_range]
      intro a
      simp only [List.mem_append, hq1m, hRm, List.mem_range]
      constructor
      · rintro (h | h) <;> omega
      · intro h
        by_cases ha : a ∈ q
        · exact .inl ⟨ha, h⟩
        · exact .inr ⟨h, fun h2 => ha h2.1⟩
    rw [hperm.length_eq]
    simp; omega
  rw [hlenk] at hord
  have hrun0 := drawOk_all (call := call) hdk (l.take k).length (List.range (l.take k).length) [] σ σk (by symm; exact List.filter_eq_self.2 (fun x _ => by simp)) (by simp) (fun d hd => by cases hd) (by rw [pick_range]; exact hrk) _ hord
  have hpt : ∀ xs : List Nat, (∀ x ∈ xs, x < k) → pickOps (l.take k) xs = pickOps l xs := by
    intro xs
    induction xs with
    | nil => intro _; rfl
    | cons x xs ih =>
      intro h
      have h1 := List.getElem?_take_of_lt (l := l) (h x (by simp))
      have h2 := ih fun y hy => h y (by simp [hy])
      simp only [pickOps] at h2 ⊢
      simp only [List.filterMap_cons, h1, h2]
  rw [hpt _ (fun x hx => by
    rcases List.mem_append.1 hx with h | h
    · exact ((hq1m x).1 h).2
    · exact ((hRm x).1 h).1), pick_app, runOps_app] at hrun0
  obtain ⟨σ1, h1, h2⟩ : ∃ σ1, runOps call (pickOps l q1) σ = some (.normal, σ1) ∧ runOps call (pickOps l R) σ1 = some (.normal, σk) := by
    cases h : runOps call (pickOps l q1) σ with
    | none => rw [h] at hrun0; cases hrun0
    | some r =>
      obtain ⟨e, σ1⟩ := r
      rw [h] at hrun0
      cases e
      case normal => exact ⟨σ1, rfl, hrun0⟩
      all_goals cases hrun0
  have hRq : ∀ a ∈ pickOps l R, quiet a = true ∧ notIn a.d s.rd = true ∧ notIn a.d s.d.toList = true ∧ ∀ t, a.d = some t → t ∈ dsts l := by
    intro a ha
    simp only [pickOps, List.mem_filterMap] at ha
    obtain ⟨x, hx, hxa⟩ := ha
    obtain ⟨hxk, hxq⟩ := (hRm x).1 hx
    have hnc : x ∉ (clos [] deps).getD k [] := by
      intro h
      have := hclo (k + 1) q q' k (by omega) hsplit x h
      exact hxq ((hq1m x).2 ⟨this, hxk⟩)
    rcases hq x hxk with h | h
    · exact absurd (by simpa using h) hnc
    · rw [hxa] at h
      simp only [Bool.and_eq_true] at h
      exact ⟨h.1.1, h.1.2, h.2, fun t ht => List.mem_filterMap.2 ⟨a, List.mem_of_getElem? hxa, ht⟩⟩
  obtain ⟨ms2, e2, hms2⟩ := quiet_run (fun a ha => (hRq a ha).1) h2
  have hst : stepG call s (puts ms2 σ1) = (stepG call s σ1).map fun q => (q.1, puts ms2 q.2) := puts_stepG ms2 fun p hp => by
    obtain ⟨a, ha, e⟩ := hms2 p hp
    rw [e]
    exact ⟨(hRq a ha).2.1, (hRq a ha).2.2.1⟩
  rw [← e2, hsk] at hst
  obtain ⟨σ0, h3, h4⟩ : ∃ σ0, stepG call s σ1 = some (.pan v, σ0) ∧ σ' = puts ms2 σ0 := by
    cases h : stepG call s σ1 with
    | none => rw [h] at hst; cases hst
    | some r =>
      rw [h] at hst
      obtain ⟨e, σ0⟩ := r
      simp only [Option.map_some, Option.some.injEq, Prod.mk.injEq] at hst
      exact ⟨σ0, by rw [← hst.1], hst.2⟩
  have claim : ∀ (q : List Nat), (∀ i ∈ q, i < l.length ∧ i ≠ k) → (∀ i ∈ q, k < i → ∃ b, l[i]? = some b ∧ isMov b = true ∧ ∀ j, j ≤ k → ∃ a, l[j]? = some a ∧ notIn b.d a.rd = true ∧ notIn b.d a.d.toList = true) →
      ∀ (ms : List (Option Nat × T)) (σa σ1 : St), runOps call (pickOps l (q.filter fun i => decide (i < k))) σa = some (.normal, σ1) →
      (∀ p ∈ ms, (∀ j, j ≤ k → ∃ a, l[j]? = some a ∧ notIn p.1 a.rd = true ∧ notIn p.1 a.d.toList = true) ∧ ∀ t, p.1 = some t → t ∈ dsts l) →
      ∃ ms', runOps call (pickOps l q) (puts ms σa) = some (.normal, puts ms' σ1) ∧ ∀ p ∈ ms', (∀ j, j ≤ k → ∃ a, l[j]? = some a ∧ notIn p.1 a.rd = true ∧ notIn p.1 a.d.toList = true) ∧ ∀ t, p.1 = some t → t ∈ dsts l := by
    intro q
    induction q with
    | nil =>
      intro _ _ ms σa σ1 h hms
      cases h
      exact ⟨ms, rfl, hms⟩
    | cons i q ih =>
      intro hil him ms σa σ1 h hms
      obtain ⟨hi1, hi2⟩ := hil i (by simp)
      have ih' := ih (fun j hj => hil j (by simp [hj])) (fun j hj => him j (by simp [hj]))
      by_cases hik : i < k
      · obtain ⟨a, ha⟩ : ∃ a, l[i]? = some a := ⟨l[i], List.getElem?_eq_getElem hi1⟩
        rw [List.filter_cons_of_pos (by simpa using hik)] at h
        have e1 : pickOps l (i :: q.filter fun i => decide (i < k)) = a :: pickOps l (q.filter fun i => decide (i < k)) := by simp [pickOps, ha]
        rw [e1] at h
        obtain ⟨σb, h5, h6⟩ := runOps_cons_normal.1 h
        obtain ⟨ms', h7, h8⟩ := ih' ms σb σ1 h6 hms
        refine ⟨ms', ?_, h8⟩
        have e2 : pickOps l (i :: q) = a :: pickOps l q := by simp [pickOps, ha]
        rw [e2]
        refine runOps_cons_normal.2 ⟨puts ms σb, ?_, h7⟩
        rw [puts_stepG ms, h5]
        · rfl
        · intro p hp
          obtain ⟨a', ha', h9⟩ := (hms p hp).1 i (by omega)
          rw [ha] at ha'; cases ha'
          exact h9
      · have hki : k < i := by omega
        obtain ⟨b, hb1, hb2, hb3⟩ := him i (by simp) hki
        rw [List.filter_cons_of_neg (by simpa using hik)] at h
        obtain ⟨x, hx⟩ := mov_step (call := call) hb2 (puts ms σa)
        have e3 : (puts ms σa).put b.d x = puts (ms ++ [(b.d, x)]) σa := by rw [puts_app]; rfl
        rw [e3] at hx
        obtain ⟨ms', h7, h8⟩ := ih' (ms ++ [(b.d, x)]) σa σ1 h (fun p hp => by
          rcases List.mem_append.1 hp with hp | hp
          · exact hms p hp
          · simp at hp; subst hp
            exact ⟨hb3, fun t ht => List.mem_filterMap.2 ⟨b, List.mem_of_getElem? hb1, ht⟩⟩)
        refine ⟨ms', ?_, h8⟩
        have e2 : pickOps l (i :: q) = b :: pickOps l q := by simp [pickOps, hb1]
        rw [e2]
        exact runOps_cons_normal.2 ⟨_, hx, h7⟩
  obtain ⟨ms', h5, h6⟩ := claim q (fun i hi => ⟨(hlt i (by rw [hsplit]; simp [hi])).1, fun e => hkq (e ▸ hi)⟩) hmov [] σ σ1 (by rw [← hq1]; exact h1) (fun p hp => by cases hp)
  refine ⟨puts ms' σ0, ?_, ?_⟩
  · rw [hsplit, pick_app, runOps_app]
    have h5' : runOps call (pickOps l q) σ = some (.normal, puts ms' σ1) := h5
    rw [h5']
    have e2 : pickOps l (k :: q') = s :: pickOps l q' := by simp [pickOps, hk]
    show runOps call (pickOps l (k :: q')) (puts ms' σ1) = _
    rw [e2]
    simp only [runOps]
    rw [puts_stepG ms' (fun p hp => by
      obtain ⟨a', ha', h9⟩ := (h6 p hp).1 k (by omega)
      rw [hk] at ha'; cases ha'
      exact h9), h3]
    rfl
  · rw [h4, forget_puts ms' σ0 (fun p hp => (h6 p hp).2), forget_puts ms2 σ0 (fun p hp t ht => by
      obtain ⟨a, ha, e⟩ := hms2 p hp
      exact (hRq a ha).2.2.2 t (by rw [← e]; exact ht))]

/-- The answer of a region that draws, and may panic. -/
theorem runDraw_okp {call : Calls1} {k : Nat} {deps : List (List Nat)} {l : List SOper} (h : drawOk deps l = true) (hp : panOk deps l = true) (hk : k % 2 = 1) (σ : St) : runDraw call k deps l σ = outD true l (runOps call l (σ.drawn (k / 2))) := by
  have hkb : (k % 2 == 1) = true := by rw [hk]; rfl
  cases hr : runOps call l (σ.drawn (k / 2)) with
  | none => unfold runDraw; rw [hr]; split <;> rfl
  | some r =>
    obtain ⟨e, σ'⟩ := r
    cases e
    case normal => rw [runDraw_normal h hr]; rfl
    case pan v =>
      unfold runDraw
      rw [hr, hkb, if_pos]
      intro is his
      obtain ⟨σ2, h1, h2⟩ := panOk_all h hp hr is his
      rw [h1]
      exact ⟨rfl, rfl, h2⟩
    all_goals (unfold runDraw; rw [hr]; split <;> rfl)

/-- A region that draws, in the machine of what is still to be done. -/
@[simp] theorem run_draw {X : Env} {k : Nat} {deps : List (List Nat)} {l : List SOper} {K : List It} {σ : St} (h : drawOk deps l = true) (hk : k % 2 = 0) : run X (.c (.draw k deps l) :: K) σ = run X (.d l :: K) (σ.drawn (k / 2)) := by
  simp only [run, contK, codeL_draw, runDraw_ok h hk]
@[simp] theorem run_drawp {X : Env} {k : Nat} {deps : List (List Nat)} {l : List SOper} {K : List It} {σ : St} (h : drawOk deps l = true) (hp : panOk deps l = true) (hk : k % 2 = 1) : run X (.c (.draw k deps l) :: K) σ = run X (.p l l :: K) (σ.drawn (k / 2)) := by
  simp only [run, contK, codeL_draw, runDraw_okp h hp hk]

end Go.Vm
end

section
set_option linter.unusedSimpArgs false
set_option linter.unusedVariables false
namespace Go.Vm
open Go

mutual
def beqV : V → V → Bool
  | .undef, .undef => true
  | .bool a, .bool b => a == b
  | .int k a, .int l b => decide (k = l) && decide (a = b)
  | .float k a, .float l b => decide (k = l) && a == b
  | .str a, .str b => decide (a = b)
  | .nilp, .nilp => true
  | .ptr a b, .ptr c d => a == c && b == d
  | .cref a, .cref b => beqVs a b
  | .eptr a b c d, .eptr a' b' c' d' => a == a' && b == b' && c == c' && d == d'
  | .nils, .nils => true
  | .snap a, .snap b => beqVs a b
  | .sl a b c d e, .sl a' b' c' d' e' => a == a' && b == b' && c == c' && d == d' && e == e'
  | .nilm, .nilm => true
  | .map a, .map b => a == b
  | .nilf, .nilf => true
  | .func a l, .func b m => a == b && beqVs l m
  | .nili, .nili => true
  | .iface a l, .iface b m => a == b && beqV l m
  | .agg a, .agg b => beqVs a b
  | .tuple a, .tuple b => beqVs a b
  | _, _ => false
def beqVs : List V → List V → Bool
  | [], [] => true
  | a :: as, b :: bs => beqV a b && beqVs as bs
  | _, _ => false
end

mutual
theorem beqV_eq : ∀ (a b : V), beqV a b = true → a = b
  | .undef, b, h => by cases b <;> first | rfl | (simp [beqV] at h)
  | .bool a, b, h => by cases b <;> simp_all [beqV]
  | .int k a, b, h => by cases b <;> simp_all [beqV]
  | .float k a, b, h => by cases b <;> simp_all [beqV]
  | .str a, b, h => by cases b <;> simp_all [beqV]
  | .nilp, b, h => by cases b <;> first | rfl | (simp [beqV] at h)
  | .ptr a c, b, h => by cases b <;> simp_all [beqV]
  | .cref a, b, h => by cases b <;> first | (simp [beqV] at h; done) | (rename_i b; rw [beqVs_eq a b (by simpa [beqV] using h)])
  | .eptr a c d e, b, h => by cases b <;> simp_all [beqV]
  | .nils, b, h => by cases b <;> first | rfl | (simp [beqV] at h)
  | .snap a, b, h => by cases b <;> first | (simp [beqV] at h; done) | (rename_i b; rw [beqVs_eq a b (by simpa [beqV] using h)])
  | .sl a c d e f, b, h => by cases b <;> simp_all [beqV]
  | .nilm, b, h => by cases b <;> first | rfl | (simp [beqV] at h)
  | .map a, b, h => by cases b <;> simp_all [beqV]
  | .nilf, b, h => by cases b <;> first | rfl | (simp [beqV] at h)
  | .func a l, b, h => by
    cases b <;> first | (simp [beqV] at h; done) | skip
    rename_i b m
    simp only [beqV, Bool.and_eq_true, beq_iff_eq] at h
    rw [h.1, beqVs_eq l m h.2]
  | .nili, b, h => by cases b <;> first | rfl | (simp [beqV] at h)
  | .iface a l, b, h => by
    cases b <;> first | (simp [beqV] at h; done) | skip
    rename_i b m
    simp only [beqV, Bool.and_eq_true, beq_iff_eq] at h
    rw [h.1, beqV_eq l m h.2]
  | .agg a, b, h => by cases b <;> first | (simp [beqV] at h; done) | (rename_i b; rw [beqVs_eq a b (by simpa [beqV] using h)])
  | .tuple a, b, h => by cases b <;> first | (simp [beqV] at h; done) | (rename_i b; rw [beqVs_eq a b (by simpa [beqV] using h)])
theorem beqVs_eq : ∀ (a b : List V), beqVs a b = true → a = b
  | [], [], _ => rfl
  | [], _ :: _, h => by simp [beqVs] at h
  | _ :: _, [], h => by simp [beqVs] at h
  | a :: as, b :: bs, h => by
    simp only [beqVs, Bool.and_eq_true] at h
    rw [beqV_eq a b h.1, beqVs_eq as bs h.2]
end

def beqE : List (V × V × Nat) → List (V × V × Nat) → Bool
  | [], [] => true
  | (a, b, c) :: r, (a', b', c') :: r' => beqV a a' && beqV b b' && c == c' && beqE r r'
  | _, _ => false
theorem beqE_eq : ∀ (a b : List (V × V × Nat)), beqE a b = true → a = b
  | [], [], _ => rfl
  | [], _ :: _, h => by simp [beqE] at h
  | _ :: _, [], h => by simp [beqE] at h
  | (a, b, c) :: r, (a', b', c') :: r', h => by
    simp only [beqE, Bool.and_eq_true, beq_iff_eq] at h
    rw [beqV_eq a a' h.1.1.1, beqV_eq b b' h.1.1.2, h.1.2, beqE_eq r r' h.2]

def beqO : HO → HO → Bool
  | .cells a, .cells b => beqVs a b
  | .row v a, .row w b => v == w && beqVs a b
  | .map a c, .map b d => beqE a b && c == d
  | .hole, .hole => true
  | _, _ => false
theorem beqO_eq (a b : HO) (h : beqO a b = true) : a = b := by
  cases a <;> cases b <;> first | (simp [beqO] at h; done) | skip
  · rename_i a b; rw [beqVs_eq a b (by simpa [beqO] using h)]
  · rename_i v a w b
    simp only [beqO, Bool.and_eq_true, beq_iff_eq] at h
    rw [h.1, beqVs_eq a b h.2]
  · rename_i a c b d
    simp only [beqO, Bool.and_eq_true, beq_iff_eq] at h
    rw [beqE_eq a b h.1, h.2]
  · rfl

def beqH : List HO → List HO → Bool
  | [], [] => true
  | a :: as, b :: bs => beqO a b && beqH as bs
  | _, _ => false
theorem beqH_eq : ∀ (a b : List HO), beqH a b = true → a = b
  | [], [], _ => rfl
  | [], _ :: _, h => by simp [beqH] at h
  | _ :: _, [], h => by simp [beqH] at h
  | a :: as, b :: bs, h => by
    simp only [beqH, Bool.and_eq_true] at h
    rw [beqO_eq a b h.1, beqH_eq as bs h.2]

def stepC (call : Calls1) (σ : St) (d : Option Nat) (o : SO) : Option Out :=
  match o with
  | .call strict f args =>
    match σ.val f, σ.vals args with
    | some (.func f caps), some vs =>
      match call f (vs ++ caps) σ.h with
      | some (.ret v, h) => bif strict && !(beqH h σ.h) then none else some (.ok (.v v) { σ with h := h })
      | some (.pan v, h) => bif strict then none else some (.pan v { σ with h := h })
      | none => none
    | _, _ => none
  | .pcall f args =>
    match σ.val f, σ.vals args with
    | some (.func f caps), some vs =>
      bif V.pure.pures (vs ++ caps) then
        match call f (vs ++ caps) [] with
        | some (.ret v, []) => bif v.pure then some (.ok (.v v) σ) else none
        | _ => none
      else none
    | _, _ => none
  | o =>
    match pureO σ o with
    | some x => some (.ok x σ)
    | none =>
      match readO σ o with
      | some x => some (.ok x σ)
      | none => effO σ d o

def stepGC (call : Calls1) (o : SOper) (σ : St) : Option (Ex × St) :=
  match o.g with
  | none =>
    match stepC call σ o.d o.o with
    | some (.ok x σ) => some (.normal, σ.put o.d x)
    | some (.pan v σ) => some (.pan v, σ)
    | none => none
  | some (t, want) =>
    match σ.e t with
    | .v (.bool b) =>
      bif b == want then
        match stepC call σ o.d o.o with
        | some (.ok x σ) => some (.normal, σ.put o.d x)
        | some (.pan v σ) => some (.pan v, σ)
        | none => none
      else some (.normal, σ.put o.d (.v (.tuple [])))
    | .v (.tuple []) => some (.normal, σ.put o.d (.v (.tuple [])))
    | _ => none

def runOpsC (call : Calls1) : List SOper → St → Option (Ex × St)
  | [], σ => some (.normal, σ)
  | o :: os, σ =>
    match stepGC call o σ with
    | some (.normal, σ) => runOpsC call os σ
    | r => r

def codeC (call : Calls1) (n : Nat) : SC → St → Option (Ex × St)
  | .skip, σ => some (.normal, σ)
  | .ops l, σ => runOpsC call l σ
  | .draw k _ l, σ => onlyN (runOpsC call l (σ.drawn (k / 2)))
  | .seq a b, σ =>
    match codeC call n a σ with
    | some (.normal, σ) => codeC call n b σ
    | r => r
  | .cond c a b, σ =>
    match σ.ev c with
    | .v (.bool t) => bif t then codeC call n a σ else codeC call n b σ
    | _ => none
  | .block id ks ls c, σ =>
    match codeC call n c σ with
    | some (.exit id', σ) => bif id' == id then some (.normal, σ.keep ks ls) else some (.exit id', σ)
    | r => r
  | .loop ks ls c, σ => iter (fun σ => codeC call n c (σ.keep ks ls)) n σ
  | .exit id, σ => some (.exit id, σ)
  | .ret, σ => some (.ret, σ)

/-- All regions that draw: any two operations of which none waits for the other may change places. -/
def SC.drawsOk : SC → Bool
  | .draw _ deps l => drawOk deps l
  | .seq a b => a.drawsOk && b.drawsOk
  | .cond _ a b => a.drawsOk && b.drawsOk
  | .block _ _ _ a => a.drawsOk
  | .loop _ _ a => a.drawsOk
  | _ => true

def topB (n : Nat) : List HO → List HO → Bool
  | [], _ => true
  | a :: r, b :: r' => (beqO b a || HO.lo n a b) && topB n r r'
  | _ :: _, [] => false
def finishC (keep : Bool) (h : List HO) (r : CR) (h' : List HO) : CR × List HO :=
  match r with
  | .ret v =>
    bif !keep && beqH (h'.take h.length) h then
      match frzF h.length h' v with
      | some v' => (.ret v', h)
      | none => (.ret v, h')
    else bif !keep && topB h.length h h' then
      match frzF h.length h' v with
      | some v' => (.ret v', h'.take h.length)
      | none => (.ret v, h')
    else (.ret v, h')
  | .pan v => bif beqH (h'.take h.length) h && v.pure then (.pan v, h) else bif topB h.length h h' && v.pure then (.pan v, h'.take h.length) else (.pan v, h')

theorem beqH_refl : ∀ h : List HO, beqH h h = true := by
  have hv : (∀ v : V, beqV v v = true) ∧ (∀ l : List V, beqVs l l = true) := by
    constructor
    · intro v
      exact V.rec (motive_1 := fun v => beqV v v = true) (motive_2 := fun l => beqVs l l = true)
        (by simp [beqV]) (by simp [beqV]) (by simp [beqV]) (by simp [beqV]) (by simp [beqV]) (by simp [beqV]) (by simp [beqV])
        (by intro l h; simpa [beqV] using h) (by simp [beqV]) (by simp [beqV]) (by intro l h; simpa [beqV] using h) (by simp [beqV]) (by simp [beqV]) (by simp [beqV]) (by simp [beqV])
        (by intro f l h; simpa [beqV] using h) (by simp [beqV]) (by intro f l h; simpa [beqV] using h) (by intro l h; simpa [beqV] using h) (by intro l h; simpa [beqV] using h)
        (by simp [beqVs]) (by intro a l h1 h2; simp [beqVs, h1, h2]) v
    · intro l
      exact V.rec_1 (motive_1 := fun v => beqV v v = true) (motive_2 := fun l => beqVs l l = true)
        (by simp [beqV]) (by simp [beqV]) (by simp [beqV]) (by simp [beqV]) (by simp [beqV]) (by simp [beqV]) (by simp [beqV])
        (by intro l h; simpa [beqV] using h) (by simp [beqV]) (by simp [beqV]) (by intro l h; simpa [beqV] using h) (by simp [beqV]) (by simp [beqV]) (by simp [beqV]) (by simp [beqV])
        (by intro f l h; simpa [beqV] using h) (by simp [beqV]) (by intro f l h; simpa [beqV] using h) (by intro l h; simpa [beqV] using h) (by intro l h; simpa [beqV] using h)
        (by simp [beqVs]) (by intro a l h1 h2; simp [beqVs, h1, h2]) l
  have he : ∀ l, beqE l l = true := by
    intro l
    induction l with
    | nil => rfl
    | cons a l ih => obtain ⟨a, b, c⟩ := a; simp [beqE, hv.1, ih]
  have ho : ∀ o, beqO o o = true := by
    intro o
    cases o <;> simp [beqO, hv.2, he]
  intro h
  induction h with
  | nil => rfl
  | cons a l ih => simp [beqH, ho, ih]

theorem beqH_iff (a b : List HO) : beqH a b = true ↔ a = b := ⟨beqH_eq a b, fun h => by subst h; exact beqH_refl a⟩

theorem topB_iff : ∀ (h h' : List HO) (n : Nat), topB n h h' = true ↔ topOK n h h'
  | [], _, _ => by simp [topB, topOK]
  | _ :: _, [], _ => by simp [topB, topOK]
  | a :: r, b :: r', n => by
    have ih := topB_iff r r' n
    have hb : beqO b a = true ↔ b = a := ⟨beqO_eq b a, fun e => by subst e; have := beqH_refl [b]; simpa [beqH] using this⟩
    simp only [topB, topOK, HO.okTo, Bool.and_eq_true, Bool.or_eq_true, hb, ih]

theorem finishC_eq (keep : Bool) (h : List HO) (r : CR) (h' : List HO) : finishC keep h r h' = finish keep h r h' := by
  unfold finishC finish
  cases r with
  | ret v =>
    dsimp only
    by_cases hk : keep = false ∧ h'.take h.length = h
    · rw [if_pos hk, hk.1, (beqH_iff _ _).2 hk.2]; rfl
    · rw [if_neg hk]
      have : (!keep && beqH (h'.take h.length) h) = false := by
        cases hb : (!keep && beqH (h'.take h.length) h) with
        | false => rfl
        | true =>
          simp only [Bool.and_eq_true, Bool.not_eq_true', beqH_iff] at hb
          exact absurd hb hk
      rw [this, cond_false]
      by_cases hk2 : keep = false ∧ topOK h.length h h'
      · rw [if_pos hk2, hk2.1, (topB_iff _ _ _).2 hk2.2]; rfl
      · rw [if_neg hk2]
        have : (!keep && topB h.length h h') = false := by
          cases hb : (!keep && topB h.length h h') with
          | false => rfl
          | true =>
            simp only [Bool.and_eq_true, Bool.not_eq_true', topB_iff] at hb
            exact absurd hb hk2
        rw [this]; rfl
  | pan v =>
    dsimp only
    by_cases hk : h'.take h.length = h ∧ v.pure = true
    · rw [if_pos hk, (beqH_iff _ _).2 hk.1, hk.2]; rfl
    · rw [if_neg hk]
      have : (beqH (h'.take h.length) h && v.pure) = false := by
        cases hb : (beqH (h'.take h.length) h && v.pure) with
        | false => rfl
        | true =>
          simp only [Bool.and_eq_true, beqH_iff] at hb
          exact absurd hb hk
      rw [this, cond_false]
      by_cases hk2 : topOK h.length h h' ∧ v.pure = true
      · rw [if_pos hk2, (topB_iff _ _ _).2 hk2.1, hk2.2]; rfl
      · rw [if_neg hk2]
        have : (topB h.length h h' && v.pure) = false := by
          cases hb : (topB h.length h h' && v.pure) with
          | false => rfl
          | true =>
            simp only [Bool.and_eq_true, topB_iff] at hb
            exact absurd hb hk2
        rw [this]; rfl

def endOfC (sf : SF) (h : List HO) : Option (Ex × St) → Option (CR × List HO)
  | some (.ret, σ) | some (.normal, σ) => (results σ sf.res).map fun v => finishC sf.keep h (.ret v) σ.h
  | some (.pan v, σ) => some (finishC sf.keep h (.pan v) σ.h)
  | _ => none

def closeC (X : Env) (call : Calls1) (n : Nat) (g : Nat) (caps : List V) (pv : V) (h : List HO) : Option (List HO) :=
  (X.fn g).bind fun sf => sf.rcv.bind fun R =>
    match codeC call n R.pre (St.init caps h) with
    | some (.normal, σ) => (codeC call n R.rest (σ.put (some R.d) (.v pv))).bind fun p => bif p.1.isEnd then some p.2.h else none
    | _ => none

def bodyC (X : Env) (call : Calls1) (n : Nat) (sf : SF) (args : List V) (h : List HO) : Option (CR × List HO) :=
  match sf.dfr, sf.rcv with
  | none, none => endOfC sf h (codeC call n sf.body (St.init args h))
  | some D, none =>
    match codeC call n D.pre (St.init args h) with
    | some (.normal, σ) =>
      match σ.e D.t with
      | .v (.func g caps) =>
        (codeC call n D.rest σ).bind fun p => (pvOf p.1).bind fun pv => (closeC X call n g caps pv p.2.h).bind fun h' =>
          (results { p.2 with h := h' } sf.res).map fun v => finishC sf.keep h (.ret v) h'
      | _ => none
    | _ => none
  | _, _ => none

def SF.drawsOk (sf : SF) : Bool :=
  sf.body.drawsOk && (match sf.dfr with | some D => D.pre.drawsOk && D.rest.drawsOk | none => true) && (match sf.rcv with | some R => R.pre.drawsOk && R.rest.drawsOk | none => true)

def callC (X : Env) : Nat → Calls1
  | 0, _, _, _ => none
  | n + 1, f, args, h =>
    match X.ext f with
    | some e => e args h
    | none =>
      match X.fn f with
      | some sf => bodyC X (callC X n) n sf args h
      | none => none

theorem stepC_le {c c' : Calls1} (hc : LeC c c') {σ : St} {d : Option Nat} {o : SO} {r : Out} (h : stepC c σ d o = some r) : stepO c' σ d o = some r := by
  cases o <;> try exact h
  case call strict f args =>
    simp only [stepC] at h
    simp only [stepO]
    cases e1 : σ.val f with
    | none => rw [e1] at h; cases h
    | some fv =>
      cases e2 : σ.vals args with
      | none => rw [e1, e2] at h; cases fv <;> cases h
      | some vs =>
        rw [e1, e2] at h
        cases fv <;> first | (cases h; done) | skip
        rename_i g caps
        dsimp only at h ⊢
        cases e3 : c g (vs ++ caps) σ.h with
        | none => rw [e3] at h; cases h
        | some q =>
          rw [hc _ _ _ _ e3]
          rw [e3] at h
          obtain ⟨cr, h'⟩ := q
          cases cr with
          | ret v =>
            dsimp only at h ⊢
            cases hb : (strict && !(beqH h' σ.h)) with
            | true => rw [hb] at h; cases h
            | false =>
              rw [hb] at h
              rw [if_neg (fun hh => ?_)]
              · exact h
              · have : beqH h' σ.h = false := by
                  cases hq : beqH h' σ.h with
                  | false => rfl
                  | true => exact absurd (beqH_eq _ _ hq) hh.2
                rw [hh.1, this] at hb
                cases hb
          | pan v =>
            dsimp only at h ⊢
            cases strict with
            | true => cases h
            | false => rw [if_neg (by simp)]; exact h
  case pcall f args =>
    simp only [stepC] at h
    simp only [stepO]
    cases e1 : σ.val f with
    | none => rw [e1] at h; cases h
    | some fv =>
      cases e2 : σ.vals args with
      | none => rw [e1, e2] at h; cases fv <;> cases h
      | some vs =>
        rw [e1, e2] at h
        cases fv <;> first | (cases h; done) | skip
        rename_i g caps
        dsimp only at h ⊢
        cases hp : V.pure.pures (vs ++ caps) with
        | false => rw [hp] at h; cases h
        | true =>
          rw [hp] at h
          simp only [cond_true] at h
          rw [if_pos rfl]
          cases e3 : c g (vs ++ caps) [] with
          | none => rw [e3] at h; cases h
          | some q =>
            rw [hc _ _ _ _ e3]
            rw [e3] at h
            obtain ⟨cr, h'⟩ := q
            cases cr with
            | ret v =>
              cases h' with
              | cons a b => cases h
              | nil =>
                dsimp only at h ⊢
                cases hv : v.pure with
                | false => rw [hv] at h; cases h
                | true => rw [hv] at h; rw [if_pos rfl]; exact h
            | pan v => cases h

theorem stepGC_le {c c' : Calls1} (hc : LeC c c') {σ : St} {o : SOper} {r : Ex × St} (h : stepGC c o σ = some r) : stepG c' o σ = some r := by
  have key : ∀ r, (match stepC c σ o.d o.o with | some (.ok x σ) => some (Ex.normal, σ.put o.d x) | some (.pan v σ) => some (.pan v, σ) | none => none) = some r →
      (match stepO c' σ o.d o.o with | some (.ok x σ) => some (Ex.normal, σ.put o.d x) | some (.pan v σ) => some (.pan v, σ) | none => none) = some r := by
    intro r h
    cases e : stepC c σ o.d o.o with
    | none => rw [e] at h; cases h
    | some q => rw [e] at h; rw [stepC_le hc e]; exact h
  unfold stepGC at h
  unfold stepG
  cases hg : o.g with
  | none => rw [hg] at h; exact key _ h
  | some p =>
    obtain ⟨t, want⟩ := p
    rw [hg] at h
    (try dsimp only at h ⊢)
    split at h
    · rename_i b e
      rw [e]
      dsimp only
      cases hb : (b == want) with
      | true => rw [hb] at h; exact key _ h
      | false => rw [hb] at h; exact h
    · rename_i e; rw [e]; exact h
    · cases h

theorem runOpsC_le {c c' : Calls1} (hc : LeC c c') : ∀ {l : List SOper} {σ : St} {r : Ex × St}, runOpsC c l σ = some r → runOps c' l σ = some r
  | [], _, _, h => h
  | o :: os, σ, r, h => by
    unfold runOpsC at h
    unfold runOps
    cases e : stepGC c o σ with
    | none => rw [e] at h; cases h
    | some q =>
      rw [e] at h; rw [stepGC_le hc e]
      obtain ⟨ex, σ'⟩ := q
      cases ex <;> first | exact runOpsC_le hc h | exact h

theorem codeC_le {c c' : Calls1} (hc : LeC c c') (n : Nat) : ∀ {s : SC} {σ : St} {r : Ex × St}, s.drawsOk = true → codeC c n s σ = some r → codeN c' n s σ = some r
  | .skip, _, _, _, h => h
  | .ops _, _, _, _, h => runOpsC_le hc h
  | .draw k deps l, σ, r, hd, h => by
    unfold codeC at h
    unfold codeN
    obtain ⟨h1, h2⟩ := onlyN_some h
    obtain ⟨e, σ'⟩ := r
    dsimp only at h2
    subst h2
    exact runDraw_normal (by simpa [SC.drawsOk] using hd) (runOpsC_le hc h1)
  | .seq a b, σ, r, hd, h => by
    simp only [SC.drawsOk, Bool.and_eq_true] at hd
    unfold codeC at h
    unfold codeN
    cases e : codeC c n a σ with
    | none => rw [e] at h; cases h
    | some q =>
      rw [e] at h; rw [codeC_le hc n hd.1 e]
      obtain ⟨ex, σ'⟩ := q
      cases ex <;> first | exact codeC_le hc n hd.2 h | exact h
  | .cond x a b, σ, r, hd, h => by
    simp only [SC.drawsOk, Bool.and_eq_true] at hd
    unfold codeC at h
    unfold codeN
    split at h
    · rename_i t e
      rw [e]
      dsimp only
      cases t
      · exact codeC_le hc n hd.2 h
      · exact codeC_le hc n hd.1 h
    · cases h
  | .block id ks ls a, σ, r, hd, h => by
    simp only [SC.drawsOk] at hd
    unfold codeC at h
    unfold codeN
    cases e : codeC c n a σ with
    | none => rw [e] at h; cases h
    | some q =>
      rw [e] at h; rw [codeC_le hc n hd e]
      obtain ⟨ex, σ'⟩ := q
      cases ex <;> try exact h
      rename_i id'
      dsimp only at h ⊢
      by_cases hid : id' = id
      · rw [if_pos hid]; simpa [hid] using h
      · rw [if_neg hid]
        have : (id' == id) = false := by simpa using hid
        simpa [this] using h
  | .loop ks ls a, σ, r, hd, h => by
    simp only [SC.drawsOk] at hd
    unfold codeC at h
    unfold codeN
    exact iter_mono (fun σ r h => codeC_le hc n hd h) (Nat.le_refl n) h
  | .exit _, _, _, _, h => h
  | .ret, _, _, _, h => h

theorem closeC_le {X : Env} (hd : ∀ f sf, X.fn f = some sf → sf.drawsOk = true) {c c' : Calls1} (hc : LeC c c') {n g : Nat} {caps : List V} {pv : V} {h h' : List HO} (hr : closeC X c n g caps pv h = some h') : closeN X c' n g caps pv h = some h' := by
  unfold closeC at hr
  unfold closeN
  simp only [Option.bind_eq_some_iff] at hr ⊢
  obtain ⟨sf, h1, R, h2, hr⟩ := hr
  refine ⟨sf, h1, R, h2, ?_⟩
  have hdr := hd g sf h1
  simp only [SF.drawsOk, Bool.and_eq_true, h2] at hdr
  cases e : codeC c n R.pre (St.init caps h) with
  | none => rw [e] at hr; cases hr
  | some q =>
    rw [e] at hr; rw [codeC_le hc n hdr.2.1 e]
    obtain ⟨ex, σ⟩ := q
    cases ex <;> first | (cases hr; done) | skip
    dsimp only at hr ⊢
    simp only [Option.bind_eq_some_iff] at hr ⊢
    obtain ⟨p, h3, h4⟩ := hr
    refine ⟨p, codeC_le hc n hdr.2.2 h3, ?_⟩
    cases hp : p.1.isEnd with
    | true => rw [hp] at h4; rw [if_pos rfl]; exact h4
    | false => rw [hp] at h4; cases h4

theorem bodyC_le {X : Env} (hd : ∀ f sf, X.fn f = some sf → sf.drawsOk = true) {c c' : Calls1} (hc : LeC c c') {n f : Nat} {sf : SF} (hf : X.fn f = some sf) {args : List V} {h : List HO} {r : CR × List HO} (hr : bodyC X c n sf args h = some r) : bodyN X c' n sf args h = some r := by
  have hdr := hd f sf hf
  simp only [SF.drawsOk, Bool.and_eq_true] at hdr
  unfold bodyC at hr
  unfold bodyN
  cases hdf : sf.dfr with
  | none =>
    cases hv : sf.rcv with
    | some R => rw [hdf, hv] at hr; cases hr
    | none =>
      rw [hdf, hv] at hr
      dsimp only at hr ⊢
      cases ec : codeC c n sf.body (St.init args h) with
      | none => rw [ec] at hr; cases hr
      | some q =>
        rw [ec] at hr
        rw [codeC_le hc n hdr.1.1 ec]
        obtain ⟨ex, σ'⟩ := q
        cases ex <;> first | (simpa only [endOfC, endOf, finishC_eq] using hr) | (cases hr)
  | some D =>
    cases hv : sf.rcv with
    | some R => rw [hdf, hv] at hr; cases hr
    | none =>
      rw [hdf, hv] at hr
      rw [hdf] at hdr
      simp only [Bool.and_eq_true] at hdr
      dsimp only at hr ⊢
      cases e : codeC c n D.pre (St.init args h) with
      | none => rw [e] at hr; cases hr
      | some q =>
        rw [e] at hr; rw [codeC_le hc n hdr.1.2.1 e]
        obtain ⟨ex, σ⟩ := q
        cases ex <;> first | (cases hr; done) | skip
        dsimp only at hr ⊢
        split at hr
        · rename_i g caps ht
          rw [ht]
          dsimp only
          simp only [Option.bind_eq_some_iff] at hr ⊢
          obtain ⟨p, h1, pv, h2, h', h3, h4⟩ := hr
          exact ⟨p, codeC_le hc n hdr.1.2.2 h1, pv, h2, h', closeC_le hd hc h3, by simpa only [finishC_eq] using h4⟩
        · cases hr

theorem callC_le {X : Env} (hd : ∀ f sf, X.fn f = some sf → sf.drawsOk = true) : ∀ n, LeC (callC X n) (callN X n)
  | 0 => fun _ _ _ _ h => by cases h
  | n + 1 => fun f a h r hr => by
    unfold callC at hr
    unfold callN
    cases e : X.ext f with
    | some g => rw [e] at hr; exact hr
    | none =>
      rw [e] at hr
      dsimp only at hr ⊢
      cases e' : X.fn f with
      | none => rw [e'] at hr; cases hr
      | some sf =>
        rw [e'] at hr
        dsimp only at hr ⊢
        exact bodyC_le hd (callC_le hd n) e' hr

/-- What the kernel computes, the VM answers. -/
theorem callC_VC {X : Env} (hd : ∀ f sf, X.fn f = some sf → sf.drawsOk = true) {n f : Nat} {a : List V} {h : List HO} {r : CR × List HO} (hr : callC X n f a h = some r) : VC X f a h = some r :=
  callN_VC X n f a h r (callC_le hd n f a h r hr)

end Go.Vm
end

section
set_option linter.unusedSimpArgs false
set_option linter.unusedVariables false
namespace Go.Vm
open Go

/-- What a function without a body owes. -/
def ExtOK (P : Program) (f : FuncId) (e : List V → List HO → Option (CR × List HO)) : Prop :=
  ∀ vs h r h', e vs h = some (r, h') → ∀ w G xs, WR w G h → VRs G w vs xs →
    ((callFunc f xs.toArray).run P w = .ok (.enter f xs.toArray) w ∧ Calls P f xs.toArray w (CPost w G h r h')) ∨
    (∃ x w', (callFunc f xs.toArray).run P w = .ok (.value x) w' ∧ CPost w G h r h' (.returned x) w')

def xCount (a : List V) (h : List HO) : Option (CR × List HO) :=
  match a with
  | [.str s, .int .u8 c] => some (.ret (.int .i64 (Lib.countByte s c.toNat.toUInt8)), h)
  | _ => none
def xIndex (a : List V) (h : List HO) : Option (CR × List HO) :=
  match a with
  | [.str s, .int .u8 c] => some (.ret (.int .i64 (Lib.indexByte s c.toNat.toUInt8)), h)
  | _ => none
def xFromBits (a : List V) (h : List HO) : Option (CR × List HO) :=
  match a with
  | [.int .u64 b] => some (.ret (.float .f64 b.toNat), h)
  | _ => none
def xBits (a : List V) (h : List HO) : Option (CR × List HO) :=
  match a with
  | [.float .f64 b] => some (.ret (.int .u64 b), h)
  | _ => none

section
variable {P : Program} {f : FuncId} {fn : Func}

theorem VRs.inv_cons {G : Gh} {w : World} {v : V} {vs : List V} {xs : List Value} (h : VRs G w (v :: vs) xs) : ∃ x xs', xs = x :: xs' ∧ VR G w v x ∧ VRs G w vs xs' := by
  cases h with
  | cons _ x _ xs' h1 h2 => exact ⟨x, xs', rfl, h1, h2⟩

theorem cpost_same {w : World} {G : Gh} {h : List HO} {v : V} {x : Value} (hw : WR w G h) (hv : VR G w v x) : CPost w G h (.ret v) h (.returned x) w :=
  ⟨G, Ext.refl w G L0 _, hw, hv⟩

theorem xCount_ok (hf : P.funcs[f]? = some fn) (hname : (fn.name == "runtime.NumGoroutine") = false) (hb : fn.body.isNone = true) (hn : Extern.findNext fn = none) (he : Extern.find fn = some Extern.BytealgCount.count) : ExtOK P f xCount := by
  intro vs h r h' e w G xs hw hv
  refine .inr ?_
  unfold xCount at e
  split at e
  · rename_i s c
    cases e
    obtain ⟨x, l1, rfl, h1, h2⟩ := hv.inv_cons
    obtain ⟨y, l2, rfl, h3, h4⟩ := h2.inv_cons
    cases h4
    obtain ⟨b, rfl, hb'⟩ := h1.inv_str
    have := h3.inv_int
    subst this
    refine ⟨_, w, ?_, cpost_same hw (.int _ _)⟩
    rw [run_callFunc_extern hf hname hb hn he]
    rw [Lib.run_countString, hb']
    rfl
  · cases e
theorem xIndex_ok (hf : P.funcs[f]? = some fn) (hname : (fn.name == "runtime.NumGoroutine") = false) (hb : fn.body.isNone = true) (hn : Extern.findNext fn = none) (he : Extern.find fn = some Extern.BytealgIndexByte.indexByte) : ExtOK P f xIndex := by
  intro vs h r h' e w G xs hw hv
  refine .inr ?_
  unfold xIndex at e
  split at e
  · rename_i s c
    cases e
    obtain ⟨x, l1, rfl, h1, h2⟩ := hv.inv_cons
    obtain ⟨y, l2, rfl, h3, h4⟩ := h2.inv_cons
    cases h4
    obtain ⟨b, rfl, hb'⟩ := h1.inv_str
    have := h3.inv_int
    subst this
    refine ⟨_, w, ?_, cpost_same hw (.int _ _)⟩
    rw [run_callFunc_extern hf hname hb hn he]
    rw [Lib.run_indexByteString, hb']
    rfl
  · cases e
theorem xFromBits_ok (hf : P.funcs[f]? = some fn) (hname : (fn.name == "runtime.NumGoroutine") = false) (hb : fn.body.isNone = true) (hn : Extern.findNext fn = none) (he : Extern.find fn = some Extern.MathFloatBits.float64frombits) : ExtOK P f xFromBits := by
  intro vs h r h' e w G xs hw hv
  refine .inr ?_
  unfold xFromBits at e
  split at e
  · rename_i b
    cases e
    obtain ⟨x, l1, rfl, h1, h2⟩ := hv.inv_cons
    cases h2
    have := h1.inv_int
    subst this
    refine ⟨_, w, ?_, cpost_same hw (.float _ _)⟩
    rw [run_callFunc_extern hf hname hb hn he]
    rfl
  · cases e
theorem xBits_ok (hf : P.funcs[f]? = some fn) (hname : (fn.name == "runtime.NumGoroutine") = false) (hb : fn.body.isNone = true) (hn : Extern.findNext fn = none) (he : Extern.find fn = some Extern.MathFloatBits.float64bits) : ExtOK P f xBits := by
  intro vs h r h' e w G xs hw hv
  refine .inr ?_
  unfold xBits at e
  split at e
  · rename_i b
    cases e
    obtain ⟨x, l1, rfl, h1, h2⟩ := hv.inv_cons
    cases h2
    cases h1
    refine ⟨_, w, ?_, cpost_same hw (.int _ _)⟩
    rw [run_callFunc_extern hf hname hb hn he]
    rfl
  · cases e
end
end Go.Vm
end

section
set_option linter.unusedSimpArgs false
set_option linter.unusedVariables false
namespace Go.Vm
open Go

def wp (r : Option (Ex × St)) (Q : Ex → St → Prop) : Prop :=
  match r with
  | some (e, σ) => Q e σ
  | none => False

@[simp] theorem wp_some (e : Ex) (σ : St) (Q : Ex → St → Prop) : wp (some (e, σ)) Q = Q e σ := rfl
@[simp] theorem wp_none (Q : Ex → St → Prop) : wp none Q = False := rfl

/-- What a round leaves: fewer rounds to come, or what follows the loop. -/
def loopQ (X : Env) (K : List It) (Q : Ex → St → Prop) (I : Nat → St → Prop) (n : Nat) (e : Ex) (σ : St) : Prop :=
  match e with
  | .normal => ∃ k, k < n ∧ I k σ
  | e => wp (contK X K e σ) Q

section
variable {X : Env} {K : List It} {Q : Ex → St → Prop} {I : Nat → St → Prop} {n : Nat} {σ : St}
@[simp] theorem loopQ_normal : loopQ X K Q I n .normal σ = ∃ k, k < n ∧ I k σ := rfl
@[simp] theorem loopQ_exit (id : Nat) : loopQ X K Q I n (.exit id) σ = wp (contK X K (.exit id) σ) Q := rfl
@[simp] theorem loopQ_ret : loopQ X K Q I n .ret σ = wp (contK X K .ret σ) Q := rfl
@[simp] theorem loopQ_pan (v : V) : loopQ X K Q I n (.pan v) σ = wp (contK X K (.pan v) σ) Q := rfl
end

theorem run_cons' {X : Env} {s : SC} {σ : St} {e : Ex} {σ' : St} (h : run X [.c s] σ = some (e, σ')) (K : List It) : run X (.c s :: K) σ = contK X K e σ' := by
  simp only [run, contK] at h ⊢
  cases hs : codeL X s σ with
  | none => rw [hs] at h; cases h
  | some q => rw [hs] at h; cases h; rfl

/-- A loop; 'I n σ': at most n rounds are to come. -/
theorem wp_loop {X : Env} {ks ls : List Nat} {body : SC} {K : List It} {Q : Ex → St → Prop} (I : Nat → St → Prop)
    (step : ∀ n σ, I n σ → wp (run X [.c body] (σ.keep ks ls)) (loopQ X K Q I n)) :
    ∀ n σ, I n σ → wp (run X (.c (.loop ks ls body) :: K) σ) Q := by
  intro n
  induction n using Nat.strongRecOn with
  | _ n ih =>
    intro σ hI
    have hs := step n σ hI
    cases hr : run X [.c body] (σ.keep ks ls) with
    | none => rw [hr] at hs; exact hs.elim
    | some q =>
      obtain ⟨e, σ'⟩ := q
      rw [hr] at hs
      rw [run_loop, run_cons' hr]
      cases e with
      | normal =>
        obtain ⟨m, hm, hI'⟩ := hs
        exact ih m hm σ' hI'
      | exit id => exact hs
      | ret => exact hs
      | pan v => exact hs

/-- A call's end. -/
def endP (sf : SF) (h : List HO) (P : CR → List HO → Prop) (e : Ex) (σ : St) : Prop :=
  match endOf sf h (some (e, σ)) with
  | some (r, h') => P r h'
  | none => False

theorem endP_ret (sf : SF) (h : List HO) (P : CR → List HO → Prop) (σ : St) : endP sf h P .ret σ = (match (results σ sf.res) with | some v => P (finish sf.keep h (.ret v) σ.h).1 (finish sf.keep h (.ret v) σ.h).2 | none => False) := by
  unfold endP
  simp only [endOf]
  cases results σ sf.res <;> rfl
theorem endP_normal (sf : SF) (h : List HO) (P : CR → List HO → Prop) (σ : St) : endP sf h P .normal σ = (match (results σ sf.res) with | some v => P (finish sf.keep h (.ret v) σ.h).1 (finish sf.keep h (.ret v) σ.h).2 | none => False) := by
  unfold endP
  simp only [endOf]
  cases results σ sf.res <;> rfl
theorem endP_pan (sf : SF) (h : List HO) (P : CR → List HO → Prop) (σ : St) (v : V) : endP sf h P (.pan v) σ = P (finish sf.keep h (.pan v) σ.h).1 (finish sf.keep h (.pan v) σ.h).2 := rfl
attribute [simp] endP_ret endP_normal endP_pan

/-- A call answers so. -/
def Ans (r : Option (CR × List HO)) (P : CR → List HO → Prop) : Prop :=
  match r with
  | some (r, h) => P r h
  | none => False

theorem Ans.eq {r : Option (CR × List HO)} {c : CR} {h : List HO} (a : Ans r fun r' h' => r' = c ∧ h' = h) : r = some (c, h) := by
  cases r with
  | none => exact a.elim
  | some q => obtain ⟨c', h'⟩ := q; obtain ⟨rfl, rfl⟩ := a; rfl

theorem Ans.ex {r : Option (CR × List HO)} {P : CR → List HO → Prop} (a : Ans r P) : ∃ c h, r = some (c, h) ∧ P c h := by
  cases r with
  | none => exact a.elim
  | some q => obtain ⟨c', h'⟩ := q; exact ⟨c', h', rfl, a⟩

theorem ans_wp {sf : SF} {h : List HO} {r : Option (Ex × St)} {P : CR → List HO → Prop} (a : wp r (endP sf h P)) : Ans (endOf sf h r) P := by
  cases r with
  | none => exact a.elim
  | some q =>
    obtain ⟨e, σ⟩ := q
    unfold wp endP at a
    dsimp only at a
    unfold Ans
    exact a

/-! ### tests -/

section
variable {X : Env} {K : List It} {Q : Ex → St → Prop} {σ : St} {a b : SC} {t w : Bool} {d : Option Nat} {o : SO} {os : List SOper}
theorem wp_cond (h1 : t = true → wp (run X (.c a :: K) σ) Q) (h2 : t = false → wp (run X (.c b :: K) σ) Q) : wp (condK X (.v (.bool t)) a b K σ) Q := by
  cases t
  · exact h2 rfl
  · exact h1 rfl
theorem wp_guardT (h1 : t = true → wp (after X (stepO (VC X) σ d o) d os K) Q) (h2 : t = false → wp (run X (.o os :: K) (σ.put d (.v (.tuple [])))) Q) : wp (guardK X (.v (.bool t)) true d o os K σ) Q := by
  cases t
  · exact h2 rfl
  · exact h1 rfl
theorem wp_guardF (h1 : t = true → wp (run X (.o os :: K) (σ.put d (.v (.tuple [])))) Q) (h2 : t = false → wp (after X (stepO (VC X) σ d o) d os K) Q) : wp (guardK X (.v (.bool t)) false d o os K σ) Q := by
  cases t
  · exact h2 rfl
  · exact h1 rfl
theorem wp_guardDT (h1 : t = true → wp (afterD X (stepO (VC X) σ d o) d os K) Q) (h2 : t = false → wp (run X (.d os :: K) (σ.put d (.v (.tuple [])))) Q) : wp (guardD X (.v (.bool t)) true d o os K σ) Q := by
  cases t
  · exact h2 rfl
  · exact h1 rfl
theorem wp_guardDF (h1 : t = true → wp (run X (.d os :: K) (σ.put d (.v (.tuple [])))) Q) (h2 : t = false → wp (afterD X (stepO (VC X) σ d o) d os K) Q) : wp (guardD X (.v (.bool t)) false d o os K σ) Q := by
  cases t
  · exact h2 rfl
  · exact h1 rfl
end

/-! ### the heap -/

@[simp] theorem app_at (h l : List HO) (k : Nat) : (h ++ l)[h.length + k]? = l[k]? := by
  rw [List.getElem?_append_right (by omega)]
  congr 1; omega
@[simp] theorem app_at0 (h l : List HO) : (h ++ l)[h.length]? = l[0]? := app_at h l 0
@[simp] theorem app_set (h l : List HO) (k : Nat) (x : HO) : (h ++ l).set (h.length + k) x = h ++ l.set k x := by
  rw [List.set_append_right _ _ (by omega)]
  congr 2; omega
@[simp] theorem app_set0 (h l : List HO) (x : HO) : (h ++ l).set h.length x = h ++ l.set 0 x := app_set h l 0 x

theorem finish_app (h l : List HO) (v : V) (hv : v.pure = true) : finish false h (.ret v) (h ++ l) = (.ret v, h) := by
  have h1 := finish_same h v hv
  have hf : frz h.length (h ++ l) v = some v := by
    have key : ∀ l' : List V, V.pure.pures l' = true → frzs h.length (h ++ l) l' = some l' := by
      intro l'
      induction l' with
      | nil => intro _; rfl
      | cons a l' ih =>
        intro hl
        simp only [V.pure.pures, Bool.and_eq_true] at hl
        simp only [frzs, frz1, hl.1, if_true, Option.bind_some, ih hl.2]
    have key2 : ∀ a : V, a.pure = true → frz2 h.length (h ++ l) a = some a := by
      intro a ha
      cases a <;> first | (simp only [frz2, frz1, ha, if_true]; done) | skip
      case agg cs => simp only [frz2, key cs ha, Option.map_some]
    have key3 : ∀ l' : List V, V.pure.pures l' = true → frz2s h.length (h ++ l) l' = some l' := by
      intro l'
      induction l' with
      | nil => intro _; rfl
      | cons a l' ih =>
        intro hl
        simp only [V.pure.pures, Bool.and_eq_true] at hl
        simp only [frz2s, key2 a hl.1, Option.bind_some, ih hl.2]
    cases v <;> first | (exact key2 _ hv) | skip
    case tuple vs => simp only [frz, key3 vs hv, Option.map_some]
  unfold finish
  dsimp only
  have hF : frzF h.length (h ++ l) v = some v := by unfold frzF; rw [hf]
  rw [if_pos ⟨rfl, by simp⟩, hF]

/-- The end of a call that answers a row of its own. -/
theorem finish_row (h l : List HO) (k ver s : Nat) (row : List V) (hk : l[k]? = some (.row ver row)) (hp : V.pure.pures row = true) (off len : Nat) (hl : off + len ≤ row.length) :
    finish false h (.ret (.sl (h.length + k) ver s off len)) (h ++ l) = (.ret (.snap ((row.drop off).take len)), h) := by
  unfold finish
  dsimp only
  rw [if_pos ⟨rfl, by simp⟩]
  have : frz h.length (h ++ l) (.sl (h.length + k) ver s off len) = some (.snap ((row.drop off).take len)) := by
    simp [frz, frz2, frz1, hk, hl, hp]
  have hF : frzF h.length (h ++ l) (.sl (h.length + k) ver s off len) = some (.snap ((row.drop off).take len)) := by unfold frzF; rw [this]
  rw [hF]

end Go.Vm
end
