/- The equations by which simp computes what code answers. -/
import Derived.Test.YthbfflleggnoaaaGreatDoorVmEq
set_option linter.unusedSimpArgs false
set_option linter.unusedVariables false
namespace Go.Vm
open Go

attribute [simp] run_nil run_skip run_seq run_block run_e run_exit run_ret run_ops run_o_nil run_o contK_nil contK_exit_c contK_exit_o contK_exit_e contK_ret contK_pan
attribute [simp] keepE keepM

section
variable {X : Env} {c : Calls1} {e : Nat → T} {m : Nat → Option (Nat × List V)} {g rb : Nat} {h : List HO} {d : Option Nat} {os : List SOper} {k : List It} {σ : St}

@[simp] theorem after_ok (x : T) : after X (some (.ok x σ)) d os k = run X (.o os :: k) (σ.put d x) := rfl
@[simp] theorem after_pan (v : V) : after X (some (.pan v σ)) d os k = some (.pan v, σ) := contK_pan X σ k v
@[simp] theorem after_none : after X none d os k = none := rfl
@[simp] theorem put_some (t : Nat) (x : T) : St.put ⟨e, m, g, rb, h⟩ (some t) x = ⟨upd e t x, m, g, rb, h⟩ := rfl
@[simp] theorem put_none (x : T) : St.put σ none x = σ := rfl
@[simp] theorem upd_app {α : Type} (f : Nat → α) (t : Nat) (x : α) (n : Nat) : upd f t x n = bif n == t then x else f n := rfl
@[simp] theorem ev_t (n : Nat) : St.ev ⟨e, m, g, rb, h⟩ (.t n) = e n := rfl
@[simp] theorem ev_c (v : V) : St.ev σ (.c v) = .v v := rfl
@[simp] theorem T_val (v : V) : T.val (.v v) = some v := rfl
@[simp] theorem T_val_loc (a b c : Nat) : T.val (.loc a b c) = none := rfl
@[simp] theorem val_t (n : Nat) : St.val ⟨e, m, g, rb, h⟩ (.t n) = (e n).val := rfl
@[simp] theorem val_c (v : V) : St.val σ (.c v) = some v := rfl
@[simp] theorem vals_nil : St.vals σ [] = some [] := rfl
@[simp] theorem vals_cons (x : Opd) (xs : List Opd) : St.vals σ (x :: xs) = (σ.val x).bind fun v => (σ.vals xs).bind fun vs => some (v :: vs) := rfl
@[simp] theorem cells_agg (cs : List V) : V.cells (.agg cs) = cs := rfl
@[simp] theorem cells_int (k : IntKind) (n : Int) : V.cells (.int k n) = [.int k n] := rfl
@[simp] theorem cells_bool (b : Bool) : V.cells (.bool b) = [.bool b] := rfl
@[simp] theorem cells_str (b : List UInt8) : V.cells (.str b) = [.str b] := rfl
@[simp] theorem cells_snap (b : List V) : V.cells (.snap b) = [.snap b] := rfl
@[simp] theorem cells_nils : V.cells .nils = [.nils] := rfl
@[simp] theorem cells_ptr (a b : Nat) : V.cells (.ptr a b) = [.ptr a b] := rfl
@[simp] theorem cells_map (a : Nat) : V.cells (.map a) = [.map a] := rfl
@[simp] theorem cells_sl (a b c d f : Nat) : V.cells (.sl a b c d f) = [.sl a b c d f] := rfl
@[simp] theorem mkv_true (cs : List V) : mkv true cs = some (.agg cs) := rfl
@[simp] theorem mkv_false (v : V) : mkv false [v] = some v := rfl
@[simp] theorem cut_def (cs : List V) (off n : Nat) : cut cs off n = if off + n ≤ cs.length then some ((cs.drop off).take n) else none := rfl
@[simp] theorem setRange_def (cs : List V) (off : Nat) (xs : List V) : setRange cs off xs = cs.take off ++ xs ++ cs.drop (off + xs.length) := rfl

attribute [simp] eqK eqKs eqN isKey eqKey V.isK bitsV intV strV floatV shiftV binV unV mm2 mms St.elems bound1 sliceV St.cellsAt T.local findE setE setBorn St.newH St.storeAt

@[simp] theorem stepO_mov (x : Opd) : stepO c σ d (.mov x) = some (.ok (σ.ev x) σ) := rfl

/-- The answer of an operation that looks at temporaries, or reads. -/
def okO (σ : St) (r : Option T) : Option Out := r.map fun x => .ok x σ
@[simp] theorem okO_some (x : T) : okO σ (some x) = some (.ok x σ) := rfl
@[simp] theorem okO_none : okO σ none = none := rfl

def isPureO : SO → Bool
  | .mov .. | .pick .. | .build .. | .bsnap .. | .nilck .. | .bin .. | .cmpB .. | .cmpA .. | .cmpN .. | .un .. | .cvI .. | .cvF .. | .cvFI .. | .cvSS .. | .mkif .. | .mkfn ..
  | .slice .. | .faddr .. | .field .. | .iaddr .. | .index .. | .extract .. | .num .. | .minmax .. | .cap .. | .tassert .. | .ifn .. => true
  | _ => false

theorem stepO_pure {o : SO} (ho : isPureO o = true) : stepO c σ d o = okO σ (pureO σ o) := by
  cases o <;> first | (cases ho; done) | skip
  all_goals
    simp only [stepO, okO]
    split
    · rename_i e; rw [e]; rfl
    · rename_i e; rw [e]; rfl

theorem stepO_read {o : SO} (ho : ∀ σ : St, pureO σ o = none) (he : ∀ (σ : St) d, effO σ d o = none) (hc : ∀ s f a, o ≠ .call s f a) (hp : ∀ f a, o ≠ .pcall f a := by intro _ _ h; cases h) : stepO c σ d o = okO σ (readO σ o) := by
  cases o <;> first | (exact absurd rfl (hc _ _ _)) | (exact absurd rfl (hp _ _)) | skip
  all_goals
    simp only [stepO, okO, ho, he]
    split
    · rename_i e; rw [e]; rfl
    · rename_i e; rw [e]; rfl

theorem stepO_eff {o : SO} (ho : ∀ σ : St, pureO σ o = none) (he : ∀ (σ : St), readO σ o = none) (hc : ∀ s f a, o ≠ .call s f a) (hp : ∀ f a, o ≠ .pcall f a := by intro _ _ h; cases h) : stepO c σ d o = effO σ d o := by
  cases o <;> first | (exact absurd rfl (hc _ _ _)) | (exact absurd rfl (hp _ _)) | skip
  all_goals simp only [stepO, ho, he]

@[simp] theorem stepO_pick (a b c' : Opd) : stepO c σ d (.pick a b c') = okO σ (match σ.ev a, σ.ev b, σ.ev c' with
    | .v (.bool true), a, _ => some a
    | .v (.bool false), _, b => some b
    | _, _, _ => none) := stepO_pure rfl
@[simp] theorem stepO_build (zero : List V) (ps : List (Nat × Nat × Opd)) : stepO c σ d (.build zero ps) = okO σ (pureO σ (.build zero ps)) := stepO_pure rfl
@[simp] theorem pureO_build (zero : List V) (ps : List (Nat × Nat × Opd)) : pureO σ (.build zero ps) =
    (ps.foldl (fun (acc : Option (List V)) p => acc.bind fun cs => (σ.val p.2.2).bind fun x =>
      if x.cells.length = p.2.1 ∧ p.1 + p.2.1 ≤ cs.length then some (setRange cs p.1 x.cells) else none) (some zero)).map fun cs => .v (.agg cs) := rfl
@[simp] theorem stepO_bsnap (n : Nat) (xs : List Opd) : stepO c σ d (.bsnap n xs) = okO σ ((σ.vals xs).bind fun vs => if vs.all (fun v => v.cells.length == n) then some (.v (.snap vs)) else none) := stepO_pure rfl
@[simp] theorem stepO_nilck (x : Opd) : stepO c σ d (.nilck x) = okO σ (match σ.ev x with
    | .v .undef | .v .nilp | .v .nili | .v .nilf => none
    | .v (.ptr a b) => some (.v (.ptr a b))
    | .v (.cref a) => some (.v (.cref a))
    | .v (.eptr a b c d) => some (.v (.eptr a b c d))
    | .loc a b c => some (.loc a b c)
    | _ => none) := stepO_pure rfl
@[simp] theorem stepO_bin (op : BinOp) (x y : Opd) : stepO c σ d (.bin op x y) = okO σ ((σ.val x).bind fun a => (σ.val y).bind fun b => (binV op a b).map .v) := stepO_pure rfl
@[simp] theorem stepO_cmpB (n : Bool) (x y : Opd) : stepO c σ d (.cmpB n x y) = okO σ (match σ.val x, σ.val y with | some (.bool a), some (.bool b) => some (.v (.bool (n ^^ (a == b)))) | _, _ => none) := stepO_pure rfl
@[simp] theorem stepO_cmpA (n : Bool) (ks : List K) (x y : Opd) : stepO c σ d (.cmpA n ks x y) = okO σ (match σ.val x, σ.val y with
    | some (.agg a), some (.agg b) => (eqKs ks a b).map fun t => .v (.bool (n ^^ t))
    | _, _ => none) := stepO_pure rfl
@[simp] theorem stepO_cmpN (n : Bool) (tk : Nat) (x y : Opd) : stepO c σ d (.cmpN n tk x y) = okO σ ((σ.val x).bind fun a => (σ.val y).bind fun b => (eqN tk a b).map fun t => .v (.bool (n ^^ t))) := stepO_pure rfl
@[simp] theorem stepO_un (op : UnOp) (x : Opd) : stepO c σ d (.un op x) = okO σ ((σ.val x).bind fun a => (unV op a).map .v) := stepO_pure rfl
@[simp] theorem stepO_cvI (k : IntKind) (x : Opd) : stepO c σ d (.cvI k x) = okO σ (match σ.val x with | some (.int _ n) => some (.v (.int k (k.wrap n))) | _ => none) := stepO_pure rfl
@[simp] theorem stepO_cvF (k : FloatKind) (x : Opd) : stepO c σ d (.cvF k x) = okO σ (match σ.val x with | some (.int _ n) => some (.v (.float k (k.nearest n))) | _ => none) := stepO_pure rfl
@[simp] theorem stepO_cvSS (x : Opd) : stepO c σ d (.cvSS x) = okO σ (match σ.val x with | some (.str s) => some (.v (.str s)) | _ => none) := stepO_pure rfl
@[simp] theorem stepO_mkif (t : Nat) (x : Opd) : stepO c σ d (.mkif t x) = okO σ ((σ.val x).map fun v => .v (.iface t v)) := stepO_pure rfl
@[simp] theorem stepO_mkfn (f : Nat) (xs : List Opd) : stepO c σ d (.mkfn f xs) = okO σ ((σ.vals xs).map fun vs => .v (.func f vs)) := stepO_pure rfl
@[simp] theorem stepO_slice (str : Bool) (z : Nat) (x : Opd) (lo hi mx : Option Opd) : stepO c σ d (.slice str z x lo hi mx) = okO σ ((σ.val x).bind fun v => (sliceV σ str z v lo hi mx).map .v) := stepO_pure rfl
@[simp] theorem stepO_faddr (n : Nat) (x : Opd) : stepO c σ d (.faddr n x) = okO σ (match σ.ev x with
    | .loc d g o => some (.loc d g (o + n))
    | .v (.ptr id o) => some (.v (.ptr id (o + n)))
    | .v (.cref cs) => some (.v (.cref (cs.drop n)))
    | .v (.eptr id ver i o) => some (.v (.eptr id ver i (o + n)))
    | _ => none) := stepO_pure rfl
@[simp] theorem stepO_field (ag : Bool) (off n : Nat) (x : Opd) : stepO c σ d (.field ag off n x) = okO σ (match σ.val x with
    | some (.agg cs) => (cut cs off n).bind fun c => (mkv ag c).map .v
    | _ => none) := stepO_pure rfl
@[simp] theorem stepO_iaddr (arr : Option Nat) (size : Nat) (x i : Opd) : stepO c σ d (.iaddr arr size x i) = okO σ (pureO σ (.iaddr arr size x i)) := stepO_pure rfl
@[simp] theorem pureO_iaddr_none (size : Nat) (x i : Opd) : pureO σ (.iaddr none size x i) = match σ.val x, σ.val i with
    | some (.snap l), some (.int _ i) => if 0 ≤ i then (l[i.toNat]?).bind fun v => if v.cells.length = size then some (.v (.cref v.cells)) else none else none
    | some (.sl id ver sz off len), some (.int _ i) => if 0 ≤ i ∧ i < len ∧ sz = size then some (.v (.eptr id ver (off + i.toNat) 0)) else none
    | _, _ => none := rfl
@[simp] theorem pureO_iaddr_some (n size : Nat) (x i : Opd) : pureO σ (.iaddr (some n) size x i) = match σ.ev x, σ.val i with
    | .loc d g o, some (.int _ i) => if 0 ≤ i ∧ i < n then some (.loc d g (o + i.toNat * size)) else none
    | .v (.ptr id o), some (.int _ i) => if 0 ≤ i ∧ i < n then some (.v (.ptr id (o + i.toNat * size))) else none
    | .v (.cref cs), some (.int _ i) => if 0 ≤ i ∧ i < n then some (.v (.cref (cs.drop (i.toNat * size)))) else none
    | .v (.eptr id ver j o), some (.int _ i) => if 0 ≤ i ∧ i < n then some (.v (.eptr id ver j (o + i.toNat * size))) else none
    | _, _ => none := rfl
@[simp] theorem stepO_index (arr : Option (Nat × Nat × Bool)) (x i : Opd) : stepO c σ d (.index arr x i) = okO σ (pureO σ (.index arr x i)) := stepO_pure rfl
@[simp] theorem pureO_index_none (x i : Opd) : pureO σ (.index none x i) = match σ.val x, σ.val i with
    | some (.str s), some (.int _ i) => if 0 ≤ i then (s[i.toNat]?).map fun b => .v (.int .u8 (b.toNat : Int)) else none
    | _, _ => none := rfl
@[simp] theorem pureO_index_some (n size : Nat) (ag : Bool) (x i : Opd) : pureO σ (.index (some (n, size, ag)) x i) = match σ.val x, σ.val i with
    | some (.agg cs), some (.int _ i) => if 0 ≤ i ∧ i < n then (cut cs (i.toNat * size) size).bind fun c => (mkv ag c).map .v else none
    | _, _ => none := rfl
theorem cut_one (cs : List V) (k : Nat) : ((cut cs k 1).bind fun c => (mkv false c).map T.v) = (cs[k]?).map T.v := by
  unfold cut
  by_cases h : k + 1 ≤ cs.length
  · rw [if_pos h]
    have hk : k < cs.length := by omega
    rw [List.getElem?_eq_getElem hk, List.drop_eq_getElem_cons hk]
    rfl
  · rw [if_neg h, List.getElem?_eq_none (by omega)]
    rfl

@[simp high] theorem stepO_index1 (n : Nat) (x i : Opd) : stepO c σ d (.index (some (n, 1, false)) x i) = okO σ (match σ.val x, σ.val i with
    | some (.agg cs), some (.int _ i) => if 0 ≤ i ∧ i < n then (cs[i.toNat]?).map .v else none
    | _, _ => none) := by
  rw [stepO_pure rfl]
  congr 1
  simp only [pureO, Nat.mul_one]
  simp only [cut_one]
  rfl

theorem setRange_one (cs : List V) (off : Nat) (x : V) (h : off + 1 ≤ cs.length) : setRange cs off [x] = cs.set off x := by
  simp only [setRange, List.length_singleton]
  rw [List.set_eq_take_append_cons_drop, if_pos (by omega)]
  simp

@[simp high] theorem storeAt_loc1 (e : Nat → T) (m : Nat → Option (Nat × List V)) (g rb : Nat) (h : List HO) (x : V) (d g' off : Nat) : St.storeAt ⟨e, m, g, rb, h⟩ [x] (.loc d g' off) = match m d with
    | some (g1, cs) => if g1 = g' ∧ off + 1 ≤ cs.length then some ⟨e, upd m d (some (g', cs.set off x)), g, rb, h⟩ else none
    | none => none := by
  unfold St.storeAt
  dsimp only
  cases m d with
  | none => rfl
  | some q =>
    obtain ⟨g1, cs⟩ := q
    dsimp only [List.length_singleton]
    split
    · rename_i hc; rw [setRange_one _ _ _ hc.2]
    · rfl

/-- One cell at an address. -/
def St.cellAt (σ : St) : T → Option V
  | .loc d g off =>
    match σ.m d with
    | some (g', cs) => if g' = g then cs[off]? else none
    | none => none
  | .v (.ptr id off) =>
    match σ.h[id]? with
    | some (.cells cs) => cs[off]?
    | _ => none
  | .v (.cref cs) => cs[0]?
  | .v (.eptr id ver i off) =>
    match σ.h[id]? with
    | some (.row ver' l) => if ver' = ver then (l[i]?).bind fun v => v.cells[off]? else none
    | _ => none
  | _ => none
attribute [simp] St.cellAt

theorem cellAt_ok (σ : St) (t : T) : ((σ.cellsAt 1 t).bind fun cs => (mkv false cs).map T.v) = (σ.cellAt t).map T.v := by
  unfold St.cellsAt St.cellAt
  cases t with
  | loc d g off =>
    dsimp only
    cases σ.m d with
    | none => rfl
    | some q =>
      obtain ⟨g', cs⟩ := q
      dsimp only
      split
      · exact cut_one cs off
      · rfl
  | v u =>
    cases u <;> try rfl
    case ptr id off =>
      dsimp only
      cases σ.h[id]? with
      | none => rfl
      | some q => cases q <;> first | rfl | exact cut_one _ _
    case cref cs => exact cut_one cs 0
    case eptr id ver i off =>
      dsimp only
      cases σ.h[id]? with
      | none => rfl
      | some q =>
        cases q <;> try rfl
        rename_i ver' l
        dsimp only
        split
        · cases l[i]? with
          | none => rfl
          | some v => exact cut_one _ _
        · rfl

@[simp high] theorem stepO_load1 (st : Bool) (a : Opd) : stepO c σ d (.load st false 1 a) = okO σ (if st && !(σ.ev a).local then none else (σ.cellAt (σ.ev a)).map .v) := by
  have : stepO c σ d (.load st false 1 a) = okO σ (readO σ (.load st false 1 a)) := stepO_read (fun _ => rfl) (fun _ _ => rfl) (fun _ _ _ h => by cases h)
  rw [this]
  simp only [readO, cellAt_ok]

@[simp] theorem stepO_no : stepO c σ d .no = none := rfl
@[simp] theorem stepO_tassert (t : Nat) (x : Opd) : stepO c σ d (.tassert t x) = okO σ (match σ.val x with | some (.iface t' v) => if t' = t then some (.v (.tuple [v, .bool true])) else none | _ => none) := stepO_pure rfl
@[simp] theorem stepO_ifn (neg : Bool) (x : Opd) : stepO c σ d (.ifn neg x) = okO σ (match σ.val x with | some .nili => some (.v (.bool (neg ^^ true))) | some (.iface _ _) => some (.v (.bool (neg ^^ false))) | _ => none) := stepO_pure rfl
@[simp] theorem stepO_loadA (A : Acc) (ag : Bool) (n : Nat) (a : Opd) : stepO c σ d (.loadA A ag n a) = okO σ (if A.ok (σ.ev a) = true then (σ.cellsAt n (σ.ev a)).bind fun cs => (mkv ag cs).map .v else none) := stepO_read (fun _ => rfl) (fun _ _ => rfl) (fun _ _ _ h => by cases h)
@[simp] theorem stepO_loadN (x : Nat) (ag : Bool) (n : Nat) (a : Opd) : stepO c σ d (.loadN x ag n a) = okO σ (σ.loadN x ag n (σ.ev a)) := stepO_read (fun _ => rfl) (fun _ _ => rfl) (fun _ _ _ h => by cases h)
@[simp] theorem stepO_storeA (A : Acc) (n : Nat) (a x : Opd) : stepO c σ d (.storeA A n a x) = (σ.val x).bind fun v => if v.cells.length = n ∧ A.ok (σ.ev a) = true then (σ.storeAt v.cells (σ.ev a)).map fun σ' => .ok (.v .undef) σ' else none := stepO_eff (fun _ => rfl) (fun _ => rfl) (fun _ _ _ h => by cases h)
@[simp] theorem stepO_frzL (n : Nat) (x : Opd) : stepO c σ d (.frzL n x) = effO σ d (.frzL n x) := stepO_eff (fun _ => rfl) (fun _ => rfl) (fun _ _ _ h => by cases h)
@[simp] theorem stepO_appendz (z b : Nat) (v : V) (x y : Opd) : stepO c σ d (.appendz z b v x y) = effO σ d (.appendz z b v x y) := stepO_eff (fun _ => rfl) (fun _ => rfl) (fun _ _ _ h => by cases h)
@[simp] theorem stepO_pcall (f : Opd) (args : List Opd) : stepO c σ d (.pcall f args) =
    match σ.val f, σ.vals args with
    | some (.func f caps), some vs =>
      if V.pure.pures (vs ++ caps) = true then
        match c f (vs ++ caps) [] with
        | some (.ret v, []) => if v.pure = true then some (.ok (.v v) σ) else none
        | _ => none
      else none
    | _, _ => none := rfl
attribute [simp] Acc.ok St.loadN
@[simp] theorem stepO_extract (x : Opd) (i : Nat) : stepO c σ d (.extract x i) = okO σ (match σ.val x with
    | some (.tuple vs) => (vs[i]?).map .v
    | _ => none) := stepO_pure rfl
@[simp] theorem stepO_num (n : Int) : stepO c σ d (.num n) = some (.ok (.v (.int .i64 n)) σ) := rfl
@[simp] theorem stepO_minmax (b : Bool) (xs : List Opd) : stepO c σ d (.minmax b xs) = okO σ ((σ.vals xs).bind fun vs => match vs with | [] => none | x :: r => (mms b x r).map .v) := stepO_pure rfl
@[simp] theorem stepO_cap (x : Opd) : stepO c σ d (.cap x) = okO σ (match σ.val x with | some .nils => some (.v (.int .i64 0)) | _ => none) := stepO_pure rfl

@[simp] theorem stepO_len0 (x : Opd) : stepO c σ d (.len 0 x) = okO σ (match σ.val x with
    | some (.str s) => some (.v (.int .i64 (s.length : Int)))
    | _ => none) := by
  simp only [stepO, pureO, readO, effO]
  cases σ.val x with
  | none => rfl
  | some v => cases v <;> rfl
@[simp] theorem stepO_len1 (x : Opd) : stepO c σ d (.len 1 x) = okO σ (match σ.val x with
    | some .nils => some (.v (.int .i64 0))
    | some (.snap l) => some (.v (.int .i64 (l.length : Int)))
    | some (.sl _ _ _ _ len) => some (.v (.int .i64 (len : Int)))
    | _ => none) := by
  simp only [stepO, pureO, readO, effO]
  cases σ.val x with
  | none => rfl
  | some v => cases v <;> rfl
@[simp] theorem stepO_len2 (x : Opd) : stepO c σ d (.len 2 x) = okO σ (match σ.val x with
    | some .nilm => some (.v (.int .i64 0))
    | some (.map id) =>
      match σ.h[id]? with
      | some (.map es _) => some (.v (.int .i64 (es.length : Int)))
      | _ => none
    | _ => none) := by
  simp only [stepO, pureO, readO, effO]
  cases σ.val x with
  | none => rfl
  | some v =>
    cases v <;> first | rfl | skip
    case map id =>
      show (match (match σ.h[id]? with
          | some (.map es _) => some (T.v (.int .i64 (es.length : Int)))
          | _ => none) with
        | some x => some (Out.ok x σ)
        | none => none) = okO σ (match σ.h[id]? with
          | some (.map es _) => some (T.v (.int .i64 (es.length : Int)))
          | _ => none)
      generalize σ.h[id]? = q
      cases q with
      | none => rfl
      | some o => cases o <;> rfl

@[simp] theorem stepO_load (s ag : Bool) (n : Nat) (a : Opd) : stepO c σ d (.load s ag n a) = okO σ (if s && !(σ.ev a).local then none else
    (σ.cellsAt n (σ.ev a)).bind fun cs => (mkv ag cs).map .v) := stepO_read (fun _ => rfl) (fun _ _ => rfl) (fun _ _ _ h => by cases h)
@[simp] theorem stepO_lookup (ks : KT) (zero : V) (ok : Bool) (x i : Opd) : stepO c σ d (.lookup ks zero ok x i) = okO σ (readO σ (.lookup ks zero ok x i)) :=
  stepO_read (fun _ => rfl) (fun _ _ => rfl) (fun _ _ _ h => by cases h)
@[simp] theorem readO_lookup (ks : KT) (zero : V) (ok : Bool) (x i : Opd) : readO σ (.lookup ks zero ok x i) =
    match σ.val x, (σ.val i).filter (isKey ks) with
    | some .nilm, some _ => some (.v (bif ok then .tuple [zero, .bool false] else zero))
    | some (.map id), some k =>
      match σ.h[id]? with
      | some (.map es _) =>
        match findE ks k es with
        | some (some (v, _)) => some (.v (bif ok then .tuple [v, .bool true] else v))
        | some none => some (.v (bif ok then .tuple [zero, .bool false] else zero))
        | none => none
      | _ => none
    | _, _ => none := rfl
@[simp] theorem stepO_cvBS (x : Opd) : stepO c σ d (.cvBS x) = okO σ (match σ.val x with
    | some v => (σ.elems v).bind fun l => (unbytes l).map fun s => .v (.str s)
    | _ => none) := stepO_read (fun _ => rfl) (fun _ _ => rfl) (fun _ _ _ h => by cases h)

@[simp] theorem stepO_allocL (z : List V) (t : Nat) : stepO c ⟨e, m, g, rb, h⟩ (some t) (.allocL z) = some (.ok (.loc t g 0) ⟨e, upd m t (some (g, z)), g + 1, rb, h⟩) := rfl
@[simp] theorem stepO_boxL (x : Opd) (t : Nat) : stepO c ⟨e, m, g, rb, h⟩ (some t) (.boxL x) = match St.val ⟨e, m, g, rb, h⟩ x with
    | some v => if v.cells.length = 0 then none else some (.ok (.loc t g 0) ⟨e, upd m t (some (g, v.cells)), g + 1, rb, h⟩)
    | none => none := by
  refine (stepO_eff (fun _ => rfl) (fun _ => rfl) (fun _ _ _ h => by cases h)).trans ?_
  simp only [effO]
  cases St.val ⟨e, m, g, rb, h⟩ x <;> rfl
@[simp] theorem stepO_allocH (s : Option Nat) (z : List V) : stepO c σ d (.allocH s z) = (σ.newH s (.cells z)).map fun p => .ok (.v (.ptr p.1 0)) p.2 := stepO_eff (fun _ => rfl) (fun _ => rfl) (fun _ _ _ h => by cases h)
@[simp] theorem stepO_boxH (s : Option Nat) (x : Opd) : stepO c σ d (.boxH s x) = (σ.val x).bind fun v => if v.cells.length = 0 then none else (σ.newH s (.cells v.cells)).map fun p => .ok (.v (.ptr p.1 0)) p.2 := stepO_eff (fun _ => rfl) (fun _ => rfl) (fun _ _ _ h => by cases h)
@[simp] theorem stepO_mkmap (s : Option Nat) : stepO c σ d (.mkmap s) = (σ.newH s (.map [] 0)).map fun p => .ok (.v (.map p.1)) p.2 := stepO_eff (fun _ => rfl) (fun _ => rfl) (fun _ _ _ h => by cases h)
@[simp] theorem stepO_mkslice (s : Option Nat) (b z : Nat) (zero : V) (x y : Opd) : stepO c σ d (.mkslice s b z zero x y) = effO σ d (.mkslice s b z zero x y) := stepO_eff (fun _ => rfl) (fun _ => rfl) (fun _ _ _ h => by cases h)
@[simp] theorem stepO_brow (n : Nat) (xs : List Opd) : stepO c σ d (.brow n xs) = effO σ d (.brow n xs) := stepO_eff (fun _ => rfl) (fun _ => rfl) (fun _ _ _ h => by cases h)
@[simp] theorem stepO_cvSB (x : Opd) : stepO c σ d (.cvSB x) = effO σ d (.cvSB x) := stepO_eff (fun _ => rfl) (fun _ => rfl) (fun _ _ _ h => by cases h)
@[simp] theorem stepO_store (n : Nat) (a x : Opd) : stepO c σ d (.store n a x) = (σ.val x).bind fun v => if v.cells.length = n then (σ.storeAt v.cells (σ.ev a)).map fun σ' => .ok (.v .undef) σ' else none := stepO_eff (fun _ => rfl) (fun _ => rfl) (fun _ _ _ h => by cases h)
@[simp] theorem stepO_mapup (ks : KT) (x k v : Opd) : stepO c σ d (.mapup ks x k v) = effO σ d (.mapup ks x k v) := stepO_eff (fun _ => rfl) (fun _ => rfl) (fun _ _ _ h => by cases h)
@[simp] theorem stepO_mapent (ks : KT) (z : V) (x k : Opd) : stepO c σ d (.mapent ks z x k) = effO σ d (.mapent ks z x k) := stepO_eff (fun _ => rfl) (fun _ => rfl) (fun _ _ _ h => by cases h)
@[simp] theorem stepO_entst (x k v : Opd) : stepO c σ d (.entst x k v) = effO σ d (.entst x k v) := stepO_eff (fun _ => rfl) (fun _ => rfl) (fun _ _ _ h => by cases h)
@[simp] theorem stepO_append (z b : Nat) (x y : Opd) : stepO c σ d (.append z b x y) = effO σ d (.append z b x y) := stepO_eff (fun _ => rfl) (fun _ => rfl) (fun _ _ _ h => by cases h)
@[simp] theorem stepO_copy (x y : Opd) : stepO c σ d (.copy x y) = effO σ d (.copy x y) := stepO_eff (fun _ => rfl) (fun _ => rfl) (fun _ _ _ h => by cases h)
@[simp] theorem stepO_clear (z : V) (x : Opd) : stepO c σ d (.clear z x) = effO σ d (.clear z x) := stepO_eff (fun _ => rfl) (fun _ => rfl) (fun _ _ _ h => by cases h)
@[simp] theorem stepO_panic (x : Opd) : stepO c σ d (.panic x) = (σ.val x).bind fun v => match v with | .iface t y => some (.pan (.iface t y) σ) | _ => none := stepO_eff (fun _ => rfl) (fun _ => rfl) (fun _ _ _ h => by cases h)

/-- A test, and a guard: taken apart where the bool is known. -/
noncomputable def condK (X : Env) (t : T) (a b : SC) (k : List It) (σ : St) : Option (Ex × St) :=
  match t with
  | .v (.bool t) => bif t then run X (.c a :: k) σ else run X (.c b :: k) σ
  | _ => none
noncomputable def guardK (X : Env) (t : T) (w : Bool) (d : Option Nat) (o : SO) (os : List SOper) (k : List It) (σ : St) : Option (Ex × St) :=
  match t with
  | .v (.bool b) => bif b == w then after X (stepO (VC X) σ d o) d os k else run X (.o os :: k) (σ.put d (.v (.tuple [])))
  | .v (.tuple []) => run X (.o os :: k) (σ.put d (.v (.tuple [])))
  | _ => none
@[simp] theorem run_condK (x : Opd) (a b : SC) : run X (.c (.cond x a b) :: k) σ = condK X (σ.ev x) a b k σ := by
  unfold condK
  split
  · rename_i h; rw [run_cond X σ k x a b h]
  · rename_i h
    simp only [run, contK, codeL_cond]
@[simp] theorem run_guardK (t : Nat) (w : Bool) (o : SO) : run X (.o (⟨d, some (t, w), o⟩ :: os) :: k) σ = guardK X (σ.e t) w d o os k σ := by
  unfold guardK
  split
  · rename_i h; rw [run_g X σ k d t w o os h]
  · rename_i h
    simp only [run, contK, runOps, stepG, h]
  · rename_i h h2
    simp only [run, contK, runOps, stepG]
@[simp] theorem condK_true (a b : SC) : condK X (.v (.bool true)) a b k σ = run X (.c a :: k) σ := rfl
@[simp] theorem condK_false (a b : SC) : condK X (.v (.bool false)) a b k σ = run X (.c b :: k) σ := rfl
@[simp] theorem guardK_tt (o : SO) : guardK X (.v (.bool true)) true d o os k σ = after X (stepO (VC X) σ d o) d os k := rfl
@[simp] theorem guardK_ff (o : SO) : guardK X (.v (.bool false)) false d o os k σ = after X (stepO (VC X) σ d o) d os k := rfl
@[simp] theorem guardK_tf (o : SO) : guardK X (.v (.bool true)) false d o os k σ = run X (.o os :: k) (σ.put d (.v (.tuple []))) := rfl
@[simp] theorem guardK_ft (o : SO) : guardK X (.v (.bool false)) true d o os k σ = run X (.o os :: k) (σ.put d (.v (.tuple []))) := rfl
theorem condK_ite (t : Bool) (a b : SC) : condK X (.v (.bool t)) a b k σ = if t = true then run X (.c a :: k) σ else run X (.c b :: k) σ := by cases t <;> rfl
@[simp] theorem guardK_un (w : Bool) (o : SO) : guardK X (.v (.tuple [])) w d o os k σ = run X (.o os :: k) (σ.put d (.v (.tuple []))) := rfl
theorem guardK_ite (t w : Bool) (o : SO) : guardK X (.v (.bool t)) w d o os k σ = if t = w then after X (stepO (VC X) σ d o) d os k else run X (.o os :: k) (σ.put d (.v (.tuple []))) := by
  cases t <;> cases w <;> rfl

@[simp] theorem run_d_nil' : run X (.d [] :: k) σ = run X k σ := rfl
@[simp] theorem run_d' (o : SO) : run X (.d (⟨d, none, o⟩ :: os) :: k) σ = afterD X (stepO (VC X) σ d o) d os k := run_d X σ k d o os
@[simp] theorem afterD_ok (x : T) : afterD X (some (.ok x σ)) d os k = run X (.d os :: k) (σ.put d x) := rfl
@[simp] theorem afterD_pan (v : V) : afterD X (some (.pan v σ)) d os k = none := rfl
@[simp] theorem afterD_none : afterD X none d os k = none := rfl
noncomputable def guardD (X : Env) (t : T) (w : Bool) (d : Option Nat) (o : SO) (os : List SOper) (k : List It) (σ : St) : Option (Ex × St) :=
  match t with
  | .v (.bool b) => bif b == w then afterD X (stepO (VC X) σ d o) d os k else run X (.d os :: k) (σ.put d (.v (.tuple [])))
  | .v (.tuple []) => run X (.d os :: k) (σ.put d (.v (.tuple [])))
  | _ => none
@[simp] theorem run_guardD (t : Nat) (w : Bool) (o : SO) : run X (.d (⟨d, some (t, w), o⟩ :: os) :: k) σ = guardD X (σ.e t) w d o os k σ := by
  unfold guardD
  split
  · rename_i h; rw [run_dg X σ k d t w o os h]
  · rename_i h
    simp only [run, contK, runOps, stepG, onlyN, h]
  · rename_i h h2
    simp only [run, contK, runOps, stepG, onlyN]
@[simp] theorem guardD_tt (o : SO) : guardD X (.v (.bool true)) true d o os k σ = afterD X (stepO (VC X) σ d o) d os k := rfl
@[simp] theorem guardD_ff (o : SO) : guardD X (.v (.bool false)) false d o os k σ = afterD X (stepO (VC X) σ d o) d os k := rfl
@[simp] theorem guardD_tf (o : SO) : guardD X (.v (.bool true)) false d o os k σ = run X (.d os :: k) (σ.put d (.v (.tuple []))) := rfl
@[simp] theorem guardD_ft (o : SO) : guardD X (.v (.bool false)) true d o os k σ = run X (.d os :: k) (σ.put d (.v (.tuple []))) := rfl
@[simp] theorem guardD_un (w : Bool) (o : SO) : guardD X (.v (.tuple [])) w d o os k σ = run X (.d os :: k) (σ.put d (.v (.tuple []))) := rfl
theorem guardD_ite (t w : Bool) (o : SO) : guardD X (.v (.bool t)) w d o os k σ = if t = w then afterD X (stepO (VC X) σ d o) d os k else run X (.d os :: k) (σ.put d (.v (.tuple []))) := by
  cases t <;> cases w <;> rfl
@[simp] theorem drawn_def (n : Nat) : St.drawn ⟨e, m, g, rb, h⟩ n = ⟨e, m, g, h.length, h ++ List.replicate n .hole⟩ := rfl

/-- What follows a call. -/
noncomputable def called (strict : Bool) (r : Option (CR × List HO)) (σ : St) : Option Out :=
  open Classical in
  match r with
  | some (.ret v, h) => if strict = true ∧ h ≠ σ.h then none else some (.ok (.v v) { σ with h := h })
  | some (.pan v, h) => if strict = true then none else some (.pan v { σ with h := h })
  | none => none

@[simp] theorem stepO_call (s : Bool) (f : Opd) (args : List Opd) : stepO c σ d (.call s f args) =
    match σ.val f, σ.vals args with
    | some (.func f caps), some vs => called s (c f (vs ++ caps) σ.h) σ
    | _, _ => none := rfl
@[simp] theorem called_ret (v : V) (h' : List HO) : called false (some (.ret v, h')) ⟨e, m, g, rb, h⟩ = some (.ok (.v v) ⟨e, m, g, rb, h'⟩) := by simp [called]
@[simp] theorem called_strict (v : V) : called true (some (.ret v, h)) ⟨e, m, g, rb, h⟩ = some (.ok (.v v) ⟨e, m, g, rb, h⟩) := by simp [called]
@[simp] theorem called_pan (v : V) (h' : List HO) : called false (some (.pan v, h')) ⟨e, m, g, rb, h⟩ = some (.pan v ⟨e, m, g, rb, h'⟩) := by simp [called]

@[simp] theorem keep_def (ks ls : List Nat) : St.keep ⟨e, m, g, rb, h⟩ ks ls = ⟨keepE e ks, keepM m ls, g, rb, h⟩ := rfl
@[simp] theorem init_def (args : List V) (h : List HO) : St.init args h = ⟨argsE 0 args, fun _ => none, 0, 0, h⟩ := rfl
attribute [simp] argsE

@[simp] theorem endOf_ret (sf : SF) (h' : List HO) : endOf sf h' (some (.ret, σ)) = (results σ sf.res).map fun v => finish sf.keep h' (.ret v) σ.h := rfl
@[simp] theorem endOf_normal (sf : SF) (h' : List HO) : endOf sf h' (some (.normal, σ)) = (results σ sf.res).map fun v => finish sf.keep h' (.ret v) σ.h := rfl
@[simp] theorem endOf_pan (sf : SF) (h' : List HO) (v : V) : endOf sf h' (some (.pan v, σ)) = some (finish sf.keep h' (.pan v) σ.h) := rfl
@[simp] theorem results_one (r : RV) : results σ [r] = resultV σ r := rfl
attribute [simp] resultV resultVs
@[simp] theorem results_two (r s : RV) : results σ [r, s] = (resultVs σ [r, s]).map .tuple := rfl
@[simp] theorem results_no : results σ [] = some (.tuple []) := rfl
end

/-- An answer that names no block, where nothing that was there has turned. -/
theorem finish_same (h : List HO) (v : V) (hv : v.pure = true) : finish false h (.ret v) h = (.ret v, h) := by
  have : frz h.length h v = some v := by
    cases v <;> first | (simp only [frz, frz2, frz1, hv, if_true]; done) | skip
    case agg cs =>
      have key : ∀ l : List V, V.pure.pures l = true → frzs h.length h l = some l := by
        intro l
        induction l with
        | nil => intro _; rfl
        | cons a l ih =>
          intro hl
          simp only [V.pure.pures, Bool.and_eq_true] at hl
          simp only [frzs, frz1, hl.1, if_true, Option.bind_some, ih hl.2]
      simp only [frz, frz2, key cs hv, Option.map_some]
    case tuple vs =>
      have key : ∀ l : List V, V.pure.pures l = true → frzs h.length h l = some l := by
        intro l
        induction l with
        | nil => intro _; rfl
        | cons a l ih =>
          intro hl
          simp only [V.pure.pures, Bool.and_eq_true] at hl
          simp only [frzs, frz1, hl.1, if_true, Option.bind_some, ih hl.2]
      have key2 : ∀ l : List V, V.pure.pures l = true → frz2s h.length h l = some l := by
        intro l
        induction l with
        | nil => intro _; rfl
        | cons a l ih =>
          intro hl
          simp only [V.pure.pures, Bool.and_eq_true] at hl
          have ha : frz2 h.length h a = some a := by
            cases a <;> first | (simp only [frz2, frz1, hl.1, if_true]; done) | skip
            case agg cs => simp only [frz2, key cs hl.1, Option.map_some]
          simp only [frz2s, ha, Option.bind_some, ih hl.2]
      simp only [frz, key2 vs hv, Option.map_some]
  simp [finish, this]

/-- The end of a call whose answer may name blocks. -/
noncomputable def finS (h : List HO) (v : V) : CR × List HO := finish false h (.ret v) h
@[simp] theorem finish_cond (h : List HO) (v : V) : finish false h (.ret v) h = bif v.pure then (.ret v, h) else finS h v := by
  cases hp : v.pure with
  | true => exact finish_same h v hp
  | false => rfl

attribute [simp] V.pure V.pure.pures

end Go.Vm
