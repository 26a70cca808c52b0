/- How the VM's values and heap stand to the model's: the relation, and that it is kept when memory grows. -/
import Derived.Test.YthbfflleggnoaaaGreatDoorVmEq
set_option linter.unusedSimpArgs false
set_option linter.unusedVariables false
namespace Go.Vm
open Go

structure RowLoc where
  B : Nat
  base : Nat
  s : Nat
  cap : Nat

structure Gh where
  st : Nat → Prop
  ob : Nat → Option Nat
  rw : Nat → Nat → Option RowLoc

/-- A value of one cell. -/
def isCell : Value → Prop
  | .agg _ => False
  | .tuple _ => False
  | _ => True

def V.isC : V → Prop
  | .agg _ => False
  | .tuple _ => False
  | _ => True

/-- These cells lie there. -/
def cellsIn (w : World) (B off : Nat) (xs : List Value) : Prop :=
  ∃ c el fr, w.heap[B]? = some (.cells c el fr) ∧ ∀ i, i < xs.length → c[off + i]? = xs[i]?

mutual
inductive VR (G : Gh) (w : World) : V → Value → Prop
  | undef (x : Value) : VR G w .undef x
  | bool (b : Bool) : VR G w (.bool b) (.bool b)
  | int (k : IntKind) (n : Int) : VR G w (.int k n) (.int k n)
  | float (k : FloatKind) (n : Nat) : VR G w (.float k n) (.float k n)
  | str (s : List UInt8) (b : ByteArray) (h : b.data.toList = s) : VR G w (.str s) (.string b)
  | nilp : VR G w .nilp (.pointer none)
  | ptr (id off B : Nat) (h : G.ob id = some B) : VR G w (.ptr id off) (.pointer (some ⟨B, off, none⟩))
  | cref (cs : List V) (B off : Nat) (xs : List Value) (hs : G.st B) (hc : cellsIn w B off xs) (h : CRs G w cs xs) : VR G w (.cref cs) (.pointer (some ⟨B, off, none⟩))
  | eptr (id ver i off : Nat) (r : RowLoc) (h : G.rw id ver = some r) : VR G w (.eptr id ver i off) (.pointer (some ⟨r.B, r.base + i * r.s + off, none⟩))
  | nils : VR G w .nils (.slice none 0 0)
  | snil (a : Option Addr) (c : Nat) : VR G w (.snap []) (.slice a 0 c)
  | snap (l : List V) (B off s cap : Nat) (xs : List Value) (hs : G.st B) (hc : cellsIn w B off xs) (hl : ∀ v ∈ l, v.cells.length = s) (hle : l.length ≤ cap)
      (h : CRs G w (l.flatMap V.cells) xs) : VR G w (.snap l) (.slice (some ⟨B, off, none⟩) l.length cap)
  | sl (id ver off len cap : Nat) (r : RowLoc) (a : Addr) (h : G.rw id ver = some r) (hl : len ≤ cap) (hc : off + cap ≤ r.cap)
      (ha : cap = 0 ∨ a = ⟨r.B, r.base + off * r.s, none⟩) : VR G w (.sl id ver r.s off len) (.slice (some a) len cap)
  | nilm : VR G w .nilm (.map none)
  | map (id B : Nat) (h : G.ob id = some B) : VR G w (.map id) (.map (some B))
  | nilf : VR G w .nilf .nilFunc
  | func (f : Nat) (caps : List V) (xs : List Value) (h : VRs G w caps xs) : VR G w (.func f caps) (.func (.func f) #[] xs.toArray)
  | nili : VR G w .nili .nilIface
  | iface (t : Nat) (v : V) (x : Value) (h : VR G w v x) : VR G w (.iface t v) (.iface t x)
  | agg (cs : List V) (xs : List Value) (h : CRs G w cs xs) : VR G w (.agg cs) (.agg xs.toArray)
  | tuple (vs : List V) (xs : List Value) (h : VRs G w vs xs) : VR G w (.tuple vs) (.tuple xs.toArray)
inductive VRs (G : Gh) (w : World) : List V → List Value → Prop
  | nil : VRs G w [] []
  | cons (v : V) (x : Value) (vs : List V) (xs : List Value) (h : VR G w v x) (hs : VRs G w vs xs) : VRs G w (v :: vs) (x :: xs)
inductive CRs (G : Gh) (w : World) : List V → List Value → Prop
  | nil : CRs G w [] []
  | cons (v : V) (x : Value) (vs : List V) (xs : List Value) (hv : v.isC) (hx : isCell x) (h : VR G w v x) (hs : CRs G w vs xs) : CRs G w (v :: vs) (x :: xs)
end

/-- What was known is known yet; what is only read lies as it lay. -/
structure Le (G : Gh) (w : World) (G' : Gh) (w' : World) : Prop where
  st : ∀ B, G.st B → G'.st B
  hp : ∀ B, G.st B → w'.heap[B]? = w.heap[B]?
  ob : ∀ id B, G.ob id = some B → G'.ob id = some B
  rw : ∀ id v r, G.rw id v = some r → G'.rw id v = some r

theorem Le.refl (G : Gh) (w : World) : Le G w G w := ⟨fun _ h => h, fun _ _ => rfl, fun _ _ h => h, fun _ _ _ h => h⟩
theorem Le.trans {G G' G'' : Gh} {w w' w'' : World} (h : Le G w G' w') (h' : Le G' w' G'' w'') : Le G w G'' w'' :=
  ⟨fun B hB => h'.st B (h.st B hB), fun B hB => (h'.hp B (h.st B hB)).trans (h.hp B hB), fun id B e => h'.ob id B (h.ob id B e), fun id v r e => h'.rw id v r (h.rw id v r e)⟩

theorem cellsIn.of_eq {w w' : World} {B off : Nat} {xs : List Value} (h : cellsIn w B off xs) (he : w'.heap[B]? = w.heap[B]?) : cellsIn w' B off xs := by
  obtain ⟨c, el, fr, hb, hc⟩ := h
  exact ⟨c, el, fr, he.trans hb, hc⟩

mutual
theorem VR.mono {G G' : Gh} {w w' : World} (hle : Le G w G' w') {v : V} {x : Value} : VR G w v x → VR G' w' v x
  | .undef x => .undef x
  | .bool b => .bool b
  | .int k n => .int k n
  | .float k n => .float k n
  | .str s b h => .str s b h
  | .nilp => .nilp
  | .ptr id off B h => .ptr id off B (hle.ob _ _ h)
  | .cref cs B off xs hs hc h => .cref cs B off xs (hle.st _ hs) (hc.of_eq (hle.hp _ hs)) (CRs.mono hle h)
  | .eptr id ver i off r h => .eptr id ver i off r (hle.rw _ _ _ h)
  | .nils => .nils
  | .snil a c => .snil a c
  | .snap l B off s cap xs hs hc hl hc' h => .snap l B off s cap xs (hle.st _ hs) (hc.of_eq (hle.hp _ hs)) hl hc' (CRs.mono hle h)
  | .sl id ver off len cap r a h hl hc ha => .sl id ver off len cap r a (hle.rw _ _ _ h) hl hc ha
  | .nilm => .nilm
  | .map id B h => .map id B (hle.ob _ _ h)
  | .nilf => .nilf
  | .func f caps xs h => .func f caps xs (VRs.mono hle h)
  | .nili => .nili
  | .iface t v x h => .iface t v x (VR.mono hle h)
  | .agg cs xs h => .agg cs xs (CRs.mono hle h)
  | .tuple vs xs h => .tuple vs xs (VRs.mono hle h)
theorem VRs.mono {G G' : Gh} {w w' : World} (hle : Le G w G' w') {v : List V} {x : List Value} : VRs G w v x → VRs G' w' v x
  | .nil => .nil
  | .cons v x vs xs h hs => .cons v x vs xs (VR.mono hle h) (VRs.mono hle hs)
theorem CRs.mono {G G' : Gh} {w w' : World} (hle : Le G w G' w') {v : List V} {x : List Value} : CRs G w v x → CRs G' w' v x
  | .nil => .nil
  | .cons v x vs xs hv hx h hs => .cons v x vs xs hv hx (VR.mono hle h) (CRs.mono hle hs)
end

theorem CRs.length {G : Gh} {w : World} {v : List V} {x : List Value} (h : CRs G w v x) : v.length = x.length := by
  induction v generalizing x with
  | nil => cases h; rfl
  | cons a v ih => cases h; rename_i h; simp [ih h]
theorem VRs.length {G : Gh} {w : World} {v : List V} {x : List Value} (h : VRs G w v x) : v.length = x.length := by
  induction v generalizing x with
  | nil => cases h; rfl
  | cons a v ih => cases h; rename_i h; simp [ih h]
theorem CRs.append {G : Gh} {w : World} {v v' : List V} {x x' : List Value} (h : CRs G w v x) (h' : CRs G w v' x') : CRs G w (v ++ v') (x ++ x') := by
  induction v generalizing x with
  | nil => cases h; exact h'
  | cons a v ih => cases h with | cons _ _ _ _ hv hx h hs => exact .cons _ _ _ _ hv hx h (ih hs)
theorem CRs.drop {G : Gh} {w : World} {v : List V} {x : List Value} (h : CRs G w v x) (n : Nat) : CRs G w (v.drop n) (x.drop n) := by
  induction n generalizing v x with
  | zero => exact h
  | succ n ih =>
    cases h with
    | nil => exact .nil
    | cons v x vs xs hv hx h hs => exact ih hs
theorem CRs.take {G : Gh} {w : World} {v : List V} {x : List Value} (h : CRs G w v x) (n : Nat) : CRs G w (v.take n) (x.take n) := by
  induction n generalizing v x with
  | zero => exact .nil
  | succ n ih =>
    cases h with
    | nil => exact .nil
    | cons v x vs xs hv hx h hs => exact .cons _ _ _ _ hv hx h (ih hs)
theorem CRs.get {G : Gh} {w : World} {v : List V} {x : List Value} (h : CRs G w v x) {i : Nat} {a : V} (hi : v[i]? = some a) : ∃ b, x[i]? = some b ∧ VR G w a b ∧ a.isC ∧ isCell b := by
  induction i generalizing v x with
  | zero => cases h with
    | nil => simp at hi
    | cons v x vs xs hv hx h hs => simp at hi; subst hi; exact ⟨x, rfl, h, hv, hx⟩
  | succ n ih =>
    cases h with
    | nil => simp at hi
    | cons v x vs xs hv hx h hs => simp at hi ⊢; exact ih hs hi
theorem VRs.get {G : Gh} {w : World} {v : List V} {x : List Value} (h : VRs G w v x) {i : Nat} {a : V} (hi : v[i]? = some a) : ∃ b, x[i]? = some b ∧ VR G w a b := by
  induction i generalizing v x with
  | zero => cases h with
    | nil => simp at hi
    | cons v x vs xs h hs => simp at hi; subst hi; exact ⟨x, rfl, h⟩
  | succ n ih =>
    cases h with
    | nil => simp at hi
    | cons v x vs xs h hs => simp at hi ⊢; exact ih hs hi
theorem VRs.append {G : Gh} {w : World} {v v' : List V} {x x' : List Value} (h : VRs G w v x) (h' : VRs G w v' x') : VRs G w (v ++ v') (x ++ x') := by
  induction v generalizing x with
  | nil => cases h; exact h'
  | cons a v ih => cases h with | cons _ _ _ _ h hs => exact .cons _ _ _ _ h (ih hs)

/-- The cells of a value. -/
theorem VR.cells {G : Gh} {w : World} {v : V} {x : Value} (h : VR G w v x) (hv : v.cells ≠ []) : CRs G w v.cells x.cells.toList := by
  have one : ∀ {v : V} {x : Value}, v.isC → isCell x → VR G w v x → CRs G w [v] [x] := fun hv hx h => .cons _ _ _ _ hv hx h .nil
  cases h
  case undef => exact absurd rfl hv
  case tuple => exact absurd rfl hv
  case agg cs xs h => exact h
  all_goals (refine one trivial trivial ?_; constructor <;> assumption)

section
variable {G : Gh} {w : World} {x : Value}
theorem VR.inv_bool {b : Bool} (h : VR G w (.bool b) x) : x = .bool b := by cases h; rfl
theorem VR.inv_int {k : IntKind} {n : Int} (h : VR G w (.int k n) x) : x = .int k n := by cases h; rfl
theorem VR.inv_float {k : FloatKind} {n : Nat} (h : VR G w (.float k n) x) : x = .float k n := by cases h; rfl
theorem VR.inv_str {s : List UInt8} (h : VR G w (.str s) x) : ∃ b : ByteArray, x = .string b ∧ b.data.toList = s := by cases h; exact ⟨_, rfl, ‹_›⟩
theorem VR.inv_nilp (h : VR G w .nilp x) : x = .pointer none := by cases h; rfl
theorem VR.inv_nils (h : VR G w .nils x) : x = .slice none 0 0 := by cases h; rfl
theorem VR.inv_nilm (h : VR G w .nilm x) : x = .map none := by cases h; rfl
theorem VR.inv_nilf (h : VR G w .nilf x) : x = .nilFunc := by cases h; rfl
theorem VR.inv_nili (h : VR G w .nili x) : x = .nilIface := by cases h; rfl
theorem VR.inv_ptr {id off : Nat} (h : VR G w (.ptr id off) x) : ∃ B, G.ob id = some B ∧ x = .pointer (some ⟨B, off, none⟩) := by cases h; exact ⟨_, ‹_›, rfl⟩
theorem VR.inv_cref {cs : List V} (h : VR G w (.cref cs) x) : ∃ B off xs, G.st B ∧ cellsIn w B off xs ∧ CRs G w cs xs ∧ x = .pointer (some ⟨B, off, none⟩) := by cases h; exact ⟨_, _, _, ‹_›, ‹_›, ‹_›, rfl⟩
theorem VR.inv_eptr {id ver i off : Nat} (h : VR G w (.eptr id ver i off) x) : ∃ r, G.rw id ver = some r ∧ x = .pointer (some ⟨r.B, r.base + i * r.s + off, none⟩) := by cases h; exact ⟨_, ‹_›, rfl⟩
theorem VR.inv_map {id : Nat} (h : VR G w (.map id) x) : ∃ B, G.ob id = some B ∧ x = .map (some B) := by cases h; exact ⟨_, ‹_›, rfl⟩
theorem VR.inv_func {f : Nat} {caps : List V} (h : VR G w (.func f caps) x) : ∃ xs, VRs G w caps xs ∧ x = .func (.func f) #[] xs.toArray := by cases h; exact ⟨_, ‹_›, rfl⟩
theorem VR.inv_iface {t : Nat} {v : V} (h : VR G w (.iface t v) x) : ∃ y, VR G w v y ∧ x = .iface t y := by cases h; exact ⟨_, ‹_›, rfl⟩
theorem VR.inv_agg {cs : List V} (h : VR G w (.agg cs) x) : ∃ xs, CRs G w cs xs ∧ x = .agg xs.toArray := by cases h; exact ⟨_, ‹_›, rfl⟩
theorem VR.inv_tuple {cs : List V} (h : VR G w (.tuple cs) x) : ∃ xs, VRs G w cs xs ∧ x = .tuple xs.toArray := by cases h; exact ⟨_, ‹_›, rfl⟩
theorem VR.inv_sl {id ver s off len : Nat} (h : VR G w (.sl id ver s off len) x) : ∃ r a cap, G.rw id ver = some r ∧ s = r.s ∧ len ≤ cap ∧ off + cap ≤ r.cap ∧
    (cap = 0 ∨ a = ⟨r.B, r.base + off * r.s, none⟩) ∧ x = .slice (some a) len cap := by cases h; exact ⟨_, _, _, ‹_›, rfl, ‹_›, ‹_›, ‹_›, rfl⟩
theorem VR.inv_snap {l : List V} (h : VR G w (.snap l) x) : (l = [] ∧ ∃ a c, x = .slice a 0 c) ∨ ∃ B off s cap xs, G.st B ∧ cellsIn w B off xs ∧ (∀ v ∈ l, v.cells.length = s) ∧ l.length ≤ cap ∧
    CRs G w (l.flatMap V.cells) xs ∧ x = .slice (some ⟨B, off, none⟩) l.length cap := by
  cases h
  · exact .inl ⟨rfl, _, _, rfl⟩
  · exact .inr ⟨_, _, _, _, _, ‹_›, ‹_›, ‹_›, ‹_›, ‹_›, rfl⟩
end

end Go.Vm
