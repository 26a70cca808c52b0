/- The bytes of an inode, as lists. -/
import Derived.Test.YthbfflleggnoaaaGreatDoorVmWp
import Derived.Test.YthbfflleggnoaaaGreatDoorTy
set_option linter.unusedSimpArgs false
set_option linter.unusedVariables false
namespace Go.Vm.Tryz
open Go Go.Vm

theorem unbytes_bytesV (s : Str) : unbytes (bytesV s) = some s := by
  induction s with
  | nil => rfl
  | cons b s ih =>
    show (unbytes (bytesV s)).bind _ = _
    rw [ih]
    have : (0 : Int) ≤ b.toNat ∧ (b.toNat : Int) < 256 := ⟨by omega, by have := b.toNat_lt; omega⟩
    simp [this]
@[simp] theorem bytesV_len (s : Str) : (bytesV s).length = s.length := by simp [bytesV]
theorem bytesV_take (s : Str) (n : Nat) : (bytesV s).take n = bytesV (s.take n) := by simp [bytesV, List.map_take]
theorem bytesV_drop (s : Str) (n : Nat) : (bytesV s).drop n = bytesV (s.drop n) := by simp [bytesV, List.map_drop]
theorem bytesV_app (s t : Str) : bytesV s ++ bytesV t = bytesV (s ++ t) := by simp [bytesV]
theorem bytesV_set (s : Str) (i : Nat) (b : UInt8) : (bytesV s).set i (.int .u8 b.toNat) = bytesV (s.set i b) := by simp [bytesV, List.map_set]
theorem bytesV_rep (n : Nat) : List.replicate n (V.int .u8 0) = bytesV (List.replicate n 0) := by simp [bytesV]
theorem bytesV_get (s : Str) (i : Nat) : (bytesV s)[i]? = s[i]?.map fun b => V.int .u8 b.toNat := by simp [bytesV]
theorem bytesV_getE (s : Str) (i : Nat) (h : i < (bytesV s).length) : (bytesV s)[i] = V.int .u8 (s[i]'(by simpa using h)).toNat := by simp [bytesV]
theorem bytesV_all (s : Str) : ((bytesV s).all fun v => v.cells.length == 1) = true := by
  induction s with
  | nil => rfl
  | cons b s ih => simp only [bytesV, List.map_cons, List.all_cons] at ih ⊢; rw [ih]; rfl
theorem bytesV_all' (s : Str) : (∀ x, x ∈ bytesV s → x.cells.length = 1) = True := by
  have := bytesV_all s
  rw [List.all_eq_true] at this
  exact eq_true fun x hx => by simpa using this x hx
theorem bytesV_pure (s : Str) : V.pure.pures (bytesV s) = true := by
  induction s with
  | nil => rfl
  | cons b s ih => simp only [bytesV, List.map_cons, V.pure.pures] at ih ⊢; rw [ih]; rfl

/-- A piece's first j bytes, put at its place. -/
def put (bs : Str) (p : Piece) (j : Nat) : Str :=
  if 0 ≤ p.index ∧ p.index < 16 then bs.take (p.index.toNat * 64) ++ (p.data.take j).take (bs.length - p.index.toNat * 64) ++ bs.drop (p.index.toNat * 64 + j) else bs

theorem put_len (bs : Str) (p : Piece) (j : Nat) (hj : j ≤ p.data.length) : (put bs p j).length = bs.length := by
  unfold put
  split
  · simp; omega
  · rfl

theorem put_zero (bs : Str) (p : Piece) : put bs p 0 = bs := by
  unfold put
  split <;> simp

theorem put_step (bs : Str) (p : Piece) (j : Nat) (hj : j < p.data.length) (hi : 0 ≤ p.index ∧ p.index < 16) (ho : p.index.toNat * 64 + j < bs.length) :
    put bs p (j + 1) = (put bs p j).set (p.index.toNat * 64 + j) p.data[j] := by
  unfold put
  rw [if_pos hi, if_pos hi]
  generalize p.index.toNat * 64 = o at ho ⊢
  generalize p.data = d at hj ⊢
  apply List.ext_getElem?
  intro k
  simp only [List.getElem?_append, List.getElem?_set, List.getElem?_take, List.getElem?_drop, List.length_append, List.length_take, List.length_drop]
  rcases Nat.lt_trichotomy k (o + j) with hk | hk | hk
  · have h0 : ¬ o + j = k := by omega
    simp only [h0, if_false]
    by_cases h1 : k < o
    · have h2 : k < min o bs.length := by omega
      have h3 : k < min o bs.length + min (bs.length - o) (min (j + 1) d.length) := by omega
      have h4 : k < min o bs.length + min (bs.length - o) (min j d.length) := by omega
      simp only [h2, h3, h4, if_true]
    · have h2 : ¬ k < min o bs.length := by omega
      have h3 : k < min o bs.length + min (bs.length - o) (min (j + 1) d.length) := by omega
      have h4 : k < min o bs.length + min (bs.length - o) (min j d.length) := by omega
      have h5 : k - min o bs.length < bs.length - o := by omega
      have h6 : k - min o bs.length < j + 1 := by omega
      have h7 : k - min o bs.length < j := by omega
      simp only [h2, h3, h4, h5, h6, h7, if_true, if_false]
  · subst hk
    have h2 : ¬ o + j < min o bs.length := by omega
    have h3 : o + j < min o bs.length + min (bs.length - o) (min (j + 1) d.length) := by omega
    have h5 : o + j - min o bs.length < bs.length - o := by omega
    have h6 : o + j - min o bs.length < j + 1 := by omega
    have h8 : o + j - min o bs.length = j := by omega
    have h9 : o + j < min o bs.length + min (bs.length - o) (min j d.length) + (bs.length - (o + j)) := by omega
    have h10 : j < bs.length - o := by omega
    have h11 : j < j + 1 := by omega
    simp only [h2, h3, h5, h6, if_true, if_false, h8, h9, h10, h11, List.getElem?_eq_getElem hj]
  · have h0 : ¬ o + j = k := by omega
    have h3 : ¬ k < min o bs.length + min (bs.length - o) (min (j + 1) d.length) := by omega
    have h4 : ¬ k < min o bs.length + min (bs.length - o) (min j d.length) := by omega
    simp only [h0, h3, h4, if_false]
    congr 1
    omega

theorem put_none (bs : Str) (p : Piece) (j : Nat) (hi : ¬ (0 ≤ p.index ∧ p.index < 16)) : put bs p j = bs := by
  unfold put
  rw [if_neg hi]

theorem put_over (bs : Str) (p : Piece) (j : Nat) (ho : bs.length ≤ p.index.toNat * 64) : put bs p j = bs := by
  unfold put
  split
  · rw [List.take_of_length_le ho, List.drop_eq_nil_of_le (by omega), show bs.length - p.index.toNat * 64 = 0 by omega]; simp
  · rfl

theorem put_stop (bs : Str) (p : Piece) (j : Nat) (ho : bs.length ≤ p.index.toNat * 64 + j) : put bs p (j + 1) = put bs p j := by
  unfold put
  split
  · rw [List.drop_eq_nil_of_le (by omega), List.drop_eq_nil_of_le (by omega), List.take_take, List.take_take, show min (bs.length - p.index.toNat * 64) (j + 1) = min (bs.length - p.index.toNat * 64) j by omega]
  · rfl

/-- Until there is no room. -/
theorem put_copy (bs : Str) (p : Piece) (k : Nat) (hi : 0 ≤ p.index ∧ p.index < 16) (hk : k ≤ p.data.length) (ho : p.index.toNat * 64 ≤ bs.length) :
    put bs p k = bs.take (p.index.toNat * 64) ++ (p.data.take k).take (min k (bs.length - p.index.toNat * 64)) ++ bs.drop (p.index.toNat * 64 + min k (bs.length - p.index.toNat * 64)) := by
  unfold put
  rw [if_pos hi]
  rcases Nat.le_total k (bs.length - p.index.toNat * 64) with h | h
  · rw [Nat.min_eq_left h, List.take_of_length_le (l := p.data.take k) (by simp; omega), List.take_of_length_le (l := p.data.take k) (by simp; omega)]
  · rw [Nat.min_eq_right h, List.drop_eq_nil_of_le (by omega), List.drop_eq_nil_of_le (by omega)]

def putAll (bs : Str) (ps : List Piece) : Str := ps.foldl (fun bs p => put bs p (min p.data.length 64)) bs

theorem putAll_len (ps : List Piece) : ∀ bs, (putAll bs ps).length = bs.length := by
  induction ps with
  | nil => intro bs; rfl
  | cons p ps ih => intro bs; unfold putAll at ih ⊢; rw [List.foldl_cons, ih, put_len _ _ _ (by omega)]

theorem putAll_step (bs : Str) (ps : List Piece) (i : Nat) (hi : i < ps.length) : putAll bs (ps.take (i + 1)) = put (putAll bs (ps.take i)) ps[i] (min ps[i].data.length 64) := by
  unfold putAll
  rw [List.take_succ_eq_append_getElem hi, List.foldl_append]
  rfl

/-- The bytes that both functions answer. -/
def bytesOf (n : Int) (ps : List Piece) : Str := putAll (List.replicate (max 0 (min n 1024)).toNat 0) ps

end Go.Vm.Tryz
