/- Sums of 64 bits: both the program's functions and the document's answer the same. Texts sealed: both functions answer the same. Items got of bytes, in plain Lean. Slices that running code owns: appended to, read, handed back. Bytes looked at: the program's eye. archive.item: the next item of an eye. archive.Get: what it computes. archive.Get: its look, and the answer. archive.Get: the answer. Bytes looked at: the document's eye. The document's Get: rows that hold rows; looks in one form. The document's fit, and how its list is handed back. The document's Get: what it computes. Items as the document's. Items that are the same are equal. The law's own runs, by the kernel. The law ArchiveGets answers true. -/
import Derived.Test.YthbfflleggnoaaaGreatDoorMG3
import Derived.Test.YthbfflleggnoaaaGreatDoorMG5
section
set_option linter.unusedVariables false
set_option linter.unusedSimpArgs false
set_option maxRecDepth 10000
namespace Go.Vm.Tryz
open Go Go.Vm

theorem wrapI {n : Int} (h : R n) : IntKind.i64.wrap n = n := by
  unfold R at h
  simp [IntKind.wrap, IntKind.bits, IntKind.signed]; omega

def crcStep (c : Nat) : Nat := if c % 2 = 1 then (c / 2) ^^^ 14514072000185962306 else c / 2
def stepN : Nat → Nat → Nat
  | 0, c => c
  | j + 1, c => crcStep (stepN j c)
def crcByte (c : Nat) (b : UInt8) : Nat := stepN 8 (c ^^^ b.toNat)
def crcAll (c : Nat) (s : Str) : Nat := s.foldl crcByte c
def crcOf (s : Str) : Nat := 18446744073709551615 - crcAll 18446744073709551615 s

theorem crcStep_lt {c : Nat} (h : c < 18446744073709551616) : crcStep c < 18446744073709551616 := by
  unfold crcStep
  split
  · exact Nat.xor_lt_two_pow (n := 64) (by omega) (by omega)
  · omega
theorem stepN_lt {c : Nat} (h : c < 18446744073709551616) : ∀ j, stepN j c < 18446744073709551616
  | 0 => h
  | j + 1 => crcStep_lt (stepN_lt h j)
theorem xorByte_lt {c : Nat} (h : c < 18446744073709551616) (b : UInt8) : c ^^^ b.toNat < 18446744073709551616 :=
  Nat.xor_lt_two_pow (n := 64) (by omega) (by have := b.toNat_lt; omega)
theorem crcByte_lt {c : Nat} (h : c < 18446744073709551616) (b : UInt8) : crcByte c b < 18446744073709551616 := stepN_lt (xorByte_lt h b) 8
theorem crcAll_lt (s : Str) : ∀ {c : Nat}, c < 18446744073709551616 → crcAll c s < 18446744073709551616 := by
  induction s with
  | nil => exact fun h => h
  | cons b s ih => exact fun h => ih (crcByte_lt h b)

/-- The rounds of crc.More. -/
theorem more171_in (c0 : Nat) (hc0 : c0 < 18446744073709551616) (h : List HO) (σ : St) (hh : σ.h = h) (v1 v11 v12 : T) (h1 : σ.e 1 = v1) (h11 : σ.e 11 = v11) (h12 : σ.e 12 = v12) (h5 : σ.e 5 = .v (.int .u64 c0)) (h21 : σ.e 21 = .v (I 0)) (K : List It) (Q : Ex → St → Prop)
    (hK : ∀ σ' : St, σ'.h = h → σ'.e 1 = v1 → σ'.e 11 = v11 → σ'.e 12 = v12 → σ'.e 5 = .v (.int .u64 (stepN 8 c0)) → wp (contK X K (.exit 2) σ') Q) :
    wp (run X (.c L171_1 :: K) σ) Q := by
  refine wp_loop (fun n σ => σ.h = h ∧ σ.e 1 = v1 ∧ σ.e 11 = v11 ∧ σ.e 12 = v12 ∧ ∃ j : Nat, n + j = 8 ∧ σ.e 21 = .v (I j) ∧ σ.e 5 = .v (.int .u64 (stepN j c0))) ?_ 8 _ ⟨hh, h1, h11, h12, 0, rfl, h21, h5⟩
  clear hh h1 h11 h12 h5 h21 σ
  rintro n ⟨e, m, g, rb, h'⟩ ⟨rfl, h1, h11, h12, j, hj, h21, h5⟩
  dsimp only at h1 h11 h12 h21 h5
  by_cases hlt : j < 8
  · have hj' : (j : Int) < 8 := by omega
    have hw := wrapI (n := (j : Int) + 1) (by unfold R; omega)
    obtain ⟨c, hc⟩ : ∃ c, c = stepN j c0 := ⟨_, rfl⟩
    have hcl : c < 18446744073709551616 := by rw [hc]; exact stepN_lt hc0 j
    rw [← hc] at h5
    have hm := mod64 c hcl
    have h1' : c &&& 1 = c % 2 := Nat.and_one_is_mod c
    have hst : stepN (j + 1) c0 = crcStep c := by rw [hc]; rfl
    have fin : ∀ x : Int, x = crcStep c → ∃ k, k < n ∧ ∃ j' : Nat, k + j' = 8 ∧ IntKind.i64.wrap (↑j + 1) = ↑j' ∧ x = ↑(stepN j' c0) :=
      fun x hx => ⟨n - 1, by omega, j + 1, by omega, by simp [hw], by rw [hst, hx]⟩
    have hd : (c : Int).fdiv 2 = ((c / 2 : Nat) : Int) := by rw [Int.fdiv_eq_ediv_of_nonneg _ (by decide)]; omega
    have hm2 : ((c : Int) / 2 % 18446744073709551616).toNat = c / 2 := by omega
    have hx : c / 2 ^^^ 14514072000185962306 < 18446744073709551616 := Nat.xor_lt_two_pow (n := 64) (by omega) (by omega)
    rcases Nat.mod_two_eq_zero_or_one c with hp | hp
    · have hcs : crcStep c = c / 2 := by unfold crcStep; rw [if_neg (by omega)]
      rw [hp] at h1'
      simp [h1, h11, h12, h21, h5, hj', hm, h1', hd, hm2]
      have e0 : (IntKind.u64.wrap ↑(14514072000185962306 &&& (IntKind.u64.wrap (-IntKind.u64.wrap 0) % 18446744073709551616).toNat) % 18446744073709551616).toNat = 0 := by decide
      refine fin _ ?_
      rw [e0, Nat.xor_zero, hcs, u64_small _ (by omega)]
    · have hcs : crcStep c = c / 2 ^^^ 14514072000185962306 := by unfold crcStep; rw [if_pos hp]
      rw [hp] at h1'
      simp [h1, h11, h12, h21, h5, hj', hm, h1', hd, hm2]
      have e0 : (IntKind.u64.wrap ↑(14514072000185962306 &&& (IntKind.u64.wrap (-IntKind.u64.wrap 1) % 18446744073709551616).toNat) % 18446744073709551616).toNat = 14514072000185962306 := by decide
      refine fin _ ?_
      rw [e0, hcs, u64_small _ (by omega)]
  · have : j = 8 := by omega
    subst this
    simp [h1, h11, h12, h21, h5]
    apply hK <;> simp

theorem more171 (s : Str) (hs : s.length < N63) (h : List HO) : VC X 171 [.int .u64 0, S s] h = some (.ret (.int .u64 (crcOf s)), h) := by
  unfold N63 at hs
  rw [v171]
  refine Ans.eq (ans_wp ?_)
  have hall := crcAll_lt s (c := 18446744073709551615) (by decide)
  simp [s171]
  refine wp_loop (fun n σ => σ.h = h ∧ σ.e 1 = .v (S s) ∧ σ.e 11 = .v (I s.length) ∧ ∃ i : Nat, n + i = s.length ∧ σ.e 12 = .v (I i) ∧ σ.e 5 = .v (.int .u64 (crcAll 18446744073709551615 (s.take i)))) ?_ s.length _ ⟨rfl, rfl, rfl, 0, by simp, rfl, ?_⟩
  · rintro n ⟨e, m, g, rb, h'⟩ ⟨rfl, h1, h11, i, hi, h12, h5⟩
    dsimp only at h1 h11 h12 h5
    by_cases hlt : i < s.length
    · have hb : s[i]? = some s[i] := List.getElem?_eq_getElem hlt
      have hw := wrapI (n := (i : Int) + 1) (by unfold R; omega)
      obtain ⟨c, hc⟩ : ∃ c, c = crcAll 18446744073709551615 (s.take i) := ⟨_, rfl⟩
      have hcl : c < 18446744073709551616 := by rw [hc]; exact crcAll_lt _ (by decide)
      rw [← hc] at h5
      have hm := mod64 c hcl
      have hst : crcAll 18446744073709551615 (s.take (i + 1)) = crcByte c s[i] := by
        unfold crcAll at hc ⊢
        rw [List.take_succ_eq_append_getElem hlt, List.foldl_append, ← hc]
        rfl
      have hbn := s[i].toNat_lt
      have hm2 : IntKind.u64.wrap (s[i].toNat : Int) = (s[i].toNat : Int) := u64_small _ (by omega)
      have hm3 := mod64 s[i].toNat (by omega)
      have hx := xorByte_lt hcl s[i]
      have hm4 : IntKind.u64.wrap ((c ^^^ s[i].toNat : Nat) : Int) = ((c ^^^ s[i].toNat : Nat) : Int) := u64_small _ (by omega)
      simp [h1, h11, h12, h5, hlt, hb, hm, hm2, hm3, hm4]
      refine more171_in _ hx _ _ rfl _ _ _ rfl rfl rfl rfl rfl _ _ ?_
      rintro ⟨e', m', g', rb', h''⟩ k0 k1 k11 k12 k5
      dsimp only at k0 k1 k11 k12 k5
      subst k0
      simp [k1, k11, k12, k5, hw]
      exact ⟨n - 1, by omega, i + 1, by omega, by simp, by rw [hst]; rfl⟩
    · have : s.take i = s := List.take_of_length_le (by omega)
      rw [this] at h5
      simp [h1, h11, h12, h5, hlt, s171]
      have e0 : (IntKind.u64.max % 18446744073709551616).toNat = 18446744073709551615 := by decide
      rw [e0, mod64 _ hall, xor_allN _ hall, u64_small _ (by omega)]
      rfl
  · have e0 : IntKind.u64.wrap (max (IntKind.u64.max % 18446744073709551616) 0) = 18446744073709551615 := by decide
    show T.v (V.int .u64 (IntKind.u64.wrap (max (IntKind.u64.max % 18446744073709551616) 0))) = _
    rw [e0]
    rfl

theorem of94 (s : Str) (hs : s.length < N63) (h : List HO) : VC X 94 [S s] h = some (.ret (.int .u64 (crcOf s)), h) := by
  rw [v94]
  refine Ans.eq (ans_wp ?_)
  have e := more171 s hs h
  simp [s94, e]

/-- The rounds of ref03.More. -/
theorem more172_in (c0 : Nat) (hc0 : c0 < 18446744073709551616) (h : List HO) (σ : St) (hh : σ.h = h) (v1 v11 v12 : T) (h1 : σ.e 1 = v1) (h11 : σ.e 11 = v11) (h12 : σ.e 12 = v12) (h5 : σ.e 5 = .v (.int .u64 c0)) (h21 : σ.e 21 = .v (I 0)) (K : List It) (Q : Ex → St → Prop)
    (hK : ∀ σ' : St, σ'.h = h → σ'.e 1 = v1 → σ'.e 11 = v11 → σ'.e 12 = v12 → σ'.e 5 = .v (.int .u64 (stepN 8 c0)) → wp (contK X K (.exit 2) σ') Q) :
    wp (run X (.c L172_1 :: K) σ) Q := by
  refine wp_loop (fun n σ => σ.h = h ∧ σ.e 1 = v1 ∧ σ.e 11 = v11 ∧ σ.e 12 = v12 ∧ ∃ j : Nat, n + j = 8 ∧ σ.e 21 = .v (I j) ∧ σ.e 5 = .v (.int .u64 (stepN j c0))) ?_ 8 _ ⟨hh, h1, h11, h12, 0, rfl, h21, h5⟩
  clear hh h1 h11 h12 h5 h21 σ
  rintro n ⟨e, m, g, rb, h'⟩ ⟨rfl, h1, h11, h12, j, hj, h21, h5⟩
  dsimp only at h1 h11 h12 h21 h5
  by_cases hlt : j < 8
  · have hj' : (j : Int) < 8 := by omega
    have hw := wrapI (n := (j : Int) + 1) (by unfold R; omega)
    obtain ⟨c, hc⟩ : ∃ c, c = stepN j c0 := ⟨_, rfl⟩
    have hcl : c < 18446744073709551616 := by rw [hc]; exact stepN_lt hc0 j
    rw [← hc] at h5
    have hst : stepN (j + 1) c0 = crcStep c := by rw [hc]; rfl
    have fin : ∀ x : Int, x = crcStep c → ∃ k, k < n ∧ ∃ j' : Nat, k + j' = 8 ∧ IntKind.i64.wrap (↑j + 1) = ↑j' ∧ x = ↑(stepN j' c0) :=
      fun x hx => ⟨n - 1, by omega, j + 1, by omega, by simp [hw], by rw [hst, hx]⟩
    have hm : (c : Int).tmod 2 = (c : Int) % 2 := Int.tmod_eq_emod_of_nonneg (by omega)
    have hd : (c : Int).tdiv 2 = (c : Int) / 2 := Int.tdiv_eq_ediv_of_nonneg (by omega)
    have hd2 : IntKind.u64.wrap ((c : Int) / 2) = (c : Int) / 2 := u64_small _ (by omega)
    have hm2 : ((c : Int) / 2 % 18446744073709551616).toNat = c / 2 := by omega
    have hx : c / 2 ^^^ 14514072000185962306 < 18446744073709551616 := Nat.xor_lt_two_pow (n := 64) (by omega) (by omega)
    rcases Nat.mod_two_eq_zero_or_one c with hp | hp
    · have hcs : crcStep c = c / 2 := by unfold crcStep; rw [if_neg (by omega)]
      have hp' : (c : Int) % 2 = 0 := by omega
      simp [h1, h11, h12, h21, h5, hj', hm, hp', hd, hd2]
      refine fin _ ?_
      rw [hcs]; omega
    · have hcs : crcStep c = c / 2 ^^^ 14514072000185962306 := by unfold crcStep; rw [if_pos hp]
      have hp' : (c : Int) % 2 = 1 := by omega
      simp [h1, h11, h12, h21, h5, hj', hm, hp', hd, hd2, hm2]
      refine fin _ ?_
      rw [hcs, u64_small _ (by omega)]
  · have : j = 8 := by omega
    subst this
    simp [h1, h11, h12, h21, h5]
    apply hK <;> simp

theorem more172 (s : Str) (hs : s.length < N63) (h : List HO) : VC X 172 [.int .u64 0, S s] h = some (.ret (.int .u64 (crcOf s)), h) := by
  unfold N63 at hs
  rw [v172]
  refine Ans.eq (ans_wp ?_)
  have hall := crcAll_lt s (c := 18446744073709551615) (by decide)
  simp [s172]
  refine wp_loop (fun n σ => σ.h = h ∧ σ.e 1 = .v (S s) ∧ σ.e 11 = .v (I s.length) ∧ ∃ i : Nat, n + i = s.length ∧ σ.e 12 = .v (I i) ∧ σ.e 5 = .v (.int .u64 (crcAll 18446744073709551615 (s.take i)))) ?_ s.length _ ⟨rfl, rfl, rfl, 0, by simp, rfl, ?_⟩
  · rintro n ⟨e, m, g, rb, h'⟩ ⟨rfl, h1, h11, i, hi, h12, h5⟩
    dsimp only at h1 h11 h12 h5
    by_cases hlt : i < s.length
    · have hb : s[i]? = some s[i] := List.getElem?_eq_getElem hlt
      have hw := wrapI (n := (i : Int) + 1) (by unfold R; omega)
      obtain ⟨c, hc⟩ : ∃ c, c = crcAll 18446744073709551615 (s.take i) := ⟨_, rfl⟩
      have hcl : c < 18446744073709551616 := by rw [hc]; exact crcAll_lt _ (by decide)
      rw [← hc] at h5
      have hm := mod64 c hcl
      have hst : crcAll 18446744073709551615 (s.take (i + 1)) = crcByte c s[i] := by
        unfold crcAll at hc ⊢
        rw [List.take_succ_eq_append_getElem hlt, List.foldl_append, ← hc]
        rfl
      have hbn := s[i].toNat_lt
      have hm2 : IntKind.u64.wrap (s[i].toNat : Int) = (s[i].toNat : Int) := u64_small _ (by omega)
      have hm3 := mod64 s[i].toNat (by omega)
      have hx := xorByte_lt hcl s[i]
      have hm4 : IntKind.u64.wrap ((c ^^^ s[i].toNat : Nat) : Int) = ((c ^^^ s[i].toNat : Nat) : Int) := u64_small _ (by omega)
      simp [h1, h11, h12, h5, hlt, hb, hm, hm2, hm3, hm4]
      refine more172_in _ hx _ _ rfl _ _ _ rfl rfl rfl rfl rfl _ _ ?_
      rintro ⟨e', m', g', rb', h''⟩ k0 k1 k11 k12 k5
      dsimp only at k0 k1 k11 k12 k5
      subst k0
      simp [k1, k11, k12, k5, hw]
      exact ⟨n - 1, by omega, i + 1, by omega, by simp, by rw [hst]; rfl⟩
    · have : s.take i = s := List.take_of_length_le (by omega)
      rw [this] at h5
      simp [h1, h11, h12, h5, hlt, s172]
      rw [u64_small _ (by omega)]
      unfold crcOf
      omega
  · simp [u64_small, crcAll]

theorem of95 (s : Str) (hs : s.length < N63) (h : List HO) : VC X 95 [S s] h = some (.ret (.int .u64 (crcOf s)), h) := by
  rw [v95]
  refine Ans.eq (ans_wp ?_)
  have e := more172 s hs h
  simp [s95, e]
end Go.Vm.Tryz
end

section
set_option linter.unusedVariables false
set_option linter.unusedSimpArgs false
set_option maxRecDepth 10000
namespace Go.Vm.Tryz
open Go Go.Vm

/-- A number's lowest bytes, the lowest first. -/
def le (n : Int) (j : Nat) : Str := (List.range j).map (byteAt n)
def sealOf (s : Str) : Str := s ++ le (crcOf s) 8

theorem le_len (n : Int) (j : Nat) : (le n j).length = j := by simp [le]
theorem le_step (n : Int) (j : Nat) : le n (j + 1) = le n j ++ [byteAt n j] := by simp [le, List.range_succ]

theorem seal42 (s : Str) (hs : s.length < 1152921504606846976) (h : List HO) : VC X 42 [S s] h = some (.ret (S (sealOf s)), h) := by
  rw [v42]
  refine Ans.eq (ans_wp ?_)
  have ec := of94 s (by unfold N63; omega) h
  have hn : crcOf s < 18446744073709551616 := by unfold crcOf; omega
  have hso : sealOf s = s ++ le (crcOf s) 8 := rfl
  generalize crcOf s = n at ec hn hso
  simp [s42, ec]
  refine wp_loop (fun k σ => σ.h = h ∧ σ.e 0 = .v (S s) ∧ σ.e 3 = .v (.int .u64 n) ∧ σ.e 4 = .loc 4 0 0 ∧ ∃ i : Nat, k + i = 8 ∧ σ.e 8 = .v (I i) ∧ σ.m 4 = some (0, bytesV (le n i ++ List.replicate (8 - i) 0))) ?_ 8 _ ⟨rfl, rfl, rfl, rfl, 0, rfl, rfl, rfl⟩
  rintro k ⟨e, m, g, rb, h'⟩ ⟨rfl, h0, h3, h4, i, hi, h8, m4⟩
  dsimp only at h0 h3 h4 h8 m4
  by_cases hlt : i < 8
  · have hlt' : (i : Int) < 8 := by omega
    have hw := wrapI (n := (i : Int) + 1) (by unfold R; omega)
    have hw8 := wrapI (n := 8 * (i : Int)) (by unfold R; omega)
    have hsn : ¬ (8 * (i : Int) < 0) := by omega
    have hmin : min (8 * (i : Int)).toNat 64 = 8 * i := by omega
    have hby : IntKind.u8.wrap ((n : Int).fdiv (2 ^ (8 * i))) = ((byteAt n i).toNat : Int) := by rw [u8_wrap, byteAt_val]
    have h18 : 1 ≤ 8 - i := by omega
    simp [h0, h3, h4, h8, m4, hlt', hlt, hw8, hsn, hmin, hby, le_len, h18, hw]
    refine ⟨k - 1, by omega, i + 1, by omega, by simp, ?_⟩
    have e1 : List.take i (bytesV (le n i ++ List.replicate (8 - i) 0)) = bytesV (le n i) := by
      rw [bytesV_take, List.take_append_of_le_length (by rw [le_len]; omega), List.take_of_length_le (by rw [le_len]; omega)]
    have e2 : List.drop (i + 1) (bytesV (le n i ++ List.replicate (8 - i) 0)) = bytesV (List.replicate (8 - (i + 1)) 0) := by
      rw [bytesV_drop, List.drop_append, List.drop_eq_nil_of_le (by rw [le_len]; omega), le_len, List.nil_append, List.drop_replicate, show 8 - i - (i + 1 - i) = 8 - (i + 1) by omega]
    rw [e1, e2, le_step]
    simp [bytesV]
  · have : i = 8 := by omega
    subst this
    have hl : s.length + 8 < 4611686018427387904 := by omega
    simp [h0, h3, h4, h8, m4, effO, le_len, bytesV_all', unbytes_bytesV, hl, s42]
    exact hso.symm

theorem seal45 (s : Str) (hs : s.length < 1152921504606846976) (h : List HO) : VC X 45 [S s] h = some (.ret (S (sealOf s)), h) := by
  rw [v45]
  refine Ans.eq (ans_wp ?_)
  have ec := of95 s (by unfold N63; omega) h
  have hn : crcOf s < 18446744073709551616 := by unfold crcOf; omega
  have hso : sealOf s = s ++ le (crcOf s) 8 := rfl
  generalize crcOf s = n at ec hn hso
  have hr0 : rest n 0 = n := by unfold rest; simp; omega
  simp [s45, ec]
  refine wp_loop (fun k σ => σ.h = h ∧ ∃ i : Nat, k + i = 8 ∧ σ.e 8 = .v (I i) ∧ σ.e 3 = .v (S (s ++ le n i)) ∧ σ.e 4 = .v (.int .u64 (rest n i))) ?_ 8 _ ⟨rfl, 0, rfl, rfl, by simp [le], by rw [hr0]; rfl⟩
  rintro k ⟨e, m, g, rb, h'⟩ ⟨rfl, i, hi, h8, h3, h4⟩
  dsimp only at h3 h4 h8
  by_cases hlt : i < 8
  · have hlt' : (i : Int) < 8 := by omega
    have hw := wrapI (n := (i : Int) + 1) (by unfold R; omega)
    have hby : IntKind.u8.wrap ((rest n i).tmod 256) = ((byteAt n i).toNat : Int) := by rw [rest_byte n i hlt, u8_wrap, byteAt_val]; omega
    have hq : (rest n i).tdiv 256 = rest n (i + 1) := rest_step n i
    have hqw : IntKind.u64.wrap (rest n (i + 1)) = rest n (i + 1) := u64_small _ ⟨rest_nonneg _ _, by have := rest_lt n (i + 1); omega⟩
    have hub : unbytes [V.int .u8 ((byteAt n i).toNat : Int)] = some [byteAt n i] := unbytes_bytesV [byteAt n i]
    have hll : (s ++ le n i).length = s.length + i := by simp [le_len]
    have hl2 : s.length + i + 1 < 4611686018427387904 := by omega
    simp [h3, h4, h8, hlt', hby, hq, hqw, hub, le_len, hw, hl2]
    exact ⟨k - 1, by omega, i + 1, by omega, by simp, by rw [le_step], rfl⟩
  · have : i = 8 := by omega
    subst this
    simp [h3, h4, h8, s45]
    exact hso.symm
@[simp] theorem i64_bits : IntKind.i64.bits = 64 := rfl
theorem wide93 (w : Nat) (hw : 1 ≤ w ∧ w ≤ 8) (h : List HO) : VC X 93 [I w] h = some (.ret (B true), h) := by
  rw [v93]
  refine Ans.eq (ans_wp ?_)
  have h1 : (1 : Int) ≤ w := by omega
  have h2 : (w : Int) ≤ 8 := by omega
  simp [s93, h1, h2]

end Go.Vm.Tryz
end

section
set_option linter.unusedVariables false
set_option linter.unusedSimpArgs false
set_option maxRecDepth 10000
namespace Go.Vm.Tryz
open Go Go.Vm

/-- Bytes as a number, the highest first. -/
def beNat : Str → Nat → Nat
  | [], n => n
  | b :: s, n => beNat s (n * 256 + b.toNat)
def takeN (n : Int) (s : Str) : Option (Str × Str) := if 0 ≤ n ∧ n ≤ s.length then some (s.take n.toNat, s.drop n.toNat) else none
def numP (w : Nat) (s : Str) : Option (Int × Str) := if w ≤ s.length then some ((beNat (s.take w) 0 : Int), s.drop w) else none
def textP (most : Int) (s : Str) : Option (Str × Str) := (numP 2 s).bind fun p => if p.1 > most then none else takeN p.1 p.2
def xattrP (s : Str) : Option (Xattr × Str) := (textP 16 s).bind fun a => (textP 32 a.2).bind fun b => some (⟨a.1, ⟨0, 0⟩, b.1, false⟩, b.2)
def xattrsP : Nat → Str → Option (List Xattr × Str)
  | 0, s => some ([], s)
  | n + 1, s => (xattrP s).bind fun a => (xattrsP n a.2).bind fun b => some (a.1 :: b.1, b.2)
def itemP (s : Str) : Option (Item × Str) :=
  (textP 8192 s).bind fun path => (numP 1 path.2).bind fun kind => (numP 2 kind.2).bind fun same => (numP 2 same.2).bind fun mode => (numP 4 mode.2).bind fun hi => (numP 4 hi.2).bind fun lo =>
  (textP 1024 lo.2).bind fun body => (numP 1 body.2).bind fun n => (xattrsP n.1.toNat n.2).bind fun xs =>
  some (⟨path.1, kind.1, mode.1, hi.1 * 4294967296 + lo.1, body.1, some xs.1, same.1 - 1⟩, xs.2)
/-- May an item stand behind others? -/
def fitB (i : Item) (l : List Item) : Bool :=
  if i.kind < 1 ∨ i.kind > 3 ∨ i.mode > 511 ∨ i.same ≥ l.length then false else
  if 0 ≤ i.same then
    match l[i.same.toNat]? with
    | some x => decide (x.kind = i.kind ∧ i.kind ≠ 2 ∧ x.same < 0 ∧ i.mode = 0 ∧ i.time = 0 ∧ i.body = [] ∧ i.xattrs.l.length = 0)
    | none => false
  else timeGood i.time && decide (i.kind ≠ 2 ∨ i.body = []) && decide (i.kind ≠ 3 ∨ (i.body ≠ [] ∧ i.body.length ≤ 120))
def itemsP : Nat → List Item → Str → Option (List Item × Str)
  | 0, l, s => some (l, s)
  | n + 1, l, s => (itemP s).bind fun a => if fitB a.1 l then itemsP n (l ++ [a.1]) a.2 else none
def openOf (s : Str) : Str × Bool := if s.length < 8 then ([], false) else (s.take (s.length - 8), sealOf (s.take (s.length - 8)) == s)
/-- The items of bytes. -/
def getP (s : Str) : Option (List Item) :=
  if (openOf s).2 then (numP 2 (openOf s).1).bind fun m => if m.1 > 1000 then none else (itemsP m.1.toNat [] m.2).bind fun r => if r.2 = [] then some r.1 else none else none

theorem beNat_lt : ∀ (s : Str) (n : Nat), beNat s n < (n + 1) * 256 ^ s.length
  | [], n => by simp [beNat]
  | b :: s, n => by
    have h := beNat_lt s (n * 256 + b.toNat)
    have hb : b.toNat < 256 := b.toNat_lt
    rw [beNat]
    refine Nat.lt_of_lt_of_le h ?_
    rw [List.length_cons, Nat.pow_succ, Nat.mul_comm (256 ^ s.length) 256, ← Nat.mul_assoc]
    exact Nat.mul_le_mul_right _ (by omega)
theorem beNat_snoc : ∀ (s : Str) (b : UInt8) (n : Nat), beNat (s ++ [b]) n = beNat s n * 256 + b.toNat
  | [], b, n => rfl
  | a :: s, b, n => by rw [List.cons_append, beNat, beNat, beNat_snoc s b]
theorem numP_range {w : Nat} {s : Str} {n : Int} {r : Str} (h : numP w s = some (n, r)) : 0 ≤ n ∧ n < 256 ^ w := by
  unfold numP at h
  split at h
  · simp only [Option.some.injEq, Prod.mk.injEq] at h
    obtain ⟨rfl, _⟩ := h
    have := beNat_lt (s.take w) 0
    rw [List.length_take, Nat.min_eq_left (by assumption), Nat.zero_add, Nat.one_mul] at this
    refine ⟨by omega, ?_⟩
    have h2 : ((256 ^ w : Nat) : Int) = (256 : Int) ^ w := by simp
    rw [← h2]
    omega
  · cases h
end Go.Vm.Tryz
end

section
set_option linter.unusedSimpArgs false
set_option linter.unusedVariables false
namespace Go.Vm
open Go

@[simp] theorem cells_float (k : FloatKind) (n : Nat) : V.cells (.float k n) = [.float k n] := rfl
@[simp] theorem cells_nilp : V.cells .nilp = [.nilp] := rfl
@[simp] theorem cells_nilm : V.cells .nilm = [.nilm] := rfl
@[simp] theorem cells_nilf : V.cells .nilf = [.nilf] := rfl
@[simp] theorem cells_nili : V.cells .nili = [.nili] := rfl
@[simp] theorem cells_func (f : Nat) (cs : List V) : V.cells (.func f cs) = [.func f cs] := rfl
@[simp] theorem cells_iface (t : Nat) (v : V) : V.cells (.iface t v) = [.iface t v] := rfl
@[simp] theorem cells_cref (cs : List V) : V.cells (.cref cs) = [.cref cs] := rfl
@[simp] theorem cells_eptr (a b c d : Nat) : V.cells (.eptr a b c d) = [.eptr a b c d] := rfl

/-- What is appended. -/
def srcH (h : List HO) (y : V) : Option (List V) := St.srcV ⟨fun _ => .v .undef, fun _ => none, 0, 0, h⟩ y
theorem srcH_eq (σ : St) (y : V) : σ.srcV y = srcH σ.h y := rfl
@[simp] theorem srcH_snap (h : List HO) (l : List V) : srcH h (.snap l) = some l := rfl
@[simp] theorem srcH_nils (h : List HO) : srcH h .nils = some [] := rfl
@[simp] theorem srcH_str (h : List HO) (s : List UInt8) : srcH h (.str s) = some (bytesV s) := rfl

def appendV (h : List HO) (size bytes : Nat) (x y : V) : Option (V × List HO) :=
  (srcH h y).bind fun add =>
    if add.all (fun v => v.cells.length == size) then
      match x with
      | .nils =>
        bif add.isEmpty then some (.nils, h) else
        if add.length * bytes < far ∧ add.length < far ∧ 0 < size then some (.sl h.length 0 size 0 add.length, h ++ [HO.row 0 add]) else none
      | .sl id ver sz off len =>
        match h[id]? with
        | some (.row ver' l) =>
          if ver' = ver ∧ sz = size ∧ off = 0 ∧ len ≤ l.length ∧ (len + add.length) * bytes < far ∧ len + add.length < far then
            some (.sl id (ver + 1) size 0 (len + add.length), h.set id (.row (ver + 1) (l.take len ++ add)))
          else none
        | _ => none
      | _ => none
    else none

/-- What is left of a state when its heap is another one. -/
def Out.of (σ : St) : Option (V × List HO) → Option Out
  | some (v, h) => some (.ok (.v v) { σ with h := h })
  | none => none
@[simp] theorem Out_of_some (e : Nat → T) (m : Nat → Option (Nat × List V)) (g rb : Nat) (h h' : List HO) (v : V) : Out.of ⟨e, m, g, rb, h⟩ (some (v, h')) = some (.ok (.v v) ⟨e, m, g, rb, h'⟩) := rfl

@[simp high] theorem stepO_appendV (c : Calls1) (σ : St) (d : Option Nat) (size bytes : Nat) (x y : Opd) : stepO c σ d (.append size bytes x y) = match σ.val x, σ.val y with
    | some x, some y => Out.of σ (appendV σ.h size bytes x y)
    | _, _ => none := by
  rw [stepO_append]
  unfold effO
  dsimp only
  cases σ.val x with
  | none => rfl
  | some x =>
    cases σ.val y with
    | none => rfl
    | some y =>
      dsimp only
      unfold appendV
      rw [srcH_eq]
      cases srcH σ.h y with
      | none => rfl
      | some add =>
        simp only [Option.bind_some]
        by_cases h1 : (add.all fun v => v.cells.length == size) = true
        · rw [if_pos h1, if_pos h1]
          cases x <;> try rfl
          case nils =>
            cases add.isEmpty
            · simp only [cond_false]
              split <;> rfl
            · rfl
          case sl id ver sz off len =>
            dsimp only
            cases σ.h[id]? with
            | none => rfl
            | some q =>
              cases q <;> try rfl
              dsimp only
              split <;> rfl
        · rw [if_neg h1, if_neg h1]
          rfl

/-- A slice that running code owns, above a heap 'h': it holds 'l'. -/
def Own {α : Type} (h : List HO) (sz : Nat) (f : α → V) (l : List α) (v : V) (H : List HO) : Prop :=
  ∃ junk, H = h ++ junk ∧ (v = .nils ∧ l = [] ∨ ∃ k ver, v = .sl (h.length + k) ver sz 0 l.length ∧ junk[k]? = some (.row ver (l.map f)))

section
variable {α : Type} {h H : List HO} {sz : Nat} {f : α → V} {l : List α} {v : V}

theorem Own.nil (h : List HO) (sz : Nat) (f : α → V) : Own h sz f [] .nils h := ⟨[], by simp, .inl ⟨rfl, rfl⟩⟩

theorem Own.more (o : Own h sz f l v H) (j : List HO) : Own h sz f l v (H ++ j) := by
  obtain ⟨junk, rfl, o⟩ := o
  refine ⟨junk ++ j, by simp, ?_⟩
  rcases o with o | ⟨k, ver, rfl, e⟩
  · exact .inl o
  · refine .inr ⟨k, ver, rfl, ?_⟩
    have hlt : k < junk.length := by
      rcases Nat.lt_or_ge k junk.length with hl | hl
      · exact hl
      · rw [List.getElem?_eq_none hl] at e; cases e
    rw [List.getElem?_append_left hlt]; exact e

theorem Own.heap (o : Own h sz f l v H) : ∃ junk, H = h ++ junk := by obtain ⟨junk, e, _⟩ := o; exact ⟨junk, e⟩

theorem Own.apps (o : Own h sz f l v H) (bs : List α) (bytes : Nat) (hz : 0 < sz) (hf : ∀ a ∈ bs, (f a).cells.length = sz) (h1 : (l.length + bs.length) * bytes < 4294967296) (h2 : l.length + bs.length < 4294967296) (y : V) (hy : srcH H y = some (bs.map f)) :
    ∃ v' H', appendV H sz bytes v y = some (v', H') ∧ Own h sz f (l ++ bs) v' H' := by
  obtain ⟨junk, rfl, o⟩ := o
  have hall : ((bs.map f).all fun v => v.cells.length == sz) = true := by
    rw [List.all_eq_true]
    intro v hv
    obtain ⟨a, ha, rfl⟩ := List.mem_map.1 hv
    simpa using hf a ha
  unfold appendV
  rw [hy]
  simp only [Option.bind_some, hall, if_true]
  rcases o with ⟨rfl, rfl⟩ | ⟨k, ver, rfl, e⟩
  · dsimp only
    cases bs with
    | nil => exact ⟨_, _, rfl, junk, rfl, .inl ⟨rfl, rfl⟩⟩
    | cons a bs =>
      simp only [List.map_cons, List.isEmpty_cons, cond_false]
      simp only [List.length_nil, Nat.zero_add] at h1 h2
      rw [if_pos ⟨by simpa [far] using h1, by simpa [far] using h2, hz⟩]
      refine ⟨_, _, rfl, junk ++ [.row 0 (f a :: bs.map f)], by simp, .inr ⟨junk.length, 0, by simp, by simp⟩⟩
  · have hlt : k < junk.length := by
      rcases Nat.lt_or_ge k junk.length with hl | hl
      · exact hl
      · rw [List.getElem?_eq_none hl] at e; cases e
    have e2 : (h ++ junk)[h.length + k]? = some (.row ver (l.map f)) := by rw [app_at]; exact e
    dsimp only
    rw [e2]
    dsimp only
    rw [if_pos ⟨rfl, rfl, rfl, by simp, by simpa [far] using h1, by simpa [far] using h2⟩]
    refine ⟨_, _, rfl, junk.set k (.row (ver + 1) ((l ++ bs).map f)), ?_, .inr ⟨k, ver + 1, by simp, by simp [hlt]⟩⟩
    rw [app_set, List.map_append, List.take_of_length_le (by simp)]

theorem Own.app (o : Own h sz f l v H) (a : α) (bytes : Nat) (hz : 0 < sz) (hf : (f a).cells.length = sz) (h1 : (l.length + 1) * bytes < 4294967296) (h2 : l.length + 1 < 4294967296) :
    ∃ v' H', appendV H sz bytes v (.snap [f a]) = some (v', H') ∧ Own h sz f (l ++ [a]) v' H' :=
  o.apps [a] bytes hz (by simpa using hf) h1 h2 _ rfl

theorem Own.elems (o : Own h sz f l v H) (e : Nat → T) (m : Nat → Option (Nat × List V)) (g rb : Nat) : St.elems ⟨e, m, g, rb, H⟩ v = some (l.map f) := by
  obtain ⟨junk, rfl, ⟨rfl, rfl⟩ | ⟨k, ver, rfl, e⟩⟩ := o
  · rfl
  · simp [e, List.take_of_length_le]

theorem pures_mapf (l : List α) (hp : ∀ a ∈ l, (f a).pure = true) : V.pure.pures (l.map f) = true := by
  induction l with
  | nil => rfl
  | cons a l ih =>
    simp only [List.map_cons, V.pure.pures, Bool.and_eq_true]
    exact ⟨hp a (by simp), ih fun b hb => hp b (by simp [hb])⟩

theorem Own.fin (o : Own h sz f l v H) (hp : ∀ a ∈ l, (f a).pure = true) : finish false h (.ret v) H = (.ret (.snap (l.map f)), h) := by
  obtain ⟨junk, rfl, ⟨rfl, rfl⟩ | ⟨k, ver, rfl, e⟩⟩ := o
  · unfold finish
    simp [frzF, frz, frz2, frz1, V.pure]
  · rw [finish_row h junk k ver sz (l.map f) e (pures_mapf l hp) 0 l.length (by simp)]
    simp [List.take_of_length_le]

end
end Go.Vm
end

section
set_option linter.unusedVariables false
set_option linter.unusedSimpArgs false
set_option maxRecDepth 10000
namespace Go.Vm.Tryz
open Go Go.Vm

abbrev eye (s : Str) : HO := .cells [S s, B true]
abbrev fault (e : Int) : V := .iface 181 (.agg [I e])
/-- What a look answers: a value, the eye behind it; or a fault. -/
def Look {α : Type} (h : List HO) (p : Nat) (f : α → V) (q : Option (CR × List HO)) (r : Option (α × Str)) : Prop :=
  match r with
  | some (a, s) => q = some (.ret (f a), h.set p (eye s))
  | none => ∃ e s, e ≠ 0 ∧ q = some (.pan (fault e), h.set p (eye s))

theorem set_same {h : List HO} {p : Nat} {o : HO} (hp : h[p]? = some o) : h.set p o = h := by
  apply List.ext_getElem?
  intro i
  rw [List.getElem?_set]
  split
  · subst_vars
    split
    · exact hp.symm
    · rename_i h1; rw [List.getElem?_eq_none (by omega)]
  · rfl
theorem lt_of_some {h : List HO} {p : Nat} {o : HO} (hp : h[p]? = some o) : p < h.length := by
  rcases Nat.lt_or_ge p h.length with hl | hl
  · exact hl
  · rw [List.getElem?_eq_none hl] at hp; cases hp

theorem topOK_set (n : Nat) : ∀ (h : List HO) (p : Nat) (cs cs' : List V) (junk : List HO), h[p]? = some (.cells cs) → V.lo.los n cs' = true → topOK n h (h.set p (.cells cs') ++ junk)
  | [], _, _, _, _, e, _ => by simp at e
  | a :: r, 0, cs, cs', junk, e, hc => by
    simp at e
    subst e
    have key : ∀ r : List HO, topOK n r (r ++ junk) := by
      intro r
      induction r with
      | nil => trivial
      | cons a r ih => exact ⟨.inl rfl, ih⟩
    exact ⟨.inr hc, key r⟩
  | a :: r, p + 1, cs, cs', junk, e, hc => ⟨.inl rfl, topOK_set n r p cs cs' junk (by simpa using e) hc⟩

/-- The end of a call that turned a block of its caller's, and made some. -/
theorem finish_set (h : List HO) (p : Nat) (cs cs' : List V) (junk : List HO) (v v' : V) (hp : h[p]? = some (.cells cs)) (hc : V.pure.pures cs' = true) (hlo : V.lo.los h.length cs' = true)
    (hf0 : frz h.length (h.set p (.cells cs') ++ junk) v = some v') : finish false h (.ret v) (h.set p (.cells cs') ++ junk) = (.ret v', h.set p (.cells cs')) := by
  have hf : frzF h.length (h.set p (.cells cs') ++ junk) v = some v' := by unfold frzF; rw [hf0]
  unfold finish
  have hl : (h.set p (.cells cs') ++ junk).take h.length = h.set p (.cells cs') := by
    have : h.length = (h.set p (.cells cs')).length := by simp
    rw [this, List.take_left']
    rfl
  dsimp only
  rw [hl]
  by_cases he : h.set p (.cells cs') = h
  · rw [if_pos ⟨rfl, he⟩, hf]
    dsimp only
    rw [he]
  · rw [if_neg (fun q => he q.2), if_pos ⟨rfl, topOK_set _ h p cs cs' junk hp hlo⟩, hf]
theorem finish_setp (h : List HO) (p : Nat) (cs cs' : List V) (junk : List HO) (v : V) (hp : h[p]? = some (.cells cs)) (hlo : V.lo.los h.length cs' = true) (hv : v.pure = true) :
    finish false h (.pan v) (h.set p (.cells cs') ++ junk) = (.pan v, h.set p (.cells cs')) := by
  unfold finish
  have hl : (h.set p (.cells cs') ++ junk).take h.length = h.set p (.cells cs') := by
    have : h.length = (h.set p (.cells cs')).length := by simp
    rw [this, List.take_left']
    rfl
  dsimp only
  rw [hl]
  by_cases he : h.set p (.cells cs') = h
  · rw [if_pos ⟨he, hv⟩, he]
  · rw [if_neg (fun q => he q.1), if_pos ⟨topOK_set _ h p cs cs' junk hp hlo, hv⟩]

theorem frz_pure (n : Nat) (h : List HO) (v : V) (hv : v.pure = true) : frz n h v = some v := by
  have key : ∀ l' : List V, V.pure.pures l' = true → frzs n h l' = some l' := by
    intro l'
    induction l' with
    | nil => intro _; rfl
    | cons a l' ih =>
      intro hl
      simp only [V.pure.pures, Bool.and_eq_true] at hl
      simp only [frzs, frz1, hl.1, if_true, Option.bind_some, ih hl.2]
  have key2 : ∀ a : V, a.pure = true → frz2 n h a = some a := by
    intro a ha
    cases a <;> first | (simp only [frz2, frz1, ha, if_true]; done) | skip
    case agg cs => simp only [frz2, key cs ha, Option.map_some]
  have key3 : ∀ l' : List V, V.pure.pures l' = true → frz2s n h l' = some l' := by
    intro l'
    induction l' with
    | nil => intro _; rfl
    | cons a l' ih =>
      intro hl
      simp only [V.pure.pures, Bool.and_eq_true] at hl
      simp only [frz2s, key2 a hl.1, Option.bind_some, ih hl.2]
  cases v <;> first | (exact key2 _ hv) | skip
  case tuple vs => simp only [frz, key3 vs hv, Option.map_some]

theorem fin_eye (h : List HO) (p : Nat) (s s' : Str) (junk : List HO) (v : V) (hp : h[p]? = some (eye s)) (hv : v.pure = true) : finish false h (.ret v) (h.set p (eye s') ++ junk) = (.ret v, h.set p (eye s')) :=
  finish_set h p _ _ junk v v hp rfl rfl (frz_pure _ _ _ hv)
theorem fin_eye0 (h : List HO) (p : Nat) (s s' : Str) (v : V) (hp : h[p]? = some (eye s)) (hv : v.pure = true) : finish false h (.ret v) (h.set p (eye s')) = (.ret v, h.set p (eye s')) := by
  have := fin_eye h p s s' [] v hp hv
  rwa [List.append_nil] at this
theorem fin_eyep (h : List HO) (p : Nat) (s s' : Str) (junk : List HO) (e : Int) (hp : h[p]? = some (eye s)) : finish false h (.pan (fault e)) (h.set p (eye s') ++ junk) = (.pan (fault e), h.set p (eye s')) :=
  finish_setp h p _ _ junk _ hp rfl rfl
theorem fin_eyep0 (h : List HO) (p : Nat) (s s' : Str) (e : Int) (hp : h[p]? = some (eye s)) : finish false h (.pan (fault e)) (h.set p (eye s')) = (.pan (fault e), h.set p (eye s')) := by
  have := fin_eyep h p s s' [] e hp
  rwa [List.append_nil] at this
theorem finish_pan (h : List HO) (v : V) (hv : v.pure = true) : finish false h (.pan v) h = (.pan v, h) := by
  unfold finish; simp [hv]


theorem dead107 (h : List HO) (p : Nat) (s : Str) (hp : h[p]? = some (eye s)) : VC X 107 [.ptr p 0] h = some (.ret (B false), h) := by
  rw [v107]
  refine Ans.eq (ans_wp ?_)
  simp [s107, hp]
theorem fail56 (h : List HO) (p : Nat) (s : Str) (hp : h[p]? = some (eye s)) (e : Int) : VC X 56 [.ptr p 0, I e] h = some (.pan (fault e), h) := by
  have hd := dead107 h p s hp
  rw [v56]
  refine Ans.eq (ans_wp ?_)
  simp [s56, hd, finish_pan _ (fault e) rfl]

theorem raw108 (h : List HO) (p : Nat) (s : Str) (n : Int) (hp : h[p]? = some (eye s)) : Look h p S (VC X 108 [.ptr p 0, I n] h) (takeN n s) := by
  have hd := dead107 h p s hp
  have hf := fail56 h p s hp 201
  have hl := lt_of_some hp
  unfold Look takeN
  by_cases h0 : 0 ≤ n
  · by_cases h1 : n ≤ s.length
    · rw [if_pos ⟨h0, h1⟩]
      dsimp only
      rw [v108]
      refine Ans.eq (ans_wp ?_)
      have h2 : n.toNat ≤ s.length := by omega
      have h0' : ¬ n < 0 := by omega
      have h1' : ¬ (s.length : Int) < n := by omega
      have hfe := fin_eye0 h p s (s.drop n.toNat) (S (s.take n.toNat)) hp rfl
      have htk : List.take (s.length - n.toNat) (List.drop n.toNat s) = List.drop n.toNat s := List.take_of_length_le (by simp)
      simp [s108, hd, hp, h0, h1, h0', h1', h2, htk, hfe]
    · rw [if_neg (by omega)]
      refine ⟨201, s, by decide, ?_⟩
      rw [set_same hp, v108]
      refine Ans.eq (ans_wp ?_)
      have h0' : ¬ n < 0 := by omega
      have h1' : (s.length : Int) < n := by omega
      simp [s108, hd, hp, hf, h0', h1', finish_pan _ (fault 201) rfl]
  · rw [if_neg (by omega)]
    refine ⟨201, s, by decide, ?_⟩
    rw [set_same hp, v108]
    refine Ans.eq (ans_wp ?_)
    have h0' : n < 0 := by omega
    simp [s108, hd, hp, hf, h0', finish_pan _ (fault 201) rfl]

theorem shl_or (n b : Nat) (hn : n < 2 ^ 48) (hb : b < 256) : (((n : Int) * 256 % 18446744073709551616).toNat ||| ((b : Int) % 18446744073709551616).toNat) = n * 256 + b := by
  have e1 : ((n : Int) * 256 % 18446744073709551616).toNat = 2 ^ 8 * n := by omega
  have e2 : ((b : Int) % 18446744073709551616).toNat = b := by omega
  rw [e1, e2, ← Nat.two_pow_add_eq_or_of_lt (show b < 2 ^ 8 by omega)]
  omega

theorem num55 (h : List HO) (p : Nat) (s : Str) (hp : h[p]? = some (eye s)) (w : Nat) (wi : Int) (hwi : wi = w) (hw : 1 ≤ w ∧ w ≤ 4) : Look h p I (VC X 55 [.ptr p 0, I wi] h) (numP w s) := by
  have hd := dead107 h p s hp
  have hwd := wide93 w (by omega) h
  have hr := raw108 h p s wi hp
  subst hwi
  have hl := lt_of_some hp
  unfold Look takeN at hr
  unfold Look numP
  by_cases h1 : w ≤ s.length
  · rw [if_pos ⟨by omega, by omega⟩] at hr
    rw [if_pos h1]
    dsimp only at hr ⊢
    rw [v55]
    refine Ans.eq (ans_wp ?_)
    have hlen : (s.take w).length = w := by rw [List.length_take]; omega
    simp only [Int.toNat_natCast] at hr
    generalize s.take w = a at hr hlen
    have hlh : (h.set p (eye (s.drop w))).length = h.length := by simp
    have hfe := fun junk n => fin_eye h p s (s.drop w) junk (I n) hp rfl
    generalize h.set p (eye (s.drop w)) = h1 at hr hlh hfe
    have hval := beNat_lt a 0
    rw [hlen] at hval
    have h256 : 256 ^ w ≤ 4294967296 := by
      obtain ⟨q1, q2⟩ := hw
      have : w = 1 ∨ w = 2 ∨ w = 3 ∨ w = 4 := by omega
      rcases this with rfl | rfl | rfl | rfl <;> decide
    simp [s55, hd, hwd, hr, effO]
    refine wp_loop (fun n σ => σ.e 0 = .v (.ptr p 0) ∧ σ.e 18 = .v (.sl h1.length 0 1 0 a.length) ∧ σ.e 19 = .v (I a.length) ∧ σ.h = h1 ++ [.row 0 (bytesV a)] ∧ ∃ j : Nat, n + j = a.length ∧ σ.e 20 = .v (I j) ∧ σ.e 5 = .v (I (beNat (a.take j) 0))) ?_ a.length _ ⟨rfl, rfl, rfl, rfl, 0, by simp, rfl, rfl⟩
    rintro n ⟨e, m, g, rb, h'⟩ ⟨k0, k18, k19, kh, j, hj, k20, k5⟩
    dsimp only at k0 k18 k19 kh k20 k5
    subst kh
    by_cases hlt : j < a.length
    · have ha : a[j]? = some a[j] := List.getElem?_eq_getElem hlt
      have hw1 := wrapI (n := (j : Int) + 1) (by unfold R; omega)
      have hb : a[j].toNat < 256 := a[j].toNat_lt
      have hbt := beNat_lt (a.take j) 0
      have hjl : (a.take j).length = j := by rw [List.length_take]; omega
      rw [hjl] at hbt
      have hpw : 256 ^ j ≤ 256 ^ w := Nat.pow_le_pow_right (by decide) (by omega)
      have hsn := beNat_snoc (a.take j) a[j] 0
      rw [← List.take_succ_eq_append_getElem hlt] at hsn
      generalize beNat (a.take j) 0 = q at k5 hbt hsn
      have hor := shl_or q a[j].toNat (by omega) hb
      have hwq := wrapI (n := (q : Int) * 256) (by unfold R; omega)
      have hwb := wrapI (n := (a[j].toNat : Int)) (by unfold R; omega)
      have hwr := wrapI (n := ((q * 256 + a[j].toNat : Nat) : Int)) (by unfold R; omega)
      simp [k0, k18, k19, k20, k5, hlt, bytesV, ha, hw1, hwq, hwb, hor]
      exact ⟨n - 1, by omega, j + 1, by omega, by simp, by rw [hsn]; exact hwr⟩
    · have hjl : j = a.length := by omega
      subst hjl
      rw [List.take_of_length_le (Nat.le_refl _)] at k5
      have hnn : decide (((beNat a 0 : Nat) : Int) < 0) = false := by simp
      simp [k0, k18, k19, k20, k5, s55, hfe, hnn]
  · rw [if_neg (by omega)] at hr
    rw [if_neg h1]
    obtain ⟨e, s', he, hq⟩ := hr
    refine ⟨e, s', he, ?_⟩
    rw [v55]
    refine Ans.eq (ans_wp ?_)
    have hfe := fin_eyep0 h p s s' e hp
    simp [s55, hd, hwd, hq, hfe]

/-- A look goes on behind another one. -/
theorem Look.some {α : Type} {h : List HO} {p : Nat} {f : α → V} {q : Option (CR × List HO)} {a : α} {s : Str} (l : Look h p f q (some (a, s))) : q = some (.ret (f a), h.set p (eye s)) := l
theorem Look.none {α : Type} {h : List HO} {p : Nat} {f : α → V} {q : Option (CR × List HO)} (l : Look h p f q none) : ∃ e s, e ≠ 0 ∧ q = Option.some (.pan (fault e), h.set p (eye s)) := l
theorem set_get {h : List HO} {p : Nat} {o o' : HO} (hp : h[p]? = some o) : (h.set p o')[p]? = some o' := by rw [List.getElem?_set]; simp [lt_of_some hp]

theorem text109 (h : List HO) (p : Nat) (s : Str) (hp : h[p]? = some (eye s)) (most : Int) : Look h p S (VC X 109 [.ptr p 0, I most] h) (textP most s) := by
  have hn := num55 h p s hp 2 2 rfl (by omega)
  unfold textP
  cases e1 : numP 2 s with
  | none =>
    rw [e1] at hn
    obtain ⟨e, s', he, hq⟩ := hn.none
    refine ⟨e, s', he, ?_⟩
    rw [v109]
    refine Ans.eq (ans_wp ?_)
    have hfe := fin_eyep0 h p s s' e hp
    simp [s109, hq, hfe]
  | some q =>
    obtain ⟨n, r⟩ := q
    rw [e1] at hn
    have hn := hn.some
    simp only [Option.bind_some]
    have hp1 := set_get (o' := eye r) hp
    by_cases hm : n > most
    · rw [if_pos hm]
      refine ⟨203, r, by decide, ?_⟩
      have hf := fail56 _ p r hp1 203
      have hfe := fin_eyep0 h p s r 203 hp
      rw [v109]
      refine Ans.eq (ans_wp ?_)
      have hm' : most < n := hm
      simp [s109, hn, hm', hf, hfe]
    · rw [if_neg hm]
      have hr := raw108 _ p r n hp1
      have hm' : ¬ most < n := hm
      cases e2 : takeN n r with
      | none =>
        rw [e2] at hr
        obtain ⟨e, s', he, hq⟩ := hr.none
        rw [List.set_set] at hq
        refine ⟨e, s', he, ?_⟩
        have hfe := fin_eyep0 h p s s' e hp
        rw [v109]
        refine Ans.eq (ans_wp ?_)
        simp [s109, hn, hm', hq, hfe]
      | some q =>
        obtain ⟨a, r2⟩ := q
        rw [e2] at hr
        have hr := hr.some
        rw [List.set_set] at hr
        have hfe := fin_eye0 h p s r2 (S a) hp rfl
        show _ = _
        rw [v109]
        refine Ans.eq (ans_wp ?_)
        simp [s109, hn, hm', hr, hfe]
end Go.Vm.Tryz
end

section
set_option linter.unusedVariables false
set_option linter.unusedSimpArgs false
set_option maxRecDepth 10000
namespace Go.Vm.Tryz
open Go Go.Vm

/-- What a look answers, as a condition on a call's end. -/
def LookP {α : Type} (h : List HO) (p : Nat) (f : α → V) (r : Option (α × Str)) (c : CR) (H : List HO) : Prop :=
  match r with
  | some (a, s) => c = .ret (f a) ∧ H = h.set p (eye s)
  | none => ∃ e s, e ≠ 0 ∧ c = .pan (fault e) ∧ H = h.set p (eye s)
theorem LookP.look {α : Type} {h : List HO} {p : Nat} {f : α → V} {r : Option (α × Str)} {q : Option (CR × List HO)} (a : Ans q (LookP h p f r)) : Look h p f q r := by
  obtain ⟨c, H, e, l⟩ := a.ex
  unfold LookP at l
  unfold Look
  split
  · dsimp only at l; obtain ⟨rfl, rfl⟩ := l; exact e
  · dsimp only at l; obtain ⟨e', s, he, rfl, rfl⟩ := l; exact ⟨e', s, he, e⟩
theorem LookP.pan {α : Type} {h : List HO} {p : Nat} {f : α → V} (e : Int) (he : e ≠ 0) (s : Str) : LookP h p f none (.pan (fault e)) (h.set p (eye s)) := ⟨e, s, he, rfl, rfl⟩

theorem own_seteye {α : Type} {h H : List HO} {p : Nat} {o o' : HO} {sz : Nat} {f : α → V} {l : List α} {v : V} (hp : p < h.length) (w : Own (h.set p o) sz f l v H) : Own (h.set p o') sz f l v (H.set p o') ∧ H[p]? = some o := by
  obtain ⟨junk, rfl, w⟩ := w
  refine ⟨⟨junk, ?_, ?_⟩, ?_⟩
  · rw [List.set_append_left _ _ (by simpa using hp), List.set_set]
  · simpa using w
  · rw [List.getElem?_append_left (by simpa using hp), List.getElem?_set]; simp [hp]
theorem own_frz {α : Type} {h H : List HO} {sz : Nat} {f : α → V} {l : List α} {v : V} (w : Own h sz f l v H) (hp : ∀ a ∈ l, (f a).pure = true) : frz1 h.length H v = some (.snap (l.map f)) := by
  obtain ⟨junk, rfl, ⟨rfl, rfl⟩ | ⟨k, ver, rfl, e⟩⟩ := w
  · rfl
  · have hpu := pures_mapf l hp
    simp [frz1, V.pure, e, hpu, List.take_of_length_le]

theorem own_cells {α : Type} {h H : List HO} {sz : Nat} {f : α → V} {l : List α} {v : V} (w : Own h sz f l v H) : v.cells = [v] := by
  obtain ⟨junk, rfl, ⟨rfl, rfl⟩ | ⟨k, ver, rfl, e⟩⟩ := w <;> rfl

theorem xattr_step (h : List HO) (p : Nat) (s : Str) (hp : h[p]? = some (eye s)) :
    (match xattrP s with
      | some (x, s') => ∃ h1, VC X 109 [.ptr p 0, I 16] h = some (.ret (S x.name), h1) ∧ VC X 109 [.ptr p 0, I 32] h1 = some (.ret (S x.val), h.set p (eye s')) ∧ x = ⟨x.name, ⟨0, 0⟩, x.val, false⟩
      | none => ∃ e s', e ≠ 0 ∧ (VC X 109 [.ptr p 0, I 16] h = some (.pan (fault e), h.set p (eye s')) ∨ ∃ a h1, VC X 109 [.ptr p 0, I 16] h = some (.ret (S a), h1) ∧ VC X 109 [.ptr p 0, I 32] h1 = some (.pan (fault e), h.set p (eye s')))) := by
  have h1 := text109 h p s hp 16
  unfold xattrP
  cases e1 : textP 16 s with
  | none =>
    rw [e1] at h1
    obtain ⟨e, s', he, hq⟩ := h1.none
    exact ⟨e, s', he, .inl hq⟩
  | some q =>
    obtain ⟨a, r⟩ := q
    rw [e1] at h1
    have h1 := h1.some
    have h2 := text109 _ p r (set_get (o' := eye r) hp) 32
    simp only [Option.bind_some]
    cases e2 : textP 32 r with
    | none =>
      rw [e2] at h2
      obtain ⟨e, s', he, hq⟩ := h2.none
      rw [List.set_set] at hq
      exact ⟨e, s', he, .inr ⟨a, _, h1, hq⟩⟩
    | some q =>
      obtain ⟨b, r2⟩ := q
      rw [e2] at h2
      have h2 := h2.some
      rw [List.set_set] at h2
      exact ⟨_, h1, h2, rfl⟩

structure It57 (h : List HO) (p : Nat) (path body : Str) (kind mode time same : Int) (N : Nat) (s : Str) (g2 g3 : Nat) (c2 : List V) (n : Nat) (σ : St) (j : Nat) (acc : List Xattr) (s' : Str) (v : V) : Prop where
  k0 : σ.e 0 = .v (.ptr p 0)
  k2 : σ.e 2 = .loc 2 g2 0
  k3 : σ.e 3 = .loc 3 g3 0
  m2 : σ.m 2 = some (g2, c2)
  k27 : σ.e 27 = .v (I N)
  hj : n + j = N
  k28 : σ.e 28 = .v (I j)
  hacc : acc.length = j
  m3 : σ.m 3 = some (g3, [S path, I kind, I mode, .int .u64 time, S body, v, I same])
  hv : Own (h.set p (eye s')) 5 Xattr.v acc v σ.h
  hx : xattrsP N s = (xattrsP n s').map fun r => (acc ++ r.1, r.2)
def It57' (h : List HO) (p : Nat) (path body : Str) (kind mode time same : Int) (N : Nat) (s : Str) (g2 g3 : Nat) (c2 : List V) (n : Nat) (σ : St) : Prop := ∃ j acc s' v, It57 h p path body kind mode time same N s g2 g3 c2 n σ j acc s' v

/-- The item as far as it is known, with so many xattrs to come. -/
theorem item57_loop (h : List HO) (p : Nat) (s0 : Str) (hp : h[p]? = some (eye s0)) (path body : Str) (kind mode time same : Int) (N : Nat) (hN : N < 256) (s : Str)
    (σ : St) (g2 g3 : Nat) (c2 : List V) (hc2 : c2.length = 7) (k0 : σ.e 0 = .v (.ptr p 0)) (k2 : σ.e 2 = .loc 2 g2 0) (k3 : σ.e 3 = .loc 3 g3 0) (m2 : σ.m 2 = some (g2, c2))
    (m3 : σ.m 3 = some (g3, [S path, I kind, I mode, .int .u64 time, S body, .nils, I same])) (k27 : σ.e 27 = .v (I N)) (k28 : σ.e 28 = .v (I 0)) (kh : σ.h = h.set p (eye s)) :
    wp (run X [.c L57_1, .e 0 [2, 3] [2, 3], .c c57_17] σ) (endP s57 h (LookP h p Item.v ((xattrsP N s).bind fun xs => some (⟨path, kind, mode, time, body, some xs.1, same⟩, xs.2)))) := by
  have hpl := lt_of_some hp
  refine wp_loop (It57' h p path body kind mode time same N s g2 g3 c2) ?_ N _ ⟨0, [], s, .nils, k0, k2, k3, m2, k27, by simp, k28, rfl, m3, by rw [kh]; exact Own.nil _ _ _, by simp⟩
  clear k0 k2 k3 m2 m3 k27 k28 kh σ
  rintro n ⟨e, m, g, rb, H⟩ ⟨j, acc, s', v, k0, k2, k3, m2, k27, hj, k28, hacc, m3, hv, hx⟩
  dsimp only at k0 k2 k3 m2 m3 k27 k28 hv
  by_cases hlt : j < N
  · obtain ⟨n', rfl⟩ : ∃ n', n = n' + 1 := ⟨n - 1, by omega⟩
    have hlt' : (j : Int) < N := by omega
    have hw := wrapI (n := (j : Int) + 1) (by unfold R; omega)
    obtain ⟨hv2, hpe⟩ := own_seteye (o' := eye s') hpl hv
    have hst := xattr_step H p s' hpe
    rw [xattrsP] at hx
    obtain ⟨junk, hH⟩ := hv.heap
    cases e1 : xattrP s' with
    | none =>
      rw [e1] at hst hx
      simp only [Option.bind_none, Option.map_none] at hx
      obtain ⟨e', s2, he, hq⟩ := hst
      have hHs : H.set p (eye s2) = h.set p (eye s2) ++ junk := by rw [hH, List.set_append_left _ _ (by simpa using hpl), List.set_set]
      have hfe := fin_eyep h p s0 s2 junk e' hp
      rw [← hHs] at hfe
      rw [hx]
      rcases hq with hq | ⟨a, h1, hq1, hq2⟩
      · simp [k0, k2, k3, m2, m3, k27, k28, hlt', hq, hfe, s57]
        exact LookP.pan e' he s2
      · simp [k0, k2, k3, m2, m3, k27, k28, hlt', hq1, hq2, hfe, s57]
        exact LookP.pan e' he s2
    | some q =>
      obtain ⟨x, s2⟩ := q
      rw [e1] at hst hx
      simp only [Option.bind_some] at hx
      obtain ⟨h1, hq1, hq2, hxe⟩ := hst
      obtain ⟨hv3, _⟩ := own_seteye (o' := eye s2) hpl hv
      obtain ⟨v', H', ea, oa⟩ := hv3.app x 56 (by decide) rfl (by omega) (by omega)
      rw [hxe] at ea
      have ea' : appendV (H.set p (eye s2)) 5 56 v (.snap [.agg [S x.name, I 0, I 0, S x.val, B false]]) = _ := ea
      have hvc := own_cells oa
      simp [k0, k2, k3, m2, m3, k27, k28, hlt', hq1, hq2, ea', hw, hvc]
      refine ⟨n', by omega, j + 1, acc ++ [x], s2, v', ?_⟩
      refine ⟨rfl, rfl, rfl, ?_, rfl, by omega, by simp, by simp [hacc], ?_, oa, ?_⟩
      · first | exact m2 | simp [m2]
      · simp
      · rw [hx]
        cases xattrsP n' s2 <;> simp
  · have hjN : j = N := by omega
    obtain rfl : n = 0 := by omega
    subst hjN
    simp only [xattrsP, Option.map_some, List.append_nil] at hx
    rw [hx]
    have hfz := own_frz hv (fun a _ => rfl)
    obtain ⟨junk, hH⟩ := hv.heap
    have hsp : (h.set p (eye s')).length = h.length := by simp
    rw [hsp, hH] at hfz
    have hf : frz h.length (h.set p (eye s') ++ junk) (.agg [S path, I kind, I mode, .int .u64 time, S body, v, I same]) = some (Item.v ⟨path, kind, mode, time, body, some acc, same⟩) := by
      simp [frz, frz2, frzs, hfz]
      simp [frz1, V.pure]
    have hfe := finish_set h p _ [S s', B true] junk _ _ hp rfl rfl hf
    rw [← hH] at hfe
    have hvc := own_cells hv
    simp [k0, k2, k3, m2, m3, k27, k28, hc2, s57, hvc]
    rw [hfe]
    exact ⟨rfl, rfl⟩

/-- From the number of xattrs on. -/
theorem item57_a (h : List HO) (p : Nat) (s0 : Str) (hp : h[p]? = some (eye s0)) (path body : Str) (kind mode time same : Int) (s : Str)
    (σ : St) (g2 g3 : Nat) (c2 : List V) (hc2 : c2.length = 7) (k0 : σ.e 0 = .v (.ptr p 0)) (k2 : σ.e 2 = .loc 2 g2 0) (k3 : σ.e 3 = .loc 3 g3 0) (m2 : σ.m 2 = some (g2, c2))
    (m3 : σ.m 3 = some (g3, [S path, I kind, I mode, .int .u64 time, S body, .nils, I same])) (kh : σ.h = h.set p (eye s)) :
    wp (run X [.c c57_18] σ) (endP s57 h (LookP h p Item.v ((numP 1 s).bind fun n => (xattrsP n.1.toNat n.2).bind fun xs => some (⟨path, kind, mode, time, body, some xs.1, same⟩, xs.2)))) := by
  obtain ⟨e, m, g, rb, H⟩ := σ
  dsimp only at k0 k2 k3 m2 m3 kh
  subst kh
  have hn := num55 _ p s (set_get (o' := eye s) hp) 1 1 rfl (by omega)
  cases e1 : numP 1 s with
  | none =>
    rw [e1] at hn
    obtain ⟨e', s', he, hq⟩ := hn.none
    rw [List.set_set] at hq
    have hfe := fin_eyep0 h p s0 s' e' hp
    simp [k0, hq, hfe, s57]
    exact LookP.pan e' he s'
  | some q =>
    obtain ⟨n, s'⟩ := q
    rw [e1] at hn
    have hn := hn.some
    rw [List.set_set] at hn
    obtain ⟨hn0, hn1⟩ := numP_range e1
    have hnn : ((n.toNat : Nat) : Int) = n := by omega
    simp only [Option.bind_some]
    simp [k0, hn]
    refine item57_loop h p s0 hp path body kind mode time same n.toNat (by omega) s' _ g2 g3 c2 hc2 ?_ ?_ ?_ ?_ ?_ ?_ ?_ ?_
    all_goals first | rfl | assumption | (simp [hnn]; done)

/-- From the bytes on. -/
theorem item57_b (h : List HO) (p : Nat) (s0 : Str) (hp : h[p]? = some (eye s0)) (path : Str) (kind mode time same : Int) (s : Str)
    (σ : St) (g2 g3 : Nat) (c2 : List V) (hc2 : c2.length = 7) (k0 : σ.e 0 = .v (.ptr p 0)) (k2 : σ.e 2 = .loc 2 g2 0) (k3 : σ.e 3 = .loc 3 g3 0) (m2 : σ.m 2 = some (g2, c2))
    (m3 : σ.m 3 = some (g3, [S path, I kind, I mode, .int .u64 time, S [], .nils, I same])) (kh : σ.h = h.set p (eye s)) :
    wp (run X [.c c57_19] σ) (endP s57 h (LookP h p Item.v ((textP 1024 s).bind fun body => (numP 1 body.2).bind fun n => (xattrsP n.1.toNat n.2).bind fun xs => some (⟨path, kind, mode, time, body.1, some xs.1, same⟩, xs.2)))) := by
  obtain ⟨e, m, g, rb, H⟩ := σ
  dsimp only at k0 k2 k3 m2 m3 kh
  subst kh
  have hn := text109 _ p s (set_get (o' := eye s) hp) 1024
  rw [show c57_19 = .seq (.ops r57_4) c57_18 from rfl]
  generalize hC : c57_18 = C
  cases e1 : textP 1024 s with
  | none =>
    rw [e1] at hn
    obtain ⟨e', s', he, hq⟩ := hn.none
    rw [List.set_set] at hq
    have hfe := fin_eyep0 h p s0 s' e' hp
    simp [k0, hq, hfe, s57]
    exact LookP.pan e' he s'
  | some q =>
    obtain ⟨b, s'⟩ := q
    rw [e1] at hn
    have hn := hn.some
    rw [List.set_set] at hn
    simp only [Option.bind_some]
    simp [k0, k3, m3, hn]
    rw [← hC]
    refine item57_a h p s0 hp path b kind mode time same s' _ g2 g3 c2 hc2 ?_ ?_ ?_ ?_ ?_ ?_
    all_goals first | rfl | assumption | (simp; done)

theorem shl_or32 (a b : Nat) (ha : a < 4294967296) (hb : b < 4294967296) : ((a : Int) * 4294967296 % 18446744073709551616).toNat ||| ((b : Int) % 18446744073709551616).toNat = a * 4294967296 + b := by
  have e1 : ((a : Int) * 4294967296 % 18446744073709551616).toNat = 2 ^ 32 * a := by omega
  have e2 : ((b : Int) % 18446744073709551616).toNat = b := by omega
  rw [e1, e2, ← Nat.two_pow_add_eq_or_of_lt (show b < 2 ^ 32 by omega)]
  omega

/-- From the time on. -/
theorem item57_c (h : List HO) (p : Nat) (s0 : Str) (hp : h[p]? = some (eye s0)) (path : Str) (kind mode same : Int) (s : Str)
    (σ : St) (g2 g3 : Nat) (c2 : List V) (hc2 : c2.length = 7) (k0 : σ.e 0 = .v (.ptr p 0)) (k2 : σ.e 2 = .loc 2 g2 0) (k3 : σ.e 3 = .loc 3 g3 0) (m2 : σ.m 2 = some (g2, c2))
    (m3 : σ.m 3 = some (g3, [S path, I kind, I mode, .int .u64 0, S [], .nils, I same])) (kh : σ.h = h.set p (eye s)) :
    wp (run X [.c c57_20] σ) (endP s57 h (LookP h p Item.v ((numP 4 s).bind fun hi => (numP 4 hi.2).bind fun lo => (textP 1024 lo.2).bind fun body => (numP 1 body.2).bind fun n => (xattrsP n.1.toNat n.2).bind fun xs => some (⟨path, kind, mode, hi.1 * 4294967296 + lo.1, body.1, some xs.1, same⟩, xs.2)))) := by
  obtain ⟨e, m, g, rb, H⟩ := σ
  dsimp only at k0 k2 k3 m2 m3 kh
  subst kh
  have hn := num55 _ p s (set_get (o' := eye s) hp) 4 4 rfl (by omega)
  rw [show c57_20 = .seq (.ops r57_3) c57_19 from rfl]
  generalize hC : c57_19 = C
  cases e1 : numP 4 s with
  | none =>
    rw [e1] at hn
    obtain ⟨e', s', he, hq⟩ := hn.none
    rw [List.set_set] at hq
    have hfe := fin_eyep0 h p s0 s' e' hp
    simp [k0, hq, hfe, s57]
    exact LookP.pan e' he s'
  | some q =>
    obtain ⟨hi, s1⟩ := q
    rw [e1] at hn
    have hn := hn.some
    rw [List.set_set] at hn
    simp only [Option.bind_some]
    have hn2 := num55 _ p s1 (set_get (o' := eye s1) hp) 4 4 rfl (by omega)
    cases e2 : numP 4 s1 with
    | none =>
      rw [e2] at hn2
      obtain ⟨e', s', he, hq⟩ := hn2.none
      rw [List.set_set] at hq
      have hfe := fin_eyep0 h p s0 s' e' hp
      simp [k0, hn, hq, hfe, s57]
      exact LookP.pan e' he s'
    | some q =>
      obtain ⟨lo, s2⟩ := q
      rw [e2] at hn2
      have hn2 := hn2.some
      rw [List.set_set] at hn2
      simp only [Option.bind_some]
      obtain ⟨a1, a2⟩ := numP_range e1
      obtain ⟨b1, b2⟩ := numP_range e2
      obtain ⟨a, rfl⟩ : ∃ a : Nat, hi = a := ⟨hi.toNat, by omega⟩
      obtain ⟨b, rfl⟩ : ∃ b : Nat, lo = b := ⟨lo.toNat, by omega⟩
      have w1 := u64_small (a : Int) (by omega)
      have w2 := u64_small (b : Int) (by omega)
      have w3 := u64_small ((a : Int) * 4294967296) (by omega)
      have w4 := u64_small ((a : Int) * 4294967296 + b) (by omega)
      have hor := shl_or32 a b (by omega) (by omega)
      simp [k0, k3, m3, hn, hn2, w1, w2, w3, hor, w4]
      rw [← hC]
      refine item57_b h p s0 hp path kind mode _ same s2 _ g2 g3 c2 hc2 ?_ ?_ ?_ ?_ ?_ ?_
      all_goals first | rfl | assumption | (simp; done)

theorem item57 (h : List HO) (p : Nat) (s : Str) (hp : h[p]? = some (eye s)) : Look h p Item.v (VC X 57 [.ptr p 0] h) (itemP s) := by
  refine LookP.look ?_
  rw [v57]
  refine ans_wp ?_
  rw [show s57.body = .seq (.ops r57_1) (.seq (.ops r57_2) c57_20) from rfl]
  generalize hC : c57_20 = C
  unfold itemP
  have h1 := text109 h p s hp 8192
  cases e1 : textP 8192 s with
  | none =>
    rw [e1] at h1
    obtain ⟨e', s', he, hq⟩ := h1.none
    have hfe := fin_eyep0 h p s s' e' hp
    simp [hq, hfe, s57]
    exact LookP.pan e' he s'
  | some q =>
    obtain ⟨path, s1⟩ := q
    rw [e1] at h1
    have h1 := h1.some
    simp only [Option.bind_some]
    have h2 := num55 _ p s1 (set_get (o' := eye s1) hp) 1 1 rfl (by omega)
    cases e2 : numP 1 s1 with
    | none =>
      rw [e2] at h2
      obtain ⟨e', s', he, hq⟩ := h2.none
      rw [List.set_set] at hq
      have hfe := fin_eyep0 h p s s' e' hp
      simp [h1, hq, hfe, s57]
      exact LookP.pan e' he s'
    | some q =>
      obtain ⟨kind, s2⟩ := q
      rw [e2] at h2
      have h2 := h2.some
      rw [List.set_set] at h2
      simp only [Option.bind_some]
      have h3 := num55 _ p s2 (set_get (o' := eye s2) hp) 2 2 rfl (by omega)
      cases e3 : numP 2 s2 with
      | none =>
        rw [e3] at h3
        obtain ⟨e', s', he, hq⟩ := h3.none
        rw [List.set_set] at hq
        have hfe := fin_eyep0 h p s s' e' hp
        simp [h1, h2, hq, hfe, s57]
        exact LookP.pan e' he s'
      | some q =>
        obtain ⟨same, s3⟩ := q
        rw [e3] at h3
        have h3 := h3.some
        rw [List.set_set] at h3
        simp only [Option.bind_some]
        have h4 := num55 _ p s3 (set_get (o' := eye s3) hp) 2 2 rfl (by omega)
        obtain ⟨b1, b2⟩ := numP_range e3
        have hws := wrapI (n := same - 1) (by unfold R; omega)
        cases e4 : numP 2 s3 with
        | none =>
          rw [e4] at h4
          obtain ⟨e', s', he, hq⟩ := h4.none
          rw [List.set_set] at hq
          have hfe := fin_eyep0 h p s s' e' hp
          simp [h1, h2, h3, hws, hq, hfe, s57]
          exact LookP.pan e' he s'
        | some q =>
          obtain ⟨mode, s4⟩ := q
          rw [e4] at h4
          have h4 := h4.some
          rw [List.set_set] at h4
          simp only [Option.bind_some]
          simp [h1, h2, h3, hws, h4]
          rw [← hC]
          refine item57_c h p s hp path kind mode (same - 1) s4 _ 0 1 [.str [], I 0, I 0, .int .u64 0, .str [], .nils, I 0] rfl ?_ ?_ ?_ ?_ ?_ ?_
          all_goals first | rfl | assumption | (simp; done)
end Go.Vm.Tryz
end

section
set_option linter.unusedVariables false
set_option linter.unusedSimpArgs false
set_option maxRecDepth 10000
namespace Go.Vm.Tryz
open Go Go.Vm

theorem own_len {α : Type} {h H : List HO} {sz : Nat} {f : α → V} {l : List α} {v : V} (w : Own h sz f l v H) : v = .nils ∧ l = [] ∨ ∃ id ver, v = .sl id ver sz 0 l.length ∧ H[id]? = some (.row ver (l.map f)) := by
  obtain ⟨junk, rfl, ⟨rfl, rfl⟩ | ⟨k, ver, rfl, e⟩⟩ := w
  · exact .inl ⟨rfl, rfl⟩
  · exact .inr ⟨_, ver, rfl, by rw [app_at]; exact e⟩

set_option maxHeartbeats 2000000 in
theorem isfit58 (h H : List HO) (i : Item) (hi : RU i.time) (l : List Item) (v : V) (hv : Own h 7 Item.v l v H) : VC X 58 [i.v, v] H = some (.ret (B (fitB i l)), H) := by
  have hg := good89 i.time hi H
  obtain ⟨q, hq⟩ : ∃ q, q = fitB i l := ⟨_, rfl⟩
  rw [v58, ← hq]
  refine Ans.eq (ans_wp ?_)
  unfold fitB at hq
  by_cases c1 : i.kind < 1
  · rw [if_pos (.inl c1)] at hq; subst hq
    simp [s58, c1]
  by_cases c2 : i.kind > 3
  · rw [if_pos (.inr (.inl c2))] at hq; subst hq
    have c2' : 3 < i.kind := c2
    simp [s58, c1, c2']
  by_cases c3 : i.mode > 511
  · rw [if_pos (.inr (.inr (.inl c3)))] at hq; subst hq
    have c2' : ¬ 3 < i.kind := c2
    have c3' : 511 < i.mode := c3
    simp [s58, c1, c2', c3']
  have c2' : ¬ 3 < i.kind := c2
  have c3' : ¬ 511 < i.mode := c3
  have hlen : ∀ σ : St, True := fun _ => trivial
  by_cases c4 : i.same ≥ l.length
  · rw [if_pos (.inr (.inr (.inr c4)))] at hq; subst hq
    rcases own_len hv with ⟨rfl, rfl⟩ | ⟨id, ver, rfl, e⟩
    · have c4' : 0 ≤ i.same := by simpa using c4
      simp [s58, c1, c2', c3', c4']
    · have c4' : (l.length : Int) ≤ i.same := c4
      simp [s58, c1, c2', c3', c4']
  rw [if_neg (by omega)] at hq
  by_cases c5 : 0 ≤ i.same
  · rw [if_pos c5] at hq
    rcases own_len hv with ⟨rfl, rfl⟩ | ⟨id, ver, rfl, e⟩
    · simp at c4; omega
    · obtain ⟨k, hk⟩ : ∃ k : Nat, i.same = k := ⟨i.same.toNat, by omega⟩
      have hkl : k < l.length := by omega
      have ha : l[k]? = some l[k] := List.getElem?_eq_getElem hkl
      rw [hk, show ((k : Nat) : Int).toNat = k by omega, ha] at hq
      dsimp only at hq
      have c4' : ¬ (l.length : Int) ≤ i.same := c4
      generalize hlk : l[k] = x at *
      have c5' : (0 : Int) ≤ k := by omega
      have c4n : ¬ (l.length : Int) ≤ k := by omega
      by_cases d1 : x.kind = i.kind
      rotate_left
      · simp [d1] at hq; subst hq
        have b1 : (x.kind == i.kind) = false := by simpa using d1
        simp [s58, c1, c2', c3', c5', c4n, hk, hkl, e, hlk, b1]
      by_cases d2 : i.kind = 2
      · simp [d2] at hq; subst hq
        simp [s58, c5', c4n, hk, hkl, e, hlk, c3', d1, d2]
      have b2 : (i.kind != 2) = true := by simpa using d2
      by_cases d3 : x.same < 0
      rotate_left
      · simp [d3] at hq; subst hq
        simp [s58, c1, c2', c5', c4n, hk, hkl, e, hlk, c3', d1, b2, d3]
      by_cases d4 : i.mode = 0
      rotate_left
      · simp [d4] at hq; subst hq
        have b4 : (i.mode == 0) = false := by simpa using d4
        simp [s58, c1, c2', c5', c4n, hk, hkl, e, hlk, c3', d1, b2, d3, b4]
      by_cases d5 : i.time = 0
      rotate_left
      · simp [d5] at hq; subst hq
        have b5 : (i.time == 0) = false := by simpa using d5
        simp [s58, c1, c2', c5', c4n, hk, hkl, e, hlk, c3', d1, b2, d3, d4, b5]
      by_cases d6 : i.body = []
      rotate_left
      · simp [d6] at hq; subst hq
        have b6 : i.body.isEmpty = false := by simpa using d6
        simp [s58, c1, c2', c5', c4n, hk, hkl, e, hlk, c3', d1, b2, d3, d4, d5, b6]
      rcases hx : i.xattrs with _ | xs
      · simp [d1, d2, d3, d4, d5, d6, hx] at hq; subst hq
        simp [s58, c1, c2', c5', c4n, hk, hkl, e, hlk, c3', d1, b2, d3, d4, d5, d6, hx]
      · cases xs with
        | nil =>
          simp [d1, d2, d3, d4, d5, d6, hx] at hq; subst hq
          simp [s58, c1, c2', c5', c4n, hk, hkl, e, hlk, c3', d1, b2, d3, d4, d5, d6, hx]
        | cons a xs =>
          simp [d1, d2, d3, d4, d5, d6, hx] at hq; subst hq
          have b7 : ((xs.length : Int) + 1 == 0) = false := by simp; omega
          simp [s58, c1, c2', c5', c4n, hk, hkl, e, hlk, c3', d1, b2, d3, d4, d5, d6, hx, b7]
  · rw [if_neg c5] at hq
    cases g : timeGood i.time
    · rw [g] at hq hg
      simp at hq; subst hq
      rcases own_len hv with ⟨rfl, rfl⟩ | ⟨id, ver, rfl, e⟩
      · simp [s58, c1, c2', c3', c5, hg]
      · have c4' : ¬ (l.length : Int) ≤ i.same := c4
        simp [s58, c1, c2', c3', c4', c5, hg]
    · rw [g] at hq hg
      have c4' : ¬ (l.length : Int) ≤ i.same := c4
      by_cases d1 : i.kind = 2
      · by_cases d2 : i.body = []
        · simp [d1, d2] at hq; subst hq
          rcases own_len hv with ⟨rfl, rfl⟩ | ⟨id, ver, rfl, e⟩ <;> simp [s58, c1, c2', c3', c4', c5, hg, d1, d2]
        · have b2 : i.body.isEmpty = false := by simpa using d2
          simp [d1, d2] at hq; subst hq
          rcases own_len hv with ⟨rfl, rfl⟩ | ⟨id, ver, rfl, e⟩ <;> simp [s58, c1, c2', c3', c4', c5, hg, d1, b2]
      · have b1 : (i.kind != 2) = true := by simpa using d1
        by_cases d3 : i.kind = 3
        · by_cases d2 : i.body = []
          · simp [d3, d2] at hq; subst hq
            rcases own_len hv with ⟨rfl, rfl⟩ | ⟨id, ver, rfl, e⟩ <;> simp [s58, c1, c2', c3', c4', c5, hg, d3, d2]
          · have b2 : i.body.isEmpty = false := by simpa using d2
            by_cases d4 : i.body.length ≤ 120
            · simp [d3, d2, d4] at hq; subst hq
              have d4' : (i.body.length : Int) ≤ 120 := by omega
              rcases own_len hv with ⟨rfl, rfl⟩ | ⟨id, ver, rfl, e⟩ <;> simp [s58, c1, c2', c3', c4', c5, hg, d3, b2, d4']
            · simp [d3, d2, d4] at hq; subst hq
              have d4' : ¬ (i.body.length : Int) ≤ 120 := by omega
              rcases own_len hv with ⟨rfl, rfl⟩ | ⟨id, ver, rfl, e⟩ <;> simp [s58, c1, c2', c3', c4', c5, hg, d3, b2, d4']
        · have b3 : (i.kind != 3) = true := by simpa using d3
          simp [d1, d3] at hq; subst hq
          rcases own_len hv with ⟨rfl, rfl⟩ | ⟨id, ver, rfl, e⟩ <;> simp [s58, c1, c2', c3', c4', c5, hg, b1, b3]
end Go.Vm.Tryz
end

section
set_option linter.unusedVariables false
set_option linter.unusedSimpArgs false
set_option maxRecDepth 10000
namespace Go.Vm.Tryz
open Go Go.Vm

/-- The heap of a look: the eye, and the cell in which the list lies. -/
abbrev base2 (h : List HO) (p q : Nat) (s : Str) (v : V) : List HO := (h.set p (eye s)).set q (.cells [v])

theorem base2_get {h : List HO} {p q : Nat} {s : Str} {v : V} (hpq : p ≠ q) (hp : p < h.length) (hq : q < h.length) (junk : List HO) : (base2 h p q s v ++ junk)[p]? = some (eye s) ∧ (base2 h p q s v ++ junk)[q]? = some (.cells [v]) := by
  constructor
  · rw [List.getElem?_append_left (by simpa using hp), List.getElem?_set_ne (by omega), List.getElem?_set]; simp [hp]
  · rw [List.getElem?_append_left (by simpa using hq), List.getElem?_set]; simp [hq]
theorem base2_setp {h : List HO} {p q : Nat} {s s' : Str} {v : V} (hpq : p ≠ q) (hp : p < h.length) (junk : List HO) : (base2 h p q s v ++ junk).set p (eye s') = base2 h p q s' v ++ junk := by
  rw [List.set_append_left _ _ (by simpa using hp), List.set_comm _ _ (by omega), List.set_set]
theorem base2_setq {h : List HO} {p q : Nat} {s : Str} {v v' : V} (hq : q < h.length) (junk : List HO) : (base2 h p q s v ++ junk).set q (.cells [v']) = base2 h p q s v' ++ junk := by
  rw [List.set_append_left _ _ (by simpa using hq), List.set_set]

/-- The end of a look that goes well. -/
theorem fin54 {h : List HO} {p q : Nat} {s0 s : Str} {l : List Item} {v : V} {H : List HO} (hpq : p ≠ q) (hp : h[p]? = some (eye s0)) (hq : h[q]? = some (.cells [.nils])) (hv : Own (base2 h p q s v) 7 Item.v l v H) :
    ∃ H', finish false h (.ret (.tuple [])) H = (.ret (.tuple []), H') ∧ Own (base2 h p q s v) 7 Item.v l v H' := by
  obtain ⟨junk, rfl, hj⟩ := hv
  have hl : (base2 h p q s v ++ junk).take h.length = base2 h p q s v := by
    have : h.length = (base2 h p q s v).length := by simp
    rw [this, List.take_left']; rfl
  unfold finish
  dsimp only
  rw [hl]
  have hF : frzF h.length (base2 h p q s v ++ junk) (.tuple []) = some (.tuple []) := rfl
  have hql := lt_of_some hq
  have hlen : (base2 h p q s v).length = h.length := by simp
  rcases hj with ⟨rfl, rfl⟩ | ⟨k, ver, ev, e⟩
  · by_cases he : base2 h p q s .nils = h
    · rw [if_pos ⟨rfl, he⟩, hF]
      exact ⟨h, rfl, [], by simpa using he.symm, .inl ⟨rfl, rfl⟩⟩
    · have ht : topOK h.length h (base2 h p q s .nils ++ junk) := by
        have e1 : base2 h p q s .nils = h.set p (eye s) := by
          apply set_same
          rw [List.getElem?_set_ne (by omega)]; exact hq
        rw [e1]
        exact topOK_set _ h p _ _ junk hp rfl
      rw [if_neg (fun x => he x.2), if_pos ⟨rfl, ht⟩, hF]
      exact ⟨_, rfl, [], by simp, .inl ⟨rfl, rfl⟩⟩
  · have hget : (base2 h p q s v)[q]? = some (.cells [v]) := by
      rw [List.getElem?_set]; simp [hql]
    rw [hlen] at ev
    have hne : ¬ base2 h p q s v = h := by
      intro he
      rw [he, hq, ev] at hget
      cases hget
    have hnt : ¬ topOK h.length h (base2 h p q s v ++ junk) := by
      intro t
      obtain ⟨a, b, e1, e2, hab⟩ := topOK_get t q hql
      rw [hq] at e1; cases e1
      rw [List.getElem?_append_left (by rw [hlen]; exact hql), hget] at e2; cases e2
      rcases hab with hab | hab
      · rw [ev] at hab; cases hab
      · rw [ev] at hab
        have h2 : V.lo.los h.length [V.sl (h.length + k) ver 7 0 l.length] = true := hab
        simp [V.lo.los, V.lo] at h2
        omega
    rw [if_neg (fun x => hne x.2), if_neg (fun x => hnt x.2)]
    exact ⟨_, rfl, junk, rfl, .inr ⟨k, ver, by rw [hlen]; exact ev, e⟩⟩

/-- The end of one that faults: what is above stays, or goes. -/
theorem fin54p {h base : List HO} (hb : base.length = h.length) (junk : List HO) (e : Int) : ∃ junk', finish false h (.pan (fault e)) (base ++ junk) = (.pan (fault e), base ++ junk') := by
  have hl : (base ++ junk).take h.length = base := by rw [← hb, List.take_left']; rfl
  unfold finish
  dsimp only
  rw [hl]
  split
  · rename_i hc
    exact ⟨[], by rw [hc.1]; simp⟩
  · split
    · exact ⟨[], by simp⟩
    · exact ⟨junk, rfl⟩

/-- What a look of the program's answers. -/
def LookG (h : List HO) (p q : Nat) (r : Option (List Item × Str)) (c : CR) (H : List HO) : Prop :=
  match r with
  | some (l, s) => c = .ret (.tuple []) ∧ ∃ v, Own (base2 h p q s v) 7 Item.v l v H
  | none => ∃ e s v junk, e ≠ 0 ∧ c = .pan (fault e) ∧ H = base2 h p q s v ++ junk
theorem LookG.pan {h : List HO} {p q : Nat} (e : Int) (he : e ≠ 0) (s : Str) (v : V) (junk : List HO) {c : CR} {H : List HO} (hx : (c, H) = finish false h (.pan (fault e)) (base2 h p q s v ++ junk)) : LookG h p q none c H := by
  obtain ⟨junk', hj⟩ := fin54p (h := h) (base := base2 h p q s v) (by simp) junk e
  rw [hj] at hx
  cases hx
  exact ⟨e, s, v, junk', he, rfl, rfl⟩

structure It54 (h : List HO) (p q : Nat) (N : Nat) (s : Str) (n : Nat) (σ : St) (j : Nat) (acc : List Item) (s' : Str) (v : V) : Prop where
  k0 : σ.e 0 = .v (.ptr p 0)
  k1 : σ.e 1 = .v (.ptr q 0)
  k11 : σ.e 11 = .v (I N)
  hj : n + j = N
  k12 : σ.e 12 = .v (I j)
  hacc : acc.length = j
  hv : Own (base2 h p q s' v) 7 Item.v acc v σ.h
  hx : itemsP N [] s = itemsP n acc s'
def It54' (h : List HO) (p q : Nat) (N : Nat) (s : Str) (n : Nat) (σ : St) : Prop := ∃ j acc s' v, It54 h p q N s n σ j acc s' v

theorem itemP_time {s : Str} {i : Item} {r : Str} (h : itemP s = some (i, r)) : RU i.time := by
  unfold itemP at h
  simp only [Option.bind_eq_some_iff] at h
  obtain ⟨a, h1, b, h2, c, h3, d, h4, hi, h5, lo, h6, bo, h7, n, h8, x, h9, e⟩ := h
  cases e
  obtain ⟨r1, r2⟩ := numP_range (n := hi.1) (r := hi.2) h5
  obtain ⟨r3, r4⟩ := numP_range (n := lo.1) (r := lo.2) h6
  unfold RU
  dsimp only
  omega

theorem get54_loop (h : List HO) (p q : Nat) (hpq : p ≠ q) (s0 : Str) (hp : h[p]? = some (eye s0)) (hq : h[q]? = some (.cells [.nils])) (N : Nat) (hN : N ≤ 1000) (s : Str) (σ : St)
    (k0 : σ.e 0 = .v (.ptr p 0)) (k1 : σ.e 1 = .v (.ptr q 0)) (k11 : σ.e 11 = .v (I N)) (k12 : σ.e 12 = .v (I 0)) (kh : σ.h = h.set p (eye s)) :
    wp (run X [.c L54_1, .e 0 [] []] σ) (endP s54 h (LookG h p q (itemsP N [] s))) := by
  have hpl := lt_of_some hp
  have hql := lt_of_some hq
  have hb0 : h.set p (eye s) = base2 h p q s .nils := by
    symm; apply set_same; rw [List.getElem?_set_ne (by omega)]; exact hq
  refine wp_loop (It54' h p q N s) ?_ N _ ⟨0, [], s, .nils, k0, k1, k11, by simp, k12, rfl, by rw [kh, hb0]; exact Own.nil _ _ _, rfl⟩
  clear k0 k1 k11 k12 kh σ
  rintro n ⟨e, m, g, rb, H⟩ ⟨j, acc, s', v, k0, k1, k11, hj, k12, hacc, hv, hx⟩
  dsimp only at k0 k1 k11 k12 hv
  by_cases hlt : j < N
  · obtain ⟨n', rfl⟩ : ∃ n', n = n' + 1 := ⟨n - 1, by omega⟩
    have hlt' : (j : Int) < N := by omega
    have hw := wrapI (n := (j : Int) + 1) (by unfold R; omega)
    rw [itemsP] at hx
    obtain ⟨junk, hH, hown⟩ := id hv
    obtain ⟨hpe, hqe⟩ := base2_get (v := v) (s := s') hpq hpl hql junk
    rw [← hH] at hpe hqe
    have hit := item57 H p s' hpe
    cases e1 : itemP s' with
    | none =>
      rw [e1] at hit hx
      simp only [Option.bind_none] at hx
      obtain ⟨e', s2, he, hq1⟩ := hit.none
      rw [hH, base2_setp hpq hpl] at hq1
      rw [← hH] at hq1
      rw [hx]
      simp [k0, k1, k11, k12, hlt', hq1, s54]
      exact LookG.pan e' he s2 v junk rfl
    | some r =>
      obtain ⟨it, s2⟩ := r
      rw [e1] at hit hx
      have hit := hit.some
      rw [hH, base2_setp hpq hpl] at hit
      rw [← hH] at hit
      simp only [Option.bind_some] at hx
      have hv2 : Own (base2 h p q s2 v) 7 Item.v acc v (base2 h p q s2 v ++ junk) := by
        refine ⟨junk, rfl, ?_⟩
        rcases hown with hown | ⟨k, ver, ev, e⟩
        · exact .inl hown
        · exact .inr ⟨k, ver, by simpa using ev, e⟩
      obtain ⟨hpe2, hqe2⟩ := base2_get (v := v) (s := s2) hpq hpl hql junk
      have hfit := isfit58 _ _ it (itemP_time e1) acc v hv2
      cases hf : fitB it acc
      · rw [hf] at hfit hx
        simp at hx
        have hfl := fail56 _ p s2 hpe2 201
        rw [hx]
        simp [k0, k1, k11, k12, hlt', hit, hqe2, hfit, hfl, s54]
        exact LookG.pan 201 (by decide) s2 v junk rfl
      · rw [hf] at hfit hx
        simp at hx
        obtain ⟨v', H', ea, oa⟩ := hv2.app it 88 (by decide) rfl (by omega) (by omega)
        have ea' : appendV (base2 h p q s2 v ++ junk) 7 88 v (.snap [it.v]) = _ := ea
        have hvc := own_cells oa
        obtain ⟨junk2, hH2, hown2⟩ := oa
        have hqe3 : H'[q]? = some (.cells [v]) := by rw [hH2]; exact (base2_get hpq hpl hql junk2).2
        simp [k0, k1, k11, k12, hlt', hit, hqe2, hfit, ea', hvc, hqe3, hw]
        refine ⟨n', by omega, j + 1, acc ++ [it], s2, v', rfl, rfl, rfl, by omega, by simp, by simp [hacc], ?_, hx⟩
        show Own _ _ _ _ _ (H'.set q (.cells [v']))
        rw [hH2, base2_setq hql]
        refine ⟨junk2, rfl, ?_⟩
        rcases hown2 with hown2 | ⟨k, ver, ev, e⟩
        · exact .inl hown2
        · exact .inr ⟨k, ver, by simpa using ev, e⟩
  · have hjN : j = N := by omega
    obtain rfl : n = 0 := by omega
    subst hjN
    rw [itemsP] at hx
    rw [hx]
    obtain ⟨H', hf, ho⟩ := fin54 hpq hp hq hv
    simp [k0, k1, k11, k12, s54, hf]
    exact ⟨rfl, v, ho⟩

theorem get54 (h : List HO) (p q : Nat) (hpq : p ≠ q) (s : Str) (hp : h[p]? = some (eye s)) (hq : h[q]? = some (.cells [.nils])) :
    Ans (VC X 54 [.ptr p 0, .ptr q 0] h) (LookG h p q ((numP 2 s).bind fun m => if m.1 > 1000 then none else itemsP m.1.toNat [] m.2)) := by
  have hpl := lt_of_some hp
  have hql := lt_of_some hq
  have hb0 : ∀ s, h.set p (eye s) = base2 h p q s .nils := by
    intro s; symm; apply set_same; rw [List.getElem?_set_ne (by omega)]; exact hq
  have hn := num55 h p s hp 2 2 rfl (by omega)
  rw [v54]
  refine ans_wp ?_
  cases e1 : numP 2 s with
  | none =>
    rw [e1] at hn
    obtain ⟨e', s2, he, hq1⟩ := hn.none
    rw [hb0] at hq1
    simp [hq1, s54]
    exact LookG.pan e' he s2 .nils [] (by simp)
  | some r =>
    obtain ⟨n, s2⟩ := r
    rw [e1] at hn
    have hn := hn.some
    obtain ⟨a1, a2⟩ := numP_range e1
    simp only [Option.bind_some]
    by_cases hm : n > 1000
    · have hm' : 1000 < n := hm
      rw [if_pos hm]
      have hfl := fail56 _ p s2 (set_get (o' := eye s2) hp) 201
      simp [hn, hm', hfl, s54]
      exact LookG.pan 201 (by decide) s2 .nils [] (by rw [hb0]; simp)
    · have hm' : ¬ 1000 < n := hm
      rw [if_neg hm]
      simp [hn, hm', s54]
      have hnn : ((n.toNat : Nat) : Int) = n := by omega
      refine get54_loop h p q hpq s hp hq n.toNat (by omega) s2 _ ?_ ?_ ?_ ?_ ?_
      all_goals first | rfl | assumption | (simp [hnn]; done)
end Go.Vm.Tryz
end

section
set_option linter.unusedVariables false
set_option linter.unusedSimpArgs false
set_option maxRecDepth 10000
namespace Go.Vm.Tryz
open Go Go.Vm

theorem own_frzn {α : Type} {n : Nat} {h H : List HO} {sz : Nat} {f : α → V} {l : List α} {v : V} (hn : n ≤ h.length) (w : Own h sz f l v H) (hp : ∀ a ∈ l, (f a).pure = true) : frz1 n H v = some (.snap (l.map f)) := by
  obtain ⟨junk, rfl, ⟨rfl, rfl⟩ | ⟨k, ver, rfl, e⟩⟩ := w
  · rfl
  · have hpu := pures_mapf l hp
    have hlt : ¬ h.length + k < n := by omega
    simp [frz1, V.pure, e, hpu, hlt, List.take_of_length_le]

theorem fin_own {α : Type} {f : α → V} {sz : Nat} {h base : List HO} {q : Nat} {l : List α} {v : V} {H : List HO} (hbl : base.length = h.length) (hq : h[q]? = some (.cells [.nils])) (hbq : base[q]? = some (.cells [v])) (hv : Own base sz f l v H) (r : V) (hr : r.pure = true) :
    ∃ H', finish false h (.ret r) H = (.ret r, H') ∧ Own base sz f l v H' := by
  obtain ⟨junk, rfl, hj⟩ := hv
  have hl : (base ++ junk).take h.length = base := by rw [← hbl, List.take_left']; rfl
  have hF : frzF h.length (base ++ junk) r = some r := by unfold frzF; rw [frz_pure _ _ _ hr]
  have hql := lt_of_some hq
  unfold finish
  dsimp only
  rw [hl]
  rcases hj with ⟨rfl, rfl⟩ | ⟨k, ver, ev, e⟩
  · split
    · rename_i hc
      rw [hF]
      exact ⟨_, rfl, [], by rw [hc.2]; simp, .inl ⟨rfl, rfl⟩⟩
    · split
      · rw [hF]; exact ⟨_, rfl, [], by simp, .inl ⟨rfl, rfl⟩⟩
      · exact ⟨_, rfl, junk, rfl, .inl ⟨rfl, rfl⟩⟩
  · rw [hbl] at ev
    have hne : ¬ base = h := by
      intro he
      rw [he, hq, ev] at hbq
      cases hbq
    have hnt : ¬ topOK h.length h (base ++ junk) := by
      intro t
      obtain ⟨a, b, e1, e2, hab⟩ := topOK_get t q hql
      rw [hq] at e1; cases e1
      rw [List.getElem?_append_left (by omega), hbq] at e2; cases e2
      rcases hab with hab | hab
      · rw [ev] at hab; cases hab
      · rw [ev] at hab
        have h2 : V.lo.los h.length [V.sl (h.length + k) ver sz 0 l.length] = true := hab
        simp [V.lo.los, V.lo] at h2
        omega
    rw [if_neg (fun x => hne x.2), if_neg (fun x => hnt x.2)]
    exact ⟨_, rfl, junk, rfl, .inr ⟨k, ver, by rw [hbl]; exact ev, e⟩⟩
theorem fin_any {h base : List HO} (hb : base.length = h.length) (junk : List HO) (r : V) (hr : r.pure = true) : ∃ junk', finish false h (.ret r) (base ++ junk) = (.ret r, base ++ junk') := by
  have hl : (base ++ junk).take h.length = base := by rw [← hb, List.take_left']; rfl
  have hF : frzF h.length (base ++ junk) r = some r := by unfold frzF; rw [frz_pure _ _ _ hr]
  unfold finish
  dsimp only
  rw [hl]
  split
  · rename_i hc
    rw [hF]
    exact ⟨[], by rw [hc.2]; simp⟩
  · split
    · rw [hF]; exact ⟨[], by simp⟩
    · exact ⟨junk, rfl⟩

theorem own_shift {α : Type} {f : α → V} {sz : Nat} {h a : List HO} {l : List α} {v : V} {H : List HO} (w : Own (h ++ a) sz f l v H) : Own h sz f l v H := by
  obtain ⟨junk, rfl, hj⟩ := w
  refine ⟨a ++ junk, by simp, ?_⟩
  rcases hj with hj | ⟨k, ver, ev, e⟩
  · exact .inl hj
  · exact .inr ⟨a.length + k, ver, by rw [ev, List.length_append, Nat.add_assoc], by rw [List.getElem?_append_right (by omega), Nat.add_sub_cancel_left]; exact e⟩
theorem own_setc {α : Type} {f : α → V} {sz : Nat} {h : List HO} {l : List α} {v : V} {H : List HO} (w : Own h sz f l v H) (i : Nat) (cs : List V) (hi : H[h.length + i]? = some (.cells cs)) (o : HO) : Own h sz f l v (H.set (h.length + i) o) := by
  obtain ⟨junk, rfl, hj⟩ := w
  refine ⟨junk.set i o, by rw [app_set], ?_⟩
  rcases hj with hj | ⟨k, ver, ev, e⟩
  · exact .inl hj
  · refine .inr ⟨k, ver, ev, ?_⟩
    rw [app_at] at hi
    have hne : i ≠ k := by rintro rfl; rw [hi] at e; cases e
    rw [List.getElem?_set_ne hne]; exact e

/-- The closure that is deferred. -/
theorem close106 (H : List HO) (n : Nat) (s : Str) (h0 : H[n]? = some (.cells [I 0])) (h1 : H[n + 1]? = some (eye s)) (h2 : H[n + 2]? = some (.cells [.ptr (n + 1) 0])) (pv : V) (e : Int) (hpv : pv = .nili ∧ e = 0 ∨ pv = fault e) :
    ∃ τ τ' ex2, run X [.c c106_16] (St.init [.ptr (n + 2) 0, .ptr n 0] H) = some (.normal, τ) ∧ run X [.c c106_15] (τ.put (some 8) (.v pv)) = some (ex2, τ') ∧ ex2.isEnd = true ∧ τ'.h = (H.set (n + 1) (.cells [S s, B false])).set n (.cells [I e]) := by
  have hl0 := lt_of_some h0
  have hl1 := lt_of_some h1
  rcases hpv with ⟨rfl, rfl⟩ | rfl
  · have hs : (H.set (n + 1) (.cells [S s, B false])).set n (.cells [I 0]) = H.set (n + 1) (.cells [S s, B false]) := set_same (by rw [List.getElem?_set_ne (by omega)]; exact h0)
    rw [hs]
    simp [h0, h1, h2, Ex.isEnd]
    exact ⟨_, _, ⟨rfl, rfl⟩, rfl, rfl⟩
  · have h0' : (H.set (n + 1) (.cells [S s, B false]))[n]? = some (.cells [I 0]) := by rw [List.getElem?_set_ne (by omega)]; exact h0
    simp [h0, h1, h2, Ex.isEnd, h0']
    exact ⟨_, _, ⟨rfl, rfl⟩, rfl, rfl⟩

def lookP (s : Str) : Option (List Item × Str) := (numP 2 s).bind fun m => if m.1 > 1000 then none else itemsP m.1.toNat [] m.2

/-- What the reading answers. -/
theorem read53 (h : List HO) (q id : Nat) (b : Str) (hq : h[q]? = some (.cells [.nils])) (hb : h[id]? = some (.row 0 (bytesV b))) (hbl : b.length < 1000000) :
    (match (lookP b).bind fun r => if r.2 = [] then some r.1 else none with
      | some l => ∃ v H', VC X 53 [.sl id 0 1 0 b.length, .func 54 [.ptr q 0]] h = some (.ret (I 0), H') ∧ Own (h.set q (.cells [v])) 7 Item.v l v H'
      | none => ∃ e v junk, e ≠ 0 ∧ VC X 53 [.sl id 0 1 0 b.length, .func 54 [.ptr q 0]] h = some (.ret (I e), h.set q (.cells [v]) ++ junk)) := by
  have hql := lt_of_some hq
  obtain ⟨n, hn⟩ : ∃ n, n = h.length := ⟨_, rfl⟩
  obtain ⟨H3, hH3⟩ : ∃ H3, H3 = h ++ [.cells [I 0], eye b, .cells [.ptr (n + 1) 0]] := ⟨_, rfl⟩
  have htk : List.take b.length (bytesV b) = bytesV b := List.take_of_length_le (by simp)
  have hb1 : (h ++ [HO.cells [I 0]])[id]? = some (.row 0 (bytesV b)) := by rw [List.getElem?_append_left (lt_of_some hb)]; exact hb
  obtain ⟨σ, h1, k10, k1, k4, k5, kh⟩ : ∃ σ, run X [.c c53_17] (St.init [.sl id 0 1 0 b.length, .func 54 [.ptr q 0]] h) = some (.normal, σ) ∧ σ.e 10 = .v (.func 106 [.ptr (n + 2) 0, .ptr n 0]) ∧ σ.e 1 = .v (.func 54 [.ptr q 0]) ∧ σ.e 4 = .v (.ptr n 0) ∧ σ.e 5 = .v (.ptr (n + 2) 0) ∧ σ.h = H3 := by
    rw [hH3, hn]
    simp [hb1, htk, unbytes_bytesV]
  have hrv : s53.dfr = some ⟨c53_17, 10, c53_15⟩ := rfl
  have hlen3 : H3.length = n + 3 := by rw [hH3, hn]; simp
  have hge : H3[n + 1]? = some (eye b) := by rw [hH3, hn]; simp
  have hg0 : H3[n]? = some (.cells [I 0]) := by rw [hH3, hn]; simp
  have hg2 : H3[n + 2]? = some (.cells [.ptr (n + 1) 0]) := by rw [hH3, hn]; simp
  have hqe : H3[q]? = some (.cells [.nils]) := by rw [hH3, List.getElem?_append_left hql]; exact hq
  have hne : n + 1 ≠ q := by omega
  have hbase : ∀ s v, base2 H3 (n + 1) q s v = h.set q (.cells [v]) ++ [.cells [I 0], eye s, .cells [.ptr (n + 1) 0]] := by
    intro s v
    rw [hH3, hn]
    unfold base2
    rw [app_set, List.set_append_left _ _ hql]
    rfl
  have hlq : ∀ v, (h.set q (.cells [v])).length = n := by intro v; rw [hn]; simp
  have hset : ∀ (v : V) (L : List HO) (a b : HO), ((h.set q (.cells [v]) ++ L).set (n + 1) a).set n b = h.set q (.cells [v]) ++ (L.set 1 a).set 0 b := by
    intro v L a b
    rw [show n = (h.set q (.cells [v])).length from (hlq v).symm, app_set, app_set0]
  -- the end, whatever the panic's value
  have fin : ∀ (ex : Ex) (σ' : St) (pv : V) (e : Int) (s : Str) (v : V) (H : List HO) (junk : List HO), run X [.c c53_15] σ = some (ex, σ') → pvOf ex = some pv → (pv = .nili ∧ e = 0 ∨ pv = fault e) → σ'.e 4 = .v (.ptr n 0) → σ'.h = H → H = h.set q (.cells [v]) ++ (.cells [I 0] :: eye s :: .cells [.ptr (n + 1) 0] :: junk) →
      VC X 53 [.sl id 0 1 0 b.length, .func 54 [.ptr q 0]] h = some (finish false h (.ret (I e)) ((H.set (n + 1) (.cells [S s, B false])).set n (.cells [I e]))) := by
    intro ex σ' pv e s v H junk h3 hpv hpe k4' kh' hHe
    have g0 : H[n]? = some (.cells [I 0]) := by rw [hHe, ← hlq v]; simp
    have g1 : H[n + 1]? = some (eye s) := by rw [hHe, ← hlq v]; simp
    have g2 : H[n + 2]? = some (.cells [.ptr (n + 1) 0]) := by rw [hHe, ← hlq v]; simp
    obtain ⟨τ, τ', ex2, h5, h6, h7, h8⟩ := close106 H n s g0 g1 g2 pv e hpe
    rw [← kh'] at h5
    have hl0 := lt_of_some g0
    refine (VC_dfr (X := X) (f := 53) (sf := s53) (D := ⟨c53_17, 10, c53_15⟩) (R := ⟨c106_16, 8, c106_15⟩) (sg := s106) rfl rfl rfl rfl h1 k10 h3 hpv rfl rfl h5 h6 h7 (v := I e) ?_).trans ?_
    · obtain ⟨e', m', g', rb', hh'⟩ := σ'
      dsimp only at k4'
      have hl0' : n < (H.set (n + 1) (.cells [S s, B false])).length := by simp; omega
      simp [s53, k4', h8, hl0]
    · rw [h8]; rfl
  obtain ⟨c, H, e54, hlk⟩ := (get54 H3 (n + 1) q hne b hge hqe).ex
  change LookG H3 (n + 1) q (lookP b) c H at hlk
  obtain ⟨e0, m0, g0', rb0, hh0⟩ := σ
  dsimp only at k10 k1 k4 k5 kh
  subst kh
  cases hlp : lookP b with
  | none =>
    rw [hlp] at hlk
    obtain ⟨e, s, v, junk, he, rfl, rfl⟩ := hlk
    rw [hbase] at e54
    obtain ⟨σ', h3, k4', kh'⟩ : ∃ σ', run X [.c c53_15] ⟨e0, m0, g0', rb0, hh0⟩ = some (.pan (fault e), σ') ∧ σ'.e 4 = .v (.ptr n 0) ∧ σ'.h = h.set q (.cells [v]) ++ (.cells [I 0] :: eye s :: .cells [.ptr (n + 1) 0] :: junk) := by
      have e54' := e54
      simp at e54'
      simp [k1, k4, k5, hg2, e54']
    have hf := fin _ _ _ e s v _ junk h3 rfl (.inr rfl) k4' kh' rfl
    rw [hset] at hf
    obtain ⟨junk', hj⟩ := fin_any (h := h) (base := h.set q (.cells [v])) (by simp) _ (I e) rfl
    rw [hj] at hf
    exact ⟨e, v, junk', he, hf⟩
  | some r =>
    obtain ⟨l, s⟩ := r
    rw [hlp] at hlk
    obtain ⟨rfl, v, hown⟩ := hlk
    rw [hbase] at hown
    have hown0 := hown
    obtain ⟨junk, hHe, _⟩ := hown0
    have ho2 := own_shift hown
    have hHe' : H = h.set q (.cells [v]) ++ (.cells [I 0] :: eye s :: .cells [.ptr (n + 1) 0] :: junk) := by rw [hHe]; simp
    have g0 : H[n]? = some (.cells [I 0]) := by rw [hHe', ← hlq v]; simp
    have g1 : H[n + 1]? = some (eye s) := by rw [hHe', ← hlq v]; simp
    have g2 : H[n + 2]? = some (.cells [.ptr (n + 1) 0]) := by rw [hHe', ← hlq v]; simp
    simp only [Option.bind_some]
    by_cases hs : s = []
    · rw [if_pos hs]
      have hss := set_same g0
      have hl0 := lt_of_some g0
      obtain ⟨σ', h3, k4', kh'⟩ : ∃ σ', run X [.c c53_15] ⟨e0, m0, g0', rb0, hh0⟩ = some (.ret, σ') ∧ σ'.e 4 = .v (.ptr n 0) ∧ σ'.h = H := by
        simp [k1, k4, k5, hg2, e54, g0, g1, g2, hs, hss]
      have hf := fin _ _ _ 0 s v _ junk h3 rfl (.inl ⟨rfl, rfl⟩) k4' kh' hHe'
      have hbq : (h.set q (.cells [v]))[q]? = some (.cells [v]) := by rw [List.getElem?_set]; simp [hql]
      have g1' : H[(h.set q (.cells [v])).length + 1]? = some (eye s) := by rw [hlq]; exact g1
      have o1 := own_setc ho2 1 _ g1' (.cells [S s, B false])
      rw [hlq] at o1
      have g0' : (H.set (n + 1) (.cells [S s, B false]))[(h.set q (.cells [v])).length + 0]? = some (.cells [I 0]) := by
        rw [hlq, Nat.add_zero, List.getElem?_set_ne (by omega)]; exact g0
      have o2 := own_setc o1 0 _ g0' (.cells [I 0])
      rw [hlq] at o2
      simp only [Nat.add_zero] at o2
      obtain ⟨H', hf1, hf2⟩ := fin_own (h := h) (base := h.set q (.cells [v])) (by simp) hq hbq o2 (I 0) rfl
      rw [hf1] at hf
      exact ⟨v, H', hf, hf2⟩
    · rw [if_neg hs]
      have hsb : s.isEmpty = false := by simpa using hs
      have hfl := fail56 H (n + 1) s g1 201
      obtain ⟨σ', h3, k4', kh'⟩ : ∃ σ', run X [.c c53_15] ⟨e0, m0, g0', rb0, hh0⟩ = some (.pan (fault 201), σ') ∧ σ'.e 4 = .v (.ptr n 0) ∧ σ'.h = H := by
        simp [k1, k4, k5, hg2, e54, g0, g1, g2, hsb, hfl]
      have hf := fin _ _ _ 201 s v _ junk h3 rfl (.inr rfl) k4' kh' hHe'
      rw [hHe', hset] at hf
      obtain ⟨junk', hj⟩ := fin_any (h := h) (base := h.set q (.cells [v])) (by simp) _ (I 201) rfl
      rw [hj] at hf
      exact ⟨201, v, junk', by decide, hf⟩

theorem open52 (s : Str) (hs : s.length < 1000000) (h : List HO) : VC X 52 [S s] h = some (.ret (.tuple [S (openOf s).1, B (openOf s).2]), h) := by
  rw [v52]
  refine Ans.eq (ans_wp ?_)
  by_cases h8 : s.length < 8
  · have h8' : (s.length : Int) < 8 := by omega
    simp [s52, h8', openOf, h8]
  · have h8' : ¬ (s.length : Int) < 8 := by omega
    obtain ⟨k, hk⟩ : ∃ k, s.length = k + 8 := ⟨s.length - 8, by omega⟩
    have hw := wrapI (n := (s.length : Int) - 8) (by unfold R; omega)
    have hk1 : ((s.length : Int) - 8).toNat = k := by omega
    have hk2 : (8 : Int) ≤ (s.length : Int) := by omega
    have hk3 : s.length - 8 = k := by omega
    have hk4 : k ≤ s.length := by omega
    have hse := seal42 (s.take k) (by rw [List.length_take]; omega) h
    simp [s52, h8', openOf, h8, hw, hk1, hk2, hk3, hk4, hse]
theorem open59 (s : Str) (hs : s.length < 1000000) (h : List HO) : VC X 59 [S s] h = some (.ret (.tuple [S (openOf s).1, B (openOf s).2]), h) := by
  rw [v59]
  refine Ans.eq (ans_wp ?_)
  by_cases h8 : s.length < 8
  · have h8' : (s.length : Int) < 8 := by omega
    simp [s59, h8', openOf, h8]
  · have h8' : ¬ (s.length : Int) < 8 := by omega
    obtain ⟨k, hk⟩ : ∃ k, s.length = k + 8 := ⟨s.length - 8, by omega⟩
    have hw := wrapI (n := (s.length : Int) - 8) (by unfold R; omega)
    have hk1 : ((s.length : Int) - 8).toNat = k := by omega
    have hk2 : (8 : Int) ≤ (s.length : Int) := by omega
    have hk3 : s.length - 8 = k := by omega
    have hk4 : k ≤ s.length := by omega
    have hse := seal45 (s.take k) (by rw [List.length_take]; omega) h
    simp [s59, h8', openOf, h8, hw, hk1, hk2, hk3, hk4, hse]

theorem itemP_some {s : Str} {i : Item} {r : Str} (h : itemP s = some (i, r)) : ∃ x, i.xattrs = some x := by
  unfold itemP at h
  simp only [Option.bind_eq_some_iff] at h
  obtain ⟨a, h1, b, h2, c, h3, d, h4, hi, h5, lo, h6, bo, h7, n, h8, x, h9, e⟩ := h
  cases e
  exact ⟨_, rfl⟩
theorem itemsP_some : ∀ {n : Nat} {l : List Item} {s : Str} {l' : List Item} {r : Str}, itemsP n l s = some (l', r) → (∀ i ∈ l, ∃ x, i.xattrs = some x) → ∀ i ∈ l', ∃ x, i.xattrs = some x
  | 0, _, _, _, _, h, hl => by cases h; exact hl
  | n + 1, l, s, l', r, h, hl => by
    rw [itemsP] at h
    obtain ⟨a, h1, h2⟩ := Option.bind_eq_some_iff.1 h
    split at h2
    · refine itemsP_some h2 fun i hi => ?_
      rcases List.mem_append.1 hi with hi | hi
      · exact hl i hi
      · simp at hi; subst hi; exact itemP_some (r := a.2) h1
    · cases h2
theorem itemsP_len : ∀ {n : Nat} {l : List Item} {s : Str} {l' : List Item} {r : Str}, itemsP n l s = some (l', r) → l'.length = l.length + n
  | 0, _, _, _, _, h => by cases h; rfl
  | n + 1, l, s, l', r, h => by
    rw [itemsP] at h
    obtain ⟨a, h1, h2⟩ := Option.bind_eq_some_iff.1 h
    split at h2
    · have := itemsP_len h2
      simp at this; omega
    · cases h2
theorem lookP_some {b : Str} {l : List Item} (h : ((lookP b).bind fun r => if r.2 = [] then some r.1 else none) = some l) : (∀ i ∈ l, ∃ x, i.xattrs = some x) ∧ l.length ≤ 1000 := by
  obtain ⟨r, h1, h2⟩ := Option.bind_eq_some_iff.1 h
  split at h2
  · cases h2
    unfold lookP at h1
    obtain ⟨m, h3, h4⟩ := Option.bind_eq_some_iff.1 h1
    split at h4
    · cases h4
    · have h5 := itemsP_len (l' := r.1) (r := r.2) h4
      have := numP_range (n := m.1) (r := m.2) h3
      exact ⟨itemsP_some (l' := r.1) (r := r.2) h4 (fun i hi => by cases hi), by simp at h5; omega⟩
  · cases h2
theorem item_pure {i : Item} (h : ∃ x, i.xattrs = some x) : i.v.pure = true := by
  obtain ⟨x, e⟩ := h
  simp [V.pure, V.pure.pures, e]
  exact pures_mapf x fun a _ => rfl

/-- What archive.Get answers: items, or an error. -/
def getV (f : Item → V) (r : Option (List Item)) : V :=
  match r with
  | some l => .tuple [.snap (l.map f), I 0]
  | none => .tuple [.snap [], I 201]

theorem get28 (s : Str) (hs : s.length < 1000000) (h : List HO) : VC X 28 [S s] h = some (.ret (getV Item.v (getP s)), h) := by
  have ho := open52 s hs h
  have hlo : (openOf s).1.length < 1000000 := by unfold openOf; split <;> simp <;> omega
  have hgp : getP s = if (openOf s).2 then ((lookP (openOf s).1).bind fun r => if r.2 = [] then some r.1 else none) else none := by
    unfold getP lookP
    cases numP 2 (openOf s).1 with
    | none => rfl
    | some m =>
      simp only [Option.bind_some]
      by_cases hm : m.1 > 1000
      · rw [if_pos hm, if_pos hm]; rfl
      · rw [if_neg hm, if_neg hm]
  rw [v28, hgp]
  refine Ans.eq (ans_wp ?_)
  generalize (openOf s).1 = b at ho hlo
  cases hok : (openOf s).2
  · rw [hok] at ho
    have hF : frzF h.length h (.tuple [.nils, I 201]) = some (.tuple [.snap [], I 201]) := rfl
    have hfi : finS h (.tuple [.nils, I 201]) = (.ret (.tuple [.snap [], I 201]), h) := by
      unfold finS finish
      dsimp only
      rw [if_pos ⟨rfl, by simp⟩, hF]
    simp [ho, s28, getV, V.pure, V.pure.pures]
    rw [hfi]
    simp
  · rw [hok] at ho
    have hr := read53 (h ++ [.cells [.nils], .row 0 (bytesV b)]) h.length (h.length + 1) b (by simp) (by simp) hlo
    have hse : ∀ v, (h ++ [HO.cells [.nils], .row 0 (bytesV b)]).set h.length (.cells [v]) = h ++ [.cells [v], .row 0 (bytesV b)] := by intro v; simp
    rw [if_pos rfl]
    cases hx : (lookP b).bind fun r => if r.2 = [] then some r.1 else none with
    | some l =>
      rw [hx] at hr
      obtain ⟨v, H', e53, hown⟩ := hr
      rw [hse] at hown
      have hfz := own_frzn (n := h.length) (by simp) hown (fun a ha => item_pure ((lookP_some hx).1 a ha))
      obtain ⟨junk, hH, hj⟩ := hown
      have hv2 : frz2 h.length H' v = frz1 h.length H' v := by
        rcases hj with ⟨rfl, rfl⟩ | ⟨k, ver, ev, e⟩
        · rfl
        · rw [ev]; rfl
      have hl0 : H'[h.length]? = some (.cells [v]) := by rw [hH]; simp
      have hfi : finish false h (.ret (.tuple [v, I 0])) H' = (.ret (.tuple [.snap (l.map Item.v), I 0]), h) := by
        have hF : frzF h.length H' (.tuple [v, I 0]) = some (.tuple [.snap (l.map Item.v), I 0]) := by
          have h0 : frz2 h.length H' (I 0) = some (I 0) := rfl
          unfold frzF
          simp only [frz, frz2s, hv2, hfz, h0, Option.bind_some, Option.map_some]
        unfold finish
        dsimp only
        rw [if_pos ⟨rfl, by rw [hH]; simp⟩, hF]
      simp [ho, s28, getV, effO, e53, hl0, hfi]
    | none =>
      rw [hx] at hr
      obtain ⟨e, v, junk, he, e53⟩ := hr
      rw [hse] at e53
      have hb : (e != 0) = true := by simpa using he
      have hfi : finish false h (.ret (.tuple [.nils, I 201])) (h ++ (.cells [v] :: .row 0 (bytesV b) :: junk)) = (.ret (.tuple [.snap [], I 201]), h) := by
        have hF : frzF h.length (h ++ (.cells [v] :: .row 0 (bytesV b) :: junk)) (.tuple [.nils, I 201]) = some (.tuple [.snap [], I 201]) := rfl
        unfold finish
        dsimp only
        rw [if_pos ⟨rfl, by simp⟩, hF]
      simp at e53
      simp [ho, s28, getV, effO, e53, hb, hfi]
end Go.Vm.Tryz
end

section
set_option linter.unusedVariables false
set_option linter.unusedSimpArgs false
set_option maxRecDepth 10000
namespace Go.Vm.Tryz
open Go Go.Vm

abbrev rEye (b : Str) (at_ : Nat) (dn : Bool) (bad : Int) : HO := .cells [S b, I at_, B dn, I bad]

theorem fin_reye (h : List HO) (p : Nat) (b : Str) (a : Nat) (dn : Bool) (bad : Int) (a' : Nat) (dn' : Bool) (bad' : Int) (junk : List HO) (v : V) (hp : h[p]? = some (rEye b a dn bad)) (hv : v.pure = true) :
    finish false h (.ret v) (h.set p (rEye b a' dn' bad') ++ junk) = (.ret v, h.set p (rEye b a' dn' bad')) :=
  finish_set h p _ _ junk v v hp rfl rfl (frz_pure _ _ _ hv)
theorem fin_reye0 (h : List HO) (p : Nat) (b : Str) (a : Nat) (dn : Bool) (bad : Int) (a' : Nat) (dn' : Bool) (bad' : Int) (v : V) (hp : h[p]? = some (rEye b a dn bad)) (hv : v.pure = true) :
    finish false h (.ret v) (h.set p (rEye b a' dn' bad')) = (.ret v, h.set p (rEye b a' dn' bad')) := by
  have := fin_reye h p b a dn bad a' dn' bad' [] v hp hv
  rwa [List.append_nil] at this

theorem fail110 (h : List HO) (p : Nat) (b : Str) (a : Nat) (dn : Bool) (bad : Int) (hp : h[p]? = some (rEye b a dn bad)) (e : Int) :
    VC X 110 [.ptr p 0, I e] h = some (.ret (.tuple []), h.set p (rEye b a true (if dn then bad else e))) := by
  have hl := lt_of_some hp
  rw [v110]
  refine Ans.eq (ans_wp ?_)
  cases dn
  · have hf := fin_reye0 h p b a false bad a true e (.tuple []) hp rfl
    simp [s110, hp, hf, fun o => set_get (o' := o) hp]
  · have hs := set_same hp
    simp [s110, hp, hs, V.pure, V.pure.pures]

/-- What a look answers: a value, the eye behind it; or nothing, and it is done. -/
def RLook {α : Type} (h : List HO) (p : Nat) (b : Str) (f : α → V) (zero : V) (q : Option (CR × List HO)) (r : Option (α × Str)) : Prop :=
  match r with
  | some (x, s) => ∃ a, a ≤ b.length ∧ s = b.drop a ∧ q = some (.ret (f x), h.set p (rEye b a false 0))
  | none => ∃ a bad, a ≤ b.length ∧ bad ≠ 0 ∧ q = some (.ret zero, h.set p (rEye b a true bad))
theorem RLook.some {α : Type} {h : List HO} {p : Nat} {b : Str} {f : α → V} {zero : V} {q : Option (CR × List HO)} {x : α} {s : Str} (l : RLook h p b f zero q (some (x, s))) : ∃ a, a ≤ b.length ∧ s = b.drop a ∧ q = Option.some (.ret (f x), h.set p (rEye b a false 0)) := l
theorem RLook.none {α : Type} {h : List HO} {p : Nat} {b : Str} {f : α → V} {zero : V} {q : Option (CR × List HO)} (l : RLook h p b f zero q none) : ∃ a bad, a ≤ b.length ∧ bad ≠ 0 ∧ q = Option.some (.ret zero, h.set p (rEye b a true bad)) := l

theorem raw111_done (h : List HO) (p : Nat) (b : Str) (a : Nat) (bad : Int) (hp : h[p]? = some (rEye b a true bad)) (n : Int) : VC X 111 [.ptr p 0, I n] h = some (.ret (S []), h) := by
  rw [v111]
  refine Ans.eq (ans_wp ?_)
  simp [s111, hp]
theorem num60_done (h : List HO) (p : Nat) (b : Str) (a : Nat) (bad : Int) (hp : h[p]? = some (rEye b a true bad)) (n : Int) : VC X 60 [.ptr p 0, I n] h = some (.ret (I 0), h) := by
  rw [v60]
  refine Ans.eq (ans_wp ?_)
  simp [s60, hp]
theorem text61_done (h : List HO) (p : Nat) (b : Str) (a : Nat) (bad : Int) (hp : h[p]? = some (rEye b a true bad)) (n : Int) (hn : 0 ≤ n) : VC X 61 [.ptr p 0, I n] h = some (.ret (S []), h) := by
  have h1 := num60_done h p b a bad hp 2
  have h2 := raw111_done h p b a bad hp 0
  have hn' : ¬ n < 0 := by omega
  rw [v61]
  refine Ans.eq (ans_wp ?_)
  simp [s61, hp, h1, h2, hn']

theorem raw111 (h : List HO) (p : Nat) (b : Str) (hb : b.length < 1000000) (a : Nat) (ha : a ≤ b.length) (n : Int) (hn : n < 100000000) (hp : h[p]? = some (rEye b a false 0)) : RLook h p b S (S []) (VC X 111 [.ptr p 0, I n] h) (takeN n (b.drop a)) := by
  have hl := lt_of_some hp
  have hw := wrapI (n := (b.length : Int) - a) (by unfold R; omega)
  have hf := fail110 h p b a false 0 hp 201
  unfold RLook takeN
  by_cases h0 : 0 ≤ n
  · have h0' : ¬ n < 0 := by omega
    by_cases h1 : n ≤ (b.drop a).length
    · rw [if_pos ⟨h0, h1⟩]
      rw [List.length_drop] at h1
      dsimp only
      obtain ⟨k, rfl⟩ : ∃ k : Nat, n = k := ⟨n.toNat, by omega⟩
      have h1' : ¬ (b.length : Int) - a < k := by omega
      obtain ⟨a2, ha2⟩ : ∃ a2, a2 = a + k := ⟨_, rfl⟩
      have hw2 : IntKind.i64.wrap ((a : Int) + k) = (a2 : Int) := by rw [wrapI (by unfold R; omega)]; omega
      have hw3 : IntKind.i64.wrap ((a2 : Int) - k) = (a : Int) := by rw [wrapI (by unfold R; omega)]; omega
      have h3 : a ≤ a2 ∧ a2 ≤ b.length := by omega
      have h4 : a2 - a = k := by omega
      have hfi := fin_reye0 h p b a false 0 a2 false 0 (S ((b.drop a).take k)) hp rfl
      refine ⟨a2, by omega, by rw [List.drop_drop, ha2]; rfl, ?_⟩
      rw [v111]
      refine Ans.eq (ans_wp ?_)
      simp [s111, hp, hw, h0', h1', hw2, hw3, h3, h4, hfi, fun o => set_get (o' := o) hp]
    · rw [if_neg (by omega)]
      rw [List.length_drop] at h1
      have h1' : (b.length : Int) - a < n := by omega
      have hfi := fin_reye0 h p b a false 0 a true 201 (S []) hp rfl
      refine ⟨a, 201, ha, by decide, ?_⟩
      rw [v111]
      refine Ans.eq (ans_wp ?_)
      simp [s111, hp, hw, h0', h1', hf, hfi]
  · have h0' : n < 0 := by omega
    rw [if_neg (by omega)]
    have hfi := fin_reye0 h p b a false 0 a true 201 (S []) hp rfl
    refine ⟨a, 201, ha, by decide, ?_⟩
    rw [v111]
    refine Ans.eq (ans_wp ?_)
    simp [s111, hp, hw, h0', hf, hfi]

theorem num60 (h : List HO) (p : Nat) (b : Str) (hb : b.length < 1000000) (a : Nat) (ha : a ≤ b.length) (hp : h[p]? = some (rEye b a false 0)) (w : Nat) (wi : Int) (hwi : wi = w) (hw : 1 ≤ w ∧ w ≤ 4) : RLook h p b I (I 0) (VC X 60 [.ptr p 0, I wi] h) (numP w (b.drop a)) := by
  have hr := raw111 h p b hb a ha wi (by omega) hp
  have w1 : ¬ wi < 1 := by omega
  have w2 : ¬ 8 < wi := by omega
  unfold takeN at hr
  unfold numP
  by_cases h1 : w ≤ (b.drop a).length
  · rw [if_pos ⟨by omega, by omega⟩] at hr
    rw [if_pos h1]
    obtain ⟨a', ha', hs, hq⟩ := hr.some
    have hsw : wi.toNat = w := by omega
    rw [hsw] at hq hs
    refine ⟨a', ha', hs, ?_⟩
    rw [v60]
    refine Ans.eq (ans_wp ?_)
    have hlen : ((b.drop a).take w).length = w := by rw [List.length_take]; omega
    generalize (b.drop a).take w = s at hq hlen
    have hfe := fun n => fin_reye0 h p b a false 0 a' false 0 (I n) hp rfl
    generalize h.set p (rEye b a' false 0) = h1' at hq hfe
    have hval := beNat_lt s 0
    rw [hlen] at hval
    have h256 : 256 ^ w ≤ 4294967296 := by
      obtain ⟨q1, q2⟩ := hw
      have : w = 1 ∨ w = 2 ∨ w = 3 ∨ w = 4 := by omega
      rcases this with rfl | rfl | rfl | rfl <;> decide
    simp [s60, hp, w1, w2, hq]
    refine wp_loop (fun n σ => σ.e 0 = .v (.ptr p 0) ∧ σ.e 5 = .v (S s) ∧ σ.e 24 = .v (I s.length) ∧ σ.h = h1' ∧ ∃ j : Nat, n + j = s.length ∧ σ.e 25 = .v (I j) ∧ σ.e 6 = .v (.int .u64 (beNat (s.take j) 0))) ?_ s.length _ ⟨rfl, rfl, rfl, rfl, 0, by simp, rfl, rfl⟩
    rintro n ⟨e, m, g, rb, h'⟩ ⟨k0, k5, k24, kh, j, hj, k25, k6⟩
    dsimp only at k0 k5 k24 kh k25 k6
    subst kh
    by_cases hlt : j < s.length
    · have ha : s[j]? = some s[j] := List.getElem?_eq_getElem hlt
      have hw1 := wrapI (n := (j : Int) + 1) (by unfold R; omega)
      have hb2 : s[j].toNat < 256 := s[j].toNat_lt
      have hbt := beNat_lt (s.take j) 0
      have hjl : (s.take j).length = j := by rw [List.length_take]; omega
      rw [hjl] at hbt
      have hpw : 256 ^ j ≤ 256 ^ w := Nat.pow_le_pow_right (by decide) (by omega)
      have hsn := beNat_snoc (s.take j) s[j] 0
      rw [← List.take_succ_eq_append_getElem hlt] at hsn
      generalize beNat (s.take j) 0 = q at k6 hbt hsn
      have u1 := u64_small ((q : Int) * 256) (by omega)
      have u2 := u64_small (s[j].toNat : Int) (by omega)
      have u3 := u64_small ((q : Int) * 256 + (s[j].toNat : Int)) (by omega)
      simp [k0, k5, k24, k25, k6, hlt, ha, hw1, u1, u2, u3]
      exact ⟨n - 1, by omega, j + 1, by omega, by simp, by rw [hsn]; simp⟩
    · have hjl : j = s.length := by omega
      subst hjl
      rw [List.take_of_length_le (Nat.le_refl _)] at k6
      have hnn : decide ((9223372036854775808 : Int) ≤ ((beNat s 0 : Nat) : Int)) = false := by simp; omega
      have hww := wrapI (n := ((beNat s 0 : Nat) : Int)) (by unfold R; omega)
      simp [k0, k5, k24, k25, k6, s60, hfe, hnn, hww]
  · rw [if_neg (by omega)] at hr
    rw [if_neg h1]
    obtain ⟨a', bad, ha', hbad, hq⟩ := hr.none
    refine ⟨a', bad, ha', hbad, ?_⟩
    rw [v60]
    refine Ans.eq (ans_wp ?_)
    have hfe := fin_reye0 h p b a false 0 a' true bad (I 0) hp rfl
    simp [s60, hp, w1, w2, hq]
    refine wp_loop (fun n σ => σ.e 0 = .v (.ptr p 0) ∧ σ.e 5 = .v (S []) ∧ σ.e 24 = .v (I 0) ∧ σ.h = h.set p (rEye b a' true bad) ∧ σ.e 25 = .v (I 0) ∧ σ.e 6 = .v (.int .u64 0)) ?_ 0 _ ⟨rfl, rfl, rfl, rfl, rfl, rfl⟩
    rintro n ⟨e, m, g, rb, h'⟩ ⟨k0, k5, k24, kh, k25, k6⟩
    dsimp only at k0 k5 k24 kh k25 k6
    subst kh
    have hw0 : IntKind.i64.wrap 0 = 0 := by decide
    simp [k0, k5, k24, k25, k6, s60, hfe, hw0]

theorem text61 (h : List HO) (p : Nat) (b : Str) (hb : b.length < 1000000) (a : Nat) (ha : a ≤ b.length) (hp : h[p]? = some (rEye b a false 0)) (most : Int) (hm : 0 ≤ most) : RLook h p b S (S []) (VC X 61 [.ptr p 0, I most] h) (textP most (b.drop a)) := by
  have hn := num60 h p b hb a ha hp 2 2 rfl (by omega)
  unfold textP
  cases e1 : numP 2 (b.drop a) with
  | none =>
    rw [e1] at hn
    obtain ⟨a', bad, ha', hbad, hq⟩ := hn.none
    refine ⟨a', bad, ha', hbad, ?_⟩
    have hr := raw111_done _ p b a' bad (set_get (o' := rEye b a' true bad) hp) 0
    have hfe := fin_reye0 h p b a false 0 a' true bad (S []) hp rfl
    have hm' : ¬ most < 0 := by omega
    rw [v61]
    refine Ans.eq (ans_wp ?_)
    simp [s61, hq, hr, hm', hfe]
  | some q =>
    obtain ⟨n, r⟩ := q
    rw [e1] at hn
    obtain ⟨a1, ha1, hs1, hq⟩ := hn.some
    obtain ⟨r1, r2⟩ := numP_range e1
    simp only [Option.bind_some]
    have hp1 := set_get (o' := rEye b a1 false 0) hp
    by_cases hmo : n > most
    · rw [if_pos hmo]
      have hmo' : most < n := hmo
      have hf := fail110 _ p b a1 false 0 hp1 203
      rw [List.set_set] at hf
      have hr := raw111_done _ p b a1 203 (set_get (o' := rEye b a1 true 203) hp) n
      have hfe := fin_reye0 h p b a false 0 a1 true 203 (S []) hp rfl
      refine ⟨a1, 203, ha1, by decide, ?_⟩
      simp at hf
      rw [v61]
      refine Ans.eq (ans_wp ?_)
      simp [s61, hq, hmo', hf, hr, hfe]
    · rw [if_neg hmo]
      have hmo' : ¬ most < n := hmo
      have hr := raw111 _ p b hb a1 ha1 n (by omega) hp1
      rw [← hs1] at hr
      cases e2 : takeN n r with
      | none =>
        rw [e2] at hr
        obtain ⟨a2, bad, ha2, hbad, hq2⟩ := hr.none
        rw [List.set_set] at hq2
        refine ⟨a2, bad, ha2, hbad, ?_⟩
        have hfe := fin_reye0 h p b a false 0 a2 true bad (S []) hp rfl
        rw [v61]
        refine Ans.eq (ans_wp ?_)
        simp [s61, hq, hmo', hq2, hfe]
      | some q2 =>
        obtain ⟨t, r2⟩ := q2
        rw [e2] at hr
        obtain ⟨a2, ha2, hs2, hq2⟩ := hr.some
        rw [List.set_set] at hq2
        refine ⟨a2, ha2, hs2, ?_⟩
        have hfe := fin_reye0 h p b a false 0 a2 false 0 (S t) hp rfl
        rw [v61]
        refine Ans.eq (ans_wp ?_)
        simp [s61, hq, hmo', hq2, hfe]

theorem end63 (h : List HO) (p : Nat) (b : Str) (a : Nat) (ha : a ≤ b.length) (dn : Bool) (bad : Int) (hp : h[p]? = some (rEye b a dn bad)) (hbad : dn = true → bad ≠ 0) (hbad0 : dn = false → bad = 0) : ∃ e h', VC X 63 [.ptr p 0] h = some (.ret (I e), h') ∧ (e = 0 ↔ dn = false ∧ a = b.length) ∧ ∃ dn' bad', h' = h.set p (rEye b a dn' bad') := by
  rw [v63]
  cases dn
  · obtain rfl := hbad0 rfl
    by_cases hab : a = b.length
    · subst hab
      refine ⟨0, h, ?_, by simp, false, 0, (set_same hp).symm⟩
      refine Ans.eq (ans_wp ?_)
      simp [s63, hp]
    · have hlt : (a : Int) < b.length := by omega
      have hf := fail110 h p b a false 0 hp 201
      have hfe := fin_reye0 h p b a false 0 a true 201 (I 201) hp rfl
      refine ⟨201, h.set p (rEye b a true 201), ?_, by simp [hab], true, 201, rfl⟩
      simp at hf
      refine Ans.eq (ans_wp ?_)
      simp [s63, hp, hlt, hf, hfe, fun o => set_get (o' := o) hp]
  · refine ⟨bad, h, ?_, by simp [hbad rfl], true, bad, (set_same hp).symm⟩
    refine Ans.eq (ans_wp ?_)
    simp [s63, hp]
end Go.Vm.Tryz
end

section
set_option linter.unusedVariables false
set_option linter.unusedSimpArgs false
set_option maxRecDepth 10000
namespace Go.Vm.Tryz
open Go Go.Vm

/-- An item in the document's list, its xattrs by a row. -/
abbrev RV (i : Item) (w : V) : V := .agg [S i.path, I i.kind, I i.mode, .int .u64 i.time, S i.body, w, I i.same, I 0, I 0]
/-- Xattrs in a row that is not the list's. -/
def XO (h : List HO) (m k : Nat) (xs : List Xattr) (w : V) (H : List HO) : Prop :=
  w = .nils ∧ xs = [] ∨ ∃ k' ver', k' < m ∧ k' ≠ k ∧ w = .sl (h.length + k') ver' 5 0 xs.length ∧ H[h.length + k']? = some (.row ver' (xs.map Xattr.v))
structure NI (h : List HO) (m : Nat) (l : List Item) (v : V) (H : List HO) : Prop where
  pre : ∃ junk, H = h ++ junk
  len : h.length + m ≤ H.length
  ok : v = .nils ∧ l = [] ∨ ∃ k ver ws, k < m ∧ v = .sl (h.length + k) ver 9 0 l.length ∧ ws.length = l.length ∧ H[h.length + k]? = some (.row ver (List.zipWith RV l ws)) ∧ ∀ (j : Nat) (x : Item) (w : V), l[j]? = some x → ws[j]? = some w → XO h m k x.xattrs.l w H
/-- Xattrs of the item that is made now. -/
def CW (h : List HO) (m : Nat) (xs : List Xattr) (w : V) (H : List HO) : Prop :=
  w = .nils ∧ xs = [] ∨ ∃ k' ver', m ≤ k' ∧ w = .sl (h.length + k') ver' 5 0 xs.length ∧ H[h.length + k']? = some (.row ver' (xs.map Xattr.v))

theorem NI.frame {h : List HO} {m m' : Nat} {l : List Item} {v : V} {H H' : List HO} (n : NI h m l v H) (hm : m ≤ m') (hp : ∃ junk, H' = h ++ junk) (hl : h.length + m' ≤ H'.length)
    (hr : ∀ j, j < m → ∀ ver r, H[h.length + j]? = some (.row ver r) → H'[h.length + j]? = some (.row ver r)) : NI h m' l v H' := by
  refine ⟨hp, hl, ?_⟩
  rcases n.ok with ok | ⟨k, ver, ws, hk, ev, hw, e, hx⟩
  · exact .inl ok
  · refine .inr ⟨k, ver, ws, by omega, ev, hw, hr k hk _ _ e, fun j x w h1 h2 => ?_⟩
    rcases hx j x w h1 h2 with q | ⟨k', ver', q1, q2, q3, q4⟩
    · exact .inl q
    · exact .inr ⟨k', ver', by omega, q2, q3, hr k' q1 _ _ q4⟩
theorem NI.setc {h : List HO} {m : Nat} {l : List Item} {v : V} {H : List HO} (n : NI h m l v H) {p : Nat} {cs cs' : List V} (hp : H[p]? = some (.cells cs)) (hhp : h.length ≤ p) : NI h m l v (H.set p (.cells cs')) := by
  obtain ⟨junk, hj⟩ := n.pre
  refine n.frame (Nat.le_refl _) ⟨junk.set (p - h.length) (.cells cs'), ?_⟩ (by simpa using n.len) ?_
  · rw [hj, List.set_append_right _ _ hhp]
  · intro j hj' ver r e
    have hne : p ≠ h.length + j := by rintro rfl; rw [hp] at e; cases e
    rw [List.getElem?_set_ne hne]; exact e
theorem CW.setc {h : List HO} {m : Nat} {xs : List Xattr} {w : V} {H : List HO} (n : CW h m xs w H) {p : Nat} {cs cs' : List V} (hp : H[p]? = some (.cells cs)) : CW h m xs w (H.set p (.cells cs')) := by
  rcases n with n | ⟨k', ver', q1, q2, q3⟩
  · exact .inl n
  · refine .inr ⟨k', ver', q1, q2, ?_⟩
    have hne : p ≠ h.length + k' := by rintro rfl; rw [hp] at q3; cases q3
    rw [List.getElem?_set_ne hne]; exact q3
theorem CW.cells {h : List HO} {m : Nat} {xs : List Xattr} {w : V} {H : List HO} (n : CW h m xs w H) : w.cells = [w] := by
  rcases n with ⟨rfl, _⟩ | ⟨k', ver', q1, rfl, q3⟩ <;> rfl

/-- One more xattr. -/
theorem CW.app {h : List HO} {m : Nat} {xs : List Xattr} {w : V} {H : List HO} {l : List Item} {v : V} (n : NI h m l v H) (c : CW h m xs w H) (x : Xattr) (hl : xs.length < 1000000) {p : Nat} {cs : List V} (hp : H[p]? = some (.cells cs)) :
    ∃ w' H', appendV H 5 56 w (.snap [x.v]) = some (w', H') ∧ NI h m l v H' ∧ CW h m (xs ++ [x]) w' H' ∧ H'[p]? = some (.cells cs) := by
  obtain ⟨junk, hj⟩ := n.pre
  have hpl := lt_of_some hp
  rcases c with ⟨rfl, rfl⟩ | ⟨k', ver', q1, rfl, q3⟩
  · refine ⟨.sl H.length 0 5 0 1, H ++ [.row 0 [x.v]], by simp [appendV, far], n.frame (Nat.le_refl _) ⟨junk ++ [.row 0 [x.v]], by rw [hj]; simp⟩ (by have := n.len; simp; omega) ?_, ?_, by rw [List.getElem?_append_left hpl]; exact hp⟩
    · intro j hj' ver r e
      rw [List.getElem?_append_left (lt_of_some e)]; exact e
    · refine .inr ⟨junk.length, 0, ?_, by rw [hj]; simp, by rw [hj]; simp⟩
      have := n.len
      rw [hj] at this; simp at this; omega
  · have hk := lt_of_some q3
    have hc : xs.length ≤ xs.length ∧ (xs.length + 1) * 56 < 4294967296 ∧ xs.length + 1 < 4294967296 := by omega
    refine ⟨.sl (h.length + k') (ver' + 1) 5 0 (xs.length + 1), H.set (h.length + k') (.row (ver' + 1) (xs.map Xattr.v ++ [x.v])), ?_, n.frame (Nat.le_refl _) ⟨junk.set k' (.row (ver' + 1) (xs.map Xattr.v ++ [x.v])), by rw [hj, app_set]⟩ (by simpa using n.len) ?_, ?_, ?_⟩
    · simp [appendV, q3, far, List.take_of_length_le]; omega
    · intro j hj' ver r e
      rw [List.getElem?_set_ne (by omega)]; exact e
    · exact .inr ⟨k', ver' + 1, q1, by simp, by rw [List.getElem?_set]; simp [hk]⟩
    · have hne : h.length + k' ≠ p := by rintro rfl; rw [q3] at hp; cases hp
      rw [List.getElem?_set_ne hne]; exact hp

/-- One more item. -/
theorem NI.app {h : List HO} {m : Nat} {l : List Item} {v w : V} {H : List HO} (n : NI h m l v H) (i : Item) (c : CW h m i.xattrs.l w H) (hl : l.length < 1000000) {p : Nat} {cs : List V} (hp : H[p]? = some (.cells cs)) :
    ∃ v' H' m', appendV H 9 104 v (.snap [RV i w]) = some (v', H') ∧ NI h m' (l ++ [i]) v' H' ∧ H'[p]? = some (.cells cs) := by
  obtain ⟨junk, hj⟩ := n.pre
  have hpl := lt_of_some hp
  have hHl : H.length = h.length + junk.length := by rw [hj]; simp
  have hml : m ≤ junk.length := by have := n.len; omega
  have hcx : ∀ (H' : List HO) (m' k : Nat), junk.length ≤ m' → (∀ j ver r, H[h.length + j]? = some (.row ver r) → j ≠ k → H'[h.length + j]? = some (.row ver r)) → (k < m ∨ k = junk.length) → XO h m' k i.xattrs.l w H' := by
    intro H' m' k hm' hr hk
    rcases c with c | ⟨k', ver', q1, q2, q3⟩
    · exact .inl c
    · have := lt_of_some q3
      exact .inr ⟨k', ver', by omega, by omega, q2, hr k' _ _ q3 (by omega)⟩
  rcases n.ok with ⟨rfl, rfl⟩ | ⟨k, ver, ws, hk, rfl, hw, e, hx⟩
  · refine ⟨.sl H.length 0 9 0 1, H ++ [.row 0 [RV i w]], junk.length + 1, by simp [appendV, far], ⟨⟨junk ++ [.row 0 [RV i w]], by rw [hj]; simp⟩, by simp; omega, .inr ⟨junk.length, 0, [w], by omega, by rw [hHl]; rfl, rfl, by rw [hj]; simp, ?_⟩⟩, by rw [List.getElem?_append_left hpl]; exact hp⟩
    intro j x w' h1 h2
    cases j with
    | zero =>
      simp at h1 h2
      subst h1 h2
      refine hcx _ _ _ (by omega) (fun j ver r e _ => ?_) (.inr rfl)
      rw [List.getElem?_append_left (lt_of_some e)]; exact e
    | succ j => simp at h1
  · have hkl := lt_of_some e
    have hzl : (List.zipWith RV l ws).length = l.length := by simp [hw]
    refine ⟨.sl (h.length + k) (ver + 1) 9 0 (l.length + 1), H.set (h.length + k) (.row (ver + 1) (List.zipWith RV l ws ++ [RV i w])), junk.length, ?_, ⟨⟨(junk.set k (.row (ver + 1) (List.zipWith RV l ws ++ [RV i w]))), by rw [hj, app_set]⟩, ?_, .inr ⟨k, ver + 1, ws ++ [w], by omega, by simp, by simp [hw], ?_, ?_⟩⟩, ?_⟩
    · have hc : l.length ≤ (List.zipWith RV l ws).length ∧ (l.length + 1) * 104 < 4294967296 ∧ l.length + 1 < 4294967296 := by rw [hzl]; omega
      have htk : List.take l.length (List.zipWith RV l ws) = List.zipWith RV l ws := List.take_of_length_le (by omega)
      simp [appendV, e, far, hw, htk]
      omega
    · rw [List.length_set]; omega
    · rw [List.getElem?_set]
      have hz : List.zipWith RV (l ++ [i]) (ws ++ [w]) = List.zipWith RV l ws ++ [RV i w] := by rw [List.zipWith_append hw.symm]; rfl
      simp [hkl, hz]
    · intro j x w' h1 h2
      have hr : ∀ j ver' r, H[h.length + j]? = some (.row ver' r) → j ≠ k → (H.set (h.length + k) (.row (ver + 1) (List.zipWith RV l ws ++ [RV i w])))[h.length + j]? = some (.row ver' r) := by
        intro j ver' r e' hne
        rw [List.getElem?_set_ne (by omega)]; exact e'
      rcases Nat.lt_or_ge j l.length with hj' | hj'
      · rw [List.getElem?_append_left hj'] at h1
        rw [List.getElem?_append_left (by omega)] at h2
        rcases hx j x w' h1 h2 with q | ⟨k', ver', q1, q2, q3, q4⟩
        · exact .inl q
        · exact .inr ⟨k', ver', by omega, q2, q3, hr k' _ _ q4 q2⟩
      · have hjl : j = l.length := by
          have := List.getElem?_eq_some_iff.1 h1
          obtain ⟨hlt, _⟩ := this
          simp at hlt; omega
        subst hjl
        rw [List.getElem?_append_right (by omega)] at h1
        rw [List.getElem?_append_right (by omega)] at h2
        simp [hw] at h1 h2
        subst h1 h2
        exact hcx _ _ _ (by omega) hr (.inl hk)
    · have hne : h.length + k ≠ p := by rintro rfl; rw [e] at hp; cases hp
      rw [List.getElem?_set_ne hne]; exact hp
end Go.Vm.Tryz
end

section
set_option linter.unusedVariables false
set_option linter.unusedSimpArgs false
set_option maxRecDepth 10000
namespace Go.Vm.Tryz
open Go Go.Vm

abbrev FI (i : Item) : V := RV i (.snap (i.xattrs.l.map Xattr.v))

theorem XO.frz {h : List HO} {m k : Nat} {xs : List Xattr} {w : V} {H : List HO} (x : XO h m k xs w H) : frz1 h.length H w = some (.snap (xs.map Xattr.v)) := by
  rcases x with ⟨rfl, rfl⟩ | ⟨k', ver', q1, q2, rfl, q4⟩
  · rfl
  · have hpu := pures_mapf (f := Xattr.v) xs (fun _ _ => rfl)
    simp [frz1, V.pure, q4, hpu, List.take_of_length_le]

theorem frz_rows (n : Nat) (H : List HO) : ∀ (l : List Item) (ws : List V), ws.length = l.length → (∀ (j : Nat) (x : Item) (w : V), l[j]? = some x → ws[j]? = some w → frz1 n H w = some (.snap (x.xattrs.l.map Xattr.v))) → frz2s n H (List.zipWith RV l ws) = some (l.map FI)
  | [], ws, _, _ => rfl
  | i :: l, [], h, _ => by simp at h
  | i :: l, w :: ws, h, hx => by
    have ih := frz_rows n H l ws (by simpa using h) fun j x w h1 h2 => hx (j + 1) x w (by simpa using h1) (by simpa using h2)
    have h0 := hx 0 i w rfl rfl
    have h2 : frz2 n H (RV i w) = some (FI i) := by
      simp only [frz2, frzs, h0, Option.bind_some]
      simp [frz1, V.pure]
    simp only [List.zipWith_cons_cons, frz2s, h2, ih, Option.bind_some, List.map_cons]

theorem NI.frz {h : List HO} {m : Nat} {l : List Item} {v : V} {H : List HO} (n : NI h m l v H) : frzF h.length H (.tuple [v, I 0]) = some (.tuple [.snap (l.map FI), I 0]) := by
  have hI : frz2 h.length H (I 0) = some (I 0) := rfl
  have hI1 : frzN2 h.length H (I 0) = some (I 0) := rfl
  rcases n.ok with ⟨rfl, rfl⟩ | ⟨k, ver, ws, hk, rfl, hw, e, hx⟩
  · rfl
  · have hr := frz_rows h.length H l ws hw (fun j x w h1 h2 => (hx j x w h1 h2).frz)
    have hlt : ¬ h.length + k < h.length := by omega
    cases l with
    | nil =>
      unfold frzF
      simp [Go.Vm.frz, frz2s, hI, frz2, frz1, V.pure, e, V.pure.pures, hlt]
    | cons i l =>
      obtain ⟨w, ws, rfl⟩ : ∃ w ws', ws = w :: ws' := by
        cases ws with
        | nil => simp at hw
        | cons w ws => exact ⟨w, ws, rfl⟩
      have hwp : w.pure = false := by
        rcases hx 0 i w rfl rfl with ⟨rfl, _⟩ | ⟨k', ver', _, _, rfl, _⟩ <;> rfl
      have hnp : V.pure.pures (List.zipWith RV (i :: l) (w :: ws)) = false := by
        simp [V.pure.pures, V.pure, hwp]
      have h1 : frz1 h.length H (.sl (h.length + k) ver 9 0 (i :: l).length) = none := by
        unfold frz1
        rw [if_neg (by simp [V.pure])]
        dsimp only
        rw [if_neg hlt, e]
        dsimp only
        rw [if_neg (by rw [hnp]; simp)]
      have h2 : Go.Vm.frz h.length H (.tuple [.sl (h.length + k) ver 9 0 (i :: l).length, I 0]) = none := by
        simp only [Go.Vm.frz, frz2s, frz2, h1, Option.bind_none, Option.map_none]
      have hlen : (List.zipWith RV (i :: l) (w :: ws)).length = (i :: l).length := by simp at hw ⊢; omega
      have h3 : frzN1 h.length H (.sl (h.length + k) ver 9 0 (i :: l).length) = some (.snap ((i :: l).map FI)) := by
        unfold frzN1
        rw [h1]
        dsimp only
        rw [if_neg hlt, e]
        dsimp only
        rw [if_pos ⟨rfl, by rw [hlen]; omega⟩, hr]
        simp [List.take_of_length_le]
      unfold frzF
      rw [h2]
      dsimp only
      simp only [frzN, frzN2s, frzN2, h3, hI1, Option.bind_some, Option.map_some]
      rfl

theorem NI.fin {h : List HO} {m : Nat} {l : List Item} {v : V} {H : List HO} (n : NI h m l v H) : finish false h (.ret (.tuple [v, I 0])) H = (.ret (.tuple [.snap (l.map FI), I 0]), h) := by
  obtain ⟨junk, hj⟩ := n.pre
  have hF := n.frz
  unfold finish
  dsimp only
  rw [if_pos ⟨rfl, by rw [hj]; simp⟩, hF]
theorem fin_bad (h junk : List HO) : finish false h (.ret (.tuple [.nils, I 201])) (h ++ junk) = (.ret (.tuple [.snap [], I 201]), h) := by
  have hF : frzF h.length (h ++ junk) (.tuple [.nils, I 201]) = some (.tuple [.snap [], I 201]) := rfl
  unfold finish
  dsimp only
  rw [if_pos ⟨rfl, by simp⟩, hF]

theorem NI.len_ {h : List HO} {m : Nat} {l : List Item} {v : V} {H : List HO} (n : NI h m l v H) : v = .nils ∧ l = [] ∨ ∃ id ver Z, v = .sl id ver 9 0 l.length ∧ H[id]? = some (.row ver Z) ∧ Z.length = l.length ∧ ∀ (j : Nat) (x : Item), l[j]? = some x → ∃ w, Z[j]? = some (RV x w) ∧ w.cells = [w] := by
  rcases n.ok with ok | ⟨k, ver, ws, hk, rfl, hw, e, hx⟩
  · exact .inl ok
  · refine .inr ⟨_, ver, _, rfl, e, by simp [hw], fun j x hj => ?_⟩
    have hjl : j < ws.length := by
      obtain ⟨q, _⟩ := List.getElem?_eq_some_iff.1 hj
      omega
    have h2 : ws[j]? = some ws[j] := List.getElem?_eq_getElem hjl
    refine ⟨ws[j], by rw [List.getElem?_zipWith, hj, h2], ?_⟩
    rcases hx j x ws[j] hj h2 with ⟨q, _⟩ | ⟨k', ver', _, _, q, _⟩ <;> rw [q] <;> rfl

set_option maxHeartbeats 4000000 in
theorem isfit62 (h H : List HO) (m : Nat) (i : Item) (hi : RU i.time) (l : List Item) (v w : V) (hv : NI h m l v H) (hw : CW h m i.xattrs.l w H) : VC X 62 [RV i w, v] H = some (.ret (B (fitB i l)), H) := by
  have hg := good112 i.time hi H
  have hwc := hw.cells
  have hwl : ∀ n : Nat, n = i.xattrs.l.length → w = .nils ∧ n = 0 ∨ ∃ a b c, w = .sl a b c 0 n := by
    intro n hn
    rcases hw with ⟨rfl, e⟩ | ⟨k', ver', _, rfl, _⟩
    · exact .inl ⟨rfl, by rw [hn, e]; rfl⟩
    · exact .inr ⟨_, _, _, by rw [hn]⟩
  obtain ⟨q, hq⟩ : ∃ q, q = fitB i l := ⟨_, rfl⟩
  rw [v62, ← hq]
  refine Ans.eq (ans_wp ?_)
  unfold fitB at hq
  by_cases c1 : i.kind < 1
  · rw [if_pos (.inl c1)] at hq; subst hq
    simp [s62, hwc, c1]
  by_cases c2 : i.kind > 3
  · rw [if_pos (.inr (.inl c2))] at hq; subst hq
    have c2' : 3 < i.kind := c2
    simp [s62, hwc, c1, c2']
  by_cases c3 : i.mode > 511
  · rw [if_pos (.inr (.inr (.inl c3)))] at hq; subst hq
    have c2' : ¬ 3 < i.kind := c2
    have c3' : 511 < i.mode := c3
    simp [s62, hwc, c1, c2', c3']
  have c2' : ¬ 3 < i.kind := c2
  have c3' : ¬ 511 < i.mode := c3
  by_cases c4 : i.same ≥ l.length
  · rw [if_pos (.inr (.inr (.inr c4)))] at hq; subst hq
    rcases hv.len_ with ⟨rfl, rfl⟩ | ⟨id, ver, Z, rfl, e, hZ, hZx⟩
    · have c4' : 0 ≤ i.same := by simpa using c4
      simp [s62, hwc, c1, c2', c3', c4']
    · have c4' : (l.length : Int) ≤ i.same := c4
      simp [s62, hwc, c1, c2', c3', c4']
  rw [if_neg (by omega)] at hq
  have c4' : ¬ (l.length : Int) ≤ i.same := c4
  by_cases c5 : 0 ≤ i.same
  · rw [if_pos c5] at hq
    rcases hv.len_ with ⟨rfl, rfl⟩ | ⟨id, ver, Z, rfl, e, hZ, hZx⟩
    · simp at c4; omega
    · obtain ⟨k, hk⟩ : ∃ k : Nat, i.same = k := ⟨i.same.toNat, by omega⟩
      have hkl : k < l.length := by omega
      have ha : l[k]? = some l[k] := List.getElem?_eq_getElem hkl
      rw [hk, show ((k : Nat) : Int).toNat = k by omega, ha] at hq
      dsimp only at hq
      obtain ⟨wx, hzx, hwx⟩ := hZx k l[k] ha
      generalize l[k] = x at *
      have c5' : (0 : Int) ≤ k := by omega
      have c4n : ¬ (l.length : Int) ≤ k := by omega
      have hkz : k < l.length := hkl
      by_cases d3 : x.same < 0
      rotate_left
      · simp [d3] at hq; subst hq
        simp [s62, hwc, hwx, c1, c2', c5', c4n, hk, hkz, e, hzx, c3', d3]
      by_cases d1 : x.kind = i.kind
      rotate_left
      · simp [d1] at hq; subst hq
        have b1 : (x.kind == i.kind) = false := by simpa using d1
        simp [s62, hwc, hwx, c1, c2', c3', c5', c4n, hk, hkz, e, hzx, d3, b1]
      by_cases d2 : i.kind = 2
      · simp [d1, d2, d3] at hq; subst hq
        simp [s62, hwc, hwx, c5', c4n, hk, hkz, e, hzx, c3', d1, d2, d3]
      have b2 : (i.kind != 2) = true := by simpa using d2
      by_cases d4 : i.mode = 0
      rotate_left
      · simp [d4] at hq; subst hq
        have b4 : (i.mode == 0) = false := by simpa using d4
        simp [s62, hwc, hwx, c1, c2', c5', c4n, hk, hkz, e, hzx, c3', d1, b2, d3, b4]
      by_cases d5 : i.time = 0
      rotate_left
      · simp [d5] at hq; subst hq
        have b5 : (i.time == 0) = false := by simpa using d5
        simp [s62, hwc, hwx, c1, c2', c5', c4n, hk, hkz, e, hzx, c3', d1, b2, d3, d4, b5]
      by_cases d6 : i.body = []
      rotate_left
      · simp [d6] at hq; subst hq
        have b6 : i.body.isEmpty = false := by simpa using d6
        simp [s62, hwc, hwx, c1, c2', c5', c4n, hk, hkz, e, hzx, c3', d1, b2, d3, d4, d5, b6]
      simp [d1, d2, d3, d4, d5, d6] at hq
      obtain ⟨nx, hnx⟩ : ∃ nx, nx = i.xattrs.l.length := ⟨_, rfl⟩
      have hq' : q = decide (nx = 0) := by
        rw [hq, hnx]
        cases i.xattrs.l <;> simp
      subst hq'
      rcases hwl nx hnx with ⟨rfl, rfl⟩ | ⟨a1, a2, a3, rfl⟩
      · simp [s62, hwc, hwx, c1, c2', c5', c4n, hk, hkz, e, hzx, c3', d1, b2, d3, d4, d5, d6]
      · by_cases hn0 : nx = 0
        · simp [s62, hwc, hwx, c1, c2', c5', c4n, hk, hkz, e, hzx, c3', d1, b2, d3, d4, d5, d6, hn0]
        · have b7 : ((nx : Int) == 0) = false := by simp; omega
          simp [s62, hwc, hwx, c1, c2', c5', c4n, hk, hkz, e, hzx, c3', d1, b2, d3, d4, d5, d6, hn0, b7]
  · rw [if_neg c5] at hq
    have hcase : ∀ (P : Prop), (v = .nils → P) → ((∃ a b c n, v = .sl a b c 0 n ∧ ¬ (n : Int) ≤ i.same) → P) → P := by
      intro P h1 h2
      rcases hv.len_ with ⟨e1, _⟩ | ⟨id, ver, Z, e1, _, _, _⟩
      · exact h1 e1
      · exact h2 ⟨_, _, _, _, e1, c4'⟩
    by_cases d1 : i.kind = 2
    · by_cases d2 : i.body = []
      · have hq' : q = timeGood i.time := by rw [hq]; simp [d1, d2]
        subst hq'
        refine hcase _ (fun e1 => ?_) (fun ⟨a, b, c, n, e1, e2⟩ => ?_)
        · subst e1; simp [s62, hwc, c1, c2', c3', c5, hg, d1, d2]
        · subst e1; simp [s62, hwc, c1, c2', c3', e2, c5, hg, d1, d2]
      · have b2 : i.body.isEmpty = false := by simpa using d2
        have hq' : q = false := by rw [hq]; simp [d1, d2]
        subst hq'
        refine hcase _ (fun e1 => ?_) (fun ⟨a, b, c, n, e1, e2⟩ => ?_)
        · subst e1; simp [s62, hwc, c1, c2', c3', c5, hg, d1, b2]
        · subst e1; simp [s62, hwc, c1, c2', c3', e2, c5, hg, d1, b2]
    · have b1 : (i.kind == 2) = false := by simpa using d1
      by_cases d3 : i.kind = 3
      · by_cases d2 : i.body = []
        · have hq' : q = false := by rw [hq]; simp [d3, d2]
          subst hq'
          refine hcase _ (fun e1 => ?_) (fun ⟨a, b, c, n, e1, e2⟩ => ?_)
          · subst e1; simp [s62, hwc, c1, c2', c3', c5, hg, d3, d2]
          · subst e1; simp [s62, hwc, c1, c2', c3', e2, c5, hg, d3, d2]
        · have b2 : i.body.isEmpty = false := by simpa using d2
          by_cases d4 : i.body.length ≤ 120
          · have hq' : q = timeGood i.time := by rw [hq]; simp [d3, d2, d4]
            have d4' : ¬ (120 : Int) < (i.body.length : Int) := by omega
            subst hq'
            refine hcase _ (fun e1 => ?_) (fun ⟨a, b, c, n, e1, e2⟩ => ?_)
            · subst e1; simp [s62, hwc, c1, c2', c3', c5, hg, d3, b2, d4']
            · subst e1; simp [s62, hwc, c1, c2', c3', e2, c5, hg, d3, b2, d4']
          · have hq' : q = false := by rw [hq]; simp [d3, d2, d4]
            have d4' : (120 : Int) < (i.body.length : Int) := by omega
            subst hq'
            refine hcase _ (fun e1 => ?_) (fun ⟨a, b, c, n, e1, e2⟩ => ?_)
            · subst e1; simp [s62, hwc, c1, c2', c3', c5, hg, d3, b2, d4']
            · subst e1; simp [s62, hwc, c1, c2', c3', e2, c5, hg, d3, b2, d4']
      · have b3 : (i.kind == 3) = false := by simpa using d3
        have hq' : q = timeGood i.time := by rw [hq]; simp [d1, d3]
        subst hq'
        refine hcase _ (fun e1 => ?_) (fun ⟨a, b, c, n, e1, e2⟩ => ?_)
        · subst e1; simp [s62, hwc, c1, c2', c3', c5, hg, b1, b3]
        · subst e1; simp [s62, hwc, c1, c2', c3', e2, c5, hg, b1, b3]
end Go.Vm.Tryz
end

section
set_option linter.unusedVariables false
set_option linter.unusedSimpArgs false
set_option maxRecDepth 10000
namespace Go.Vm.Tryz
open Go Go.Vm

/-- The eye's state: is it done, what is left. -/
def EyeSt (b : Str) (p : Nat) (H : List HO) (dn : Bool) (s : Str) : Prop := ∃ a bad, a ≤ b.length ∧ s = b.drop a ∧ (dn = false → bad = 0) ∧ (dn = true → bad ≠ 0) ∧ H[p]? = some (rEye b a dn bad)
theorem EyeSt.cell {b : Str} {p : Nat} {H : List HO} {dn : Bool} {s : Str} (e : EyeSt b p H dn s) : ∃ cs, H[p]? = some (.cells cs) := by
  obtain ⟨a, bad, _, _, _, _, h⟩ := e; exact ⟨_, h⟩

theorem num60g {b : Str} (hb : b.length < 1000000) {p : Nat} {H : List HO} {dn : Bool} {s : Str} (e : EyeSt b p H dn s) (w : Nat) (wi : Int) (hwi : wi = w) (hw : 1 ≤ w ∧ w ≤ 4) :
    ∃ x dn' s' cs, VC X 60 [.ptr p 0, I wi] H = some (.ret (I x), H.set p (.cells cs)) ∧ EyeSt b p (H.set p (.cells cs)) dn' s' ∧ 0 ≤ x ∧ x < 256 ^ w ∧ ∀ (γ : Type) (G : Int × Str → Option γ), (if dn = true then none else (numP w s).bind G) = (if dn' = true then none else G (x, s')) := by
  obtain ⟨a, bad, ha, rfl, h0, h1, hp⟩ := e
  have hpw : (0 : Int) < 256 ^ w := Int.pow_pos (by decide)
  cases dn
  · obtain rfl := h0 rfl
    have hn := num60 H p b hb a ha hp w wi hwi hw
    cases e1 : numP w (b.drop a) with
    | none =>
      rw [e1] at hn
      obtain ⟨a', bad', ha', hbad, hq⟩ := hn.none
      exact ⟨0, true, b.drop a', _, hq, ⟨a', bad', ha', rfl, by simp, fun _ => hbad, set_get hp⟩, by omega, hpw, fun γ G => rfl⟩
    | some r =>
      obtain ⟨x, s'⟩ := r
      rw [e1] at hn
      obtain ⟨a', ha', hs, hq⟩ := hn.some
      obtain ⟨r1, r2⟩ := numP_range e1
      exact ⟨x, false, s', _, hq, ⟨a', 0, ha', hs, by simp, by simp, set_get hp⟩, r1, r2, fun γ G => rfl⟩
  · have hq := num60_done H p b a bad hp wi
    exact ⟨0, true, b.drop a, _, by rw [set_same hp]; exact hq, by rw [set_same hp]; exact ⟨a, bad, ha, rfl, h0, h1, hp⟩, by omega, hpw, fun γ G => rfl⟩
theorem text61g {b : Str} (hb : b.length < 1000000) {p : Nat} {H : List HO} {dn : Bool} {s : Str} (e : EyeSt b p H dn s) (most : Int) (hm : 0 ≤ most) :
    ∃ x dn' s' cs, VC X 61 [.ptr p 0, I most] H = some (.ret (S x), H.set p (.cells cs)) ∧ EyeSt b p (H.set p (.cells cs)) dn' s' ∧ ∀ (γ : Type) (G : Str × Str → Option γ), (if dn = true then none else (textP most s).bind G) = (if dn' = true then none else G (x, s')) := by
  obtain ⟨a, bad, ha, rfl, h0, h1, hp⟩ := e
  cases dn
  · obtain rfl := h0 rfl
    have hn := text61 H p b hb a ha hp most hm
    cases e1 : textP most (b.drop a) with
    | none =>
      rw [e1] at hn
      obtain ⟨a', bad', ha', hbad, hq⟩ := hn.none
      exact ⟨[], true, b.drop a', _, hq, ⟨a', bad', ha', rfl, by simp, fun _ => hbad, set_get hp⟩, fun γ G => rfl⟩
    | some r =>
      obtain ⟨x, s'⟩ := r
      rw [e1] at hn
      obtain ⟨a', ha', hs, hq⟩ := hn.some
      exact ⟨x, false, s', _, hq, ⟨a', 0, ha', hs, by simp, by simp, set_get hp⟩, fun γ G => rfl⟩
  · have hq := text61_done H p b a bad hp most hm
    exact ⟨[], true, b.drop a, _, by rw [set_same hp]; exact hq, by rw [set_same hp]; exact ⟨a, bad, ha, rfl, h0, h1, hp⟩, fun γ G => rfl⟩

/-- What is behind xattrs, one of them taken. -/
theorem xattrsP_succ {γ : Type} (n : Nat) (s : Str) (G : List Xattr × Str → Option γ) : (xattrsP (n + 1) s).bind G = (textP 16 s).bind fun a => (textP 32 a.2).bind fun b => (xattrsP n b.2).bind fun r => G (⟨a.1, ⟨0, 0⟩, b.1, false⟩ :: r.1, r.2) := by
  rw [xattrsP]
  unfold xattrP
  cases textP 16 s with
  | none => rfl
  | some a =>
    simp only [Option.bind_some]
    cases textP 32 a.2 with
    | none => rfl
    | some b =>
      simp only [Option.bind_some]
      cases xattrsP n b.2 <;> rfl

structure It29 {γ : Type} (Rt : Option γ) (F : List Xattr × Str → Option γ) (b : Str) (h : List HO) (p m : Nat) (l : List Item) (v : V) (path : Str) (kind mode time : Int) (body : Str) (same : Int) (v28 v29 : T) (N g9 : Nat) (n : Nat) (σ : St) (j : Nat) (acc : List Xattr) (w : V) (dn : Bool) (s : Str) : Prop where
  k6 : σ.e 6 = .v (.ptr p 0)
  k8 : σ.e 8 = .v v
  k9 : σ.e 9 = .loc 9 g9 0
  k28 : σ.e 28 = v28
  k29 : σ.e 29 = v29
  k61 : σ.e 61 = .v (I N)
  hj : n + j = N
  k62 : σ.e 62 = .v (I j)
  hacc : acc.length = j
  m9 : σ.m 9 = some (g9, [S path, I kind, I mode, .int .u64 time, S body, w, I same, I 0, I 0])
  ni : NI h m l v σ.h
  cw : CW h m acc w σ.h
  ey : EyeSt b p σ.h dn s
  hR : Rt = if dn = true then none else (xattrsP n s).bind fun r => F (acc ++ r.1, r.2)
def It29' {γ : Type} (Rt : Option γ) (F : List Xattr × Str → Option γ) (b : Str) (h : List HO) (p m : Nat) (l : List Item) (v : V) (path : Str) (kind mode time : Int) (body : Str) (same : Int) (v28 v29 : T) (N g9 : Nat) (n : Nat) (σ : St) : Prop :=
  ∃ j acc w dn s, It29 Rt F b h p m l v path kind mode time body same v28 v29 N g9 n σ j acc w dn s

theorem get29_xs {γ : Type} (Rt : Option γ) (F : List Xattr × Str → Option γ) (b : Str) (hb : b.length < 1000000) (h : List HO) (p m : Nat) (hhp : h.length ≤ p) (l : List Item) (v : V) (path : Str) (kind mode time : Int) (body : Str) (same : Int) (v28 v29 : T) (N g9 : Nat) (hN : N < 256) (dn : Bool) (s : Str) (σ : St)
    (k6 : σ.e 6 = .v (.ptr p 0)) (k8 : σ.e 8 = .v v) (k9 : σ.e 9 = .loc 9 g9 0) (k28 : σ.e 28 = v28) (k29 : σ.e 29 = v29) (k61 : σ.e 61 = .v (I N)) (k62 : σ.e 62 = .v (I 0)) (m9 : σ.m 9 = some (g9, [S path, I kind, I mode, .int .u64 time, S body, .nils, I same, I 0, I 0]))
    (ni : NI h m l v σ.h) (ey : EyeSt b p σ.h dn s) (hR : Rt = if dn = true then none else (xattrsP N s).bind F) (K : List It) (Q : Ex → St → Prop)
    (hK : ∀ (σ' : St) (xs : List Xattr) (w : V) (dn : Bool) (s : Str), σ'.e 6 = .v (.ptr p 0) → σ'.e 8 = .v v → σ'.e 9 = .loc 9 g9 0 → σ'.e 28 = v28 → σ'.e 29 = v29 → σ'.m 9 = some (g9, [S path, I kind, I mode, .int .u64 time, S body, w, I same, I 0, I 0]) → NI h m l v σ'.h → CW h m xs w σ'.h → EyeSt b p σ'.h dn s → Rt = (if dn = true then none else F (xs, s)) → wp (contK X K (.exit 2) σ') Q) :
    wp (run X (.c L29_1 :: K) σ) Q := by
  refine wp_loop (It29' Rt F b h p m l v path kind mode time body same v28 v29 N g9) ?_ N _ ⟨0, [], .nils, dn, s, k6, k8, k9, k28, k29, k61, by simp, k62, rfl, m9, ni, .inl ⟨rfl, rfl⟩, ey, by simpa using hR⟩
  clear k6 k8 k9 k28 k29 k61 k62 m9 ni ey hR σ dn s
  rintro n ⟨e, m', g, rb, H⟩ ⟨j, acc, w, dn, s, k6, k8, k9, k28, k29, k61, hj, k62, hacc, m9, ni, cw, ey, hR⟩
  dsimp only at k6 k8 k9 k28 k29 k61 k62 m9 ni cw ey
  by_cases hlt : j < N
  · obtain ⟨n', rfl⟩ : ∃ n', n = n' + 1 := ⟨n - 1, by omega⟩
    have hlt' : (j : Int) < N := by omega
    have hw := wrapI (n := (j : Int) + 1) (by unfold R; omega)
    rw [xattrsP_succ] at hR
    obtain ⟨cs0, hc0⟩ := ey.cell
    obtain ⟨x1, dn1, s1, c1, e1, y1, G1⟩ := text61g hb ey 16 (by decide)
    obtain ⟨x2, dn2, s2, c2, e2, y2, G2⟩ := text61g hb y1 32 (by decide)
    rw [List.set_set] at e2 y2
    rw [G1, G2] at hR
    have ni2 := ni.setc (cs' := c2) hc0 hhp
    have cw2 := cw.setc (cs' := c2) hc0
    have hp2 := set_get (o' := HO.cells c2) hc0
    obtain ⟨w', H', ea, ni3, cw3, hp3⟩ := CW.app ni2 cw2 ⟨x1, ⟨0, 0⟩, x2, false⟩ (by omega) hp2
    have hwc := cw2.cells
    have hwc3 := cw3.cells
    have ea' : appendV (H.set p (.cells c2)) 5 56 w (.snap [.agg [S x1, I 0, I 0, S x2, B false]]) = _ := ea
    have y3 : EyeSt b p H' dn2 s2 := by
      obtain ⟨a, bad, q1, q2, q3, q4, q5⟩ := y2
      rw [hp2] at q5
      exact ⟨a, bad, q1, q2, q3, q4, by rw [hp3]; exact q5⟩
    have hR' : Rt = if dn2 = true then none else (xattrsP n' s2).bind fun r => F (acc ++ [⟨x1, ⟨0, 0⟩, x2, false⟩] ++ r.1, r.2) := by
      rw [hR]; simp
    simp [k6, k8, k9, k28, k29, k61, k62, m9, hlt', e1, e2, ea', hwc, hwc3, hw]
    refine ⟨n', by omega, j + 1, acc ++ [⟨x1, ⟨0, 0⟩, x2, false⟩], w', dn2, s2, ?_⟩
    refine { k6 := ?_, k8 := ?_, k9 := ?_, k28 := ?_, k29 := ?_, k61 := ?_, hj := by omega, k62 := ?_, hacc := by simp [hacc], m9 := ?_, ni := ni3, cw := cw3, ey := y3, hR := hR' }
    all_goals first | rfl | assumption | simp
  · obtain rfl : n = 0 := by omega
    have hlt' : ¬ (j : Int) < N := by omega
    have hR' : Rt = if dn = true then none else F (acc, s) := by rw [hR]; simp [xattrsP]
    simp [k61, k62, hlt']
    exact hK _ acc w dn s k6 k8 k9 k28 k29 m9 ni cw ey hR'

/-- What is behind items, one of them taken. -/
theorem itemsP_succ {γ : Type} (n : Nat) (l : List Item) (s : Str) (F : List Item × Str → Option γ) : (itemsP (n + 1) l s).bind F =
    (textP 8192 s).bind fun path => (numP 1 path.2).bind fun kind => (numP 2 kind.2).bind fun same => (numP 2 same.2).bind fun mode => (numP 4 mode.2).bind fun hi => (numP 4 hi.2).bind fun lo =>
    (textP 1024 lo.2).bind fun body => (numP 1 body.2).bind fun n' => (xattrsP n'.1.toNat n'.2).bind fun xs =>
    if fitB ⟨path.1, kind.1, mode.1, hi.1 * 4294967296 + lo.1, body.1, some xs.1, same.1 - 1⟩ l then (itemsP n (l ++ [⟨path.1, kind.1, mode.1, hi.1 * 4294967296 + lo.1, body.1, some xs.1, same.1 - 1⟩]) xs.2).bind F else none := by
  rw [itemsP]
  unfold itemP
  simp only [Option.bind_assoc, Option.bind_some]
  repeat (refine congrArg _ (funext fun _ => ?_))
  split <;> rfl

structure It30 (Rt : Option (List Item)) (F : List Item × Str → Option (List Item)) (b : Str) (h : List HO) (p N : Nat) (n : Nat) (σ : St) (j m : Nat) (l : List Item) (v : V) (dn : Bool) (s : Str) : Prop where
  k6 : σ.e 6 = .v (.ptr p 0)
  k8 : σ.e 8 = .v v
  k28 : σ.e 28 = .v (I N)
  hj : n + j = N
  k29 : σ.e 29 = .v (I j)
  hl : l.length = j
  ni : NI h m l v σ.h
  ey : EyeSt b p σ.h dn s
  hR : Rt = if dn = true then none else (itemsP n l s).bind F
def It30' (Rt : Option (List Item)) (F : List Item × Str → Option (List Item)) (b : Str) (h : List HO) (p N : Nat) (n : Nat) (σ : St) : Prop := ∃ j m l v dn s, It30 Rt F b h p N n σ j m l v dn s

theorem EyeSt.load {b : Str} {p : Nat} {H : List HO} {dn : Bool} {s : Str} (e : EyeSt b p H dn s) : ∃ a bad, H[p]? = some (.cells [S b, I a, B dn, I bad]) := by
  obtain ⟨a, bad, _, _, _, _, h⟩ := e; exact ⟨_, _, h⟩

theorem get29_items (Rt : Option (List Item)) (F : List Item × Str → Option (List Item)) (b : Str) (hb : b.length < 1000000) (h : List HO) (p : Nat) (hhp : h.length ≤ p) (N : Nat) (hN : N < 65536) (v : V) (m : Nat) (dn : Bool) (s : Str) (σ : St)
    (k6 : σ.e 6 = .v (.ptr p 0)) (k8 : σ.e 8 = .v v) (k28 : σ.e 28 = .v (I N)) (k29 : σ.e 29 = .v (I 0))
    (ni : NI h m [] v σ.h) (ey : EyeSt b p σ.h dn s) (hR : Rt = if dn = true then none else (itemsP N [] s).bind F) (K : List It) (Q : Ex → St → Prop)
    (hK : ∀ (σ' : St) (l : List Item) (m : Nat) (v : V) (dn : Bool) (s : Str), σ'.e 6 = .v (.ptr p 0) → σ'.e 8 = .v v → NI h m l v σ'.h → EyeSt b p σ'.h dn s → Rt = (if dn = true then none else F (l, s)) → wp (contK X K (.exit 0) σ') Q)
    (hB : ∀ (σ' : St) (junk : List HO), σ'.e 2 = .v .nils → σ'.e 3 = .v (I 201) → σ'.h = h ++ junk → Rt = none → Q .ret σ') :
    wp (run X (.c L29_2 :: K) σ) Q := by
  refine wp_loop (It30' Rt F b h p N) ?_ N _ ⟨0, m, [], v, dn, s, k6, k8, k28, by simp, k29, rfl, ni, ey, hR⟩
  clear k6 k8 k28 k29 ni ey hR σ dn s v m
  rintro n ⟨e, m', g, rb, H⟩ ⟨j, m, l, v, dn, s, k6, k8, k28, hj, k29, hl, ni, ey, hR⟩
  dsimp only at k6 k8 k28 k29 ni ey
  by_cases hlt : j < N
  · obtain ⟨n', rfl⟩ : ∃ n', n = n' + 1 := ⟨n - 1, by omega⟩
    have hlt' : (j : Int) < N := by omega
    have hw := wrapI (n := (j : Int) + 1) (by unfold R; omega)
    rw [itemsP_succ] at hR
    obtain ⟨cs0, hc0⟩ := ey.cell
    obtain ⟨x1, dn1, s1, c1, e1, y1, G1⟩ := text61g hb ey 8192 (by decide)
    obtain ⟨x2, dn2, s2, c2, e2, y2, r2, r2', G2⟩ := num60g hb y1 1 1 rfl (by decide)
    rw [List.set_set] at e2 y2
    obtain ⟨x3, dn3, s3, c3, e3, y3, r3, r3', G3⟩ := num60g hb y2 2 2 rfl (by decide)
    rw [List.set_set] at e3 y3
    obtain ⟨x4, dn4, s4, c4, e4, y4, r4, r4', G4⟩ := num60g hb y3 2 2 rfl (by decide)
    rw [List.set_set] at e4 y4
    obtain ⟨x5, dn5, s5, c5, e5, y5, r5, r5', G5⟩ := num60g hb y4 4 4 rfl (by decide)
    rw [List.set_set] at e5 y5
    obtain ⟨x6, dn6, s6, c6, e6, y6, r6, r6', G6⟩ := num60g hb y5 4 4 rfl (by decide)
    rw [List.set_set] at e6 y6
    obtain ⟨x7, dn7, s7, c7, e7, y7, G7⟩ := text61g hb y6 1024 (by decide)
    rw [List.set_set] at e7 y7
    obtain ⟨x8, dn8, s8, c8, e8, y8, r8, r8', G8⟩ := num60g hb y7 1 1 rfl (by decide)
    rw [List.set_set] at e8 y8
    rw [G1, G2, G3, G4, G5, G6, G7, G8] at hR
    dsimp only at hR
    obtain ⟨n8, rfl⟩ : ∃ k : Nat, x8 = k := ⟨x8.toNat, by omega⟩
    rw [Int.toNat_natCast] at hR
    have ni8 := ni.setc (cs' := c8) hc0 hhp
    have hc8 := set_get (o' := HO.cells c8) hc0
    have wsame := wrapI (n := x3 - 1) (by unfold R; omega)
    have w3 := u64_small (x5 * 4294967296) (by omega)
    have w4 := u64_small (x5 * 4294967296 + x6) (by omega)
    have w5 := u64_small x5 (by omega)
    have w6 := u64_small x6 (by omega)
    generalize hI : (fun xs : List Xattr => (⟨x1, x2, x4, x5 * 4294967296 + x6, x7, some xs, x3 - 1⟩ : Item)) = mk
    have hR2 : Rt = if dn8 = true then none else (xattrsP n8 s8).bind fun xs => if fitB (mk xs.1) l then (itemsP n' (l ++ [mk xs.1]) xs.2).bind F else none := by
      rw [hR, ← hI]
    simp [k6, k8, k28, k29, hlt', e1, e2, e3, e4, e5, e6, e7, e8, hw, wsame, w3, w4, w5, w6]
    refine get29_xs Rt (fun xs => if fitB (mk xs.1) l then (itemsP n' (l ++ [mk xs.1]) xs.2).bind F else none) b hb h p m hhp l v x1 x2 x4 (x5 * 4294967296 + x6) x7 (x3 - 1) (.v (I N)) (.v (I j)) n8 g (by omega) dn8 s8 _ ?_ ?_ ?_ ?_ ?_ ?_ ?_ ?_ ni8 y8 hR2 _ _ ?_
    rotate_right
    · clear hR hR2 ni8 hc8 y8 y7 y6 y5 y4 y3 y2 y1 e1 e2 e3 e4 e5 e6 e7 e8 G1 G2 G3 G4 G5 G6 G7 G8 ni ey hc0 k6 k8 k28 k29
      rintro ⟨e, m', g, rb, H⟩ xs w dn s k6 k8 k9 k28 k29 m9 ni cw ey hR
      dsimp only at k6 k8 k9 k28 k29 m9 ni cw ey
      obtain ⟨a, bad, hp⟩ := ey.load
      obtain ⟨junk, hj⟩ := ni.pre
      have hwc := cw.cells
      cases dn
      · have hRV : ∀ w, RV (mk xs) w = .agg [S x1, I x2, I x4, .int .u64 (x5 * 4294967296 + x6), S x7, w, I (x3 - 1), I 0, I 0] := by subst hI; intro w; rfl
        have hfit := isfit62 h H m (mk xs) (by subst hI; exact ⟨by dsimp only; omega, by dsimp only; omega⟩) l v w ni (by subst hI; exact cw)
        rw [hRV] at hfit
        cases hf : fitB (mk xs) l
        · rw [hf] at hfit hR
          simp [k6, k8, k9, k28, k29, m9, hp, hwc, hfit]
          refine hB _ junk ?_ ?_ hj (by simpa using hR)
          all_goals simp
        · rw [hf] at hfit hR
          obtain ⟨v', H', m2, ea, ni', hp'⟩ := ni.app (mk xs) (w := w) (by subst hI; exact cw) (by omega) hp
          rw [hRV] at ea
          simp [k6, k8, k9, k28, k29, m9, hp, hwc, hfit, ea, hw]
          have ey' : EyeSt b p H' false s := by
            obtain ⟨a, bad, q1, q2, q3, q4, q5⟩ := ‹EyeSt b p H false s›
            rw [hp] at q5
            exact ⟨a, bad, q1, q2, q3, q4, by rw [hp']; exact q5⟩
          refine ⟨n', by omega, j + 1, m2, l ++ [mk xs], v', false, s, ?_⟩
          refine { k6 := ?_, k8 := ?_, k28 := ?_, hj := by omega, k29 := ?_, hl := by simp [hl], ni := ni', ey := ey', hR := by simpa using hR }
          all_goals first | rfl | assumption | simp [k6, k28]
      · simp [k6, k8, k9, k28, k29, m9, hp]
        refine hB _ junk ?_ ?_ hj (by simpa using hR)
        all_goals simp
    all_goals first | rfl | assumption | simp [k6, k8, k28, k29]
  · obtain rfl : n = 0 := by omega
    have hlt' : ¬ (j : Int) < N := by omega
    have hR' : Rt = if dn = true then none else F (l, s) := by rw [hR]; simp [itemsP]
    simp [k28, k29, hlt']
    exact hK _ l m v dn s k6 k8 ni ey hR'

theorem getP_look (s : Str) : getP s = if (openOf s).2 then ((lookP (openOf s).1).bind fun r => if r.2 = [] then some r.1 else none) else none := by
  unfold getP lookP
  cases numP 2 (openOf s).1 with
  | none => rfl
  | some m =>
    simp only [Option.bind_some]
    by_cases hm : m.1 > 1000
    · rw [if_pos hm, if_pos hm]; rfl
    · rw [if_neg hm, if_neg hm]

theorem get29 (s : Str) (hs : s.length < 1000000) (h : List HO) : VC X 29 [S s] h = some (.ret (getV FI (getP s)), h) := by
  have ho := open59 s hs h
  have hlo : (openOf s).1.length < 1000000 := by unfold openOf; split <;> simp <;> omega
  rw [v29, getP_look]
  refine Ans.eq (ans_wp ?_)
  generalize (openOf s).1 = b at ho hlo
  generalize (openOf s).2 = ok at ho
  obtain ⟨F, hF⟩ : ∃ F : List Item × Str → Option (List Item), F = fun r => if r.2 = [] then some r.1 else none := ⟨_, rfl⟩
  rw [← hF]
  have hp0 : (h ++ [rEye b 0 false 0])[h.length]? = some (rEye b 0 false 0) := by simp
  have ey0 : EyeSt b h.length (h ++ [rEye b 0 false 0]) false b := ⟨0, 0, by omega, rfl, by simp, by simp, hp0⟩
  obtain ⟨x, dn, s1, c1, e1, y1, r1, r1', G1⟩ := num60g hlo ey0 2 2 rfl (by decide)
  have hl : ∀ G : Int × Str → Option (List Item), (numP 2 b).bind G = if dn = true then none else G (x, s1) := fun G => by rw [← G1]; rfl
  have hset : (h ++ [rEye b 0 false 0]).set h.length (.cells c1) = h ++ [.cells c1] := by simp
  rw [hset] at e1 y1
  have e1' : VC X 60 [.ptr h.length 0, I 2] (h ++ [.cells [S b, I 0, B false, I 0]]) = _ := e1
  obtain ⟨n0, rfl⟩ : ∃ k : Nat, x = k := ⟨x.toNat, by omega⟩
  have hbad := fun junk => fin_bad h junk
  have hL : (lookP b).bind F = if dn = true then none else (if (n0 : Int) > 1000 then none else itemsP n0 [] s1).bind F := by
    unfold lookP
    rw [Option.bind_assoc, hl]
    simp only [Int.toNat_natCast]
  cases ok
  · simp [ho, s29, e1', getV, hbad]
  · by_cases hn : 1000 < n0
    · have hn' : (1000 : Int) < n0 := by omega
      rw [if_pos hn'] at hL
      have hL' : (lookP b).bind F = none := by rw [hL]; cases dn <;> rfl
      simp [ho, s29, e1', getV, hbad, hn', hL']
    · have hn' : ¬ (1000 : Int) < n0 := by omega
      rw [if_neg hn'] at hL
      rw [if_pos rfl]
      generalize (lookP b).bind F = Rt at hL
      simp [ho, s29, e1', hbad, hn']
      refine get29_items Rt F b hlo h h.length (Nat.le_refl _) n0 (by omega) .nils 1 dn s1 _ ?_ ?_ ?_ ?_ ⟨⟨[.cells c1], rfl⟩, by simp, .inl ⟨rfl, rfl⟩⟩ y1 hL _ _ ?_ ?_
      rotate_right
      · intro σ' junk k2 k3 kh hR
        simp [s29, k2, k3, kh, hbad, hR, getV]
      rotate_right
      · rintro ⟨e, m', g, rb, H⟩ l m v dn' s' k6 k8 ni ⟨a, bad, ha, rfl, h0, h1, hp⟩ hR
        dsimp only at k6 k8 ni hp
        obtain ⟨e2, h', q63, q0, dn2, bad2, rfl⟩ := end63 H h.length b a ha dn' bad hp h1 h0
        have ni' := ni.setc (cs' := [S b, I a, B dn2, I bad2]) hp (Nat.le_refl _)
        have hfi := ni'.fin
        by_cases he : e2 = 0
        · obtain ⟨rfl, rfl⟩ := q0.1 he
          subst he
          have hR' : Rt = some l := by rw [hR, hF]; simp
          simp [s29, k6, k8, q63, hfi, hR', getV]
        · have hR' : Rt = none := by
            rw [hR, hF]
            cases dn'
            · have : ¬ b.drop a = [] := by
                intro e
                apply he
                rw [q0]
                exact ⟨rfl, by have := congrArg List.length e; simp at this; omega⟩
              simp [this]
            · rfl
          obtain ⟨junk, hj⟩ := ni'.pre
          have hne : (e2 != 0) = true := by simpa using he
          have hj' : H.set h.length (rEye b a dn2 bad2) = h ++ junk := hj
          have hfb := hbad junk
          simp [s29, k6, k8, q63, hne, hR', getV, hj', hfb]
      all_goals first | rfl | assumption | simp
end Go.Vm.Tryz
end

section
set_option linter.unusedVariables false
set_option linter.unusedSimpArgs false
set_option maxRecDepth 10000
namespace Go.Vm.Tryz
open Go Go.Vm

@[simp] theorem Sl.cells_v {α : Type} (f : α → V) (o : Sl α) : (Sl.v f o).cells = [Sl.v f o] := by cases o <;> rfl

def alsoI (i : Item) : RItem := ⟨i.path, i.kind, i.mode, i.time, i.body, i.xattrs, i.same, ⟨0, 0⟩⟩
def alsoS (l : List Item) : Sl RItem := some (l.map alsoI)

theorem pures_map {α : Type} (f : α → V) (l : List α) (hf : ∀ a ∈ l, (f a).pure = true) : V.pure.pures (l.map f) = true := by
  induction l with
  | nil => rfl
  | cons a l ih =>
    simp only [List.map_cons, V.pure.pures, Bool.and_eq_true]
    exact ⟨hf a (by simp), ih fun b hb => hf b (by simp [hb])⟩
theorem pure_xs (l : List Xattr) : (Sl.v Xattr.v (some l)).pure = true := pures_map _ _ fun a _ => rfl
theorem pures_items (l : List Item) (hx : ∀ i ∈ l, ∃ x, i.xattrs = some x) : V.pure.pures (l.map fun i => (alsoI i).v) = true :=
  pures_map (fun i => (alsoI i).v) l fun i hi => by
    obtain ⟨x, e⟩ := hx i hi
    have := pure_xs x
    simp [V.pure, V.pure.pures, alsoI, e] at this ⊢
    exact this

theorem also17 (l : List Item) (lv : V) (hlv : Row Item.v lv l) (hl : l.length < 1000000) (hx : ∀ i ∈ l, ∃ x, i.xattrs = some x) (h : List HO) : VC X 17 [lv] h = some (.ret (Sl.v RItem.v (alsoS l)), h) := by
  rw [v17]
  refine Ans.eq (ans_wp ?_)
  have main : ∀ σ : St, σ.e 3 = .v .nils → σ.e 6 = .v lv → σ.e 7 = .v (I l.length) → σ.e 8 = .v (I 0) → σ.h = h →
      wp (run X [.c L17_1, .e 0 [3] [], .c c17_17] σ) (endP s17 h fun r' h' => r' = .ret (Sl.v RItem.v (alsoS l)) ∧ h' = h) := by
    intro σ k3 k6 k7 k8 kh
    refine wp_loop (fun n σ => σ.e 6 = .v lv ∧ σ.e 7 = .v (I l.length) ∧ ∃ i : Nat, n + i = l.length ∧ σ.e 8 = .v (I i) ∧ (i = 0 ∧ σ.e 3 = .v .nils ∧ σ.h = h ∨ ∃ ver, 0 < i ∧ σ.e 3 = .v (.sl h.length ver 9 0 i) ∧ σ.h = h ++ [.row ver ((l.take i).map fun i => (alsoI i).v)])) ?_ l.length _ ⟨k6, k7, 0, by simp, k8, .inl ⟨rfl, k3, kh⟩⟩
    clear k3 k6 k7 k8 kh σ
    rintro n ⟨e, m, g, rb, h'⟩ ⟨k6, k7, i, hi, k8, k3⟩
    dsimp only at k3 k6 k7 k8
    by_cases hlt : i < l.length
    · rcases hlv with ⟨rfl, rfl⟩ | rfl
      · simp at hlt
      have ha : l[i]? = some l[i] := List.getElem?_eq_getElem hlt
      have hw := wrapI (n := (i : Int) + 1) (by unfold R; omega)
      rcases k3 with ⟨rfl, k3, rfl⟩ | ⟨ver, hpos, k3, rfl⟩
      · simp [k3, k6, k7, k8, hlt, ha, -stepO_appendV, effO, St.srcV, far]
        have e1 : List.take 1 (List.map (fun i => (alsoI i).v) l) = [(alsoI l[0]).v] := by
          rw [← List.map_take, List.take_succ_eq_append_getElem hlt]; rfl
        exact ⟨n - 1, by omega, 1, by omega, by decide, by omega, 0, ⟨rfl, rfl⟩, rfl, e1.symm⟩
      · have hc : i ≤ min i l.length ∧ (i + 1) * 104 < 4294967296 ∧ i + 1 < 4294967296 := by omega
        have e1 : List.take (i + 1) (List.map (fun i => (alsoI i).v) l) = List.take i (List.map (fun i => (alsoI i).v) l) ++ [(alsoI l[i]).v] := by
          rw [← List.map_take, List.take_succ_eq_append_getElem hlt, List.map_append, List.map_take]; rfl
        simp [k3, k6, k7, k8, hlt, ha, -stepO_appendV, effO, St.srcV, far, hc, hw]
        exact ⟨n - 1, by omega, i + 1, by omega, by omega, by omega, ver + 1, ⟨rfl, rfl⟩, rfl, by rw [e1, List.take_take, Nat.min_self]; rfl⟩
    · have hil : i = l.length := by omega
      rcases k3 with ⟨rfl, k3, rfl⟩ | ⟨ver, hpos, k3, rfl⟩
      · have : l = [] := List.length_eq_zero_iff.1 hil.symm
        subst this
        have hfn : finS h' .nils = (.ret (.snap []), h') := by unfold finS finish; simp [frzF, frz, frz2, frz1, V.pure]
        simp [k3, k6, k7, k8, s17, alsoS, hfn]
      · have hne : l ≠ [] := by rintro rfl; simp at hil; omega
        have hpu : V.pure.pures (l.map fun i => (alsoI i).v) = true := pures_items l hx
        have hfr := finish_row h [HO.row ver (l.map fun i => (alsoI i).v)] 0 ver 9 (l.map fun i => (alsoI i).v) rfl hpu 0 l.length (by simp)
        subst hil
        rw [Nat.add_zero] at hfr
        simp [k3, k6, k7, k8, s17, alsoS, hne]
        rw [hfr]
        simp
        exact List.take_of_length_le (by simp)
  rcases hlv with ⟨rfl, rfl⟩ | rfl
  · simp [s17]
    exact main _ rfl rfl rfl rfl rfl
  · simp [s17]
    exact main _ rfl rfl rfl rfl rfl
end Go.Vm.Tryz
end

section
set_option linter.unusedVariables false
set_option linter.unusedSimpArgs false
set_option maxRecDepth 10000
namespace Go.Vm.Tryz
open Go Go.Vm

theorem equal66 (l : List Xattr) (hl : l.length < 1000000) (h : List HO) : VC X 66 [.snap (l.map Xattr.v), .snap (l.map Xattr.v)] h = some (.ret (B true), h) := by
  rw [v66]
  refine Ans.eq (ans_wp ?_)
  simp [s66]
  refine wp_loop (fun n σ => σ.h = h ∧ σ.e 0 = .v (.snap (l.map Xattr.v)) ∧ σ.e 1 = .v (.snap (l.map Xattr.v)) ∧ σ.e 12 = .v (I l.length) ∧ ∃ i : Nat, n + i = l.length ∧ σ.e 13 = .v (I i)) ?_ l.length _ ⟨rfl, rfl, rfl, rfl, 0, by simp, rfl⟩
  rintro n ⟨e, m, g, rb, h⟩ ⟨rfl, h0, h1, h12, i, hi, h13⟩
  dsimp only at h0 h1 h12 h13
  by_cases hlt : i < l.length
  · have ha : l[i]? = some l[i] := List.getElem?_eq_getElem hlt
    have hw := wrapI (n := (i : Int) + 1) (by unfold R; omega)
    simp [h0, h1, h12, h13, hlt, ha, hw]
    exact ⟨n - 1, by omega, i + 1, by omega, by simp⟩
  · simp [h0, h1, h12, h13, hlt, s66]

theorem same65 (i : RItem) (x : List Xattr) (hx : i.xattrs = some x) (hl : x.length < 1000000) (h : List HO) : VC X 65 [i.v, i.v] h = some (.ret (B true), h) := by
  rw [v65]
  refine Ans.eq (ans_wp ?_)
  have e := equal66 x hl
  simp [s65, hx, e]

theorem equal64 (l : List RItem) (hl : l.length < 1000000) (hx : ∀ i ∈ l, ∃ x, i.xattrs = some x ∧ x.length < 1000000) (h : List HO) : VC X 64 [.snap (l.map RItem.v), .snap (l.map RItem.v), .func 65 []] h = some (.ret (B true), h) := by
  rw [v64]
  refine Ans.eq (ans_wp ?_)
  simp [s64]
  refine wp_loop (fun n σ => σ.h = h ∧ σ.e 2 = .v (.func 65 []) ∧ σ.e 1 = .v (.snap (l.map RItem.v)) ∧ σ.e 15 = .v (.snap (l.map RItem.v)) ∧ σ.e 16 = .v (I l.length) ∧ ∃ i : Nat, n + i = l.length ∧ σ.e 17 = .v (I i)) ?_ l.length _ ⟨rfl, rfl, rfl, rfl, rfl, 0, by simp, rfl⟩
  rintro n ⟨e, m, g, rb, h⟩ ⟨rfl, h2, h1, h15, h16, i, hi, h17⟩
  dsimp only at h2 h1 h15 h16 h17
  by_cases hlt : i < l.length
  · have ha : l[i]? = some l[i] := List.getElem?_eq_getElem hlt
    have hw := wrapI (n := (i : Int) + 1) (by unfold R; omega)
    obtain ⟨x, hxe, hxl⟩ := hx l[i] (List.getElem_mem hlt)
    have hs := same65 l[i] x hxe hxl h
    unfold RItem.v at hs
    simp [h2, h1, h15, h16, h17, hlt, ha, hw, hs]
    exact ⟨n - 1, by omega, i + 1, by omega, by simp⟩
  · simp [h2, h1, h15, h16, h17, hlt, s64]

theorem same30 (l : List RItem) (hl : l.length < 1000000) (hx : ∀ i ∈ l, ∃ x, i.xattrs = some x ∧ x.length < 1000000) (h : List HO) : VC X 30 [.snap (l.map RItem.v), .snap (l.map RItem.v)] h = some (.ret (B true), h) := by
  rw [v30]
  refine Ans.eq (ans_wp ?_)
  have e := equal64 l hl hx
  generalize (V.snap (List.map RItem.v l)) = lv at *
  simp [s30, e]
end Go.Vm.Tryz
end

section
set_option linter.unusedSimpArgs false
set_option linter.unusedVariables false
set_option maxRecDepth 100000
namespace Go.Vm.Tryz
open Go Go.Vm
def saysTrue (r : Option (CR × List HO)) : Bool :=
  match r with
  | some (.ret (.bool true), []) => true
  | _ => false
theorem saysTrue_eq {r : Option (CR × List HO)} (h : saysTrue r = true) : r = some (.ret (.bool true), []) := by
  unfold saysTrue at h
  split at h
  · rfl
  · cases h
theorem awake_run : saysTrue (callC X 1000 14 [] []) = true := by kernel_rfl
theorem awake_ok : VC X 14 [] [] = some (.ret (.bool true), []) := callC_VC draws_ok (saysTrue_eq awake_run)
end Go.Vm.Tryz
end

section
set_option linter.unusedSimpArgs false
set_option linter.unusedVariables false
set_option maxRecDepth 10000
namespace Go.Vm.Tryz
open Go Go.Vm

theorem xattrsP_len : ∀ {n : Nat} {s : Str} {xs : List Xattr} {r : Str}, xattrsP n s = some (xs, r) → xs.length = n
  | 0, _, _, _, h => by cases h; rfl
  | n + 1, s, xs, r, h => by
    rw [xattrsP] at h
    simp only [Option.bind_eq_some_iff] at h
    obtain ⟨a, _, b, h2, e⟩ := h
    cases e
    have := xattrsP_len (xs := b.1) (r := b.2) h2
    simp [this]
theorem itemP_xs {s : Str} {i : Item} {r : Str} (h : itemP s = some (i, r)) : ∃ x, i.xattrs = some x ∧ x.length < 1000000 := by
  unfold itemP at h
  simp only [Option.bind_eq_some_iff] at h
  obtain ⟨a, h1, b, h2, c, h3, d, h4, hi, h5, lo, h6, bo, h7, n, h8, x, h9, e⟩ := h
  cases e
  have h10 := numP_range (n := n.1) (r := n.2) h8
  have h11 := xattrsP_len (xs := x.1) (r := x.2) h9
  exact ⟨_, rfl, by omega⟩
theorem itemsP_xs : ∀ {n : Nat} {l : List Item} {s : Str} {l' : List Item} {r : Str}, itemsP n l s = some (l', r) → (∀ i ∈ l, ∃ x, i.xattrs = some x ∧ x.length < 1000000) → ∀ i ∈ l', ∃ x, i.xattrs = some x ∧ x.length < 1000000
  | 0, _, _, _, _, h, hl => by cases h; exact hl
  | n + 1, l, s, l', r, h, hl => by
    rw [itemsP] at h
    obtain ⟨a, h1, h2⟩ := Option.bind_eq_some_iff.1 h
    split at h2
    · refine itemsP_xs h2 fun i hi => ?_
      rcases List.mem_append.1 hi with hi | hi
      · exact hl i hi
      · simp at hi; subst hi; exact itemP_xs (r := a.2) h1
    · cases h2
theorem getP_xs {s : Str} {l : List Item} (h : getP s = some l) : (∀ i ∈ l, ∃ x, i.xattrs = some x ∧ x.length < 1000000) ∧ l.length < 1000000 := by
  rw [getP_look] at h
  split at h
  · refine ⟨?_, by have := (lookP_some h).2; omega⟩
    obtain ⟨r, h1, h2⟩ := Option.bind_eq_some_iff.1 h
    split at h2
    · cases h2
      unfold lookP at h1
      obtain ⟨m, h3, h4⟩ := Option.bind_eq_some_iff.1 h1
      split at h4
      · cases h4
      · exact itemsP_xs (l' := r.1) (r := r.2) h4 (fun i hi => by cases hi)
    · cases h2
  · cases h

theorem law6 (s : Str) (hs : okStr s) : VC X 6 [S s] [] = some (.ret (B true), []) := by
  have hw := awake_ok
  rw [v6]
  refine Ans.eq (ans_wp ?_)
  by_cases h4 : (4096 : Int) < s.length
  · simp [s6, hw, h4]
  · have e28 := get28 s (by omega) []
    have e29 := get29 s (by omega) []
    cases hg : getP s with
    | none =>
      rw [hg] at e28 e29
      have e17 := also17 [] (.snap []) (.inr rfl) (by simp) (fun i h => by cases h) []
      have e30 := same30 [] (by simp) (fun i h => by cases h) []
      unfold getV at e28 e29
      have hal : (Sl.v RItem.v (alsoS [])) = .snap [] := by simp [alsoS]
      rw [hal] at e17
      simp at e17 e30
      simp [s6, hw, h4, e28, e29, e17, e30]
    | some l =>
      rw [hg] at e28 e29
      obtain ⟨hx, hl⟩ := getP_xs hg
      have e17 := also17 l _ (.inr rfl) hl (fun i h => by obtain ⟨x, e, _⟩ := hx i h; exact ⟨x, e⟩) []
      have hal : (Sl.v RItem.v (alsoS l)) = .snap ((l.map alsoI).map RItem.v) := by simp [alsoS]
      rw [hal] at e17
      have hfi : l.map FI = (l.map alsoI).map RItem.v := by
        rw [List.map_map]
        refine List.map_congr_left fun i hi => ?_
        obtain ⟨x, e, _⟩ := hx i hi
        simp [FI, alsoI, e]
      have e30 := same30 (l.map alsoI) (by simpa using hl) (fun i h => by
        obtain ⟨j, hj, rfl⟩ := List.mem_map.1 h
        exact hx j hj) []
      unfold getV at e28 e29
      dsimp only at e28 e29
      rw [hfi] at e29
      generalize (V.snap (List.map Item.v l)) = lv at *
      generalize (V.snap (List.map RItem.v (List.map alsoI l))) = av at *
      simp [s6, hw, h4, e28, e29, e17, e30]
end Go.Vm.Tryz
end
