/- Both functions answer the same bytes. -/
import Derived.Test.YthbfflleggnoaaaGreatDoorSmallA
import Derived.Test.YthbfflleggnoaaaGreatDoorBytesP
set_option linter.unusedSimpArgs false
set_option linter.unusedVariables false
set_option maxRecDepth 10000
namespace Go.Vm.Tryz
open Go Go.Vm

/-- The loop of calls.Bytes. -/
theorem bytes9_loop (ps : List Piece) (pv : V) (hpv : Row Piece.v pv ps) (hl63 : ps.length < 9223372036854775808) (n : Nat) (hn : n ≤ 1024) (h : List HO) (σ : St) (hh : σ.h = h ++ [.row 0 (bytesV (List.replicate n 0))])
    (h3 : σ.e 3 = .v (.sl h.length 0 1 0 n)) (h13 : σ.e 13 = .v pv) (h14 : σ.e 14 = .v (I ps.length)) (h15 : σ.e 15 = .v (I 0)) (K : List It) (Q : Ex → St → Prop)
    (hK : ∀ σ' : St, σ'.h = h ++ [.row 0 (bytesV (putAll (List.replicate n 0) ps))] → σ'.e 3 = .v (.sl h.length 0 1 0 n) → wp (contK X K (.exit 0) σ') Q) :
    wp (run X (.c L9_1 :: K) σ) Q := by
  refine wp_loop (fun n' σ => σ.e 3 = .v (.sl h.length 0 1 0 n) ∧ σ.e 13 = .v pv ∧ σ.e 14 = .v (I ps.length) ∧ ∃ i : Nat, n' + i = ps.length ∧ σ.e 15 = .v (I i) ∧ σ.h = h ++ [.row 0 (bytesV (putAll (List.replicate n 0) (ps.take i)))]) ?_ ps.length _ ⟨h3, h13, h14, 0, by simp, h15, hh⟩
  clear hh h3 h13 h14 h15 σ
  rintro n' ⟨e, m, g, rb, h'⟩ ⟨h3, h13, h14, i, hi, h15, hh⟩
  dsimp only at h3 h13 h14 h15 hh
  subst hh
  simp [h3, h13, h14, h15]
  by_cases hlt : i < ps.length
  · rcases hpv with ⟨rfl, rfl⟩ | rfl
    · simp at hlt
    have ha : ps[i]? = some ps[i] := List.getElem?_eq_getElem hlt
    have hw := wrap64 (n := (i : Int) + 1) (by unfold R; omega)
    have hst := putAll_step (List.replicate n 0) ps i hlt
    have hbl : (putAll (List.replicate n 0) (ps.take i)).length = n := by rw [putAll_len]; simp
    generalize putAll (List.replicate n 0) (ps.take i) = bs at hst hbl
    have fin : ∀ s, s = put bs ps[i] (min ps[i].data.length 64) → ∃ k, k < n' ∧ ∃ i_1 : Nat, k + i_1 = ps.length ∧ IntKind.i64.wrap (↑i + 1) = ↑i_1 ∧ bytesV s = bytesV (putAll (List.replicate n 0) (List.take i_1 ps)) :=
      fun s e => ⟨n' - 1, by omega, i + 1, by omega, by simp [hw], by rw [hst, e]⟩
    by_cases hi0 : 0 ≤ ps[i].index
    · by_cases hi1 : ps[i].index < 16
      · obtain ⟨o, ho⟩ : ∃ o, o = ps[i].index.toNat * 64 := ⟨_, rfl⟩
        have hm : IntKind.i64.wrap (ps[i].index * 64) = (o : Int) := by rw [wrap64 (by unfold R; omega)]; omega
        by_cases hon : o < n
        · have hon' : o ≤ n := by omega
          obtain ⟨k, hk⟩ : ∃ k, k = min ps[i].data.length 64 := ⟨_, rfl⟩
          have hk' : (if (64 : Int) < ↑ps[i].data.length then 64 else ↑ps[i].data.length) = (k : Int) := by split <;> omega
          have hkl : k ≤ ps[i].data.length := by omega
          have hmk : min k (n - o) ≤ k := by omega
          have hkk : min k ps[i].data.length = k := by omega
          have hno : o + (n - o) = n := by omega
          simp [hlt, ha, hi0, hi1, hm, hon, hon', hk', hkl, effO, St.srcV, bytesV_all', hbl, hkk, hno]
          rw [bytesV_take, bytesV_take, bytesV_drop, bytesV_app, bytesV_app]
          apply fin
          rw [← hk, put_copy bs _ k ⟨hi0, hi1⟩ hkl (by omega), hbl, ← ho]
          simp
        · simp [hlt, ha, hi0, hi1, hm, hon]
          exact fin _ (put_over _ _ _ (by omega)).symm
      · simp [hlt, ha, hi0, hi1]
        exact fin _ (put_none _ _ _ (by omega)).symm
    · simp [hlt, ha, hi0]
      exact fin _ (put_none _ _ _ (by omega)).symm
  · have : ps.take i = ps := List.take_of_length_le (by omega)
    simp [hlt, this]
    apply hK <;> simp

theorem bytes9 (nn : Int) (ps : List Piece) (pv : V) (hpv : Row Piece.v pv ps) (c : List V) (hc : c.length = 13) (c10 : c[10]? = some (I nn)) (c11 : c[11]? = some pv) (hl63 : ps.length < 9223372036854775808) (h : List HO) :
    VC X 9 [.agg c] h = some (.ret (S (bytesOf nn ps)), h) := by
  rw [v9]
  refine Ans.eq (ans_wp ?_)
  rcases c with _ | ⟨a0, _ | ⟨a1, _ | ⟨a2, _ | ⟨a3, _ | ⟨a4, _ | ⟨a5, _ | ⟨a6, _ | ⟨a7, _ | ⟨a8, _ | ⟨a9, _ | ⟨a10, _ | ⟨a11, _ | ⟨a12, _ | ⟨a13, c⟩⟩⟩⟩⟩⟩⟩⟩⟩⟩⟩⟩⟩⟩ <;> simp at hc
  simp at c10 c11
  subst c10 c11
  obtain ⟨n, hn⟩ : ∃ n, n = (max 0 (min nn 1024)).toNat := ⟨_, rfl⟩
  have hmm : (if 0 < (if 1024 < nn then 1024 else nn) then if 1024 < nn then 1024 else nn else 0) = (n : Int) := by
    rw [hn]; split <;> split <;> omega
  have hfar : n < 4294967296 := by omega
  have hfar' : (n : Int) < 4294967296 := by omega
  have hpv0 := hpv
  have hb : bytesOf nn ps = putAll (List.replicate n 0) ps := by rw [bytesOf, ← hn]
  have hbl : (bytesOf nn ps).length = n := by rw [hb, putAll_len]; simp
  rcases hpv with ⟨rfl, hp⟩ | rfl
  all_goals
    simp [s9, hmm, effO, far, hfar, hfar', V.pure, bytesV_rep]
    refine bytes9_loop ps _ hpv0 hl63 n (by omega) h _ rfl rfl rfl ?_ rfl _ _ ?_
    · first | rfl | (rw [hp]; rfl)
    rintro ⟨e, m, g, rb, h'⟩ k0 k1
    dsimp only at k0 k1
    subst k0
    rw [← hb]
    have ht : (bytesV (bytesOf nn ps)).take n = bytesV (bytesOf nn ps) := List.take_of_length_le (by simp [hbl])
    simp [k1, hbl, ht, unbytes_bytesV, finish_app h [HO.row 0 (bytesV (bytesOf nn ps))] (S (bytesOf nn ps)) rfl]

/-- The inner loop of ref13.Bytes. -/
theorem bytes10_in (p : Piece) (k : Nat) (hkd : k ≤ p.data.length) (hk64 : k ≤ 64) (bs : Str) (n : Nat) (hn : n ≤ 1024) (hbl : bs.length = n) (h : List HO) (σ : St) (hh : σ.h = h ++ [.row 0 (bytesV bs)])
    (v16 v17 v18 : T) (g6 : Nat) (h3 : σ.e 3 = .v (I n)) (h4 : σ.e 4 = .v (.sl h.length 0 1 0 n)) (h6 : σ.e 6 = .loc 6 g6 0) (m6 : σ.m 6 = some (g6, [I p.index, I p.at_.time, I p.at_.who, S p.data]))
    (h16 : σ.e 16 = v16) (h17 : σ.e 17 = v17) (h18 : σ.e 18 = v18) (h25 : σ.e 25 = .v (I k)) (h26 : σ.e 26 = .v (I 0)) (K : List It) (Q : Ex → St → Prop)
    (hK : ∀ σ' : St, σ'.h = h ++ [.row 0 (bytesV (put bs p k))] → σ'.e 3 = .v (I n) → σ'.e 4 = .v (.sl h.length 0 1 0 n) → σ'.e 16 = v16 → σ'.e 17 = v17 → σ'.e 18 = v18 → wp (contK X K (.exit 2) σ') Q) :
    wp (run X (.c L10_1 :: K) σ) Q := by
  refine wp_loop (fun n' σ => σ.e 3 = .v (I n) ∧ σ.e 4 = .v (.sl h.length 0 1 0 n) ∧ σ.e 6 = .loc 6 g6 0 ∧ σ.m 6 = some (g6, [I p.index, I p.at_.time, I p.at_.who, S p.data]) ∧ σ.e 16 = v16 ∧ σ.e 17 = v17 ∧ σ.e 18 = v18 ∧ σ.e 25 = .v (I k) ∧
    ∃ j : Nat, n' + j = k ∧ σ.e 26 = .v (I j) ∧ σ.h = h ++ [.row 0 (bytesV (put bs p j))]) ?_ k _ ⟨h3, h4, h6, m6, h16, h17, h18, h25, 0, by simp, h26, by rw [put_zero]; exact hh⟩
  clear hh h3 h4 h6 m6 h16 h17 h18 h25 h26 σ
  rintro n' ⟨e, m, g, rb, h'⟩ ⟨h3, h4, h6, m6, h16, h17, h18, h25, j, hj, h26, hh⟩
  dsimp only at h3 h4 h6 m6 h16 h17 h18 h25 h26 hh
  subst hh
  by_cases hlt : j < k
  · have hw := wrap64 (n := (j : Int) + 1) (by unfold R; omega)
    have hjd : j < p.data.length := by omega
    have hd : p.data[j]? = some p.data[j] := List.getElem?_eq_getElem hjd
    have hpl : (put bs p j).length = n := by rw [put_len _ _ _ (by omega), hbl]
    have fin : ∀ s, s = put bs p (j + 1) → ∃ k', k' < n' ∧ ∃ j' : Nat, k' + j' = k ∧ IntKind.i64.wrap (↑j + 1) = ↑j' ∧ bytesV s = bytesV (put bs p j') :=
      fun s e => ⟨n' - 1, by omega, j + 1, by omega, by simp [hw], by rw [e]⟩
    by_cases hi0 : 0 ≤ p.index
    · by_cases hi1 : p.index < 16
      · obtain ⟨o, ho⟩ : ∃ o, o = p.index.toNat * 64 := ⟨_, rfl⟩
        have hm : IntKind.i64.wrap (64 * p.index) = (o : Int) := by rw [wrap64 (by unfold R; omega)]; omega
        have ha : IntKind.i64.wrap ((o : Int) + j) = ((o + j : Nat) : Int) := by rw [wrap64 (by unfold R; omega)]; omega
        by_cases hon : o + j < n
        · have hon' : (o : Int) + j < n := by omega
          have hoj : (0 : Int) ≤ (o : Int) + j := by omega
          have htn : ((o : Int) + j).toNat = o + j := by omega
          have hst := put_step bs p j hjd ⟨hi0, hi1⟩ (by omega)
          rw [← ho] at hst
          simp [h3, h4, h6, m6, h16, h17, h18, h25, h26, hlt, hi0, hi1, hm, ha, hon, hon', hd, hpl, hoj, htn, bytesV_getE]
          rw [bytesV_set]
          exact fin _ hst.symm
        · have hon' : ¬ (o : Int) + j < n := by omega
          simp [h3, h4, h6, m6, h16, h17, h18, h25, h26, hlt, hi0, hi1, hm, ha, hon']
          exact fin _ (put_stop _ _ _ (by omega)).symm
      · simp [h3, h4, h6, m6, h16, h17, h18, h25, h26, hlt, hi0, hi1]
        exact fin _ (by rw [put_none _ _ _ (by omega), put_none _ _ _ (by omega)])
    · simp [h3, h4, h6, m6, h16, h17, h18, h25, h26, hlt, hi0]
      exact fin _ (by rw [put_none _ _ _ (by omega), put_none _ _ _ (by omega)])
  · have : j = k := by omega
    subst this
    simp [h3, h4, h6, m6, h16, h17, h18, h25, h26]
    apply hK <;> simp

theorem bytes10 (nn : Int) (ps : List Piece) (pv : V) (hpv : Row Piece.v pv ps) (c : List V) (hc : c.length = 13) (c10 : c[10]? = some (I nn)) (c11 : c[11]? = some pv) (hl63 : ps.length < 9223372036854775808) (h : List HO) :
    VC X 10 [.agg c] h = some (.ret (S (bytesOf nn ps)), h) := by
  rw [v10]
  refine Ans.eq (ans_wp ?_)
  rcases c with _ | ⟨a0, _ | ⟨a1, _ | ⟨a2, _ | ⟨a3, _ | ⟨a4, _ | ⟨a5, _ | ⟨a6, _ | ⟨a7, _ | ⟨a8, _ | ⟨a9, _ | ⟨a10, _ | ⟨a11, _ | ⟨a12, _ | ⟨a13, c⟩⟩⟩⟩⟩⟩⟩⟩⟩⟩⟩⟩⟩⟩ <;> simp at hc
  simp at c10 c11
  subst c10 c11
  obtain ⟨n, hn⟩ : ∃ n, n = (max 0 (min nn 1024)).toNat := ⟨_, rfl⟩
  have hmm : (if 0 < (if 1024 < nn then 1024 else nn) then if 1024 < nn then 1024 else nn else 0) = (n : Int) := by
    rw [hn]; split <;> split <;> omega
  have hfar : n < 4294967296 := by omega
  have hfar' : (n : Int) < 4294967296 := by omega
  have hpv0 := hpv
  have hb : bytesOf nn ps = putAll (List.replicate n 0) ps := by rw [bytesOf, ← hn]
  have hbl : (bytesOf nn ps).length = n := by rw [hb, putAll_len]; simp
  have main : ∀ σ : St, σ.e 3 = .v (I n) → σ.e 4 = .v (.sl h.length 0 1 0 n) → σ.e 16 = .v a11 → σ.e 17 = .v (I ps.length) → σ.e 18 = .v (I 0) → σ.h = h ++ [.row 0 (bytesV (List.replicate n 0))] →
      wp (run X [.c L10_2, .e 0 [4] [], .c c10_33] σ) (endP s10 h fun r' h' => r' = CR.ret (S (bytesOf nn ps)) ∧ h' = h) := by
    intro σ k3 k4 k16 k17 k18 kh
    refine wp_loop (fun n' σ => σ.e 3 = .v (I n) ∧ σ.e 4 = .v (.sl h.length 0 1 0 n) ∧ σ.e 16 = .v a11 ∧ σ.e 17 = .v (I ps.length) ∧ ∃ i : Nat, n' + i = ps.length ∧ σ.e 18 = .v (I i) ∧ σ.h = h ++ [.row 0 (bytesV (putAll (List.replicate n 0) (ps.take i)))]) ?_ ps.length _ ⟨k3, k4, k16, k17, 0, by simp, k18, kh⟩
    clear k3 k4 k16 k17 k18 kh σ
    rintro n' ⟨e, m, g, rb, h'⟩ ⟨k3, k4, k16, k17, i, hi, k18, kh⟩
    dsimp only at k3 k4 k16 k17 k18 kh
    subst kh
    by_cases hlt : i < ps.length
    · rcases hpv with ⟨rfl, hp⟩ | rfl
      · rw [hp] at hlt; simp at hlt
      have ha : ps[i]? = some ps[i] := List.getElem?_eq_getElem hlt
      have hw := wrap64 (n := (i : Int) + 1) (by unfold R; omega)
      have hst := putAll_step (List.replicate n 0) ps i hlt
      have hsl : (putAll (List.replicate n 0) (ps.take i)).length = n := by rw [putAll_len]; simp
      obtain ⟨k, hk⟩ : ∃ k, k = min ps[i].data.length 64 := ⟨_, rfl⟩
      have hk' : (if (64 : Int) < ↑ps[i].data.length then 64 else ↑ps[i].data.length) = (k : Int) := by split <;> omega
      rw [← hk] at hst
      simp [k3, k4, k16, k17, k18, hlt, ha, hk']
      refine bytes10_in ps[i] k (by omega) (by omega) _ n (by omega) hsl h _ rfl _ _ _ _ rfl rfl rfl rfl rfl rfl rfl rfl rfl _ _ ?_
      rintro ⟨e', m', g', rb', h'⟩ u0 u3 u4 u16 u17 u18
      dsimp only at u0 u3 u4 u16 u17 u18
      subst u0
      simp [u3, u4, u16, u17, u18, hw, ← hst]
      exact ⟨n' - 1, by omega, i + 1, by omega, by simp, rfl⟩
    · have : ps.take i = ps := List.take_of_length_le (by omega)
      have ht : (bytesV (bytesOf nn ps)).take n = bytesV (bytesOf nn ps) := List.take_of_length_le (by simp [hbl])
      rw [this, ← hb]
      simp [k3, k4, k16, k17, k18, hlt, hbl, ht, unbytes_bytesV, s10, finish_app h [HO.row 0 (bytesV (bytesOf nn ps))] (S (bytesOf nn ps)) rfl]
  rcases hpv with ⟨rfl, hp⟩ | rfl
  all_goals
    simp [s10, hmm, effO, far, hfar, hfar', V.pure, bytesV_rep]
    refine main _ rfl rfl rfl ?_ rfl rfl
    first | rfl | (rw [hp]; rfl)
end Go.Vm.Tryz
