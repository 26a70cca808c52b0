/- Both functions answer alike. -/
import Derived.Test.YthbfflleggnoaaaGreatDoorSmallA
set_option linter.unusedSimpArgs false
set_option linter.unusedVariables false
set_option maxRecDepth 10000
namespace Go.Vm.Tryz
open Go Go.Vm

/-- An answer's cells. -/
def AnsC (v : V) (a : Answer) : Prop := ∃ nv, Row S nv a.names.l ∧ v = .agg ([I a.err, S a.data, nv] ++ a.stat.c)

def sameB (a b : Answer) : Bool := a.err == b.err && a.data == b.data && a.names.l == b.names.l && a.stat == b.stat

theorem same11 (va vb : V) (a b : Answer) (ha : AnsC va a) (hb : AnsC vb b) (hl63 : a.names.l.length < 9223372036854775808) (h : List HO) : VC X 11 [va, vb] h = some (.ret (B (sameB a b)), h) := by
  obtain ⟨ae, ad, an, ⟨⟨a1, a2⟩, a3, a4, a5, a6, a7⟩⟩ := a
  obtain ⟨be, bd, bn, ⟨⟨b1, b2⟩, b3, b4, b5, b6, b7⟩⟩ := b
  obtain ⟨na, hna, rfl⟩ := ha
  obtain ⟨nb, hnb, rfl⟩ := hb
  have he := equal_ok an.l bn.l na nb hna hnb hl63 h
  obtain ⟨q, hq⟩ : ∃ q, q = sameB ⟨ae, ad, an, ⟨⟨a1, a2⟩, a3, a4, a5, a6, a7⟩⟩ ⟨be, bd, bn, ⟨⟨b1, b2⟩, b3, b4, b5, b6, b7⟩⟩ := ⟨_, rfl⟩
  rw [v11, ← hq]
  refine Ans.eq (ans_wp ?_)
  have hq' : q = true ↔ (ae = be ∧ ad = bd ∧ an.l = bn.l ∧ a1 = b1 ∧ a2 = b2 ∧ a3 = b3 ∧ a4 = b4 ∧ a5 = b5 ∧ a6 = b6 ∧ a7 = b7) := by
    rw [hq]; simp [sameB, Stat.mk.injEq, Stamp.mk.injEq, and_assoc]
  clear hq
  dsimp only at hna hnb hl63
  generalize an.l = an at *
  generalize bn.l = bn at *
  simp [s11]
  repeat' (first | refine wp_cond (fun hc => ?_) (fun hc => ?_) | refine wp_guardT (fun hc => ?_) (fun hc => ?_) | refine wp_guardF (fun hc => ?_) (fun hc => ?_) | refine wp_guardDT (fun hc => ?_) (fun hc => ?_) | refine wp_guardDF (fun hc => ?_) (fun hc => ?_)) <;> (have hc' := hc; (try simp at hc'); simp [hc, hc', he])
  all_goals
    rw [Bool.eq_iff_iff, hq']
    simp [*]

theorem same12 (va vb : V) (a b : Answer) (ha : AnsC va a) (hb : AnsC vb b) (hl63 : a.names.l.length < 9223372036854775808) (hl63' : b.names.l.length < 9223372036854775808) (h : List HO) : VC X 12 [va, vb] h = some (.ret (B (sameB a b)), h) := by
  obtain ⟨ae, ad, an, ⟨⟨a1, a2⟩, a3, a4, a5, a6, a7⟩⟩ := a
  obtain ⟨be, bd, bn, ⟨⟨b1, b2⟩, b3, b4, b5, b6, b7⟩⟩ := b
  obtain ⟨na, hna, rfl⟩ := ha
  obtain ⟨nb, hnb, rfl⟩ := hb
  obtain ⟨q, hq⟩ : ∃ q, q = sameB ⟨ae, ad, an, ⟨⟨a1, a2⟩, a3, a4, a5, a6, a7⟩⟩ ⟨be, bd, bn, ⟨⟨b1, b2⟩, b3, b4, b5, b6, b7⟩⟩ := ⟨_, rfl⟩
  rw [v12, ← hq]
  refine Ans.eq (ans_wp ?_)
  dsimp only at hna hnb hl63 hl63'
  have hq' : q = true ↔ (ae = be ∧ ad = bd ∧ an.l = bn.l ∧ a1 = b1 ∧ a2 = b2 ∧ a3 = b3 ∧ a4 = b4 ∧ a5 = b5 ∧ a6 = b6 ∧ a7 = b7) := by
    rw [hq]; simp [sameB, Stat.mk.injEq, Stamp.mk.injEq, and_assoc]
  clear hq
  generalize an.l = an at *
  generalize bn.l = bn at *
  have hna0 := hna
  have hnb0 := hnb
  have main : an.length = bn.length → (an = bn → q = true) → (an ≠ bn → q = false) → ∀ σ : St, σ.e 2 = .loc 2 0 0 → σ.m 2 = some (0, [I ae, S ad, na, I a1, I a2, I a3, I a4, .int .u64 a5, I a6, I a7]) → σ.e 3 = .loc 3 1 0 → σ.m 3 = some (1, [I be, S bd, nb, I b1, I b2, I b3, I b4, .int .u64 b5, I b6, I b7]) →
      σ.e 36 = .v (I an.length) → σ.e 37 = .v (I 0) → σ.h = h → wp (run X [.c L12_1, .e 0 [] [], .c c12_25] σ) (endP s12 h fun r' h' => r' = CR.ret (B q) ∧ h' = h) := by
    intro hl ht hf σ k2 m2 k3 m3 k36 k37 kh
    refine wp_loop (fun n σ => σ.e 2 = .loc 2 0 0 ∧ σ.m 2 = some (0, [I ae, S ad, na, I a1, I a2, I a3, I a4, .int .u64 a5, I a6, I a7]) ∧ σ.e 3 = .loc 3 1 0 ∧ σ.m 3 = some (1, [I be, S bd, nb, I b1, I b2, I b3, I b4, .int .u64 b5, I b6, I b7]) ∧
      σ.e 36 = .v (I an.length) ∧ σ.h = h ∧ ∃ i : Nat, n + i = an.length ∧ σ.e 37 = .v (I i) ∧ an.take i = bn.take i) ?_ an.length _ ⟨k2, m2, k3, m3, k36, kh, 0, by simp, k37, by simp⟩
    clear k2 m2 k3 m3 k36 k37 kh σ
    rintro n ⟨e, m, g, rb, h⟩ ⟨k2, m2, k3, m3, k36, rfl, i, hi, k37, hte⟩
    dsimp only at k2 m2 k3 m3 k36 k37
    by_cases hlt : i < an.length
    · rcases hna with ⟨rfl, rfl⟩ | rfl
      · simp at hlt
      rcases hnb with ⟨rfl, rfl⟩ | rfl
      · simp at hl; rw [hl] at hlt; simp at hlt
      have hlb : i < bn.length := by omega
      have ha : an[i]? = some an[i] := List.getElem?_eq_getElem hlt
      have hb : bn[i]? = some bn[i] := List.getElem?_eq_getElem hlb
      have hw := wrap64 (n := (i : Int) + 1) (by unfold R; omega)
      simp [k2, m2, k3, m3, k36, k37, hlt, hlb, ha, hb]
      refine wp_cond (fun hc => ?_) (fun hc => ?_)
      · have hc' := hc
        simp at hc'
        simp [s12]
        exact hf fun e => hc' (by simp [e])
      · have hc' := hc
        simp at hc'
        simp [hw, k2, m2, k3, m3, k36]
        refine ⟨n - 1, by omega, i + 1, by omega, by simp, ?_⟩
        rw [List.take_add_one, List.take_add_one, hte, ha, hb, hc']
    · have hia : i = an.length := by omega
      simp [k2, m2, k3, m3, k36, k37, hlt, s12]
      rw [hia, List.take_length] at hte
      rw [hl] at hte
      rw [List.take_length] at hte
      exact ht hte
  obtain ⟨la, hla⟩ : ∃ la, la = an := ⟨_, rfl⟩
  obtain ⟨lb, hlb⟩ : ∃ lb, lb = bn := ⟨_, rfl⟩
  rcases hna with ⟨rfl, rfl⟩ | rfl <;> rcases hnb with ⟨rfl, rfl⟩ | rfl
  all_goals
    simp [s12]
    repeat' (first | refine wp_cond (fun hc => ?_) (fun hc => ?_) | refine wp_guardT (fun hc => ?_) (fun hc => ?_) | refine wp_guardF (fun hc => ?_) (fun hc => ?_) | refine wp_guardDT (fun hc => ?_) (fun hc => ?_) | refine wp_guardDF (fun hc => ?_) (fun hc => ?_)) <;> (have hc' := hc; (try simp at hc'); simp [hc, hc'])
  all_goals
    first
    | (rw [← Bool.not_eq_true, hq']
       intro hs
       simp_all
       done)
    | skip
  all_goals
    have es : ae = be ∧ ad = bd ∧ a1 = b1 ∧ a2 = b2 ∧ a3 = b3 ∧ a4 = b4 ∧ a5 = b5 ∧ a6 = b6 ∧ a7 = b7 := by
      clear main hq'
      simp_all
    have hlen : la.length = lb.length := by
      clear main hq' es
      rw [hla, hlb]
      first | done | rfl | omega | (simp at *; omega) | simp_all
    rw [hla, hlb] at hlen
    obtain ⟨rfl, rfl, rfl, rfl, rfl, rfl, rfl, rfl, rfl⟩ := es
    refine main hlen ?_ ?_ _ rfl ?_ rfl ?_ ?_ ?_ rfl
    · intro e; rw [hq']; exact ⟨rfl, rfl, e, rfl, rfl, rfl, rfl, rfl, rfl, rfl⟩
    · intro e; rw [← Bool.not_eq_true, hq']; exact fun hs => e hs.2.2.1
    all_goals
      first
      | rfl
      | (have hbn := List.length_eq_zero_iff.1 hlen; subst hbn; rfl)
      | (have hbn := List.length_eq_zero_iff.1 hlen.symm; subst hbn; rfl)
      | (dsimp; rw [hlen]; done)
      | (show T.v _ = T.v _; rw [hlen]; done)
end Go.Vm.Tryz
