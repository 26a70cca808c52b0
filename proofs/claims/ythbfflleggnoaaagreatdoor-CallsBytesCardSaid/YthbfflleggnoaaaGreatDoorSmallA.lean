/- The guards answer, whatever they answer. -/
import Derived.Test.YthbfflleggnoaaaGreatDoorEnvA
import Derived.Test.YthbfflleggnoaaaGreatDoorTy
set_option linter.unusedSimpArgs false
set_option linter.unusedVariables false
set_option maxRecDepth 10000
namespace Go.Vm.Tryz
open Go Go.Vm

theorem wrap64 {n : Int} (h : R n) : IntKind.i64.wrap n = n := by
  unfold R at h
  simp [IntKind.wrap, IntKind.bits, IntKind.signed]; omega

/-- The call answers true or false. -/
def IsB (r : CR) : Prop := ∃ b, r = .ret (B b)
@[simp] theorem IsB_ret (b : Bool) : IsB (.ret (.bool b)) := ⟨b, rfl⟩

theorem equal_ok (a b : List Str) (va vb : V) (ha : Row S va a) (hb : Row S vb b) (hl63 : a.length < 9223372036854775808) (h : List HO) : VC X 34 [va, vb] h = some (.ret (B (a == b)), h) := by
  obtain ⟨q, hq⟩ : ∃ q, q = (a == b) := ⟨_, rfl⟩
  rw [v34, ← hq]
  refine Ans.eq (ans_wp ?_)
  have ha0 := ha
  have hb0 := hb
  have main : a.length = b.length → ∀ σ : St, σ.h = h → σ.e 0 = .v va → σ.e 1 = .v vb → σ.e 12 = .v (I a.length) → σ.e 13 = .v (I 0) → wp (run X [.c L34_1, .e 0 [] [], .c c34_25] σ) (endP s34 h fun r' h' => r' = CR.ret (B q) ∧ h' = h) := by
    intro hl' σ k k0 k1 k12 k13
    refine wp_loop (fun n σ => σ.h = h ∧ σ.e 0 = .v va ∧ σ.e 1 = .v vb ∧ σ.e 12 = .v (I a.length) ∧ ∃ i : Nat, n + i = a.length ∧ σ.e 13 = .v (I i) ∧ a.take i = b.take i) ?_ a.length _ ⟨k, k0, k1, k12, 0, by simp, k13, by simp⟩
    clear k k0 k1 k12 k13 σ
    rintro n ⟨e, m, g, rb, h⟩ ⟨rfl, h0, h1, h12, i, hi, h13, ht⟩
    dsimp only at h0 h1 h12 h13
    by_cases hlt : i < a.length
    · rcases ha with ⟨rfl, rfl⟩ | rfl
      · simp at hlt
      rcases hb with ⟨rfl, rfl⟩ | rfl
      · simp at hl'; rw [hl'] at hlt; simp at hlt
      have hlb : i < b.length := by omega
      have ha : a[i]? = some a[i] := List.getElem?_eq_getElem hlt
      have hb : b[i]? = some b[i] := List.getElem?_eq_getElem hlb
      simp [h0, h1, h12, h13, hlt, hlb, ha, hb]
      rw [condK_ite]
      split
      · rename_i hne
        simp at hne
        simp [s34, hq]
        rintro rfl
        exact hne rfl
      · rename_i hne
        simp at hne
        have hw := wrap64 (n := (i : Int) + 1) (by unfold R; omega)
        simp [hw, h0, h1, h12]
        refine ⟨n - 1, by omega, i + 1, by omega, by simp, ?_⟩
        rw [List.take_add_one, List.take_add_one, ht, ha, hb, hne]
    · have hia : i = a.length := by omega
      simp [h0, h1, h12, h13, hlt, s34, hq]
      rw [hia, List.take_length] at ht
      rw [hl'] at ht
      rw [List.take_length] at ht
      exact ht
  rcases ha with ⟨rfl, rfl⟩ | rfl <;> rcases hb with ⟨rfl, rfl⟩ | rfl
  all_goals
    simp [s34]
    try exact main rfl _ rfl rfl rfl rfl rfl
  all_goals
    rw [condK_ite]
    split
    · rename_i hl
      simp at hl
      simp [hq]
      intro e
      apply hl
      first
      | (rw [e]; done)
      | (rw [e]; rfl)
      | (rw [← e]; rfl)
    · rename_i hl
      simp at hl
      simp
      refine main ?_ _ rfl rfl rfl rfl rfl
      first | omega | (simp; omega)

/-- The last loop of 'Small'. -/
theorem small_links (links : List Link) (lk : V) (hlk : lk = .nils ∧ links = [] ∨ lk = .snap (links.map Link.v)) (hl63 : links.length < 9223372036854775808) (h : List HO) (σ : St) (hh : σ.h = h) (x : Int) (h3 : σ.e 3 = .v (I x)) (h84 : σ.e 84 = .v lk) (h85 : σ.e 85 = .v (I links.length)) (h86 : σ.e 86 = .v (I 0)) :
    wp (run X [.c L7_4, .e 6 [] [], .c c7_81] σ) (endP s7 h fun r h' => IsB r ∧ h' = h) := by
  refine wp_loop (fun n σ => σ.h = h ∧ (∃ x, σ.e 3 = .v (I x)) ∧ σ.e 84 = .v lk ∧ σ.e 85 = .v (I links.length) ∧ ∃ i : Nat, n + i = links.length ∧ σ.e 86 = .v (I i)) ?_ links.length _ ⟨hh, ⟨x, h3⟩, h84, h85, 0, by simp, h86⟩
  rintro n ⟨e, m, g, rb, h'⟩ ⟨rfl, ⟨x, h3⟩, h84, h85, i, hi, h86⟩
  dsimp only at h3 h84 h85 h86
  simp [h3, h84, h85, h86]
  by_cases hlt : i < links.length
  · rcases hlk with ⟨rfl, rfl⟩ | rfl
    · simp at hlt
    have ha : links[i]? = some links[i] := List.getElem?_eq_getElem hlt
    have hw := wrap64 (n := (i : Int) + 1) (by unfold R; omega)
    simp [hlt, ha]
    refine wp_cond (fun hc => ?_) (fun hc => ?_)
    · simp [s7]
    · simp [hw]
      exact ⟨n - 1, by omega, i + 1, by omega, by simp⟩
  · simp [hlt, s7]

/-- The loop over pieces of 'Small'. -/
theorem small_pieces (ps : List Piece) (pv : V) (hps : Row Piece.v pv ps) (hl63 : ps.length < 9223372036854775808) (nd : List V) (cs : List V) (v23 v24 v25 : T) (h : List HO) (σ : St) (hh : σ.h = h) (x : Int) (h1 : σ.e 1 = .loc 1 0 0) (m1 : σ.m 1 = some (0, cs))
    (g5 : Nat) (h5 : σ.e 5 = .loc 5 g5 0) (m5 : σ.m 5 = some (g5, nd)) (h3 : σ.e 3 = .v (I x)) (h23 : σ.e 23 = v23) (h24 : σ.e 24 = v24) (h25 : σ.e 25 = v25) (h46 : σ.e 46 = .v pv) (h47 : σ.e 47 = .v (I ps.length)) (h48 : σ.e 48 = .v (I 0)) (K : List It) (Q : Ex → St → Prop)
    (hK : ∀ σ' : St, σ'.h = h → σ'.e 1 = .loc 1 0 0 → σ'.m 1 = some (0, cs) → σ'.e 5 = .loc 5 g5 0 → σ'.m 5 = some (g5, nd) → (∃ x, σ'.e 3 = .v (I x)) → σ'.e 23 = v23 → σ'.e 24 = v24 → σ'.e 25 = v25 → wp (contK X K (.exit 2) σ') Q) :
    wp (run X (.c L7_1 :: K) σ) Q := by
  refine wp_loop (fun n σ => σ.h = h ∧ σ.e 1 = .loc 1 0 0 ∧ σ.m 1 = some (0, cs) ∧ σ.e 5 = .loc 5 g5 0 ∧ σ.m 5 = some (g5, nd) ∧ (∃ x, σ.e 3 = .v (I x)) ∧ σ.e 23 = v23 ∧ σ.e 24 = v24 ∧ σ.e 25 = v25 ∧ σ.e 46 = .v pv ∧ σ.e 47 = .v (I ps.length) ∧ ∃ i : Nat, n + i = ps.length ∧ σ.e 48 = .v (I i)) ?_ ps.length _ ⟨hh, h1, m1, h5, m5, ⟨x, h3⟩, h23, h24, h25, h46, h47, 0, by simp, h48⟩
  clear hh h1 m1 h5 m5 h3 h23 h24 h25 h46 h47 h48 x σ
  rintro n ⟨e, m, g, rb, h'⟩ ⟨rfl, h1, m1, h5, m5, ⟨x, h3⟩, h23, h24, h25, h46, h47, i, hi, h48⟩
  dsimp only at h1 m1 h5 m5 h3 h23 h24 h25 h46 h47 h48
  simp [h1, m1, h5, m5, h3, h23, h24, h25, h46, h47, h48]
  by_cases hlt : i < ps.length
  · rcases hps with ⟨rfl, rfl⟩ | rfl
    · simp at hlt
    have ha : ps[i]? = some ps[i] := List.getElem?_eq_getElem hlt
    have hw := wrap64 (n := (i : Int) + 1) (by unfold R; omega)
    simp [hlt, ha, hw, h1, m1, h5, m5, h23, h24, h25]
    exact ⟨n - 1, by omega, i + 1, by omega, by simp⟩
  · simp [hlt]
    apply hK <;> simp [*]

/-- The loop over extended attributes of 'Small'. -/
theorem small_xattrs (xs : List Xattr) (pv : V) (hps : Row Xattr.v pv xs) (hl63 : xs.length < 9223372036854775808) (cs : List V) (v23 v24 v25 : T) (h : List HO) (σ : St) (hh : σ.h = h) (x : Int) (h1 : σ.e 1 = .loc 1 0 0) (m1 : σ.m 1 = some (0, cs))
    (h3 : σ.e 3 = .v (I x)) (h23 : σ.e 23 = v23) (h24 : σ.e 24 = v24) (h25 : σ.e 25 = v25) (h61 : σ.e 61 = .v pv) (h62 : σ.e 62 = .v (I xs.length)) (h63 : σ.e 63 = .v (I 0)) (K : List It) (Q : Ex → St → Prop)
    (hK : ∀ σ' : St, σ'.h = h → σ'.e 1 = .loc 1 0 0 → σ'.m 1 = some (0, cs) → (∃ x, σ'.e 3 = .v (I x)) → σ'.e 23 = v23 → σ'.e 24 = v24 → σ'.e 25 = v25 → wp (contK X K (.exit 4) σ') Q) :
    wp (run X (.c L7_2 :: K) σ) Q := by
  refine wp_loop (fun n σ => σ.h = h ∧ σ.e 1 = .loc 1 0 0 ∧ σ.m 1 = some (0, cs) ∧ (∃ x, σ.e 3 = .v (I x)) ∧ σ.e 23 = v23 ∧ σ.e 24 = v24 ∧ σ.e 25 = v25 ∧ σ.e 61 = .v pv ∧ σ.e 62 = .v (I xs.length) ∧ ∃ i : Nat, n + i = xs.length ∧ σ.e 63 = .v (I i)) ?_ xs.length _ ⟨hh, h1, m1, ⟨x, h3⟩, h23, h24, h25, h61, h62, 0, by simp, h63⟩
  clear hh h1 m1 h3 h23 h24 h25 h61 h62 h63 x σ
  rintro n ⟨e, m, g, rb, h'⟩ ⟨rfl, h1, m1, ⟨x, h3⟩, h23, h24, h25, h61, h62, i, hi, h63⟩
  dsimp only at h1 m1 h3 h23 h24 h25 h61 h62 h63
  simp [h1, m1, h3, h23, h24, h25, h61, h62, h63]
  by_cases hlt : i < xs.length
  · rcases hps with ⟨rfl, rfl⟩ | rfl
    · simp at hlt
    have ha : xs[i]? = some xs[i] := List.getElem?_eq_getElem hlt
    have hw := wrap64 (n := (i : Int) + 1) (by unfold R; omega)
    simp [hlt, ha, hw, h1, m1, h23, h24, h25]
    exact ⟨n - 1, by omega, i + 1, by omega, by simp⟩
  · simp [hlt]
    apply hK <;> simp [*]

/-- The loop over inodes of 'Small'. -/
theorem small_nodes (nodes : List Inode) (nv : V) (hnv : nv = .nils ∧ nodes = [] ∨ nv = .snap (nodes.map Inode.v)) (cs : List V) (links : List Link) (lk : V) (hlk : lk = .nils ∧ links = [] ∨ lk = .snap (links.map Link.v)) (hcs : cs[9]? = some lk) (hn63 : nodes.length < 9223372036854775808) (hl63 : links.length < 9223372036854775808)
    (hp63 : ∀ n ∈ nodes, n.pieces.l.length < 9223372036854775808 ∧ n.xattrs.l.length < 9223372036854775808) (h : List HO) (σ : St) (hh : σ.h = h) (x : Int) (h1 : σ.e 1 = .loc 1 0 0) (m1 : σ.m 1 = some (0, cs))
    (h3 : σ.e 3 = .v (I x)) (h23 : σ.e 23 = .v nv) (h24 : σ.e 24 = .v (I nodes.length)) (h25 : σ.e 25 = .v (I 0)) :
    wp (run X [.c L7_3, .e 0 [1, 3] [1], .c c7_82] σ) (endP s7 h fun r h' => IsB r ∧ h' = h) := by
  refine wp_loop (fun n σ => σ.h = h ∧ σ.e 1 = .loc 1 0 0 ∧ σ.m 1 = some (0, cs) ∧ (∃ x, σ.e 3 = .v (I x)) ∧ σ.e 23 = .v nv ∧ σ.e 24 = .v (I nodes.length) ∧ ∃ i : Nat, n + i = nodes.length ∧ σ.e 25 = .v (I i)) ?_ nodes.length _ ⟨hh, h1, m1, ⟨x, h3⟩, h23, h24, 0, by simp, h25⟩
  clear hh h1 m1 h3 h23 h24 h25 x σ
  rintro n ⟨e, m, g, rb, h'⟩ ⟨rfl, h1, m1, ⟨x, h3⟩, h23, h24, i, hi, h25⟩
  dsimp only at h1 m1 h3 h23 h24 h25
  simp [h1, m1, h3, h23, h24, h25]
  by_cases hlt : i < nodes.length
  · rcases hnv with ⟨rfl, rfl⟩ | rfl
    · simp at hlt
    have ha : nodes[i]? = some nodes[i] := List.getElem?_eq_getElem hlt
    have hw := wrap64 (n := (i : Int) + 1) (by unfold R; omega)
    obtain ⟨hp, hx⟩ := hp63 nodes[i] (List.getElem_mem hlt)
    have hps := Sl.row Piece.v nodes[i].pieces
    have hxs := Sl.row Xattr.v nodes[i].xattrs
    simp [hlt, ha]
    rcases ep : nodes[i].pieces with _ | ps <;> rcases ex : nodes[i].xattrs with _ | xs
    all_goals
      rw [ep] at hp hps
      rw [ex] at hx hxs
      simp
      repeat' (first | refine wp_cond (fun hc => ?_) (fun hc => ?_) | refine wp_guardT (fun hc => ?_) (fun hc => ?_) | refine wp_guardF (fun hc => ?_) (fun hc => ?_) | refine wp_guardDT (fun hc => ?_) (fun hc => ?_) | refine wp_guardDF (fun hc => ?_) (fun hc => ?_)) <;> (have hc' := hc; (try simp at hc'); simp [hc, hc'])
    all_goals try (simp [s7]; done)
    all_goals
      refine small_pieces _ _ hps hp _ cs _ _ _ _ _ rfl _ rfl rfl _ rfl rfl rfl rfl rfl rfl rfl rfl rfl _ _ ?_
      rintro ⟨e', m', g', rb', h2⟩ k0 k1 k2 k3 k4 ⟨x', k5⟩ k6 k7 k8
      dsimp only at k0 k1 k2 k3 k4 k5 k6 k7 k8
      subst k0
      simp [k1, k2, k3, k4, k5, k6, k7, k8]
      refine small_xattrs _ _ hxs hx cs _ _ _ _ _ rfl _ rfl rfl rfl rfl rfl rfl rfl rfl rfl _ _ ?_
      rintro ⟨e2, m2, g2, rb2, h3⟩ k0 k1 k2 ⟨x2, k5⟩ k6 k7 k8
      dsimp only at k0 k1 k2 k5 k6 k7 k8
      subst k0
      simp [k1, k2, k5, k6, k7, k8]
      refine wp_cond (fun hc => ?_) (fun hc => ?_)
      · simp [s7]
      · simp [hw, k1, k2]
        exact ⟨n - 1, by omega, i + 1, by omega, by simp⟩
  · simp [hlt]
    rcases hlk with ⟨rfl, rfl⟩ | rfl
    · simp [hcs]
      exact small_links [] _ (.inl ⟨rfl, rfl⟩) (by simp) _ _ rfl _ rfl rfl rfl rfl
    · simp [hcs]
      exact small_links links _ (.inr rfl) hl63 _ _ rfl _ rfl rfl rfl rfl

theorem small_ok (c1 c2 c3 c4 c5 c6 c7 c8 : V) (nodes : List Inode) (nv : V) (hnv : nv = .nils ∧ nodes = [] ∨ nv = .snap (nodes.map Inode.v)) (links : List Link) (lk : V) (hlk : lk = .nils ∧ links = [] ∨ lk = .snap (links.map Link.v)) (hn63 : nodes.length < 9223372036854775808) (hl63 : links.length < 9223372036854775808)
    (hp63 : ∀ n ∈ nodes, n.pieces.l.length < 9223372036854775808 ∧ n.xattrs.l.length < 9223372036854775808) (h : List HO) :
    Ans (VC X 7 [.agg [c1, c2, c3, c4, c5, c6, c7, c8, nv, lk]] h) fun r h' => IsB r ∧ h' = h := by
  rw [v7]
  refine ans_wp ?_
  have hlk0 := hlk
  have hnv0 := hnv
  rcases hlk with ⟨rfl, rfl⟩ | rfl <;> rcases hnv with ⟨rfl, rfl⟩ | rfl
  all_goals
    simp [s7]
    repeat' (first | refine wp_cond (fun hc => ?_) (fun hc => ?_) | refine wp_guardT (fun hc => ?_) (fun hc => ?_) | refine wp_guardF (fun hc => ?_) (fun hc => ?_) | refine wp_guardDT (fun hc => ?_) (fun hc => ?_) | refine wp_guardDF (fun hc => ?_) (fun hc => ?_)) <;> (have hc' := hc; (try simp at hc'); simp [hc, hc'])
    exact small_nodes _ _ hnv0 _ _ _ hlk0 rfl hn63 hl63 hp63 h _ rfl 0 rfl rfl rfl rfl rfl rfl
end Go.Vm.Tryz
