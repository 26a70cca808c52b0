/- From a row's hypothesis to the VM's arguments; from the VM's answer to a row. -/
import Derived.Test.YthbfflleggnoaaaGreatDoorVmSound7
import Derived.ProofKit
import Derived.OpenShut
set_option linter.unusedSimpArgs false
set_option linter.unusedVariables false
namespace Go.Vm
open Go Go.RowKit

/-- Shapes of data. -/
inductive Sh where
  | bool
  | int (k : IntKind)
  | str
  | struct (l : List Sh)
  | arr (n : Nat) (s : Sh)
  | slice (s : Sh)

mutual
def Sh.size : Sh → Nat
  | .struct l => Sh.sizes l
  | .arr n s => n * s.size
  | _ => 1
def Sh.sizes : List Sh → Nat
  | [] => 0
  | s :: r => s.size + Sh.sizes r
end

def Sh.isAgg : Sh → Bool
  | .struct _ => true
  | .arr _ _ => true
  | _ => false

/-- The value that has such cells. -/
def mkS (s : Sh) (cs : List V) (v : V) : Prop := if s.isAgg then v = .agg cs else cs = [v]

mutual
def HasCs : Sh → List V → Prop
  | .bool, cs => ∃ b, cs = [.bool b]
  | .int k, cs => ∃ n, cs = [.int k n] ∧ k.min ≤ n ∧ n ≤ k.max
  | .str, cs => ∃ s, cs = [.str s] ∧ s.length < 2 ^ 63
  | .struct l, cs => HasL l cs
  | .arr n s, cs => ∃ l : List (List V), l.length = n ∧ cs = l.flatten ∧ ∀ a ∈ l, HasCs s a
  | .slice s, cs => ∃ l : List V, cs = [.snap l] ∧ l.length < 2 ^ 63 ∧ ∀ v ∈ l, ∃ c, mkS s c v ∧ HasCs s c
def HasL : List Sh → List V → Prop
  | [], cs => cs = []
  | s :: r, cs => ∃ a b, cs = a ++ b ∧ HasCs s a ∧ HasL r b
end

def HasV (s : Sh) (v : V) : Prop := ∃ cs, mkS s cs v ∧ HasCs s cs

section
variable (P : Program)
mutual
def fitSh : Sh → TypeId → Bool
  | .bool, t => (match P.underlying t with | some .bool => true | _ => false) && P.cellsOf t == 1
  | .int k, t => (match P.underlying t with | some (.int k') => k' == k | _ => false) && P.cellsOf t == 1
  | .str, t => (match P.underlying t with | some .string => true | _ => false) && P.cellsOf t == 1
  | .struct l, t => (match P.underlying t with | some (.struct fs) => fitShs 0 l (fs.toList.map fun f => (f.offset, f.type)) | _ => false) && P.cellsOf t == Sh.sizes l
  | .arr n s, t => (match P.underlying t with | some (.array m e) => m == n && fitSh s e && 0 < s.size | _ => false) && P.cellsOf t == n * s.size
  | .slice s, t => (match P.underlying t with | some (.slice e) => fitSh s e && 0 < s.size | _ => false) && P.cellsOf t == 1
def fitShs : Nat → List Sh → List (Nat × TypeId) → Bool
  | _, [], [] => true
  | off, s :: r, (o, t) :: q => o == off && fitSh s t && fitShs (off + s.size) r q
  | _, _, _ => false
end
end

theorem fitSh_cells {P : Program} {s : Sh} {t : TypeId} (h : fitSh P s t = true) : P.cellsOf t = s.size := by
  cases s <;> simp only [fitSh, Bool.and_eq_true, beq_iff_eq] at h <;> rw [h.2] <;> simp only [Sh.size]

mutual
theorem HasCs.len : ∀ {s : Sh} {cs : List V}, HasCs s cs → cs.length = s.size
  | .bool, cs, h => by simp only [HasCs] at h; obtain ⟨b, rfl⟩ := h; rfl
  | .int k, cs, h => by simp only [HasCs] at h; obtain ⟨b, rfl, _⟩ := h; rfl
  | .str, cs, h => by simp only [HasCs] at h; obtain ⟨b, rfl, _⟩ := h; rfl
  | .struct l, cs, h => by simp only [HasCs] at h; simp only [Sh.size]; exact HasL.len h
  | .arr n s, cs, h => by
    simp only [HasCs] at h
    obtain ⟨l, rfl, rfl, hl⟩ := h
    simp only [Sh.size]
    have : ∀ l : List (List V), (∀ a ∈ l, HasCs s a) → l.flatten.length = l.length * s.size := by
      intro l
      induction l with
      | nil => intro _; simp
      | cons a l ih =>
        intro h
        rw [List.flatten_cons, List.length_append, HasCs.len (h a (by simp)), ih (fun b hb => h b (by simp [hb])), List.length_cons, Nat.add_mul, Nat.one_mul, Nat.add_comm]
    exact this l hl
  | .slice s, cs, h => by simp only [HasCs] at h; obtain ⟨b, rfl, _⟩ := h; rfl
theorem HasL.len : ∀ {l : List Sh} {cs : List V}, HasL l cs → cs.length = Sh.sizes l
  | [], cs, h => by simp only [HasL] at h; subst h; rfl
  | s :: r, cs, h => by
    simp only [HasL] at h
    obtain ⟨a, b, rfl, h1, h2⟩ := h
    simp only [Sh.sizes, List.length_append, HasCs.len h1, HasL.len h2]
end

theorem mkS_cells {s : Sh} {cs : List V} {v : V} (h : mkS s cs v) (hc : HasCs s cs) : v.cells = cs := by
  unfold mkS at h
  split at h
  · subst h; rfl
  · rename_i hag
    subst h
    cases s <;> simp only [HasCs] at hc <;> first
      | (obtain ⟨_, e, _⟩ := hc; cases e; rfl)
      | (obtain ⟨_, e⟩ := hc; cases e; rfl)
      | exact absurd rfl hag

section
variable {P : Program} {H : Type} {enc : TypeId × Value → H} {w : World} {G : Gh}

theorem CRs.isC {vs : List V} {xs : List Value} (h : CRs G w vs xs) : ∀ v ∈ vs, v.isC := by
  induction vs generalizing xs with
  | nil => intro v hv; cases hv
  | cons a vs ih =>
    cases h with
    | cons _ _ _ _ h1 _ _ hs =>
      intro v hv
      rcases List.mem_cons.1 hv with rfl | hv
      · exact h1
      · exact ih hs v hv

theorem cell_spot {a : Addr} {v : Value} (h : w.cell? a = some v) : a.spot = none ∧ ∃ c el fr, w.heap[a.block]? = some (.cells c el fr) ∧ c[a.off]? = some v := by
  unfold World.cell? at h
  split at h
  · rename_i c el fr hb
    cases hs : a.spot with
    | none => rw [hs] at h; exact ⟨rfl, c, el, fr, hb, by simpa using h⟩
    | some q => rw [hs] at h; simp at h
  · cases h

/-- What reads as data is a value of the VM. -/
theorem trod_has (hG : ∀ B, B < w.heap.size → G.st B) : ∀ (s : Sh) (t : TypeId), fitSh P s t = true → ∀ (fuel : Nat) (cs : List Value) (x : DataW H × List MemPlace),
    DataW.trod enc P w 0 (fun _ => true) true fuel t cs = some x → ∃ vs, CRs G w vs cs ∧ HasCs s vs := by
  intro s
  induction s using Sh.rec (motive_2 := fun l => ∀ (q : List (Nat × TypeId)) (off : Nat), fitShs P off l q = true → ∀ (fuel : Nat) (cs : List Value), cs.length = off + Sh.sizes l →
      (∀ (i : Nat) o t, q[i]? = some (o, t) → ∃ x, DataW.trod enc P w 0 (fun _ => true) true fuel t ((cs.drop o).take (P.cellsOf t)) = some x) → ∃ vs, CRs G w vs (cs.drop off) ∧ HasL l vs) with
  | bool =>
    intro t hf fuel cs x h
    simp only [fitSh, Bool.and_eq_true] at hf
    obtain ⟨hf, _⟩ := hf
    split at hf
    · rename_i hu
      obtain ⟨b, rfl, _⟩ := DataW.trod_bool hu h
      exact ⟨[.bool b], .cons _ _ _ _ trivial trivial (.bool _) .nil, by simp only [HasCs]; exact ⟨b, rfl⟩⟩
    · cases hf
  | int k =>
    intro t hf fuel cs x h
    simp only [fitSh, Bool.and_eq_true] at hf
    obtain ⟨hf, _⟩ := hf
    split at hf
    · rename_i k' hu
      have : k' = k := by simpa using hf
      subst this
      obtain ⟨n, rfl, _, hw⟩ := DataW.trod_int hu h
      simp only [Lit.wf, Bool.and_eq_true, decide_eq_true_eq] at hw
      exact ⟨[.int k' n], .cons _ _ _ _ trivial trivial (.int _ _) .nil, by simp only [HasCs]; exact ⟨n, rfl, hw.1, hw.2⟩⟩
    · cases hf
  | str =>
    intro t hf fuel cs x h
    simp only [fitSh, Bool.and_eq_true] at hf
    obtain ⟨hf, _⟩ := hf
    split at hf
    · rename_i hu
      obtain ⟨b, rfl, _, hl⟩ := DataW.trod_string hu h
      refine ⟨[.str b.data.toList], .cons _ _ _ _ trivial trivial (.str _ b rfl) .nil, ?_⟩
      simp only [HasCs]
      refine ⟨_, rfl, ?_⟩
      have e : b.data.toList.length = b.size := rfl
      have e2 : Go.maxLen = 9223372036854775807 := rfl
      have e3 : (2 : Nat) ^ 63 = 9223372036854775808 := rfl
      omega
    · cases hf
  | struct l ih =>
    intro t hf fuel cs x h
    simp only [fitSh, Bool.and_eq_true, beq_iff_eq] at hf
    obtain ⟨hf, hc⟩ := hf
    split at hf
    · rename_i fs hu
      obtain ⟨xs, n, rfl, _, hl, hn, hel⟩ := DataW.trod_struct hu h
      obtain ⟨vs, h1, h2⟩ := ih _ _ hf n cs (by rw [hl, hc, Nat.zero_add]) (by
        intro i o t' hi
        rw [List.getElem?_map] at hi
        cases hfi : fs.toList[i]? with
        | none => rw [hfi] at hi; cases hi
        | some f =>
          rw [hfi] at hi
          cases hi
          have hi' : fs[i]? = some f := by simpa using hfi
          have hlt : i < xs.length := by
            rw [hn]
            rcases Nat.lt_or_ge i fs.size with h | h
            · exact h
            · rw [Array.getElem?_eq_none h] at hi'; cases hi'
          exact ⟨xs[i], by rw [hel i f hi', List.getElem?_eq_getElem hlt]⟩)
      rw [List.drop_zero] at h1
      exact ⟨vs, h1, by simp only [HasCs]; exact h2⟩
    · cases hf
  | arr n s ih =>
    intro t hf fuel cs x h
    simp only [fitSh, Bool.and_eq_true, beq_iff_eq] at hf
    obtain ⟨hf, hc⟩ := hf
    split at hf
    · rename_i m e hu
      simp only [Bool.and_eq_true, beq_iff_eq, decide_eq_true_eq] at hf
      obtain ⟨⟨rfl, hfe⟩, hpos⟩ := hf
      obtain ⟨xs, k, rfl, _, hl, hn, hel⟩ := DataW.trod_array hu h
      have hce := fitSh_cells hfe
      have key : ∀ j, j ≤ m → ∃ l : List (List V), l.length = j ∧ CRs G w l.flatten (cs.take (j * s.size)) ∧ ∀ a ∈ l, HasCs s a := by
        intro j
        induction j with
        | zero => intro _; exact ⟨[], rfl, by simpa using CRs.nil, fun a h => by cases h⟩
        | succ j ihj =>
          intro hj
          obtain ⟨l, h1, h2, h3⟩ := ihj (by omega)
          have hx := hel j (by omega)
          rw [List.getElem?_eq_getElem (by omega)] at hx
          obtain ⟨vs, h4, h5⟩ := ih e hfe k _ _ hx
          refine ⟨l ++ [vs], by simp [h1], ?_, ?_⟩
          · rw [List.flatten_append, Nat.add_mul, Nat.one_mul, List.take_add]
            rw [hce] at h4
            simpa using h2.append h4
          · intro a ha
            rcases List.mem_append.1 ha with h | h
            · exact h3 a h
            · have := List.mem_singleton.1 h; subst this; exact h5
      obtain ⟨l, h1, h2, h3⟩ := key m (Nat.le_refl _)
      rw [List.take_of_length_le (by rw [hl, hc]; exact Nat.le_refl _)] at h2
      exact ⟨l.flatten, h2, by simp only [HasCs]; exact ⟨l, h1, rfl, h3⟩⟩
    · cases hf
  | slice s ih =>
    intro t hf fuel cs x h
    simp only [fitSh, Bool.and_eq_true, beq_iff_eq] at hf
    obtain ⟨hf, hc⟩ := hf
    split at hf
    · rename_i e hu
      simp only [Bool.and_eq_true, decide_eq_true_eq] at hf
      obtain ⟨hfe, hpos⟩ := hf
      have hce := fitSh_cells hfe
      rcases DataW.trod_slice hu h with ⟨rfl, _⟩ | ⟨a, len, cap, elems, rest, k, rfl, rfl, _, _, hlc, hcm, hel, hat, _⟩
      · exact ⟨[.snap []], .cons _ _ _ _ trivial trivial (.snil _ _) .nil, by simp only [HasCs]; exact ⟨[], rfl, by simp, fun v h => by cases h⟩⟩
      · have e2 : Go.maxLen = 9223372036854775807 := rfl
        have e3 : (2 : Nat) ^ 63 = 9223372036854775808 := rfl
        cases len with
        | zero => exact ⟨[.snap []], .cons _ _ _ _ trivial trivial (.snil _ _) .nil, by simp only [HasCs]; exact ⟨[], rfl, by simp, fun v h => by cases h⟩⟩
        | succ len =>
          -- the cells of an element
          have elemAt : ∀ i, i < len + 1 → ∃ ci y, w.cells? 0 (a.add (i * s.size)) s.size = some ci ∧ DataW.trod enc P w 0 (fun _ => true) true k e ci = some y := by
            intro i hi
            have := hat i hi
            rw [List.getElem?_eq_getElem (by omega), hce] at this
            obtain ⟨ci, h1, h2⟩ := Option.bind_eq_some_iff.1 this
            exact ⟨ci, _, h1, h2⟩
          have cells : ∀ {b : Addr} {n : Nat} {ci : List Value}, w.cells? 0 b n = some ci → ci.length = n ∧ ∀ j, j < n → w.cell? (b.add j) = ci[j]? := by
            intro b n ci h
            unfold World.cells? at h
            rw [if_pos (Nat.zero_le _)] at h
            have hl := mapM_some_length h
            exact ⟨by simpa using hl, fun j hj => mapM_some_get h j j (by simp [hj])⟩
          obtain ⟨c0, y0, h00, _⟩ := elemAt 0 (by omega)
          obtain ⟨hl0, hc0⟩ := cells h00
          have hfirst := hc0 0 hpos
          rw [List.getElem?_eq_getElem (by omega)] at hfirst
          have hadd0 : (a.add (0 * s.size)).add 0 = a := by simp [Addr.add]
          rw [hadd0] at hfirst
          obtain ⟨hspot, C, el, fr, hblock, _⟩ := cell_spot hfirst
          obtain ⟨B, off, sp⟩ := a
          dsimp only at hspot hblock
          subst hspot
          have hst := hG B (lt_of_block hblock)
          have key : ∀ j, j ≤ len + 1 → ∃ (l : List V) (xs : List Value), l.length = j ∧ xs.length = j * s.size ∧ (∀ i, i < xs.length → C[off + i]? = xs[i]?) ∧ CRs G w (l.flatMap V.cells) xs ∧ ∀ v ∈ l, ∃ c, mkS s c v ∧ HasCs s c ∧ v.cells.length = s.size := by
            intro j
            induction j with
            | zero => intro _; exact ⟨[], [], rfl, by simp, fun i h => absurd h (Nat.not_lt_zero _), CRs.nil, fun v h => absurd h (List.not_mem_nil)⟩
            | succ j ihj =>
              intro hj
              obtain ⟨l, xs, g1, g2, g3, g4, g5⟩ := ihj (by omega)
              obtain ⟨ci, y, q1, q2⟩ := elemAt j (by omega)
              obtain ⟨q3, q4⟩ := cells q1
              obtain ⟨vs, q5, q6⟩ := ih e hfe k ci y q2
              have hvl := q6.len
              obtain ⟨v, hv⟩ : ∃ v, mkS s vs v := by
                unfold mkS
                cases hag : s.isAgg with
                | true => exact ⟨.agg vs, by simp⟩
                | false =>
                  have : s.size = 1 := by cases s <;> first | rfl | cases hag
                  match vs, hvl.trans this with
                  | [v], _ => exact ⟨v, by simp⟩
              have hvc := mkS_cells hv q6
              refine ⟨l ++ [v], xs ++ ci, by simp [g1], by rw [List.length_append, g2, q3, Nat.add_mul, Nat.one_mul], ?_, ?_, ?_⟩
              · intro i hi
                by_cases hlt : i < xs.length
                · rw [List.getElem?_append_left hlt]; exact g3 i hlt
                · rw [List.getElem?_append_right (by omega)]
                  have hi' : i - xs.length < s.size := by rw [List.length_append, q3] at hi; omega
                  rw [← q4 _ hi', add_none, add_none]
                  simp only [World.cell?, hblock]
                  rw [show off + j * s.size + (i - xs.length) = off + i by omega]
                  simp
              · rw [List.flatMap_append]
                refine g4.append ?_
                simpa [hvc] using q5
              · intro u hu
                rcases List.mem_append.1 hu with h | h
                · exact g5 u h
                · have := List.mem_singleton.1 h
                  subst this
                  exact ⟨vs, hv, q6, by rw [hvc]; exact hvl⟩
          obtain ⟨l, xs, g1, g2, g3, g4, g5⟩ := key (len + 1) (Nat.le_refl _)
          refine ⟨[.snap l], .cons _ _ _ _ trivial trivial ?_ .nil, ?_⟩
          · have := VR.snap (G := G) (w := w) l B off s.size cap xs hst ⟨C, el, fr, hblock, g3⟩ (fun v hv => by obtain ⟨c, _, _, h⟩ := g5 v hv; exact h) (by omega) g4
            rw [g1] at this
            exact this
          · simp only [HasCs]
            refine ⟨l, rfl, by omega, fun v hv => ?_⟩
            obtain ⟨c, h1, h2, _⟩ := g5 v hv
            exact ⟨c, h1, h2⟩
    · cases hf
  | nil =>
    rename_i q off hf fuel cs hl hq
    refine ⟨[], ?_, by simp only [HasL]⟩
    rw [List.drop_of_length_le (by rw [hl]; simp [Sh.sizes])]
    exact .nil
  | cons s r ihs ihr =>
    rename_i q off hf fuel cs hl hq
    cases q with
    | nil => simp [fitShs] at hf
    | cons p q =>
      obtain ⟨o, t⟩ := p
      simp only [fitShs, Bool.and_eq_true, beq_iff_eq] at hf
      obtain ⟨⟨rfl, hft⟩, hfr⟩ := hf
      obtain ⟨x, hx⟩ := hq 0 o t rfl
      obtain ⟨vs, h1, h2⟩ := ihs t hft fuel _ x hx
      obtain ⟨us, h3, h4⟩ := ihr q (o + s.size) hfr fuel cs (by rw [hl]; simp only [Sh.sizes]; omega) (fun i o' t' hi => hq (i + 1) o' t' (by simpa using hi))
      refine ⟨vs ++ us, ?_, by simp only [HasL]; exact ⟨vs, us, rfl, h2, h4⟩⟩
      rw [fitSh_cells hft] at h1
      have := h1.append h3
      rw [← List.drop_drop, List.take_append_drop] at this
      exact this

end
end Go.Vm
