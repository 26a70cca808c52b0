/- Slices, indexes. -/
import Derived.Test.YthbfflleggnoaaaGreatDoorVmPure3
set_option linter.unusedSimpArgs false
set_option linter.unusedVariables false
namespace Go.Vm
open Go Go.RowKit

section
variable {P : Program} {G : Gh} {w : World} {L : Lm} {σ : St} {tm : Array Value} {ds : List Deferred}
variable {dst : Option Tmp} {ty : TypeId} {pos : String} {af : Array Edge} {gd : Option (Nat × Bool)}

theorem flat_drop {s : Nat} : ∀ {l : List V} (k : Nat), (∀ v ∈ l, v.cells.length = s) → (l.drop k).flatMap V.cells = (l.flatMap V.cells).drop (k * s)
  | l, 0, _ => by simp
  | [], k + 1, _ => by simp
  | v :: l, k + 1, h => by
    have hv := h v (by simp)
    have ih := flat_drop (l := l) k (fun u hu => h u (by simp [hu]))
    rw [List.drop_succ_cons, ih, List.flatMap_cons, Nat.add_mul, Nat.one_mul, Nat.add_comm, ← List.drop_drop]
    congr 1
    rw [← hv, List.drop_left]

theorem flat_take {s : Nat} : ∀ {l : List V} (k : Nat), (∀ v ∈ l, v.cells.length = s) → (l.take k).flatMap V.cells = (l.flatMap V.cells).take (k * s)
  | l, 0, _ => by simp
  | [], k + 1, _ => by simp
  | v :: l, k + 1, h => by
    have hv := h v (by simp)
    have ih := flat_take (l := l) k (fun u hu => h u (by simp [hu]))
    rw [List.take_succ_cons, List.flatMap_cons, List.flatMap_cons, ih, Nat.add_mul, Nat.one_mul, Nat.add_comm, ← hv, List.take_length_add_append]

theorem flat_len {s : Nat} : ∀ {l : List V}, (∀ v ∈ l, v.cells.length = s) → (l.flatMap V.cells).length = l.length * s
  | [], _ => by simp
  | v :: l, h => by
    have hv := h v (by simp)
    have ih := flat_len (l := l) (fun u hu => h u (by simp [hu]))
    rw [List.flatMap_cons, List.length_append, ih, hv, List.length_cons, Nat.add_mul, Nat.one_mul, Nat.add_comm]

theorem cellsIn.drop {B off : Nat} {xs : List Value} (h : cellsIn w B off xs) (n : Nat) : cellsIn w B (off + n) (xs.drop n) := by
  obtain ⟨c, el, fr, hb, hc⟩ := h
  refine ⟨c, el, fr, hb, fun i hi => ?_⟩
  simp only [List.length_drop] at hi
  rw [List.getElem?_drop, Nat.add_assoc]
  exact hc _ (by omega)
theorem cellsIn.take {B off : Nat} {xs : List Value} (h : cellsIn w B off xs) (n : Nat) : cellsIn w B off (xs.take n) := by
  obtain ⟨c, el, fr, hb, hc⟩ := h
  refine ⟨c, el, fr, hb, fun i hi => ?_⟩
  simp only [List.length_take] at hi
  rw [List.getElem?_take, if_pos (by omega)]
  exact hc _ (by omega)

/-- A part of a list that is only read. -/
theorem snap_part {l : List V} {B off s a b : Nat} {xs : List Value} (hst : G.st B) (hc : cellsIn w B off xs) (hl : ∀ v ∈ l, v.cells.length = s) (hcr : CRs G w (l.flatMap V.cells) xs)
    (hab : a ≤ b) (hb : b ≤ l.length) {ad : Addr} {m : Nat} (hm : b - a ≤ m) (had : a = b ∨ ad = ⟨B, off + a * s, none⟩) : VR G w (.snap ((l.drop a).take (b - a))) (.slice (some ad) (b - a) m) := by
  by_cases e : a = b
  · subst e
    simp only [Nat.sub_self, List.take_zero]
    exact .snil _ _
  · have had := had.resolve_left e
    subst had
    have hl2 : ∀ v ∈ (l.drop a).take (b - a), v.cells.length = s := fun v hv => hl v (List.mem_of_mem_drop (List.mem_of_mem_take hv))
    have hlen : ((l.drop a).take (b - a)).length = b - a := by simp; omega
    have := VR.snap (G := G) (w := w) ((l.drop a).take (b - a)) B (off + a * s) s m ((xs.drop (a * s)).take ((b - a) * s)) hst ((hc.drop _).take _) hl2 (by omega) (by
      rw [flat_take _ (fun v hv => hl v (List.mem_of_mem_drop hv)), flat_drop _ hl]
      exact (hcr.drop _).take _)
    rw [hlen] at this
    exact this

theorem bound_ok (hs : ERel G w L σ.e tm) {x : Option Operand} {y : Option Opd} (hf : fitXo x y = true) {n d : Nat} (hb : bound1 σ y d = some n) :
    (x = none ∧ n = d) ∨ ∃ x' k, x = some x' ∧ Act.eval ⟨tm, ds⟩ x' = .int k (n : Int) := by
  cases x with
  | none =>
    cases y with
    | none => cases hb; exact .inl ⟨rfl, rfl⟩
    | some _ => simp [fitXo] at hf
  | some x =>
    cases y with
    | none => simp [fitXo] at hf
    | some y =>
      simp only [fitXo] at hf
      simp only [bound1] at hb
      split at hb
      · rename_i k i hv
        split at hb
        · rename_i hi
          cases hb
          have e := (val_ok (ds := ds) hs hf hv).inv_int
          exact .inr ⟨x, k, rfl, by rw [e, Int.toNat_of_nonneg hi]⟩
        · cases hb
      · cases hb


theorem run_sliceBound {k : IntKind} {n y : Nat} (h : n ≤ y) (c : BoundsCode) : (Instr.sliceBound (.int k (n : Int)) y c).run P w = .ok n w := by
  simp [Instr.sliceBound, asIntOf, h]

/-- The bounds of a slice expression. -/
theorem run_sliceBounds (hs : ERel G w L σ.e tm) {lo hi mx : Option Operand} {lo' hi' mx' : Option Opd} (h1 : fitXo lo lo' = true) (h2 : fitXo hi hi' = true) (h3 : fitXo mx mx' = true)
    {l h m len len' cap : Nat} (hm : bound1 σ mx' len = some m) (hh : bound1 σ hi' len = some h) (hl : bound1 σ lo' 0 = some l) (hlh : l ≤ h) (hlen : h ≤ len) (hhm : h ≤ m) (hml : m ≤ len) (hcap : len ≤ cap)
    (hfull : mx ≠ none → hi ≠ none) (isS : Bool) :
    ∃ m', (Instr.sliceBounds isS len cap (lo.map (Act.eval ⟨tm, ds⟩)) (hi.map (Act.eval ⟨tm, ds⟩)) (mx.map (Act.eval ⟨tm, ds⟩))).run P w = .ok (l, h, m') w ∧ h ≤ m' ∧ m' ≤ cap := by
  rcases bound_ok (ds := ds) hs h3 hm with ⟨rfl, em⟩ | ⟨xm, km, rfl, em⟩
  · refine ⟨cap, ?_, by omega, Nat.le_refl _⟩
    rcases bound_ok (ds := ds) hs h2 hh with ⟨rfl, eh⟩ | ⟨xh, kh, rfl, eh⟩
    · rcases bound_ok (ds := ds) hs h1 hl with ⟨rfl, el⟩ | ⟨xl, kl, rfl, el⟩
      · simp [Instr.sliceBounds, el, eh]
      · subst eh
        simp [Instr.sliceBounds, el, run_sliceBound hlh]
    · rcases bound_ok (ds := ds) hs h1 hl with ⟨rfl, el⟩ | ⟨xl, kl, rfl, el⟩
      · simp [Instr.sliceBounds, el, eh, run_sliceBound (show h ≤ cap by omega)]
      · simp [Instr.sliceBounds, el, eh, run_sliceBound (show h ≤ cap by omega), run_sliceBound hlh]
  · refine ⟨m, ?_, hhm, by omega⟩
    rcases bound_ok (ds := ds) hs h2 hh with ⟨rfl, eh⟩ | ⟨xh, kh, rfl, eh⟩
    · exact absurd rfl (hfull (by simp))
    · rcases bound_ok (ds := ds) hs h1 hl with ⟨rfl, el⟩ | ⟨xl, kl, rfl, el⟩
      · simp [Instr.sliceBounds, el, eh, em, run_sliceBound (show m ≤ cap by omega), run_sliceBound hhm]
      · simp [Instr.sliceBounds, el, eh, em, run_sliceBound (show m ≤ cap by omega), run_sliceBound hhm, run_sliceBound hlh]

theorem extract_list (b : ByteArray) (l h : Nat) : (b.extract l h).data.toList = (b.data.toList.drop l).take (h - l) := by
  simp [ByteArray.data_extract, List.extract]

theorem slice_ok (hs : SR w G L σ tm) {t : TypeId} {x : Operand} {lo hi mx : Option Operand} {str : Bool} {z : Nat} {y : Opd} {lo' hi' mx' : Option Opd}
    (hf : fitO P (.slice t x lo hi mx) (.slice str z y lo' hi' mx') = true) {r : T} (hx : pureO σ (.slice str z y lo' hi' mx') = some r) :
    Good P ((execOp (Act.eval ⟨tm, ds⟩) ⟨dst, .slice t x lo hi mx, ty, pos, af, gd⟩).run P w) w G L σ tm r σ := by
  simp only [fitO, Bool.and_eq_true] at hf
  obtain ⟨⟨⟨⟨⟨ht, h1⟩, h2⟩, h3⟩, h4⟩, h5⟩ := hf
  have hfull : mx ≠ none → hi ≠ none := by
    intro hne hn
    subst hn
    cases mx <;> simp at hne h5
  simp only [pureO, Option.bind_eq_some_iff, Option.map_eq_some_iff] at hx
  obtain ⟨v, hv, q, hq, rfl⟩ := hx
  have hvr := val_ok (ds := ds) hs.ev h1 hv
  unfold sliceV at hq
  split at hq
  · rename_i s
    have hu : P.underlying t = some .string := by
      revert ht; simp only [if_true]; cases P.underlying t with
      | none => intro h; cases h
      | some d => cases d <;> intro h <;> first | rfl | (cases h; done)
    split at hq
    · cases hq
    · simp only [Option.bind_eq_some_iff] at hq
      obtain ⟨h, hh, l, hl, hq⟩ := hq
      split at hq
      · rename_i hb
        cases hq
        obtain ⟨b, e, eb⟩ := hvr.inv_str
        subst eb
        have hmx : mx = none := by cases mx with | none => rfl | some _ => simp [fitXo] at h4
        subst hmx
        have hsz : b.data.toList.length = b.size := rfl
        obtain ⟨m', hr, _, _⟩ := run_sliceBounds (P := P) (ds := ds) hs.ev h2 h3 (mx := none) (mx' := none) rfl (l := l) (h := h) (m := b.data.toList.length) (len := b.data.toList.length) (len' := 0) (cap := b.data.toList.length) rfl hh hl hb.1 hb.2 hb.2 (Nat.le_refl _) (Nat.le_refl _) (by simp) false
        refine Good.same (v := .string (b.extract l h)) hs (exec_v rfl ?_) (.v _ _ (.str _ _ (extract_list b l h)))
        rw [hsz] at hr
        simp only [Option.map_none] at hr
        have hsl : Instr.sliceAt t (.string b) (lo.map (Act.eval ⟨tm, ds⟩)) (hi.map (Act.eval ⟨tm, ds⟩)) none = (do
            match ← underlying t with
            | .array n elem => do
              let a ← Instr.sureAddr (.string b)
              let (l, h, m) ← Instr.sliceBounds false n n (lo.map (Act.eval ⟨tm, ds⟩)) (hi.map (Act.eval ⟨tm, ds⟩)) none
              let size ← sizeOf elem
              pure (.slice (some (if m = l then a else a.add (l * size))) (h - l) (m - l))
            | _ => Instr.slice t (.string b) (lo.map (Act.eval ⟨tm, ds⟩)) (hi.map (Act.eval ⟨tm, ds⟩)) none) := rfl
        rw [e]
        simp only [Option.map_none]
        rw [hsl]
        simp [run_underlying hu, Instr.slice, hr]
      · cases hq
  · simp only [Option.bind_eq_some_iff] at hq
    obtain ⟨m, hm, h, hh, l, hl, hq⟩ := hq
    split at hq
    · rename_i hb
      obtain ⟨rfl, rfl, rfl⟩ := hb
      cases hq
      simp only [Bool.false_eq_true, if_false] at ht
      split at ht
      · rename_i e0 he
        have hu := elemT_ok he
        simp only [beq_iff_eq] at ht
        have e := hvr.inv_nils
        obtain ⟨m', hr, _, hm'⟩ := run_sliceBounds (P := P) (ds := ds) hs.ev h2 h3 h4 (l := 0) (h := 0) (m := 0) (len := 0) (len' := 0) (cap := 0) hm hh hl (Nat.le_refl _) (Nat.le_refl _) (Nat.le_refl _) (Nat.le_refl _) (Nat.le_refl _) hfull true
        have : m' = 0 := by omega
        subst this
        refine Good.same (v := .slice none 0 0) hs (exec_v rfl ?_) (.v _ _ .nils)
        simp [Instr.sliceAt, run_underlying hu, Instr.slice, e, hr, run_sizeT ht]
      · cases ht
    · cases hq
  · rename_i s
    simp only [Option.bind_eq_some_iff] at hq
    obtain ⟨m, hm, h, hh, l, hl, hq⟩ := hq
    split at hq
    · rename_i hb
      obtain ⟨b1, b2, b3, b4, b5⟩ := hb
      cases hq
      simp only [Bool.false_eq_true, if_false] at ht
      split at ht
      · rename_i e0 he
        have hu := elemT_ok he
        simp only [beq_iff_eq] at ht
        rcases hvr.inv_snap with ⟨rfl, a, c, e⟩ | ⟨B, off, sz, cap, xs, hst, hci, hlen, hle, hcr, e⟩
        · have : l = 0 ∧ h = 0 := by simp at b2; omega
          obtain ⟨rfl, rfl⟩ := this
          obtain ⟨m', hr, _, hm'⟩ := run_sliceBounds (P := P) (ds := ds) hs.ev h2 h3 h4 (l := 0) (h := 0) (m := m) (len := 0) (len' := 0) (cap := c) hm hh hl (Nat.le_refl _) (Nat.le_refl _) (Nat.zero_le _) (by simpa using b4) (Nat.zero_le _) hfull true
          refine Good.same (v := .slice (if m' = 0 then a else a.map (·.add (0 * z))) 0 m') hs (exec_v rfl ?_) (.v _ _ ?_)
          · simp [Instr.sliceAt, run_underlying hu, Instr.slice, e, hr, run_sizeT ht]
          · simpa using VR.snil (G := G) (w := w) _ m'
        · obtain ⟨m', hr, hm1, hm2⟩ := run_sliceBounds (P := P) (ds := ds) hs.ev h2 h3 h4 (len' := 0) (cap := cap) hm hh hl b1 b2 b3 b4 hle hfull true
          refine Good.same (v := .slice (if m' = l then some ⟨B, off, none⟩ else some (⟨B, off + l * z, none⟩)) (h - l) (m' - l)) hs (exec_v rfl ?_) (.v _ _ ?_)
          · simp only [Instr.sliceAt, Sem.run_bind, run_underlying hu, Result.andThen_ok, Instr.slice, e, hr, run_sizeT ht, Sem.run_pure, Option.map_some, add_none]
          · have hz : l = h ∨ sz = z := by
              by_cases hlh : l = h
              · exact .inl hlh
              · have hpos : 0 < s.length := by omega
                have h0 := hlen s[0] (List.getElem_mem hpos)
                have h1 := List.all_eq_true.1 b5 s[0] (List.getElem_mem hpos)
                simp only [beq_iff_eq] at h1
                exact .inr (by rw [← h0, h1])
            split
            · exact snap_part hst hci hlen hcr b1 b2 (by omega) (.inl (by omega))
            · exact snap_part hst hci hlen hcr b1 b2 (by omega) (by rcases hz with hz | hz; exact .inl hz; exact .inr (by rw [hz]))
      · cases ht
    · cases hq
  · rename_i id ver sz off len
    simp only [Option.bind_eq_some_iff] at hq
    obtain ⟨m, hm, h, hh, l, hl, hq⟩ := hq
    split at hq
    · rename_i hb
      obtain ⟨b1, b2, b3, b4, rfl⟩ := hb
      cases hq
      simp only [Bool.false_eq_true, if_false] at ht
      split at ht
      · rename_i e0 he
        have hu := elemT_ok he
        simp only [beq_iff_eq] at ht
        obtain ⟨rl, a, cap, hrl, rfl, hle, hcap, ha, e⟩ := hvr.inv_sl
        obtain ⟨m', hr, hm1, hm2⟩ := run_sliceBounds (P := P) (ds := ds) hs.ev h2 h3 h4 (len' := 0) (cap := cap) hm hh hl b1 b2 b3 b4 hle hfull true
        refine Good.same (v := .slice (some (if m' = l then a else a.add (l * rl.s))) (h - l) (m' - l)) hs (exec_v rfl ?_) (.v _ _ ?_)
        · simp only [Instr.sliceAt, Sem.run_bind, run_underlying hu, Result.andThen_ok, Instr.slice, e, hr, run_sizeT ht, Sem.run_pure, Option.map_some]
          split <;> rfl
        · refine .sl id ver (off + l) (h - l) (m' - l) rl _ hrl (by omega) (by omega) ?_
          by_cases hml : m' = l
          · exact .inl (by omega)
          · right
            rw [if_neg hml]
            rcases ha with ha | ha
            · omega
            · rw [ha, add_none, Nat.add_mul, ← Nat.add_assoc]
      · cases ht
    · cases hq
  · cases hq

theorem asInt_ok (hs : ERel G w L σ.e tm) {x : Operand} {y : Opd} (hf : fitX x y = true) {k : IntKind} {i : Int} (hv : σ.val y = some (.int k i)) : Act.eval ⟨tm, ds⟩ x = .int k i :=
  (val_ok (ds := ds) hs hf hv).inv_int

theorem snap_elem {l : List V} {B off s : Nat} {xs : List Value} {i : Nat} {v : V} (hst : G.st B) (hc : cellsIn w B off xs) (hl : ∀ v ∈ l, v.cells.length = s) (hcr : CRs G w (l.flatMap V.cells) xs)
    (hi : l[i]? = some v) : VR G w (.cref v.cells) (.pointer (some ⟨B, off + i * s, none⟩)) := by
  have hlt : i < l.length := by
    rcases Nat.lt_or_ge i l.length with h | h
    · exact h
    · rw [List.getElem?_eq_none h] at hi; cases hi
  have hv : l[i] = v := by rw [List.getElem?_eq_getElem hlt] at hi; exact Option.some.inj hi
  have h1 : ((l.drop i).take 1).flatMap V.cells = v.cells := by
    rw [List.drop_eq_getElem_cons hlt, hv]; simp
  have h2 := flat_take (l := l.drop i) 1 (fun u hu => hl u (List.mem_of_mem_drop hu))
  rw [h1, flat_drop i hl, Nat.one_mul] at h2
  rw [h2]
  exact .cref _ B (off + i * s) _ hst ((hc.drop _).take _) ((hcr.drop _).take _)

theorem iaddr_ok (hs : SR w G L σ tm) {t : TypeId} {x i : Operand} {arr : Option Nat} {z : Nat} {y j : Opd} (hf : fitO P (.indexAddr t x i) (.iaddr arr z y j) = true) {r : T} (hx : pureO σ (.iaddr arr z y j) = some r) :
    Good P ((execOp (Act.eval ⟨tm, ds⟩) ⟨dst, .indexAddr t x i, ty, pos, af, gd⟩).run P w) w G L σ tm r σ := by
  cases arr with
  | none =>
    simp only [fitO, Bool.and_eq_true] at hf
    obtain ⟨⟨ht, h1⟩, h2⟩ := hf
    split at ht
    · rename_i e he
      have hu := elemT_ok he
      simp only [beq_iff_eq] at ht
      simp only [pureO] at hx
      split at hx
      · rename_i l k ix hv hvi
        split at hx
        · rename_i hi0
          simp only [Option.bind_eq_some_iff] at hx
          obtain ⟨v, hg, hx⟩ := hx
          split at hx
          · rename_i hlen
            cases hx
            have ei := asInt_ok (ds := ds) hs.ev h2 hvi
            have hlt : ix.toNat < l.length := by
              rcases Nat.lt_or_ge ix.toNat l.length with h | h
              · exact h
              · rw [List.getElem?_eq_none h] at hg; cases hg
            rcases (val_ok (ds := ds) hs.ev h1 hv).inv_snap with ⟨rfl, _⟩ | ⟨B, off, sz, cap, xs, hst, hci, hl, hle, hcr, ex⟩
            · simp at hlt
            · have hz : sz = z := by rw [← hl v (List.mem_of_getElem? hg), hlen]
              subst hz
              have hb : 0 ≤ ix ∧ ix < (l.length : Int) := ⟨hi0, by omega⟩
              refine Good.same hs (exec_v rfl ?_) (.v _ _ (snap_elem hst hci hl hcr hg))
              simp [Instr.indexAt, run_underlying hu, ei, ex, asIntOf, hb, run_sizeT ht, add_none]
          · cases hx
        · cases hx
      · rename_i id ver sz off len k ix hv hvi
        split at hx
        · rename_i hb
          obtain ⟨hi0, hi1, rfl⟩ := hb
          cases hx
          have ei := asInt_ok (ds := ds) hs.ev h2 hvi
          obtain ⟨rl, a, cap, hrl, rfl, hle, hcap, ha, ex⟩ := (val_ok (ds := ds) hs.ev h1 hv).inv_sl
          have ha' : a = ⟨rl.B, rl.base + off * rl.s, none⟩ := ha.resolve_left (by omega)
          subst ha'
          have hb : 0 ≤ ix ∧ ix < (len : Int) := ⟨hi0, hi1⟩
          refine Good.same (v := .pointer (some ⟨rl.B, rl.base + (off + ix.toNat) * rl.s + 0, none⟩)) hs (exec_v rfl ?_) (.v _ _ (.eptr _ _ _ _ _ hrl))
          simp [Instr.indexAt, run_underlying hu, ei, ex, asIntOf, hb, run_sizeT ht, add_none, Nat.add_mul, Nat.add_assoc]
        · cases hx
      · cases hx
    · cases ht
  | some n =>
    simp only [fitO, Bool.and_eq_true] at hf
    obtain ⟨⟨ht, h1⟩, h2⟩ := hf
    split at ht
    · rename_i n' e he
      have hu := arrT_ok he
      simp only [Bool.and_eq_true, beq_iff_eq] at ht
      obtain ⟨rfl, hsz⟩ := ht
      have ev := ev_ok (ds := ds) hs.ev h1
      have key : ∀ {B o : Nat} {k : IntKind} {ix : Int}, Act.eval ⟨tm, ds⟩ x = .pointer (some ⟨B, o, none⟩) → Act.eval ⟨tm, ds⟩ i = .int k ix → 0 ≤ ix ∧ ix < n →
          (execOp (Act.eval ⟨tm, ds⟩) ⟨dst, .indexAddr t x i, ty, pos, af, gd⟩).run P w = .ok (.value (.pointer (some ⟨B, o + ix.toNat * z, none⟩))) w := by
        intro B o k ix ex ei hb
        refine exec_v rfl ?_
        simp [Instr.indexAt, run_underlying hu, ei, ex, asIntOf, Instr.sureAddr, hb, run_sizeT hsz, add_none]
      simp only [pureO] at hx
      split at hx <;> first | (cases hx; done) | skip
      all_goals
        rename_i hv hvi
        split at hx
        rotate_left
        · cases hx
        rename_i hb
        cases hx
        rw [hv] at ev
        have ei := asInt_ok (ds := ds) hs.ev h2 hvi
      · obtain ⟨B, hB, h⟩ := ev.inv_loc; exact Good.same hs (key h ei hb) (.loc _ _ _ _ hB)
      · obtain ⟨B, hB, h⟩ := ev.inv_v.inv_ptr; exact Good.same hs (key h ei hb) (.v _ _ (.ptr _ _ _ hB))
      · obtain ⟨B, o, xs, hst, hc, hcr, h⟩ := ev.inv_v.inv_cref
        exact Good.same hs (key h ei hb) (.v _ _ (.cref _ _ _ _ hst (hc.drop _) (hcr.drop _)))
      · rename_i id ver j' o k ix
        obtain ⟨r, hr, h⟩ := ev.inv_v.inv_eptr
        refine Good.same hs (key h ei hb) (.v _ _ ?_)
        have := VR.eptr (G := G) (w := w) id ver j' (o + ix.toNat * z) r hr
        rw [← Nat.add_assoc] at this
        exact this
    · cases ht

theorem index_ok (hs : SR w G L σ tm) {t : TypeId} {x i : Operand} {arr : Option (Nat × Nat × Bool)} {y j : Opd} (hf : fitO P (.index t x i) (.index arr y j) = true) {r : T} (hx : pureO σ (.index arr y j) = some r) :
    Good P ((execOp (Act.eval ⟨tm, ds⟩) ⟨dst, .index t x i, ty, pos, af, gd⟩).run P w) w G L σ tm r σ := by
  cases arr with
  | none =>
    simp only [fitO, Bool.and_eq_true] at hf
    obtain ⟨⟨ht, h1⟩, h2⟩ := hf
    have hu : P.underlying t = some .string := by
      revert ht; cases P.underlying t with
      | none => intro h; cases h
      | some d => cases d <;> intro h <;> first | rfl | (cases h; done)
    simp only [pureO] at hx
    split at hx
    · rename_i s k ix hv hvi
      split at hx
      · rename_i hi0
        obtain ⟨b, hb, rfl⟩ := Option.map_eq_some_iff.1 hx
        obtain ⟨ba, ex, eb⟩ := (val_ok (ds := ds) hs.ev h1 hv).inv_str
        have ei := asInt_ok (ds := ds) hs.ev h2 hvi
        refine Good.same (v := .int .u8 (b.toNat : Int)) hs (exec_v rfl ?_) (.v _ _ (.int _ _))
        have hg : ba[ix.toNat]? = some b := by
          rw [← eb] at hb
          have hlt : ix.toNat < ba.data.toList.length := by
            rcases Nat.lt_or_ge ix.toNat ba.data.toList.length with h | h
            · exact h
            · rw [List.getElem?_eq_none h] at hb; cases hb
          have hlt' : ix.toNat < ba.size := hlt
          rw [List.getElem?_eq_getElem hlt] at hb
          rw [getElem?_pos ba ix.toNat hlt']
          rw [← Option.some.inj hb]
          rfl
        simp [Instr.index, asIntOf, run_underlying hu, ei, ex, hi0, hg]
      · cases hx
    · cases hx
  | some q =>
    obtain ⟨n, z, ag⟩ := q
    simp only [fitO, Bool.and_eq_true] at hf
    obtain ⟨⟨ht, h1⟩, h2⟩ := hf
    split at ht
    · rename_i n' e he
      have hu := arrT_ok he
      simp only [Bool.and_eq_true, beq_iff_eq, Bool.or_eq_true] at ht
      obtain ⟨⟨⟨rfl, hsz⟩, hag⟩, hcase⟩ := ht
      simp only [pureO] at hx
      split at hx
      · rename_i cs k ix hv hvi
        split at hx
        · rename_i hb
          simp only [Option.bind_eq_some_iff, Option.map_eq_some_iff] at hx
          obtain ⟨c, hc, v, hmv, rfl⟩ := hx
          obtain ⟨xs, hcr, ex⟩ := (val_ok (ds := ds) hs.ev h1 hv).inv_agg
          have ei := asInt_ok (ds := ds) hs.ev h2 hvi
          obtain ⟨zv, hz, hvr⟩ := part_ok (P := P) hag hsz hcase hcr hc hmv
          refine Good.same hs (exec_v rfl ?_) (.v _ _ hvr)
          simp [Instr.index, asIntOf, run_underlying hu, ei, ex, hb, run_sizeT hsz, hz]
        · cases hx
      · cases hx
    · cases ht

end
end Go.Vm
