/- Literals of slices, make, texts as bytes, and back. -/
import Derived.Test.YthbfflleggnoaaaGreatDoorVmEff3
set_option linter.unusedSimpArgs false
set_option linter.unusedVariables false
namespace Go.Vm
open Go Go.RowKit

section
variable {P : Program} {G : Gh} {w : World} {L : Lm} {σ : St} {tm : Array Value} {ds : List Deferred}
variable {dst : Option Tmp} {ty : TypeId} {pos : String} {af : Array Edge} {gd : Option (Nat × Bool)}

/-- The cells of values of one size. -/
theorem flat_CRs {z : Nat} (hz : 0 < z) : ∀ {vs : List V} {xs : List Value}, VRs G w vs xs → (∀ v ∈ vs, v.cells.length = z) → CRs G w (vs.flatMap V.cells) (xs.flatMap fun x => x.cells.toList) ∧ ∀ x ∈ xs, x.cells.size = z
  | [], _, h, _ => by cases h; exact ⟨.nil, fun _ h => by cases h⟩
  | v :: vs, _, h, hl => by
    cases h with
    | cons _ x _ xs h hs =>
      have hv := hl v (by simp)
      have hc := h.cells (by intro e; rw [e] at hv; simp at hv; omega)
      obtain ⟨h1, h2⟩ := flat_CRs hz hs (fun u hu => hl u (by simp [hu]))
      refine ⟨by rw [List.flatMap_cons, List.flatMap_cons]; exact hc.append h1, fun y hy => ?_⟩
      rcases List.mem_cons.1 hy with rfl | hy
      · have := hc.length; simp at this; omega
      · exact h2 y hy

theorem fill_idx (hs : ERel G w L σ.e tm) {z : Nat} (hz : 0 < z) : ∀ {ps : List (Nat × Operand)} {ys : List Opd} (i : Nat) {c : Array Value}, fitIdx i ps ys = true →
    (∀ p ∈ ps, (Act.eval ⟨tm, ds⟩ p.2).cells.size = z) → (i + ps.length) * z ≤ c.size →
    ∃ c', Instr.fill (fun i => some (i * z, z)) c (ps.map fun p => (p.1, Act.eval ⟨tm, ds⟩ p.2)) = some c' ∧
      c'.toList = c.toList.take (i * z) ++ (ps.flatMap fun p => (Act.eval ⟨tm, ds⟩ p.2).cells.toList) ++ c.toList.drop ((i + ps.length) * z)
  | [], [], i, c, _, _, _ => ⟨c, rfl, by simp⟩
  | (j, x) :: ps, y :: ys, i, c, hf, hsz, hle => by
    simp only [fitIdx, Bool.and_eq_true, beq_iff_eq] at hf
    obtain ⟨⟨rfl, h1⟩, h2⟩ := hf
    have hx := hsz (i, x) (by simp)
    have e1 : (i + 1) * z = i * z + z := by rw [Nat.add_mul, Nat.one_mul]
    have e2 : (i + ((i, x) :: ps).length) * z = (i + 1 + ps.length) * z := by simp only [List.length_cons]; congr 1; omega
    have e3 : (i + 1) * z ≤ (i + 1 + ps.length) * z := Nat.mul_le_mul_right _ (by omega)
    rw [e2] at hle
    have hfit : i * z + (Act.eval ⟨tm, ds⟩ x).cells.size ≤ c.size := by dsimp only at hx; omega
    have hfold := foldl_set0 c (i * z) _ hfit
    generalize hC : (Act.eval ⟨tm, ds⟩ x).cells.zipIdx.foldl (fun cs (p : Value × Nat) => cs.setIfInBounds (i * z + p.2) p.1) c = C at hfold
    have hCs : C.size = c.size := by
      rw [← Array.length_toList, hfold]
      simp only [List.length_append, List.length_take, List.length_drop, Array.length_toList]
      omega
    obtain ⟨c', h3, h4⟩ := fill_idx hs hz (i + 1) (c := C) h2 (fun p hp => hsz p (by simp [hp])) (by rw [hCs]; exact hle)
    refine ⟨c', ?_, ?_⟩
    · simp only [List.map_cons, Instr.fill]
      rw [if_neg (by dsimp only at hx; simp [hx]; omega), hC]
      exact h3
    · rw [h4, hfold]
      dsimp only at hx
      have hl : (c.toList.take (i * z) ++ (Act.eval ⟨tm, ds⟩ x).cells.toList).length = (i + 1) * z := by simp; omega
      rw [List.take_append_of_le_length (by omega), List.take_of_length_le (by omega)]
      rw [List.drop_append, hl, List.drop_of_length_le (l := c.toList.take (i * z) ++ (Act.eval ⟨tm, ds⟩ x).cells.toList) (by rw [hl]; exact e3), List.nil_append, List.drop_drop]
      rw [e2, List.flatMap_cons]
      simp only [List.append_assoc]
      congr 3
      rw [hx]
      congr 1
      omega
  | [], _ :: _, _, _, hf, _, _ => by simp [fitIdx] at hf
  | _ :: _, [], _, _, hf, _, _ => by simp [fitIdx] at hf

theorem fitIdx_vals (hs : ERel G w L σ.e tm) : ∀ {ps : List (Nat × Operand)} {ys : List Opd} {i : Nat} {vs : List V}, fitIdx i ps ys = true → σ.vals ys = some vs → VRs G w vs (ps.map fun p => Act.eval ⟨tm, ds⟩ p.2)
  | [], [], _, vs, _, hv => by cases hv; exact .nil
  | (j, x) :: ps, y :: ys, i, vs, hf, hv => by
    simp only [fitIdx, Bool.and_eq_true, beq_iff_eq] at hf
    simp only [St.vals, Option.bind_eq_some_iff] at hv
    obtain ⟨v, hv1, vs', hv2, e⟩ := hv
    cases e
    exact .cons _ _ _ _ (val_ok hs hf.1.2 hv1) (fitIdx_vals hs hf.2 hv2)
  | [], _ :: _, _, _, hf, _ => by simp [fitIdx] at hf
  | _ :: _, [], _, _, hf, _ => by simp [fitIdx] at hf

theorem fitIdx_len : ∀ {ps : List (Nat × Operand)} {ys : List Opd} {i : Nat}, fitIdx i ps ys = true → ps.length = ys.length
  | [], [], _, _ => rfl
  | (j, x) :: ps, y :: ys, i, hf => by
    simp only [fitIdx, Bool.and_eq_true] at hf
    simp [fitIdx_len hf.2]
  | [], _ :: _, _, hf => by simp [fitIdx] at hf
  | _ :: _, [], _, hf => by simp [fitIdx] at hf

theorem vals_len {ys : List Opd} : ∀ {vs : List V}, σ.vals ys = some vs → vs.length = ys.length := by
  induction ys with
  | nil => intro vs h; cases h; rfl
  | cons y ys ih =>
    intro vs h
    simp only [St.vals, Option.bind_eq_some_iff] at h
    obtain ⟨v, _, vs', h2, e⟩ := h
    cases e
    simp [ih h2]

/-- A slice's literal, in the model. -/
theorem run_buildSlice (hs : ERel G w L σ.e tm) {t : TypeId} {n : Nat} {ps : Array (Nat × Operand)} {z : Nat} {ys : List Opd}
    (hf : ((match elemT P t with | some e => sizeT P e == some z && (((P.info? e).bind (·.zero)).any fun v => v.cells.size == z) | none => false) && 0 < z && n == ys.length && n * z ≤ 16777216 && fitIdx 0 ps.toList ys) = true)
    {vs : List V} (hv : σ.vals ys = some vs) (hall : vs.all (fun v => v.cells.length == z) = true) :
    ∃ e c, (Instr.buildSlice t n (ps.map fun (i, x) => (i, Act.eval ⟨tm, ds⟩ x))).run P w = .ok (.slice (some ⟨w.heap.size, 0, none⟩) n n) (pushB w (.cells c e)) ∧ CRs G w (vs.flatMap V.cells) c.toList ∧ n = vs.length ∧ 0 < z ∧
      c.size = n * z := by
  simp only [Bool.and_eq_true, decide_eq_true_eq, beq_iff_eq] at hf
  obtain ⟨⟨⟨⟨ht, hz⟩, hn⟩, hmax⟩, hidx⟩ := hf
  split at ht
  · rename_i e he
    have hu := elemT_ok he
    simp only [Bool.and_eq_true, beq_iff_eq] at ht
    obtain ⟨hsz, hzero⟩ := ht
    cases hzv : (P.info? e).bind (·.zero) with
    | none => rw [hzv] at hzero; cases hzero
    | some zv =>
      rw [hzv] at hzero
      have hzs : zv.cells.size = z := by simpa using hzero
      have hvr := fitIdx_vals (ds := ds) hs hidx hv
      have hlen := vals_len hv
      obtain ⟨hcr, hall2⟩ := flat_CRs hz hvr (fun v hv => by simpa using List.all_eq_true.1 hall v hv)
      have hpl := fitIdx_len hidx
      have hvn : n = vs.length := by omega
      have hnp : (0 + ps.toList.length) * z = n * z := by congr 1; omega
      let c0 : Array Value := (Array.range (n * z)).map (fun i => zv.cells[i % zv.cells.size]!)
      obtain ⟨c', h1, h2⟩ := fill_idx (ds := ds) hs hz 0 (c := if n * z = 0 then (Array.range (n * z)).map (fun i => (#[] : Array Value)[i % 0]!) else c0) hidx (fun p hp => hall2 _ (List.mem_map.2 ⟨p, hp, rfl⟩)) (by rw [hnp]; split <;> simp [c0])
      have hc' : c'.toList = (ps.toList.map fun p => Act.eval ⟨tm, ds⟩ p.2).flatMap fun x => x.cells.toList := by
        rw [h2]
        simp only [Nat.zero_mul, List.take_zero, List.nil_append, List.flatMap_map]
        rw [List.drop_of_length_le, List.append_nil]
        rw [hnp]; split <;> simp [c0]
      refine ⟨e, c', ?_, by rw [hc']; exact hcr, hvn, hz, ?_⟩
      · have hlist : (ps.map fun (p : Nat × Operand) => (p.1, Act.eval ⟨tm, ds⟩ p.2)).toList = ps.toList.map fun p => (p.1, Act.eval ⟨tm, ds⟩ p.2) := by simp
        have hnot : ¬ n * z > 2 ^ 24 := by
          have : (2 : Nat) ^ 24 = 16777216 := rfl
          omega
        simp only [Instr.buildSlice, Sem.run_bind, run_underlying hu, Result.andThen_ok, run_sizeT hsz, if_neg hnot, hlist]
        by_cases h0 : n * z = 0
        · rw [if_pos h0] at h1
          simp only [if_pos h0, Sem.run_pure, Result.andThen_ok, Sem.run_bind]
          rw [show (#[] : Array Value).size = 0 from rfl, h1]
          simp [run_newRow]
        · rw [if_neg h0] at h1
          simp only [if_neg h0, Sem.run_bind, run_zeroT hzv, Result.andThen_ok, Sem.run_pure]
          rw [h1]
          simp [run_newRow]
      · have := congrArg List.length hc'
        have h3 := flat_len (l := vs) (s := z) (fun v hv => by simpa using List.all_eq_true.1 hall v hv)
        have h4 := hcr.length
        simp only [Array.length_toList] at this
        rw [this, ← h4, h3, hvn]
  · cases ht

theorem bsnap_ok (hs : SR w G L σ tm) {t : TypeId} {n : Nat} {ps : Array (Nat × Operand)} {z : Nat} {ys : List Opd} (hf : fitO P (.buildSlice t n ps) (.bsnap z ys) = true) {r : T} (hx : pureO σ (.bsnap z ys) = some r) :
    Good P ((execOp (Act.eval ⟨tm, ds⟩) ⟨dst, .buildSlice t n ps, ty, pos, af, gd⟩).run P w) w G L σ tm r σ := by
  simp only [fitO] at hf
  simp only [pureO, Option.bind_eq_some_iff] at hx
  obtain ⟨vs, hv, hx⟩ := hx
  split at hx
  · rename_i hall
    cases hx
    obtain ⟨e, c, hr, hcr, hn, hz, _⟩ := run_buildSlice (ds := ds) hs.ev hf hv hall
    obtain ⟨h1, h2⟩ := hs.pushSt (.cells c e)
    refine Good.step (exec_v rfl hr) (.v _ _ ?_) h1 h2
    subst hn
    exact .snap vs w.heap.size 0 z vs.length c.toList (.inr rfl) ⟨c, e, (0, 0), push_new _, fun i _ => by simp⟩ (fun v hv => by simpa using List.all_eq_true.1 hall v hv) (Nat.le_refl _) (CRs.mono (h2.le hs) hcr)
  · cases hx

theorem brow_ok (hs : SR w G L σ tm) {t : TypeId} {n : Nat} {ps : Array (Nat × Operand)} {z : Nat} {ys : List Opd} (hf : fitO P (.buildSlice t n ps) (.brow z ys) = true) {d : Option Nat} {r : T} {σ' : St} (hx : effO σ d (.brow z ys) = some (.ok r σ')) :
    Good P ((execOp (Act.eval ⟨tm, ds⟩) ⟨dst, .buildSlice t n ps, ty, pos, af, gd⟩).run P w) w G L σ tm r σ' := by
  simp only [fitO] at hf
  simp only [effO, Option.bind_eq_some_iff] at hx
  obtain ⟨vs, hv, hx⟩ := hx
  split at hx
  · rename_i hc
    simp only [Option.map_eq_some_iff] at hx
    obtain ⟨⟨id, σ1⟩, hn', e⟩ := hx
    cases e
    have hall := hc.1
    obtain ⟨e, c, hr, hcr, hn, hz, hsize⟩ := run_buildSlice (ds := ds) hs.ev hf hv hall
    have hl : ∀ v ∈ vs, v.cells.length = z := fun v hv => by simpa using List.all_eq_true.1 hall v hv
    obtain ⟨h1, h2⟩ := newH_row hs hn' (c := c) (el := e) (fr := (0, 0)) (s := z) (cap := n) (by omega) (by omega) hl hz (by rw [List.take_of_length_le (by simp; rw [hsize, hn]; exact Nat.le_refl _)]; exact hcr) (fun o _ hh => by omega)
    refine Good.step (exec_v rfl hr) (.v _ _ ?_) h1 h2
    subst hn
    have hget : (G.setRw id 0 ⟨w.heap.size, 0, z, vs.length⟩).rw id 0 = some ⟨w.heap.size, 0, z, vs.length⟩ := by
      show (if id = id ∧ 0 = 0 then _ else _) = _; rw [if_pos ⟨rfl, rfl⟩]
    exact .sl id 0 0 vs.length vs.length _ _ hget (Nat.le_refl _) (by simp) (.inr (by simp))
  · cases hx

theorem cycle_eq (zs : List Value) (hz : 0 < zs.length) : ∀ c : Nat, (List.range (c * zs.length)).map (fun i => zs.toArray[i % zs.length]!) = (List.replicate c zs).flatten
  | 0 => by simp
  | c + 1 => by
    rw [Nat.add_mul, Nat.one_mul, List.range_add, List.map_append, cycle_eq zs hz c, List.replicate_succ', List.flatten_append]
    congr 1
    simp only [List.map_map, List.flatten_cons, List.flatten_nil, List.append_nil]
    apply List.ext_getElem?
    intro i
    by_cases hi : i < zs.length
    · have hm : (c * zs.length + i) % zs.length = i := by rw [Nat.add_comm, Nat.add_mul_mod_self_right, Nat.mod_eq_of_lt hi]
      simp [hi, hm]
    · rw [List.getElem?_eq_none (by simp; omega), List.getElem?_eq_none (by omega)]

theorem mkslice_ok (hs : SR w G L σ tm) {t : TypeId} {l c : Operand} {slot : Option Nat} {bytes z : Nat} {zero : V} {l' c' : Opd} (hf : fitO P (.makeSlice t l c) (.mkslice slot bytes z zero l' c') = true) {d : Option Nat} {r : T} {σ' : St}
    (hx : effO σ d (.mkslice slot bytes z zero l' c') = some (.ok r σ')) :
    Good P ((execOp (Act.eval ⟨tm, ds⟩) ⟨dst, .makeSlice t l c, ty, pos, af, gd⟩).run P w) w G L σ tm r σ' := by
  simp only [fitO, Bool.and_eq_true] at hf
  obtain ⟨⟨ht, h1⟩, h2⟩ := hf
  split at ht
  · rename_i e he
    have hu := elemT_ok he
    simp only [Bool.and_eq_true, beq_iff_eq] at ht
    obtain ⟨⟨hsz, hby⟩, hzero⟩ := ht
    cases hzv : (P.info? e).bind (·.zero) with
    | none => rw [hzv] at hzero; cases hzero
    | some zv =>
      rw [hzv] at hzero
      simp only [Option.any_some, Bool.and_eq_true, beq_iff_eq] at hzero
      obtain ⟨hzf, hzs⟩ := hzero
      have hzvr : VR G w zero zv := fitV_VR hzf
      obtain ⟨i, hi, hib⟩ := Option.map_eq_some_iff.1 hby
      simp only [effO] at hx
      split at hx
      · rename_i k1 n k2 m hvl hvc
        split at hx
        · rename_i hb
          obtain ⟨b1, b2, b3, b4, b5, b6⟩ := hb
          simp only [Option.map_eq_some_iff] at hx
          obtain ⟨⟨id, σ1⟩, hn', e2⟩ := hx
          cases e2
          have el := asInt_ok (ds := ds) hs.ev h1 hvl
          have ec := asInt_ok (ds := ds) hs.ev h2 hvc
          have hfar : (far : Int) = 4294967296 := rfl
          have hcz : zero.cells ≠ [] := by intro e; rw [e] at b5; simp at b5; omega
          have hcr := hzvr.cells hcz
          have hm0 : 0 ≤ m := by omega
          obtain ⟨M, rfl⟩ := Int.eq_ofNat_of_zero_le hm0
          obtain ⟨N, rfl⟩ := Int.eq_ofNat_of_zero_le b1
          simp only [Int.toNat_natCast] at hn' ⊢
          have hNM : N ≤ M := by omega
          have hMfar : M < 4294967296 := by omega
          have hMb : M * bytes < 4294967296 := by have : ((M * bytes : Nat) : Int) < 4294967296 := by push_cast; omega
                                                  omega
          have wN : IntKind.i64.wrap (N : Int) = (N : Int) := by simp only [IntKind.wrap, IntKind.bits, IntKind.signed]; simp; omega
          have wM : IntKind.i64.wrap (M : Int) = (M : Int) := by simp only [IntKind.wrap, IntKind.bits, IntKind.signed]; simp; omega
          let cells : Array Value := (Array.range (M * z)).map (fun i => zv.cells[i % zv.cells.size]!)
          have hcells : cells.toList = (List.replicate M zv.cells.toList).flatten := by
            have := cycle_eq zv.cells.toList (by simp; omega) M
            simp only [Array.length_toList, hzs] at this
            rw [← this]
            simp [cells, hzs]
          have hflat : (List.replicate N zero).flatMap V.cells = (List.replicate N zero.cells).flatten := by simp [List.flatMap]
          have hrep : ∀ n, CRs G w (List.replicate n zero.cells).flatten (List.replicate n zv.cells.toList).flatten := by
            intro n
            induction n with
            | zero => simpa using CRs.nil
            | succ n ih => rw [List.replicate_succ, List.replicate_succ, List.flatten_cons, List.flatten_cons]; exact hcr.append ih
          have hlenz : zv.cells.toList.length = z := by simpa using hzs
          obtain ⟨h3, h4⟩ := newH_row hs hn' (c := cells) (el := e) (fr := (0, 0)) (s := z) (cap := M) (by simp [cells]) (by simpa using hNM) (fun v hv => by rw [List.eq_of_mem_replicate hv]; exact b5) b6 (by
            rw [hflat, hcells, List.length_replicate]
            have : (List.replicate M zv.cells.toList).flatten.take (N * z) = (List.replicate N zv.cells.toList).flatten := by
              obtain ⟨k, rfl⟩ : ∃ k, M = N + k := ⟨M - N, by omega⟩
              rw [← List.replicate_append_replicate, List.flatten_append, List.take_append_of_le_length (by simp [hzs]), List.take_of_length_le (by simp [hzs])]
            rw [this]; exact hrep N) (fun o _ hh => by omega)
          have hget : (G.setRw id 0 ⟨w.heap.size, 0, z, M⟩).rw id 0 = some ⟨w.heap.size, 0, z, M⟩ := by
            show (if id = id ∧ 0 = 0 then _ else _) = _; rw [if_pos ⟨rfl, rfl⟩]
          refine Good.step (v := .slice (some ⟨w.heap.size, 0, none⟩) N M) (exec_v rfl ?_) (.v _ _ (.sl id 0 0 N M _ _ hget hNM (by simp) (.inr (by simp)))) h3 h4
          have hp48 : (2 : Int) ^ 48 = 281474976710656 := rfl
          have hlarge : ∀ q : Nat, q ≤ M → ¬ (decide ((q : Int) < 0) || decide ((bytes : Int) * (q : Int) > 2 ^ 48)) = true := by
            intro q hq
            have : q * bytes ≤ M * bytes := Nat.mul_le_mul_right _ hq
            simp only [Bool.or_eq_true, decide_eq_true_eq, not_or]
            refine ⟨by omega, ?_⟩
            rw [hp48]
            have : (bytes : Int) * (q : Int) = ((q * bytes : Nat) : Int) := by push_cast; rw [Int.mul_comm]
            omega
          have l1 := hlarge M (Nat.le_refl _)
          have cond : ¬ ((decide ((M : Int) < 0) || decide ((bytes : Int) * (M : Int) > 2 ^ 48) || decide ((N : Int) < 0) || decide ((N : Int) > (M : Int))) = true) := by
            intro h
            simp only [Bool.or_eq_true, decide_eq_true_eq] at h l1
            rcases h with (h | h) | h
            · exact l1 h
            · omega
            · omega
          simp only [Instr.makeSlice, Sem.run_bind, run_underlying hu, Result.andThen_ok, el, ec, asInt, asIntOf, Sem.run_pure, typeInfo, run_program, hi, hib, wN, wM]
          rw [if_neg cond]
          simp only [Sem.run_bind, run_askRoom, Result.andThen_ok, run_sizeT hsz, Int.toNat_natCast]
          by_cases h0 : M * z = 0
          · simp only [if_pos h0, Sem.run_bind, Sem.run_pure, Result.andThen_ok, run_newRow]
            have : Array.map (fun x => (#[] : Array Value)[x % (#[] : Array Value).size]!) (Array.range (M * z)) = cells := by simp [cells, h0]
            rw [this]
          · simp only [if_neg h0, Sem.run_bind, Sem.run_pure, Result.andThen_ok, run_newRow, run_zeroT hzv]
            rfl
        · cases hx
      · cases hx
  · cases ht

/-! ### texts as bytes, and back -/

theorem bytes_CRs : ∀ l : List UInt8, CRs G w (bytesV l) (l.map fun b => Value.int .u8 (b.toNat : Int))
  | [] => .nil
  | b :: l => .cons _ _ _ _ trivial trivial (.int _ _) (bytes_CRs l)

theorem bytes_flat (l : List UInt8) : (bytesV l).flatMap V.cells = bytesV l := by
  induction l with
  | nil => rfl
  | cons b l ih => show (V.int .u8 b.toNat).cells ++ (bytesV l).flatMap V.cells = _; rw [ih]; rfl

/-- What the world has drawn tells nothing of memory. -/
theorem SR.draw (hs : SR w G L σ tm) {w' : World} (h : w' = { w with drawn := w'.drawn }) : SR w' G L σ tm ∧ Ext w G L σ w' G L σ := by
  have e1 : w'.heap = w.heap := by rw [h]
  have hle : Le G w G w' := ⟨fun _ h => h, fun B _ => by rw [e1], fun _ _ h => h, fun _ _ _ h => h⟩
  refine ⟨⟨hs.hp.keep hle (by rw [e1]; exact Nat.le_refl _) (fun B hB => ⟨by rw [e1]; exact hs.hp.stl B hB, fun id e => hs.hp.ost id B e hB⟩) (fun _ => ⟨rfl, fun _ => rfl⟩) (fun id B _ => by rw [e1]),
    ⟨fun d g cs hd => by obtain ⟨B, h1, h2, h3, h4⟩ := hs.lc.obj d g cs hd; exact ⟨B, h1, h2.mono hle (by rw [e1]), h3, h4⟩, hs.lc.inj, hs.lc.fresh⟩, fun t => (hs.ev t).mono hle fun _ _ _ h => h⟩, ?_⟩
  exact ⟨by rw [h], by rw [h], by rw [h], by rw [e1]; exact Nat.le_refl _, fun B _ _ _ => by rw [e1], fun _ h => h, fun _ _ h => h, fun _ _ _ h => h, fun _ _ _ h => h, fun _ h => .inl h, fun id B h => .inl ⟨id, h⟩, fun d g cs B h1 h2 => .inl ⟨d, g, cs, h1, h2⟩⟩

theorem cvSB_ok (hs : SR w G L σ tm) {s d : TypeId} {x : Operand} {y : Opd} (hf : fitO P (.convert s d x) (.cvSB y) = true) {dd : Option Nat} {r : T} {σ' : St} (hx : effO σ dd (.cvSB y) = some (.ok r σ')) :
    Good P ((execOp (Act.eval ⟨tm, ds⟩) ⟨dst, .convert s d x, ty, pos, af, gd⟩).run P w) w G L σ tm r σ' := by
  simp only [fitO, Bool.and_eq_true] at hf
  obtain ⟨⟨h0, hd⟩, h1⟩ := hf
  obtain ⟨sd, hsd⟩ := und h0
  split at hd
  · rename_i e hu
    have hue : P.underlying e = some (.int .u8) := by
      revert hd; cases P.underlying e with
      | none => intro h; cases h
      | some q => cases q <;> intro h <;> first | (cases h; done) | skip
                  rename_i k; cases k <;> first | rfl | (cases h; done)
    simp only [effO] at hx
    split at hx
    · rename_i str hv
      simp only [Option.map_eq_some_iff] at hx
      obtain ⟨⟨id, σ1⟩, hn, e2⟩ := hx
      cases e2
      obtain ⟨b, eb, hb⟩ := (val_ok (ds := ds) hs.ev h1 hv).inv_str
      subst hb
      have hq : (Question.appendCap b.size 0 e).forced = false := rfl
      generalize hcap : (Question.appendCap b.size 0 e).cut (w.tape w.drawn (.appendCap b.size 0 e)) = cap
      have hcap2 : b.size ≤ cap := by rw [← hcap]; simp only [Question.cut]; omega
      let w1 : World := { w with drawn := w.drawn + 1 }
      obtain ⟨hs1, hx1⟩ := hs.draw (w' := w1) rfl
      let cells : Array Value := b.data.map (fun b => .int .u8 b.toNat) ++ Array.replicate (cap - b.size) (.int .u8 0)
      have hsz : cells.size = cap := by have : b.data.size = b.size := rfl
                                        simp only [cells, Array.size_append, Array.size_map, Array.size_replicate]; omega
      have hbl : (bytesV b.data.toList).length = b.size := by simp [bytesV]
      have hnof : NoFr (cap, cap + 1) cells.size := fun o ho hh => by rw [hsz] at ho; omega
      obtain ⟨h3, h4⟩ := newH_row hs1 hn (c := cells) (el := e) (fr := (cap, cap + 1)) (s := 1) (cap := cap) (by omega) (by omega) (fun v hv => by
        obtain ⟨q, _, rfl⟩ := List.mem_map.1 hv; rfl) (by omega) (by
        rw [bytes_flat, hbl, Nat.mul_one]
        have : cells.toList.take b.size = b.data.toList.map fun b => Value.int .u8 (b.toNat : Int) := by
          simp only [cells, Array.toList_append, Array.toList_map]
          exact List.take_left' (by simp)
        rw [this]; exact bytes_CRs _) hnof
      have hget : (G.setRw id 0 ⟨w1.heap.size, 0, 1, cap⟩).rw id 0 = some ⟨w1.heap.size, 0, 1, cap⟩ := by
        show (if id = id ∧ 0 = 0 then _ else _) = _; rw [if_pos ⟨rfl, rfl⟩]
      have hlen : b.data.toList.length = b.size := rfl
      refine Good.step (v := .slice (some ⟨w1.heap.size, 0, none⟩) b.size cap) (exec_v rfl ?_) (.v _ _ (by show VR _ _ (.sl id 0 1 0 b.size) _; exact .sl id 0 0 b.size cap _ _ hget hcap2 (by simp) (.inr (by simp)))) h3 (hx1.trans h4)
      have hfreeze : (pushB w1 (.cells cells e)).freeze { block := w1.heap.size, off := cap } 1 = pushB w1 (.cells cells e (cap, cap + 1)) := by
        unfold World.freeze pushB
        simp only [Nat.one_ne_zero, if_false]
        congr 1
        apply Array.ext_getElem?
        intro i
        simp only [Array.getElem?_modify, Array.getElem?_push]
        by_cases ei : w1.heap.size = i
        · subst ei; simp
        · rw [if_neg ei, if_neg (Ne.symm ei)]
          rw [if_neg (Ne.symm ei)]
      have hshape : (pushB w1 (.cells cells e)).shape? w1.heap.size = some (e, cap) := by
        unfold World.shape?; rw [push_new]; simp [hsz]
      rw [eb]
      simp only [convert, Sem.run_bind, run_underlying hsd, run_underlying hu, run_underlying hue, Result.andThen_ok]
      have hconv : (Conv.stringToBytes e b).run P w = .ok (.slice (some ⟨w1.heap.size, 0, none⟩) b.size cap) (pushB w1 (.cells cells e (cap, cap + 1))) := by
        simp only [Conv.stringToBytes, Sem.run_bind, run_choose, hq, Bool.false_eq_true, if_false, Result.andThen_ok, hcap, run_newRow, markStringish, run_shape]
        have hs2 : (pushB { heap := w.heap, tape := w.tape, drawn := w.drawn + 1, os := w.os, output := w.output } (Obj.cells (Array.map (fun b => Value.int IntKind.u8 (b.toNat : Int)) b.data ++ Array.replicate (cap - b.size) (Value.int IntKind.u8 0)) e)).shape? w.heap.size = some (e, cap) := hshape
        rw [hs2]
        simp only [run_freeze, Result.andThen_ok, Sem.run_pure]
        exact congrArg _ hfreeze
      cases sd <;> exact hconv
    · cases hx
  · cases hd

theorem lenMap_ok (hs : SR w G L σ tm) {args : Array Operand} {ts : Array TypeId} {tk : Nat} {y : Opd} (hf : fitO P (.call ⟨.builtin .len, args, ts⟩) (.len tk y) = true) {r : T} (hx : readO σ (.len tk y) = some r) :
    Good P ((execOp (Act.eval ⟨tm, ds⟩) ⟨dst, .call ⟨.builtin .len, args, ts⟩, ty, pos, af, gd⟩).run P w) w G L σ tm r σ := by
  simp only [fitO] at hf
  simp only [readO] at hx
  split at hf
  · rename_i x t ea et
    have ea' : args = #[x] := by apply Array.ext'; simpa using ea
    have et' : ts = #[t] := by apply Array.ext'; simpa using et
    subst ea'; subst et'
    simp only [Bool.and_eq_true] at hf
    obtain ⟨hu, h1⟩ := hf
    split at hx
    · rename_i id hv
      split at hx
      · rename_i es clock hid
        cases hx
        obtain ⟨B, es', hB, hheap, her⟩ := hs.hp.obj _ _ hid
        obtain ⟨B', hB', e⟩ := (val_ok (ds := ds) hs.ev h1 hv).inv_map
        rw [hB] at hB'; cases hB'
        have hq : ∃ q q', P.underlying t = some (.map q q') := by
          revert hu; cases P.underlying t with
          | none => intro h; cases h
          | some d => cases d <;> intro h <;> first | exact ⟨_, _, rfl⟩ | (cases h; done)
        obtain ⟨q, q', hq⟩ := hq
        have hget : (getObj B).run P w = .ok (.map es' clock) w := by simp [getObj, Sem.run, hheap]
        have hlen : es'.size = es.length := by
          have : ∀ {a : List (V × V × Nat)} {b : List MapEntry}, ER G w a b → b.length = a.length := by
            intro a b h
            induction h with
            | nil => rfl
            | cons _ _ _ _ _ _ _ _ _ _ ih => simp [ih]
          have := this her; simpa using this
        refine Good.same (v := .int .i64 (es.length : Int)) hs ?_ (.v _ _ (.int _ _))
        simp [execOp, resolve, invoke, builtin, Builtin.len_, run_underlying hq, goInt, e, hget, hlen]
      · cases hx
    · cases hx
  · cases hf

theorem unbytes_ok : ∀ {l : List V} {s : List UInt8} {xs : List Value}, unbytes l = some s → CRs G w l xs → ∃ ns : List Int, xs = ns.map (Value.int .u8) ∧ s = ns.map fun n => UInt8.ofNat n.toNat
  | [], s, xs, h, hc => by cases h; cases hc; exact ⟨[], rfl, rfl⟩
  | v :: l, s, xs, h, hc => by
    cases hc with
    | cons _ x _ xs _ _ hv hs =>
      unfold unbytes at h
      split at h
      · rename_i e; cases e
      · rename_i n r e
        cases e
        simp only [Option.bind_eq_some_iff] at h
        obtain ⟨s', h1, h2⟩ := h
        split at h2
        · cases h2
          obtain ⟨ns, rfl, rfl⟩ := unbytes_ok h1 hs
          have := hv.inv_int
          subst this
          exact ⟨n :: ns, rfl, rfl⟩
        · cases h2
      · cases h

theorem elems_ok (hs : SR w G L σ tm) {v : V} {x : Value} (hv : VR G w v x) {l : List V} (h : σ.elems v = some l) :
    ∃ base cap, x = .slice base l.length cap ∧ l.length ≤ cap ∧ (l = [] ∨ ∃ B off xs s, base = some ⟨B, off, none⟩ ∧ cellsIn w B off xs ∧ CRs G w (l.flatMap V.cells) xs ∧ ∀ v ∈ l, v.cells.length = s) := by
  unfold St.elems at h
  split at h
  · cases h; exact ⟨_, _, hv.inv_nils, Nat.le_refl _, .inl rfl⟩
  · cases h
    rcases hv.inv_snap with ⟨rfl, a, c, e⟩ | ⟨B, off, s, cap, xs, _, h2, h3, h4, h5, e⟩
    · exact ⟨a, c, e, Nat.zero_le _, .inl rfl⟩
    · exact ⟨_, cap, e, h4, .inr ⟨B, off, xs, s, rfl, h2, h5, h3⟩⟩
  · rename_i id ver s off len
    split at h
    · rename_i ver' row hm
      split at h
      · rename_i hc
        obtain ⟨rfl, hle⟩ := hc
        cases h
        obtain ⟨r, a, cap, hr, rfl, h1, h2, ha, e⟩ := hv.inv_sl
        obtain ⟨r', hr', _, hor⟩ := hs.hp.obj _ _ hm
        rw [hr] at hr'; cases hr'
        obtain ⟨xs, hci, hcr, hl⟩ := hor.cellsIn
        have hlen : ((row.drop off).take len).length = len := by simp; omega
        refine ⟨some a, cap, by rw [hlen]; exact e, by rw [hlen]; exact h1, ?_⟩
        by_cases h0 : len = 0
        · left; subst h0; simp
        · right
          have ha' := ha.resolve_left (by omega)
          subst ha'
          refine ⟨r.B, _, _, r.s, rfl, (hci.drop (off * r.s)).take (len * r.s), ?_, fun v hv => hl v (List.mem_of_mem_drop (List.mem_of_mem_take hv))⟩
          rw [flat_take _ (fun v hv => hl v (List.mem_of_mem_drop hv)), flat_drop _ hl]
          exact (hcr.drop _).take _
      · cases h
    · cases h
  · cases h

theorem foldl_push : ∀ (ns : List Int) (b : ByteArray), (ns.foldl (fun r n => r.push (UInt8.ofNat n.toNat)) b).data.toList = b.data.toList ++ ns.map fun n => UInt8.ofNat n.toNat
  | [], b => by simp
  | n :: ns, b => by rw [List.foldl_cons, foldl_push ns]; simp

theorem cvBS_ok (hs : SR w G L σ tm) {s d : TypeId} {x : Operand} {y : Opd} (hf : fitO P (.convert s d x) (.cvBS y) = true) {r : T} (hx : readO σ (.cvBS y) = some r) :
    Good P ((execOp (Act.eval ⟨tm, ds⟩) ⟨dst, .convert s d x, ty, pos, af, gd⟩).run P w) w G L σ tm r σ := by
  simp only [fitO, Bool.and_eq_true] at hf
  obtain ⟨⟨hsd, hd⟩, h1⟩ := hf
  split at hsd
  · rename_i e hu
    have hue : P.underlying e = some (.int .u8) := by
      revert hsd; cases P.underlying e with
      | none => intro h; cases h
      | some q => cases q <;> intro h <;> first | (cases h; done) | skip
                  rename_i k; cases k <;> first | rfl | (cases h; done)
    have hud : P.underlying d = some .string := by
      revert hd; cases P.underlying d with
      | none => intro h; cases h
      | some q => cases q <;> intro h <;> first | rfl | (cases h; done)
    simp only [readO] at hx
    split at hx
    · rename_i v hv
      simp only [Option.bind_eq_some_iff, Option.map_eq_some_iff] at hx
      obtain ⟨l, hl, str, hstr, rfl⟩ := hx
      obtain ⟨base, cap, ex, hle, hcase⟩ := elems_ok hs (val_ok (ds := ds) hs.ev h1 hv) hl
      have conv : ∀ b : ByteArray, b.data.toList = str → (Conv.bytesToString (.slice base l.length cap)).run P w = .ok (.string b) w →
          Good P ((execOp (Act.eval ⟨tm, ds⟩) ⟨dst, .convert s d x, ty, pos, af, gd⟩).run P w) w G L σ tm (.v (.str str)) σ := by
        intro b hb hr
        refine Good.same (v := .string b) hs (exec_v rfl ?_) (.v _ _ (.str _ _ hb))
        rw [ex]
        simp [convert, run_underlying hu, run_underlying hud, run_underlying hue, hr]
      rcases hcase with rfl | ⟨B, off, xs, s', rfl, hci, hcr, hlen⟩
      · cases hstr
        cases base with
        | none => exact conv .empty rfl (by simp [Conv.bytesToString])
        | some a =>
          refine conv .empty rfl ?_
          have := run_bytesToString (P := P) w a 0 cap [] (by simp [loadCells, loadCellsFrom])
          simpa using this
      · have hcells : l.flatMap V.cells = l := by
          have : ∀ (l : List V) (s : List UInt8), unbytes l = some s → l.flatMap V.cells = l := by
            intro l
            induction l with
            | nil => intro _ _; rfl
            | cons v l ih =>
              intro s h
              unfold unbytes at h
              split at h
              · rename_i e; cases e
              · rename_i n r e; cases e
                simp only [Option.bind_eq_some_iff] at h
                obtain ⟨s', h1, _⟩ := h
                rw [List.flatMap_cons, ih s' h1]; rfl
              · cases h
          exact this l str hstr
        rw [hcells] at hcr
        obtain ⟨ns, rfl, rfl⟩ := unbytes_ok hstr hcr
        have hll := hcr.length
        refine conv _ ?_ (run_bytesToString (P := P) w ⟨B, off, none⟩ l.length cap ns ?_)
        · rw [foldl_push]; simp
        · rw [hll]
          exact run_loadCells_list w _ _ (fun j v hj => by rw [add_none]; exact cell_of hci hj)
    · cases hx
  · cases hsd

end
end Go.Vm
