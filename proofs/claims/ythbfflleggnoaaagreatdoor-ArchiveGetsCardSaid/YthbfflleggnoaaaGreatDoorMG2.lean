/- Literals of slices, make, texts as bytes, and back. Maps written; append, copy, clear. Copy. Loads and stores at addresses of which something is said; type assertions; rows of zeros behind nil. A local array that is a slice from then on, only read. The VM is right: operations. The VM is right: regions and code. The VM is right: orders that are drawn; code. The VM is right: what a call leaves. The VM is right: calls. The VM is right: calls; a deferred closure that recovers. The VM is right: its answers are the model's. From a row's hypothesis to the VM's arguments; from the VM's answer to a row. A row of the VM's answer. -/
import Derived.Test.YthbfflleggnoaaaGreatDoorMG1
import Derived.Orders
import Derived.Recover
import Derived.ProofKit
import Derived.OpenShut
section
set_option linter.unusedSimpArgs false
set_option linter.unusedVariables false
namespace Go.Vm
open Go Go.RowKit

section
variable {P : Program} {G : Gh} {w : World} {L : Lm} {σ : St} {tm : Array Value} {ds : List Deferred}
variable {dst : Option Tmp} {ty : TypeId} {pos : String} {af : Array Edge} {gd : Option (Nat × Bool)}

/-- The cells of values of one size. -/
theorem flat_CRs {z : Nat} (hz : 0 < z) : ∀ {vs : List V} {xs : List Value}, VRs G w vs xs → (∀ v ∈ vs, v.cells.length = z) → CRs G w (vs.flatMap V.cells) (xs.flatMap fun x => x.cells.toList) ∧ ∀ x ∈ xs, x.cells.size = z
  | [], _, h, _ => by cases h; exact ⟨.nil, fun _ h => by cases h⟩
  | v :: vs, _, h, hl => by
    cases h with
    | cons _ x _ xs h hs =>
      have hv := hl v (by simp)
      have hc := h.cells (by intro e; rw [e] at hv; simp at hv; omega)
      obtain ⟨h1, h2⟩ := flat_CRs hz hs (fun u hu => hl u (by simp [hu]))
      refine ⟨by rw [List.flatMap_cons, List.flatMap_cons]; exact hc.append h1, fun y hy => ?_⟩
      rcases List.mem_cons.1 hy with rfl | hy
      · have := hc.length; simp at this; omega
      · exact h2 y hy

theorem fill_idx (hs : ERel G w L σ.e tm) {z : Nat} (hz : 0 < z) : ∀ {ps : List (Nat × Operand)} {ys : List Opd} (i : Nat) {c : Array Value}, fitIdx i ps ys = true →
    (∀ p ∈ ps, (Act.eval ⟨tm, ds⟩ p.2).cells.size = z) → (i + ps.length) * z ≤ c.size →
    ∃ c', Instr.fill (fun i => some (i * z, z)) c (ps.map fun p => (p.1, Act.eval ⟨tm, ds⟩ p.2)) = some c' ∧
      c'.toList = c.toList.take (i * z) ++ (ps.flatMap fun p => (Act.eval ⟨tm, ds⟩ p.2).cells.toList) ++ c.toList.drop ((i + ps.length) * z)
  | [], [], i, c, _, _, _ => ⟨c, rfl, by simp⟩
  | (j, x) :: ps, y :: ys, i, c, hf, hsz, hle => by
    simp only [fitIdx, Bool.and_eq_true, beq_iff_eq] at hf
    obtain ⟨⟨rfl, h1⟩, h2⟩ := hf
    have hx := hsz (i, x) (by simp)
    have e1 : (i + 1) * z = i * z + z := by rw [Nat.add_mul, Nat.one_mul]
    have e2 : (i + ((i, x) :: ps).length) * z = (i + 1 + ps.length) * z := by simp only [List.length_cons]; congr 1; omega
    have e3 : (i + 1) * z ≤ (i + 1 + ps.length) * z := Nat.mul_le_mul_right _ (by omega)
    rw [e2] at hle
    have hfit : i * z + (Act.eval ⟨tm, ds⟩ x).cells.size ≤ c.size := by dsimp only at hx; omega
    have hfold := foldl_set0 c (i * z) _ hfit
    generalize hC : (Act.eval ⟨tm, ds⟩ x).cells.zipIdx.foldl (fun cs (p : Value × Nat) => cs.setIfInBounds (i * z + p.2) p.1) c = C at hfold
    have hCs : C.size = c.size := by
      rw [← Array.length_toList, hfold]
      simp only [List.length_append, List.length_take, List.length_drop, Array.length_toList]
      omega
    obtain ⟨c', h3, h4⟩ := fill_idx hs hz (i + 1) (c := C) h2 (fun p hp => hsz p (by simp [hp])) (by rw [hCs]; exact hle)
    refine ⟨c', ?_, ?_⟩
    · simp only [List.map_cons, Instr.fill]
      rw [if_neg (by dsimp only at hx; simp [hx]; omega), hC]
      exact h3
    · rw [h4, hfold]
      dsimp only at hx
      have hl : (c.toList.take (i * z) ++ (Act.eval ⟨tm, ds⟩ x).cells.toList).length = (i + 1) * z := by simp; omega
      rw [List.take_append_of_le_length (by omega), List.take_of_length_le (by omega)]
      rw [List.drop_append, hl, List.drop_of_length_le (l := c.toList.take (i * z) ++ (Act.eval ⟨tm, ds⟩ x).cells.toList) (by rw [hl]; exact e3), List.nil_append, List.drop_drop]
      rw [e2, List.flatMap_cons]
      simp only [List.append_assoc]
      congr 3
      rw [hx]
      congr 1
      omega
  | [], _ :: _, _, _, hf, _, _ => by simp [fitIdx] at hf
  | _ :: _, [], _, _, hf, _, _ => by simp [fitIdx] at hf

theorem fitIdx_vals (hs : ERel G w L σ.e tm) : ∀ {ps : List (Nat × Operand)} {ys : List Opd} {i : Nat} {vs : List V}, fitIdx i ps ys = true → σ.vals ys = some vs → VRs G w vs (ps.map fun p => Act.eval ⟨tm, ds⟩ p.2)
  | [], [], _, vs, _, hv => by cases hv; exact .nil
  | (j, x) :: ps, y :: ys, i, vs, hf, hv => by
    simp only [fitIdx, Bool.and_eq_true, beq_iff_eq] at hf
    simp only [St.vals, Option.bind_eq_some_iff] at hv
    obtain ⟨v, hv1, vs', hv2, e⟩ := hv
    cases e
    exact .cons _ _ _ _ (val_ok hs hf.1.2 hv1) (fitIdx_vals hs hf.2 hv2)
  | [], _ :: _, _, _, hf, _ => by simp [fitIdx] at hf
  | _ :: _, [], _, _, hf, _ => by simp [fitIdx] at hf

theorem fitIdx_len : ∀ {ps : List (Nat × Operand)} {ys : List Opd} {i : Nat}, fitIdx i ps ys = true → ps.length = ys.length
  | [], [], _, _ => rfl
  | (j, x) :: ps, y :: ys, i, hf => by
    simp only [fitIdx, Bool.and_eq_true] at hf
    simp [fitIdx_len hf.2]
  | [], _ :: _, _, hf => by simp [fitIdx] at hf
  | _ :: _, [], _, hf => by simp [fitIdx] at hf

theorem vals_len {ys : List Opd} : ∀ {vs : List V}, σ.vals ys = some vs → vs.length = ys.length := by
  induction ys with
  | nil => intro vs h; cases h; rfl
  | cons y ys ih =>
    intro vs h
    simp only [St.vals, Option.bind_eq_some_iff] at h
    obtain ⟨v, _, vs', h2, e⟩ := h
    cases e
    simp [ih h2]

/-- A slice's literal, in the model. -/
theorem run_buildSlice (hs : ERel G w L σ.e tm) {t : TypeId} {n : Nat} {ps : Array (Nat × Operand)} {z : Nat} {ys : List Opd}
    (hf : ((match elemT P t with | some e => sizeT P e == some z && (((P.info? e).bind (·.zero)).any fun v => v.cells.size == z) | none => false) && 0 < z && n == ys.length && n * z ≤ 16777216 && fitIdx 0 ps.toList ys) = true)
    {vs : List V} (hv : σ.vals ys = some vs) (hall : vs.all (fun v => v.cells.length == z) = true) :
    ∃ e c, (Instr.buildSlice t n (ps.map fun (i, x) => (i, Act.eval ⟨tm, ds⟩ x))).run P w = .ok (.slice (some ⟨w.heap.size, 0, none⟩) n n) (pushB w (.cells c e)) ∧ CRs G w (vs.flatMap V.cells) c.toList ∧ n = vs.length ∧ 0 < z ∧
      c.size = n * z := by
  simp only [Bool.and_eq_true, decide_eq_true_eq, beq_iff_eq] at hf
  obtain ⟨⟨⟨⟨ht, hz⟩, hn⟩, hmax⟩, hidx⟩ := hf
  split at ht
  · rename_i e he
    have hu := elemT_ok he
    simp only [Bool.and_eq_true, beq_iff_eq] at ht
    obtain ⟨hsz, hzero⟩ := ht
    cases hzv : (P.info? e).bind (·.zero) with
    | none => rw [hzv] at hzero; cases hzero
    | some zv =>
      rw [hzv] at hzero
      have hzs : zv.cells.size = z := by simpa using hzero
      have hvr := fitIdx_vals (ds := ds) hs hidx hv
      have hlen := vals_len hv
      obtain ⟨hcr, hall2⟩ := flat_CRs hz hvr (fun v hv => by simpa using List.all_eq_true.1 hall v hv)
      have hpl := fitIdx_len hidx
      have hvn : n = vs.length := by omega
      have hnp : (0 + ps.toList.length) * z = n * z := by congr 1; omega
      let c0 : Array Value := (Array.range (n * z)).map (fun i => zv.cells[i % zv.cells.size]!)
      obtain ⟨c', h1, h2⟩ := fill_idx (ds := ds) hs hz 0 (c := if n * z = 0 then (Array.range (n * z)).map (fun i => (#[] : Array Value)[i % 0]!) else c0) hidx (fun p hp => hall2 _ (List.mem_map.2 ⟨p, hp, rfl⟩)) (by rw [hnp]; split <;> simp [c0])
      have hc' : c'.toList = (ps.toList.map fun p => Act.eval ⟨tm, ds⟩ p.2).flatMap fun x => x.cells.toList := by
        rw [h2]
        simp only [Nat.zero_mul, List.take_zero, List.nil_append, List.flatMap_map]
        rw [List.drop_of_length_le, List.append_nil]
        rw [hnp]; split <;> simp [c0]
      refine ⟨e, c', ?_, by rw [hc']; exact hcr, hvn, hz, ?_⟩
      · have hlist : (ps.map fun (p : Nat × Operand) => (p.1, Act.eval ⟨tm, ds⟩ p.2)).toList = ps.toList.map fun p => (p.1, Act.eval ⟨tm, ds⟩ p.2) := by simp
        have hnot : ¬ n * z > 2 ^ 24 := by
          have : (2 : Nat) ^ 24 = 16777216 := rfl
          omega
        simp only [Instr.buildSlice, Sem.run_bind, run_underlying hu, Result.andThen_ok, run_sizeT hsz, if_neg hnot, hlist]
        by_cases h0 : n * z = 0
        · rw [if_pos h0] at h1
          simp only [if_pos h0, Sem.run_pure, Result.andThen_ok, Sem.run_bind]
          rw [show (#[] : Array Value).size = 0 from rfl, h1]
          simp [run_newRow]
        · rw [if_neg h0] at h1
          simp only [if_neg h0, Sem.run_bind, run_zeroT hzv, Result.andThen_ok, Sem.run_pure]
          rw [h1]
          simp [run_newRow]
      · have := congrArg List.length hc'
        have h3 := flat_len (l := vs) (s := z) (fun v hv => by simpa using List.all_eq_true.1 hall v hv)
        have h4 := hcr.length
        simp only [Array.length_toList] at this
        rw [this, ← h4, h3, hvn]
  · cases ht

theorem bsnap_ok (hs : SR w G L σ tm) {t : TypeId} {n : Nat} {ps : Array (Nat × Operand)} {z : Nat} {ys : List Opd} (hf : fitO P (.buildSlice t n ps) (.bsnap z ys) = true) {r : T} (hx : pureO σ (.bsnap z ys) = some r) :
    Good P ((execOp (Act.eval ⟨tm, ds⟩) ⟨dst, .buildSlice t n ps, ty, pos, af, gd⟩).run P w) w G L σ tm r σ := by
  simp only [fitO] at hf
  simp only [pureO, Option.bind_eq_some_iff] at hx
  obtain ⟨vs, hv, hx⟩ := hx
  split at hx
  · rename_i hall
    cases hx
    obtain ⟨e, c, hr, hcr, hn, hz, _⟩ := run_buildSlice (ds := ds) hs.ev hf hv hall
    obtain ⟨h1, h2⟩ := hs.pushSt (.cells c e)
    refine Good.step (exec_v rfl hr) (.v _ _ ?_) h1 h2
    subst hn
    exact .snap vs w.heap.size 0 z vs.length c.toList (.inr rfl) ⟨c, e, (0, 0), push_new _, fun i _ => by simp⟩ (fun v hv => by simpa using List.all_eq_true.1 hall v hv) (Nat.le_refl _) (CRs.mono (h2.le hs) hcr)
  · cases hx

theorem brow_ok (hs : SR w G L σ tm) {t : TypeId} {n : Nat} {ps : Array (Nat × Operand)} {z : Nat} {ys : List Opd} (hf : fitO P (.buildSlice t n ps) (.brow z ys) = true) {d : Option Nat} {r : T} {σ' : St} (hx : effO σ d (.brow z ys) = some (.ok r σ')) :
    Good P ((execOp (Act.eval ⟨tm, ds⟩) ⟨dst, .buildSlice t n ps, ty, pos, af, gd⟩).run P w) w G L σ tm r σ' := by
  simp only [fitO] at hf
  simp only [effO, Option.bind_eq_some_iff] at hx
  obtain ⟨vs, hv, hx⟩ := hx
  split at hx
  · rename_i hc
    simp only [Option.map_eq_some_iff] at hx
    obtain ⟨⟨id, σ1⟩, hn', e⟩ := hx
    cases e
    have hall := hc.1
    obtain ⟨e, c, hr, hcr, hn, hz, hsize⟩ := run_buildSlice (ds := ds) hs.ev hf hv hall
    have hl : ∀ v ∈ vs, v.cells.length = z := fun v hv => by simpa using List.all_eq_true.1 hall v hv
    obtain ⟨h1, h2⟩ := newH_row hs hn' (c := c) (el := e) (fr := (0, 0)) (s := z) (cap := n) (by omega) (by omega) hl hz (by rw [List.take_of_length_le (by simp; rw [hsize, hn]; exact Nat.le_refl _)]; exact hcr) (fun o _ hh => by omega)
    refine Good.step (exec_v rfl hr) (.v _ _ ?_) h1 h2
    subst hn
    have hget : (G.setRw id 0 ⟨w.heap.size, 0, z, vs.length⟩).rw id 0 = some ⟨w.heap.size, 0, z, vs.length⟩ := by
      show (if id = id ∧ 0 = 0 then _ else _) = _; rw [if_pos ⟨rfl, rfl⟩]
    exact .sl id 0 0 vs.length vs.length _ _ hget (Nat.le_refl _) (by simp) (.inr (by simp))
  · cases hx

theorem cycle_eq (zs : List Value) (hz : 0 < zs.length) : ∀ c : Nat, (List.range (c * zs.length)).map (fun i => zs.toArray[i % zs.length]!) = (List.replicate c zs).flatten
  | 0 => by simp
  | c + 1 => by
    rw [Nat.add_mul, Nat.one_mul, List.range_add, List.map_append, cycle_eq zs hz c, List.replicate_succ', List.flatten_append]
    congr 1
    simp only [List.map_map, List.flatten_cons, List.flatten_nil, List.append_nil]
    apply List.ext_getElem?
    intro i
    by_cases hi : i < zs.length
    · have hm : (c * zs.length + i) % zs.length = i := by rw [Nat.add_comm, Nat.add_mul_mod_self_right, Nat.mod_eq_of_lt hi]
      simp [hi, hm]
    · rw [List.getElem?_eq_none (by simp; omega), List.getElem?_eq_none (by omega)]

theorem mkslice_ok (hs : SR w G L σ tm) {t : TypeId} {l c : Operand} {slot : Option Nat} {bytes z : Nat} {zero : V} {l' c' : Opd} (hf : fitO P (.makeSlice t l c) (.mkslice slot bytes z zero l' c') = true) {d : Option Nat} {r : T} {σ' : St}
    (hx : effO σ d (.mkslice slot bytes z zero l' c') = some (.ok r σ')) :
    Good P ((execOp (Act.eval ⟨tm, ds⟩) ⟨dst, .makeSlice t l c, ty, pos, af, gd⟩).run P w) w G L σ tm r σ' := by
  simp only [fitO, Bool.and_eq_true] at hf
  obtain ⟨⟨ht, h1⟩, h2⟩ := hf
  split at ht
  · rename_i e he
    have hu := elemT_ok he
    simp only [Bool.and_eq_true, beq_iff_eq] at ht
    obtain ⟨⟨hsz, hby⟩, hzero⟩ := ht
    cases hzv : (P.info? e).bind (·.zero) with
    | none => rw [hzv] at hzero; cases hzero
    | some zv =>
      rw [hzv] at hzero
      simp only [Option.any_some, Bool.and_eq_true, beq_iff_eq] at hzero
      obtain ⟨hzf, hzs⟩ := hzero
      have hzvr : VR G w zero zv := fitV_VR hzf
      obtain ⟨i, hi, hib⟩ := Option.map_eq_some_iff.1 hby
      simp only [effO] at hx
      split at hx
      · rename_i k1 n k2 m hvl hvc
        split at hx
        · rename_i hb
          obtain ⟨b1, b2, b3, b4, b5, b6⟩ := hb
          simp only [Option.map_eq_some_iff] at hx
          obtain ⟨⟨id, σ1⟩, hn', e2⟩ := hx
          cases e2
          have el := asInt_ok (ds := ds) hs.ev h1 hvl
          have ec := asInt_ok (ds := ds) hs.ev h2 hvc
          have hfar : (far : Int) = 4294967296 := rfl
          have hcz : zero.cells ≠ [] := by intro e; rw [e] at b5; simp at b5; omega
          have hcr := hzvr.cells hcz
          have hm0 : 0 ≤ m := by omega
          obtain ⟨M, rfl⟩ := Int.eq_ofNat_of_zero_le hm0
          obtain ⟨N, rfl⟩ := Int.eq_ofNat_of_zero_le b1
          simp only [Int.toNat_natCast] at hn' ⊢
          have hNM : N ≤ M := by omega
          have hMfar : M < 4294967296 := by omega
          have hMb : M * bytes < 4294967296 := by have : ((M * bytes : Nat) : Int) < 4294967296 := by push_cast; omega
                                                  omega
          have wN : IntKind.i64.wrap (N : Int) = (N : Int) := by simp only [IntKind.wrap, IntKind.bits, IntKind.signed]; simp; omega
          have wM : IntKind.i64.wrap (M : Int) = (M : Int) := by simp only [IntKind.wrap, IntKind.bits, IntKind.signed]; simp; omega
          let cells : Array Value := (Array.range (M * z)).map (fun i => zv.cells[i % zv.cells.size]!)
          have hcells : cells.toList = (List.replicate M zv.cells.toList).flatten := by
            have := cycle_eq zv.cells.toList (by simp; omega) M
            simp only [Array.length_toList, hzs] at this
            rw [← this]
            simp [cells, hzs]
          have hflat : (List.replicate N zero).flatMap V.cells = (List.replicate N zero.cells).flatten := by simp [List.flatMap]
          have hrep : ∀ n, CRs G w (List.replicate n zero.cells).flatten (List.replicate n zv.cells.toList).flatten := by
            intro n
            induction n with
            | zero => simpa using CRs.nil
            | succ n ih => rw [List.replicate_succ, List.replicate_succ, List.flatten_cons, List.flatten_cons]; exact hcr.append ih
          have hlenz : zv.cells.toList.length = z := by simpa using hzs
          obtain ⟨h3, h4⟩ := newH_row hs hn' (c := cells) (el := e) (fr := (0, 0)) (s := z) (cap := M) (by simp [cells]) (by simpa using hNM) (fun v hv => by rw [List.eq_of_mem_replicate hv]; exact b5) b6 (by
            rw [hflat, hcells, List.length_replicate]
            have : (List.replicate M zv.cells.toList).flatten.take (N * z) = (List.replicate N zv.cells.toList).flatten := by
              obtain ⟨k, rfl⟩ : ∃ k, M = N + k := ⟨M - N, by omega⟩
              rw [← List.replicate_append_replicate, List.flatten_append, List.take_append_of_le_length (by simp [hzs]), List.take_of_length_le (by simp [hzs])]
            rw [this]; exact hrep N) (fun o _ hh => by omega)
          have hget : (G.setRw id 0 ⟨w.heap.size, 0, z, M⟩).rw id 0 = some ⟨w.heap.size, 0, z, M⟩ := by
            show (if id = id ∧ 0 = 0 then _ else _) = _; rw [if_pos ⟨rfl, rfl⟩]
          refine Good.step (v := .slice (some ⟨w.heap.size, 0, none⟩) N M) (exec_v rfl ?_) (.v _ _ (.sl id 0 0 N M _ _ hget hNM (by simp) (.inr (by simp)))) h3 h4
          have hp48 : (2 : Int) ^ 48 = 281474976710656 := rfl
          have hlarge : ∀ q : Nat, q ≤ M → ¬ (decide ((q : Int) < 0) || decide ((bytes : Int) * (q : Int) > 2 ^ 48)) = true := by
            intro q hq
            have : q * bytes ≤ M * bytes := Nat.mul_le_mul_right _ hq
            simp only [Bool.or_eq_true, decide_eq_true_eq, not_or]
            refine ⟨by omega, ?_⟩
            rw [hp48]
            have : (bytes : Int) * (q : Int) = ((q * bytes : Nat) : Int) := by push_cast; rw [Int.mul_comm]
            omega
          have l1 := hlarge M (Nat.le_refl _)
          have cond : ¬ ((decide ((M : Int) < 0) || decide ((bytes : Int) * (M : Int) > 2 ^ 48) || decide ((N : Int) < 0) || decide ((N : Int) > (M : Int))) = true) := by
            intro h
            simp only [Bool.or_eq_true, decide_eq_true_eq] at h l1
            rcases h with (h | h) | h
            · exact l1 h
            · omega
            · omega
          simp only [Instr.makeSlice, Sem.run_bind, run_underlying hu, Result.andThen_ok, el, ec, asInt, asIntOf, Sem.run_pure, typeInfo, run_program, hi, hib, wN, wM]
          rw [if_neg cond]
          simp only [Sem.run_bind, run_askRoom, Result.andThen_ok, run_sizeT hsz, Int.toNat_natCast]
          by_cases h0 : M * z = 0
          · simp only [if_pos h0, Sem.run_bind, Sem.run_pure, Result.andThen_ok, run_newRow]
            have : Array.map (fun x => (#[] : Array Value)[x % (#[] : Array Value).size]!) (Array.range (M * z)) = cells := by simp [cells, h0]
            rw [this]
          · simp only [if_neg h0, Sem.run_bind, Sem.run_pure, Result.andThen_ok, run_newRow, run_zeroT hzv]
            rfl
        · cases hx
      · cases hx
  · cases ht

/-! ### texts as bytes, and back -/

theorem bytes_CRs : ∀ l : List UInt8, CRs G w (bytesV l) (l.map fun b => Value.int .u8 (b.toNat : Int))
  | [] => .nil
  | b :: l => .cons _ _ _ _ trivial trivial (.int _ _) (bytes_CRs l)

theorem bytes_flat (l : List UInt8) : (bytesV l).flatMap V.cells = bytesV l := by
  induction l with
  | nil => rfl
  | cons b l ih => show (V.int .u8 b.toNat).cells ++ (bytesV l).flatMap V.cells = _; rw [ih]; rfl

/-- What the world has drawn tells nothing of memory. -/
theorem SR.draw (hs : SR w G L σ tm) {w' : World} (h : w' = { w with drawn := w'.drawn }) : SR w' G L σ tm ∧ Ext w G L σ w' G L σ := by
  have e1 : w'.heap = w.heap := by rw [h]
  have hle : Le G w G w' := ⟨fun _ h => h, fun B _ => by rw [e1], fun _ _ h => h, fun _ _ _ h => h⟩
  refine ⟨⟨hs.hp.keep hle (by rw [e1]; exact Nat.le_refl _) (fun B hB => ⟨by rw [e1]; exact hs.hp.stl B hB, fun id e => hs.hp.ost id B e hB⟩) (fun _ => ⟨rfl, fun _ => rfl⟩) (fun id B _ => by rw [e1]),
    ⟨fun d g cs hd => by obtain ⟨B, h1, h2, h3, h4⟩ := hs.lc.obj d g cs hd; exact ⟨B, h1, h2.mono hle (by rw [e1]), h3, h4⟩, hs.lc.inj, hs.lc.fresh⟩, fun t => (hs.ev t).mono hle fun _ _ _ h => h⟩, ?_⟩
  exact ⟨by rw [h], by rw [h], by rw [h], by rw [e1]; exact Nat.le_refl _, fun B _ _ _ => by rw [e1], fun _ h => h, fun _ _ h => h, fun _ _ _ h => h, fun _ _ _ h => h, fun _ h => .inl h, fun id B h => .inl ⟨id, h⟩, fun d g cs B h1 h2 => .inl ⟨d, g, cs, h1, h2⟩⟩

theorem cvSB_ok (hs : SR w G L σ tm) {s d : TypeId} {x : Operand} {y : Opd} (hf : fitO P (.convert s d x) (.cvSB y) = true) {dd : Option Nat} {r : T} {σ' : St} (hx : effO σ dd (.cvSB y) = some (.ok r σ')) :
    Good P ((execOp (Act.eval ⟨tm, ds⟩) ⟨dst, .convert s d x, ty, pos, af, gd⟩).run P w) w G L σ tm r σ' := by
  simp only [fitO, Bool.and_eq_true] at hf
  obtain ⟨⟨h0, hd⟩, h1⟩ := hf
  obtain ⟨sd, hsd⟩ := und h0
  split at hd
  · rename_i e hu
    have hue : P.underlying e = some (.int .u8) := by
      revert hd; cases P.underlying e with
      | none => intro h; cases h
      | some q => cases q <;> intro h <;> first | (cases h; done) | skip
                  rename_i k; cases k <;> first | rfl | (cases h; done)
    simp only [effO] at hx
    split at hx
    · rename_i str hv
      simp only [Option.map_eq_some_iff] at hx
      obtain ⟨⟨id, σ1⟩, hn, e2⟩ := hx
      cases e2
      obtain ⟨b, eb, hb⟩ := (val_ok (ds := ds) hs.ev h1 hv).inv_str
      subst hb
      have hq : (Question.appendCap b.size 0 e).forced = false := rfl
      generalize hcap : (Question.appendCap b.size 0 e).cut (w.tape w.drawn (.appendCap b.size 0 e)) = cap
      have hcap2 : b.size ≤ cap := by rw [← hcap]; simp only [Question.cut]; omega
      let w1 : World := { w with drawn := w.drawn + 1 }
      obtain ⟨hs1, hx1⟩ := hs.draw (w' := w1) rfl
      let cells : Array Value := b.data.map (fun b => .int .u8 b.toNat) ++ Array.replicate (cap - b.size) (.int .u8 0)
      have hsz : cells.size = cap := by have : b.data.size = b.size := rfl
                                        simp only [cells, Array.size_append, Array.size_map, Array.size_replicate]; omega
      have hbl : (bytesV b.data.toList).length = b.size := by simp [bytesV]
      have hnof : NoFr (cap, cap + 1) cells.size := fun o ho hh => by rw [hsz] at ho; omega
      obtain ⟨h3, h4⟩ := newH_row hs1 hn (c := cells) (el := e) (fr := (cap, cap + 1)) (s := 1) (cap := cap) (by omega) (by omega) (fun v hv => by
        obtain ⟨q, _, rfl⟩ := List.mem_map.1 hv; rfl) (by omega) (by
        rw [bytes_flat, hbl, Nat.mul_one]
        have : cells.toList.take b.size = b.data.toList.map fun b => Value.int .u8 (b.toNat : Int) := by
          simp only [cells, Array.toList_append, Array.toList_map]
          exact List.take_left' (by simp)
        rw [this]; exact bytes_CRs _) hnof
      have hget : (G.setRw id 0 ⟨w1.heap.size, 0, 1, cap⟩).rw id 0 = some ⟨w1.heap.size, 0, 1, cap⟩ := by
        show (if id = id ∧ 0 = 0 then _ else _) = _; rw [if_pos ⟨rfl, rfl⟩]
      have hlen : b.data.toList.length = b.size := rfl
      refine Good.step (v := .slice (some ⟨w1.heap.size, 0, none⟩) b.size cap) (exec_v rfl ?_) (.v _ _ (by show VR _ _ (.sl id 0 1 0 b.size) _; exact .sl id 0 0 b.size cap _ _ hget hcap2 (by simp) (.inr (by simp)))) h3 (hx1.trans h4)
      have hfreeze : (pushB w1 (.cells cells e)).freeze { block := w1.heap.size, off := cap } 1 = pushB w1 (.cells cells e (cap, cap + 1)) := by
        unfold World.freeze pushB
        simp only [Nat.one_ne_zero, if_false]
        congr 1
        apply Array.ext_getElem?
        intro i
        simp only [Array.getElem?_modify, Array.getElem?_push]
        by_cases ei : w1.heap.size = i
        · subst ei; simp
        · rw [if_neg ei, if_neg (Ne.symm ei)]
          rw [if_neg (Ne.symm ei)]
      have hshape : (pushB w1 (.cells cells e)).shape? w1.heap.size = some (e, cap) := by
        unfold World.shape?; rw [push_new]; simp [hsz]
      rw [eb]
      simp only [convert, Sem.run_bind, run_underlying hsd, run_underlying hu, run_underlying hue, Result.andThen_ok]
      have hconv : (Conv.stringToBytes e b).run P w = .ok (.slice (some ⟨w1.heap.size, 0, none⟩) b.size cap) (pushB w1 (.cells cells e (cap, cap + 1))) := by
        simp only [Conv.stringToBytes, Sem.run_bind, run_choose, hq, Bool.false_eq_true, if_false, Result.andThen_ok, hcap, run_newRow, markStringish, run_shape]
        have hs2 : (pushB { heap := w.heap, tape := w.tape, drawn := w.drawn + 1, os := w.os, output := w.output } (Obj.cells (Array.map (fun b => Value.int IntKind.u8 (b.toNat : Int)) b.data ++ Array.replicate (cap - b.size) (Value.int IntKind.u8 0)) e)).shape? w.heap.size = some (e, cap) := hshape
        rw [hs2]
        simp only [run_freeze, Result.andThen_ok, Sem.run_pure]
        exact congrArg _ hfreeze
      cases sd <;> exact hconv
    · cases hx
  · cases hd

theorem lenMap_ok (hs : SR w G L σ tm) {args : Array Operand} {ts : Array TypeId} {tk : Nat} {y : Opd} (hf : fitO P (.call ⟨.builtin .len, args, ts⟩) (.len tk y) = true) {r : T} (hx : readO σ (.len tk y) = some r) :
    Good P ((execOp (Act.eval ⟨tm, ds⟩) ⟨dst, .call ⟨.builtin .len, args, ts⟩, ty, pos, af, gd⟩).run P w) w G L σ tm r σ := by
  simp only [fitO] at hf
  simp only [readO] at hx
  split at hf
  · rename_i x t ea et
    have ea' : args = #[x] := by apply Array.ext'; simpa using ea
    have et' : ts = #[t] := by apply Array.ext'; simpa using et
    subst ea'; subst et'
    simp only [Bool.and_eq_true] at hf
    obtain ⟨hu, h1⟩ := hf
    split at hx
    · rename_i id hv
      split at hx
      · rename_i es clock hid
        cases hx
        obtain ⟨B, es', hB, hheap, her⟩ := hs.hp.obj _ _ hid
        obtain ⟨B', hB', e⟩ := (val_ok (ds := ds) hs.ev h1 hv).inv_map
        rw [hB] at hB'; cases hB'
        have hq : ∃ q q', P.underlying t = some (.map q q') := by
          revert hu; cases P.underlying t with
          | none => intro h; cases h
          | some d => cases d <;> intro h <;> first | exact ⟨_, _, rfl⟩ | (cases h; done)
        obtain ⟨q, q', hq⟩ := hq
        have hget : (getObj B).run P w = .ok (.map es' clock) w := by simp [getObj, Sem.run, hheap]
        have hlen : es'.size = es.length := by
          have : ∀ {a : List (V × V × Nat)} {b : List MapEntry}, ER G w a b → b.length = a.length := by
            intro a b h
            induction h with
            | nil => rfl
            | cons _ _ _ _ _ _ _ _ _ _ ih => simp [ih]
          have := this her; simpa using this
        refine Good.same (v := .int .i64 (es.length : Int)) hs ?_ (.v _ _ (.int _ _))
        simp [execOp, resolve, invoke, builtin, Builtin.len_, run_underlying hq, goInt, e, hget, hlen]
      · cases hx
    · cases hx
  · cases hf

theorem unbytes_ok : ∀ {l : List V} {s : List UInt8} {xs : List Value}, unbytes l = some s → CRs G w l xs → ∃ ns : List Int, xs = ns.map (Value.int .u8) ∧ s = ns.map fun n => UInt8.ofNat n.toNat
  | [], s, xs, h, hc => by cases h; cases hc; exact ⟨[], rfl, rfl⟩
  | v :: l, s, xs, h, hc => by
    cases hc with
    | cons _ x _ xs _ _ hv hs =>
      unfold unbytes at h
      split at h
      · rename_i e; cases e
      · rename_i n r e
        cases e
        simp only [Option.bind_eq_some_iff] at h
        obtain ⟨s', h1, h2⟩ := h
        split at h2
        · cases h2
          obtain ⟨ns, rfl, rfl⟩ := unbytes_ok h1 hs
          have := hv.inv_int
          subst this
          exact ⟨n :: ns, rfl, rfl⟩
        · cases h2
      · cases h

theorem elems_ok (hs : SR w G L σ tm) {v : V} {x : Value} (hv : VR G w v x) {l : List V} (h : σ.elems v = some l) :
    ∃ base cap, x = .slice base l.length cap ∧ l.length ≤ cap ∧ (l = [] ∨ ∃ B off xs s, base = some ⟨B, off, none⟩ ∧ cellsIn w B off xs ∧ CRs G w (l.flatMap V.cells) xs ∧ ∀ v ∈ l, v.cells.length = s) := by
  unfold St.elems at h
  split at h
  · cases h; exact ⟨_, _, hv.inv_nils, Nat.le_refl _, .inl rfl⟩
  · cases h
    rcases hv.inv_snap with ⟨rfl, a, c, e⟩ | ⟨B, off, s, cap, xs, _, h2, h3, h4, h5, e⟩
    · exact ⟨a, c, e, Nat.zero_le _, .inl rfl⟩
    · exact ⟨_, cap, e, h4, .inr ⟨B, off, xs, s, rfl, h2, h5, h3⟩⟩
  · rename_i id ver s off len
    split at h
    · rename_i ver' row hm
      split at h
      · rename_i hc
        obtain ⟨rfl, hle⟩ := hc
        cases h
        obtain ⟨r, a, cap, hr, rfl, h1, h2, ha, e⟩ := hv.inv_sl
        obtain ⟨r', hr', _, hor⟩ := hs.hp.obj _ _ hm
        rw [hr] at hr'; cases hr'
        obtain ⟨xs, hci, hcr, hl⟩ := hor.cellsIn
        have hlen : ((row.drop off).take len).length = len := by simp; omega
        refine ⟨some a, cap, by rw [hlen]; exact e, by rw [hlen]; exact h1, ?_⟩
        by_cases h0 : len = 0
        · left; subst h0; simp
        · right
          have ha' := ha.resolve_left (by omega)
          subst ha'
          refine ⟨r.B, _, _, r.s, rfl, (hci.drop (off * r.s)).take (len * r.s), ?_, fun v hv => hl v (List.mem_of_mem_drop (List.mem_of_mem_take hv))⟩
          rw [flat_take _ (fun v hv => hl v (List.mem_of_mem_drop hv)), flat_drop _ hl]
          exact (hcr.drop _).take _
      · cases h
    · cases h
  · cases h

theorem foldl_push : ∀ (ns : List Int) (b : ByteArray), (ns.foldl (fun r n => r.push (UInt8.ofNat n.toNat)) b).data.toList = b.data.toList ++ ns.map fun n => UInt8.ofNat n.toNat
  | [], b => by simp
  | n :: ns, b => by rw [List.foldl_cons, foldl_push ns]; simp

theorem cvBS_ok (hs : SR w G L σ tm) {s d : TypeId} {x : Operand} {y : Opd} (hf : fitO P (.convert s d x) (.cvBS y) = true) {r : T} (hx : readO σ (.cvBS y) = some r) :
    Good P ((execOp (Act.eval ⟨tm, ds⟩) ⟨dst, .convert s d x, ty, pos, af, gd⟩).run P w) w G L σ tm r σ := by
  simp only [fitO, Bool.and_eq_true] at hf
  obtain ⟨⟨hsd, hd⟩, h1⟩ := hf
  split at hsd
  · rename_i e hu
    have hue : P.underlying e = some (.int .u8) := by
      revert hsd; cases P.underlying e with
      | none => intro h; cases h
      | some q => cases q <;> intro h <;> first | (cases h; done) | skip
                  rename_i k; cases k <;> first | rfl | (cases h; done)
    have hud : P.underlying d = some .string := by
      revert hd; cases P.underlying d with
      | none => intro h; cases h
      | some q => cases q <;> intro h <;> first | rfl | (cases h; done)
    simp only [readO] at hx
    split at hx
    · rename_i v hv
      simp only [Option.bind_eq_some_iff, Option.map_eq_some_iff] at hx
      obtain ⟨l, hl, str, hstr, rfl⟩ := hx
      obtain ⟨base, cap, ex, hle, hcase⟩ := elems_ok hs (val_ok (ds := ds) hs.ev h1 hv) hl
      have conv : ∀ b : ByteArray, b.data.toList = str → (Conv.bytesToString (.slice base l.length cap)).run P w = .ok (.string b) w →
          Good P ((execOp (Act.eval ⟨tm, ds⟩) ⟨dst, .convert s d x, ty, pos, af, gd⟩).run P w) w G L σ tm (.v (.str str)) σ := by
        intro b hb hr
        refine Good.same (v := .string b) hs (exec_v rfl ?_) (.v _ _ (.str _ _ hb))
        rw [ex]
        simp [convert, run_underlying hu, run_underlying hud, run_underlying hue, hr]
      rcases hcase with rfl | ⟨B, off, xs, s', rfl, hci, hcr, hlen⟩
      · cases hstr
        cases base with
        | none => exact conv .empty rfl (by simp [Conv.bytesToString])
        | some a =>
          refine conv .empty rfl ?_
          have := run_bytesToString (P := P) w a 0 cap [] (by simp [loadCells, loadCellsFrom])
          simpa using this
      · have hcells : l.flatMap V.cells = l := by
          have : ∀ (l : List V) (s : List UInt8), unbytes l = some s → l.flatMap V.cells = l := by
            intro l
            induction l with
            | nil => intro _ _; rfl
            | cons v l ih =>
              intro s h
              unfold unbytes at h
              split at h
              · rename_i e; cases e
              · rename_i n r e; cases e
                simp only [Option.bind_eq_some_iff] at h
                obtain ⟨s', h1, _⟩ := h
                rw [List.flatMap_cons, ih s' h1]; rfl
              · cases h
          exact this l str hstr
        rw [hcells] at hcr
        obtain ⟨ns, rfl, rfl⟩ := unbytes_ok hstr hcr
        have hll := hcr.length
        refine conv _ ?_ (run_bytesToString (P := P) w ⟨B, off, none⟩ l.length cap ns ?_)
        · rw [foldl_push]; simp
        · rw [hll]
          exact run_loadCells_list w _ _ (fun j v hj => by rw [add_none]; exact cell_of hci hj)
    · cases hx
  · cases hsd

end
end Go.Vm
end

section
set_option linter.unusedSimpArgs false
set_option linter.unusedVariables false
namespace Go.Vm
open Go Go.RowKit

section
variable {P : Program} {G : Gh} {w : World} {L : Lm} {σ : St} {tm : Array Value} {ds : List Deferred}
variable {dst : Option Tmp} {ty : TypeId} {pos : String} {af : Array Edge} {gd : Option (Nat × Bool)}

theorem ER.append {a : List (V × V × Nat)} {b : List MapEntry} (h : ER G w a b) {k v : V} {n : Nat} {e : MapEntry} (hk : VR G w k e.key) (hv : VR G w v e.val) (hn : e.born = n) : ER G w (a ++ [(k, v, n)]) (b ++ [e]) := by
  induction h with
  | nil => exact .cons _ _ _ _ _ _ hk hv hn .nil
  | cons k' v' b' e' l es h1 h2 h3 _ ih => exact .cons _ _ _ _ _ _ h1 h2 h3 ih

/-- A map's block turns. -/
theorem SR.setMap (hs : SR w G L σ tm) {id B : Nat} {es es2 : List (V × V × Nat)} {clock clock2 : Nat} {es2' : Array MapEntry} (hid : σ.h[id]? = some (.map es clock)) (hB : G.ob id = some B) (her : ER G w es2 es2'.toList) :
    SR (setB w B (.map es2' clock2)) G L { σ with h := σ.h.set id (.map es2 clock2) } tm ∧ Ext w G L σ (setB w B (.map es2' clock2)) G L { σ with h := σ.h.set id (.map es2 clock2) } := by
  have hlt : id < σ.h.length := by
    rcases Nat.lt_or_ge id σ.h.length with h | h
    · exact h
    · rw [List.getElem?_eq_none h] at hid; cases hid
  have hget : (σ.h.set id (.map es2 clock2))[id]? = some (.map es2 clock2) := by simp [List.getElem?_set, hlt]
  have hown : ownB G σ.h id = some B := by unfold ownB; rw [hid]; exact hB
  exact hs.setHeap (id := id) hown (fun _ => Iff.rfl) (fun _ _ h => h) (fun _ _ _ h => h) (fun _ _ => ⟨rfl, fun _ => rfl⟩) hget (fun j hj => by simp [List.getElem?_set, Ne.symm hj])
    (fun hle => ⟨B, es2', hB, set_new _ (hs.hp.own_lt hown), her.mono hle⟩) (fun B' hB' => by unfold ownB at hB'; rw [hget] at hB'; dsimp only at hB'; rw [hB] at hB'; cases hB'; rfl)

theorem run_setObj {B : Nat} {es : Array MapEntry} {clock : Nat} (h : w.heap[B]? = some (.map es clock)) (o : Obj) : (setObj B o).run P w = .ok () (setB w B o) := by
  simp only [setObj, Sem.run, h]; rfl

theorem mapup_ok (hs : SR w G L σ tm) {t : TypeId} {x k v : Operand} {ks : KT} {y k' v' : Opd} (hf : fitO P (.mapUpdate t x k v) (.mapup ks y k' v') = true) {d : Option Nat} {r : T} {σ' : St} (hx : effO σ d (.mapup ks y k' v') = some (.ok r σ')) :
    Good P ((execOp (Act.eval ⟨tm, ds⟩) ⟨dst, .mapUpdate t x k v, ty, pos, af, gd⟩).run P w) w G L σ tm r σ' := by
  simp only [fitO, Bool.and_eq_true] at hf
  obtain ⟨⟨⟨ht, h1⟩, h2⟩, h3⟩ := hf
  split at ht
  · rename_i kt e hu
    simp only [effO] at hx
    split at hx
    · rename_i id kv vv hm hkv hvv
      obtain ⟨hkv, hik⟩ := Option.filter_eq_some_iff.1 hkv
      obtain ⟨B, hB, em⟩ := (val_ok (ds := ds) hs.ev h1 hm).inv_map
      have hkX := val_ok (ds := ds) hs.ev h2 hkv
      have hvX := val_ok (ds := ds) hs.ev h3 hvv
      split at hx
      · rename_i es clock hid
        obtain ⟨B', es', hB', hheap, her⟩ := hs.hp.obj _ _ hid
        rw [hB] at hB'; cases hB'
        have hget : (getObj B).run P w = .ok (.map es' clock) w := by simp [getObj, Sem.run, hheap]
        split at hx
        · rename_i q hfe
          obtain ⟨v0, b0⟩ := q
          simp only [Option.map_eq_some_iff] at hx
          obtain ⟨es2, hse, e2⟩ := hx
          cases e2
          obtain ⟨r', h4, i, e0, h5, h6, h7, h8, h9, h10⟩ := find_ok (P := P) ht hkX her hfe
          obtain ⟨es3, h11, h12⟩ := h10 _ _ hvX
          rw [hse] at h11; cases h11
          subst h5
          have hi : i < es'.size := by
            rcases Nat.lt_or_ge i es'.toList.length with h | h
            · simpa using h
            · rw [List.getElem?_eq_none h] at h6; cases h6
          have hmod : (es'.modify i fun e => { e with key := Act.eval ⟨tm, ds⟩ k, val := Act.eval ⟨tm, ds⟩ v }).toList = es'.toList.set i ⟨Act.eval ⟨tm, ds⟩ k, Act.eval ⟨tm, ds⟩ v, e0.born⟩ := by
            apply List.ext_getElem?
            intro j
            rw [Array.getElem?_toList, Array.getElem?_modify, List.getElem?_set]
            by_cases ej : i = j
            · subst ej
              rw [if_pos rfl, if_pos rfl]
              simp only [Array.getElem?_toList] at h6
              rw [h6]; simp [hi]
            · rw [if_neg ej, if_neg ej, Array.getElem?_toList]
          obtain ⟨h13, h14⟩ := hs.setMap (clock2 := clock) (es2' := es'.modify i fun e => { e with key := Act.eval ⟨tm, ds⟩ k, val := Act.eval ⟨tm, ds⟩ v }) hid hB (by rw [hmod]; exact h12)
          refine Good.skip ?_ h13 h14
          have hes : es'[i]? = some e0 := by simpa using h6
          have hes2 : es'[0 + i]? = some e0 := by rw [Nat.zero_add]; exact hes
          simp only [execOp, Sem.run_bind, Instr.mapUpdate, run_underlying hu, Result.andThen_ok, em, hget, checkKey_ok ht hkX hik, h4, hes, hes2, Option.map_some, Option.getD_some, Instr.keyThatStays, h9, if_true, Sem.run_pure, run_setObj hheap, Nat.zero_add]
          all_goals first | rfl | (rw [run_setObj hheap]; rfl)
        · rename_i hfe
          cases hx
          obtain ⟨r', h4, h5⟩ := find_ok (P := P) ht hkX her hfe
          cases h5
          obtain ⟨h13, h14⟩ := hs.setMap (clock2 := clock + 1) (es2' := es'.push { key := Act.eval ⟨tm, ds⟩ k, val := Act.eval ⟨tm, ds⟩ v, born := clock }) hid hB (by
            rw [Array.toList_push]; exact her.append (e := ⟨_, _, _⟩) hkX hvX rfl)
          refine Good.skip ?_ h13 h14
          simp only [execOp, Sem.run_bind, Instr.mapUpdate, run_underlying hu, Result.andThen_ok, em, hget, checkKey_ok ht hkX hik, h4]
          rw [run_setObj hheap]
          rfl
        · cases hx
      · cases hx
    · cases hx
  · cases ht

theorem mapent_ok (hs : SR w G L σ tm) {t : TypeId} {x k : Operand} {ks : KT} {zero : V} {y k' : Opd} (hf : fitO P (.mapEntry t x k) (.mapent ks zero y k') = true) {d : Option Nat} {r : T} {σ' : St} (hx : effO σ d (.mapent ks zero y k') = some (.ok r σ')) :
    Good P ((execOp (Act.eval ⟨tm, ds⟩) ⟨dst, .mapEntry t x k, ty, pos, af, gd⟩).run P w) w G L σ tm r σ' := by
  simp only [fitO, Bool.and_eq_true] at hf
  obtain ⟨⟨ht, h1⟩, h2⟩ := hf
  split at ht
  · rename_i kt e hu
    simp only [Bool.and_eq_true] at ht
    obtain ⟨ht, hz⟩ := ht
    obtain ⟨z, hzr, hzv⟩ := zeroAny (P := P) (G := G) (w := w) hz
    have tup : ∀ {a : V} {A : Value} (n : Nat) {G' : Gh} {w' : World}, VR G' w' a A → VR G' w' (.tuple [a, .int .i64 (n : Int)]) (.tuple #[A, goInt n]) := by
      intro a A n G' w' ha
      have := VR.tuple (G := G') (w := w') [a, .int .i64 (n : Int)] [A, goInt n] (.cons _ _ _ _ ha (.cons _ _ _ _ (.int _ _) .nil))
      simpa using this
    simp only [effO] at hx
    split at hx
    · rename_i id kv hm hkv
      obtain ⟨hkv, hik⟩ := Option.filter_eq_some_iff.1 hkv
      obtain ⟨B, hB, em⟩ := (val_ok (ds := ds) hs.ev h1 hm).inv_map
      have hkX := val_ok (ds := ds) hs.ev h2 hkv
      split at hx
      · rename_i es clock hid
        obtain ⟨B', es', hB', hheap, her⟩ := hs.hp.obj _ _ hid
        rw [hB] at hB'; cases hB'
        have hget : (getObj B).run P w = .ok (.map es' clock) w := by simp [getObj, Sem.run, hheap]
        split at hx
        · rename_i v0 b0 hfe
          simp only [Option.map_eq_some_iff] at hx
          obtain ⟨es2, hse, e2⟩ := hx
          cases e2
          obtain ⟨r', h4, i, e0, h5, h6, h7, h8, h9, h10⟩ := find_ok (P := P) ht hkX her hfe
          obtain ⟨es3, h11, h12⟩ := h10 _ _ h7
          rw [hse] at h11; cases h11
          subst h5
          have hi : i < es'.size := by
            rcases Nat.lt_or_ge i es'.toList.length with h | h
            · simpa using h
            · rw [List.getElem?_eq_none h] at h6; cases h6
          have hmod : (es'.modify i fun e => { e with key := Act.eval ⟨tm, ds⟩ k }).toList = es'.toList.set i ⟨Act.eval ⟨tm, ds⟩ k, e0.val, e0.born⟩ := by
            apply List.ext_getElem?
            intro j
            rw [Array.getElem?_toList, Array.getElem?_modify, List.getElem?_set]
            by_cases ej : i = j
            · subst ej
              rw [if_pos rfl, if_pos rfl]
              simp only [Array.getElem?_toList] at h6
              rw [h6]; simp [hi]
            · rw [if_neg ej, if_neg ej, Array.getElem?_toList]
          obtain ⟨h13, h14⟩ := hs.setMap (clock2 := clock) (es2' := es'.modify i fun e => { e with key := Act.eval ⟨tm, ds⟩ k }) hid hB (by rw [hmod]; exact h12)
          have hes : es'[i]? = some e0 := by simpa using h6
          have hes2 : es'[0 + i]? = some e0 := by rw [Nat.zero_add]; exact hes
          refine Good.step (v := .tuple #[e0.val, goInt e0.born]) (exec_v rfl ?_) (.v _ _ (by rw [h8]; exact tup b0 (VR.mono (h14.le hs) h7))) h13 h14
          simp only [Instr.mapEntry, Sem.run_bind, run_underlying hu, Result.andThen_ok, em, hget, checkKey_ok ht hkX hik, h4, hes, hes2, Option.map_some, Option.getD_some, Instr.keyThatStays, h9, if_true, Sem.run_pure, Nat.zero_add]
          rw [run_setObj hheap]
          simp
        · rename_i hfe
          cases hx
          obtain ⟨r', h4, h5⟩ := find_ok (P := P) ht hkX her hfe
          cases h5
          obtain ⟨h13, h14⟩ := hs.setMap (clock2 := clock + 1) (es2' := es'.push { key := Act.eval ⟨tm, ds⟩ k, val := z, born := clock }) hid hB (by
            rw [Array.toList_push]; exact her.append (e := ⟨_, _, _⟩) hkX hzv rfl)
          refine Good.step (v := .tuple #[z, goInt clock]) (exec_v rfl ?_) (.v _ _ (tup clock (VR.mono (h14.le hs) hzv))) h13 h14
          simp only [Instr.mapEntry, Sem.run_bind, run_underlying hu, Result.andThen_ok, em, hget, checkKey_ok ht hkX hik, h4, hzr]
          rw [run_setObj hheap]
          simp
        · cases hx
      · cases hx
    · cases hx
  · cases ht

theorem born_ok {n : Nat} {nv : V} {nx : Value} (hn : VR G w nv nx) {l : List (V × V × Nat)} {es : List MapEntry} (her : ER G w l es) : ∀ {l2 : List (V × V × Nat)}, setBorn n nv l = some l2 →
    ∃ i e, es.findIdx? (fun e => (e.born : Int) == (n : Int)) = some i ∧ es[i]? = some e ∧ ER G w l2 (es.set i ⟨e.key, nx, e.born⟩) := by
  induction her with
  | nil => intro l2 h; cases h
  | cons k v b e l es hk hv hb hl ih =>
    intro l2 h
    simp only [setBorn] at h
    split at h
    · rename_i hbn
      cases h
      refine ⟨0, e, ?_, rfl, .cons _ _ _ _ _ _ hk hn hb hl⟩
      have : ((e.born : Int) == (n : Int)) = true := by rw [hb, hbn]; simp
      simp [List.findIdx?_cons, this]
    · rename_i hbn
      obtain ⟨l3, h3, e3⟩ := Option.map_eq_some_iff.1 h
      cases e3
      obtain ⟨i, e', h4, h5, h6⟩ := ih h3
      refine ⟨i + 1, e', ?_, by simpa using h5, .cons _ _ _ _ _ _ hk hv hb h6⟩
      have : ((e.born : Int) == (n : Int)) = false := by rw [hb]; simp; omega
      rw [List.findIdx?_cons, this, h4]; rfl

theorem entst_ok (hs : SR w G L σ tm) {t : TypeId} {x s v : Operand} {y s' v' : Opd} (hf : fitO P (.entryStore t x s v) (.entst y s' v') = true) {d : Option Nat} {r : T} {σ' : St} (hx : effO σ d (.entst y s' v') = some (.ok r σ')) :
    Good P ((execOp (Act.eval ⟨tm, ds⟩) ⟨dst, .entryStore t x s v, ty, pos, af, gd⟩).run P w) w G L σ tm r σ' := by
  simp only [fitO, Bool.and_eq_true] at hf
  obtain ⟨⟨h1, h2⟩, h3⟩ := hf
  simp only [effO] at hx
  split at hx
  · rename_i id k n vv hm hn hvv
    obtain ⟨B, hB, em⟩ := (val_ok (ds := ds) hs.ev h1 hm).inv_map
    have es0 := asInt_ok (ds := ds) hs.ev h2 hn
    have hvX := val_ok (ds := ds) hs.ev h3 hvv
    split at hx
    · rename_i es clock hid
      split at hx
      · rename_i hn0
        obtain ⟨B', es', hB', hheap, her⟩ := hs.hp.obj _ _ hid
        rw [hB] at hB'; cases hB'
        have hget : (getObj B).run P w = .ok (.map es' clock) w := by simp [getObj, Sem.run, hheap]
        simp only [Option.map_eq_some_iff] at hx
        obtain ⟨es2, hse, e2⟩ := hx
        cases e2
        obtain ⟨N, rfl⟩ := Int.eq_ofNat_of_zero_le hn0
        simp only [Int.toNat_natCast] at hse
        obtain ⟨i, e0, h4, h5, h6⟩ := born_ok hvX her hse
        have hi : i < es'.size := by
          rcases Nat.lt_or_ge i es'.toList.length with h | h
          · simpa using h
          · rw [List.getElem?_eq_none h] at h5; cases h5
        have hmod : (es'.modify i fun e => { e with val := Act.eval ⟨tm, ds⟩ v }).toList = es'.toList.set i ⟨e0.key, Act.eval ⟨tm, ds⟩ v, e0.born⟩ := by
          apply List.ext_getElem?
          intro j
          rw [Array.getElem?_toList, Array.getElem?_modify, List.getElem?_set]
          by_cases ej : i = j
          · subst ej
            rw [if_pos rfl, if_pos rfl]
            simp only [Array.getElem?_toList] at h5
            rw [h5]; simp [hi]
          · rw [if_neg ej, if_neg ej, Array.getElem?_toList]
        obtain ⟨h13, h14⟩ := hs.setMap (clock2 := clock) (es2' := es'.modify i fun e => { e with val := Act.eval ⟨tm, ds⟩ v }) hid hB (by rw [hmod]; exact h6)
        refine Good.skip ?_ h13 h14
        have hfi : es'.findIdx? (fun e => (e.born : Int) == (N : Int)) = some i := by rw [← List.findIdx?_toArray] at h4; simpa using h4
        simp only [execOp, Instr.entryStore, Sem.run_bind, em, hget, Result.andThen_ok, asInt, asIntOf, es0, Sem.run_pure, hfi]
        rw [run_setObj hheap]
        rfl
      · cases hx
    · cases hx
  · cases hx

theorem panic_ok (hs : SR w G L σ tm) {x : Operand} {y : Opd} (hf : fitO P (.panic x) (.panic y) = true) {d : Option Nat} {v : V} {σ' : St} (hx : effO σ d (.panic y) = some (.pan v σ')) :
    ∃ val, (execOp (Act.eval ⟨tm, ds⟩) ⟨dst, .panic x, ty, pos, af, gd⟩).run P w = .halt (.panic val) w ∧ VR G w v val ∧ σ' = σ := by
  simp only [fitO] at hf
  simp only [effO, Option.bind_eq_some_iff] at hx
  obtain ⟨u, hu, hx⟩ := hx
  split at hx
  · cases hx
    have hvr := val_ok (ds := ds) hs.ev hf hu
    obtain ⟨y', _, e⟩ := hvr.inv_iface
    refine ⟨Act.eval ⟨tm, ds⟩ x, ?_, hvr, rfl⟩
    simp only [execOp, Sem.run_bind, Instr.panic, e, run_goPanic, Result.andThen_halt]
  · cases hx

/-! ### append -/

theorem run_firstCells {z n : Nat} {B off : Nat} {xs : List Value} (h : cellsIn w B off xs) (hl : xs.length = n * z) (m c : Nat) : (Builtin.firstCells z n (.slice (some ⟨B, off, none⟩) m c)).run P w = .ok xs.toArray w := by
  simp only [Builtin.firstCells]
  rw [← hl]
  exact run_loadCells_list w _ _ (fun j v hj => by rw [add_none]; exact cell_of h hj)

/-- What is appended, or copied. -/
theorem src_ok (hs : SR w G L σ tm) {v : V} {x : Value} (hv : VR G w v x) {add : List V} (ha : σ.srcV v = some add) {z : Nat} (hz : ∀ u ∈ add, u.cells.length = z) :
    (Builtin.lenOf x).run P w = .ok add.length w ∧ ∀ n, n ≤ add.length → ∀ w', w'.heap = w.heap → ∃ news, (Builtin.firstCells z n x).run P w' = .ok news.toArray w' ∧ CRs G w ((add.take n).flatMap V.cells) news ∧ news.length = n * z := by
  by_cases hstr : ∃ s, v = .str s
  · obtain ⟨s, rfl⟩ := hstr
    simp only [St.srcV, Option.some.injEq] at ha
    subst ha
    obtain ⟨b, rfl, rfl⟩ := hv.inv_str
    have hbl : (bytesV b.data.toList).length = b.size := by simp [bytesV]
    refine ⟨by rw [hbl]; simp [Builtin.lenOf], fun n hn w' _ => ?_⟩
    refine ⟨(b.data.toList.take n).map fun b => Value.int .u8 (b.toNat : Int), ?_, ?_, ?_⟩
    · have : (b.extract 0 n).data.toList = b.data.toList.take n := by rw [extract_list]; simp
      have h2 : ((b.extract 0 n).data.map fun b => Value.int .u8 (b.toNat : Int)) = ((b.data.toList.take n).map fun b => Value.int .u8 (b.toNat : Int)).toArray := by
        apply Array.ext'; rw [Array.toList_map, this]
      simp only [Builtin.firstCells, Sem.run_pure, h2]
    · have : (bytesV b.data.toList).take n = bytesV (b.data.toList.take n) := by simp [bytesV, List.map_take]
      rw [this, bytes_flat]
      exact bytes_CRs _
    · rw [hbl] at hn
      have h1 : ((b.data.toList.take n).map fun b => Value.int .u8 (b.toNat : Int)).length = n := by
        have : b.data.toList.length = b.size := rfl
        simp only [List.length_map, List.length_take]; omega
      rw [h1]
      cases n with
      | zero => simp
      | succ n =>
        have hpos : 0 < (bytesV b.data.toList).length := by rw [hbl]; omega
        have := hz _ (List.getElem_mem hpos)
        simp [bytesV] at this
        rw [← this]; simp [V.cells]
  · have ha' : σ.elems v = some add := by
      cases v <;> first | exact ha | exact absurd ⟨_, rfl⟩ hstr
    obtain ⟨base, cap, rfl, hle, hcase⟩ := elems_ok hs hv ha'
    refine ⟨by simp [Builtin.lenOf], fun n hn w' hw' => ?_⟩
    rcases hcase with rfl | ⟨B, off, xs, s, rfl, hci, hcr, hlen⟩
    · have : n = 0 := by simpa using hn
      subst this
      refine ⟨[], ?_, by simpa using CRs.nil, by simp⟩
      cases base <;> simp [Builtin.firstCells, loadCells, loadCellsFrom]
    · have hci' : cellsIn w' B off (xs.take (n * z)) := by
        obtain ⟨c, el, fr, hb, hc⟩ := hci.take (n * z)
        exact ⟨c, el, fr, by rw [hw']; exact hb, hc⟩
      have hfl := flat_len hz
      have hxl := hcr.length
      have hnm : n * z ≤ add.length * z := Nat.mul_le_mul_right _ hn
      have hl : (xs.take (n * z)).length = n * z := by simp; omega
      exact ⟨_, run_firstCells hci' hl _ _, by rw [flat_take _ hz]; exact hcr.take _, hl⟩

theorem hzeros {du : TypeDesc} (hdu2 : ∀ k, du ≠ .int k) : (du matches .int _) = false := by
  cases du <;> first | rfl | exact absurd rfl (hdu2 _)

theorem run_app_fit {t u e : TypeId} {i : TypeInfo} {du : TypeDesc} (ht : P.underlying t = some (.slice e)) (hdu : P.underlying u = some du) (hdu2 : ∀ k, du ≠ .int k) (hi : P.info? e = some i) {x : Value} {n : Nat}
    (hl : (Builtin.lenOf x).run P w = .ok n w) {news : List Value} (hn : (Builtin.firstCells i.size n x).run P w = .ok news.toArray w) {a : Addr} {len cap : Nat} (hle : len + n ≤ cap) {w' : World}
    (hs : (storeCells (a.add (len * i.size)) news).run P w = .ok () w') : (Builtin.append_ #[t, u] ty #[.slice (some a) len cap, x]).run P w = .ok (.slice (some a) (len + n) cap) w' := by
  have hz := hzeros hdu2
  simp only [Builtin.append_, Sem.run_bind, show (#[t, u] : Array TypeId)[0]? = some t from rfl, show (#[t, u] : Array TypeId)[1]? = some u from rfl, show (#[Value.slice (some a) len cap, x] : Array Value)[0]? = some (.slice (some a) len cap) from rfl,
    show (#[Value.slice (some a) len cap, x] : Array Value)[1]? = some x from rfl, run_underlying ht, Result.andThen_ok, sizeOf, typeInfo, run_program, hi, Sem.run_pure]
  simp only [run_underlying hdu, Result.andThen_ok, hz, Bool.false_eq_true, if_false, hl, if_pos hle, Bool.not_false, if_true, hn, Sem.run_bind, hs, Sem.run_pure]

theorem run_app_nil {t u e : TypeId} {i : TypeInfo} {du : TypeDesc} (ht : P.underlying t = some (.slice e)) (hdu : P.underlying u = some du) (hdu2 : ∀ k, du ≠ .int k) (hi : P.info? e = some i) {x : Value}
    (hl : (Builtin.lenOf x).run P w = .ok 0 w) {news : List Value} (hn : (Builtin.firstCells i.size 0 x).run P w = .ok news.toArray w) : (Builtin.append_ #[t, u] ty #[.slice none 0 0, x]).run P w = .ok (.slice none 0 0) w := by
  have hz := hzeros hdu2
  simp only [Builtin.append_, Sem.run_bind, show (#[t, u] : Array TypeId)[0]? = some t from rfl, show (#[t, u] : Array TypeId)[1]? = some u from rfl, show (#[Value.slice none 0 0, x] : Array Value)[0]? = some (.slice none 0 0) from rfl,
    show (#[Value.slice none 0 0, x] : Array Value)[1]? = some x from rfl, run_underlying ht, Result.andThen_ok, sizeOf, typeInfo, run_program, hi, Sem.run_pure]
  simp only [run_underlying hdu, Result.andThen_ok, hz, Bool.false_eq_true, if_false, hl, Nat.add_zero, Nat.le_refl, if_true, Bool.not_false, hn, Sem.run_bind, Sem.run_pure]

theorem run_app_grow {t u e : TypeId} {i : TypeInfo} {z : Value} {du : TypeDesc} (ht : P.underlying t = some (.slice e)) (hdu : P.underlying u = some du) (hdu2 : ∀ k, du ≠ .int k) (hi : P.info? e = some i) (hzv : i.zero = some z) {x : Value} {n : Nat}
    (hl : (Builtin.lenOf x).run P w = .ok n w) {base : Option Addr} {len cap : Nat} {olds news : List Value} (hg : cap < len + n) (h63 : len + n < far) (hb : (len + n) * i.bytes < far)
    (hold : (Builtin.firstCells i.size len (.slice base len cap)).run P w.drew = .ok olds.toArray w.drew) (hn : (Builtin.firstCells i.size n x).run P w.drew = .ok news.toArray w.drew) :
    (Builtin.append_ #[t, u] ty #[.slice base len cap, x]).run P w = .ok (.slice (some ⟨w.heap.size, 0, none⟩) (len + n) (grownCap w (len + n) cap e))
      (pushB w.drew (.cells (olds.toArray ++ news.toArray ++ Builtin.zeroCells z.cells (grownCap w (len + n) cap e - (len + n))) e)) := by
  have hz := hzeros hdu2
  have hfar : far = 4294967296 := rfl
  have h1 : ¬ (len + n ≤ cap) := by omega
  have hfit := growslice_fits (need := len + n) (old := cap) (bytes := i.bytes) hg (by omega)
  have h48 : ¬ (Builtin.nextslicecap (len + n) cap * i.bytes > 2 ^ 48) := by have : (2 : Nat) ^ 48 = 281474976710656 := rfl
                                                                             omega
  have h63' : ¬ (((len + n : Nat) : Int) > IntKind.i64.max) := by have : IntKind.i64.max = 9223372036854775807 := rfl
                                                                  omega
  have hq : (Question.appendCap (len + n) cap e).forced = false := rfl
  simp only [Builtin.append_, Sem.run_bind, show (#[t, u] : Array TypeId)[0]? = some t from rfl, show (#[t, u] : Array TypeId)[1]? = some u from rfl, show (#[Value.slice base len cap, x] : Array Value)[0]? = some (.slice base len cap) from rfl,
    show (#[Value.slice base len cap, x] : Array Value)[1]? = some x from rfl, run_underlying ht, Result.andThen_ok, sizeOf, typeInfo, run_program, hi, Sem.run_pure]
  simp only [run_underlying hdu, Result.andThen_ok, hz, Bool.false_eq_true, if_false, hl, if_neg h1, Bool.not_false, if_true, false_and, h63', h48, Sem.run_bind, Sem.run_pure, run_program, hi, run_choose, hq, run_askRoom]
  simp only [World.drew] at hold hn
  simp only [hold, hn, Result.andThen_ok, zeroValue, Sem.run_bind, typeInfo, run_program, hi, hzv, Sem.run_pure, run_newRow]
  rfl

theorem zeroCells_size (z : Array Value) (n : Nat) : (Builtin.zeroCells z n).size = n * z.size := by simp [Builtin.zeroCells]

theorem append_ok (hs : SR w G L σ tm) {args : Array Operand} {ts : Array TypeId} {z bytes : Nat} {y1 y2 : Opd} (hf : fitO P (.call ⟨.builtin .append, args, ts⟩) (.append z bytes y1 y2) = true) {d : Option Nat} {r : T} {σ' : St}
    (hx : effO σ d (.append z bytes y1 y2) = some (.ok r σ')) :
    Good P ((execOp (Act.eval ⟨tm, ds⟩) ⟨dst, .call ⟨.builtin .append, args, ts⟩, ty, pos, af, gd⟩).run P w) w G L σ tm r σ' := by
  simp only [fitO] at hf
  split at hf
  · rename_i x1 x2 t u ea et
    have ea' : args = #[x1, x2] := by apply Array.ext'; simpa using ea
    have et' : ts = #[t, u] := by apply Array.ext'; simpa using et
    subst ea'; subst et'
    simp only [Bool.and_eq_true] at hf
    obtain ⟨⟨⟨ht, hu2⟩, h1⟩, h2⟩ := hf
    split at ht
    · rename_i e he
      have htu := elemT_ok he
      simp only [Bool.and_eq_true, beq_iff_eq] at ht
      obtain ⟨⟨hsz, hby⟩, hzero⟩ := ht
      obtain ⟨i, hi, hib⟩ := Option.map_eq_some_iff.1 hby
      have hisz : i.size = z := by obtain ⟨i', hi', h⟩ := sizeT_info hsz; rw [hi] at hi'; cases hi'; exact h
      subst hisz
      cases hzv : (P.info? e).bind (·.zero) with
      | none => rw [hzv] at hzero; cases hzero
      | some zv =>
        rw [hzv] at hzero
        have hzs : zv.cells.size = i.size := by simpa using hzero
        have hiz : i.zero = some zv := by rw [hi] at hzv; exact hzv
        have hud : ∃ du, P.underlying u = some du ∧ ∀ k, du ≠ .int k := by
          revert hu2; cases P.underlying u with
          | none => intro h; cases h
          | some du => cases du <;> intro h <;> first | exact absurd h Bool.false_ne_true | exact ⟨_, rfl, fun _ e => by cases e⟩
        obtain ⟨du, hdu, hdu2⟩ := hud
        simp only [effO] at hx
        split at hx
        · rename_i v1 v2 hv1 hv2
          simp only [Option.bind_eq_some_iff] at hx
          obtain ⟨add, hadd, hx⟩ := hx
          split at hx
          · rename_i hall
            have hzall : ∀ u ∈ add, u.cells.length = i.size := fun v hv => by simpa using List.all_eq_true.1 hall v hv
            have hr1 := val_ok (ds := ds) hs.ev h1 hv1
            have hr2 := val_ok (ds := ds) hs.ev h2 hv2
            obtain ⟨hlen, hsrc⟩ := src_ok (P := P) hs hr2 hadd hzall
            have exec : ∀ {v : Value} {w' : World}, (Builtin.append_ #[t, u] ty #[Act.eval ⟨tm, ds⟩ x1, Act.eval ⟨tm, ds⟩ x2]).run P w = .ok v w' →
                (execOp (Act.eval ⟨tm, ds⟩) ⟨dst, .call ⟨.builtin .append, #[x1, x2], #[t, u]⟩, ty, pos, af, gd⟩).run P w = .ok (.value v) w' := by
              intro v w' h
              simp only [execOp, resolve, invoke, builtin, Sem.run_bind, Sem.run_pure, Result.andThen_ok, List.map_toArray, List.map_cons, List.map_nil, h]
            have hfar : far = 4294967296 := rfl
            have hdrew : w.drew.heap = w.heap := rfl
            obtain ⟨news, hnews, hncr, hnl⟩ := hsrc add.length (Nat.le_refl _) w rfl
            obtain ⟨news', hnews', hncr', hnl'⟩ := hsrc add.length (Nat.le_refl _) w.drew hdrew
            rw [List.take_length] at hncr hncr'
            obtain ⟨hs1, hx1⟩ := hs.draw (w' := w.drew) rfl
            have hle1 := hx1.le hs
            split at hx
            · -- nil
              have e1 := hr1.inv_nils
              cases hemp : add.isEmpty with
              | true =>
                rw [hemp] at hx
                cases hx
                have h0 : add = [] := by simpa using hemp
                subst h0
                refine Good.same hs (v := .slice none 0 0) (exec ?_) (.v _ _ .nils)
                rw [e1]
                exact run_app_nil htu hdu hdu2 hi hlen hnews
              | false =>
                rw [hemp] at hx
                have hpos : 0 < add.length := by cases add with
                  | nil => cases hemp
                  | cons a l => simp
                simp only [cond_false] at hx
                split at hx
                · rename_i hc
                  obtain ⟨c1, c2, c3⟩ := hc
                  cases hx
                  have hnew : σ.newH none (.row 0 add) = some (σ.h.length, { σ with h := σ.h ++ [HO.row 0 add] }) := rfl
                  have hrun := run_app_grow (ty := ty) htu hdu hdu2 hi hiz hlen (base := none) (len := 0) (cap := 0) (olds := []) (by omega) (by omega) (by rw [hib, Nat.zero_add]; exact c1) (by simp [Builtin.firstCells]) hnews'
                  generalize hcap : grownCap w (0 + add.length) 0 e = cap at hrun
                  have hcap2 : add.length ≤ cap := by rw [← hcap]; simp only [grownCap, Question.cut]; omega
                  generalize hcells : (([] : List Value).toArray ++ news'.toArray ++ Builtin.zeroCells zv.cells (cap - (0 + add.length))) = cells at hrun
                  have hsz : cells.size = cap * i.size := by
                    rw [← hcells]; simp only [Array.size_append, zeroCells_size, hzs, List.size_toArray, List.length_nil, hnl']
                    rw [Nat.zero_add, Nat.zero_add, ← Nat.add_mul]; congr 1; omega
                  obtain ⟨h3, h4⟩ := newH_row hs1 hnew (c := cells) (el := e) (fr := (0, 0)) (s := i.size) (cap := cap) (by omega) hcap2 hzall c3 (by
                    rw [← hcells]
                    simp only [Array.toList_append, List.nil_append]
                    rw [List.take_append_of_le_length (by simp [hnl']), List.take_of_length_le (by simp [hnl'])]
                    exact CRs.mono hle1 hncr') (fun o _ hh => by omega)
                  have hget : (G.setRw σ.h.length 0 ⟨w.drew.heap.size, 0, i.size, cap⟩).rw σ.h.length 0 = some ⟨w.drew.heap.size, 0, i.size, cap⟩ := by
                    show (if σ.h.length = σ.h.length ∧ 0 = 0 then _ else _) = _; rw [if_pos ⟨rfl, rfl⟩]
                  rw [e1] at exec
                  rw [Nat.zero_add] at hrun
                  exact Good.step (exec hrun) (.v _ _ (.sl σ.h.length 0 0 add.length cap _ _ hget hcap2 (by simp) (.inr (by simp [hdrew])))) h3 (hx1.trans h4)
                · cases hx
            · -- a row
              rename_i id ver sz off len
              split at hx
              · rename_i ver' l hid
                split at hx
                · rename_i hc
                  obtain ⟨rfl, rfl, rfl, c4, c5, c6⟩ := hc
                  cases hx
                  obtain ⟨ro, a, cap, hro, hsz0, hlc, hcr, hadr, e1⟩ := hr1.inv_sl
                  obtain ⟨ro', hro', hlast, c, el, fr, hb, o1, o2, o3, o4, ocr, ofr⟩ := hs.hp.obj _ _ hid
                  rw [hro] at hro'; cases hro'
                  have hidlt : id < σ.h.length := by
                    rcases Nat.lt_or_ge id σ.h.length with h | h
                    · exact h
                    · rw [List.getElem?_eq_none h] at hid; cases hid
                  generalize hl' : l.take len ++ add = l'
                  have hll : l'.length = len + add.length := by rw [← hl']; simp; omega
                  have hl'z : ∀ v ∈ l', v.cells.length = ro.s := by
                    intro v hv; rw [← hl'] at hv
                    rcases List.mem_append.1 hv with h | h
                    · exact o3 v (List.mem_of_mem_take h)
                    · rw [← hsz0]; exact hzall v h
                  have hget' : (σ.h.set id (.row (ver' + 1) l'))[id]? = some (.row (ver' + 1) l') := by simp [List.getElem?_set, hidlt]
                  have hoth : ∀ j, j ≠ id → (σ.h.set id (.row (ver' + 1) l'))[j]? = σ.h[j]? := fun j hj => by simp [List.getElem?_set, Ne.symm hj]
                  have hown : ownB G σ.h id = some ro.B := by unfold ownB; rw [hid]; dsimp only; rw [hro]; rfl
                  have m1 : len * ro.s ≤ l.length * ro.s := Nat.mul_le_mul_right _ c4
                  have m2 : l.length * ro.s ≤ ro.cap * ro.s := Nat.mul_le_mul_right _ o2
                  have oldcr : CRs G w ((l.take len).flatMap V.cells) ((c.toList.drop ro.base).take (len * ro.s)) := by
                    have := ocr.take (len * ro.s)
                    rw [← flat_take _ o3, List.take_take, Nat.min_eq_left m1] at this
                    exact this
                  have hrw : ∀ (rn : RowLoc) j v q, G.rw j v = some q → (G.setRw id (ver' + 1) rn).rw j v = some q := by
                    intro rn j v q hj
                    show (if j = id ∧ v = ver' + 1 then _ else _) = _
                    rw [if_neg (by rintro ⟨rfl, rfl⟩; rw [hlast _ (by omega)] at hj; cases hj)]; exact hj
                  have hag : ∀ (rn : RowLoc) j, j ≠ id → (G.setRw id (ver' + 1) rn).ob j = G.ob j ∧ ∀ v, (G.setRw id (ver' + 1) rn).rw j v = G.rw j v := fun rn j hj =>
                    ⟨rfl, fun v => by show (if j = id ∧ v = ver' + 1 then _ else _) = _; rw [if_neg (fun e => hj e.1)]⟩
                  have hgetG : ∀ rn : RowLoc, (G.setRw id (ver' + 1) rn).rw id (ver' + 1) = some rn := fun rn => by
                    show (if id = id ∧ ver' + 1 = ver' + 1 then _ else _) = _; rw [if_pos ⟨rfl, rfl⟩]
                  have hlastG : ∀ (rn : RowLoc) v, ver' + 1 < v → (G.setRw id (ver' + 1) rn).rw id v = none := fun rn v hv => by
                    show (if id = id ∧ v = ver' + 1 then _ else _) = _; rw [if_neg (by rintro ⟨_, rfl⟩; omega)]; exact hlast v (by omega)
                  have hBG : ∀ (rn : RowLoc) B', ownB (G.setRw id (ver' + 1) rn) (σ.h.set id (.row (ver' + 1) l')) id = some B' → B' = rn.B := by
                    intro rn B' hB'
                    unfold ownB at hB'
                    rw [hget'] at hB'; dsimp only at hB'; rw [hgetG] at hB'; cases hB'; rfl
                  rw [e1] at exec
                  by_cases hfit : len + add.length ≤ cap
                  · -- there is room
                    have m3 : (len + add.length) * ro.s ≤ ro.cap * ro.s := Nat.mul_le_mul_right _ (by omega)
                    have hnl2 : news.length = add.length * ro.s := by rw [hnl, hsz0]
                    rw [Nat.add_mul] at m3
                    have hroom : ro.base + len * ro.s + news.length ≤ c.size := by omega
                    have hst : (storeCells (a.add (len * i.size)) news).run P w = .ok () (setB w ro.B (.cells (wr c (ro.base + len * ro.s) news) el fr)) := by
                      have hr := run_storeCells (P := P) (B := ro.B) (off := ro.base + len * ro.s) news 0 c w hb ofr (by simpa using hroom) hncr.cells
                      rcases hadr with h0 | ha
                      · have : news = [] := by
                          have : add.length = 0 := by omega
                          rw [this, Nat.zero_mul] at hnl2; exact List.eq_nil_of_length_eq_zero hnl2
                        subst this
                        exact hr
                      · rw [ha, add_none, hsz0]; simpa using hr
                    obtain ⟨h3, h4⟩ := hs.setHeap (id := id) (B := ro.B) (o := .cells (wr c (ro.base + len * ro.s) news) el fr) (G' := G.setRw id (ver' + 1) ro) (h' := σ.h.set id (.row (ver' + 1) l')) hown (fun _ => Iff.rfl) (fun _ _ h => h)
                      (hrw ro) (hag ro) hget' hoth (fun hle => by
                        refine ⟨ro, hgetG ro, hlastG ro, _, el, fr, set_new _ (lt_of_block hb), by rw [wr_size hroom]; exact o1, by omega, hl'z, o4, ?_, by rw [wr_size hroom]; exact ofr⟩
                        have : ((wr c (ro.base + len * ro.s) news).toList.drop ro.base).take (l'.length * ro.s) = (c.toList.drop ro.base).take (len * ro.s) ++ news := by
                          simp only [wr, List.toList_toArray]
                          rw [List.append_assoc, List.drop_append_of_le_length (by simp; omega), List.drop_take]
                          rw [show ro.base + len * ro.s - ro.base = len * ro.s by omega]
                          have hlen3 : ((c.toList.drop ro.base).take (len * ro.s)).length = len * ro.s := by simp; omega
                          rw [← List.append_assoc, List.take_append_of_le_length (by simp only [List.length_append, hlen3, hll, hnl2, Nat.add_mul]; omega),
                            List.take_of_length_le (by simp only [List.length_append, hlen3, hll, hnl2, Nat.add_mul]; omega)]
                        rw [this, ← hl', List.flatMap_append]
                        exact CRs.mono hle (oldcr.append hncr)) (hBG ro)
                    have hrun := run_app_fit (ty := ty) htu hdu hdu2 hi hlen hnews hfit hst
                    refine Good.step (exec hrun) (.v _ _ ?_) h3 h4
                    have hv := VR.sl (G := G.setRw id (ver' + 1) ro) (w := setB w ro.B (.cells (wr c (ro.base + len * ro.s) news) el fr)) id (ver' + 1) 0 (len + add.length) cap ro a (hgetG ro) hfit (by omega) hadr
                    rw [hsz0]; exact hv
                  · -- there is none
                    have hgt : cap < len + add.length := by omega
                    have hold : (Builtin.firstCells i.size len (.slice (some a) len cap)).run P w.drew = .ok ((c.toList.drop ro.base).take (len * ro.s)).toArray w.drew := by
                      have hl2 : ((c.toList.drop ro.base).take (len * ro.s)).length = len * i.size := by rw [hsz0]; simp; omega
                      rcases hadr with h0 | ha
                      · have : len = 0 := by omega
                        subst this
                        simp [Builtin.firstCells, loadCells, loadCellsFrom]
                      · subst ha
                        rw [Nat.zero_mul, Nat.add_zero]
                        refine run_firstCells (w := w.drew) ⟨c, el, fr, hb, fun j hj => by
                          have hj' : j < len * ro.s := by rw [hl2, hsz0] at hj; exact hj
                          rw [List.getElem?_take_of_lt hj', List.getElem?_drop, Array.getElem?_toList]⟩ hl2 len cap
                    have hrun := run_app_grow (ty := ty) htu hdu hdu2 hi hiz hlen (base := some a) (len := len) (cap := cap) hgt c6 (by rw [hib]; exact c5) hold hnews'
                    generalize hcap : grownCap w (len + add.length) cap e = cap' at hrun
                    have hcap2 : len + add.length ≤ cap' := by rw [← hcap]; simp only [grownCap, Question.cut]; omega
                    generalize hcells : (((c.toList.drop ro.base).take (len * ro.s)).toArray ++ news'.toArray ++ Builtin.zeroCells zv.cells (cap' - (len + add.length))) = cells at hrun
                    have hlen3 : ((c.toList.drop ro.base).take (len * ro.s)).length = len * ro.s := by simp; omega
                    have hnl2 : news'.length = add.length * ro.s := by rw [hnl', hsz0]
                    have hsz : cells.size = cap' * ro.s := by
                      rw [← hcells]; simp only [Array.size_append, zeroCells_size, hzs, List.size_toArray, hlen3, hnl2, hsz0]
                      rw [← Nat.add_mul, ← Nat.add_mul]; congr 1; omega
                    have hle2 : Le G w.drew (G.setRw id (ver' + 1) ⟨w.heap.size, 0, ro.s, cap'⟩) (pushB w.drew (.cells cells e)) := hs1.le_push _ (fun _ h => h) (fun _ _ h => h) (hrw _)
                    obtain ⟨h3, h4⟩ := hs1.pushHeap (id := id) (o := .cells cells e) (G' := G.setRw id (ver' + 1) ⟨w.heap.size, 0, ro.s, cap'⟩) (h' := σ.h.set id (.row (ver' + 1) l')) (rb := σ.rb) hle2 (fun _ h => h) (hag _) hget' hoth
                      ⟨_, hgetG _, hlastG _, cells, e, (0, 0), push_new _, by rw [hsz]; simp, by rw [hll]; exact hcap2, hl'z, o4, by
                        have : (cells.toList.drop 0).take (l'.length * ro.s) = (c.toList.drop ro.base).take (len * ro.s) ++ news' := by
                          rw [← hcells]
                          simp only [Array.toList_append, List.drop_zero]
                          rw [List.take_append_of_le_length (by simp only [List.length_append, hlen3, hll, hnl2, Nat.add_mul]; omega),
                            List.take_of_length_le (by simp only [List.length_append, hlen3, hll, hnl2, Nat.add_mul]; omega)]
                        rw [this, ← hl', List.flatMap_append]
                        exact CRs.mono hle2 (CRs.mono hle1 (oldcr.append hncr')), fun o _ hh => by omega⟩
                      (fun B hB => by rw [hBG _ B hB]; exact Nat.le_refl _)
                    refine Good.step (exec hrun) (.v _ _ ?_) h3 (hx1.trans h4)
                    have hv := VR.sl (G := G.setRw id (ver' + 1) ⟨w.heap.size, 0, ro.s, cap'⟩) (w := pushB w.drew (.cells cells e)) id (ver' + 1) 0 (len + add.length) cap' _ ⟨w.heap.size, 0, none⟩ (hgetG _) hcap2 (by simp) (.inr (by simp))
                    rw [hsz0]; exact hv
                · cases hx
              · cases hx
            · cases hx
          · cases hx
        · cases hx
    · cases ht
  · cases hf

end
end Go.Vm
end

section
set_option linter.unusedSimpArgs false
set_option linter.unusedVariables false
namespace Go.Vm
open Go Go.RowKit

section
variable {P : Program} {G : Gh} {w : World} {L : Lm} {σ : St} {tm : Array Value} {ds : List Deferred}
variable {dst : Option Tmp} {ty : TypeId} {pos : String} {af : Array Edge} {gd : Option (Nat × Bool)}

/-- Cells of a row of the VM's own turn: its elements are of one cell. -/
theorem SR.setRow (hs : SR w G L σ tm) {id ver : Nat} {l : List V} {r : RowLoc} (hid : σ.h[id]? = some (.row ver l)) (hr : G.rw id ver = some r) (h1 : r.s = 1) {p : Nat} {ys : List V} {zs : List Value}
    (hp : p + ys.length ≤ l.length) (hys : ∀ v ∈ ys, v.cells.length = 1) (hz : CRs G w (ys.flatMap V.cells) zs) :
    ∃ w', (storeCells ⟨r.B, r.base + p, none⟩ zs).run P w = .ok () w' ∧ SR w' G L { σ with h := σ.h.set id (.row ver (l.take p ++ ys ++ l.drop (p + ys.length))) } tm ∧
      Ext w G L σ w' G L { σ with h := σ.h.set id (.row ver (l.take p ++ ys ++ l.drop (p + ys.length))) } := by
  obtain ⟨r', hr', hlast, hor⟩ := hs.hp.obj _ _ hid
  rw [hr] at hr'; cases hr'
  obtain ⟨c, el, fr, hb, g1, g2, g3, g4, hcr, hf⟩ := hor
  rw [h1] at g1 g3 hcr
  simp only [Nat.mul_one] at g1 hcr
  have flatlen : ∀ (m : List V), (∀ v ∈ m, v.cells.length = 1) → (m.flatMap V.cells).length = m.length := by
    intro m
    induction m with
    | nil => intro _; rfl
    | cons a m ih =>
      intro h
      rw [List.flatMap_cons, List.length_append, h a (by simp), ih (fun v hv => h v (by simp [hv])), List.length_cons]; omega
  have hzl : zs.length = ys.length := by have := hz.length; rw [flatlen ys hys] at this; exact this.symm
  have hrun := run_storeCells (P := P) (off := r.base + p) zs 0 c w hb hf (by omega) hz.cells
  have hlt : id < σ.h.length := by
    rcases Nat.lt_or_ge id σ.h.length with h | h
    · exact h
    · rw [List.getElem?_eq_none h] at hid; cases hid
  have hget : (σ.h.set id (HO.row ver (l.take p ++ ys ++ l.drop (p + ys.length))))[id]? = some (HO.row ver (l.take p ++ ys ++ l.drop (p + ys.length))) := by simp [List.getElem?_set, hlt]
  have hown : ownB G σ.h id = some r.B := by unfold ownB; rw [hid]; simp [hr]
  have hlen : r.base + p + zs.length ≤ c.size := by omega
  have hl' : (l.take p ++ ys ++ l.drop (p + ys.length)).length = l.length := by simp; omega
  obtain ⟨h5, h6⟩ := hs.setHeap (id := id) (B := r.B) (o := .cells (wr c (r.base + p) zs) el fr) (G' := G) hown (fun _ => Iff.rfl) (fun _ _ h => h) (fun _ _ _ h => h) (fun _ _ => ⟨rfl, fun _ => rfl⟩) hget
    (fun j hj => by simp [List.getElem?_set, Ne.symm hj]) (fun hle => by
      refine ⟨r, hr, hlast, _, _, _, set_new _ (lt_of_block hb), by rw [wr_size hlen, h1]; omega, by rw [hl']; exact g2, ?_, g4, ?_, by rw [wr_size hlen]; exact hf⟩
      · intro v hv
        rw [h1]
        rcases List.mem_append.1 hv with hv | hv
        · rcases List.mem_append.1 hv with hv | hv
          · exact g3 v (List.mem_of_mem_take hv)
          · exact hys v hv
        · exact g3 v (List.mem_of_mem_drop hv)
      · rw [hl', h1, Nat.mul_one]
        have hfl := CRs.mono hle (setRange_CRs (off := p) hcr hz)
        have e1 : setRange (l.flatMap V.cells) p (ys.flatMap V.cells) = (l.take p ++ ys ++ l.drop (p + ys.length)).flatMap V.cells := by
          have t1 := flat_take (l := l) p g3
          have t2 := flat_drop (l := l) (p + ys.length) g3
          simp only [Nat.mul_one] at t1 t2
          simp only [setRange, List.flatMap_append, t1, t2, flatlen ys hys]
        rw [e1] at hfl
        have eq : ((wr c (r.base + p) zs).toList.drop r.base).take l.length =
            ((c.toList.drop r.base).take l.length).take p ++ zs ++ ((c.toList.drop r.base).take l.length).drop (p + zs.length) := by
          simp only [wr]
          have hC : r.base + l.length ≤ c.toList.length := by simp; omega
          generalize c.toList = C at *
          rw [List.append_assoc, List.drop_append_of_le_length (by simp; omega), List.take_append]
          have a1 : (List.drop r.base (C.take (r.base + p))) = (C.drop r.base).take p := by
            rw [List.drop_take]; congr 1; omega
          rw [a1]
          have a2 : ((C.drop r.base).take p).length = p := by simp; omega
          rw [a2, List.take_of_length_le (by rw [a2]; omega)]
          rw [List.take_append, List.take_take]
          have a3 : min p l.length = p := by omega
          rw [a3, List.take_of_length_le (l := zs) (by omega), List.append_assoc]
          congr 2
          rw [List.drop_take, List.drop_drop]
          congr 1
          · omega
          · congr 1; omega
        rw [eq]; exact hfl)
    (fun B' hB' => by unfold ownB at hB'; rw [hget] at hB'; dsimp only at hB'; rw [hr] at hB'; cases hB'; rfl)
  refine ⟨_, ?_, h5, h6⟩
  simpa using hrun

theorem copy_ok (hs : SR w G L σ tm) {args : Array Operand} {ts : Array TypeId} {y1 y2 : Opd} (hf : fitO P (.call ⟨.builtin .copy, args, ts⟩) (.copy y1 y2) = true) {d : Option Nat} {r : T} {σ' : St}
    (hx : effO σ d (.copy y1 y2) = some (.ok r σ')) :
    Good P ((execOp (Act.eval ⟨tm, ds⟩) ⟨dst, .call ⟨.builtin .copy, args, ts⟩, ty, pos, af, gd⟩).run P w) w G L σ tm r σ' := by
  simp only [fitO] at hf
  split at hf
  · rename_i x1 x2 t u ea et
    have ea' : args = #[x1, x2] := by apply Array.ext'; simpa using ea
    have et' : ts = #[t, u] := by apply Array.ext'; simpa using et
    subst ea'; subst et'
    simp only [Bool.and_eq_true] at hf
    obtain ⟨⟨ht, h1⟩, h2⟩ := hf
    split at ht
    · rename_i e he
      have htu := elemT_ok he
      have hsz : sizeT P e = some 1 := by simpa using ht
      simp only [effO] at hx
      split at hx
      · rename_i v1 v2 hv1 hv2
        simp only [Option.bind_eq_some_iff] at hx
        obtain ⟨add, hadd, hx⟩ := hx
        split at hx
        · rename_i hall
          have hzall : ∀ u ∈ add, u.cells.length = 1 := fun v hv => by simpa using List.all_eq_true.1 hall v hv
          have hr1 := val_ok (ds := ds) hs.ev h1 hv1
          have hr2 := val_ok (ds := ds) hs.ev h2 hv2
          obtain ⟨hlen, hsrc⟩ := src_ok (P := P) hs hr2 hadd hzall
          have exec : ∀ {v : Value} {w' : World}, (Builtin.copy_ #[t, u] ty #[Act.eval ⟨tm, ds⟩ x1, Act.eval ⟨tm, ds⟩ x2]).run P w = .ok v w' →
              (execOp (Act.eval ⟨tm, ds⟩) ⟨dst, .call ⟨.builtin .copy, #[x1, x2], #[t, u]⟩, ty, pos, af, gd⟩).run P w = .ok (.value v) w' := by
            intro v w' h
            simp only [execOp, resolve, invoke, builtin, Sem.run_bind, Sem.run_pure, Result.andThen_ok, List.map_toArray, List.map_cons, List.map_nil, h]
          split at hx
          · cases hx
            obtain ⟨news, hn, _, hnl⟩ := hsrc 0 (Nat.zero_le _) w rfl
            refine Good.same hs (v := .int .i64 0) (exec ?_) (.v _ _ (.int _ _))
            rw [hr1.inv_nils]
            have e0 : Nat.min add.length 0 = 0 := Nat.min_zero _
            simp [Builtin.copy_, run_underlying htu, hlen, run_sizeT hsz, hn, goInt]
          · rename_i id ver sz off len
            split at hx
            · rename_i ver' l hm
              split at hx
              · rename_i hc
                obtain ⟨rfl, rfl, hle⟩ := hc
                cases hx
                obtain ⟨q, a, cap, hq, hqs, c1, c2, ha, ev⟩ := hr1.inv_sl
                generalize hk : min add.length len = k
                have hk1 : k ≤ add.length := by omega
                have hk2 : k ≤ len := by omega
                obtain ⟨news, hn, hncr, hnl⟩ := hsrc k hk1 w rfl
                have e0 : Nat.min add.length len = k := hk
                have hys : ∀ v ∈ add.take k, v.cells.length = 1 := fun v hv => hzall v (List.mem_of_mem_take hv)
                have hyl : (add.take k).length = k := by simp; omega
                have hmain : ∃ w', (storeCells a news).run P w = .ok () w' ∧ SR w' G L { σ with h := σ.h.set id (.row ver' (l.take off ++ add.take k ++ l.drop (off + k))) } tm ∧
                    Ext w G L σ w' G L { σ with h := σ.h.set id (.row ver' (l.take off ++ add.take k ++ l.drop (off + k))) } := by
                  by_cases hk0 : k = 0
                  · subst hk0
                    have hn0 : news = [] := by simpa using hnl
                    subst hn0
                    have hlt : id < σ.h.length := by
                      rcases Nat.lt_or_ge id σ.h.length with h | h
                      · exact h
                      · rw [List.getElem?_eq_none h] at hm; cases hm
                    have hsame : σ.h.set id (.row ver' (l.take off ++ add.take 0 ++ l.drop (off + 0))) = σ.h := by
                      have e1 : l.take off ++ add.take 0 ++ l.drop (off + 0) = l := by simp
                      rw [e1]
                      rw [List.getElem?_eq_getElem hlt] at hm
                      rw [← Option.some.inj hm]
                      exact List.set_getElem_self hlt
                    rw [hsame]
                    exact ⟨w, rfl, hs, Ext.refl w G L σ⟩
                  · have ha' := ha.resolve_left (by omega)
                    subst ha'
                    have hq1 : q.s = 1 := hqs.symm
                    have := hs.setRow (P := P) hm hq hq1 (p := off) (ys := add.take k) (by rw [hyl]; omega) hys hncr
                    rw [hyl] at this
                    rw [hq1, Nat.mul_one]
                    exact this
                obtain ⟨w', hst, h5, h6⟩ := hmain
                refine Good.step (v := .int .i64 (k : Int)) (exec ?_) (.v _ _ (.int _ _)) h5 h6
                rw [ev]
                simp [Builtin.copy_, run_underlying htu, hlen, run_sizeT hsz, hn, e0, hst, goInt]
              · cases hx
            · cases hx
          · cases hx
        · cases hx
      · cases hx
    · cases ht
  · cases hf

end
end Go.Vm
end

section
set_option linter.unusedSimpArgs false
set_option linter.unusedVariables false
namespace Go.Vm
open Go Go.RowKit

section
variable {P : Program} {G : Gh} {w : World} {L : Lm} {σ : St} {tm : Array Value} {ds : List Deferred}
variable {dst : Option Tmp} {ty : TypeId} {pos : String} {af : Array Edge} {gd : Option (Nat × Bool)}

theorem tassert_ok (hs : SR w G L σ tm) {x : Operand} {xt t : TypeId} {ok : Bool} {t' : Nat} {y : Opd} (hf : fitO P (.typeAssert x xt t ok) (.tassert t' y) = true) {r : T} (hx : pureO σ (.tassert t' y) = some r) :
    Good P ((execOp (Act.eval ⟨tm, ds⟩) ⟨dst, .typeAssert x xt t ok, ty, pos, af, gd⟩).run P w) w G L σ tm r σ := by
  simp only [fitO, Bool.and_eq_true, beq_iff_eq] at hf
  obtain ⟨⟨⟨rfl, rfl⟩, hd⟩, h1⟩ := hf
  simp only [pureO] at hx
  split at hx
  · rename_i t2 v hv
    split at hx
    · rename_i e
      cases hx
      have hvr := val_ok (ds := ds) hs.ev h1 hv
      obtain ⟨X, hX, eX⟩ := hvr.inv_iface
      subst e
      refine Good.same hs (exec_v (x := .tuple #[X, .bool true]) rfl ?_) (.v _ _ ?_)
      · rw [eX]
        cases hq : P.underlying t2 with
        | none => rw [hq] at hd; cases hd
        | some d => cases d <;> rw [hq] at hd <;> first | (cases hd; done) | simp [Instr.typeAssert, run_underlying hq]
      · exact .tuple _ [X, .bool true] (.cons _ _ _ _ hX (.cons _ _ _ _ (.bool true) .nil))
    · cases hx
  · cases hx

theorem ifn_ok (hs : SR w G L σ tm) {o : BinOp} {t yt : TypeId} {x y : Operand} {neg : Bool} {x' : Opd} (hf : fitO P (.binOp o t x y yt) (.ifn neg x') = true) {r : T} (hx : pureO σ (.ifn neg x') = some r) :
    Good P ((execOp (Act.eval ⟨tm, ds⟩) ⟨dst, .binOp o t x y yt, ty, pos, af, gd⟩).run P w) w G L σ tm r σ := by
  simp only [fitO, Bool.and_eq_true, beq_iff_eq] at hf
  obtain ⟨⟨⟨ho, hk⟩, hy⟩, h1⟩ := hf
  have hu : ∃ ms, P.underlying t = some (.interface ms) := by
    cases hq : P.underlying t with
    | none => rw [hq] at hk; cases hk
    | some d => cases d <;> rw [hq] at hk <;> first | exact ⟨_, rfl⟩ | (cases hk; done)
  obtain ⟨ms, hu⟩ := hu
  have ey : y = .const .nilIface := by
    cases y <;> first | (cases hy; done) | skip
    rename_i v
    cases v <;> first | rfl | (cases hy; done)
  subst ey
  have eY : Act.eval ⟨tm, ds⟩ (.const .nilIface) = .nilIface := rfl
  have fin : ∀ {X : Value} {q : Bool}, Act.eval ⟨tm, ds⟩ x = X → (eqGuard o t x (.const .nilIface) X .nilIface).run P w = .ok () w → (Op.equal t X .nilIface).run P w = .ok q w →
      (binOp .eql t X .nilIface = (do pure (.bool (← Op.equal t X .nilIface)))) → (binOp .neq t X .nilIface = (do pure (.bool (!(← Op.equal t X .nilIface))))) →
      Good P ((execOp (Act.eval ⟨tm, ds⟩) ⟨dst, .binOp o t x (.const .nilIface) yt, ty, pos, af, gd⟩).run P w) w G L σ tm (.v (.bool (neg ^^ q))) σ := by
    intro X q eX hg he h3 h4
    refine Good.same (v := .bool (neg ^^ q)) hs (exec_v rfl ?_) (.v _ _ (.bool _))
    rw [eX, eY]
    simp only [Sem.run_bind, hg, Result.andThen_ok]
    subst ho
    cases neg
    · simp only [Bool.false_eq_true, if_false]; rw [h3]; simp [he]
    · simp only [if_true]; rw [h4]; simp [he]
  simp only [pureO] at hx
  split at hx
  · rename_i hv
    cases hx
    have hvr := val_ok (ds := ds) hs.ev h1 hv
    have eX := hvr.inv_nili
    refine fin eX ?_ ?_ rfl rfl
    · unfold eqGuard
      cases o <;> first | rfl | (cases x <;> simp)
    · show (Op.equalIn (9999 + 1) t _ _).run P w = _
      unfold Op.equalIn
      simp only [Sem.run_bind, run_underlying hu, Result.andThen_ok, Sem.run_pure]
  · rename_i t2 v hv
    cases hx
    have hvr := val_ok (ds := ds) hs.ev h1 hv
    obtain ⟨X, hX, eX⟩ := hvr.inv_iface
    refine fin eX ?_ ?_ rfl rfl
    · unfold eqGuard
      cases o <;> rfl
    · show (Op.equalIn (9999 + 1) t _ _).run P w = _
      unfold Op.equalIn
      simp only [Sem.run_bind, run_underlying hu, Result.andThen_ok, Sem.run_pure]
  · cases hx

theorem loadA_ok (hs : SR w G L σ tm) {t : TypeId} {a : Operand} {A : Acc} {ag : Bool} {n : Nat} {b : Opd} (hf : fitO P (.load t a) (.loadA A ag n b) = true) {r : T} (hx : readO σ (.loadA A ag n b) = some r) :
    Good P ((execOp (Act.eval ⟨tm, ds⟩) ⟨dst, .load t a, ty, pos, af, gd⟩).run P w) w G L σ tm r σ := by
  refine load_ok (st := false) (ag := ag) (n := n) (b := b) hs hf ?_
  simp only [readO] at hx ⊢
  split at hx
  · simpa using hx
  · cases hx

theorem loadN_ok (hs : SR w G L σ tm) {t : TypeId} {a : Operand} {x : Nat} {ag : Bool} {n : Nat} {b : Opd} (hf : fitO P (.load t a) (.loadN x ag n b) = true) {r : T} (hx : readO σ (.loadN x ag n b) = some r) :
    Good P ((execOp (Act.eval ⟨tm, ds⟩) ⟨dst, .load t a, ty, pos, af, gd⟩).run P w) w G L σ tm r σ := by
  refine load_ok (st := false) (ag := ag) (n := n) (b := b) hs hf ?_
  simp only [readO, St.loadN] at hx ⊢
  split at hx
  · rename_i h1 h2
    split at hx
    · cases hx
    · rw [h1]; simpa using hx
  · cases hx

theorem storeA_ok (hs : SR w G L σ tm) {t : TypeId} {a x : Operand} {A : Acc} {n : Nat} {b y : Opd} (hf : fitO P (.store t a x) (.storeA A n b y) = true) {d : Option Nat} {r : T} {σ' : St} (hx : effO σ d (.storeA A n b y) = some (.ok r σ')) :
    Good P ((execOp (Act.eval ⟨tm, ds⟩) ⟨dst, .store t a x, ty, pos, af, gd⟩).run P w) w G L σ tm r σ' := by
  refine store_ok (n := n) (b := b) (y := y) (d := d) hs hf ?_
  simp only [effO, Option.bind_eq_some_iff] at hx ⊢
  obtain ⟨v, hv, hx⟩ := hx
  refine ⟨v, hv, ?_⟩
  split at hx
  · rename_i h; rw [if_pos h.1]; exact hx
  · cases hx

theorem run_appz {t u e : TypeId} {i : TypeInfo} {z : Value} {k : IntKind} {k2 : IntKind} {n : Int} (ht : P.underlying t = some (.slice e)) (hu : P.underlying u = some (.int k)) (hi : P.info? e = some i) (hzv : i.zero = some z)
    (hn : 0 < n) (h63 : n < far) (hb : n * i.bytes < far) (hsz : 0 < i.size) :
    (Builtin.append_ #[t, u] ty #[.slice none 0 0, .int k2 n]).run P w = .ok (.slice (some ⟨w.heap.size, 0, none⟩) n.toNat (grownCap w n.toNat 0 e))
      (pushB w.drew (.cells (Builtin.zeroCells z.cells n.toNat ++ Builtin.zeroCells z.cells (grownCap w n.toNat 0 e - n.toNat)) e)) := by
  have hfar : far = 4294967296 := rfl
  obtain ⟨m, rfl⟩ : ∃ m : Nat, n = (m : Int) := ⟨n.toNat, by omega⟩
  have hm : 0 < m := by omega
  have hm2 : m < far := by omega
  have hmb : m * i.bytes < far := by exact_mod_cast hb
  have hw : IntKind.i64.wrap (m : Int) = (m : Int) := by simp [IntKind.wrap, IntKind.bits, IntKind.signed]; omega
  have h1 : ¬ ((m : Int) < 0) := by omega
  have hp48 : (2 : Int) ^ 48 = 281474976710656 := rfl
  have hpn : (2 : Nat) ^ 48 = 281474976710656 := rfl
  have h2 : ¬ ((m : Int) * (i.bytes : Int) > 2 ^ 48) := by rw [hp48]; omega
  have h3 : ¬ (0 + m ≤ 0) := by omega
  have hfit := growslice_fits (need := m) (old := 0) (bytes := i.bytes) hm (by omega)
  have h48 : ¬ (Builtin.nextslicecap m 0 * i.bytes > 2 ^ 48) := by rw [hpn]; omega
  have h63' : ¬ (((m : Nat) : Int) > IntKind.i64.max) := by have : IntKind.i64.max = 9223372036854775807 := rfl
                                                            omega
  have hq : (Question.appendCap m 0 e).forced = false := rfl
  have hms : ¬ (m * i.size = 0) := by
    have := Nat.mul_pos hm hsz; omega
  have hasInt : (asInt (.int k2 (m : Int))).run P w = .ok (m : Int) w := by simp [asInt, asIntOf]
  simp only [Builtin.append_, Sem.run_bind, show (#[t, u] : Array TypeId)[0]? = some t from rfl, show (#[t, u] : Array TypeId)[1]? = some u from rfl, show (#[Value.slice none 0 0, Value.int k2 (m : Int)] : Array Value)[0]? = some (.slice none 0 0) from rfl,
    show (#[Value.slice none 0 0, Value.int k2 (m : Int)] : Array Value)[1]? = some (.int k2 (m : Int)) from rfl, run_underlying ht, Result.andThen_ok, sizeOf, typeInfo, run_program, hi, Sem.run_pure]
  simp only [run_underlying hu, Result.andThen_ok, if_true, hasInt, hw, Sem.run_bind, h1, if_false, run_program, hi, Sem.run_pure, h2, Int.toNat_natCast, h3, Bool.not_true, Bool.false_eq_true, Nat.zero_add, h63', or_true, true_or, and_true, false_and, h48, run_choose, hq, run_askRoom]
  have h3' : ¬ (m ≤ 0) := by omega
  simp only [if_neg h3', Sem.run_bind, run_program, hi, Sem.run_pure, Result.andThen_ok, h48, if_false, run_choose, hq, run_askRoom, Bool.false_eq_true]
  simp only [Builtin.firstCells, Sem.run_pure, Result.andThen_ok, hms, if_false, zeroValue, Sem.run_bind, typeInfo, run_program, hi, hzv, run_newRow]
  have e0 : (#[] : Array Value) ++ Builtin.zeroCells z.cells m = Builtin.zeroCells z.cells m := by simp
  rw [e0]
  rfl

theorem zeroCells_list (zs : Array Value) (z : Nat) (hz : zs.size = z) (h0 : 0 < z) (n : Nat) : (Builtin.zeroCells zs n).toList = (List.replicate n zs.toList).flatten := by
  have := cycle_eq zs.toList (by simp; omega) n
  rw [← this]
  simp [Builtin.zeroCells]

theorem appendz_ok (hs : SR w G L σ tm) {args : Array Operand} {ts : Array TypeId} {z bytes : Nat} {zero : V} {y1 y2 : Opd} (hf : fitO P (.call ⟨.builtin .append, args, ts⟩) (.appendz z bytes zero y1 y2) = true) {d : Option Nat} {r : T} {σ' : St}
    (hx : effO σ d (.appendz z bytes zero y1 y2) = some (.ok r σ')) :
    Good P ((execOp (Act.eval ⟨tm, ds⟩) ⟨dst, .call ⟨.builtin .append, args, ts⟩, ty, pos, af, gd⟩).run P w) w G L σ tm r σ' := by
  simp only [fitO] at hf
  split at hf
  · rename_i x1 x2 t u ea et
    have ea' : args = #[x1, x2] := by apply Array.ext'; simpa using ea
    have et' : ts = #[t, u] := by apply Array.ext'; simpa using et
    subst ea'; subst et'
    simp only [Bool.and_eq_true] at hf
    obtain ⟨⟨⟨ht, hu2⟩, h1⟩, h2⟩ := hf
    split at ht
    · rename_i e he
      have htu := elemT_ok he
      simp only [Bool.and_eq_true, beq_iff_eq] at ht
      obtain ⟨⟨hsz, hby⟩, hzero⟩ := ht
      obtain ⟨i, hi, hib⟩ := Option.map_eq_some_iff.1 hby
      have hisz : i.size = z := by obtain ⟨i', hi', h⟩ := sizeT_info hsz; rw [hi] at hi'; cases hi'; exact h
      subst hisz
      cases hzv : (P.info? e).bind (·.zero) with
      | none => rw [hzv] at hzero; cases hzero
      | some zv =>
        rw [hzv] at hzero
        simp only [Option.any_some, Bool.and_eq_true, beq_iff_eq] at hzero
        obtain ⟨hzf, hzs⟩ := hzero
        have hzvr : VR G w zero zv := fitV_VR hzf
        have hiz : i.zero = some zv := by rw [hi] at hzv; exact hzv
        have hud : ∃ k, P.underlying u = some (.int k) := by
          revert hu2; cases P.underlying u with
          | none => intro h; cases h
          | some du => cases du <;> intro h <;> first | exact ⟨_, rfl⟩ | (cases h; done)
        obtain ⟨k, hu⟩ := hud
        simp only [effO] at hx
        split at hx
        · rename_i k2 n hv1 hv2
          split at hx
          · rename_i hb
            obtain ⟨b1, b2, b3, b4, b5⟩ := hb
            cases hx
            have hr1 := val_ok (ds := ds) hs.ev h1 hv1
            have hr2 := val_ok (ds := ds) hs.ev h2 hv2
            have e1 := hr1.inv_nils
            have e2 := hr2.inv_int
            have hrun := run_appz (ty := ty) (k2 := k2) (n := n) (w := w) htu hu hi hiz b1 b3 (by rw [hib]; exact b2) b5
            generalize hcap : grownCap w n.toNat 0 e = cap at hrun
            have hcap2 : n.toNat ≤ cap := by rw [← hcap]; simp only [grownCap, Question.cut]; omega
            have hnew : σ.newH none (.row 0 (List.replicate n.toNat zero)) = some (σ.h.length, { σ with h := σ.h ++ [HO.row 0 (List.replicate n.toNat zero)] }) := rfl
            obtain ⟨hs1, hx1⟩ := hs.draw (w' := w.drew) rfl
            have hle1 := hx1.le hs
            have hcz : zero.cells ≠ [] := by intro e; rw [e] at b4; simp at b4; omega
            have hcr := CRs.mono hle1 (hzvr.cells hcz)
            have hrep : ∀ n, CRs G w.drew (List.replicate n zero.cells).flatten (List.replicate n zv.cells.toList).flatten := by
              intro n
              induction n with
              | zero => simpa using CRs.nil
              | succ n ih => rw [List.replicate_succ, List.replicate_succ, List.flatten_cons, List.flatten_cons]; exact hcr.append ih
            have hflat : (List.replicate n.toNat zero).flatMap V.cells = (List.replicate n.toNat zero.cells).flatten := by simp [List.flatMap]
            have hlz : (Builtin.zeroCells zv.cells n.toNat).toList = (List.replicate n.toNat zv.cells.toList).flatten := zeroCells_list zv.cells i.size hzs b5 _
            generalize hcells : (Builtin.zeroCells zv.cells n.toNat ++ Builtin.zeroCells zv.cells (cap - n.toNat)) = cells at hrun
            have hcsz : cells.size = cap * i.size := by
              rw [← hcells]; simp only [Array.size_append, zeroCells_size, hzs]
              rw [← Nat.add_mul]; congr 1; omega
            obtain ⟨h3, h4⟩ := newH_row hs1 hnew (c := cells) (el := e) (fr := (0, 0)) (s := i.size) (cap := cap) (by omega) (by simpa using hcap2) (fun v hv => by rw [List.eq_of_mem_replicate hv]; exact b4) b5 (by
              rw [hflat, List.length_replicate, ← hcells, Array.toList_append, hlz]
              have hl : (List.replicate n.toNat zv.cells.toList).flatten.length = n.toNat * i.size := by simp [hzs]
              rw [List.take_append_of_le_length (by omega), List.take_of_length_le (by omega)]
              exact hrep _) (fun o _ hh => by omega)
            have hget : (G.setRw σ.h.length 0 ⟨w.drew.heap.size, 0, i.size, cap⟩).rw σ.h.length 0 = some ⟨w.drew.heap.size, 0, i.size, cap⟩ := by
              show (if σ.h.length = σ.h.length ∧ 0 = 0 then _ else _) = _; rw [if_pos ⟨rfl, rfl⟩]
            have hdrew : w.drew.heap = w.heap := rfl
            refine Good.step (v := .slice (some ⟨w.heap.size, 0, none⟩) n.toNat cap) ?_ (.v _ _ (.sl σ.h.length 0 0 n.toNat cap _ _ hget hcap2 (by simp) (.inr (by simp [hdrew])))) h3 (hx1.trans h4)
            simp only [execOp, resolve, invoke, builtin, Sem.run_bind, Sem.run_pure, Result.andThen_ok, List.map_toArray, List.map_cons, List.map_nil, e1, e2, hrun]
          · cases hx
        · cases hx
    · cases ht
  · cases hf

end
end Go.Vm
end

section
set_option linter.unusedSimpArgs false
set_option linter.unusedSectionVars false
set_option linter.unusedVariables false
namespace Go.Vm
open Go Go.RowKit

section
variable {P : Program} {G : Gh} {w : World} {L : Lm} {σ : St} {tm : Array Value} {ds : List Deferred}
variable {dst : Option Tmp} {ty : TypeId} {pos : String} {af : Array Edge} {gd : Option (Nat × Bool)}

theorem cells_one {v : V} (h : v.isC) (hn : v.cells.length = 1) : v.cells = [v] := by
  cases v <;> first | rfl | exact False.elim h | simp [V.cells] at hn

theorem CRs.flat {cs : List V} {xs : List Value} (h : CRs G w cs xs) (hn : ∀ v ∈ cs, v.cells.length = 1) : cs.flatMap V.cells = cs := by
  induction cs generalizing xs with
  | nil => rfl
  | cons v cs ih =>
    cases h with
    | cons _ x _ xs hv hx h hs =>
      rw [List.flatMap_cons, ih hs (fun v h => hn v (by simp [h])), cells_one hv (hn v (by simp))]
      rfl

theorem frzL_ok (hs : SR w G L σ tm) {t : TypeId} {x : Operand} {lo hi mx : Option Operand} {n : Nat} {y : Opd} (hf : fitO P (.slice t x lo hi mx) (.frzL n y) = true) {d : Option Nat} {r : T} {σ' : St} (hx : effO σ d (.frzL n y) = some (.ok r σ')) :
    Good P ((execOp (Act.eval ⟨tm, ds⟩) ⟨dst, .slice t x lo hi mx, ty, pos, af, gd⟩).run P w) w G L σ tm r σ' := by
  simp only [fitO, Bool.and_eq_true] at hf
  obtain ⟨⟨⟨⟨h1, h2⟩, h3⟩, h4⟩, h5⟩ := hf
  obtain rfl : lo = none := by cases lo <;> first | rfl | cases h1
  obtain rfl : hi = none := by cases hi <;> first | rfl | cases h2
  obtain rfl : mx = none := by cases mx <;> first | rfl | cases h3
  split at h4
  · rename_i m e harr
    simp only [Bool.and_eq_true, beq_iff_eq] at h4
    obtain ⟨rfl, hsz⟩ := h4
    have hu := arrT_ok harr
    simp only [effO] at hx
    split at hx
    · rename_i dd g off hev
      split at hx
      · rename_i g' cs hm
        split at hx
        · rename_i hb
          obtain ⟨rfl, rfl, hlen, hall⟩ := hb
          cases hx
          obtain ⟨B, hL, hoc, hst, hown⟩ := hs.lc.obj _ _ _ hm
          obtain ⟨c, el, fr, hB, hcr, hnf⟩ := hoc
          have hlt : B < w.heap.size := lt_of_block hB
          have e1 := ev_ok (ds := ds) hs.ev h5
          rw [hev] at e1
          obtain ⟨B', hL', ex⟩ := e1.inv_loc
          rw [hL] at hL'
          cases hL'
          have hle : Le G w { st := fun b => G.st b ∨ b = B, ob := G.ob, rw := G.rw } w := ⟨fun _ h => .inl h, fun _ _ => rfl, fun _ _ h => h, fun _ _ _ h => h⟩
          refine ⟨_, .slice (some ⟨B, 0, none⟩) n n, w, { st := fun b => G.st b ∨ b = B, ob := G.ob, rw := G.rw }, L, exec_v rfl ?_, .inl rfl, .v _ _ ?_, ⟨?_, ⟨?_, ?_, hs.lc.fresh⟩, ?_⟩, ?_⟩
          · have ha : Addr.add ⟨B, 0, none⟩ (0 * 1) = (⟨B, 0, none⟩ : Addr) := rfl
            simp [Instr.sliceAt, run_underlying hu, Instr.sliceBounds, Instr.sureAddr, ex, run_sizeT hsz, add_none]
          · subst hlen
            have hcr' := CRs.mono hle hcr
            exact .snap cs B 0 1 cs.length c.toList (show G.st B ∨ B = B from .inr rfl) ⟨c, el, fr, hB, fun i hi => by simp [Array.getElem?_toList]⟩
              (fun v hv => by simpa using List.all_eq_true.1 hall v hv) (Nat.le_refl _) (by rw [hcr'.flat (fun v hv => by simpa using List.all_eq_true.1 hall v hv)]; exact hcr')
          · refine hs.hp.keep hle (Nat.le_refl _) (fun b hb => ?_) (fun _ => ⟨rfl, fun _ => rfl⟩) (fun _ _ _ => rfl)
            rcases hb with hb | rfl
            · exact ⟨hs.hp.stl b hb, fun id e => hs.hp.ost _ _ e hb⟩
            · exact ⟨hlt, hown⟩
          · intro d' g' cs' hm'
            have hm2 : (bif d' == dd then none else σ.m d') = some (g', cs') := hm'
            by_cases hd : d' = dd
            · subst hd; simp at hm2
            · have hd2 : (d' == dd) = false := by simpa using hd
              rw [hd2, cond_false] at hm2
              obtain ⟨B2, k1, k2, k3, k4⟩ := hs.lc.obj _ _ _ hm2
              refine ⟨B2, k1, OC.mono k2 hle rfl, ?_, k4⟩
              rintro (k | rfl)
              · exact k3 k
              · exact hd (hs.lc.inj _ _ _ _ _ _ _ hm2 hm k1 hL)
          · intro d1 d2 g1 g2 cs1 cs2 B2 e1 e2 e3 e4
            have e1' : (bif d1 == dd then none else σ.m d1) = some (g1, cs1) := e1
            have e2' : (bif d2 == dd then none else σ.m d2) = some (g2, cs2) := e2
            cases k1 : d1 == dd
            · cases k2 : d2 == dd
              · rw [k1, cond_false] at e1'
                rw [k2, cond_false] at e2'
                exact hs.lc.inj _ _ _ _ _ _ _ e1' e2' e3 e4
              · rw [k2] at e2'; cases e2'
            · rw [k1] at e1'; cases e1'
          · exact fun t => (hs.ev t).mono hle fun _ _ _ h => h
          · refine ⟨rfl, rfl, rfl, Nat.le_refl _, fun _ _ _ _ => rfl, fun _ h => .inl h, fun _ _ h => h, fun _ _ _ h => h, fun _ _ _ h => h, fun b h => ?_, fun id b h => .inl ⟨id, h⟩, fun d' g' cs' b h1 h2 => ?_⟩
            · rcases h with h | rfl
              · exact .inl h
              · exact .inr (.inr ⟨_, _, _, hm, hL⟩)
            · have h1' : (bif d' == dd then none else σ.m d') = some (g', cs') := h1
              cases k1 : d' == dd
              · rw [k1, cond_false] at h1'
                exact .inl ⟨_, _, _, h1', h2⟩
              · rw [k1] at h1'; cases h1'
        · cases hx
      · cases hx
    · cases hx
  · cases h4
end
end Go.Vm
end

section
set_option linter.unusedSimpArgs false
set_option linter.unusedSectionVars false
set_option linter.unusedVariables false
namespace Go.Vm
open Go Go.RowKit

def L0 : Lm := fun _ _ => none

/-- What a call leaves: the model's end beside the VM's. -/
def CPost (w : World) (G : Gh) (h : List HO) (r : CR) (h' : List HO) (e : Ending) (w' : World) : Prop :=
  ∃ G', Ext w G L0 (St.init [] h) w' G' L0 (St.init [] h') ∧ WR w' G' h' ∧
    match r, e with
    | .ret v, .returned x => VR G' w' v x
    | .pan v, .panicked chain => ∃ x, chain = [{ v := x, recovered := false }] ∧ VR G' w' v x
    | _, _ => False

/-- The callees' answers are the model's. -/
def CallOK (P : Program) (call : Calls1) : Prop :=
  ∀ f vs h r h', call f vs h = some (r, h') → ∀ w G xs, WR w G h → VRs G w vs xs →
    ((callFunc f xs.toArray).run P w = .ok (.enter f xs.toArray) w ∧ Calls P f xs.toArray w (CPost w G h r h')) ∨
    (∃ x w', (callFunc f xs.toArray).run P w = .ok (.value x) w' ∧ CPost w G h r h' (.returned x) w')

section
variable {P : Program} {G : Gh} {w : World} {L : Lm} {σ : St} {tm : Array Value} {ds : List Deferred}
variable {dst : Option Tmp} {ty : TypeId} {pos : String} {af : Array Edge} {gd : Option (Nat × Bool)}

/-- A callee's memory, in the caller's. -/
theorem SR.called (hs : SR w G L σ tm) {w' : World} {G' : Gh} {h' : List HO} (hx : Ext w G L0 (St.init [] σ.h) w' G' L0 (St.init [] h')) (hw : WR w' G' h') :
    SR w' G' L { σ with h := h' } tm ∧ Ext w G L σ w' G' L { σ with h := h' } := by
  have hfr : ∀ B, B < w.heap.size → (∀ id, ownB G σ.h id ≠ some B) → w'.heap[B]? = w.heap[B]? := fun B hB h => hx.fr B hB h (fun d g cs h => by cases h)
  have hle : Le G w G' w' := ⟨hx.st, fun B hB => hfr B (hs.hp.stl B hB) (fun id e => hs.hp.ost id B e hB), hx.ob, hx.rw⟩
  refine ⟨⟨hw, ⟨?_, hs.lc.inj, hs.lc.fresh⟩, fun t => (hs.ev t).mono hle fun _ _ _ h => h⟩, ?_⟩
  · intro d g cs hd
    obtain ⟨B, h1, h2, h3, h4⟩ := hs.lc.obj d g cs hd
    have hlt : B < w.heap.size := by obtain ⟨c, el, fr, hb, _⟩ := h2; exact lt_of_block hb
    refine ⟨B, h1, h2.mono hle (hfr B hlt h4), fun hst => ?_, fun id e => ?_⟩
    · rcases hx.stn B hst with h | h | ⟨_, _, _, h, _⟩
      · exact h3 h
      · omega
      · cases h
    · rcases hx.own id B e with ⟨j, hj⟩ | h
      · exact h4 j hj
      · omega
  · exact ⟨hx.os, hx.tape, hx.output, hx.sz, fun B hB h _ => hfr B hB h, hx.st, hx.ob, hx.rw, fun _ _ _ h => h, fun B hB => (hx.stn B hB).elim .inl fun h => .inr (h.elim .inl fun ⟨_, _, _, h, _⟩ => by cases h), hx.own, fun d g cs B h1 h2 => .inl ⟨d, g, cs, h1, h2⟩⟩

/-- What is only read, alone. -/
def Gs (G : Gh) : Gh := { st := G.st, ob := fun _ => none, rw := fun _ _ => none }

theorem WRs {h : List HO} (hw : WR w G h) : WR w (Gs G) [] :=
  ⟨fun id o h => by simp at h, fun _ _ => ⟨rfl, fun _ => rfl⟩, fun i j B h => by simp [ownB] at h, fun i B h => by simp [ownB] at h, hw.stl⟩

theorem cells_pures {v : V} (h : v.pure = true) : V.pure.pures v.cells = true := by
  cases v <;> first | (simp [V.cells, V.pure.pures]; done) | (simp only [V.cells, V.pure.pures, Bool.and_true]; exact h) | (simpa [V.cells, V.pure] using h)

theorem pures_append {a b : List V} (ha : V.pure.pures a = true) (hb : V.pure.pures b = true) : V.pure.pures (a ++ b) = true := by
  induction a with
  | nil => exact hb
  | cons v a ih => simp only [List.cons_append, V.pure.pures, Bool.and_eq_true] at ha ⊢; exact ⟨ha.1, ih ha.2⟩

theorem pures_flat {l : List V} (h : V.pure.pures l = true) : V.pure.pures (l.flatMap V.cells) = true := by
  induction l with
  | nil => rfl
  | cons v l ih =>
    simp only [V.pure.pures, Bool.and_eq_true] at h
    rw [List.flatMap_cons]
    exact pures_append (cells_pures h.1) (ih h.2)

section
variable {G1 : Gh} (hst : ∀ B, G.st B → G1.st B)
include hst
mutual
theorem VR.pureTo {v : V} {x : Value} : VR G w v x → v.pure = true → VR G1 w v x
  | .undef x, _ => .undef x
  | .bool b, _ => .bool b
  | .int k n, _ => .int k n
  | .float k n, _ => .float k n
  | .str s b h, _ => .str s b h
  | .nilp, _ => .nilp
  | .ptr .., hp => by simp [V.pure] at hp
  | .cref cs B off xs hs hc h, hp => .cref cs B off xs (hst B hs) hc (CRs.pureTo h (by simpa [V.pure] using hp))
  | .eptr .., hp => by simp [V.pure] at hp
  | .nils, hp => by simp [V.pure] at hp
  | .snil a c, _ => .snil a c
  | .snap l B off s cap xs hs hc hl hle h, hp => .snap l B off s cap xs (hst B hs) hc hl hle (CRs.pureTo h (pures_flat (by simpa [V.pure] using hp)))
  | .sl .., hp => by simp [V.pure] at hp
  | .nilm, _ => .nilm
  | .map .., hp => by simp [V.pure] at hp
  | .nilf, _ => .nilf
  | .func f caps xs h, hp => .func f caps xs (VRs.pureTo h (by simpa [V.pure] using hp))
  | .nili, _ => .nili
  | .iface t v x h, hp => .iface t v x (VR.pureTo h (by simpa [V.pure] using hp))
  | .agg cs xs h, hp => .agg cs xs (CRs.pureTo h (by simpa [V.pure] using hp))
  | .tuple vs xs h, hp => .tuple vs xs (VRs.pureTo h (by simpa [V.pure] using hp))
theorem VRs.pureTo {v : List V} {x : List Value} : VRs G w v x → V.pure.pures v = true → VRs G1 w v x
  | .nil, _ => .nil
  | .cons v x vs xs h hs, hp => by
    simp only [V.pure.pures, Bool.and_eq_true] at hp
    exact .cons _ _ _ _ (VR.pureTo h hp.1) (VRs.pureTo hs hp.2)
theorem CRs.pureTo {v : List V} {x : List Value} : CRs G w v x → V.pure.pures v = true → CRs G1 w v x
  | .nil, _ => .nil
  | .cons v x vs xs hv hx h hs, hp => by
    simp only [V.pure.pures, Bool.and_eq_true] at hp
    exact .cons _ _ _ _ hv hx (VR.pureTo h hp.1) (CRs.pureTo hs hp.2)
end
end

/-- A callee that was handed values alone, that name no block. -/
theorem SR.pcalled (hs : SR w G L σ tm) {w' : World} {G' : Gh} (hx : Ext w (Gs G) L0 (St.init [] []) w' G' L0 (St.init [] [])) (hw : WR w' G' []) :
    ∃ G2 : Gh, SR w' G2 L σ tm ∧ Ext w G L σ w' G2 L σ ∧ ∀ B, G'.st B → G2.st B := by
  have hfr : ∀ B, B < w.heap.size → w'.heap[B]? = w.heap[B]? := fun B hB => hx.fr B hB (fun id h => by simp [ownB, St.init] at h) (fun d g cs h => by cases h)
  have hle : Le G w { st := G'.st, ob := G.ob, rw := G.rw } w' := ⟨fun B hB => hx.st B hB, fun B hB => hfr B (hs.hp.stl B hB), fun _ _ h => h, fun _ _ _ h => h⟩
  have hstn : ∀ B, G'.st B → G.st B ∨ w.heap.size ≤ B := fun B hB => (hx.stn B hB).elim .inl fun h => .inr (h.elim id fun ⟨_, _, _, h, _⟩ => by cases h)
  refine ⟨{ st := G'.st, ob := G.ob, rw := G.rw }, ⟨?_, ⟨?_, hs.lc.inj, hs.lc.fresh⟩, fun t => (hs.ev t).mono hle fun _ _ _ h => h⟩, ?_, fun B h => h⟩
  · refine hs.hp.keep hle hx.sz (fun B hB => ⟨hw.stl B hB, fun id e => ?_⟩) (fun _ => ⟨rfl, fun _ => rfl⟩) (fun id B hB => hfr B (hs.hp.own_lt hB))
    rcases hstn B hB with h | h
    · exact hs.hp.ost _ _ e h
    · have := hs.hp.own_lt e; omega
  · intro d g cs hd
    obtain ⟨B, h1, h2, h3, h4⟩ := hs.lc.obj d g cs hd
    have hlt : B < w.heap.size := by obtain ⟨c, el, fr, hb, _⟩ := h2; exact lt_of_block hb
    refine ⟨B, h1, h2.mono hle (hfr B hlt), fun hst => ?_, fun id e => h4 id e⟩
    rcases hstn B hst with h | h
    · exact h3 h
    · omega
  · exact ⟨hx.os, hx.tape, hx.output, hx.sz, fun B hB _ _ => hfr B hB, fun B hB => hx.st B hB, fun _ _ h => h, fun _ _ _ h => h, fun _ _ _ h => h, fun B hB => (hstn B hB).elim .inl fun h => .inr (.inl h), fun id B h => .inl ⟨id, h⟩, fun d g cs B h1 h2 => .inl ⟨d, g, cs, h1, h2⟩⟩

theorem effO_pan {d : Option Nat} {so : SO} {v : V} {σ' : St} (h : effO σ d so = some (.pan v σ')) : ∃ y, so = .panic y := by
  cases so <;> first
    | exact ⟨_, rfl⟩
    | (exfalso; change none = some _ at h; cases h; done)
    | (exfalso
       simp only [effO, Option.map_eq_some_iff, Option.bind_eq_some_iff] at h
       repeat' (first | (obtain ⟨_, _, h⟩ := h) | (split at h) | (simp only [Option.map_eq_some_iff, Option.bind_eq_some_iff, cond_eq_ite] at h; done) | (simp only [Option.map_eq_some_iff, Option.bind_eq_some_iff, cond_eq_ite] at h))
       all_goals first | (cases h; done) | skip)

theorem stepO_cases {call : Calls1} {d : Option Nat} {so : SO} {out : Out} (h : stepO call σ d so = some out) (hne : ∀ s f a, so ≠ .call s f a) (hnp : ∀ f a, so ≠ .pcall f a) :
    (∃ x, pureO σ so = some x ∧ out = .ok x σ) ∨ (∃ x, readO σ so = some x ∧ out = .ok x σ) ∨ effO σ d so = some out := by
  have h' : (match pureO σ so with | some x => some (.ok x σ) | none => match readO σ so with | some x => some (.ok x σ) | none => effO σ d so) = some out := by
    cases so <;> first | exact h | exact absurd rfl (hne _ _ _) | exact absurd rfl (hnp _ _)
  cases hp : pureO σ so with
  | some x => rw [hp] at h'; exact .inl ⟨x, rfl, (Option.some.inj h').symm⟩
  | none =>
    rw [hp] at h'
    cases hr : readO σ so with
    | some x => rw [hr] at h'; exact .inr (.inl ⟨x, rfl, (Option.some.inj h').symm⟩)
    | none => rw [hr] at h'; exact .inr (.inr h')

theorem pure_good {op : Op} {so : SO} (hf : fitO P op so = true) (hs : SR w G L σ tm) {x : T} (hx : pureO σ so = some x) : Good P ((execOp (Act.eval ⟨tm, ds⟩) ⟨dst, op, ty, pos, af, gd⟩).run P w) w G L σ tm x σ := by
  have hf0 := hf
  unfold fitO at hf
  split at hf <;> first
    | (cases hf; done)
    | (change none = some _ at hx; cases hx; done)
    | (cases hx; exact mov_ok hs (.inl rfl) hf)
    | (cases hx; exact mov_ok hs (.inr rfl) hf)
    | with_reducible exact pick_ok hs hf0 hx
    | with_reducible exact build_ok hs hf0 hx
    | with_reducible exact bsnap_ok hs hf0 hx
    | with_reducible exact nilck_ok hs hf0 hx
    | with_reducible exact bin_ok hs hf0 hx
    | with_reducible exact cmpB_ok hs hf0 hx
    | with_reducible exact cmpA_ok hs hf0 hx
    | with_reducible exact cmpN_ok hs hf0 hx
    | with_reducible exact ifn_ok hs hf0 hx
    | with_reducible exact tassert_ok hs hf0 hx
    | with_reducible exact un_ok hs hf0 hx
    | with_reducible exact cvI_ok hs hf0 hx
    | with_reducible exact cvF_ok hs hf0 hx
    | with_reducible exact cvFI_ok hs hf0 hx
    | with_reducible exact cvSS_ok hs hf0 hx
    | with_reducible exact mkif_ok hs hf0 hx
    | with_reducible exact mkfn_ok hs hf0 hx
    | with_reducible exact slice_ok hs hf0 hx
    | with_reducible exact faddr_ok hs hf0 hx
    | with_reducible exact field_ok hs hf0 hx
    | with_reducible exact iaddr_ok hs hf0 hx
    | with_reducible exact index_ok hs hf0 hx
    | with_reducible exact extract_ok hs hf0 hx
    | (split at hf <;> first
        | (cases hf; done)
        | (change none = some _ at hx; cases hx; done)
        | with_reducible exact len_ok hs hf0 hx
        | with_reducible exact num_ok hs hf0 hx
        | with_reducible exact cap_ok hs hf0 hx
        | exact minmax_ok hs (isMax := true) rfl hf hx
        | exact minmax_ok hs (isMax := false) rfl hf hx)

theorem read_good {op : Op} {so : SO} (hf : fitO P op so = true) (hs : SR w G L σ tm) {x : T} (hx : readO σ so = some x) : Good P ((execOp (Act.eval ⟨tm, ds⟩) ⟨dst, op, ty, pos, af, gd⟩).run P w) w G L σ tm x σ := by
  have hf0 := hf
  unfold fitO at hf
  split at hf <;> first
    | (cases hf; done)
    | (change none = some _ at hx; cases hx; done)
    | with_reducible exact load_ok hs hf0 hx
    | with_reducible exact loadA_ok hs hf0 hx
    | with_reducible exact loadN_ok hs hf0 hx
    | with_reducible exact lookup_ok hs hf0 hx
    | with_reducible exact cvBS_ok hs hf0 hx
    | (split at hf <;> first
        | (cases hf; done)
        | (change none = some _ at hx; cases hx; done)
        | with_reducible exact lenMap_ok hs hf0 hx)

theorem eff_good {op : Op} {so : SO} (hf : fitO P op so = true) (hs : SR w G L σ tm) {d : Option Nat} (hd : dst = d) {x : T} {σ' : St} (hx : effO σ d so = some (.ok x σ')) : Good P ((execOp (Act.eval ⟨tm, ds⟩) ⟨dst, op, ty, pos, af, gd⟩).run P w) w G L σ tm x σ' := by
  subst hd
  have hf0 := hf
  unfold fitO at hf
  split at hf <;> first
    | (cases hf; done)
    | (change none = some _ at hx; cases hx; done)
    | with_reducible exact allocL_ok hs hf0 hx
    | with_reducible exact allocH_ok hs hf0 hx
    | with_reducible exact boxL_ok hs hf0 hx
    | with_reducible exact boxH_ok hs hf0 hx
    | with_reducible exact brow_ok hs hf0 hx
    | with_reducible exact store_ok hs hf0 hx
    | with_reducible exact storeA_ok hs hf0 hx
    | with_reducible exact cvSB_ok hs hf0 hx
    | with_reducible exact frzL_ok hs hf0 hx
    | with_reducible exact mkmap_ok hs hf0 hx
    | with_reducible exact mkslice_ok hs hf0 hx
    | with_reducible exact mapup_ok hs hf0 hx
    | with_reducible exact mapent_ok hs hf0 hx
    | with_reducible exact entst_ok hs hf0 hx
    | (exfalso; simp only [effO, Option.bind_eq_some_iff] at hx; obtain ⟨_, _, hx⟩ := hx; split at hx <;> cases hx; done)
    | (split at hf <;> first
        | (cases hf; done)
        | (change none = some _ at hx; cases hx; done)
        | with_reducible exact append_ok hs hf0 hx
        | with_reducible exact appendz_ok hs hf0 hx
        | with_reducible exact copy_ok hs hf0 hx)

/-- One operation. -/
theorem stepO_sound {call : Calls1} (hc : CallOK P call) {op : Op} {so : SO} (hf : fitO P op so = true) (hs : SR w G L σ tm) {d : Option Nat} (hd : dst = d) {out : Out} (h : stepO call σ d so = some out) {next : Act → World → Prop} {Q : Exit → Act → World → Prop}
    (hok : ∀ v w' G' L' x σ', out = .ok x σ' → TR G' w' L' x v → SR w' G' L' σ' tm → Ext w G L σ w' G' L' σ' → next (Act.put ⟨tm, ds⟩ dst v) w')
    (hpan : ∀ val v w' G' σ', out = .pan v σ' → VR G' w' v val → SR w' G' L σ' tm → Ext w G L σ w' G' L σ' → Q (.panic [{ v := val, recovered := false }]) ⟨tm, ds⟩ w') :
    Oper.wp P ⟨dst, op, ty, pos, af, gd⟩ ⟨tm, ds⟩ w next Q := by
  have good : ∀ {x : T} {σ' : St}, out = .ok x σ' → Good P ((execOp (Act.eval ⟨tm, ds⟩) ⟨dst, op, ty, pos, af, gd⟩).run P w) w G L σ tm x σ' → Oper.wp P ⟨dst, op, ty, pos, af, gd⟩ ⟨tm, ds⟩ w next Q := by
    intro x σ' ho hg
    obtain ⟨n, v, w', G', L', hr, hn, hx, h1, h2⟩ := hg
    unfold Oper.wp
    rw [hr]
    rcases hn with rfl | ⟨rfl, rfl⟩
    · exact hok v w' G' L' x σ' ho hx h1 h2
    · exact hok undef w' G' L' x σ' ho hx h1 h2
  by_cases hcall : ∃ s f a, so = .call s f a
  · obtain ⟨s, f, a, rfl⟩ := hcall
    have hop : ∃ f' args' tys, op = .call ⟨.value f', args', tys⟩ ∧ fitX f' f = true ∧ fitXs args'.toList a = true := by
      unfold fitO at hf
      split at hf <;> first
        | (cases hf; done)
        | (rename_i e; cases e; simp only [Bool.and_eq_true] at hf; exact ⟨_, _, _, rfl, hf.1, hf.2⟩)
        | contradiction
        | (rename_i b _ _; cases b <;> exact absurd hf Bool.false_ne_true)
    obtain ⟨f', args', tys, rfl, h1, h2⟩ := hop
    simp only [stepO] at h
    split at h
    · rename_i fid caps vs hfv hav
      have hfr := val_ok (ds := ds) hs.ev h1 hfv
      have har := vals_ok (ds := ds) hs.ev h2 hav
      obtain ⟨xs, hxs, efv⟩ := hfr.inv_func
      have hall := har.append hxs
      have hexec : (execOp (Act.eval ⟨tm, ds⟩) ⟨dst, .call ⟨.value f', args', tys⟩, ty, pos, af, gd⟩).run P w = (callFunc fid (args'.toList.map (Act.eval ⟨tm, ds⟩) ++ xs).toArray).run P w := by
        simp only [execOp, resolve, Deferred.ofValue, efv, Sem.run_bind, Sem.run_pure, Result.andThen_ok, invoke]
        congr 2
        apply Array.ext'; simp
      have key : ∀ {r : CR} {h' : List HO}, call fid (vs ++ caps) σ.h = some (r, h') → (∀ v, r = .ret v → out = .ok (.v v) { σ with h := h' }) → (∀ v, r = .pan v → out = .pan v { σ with h := h' }) → Oper.wp P ⟨dst, .call ⟨.value f', args', tys⟩, ty, pos, af, gd⟩ ⟨tm, ds⟩ w next Q := by
        intro r h' hcl ho hp
        rcases hc _ _ _ _ _ hcl w G _ hs.hp hall with ⟨e1, e2⟩ | ⟨x, w', e1, G', e2, e3, e4⟩
        · unfold Oper.wp
          rw [hexec, e1, Oper.upon_enter]
          refine Calls.mono e2 fun e w' hp' => ?_
          obtain ⟨G', e2, e3, e4⟩ := hp'
          obtain ⟨s1, s2⟩ := hs.called e2 e3
          cases r with
          | ret v => cases e with
            | returned x => exact hok x w' G' L _ _ (ho v rfl) (.v _ _ e4) s1 s2
            | panicked c => exact e4.elim
            | outgrown => exact e4.elim
          | pan v => cases e with
            | returned x => exact e4.elim
            | panicked c => obtain ⟨x, rfl, e5⟩ := e4; exact hpan x v w' G' _ (hp v rfl) e5 s1 s2
            | outgrown => exact e4.elim
        · unfold Oper.wp
          rw [hexec, e1, Oper.upon_value]
          obtain ⟨s1, s2⟩ := hs.called e2 e3
          cases r with
          | ret v => exact hok x w' G' L _ _ (ho v rfl) (.v _ _ e4) s1 s2
          | pan v => exact e4.elim
      split at h
      · rename_i v h' hcl
        split at h
        · cases h
        · exact key hcl (fun v' e => by cases e; exact (Option.some.inj h).symm) (fun v' e => by cases e)
      · rename_i v h' hcl
        split at h
        · cases h
        · exact key hcl (fun v' e => by cases e) (fun v' e => by cases e; exact (Option.some.inj h).symm)
      · cases h
    · cases h
  by_cases hpc : ∃ f a, so = .pcall f a
  · obtain ⟨f, a, rfl⟩ := hpc
    have hop : ∃ f' args' tys, op = .call ⟨.value f', args', tys⟩ ∧ fitX f' f = true ∧ fitXs args'.toList a = true := by
      unfold fitO at hf
      split at hf <;> first
        | (cases hf; done)
        | (rename_i e; cases e; simp only [Bool.and_eq_true] at hf; exact ⟨_, _, _, rfl, hf.1, hf.2⟩)
        | contradiction
        | (rename_i b _ _; cases b <;> exact absurd hf Bool.false_ne_true)
    obtain ⟨f', args', tys, rfl, h1, h2⟩ := hop
    simp only [stepO] at h
    split at h
    · rename_i fid caps vs hfv hav
      split at h
      · rename_i hpure
        split at h
        · rename_i v hcl
          split at h
          · rename_i hvp
            cases h
            have hfr := val_ok (ds := ds) hs.ev h1 hfv
            have har := vals_ok (ds := ds) hs.ev h2 hav
            obtain ⟨xs, hxs, efv⟩ := hfr.inv_func
            have hall := har.append hxs
            have hexec : (execOp (Act.eval ⟨tm, ds⟩) ⟨dst, .call ⟨.value f', args', tys⟩, ty, pos, af, gd⟩).run P w = (callFunc fid (args'.toList.map (Act.eval ⟨tm, ds⟩) ++ xs).toArray).run P w := by
              simp only [execOp, resolve, Deferred.ofValue, efv, Sem.run_bind, Sem.run_pure, Result.andThen_ok, invoke]
              congr 2
              apply Array.ext'; simp
            have hw0 : WR w (Gs G) [] := WRs hs.hp
            have hall0 : VRs (Gs G) w _ _ := VRs.pureTo (G := G) (G1 := Gs G) (fun _ h => h) hall hpure
            have post : ∀ {x : Value} {w' : World}, CPost w (Gs G) [] (.ret v) [] (.returned x) w' → next (Act.put ⟨tm, ds⟩ dst x) w' := by
              intro x w' hp
              obtain ⟨G', e2, e3, e4⟩ := hp
              obtain ⟨G2, g1, g2, g3⟩ := hs.pcalled (tm := tm) e2 e3
              exact hok x w' G2 L _ _ rfl (.v _ _ (VR.pureTo g3 e4 hvp)) g1 g2
            rcases hc _ _ _ _ _ hcl w (Gs G) _ hw0 hall0 with ⟨e1, e2⟩ | ⟨x, w', e1, e2⟩
            · unfold Oper.wp
              rw [hexec, e1, Oper.upon_enter]
              refine Calls.mono e2 fun e w' hp' => ?_
              cases e with
              | returned x => exact post hp'
              | panicked c => obtain ⟨_, _, _, h⟩ := hp'; exact h.elim
              | outgrown => obtain ⟨_, _, _, h⟩ := hp'; exact h.elim
            · unfold Oper.wp
              rw [hexec, e1, Oper.upon_value]
              exact post e2
          · cases h
        · cases h
      · cases h
    · cases h
  · rcases stepO_cases h (fun s f a e => hcall ⟨s, f, a, e⟩) (fun f a e => hpc ⟨f, a, e⟩) with ⟨x, hx, rfl⟩ | ⟨x, hx, rfl⟩ | hx
    · exact good rfl (pure_good hf hs hx)
    · exact good rfl (read_good hf hs hx)
    · cases out with
      | ok x σ' => exact good rfl (eff_good hf hs hd hx)
      | pan v σ' =>
        obtain ⟨y, rfl⟩ := effO_pan hx
        have hop : ∃ x, op = .panic x := by
          unfold fitO at hf
          split at hf <;> first
            | (cases hf; done)
            | (rename_i e; cases e; exact ⟨_, rfl⟩)
            | exact ⟨_, rfl⟩
                | contradiction
            | (rename_i b _ _; cases b <;> exact absurd hf Bool.false_ne_true)
        obtain ⟨x, rfl⟩ := hop
        obtain ⟨val, h1, h2, rfl⟩ := panic_ok (dst := dst) (ty := ty) (pos := pos) (af := af) (gd := gd) (ds := ds) hs hf hx
        unfold Oper.wp
        rw [h1]
        exact hpan val v w G _ rfl h2 hs (Ext.refl w G L _)
end
end Go.Vm
end

section
set_option linter.unusedSimpArgs false
set_option linter.unusedVariables false
namespace Go.Vm
open Go Go.RowKit

/-- The VM's exit beside the model's. -/
def EX (G : Gh) (w : World) : Ex → Exit → Prop
  | .normal, .normal => True
  | .exit i, .exit j => j = i
  | .ret, .ret => True
  | .pan v, .panic chain => ∃ x, chain = [{ v := x, recovered := false }] ∧ VR G w v x
  | _, _ => False

/-- What code leaves. -/
def Post (D : List Deferred) (nt : Nat) (w : World) (G : Gh) (L : Lm) (σ : St) (ex : Ex) (σ' : St) (e : Exit) (a : Act) (w' : World) : Prop :=
  a.defers = D ∧ nt ≤ a.tmps.size ∧ ∃ G' L', EX G' w' ex e ∧ SR w' G' L' σ' a.tmps ∧ Ext w G L σ w' G' L' σ'

theorem Post.trans {D : List Deferred} {nt : Nat} {w w1 : World} {G G1 : Gh} {L L1 : Lm} {σ σ1 : St} {ex : Ex} {σ' : St} {e : Exit} {a : Act} {w' : World} (hx : Ext w G L σ w1 G1 L1 σ1) (h : Post D nt w1 G1 L1 σ1 ex σ' e a w') : Post D nt w G L σ ex σ' e a w' := by
  obtain ⟨h1, h2, G', L', h3, h4, h5⟩ := h
  exact ⟨h1, h2, G', L', h3, h4, hx.trans h5⟩

section
variable {P : Program} {D : List Deferred}

theorem Act.put_eq (a : Act) (d : Option Nat) (v : Value) : (a.put d v).defers = a.defers ∧ (a.put d v).tmps = putT a.tmps d v := by
  cases d <;> exact ⟨rfl, rfl⟩

theorem put_size (tm : Array Value) (d : Option Nat) (v : Value) : (putT tm d v).size = tm.size := by
  cases d <;> simp [putT]

def outE (d : Option Nat) : Option Out → Option (Ex × St)
  | some (.ok x σ) => some (.normal, σ.put d x)
  | some (.pan v σ) => some (.pan v, σ)
  | none => none

noncomputable def thenOps (call : Calls1) (os : List SOper) : Option (Ex × St) → Option (Ex × St)
  | some (.normal, σ) => runOps call os σ
  | r => r

theorem runOps_cons (call : Calls1) (s : SOper) (os : List SOper) (σ : St) : runOps call (s :: os) σ = thenOps call os (stepG call s σ) := by
  simp only [runOps]
  cases stepG call s σ with
  | none => rfl
  | some q => obtain ⟨e, σ'⟩ := q; cases e <;> rfl

theorem stepG_none (call : Calls1) (d : Option Nat) (o : SO) (σ : St) : stepG call ⟨d, none, o⟩ σ = outE d (stepO call σ d o) := by
  simp only [stepG]
  cases stepO call σ d o with
  | none => rfl
  | some q => cases q <;> rfl

theorem stepG_some (call : Calls1) (d : Option Nat) (t : Nat) (want : Bool) (o : SO) (σ : St) {b : Bool} (h : σ.e t = .v (.bool b)) :
    stepG call ⟨d, some (t, want), o⟩ σ = bif b == want then outE d (stepO call σ d o) else some (.normal, σ.put d (.v (.tuple []))) := by
  simp only [stepG, h]
  cases (b == want) with
  | false => rfl
  | true =>
    cases stepO call σ d o with
    | none => rfl
    | some q => cases q <;> rfl

theorem stepG_bool {call : Calls1} {d : Option Nat} {t : Nat} {want : Bool} {o : SO} {σ : St} {r : Ex × St} (h : stepG call ⟨d, some (t, want), o⟩ σ = some r) : (∃ b, σ.e t = .v (.bool b)) ∨ (σ.e t = .v (.tuple []) ∧ r = (.normal, σ.put d (.v (.tuple [])))) := by
  simp only [stepG] at h
  split at h
  · exact .inl ⟨_, ‹_›⟩
  · cases h; exact .inr ⟨‹_›, rfl⟩
  · cases h

def FitAt (P : Program) (nt : Nat) (ops : Array Oper) (l : List SOper) : Prop := ∀ i : Nat, (∃ o s, ops[i]? = some o ∧ l[i]? = some s ∧ fitOper P nt ops o s = true) ∨ (ops[i]? = none ∧ l[i]? = none)

theorem fitOps_at {nt : Nat} {ops : Array Oper} : ∀ {os : List Oper} {l : List SOper}, fitOps P nt ops os l = true → ∀ i : Nat, (∃ o s, os[i]? = some o ∧ l[i]? = some s ∧ fitOper P nt ops o s = true) ∨ (os[i]? = none ∧ l[i]? = none)
  | [], [], _, i => .inr ⟨rfl, rfl⟩
  | o :: os, s :: ss, h, i => by
    simp only [fitOps, Bool.and_eq_true] at h
    cases i with
    | zero => exact .inl ⟨o, s, rfl, rfl, h.1⟩
    | succ i => simpa using fitOps_at h.2 i
  | [], _ :: _, h, _ => by simp [fitOps] at h
  | _ :: _, [], h, _ => by simp [fitOps] at h

/-- A region's operations, in an order. -/
theorem runOps_sound {call : Calls1} (hc : CallOK P call) {nt : Nat} {ops : Array Oper} {l : List SOper} (hf : FitAt P nt ops l) {Q : Exit → Act → World → Prop} :
    ∀ (is : List Nat) {σ : St} {a : Act} {w : World} {G : Gh} {L : Lm} {ex : Ex} {σ' : St}, SR w G L σ a.tmps → nt ≤ a.tmps.size → a.defers = D → runOps call (pickOps l is) σ = some (ex, σ') →
      (∀ e a' w', Post D nt w G L σ ex σ' e a' w' → Q e a' w') → wpOps P ops Q is a w
  | [], σ, a, w, G, L, ex, σ', hs, hn, hd, h, hQ => by
    simp only [pickOps, List.filterMap_nil, runOps] at h
    cases h
    exact hQ _ _ _ ⟨hd, hn, G, L, trivial, hs, Ext.refl w G L σ⟩
  | i :: is, σ, a, w, G, L, ex, σ', hs, hn, hd, h, hQ => by
    rcases hf i with ⟨o, s, ho, hsi, hfo⟩ | ⟨ho, hsi⟩
    case inr =>
      have e : pickOps l (i :: is) = pickOps l is := by simp [pickOps, List.filterMap_cons, hsi]
      rw [e] at h
      simp only [wpOps, ho]
      exact runOps_sound hc hf is hs hn hd h hQ
    have e : pickOps l (i :: is) = s :: pickOps l is := by simp [pickOps, List.filterMap_cons, hsi]
    rw [e] at h
    simp only [wpOps, ho]
    simp only [fitOper, Bool.and_eq_true, beq_iff_eq] at hfo
    obtain ⟨⟨⟨hdst, hdn⟩, hg⟩, hop⟩ := hfo
    have hbound : ∀ t, o.dst = some t → t < a.tmps.size := by
      intro t ht
      rw [hdst] at ht; rw [ht] at hdn
      have : t < nt := by simpa using hdn
      exact Nat.lt_of_lt_of_le this hn
    obtain ⟨tm, ds⟩ := a
    dsimp only at hs hn hd hbound
    have hd' := hd.symm
    subst hd'
    -- after an operation
    have go : ∀ {x : T} {v : Value} {w1 : World} {G1 : Gh} {L1 : Lm} {σ1 : St}, TR G1 w1 L1 x v → SR w1 G1 L1 σ1 tm → Ext w G L σ w1 G1 L1 σ1 → runOps call (pickOps l is) (σ1.put s.d x) = some (ex, σ') → wpOps P ops Q is (Act.put ⟨tm, D⟩ o.dst v) w1 := by
      intro x v w1 G1 L1 σ1 hx h1 h2 hr
      obtain ⟨e1, e2⟩ := Act.put_eq ⟨tm, D⟩ o.dst v
      have h3 := h1.put (d := o.dst) hx hbound
      refine runOps_sound hc hf is (G := G1) (L := L1) (σ := σ1.put s.d x) ?_ (by rw [e2, put_size]; exact hn) e1 hr fun e a' w' hp => hQ e a' w' (Post.trans (h2.put s.d x) hp)
      rw [e2, ← hdst]; exact h3
    -- the operation itself
    have main : thenOps call (pickOps l is) (outE s.d (stepO call σ s.d s.o)) = some (ex, σ') → Oper.wp P o ⟨tm, D⟩ w (wpOps P ops Q is) Q := by
      intro hh
      obtain ⟨dst, op, ty, pos, af, gd⟩ := o
      cases hst : stepO call σ s.d s.o with
      | none => rw [hst] at hh; cases hh
      | some out =>
        rw [hst] at hh
        cases out with
        | ok x σ1 =>
          refine stepO_sound hc hop hs hdst hst (fun v w' G' L' x' σ1' e hx h1 h2 => ?_) fun val v w' G' σ1 e _ _ _ => by cases e
          cases e
          exact go hx h1 h2 hh
        | pan v σ1 =>
          cases hh
          refine stepO_sound hc hop hs hdst hst (fun v w' G' L' x σ1 e _ _ _ => by cases e) fun val v w' G' σ1 e hv h1 h2 => ?_
          cases e
          exact hQ _ _ _ ⟨rfl, hn, G', L, ⟨val, rfl, hv⟩, h1, h2⟩
    rw [runOps_cons] at h
    obtain ⟨sd, sg, so⟩ := s
    dsimp only at *
    cases hog : o.guard with
    | none =>
      rw [hog] at hg
      cases sg with
      | some q => obtain ⟨a, b⟩ := q; cases hg
      | none =>
        have hw : Region.wanted o (yielded ops tm) = true := by simp [Region.wanted, hog]
        rw [if_pos hw]
        rw [stepG_none] at h
        exact .inl (main h)
    | some q =>
      obtain ⟨j, wj⟩ := q
      rw [hog] at hg
      cases sg with
      | none => cases hg
      | some q =>
        obtain ⟨t, wt⟩ := q
        simp only [fitGuard, Bool.and_eq_true, beq_iff_eq] at hg
        obtain ⟨rfl, hgt⟩ := hg
        have skip : TR G w L (.v (.tuple [])) undef := .v _ _ (.tuple [] [] .nil)
        have hb : (∃ b, σ.e t = .v (.bool b)) ∨ (σ.e t = .v (.tuple []) ∧ stepG call ⟨sd, some (t, wj), so⟩ σ = some (.normal, σ.put sd (.v (.tuple [])))) := by
          cases hst : stepG call ⟨sd, some (t, wj), so⟩ σ with
          | none => rw [hst] at h; cases h
          | some r =>
            rcases stepG_bool hst with hb | ⟨hb, rfl⟩
            · exact .inl hb
            · exact .inr ⟨hb, rfl⟩
        rcases hb with ⟨b, hb⟩ | ⟨hb, hst⟩
        case inr =>
          rw [hst] at h
          have htb : tm.getD t undef = .tuple #[] := by
            have := hs.ev t
            rw [hb] at this
            obtain ⟨xs, hxs, e⟩ := this.inv_v.inv_tuple
            cases hxs
            exact e
          have hyi : yielded ops tm j = none := by
            simp only [yielded, hgt, Option.bind_some]
            rcases Nat.lt_or_ge t tm.size with hl | hl
            · rw [Array.getD_eq_getD_getElem?, Array.getElem?_eq_getElem hl] at htb
              rw [Array.getElem?_eq_getElem hl]
              have : tm[t] = .tuple #[] := htb
              rw [this]
            · rw [Array.getElem?_eq_none hl]
          have hw : Region.wanted o (yielded ops tm) = false := by
            simp only [Region.wanted, hog, hyi]
            rfl
          rw [hw, if_neg (by simp)]
          exact go skip hs (Ext.refl w G L σ) h
        rw [stepG_some _ _ _ _ _ _ hb] at h
        have htb : tm.getD t undef = .bool b := by
          have := hs.ev t
          rw [hb] at this
          exact this.inv_v.inv_bool
        have hlt : t < tm.size := by
          rcases Nat.lt_or_ge t tm.size with h | h
          · exact h
          · rw [Array.getD_eq_getD_getElem?, Array.getElem?_eq_none h] at htb; cases htb
        have hyi : yielded ops tm j = some b := by
          have : tm[t]? = some (.bool b) := by
            rw [Array.getD_eq_getD_getElem?, Array.getElem?_eq_getElem hlt] at htb
            rw [Array.getElem?_eq_getElem hlt]; exact congrArg some htb
          simp only [yielded, hgt, Option.bind_some, this]
        have hw : Region.wanted o (yielded ops tm) = (b == wj) := by
          simp only [Region.wanted, hog, hyi]
          cases b <;> cases wj <;> rfl
        rw [hw]
        cases hbw : (b == wj) with
        | true =>
          rw [if_pos rfl]
          rw [hbw] at h
          exact .inl (main h)
        | false =>
          rw [if_neg (by simp)]
          rw [hbw] at h
          exact go skip hs (Ext.refl w G L σ) h

theorem pickOps_range (l : List SOper) : pickOps l (List.range l.length) = l := by
  have : ∀ (l : List SOper) (k : Nat) (pre : List SOper), pre.length = k → ((List.range' k l.length).filterMap ((pre ++ l)[·]?)) = l := by
    intro l
    induction l with
    | nil => intro k pre _; rfl
    | cons x l ih =>
      intro k pre hk
      have h1 : (pre ++ x :: l)[k]? = some x := by rw [List.getElem?_append_right (by omega)]; simp [hk]
      have h2 := ih (k + 1) (pre ++ [x]) (by simp [hk])
      rw [List.append_assoc] at h2
      simp only [List.length_cons, List.range'_succ, List.filterMap_cons, h1]
      exact congrArg _ h2
  have h := this l 0 [] rfl
  rw [List.range_eq_range']
  exact h

theorem fitAt_len {nt : Nat} {ops : Array Oper} {l : List SOper} (h : FitAt P nt ops l) : ops.size = l.length := by
  rcases Nat.lt_trichotomy ops.size l.length with hl | hl | hl
  · rcases h ops.size with ⟨o, s, h1, _⟩ | ⟨h1, h2⟩
    · rw [Array.getElem?_eq_none (Nat.le_refl _)] at h1; cases h1
    · rw [List.getElem?_eq_getElem hl] at h2; cases h2
  · exact hl
  · rcases h l.length with ⟨o, s, _, h1, _⟩ | ⟨h1, h2⟩
    · rw [List.getElem?_eq_none (Nat.le_refl _)] at h1; cases h1
    · rw [Array.getElem?_eq_getElem hl] at h1; cases h1

end
end Go.Vm
end

section
set_option linter.unusedSimpArgs false
set_option linter.unusedVariables false
namespace Go.Vm
open Go Go.RowKit

section
variable {P : Program} {D : List Deferred}

theorem depss_at : ∀ {os : List Oper} {deps : List (List Nat)}, fitDepss os deps = true → ∀ {i : Nat} {o : Oper}, os[i]? = some o → fitDeps o (deps.getD i []) = true
  | [], _, _, i, o, h => by cases h
  | o' :: os, d :: ds, hf, i, o, h => by
    simp only [fitDepss, Bool.and_eq_true] at hf
    cases i with
    | zero => cases h; exact hf.1
    | succ i => simpa using depss_at hf.2 (i := i) h
  | _ :: _, [], hf, _, _, _ => by cases hf

theorem back_at : ∀ {os : List Oper} {k : Nat}, fitBack k os = true → ∀ {i : Nat} {o : Oper}, os[i]? = some o → ∀ e ∈ o.after, Region.binds .any e = true → e.on < k + i
  | [], _, _, i, o, h => by cases h
  | o' :: os, k, hf, i, o, h => by
    simp only [fitBack, Bool.and_eq_true] at hf
    cases i with
    | zero =>
      cases h
      intro e he hb
      have := Array.all_eq_true'.1 hf.1 e he
      rw [hb] at this
      simpa using this
    | succ i =>
      intro e he hb
      have := back_at hf.2 (i := i) h e he hb
      omega

theorem go_mem {ops : Array Oper} {deps : List (List Nat)} (hd : fitDepss ops.toList deps = true) (hb : fitBack 0 ops.toList = true) :
    ∀ (fuel t : Nat) (listed : Array Bool) (done : List Nat), listed.size = ops.size → (∀ i, listed.getD i false = done.contains i) → Region.linearise.go .any ops fuel t listed [] ∈ orders deps ops.size fuel done
  | 0, t, listed, done, _, _ => by simp [Region.linearise.go, orders]
  | fuel + 1, t, listed, done, hsz, hl => by
    simp only [Region.linearise.go]
    have htrue : ∀ i, i < ops.size → listed.getD i true = done.contains i := by
      intro i hi
      rw [← hl i]
      have : i < listed.size := by omega
      simp [Array.getD_eq_getD_getElem?, this]
    have hsub : ∀ i, i ∈ Region.ready .any ops listed → i ∈ ready deps ops.size done := by
      intro i hi
      simp only [Region.ready, List.mem_filter, List.mem_range, Bool.and_eq_true, Bool.not_eq_true'] at hi
      obtain ⟨h1, h2, h3⟩ := hi
      simp only [ready, List.mem_filter, List.mem_range, Bool.and_eq_true, Bool.not_eq_true']
      refine ⟨h1, by rw [← htrue i h1]; exact h2, ?_⟩
      have ho : ops[i]? = some ops[i] := Array.getElem?_eq_getElem h1
      rw [ho] at h3
      simp only [Option.map_some, Option.getD_some] at h3
      have hdi := depss_at hd (i := i) (o := ops[i]) (by simp)
      rw [List.all_eq_true]
      intro j hj
      have := List.all_eq_true.1 hdi j hj
      obtain ⟨e, he, hb1⟩ := Array.any_eq_true'.1 this
      simp only [Bool.and_eq_true, beq_iff_eq] at hb1
      have := Array.all_eq_true'.1 h3 e he
      rw [hb1.2] at this
      simp only [Bool.not_true, Bool.false_or] at this
      rw [← hl j, ← hb1.1]; exact this
    change (match (Region.ready .any ops listed)[t % (Region.ready .any ops listed).length]? with
      | some i => Region.linearise.go .any ops fuel (t / (Region.ready .any ops listed).length) (listed.setIfInBounds i true) [i]
      | none => [].reverse) ∈ _
    cases hi : (Region.ready .any ops listed)[t % (Region.ready .any ops listed).length]? with
    | some i =>
      have him := List.mem_of_getElem? hi
      have hvm := hsub i him
      have hlt : i < ops.size := by
        simp only [Region.ready, List.mem_filter, List.mem_range] at him
        exact him.1
      simp only []
      rw [linearise_go_acc, List.reverse_singleton, List.singleton_append]
      have ih := go_mem hd hb fuel (t / (Region.ready .any ops listed).length) (listed.setIfInBounds i true) (i :: done) (by simpa using hsz) (by
        intro j
        simp only [Array.getD_eq_getD_getElem?, Array.getElem?_setIfInBounds, List.contains_cons]
        by_cases e : i = j
        · subst e
          have h1 : i < listed.size := by omega
          simp [h1]
        · have e2 : (j == i) = false := by simpa using fun h => e h.symm
          rw [if_neg e, e2, Bool.false_or, ← hl j, Array.getD_eq_getD_getElem?])
      unfold orders
      cases hr : ready deps ops.size done with
      | nil => rw [hr] at hvm; cases hvm
      | cons x xs =>
        rw [hr] at hvm
        exact List.mem_flatMap.2 ⟨i, hvm, List.mem_map.2 ⟨_, ih, rfl⟩⟩
    | none =>
      have hnil : Region.ready .any ops listed = [] := by
        cases hr : Region.ready .any ops listed with
        | nil => rfl
        | cons x xs =>
          rw [hr] at hi
          have hlt : t % (x :: xs).length < (x :: xs).length := Nat.mod_lt _ (by simp)
          rw [List.getElem?_eq_getElem hlt] at hi; cases hi
      have hall : ∀ k i, i < k → i < ops.size → done.contains i = true := by
        intro k
        induction k with
        | zero => intro i h; omega
        | succ k ih =>
          intro i hik hi
          cases hc : done.contains i with
          | true => rfl
          | false =>
            exfalso
            have : i ∈ Region.ready .any ops listed := by
              simp only [Region.ready, List.mem_filter, List.mem_range, Bool.and_eq_true, Bool.not_eq_true']
              refine ⟨hi, by rw [htrue i hi]; exact hc, ?_⟩
              have ho : ops[i]? = some ops[i] := Array.getElem?_eq_getElem hi
              rw [ho]
              simp only [Option.map_some, Option.getD_some]
              rw [Array.all_eq_true']
              intro e he
              cases hbe : Region.binds .any e with
              | false => rfl
              | true =>
                have := back_at hb (i := i) (o := ops[i]) (by simp) e he hbe
                rw [hl e.on]
                simpa using ih e.on (by omega) (by omega)
            rw [hnil] at this; cases this
      have hr : ready deps ops.size done = [] := by
        simp only [ready, List.filter_eq_nil_iff, List.mem_range, Bool.and_eq_true, not_and]
        intro i hi h
        rw [hall (i + 1) i (by omega) hi] at h
        cases h
      unfold orders
      rw [hr]
      simp

/-- Places for what a region makes. -/
theorem SR.holes {w : World} {G : Gh} {L : Lm} {σ : St} {tm : Array Value} (hs : SR w G L σ tm) (k : Nat) : SR w G L (σ.drawn k) tm ∧ Ext w G L σ w G L (σ.drawn k) := by
  have hold : ∀ id, id < σ.h.length → (σ.drawn k).h[id]? = σ.h[id]? := fun id h => by show (σ.h ++ _)[id]? = _; rw [List.getElem?_append_left h]
  have hnew : ∀ id o, σ.h.length ≤ id → (σ.drawn k).h[id]? = some o → o = .hole := by
    intro id o hle h
    have h' : (σ.h ++ List.replicate k HO.hole)[id]? = some o := h
    rw [List.getElem?_append_right hle, List.getElem?_replicate] at h'
    split at h'
    · cases h'; rfl
    · cases h'
  have hown : ∀ id, ownB G (σ.drawn k).h id = ownB G σ.h id := by
    intro id
    rcases Nat.lt_or_ge id σ.h.length with h | h
    · unfold ownB; rw [hold id h]
    · unfold ownB
      rw [List.getElem?_eq_none h]
      cases ho : (σ.drawn k).h[id]? with
      | none => rfl
      | some o => rw [hnew id o h ho]
  refine ⟨⟨⟨?_, ?_, ?_, ?_, hs.hp.stl⟩, ⟨?_, hs.lc.inj, hs.lc.fresh⟩, hs.ev⟩, ?_⟩
  · intro id o ho
    rcases Nat.lt_or_ge id σ.h.length with h | h
    · rw [hold id h] at ho; exact hs.hp.obj id o ho
    · rw [hnew id o h ho]; exact hs.hp.dom id h
  · intro id hle
    have : (σ.drawn k).h.length = σ.h.length + k := by simp [St.drawn]
    exact hs.hp.dom id (by omega)
  · intro i j B hi hj; rw [hown] at hi hj; exact hs.hp.inj i j B hi hj
  · intro i B hi; rw [hown] at hi; exact hs.hp.ost i B hi
  · intro d g cs hd
    obtain ⟨B, h1, h2, h3, h4⟩ := hs.lc.obj d g cs hd
    exact ⟨B, h1, h2, h3, fun id => by rw [hown]; exact h4 id⟩
  · exact ⟨rfl, rfl, rfl, Nat.le_refl _, fun _ _ _ _ => rfl, fun _ h => h, fun _ _ h => h, fun _ _ _ h => h, fun _ _ _ h => h, fun _ h => .inl h, fun id B h => .inl ⟨id, by rw [hown] at h; exact h⟩, fun d g cs B h1 h2 => .inl ⟨d, g, cs, h1, h2⟩⟩

/-- What is forgotten at a loop's head. -/
theorem keepM_some {m : Nat → Option (Nat × List V)} : ∀ {ls : List Nat} {d : Nat} {q : Nat × List V}, keepM m ls d = some q → m d = some q
  | [], d, q, h => by cases h
  | t :: ts, d, q, h => by
    simp only [keepM, upd] at h
    by_cases e : d = t
    · subst e; simpa using h
    · have e1 : (d == t) = false := by simpa using e
      rw [e1, cond_false] at h; exact keepM_some h

theorem keepE_TR {G : Gh} {w : World} {L : Lm} {e : Nat → T} {tm : Array Value} (h : ERel G w L e tm) : ∀ ks, ERel G w L (keepE e ks) tm
  | [], t => .v _ _ (.undef _)
  | k :: ks, t => by
    simp only [keepE, upd]
    by_cases he : t = k
    · subst he; simp only [beq_self_eq_true, cond_true]; exact h t
    · have e1 : (t == k) = false := by simpa using he
      rw [e1, cond_false]; exact keepE_TR h ks t

theorem SR.keep {w : World} {G : Gh} {L : Lm} {σ : St} {tm : Array Value} (hs : SR w G L σ tm) (ks ls : List Nat) : SR w G L (σ.keep ks ls) tm ∧ Ext w G L σ w G L (σ.keep ks ls) := by
  refine ⟨⟨hs.hp, ⟨fun d g cs hd => hs.lc.obj d g cs (keepM_some hd), fun d d' g g' cs cs' B h1 h2 => hs.lc.inj d d' g g' cs cs' B (keepM_some h1) (keepM_some h2), hs.lc.fresh⟩, keepE_TR hs.ev ks⟩, ?_⟩
  exact ⟨rfl, rfl, rfl, Nat.le_refl _, fun _ _ _ _ => rfl, fun _ h => h, fun _ _ h => h, fun _ _ _ h => h, fun _ _ _ h => h, fun _ h => .inl h, fun id B h => .inl ⟨id, h⟩, fun d g cs B h1 h2 => .inl ⟨d, g, cs, keepM_some h1, h2⟩⟩

theorem EX.normal {G : Gh} {w : World} {ex : Ex} (h : EX G w ex .normal) : ex = .normal := by cases ex <;> first | rfl | exact h.elim

theorem EX.inv {G : Gh} {w : World} {ex : Ex} {e : Exit} (h : EX G w ex e) (hn : ex ≠ .normal) : e ≠ .normal := by
  intro he; subst he; exact hn h.normal

theorem then_post {nt : Nat} {w : World} {G : Gh} {L : Lm} {σ : St} {ex : Ex} {σ' : St} {e : Exit} {a : Act} {w' : World} (hp : Post D nt w G L σ ex σ' e a w') (hn : ex ≠ .normal) {next : Act → World → Prop} {Q : Exit → Act → World → Prop} (h : Q e a w') : Exit.then next Q e a w' := by
  obtain ⟨_, _, _, _, he, _⟩ := hp
  have := he.inv hn
  cases e <;> first | exact absurd rfl this | exact h

theorem least_ex {p : Nat → Prop} : ∀ (n : Nat), p n → ∃ m, p m ∧ ∀ k, p k → m ≤ k := by
  intro n
  induction n using Nat.strongRecOn with
  | _ n ih =>
    intro hp
    by_cases h : ∃ k, k < n ∧ p k
    · obtain ⟨k, hk, hpk⟩ := h; exact ih k hk hpk
    · exact ⟨n, hp, fun k hk => Nat.le_of_not_lt fun hlt => h ⟨k, hlt, hk⟩⟩

open Classical in
noncomputable def least (p : Nat → Prop) : Nat := if h : ∃ m, p m ∧ ∀ k, p k → m ≤ k then h.choose else 0

theorem least_spec {p : Nat → Prop} {n : Nat} (h : p n) : p (least p) ∧ ∀ k, p k → least p ≤ k := by
  have hex := least_ex n h
  unfold least
  rw [dif_pos hex]
  exact hex.choose_spec

/-- Code. -/
theorem forget_TR {G : Gh} {w : World} {L : Lm} {σ : St} {tm : Array Value} (h : ERel G w L σ.e tm) (l : List SOper) : ERel G w L (forgetE l σ).e tm := by
  intro t
  show TR G w L (bif (dsts l).contains t then .v .undef else σ.e t) _
  cases (dsts l).contains t
  · exact h t
  · exact .v _ _ (.undef _)
theorem Post.forget {nt : Nat} {w : World} {G : Gh} {L : Lm} {σ : St} {ex : Ex} {σ' : St} {e : Exit} {a : Act} {w' : World} (hp : Post D nt w G L σ ex σ' e a w') (l : List SOper) : Post D nt w G L σ ex (forgetE l σ') e a w' := by
  obtain ⟨h1, h2, G', L', h3, h4, h5⟩ := hp
  exact ⟨h1, h2, G', L', h3, ⟨h4.hp, ⟨h4.lc.obj, h4.lc.inj, h4.lc.fresh⟩, forget_TR h4.ev l⟩, ⟨h5.os, h5.tape, h5.output, h5.sz, h5.fr, h5.st, h5.ob, h5.rw, h5.lm, h5.stn, h5.own, h5.loc⟩⟩

theorem codeN_sound (hm : P.follows .mixedOrders = true) {call : Calls1} (hc : CallOK P call) {nt n : Nat} : ∀ (sc : SC) (c : Code) {σ : St} {a : Act} {w : World} {G : Gh} {L : Lm} {ex : Ex} {σ' : St}, fitCode P nt c sc = true →
    SR w G L σ a.tmps → nt ≤ a.tmps.size → a.defers = D → codeN call n sc σ = some (ex, σ') → c.wp P (Post D nt w G L σ ex σ') a w := by
  intro sc
  induction sc with
  | skip =>
    intro c σ a w G L ex σ' hf hs hn hd h
    simp only [codeN] at h
    cases h
    have hpost : Post D nt w G L σ .normal σ .normal a w := ⟨hd, hn, G, L, trivial, hs, Ext.refl w G L σ⟩
    cases c with
    | skip => exact wp_skip hpost
    | region id ops dr =>
      have he : ops = #[] := by
        have : ops.isEmpty = true := by cases dr <;> exact hf
        simpa using this
      subst he
      cases dr with
      | false => exact wp_region (by simpa [wpOps] using hpost)
      | true =>
        refine wp_region_any hm ?_
        obtain ⟨h1, h2⟩ := hs.draw (w' := w.drew) rfl
        have : Post D nt w G L σ .normal σ .normal a w.drew := ⟨hd, hn, G, L, trivial, h1, h2⟩
        exact ⟨rfl, this⟩
    | _ => first | (cases hf; done) | (rename_i dr; cases dr <;> cases hf)
  | ops l =>
    intro c σ a w G L ex σ' hf hs hn hd h
    simp only [codeN] at h
    cases c with
    | region id ops dr =>
      cases dr with
      | true => cases hf
      | false =>
        have hat := fitOps_at (ops := ops) (os := ops.toList) hf
        have hat' : FitAt P nt ops l := fun i => by simpa using hat i
        refine wp_region (runOps_sound hc hat' _ hs hn hd ?_ fun e a' w' hp => hp)
        rw [fitAt_len hat', pickOps_range]; exact h
    | _ => first | (cases hf; done) | (rename_i dr; cases dr <;> cases hf)
  | draw k deps l =>
    intro c σ a w G L ex σ' hf hs hn hd h
    simp only [codeN, runDraw] at h
    split at h
    · rename_i hall
      cases c with
      | region id ops dr =>
        cases dr with
        | false => cases hf
        | true =>
          have hf' : (fitOps P nt ops ops.toList l && fitDepss ops.toList deps && fitBack 0 ops.toList) = true := hf
          simp only [Bool.and_eq_true] at hf'
          obtain ⟨⟨hf1, hf2⟩, hf3⟩ := hf'
          have hat' : FitAt P nt ops l := fun i => by simpa using fitOps_at (ops := ops) (os := ops.toList) hf1 i
          refine wp_region_draw fun t => ?_
          simp only [Region.schedule, hm, Bool.true_or, if_true]
          have hmem := go_mem hf2 hf3 ops.size t (Array.replicate ops.size false) [] (by simp) (by intro i; simp [Array.getD_eq_getD_getElem?, Array.getElem?_replicate]; split <;> rfl)
          rw [fitAt_len hat'] at hmem
          have hr := hall _ hmem
          obtain ⟨h1, h2⟩ := hs.draw (w' := w.drew) rfl
          obtain ⟨h3, h4⟩ := h1.holes (k / 2)
          have e : Region.linearise .any ops t = Region.linearise.go .any ops l.length t (Array.replicate l.length false) [] := by
            unfold Region.linearise; rw [fitAt_len hat']
          rw [← e] at hr
          rcases outD_some h with ⟨σ1, h5, h6⟩ | ⟨v, σ1, _, h5, h6⟩
          · cases h6
            rw [h5] at hr
            have h7 : runOps call (pickOps l (Region.linearise .any ops t)) (σ.drawn (k / 2)) = some (.normal, σ') := by
              unfold sameD at hr
              split at hr
              · rename_i a b e1 e2; cases e2; rw [e1, hr]
              · rename_i e2; cases e2
              · exact hr.elim
            exact runOps_sound hc hat' _ h3 hn hd h7 fun e a' w' hp => hp.trans (h2.trans h4)
          · cases h6
            rw [h5] at hr
            obtain ⟨σ2, h7, h8⟩ : ∃ σ2, runOps call (pickOps l (Region.linearise .any ops t)) (σ.drawn (k / 2)) = some (.pan v, σ2) ∧ forgetE l σ2 = forgetE l σ1 := by
              unfold sameD at hr
              split at hr
              · rename_i e2; cases e2
              · rename_i v1 a v2 b e1 e2; cases e2; obtain ⟨_, rfl, hfe⟩ := hr; exact ⟨a, e1, hfe⟩
              · exact hr.elim
            refine runOps_sound hc hat' _ h3 hn hd h7 fun e a' w' hp => ?_
            rw [← h8]
            exact (hp.forget l).trans (h2.trans h4)
      | _ => first | (cases hf; done) | (rename_i dr; cases dr <;> cases hf)
    · cases h
  | seq x y ihx ihy =>
    intro c σ a w G L ex σ' hf hs hn hd h
    cases c with
    | seq cx cy =>
      simp only [fitCode, Bool.and_eq_true] at hf
      simp only [codeN] at h
      cases hq : codeN call n x σ with
      | none => rw [hq] at h; cases h
      | some q =>
        rw [hq] at h
        obtain ⟨ex1, σ1⟩ := q
        refine wp_seq (wp_mono (ihx cx hf.1 hs hn hd hq) fun e a1 w1 hp => ?_)
        by_cases hnorm : ex1 = .normal
        · subst hnorm
          have h' : codeN call n y σ1 = some (ex, σ') := h
          obtain ⟨p1, p2, G1, L1, p3, p4, p5⟩ := hp
          cases e with
          | normal => exact wp_mono (ihy cy hf.2 p4 p2 p1 h') fun e a2 w2 hp2 => hp2.trans p5
          | _ => exact p3.elim
        · refine then_post hp hnorm ?_
          cases ex1 with
          | normal => exact absurd rfl hnorm
          | _ => cases h; exact hp
    | _ => first | (cases hf; done) | (rename_i dr; cases dr <;> cases hf)
  | cond x y z ihy ihz =>
    intro c σ a w G L ex σ' hf hs hn hd h
    cases c with
    | cond cx cy cz =>
      simp only [fitCode, Bool.and_eq_true] at hf
      simp only [codeN] at h
      split at h
      · rename_i t ht
        obtain ⟨tm, ds⟩ := a
        have := ev_ok (ds := ds) hs.ev hf.1.1
        rw [ht] at this
        refine wp_cond (t := t) this.inv_v.inv_bool ?_
        cases t with
        | true => exact ihy cy hf.1.2 hs hn hd h
        | false => exact ihz cz hf.2 hs hn hd h
      · cases h
    | _ => first | (cases hf; done) | (rename_i dr; cases dr <;> cases hf)
  | block id ks ls y ih =>
    intro c σ a w G L ex σ' hf hs hn hd h
    cases c with
    | block id' cy =>
      simp only [fitCode, Bool.and_eq_true, beq_iff_eq] at hf
      obtain ⟨rfl, hf⟩ := hf
      simp only [codeN] at h
      cases hq : codeN call n y σ with
      | none => rw [hq] at h; cases h
      | some q =>
        rw [hq] at h
        obtain ⟨ex1, σ1⟩ := q
        refine wp_block (wp_mono (ih cy hf hs hn hd hq) fun e a1 w1 hp => ?_)
        obtain ⟨p1, p2, G1, L1, p3, p4, p5⟩ := hp
        cases ex1 with
        | exit i =>
          cases e with
          | exit j =>
            cases (show j = i from p3)
            simp only [Exit.inBlock]
            dsimp only at h
            split at h
            · rename_i e; rw [if_pos e]; cases h; exact ⟨p1, p2, G1, L1, trivial, (p4.keep ks ls).1, p5.trans (p4.keep ks ls).2⟩
            · rename_i e; rw [if_neg e]; cases h; exact ⟨p1, p2, G1, L1, rfl, p4, p5⟩
          | _ => exact p3.elim
        | normal => cases h; cases e with
          | normal => exact ⟨p1, p2, G1, L1, p3, p4, p5⟩
          | _ => exact p3.elim
        | ret => cases h; cases e with
          | ret => exact ⟨p1, p2, G1, L1, p3, p4, p5⟩
          | _ => exact p3.elim
        | pan v => cases h; cases e with
          | panic ch => exact ⟨p1, p2, G1, L1, p3, p4, p5⟩
          | _ => exact p3.elim
    | _ => first | (cases hf; done) | (rename_i dr; cases dr <;> cases hf)
  | loop ks ls y ih =>
    intro c σ a w G L ex σ' hf hs hn hd h
    cases c with
    | loop cy =>
      have hf' : fitCode P nt cy y = true := hf
      simp only [codeN] at h
      let J : Nat → Act → World → Prop := fun m a1 w1 => ∃ G1 L1 σ1, SR w1 G1 L1 σ1 a1.tmps ∧ nt ≤ a1.tmps.size ∧ a1.defers = D ∧ Ext w G L σ w1 G1 L1 σ1 ∧ iter (fun σ => codeN call n y (σ.keep ks ls)) m σ1 = some (ex, σ')
      refine wp_loop (fun a1 w1 => ∃ m, J m a1 w1) (fun a1 w1 => least fun m => J m a1 w1) ⟨n, G, L, σ, hs, hn, hd, Ext.refl w G L σ, h⟩ ?_
      intro a1 w1 hJ
      obtain ⟨m0, hm0⟩ := hJ
      have hspec := (least_spec (p := fun m => J m a1 w1) hm0).1
      generalize hk : (least fun m => J m a1 w1) = m at hspec
      obtain ⟨G1, L1, σ1, q1, q2, q3, q4, q5⟩ := hspec
      cases m with
      | zero => cases q5
      | succ m =>
        simp only [iter] at q5
        cases hq : codeN call n y (σ1.keep ks ls) with
        | none => rw [hq] at q5; cases q5
        | some q =>
          rw [hq] at q5
          obtain ⟨ex1, σ2⟩ := q
          obtain ⟨k1, k2⟩ := q1.keep ks ls
          refine wp_mono (ih cy hf' k1 q2 q3 hq) fun e a2 w2 hp => ?_
          by_cases hnorm : ex1 = .normal
          · subst hnorm
            obtain ⟨p1, p2, G2, L2, p3, p4, p5⟩ := hp
            cases e with
            | normal =>
              have hJ2 : J m a2 w2 := ⟨G2, L2, σ2, p4, p2, p1, q4.trans (k2.trans p5), q5⟩
              refine ⟨⟨m, hJ2⟩, ?_⟩
              exact Nat.lt_succ_of_le ((least_spec (p := fun m => J m a2 w2) hJ2).2 m hJ2)
            | _ => exact p3.elim
          · refine then_post hp hnorm ?_
            cases ex1 with
            | normal => exact absurd rfl hnorm
            | _ => cases q5; exact hp.trans (q4.trans k2)
    | _ => first | (cases hf; done) | (rename_i dr; cases dr <;> cases hf)
  | exit id =>
    intro c σ a w G L ex σ' hf hs hn hd h
    simp only [codeN] at h
    cases h
    cases c with
    | exit id' =>
      simp only [fitCode, beq_iff_eq] at hf
      subst hf
      exact wp_exit ⟨hd, hn, G, L, rfl, hs, Ext.refl w G L σ⟩
    | _ => first | (cases hf; done) | (rename_i dr; cases dr <;> cases hf)
  | ret =>
    intro c σ a w G L ex σ' hf hs hn hd h
    simp only [codeN] at h
    cases h
    cases c with
    | ret => exact wp_ret ⟨hd, hn, G, L, trivial, hs, Ext.refl w G L σ⟩
    | _ => first | (cases hf; done) | (rename_i dr; cases dr <;> cases hf)

end
end Go.Vm
end

section
set_option linter.unusedSimpArgs false
set_option linter.unusedVariables false
namespace Go.Vm
open Go Go.RowKit

/-! ### values that name no block from a number on -/
mutual
def V.nb (n : Nat) : V → Prop
  | .ptr id _ => id < n
  | .eptr id _ _ _ => id < n
  | .sl id _ _ _ _ => id < n
  | .map id => id < n
  | .cref l => V.nbs n l
  | .snap l => V.nbcs n l
  | .func _ l => V.nbs n l
  | .iface _ v => V.nb n v
  | .agg l => V.nbs n l
  | .tuple l => V.nbs n l
  | _ => True
def V.nbs (n : Nat) : List V → Prop
  | [] => True
  | v :: r => V.nb n v ∧ V.nbs n r
def V.nbcs (n : Nat) : List V → Prop
  | [] => True
  | v :: r => V.nbc n v ∧ V.nbcs n r
def V.nbc (n : Nat) : V → Prop
  | .tuple _ => True
  | .ptr id _ => id < n
  | .eptr id _ _ _ => id < n
  | .sl id _ _ _ _ => id < n
  | .map id => id < n
  | .cref l => V.nbs n l
  | .snap l => V.nbcs n l
  | .func _ l => V.nbs n l
  | .iface _ v => V.nb n v
  | .agg l => V.nbs n l
  | _ => True
end

theorem belows_append {n : Nat} : ∀ {a b : List V}, V.nbs n (a ++ b) ↔ V.nbs n a ∧ V.nbs n b
  | [], b => by simp [V.nbs]
  | x :: a, b => by simp only [List.cons_append, V.nbs]; rw [belows_append]; exact and_assoc.symm

theorem belowc_cells {n : Nat} : ∀ v : V, V.nbc n v ↔ V.nbs n v.cells := by
  intro v
  cases v <;> simp [V.nbc, V.cells, V.nbs, V.nb]

theorem belowcs_flat {n : Nat} : ∀ l : List V, V.nbcs n l ↔ V.nbs n (l.flatMap V.cells)
  | [] => by simp [V.nbcs, V.nbs]
  | v :: l => by
    simp only [V.nbcs, List.flatMap_cons]
    rw [belows_append, belowc_cells, belowcs_flat l]

def Dom (n : Nat) (G : Gh) : Prop := ∀ id, n ≤ id → G.ob id = none ∧ ∀ v, G.rw id v = none

theorem Dom.ob {n : Nat} {G : Gh} (h : Dom n G) {id B : Nat} (e : G.ob id = some B) : id < n := by
  rcases Nat.lt_or_ge id n with hl | hl
  · exact hl
  · rw [(h id hl).1] at e; cases e
theorem Dom.rw {n : Nat} {G : Gh} (h : Dom n G) {id v : Nat} {r : RowLoc} (e : G.rw id v = some r) : id < n := by
  rcases Nat.lt_or_ge id n with hl | hl
  · exact hl
  · rw [(h id hl).2] at e; cases e

mutual
theorem VR.nb {n : Nat} {G : Gh} {w : World} (hd : Dom n G) {v : V} {x : Value} : VR G w v x → v.nb n
  | .undef x => trivial
  | .bool b => trivial
  | .int k n => trivial
  | .float k n => trivial
  | .str s b h => trivial
  | .nilp => trivial
  | .ptr id off B h => hd.ob h
  | .cref cs B off xs hs hc h => CRs.nb hd h
  | .eptr id ver i off r h => hd.rw h
  | .nils => trivial
  | .snil a c => by simp only [V.nb, V.nbcs]
  | .snap l B off s cap xs hs hc hl hc' h => by simp only [V.nb]; exact (belowcs_flat l).2 (CRs.nb hd h)
  | .sl id ver off len cap r a h hl hc ha => hd.rw h
  | .nilm => trivial
  | .map id B h => hd.ob h
  | .nilf => trivial
  | .func f caps xs h => VRs.nb hd h
  | .nili => trivial
  | .iface t v x h => by simp only [V.nb]; exact VR.nb hd h
  | .agg cs xs h => CRs.nb hd h
  | .tuple vs xs h => VRs.nb hd h
theorem VRs.nb {n : Nat} {G : Gh} {w : World} (hd : Dom n G) {v : List V} {x : List Value} : VRs G w v x → V.nbs n v
  | .nil => by simp only [V.nbs]
  | .cons v x vs xs h hs => by simp only [V.nbs]; exact ⟨VR.nb hd h, VRs.nb hd hs⟩
theorem CRs.nb {n : Nat} {G : Gh} {w : World} (hd : Dom n G) {v : List V} {x : List Value} : CRs G w v x → V.nbs n v
  | .nil => by simp only [V.nbs]
  | .cons v x vs xs hv hx h hs => by simp only [V.nbs]; exact ⟨VR.nb hd h, CRs.nb hd hs⟩
end

structure LeN (n : Nat) (G G' : Gh) : Prop where
  st : ∀ B, G.st B → G'.st B
  ob : ∀ id B, id < n → G.ob id = some B → G'.ob id = some B
  rw : ∀ id v r, id < n → G.rw id v = some r → G'.rw id v = some r

mutual
theorem VR.cutN {n : Nat} {G G' : Gh} {w : World} (hle : LeN n G G') {v : V} {x : Value} : VR G w v x → v.nb n → VR G' w v x
  | .undef x, _ => .undef x
  | .bool b, _ => .bool b
  | .int k n, _ => .int k n
  | .float k n, _ => .float k n
  | .str s b h, _ => .str s b h
  | .nilp, _ => .nilp
  | .ptr id off B h, hb => .ptr id off B (hle.ob _ _ (by simpa only [V.nb] using hb) h)
  | .cref cs B off xs hs hc h, hb => .cref cs B off xs (hle.st _ hs) hc (CRs.cutN hle h (by simpa only [V.nb] using hb))
  | .eptr id ver i off r h, hb => .eptr id ver i off r (hle.rw _ _ _ (by simpa only [V.nb] using hb) h)
  | .nils, _ => .nils
  | .snil a c, _ => .snil a c
  | .snap l B off s cap xs hs hc hl hc' h, hb => .snap l B off s cap xs (hle.st _ hs) hc hl hc' (CRs.cutN hle h ((belowcs_flat l).1 (by simpa only [V.nb] using hb)))
  | .sl id ver off len cap r a h hl hc ha, hb => .sl id ver off len cap r a (hle.rw _ _ _ (by simpa only [V.nb] using hb) h) hl hc ha
  | .nilm, _ => .nilm
  | .map id B h, hb => .map id B (hle.ob _ _ (by simpa only [V.nb] using hb) h)
  | .nilf, _ => .nilf
  | .func f caps xs h, hb => .func f caps xs (VRs.cutN hle h (by simpa only [V.nb] using hb))
  | .nili, _ => .nili
  | .iface t v x h, hb => .iface t v x (VR.cutN hle h (by simpa only [V.nb] using hb))
  | .agg cs xs h, hb => .agg cs xs (CRs.cutN hle h (by simpa only [V.nb] using hb))
  | .tuple vs xs h, hb => .tuple vs xs (VRs.cutN hle h (by simpa only [V.nb] using hb))
theorem VRs.cutN {n : Nat} {G G' : Gh} {w : World} (hle : LeN n G G') {v : List V} {x : List Value} : VRs G w v x → V.nbs n v → VRs G' w v x
  | .nil, _ => .nil
  | .cons v x vs xs h hs, hb => by simp only [V.nbs] at hb; exact .cons v x vs xs (VR.cutN hle h hb.1) (VRs.cutN hle hs hb.2)
theorem CRs.cutN {n : Nat} {G G' : Gh} {w : World} (hle : LeN n G G') {v : List V} {x : List Value} : CRs G w v x → V.nbs n v → CRs G' w v x
  | .nil, _ => .nil
  | .cons v x vs xs hv hx h hs, hb => by simp only [V.nbs] at hb; exact .cons v x vs xs hv hx (VR.cutN hle h hb.1) (CRs.cutN hle hs hb.2)
end

mutual
theorem pure_below (n : Nat) : ∀ v : V, v.pure = true → v.nb n
  | .undef, _ => trivial
  | .bool _, _ => trivial
  | .int _ _, _ => trivial
  | .float _ _, _ => trivial
  | .str _, _ => trivial
  | .nilp, _ => trivial
  | .ptr _ _, h => by simp [V.pure] at h
  | .cref l, h => by simp only [V.pure] at h; simp only [V.nb]; exact pures_belows n l h
  | .eptr _ _ _ _, h => by simp [V.pure] at h
  | .nils, _ => trivial
  | .snap l, h => by simp only [V.pure] at h; simp only [V.nb]; exact pures_belowcs n l h
  | .sl _ _ _ _ _, h => by simp [V.pure] at h
  | .nilm, _ => trivial
  | .map _, h => by simp [V.pure] at h
  | .nilf, _ => trivial
  | .func _ l, h => by simp only [V.pure] at h; simp only [V.nb]; exact pures_belows n l h
  | .nili, _ => trivial
  | .iface _ v, h => by simp only [V.pure] at h; simp only [V.nb]; exact pure_below n v h
  | .agg l, h => by simp only [V.pure] at h; simp only [V.nb]; exact pures_belows n l h
  | .tuple l, h => by simp only [V.pure] at h; simp only [V.nb]; exact pures_belows n l h
theorem pures_belows (n : Nat) : ∀ l : List V, V.pure.pures l = true → V.nbs n l
  | [], _ => by simp only [V.nbs]
  | v :: r, h => by simp only [V.pure.pures, Bool.and_eq_true] at h; simp only [V.nbs]; exact ⟨pure_below n v h.1, pures_belows n r h.2⟩
theorem pures_belowcs (n : Nat) : ∀ l : List V, V.pure.pures l = true → V.nbcs n l
  | [], _ => by simp only [V.nbcs]
  | v :: r, h => by
    simp only [V.pure.pures, Bool.and_eq_true] at h; simp only [V.nbcs]
    refine ⟨?_, pures_belowcs n r h.2⟩
    have hb := pure_below n v h.1
    cases v <;> first | trivial | (simp only [V.nb] at hb; simp only [V.nbc]; exact hb)
end

end Go.Vm
end

section
set_option linter.unusedSimpArgs false
set_option linter.unusedVariables false
namespace Go.Vm
open Go Go.RowKit

section
variable {P : Program}

/-- The ghost of a call's end: what the call made is only read from now on. -/
def Gh.fin (G : Gh) (n : Nat) (h : List HO) : Gh where
  st := fun B => G.st B ∨ ∃ id, n ≤ id ∧ ownB G h id = some B
  ob := fun id => if id < n then G.ob id else none
  rw := fun id v => if id < n then G.rw id v else none

theorem Gh.fin_LeN (G : Gh) (n : Nat) (h : List HO) : LeN n G (G.fin n h) :=
  ⟨fun _ h => .inl h, fun id B hl e => by show (if id < n then _ else _) = _; rw [if_pos hl]; exact e, fun id v r hl e => by show (if id < n then _ else _) = _; rw [if_pos hl]; exact e⟩

/-- An answer that is frozen. -/
theorem frz1_ok {w : World} {G : Gh} {h : List HO} (hw : WR w G h) {n : Nat} {v v' : V} {x : Value} (hf : frz1 n h v = some v') (hv : VR G w v x) : VR (G.fin n h) w v' x ∧ (v.isC → v'.isC) := by
  unfold frz1 at hf
  split at hf
  · rename_i hp
    cases hf
    exact ⟨VR.cutN (G.fin_LeN n h) hv (pure_below n _ hp), fun h => h⟩
  · split at hf
    · cases hf
      rw [hv.inv_nils]
      exact ⟨.snil _ _, fun _ => trivial⟩
    · rename_i id ver s off len hnp
      split at hf
      · cases hf
      · rename_i hid
        split at hf
        · rename_i ver' row hm
          split at hf
          · rename_i hc
            obtain ⟨rfl, hle, hp⟩ := hc
            cases hf
            refine ⟨?_, fun _ => trivial⟩
            obtain ⟨r, a, cap, hr, rfl, h1, h2, ha, rfl⟩ := hv.inv_sl
            obtain ⟨r', hr', _, hor⟩ := hw.obj _ _ hm
            rw [hr] at hr'; cases hr'
            have hst : (G.fin n h).st r.B := .inr ⟨id, Nat.le_of_not_lt hid, by unfold ownB; rw [hm]; dsimp only; rw [hr]; rfl⟩
            obtain ⟨xs, hci, hcr, hl⟩ := hor.cellsIn
            have hlen : ((row.drop off).take len).length = len := by simp; omega
            by_cases h0 : len = 0
            · subst h0; rw [List.take_zero]; exact .snil _ _
            · have ha' := ha.resolve_left (by omega)
              subst ha'
              have := VR.snap (G := G.fin n h) (w := w) ((row.drop off).take len) r.B (r.base + off * r.s) r.s cap ((xs.drop (off * r.s)).take (len * r.s)) hst ((hci.drop (off * r.s)).take (len * r.s))
                (fun v hv => hl v (List.mem_of_mem_drop (List.mem_of_mem_take hv))) (by omega) (by
                  rw [flat_take _ (fun v hv => hl v (List.mem_of_mem_drop hv)), flat_drop _ hl]
                  refine CRs.cutN (G.fin_LeN n h) ((hcr.drop _).take _) ?_
                  rw [← flat_drop _ hl, ← flat_take _ (fun v hv => hl v (List.mem_of_mem_drop hv))]
                  have hall := (belowcs_flat row).1 (pures_belowcs n row hp)
                  have hsub : row = row.take off ++ ((row.drop off).take len ++ (row.drop off).drop len) := by rw [List.take_append_drop, List.take_append_drop]
                  rw [hsub, List.flatMap_append, List.flatMap_append, belows_append, belows_append] at hall
                  exact hall.2.1)
              rw [hlen] at this
              exact this
          · cases hf
        · cases hf
    · cases hf

theorem frzs_ok {w : World} {G : Gh} {h : List HO} (hw : WR w G h) {n : Nat} : ∀ {vs vs' : List V} {xs : List Value}, frzs n h vs = some vs' → CRs G w vs xs → CRs (G.fin n h) w vs' xs
  | [], _, _, hf, hv => by cases hf; cases hv; exact .nil
  | v :: vs, _, _, hf, hv => by
    simp only [frzs, Option.bind_eq_some_iff] at hf
    obtain ⟨v1, h1, vs1, h2, e⟩ := hf
    cases e
    cases hv with
    | cons _ x _ xs hc hx hv hs =>
      obtain ⟨h3, h4⟩ := frz1_ok hw h1 hv
      exact .cons _ _ _ _ (h4 hc) hx h3 (frzs_ok hw h2 hs)

theorem frz2_ok {w : World} {G : Gh} {h : List HO} (hw : WR w G h) {n : Nat} {v v' : V} {x : Value} (hf : frz2 n h v = some v') (hv : VR G w v x) : VR (G.fin n h) w v' x := by
  unfold frz2 at hf
  split at hf
  · obtain ⟨cs, h1, rfl⟩ := Option.map_eq_some_iff.1 hf
    obtain ⟨xs, h2, rfl⟩ := hv.inv_agg
    exact .agg _ _ (frzs_ok hw h1 h2)
  · exact (frz1_ok hw hf hv).1

theorem frz2s_ok {w : World} {G : Gh} {h : List HO} (hw : WR w G h) {n : Nat} : ∀ {vs vs' : List V} {xs : List Value}, frz2s n h vs = some vs' → VRs G w vs xs → VRs (G.fin n h) w vs' xs
  | [], _, _, hf, hv => by cases hf; cases hv; exact .nil
  | v :: vs, _, _, hf, hv => by
    simp only [frz2s, Option.bind_eq_some_iff] at hf
    obtain ⟨v1, h1, vs1, h2, e⟩ := hf
    cases e
    cases hv with
    | cons _ x _ xs hv hs => exact .cons _ _ _ _ (frz2_ok hw h1 hv) (frz2s_ok hw h2 hs)

theorem frz_ok {w : World} {G : Gh} {h : List HO} (hw : WR w G h) {n : Nat} {v v' : V} {x : Value} (hf : frz n h v = some v') (hv : VR G w v x) : VR (G.fin n h) w v' x := by
  unfold frz at hf
  split at hf
  · obtain ⟨cs, h1, rfl⟩ := Option.map_eq_some_iff.1 hf
    obtain ⟨xs, h2, rfl⟩ := hv.inv_tuple
    exact .tuple _ _ (frz2s_ok hw h1 h2)
  · exact frz2_ok hw hf hv

theorem frz2_cells {w : World} {G : Gh} {h : List HO} (hw : WR w G h) {n : Nat} {v v' : V} {xs : List Value} (hf : frz2 n h v = some v') (hne : v.cells ≠ []) (hc : CRs G w v.cells xs) : CRs (G.fin n h) w v'.cells xs ∧ v'.cells.length = v.cells.length := by
  have one : ∀ {v v' : V}, frz1 n h v = some v' → v.cells = [v] → CRs G w [v] xs → CRs (G.fin n h) w v'.cells xs ∧ v'.cells.length = 1 := by
    intro v v' hf hv hc
    cases hc with
    | cons _ x _ _ h1 h2 h3 h4 =>
      cases h4
      obtain ⟨h5, h6⟩ := frz1_ok hw hf h3
      have hv' : v'.cells = [v'] := by
        unfold frz1 at hf
        split at hf
        · cases hf; exact hv
        · split at hf
          · cases hf; rfl
          · split at hf
            · cases hf
            · split at hf
              · split at hf
                · cases hf; rfl
                · cases hf
              · cases hf
          · cases hf
      rw [hv']
      exact ⟨.cons _ _ _ _ (h6 h1) h2 h5 .nil, rfl⟩
  cases v
  case agg cs =>
    simp only [frz2] at hf
    obtain ⟨cs', h1, rfl⟩ := Option.map_eq_some_iff.1 hf
    have h2 := frzs_ok hw h1 hc
    exact ⟨h2, h2.length.trans hc.length.symm⟩
  case undef => exact absurd rfl hne
  case tuple => exact absurd rfl hne
  all_goals exact one hf rfl hc

theorem CRs.split {G : Gh} {w : World} : ∀ {a b : List V} {xs : List Value}, CRs G w (a ++ b) xs → ∃ x y, xs = x ++ y ∧ CRs G w a x ∧ CRs G w b y
  | [], b, xs, h => ⟨[], xs, rfl, .nil, h⟩
  | v :: a, b, _, h => by
    cases h with
    | cons _ x _ xs h1 h2 h3 h4 =>
      obtain ⟨x', y, rfl, h5, h6⟩ := CRs.split h4
      exact ⟨x :: x', y, rfl, .cons _ _ _ _ h1 h2 h3 h5, h6⟩

theorem frz2s_cells {w : World} {G : Gh} {h : List HO} (hw : WR w G h) {n s : Nat} (hs : 0 < s) : ∀ {l l' : List V} {xs : List Value}, frz2s n h l = some l' → (∀ v ∈ l, v.cells.length = s) → CRs G w (l.flatMap V.cells) xs →
    CRs (G.fin n h) w (l'.flatMap V.cells) xs ∧ (∀ v ∈ l', v.cells.length = s) ∧ l'.length = l.length
  | [], _, _, hf, _, hc => by cases hf; exact ⟨by (cases hc; exact .nil), fun _ h => by (cases h), rfl⟩
  | v :: l, _, _, hf, hl, hc => by
    simp only [frz2s, Option.bind_eq_some_iff] at hf
    obtain ⟨v1, h1, l1, h2, e⟩ := hf
    cases e
    rw [List.flatMap_cons] at hc
    obtain ⟨x, y, rfl, h3, h4⟩ := CRs.split hc
    have hv := hl v (by simp)
    obtain ⟨h5, h6⟩ := frz2_cells hw h1 (fun e => by rw [e] at hv; simp at hv; omega) h3
    obtain ⟨h7, h8, h9⟩ := frz2s_cells hw hs h2 (fun u hu => hl u (by simp [hu])) h4
    refine ⟨by rw [List.flatMap_cons]; exact h5.append h7, fun u hu => ?_, by simp [h9]⟩
    rcases List.mem_cons.1 hu with rfl | hu
    · rw [h6]; exact hv
    · exact h8 u hu

theorem frzN1_ok {w : World} {G : Gh} {h : List HO} (hw : WR w G h) {n : Nat} {v v' : V} {x : Value} (hf : frzN1 n h v = some v') (hv : VR G w v x) : VR (G.fin n h) w v' x ∧ (v.isC → v'.isC) := by
  unfold frzN1 at hf
  split at hf
  · rename_i v1 h1
    cases hf
    exact frz1_ok hw h1 hv
  · split at hf
    · rename_i id ver s off len hnp
      split at hf
      · cases hf
      · rename_i hid
        split at hf
        · rename_i ver' row hm
          split at hf
          · rename_i hc
            obtain ⟨rfl, hle⟩ := hc
            obtain ⟨row', hfr, rfl⟩ := Option.map_eq_some_iff.1 hf
            refine ⟨?_, fun _ => trivial⟩
            obtain ⟨r, a, cap, hr, rfl, h1, h2, ha, rfl⟩ := hv.inv_sl
            obtain ⟨r', hr', _, hor⟩ := hw.obj _ _ hm
            rw [hr] at hr'; cases hr'
            have hst : (G.fin n h).st r.B := .inr ⟨id, Nat.le_of_not_lt hid, by unfold ownB; rw [hm]; dsimp only; rw [hr]; rfl⟩
            have hs0 : 0 < r.s := by obtain ⟨_, _, _, _, _, _, _, q, _⟩ := hor; exact q
            obtain ⟨xs, hci, hcr, hl⟩ := hor.cellsIn
            obtain ⟨hcr', hl', hll⟩ := frz2s_cells hw hs0 hfr hl hcr
            have hlen : ((row'.drop off).take len).length = len := by simp; omega
            by_cases h0 : len = 0
            · subst h0; rw [List.take_zero]; exact .snil _ _
            · have ha' := ha.resolve_left (by omega)
              subst ha'
              have := VR.snap (G := G.fin n h) (w := w) ((row'.drop off).take len) r.B (r.base + off * r.s) r.s cap ((xs.drop (off * r.s)).take (len * r.s)) hst ((hci.drop (off * r.s)).take (len * r.s))
                (fun v hv => hl' v (List.mem_of_mem_drop (List.mem_of_mem_take hv))) (by omega) (by
                  rw [flat_take _ (fun v hv => hl' v (List.mem_of_mem_drop hv)), flat_drop _ hl']
                  exact (hcr'.drop _).take _)
              rw [hlen] at this
              exact this
          · cases hf
        · cases hf
    · cases hf

theorem frzNs_ok {w : World} {G : Gh} {h : List HO} (hw : WR w G h) {n : Nat} : ∀ {vs vs' : List V} {xs : List Value}, frzNs n h vs = some vs' → CRs G w vs xs → CRs (G.fin n h) w vs' xs
  | [], _, _, hf, hv => by cases hf; cases hv; exact .nil
  | v :: vs, _, _, hf, hv => by
    simp only [frzNs, Option.bind_eq_some_iff] at hf
    obtain ⟨v1, h1, vs1, h2, e⟩ := hf
    cases e
    cases hv with
    | cons _ x _ xs hc hx hv hs =>
      obtain ⟨h3, h4⟩ := frzN1_ok hw h1 hv
      exact .cons _ _ _ _ (h4 hc) hx h3 (frzNs_ok hw h2 hs)

theorem frzN2_ok {w : World} {G : Gh} {h : List HO} (hw : WR w G h) {n : Nat} {v v' : V} {x : Value} (hf : frzN2 n h v = some v') (hv : VR G w v x) : VR (G.fin n h) w v' x := by
  unfold frzN2 at hf
  split at hf
  · obtain ⟨cs, h1, rfl⟩ := Option.map_eq_some_iff.1 hf
    obtain ⟨xs, h2, rfl⟩ := hv.inv_agg
    exact .agg _ _ (frzNs_ok hw h1 h2)
  · exact (frzN1_ok hw hf hv).1

theorem frzN2s_ok {w : World} {G : Gh} {h : List HO} (hw : WR w G h) {n : Nat} : ∀ {vs vs' : List V} {xs : List Value}, frzN2s n h vs = some vs' → VRs G w vs xs → VRs (G.fin n h) w vs' xs
  | [], _, _, hf, hv => by cases hf; cases hv; exact .nil
  | v :: vs, _, _, hf, hv => by
    simp only [frzN2s, Option.bind_eq_some_iff] at hf
    obtain ⟨v1, h1, vs1, h2, e⟩ := hf
    cases e
    cases hv with
    | cons _ x _ xs hv hs => exact .cons _ _ _ _ (frzN2_ok hw h1 hv) (frzN2s_ok hw h2 hs)

theorem frzN_ok {w : World} {G : Gh} {h : List HO} (hw : WR w G h) {n : Nat} {v v' : V} {x : Value} (hf : frzN n h v = some v') (hv : VR G w v x) : VR (G.fin n h) w v' x := by
  unfold frzN at hf
  split at hf
  · obtain ⟨cs, h1, rfl⟩ := Option.map_eq_some_iff.1 hf
    obtain ⟨xs, h2, rfl⟩ := hv.inv_tuple
    exact .tuple _ _ (frzN2s_ok hw h1 h2)
  · exact frzN2_ok hw hf hv

theorem frzF_ok {w : World} {G : Gh} {h : List HO} (hw : WR w G h) {n : Nat} {v v' : V} {x : Value} (hf : frzF n h v = some v') (hv : VR G w v x) : VR (G.fin n h) w v' x := by
  unfold frzF at hf
  split at hf
  · rename_i e; cases hf; exact frz_ok hw e hv
  · exact frzN_ok hw hf hv

theorem ER.nb {G : Gh} {w : World} {n : Nat} (hd : Dom n G) {l : List (V × V × Nat)} {es : List MapEntry} (h : ER G w l es) : ∀ p ∈ l, V.nb n p.1 ∧ V.nb n p.2.1 := by
  induction h with
  | nil => intro p hp; cases hp
  | cons k v b e l es hk hv hb _ ih =>
    intro p hp
    rcases List.mem_cons.1 hp with rfl | hp
    · exact ⟨VR.nb hd hk, VR.nb hd hv⟩
    · exact ih p hp

theorem ER.cutN {G G' : Gh} {w : World} {n : Nat} (hle : LeN n G G') {l : List (V × V × Nat)} {es : List MapEntry} (h : ER G w l es) : (∀ p ∈ l, V.nb n p.1 ∧ V.nb n p.2.1) → ER G' w l es := by
  induction h with
  | nil => intro _; exact .nil
  | cons k v b e l es hk hv hb _ ih =>
    intro hp
    have h1 := hp (k, v, b) (by simp)
    exact .cons k v b e l es (VR.cutN hle hk h1.1) (VR.cutN hle hv h1.2) hb (ih fun p hm => hp p (by simp [hm]))

/-- A call's end: what it made is forgotten. -/
theorem fin_ok {w w' : World} {G G' : Gh} {h h' : List HO} (hw0 : WR w G h) (hx : Ext w G L0 (St.init [] h) w' G' L0 (St.init [] h')) (hw : WR w' G' h') (ht : h'.take h.length = h) :
    Ext w G L0 (St.init [] h) w' (G'.fin h.length h') L0 (St.init [] h) ∧ WR w' (G'.fin h.length h') h := by
  have hD : Dom h.length G := hw0.dom
  have hget : ∀ id, id < h.length → h'[id]? = h[id]? := by
    intro id hl
    have : (h'.take h.length)[id]? = h'[id]? := List.getElem?_take_of_lt hl
    rw [← this, ht]
  have hlen : h.length ≤ h'.length := by
    have := congrArg List.length ht
    simp at this; omega
  have hob : ∀ id, id < h.length → (G'.fin h.length h').ob id = G'.ob id := fun id hl => by show (if id < _ then _ else _) = _; rw [if_pos hl]
  have hrw : ∀ id v, id < h.length → (G'.fin h.length h').rw id v = G'.rw id v := fun id v hl => by show (if id < _ then _ else _) = _; rw [if_pos hl]
  have hownlt : ∀ id, id < h.length → ownB (G'.fin h.length h') h id = ownB G' h' id := by
    intro id hl
    unfold ownB
    rw [hget id hl]
    split <;> first | exact hob id hl | (rw [hrw id _ hl]) | rfl
  have hownge : ∀ id, h.length ≤ id → ownB (G'.fin h.length h') h id = none := by
    intro id hl; unfold ownB; rw [List.getElem?_eq_none hl]
  have hownG : ∀ id B, ownB G h id = some B → id < h.length ∧ ownB G' h' id = some B := by
    intro id B hB
    have hl : id < h.length := by
      rcases Nat.lt_or_ge id h.length with hl | hl
      · exact hl
      · unfold ownB at hB; rw [List.getElem?_eq_none hl] at hB; cases hB
    refine ⟨hl, ?_⟩
    unfold ownB at hB ⊢
    rw [hget id hl]
    revert hB
    cases h[id]? with
    | none => exact fun hB => hB
    | some o =>
      cases o with
      | cells cs => exact fun hB => hx.ob id B hB
      | map es c => exact fun hB => hx.ob id B hB
      | row ver l =>
        intro hB
        obtain ⟨r, hr, e⟩ := Option.map_eq_some_iff.1 hB
        show (G'.rw id ver).map (·.B) = some B
        rw [hx.rw id ver r hr]; exact congrArg some e
      | hole => exact fun hB => hB
  refine ⟨⟨hx.os, hx.tape, hx.output, hx.sz, hx.fr, fun B hB => .inl (hx.st B hB), fun id B e => by rw [hob id (hD.ob e)]; exact hx.ob id B e, fun id v r e => by rw [hrw id v (hD.rw e)]; exact hx.rw id v r e,
    fun _ _ _ h => h, ?_, ?_, fun d g cs B h => by cases h⟩, ⟨?_, ?_, ?_, ?_, ?_⟩⟩
  · rintro B (hB | ⟨id, hid, hB⟩)
    · exact (hx.stn B hB).elim .inl fun h => .inr (h.elim .inl fun ⟨_, _, _, h, _⟩ => by cases h)
    · rcases hx.own id B hB with ⟨j, hj⟩ | hg
      · obtain ⟨h1, h2⟩ := hownG j B hj
        have := hw.inj _ _ B hB h2
        omega
      · exact .inr (.inl hg)
  · intro id B hB
    rcases Nat.lt_or_ge id h.length with hl | hl
    · have hB' : ownB (G'.fin h.length h') h id = some B := hB
      rw [hownlt id hl] at hB'; exact hx.own id B hB'
    · have hB' : ownB (G'.fin h.length h') h id = some B := hB
      rw [hownge id hl] at hB'; cases hB'
  · intro id o ho
    have hl : id < h.length := by
      rcases Nat.lt_or_ge id h.length with hl | hl
      · exact hl
      · rw [List.getElem?_eq_none hl] at ho; cases ho
    have h0 := hw0.obj id o ho
    have h1 := hw.obj id o (by rw [hget id hl]; exact ho)
    have hle := G'.fin_LeN h.length h'
    cases o with
    | cells cs =>
      obtain ⟨B0, _, c0, el0, fr0, _, hc0, _⟩ := h0
      obtain ⟨B, e, c, el, fr, hb, hc, hf⟩ := h1
      exact ⟨B, (hob id hl).trans e, c, el, fr, hb, CRs.cutN hle hc (CRs.nb hD hc0), hf⟩
    | row ver l =>
      obtain ⟨r0, _, _, c0, el0, fr0, _, _, _, _, _, hc0, _⟩ := h0
      obtain ⟨r, e, hlast, c, el, fr, hb, q1, q2, q3, q4, hc, hf⟩ := h1
      exact ⟨r, (hrw id ver hl).trans e, fun v hv => (hrw id v hl).trans (hlast v hv), c, el, fr, hb, q1, q2, q3, q4, CRs.cutN hle hc (CRs.nb hD hc0), hf⟩
    | map es k =>
      obtain ⟨B0, es0, _, _, h2⟩ := h0
      obtain ⟨B, es', e, hb, h3⟩ := h1
      exact ⟨B, es', (hob id hl).trans e, hb, h3.cutN hle (h2.nb hD)⟩
    | hole => exact ⟨(hob id hl).trans h1.1, fun v => (hrw id v hl).trans (h1.2 v)⟩
  · intro id hl
    exact ⟨by show (if id < _ then _ else _) = _; rw [if_neg (by omega)], fun v => by show (if id < _ then _ else _) = _; rw [if_neg (by omega)]⟩
  · intro i j B hi hj
    rcases Nat.lt_or_ge i h.length with hli | hli
    · rcases Nat.lt_or_ge j h.length with hlj | hlj
      · rw [hownlt i hli] at hi; rw [hownlt j hlj] at hj; exact hw.inj i j B hi hj
      · rw [hownge j hlj] at hj; cases hj
    · rw [hownge i hli] at hi; cases hi
  · intro i B hi
    rcases Nat.lt_or_ge i h.length with hli | hli
    · rw [hownlt i hli] at hi
      rintro (hs | ⟨id, hid, hB⟩)
      · exact hw.ost i B hi hs
      · have := hw.inj _ _ B hi hB; omega
    · rw [hownge i hli] at hi; cases hi
  · rintro B (hB | ⟨id, hid, hB⟩)
    · exact hw.stl B hB
    · exact hw.own_lt hB

theorem topOK_len : ∀ {h h' : List HO} {n : Nat}, topOK n h h' → h.length ≤ h'.length
  | [], _, _, _ => Nat.zero_le _
  | _ :: _, [], _, t => t.elim
  | _ :: r, _ :: r', _, t => by have := topOK_len t.2; simp only [List.length_cons]; omega
theorem topOK_get : ∀ {h h' : List HO} {n : Nat}, topOK n h h' → ∀ id, id < h.length → ∃ a b, h[id]? = some a ∧ h'[id]? = some b ∧ HO.okTo n a b
  | [], _, _, _, _, hl => by simp at hl
  | _ :: _, [], _, t, _, _ => t.elim
  | a :: r, b :: r', _, t, 0, _ => ⟨a, b, rfl, rfl, t.1⟩
  | _ :: r, _ :: r', _, t, id + 1, hl => by
    obtain ⟨a, b, e1, e2, h⟩ := topOK_get t.2 id (by simpa using hl)
    exact ⟨a, b, by simpa using e1, by simpa using e2, h⟩
mutual
theorem lo_nb (n : Nat) : ∀ v : V, v.lo n = true → v.nb n
  | .undef, _ => by simp only [V.nb]
  | .bool _, _ => by simp only [V.nb]
  | .int _ _, _ => by simp only [V.nb]
  | .float _ _, _ => by simp only [V.nb]
  | .str _, _ => by simp only [V.nb]
  | .nilp, _ => by simp only [V.nb]
  | .ptr id _, h => by simp only [V.lo, decide_eq_true_eq] at h; simpa only [V.nb] using h
  | .cref l, h => by simp only [V.lo] at h; simp only [V.nb]; exact los_nbs n l h
  | .eptr id _ _ _, h => by simp only [V.lo, decide_eq_true_eq] at h; simpa only [V.nb] using h
  | .nils, _ => by simp only [V.nb]
  | .snap l, h => by simp only [V.lo] at h; simp only [V.nb]; exact los_nbcs n l h
  | .sl id _ _ _ _, h => by simp only [V.lo, decide_eq_true_eq] at h; simpa only [V.nb] using h
  | .nilm, _ => by simp only [V.nb]
  | .map id, h => by simp only [V.lo, decide_eq_true_eq] at h; simpa only [V.nb] using h
  | .nilf, _ => by simp only [V.nb]
  | .func _ l, h => by simp only [V.lo] at h; simp only [V.nb]; exact los_nbs n l h
  | .nili, _ => by simp only [V.nb]
  | .iface _ v, h => by simp only [V.lo] at h; simp only [V.nb]; exact lo_nb n v h
  | .agg l, h => by simp only [V.lo] at h; simp only [V.nb]; exact los_nbs n l h
  | .tuple l, h => by simp only [V.lo] at h; simp only [V.nb]; exact los_nbs n l h
theorem los_nbs (n : Nat) : ∀ l : List V, V.lo.los n l = true → V.nbs n l
  | [], _ => trivial
  | v :: r, h => by simp only [V.lo.los, Bool.and_eq_true] at h; simp only [V.nbs]; exact ⟨lo_nb n v h.1, los_nbs n r h.2⟩
theorem los_nbcs (n : Nat) : ∀ l : List V, V.lo.los n l = true → V.nbcs n l
  | [], _ => trivial
  | v :: r, h => by
    simp only [V.lo.los, Bool.and_eq_true] at h
    simp only [V.nbcs]
    refine ⟨?_, los_nbcs n r h.2⟩
    have hb := lo_nb n v h.1
    cases v <;> first | trivial | (simp only [V.nb] at hb; simp only [V.nbc]; exact hb)
end

/-- A call's end: what was there may be another, but names nothing that the call made. -/
theorem fin_ok' {w w' : World} {G G' : Gh} {h h' : List HO} (hw0 : WR w G h) (hx : Ext w G L0 (St.init [] h) w' G' L0 (St.init [] h')) (hw : WR w' G' h') (ht : topOK h.length h h') :
    Ext w G L0 (St.init [] h) w' (G'.fin h.length h') L0 (St.init [] (h'.take h.length)) ∧ WR w' (G'.fin h.length h') (h'.take h.length) := by
  have hD : Dom h.length G := hw0.dom
  have hge := topOK_get ht
  have hlen : h.length ≤ h'.length := topOK_len ht
  obtain ⟨h2, hh2⟩ : ∃ h2, h2 = h'.take h.length := ⟨_, rfl⟩
  have hget : ∀ id, id < h.length → h2[id]? = h'[id]? := by
    intro id hl
    rw [hh2]; exact List.getElem?_take_of_lt hl
  have hl2 : h2.length = h.length := by rw [hh2]; simp; omega
  rw [← hh2]
  have hob : ∀ id, id < h.length → (G'.fin h.length h').ob id = G'.ob id := fun id hl => by show (if id < _ then _ else _) = _; rw [if_pos hl]
  have hrw : ∀ id v, id < h.length → (G'.fin h.length h').rw id v = G'.rw id v := fun id v hl => by show (if id < _ then _ else _) = _; rw [if_pos hl]
  have hownlt : ∀ id, id < h.length → ownB (G'.fin h.length h') h2 id = ownB G' h' id := by
    intro id hl
    unfold ownB
    rw [hget id hl]
    split <;> first | exact hob id hl | (rw [hrw id _ hl]) | rfl
  have hownge : ∀ id, h.length ≤ id → ownB (G'.fin h.length h') h2 id = none := by
    intro id hl; unfold ownB; rw [List.getElem?_eq_none (by omega)]
  have hownG : ∀ id B, ownB G h id = some B → id < h.length ∧ ownB G' h' id = some B := by
    intro id B hB
    have hl : id < h.length := by
      rcases Nat.lt_or_ge id h.length with hl | hl
      · exact hl
      · unfold ownB at hB; rw [List.getElem?_eq_none hl] at hB; cases hB
    refine ⟨hl, ?_⟩
    obtain ⟨a, b, e1, e2, hab⟩ := hge id hl
    unfold ownB at hB ⊢
    rw [e1] at hB
    rw [e2]
    have hk : (∃ x y, a = .cells x ∧ b = .cells y) ∨ (∃ x c y d, a = .map x c ∧ b = .map y d) ∨ (∃ v x y, a = .row v x ∧ b = .row v y) ∨ (a = .hole ∧ b = .hole) := by
      rcases hab with rfl | hab
      · cases b
        · exact .inl ⟨_, _, rfl, rfl⟩
        · exact .inr (.inr (.inl ⟨_, _, _, rfl, rfl⟩))
        · exact .inr (.inl ⟨_, _, _, _, rfl, rfl⟩)
        · exact .inr (.inr (.inr ⟨rfl, rfl⟩))
      · unfold HO.lo at hab
        split at hab
        · exact .inl ⟨_, _, rfl, rfl⟩
        · simp only [Bool.and_eq_true, beq_iff_eq] at hab
          obtain ⟨rfl, _⟩ := hab
          exact .inr (.inr (.inl ⟨_, _, _, rfl, rfl⟩))
        · exact .inr (.inl ⟨_, _, _, _, rfl, rfl⟩)
        · exact .inr (.inr (.inr ⟨rfl, rfl⟩))
        · cases hab
    rcases hk with ⟨x, y, rfl, rfl⟩ | ⟨x, c, y, d, rfl, rfl⟩ | ⟨v, x, y, rfl, rfl⟩ | ⟨rfl, rfl⟩
    · exact hx.ob id B hB
    · exact hx.ob id B hB
    · obtain ⟨r, hr, e⟩ := Option.map_eq_some_iff.1 hB
      show (G'.rw id v).map (·.B) = some B
      rw [hx.rw id v r hr]; exact congrArg some e
    · cases hB
  refine ⟨⟨hx.os, hx.tape, hx.output, hx.sz, hx.fr, fun B hB => .inl (hx.st B hB), fun id B e => by rw [hob id (hD.ob e)]; exact hx.ob id B e, fun id v r e => by rw [hrw id v (hD.rw e)]; exact hx.rw id v r e,
    fun _ _ _ h => h, ?_, ?_, fun d g cs B h => by cases h⟩, ⟨?_, ?_, ?_, ?_, ?_⟩⟩
  · rintro B (hB | ⟨id, hid, hB⟩)
    · exact (hx.stn B hB).elim .inl fun h => .inr (h.elim .inl fun ⟨_, _, _, h, _⟩ => by cases h)
    · rcases hx.own id B hB with ⟨j, hj⟩ | hg
      · obtain ⟨h1, h2⟩ := hownG j B hj
        have := hw.inj _ _ B hB h2
        omega
      · exact .inr (.inl hg)
  · intro id B hB
    rcases Nat.lt_or_ge id h.length with hl | hl
    · have hB' : ownB (G'.fin h.length h') h2 id = some B := hB
      rw [hownlt id hl] at hB'; exact hx.own id B hB'
    · have hB' : ownB (G'.fin h.length h') h2 id = some B := hB
      rw [hownge id hl] at hB'; cases hB'
  · intro id o ho
    have hl : id < h.length := by
      rcases Nat.lt_or_ge id h.length with hl | hl
      · exact hl
      · rw [List.getElem?_eq_none (by omega)] at ho; cases ho
    obtain ⟨a, b, e1, e2, hab⟩ := hge id hl
    rw [hget id hl, e2] at ho
    cases ho
    have h0 := hw0.obj id a e1
    have h1 := hw.obj id o e2
    have hle := G'.fin_LeN h.length h'
    have nbs : match o with
        | .cells cs => V.nbs h.length cs
        | .row _ l => V.nbs h.length (l.flatMap V.cells)
        | .map es _ => ∀ p ∈ es, V.nb h.length p.1 ∧ V.nb h.length p.2.1
        | .hole => True := by
      rcases hab with rfl | hab
      · cases o with
        | cells cs => obtain ⟨_, _, _, _, _, _, hc0, _⟩ := h0; exact CRs.nb hD hc0
        | row ver l => obtain ⟨_, _, _, _, _, _, _, _, _, _, _, hc0, _⟩ := h0; exact CRs.nb hD hc0
        | map es k => obtain ⟨_, _, _, _, h2⟩ := h0; exact h2.nb hD
        | hole => trivial
      · unfold HO.lo at hab
        split at hab
        · exact los_nbs _ _ hab
        · simp only [Bool.and_eq_true] at hab
          exact (belowcs_flat _).1 (los_nbcs _ _ hab.2)
        · intro p hp
          have := List.all_eq_true.1 hab p hp
          simp only [Bool.and_eq_true] at this
          exact ⟨lo_nb _ _ this.1, lo_nb _ _ this.2⟩
        · trivial
        · cases hab
    cases o with
    | cells cs =>
      obtain ⟨B, e, c, el, fr, hb, hc, hf⟩ := h1
      exact ⟨B, (hob id hl).trans e, c, el, fr, hb, CRs.cutN hle hc nbs, hf⟩
    | row ver l =>
      obtain ⟨r, e, hlast, c, el, fr, hb, q1, q2, q3, q4, hc, hf⟩ := h1
      exact ⟨r, (hrw id ver hl).trans e, fun v hv => (hrw id v hl).trans (hlast v hv), c, el, fr, hb, q1, q2, q3, q4, CRs.cutN hle hc nbs, hf⟩
    | map es k =>
      obtain ⟨B, es', e, hb, h3⟩ := h1
      exact ⟨B, es', (hob id hl).trans e, hb, h3.cutN hle nbs⟩
    | hole => exact ⟨(hob id hl).trans h1.1, fun v => (hrw id v hl).trans (h1.2 v)⟩
  · intro id hl
    exact ⟨by show (if id < _ then _ else _) = _; rw [if_neg (by omega)], fun v => by show (if id < _ then _ else _) = _; rw [if_neg (by omega)]⟩
  · intro i j B hi hj
    rcases Nat.lt_or_ge i h.length with hli | hli
    · rcases Nat.lt_or_ge j h.length with hlj | hlj
      · rw [hownlt i hli] at hi; rw [hownlt j hlj] at hj; exact hw.inj i j B hi hj
      · rw [hownge j hlj] at hj; cases hj
    · rw [hownge i hli] at hi; cases hi
  · intro i B hi
    rcases Nat.lt_or_ge i h.length with hli | hli
    · rw [hownlt i hli] at hi
      rintro (hs | ⟨id, hid, hB⟩)
      · exact hw.ost i B hi hs
      · have := hw.inj _ _ B hi hB; omega
    · rw [hownge i hli] at hi; cases hi
  · rintro B (hB | ⟨id, hid, hB⟩)
    · exact hw.stl B hB
    · exact hw.own_lt hB

theorem finish_ok {w w' : World} {G : Gh} {h h1 : List HO} (hw0 : WR w G h) {keep : Bool} {r1 : CR} {e : Ending} (hp : CPost w G h r1 h1 e w') : CPost w G h (finish keep h r1 h1).1 (finish keep h r1 h1).2 e w' := by
  cases r1 with
  | ret v =>
    simp only [finish]
    split
    · rename_i hc
      split
      · rename_i v' hf
        obtain ⟨G', h2, h3, h4⟩ := hp
        obtain ⟨h5, h6⟩ := fin_ok hw0 h2 h3 hc.2
        refine ⟨_, h5, h6, ?_⟩
        cases e with
        | returned x => exact frzF_ok h3 hf h4
        | _ => exact h4.elim
      · exact hp
    · split
      · rename_i hc
        split
        · rename_i v' hf
          obtain ⟨G', h2, h3, h4⟩ := hp
          obtain ⟨h5, h6⟩ := fin_ok' hw0 h2 h3 hc.2
          refine ⟨_, h5, h6, ?_⟩
          cases e with
          | returned x => exact frzF_ok h3 hf h4
          | _ => exact h4.elim
        · exact hp
      · exact hp
  | pan v =>
    simp only [finish]
    split
    · rename_i hc
      obtain ⟨G', h2, h3, h4⟩ := hp
      obtain ⟨h5, h6⟩ := fin_ok hw0 h2 h3 hc.1
      refine ⟨_, h5, h6, ?_⟩
      cases e with
      | panicked c =>
        obtain ⟨x, e1, e2⟩ := h4
        exact ⟨x, e1, VR.cutN (Gh.fin_LeN _ _ _) e2 (pure_below _ _ hc.2)⟩
      | _ => exact h4.elim
    · split
      · rename_i hc
        obtain ⟨G', h2, h3, h4⟩ := hp
        obtain ⟨h5, h6⟩ := fin_ok' hw0 h2 h3 hc.1
        refine ⟨_, h5, h6, ?_⟩
        cases e with
        | panicked c =>
          obtain ⟨x, e1, e2⟩ := h4
          exact ⟨x, e1, VR.cutN (Gh.fin_LeN _ _ _) e2 (pure_below _ _ hc.2)⟩
        | _ => exact h4.elim
      · exact hp

/-! ### results -/

theorem res1_ok {w : World} {G : Gh} {L : Lm} {σ : St} {tm : Array Value} (hs : SR w G L σ tm) {r : ResultVar} {s : RV} (hf : fitRes P [r] [s] = true) {v : V} (hv : resultV σ s = some v) :
    ∃ x, ((match r with | .tmp t => pure (tm.getD t undef) | .cell a t => do loadVar t (← asAddr (tm.getD a undef))) : Sem Value).run P w = .ok x w ∧ VR G w v x := by
  cases r with
  | tmp t =>
    cases s with
    | t n =>
      simp only [fitRes, Bool.and_true, beq_iff_eq] at hf
      subst hf
      simp only [resultV] at hv
      have := hs.ev t
      refine ⟨_, rfl, ?_⟩
      cases he : σ.e t with
      | v u => rw [he] at hv this; cases hv; exact this.inv_v
      | loc a b c => rw [he] at hv; cases hv
    | c n ag z => cases hf
  | cell a t =>
    cases s with
    | t n => cases hf
    | c n ag z =>
      simp only [fitRes, Bool.and_true, Bool.and_eq_true, beq_iff_eq] at hf
      obtain ⟨⟨⟨rfl, h1⟩, h2⟩, h3⟩ := hf
      simp only [resultV, Option.bind_eq_some_iff] at hv
      obtain ⟨cs, hcs, hm⟩ := hv
      obtain ⟨B, off, xs, ea, hci, hcr, hlen⟩ := cellsAt_ok hs (hs.ev a) hcs
      obtain ⟨x, hr, hvr⟩ := mkv_ok (P := P) hm h1 h2 hci hcr hlen
      exact ⟨x, by simp [ea, asAddr, hr], hvr⟩

theorem fitRes_cons {r : ResultVar} {s : RV} {rs : List ResultVar} {ss : List RV} (h : fitRes P (r :: rs) (s :: ss) = true) : fitRes P [r] [s] = true ∧ fitRes P rs ss = true := by
  cases r <;> cases s <;> simp only [fitRes, Bool.and_eq_true, Bool.and_true] at h ⊢ <;> first | exact h | cases h

theorem resList_ok {w : World} {G : Gh} {L : Lm} {σ : St} {tm : Array Value} (hs : SR w G L σ tm) : ∀ {rs : List ResultVar} {ss : List RV}, fitRes P rs ss = true → ∀ {vs : List V}, resultVs σ ss = some vs →
    ∃ xs, (rs.mapM (fun r => (match r with | .tmp t => pure (tm.getD t undef) | .cell a t => do loadVar t (← asAddr (tm.getD a undef))) : ResultVar → Sem Value)).run P w = .ok xs w ∧ VRs G w vs xs
  | [], [], _, vs, hv => by cases hv; exact ⟨[], by simp, .nil⟩
  | r :: rs, s :: ss, hf, vs, hv => by
    obtain ⟨hf1, hf2⟩ := fitRes_cons hf
    simp only [resultVs, Option.bind_eq_some_iff] at hv
    obtain ⟨v, hv1, vs', hv2, e⟩ := hv
    cases e
    obtain ⟨x, h1, h2⟩ := res1_ok hs hf1 hv1
    obtain ⟨xs, h3, h4⟩ := resList_ok hs hf2 hv2
    refine ⟨x :: xs, ?_, .cons _ _ _ _ h2 h4⟩
    simp only [List.mapM_cons, Sem.run_bind, h1, Result.andThen_ok, h3, Sem.run_pure]
  | [], _ :: _, hf, _, _ => by cases hf
  | r :: _, [], hf, _, _ => by cases r <;> cases hf

theorem results_ok {w : World} {G : Gh} {L : Lm} {σ : St} {tm : Array Value} (hs : SR w G L σ tm) {fn : Func} {ss : List RV} (hf : fitRes P fn.results.toList ss = true) {v : V} (hv : results σ ss = some v) :
    ∃ x, (Go.results fn tm).run P w = .ok x w ∧ VR G w v x := by
  have run : ∀ {vs : List V}, resultVs σ ss = some vs → ∃ xs, (Go.results fn tm).run P w = .ok (if h : xs.length = 1 then xs[0] else .tuple xs.toArray) w ∧ VRs G w vs xs := by
    intro vs hvs
    obtain ⟨xs, h1, h2⟩ := resList_ok (P := P) hs hf hvs
    refine ⟨xs, ?_, h2⟩
    unfold Go.results
    rw [Array.mapM_eq_mapM_toList]
    simp only [Sem.run_bind, Sem.run_map, Sem.run_pure]
    exact (congrArg (fun z : Result (List Value) => (z.andThen fun a w' => Result.ok a.toArray w').andThen fun a w' => Result.ok (if h : a.size = 1 then a[0] else Value.tuple a) w') h1)
  have rvs : ∀ {ss : List RV} {vs : List V}, resultVs σ ss = some vs → vs.length = ss.length := by
    intro ss
    induction ss with
    | nil => intro vs h; cases h; rfl
    | cons s ss ih =>
      intro vs h
      simp only [resultVs, Option.bind_eq_some_iff] at h
      obtain ⟨v, _, vs', h2, e⟩ := h
      cases e
      simp [ih h2]
  unfold results at hv
  split at hv
  · rename_i s
    obtain ⟨xs, h1, h2⟩ := run (vs := [v]) (by simp [resultVs, hv])
    cases h2 with
    | cons _ x _ xs h hs' =>
      cases hs'
      exact ⟨x, by simpa using h1, h⟩
  · rename_i hne
    obtain ⟨vs, hvs, rfl⟩ := Option.map_eq_some_iff.1 hv
    obtain ⟨xs, h1, h2⟩ := run hvs
    have hl := h2.length
    have hl2 := rvs hvs
    have : ¬ xs.length = 1 := by
      intro h
      have : ss.length = 1 := by omega
      obtain ⟨s, hs1⟩ := List.length_eq_one_iff.1 this
      exact hne s hs1
    rw [dif_neg this] at h1
    exact ⟨_, h1, .tuple _ _ h2⟩

end
end Go.Vm
end

section
set_option linter.unusedSimpArgs false
set_option linter.unusedVariables false
namespace Go.Vm
open Go Go.RowKit

section
variable {P : Program}

theorem codeN_seq {call : Calls1} {n : Nat} {a b : SC} {σ σ1 : St} (h : codeN call n (.seq a b) σ = some (.normal, σ1)) : ∃ σa, codeN call n a σ = some (.normal, σa) ∧ codeN call n b σa = some (.normal, σ1) := by
  unfold codeN at h
  cases e : codeN call n a σ with
  | none => rw [e] at h; cases h
  | some q =>
    rw [e] at h
    obtain ⟨ex, σa⟩ := q
    cases ex <;> first | (cases h; done) | exact ⟨σa, rfl, h⟩

/-- The value that a deferred call recovers, beside the frame's mode. -/
def PvR (G : Gh) (w : World) (u : FrameMode) (pv : V) : Prop :=
  (u = .returning ∧ pv = .nili) ∨ ∃ x, u = .panicking [{ v := x, recovered := false }] ∧ VR G w pv x

theorem PvR.mono {G G' : Gh} {w w' : World} (hle : Le G w G' w') {u : FrameMode} {pv : V} (h : PvR G w u pv) : PvR G' w' u pv := by
  rcases h with h | ⟨x, h1, h2⟩
  · exact .inl h
  · exact .inr ⟨x, h1, VR.mono hle h2⟩

theorem fitR_sound (hm : P.follows .mixedOrders = true) {call : Calls1} (hc : CallOK P call) {nt n : Nat} {d : Nat} {rest : SC} {u : FrameMode} {pv : V} {c₀ : Frame} {cs : List Frame} (hu : c₀.mode = u) {ex : Ex} {σ2 : St} :
    ∀ (c : Code) (pre : SC) {σ σ1 : St} {a : Act} {w : World} {G : Gh} {L : Lm}, fitR P nt c pre d rest = true → SR w G L σ a.tmps → nt ≤ a.tmps.size → a.defers = [] → PvR G w u pv →
      codeN call n pre σ = some (.normal, σ1) → codeN call n rest (σ1.put (some d) (.v pv)) = some (ex, σ2) →
      c.wpS P (fun e a' cs' w' => ∃ u', settle u' = .returning ∧ cs' = { c₀ with mode := u' } :: cs ∧ Post [] nt w G L σ ex σ2 e a' w') a (c₀ :: cs) w := by
  intro c
  induction c with
  | seq x y ihx ihy =>
    intro pre σ σ1 a w G L hf hs hn hd hpv h1 h2
    cases pre with
    | seq a' pre' =>
      simp only [fitR, Bool.and_eq_true] at hf
      obtain ⟨σa, e1, e2⟩ := codeN_seq h1
      refine wpS_seq (wpS_of_wp (wp_mono (codeN_sound hm hc a' x hf.1 hs hn hd e1) fun e a1 w1 hp => ?_))
      obtain ⟨p1, p2, G1, L1, p3, p4, p5⟩ := hp
      cases e with
      | normal =>
        have := ihy pre' (w := w1) (G := G1) (L := L1) hf.2 p4 p2 p1 (hpv.mono (p5.le hs)) e2 h2
        intro b k hb hr
        obtain ⟨e', a', cs', w', ⟨u', q1, q2, q3⟩, r⟩ := this b k hb hr
        exact ⟨e', a', cs', w', ⟨u', q1, q2, q3.trans p5⟩, r⟩
      | _ => exact p3.elim
    | skip =>
      cases x with
      | region id ops dr =>
        cases dr with
        | true => cases hf
        | false =>
          simp only [fitR, Bool.and_eq_true] at hf
          obtain ⟨hf1, hf2⟩ := hf
          split at hf1
          · rename_i o ho
            have ho' : ops = #[o] := by apply Array.ext'; simpa using ho
            subst ho'
            simp only [Bool.and_eq_true, beq_iff_eq, decide_eq_true_eq] at hf1
            obtain ⟨⟨⟨hdst, hdn⟩, hg⟩, hop⟩ := hf1
            have hgn : o.guard = none := by simpa using hg
            simp only [codeN] at h1
            cases h1
            have hw : Region.wanted o (yielded #[o] a.tmps) = true := by simp [Region.wanted, hgn]
            have hrun : (execOp a.eval o).run P w = .ok .recover w := by
              obtain ⟨dst, op, ty, pos, af, gd⟩ := o
              dsimp only at hop ⊢
              cases op <;> first | (cases hop; done) | skip
              rename_i cl
              obtain ⟨ce, as, ats⟩ := cl
              cases ce <;> first | (cases hop; done) | skip
              rename_i b
              cases b <;> first | (cases hop; done) | skip
              simp [execOp, resolve, invoke, builtin]
            have next : ∀ {X : Value} {u' : FrameMode}, VR G w pv X → settle u' = .returning → y.wpS P (fun e a' cs' w' => ∃ u', settle u' = .returning ∧ cs' = { c₀ with mode := u' } :: cs ∧ Post [] nt w G L σ ex σ2 e a' w') (a.put o.dst X) ({ c₀ with mode := u' } :: cs) w := by
              intro X u' hX hset
              obtain ⟨e1, e2⟩ := Act.put_eq a o.dst X
              have h3 := hs.put (d := some d) (.v _ _ hX) (fun t ht => by cases ht; exact Nat.lt_of_lt_of_le hdn hn)
              have hx : Ext w G L σ w G L (σ.put (some d) (.v pv)) := (Ext.refl w G L σ).put _ _
              refine wpS_of_wp (wp_mono (codeN_sound hm hc rest y (w := w) (G := G) (L := L) (σ := σ.put (some d) (.v pv)) (a := a.put o.dst X) hf2 ?_ ?_ ?_ h2) fun e a1 w1 hp => ⟨u', hset, rfl, hp.trans hx⟩)
              · rw [e2, hdst]; exact h3
              · rw [e2, put_size]; exact hn
              · rw [e1]; exact hd
            refine wpS_seq (wpS_region ?_)
            show wpOpsS P #[o] _ [0] a (c₀ :: cs) w
            simp only [wpOpsS, show (#[o] : Array Oper)[0]? = some o from rfl, hw, if_true, hrun]
            rcases hpv with ⟨rfl, rfl⟩ | ⟨X, rfl, hX⟩
            · have : recoverD (c₀ :: cs) = none := by simp [recoverD, hu]
              rw [this]
              have e0 : ({ c₀ with mode := .returning } : Frame) = c₀ := by rw [← hu]
              have := next (u' := .returning) .nili rfl
              rw [e0] at this
              exact this
            · have : recoverD (c₀ :: cs) = some (X, { c₀ with mode := .panicking [{ v := X, recovered := true }] } :: cs) := by simp [recoverD, hu]
              rw [this]
              exact next hX rfl
          · cases hf1
      | _ => cases hf
    | _ => first | (cases hf; done) | (cases x <;> first | (cases hf; done) | (rename_i dr; cases dr <;> cases hf))
  | _ => intro pre σ σ1 a w G L hf; first | (cases hf; done) | (cases pre <;> cases hf)

/-! ### calls -/

structure Env.OK (P : Program) (X : Env) : Prop where
  mixed : P.follows .mixedOrders = true
  fn : ∀ f sf, X.fn f = some sf → ∃ fn, P.funcs[f]? = some fn ∧ fitFn P fn sf = true
  ext : ∀ f e, X.ext f = some e → ∀ vs h r h', e vs h = some (r, h') → ∀ w G xs, WR w G h → VRs G w vs xs →
    ((callFunc f xs.toArray).run P w = .ok (.enter f xs.toArray) w ∧ Calls P f xs.toArray w (CPost w G h r h')) ∨
    (∃ x w', (callFunc f xs.toArray).run P w = .ok (.value x) w' ∧ CPost w G h r h' (.returned x) w')

theorem argsE_ok {G : Gh} {w : World} {L : Lm} : ∀ {vs : List V} {xs : List Value} (i : Nat) (pre : List Value) (n : Nat), VRs G w vs xs → pre.length = i →
    ∀ t, i ≤ t → TR G w L (argsE i vs t) ((pre ++ xs ++ List.replicate n undef).getD t undef)
  | [], _, i, pre, n, h, hp, t, ht => .v _ _ (.undef _)
  | v :: vs, _, i, pre, n, h, hp, t, ht => by
    cases h with
    | cons _ x _ xs h hs =>
      simp only [argsE, upd]
      by_cases e : t = i
      · subst e
        simp only [beq_self_eq_true, cond_true]
        have : (pre ++ x :: xs ++ List.replicate n undef).getD t undef = x := by
          rw [List.getD_eq_getElem?_getD, List.append_assoc, List.getElem?_append_right (by omega)]; simp [hp]
        rw [this]; exact .v _ _ h
      · have e1 : (t == i) = false := by simpa using e
        rw [e1, cond_false]
        have := argsE_ok (L := L) (i + 1) (pre ++ [x]) n hs (by simp [hp]) t (by omega)
        simpa using this

theorem init_ok {w : World} {G : Gh} {h : List HO} {vs : List V} {xs : List Value} (hw : WR w G h) (hv : VRs G w vs xs) (nt : Nat) :
    SR w G L0 (St.init vs h) (xs.toArray ++ Array.replicate (nt - xs.toArray.size) undef) := by
  refine ⟨hw, ⟨fun d g cs h => (by cases h), fun d d' g g' cs cs' B h => (by cases h), fun _ _ _ => rfl⟩, fun t => ?_⟩
  have := argsE_ok (L := L0) 0 [] (nt - xs.toArray.size) hv rfl t (Nat.zero_le _)
  have e : (xs.toArray ++ Array.replicate (nt - xs.toArray.size) undef).getD t undef = ([] ++ xs ++ List.replicate (nt - xs.toArray.size) undef).getD t undef := by
    rw [Array.getD_eq_getD_getElem?, List.getD_eq_getElem?_getD, ← Array.getElem?_toList]
    simp
  rw [e]; exact this

/-- What a call's body did, without its variables. -/
theorem Ext.top {w w' : World} {G G' : Gh} {L' : Lm} {vs : List V} {h : List HO} {σ' : St} (p5 : Ext w G L0 (St.init vs h) w' G' L' σ') : Ext w G L0 (St.init [] h) w' G' L0 (St.init [] σ'.h) :=
  ⟨p5.os, p5.tape, p5.output, p5.sz, p5.fr, p5.st, p5.ob, p5.rw, fun _ _ _ h => h, p5.stn, p5.own, fun d g cs B h => by cases h⟩

theorem closeN_sound {X : Env} (hX : X.OK P) {call : Calls1} (hc : CallOK P call) {n g : Nat} {caps : List V} {xs : List Value} {pv : V} {h h' : List HO} (hcl : closeN X call n g caps pv h = some h') {w : World} {G : Gh} (hw : WR w G h) (hv : VRs G w caps xs)
    {u : FrameMode} (hpv : PvR G w u pv) :
    (callFunc g xs.toArray).run P w = .ok (.enter g xs.toArray) w ∧
    CallsD P g xs.toArray u w fun e u' w' => ∃ v G', e = .returned v ∧ settle u' = .returning ∧ Ext w G L0 (St.init [] h) w' G' L0 (St.init [] h') ∧ WR w' G' h' := by
  unfold closeN at hcl
  simp only [Option.bind_eq_some_iff] at hcl
  obtain ⟨sf, hsf, R, hR, hcl⟩ := hcl
  obtain ⟨fn, hfn, hfit⟩ := hX.fn g sf hsf
  unfold fitFn at hfit
  split at hfit
  · rename_i c hbody
    simp only [Bool.and_eq_true] at hfit
    obtain ⟨⟨hname, hcode⟩, _⟩ := hfit
    have hname' : (fn.name == "runtime.NumGoroutine") = false := by simpa [bne] using hname
    have hn2 : ¬ fn.name = "runtime.NumGoroutine" := by simpa using hname'
    rw [hR] at hcode
    cases hd : sf.dfr with
    | some D => rw [hd] at hcode; cases hcode
    | none =>
      rw [hd] at hcode
      simp only [Bool.and_eq_true] at hcode
      obtain ⟨hcode, hres⟩ := hcode
      have hres' : fn.results = #[] := by simpa using hres
      cases e1 : codeN call n R.pre (St.init caps h) with
      | none => rw [e1] at hcl; cases hcl
      | some q =>
        rw [e1] at hcl
        obtain ⟨ex1, σ1⟩ := q
        cases ex1 <;> first | (cases hcl; done) | skip
        simp only [Option.bind_eq_some_iff] at hcl
        obtain ⟨⟨ex, σ2⟩, e2, hend⟩ := hcl
        split at hend
        · rename_i hisE
          cases hend
          refine ⟨by simp [callFunc, hfn, hn2, hbody], callsD_of_wpS hfn hbody fun c₀ cs hu => ?_⟩
          have hs0 := init_ok hw hv fn.ntmps
          have := fitR_sound hX.mixed hc hu (ex := ex) (σ2 := σ2) (cs := cs) c R.pre (a := { tmps := xs.toArray ++ Array.replicate (fn.ntmps - xs.toArray.size) undef, defers := [] }) hcode hs0 (by simp; omega) rfl hpv e1 e2
          intro b k hb hr
          obtain ⟨e', a', cs', w', ⟨u', q1, q2, q3⟩, r⟩ := this b k hb hr
          refine ⟨e', a', cs', w', ?_, r⟩
          obtain ⟨p1, p2, G', L', p3, p4, p5⟩ := q3
          have fin : ∃ v, (Go.results fn a'.tmps).run P w' = .ok v w' ∧ ∃ v' G'', Ending.returned v = .returned v' ∧ settle u' = .returning ∧ Ext w G L0 (St.init [] h) w' G'' L0 (St.init [] σ2.h) ∧ WR w' G'' σ2.h :=
            ⟨.tuple #[], by simp [Go.results, hres'], _, G', rfl, q1, p5.top, p4.hp⟩
          cases ex with
          | normal => cases e' with
            | normal => exact ⟨p1, u', q2, fin⟩
            | _ => exact p3.elim
          | ret => cases e' with
            | ret => exact ⟨p1, u', q2, fin⟩
            | _ => exact p3.elim
          | exit i => cases hisE
          | pan v => cases hisE
        · cases hend
  · cases hfit

/-- A body that defers. -/
theorem fitD_sound (hm : P.follows .mixedOrders = true) {call : Calls1} (hc : CallOK P call) {nt n : Nat} {t g : Nat} {caps : List V} {rest : SC} {ex : Ex} {σ1 σ2 : St} (ht : σ1.e t = .v (.func g caps)) (h2 : codeN call n rest σ1 = some (ex, σ2)) :
    ∀ (c : Code) (pre : SC) {σ : St} {a : Act} {w : World} {G : Gh} {L : Lm}, fitD P nt c pre t rest = true → SR w G L σ a.tmps → nt ≤ a.tmps.size → a.defers = [] → codeN call n pre σ = some (.normal, σ1) →
      c.wp P (fun e a' w' => ∃ xs : List Value, a'.defers = [{ target := .fn (.func g) xs.toArray, args := #[] }] ∧ nt ≤ a'.tmps.size ∧ ∃ G' L', EX G' w' ex e ∧ SR w' G' L' σ2 a'.tmps ∧ Ext w G L σ w' G' L' σ2 ∧ VRs G' w' caps xs) a w := by
  intro c
  induction c with
  | seq x y ihx ihy =>
    intro pre σ a w G L hf hs hn hd h1
    cases pre with
    | seq a' pre' =>
      simp only [fitD, Bool.and_eq_true] at hf
      obtain ⟨σa, e1, e2⟩ := codeN_seq h1
      refine wp_seq (wp_mono (codeN_sound hm hc a' x hf.1 hs hn hd e1) fun e a1 w1 hp => ?_)
      obtain ⟨p1, p2, G1, L1, p3, p4, p5⟩ := hp
      cases e with
      | normal =>
        refine wp_mono (ihy pre' hf.2 p4 p2 p1 e2) fun e a2 w2 hp => ?_
        obtain ⟨xs, q1, q2, G2, L2, q3, q4, q5, q6⟩ := hp
        exact ⟨xs, q1, q2, G2, L2, q3, q4, p5.trans q5, q6⟩
      | _ => exact p3.elim
    | ops l =>
      cases x with
      | region id ops dr =>
        cases dr with
        | true => cases hf
        | false =>
          simp only [fitD, Bool.and_eq_true] at hf
          obtain ⟨hf1, hf2⟩ := hf
          split at hf1
          · rename_i o1 o2 s1 ho
            have ho' : ops = #[o1, o2] := by apply Array.ext'; simpa using ho
            subst ho'
            simp only [Bool.and_eq_true, beq_iff_eq] at hf1
            obtain ⟨⟨⟨⟨⟨hfo, hs1d⟩, hs1g⟩, hg2⟩, hd2⟩, hop2⟩ := hf1
            have hg2' : o2.guard = none := by simpa using hg2
            have hd2' : o2.dst = none := by simpa using hd2
            simp only [fitOper, Bool.and_eq_true, beq_iff_eq] at hfo
            obtain ⟨⟨⟨hdst, hdn⟩, hg⟩, hop⟩ := hfo
            obtain ⟨sd, sg, so⟩ := s1
            dsimp only at *
            subst hs1d
            have hsg : sg = none := by simpa using hs1g
            subst hsg
            have hog : o1.guard = none := by
              cases h : o1.guard with
              | none => rfl
              | some q => rw [h] at hg; obtain ⟨a, b⟩ := q; cases hg
            simp only [codeN, runOps] at h1
            rw [stepG_none] at h1
            cases hst : stepO call σ (some t) so with
            | none => rw [hst] at h1; cases h1
            | some out =>
              rw [hst] at h1
              cases out with
              | pan v σ' => cases h1
              | ok x σa =>
                simp only [outE, Option.some.injEq, Prod.mk.injEq, true_and] at h1
                subst h1
                have hx : x = .v (.func g caps) := by
                  have : (σa.put (some t) x).e t = x := by show (bif t == t then x else σa.e t) = x; simp
                  rw [← this]; exact ht
                subst hx
                have htn : t < nt := by simpa using hdn
                obtain ⟨tm, ds⟩ := a
                dsimp only at hs hn hd
                subst hd
                refine wp_seq (wp_region ?_)
                show wpOps P #[o1, o2] _ [0, 1] ⟨tm, []⟩ w
                have hw1 : Region.wanted o1 (yielded #[o1, o2] tm) = true := by simp [Region.wanted, hog]
                simp only [wpOps, show (#[o1, o2] : Array Oper)[0]? = some o1 from rfl, show (#[o1, o2] : Array Oper)[1]? = some o2 from rfl]
                rw [if_pos hw1]
                refine .inl ?_
                obtain ⟨dst1, op1, ty1, pos1, af1, gd1⟩ := o1
                dsimp only at *
                subst hdst
                refine stepO_sound (ds := []) hc hop hs rfl hst (fun v w' G' L' x' σ' e hx' k1 k2 => ?_) fun val v w' G' σ' e => by cases e
                cases e
                have k3 := k1.put (d := some t) (x := .v (.func g caps)) hx' (fun t' ht' => by cases ht'; omega)
                have k4 := k2.put (some t) (.v (.func g caps))
                obtain ⟨e1, e2⟩ := Act.put_eq ⟨tm, []⟩ (some t) v
                generalize ha1 : Act.put ⟨tm, []⟩ (some t) v = a1 at e1 e2
                dsimp only at e1 e2
                have hw2 : Region.wanted o2 (yielded #[⟨some t, op1, ty1, pos1, af1, gd1⟩, o2] a1.tmps) = true := by simp [Region.wanted, hg2']
                rw [if_pos hw2]
                refine .inl ?_
                have hfv : ∃ xs, VRs G' w' caps xs ∧ v = .func (.func g) #[] xs.toArray := by
                  cases hx' with
                  | v _ _ h => exact h.inv_func
                obtain ⟨xs, hxs, rfl⟩ := hfv
                have hval : a1.eval (.tmp t) = .func (.func g) #[] xs.toArray := by
                  show a1.tmps.getD t undef = _
                  rw [e2]
                  have : t < tm.size := Nat.lt_of_lt_of_le htn hn
                  simp [putT, Array.getD_eq_getD_getElem?, this]
                have hrun : (execOp a1.eval o2).run P w' = .ok (.defer { target := .fn (.func g) xs.toArray, args := #[] }) w' := by
                  obtain ⟨dst2, op2, ty2, pos2, af2, gd2⟩ := o2
                  dsimp only at hop2 ⊢
                  cases op2 <;> first | (cases hop2; done) | skip
                  rename_i cl
                  obtain ⟨ce, as, ats⟩ := cl
                  cases ce <;> first | (cases hop2; done) | skip
                  rename_i f
                  cases f <;> first | (cases hop2; done) | skip
                  simp only [Bool.and_eq_true, beq_iff_eq] at hop2
                  obtain ⟨rfl, has⟩ := hop2
                  have has' : as = #[] := by simpa using has
                  subst has'
                  simp [execOp, resolve, Deferred.ofValue, hval]
                unfold Oper.wp
                rw [hrun, Oper.upon_defer, hd2']
                simp only [wpOps, Act.put]
                refine wp_mono (codeN_sound (D := [{ target := .fn (.func g) xs.toArray, args := #[] }]) hm hc rest y (w := w') (G := G') (L := L') (σ := σa.put (some t) (.v (.func g caps))) hf2 ?_ ?_ ?_ h2) fun e a2 w2 hp => ?_
                · dsimp only; rw [e2]; exact k3
                · dsimp only; rw [e2, put_size]; exact hn
                · dsimp only; rw [e1]
                · obtain ⟨p1, p2, G2, L2, p3, p4, p5⟩ := hp
                  refine ⟨xs, p1, p2, G2, L2, p3, p4, k4.trans p5, VRs.mono (p5.le k3) hxs⟩
          · cases hf1
      | _ => cases hf
    | _ => first | (cases hf; done) | (cases x <;> first | (cases hf; done) | (rename_i dr; cases dr <;> cases hf))
  | _ => intro pre σ a w G L hf; first | (cases hf; done) | (cases pre <;> cases hf)

end
end Go.Vm
end

section
set_option linter.unusedSimpArgs false
set_option linter.unusedVariables false
namespace Go.Vm
open Go Go.RowKit

section
variable {P : Program}

theorem body_plain {X : Env} (hX : X.OK P) {call : Calls1} (hc : CallOK P call) {n f : Nat} {sf : SF} {fn : Func} {c : Code} (hfn : P.funcs[f]? = some fn) (hbody : fn.body = some c) (hcode : fitCode P fn.ntmps c sf.body = true)
    (hres : fitRes P fn.results.toList sf.res = true) {vs : List V} {xs : List Value} {h h' : List HO} {r : CR} (hcl : endOf sf h (codeN call n sf.body (St.init vs h)) = some (r, h')) {w : World} {G : Gh} (hw : WR w G h) (hv : VRs G w vs xs) :
    Calls P f xs.toArray w (CPost w G h r h') := by
  have hs0 := init_ok hw hv fn.ntmps
  cases hq : codeN call n sf.body (St.init vs h) with
  | none => rw [hq] at hcl; cases hcl
  | some q =>
    rw [hq] at hcl
    obtain ⟨ex, σ'⟩ := q
    refine calls_of_wp hfn hbody (wp_mono (codeN_sound hX.mixed hc sf.body c (nt := fn.ntmps) hcode hs0 (by simp; omega) rfl hq) fun e a' w' hp => ?_)
    obtain ⟨p1, p2, G', L', p3, p4, p5⟩ := hp
    have hext := p5.top
    have ret : ∀ v, results σ' sf.res = some v → (r, h') = finish sf.keep h (.ret v) σ'.h → ∃ x, (Go.results fn a'.tmps).run P w' = .ok x w' ∧ CPost w G h r h' (.returned x) w' := by
      intro v hv hfin
      obtain ⟨x, h1, h2⟩ := results_ok (P := P) p4 hres hv
      refine ⟨x, h1, ?_⟩
      have := finish_ok (keep := sf.keep) (r1 := .ret v) (e := .returned x) hw ⟨G', hext, p4.hp, h2⟩
      rw [← hfin] at this; exact this
    have rr : (∃ v, results σ' sf.res = some v ∧ (r, h') = finish sf.keep h (.ret v) σ'.h) → ∃ x, (Go.results fn a'.tmps).run P w' = .ok x w' ∧ CPost w G h r h' (.returned x) w' := fun ⟨v, h1, h2⟩ => ret v h1 h2
    cases ex with
    | normal =>
      cases e with
      | normal =>
        obtain ⟨v, h1, h2⟩ := Option.map_eq_some_iff.1 hcl
        exact ⟨p1, rr ⟨v, h1, h2.symm⟩⟩
      | _ => exact p3.elim
    | ret =>
      cases e with
      | ret =>
        obtain ⟨v, h1, h2⟩ := Option.map_eq_some_iff.1 hcl
        exact ⟨p1, rr ⟨v, h1, h2.symm⟩⟩
      | _ => exact p3.elim
    | exit i => cases hcl
    | pan v =>
      cases e with
      | panic ch =>
        have hfin : finish sf.keep h (.pan v) σ'.h = (r, h') := Option.some.inj hcl
        have := finish_ok (keep := sf.keep) (r1 := .pan v) (e := .panicked ch) hw ⟨G', hext, p4.hp, p3⟩
        rw [hfin] at this
        exact ⟨p1, this⟩
      | _ => exact p3.elim

theorem body_dfr {X : Env} (hX : X.OK P) {call : Calls1} (hc : CallOK P call) {n f : Nat} {sf : SF} {D : DF} {fn : Func} {c : Code} (hfn : P.funcs[f]? = some fn) (hbody : fn.body = some c) (hcode : fitD P fn.ntmps c D.pre D.t D.rest = true)
    (hres : fitRes P fn.results.toList sf.res = true) {vs : List V} {xs : List Value} {h h' h3 : List HO} {r : CR} {σ1 σ2 : St} {g : Nat} {caps : List V} {ex : Ex} {pv v : V}
    (h1 : codeN call n D.pre (St.init vs h) = some (.normal, σ1)) (ht : σ1.e D.t = .v (.func g caps)) (h2 : codeN call n D.rest σ1 = some (ex, σ2)) (hpv : pvOf ex = some pv) (hcl : closeN X call n g caps pv σ2.h = some h3)
    (hv8 : results { σ2 with h := h3 } sf.res = some v) (hfin : finish sf.keep h (.ret v) h3 = (r, h')) {w : World} {G : Gh} (hw : WR w G h) (hv : VRs G w vs xs) :
    Calls P f xs.toArray w (CPost w G h r h') := by
  have hs0 := init_ok hw hv fn.ntmps
  refine calls_of_wp_defers hfn hbody (wp_mono (fitD_sound hX.mixed hc ht h2 c D.pre (nt := fn.ntmps) hcode hs0 (by simp; omega) rfl h1) fun e a' w' hp => ?_)
  obtain ⟨cs, p1, p2, G', L', p3, p4, p5, p6⟩ := hp
  have main : ∀ {u : FrameMode}, u ≠ .run → PvR G' w' u pv → Leaves P fn a'.tmps (CPost w G h r h') a'.defers u w' := by
    intro u hu hp
    rw [p1]
    obtain ⟨k1, k2⟩ := closeN_sound hX hc hcl p4.hp p6 hp
    refine leaves_cons hu ?_ (CallsD.mono k2 fun e u' w3 hq => ?_)
    · simpa [invoke] using k1
    · obtain ⟨y, G3, rfl, q1, q2, q3⟩ := hq
      dsimp only
      rw [q1]
      obtain ⟨s1, s2⟩ := p4.called q2 q3
      obtain ⟨x, r1, r2⟩ := results_ok (P := P) s1 hres hv8
      refine ⟨x, r1, ?_⟩
      have := finish_ok (keep := sf.keep) (r1 := .ret v) (e := .returned x) hw ⟨G3, (p5.trans s2).top, s1.hp, r2⟩
      rw [hfin] at this; exact this
  cases ex with
  | normal =>
    cases hpv
    cases e with
    | normal => exact main (by simp) (.inl ⟨rfl, rfl⟩)
    | _ => exact p3.elim
  | ret =>
    cases hpv
    cases e with
    | ret => exact main (by simp) (.inl ⟨rfl, rfl⟩)
    | _ => exact p3.elim
  | exit i => cases hpv
  | pan v' =>
    cases hpv
    cases e with
    | panic ch =>
      obtain ⟨x, rfl, hx⟩ := p3
      exact main (by simp) (.inr ⟨x, rfl, hx⟩)
    | _ => exact p3.elim

theorem callN_sound {X : Env} (hX : X.OK P) : ∀ n, CallOK P (callN X n)
  | 0 => fun f vs h r h' hc => by cases hc
  | n + 1 => by
    intro f vs h r h' hcl w G xs hw hv
    unfold callN at hcl
    split at hcl
    · rename_i e he
      exact hX.ext f e he vs h r h' hcl w G xs hw hv
    · split at hcl
      · rename_i sf hsf
        obtain ⟨fn, hfn, hfit⟩ := hX.fn f sf hsf
        unfold fitFn at hfit
        split at hfit
        · rename_i c hbody
          simp only [Bool.and_eq_true] at hfit
          obtain ⟨⟨hname, hcode⟩, hres⟩ := hfit
          have hname' : (fn.name == "runtime.NumGoroutine") = false := by simpa [bne] using hname
          have hn2 : ¬ fn.name = "runtime.NumGoroutine" := by simpa using hname'
          refine .inl ⟨by simp [callFunc, hfn, hn2, hbody], ?_⟩
          unfold bodyN at hcl
          split at hcl
          · rename_i hd hr
            rw [hd, hr] at hcode
            exact body_plain hX (callN_sound hX n) hfn hbody hcode hres hcl hw hv
          · rename_i D hd hr
            rw [hd, hr] at hcode
            cases h1 : codeN (callN X n) n D.pre (St.init vs h) with
            | none => rw [h1] at hcl; cases hcl
            | some q =>
              rw [h1] at hcl
              obtain ⟨ex1, σ1⟩ := q
              cases ex1 <;> first | (cases hcl; done) | skip
              dsimp only at hcl
              split at hcl
              · rename_i g caps ht
                simp only [Option.bind_eq_some_iff, Option.map_eq_some_iff] at hcl
                obtain ⟨⟨ex, σ2⟩, h2, pv, hpv, h3, hclose, v, h8, hfin⟩ := hcl
                exact body_dfr hX (callN_sound hX n) hfn hbody hcode hres h1 ht h2 hpv hclose h8 hfin hw hv
              · cases hcl
          · cases hcl
        · cases hfit
      · cases hcl

/-- The VM is right. -/
theorem VC_sound {X : Env} (hX : X.OK P) : CallOK P (VC X) := by
  intro f vs h r h' hc
  obtain ⟨n, hn⟩ := lim_inv hc
  exact callN_sound hX n f vs h r h' hn

end
end Go.Vm
end

section
set_option linter.unusedSimpArgs false
set_option linter.unusedVariables false
namespace Go.Vm
open Go Go.RowKit

/-- Shapes of data. -/
inductive Sh where
  | bool
  | int (k : IntKind)
  | str
  | struct (l : List Sh)
  | arr (n : Nat) (s : Sh)
  | slice (s : Sh)

mutual
def Sh.size : Sh → Nat
  | .struct l => Sh.sizes l
  | .arr n s => n * s.size
  | _ => 1
def Sh.sizes : List Sh → Nat
  | [] => 0
  | s :: r => s.size + Sh.sizes r
end

def Sh.isAgg : Sh → Bool
  | .struct _ => true
  | .arr _ _ => true
  | _ => false

/-- The value that has such cells. -/
def mkS (s : Sh) (cs : List V) (v : V) : Prop := if s.isAgg then v = .agg cs else cs = [v]

mutual
def HasCs : Sh → List V → Prop
  | .bool, cs => ∃ b, cs = [.bool b]
  | .int k, cs => ∃ n, cs = [.int k n] ∧ k.min ≤ n ∧ n ≤ k.max
  | .str, cs => ∃ s, cs = [.str s] ∧ s.length < 2 ^ 63
  | .struct l, cs => HasL l cs
  | .arr n s, cs => ∃ l : List (List V), l.length = n ∧ cs = l.flatten ∧ ∀ a ∈ l, HasCs s a
  | .slice s, cs => ∃ l : List V, cs = [.snap l] ∧ l.length < 2 ^ 63 ∧ ∀ v ∈ l, ∃ c, mkS s c v ∧ HasCs s c
def HasL : List Sh → List V → Prop
  | [], cs => cs = []
  | s :: r, cs => ∃ a b, cs = a ++ b ∧ HasCs s a ∧ HasL r b
end

def HasV (s : Sh) (v : V) : Prop := ∃ cs, mkS s cs v ∧ HasCs s cs

section
variable (P : Program)
mutual
def fitSh : Sh → TypeId → Bool
  | .bool, t => (match P.underlying t with | some .bool => true | _ => false) && P.cellsOf t == 1
  | .int k, t => (match P.underlying t with | some (.int k') => k' == k | _ => false) && P.cellsOf t == 1
  | .str, t => (match P.underlying t with | some .string => true | _ => false) && P.cellsOf t == 1
  | .struct l, t => (match P.underlying t with | some (.struct fs) => fitShs 0 l (fs.toList.map fun f => (f.offset, f.type)) | _ => false) && P.cellsOf t == Sh.sizes l
  | .arr n s, t => (match P.underlying t with | some (.array m e) => m == n && fitSh s e && 0 < s.size | _ => false) && P.cellsOf t == n * s.size
  | .slice s, t => (match P.underlying t with | some (.slice e) => fitSh s e && 0 < s.size | _ => false) && P.cellsOf t == 1
def fitShs : Nat → List Sh → List (Nat × TypeId) → Bool
  | _, [], [] => true
  | off, s :: r, (o, t) :: q => o == off && fitSh s t && fitShs (off + s.size) r q
  | _, _, _ => false
end
end

theorem fitSh_cells {P : Program} {s : Sh} {t : TypeId} (h : fitSh P s t = true) : P.cellsOf t = s.size := by
  cases s <;> simp only [fitSh, Bool.and_eq_true, beq_iff_eq] at h <;> rw [h.2] <;> simp only [Sh.size]

mutual
theorem HasCs.len : ∀ {s : Sh} {cs : List V}, HasCs s cs → cs.length = s.size
  | .bool, cs, h => by simp only [HasCs] at h; obtain ⟨b, rfl⟩ := h; rfl
  | .int k, cs, h => by simp only [HasCs] at h; obtain ⟨b, rfl, _⟩ := h; rfl
  | .str, cs, h => by simp only [HasCs] at h; obtain ⟨b, rfl, _⟩ := h; rfl
  | .struct l, cs, h => by simp only [HasCs] at h; simp only [Sh.size]; exact HasL.len h
  | .arr n s, cs, h => by
    simp only [HasCs] at h
    obtain ⟨l, rfl, rfl, hl⟩ := h
    simp only [Sh.size]
    have : ∀ l : List (List V), (∀ a ∈ l, HasCs s a) → l.flatten.length = l.length * s.size := by
      intro l
      induction l with
      | nil => intro _; simp
      | cons a l ih =>
        intro h
        rw [List.flatten_cons, List.length_append, HasCs.len (h a (by simp)), ih (fun b hb => h b (by simp [hb])), List.length_cons, Nat.add_mul, Nat.one_mul, Nat.add_comm]
    exact this l hl
  | .slice s, cs, h => by simp only [HasCs] at h; obtain ⟨b, rfl, _⟩ := h; rfl
theorem HasL.len : ∀ {l : List Sh} {cs : List V}, HasL l cs → cs.length = Sh.sizes l
  | [], cs, h => by simp only [HasL] at h; subst h; rfl
  | s :: r, cs, h => by
    simp only [HasL] at h
    obtain ⟨a, b, rfl, h1, h2⟩ := h
    simp only [Sh.sizes, List.length_append, HasCs.len h1, HasL.len h2]
end

theorem mkS_cells {s : Sh} {cs : List V} {v : V} (h : mkS s cs v) (hc : HasCs s cs) : v.cells = cs := by
  unfold mkS at h
  split at h
  · subst h; rfl
  · rename_i hag
    subst h
    cases s <;> simp only [HasCs] at hc <;> first
      | (obtain ⟨_, e, _⟩ := hc; cases e; rfl)
      | (obtain ⟨_, e⟩ := hc; cases e; rfl)
      | exact absurd rfl hag

section
variable {P : Program} {H : Type} {enc : TypeId × Value → H} {w : World} {G : Gh}

theorem CRs.isC {vs : List V} {xs : List Value} (h : CRs G w vs xs) : ∀ v ∈ vs, v.isC := by
  induction vs generalizing xs with
  | nil => intro v hv; cases hv
  | cons a vs ih =>
    cases h with
    | cons _ _ _ _ h1 _ _ hs =>
      intro v hv
      rcases List.mem_cons.1 hv with rfl | hv
      · exact h1
      · exact ih hs v hv

theorem cell_spot {a : Addr} {v : Value} (h : w.cell? a = some v) : a.spot = none ∧ ∃ c el fr, w.heap[a.block]? = some (.cells c el fr) ∧ c[a.off]? = some v := by
  unfold World.cell? at h
  split at h
  · rename_i c el fr hb
    cases hs : a.spot with
    | none => rw [hs] at h; exact ⟨rfl, c, el, fr, hb, by simpa using h⟩
    | some q => rw [hs] at h; simp at h
  · cases h

/-- What reads as data is a value of the VM. -/
theorem trod_has (hG : ∀ B, B < w.heap.size → G.st B) : ∀ (s : Sh) (t : TypeId), fitSh P s t = true → ∀ (fuel : Nat) (cs : List Value) (x : DataW H × List MemPlace),
    DataW.trod enc P w 0 (fun _ => true) true fuel t cs = some x → ∃ vs, CRs G w vs cs ∧ HasCs s vs := by
  intro s
  induction s using Sh.rec (motive_2 := fun l => ∀ (q : List (Nat × TypeId)) (off : Nat), fitShs P off l q = true → ∀ (fuel : Nat) (cs : List Value), cs.length = off + Sh.sizes l →
      (∀ (i : Nat) o t, q[i]? = some (o, t) → ∃ x, DataW.trod enc P w 0 (fun _ => true) true fuel t ((cs.drop o).take (P.cellsOf t)) = some x) → ∃ vs, CRs G w vs (cs.drop off) ∧ HasL l vs) with
  | bool =>
    intro t hf fuel cs x h
    simp only [fitSh, Bool.and_eq_true] at hf
    obtain ⟨hf, _⟩ := hf
    split at hf
    · rename_i hu
      obtain ⟨b, rfl, _⟩ := DataW.trod_bool hu h
      exact ⟨[.bool b], .cons _ _ _ _ trivial trivial (.bool _) .nil, by simp only [HasCs]; exact ⟨b, rfl⟩⟩
    · cases hf
  | int k =>
    intro t hf fuel cs x h
    simp only [fitSh, Bool.and_eq_true] at hf
    obtain ⟨hf, _⟩ := hf
    split at hf
    · rename_i k' hu
      have : k' = k := by simpa using hf
      subst this
      obtain ⟨n, rfl, _, hw⟩ := DataW.trod_int hu h
      simp only [Lit.wf, Bool.and_eq_true, decide_eq_true_eq] at hw
      exact ⟨[.int k' n], .cons _ _ _ _ trivial trivial (.int _ _) .nil, by simp only [HasCs]; exact ⟨n, rfl, hw.1, hw.2⟩⟩
    · cases hf
  | str =>
    intro t hf fuel cs x h
    simp only [fitSh, Bool.and_eq_true] at hf
    obtain ⟨hf, _⟩ := hf
    split at hf
    · rename_i hu
      obtain ⟨b, rfl, _, hl⟩ := DataW.trod_string hu h
      refine ⟨[.str b.data.toList], .cons _ _ _ _ trivial trivial (.str _ b rfl) .nil, ?_⟩
      simp only [HasCs]
      refine ⟨_, rfl, ?_⟩
      have e : b.data.toList.length = b.size := rfl
      have e2 : Go.maxLen = 9223372036854775807 := rfl
      have e3 : (2 : Nat) ^ 63 = 9223372036854775808 := rfl
      omega
    · cases hf
  | struct l ih =>
    intro t hf fuel cs x h
    simp only [fitSh, Bool.and_eq_true, beq_iff_eq] at hf
    obtain ⟨hf, hc⟩ := hf
    split at hf
    · rename_i fs hu
      obtain ⟨xs, n, rfl, _, hl, hn, hel⟩ := DataW.trod_struct hu h
      obtain ⟨vs, h1, h2⟩ := ih _ _ hf n cs (by rw [hl, hc, Nat.zero_add]) (by
        intro i o t' hi
        rw [List.getElem?_map] at hi
        cases hfi : fs.toList[i]? with
        | none => rw [hfi] at hi; cases hi
        | some f =>
          rw [hfi] at hi
          cases hi
          have hi' : fs[i]? = some f := by simpa using hfi
          have hlt : i < xs.length := by
            rw [hn]
            rcases Nat.lt_or_ge i fs.size with h | h
            · exact h
            · rw [Array.getElem?_eq_none h] at hi'; cases hi'
          exact ⟨xs[i], by rw [hel i f hi', List.getElem?_eq_getElem hlt]⟩)
      rw [List.drop_zero] at h1
      exact ⟨vs, h1, by simp only [HasCs]; exact h2⟩
    · cases hf
  | arr n s ih =>
    intro t hf fuel cs x h
    simp only [fitSh, Bool.and_eq_true, beq_iff_eq] at hf
    obtain ⟨hf, hc⟩ := hf
    split at hf
    · rename_i m e hu
      simp only [Bool.and_eq_true, beq_iff_eq, decide_eq_true_eq] at hf
      obtain ⟨⟨rfl, hfe⟩, hpos⟩ := hf
      obtain ⟨xs, k, rfl, _, hl, hn, hel⟩ := DataW.trod_array hu h
      have hce := fitSh_cells hfe
      have key : ∀ j, j ≤ m → ∃ l : List (List V), l.length = j ∧ CRs G w l.flatten (cs.take (j * s.size)) ∧ ∀ a ∈ l, HasCs s a := by
        intro j
        induction j with
        | zero => intro _; exact ⟨[], rfl, by simpa using CRs.nil, fun a h => by cases h⟩
        | succ j ihj =>
          intro hj
          obtain ⟨l, h1, h2, h3⟩ := ihj (by omega)
          have hx := hel j (by omega)
          rw [List.getElem?_eq_getElem (by omega)] at hx
          obtain ⟨vs, h4, h5⟩ := ih e hfe k _ _ hx
          refine ⟨l ++ [vs], by simp [h1], ?_, ?_⟩
          · rw [List.flatten_append, Nat.add_mul, Nat.one_mul, List.take_add]
            rw [hce] at h4
            simpa using h2.append h4
          · intro a ha
            rcases List.mem_append.1 ha with h | h
            · exact h3 a h
            · have := List.mem_singleton.1 h; subst this; exact h5
      obtain ⟨l, h1, h2, h3⟩ := key m (Nat.le_refl _)
      rw [List.take_of_length_le (by rw [hl, hc]; exact Nat.le_refl _)] at h2
      exact ⟨l.flatten, h2, by simp only [HasCs]; exact ⟨l, h1, rfl, h3⟩⟩
    · cases hf
  | slice s ih =>
    intro t hf fuel cs x h
    simp only [fitSh, Bool.and_eq_true, beq_iff_eq] at hf
    obtain ⟨hf, hc⟩ := hf
    split at hf
    · rename_i e hu
      simp only [Bool.and_eq_true, decide_eq_true_eq] at hf
      obtain ⟨hfe, hpos⟩ := hf
      have hce := fitSh_cells hfe
      rcases DataW.trod_slice hu h with ⟨rfl, _⟩ | ⟨a, len, cap, elems, rest, k, rfl, rfl, _, _, hlc, hcm, hel, hat, _⟩
      · exact ⟨[.snap []], .cons _ _ _ _ trivial trivial (.snil _ _) .nil, by simp only [HasCs]; exact ⟨[], rfl, by simp, fun v h => by cases h⟩⟩
      · have e2 : Go.maxLen = 9223372036854775807 := rfl
        have e3 : (2 : Nat) ^ 63 = 9223372036854775808 := rfl
        cases len with
        | zero => exact ⟨[.snap []], .cons _ _ _ _ trivial trivial (.snil _ _) .nil, by simp only [HasCs]; exact ⟨[], rfl, by simp, fun v h => by cases h⟩⟩
        | succ len =>
          -- the cells of an element
          have elemAt : ∀ i, i < len + 1 → ∃ ci y, w.cells? 0 (a.add (i * s.size)) s.size = some ci ∧ DataW.trod enc P w 0 (fun _ => true) true k e ci = some y := by
            intro i hi
            have := hat i hi
            rw [List.getElem?_eq_getElem (by omega), hce] at this
            obtain ⟨ci, h1, h2⟩ := Option.bind_eq_some_iff.1 this
            exact ⟨ci, _, h1, h2⟩
          have cells : ∀ {b : Addr} {n : Nat} {ci : List Value}, w.cells? 0 b n = some ci → ci.length = n ∧ ∀ j, j < n → w.cell? (b.add j) = ci[j]? := by
            intro b n ci h
            unfold World.cells? at h
            rw [if_pos (Nat.zero_le _)] at h
            have hl := mapM_some_length h
            exact ⟨by simpa using hl, fun j hj => mapM_some_get h j j (by simp [hj])⟩
          obtain ⟨c0, y0, h00, _⟩ := elemAt 0 (by omega)
          obtain ⟨hl0, hc0⟩ := cells h00
          have hfirst := hc0 0 hpos
          rw [List.getElem?_eq_getElem (by omega)] at hfirst
          have hadd0 : (a.add (0 * s.size)).add 0 = a := by simp [Addr.add]
          rw [hadd0] at hfirst
          obtain ⟨hspot, C, el, fr, hblock, _⟩ := cell_spot hfirst
          obtain ⟨B, off, sp⟩ := a
          dsimp only at hspot hblock
          subst hspot
          have hst := hG B (lt_of_block hblock)
          have key : ∀ j, j ≤ len + 1 → ∃ (l : List V) (xs : List Value), l.length = j ∧ xs.length = j * s.size ∧ (∀ i, i < xs.length → C[off + i]? = xs[i]?) ∧ CRs G w (l.flatMap V.cells) xs ∧ ∀ v ∈ l, ∃ c, mkS s c v ∧ HasCs s c ∧ v.cells.length = s.size := by
            intro j
            induction j with
            | zero => intro _; exact ⟨[], [], rfl, by simp, fun i h => absurd h (Nat.not_lt_zero _), CRs.nil, fun v h => absurd h (List.not_mem_nil)⟩
            | succ j ihj =>
              intro hj
              obtain ⟨l, xs, g1, g2, g3, g4, g5⟩ := ihj (by omega)
              obtain ⟨ci, y, q1, q2⟩ := elemAt j (by omega)
              obtain ⟨q3, q4⟩ := cells q1
              obtain ⟨vs, q5, q6⟩ := ih e hfe k ci y q2
              have hvl := q6.len
              obtain ⟨v, hv⟩ : ∃ v, mkS s vs v := by
                unfold mkS
                cases hag : s.isAgg with
                | true => exact ⟨.agg vs, by simp⟩
                | false =>
                  have : s.size = 1 := by cases s <;> first | rfl | cases hag
                  match vs, hvl.trans this with
                  | [v], _ => exact ⟨v, by simp⟩
              have hvc := mkS_cells hv q6
              refine ⟨l ++ [v], xs ++ ci, by simp [g1], by rw [List.length_append, g2, q3, Nat.add_mul, Nat.one_mul], ?_, ?_, ?_⟩
              · intro i hi
                by_cases hlt : i < xs.length
                · rw [List.getElem?_append_left hlt]; exact g3 i hlt
                · rw [List.getElem?_append_right (by omega)]
                  have hi' : i - xs.length < s.size := by rw [List.length_append, q3] at hi; omega
                  rw [← q4 _ hi', add_none, add_none]
                  simp only [World.cell?, hblock]
                  rw [show off + j * s.size + (i - xs.length) = off + i by omega]
                  simp
              · rw [List.flatMap_append]
                refine g4.append ?_
                simpa [hvc] using q5
              · intro u hu
                rcases List.mem_append.1 hu with h | h
                · exact g5 u h
                · have := List.mem_singleton.1 h
                  subst this
                  exact ⟨vs, hv, q6, by rw [hvc]; exact hvl⟩
          obtain ⟨l, xs, g1, g2, g3, g4, g5⟩ := key (len + 1) (Nat.le_refl _)
          refine ⟨[.snap l], .cons _ _ _ _ trivial trivial ?_ .nil, ?_⟩
          · have := VR.snap (G := G) (w := w) l B off s.size cap xs hst ⟨C, el, fr, hblock, g3⟩ (fun v hv => by obtain ⟨c, _, _, h⟩ := g5 v hv; exact h) (by omega) g4
            rw [g1] at this
            exact this
          · simp only [HasCs]
            refine ⟨l, rfl, by omega, fun v hv => ?_⟩
            obtain ⟨c, h1, h2, _⟩ := g5 v hv
            exact ⟨c, h1, h2⟩
    · cases hf
  | nil =>
    rename_i q off hf fuel cs hl hq
    refine ⟨[], ?_, by simp only [HasL]⟩
    rw [List.drop_of_length_le (by rw [hl]; simp [Sh.sizes])]
    exact .nil
  | cons s r ihs ihr =>
    rename_i q off hf fuel cs hl hq
    cases q with
    | nil => simp [fitShs] at hf
    | cons p q =>
      obtain ⟨o, t⟩ := p
      simp only [fitShs, Bool.and_eq_true, beq_iff_eq] at hf
      obtain ⟨⟨rfl, hft⟩, hfr⟩ := hf
      obtain ⟨x, hx⟩ := hq 0 o t rfl
      obtain ⟨vs, h1, h2⟩ := ihs t hft fuel _ x hx
      obtain ⟨us, h3, h4⟩ := ihr q (o + s.size) hfr fuel cs (by rw [hl]; simp only [Sh.sizes]; omega) (fun i o' t' hi => hq (i + 1) o' t' (by simpa using hi))
      refine ⟨vs ++ us, ?_, by simp only [HasL]; exact ⟨vs, us, rfl, h2, h4⟩⟩
      rw [fitSh_cells hft] at h1
      have := h1.append h3
      rw [← List.drop_drop, List.take_append_drop] at this
      exact this

end
end Go.Vm
end

section
set_option linter.unusedSimpArgs false
set_option linter.unusedVariables false
namespace Go.Vm
open Go Go.RowKit Go.ChangeShapes

/-- The ghost of an entry: all that was there is only read. -/
def G0 (w : World) : Gh := { st := fun B => B < w.heap.size, ob := fun _ => none, rw := fun _ _ => none }

theorem WR0 (w : World) : WR w (G0 w) [] :=
  ⟨fun id o h => by simp at h, fun id _ => ⟨rfl, fun _ => rfl⟩, fun i j B h => by simp [ownB] at h, fun i B h => by simp [ownB] at h, fun B h => h⟩

section
variable {P : Program} {H : Type} {enc : TypeId × Value → H} {w w' : World}

inductive FitAll (P : Program) : List Sh → List TypeId → Prop
  | nil : FitAll P [] []
  | cons (s : Sh) (t : TypeId) (ss : List Sh) (ts : List TypeId) (h : fitSh P s t = true) (hr : P.readableRec t = true) (hs : t < P.types.size) (hh : FitAll P ss ts) : FitAll P (s :: ss) (t :: ts)

inductive HasAll : List Sh → List V → Prop
  | nil : HasAll [] []
  | cons (s : Sh) (v : V) (ss : List Sh) (vs : List V) (h : HasV s v) (hh : HasAll ss vs) : HasAll (s :: ss) (v :: vs)

theorem okWide_cells {s : Sh} {t : TypeId} (hf : fitSh P s t = true) {base : Nat} {v : Value} (h : Value.okWide P w .any base t v) : if s.isAgg then ∃ cs, v = .agg cs else v.cells = #[v] := by
  cases s <;> simp only [fitSh, Bool.and_eq_true] at hf <;> obtain ⟨hf, _⟩ := hf <;> split at hf <;> first
    | (cases hf; done)
    | (rename_i hu
       simp only [Value.okWide, hu] at h
       first
         | (obtain ⟨cs, rfl, _⟩ := h; exact ⟨cs, rfl⟩)
         | (simp only [Cell.okWide, hu, Cell.ok] at h
            split at h <;> first | rfl | (cases h; done) | simp_all)
         | (simp only [Cell.okWide, hu, Cell.ok] at h
            cases v <;> first | rfl | (cases h; done) | simp_all))

theorem trod_V {G : Gh} (hG : ∀ B, B < w.heap.size → G.st B) {s : Sh} {t : TypeId} (hf : fitSh P s t = true) {base : Nat} {v : Value} (hv : Value.okWide P w .any base t v) {d : DataW H} {ps : List MemPlace}
    (h : DataW.Trod enc P w 0 (fun _ => true) true t v d ps) : ∃ u, VR G w u v ∧ HasV s u := by
  obtain ⟨fuel, h⟩ := h
  obtain ⟨us, h1, h2⟩ := trod_has hG s t hf fuel _ _ h
  have hc := okWide_cells hf hv
  split at hc
  · rename_i hag
    obtain ⟨cs, rfl⟩ := hc
    refine ⟨.agg us, ?_, us, by simp [mkS, hag], h2⟩
    have := VR.agg us _ h1
    simpa [Value.cells] using this
  · rename_i hag
    rw [hc] at h1
    have hl := h2.len
    cases h1 with
    | cons u x us xs hu hx h hs =>
      cases hs
      exact ⟨u, h, [u], by simp [mkS, hag], h2⟩

theorem trodAll_V {G : Gh} (hG : ∀ B, B < w.heap.size → G.st B) {base : Nat} : ∀ {ss : List Sh} {ts : List TypeId}, FitAll P ss ts → ∀ {vs : List Value} {ds : List (DataW H)} {ps : List MemPlace},
    (∀ (j : Nat) t v, ts[j]? = some t → vs[j]? = some v → Value.okWide P w .any base t v) → DataW.TrodAll enc P w 0 (fun _ => true) true ts vs ds ps → ∃ us, VRs G w us vs ∧ HasAll ss us
  | _, _, .nil, vs, ds, ps, hv, h => by
    cases vs with
    | nil => exact ⟨[], .nil, .nil⟩
    | cons v vs => cases ds <;> exact h.elim
  | _, _, .cons s t ss ts hf _ _ hh, vs, ds, ps, hv, h => by
    obtain ⟨v, vs', d, ds', p, q, rfl, rfl, rfl, h1, h2⟩ := trodAll_cons h
    obtain ⟨u, h3, h4⟩ := trod_V hG hf (hv 0 t v rfl rfl) h1
    obtain ⟨us, h5, h6⟩ := trodAll_V hG hh (fun j t' v' e1 e2 => hv (j + 1) t' v' (by simpa using e1) (by simpa using e2)) h2
    exact ⟨u :: us, .cons _ _ _ _ h3 h5, .cons _ _ _ _ h4 h6⟩

theorem trodAll_stays (hl : laidOutB P = true) {W W' : World} (hb : Below W.heap.size W W') : ∀ {ss : List Sh} {ts : List TypeId}, FitAll P ss ts → ∀ {vs : List Value} {ds : List (DataW H)} {ps : List MemPlace},
    DataW.TrodAll enc P W 0 (fun _ => true) true ts vs ds ps → (∀ x ∈ ps, x.block < W.heap.size) → DataW.TrodAll enc P W' 0 (fun b => decide (b < W.heap.size)) true ts vs ds ps
  | _, _, .nil, vs, ds, ps, h, _ => by cases vs <;> cases ds <;> exact h
  | _, _, .cons s t ss ts hf hr hs hh, vs, ds, ps, h, hlt => by
    obtain ⟨v, vs', d, ds', p, q, rfl, rfl, rfl, h1, h2⟩ := trodAll_cons h
    exact ⟨p, q, Below.trod hl hr hs h1 hb (fun x hx => hlt x (List.mem_append.2 (.inl hx))), trodAll_stays hl hb hh h2 (fun x hx => hlt x (List.mem_append.2 (.inr hx))), rfl⟩

/-- A law that answers true, by the VM: a row's end. -/
theorem law_end {X : Env} (hX : X.OK P) (hl : laidOutB P = true) {f : FuncId} {fn : Func} {tb : TypeId} (hres : fn.resultTypes = #[tb]) (htb : P.underlying tb = some .bool) {s : ChangeSpec} (hvars : s.vars = [])
    {ss : List Sh} (hfit : FitAll P ss fn.params.toList) (hbody : ∃ c, fn.body = some c) (hfn : P.funcs[f]? = some fn) (hext : X.ext f = none)
    (spec : ∀ us, HasAll ss us → VC X f us [] = some (.ret (.bool true), []))
    {W : World} {base : Nat} {args : Array Value} {ds gs : List (DataW H)} {before : List MemPlace} (hval : ∀ (j : Nat) t v, fn.params[j]? = some t → args[j]? = some v → Value.okWide P W .any base t v)
    (hW : DataW.Whole enc P fn.params.toList s.vars false W args.toList ds gs before) (hs : s.fn H (ds ++ []) = { results := [.lit (.bool true)], args := ds }) :
    Calls P f args W fun e W' => ∃ v, e = .returned v ∧ s.post enc P fn false true false false W args v W' := by
  have hW0 := hW
  obtain ⟨p, q, hA, hV, rfl, hfz, hnd⟩ := hW
  rw [hvars] at hV
  obtain ⟨rfl, rfl⟩ := trodVars_none hV
  obtain ⟨us, h1, h2⟩ := trodAll_V (G := G0 W) (fun B h => h) hfit (fun j t v e1 e2 => hval j t v (by simpa using e1) (by simpa using e2)) hA
  have hc := VC_sound hX f us [] _ _ (spec us h2) W (G0 W) args.toList (WR0 W) h1
  have hcalls : Calls P f args W (CPost W (G0 W) [] (.ret (.bool true)) []) := by
    rcases hc with ⟨_, h⟩ | ⟨x, w', h, _⟩
    · simpa using h
    · exfalso
      obtain ⟨c, hb⟩ := hbody
      simp only [callFunc, Sem.run_bind, run_program, Result.andThen_ok, hfn] at h
      split at h
      · cases h
      · split at h
        · rename_i hn; rw [hb] at hn; cases hn
        · cases h
  refine hcalls.mono fun e W' hp => ?_
  obtain ⟨G', hx, hw, hr⟩ := hp
  cases e with
  | returned v =>
    have hv : VR G' W' (.bool true) v := hr
    have hvb := hv.inv_bool
    subst hvb
    have hsame : ∀ i, i < W.heap.size → W'.heap[i]? = W.heap[i]? := fun i hi => hx.fr i hi (fun id h => by simp [ownB, St.init] at h) (fun d g cs h => by cases h)
    have hbelow : Below W.heap.size W W' := ⟨hx.os, hx.tape, hx.output, hx.sz, hsame⟩
    refine ⟨_, rfl, ds, [], p ++ [], [], p, [], hW0, ?_, ?_, ?_, ?_, fun h => by cases h⟩
    · rw [hs, hres]
      exact trodAll_mk1 (shut_bool htb true)
    · rw [hs]
      exact trodAll_stays hl hbelow hfit hA (fun x hx => hW0.lt x (by simp [hx]))
    · rw [hs, hvars]; exact rfl
    · refine ⟨hx.os, hx.output, fun i hi => ?_⟩
      rw [hsame i hi]
      have : W.heap[i]? = some W.heap[i] := Array.getElem?_eq_getElem hi
      rw [this]
      cases W.heap[i] with
      | cells c t fr => exact ⟨rfl, rfl, rfl, fun _ _ => rfl⟩
      | map es k => exact .inr ⟨rfl, rfl⟩
      | _ => rfl
  | panicked c => exact hr.elim
  | outgrown => exact hr.elim

end
end Go.Vm
end
