/- The operations that make memory. -/
import Derived.Test.YthbfflleggnoaaaGreatDoorVmEff
set_option linter.unusedSimpArgs false
set_option linter.unusedVariables false
namespace Go.Vm
open Go Go.RowKit

section
variable {P : Program} {G : Gh} {w : World} {L : Lm} {σ : St} {tm : Array Value} {ds : List Deferred}
variable {dst : Option Tmp} {ty : TypeId} {pos : String} {af : Array Edge} {gd : Option (Nat × Bool)}

theorem Good.step {r : Result Next} {x : T} {v : Value} {w' : World} {G' : Gh} {L' : Lm} {σ' : St} (hr : r = .ok (.value v) w') (hx : TR G' w' L' x v) (h1 : SR w' G' L' σ' tm) (h2 : Ext w G L σ w' G' L' σ') : Good P r w G L σ tm x σ' :=
  ⟨_, v, w', G', L', hr, .inl rfl, hx, h1, h2⟩
theorem Good.skip {r : Result Next} {w' : World} {G' : Gh} {L' : Lm} {σ' : St} (hr : r = .ok .skip w') (h1 : SR w' G' L' σ' tm) (h2 : Ext w G L σ w' G' L' σ') : Good P r w G L σ tm (.v .undef) σ' :=
  ⟨_, undef, w', G', L', hr, .inr ⟨rfl, rfl⟩, .v _ _ (.undef _), h1, h2⟩

theorem newH_spec (hs : SR w G L σ tm) {slot : Option Nat} {o : HO} {id : Nat} {σ' : St} (h : σ.newH slot o = some (id, σ')) :
    G.ob id = none ∧ (∀ v, G.rw id v = none) ∧ ownB G σ.h id = none ∧ σ'.h[id]? = some o ∧ (∀ j, j ≠ id → σ'.h[j]? = σ.h[j]?) ∧ σ' = { σ with h := σ'.h, rb := σ.rb } := by
  unfold St.newH at h
  split at h
  · cases h
    have hd := hs.hp.dom σ.h.length (Nat.le_refl _)
    refine ⟨hd.1, hd.2, ?_, by simp, fun j hj => ?_, rfl⟩
    · unfold ownB; rw [List.getElem?_eq_none (Nat.le_refl _)]
    · rcases Nat.lt_or_ge j σ.h.length with hl | hl
      · rw [List.getElem?_append_left hl]
      · rw [List.getElem?_eq_none hl, List.getElem?_eq_none (by simp; omega)]
  · split at h
    · rename_i hh
      cases h
      have hd := hs.hp.obj _ _ hh
      rename_i j _
      have hlt : σ.rb + j < σ.h.length := by
        rcases Nat.lt_or_ge (σ.rb + j) σ.h.length with hl | hl
        · exact hl
        · rw [List.getElem?_eq_none hl] at hh; cases hh
      refine ⟨hd.1, hd.2, by unfold ownB; rw [hh], by simp [List.getElem?_set, hlt], fun j hj => by simp [List.getElem?_set, Ne.symm hj], rfl⟩
    · cases h

theorem newH_cells (hs : SR w G L σ tm) {slot : Option Nat} {cs : List V} {id : Nat} {σ' : St} (h : σ.newH slot (.cells cs) = some (id, σ')) {c : Array Value} {el : TypeId} (hc : CRs G w cs c.toList) :
    SR (pushB w (.cells c el)) (G.setOb id w.heap.size) L σ' tm ∧ Ext w G L σ (pushB w (.cells c el)) (G.setOb id w.heap.size) L σ' := by
  obtain ⟨h1, h2, h3, h4, h5, h6⟩ := newH_spec hs h
  have hle : Le G w (G.setOb id w.heap.size) (pushB w (.cells c el)) := hs.le_push _ (fun _ h => h) (fun j B hj => by
    show (if j = id then _ else _) = _
    rw [if_neg (by rintro rfl; rw [h1] at hj; cases hj)]; exact hj) (fun _ _ _ h => h)
  rw [h6]
  refine hs.pushHeap (id := id) hle (fun _ h => h) (fun j hj => ⟨by show (if j = id then _ else _) = _; rw [if_neg hj], fun _ => rfl⟩) h4 h5 ?_ ?_
  · exact ⟨w.heap.size, by show (if id = id then _ else _) = _; rw [if_pos rfl], c, el, (0, 0), push_new _, CRs.mono hle hc, fun o _ hh => by omega⟩
  · intro B hB
    unfold ownB at hB
    rw [h4] at hB
    have : (if id = id then some w.heap.size else G.ob id) = some B := hB
    rw [if_pos rfl] at this; cases this; exact Nat.le_refl _

theorem newH_map (hs : SR w G L σ tm) {slot : Option Nat} {id : Nat} {σ' : St} (h : σ.newH slot (.map [] 0) = some (id, σ')) :
    SR (pushB w (.map #[] 0)) (G.setOb id w.heap.size) L σ' tm ∧ Ext w G L σ (pushB w (.map #[] 0)) (G.setOb id w.heap.size) L σ' := by
  obtain ⟨h1, h2, h3, h4, h5, h6⟩ := newH_spec hs h
  have hle : Le G w (G.setOb id w.heap.size) (pushB w (.map #[] 0)) := hs.le_push _ (fun _ h => h) (fun j B hj => by
    show (if j = id then _ else _) = _
    rw [if_neg (by rintro rfl; rw [h1] at hj; cases hj)]; exact hj) (fun _ _ _ h => h)
  rw [h6]
  refine hs.pushHeap (id := id) hle (fun _ h => h) (fun j hj => ⟨by show (if j = id then _ else _) = _; rw [if_neg hj], fun _ => rfl⟩) h4 h5 ?_ ?_
  · exact ⟨w.heap.size, #[], by show (if id = id then _ else _) = _; rw [if_pos rfl], push_new _, .nil⟩
  · intro B hB
    unfold ownB at hB
    rw [h4] at hB
    have : (if id = id then some w.heap.size else G.ob id) = some B := hB
    rw [if_pos rfl] at this; cases this; exact Nat.le_refl _

theorem newH_row (hs : SR w G L σ tm) {slot : Option Nat} {l : List V} {id : Nat} {σ' : St} (h : σ.newH slot (.row 0 l) = some (id, σ')) {c : Array Value} {el : TypeId} {fr : Nat × Nat} {s cap : Nat}
    (h1' : cap * s ≤ c.size) (h2' : l.length ≤ cap) (h3' : ∀ v ∈ l, v.cells.length = s) (h4' : 0 < s) (hc : CRs G w (l.flatMap V.cells) (c.toList.take (l.length * s))) (hfr : NoFr fr c.size) :
    SR (pushB w (.cells c el fr)) (G.setRw id 0 ⟨w.heap.size, 0, s, cap⟩) L σ' tm ∧ Ext w G L σ (pushB w (.cells c el fr)) (G.setRw id 0 ⟨w.heap.size, 0, s, cap⟩) L σ' := by
  obtain ⟨h1, h2, h3, h4, h5, h6⟩ := newH_spec hs h
  have hget : (G.setRw id 0 ⟨w.heap.size, 0, s, cap⟩).rw id 0 = some ⟨w.heap.size, 0, s, cap⟩ := by
    show (if id = id ∧ 0 = 0 then _ else _) = _; rw [if_pos ⟨rfl, rfl⟩]
  have hle : Le G w (G.setRw id 0 ⟨w.heap.size, 0, s, cap⟩) (pushB w (.cells c el fr)) := hs.le_push _ (fun _ h => h) (fun _ _ h => h) (fun j v r hj => by
    show (if j = id ∧ v = 0 then _ else _) = _
    rw [if_neg (by rintro ⟨rfl, _⟩; rw [h2] at hj; cases hj)]; exact hj)
  rw [h6]
  refine hs.pushHeap (id := id) hle (fun _ h => h) (fun j hj => ⟨rfl, fun v => by show (if j = id ∧ v = 0 then _ else _) = _; rw [if_neg (fun e => hj e.1)]⟩) h4 h5 ?_ ?_
  · refine ⟨_, hget, fun v hv => ?_, c, el, fr, push_new _, by simpa using h1', h2', h3', h4', by simpa using CRs.mono hle hc, hfr⟩
    show (if id = id ∧ v = 0 then _ else _) = _
    rw [if_neg (by rintro ⟨_, rfl⟩; omega)]; exact h2 v
  · intro B hB
    unfold ownB at hB
    rw [h4] at hB
    have : ((G.setRw id 0 ⟨w.heap.size, 0, s, cap⟩).rw id 0).map (·.B) = some B := hB
    rw [hget] at this; cases this; exact Nat.le_refl _

theorem run_newRow (el : TypeId) (c : Array Value) : (newRow el c).run P w = .ok ⟨w.heap.size, 0, none⟩ (pushB w (.cells c el)) := by
  simp only [newRow, Sem.run_bind, run_newObj, Result.andThen_ok, Sem.run_pure]; rfl

theorem allocL_ok (hs : SR w G L σ tm) {t : TypeId} {z : List V} (hf : fitO P (.alloc t) (.allocL z) = true) {d : Option Nat} {x : T} {σ' : St} (hx : effO σ d (.allocL z) = some (.ok x σ')) :
    Good P ((execOp (Act.eval ⟨tm, ds⟩) ⟨dst, .alloc t, ty, pos, af, gd⟩).run P w) w G L σ tm x σ' := by
  obtain ⟨zv, hz, hc⟩ := zeroFit_ok (G := G) (w := w) hf
  simp only [effO] at hx
  split at hx
  · cases hx
    obtain ⟨h1, h2⟩ := hs.pushLocal (d := _) (el := t) hc
    refine Good.step (v := .pointer (some ⟨w.heap.size, 0, none⟩)) (exec_v rfl ?_) ?_ h1 h2
    · simp [Instr.alloc, run_zeroT hz, newVar, run_newRow]
    · exact .loc _ _ _ _ (by simp [Lm.set])
  · cases hx

theorem boxL_ok (hs : SR w G L σ tm) {t : TypeId} {x : Operand} {y : Opd} (hf : fitO P (.box t x) (.boxL y) = true) {d : Option Nat} {r : T} {σ' : St} (hx : effO σ d (.boxL y) = some (.ok r σ')) :
    Good P ((execOp (Act.eval ⟨tm, ds⟩) ⟨dst, .box t x, ty, pos, af, gd⟩).run P w) w G L σ tm r σ' := by
  simp only [fitO] at hf
  simp only [effO] at hx
  split at hx
  · rename_i d v hv
    split at hx
    · cases hx
    · rename_i hne
      cases hx
      have hc := (val_ok (ds := ds) hs.ev hf hv).cells (by intro e; rw [e] at hne; simp at hne)
      obtain ⟨h1, h2⟩ := hs.pushLocal (d := d) (el := t) hc
      refine Good.step (v := .pointer (some ⟨w.heap.size, 0, none⟩)) (exec_v rfl ?_) ?_ h1 h2
      · simp [Instr.box, newVar, run_newRow]
      · exact .loc _ _ _ _ (by simp [Lm.set])
  · cases hx

theorem allocH_ok (hs : SR w G L σ tm) {t : TypeId} {slot : Option Nat} {z : List V} (hf : fitO P (.alloc t) (.allocH slot z) = true) {d : Option Nat} {x : T} {σ' : St} (hx : effO σ d (.allocH slot z) = some (.ok x σ')) :
    Good P ((execOp (Act.eval ⟨tm, ds⟩) ⟨dst, .alloc t, ty, pos, af, gd⟩).run P w) w G L σ tm x σ' := by
  obtain ⟨zv, hz, hc⟩ := zeroFit_ok (G := G) (w := w) hf
  simp only [effO, Option.map_eq_some_iff] at hx
  obtain ⟨⟨id, σ1⟩, hn, e⟩ := hx
  cases e
  obtain ⟨h1, h2⟩ := newH_cells hs hn (el := t) hc
  refine Good.step (v := .pointer (some ⟨w.heap.size, 0, none⟩)) (exec_v rfl ?_) ?_ h1 h2
  · simp [Instr.alloc, run_zeroT hz, newVar, run_newRow]
  · exact .v _ _ (.ptr _ _ _ (by show (if id = id then _ else _) = _; rw [if_pos rfl]))

theorem boxH_ok (hs : SR w G L σ tm) {t : TypeId} {x : Operand} {slot : Option Nat} {y : Opd} (hf : fitO P (.box t x) (.boxH slot y) = true) {d : Option Nat} {r : T} {σ' : St} (hx : effO σ d (.boxH slot y) = some (.ok r σ')) :
    Good P ((execOp (Act.eval ⟨tm, ds⟩) ⟨dst, .box t x, ty, pos, af, gd⟩).run P w) w G L σ tm r σ' := by
  simp only [fitO] at hf
  simp only [effO, Option.bind_eq_some_iff] at hx
  obtain ⟨v, hv, hx⟩ := hx
  split at hx
  · cases hx
  · rename_i hne
    simp only [Option.map_eq_some_iff] at hx
    obtain ⟨⟨id, σ1⟩, hn, e⟩ := hx
    cases e
    have hc := (val_ok (ds := ds) hs.ev hf hv).cells (by intro e; rw [e] at hne; simp at hne)
    obtain ⟨h1, h2⟩ := newH_cells hs hn (el := t) hc
    refine Good.step (v := .pointer (some ⟨w.heap.size, 0, none⟩)) (exec_v rfl ?_) ?_ h1 h2
    · simp [Instr.box, newVar, run_newRow]
    · exact .v _ _ (.ptr _ _ _ (by show (if id = id then _ else _) = _; rw [if_pos rfl]))

theorem mkmap_ok (hs : SR w G L σ tm) {t : TypeId} {rs : Option Operand} {slot : Option Nat} (hf : fitO P (.makeMap t rs) (.mkmap slot) = true) {d : Option Nat} {r : T} {σ' : St} (hx : effO σ d (.mkmap slot) = some (.ok r σ')) :
    Good P ((execOp (Act.eval ⟨tm, ds⟩) ⟨dst, .makeMap t rs, ty, pos, af, gd⟩).run P w) w G L σ tm r σ' := by
  cases rs with
  | some _ => simp [fitO] at hf
  | none =>
    simp only [effO, Option.map_eq_some_iff] at hx
    obtain ⟨⟨id, σ1⟩, hn, e⟩ := hx
    cases e
    obtain ⟨h1, h2⟩ := newH_map hs hn
    refine Good.step (v := .map (some w.heap.size)) (exec_v rfl ?_) ?_ h1 h2
    · simp [Instr.makeMap]; rfl
    · exact .v _ _ (.map _ _ (by show (if id = id then _ else _) = _; rw [if_pos rfl]))

end
end Go.Vm
