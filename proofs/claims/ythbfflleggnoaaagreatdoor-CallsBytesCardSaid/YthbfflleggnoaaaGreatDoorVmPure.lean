/- The operations that look at temporaries alone: the model answers as the VM does. -/
import Derived.Test.YthbfflleggnoaaaGreatDoorVmWorld
import Derived.Test.YthbfflleggnoaaaGreatDoorVmKey
set_option linter.unusedSimpArgs false
set_option linter.unusedVariables false
namespace Go.Vm
open Go Go.RowKit

section
variable {P : Program} {G : Gh} {w : World} {L : Lm} {σ : St} {tm : Array Value} {ds : List Deferred}

theorem fitC_VR {x : Value} {v : V} (h : fitC x v = true) : VR G w v x ∧ v.isC ∧ isCell x := by
  unfold fitC at h
  split at h <;> first
    | (cases h; done)
    | (simp only [beq_iff_eq] at h; subst h; exact ⟨.bool _, trivial, trivial⟩)
    | (simp only [Bool.and_eq_true, beq_iff_eq] at h; obtain ⟨rfl, rfl⟩ := h; first | exact ⟨.int _ _, trivial, trivial⟩ | exact ⟨.float _ _, trivial, trivial⟩)
    | (simp only [beq_iff_eq] at h; exact ⟨.str _ _ h, trivial, trivial⟩)
    | exact ⟨.nilp, trivial, trivial⟩
    | exact ⟨.nils, trivial, trivial⟩
    | exact ⟨.nilm, trivial, trivial⟩
    | exact ⟨.nilf, trivial, trivial⟩
    | exact ⟨.nili, trivial, trivial⟩

theorem fitCs_CRs : ∀ {xs : List Value} {vs : List V}, fitCs xs vs = true → CRs G w vs xs
  | [], [], _ => .nil
  | x :: xs, v :: vs, h => by
    simp only [fitCs, Bool.and_eq_true] at h
    obtain ⟨h1, h2, h3⟩ := fitC_VR (G := G) (w := w) h.1
    exact .cons _ _ _ _ h2 h3 h1 (fitCs_CRs h.2)
  | [], _ :: _, h => by simp [fitCs] at h
  | _ :: _, [], h => by simp [fitCs] at h

theorem fitV_VR {x : Value} {v : V} (h : fitV x v = true) : VR G w v x := by
  unfold fitV at h
  split at h
  · rename_i xs vs
    have := VR.agg (G := G) (w := w) vs xs.toList (fitCs_CRs h)
    simpa using this
  · exact (fitC_VR h).1

theorem ev_ok (hs : ERel G w L σ.e tm) {x : Operand} {y : Opd} (hf : fitX x y = true) : TR G w L (σ.ev y) (Act.eval ⟨tm, ds⟩ x) := by
  unfold fitX at hf
  split at hf
  · simp only [beq_iff_eq] at hf; subst hf; exact hs _
  · exact .v _ _ (fitV_VR hf)
  · simp only [beq_iff_eq] at hf; subst hf
    rename_i f; exact .v _ _ (by have := VR.func (G := G) (w := w) f [] [] .nil; simpa [Act.eval] using this)
  · cases hf

theorem val_ok (hs : ERel G w L σ.e tm) {x : Operand} {y : Opd} (hf : fitX x y = true) {v : V} (hv : σ.val y = some v) : VR G w v (Act.eval ⟨tm, ds⟩ x) := by
  have := ev_ok (ds := ds) hs hf
  unfold St.val at hv
  cases e : σ.ev y with
  | v u => rw [e] at hv this; cases hv; cases this; assumption
  | loc a b c => rw [e] at hv; cases hv

theorem vals_ok (hs : ERel G w L σ.e tm) : ∀ {xs : List Operand} {ys : List Opd}, fitXs xs ys = true → ∀ {vs : List V}, σ.vals ys = some vs → VRs G w vs (xs.map (Act.eval ⟨tm, ds⟩))
  | [], [], _, vs, hv => by cases hv; exact .nil
  | x :: xs, y :: ys, hf, vs, hv => by
    simp only [fitXs, Bool.and_eq_true] at hf
    simp only [St.vals, Option.bind_eq_some_iff] at hv
    obtain ⟨v, hv1, vs', hv2, e⟩ := hv
    cases e
    exact .cons _ _ _ _ (val_ok hs hf.1 hv1) (vals_ok hs hf.2 hv2)
  | [], _ :: _, hf, _, _ => by simp [fitXs] at hf
  | _ :: _, [], hf, _, _ => by simp [fitXs] at hf

theorem exec_v {ρ : Operand → Value} {o : Oper} {S : Sem Value} (h : execOp ρ o = (do pure (.value (← S)))) {x : Value} {w' : World} (hr : S.run P w = .ok x w') :
    (execOp ρ o).run P w = .ok (.value x) w' := by
  rw [h]; simp [hr]

/-- An operation's answer in the model is the VM's. -/
def Good (P : Program) (r : Result Next) (w : World) (G : Gh) (L : Lm) (σ : St) (tm : Array Value) (x : T) (σ' : St) : Prop :=
  ∃ n v w' G' L', r = .ok n w' ∧ (n = .value v ∨ n = .skip ∧ v = undef) ∧ TR G' w' L' x v ∧ SR w' G' L' σ' tm ∧ Ext w G L σ w' G' L' σ'

theorem Good.same {r : Result Next} {x : T} {v : Value} (hs : SR w G L σ tm) (hr : r = .ok (.value v) w) (hx : TR G w L x v) : Good P r w G L σ tm x σ :=
  ⟨_, v, w, G, L, hr, .inl rfl, hx, hs, Ext.refl w G L σ⟩

/-! ### parts of a literal -/

theorem foldl_set (c : Array Value) (off : Nat) : ∀ (xs : List Value) (i : Nat), off + i + xs.length ≤ c.size →
    ((xs.zipIdx i).foldl (fun cs (p : Value × Nat) => cs.setIfInBounds (off + p.2) p.1) c).toList = c.toList.take (off + i) ++ xs ++ c.toList.drop (off + i + xs.length)
  | [], i, h => by simp
  | x :: xs, i, h => by
    simp only [List.length_cons] at h
    have hlt : off + i < c.size := by omega
    simp only [List.zipIdx_cons, List.foldl_cons]
    have ih := foldl_set (c.setIfInBounds (off + i) x) off xs (i + 1) (by simp; omega)
    rw [ih]
    simp only [Array.toList_setIfInBounds, List.length_cons]
    have e1 : off + (i + 1) = off + i + 1 := by omega
    rw [e1]
    rw [List.take_set, List.drop_set_of_lt (by omega)]
    have e2 : off + i + 1 + xs.length = off + i + (xs.length + 1) := by omega
    rw [e2]
    have e3 : (c.toList.take (off + i + 1)).set (off + i) x = c.toList.take (off + i) ++ [x] := by
      have hl : off + i < c.toList.length := by simpa using hlt
      rw [List.take_succ_eq_append_getElem hl, List.set_append_right _ _ (by simp; omega)]
      simp
      have : off + i - min (off + i) c.size = 0 := by omega
      rw [this]; rfl
    rw [e3]
    simp

theorem foldl_set0 (c : Array Value) (off : Nat) (xs : Array Value) (h : off + xs.size ≤ c.size) :
    (xs.zipIdx.foldl (fun cs (p : Value × Nat) => cs.setIfInBounds (off + p.2) p.1) c).toList = c.toList.take off ++ xs.toList ++ c.toList.drop (off + xs.size) := by
  have := foldl_set c off xs.toList 0 (by simpa using h)
  rw [← Array.foldl_toList, Array.toList_zipIdx]
  simpa using this

theorem fill_ok (hs : ERel G w L σ.e tm) {place : Nat → Option (Nat × Nat)} : ∀ {ps : List (Nat × Operand)} {qs : List (Nat × Nat × Opd)}, fitParts place ps qs = true →
    ∀ {cs cs' : List V} {c : Array Value}, CRs G w cs c.toList →
    qs.foldl (fun (acc : Option (List V)) p => acc.bind fun cs => (σ.val p.2.2).bind fun x =>
      if x.cells.length = p.2.1 ∧ p.1 + p.2.1 ≤ cs.length then some (setRange cs p.1 x.cells) else none) (some cs) = some cs' →
    ∃ c', Instr.fill place c (ps.map fun p => (p.1, Act.eval ⟨tm, ds⟩ p.2)) = some c' ∧ CRs G w cs' c'.toList
  | [], [], _, cs, cs', c, hc, hq => by cases hq; exact ⟨c, rfl, hc⟩
  | (i, x) :: ps, (off, n, y) :: qs, hf, cs, cs', c, hc, hq => by
    simp only [fitParts, Bool.and_eq_true, beq_iff_eq, decide_eq_true_eq] at hf
    obtain ⟨⟨⟨hp, hn⟩, hx⟩, hrest⟩ := hf
    simp only [List.foldl_cons, Option.bind_some] at hq
    have none_stays : ∀ qs : List (Nat × Nat × Opd), qs.foldl (fun (acc : Option (List V)) p => acc.bind fun cs => (σ.val p.2.2).bind fun x =>
      if x.cells.length = p.2.1 ∧ p.1 + p.2.1 ≤ cs.length then some (setRange cs p.1 x.cells) else none) none = none := by
      intro qs; induction qs with
      | nil => rfl
      | cons a l ih => simpa using ih
    cases hv : σ.val y with
    | none => rw [hv] at hq; simp only [Option.bind_none] at hq; rw [none_stays] at hq; cases hq
    | some v =>
      rw [hv] at hq
      simp only [Option.bind_some] at hq
      split at hq
      · rename_i hc2
        have hvr := val_ok (ds := ds) hs hx hv
        have hcells := hvr.cells (by intro e; rw [e] at hc2; simp at hc2; omega)
        have hlen := hcells.length
        have hclen := hc.length
        have hsize : (Act.eval ⟨tm, ds⟩ x).cells.size = n := by rw [← Array.length_toList, ← hlen]; exact hc2.1
        have hfit : off + (Act.eval ⟨tm, ds⟩ x).cells.size ≤ c.size := by rw [hsize]; have := hc2.2; rw [hclen] at this; simpa using this
        have hfold := foldl_set0 c off _ hfit
        obtain ⟨c', h1, h2⟩ := fill_ok hs hrest (c := (Act.eval ⟨tm, ds⟩ x).cells.zipIdx.foldl (fun cs (p : Value × Nat) => cs.setIfInBounds (off + p.2) p.1) c) (by
          rw [hfold]
          exact ((hc.take off).append hcells).append (by have := hc.drop (off + v.cells.length); rwa [hc2.1, ← hsize] at this)) (by
          have e : setRange cs off v.cells = cs.take off ++ v.cells ++ cs.drop (off + (Act.eval ⟨tm, ds⟩ x).cells.size) := by simp [setRange, hsize, hc2.1]
          rw [e] at hq; exact hq)
        refine ⟨c', ?_, h2⟩
        simp only [List.map_cons, Instr.fill, hp]
        rw [if_neg (by simp [hsize]; omega)]
        exact h1
      · rw [none_stays] at hq; cases hq
  | [], _ :: _, hf, _, _, _, _, _ => by simp [fitParts] at hf
  | _ :: _, [], hf, _, _, _, _, _ => by simp [fitParts] at hf

theorem sizeT_info {t : TypeId} {n : Nat} (h : sizeT P t = some n) : ∃ i, P.info? t = some i ∧ i.size = n := by
  unfold sizeT at h
  cases hi : P.info? t with
  | none => rw [hi] at h; cases h
  | some i => rw [hi] at h; exact ⟨i, rfl, by simpa using h⟩

theorem run_sizeT {t : TypeId} {n : Nat} (h : sizeT P t = some n) : (sizeOf t).run P w = .ok n w := by
  obtain ⟨i, hi, hn⟩ := sizeT_info h
  simp [sizeOf, typeInfo, hi, hn]

theorem run_zeroT {t : TypeId} {z : Value} (h : (P.info? t).bind (·.zero) = some z) : (zeroValue t).run P w = .ok z w := by
  obtain ⟨i, hi, hz⟩ := Option.bind_eq_some_iff.1 h
  simp [zeroValue, typeInfo, hi, hz]

theorem run_isAggT {t : TypeId} {b : Bool} (h : aggT P t = some b) : (isAgg t).run P w = .ok b w := by
  unfold aggT at h
  obtain ⟨d, hd, rfl⟩ := Option.map_eq_some_iff.1 h
  cases d <;> simp [isAgg, run_underlying hd, aggD]

theorem zeroFit_ok {t : TypeId} {cs : List V} (h : zeroFit P t cs = true) : ∃ z, (P.info? t).bind (·.zero) = some z ∧ CRs G w cs z.cells.toList := by
  unfold zeroFit at h
  split at h
  · rename_i z hz; exact ⟨z, hz, fitCs_CRs h⟩
  · cases h

theorem run_mapM_sizes {fs : Array Field} (h : fs.all (fun f => (P.info? f.type).isSome) = true) :
    (fs.mapM fun f => do pure (f.offset, ← sizeOf f.type) : Sem (Array (Nat × Nat))).run P w = .ok (fs.map fun f => (f.offset, P.cellsOf f.type)) w := by
  have key : ∀ l : List Field, (∀ f ∈ l, (P.info? f.type).isSome) → (l.mapM fun f => do pure (f.offset, ← sizeOf f.type) : Sem (List (Nat × Nat))).run P w = .ok (l.map fun f => (f.offset, P.cellsOf f.type)) w := by
    intro l
    induction l with
    | nil => intro _; simp
    | cons f l ih =>
      intro hl
      obtain ⟨i, hi⟩ := Option.isSome_iff_exists.1 (hl f (by simp))
      have := ih (fun g hg => hl g (by simp [hg]))
      simp only [List.mapM_cons, Sem.run_bind, run_sizeOf w hi, Result.andThen_ok, Sem.run_pure, this, List.map_cons]
  have h2 := key fs.toList (fun f hf => Array.all_eq_true_iff_forall_mem.1 h f (Array.mem_toList_iff.1 hf))
  rw [Array.mapM_eq_mapM_toList]
  simp only [Sem.run_map, h2, Result.andThen_ok]
  congr 1
  apply Array.ext'; simp

theorem placeT_struct {t : TypeId} {fs : Array Field} (hu : P.underlying t = some (.struct fs)) (h : fs.all (fun f => (P.info? f.type).isSome) = true) :
    (fun i => (fs.map fun f => (f.offset, P.cellsOf f.type))[i]?) = placeT P t := by
  funext i
  simp only [placeT, hu, Array.getElem?_map]
  cases hf : fs[i]? with
  | none => rfl
  | some f =>
    have hm : f ∈ fs := Array.mem_of_getElem? hf
    obtain ⟨j, hj⟩ := Option.isSome_iff_exists.1 (Array.all_eq_true_iff_forall_mem.1 h f hm)
    simp [sizeT, Program.cellsOf, hj]

theorem build_ok (hs : SR w G L σ tm) {dst : Option Tmp} {ty : TypeId} {pos : String} {af : Array Edge} {gd : Option (Nat × Bool)} {t : TypeId} {ps : Array (Nat × Operand)} {z : List V} {qs : List (Nat × Nat × Opd)}
    (hf : fitO P (.build t ps) (.build z qs) = true) {x : T} (hx : pureO σ (.build z qs) = some x) :
    Good P ((execOp (Act.eval ⟨tm, ds⟩) ⟨dst, .build t ps, ty, pos, af, gd⟩).run P w) w G L σ tm x σ := by
  simp only [fitO, Bool.and_eq_true, Bool.or_eq_true] at hf
  obtain ⟨⟨hz, hty⟩, hps⟩ := hf
  obtain ⟨zv, hzv, hzc⟩ := zeroFit_ok (G := G) (w := w) hz
  simp only [pureO, Option.map_eq_some_iff] at hx
  obtain ⟨cs', hcs, rfl⟩ := hx
  obtain ⟨c', h1, h2⟩ := fill_ok (ds := ds) hs.ev hps hzc hcs
  refine Good.same (v := .agg c') hs (exec_v rfl ?_) (.v _ _ (by have := VR.agg (G := G) (w := w) cs' c'.toList h2; simpa using this))
  simp only [Instr.build, Sem.run_bind, run_zeroT hzv, Result.andThen_ok]
  have hlist : (ps.map fun (p : Nat × Operand) => (p.1, Act.eval ⟨tm, ds⟩ p.2)).toList = ps.toList.map fun p => (p.1, Act.eval ⟨tm, ds⟩ p.2) := by simp
  rcases hty with hty | hty
  · unfold fieldsOk at hty
    split at hty
    · rename_i fs hu
      simp only [run_underlying hu, Result.andThen_ok, Sem.run_bind, run_mapM_sizes hty]
      have := placeT_struct hu hty
      rw [← this, ← hlist] at h1
      simp only [Array.getElem?_map] at h1 ⊢
      rw [h1]; rfl
    · cases hty
  · split at hty
    · rename_i n e hu'
      have hu : P.underlying t = some (.array n e) := by
        unfold arrT at hu'
        split at hu'
        · rename_i hu; cases hu'; exact hu
        · cases hu'
      obtain ⟨m, hm⟩ := Option.isSome_iff_exists.1 hty
      have hpl : (fun i => some (i * m, m)) = placeT P t := by funext i; simp [placeT, hu, hm]
      simp only [run_underlying hu, Result.andThen_ok, Sem.run_bind, run_sizeT hm, hpl, hlist, h1]
      rfl
    · cases hty
end
end Go.Vm
