/- A row of the VM's answer. -/
import Derived.Test.YthbfflleggnoaaaGreatDoorVmEntry
set_option linter.unusedSimpArgs false
set_option linter.unusedVariables false
namespace Go.Vm
open Go Go.RowKit Go.ChangeShapes

/-- The ghost of an entry: all that was there is only read. -/
def G0 (w : World) : Gh := { st := fun B => B < w.heap.size, ob := fun _ => none, rw := fun _ _ => none }

theorem WR0 (w : World) : WR w (G0 w) [] :=
  ⟨fun id o h => by simp at h, fun id _ => ⟨rfl, fun _ => rfl⟩, fun i j B h => by simp [ownB] at h, fun i B h => by simp [ownB] at h, fun B h => h⟩

section
variable {P : Program} {H : Type} {enc : TypeId × Value → H} {w w' : World}

inductive FitAll (P : Program) : List Sh → List TypeId → Prop
  | nil : FitAll P [] []
  | cons (s : Sh) (t : TypeId) (ss : List Sh) (ts : List TypeId) (h : fitSh P s t = true) (hr : P.readableRec t = true) (hs : t < P.types.size) (hh : FitAll P ss ts) : FitAll P (s :: ss) (t :: ts)

inductive HasAll : List Sh → List V → Prop
  | nil : HasAll [] []
  | cons (s : Sh) (v : V) (ss : List Sh) (vs : List V) (h : HasV s v) (hh : HasAll ss vs) : HasAll (s :: ss) (v :: vs)

theorem okWide_cells {s : Sh} {t : TypeId} (hf : fitSh P s t = true) {base : Nat} {v : Value} (h : Value.okWide P w .any base t v) : if s.isAgg then ∃ cs, v = .agg cs else v.cells = #[v] := by
  cases s <;> simp only [fitSh, Bool.and_eq_true] at hf <;> obtain ⟨hf, _⟩ := hf <;> split at hf <;> first
    | (cases hf; done)
    | (rename_i hu
       simp only [Value.okWide, hu] at h
       first
         | (obtain ⟨cs, rfl, _⟩ := h; exact ⟨cs, rfl⟩)
         | (simp only [Cell.okWide, hu, Cell.ok] at h
            split at h <;> first | rfl | (cases h; done) | simp_all)
         | (simp only [Cell.okWide, hu, Cell.ok] at h
            cases v <;> first | rfl | (cases h; done) | simp_all))

theorem trod_V {G : Gh} (hG : ∀ B, B < w.heap.size → G.st B) {s : Sh} {t : TypeId} (hf : fitSh P s t = true) {base : Nat} {v : Value} (hv : Value.okWide P w .any base t v) {d : DataW H} {ps : List MemPlace}
    (h : DataW.Trod enc P w 0 (fun _ => true) true t v d ps) : ∃ u, VR G w u v ∧ HasV s u := by
  obtain ⟨fuel, h⟩ := h
  obtain ⟨us, h1, h2⟩ := trod_has hG s t hf fuel _ _ h
  have hc := okWide_cells hf hv
  split at hc
  · rename_i hag
    obtain ⟨cs, rfl⟩ := hc
    refine ⟨.agg us, ?_, us, by simp [mkS, hag], h2⟩
    have := VR.agg us _ h1
    simpa [Value.cells] using this
  · rename_i hag
    rw [hc] at h1
    have hl := h2.len
    cases h1 with
    | cons u x us xs hu hx h hs =>
      cases hs
      exact ⟨u, h, [u], by simp [mkS, hag], h2⟩

theorem trodAll_V {G : Gh} (hG : ∀ B, B < w.heap.size → G.st B) {base : Nat} : ∀ {ss : List Sh} {ts : List TypeId}, FitAll P ss ts → ∀ {vs : List Value} {ds : List (DataW H)} {ps : List MemPlace},
    (∀ (j : Nat) t v, ts[j]? = some t → vs[j]? = some v → Value.okWide P w .any base t v) → DataW.TrodAll enc P w 0 (fun _ => true) true ts vs ds ps → ∃ us, VRs G w us vs ∧ HasAll ss us
  | _, _, .nil, vs, ds, ps, hv, h => by
    cases vs with
    | nil => exact ⟨[], .nil, .nil⟩
    | cons v vs => cases ds <;> exact h.elim
  | _, _, .cons s t ss ts hf _ _ hh, vs, ds, ps, hv, h => by
    obtain ⟨v, vs', d, ds', p, q, rfl, rfl, rfl, h1, h2⟩ := trodAll_cons h
    obtain ⟨u, h3, h4⟩ := trod_V hG hf (hv 0 t v rfl rfl) h1
    obtain ⟨us, h5, h6⟩ := trodAll_V hG hh (fun j t' v' e1 e2 => hv (j + 1) t' v' (by simpa using e1) (by simpa using e2)) h2
    exact ⟨u :: us, .cons _ _ _ _ h3 h5, .cons _ _ _ _ h4 h6⟩

theorem trodAll_stays (hl : laidOutB P = true) {W W' : World} (hb : Below W.heap.size W W') : ∀ {ss : List Sh} {ts : List TypeId}, FitAll P ss ts → ∀ {vs : List Value} {ds : List (DataW H)} {ps : List MemPlace},
    DataW.TrodAll enc P W 0 (fun _ => true) true ts vs ds ps → (∀ x ∈ ps, x.block < W.heap.size) → DataW.TrodAll enc P W' 0 (fun b => decide (b < W.heap.size)) true ts vs ds ps
  | _, _, .nil, vs, ds, ps, h, _ => by cases vs <;> cases ds <;> exact h
  | _, _, .cons s t ss ts hf hr hs hh, vs, ds, ps, h, hlt => by
    obtain ⟨v, vs', d, ds', p, q, rfl, rfl, rfl, h1, h2⟩ := trodAll_cons h
    exact ⟨p, q, Below.trod hl hr hs h1 hb (fun x hx => hlt x (List.mem_append.2 (.inl hx))), trodAll_stays hl hb hh h2 (fun x hx => hlt x (List.mem_append.2 (.inr hx))), rfl⟩

/-- A law that answers true, by the VM: a row's end. -/
theorem law_end {X : Env} (hX : X.OK P) (hl : laidOutB P = true) {f : FuncId} {fn : Func} {tb : TypeId} (hres : fn.resultTypes = #[tb]) (htb : P.underlying tb = some .bool) {s : ChangeSpec} (hvars : s.vars = [])
    {ss : List Sh} (hfit : FitAll P ss fn.params.toList) (hbody : ∃ c, fn.body = some c) (hfn : P.funcs[f]? = some fn) (hext : X.ext f = none)
    (spec : ∀ us, HasAll ss us → VC X f us [] = some (.ret (.bool true), []))
    {W : World} {base : Nat} {args : Array Value} {ds gs : List (DataW H)} {before : List MemPlace} (hval : ∀ (j : Nat) t v, fn.params[j]? = some t → args[j]? = some v → Value.okWide P W .any base t v)
    (hW : DataW.Whole enc P fn.params.toList s.vars false W args.toList ds gs before) (hs : s.fn H (ds ++ []) = { results := [.lit (.bool true)], args := ds }) :
    Calls P f args W fun e W' => ∃ v, e = .returned v ∧ s.post enc P fn false true false false W args v W' := by
  have hW0 := hW
  obtain ⟨p, q, hA, hV, rfl, hfz, hnd⟩ := hW
  rw [hvars] at hV
  obtain ⟨rfl, rfl⟩ := trodVars_none hV
  obtain ⟨us, h1, h2⟩ := trodAll_V (G := G0 W) (fun B h => h) hfit (fun j t v e1 e2 => hval j t v (by simpa using e1) (by simpa using e2)) hA
  have hc := VC_sound hX f us [] _ _ (spec us h2) W (G0 W) args.toList (WR0 W) h1
  have hcalls : Calls P f args W (CPost W (G0 W) [] (.ret (.bool true)) []) := by
    rcases hc with ⟨_, h⟩ | ⟨x, w', h, _⟩
    · simpa using h
    · exfalso
      obtain ⟨c, hb⟩ := hbody
      simp only [callFunc, Sem.run_bind, run_program, Result.andThen_ok, hfn] at h
      split at h
      · cases h
      · split at h
        · rename_i hn; rw [hb] at hn; cases hn
        · cases h
  refine hcalls.mono fun e W' hp => ?_
  obtain ⟨G', hx, hw, hr⟩ := hp
  cases e with
  | returned v =>
    have hv : VR G' W' (.bool true) v := hr
    have hvb := hv.inv_bool
    subst hvb
    have hsame : ∀ i, i < W.heap.size → W'.heap[i]? = W.heap[i]? := fun i hi => hx.fr i hi (fun id h => by simp [ownB, St.init] at h) (fun d g cs h => by cases h)
    have hbelow : Below W.heap.size W W' := ⟨hx.os, hx.tape, hx.output, hx.sz, hsame⟩
    refine ⟨_, rfl, ds, [], p ++ [], [], p, [], hW0, ?_, ?_, ?_, ?_, fun h => by cases h⟩
    · rw [hs, hres]
      exact trodAll_mk1 (shut_bool htb true)
    · rw [hs]
      exact trodAll_stays hl hbelow hfit hA (fun x hx => hW0.lt x (by simp [hx]))
    · rw [hs, hvars]; exact rfl
    · refine ⟨hx.os, hx.output, fun i hi => ?_⟩
      rw [hsame i hi]
      have : W.heap[i]? = some W.heap[i] := Array.getElem?_eq_getElem hi
      rw [this]
      cases W.heap[i] with
      | cells c t fr => exact ⟨rfl, rfl, rfl, fun _ _ => rfl⟩
      | map es k => exact .inr ⟨rfl, rfl⟩
      | _ => rfl
  | panicked c => exact hr.elim
  | outgrown => exact hr.elim

end
end Go.Vm
