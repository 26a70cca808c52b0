/- The VM is right: operations. -/
import Derived.Test.YthbfflleggnoaaaGreatDoorVmEff7
import Derived.Orders
set_option linter.unusedSimpArgs false
set_option linter.unusedSectionVars false
set_option linter.unusedVariables false
namespace Go.Vm
open Go Go.RowKit

def L0 : Lm := fun _ _ => none

/-- What a call leaves: the model's end beside the VM's. -/
def CPost (w : World) (G : Gh) (h : List HO) (r : CR) (h' : List HO) (e : Ending) (w' : World) : Prop :=
  ∃ G', Ext w G L0 (St.init [] h) w' G' L0 (St.init [] h') ∧ WR w' G' h' ∧
    match r, e with
    | .ret v, .returned x => VR G' w' v x
    | .pan v, .panicked chain => ∃ x, chain = [{ v := x, recovered := false }] ∧ VR G' w' v x
    | _, _ => False

/-- The callees' answers are the model's. -/
def CallOK (P : Program) (call : Calls1) : Prop :=
  ∀ f vs h r h', call f vs h = some (r, h') → ∀ w G xs, WR w G h → VRs G w vs xs →
    ((callFunc f xs.toArray).run P w = .ok (.enter f xs.toArray) w ∧ Calls P f xs.toArray w (CPost w G h r h')) ∨
    (∃ x w', (callFunc f xs.toArray).run P w = .ok (.value x) w' ∧ CPost w G h r h' (.returned x) w')

section
variable {P : Program} {G : Gh} {w : World} {L : Lm} {σ : St} {tm : Array Value} {ds : List Deferred}
variable {dst : Option Tmp} {ty : TypeId} {pos : String} {af : Array Edge} {gd : Option (Nat × Bool)}

/-- A callee's memory, in the caller's. -/
theorem SR.called (hs : SR w G L σ tm) {w' : World} {G' : Gh} {h' : List HO} (hx : Ext w G L0 (St.init [] σ.h) w' G' L0 (St.init [] h')) (hw : WR w' G' h') :
    SR w' G' L { σ with h := h' } tm ∧ Ext w G L σ w' G' L { σ with h := h' } := by
  have hfr : ∀ B, B < w.heap.size → (∀ id, ownB G σ.h id ≠ some B) → w'.heap[B]? = w.heap[B]? := fun B hB h => hx.fr B hB h (fun d g cs h => by cases h)
  have hle : Le G w G' w' := ⟨hx.st, fun B hB => hfr B (hs.hp.stl B hB) (fun id e => hs.hp.ost id B e hB), hx.ob, hx.rw⟩
  refine ⟨⟨hw, ⟨?_, hs.lc.inj, hs.lc.fresh⟩, fun t => (hs.ev t).mono hle fun _ _ _ h => h⟩, ?_⟩
  · intro d g cs hd
    obtain ⟨B, h1, h2, h3, h4⟩ := hs.lc.obj d g cs hd
    have hlt : B < w.heap.size := by obtain ⟨c, el, fr, hb, _⟩ := h2; exact lt_of_block hb
    refine ⟨B, h1, h2.mono hle (hfr B hlt h4), fun hst => ?_, fun id e => ?_⟩
    · rcases hx.stn B hst with h | h
      · exact h3 h
      · omega
    · rcases hx.own id B e with ⟨j, hj⟩ | h
      · exact h4 j hj
      · omega
  · exact ⟨hx.os, hx.tape, hx.output, hx.sz, fun B hB h _ => hfr B hB h, hx.st, hx.ob, hx.rw, fun _ _ _ h => h, hx.stn, hx.own, fun d g cs B h1 h2 => .inl ⟨d, g, cs, h1, h2⟩⟩

/-- What is only read, alone. -/
def Gs (G : Gh) : Gh := { st := G.st, ob := fun _ => none, rw := fun _ _ => none }

theorem WRs {h : List HO} (hw : WR w G h) : WR w (Gs G) [] :=
  ⟨fun id o h => by simp at h, fun _ _ => ⟨rfl, fun _ => rfl⟩, fun i j B h => by simp [ownB] at h, fun i B h => by simp [ownB] at h, hw.stl⟩

theorem cells_pures {v : V} (h : v.pure = true) : V.pure.pures v.cells = true := by
  cases v <;> first | (simp [V.cells, V.pure.pures]; done) | (simp only [V.cells, V.pure.pures, Bool.and_true]; exact h) | (simpa [V.cells, V.pure] using h)

theorem pures_append {a b : List V} (ha : V.pure.pures a = true) (hb : V.pure.pures b = true) : V.pure.pures (a ++ b) = true := by
  induction a with
  | nil => exact hb
  | cons v a ih => simp only [List.cons_append, V.pure.pures, Bool.and_eq_true] at ha ⊢; exact ⟨ha.1, ih ha.2⟩

theorem pures_flat {l : List V} (h : V.pure.pures l = true) : V.pure.pures (l.flatMap V.cells) = true := by
  induction l with
  | nil => rfl
  | cons v l ih =>
    simp only [V.pure.pures, Bool.and_eq_true] at h
    rw [List.flatMap_cons]
    exact pures_append (cells_pures h.1) (ih h.2)

section
variable {G1 : Gh} (hst : ∀ B, G.st B → G1.st B)
include hst
mutual
theorem VR.pureTo {v : V} {x : Value} : VR G w v x → v.pure = true → VR G1 w v x
  | .undef x, _ => .undef x
  | .bool b, _ => .bool b
  | .int k n, _ => .int k n
  | .float k n, _ => .float k n
  | .str s b h, _ => .str s b h
  | .nilp, _ => .nilp
  | .ptr .., hp => by simp [V.pure] at hp
  | .cref cs B off xs hs hc h, hp => .cref cs B off xs (hst B hs) hc (CRs.pureTo h (by simpa [V.pure] using hp))
  | .eptr .., hp => by simp [V.pure] at hp
  | .nils, hp => by simp [V.pure] at hp
  | .snil a c, _ => .snil a c
  | .snap l B off s cap xs hs hc hl hle h, hp => .snap l B off s cap xs (hst B hs) hc hl hle (CRs.pureTo h (pures_flat (by simpa [V.pure] using hp)))
  | .sl .., hp => by simp [V.pure] at hp
  | .nilm, _ => .nilm
  | .map .., hp => by simp [V.pure] at hp
  | .nilf, _ => .nilf
  | .func f caps xs h, hp => .func f caps xs (VRs.pureTo h (by simpa [V.pure] using hp))
  | .nili, _ => .nili
  | .iface t v x h, hp => .iface t v x (VR.pureTo h (by simpa [V.pure] using hp))
  | .agg cs xs h, hp => .agg cs xs (CRs.pureTo h (by simpa [V.pure] using hp))
  | .tuple vs xs h, hp => .tuple vs xs (VRs.pureTo h (by simpa [V.pure] using hp))
theorem VRs.pureTo {v : List V} {x : List Value} : VRs G w v x → V.pure.pures v = true → VRs G1 w v x
  | .nil, _ => .nil
  | .cons v x vs xs h hs, hp => by
    simp only [V.pure.pures, Bool.and_eq_true] at hp
    exact .cons _ _ _ _ (VR.pureTo h hp.1) (VRs.pureTo hs hp.2)
theorem CRs.pureTo {v : List V} {x : List Value} : CRs G w v x → V.pure.pures v = true → CRs G1 w v x
  | .nil, _ => .nil
  | .cons v x vs xs hv hx h hs, hp => by
    simp only [V.pure.pures, Bool.and_eq_true] at hp
    exact .cons _ _ _ _ hv hx (VR.pureTo h hp.1) (CRs.pureTo hs hp.2)
end
end

/-- A callee that was handed values alone, that name no block. -/
theorem SR.pcalled (hs : SR w G L σ tm) {w' : World} {G' : Gh} (hx : Ext w (Gs G) L0 (St.init [] []) w' G' L0 (St.init [] [])) (hw : WR w' G' []) :
    ∃ G2 : Gh, SR w' G2 L σ tm ∧ Ext w G L σ w' G2 L σ ∧ ∀ B, G'.st B → G2.st B := by
  have hfr : ∀ B, B < w.heap.size → w'.heap[B]? = w.heap[B]? := fun B hB => hx.fr B hB (fun id h => by simp [ownB, St.init] at h) (fun d g cs h => by cases h)
  have hle : Le G w { st := G'.st, ob := G.ob, rw := G.rw } w' := ⟨fun B hB => hx.st B hB, fun B hB => hfr B (hs.hp.stl B hB), fun _ _ h => h, fun _ _ _ h => h⟩
  have hstn : ∀ B, G'.st B → G.st B ∨ w.heap.size ≤ B := hx.stn
  refine ⟨{ st := G'.st, ob := G.ob, rw := G.rw }, ⟨?_, ⟨?_, hs.lc.inj, hs.lc.fresh⟩, fun t => (hs.ev t).mono hle fun _ _ _ h => h⟩, ?_, fun B h => h⟩
  · refine hs.hp.keep hle hx.sz (fun B hB => ⟨hw.stl B hB, fun id e => ?_⟩) (fun _ => ⟨rfl, fun _ => rfl⟩) (fun id B hB => hfr B (hs.hp.own_lt hB))
    rcases hstn B hB with h | h
    · exact hs.hp.ost _ _ e h
    · have := hs.hp.own_lt e; omega
  · intro d g cs hd
    obtain ⟨B, h1, h2, h3, h4⟩ := hs.lc.obj d g cs hd
    have hlt : B < w.heap.size := by obtain ⟨c, el, fr, hb, _⟩ := h2; exact lt_of_block hb
    refine ⟨B, h1, h2.mono hle (hfr B hlt), fun hst => ?_, fun id e => h4 id e⟩
    rcases hstn B hst with h | h
    · exact h3 h
    · omega
  · exact ⟨hx.os, hx.tape, hx.output, hx.sz, fun B hB _ _ => hfr B hB, fun B hB => hx.st B hB, fun _ _ h => h, fun _ _ _ h => h, fun _ _ _ h => h, hstn, fun id B h => .inl ⟨id, h⟩, fun d g cs B h1 h2 => .inl ⟨d, g, cs, h1, h2⟩⟩

theorem effO_pan {d : Option Nat} {so : SO} {v : V} {σ' : St} (h : effO σ d so = some (.pan v σ')) : ∃ y, so = .panic y := by
  cases so <;> first
    | exact ⟨_, rfl⟩
    | (exfalso; change none = some _ at h; cases h; done)
    | (exfalso
       simp only [effO, Option.map_eq_some_iff, Option.bind_eq_some_iff] at h
       repeat' (first | (obtain ⟨_, _, h⟩ := h) | (split at h) | (simp only [Option.map_eq_some_iff, Option.bind_eq_some_iff, cond_eq_ite] at h; done) | (simp only [Option.map_eq_some_iff, Option.bind_eq_some_iff, cond_eq_ite] at h))
       all_goals first | (cases h; done) | skip)

theorem stepO_cases {call : Calls1} {d : Option Nat} {so : SO} {out : Out} (h : stepO call σ d so = some out) (hne : ∀ s f a, so ≠ .call s f a) (hnp : ∀ f a, so ≠ .pcall f a) :
    (∃ x, pureO σ so = some x ∧ out = .ok x σ) ∨ (∃ x, readO σ so = some x ∧ out = .ok x σ) ∨ effO σ d so = some out := by
  have h' : (match pureO σ so with | some x => some (.ok x σ) | none => match readO σ so with | some x => some (.ok x σ) | none => effO σ d so) = some out := by
    cases so <;> first | exact h | exact absurd rfl (hne _ _ _) | exact absurd rfl (hnp _ _)
  cases hp : pureO σ so with
  | some x => rw [hp] at h'; exact .inl ⟨x, rfl, (Option.some.inj h').symm⟩
  | none =>
    rw [hp] at h'
    cases hr : readO σ so with
    | some x => rw [hr] at h'; exact .inr (.inl ⟨x, rfl, (Option.some.inj h').symm⟩)
    | none => rw [hr] at h'; exact .inr (.inr h')

theorem pure_good {op : Op} {so : SO} (hf : fitO P op so = true) (hs : SR w G L σ tm) {x : T} (hx : pureO σ so = some x) : Good P ((execOp (Act.eval ⟨tm, ds⟩) ⟨dst, op, ty, pos, af, gd⟩).run P w) w G L σ tm x σ := by
  have hf0 := hf
  unfold fitO at hf
  split at hf <;> first
    | (cases hf; done)
    | (change none = some _ at hx; cases hx; done)
    | (cases hx; exact mov_ok hs (.inl rfl) hf)
    | (cases hx; exact mov_ok hs (.inr rfl) hf)
    | with_reducible exact pick_ok hs hf0 hx
    | with_reducible exact build_ok hs hf0 hx
    | with_reducible exact bsnap_ok hs hf0 hx
    | with_reducible exact nilck_ok hs hf0 hx
    | with_reducible exact bin_ok hs hf0 hx
    | with_reducible exact cmpB_ok hs hf0 hx
    | with_reducible exact cmpA_ok hs hf0 hx
    | with_reducible exact cmpN_ok hs hf0 hx
    | with_reducible exact ifn_ok hs hf0 hx
    | with_reducible exact tassert_ok hs hf0 hx
    | with_reducible exact un_ok hs hf0 hx
    | with_reducible exact cvI_ok hs hf0 hx
    | with_reducible exact cvF_ok hs hf0 hx
    | with_reducible exact cvFI_ok hs hf0 hx
    | with_reducible exact cvSS_ok hs hf0 hx
    | with_reducible exact mkif_ok hs hf0 hx
    | with_reducible exact mkfn_ok hs hf0 hx
    | with_reducible exact slice_ok hs hf0 hx
    | with_reducible exact faddr_ok hs hf0 hx
    | with_reducible exact field_ok hs hf0 hx
    | with_reducible exact iaddr_ok hs hf0 hx
    | with_reducible exact index_ok hs hf0 hx
    | with_reducible exact extract_ok hs hf0 hx
    | (split at hf <;> first
        | (cases hf; done)
        | (change none = some _ at hx; cases hx; done)
        | with_reducible exact len_ok hs hf0 hx
        | with_reducible exact num_ok hs hf0 hx
        | with_reducible exact cap_ok hs hf0 hx
        | exact minmax_ok hs (isMax := true) rfl hf hx
        | exact minmax_ok hs (isMax := false) rfl hf hx)

theorem read_good {op : Op} {so : SO} (hf : fitO P op so = true) (hs : SR w G L σ tm) {x : T} (hx : readO σ so = some x) : Good P ((execOp (Act.eval ⟨tm, ds⟩) ⟨dst, op, ty, pos, af, gd⟩).run P w) w G L σ tm x σ := by
  have hf0 := hf
  unfold fitO at hf
  split at hf <;> first
    | (cases hf; done)
    | (change none = some _ at hx; cases hx; done)
    | with_reducible exact load_ok hs hf0 hx
    | with_reducible exact loadA_ok hs hf0 hx
    | with_reducible exact loadN_ok hs hf0 hx
    | with_reducible exact lookup_ok hs hf0 hx
    | with_reducible exact cvBS_ok hs hf0 hx
    | (split at hf <;> first
        | (cases hf; done)
        | (change none = some _ at hx; cases hx; done)
        | with_reducible exact lenMap_ok hs hf0 hx)

theorem eff_good {op : Op} {so : SO} (hf : fitO P op so = true) (hs : SR w G L σ tm) {d : Option Nat} (hd : dst = d) {x : T} {σ' : St} (hx : effO σ d so = some (.ok x σ')) : Good P ((execOp (Act.eval ⟨tm, ds⟩) ⟨dst, op, ty, pos, af, gd⟩).run P w) w G L σ tm x σ' := by
  subst hd
  have hf0 := hf
  unfold fitO at hf
  split at hf <;> first
    | (cases hf; done)
    | (change none = some _ at hx; cases hx; done)
    | with_reducible exact allocL_ok hs hf0 hx
    | with_reducible exact allocH_ok hs hf0 hx
    | with_reducible exact boxL_ok hs hf0 hx
    | with_reducible exact boxH_ok hs hf0 hx
    | with_reducible exact brow_ok hs hf0 hx
    | with_reducible exact store_ok hs hf0 hx
    | with_reducible exact storeA_ok hs hf0 hx
    | with_reducible exact cvSB_ok hs hf0 hx
    | with_reducible exact mkmap_ok hs hf0 hx
    | with_reducible exact mkslice_ok hs hf0 hx
    | with_reducible exact mapup_ok hs hf0 hx
    | with_reducible exact mapent_ok hs hf0 hx
    | with_reducible exact entst_ok hs hf0 hx
    | (exfalso; simp only [effO, Option.bind_eq_some_iff] at hx; obtain ⟨_, _, hx⟩ := hx; split at hx <;> cases hx; done)
    | (split at hf <;> first
        | (cases hf; done)
        | (change none = some _ at hx; cases hx; done)
        | with_reducible exact append_ok hs hf0 hx
        | with_reducible exact appendz_ok hs hf0 hx
        | with_reducible exact copy_ok hs hf0 hx)

/-- One operation. -/
theorem stepO_sound {call : Calls1} (hc : CallOK P call) {op : Op} {so : SO} (hf : fitO P op so = true) (hs : SR w G L σ tm) {d : Option Nat} (hd : dst = d) {out : Out} (h : stepO call σ d so = some out) {next : Act → World → Prop} {Q : Exit → Act → World → Prop}
    (hok : ∀ v w' G' L' x σ', out = .ok x σ' → TR G' w' L' x v → SR w' G' L' σ' tm → Ext w G L σ w' G' L' σ' → next (Act.put ⟨tm, ds⟩ dst v) w')
    (hpan : ∀ val v w' G' σ', out = .pan v σ' → VR G' w' v val → SR w' G' L σ' tm → Ext w G L σ w' G' L σ' → Q (.panic [{ v := val, recovered := false }]) ⟨tm, ds⟩ w') :
    Oper.wp P ⟨dst, op, ty, pos, af, gd⟩ ⟨tm, ds⟩ w next Q := by
  have good : ∀ {x : T} {σ' : St}, out = .ok x σ' → Good P ((execOp (Act.eval ⟨tm, ds⟩) ⟨dst, op, ty, pos, af, gd⟩).run P w) w G L σ tm x σ' → Oper.wp P ⟨dst, op, ty, pos, af, gd⟩ ⟨tm, ds⟩ w next Q := by
    intro x σ' ho hg
    obtain ⟨n, v, w', G', L', hr, hn, hx, h1, h2⟩ := hg
    unfold Oper.wp
    rw [hr]
    rcases hn with rfl | ⟨rfl, rfl⟩
    · exact hok v w' G' L' x σ' ho hx h1 h2
    · exact hok undef w' G' L' x σ' ho hx h1 h2
  by_cases hcall : ∃ s f a, so = .call s f a
  · obtain ⟨s, f, a, rfl⟩ := hcall
    have hop : ∃ f' args' tys, op = .call ⟨.value f', args', tys⟩ ∧ fitX f' f = true ∧ fitXs args'.toList a = true := by
      unfold fitO at hf
      split at hf <;> first
        | (cases hf; done)
        | (rename_i e; cases e; simp only [Bool.and_eq_true] at hf; exact ⟨_, _, _, rfl, hf.1, hf.2⟩)
        | contradiction
        | (rename_i b _ _; cases b <;> exact absurd hf Bool.false_ne_true)
    obtain ⟨f', args', tys, rfl, h1, h2⟩ := hop
    simp only [stepO] at h
    split at h
    · rename_i fid caps vs hfv hav
      have hfr := val_ok (ds := ds) hs.ev h1 hfv
      have har := vals_ok (ds := ds) hs.ev h2 hav
      obtain ⟨xs, hxs, efv⟩ := hfr.inv_func
      have hall := har.append hxs
      have hexec : (execOp (Act.eval ⟨tm, ds⟩) ⟨dst, .call ⟨.value f', args', tys⟩, ty, pos, af, gd⟩).run P w = (callFunc fid (args'.toList.map (Act.eval ⟨tm, ds⟩) ++ xs).toArray).run P w := by
        simp only [execOp, resolve, Deferred.ofValue, efv, Sem.run_bind, Sem.run_pure, Result.andThen_ok, invoke]
        congr 2
        apply Array.ext'; simp
      have key : ∀ {r : CR} {h' : List HO}, call fid (vs ++ caps) σ.h = some (r, h') → (∀ v, r = .ret v → out = .ok (.v v) { σ with h := h' }) → (∀ v, r = .pan v → out = .pan v { σ with h := h' }) → Oper.wp P ⟨dst, .call ⟨.value f', args', tys⟩, ty, pos, af, gd⟩ ⟨tm, ds⟩ w next Q := by
        intro r h' hcl ho hp
        rcases hc _ _ _ _ _ hcl w G _ hs.hp hall with ⟨e1, e2⟩ | ⟨x, w', e1, G', e2, e3, e4⟩
        · unfold Oper.wp
          rw [hexec, e1, Oper.upon_enter]
          refine Calls.mono e2 fun e w' hp' => ?_
          obtain ⟨G', e2, e3, e4⟩ := hp'
          obtain ⟨s1, s2⟩ := hs.called e2 e3
          cases r with
          | ret v => cases e with
            | returned x => exact hok x w' G' L _ _ (ho v rfl) (.v _ _ e4) s1 s2
            | panicked c => exact e4.elim
            | outgrown => exact e4.elim
          | pan v => cases e with
            | returned x => exact e4.elim
            | panicked c => obtain ⟨x, rfl, e5⟩ := e4; exact hpan x v w' G' _ (hp v rfl) e5 s1 s2
            | outgrown => exact e4.elim
        · unfold Oper.wp
          rw [hexec, e1, Oper.upon_value]
          obtain ⟨s1, s2⟩ := hs.called e2 e3
          cases r with
          | ret v => exact hok x w' G' L _ _ (ho v rfl) (.v _ _ e4) s1 s2
          | pan v => exact e4.elim
      split at h
      · rename_i v h' hcl
        split at h
        · cases h
        · exact key hcl (fun v' e => by cases e; exact (Option.some.inj h).symm) (fun v' e => by cases e)
      · rename_i v h' hcl
        split at h
        · cases h
        · exact key hcl (fun v' e => by cases e) (fun v' e => by cases e; exact (Option.some.inj h).symm)
      · cases h
    · cases h
  by_cases hpc : ∃ f a, so = .pcall f a
  · obtain ⟨f, a, rfl⟩ := hpc
    have hop : ∃ f' args' tys, op = .call ⟨.value f', args', tys⟩ ∧ fitX f' f = true ∧ fitXs args'.toList a = true := by
      unfold fitO at hf
      split at hf <;> first
        | (cases hf; done)
        | (rename_i e; cases e; simp only [Bool.and_eq_true] at hf; exact ⟨_, _, _, rfl, hf.1, hf.2⟩)
        | contradiction
        | (rename_i b _ _; cases b <;> exact absurd hf Bool.false_ne_true)
    obtain ⟨f', args', tys, rfl, h1, h2⟩ := hop
    simp only [stepO] at h
    split at h
    · rename_i fid caps vs hfv hav
      split at h
      · rename_i hpure
        split at h
        · rename_i v hcl
          split at h
          · rename_i hvp
            cases h
            have hfr := val_ok (ds := ds) hs.ev h1 hfv
            have har := vals_ok (ds := ds) hs.ev h2 hav
            obtain ⟨xs, hxs, efv⟩ := hfr.inv_func
            have hall := har.append hxs
            have hexec : (execOp (Act.eval ⟨tm, ds⟩) ⟨dst, .call ⟨.value f', args', tys⟩, ty, pos, af, gd⟩).run P w = (callFunc fid (args'.toList.map (Act.eval ⟨tm, ds⟩) ++ xs).toArray).run P w := by
              simp only [execOp, resolve, Deferred.ofValue, efv, Sem.run_bind, Sem.run_pure, Result.andThen_ok, invoke]
              congr 2
              apply Array.ext'; simp
            have hw0 : WR w (Gs G) [] := WRs hs.hp
            have hall0 : VRs (Gs G) w _ _ := VRs.pureTo (G := G) (G1 := Gs G) (fun _ h => h) hall hpure
            have post : ∀ {x : Value} {w' : World}, CPost w (Gs G) [] (.ret v) [] (.returned x) w' → next (Act.put ⟨tm, ds⟩ dst x) w' := by
              intro x w' hp
              obtain ⟨G', e2, e3, e4⟩ := hp
              obtain ⟨G2, g1, g2, g3⟩ := hs.pcalled (tm := tm) e2 e3
              exact hok x w' G2 L _ _ rfl (.v _ _ (VR.pureTo g3 e4 hvp)) g1 g2
            rcases hc _ _ _ _ _ hcl w (Gs G) _ hw0 hall0 with ⟨e1, e2⟩ | ⟨x, w', e1, e2⟩
            · unfold Oper.wp
              rw [hexec, e1, Oper.upon_enter]
              refine Calls.mono e2 fun e w' hp' => ?_
              cases e with
              | returned x => exact post hp'
              | panicked c => obtain ⟨_, _, _, h⟩ := hp'; exact h.elim
              | outgrown => obtain ⟨_, _, _, h⟩ := hp'; exact h.elim
            · unfold Oper.wp
              rw [hexec, e1, Oper.upon_value]
              exact post e2
          · cases h
        · cases h
      · cases h
    · cases h
  · rcases stepO_cases h (fun s f a e => hcall ⟨s, f, a, e⟩) (fun f a e => hpc ⟨f, a, e⟩) with ⟨x, hx, rfl⟩ | ⟨x, hx, rfl⟩ | hx
    · exact good rfl (pure_good hf hs hx)
    · exact good rfl (read_good hf hs hx)
    · cases out with
      | ok x σ' => exact good rfl (eff_good hf hs hd hx)
      | pan v σ' =>
        obtain ⟨y, rfl⟩ := effO_pan hx
        have hop : ∃ x, op = .panic x := by
          unfold fitO at hf
          split at hf <;> first
            | (cases hf; done)
            | (rename_i e; cases e; exact ⟨_, rfl⟩)
            | exact ⟨_, rfl⟩
                | contradiction
            | (rename_i b _ _; cases b <;> exact absurd hf Bool.false_ne_true)
        obtain ⟨x, rfl⟩ := hop
        obtain ⟨val, h1, h2, rfl⟩ := panic_ok (dst := dst) (ty := ty) (pos := pos) (af := af) (gd := gd) (ds := ds) hs hf hx
        unfold Oper.wp
        rw [h1]
        exact hpan val v w G _ rfl h2 hs (Ext.refl w G L _)
end
end Go.Vm
