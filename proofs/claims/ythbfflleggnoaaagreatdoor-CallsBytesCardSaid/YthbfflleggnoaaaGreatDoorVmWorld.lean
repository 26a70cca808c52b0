/- The VM's heap and variables beside the model's memory; what is kept when one block turns, or one is new. -/
import Derived.Test.YthbfflleggnoaaaGreatDoorVmRel
import Derived.Below
set_option linter.unusedSimpArgs false
set_option linter.unusedVariables false
namespace Go.Vm
open Go Go.RowKit

def NoFr (fr : Nat × Nat) (n : Nat) : Prop := ∀ o, o < n → ¬ (fr.1 ≤ o ∧ o < fr.2)

/-- A block of the VM's that holds just these cells. -/
def OC (G : Gh) (w : World) (B : Nat) (cs : List V) : Prop :=
  ∃ c el fr, w.heap[B]? = some (.cells c el fr) ∧ CRs G w cs c.toList ∧ NoFr fr c.size

/-- A block of the VM's that holds a row, and room behind it. -/
def OR (G : Gh) (w : World) (r : RowLoc) (l : List V) : Prop :=
  ∃ c el fr, w.heap[r.B]? = some (.cells c el fr) ∧ r.base + r.cap * r.s ≤ c.size ∧ l.length ≤ r.cap ∧ (∀ v ∈ l, v.cells.length = r.s) ∧ 0 < r.s ∧
    CRs G w (l.flatMap V.cells) ((c.toList.drop r.base).take (l.length * r.s)) ∧ NoFr fr c.size

inductive ER (G : Gh) (w : World) : List (V × V × Nat) → List MapEntry → Prop
  | nil : ER G w [] []
  | cons (k v : V) (b : Nat) (e : MapEntry) (l : List (V × V × Nat)) (es : List MapEntry) (hk : VR G w k e.key) (hv : VR G w v e.val) (hb : e.born = b) (h : ER G w l es) :
      ER G w ((k, v, b) :: l) (e :: es)

def HR (G : Gh) (w : World) (id : Nat) : HO → Prop
  | .cells cs => ∃ B, G.ob id = some B ∧ OC G w B cs
  | .row ver l => ∃ r, G.rw id ver = some r ∧ (∀ v, ver < v → G.rw id v = none) ∧ OR G w r l
  | .map es clock => ∃ B es', G.ob id = some B ∧ w.heap[B]? = some (.map es' clock) ∧ ER G w es es'.toList
  | .hole => G.ob id = none ∧ ∀ v, G.rw id v = none

/-- The block that is an object's own. -/
def ownB (G : Gh) (h : List HO) (id : Nat) : Option Nat :=
  match h[id]? with
  | some (.cells _) => G.ob id
  | some (.map _ _) => G.ob id
  | some (.row ver _) => (G.rw id ver).map (·.B)
  | _ => none

structure WR (w : World) (G : Gh) (h : List HO) : Prop where
  obj : ∀ id o, h[id]? = some o → HR G w id o
  dom : ∀ id, h.length ≤ id → G.ob id = none ∧ ∀ v, G.rw id v = none
  inj : ∀ i j B, ownB G h i = some B → ownB G h j = some B → i = j
  ost : ∀ i B, ownB G h i = some B → ¬ G.st B
  stl : ∀ B, G.st B → B < w.heap.size

theorem OC.mono {G G' : Gh} {w w' : World} {B : Nat} {cs : List V} (h : OC G w B cs) (hle : Le G w G' w') (he : w'.heap[B]? = w.heap[B]?) : OC G' w' B cs := by
  obtain ⟨c, el, fr, hb, hc, hf⟩ := h
  exact ⟨c, el, fr, he.trans hb, CRs.mono hle hc, hf⟩
theorem OR.mono {G G' : Gh} {w w' : World} {r : RowLoc} {l : List V} (h : OR G w r l) (hle : Le G w G' w') (he : w'.heap[r.B]? = w.heap[r.B]?) : OR G' w' r l := by
  obtain ⟨c, el, fr, hb, h1, h2, h3, h4, hc, hf⟩ := h
  exact ⟨c, el, fr, he.trans hb, h1, h2, h3, h4, CRs.mono hle hc, hf⟩
theorem ER.mono {G G' : Gh} {w w' : World} (hle : Le G w G' w') {l : List (V × V × Nat)} {es : List MapEntry} (h : ER G w l es) : ER G' w' l es := by
  induction h with
  | nil => exact .nil
  | cons k v b e l es hk hv hb _ ih => exact .cons k v b e l es (VR.mono hle hk) (VR.mono hle hv) hb ih

theorem lt_of_block {w : World} {B : Nat} {o : Obj} (h : w.heap[B]? = some o) : B < w.heap.size := by
  rcases Nat.lt_or_ge B w.heap.size with hl | hl
  · exact hl
  · rw [Array.getElem?_eq_none hl] at h; cases h

/-- An object's own block is there. -/
theorem HR.own_lt {G : Gh} {w : World} {h : List HO} {id B : Nat} {o : HO} (hr : HR G w id o) (ho : h[id]? = some o) (hb : ownB G h id = some B) : B < w.heap.size := by
  unfold ownB at hb
  rw [ho] at hb
  cases o with
  | cells cs => obtain ⟨B', e, c, el, fr, hh, _⟩ := hr; dsimp only at hb; rw [e] at hb; cases hb; exact lt_of_block hh
  | row ver l => obtain ⟨r, e, _, c, el, fr, hh, _⟩ := hr; dsimp only at hb; rw [e] at hb; cases hb; exact lt_of_block hh
  | map es k => obtain ⟨B', es', e, hh, _⟩ := hr; dsimp only at hb; rw [e] at hb; cases hb; exact lt_of_block hh
  | hole => cases hb

theorem WR.own_lt {w : World} {G : Gh} {h : List HO} (hw : WR w G h) {id B : Nat} (hb : ownB G h id = some B) : B < w.heap.size := by
  cases ho : h[id]? with
  | none => unfold ownB at hb; rw [ho] at hb; cases hb
  | some o => exact (hw.obj id o ho).own_lt ho hb

theorem HR.mono {G G' : Gh} {w w' : World} {h : List HO} {id : Nat} {o : HO} (hr : HR G w id o) (ho : h[id]? = some o) (hle : Le G w G' w')
    (hag : G'.ob id = G.ob id ∧ ∀ v, G'.rw id v = G.rw id v) (he : ∀ B, ownB G h id = some B → w'.heap[B]? = w.heap[B]?) : HR G' w' id o := by
  have he' := he
  unfold ownB at he'
  rw [ho] at he'
  cases o with
  | cells cs => obtain ⟨B, e, hc⟩ := hr; exact ⟨B, hag.1.trans e, hc.mono hle (he' B e)⟩
  | row ver l => obtain ⟨r, e, hn, hc⟩ := hr; exact ⟨r, (hag.2 ver).trans e, fun v hv => (hag.2 v).trans (hn v hv), hc.mono hle (he' r.B (by dsimp only; rw [e]; rfl))⟩
  | map es k => obtain ⟨B, es', e, hc, h2⟩ := hr; exact ⟨B, es', hag.1.trans e, (he' B e).trans hc, h2.mono hle⟩
  | hole => exact ⟨hag.1.trans hr.1, fun v => (hag.2 v).trans (hr.2 v)⟩

theorem ownB_agree {G G' : Gh} {h h' : List HO} {id : Nat} (hag : G'.ob id = G.ob id ∧ ∀ v, G'.rw id v = G.rw id v) (hh : h'[id]? = h[id]?) : ownB G' h' id = ownB G h id := by
  unfold ownB
  rw [hh]
  split <;> first | exact hag.1 | (rw [hag.2]) | rfl

/-- One object turns, or comes. -/
theorem WR.put {w w' : World} {G G' : Gh} {h h' : List HO} {id : Nat} {o' : HO} (hw : WR w G h) (hle : Le G w G' w') (hsz : w.heap.size ≤ w'.heap.size)
    (hst : ∀ B, G'.st B → G.st B) (hag : ∀ j, j ≠ id → G'.ob j = G.ob j ∧ ∀ v, G'.rw j v = G.rw j v)
    (hid : h'[id]? = some o') (hoth : ∀ j, j ≠ id → h'[j]? = h[j]?)
    (hfr : ∀ B, B < w.heap.size → ownB G h id ≠ some B → w'.heap[B]? = w.heap[B]?)
    (hnew : HR G' w' id o')
    (hB : ∀ B, ownB G' h' id = some B → ownB G h id = some B ∨ w.heap.size ≤ B) : WR w' G' h' := by
  have own : ∀ j, j ≠ id → ownB G' h' j = ownB G h j := fun j hj => ownB_agree (hag j hj) (hoth j hj)
  refine ⟨?_, ?_, ?_, ?_, fun B hB' => Nat.lt_of_lt_of_le (hw.stl B (hst B hB')) hsz⟩
  · intro j o hj
    by_cases e : j = id
    · subst e; rw [hid] at hj; cases hj; exact hnew
    · rw [hoth j e] at hj
      refine (hw.obj j o hj).mono hj hle (hag j e) fun B hB' => hfr B (hw.own_lt hB') fun hc => e (hw.inj j id B hB' hc)
  · intro j hj
    have e : j ≠ id := by
      intro e; subst e
      rw [List.getElem?_eq_none hj] at hid; cases hid
    have h1 := hoth j e
    rw [List.getElem?_eq_none hj] at h1
    have h2 : h.length ≤ j := by
      rcases Nat.lt_or_ge j h.length with hl | hl
      · rw [List.getElem?_eq_getElem hl] at h1; cases h1
      · exact hl
    have := hw.dom j h2
    exact ⟨(hag j e).1.trans this.1, fun v => ((hag j e).2 v).trans (this.2 v)⟩
  · intro i j B hi hj
    by_cases ei : i = id
    · by_cases ej : j = id
      · rw [ei, ej]
      · subst ei
        rw [own j ej] at hj
        rcases hB B hi with hc | hc
        · exact hw.inj _ _ B hc hj
        · exact absurd (hw.own_lt hj) (by omega)
    · by_cases ej : j = id
      · subst ej
        rw [own i ei] at hi
        rcases hB B hj with hc | hc
        · exact hw.inj _ _ B hi hc
        · exact absurd (hw.own_lt hi) (by omega)
      · rw [own i ei] at hi; rw [own j ej] at hj; exact hw.inj _ _ B hi hj
  · intro i B hi hs
    by_cases ei : i = id
    · subst ei
      rcases hB B hi with hc | hc
      · exact hw.ost _ B hc (hst B hs)
      · exact absurd (hw.stl B (hst B hs)) (by omega)
    · rw [own i ei] at hi; exact hw.ost _ B hi (hst B hs)

/-- Nothing of the heap's own turns. -/
theorem WR.keep {w w' : World} {G G' : Gh} {h : List HO} (hw : WR w G h) (hle : Le G w G' w') (hsz : w.heap.size ≤ w'.heap.size)
    (hst : ∀ B, G'.st B → B < w'.heap.size ∧ ∀ id, ownB G h id ≠ some B) (hag : ∀ j, G'.ob j = G.ob j ∧ ∀ v, G'.rw j v = G.rw j v)
    (hfr : ∀ id B, ownB G h id = some B → w'.heap[B]? = w.heap[B]?) : WR w' G' h := by
  have own : ∀ j, ownB G' h j = ownB G h j := fun j => ownB_agree (hag j) rfl
  refine ⟨fun j o hj => (hw.obj j o hj).mono hj hle (hag j) fun B hB => hfr j B hB, fun j hj => ?_, fun i j B hi hj => ?_, fun i B hi hs => ?_, fun B hB => (hst B hB).1⟩
  · have := hw.dom j hj
    exact ⟨(hag j).1.trans this.1, fun v => ((hag j).2 v).trans (this.2 v)⟩
  · rw [own] at hi hj; exact hw.inj _ _ B hi hj
  · rw [own] at hi; exact (hst B hs).2 i hi

/-! ### the variables of a call -/

abbrev Lm := Nat → Nat → Option Nat

structure LR (w : World) (G : Gh) (L : Lm) (σ : St) : Prop where
  obj : ∀ d g cs, σ.m d = some (g, cs) → ∃ B, L d g = some B ∧ OC G w B cs ∧ ¬ G.st B ∧ ∀ id, ownB G σ.h id ≠ some B
  inj : ∀ d d' g g' cs cs' B, σ.m d = some (g, cs) → σ.m d' = some (g', cs') → L d g = some B → L d' g' = some B → d = d'
  fresh : ∀ d g, σ.g ≤ g → L d g = none

inductive TR (G : Gh) (w : World) (L : Lm) : T → Value → Prop
  | v (v : V) (x : Value) (h : VR G w v x) : TR G w L (.v v) x
  | loc (d g off B : Nat) (h : L d g = some B) : TR G w L (.loc d g off) (.pointer (some ⟨B, off, none⟩))

def ERel (G : Gh) (w : World) (L : Lm) (e : Nat → T) (tm : Array Value) : Prop := ∀ t, TR G w L (e t) (tm.getD t undef)

structure SR (w : World) (G : Gh) (L : Lm) (σ : St) (tm : Array Value) : Prop where
  hp : WR w G σ.h
  lc : LR w G L σ
  ev : ERel G w L σ.e tm

theorem TR.mono {G G' : Gh} {w w' : World} {L L' : Lm} {x : T} {v : Value} (h : TR G w L x v) (hle : Le G w G' w') (hL : ∀ d g B, L d g = some B → L' d g = some B) : TR G' w' L' x v := by
  cases h with
  | v v x h => exact .v _ _ (VR.mono hle h)
  | loc d g off B h => exact .loc d g off B (hL _ _ _ h)

/-- What a step may do to memory. -/
structure Ext (w : World) (G : Gh) (L : Lm) (σ : St) (w' : World) (G' : Gh) (L' : Lm) (σ' : St) : Prop where
  os : w'.os = w.os
  tape : w'.tape = w.tape
  output : w'.output = w.output
  sz : w.heap.size ≤ w'.heap.size
  fr : ∀ B, B < w.heap.size → (∀ id, ownB G σ.h id ≠ some B) → (∀ d g cs, σ.m d = some (g, cs) → L d g ≠ some B) → w'.heap[B]? = w.heap[B]?
  st : ∀ B, G.st B → G'.st B
  ob : ∀ id B, G.ob id = some B → G'.ob id = some B
  rw : ∀ id v r, G.rw id v = some r → G'.rw id v = some r
  lm : ∀ d g B, L d g = some B → L' d g = some B
  stn : ∀ B, G'.st B → G.st B ∨ w.heap.size ≤ B
  own : ∀ id B, ownB G' σ'.h id = some B → (∃ j, ownB G σ.h j = some B) ∨ w.heap.size ≤ B
  loc : ∀ d g cs B, σ'.m d = some (g, cs) → L' d g = some B → (∃ d g cs, σ.m d = some (g, cs) ∧ L d g = some B) ∨ w.heap.size ≤ B

theorem Ext.refl (w : World) (G : Gh) (L : Lm) (σ : St) : Ext w G L σ w G L σ :=
  ⟨rfl, rfl, rfl, Nat.le_refl _, fun _ _ _ _ => rfl, fun _ h => h, fun _ _ h => h, fun _ _ _ h => h, fun _ _ _ h => h, fun _ h => .inl h, fun id _ h => .inl ⟨id, h⟩, fun d g cs _ h h' => .inl ⟨d, g, cs, h, h'⟩⟩

theorem Ext.trans {w w' w'' : World} {G G' G'' : Gh} {L L' L'' : Lm} {σ σ' σ'' : St} (h : Ext w G L σ w' G' L' σ') (h' : Ext w' G' L' σ' w'' G'' L'' σ'') : Ext w G L σ w'' G'' L'' σ'' := by
  refine ⟨h'.os.trans h.os, h'.tape.trans h.tape, h'.output.trans h.output, Nat.le_trans h.sz h'.sz, ?_, fun B hB => h'.st B (h.st B hB), fun id B e => h'.ob _ _ (h.ob _ _ e),
    fun id v r e => h'.rw _ _ _ (h.rw _ _ _ e), fun d g B e => h'.lm _ _ _ (h.lm _ _ _ e), ?_, ?_, ?_⟩
  · intro B hB h1 h2
    refine (h'.fr B (Nat.lt_of_lt_of_le hB h.sz) ?_ ?_).trans (h.fr B hB h1 h2)
    · intro id e
      rcases h.own id B e with ⟨j, hj⟩ | hg
      · exact h1 j hj
      · omega
    · intro d g cs e e2
      rcases h.loc d g cs B e e2 with ⟨d, g, cs, h3, h4⟩ | hg
      · exact h2 d g cs h3 h4
      · omega
  · intro B hB
    rcases h'.stn B hB with h1 | h1
    · exact h.stn B h1
    · exact .inr (Nat.le_trans h.sz h1)
  · intro id B e
    rcases h'.own id B e with ⟨j, hj⟩ | hg
    · exact h.own j B hj
    · exact .inr (Nat.le_trans h.sz hg)
  · intro d g cs B e e2
    rcases h'.loc d g cs B e e2 with ⟨d, g, cs, h3, h4⟩ | hg
    · exact h.loc d g cs B h3 h4
    · exact .inr (Nat.le_trans h.sz hg)

theorem Ext.le {w w' : World} {G G' : Gh} {L L' : Lm} {σ σ' : St} {tm : Array Value} (h : Ext w G L σ w' G' L' σ') (hs : SR w G L σ tm) : Le G w G' w' := by
  refine ⟨h.st, fun B hB => h.fr B (hs.hp.stl B hB) (fun id e => hs.hp.ost id B e hB) ?_, h.ob, h.rw⟩
  intro d g cs e e2
  obtain ⟨B', e3, _, hn, _⟩ := hs.lc.obj d g cs e
  rw [e3] at e2; cases e2; exact hn hB

def putT (tm : Array Value) (d : Option Nat) (v : Value) : Array Value :=
  match d with
  | some d => tm.setIfInBounds d v
  | none => tm

theorem SR.put {w : World} {G : Gh} {L : Lm} {σ : St} {tm : Array Value} (hs : SR w G L σ tm) {d : Option Nat} {x : T} {v : Value} (h : TR G w L x v) (hd : ∀ t, d = some t → t < tm.size) :
    SR w G L (σ.put d x) (putT tm d v) := by
  cases d with
  | none => exact hs
  | some d =>
    refine ⟨hs.hp, ⟨hs.lc.obj, hs.lc.inj, hs.lc.fresh⟩, ?_⟩
    intro t
    have hdt := hd d rfl
    show TR G w L (bif t == d then x else σ.e t) ((tm.setIfInBounds d v).getD t undef)
    by_cases e : t = d
    · subst e
      simp only [beq_self_eq_true, cond_true]
      simpa [Array.getD_eq_getD_getElem?, hdt] using h
    · have e1 : (t == d) = false := by simpa using e
      rw [e1, cond_false]
      have := hs.ev t
      simpa [Array.getD_eq_getD_getElem?, Array.getElem?_setIfInBounds_ne (Ne.symm e)] using this

theorem Ext.put {w w' : World} {G G' : Gh} {L L' : Lm} {σ σ' : St} (h : Ext w G L σ w' G' L' σ') (d : Option Nat) (x : T) : Ext w G L σ w' G' L' (σ'.put d x) := by
  cases d with
  | none => exact h
  | some d => exact ⟨h.os, h.tape, h.output, h.sz, h.fr, h.st, h.ob, h.rw, h.lm, h.stn, h.own, h.loc⟩

end Go.Vm
