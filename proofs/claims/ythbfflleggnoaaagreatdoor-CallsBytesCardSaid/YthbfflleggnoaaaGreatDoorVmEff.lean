/- New blocks, and stores. -/
import Derived.Test.YthbfflleggnoaaaGreatDoorVmMem
set_option linter.unusedSimpArgs false
set_option linter.unusedVariables false
namespace Go.Vm
open Go Go.RowKit

def pushB (w : World) (o : Obj) : World := { w with heap := w.heap.push o }
def setB (w : World) (B : Nat) (o : Obj) : World := { w with heap := w.heap.setIfInBounds B o }

def Gh.setOb (G : Gh) (id B : Nat) : Gh := { G with ob := fun i => if i = id then some B else G.ob i }
def Gh.setRw (G : Gh) (id ver : Nat) (r : RowLoc) : Gh := { G with rw := fun i v => if i = id ∧ v = ver then some r else G.rw i v }
def Gh.addSt (G : Gh) (B : Nat) : Gh := { G with st := fun b => G.st b ∨ b = B }
def Lm.set (L : Lm) (d g B : Nat) : Lm := fun d' g' => if d' = d ∧ g' = g then some B else L d' g'

section
variable {P : Program} {G : Gh} {w : World} {L : Lm} {σ : St} {tm : Array Value} {ds : List Deferred}
variable {dst : Option Tmp} {ty : TypeId} {pos : String} {af : Array Edge} {gd : Option (Nat × Bool)}

theorem push_new (o : Obj) : (pushB w o).heap[w.heap.size]? = some o := by
  show (w.heap.push o)[w.heap.size]? = some o
  rw [Array.getElem?_push, if_pos rfl]
theorem push_old (o : Obj) {B : Nat} (h : B < w.heap.size) : (pushB w o).heap[B]? = w.heap[B]? := by
  simp only [pushB]; rw [Array.getElem?_push, if_neg (by omega)]
theorem push_size (o : Obj) : (pushB w o).heap.size = w.heap.size + 1 := by simp [pushB]
theorem set_new {B : Nat} (o : Obj) (h : B < w.heap.size) : (setB w B o).heap[B]? = some o := by simp [setB, h]
theorem set_old {B B' : Nat} (o : Obj) (h : B' ≠ B) : (setB w B o).heap[B']? = w.heap[B']? := by
  simp only [setB]; rw [Array.getElem?_setIfInBounds_ne (Ne.symm h)]
theorem set_size {B : Nat} (o : Obj) : (setB w B o).heap.size = w.heap.size := by simp [setB]

/-- A block comes that the VM's relation doesn't tell of, or tells of anew: what was known is known yet. -/
theorem SR.le_push (hs : SR w G L σ tm) (o : Obj) {G' : Gh} (hst : ∀ B, G.st B → G'.st B) (hob : ∀ id B, G.ob id = some B → G'.ob id = some B) (hrw : ∀ id v r, G.rw id v = some r → G'.rw id v = some r) :
    Le G w G' (pushB w o) := ⟨hst, fun B hB => push_old o (hs.hp.stl B hB), hob, hrw⟩

theorem LR.push (hs : SR w G L σ tm) (o : Obj) {G' : Gh} {h' : List HO} (hle : Le G w G' (pushB w o)) (hst : ∀ B, G'.st B → G.st B ∨ w.heap.size ≤ B)
    (hown : ∀ id B, ownB G' h' id = some B → (∃ j, ownB G σ.h j = some B) ∨ w.heap.size ≤ B) {σ' : St} (hm : σ'.m = σ.m) (hg : σ'.g = σ.g) (hh : σ'.h = h') : LR (pushB w o) G' L σ' := by
  refine ⟨?_, ?_, ?_⟩
  · intro d g cs hd
    rw [hm] at hd
    obtain ⟨B, h1, h2, h3, h4⟩ := hs.lc.obj d g cs hd
    have hlt : B < w.heap.size := by obtain ⟨c, el, fr, hb, _⟩ := h2; exact lt_of_block hb
    refine ⟨B, h1, h2.mono hle (push_old o hlt), ?_, ?_⟩
    · intro hc; rcases hst B hc with h | h
      · exact h3 h
      · omega
    · intro id hc; rw [hh] at hc
      rcases hown id B hc with ⟨j, hj⟩ | h
      · exact h4 j hj
      · omega
  · intro d d' g g' cs cs' B h1 h2; rw [hm] at h1 h2; exact hs.lc.inj d d' g g' cs cs' B h1 h2
  · intro d g h; rw [hg] at h; exact hs.lc.fresh d g h

/-- A block of which nothing is told. -/
theorem SR.pushNone (hs : SR w G L σ tm) (o : Obj) : SR (pushB w o) G L σ tm ∧ Ext w G L σ (pushB w o) G L σ := by
  have hle := hs.le_push o (G' := G) (fun _ h => h) (fun _ _ h => h) (fun _ _ _ h => h)
  refine ⟨⟨hs.hp.keep hle (by rw [push_size]; omega) (fun B hB => ⟨by rw [push_size]; have := hs.hp.stl B hB; omega, fun id e => hs.hp.ost id B e hB⟩) (fun _ => ⟨rfl, fun _ => rfl⟩) (fun id B hB => push_old o (hs.hp.own_lt hB)),
    LR.push hs o hle (fun _ h => .inl h) (fun id B h => .inl ⟨id, h⟩) rfl rfl rfl, fun t => (hs.ev t).mono hle fun _ _ _ h => h⟩, ?_⟩
  refine ⟨rfl, rfl, rfl, by rw [push_size]; omega, fun B hB _ _ => push_old o hB, fun _ h => h, fun _ _ h => h, fun _ _ _ h => h, fun _ _ _ h => h, fun _ h => .inl h, fun id B h => .inl ⟨id, h⟩, fun d g cs B h1 h2 => .inl ⟨d, g, cs, h1, h2⟩⟩

/-- A block that is only read from now on. -/
theorem SR.pushSt (hs : SR w G L σ tm) (o : Obj) : SR (pushB w o) (G.addSt w.heap.size) L σ tm ∧ Ext w G L σ (pushB w o) (G.addSt w.heap.size) L σ := by
  have hle := hs.le_push o (G' := G.addSt w.heap.size) (fun _ h => .inl h) (fun _ _ h => h) (fun _ _ _ h => h)
  have hown : ∀ id, ownB (G.addSt w.heap.size) σ.h id = ownB G σ.h id := fun id => rfl
  refine ⟨⟨hs.hp.keep hle (by rw [push_size]; omega) (fun B hB => ?_) (fun _ => ⟨rfl, fun _ => rfl⟩) (fun id B hB => push_old o (hs.hp.own_lt hB)),
    LR.push hs o hle (fun B h => h.imp id (fun e => by omega)) (fun id B h => .inl ⟨id, h⟩) rfl rfl rfl, fun t => (hs.ev t).mono hle fun _ _ _ h => h⟩, ?_⟩
  · rw [push_size]
    rcases hB with h | h
    · exact ⟨by have := hs.hp.stl B h; omega, fun id e => hs.hp.ost id B e h⟩
    · subst h; exact ⟨by omega, fun id e => by have := hs.hp.own_lt e; omega⟩
  · exact ⟨rfl, rfl, rfl, by rw [push_size]; omega, fun B hB _ _ => push_old o hB, fun _ h => .inl h, fun _ _ h => h, fun _ _ _ h => h, fun _ _ _ h => h, fun B h => h.imp id (fun e => by omega), fun id B h => .inl ⟨id, h⟩, fun d g cs B h1 h2 => .inl ⟨d, g, cs, h1, h2⟩⟩

/-- A variable of the call's own comes. -/
theorem SR.pushLocal (hs : SR w G L σ tm) {d : Nat} {cs : List V} {c : Array Value} {el : TypeId} (hc : CRs G w cs c.toList) :
    SR (pushB w (.cells c el)) G (L.set d σ.g w.heap.size) { σ with m := upd σ.m d (some (σ.g, cs)), g := σ.g + 1 } tm ∧
    Ext w G L σ (pushB w (.cells c el)) G (L.set d σ.g w.heap.size) { σ with m := upd σ.m d (some (σ.g, cs)), g := σ.g + 1 } := by
  obtain ⟨⟨hp, lc, ev⟩, hext⟩ := hs.pushNone (.cells c el)
  have hle := hext.le hs
  have hL : ∀ d' g' B, L d' g' = some B → L.set d σ.g w.heap.size d' g' = some B := by
    intro d' g' B h
    unfold Lm.set
    rw [if_neg]
    · exact h
    · rintro ⟨rfl, rfl⟩; rw [hs.lc.fresh _ _ (Nat.le_refl _)] at h; cases h
  have old : ∀ {d' g' : Nat} {cs' : List V} {B : Nat}, σ.m d' = some (g', cs') → L d' g' = some B → B < w.heap.size := by
    intro d' g' cs' B h1 h2
    obtain ⟨B', h3, ⟨c, el, fr, hb, _⟩, _⟩ := hs.lc.obj _ _ _ h1
    rw [h2] at h3; cases h3
    exact lt_of_block hb
  have get : ∀ {d' g' : Nat} {cs' : List V}, upd σ.m d (some (σ.g, cs)) d' = some (g', cs') → (d' = d ∧ g' = σ.g ∧ cs' = cs) ∨ (d' ≠ d ∧ σ.m d' = some (g', cs')) := by
    intro d' g' cs' h
    unfold upd at h
    by_cases e : d' = d
    · subst e; simp only [beq_self_eq_true, cond_true, Option.some.injEq, Prod.mk.injEq] at h; exact .inl ⟨rfl, h.1.symm, h.2.symm⟩
    · have e1 : (d' == d) = false := by simpa using e
      rw [e1, cond_false] at h; exact .inr ⟨e, h⟩
  refine ⟨⟨hp, ⟨?_, ?_, ?_⟩, fun t => (hs.ev t).mono hle hL⟩, ?_⟩
  · intro d' g' cs' h
    rcases get h with ⟨rfl, rfl, rfl⟩ | ⟨hne, h⟩
    · refine ⟨w.heap.size, by simp [Lm.set], ⟨c, el, (0, 0), push_new _, CRs.mono hle hc, fun o _ hh => by omega⟩, fun hst => by have := hs.hp.stl _ hst; omega, fun id e => by have := hs.hp.own_lt e; omega⟩
    · obtain ⟨B, h1, h2⟩ := lc.obj d' g' cs' h
      exact ⟨B, hL _ _ _ h1, h2⟩
  · intro d1 d2 g1 g2 cs1 cs2 B h1 h2 h3 h4
    rcases get h1 with ⟨e1, e2, e3⟩ | ⟨n1, k1⟩
    · rcases get h2 with ⟨e4, e5, e6⟩ | ⟨n2, k2⟩
      · rw [e1, e4]
      · exfalso
        rw [e1, e2] at h3
        have e3 : B = w.heap.size := by simpa [Lm.set] using h3.symm
        obtain ⟨B', h5, _⟩ := hs.lc.obj _ _ _ k2
        have h6 := hL _ _ _ h5
        rw [h4] at h6; cases h6
        have := old k2 h5; omega
    · rcases get h2 with ⟨e4, e5, e6⟩ | ⟨n2, k2⟩
      · exfalso
        rw [e4, e5] at h4
        have e3 : B = w.heap.size := by simpa [Lm.set] using h4.symm
        obtain ⟨B', h5, _⟩ := hs.lc.obj _ _ _ k1
        have h6 := hL _ _ _ h5
        rw [h3] at h6; cases h6
        have := old k1 h5; omega
      · obtain ⟨B1, h5, _⟩ := hs.lc.obj _ _ _ k1
        obtain ⟨B2, h6, _⟩ := hs.lc.obj _ _ _ k2
        have e5 := hL _ _ _ h5; have e6 := hL _ _ _ h6
        rw [h3] at e5; rw [h4] at e6; cases e5; cases e6
        exact hs.lc.inj _ _ _ _ _ _ _ k1 k2 h5 h6
  · intro d' g' h
    have h' : σ.g + 1 ≤ g' := h
    show L.set d σ.g w.heap.size d' g' = none
    unfold Lm.set
    rw [if_neg (by rintro ⟨_, rfl⟩; omega)]
    exact hs.lc.fresh d' g' (by omega)
  · refine ⟨rfl, rfl, rfl, hext.sz, hext.fr, fun _ h => h, fun _ _ h => h, fun _ _ _ h => h, hL, fun _ h => .inl h, fun id B h => .inl ⟨id, h⟩, ?_⟩
    intro d' g' cs' B h1 h2
    rcases get h1 with ⟨rfl, rfl, rfl⟩ | ⟨hne, h1⟩
    · have e3 : B = w.heap.size := by simpa [Lm.set] using h2.symm
      exact .inr (by omega)
    · obtain ⟨B', h5, _⟩ := hs.lc.obj _ _ _ h1
      have h6 := hL _ _ _ h5
      rw [h2] at h6; cases h6
      exact .inl ⟨d', g', cs', h1, h5⟩

/-- An object of the heap comes, at a place where none is. -/
theorem SR.pushHeap (hs : SR w G L σ tm) {o : Obj} {G' : Gh} {h' : List HO} {id : Nat} {o' : HO} (hle : Le G w G' (pushB w o)) (hst : ∀ B, G'.st B → G.st B)
    (hag : ∀ j, j ≠ id → G'.ob j = G.ob j ∧ ∀ v, G'.rw j v = G.rw j v) (hid : h'[id]? = some o') (hoth : ∀ j, j ≠ id → h'[j]? = σ.h[j]?) (hnew : HR G' (pushB w o) id o')
    (hB : ∀ B, ownB G' h' id = some B → w.heap.size ≤ B) {rb : Nat} :
    SR (pushB w o) G' L { σ with h := h', rb := rb } tm ∧ Ext w G L σ (pushB w o) G' L { σ with h := h', rb := rb } := by
  have hp : WR (pushB w o) G' h' := hs.hp.put hle (by rw [push_size]; omega) hst hag hid hoth (fun B hB _ => push_old o hB) hnew (fun B hB' => .inr (hB B hB'))
  have hown : ∀ j B, ownB G' h' j = some B → (∃ j, ownB G σ.h j = some B) ∨ w.heap.size ≤ B := by
    intro j B hj
    by_cases e : j = id
    · subst e; exact .inr (hB B hj)
    · rw [ownB_agree (hag j e) (hoth j e)] at hj; exact .inl ⟨j, hj⟩
  refine ⟨⟨hp, LR.push hs o hle (fun B h => .inl (hst B h)) hown rfl rfl rfl, fun t => (hs.ev t).mono hle fun _ _ _ h => h⟩, ?_⟩
  exact ⟨rfl, rfl, rfl, by rw [push_size]; omega, fun B hB _ _ => push_old o hB, hle.st, hle.ob, hle.rw, fun _ _ _ h => h, fun B h => .inl (hst B h), hown, fun d g cs B h1 h2 => .inl ⟨d, g, cs, h1, h2⟩⟩

end
end Go.Vm
