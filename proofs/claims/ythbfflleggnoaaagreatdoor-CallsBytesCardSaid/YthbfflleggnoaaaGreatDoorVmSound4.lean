/- The VM is right: what a call leaves. -/
import Derived.Test.YthbfflleggnoaaaGreatDoorVmSound3
set_option linter.unusedSimpArgs false
set_option linter.unusedVariables false
namespace Go.Vm
open Go Go.RowKit

/-! ### values that name no block from a number on -/
mutual
def V.nb (n : Nat) : V → Prop
  | .ptr id _ => id < n
  | .eptr id _ _ _ => id < n
  | .sl id _ _ _ _ => id < n
  | .map id => id < n
  | .cref l => V.nbs n l
  | .snap l => V.nbcs n l
  | .func _ l => V.nbs n l
  | .iface _ v => V.nb n v
  | .agg l => V.nbs n l
  | .tuple l => V.nbs n l
  | _ => True
def V.nbs (n : Nat) : List V → Prop
  | [] => True
  | v :: r => V.nb n v ∧ V.nbs n r
def V.nbcs (n : Nat) : List V → Prop
  | [] => True
  | v :: r => V.nbc n v ∧ V.nbcs n r
def V.nbc (n : Nat) : V → Prop
  | .tuple _ => True
  | .ptr id _ => id < n
  | .eptr id _ _ _ => id < n
  | .sl id _ _ _ _ => id < n
  | .map id => id < n
  | .cref l => V.nbs n l
  | .snap l => V.nbcs n l
  | .func _ l => V.nbs n l
  | .iface _ v => V.nb n v
  | .agg l => V.nbs n l
  | _ => True
end

theorem belows_append {n : Nat} : ∀ {a b : List V}, V.nbs n (a ++ b) ↔ V.nbs n a ∧ V.nbs n b
  | [], b => by simp [V.nbs]
  | x :: a, b => by simp only [List.cons_append, V.nbs]; rw [belows_append]; exact and_assoc.symm

theorem belowc_cells {n : Nat} : ∀ v : V, V.nbc n v ↔ V.nbs n v.cells := by
  intro v
  cases v <;> simp [V.nbc, V.cells, V.nbs, V.nb]

theorem belowcs_flat {n : Nat} : ∀ l : List V, V.nbcs n l ↔ V.nbs n (l.flatMap V.cells)
  | [] => by simp [V.nbcs, V.nbs]
  | v :: l => by
    simp only [V.nbcs, List.flatMap_cons]
    rw [belows_append, belowc_cells, belowcs_flat l]

def Dom (n : Nat) (G : Gh) : Prop := ∀ id, n ≤ id → G.ob id = none ∧ ∀ v, G.rw id v = none

theorem Dom.ob {n : Nat} {G : Gh} (h : Dom n G) {id B : Nat} (e : G.ob id = some B) : id < n := by
  rcases Nat.lt_or_ge id n with hl | hl
  · exact hl
  · rw [(h id hl).1] at e; cases e
theorem Dom.rw {n : Nat} {G : Gh} (h : Dom n G) {id v : Nat} {r : RowLoc} (e : G.rw id v = some r) : id < n := by
  rcases Nat.lt_or_ge id n with hl | hl
  · exact hl
  · rw [(h id hl).2] at e; cases e

mutual
theorem VR.nb {n : Nat} {G : Gh} {w : World} (hd : Dom n G) {v : V} {x : Value} : VR G w v x → v.nb n
  | .undef x => trivial
  | .bool b => trivial
  | .int k n => trivial
  | .float k n => trivial
  | .str s b h => trivial
  | .nilp => trivial
  | .ptr id off B h => hd.ob h
  | .cref cs B off xs hs hc h => CRs.nb hd h
  | .eptr id ver i off r h => hd.rw h
  | .nils => trivial
  | .snil a c => by simp only [V.nb, V.nbcs]
  | .snap l B off s cap xs hs hc hl hc' h => by simp only [V.nb]; exact (belowcs_flat l).2 (CRs.nb hd h)
  | .sl id ver off len cap r a h hl hc ha => hd.rw h
  | .nilm => trivial
  | .map id B h => hd.ob h
  | .nilf => trivial
  | .func f caps xs h => VRs.nb hd h
  | .nili => trivial
  | .iface t v x h => by simp only [V.nb]; exact VR.nb hd h
  | .agg cs xs h => CRs.nb hd h
  | .tuple vs xs h => VRs.nb hd h
theorem VRs.nb {n : Nat} {G : Gh} {w : World} (hd : Dom n G) {v : List V} {x : List Value} : VRs G w v x → V.nbs n v
  | .nil => by simp only [V.nbs]
  | .cons v x vs xs h hs => by simp only [V.nbs]; exact ⟨VR.nb hd h, VRs.nb hd hs⟩
theorem CRs.nb {n : Nat} {G : Gh} {w : World} (hd : Dom n G) {v : List V} {x : List Value} : CRs G w v x → V.nbs n v
  | .nil => by simp only [V.nbs]
  | .cons v x vs xs hv hx h hs => by simp only [V.nbs]; exact ⟨VR.nb hd h, CRs.nb hd hs⟩
end

structure LeN (n : Nat) (G G' : Gh) : Prop where
  st : ∀ B, G.st B → G'.st B
  ob : ∀ id B, id < n → G.ob id = some B → G'.ob id = some B
  rw : ∀ id v r, id < n → G.rw id v = some r → G'.rw id v = some r

mutual
theorem VR.cutN {n : Nat} {G G' : Gh} {w : World} (hle : LeN n G G') {v : V} {x : Value} : VR G w v x → v.nb n → VR G' w v x
  | .undef x, _ => .undef x
  | .bool b, _ => .bool b
  | .int k n, _ => .int k n
  | .float k n, _ => .float k n
  | .str s b h, _ => .str s b h
  | .nilp, _ => .nilp
  | .ptr id off B h, hb => .ptr id off B (hle.ob _ _ (by simpa only [V.nb] using hb) h)
  | .cref cs B off xs hs hc h, hb => .cref cs B off xs (hle.st _ hs) hc (CRs.cutN hle h (by simpa only [V.nb] using hb))
  | .eptr id ver i off r h, hb => .eptr id ver i off r (hle.rw _ _ _ (by simpa only [V.nb] using hb) h)
  | .nils, _ => .nils
  | .snil a c, _ => .snil a c
  | .snap l B off s cap xs hs hc hl hc' h, hb => .snap l B off s cap xs (hle.st _ hs) hc hl hc' (CRs.cutN hle h ((belowcs_flat l).1 (by simpa only [V.nb] using hb)))
  | .sl id ver off len cap r a h hl hc ha, hb => .sl id ver off len cap r a (hle.rw _ _ _ (by simpa only [V.nb] using hb) h) hl hc ha
  | .nilm, _ => .nilm
  | .map id B h, hb => .map id B (hle.ob _ _ (by simpa only [V.nb] using hb) h)
  | .nilf, _ => .nilf
  | .func f caps xs h, hb => .func f caps xs (VRs.cutN hle h (by simpa only [V.nb] using hb))
  | .nili, _ => .nili
  | .iface t v x h, hb => .iface t v x (VR.cutN hle h (by simpa only [V.nb] using hb))
  | .agg cs xs h, hb => .agg cs xs (CRs.cutN hle h (by simpa only [V.nb] using hb))
  | .tuple vs xs h, hb => .tuple vs xs (VRs.cutN hle h (by simpa only [V.nb] using hb))
theorem VRs.cutN {n : Nat} {G G' : Gh} {w : World} (hle : LeN n G G') {v : List V} {x : List Value} : VRs G w v x → V.nbs n v → VRs G' w v x
  | .nil, _ => .nil
  | .cons v x vs xs h hs, hb => by simp only [V.nbs] at hb; exact .cons v x vs xs (VR.cutN hle h hb.1) (VRs.cutN hle hs hb.2)
theorem CRs.cutN {n : Nat} {G G' : Gh} {w : World} (hle : LeN n G G') {v : List V} {x : List Value} : CRs G w v x → V.nbs n v → CRs G' w v x
  | .nil, _ => .nil
  | .cons v x vs xs hv hx h hs, hb => by simp only [V.nbs] at hb; exact .cons v x vs xs hv hx (VR.cutN hle h hb.1) (CRs.cutN hle hs hb.2)
end

mutual
theorem pure_below (n : Nat) : ∀ v : V, v.pure = true → v.nb n
  | .undef, _ => trivial
  | .bool _, _ => trivial
  | .int _ _, _ => trivial
  | .float _ _, _ => trivial
  | .str _, _ => trivial
  | .nilp, _ => trivial
  | .ptr _ _, h => by simp [V.pure] at h
  | .cref l, h => by simp only [V.pure] at h; simp only [V.nb]; exact pures_belows n l h
  | .eptr _ _ _ _, h => by simp [V.pure] at h
  | .nils, _ => trivial
  | .snap l, h => by simp only [V.pure] at h; simp only [V.nb]; exact pures_belowcs n l h
  | .sl _ _ _ _ _, h => by simp [V.pure] at h
  | .nilm, _ => trivial
  | .map _, h => by simp [V.pure] at h
  | .nilf, _ => trivial
  | .func _ l, h => by simp only [V.pure] at h; simp only [V.nb]; exact pures_belows n l h
  | .nili, _ => trivial
  | .iface _ v, h => by simp only [V.pure] at h; simp only [V.nb]; exact pure_below n v h
  | .agg l, h => by simp only [V.pure] at h; simp only [V.nb]; exact pures_belows n l h
  | .tuple l, h => by simp only [V.pure] at h; simp only [V.nb]; exact pures_belows n l h
theorem pures_belows (n : Nat) : ∀ l : List V, V.pure.pures l = true → V.nbs n l
  | [], _ => by simp only [V.nbs]
  | v :: r, h => by simp only [V.pure.pures, Bool.and_eq_true] at h; simp only [V.nbs]; exact ⟨pure_below n v h.1, pures_belows n r h.2⟩
theorem pures_belowcs (n : Nat) : ∀ l : List V, V.pure.pures l = true → V.nbcs n l
  | [], _ => by simp only [V.nbcs]
  | v :: r, h => by
    simp only [V.pure.pures, Bool.and_eq_true] at h; simp only [V.nbcs]
    refine ⟨?_, pures_belowcs n r h.2⟩
    have hb := pure_below n v h.1
    cases v <;> first | trivial | (simp only [V.nb] at hb; simp only [V.nbc]; exact hb)
end

end Go.Vm
