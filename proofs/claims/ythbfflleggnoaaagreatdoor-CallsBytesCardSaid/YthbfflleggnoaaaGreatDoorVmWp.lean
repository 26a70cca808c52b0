/- What code comes to, as a condition on its end; loops by an invariant. -/
import Derived.Test.YthbfflleggnoaaaGreatDoorVmDraw
set_option linter.unusedSimpArgs false
set_option linter.unusedVariables false
namespace Go.Vm
open Go

def wp (r : Option (Ex × St)) (Q : Ex → St → Prop) : Prop :=
  match r with
  | some (e, σ) => Q e σ
  | none => False

@[simp] theorem wp_some (e : Ex) (σ : St) (Q : Ex → St → Prop) : wp (some (e, σ)) Q = Q e σ := rfl
@[simp] theorem wp_none (Q : Ex → St → Prop) : wp none Q = False := rfl

/-- What a round leaves: fewer rounds to come, or what follows the loop. -/
def loopQ (X : Env) (K : List It) (Q : Ex → St → Prop) (I : Nat → St → Prop) (n : Nat) (e : Ex) (σ : St) : Prop :=
  match e with
  | .normal => ∃ k, k < n ∧ I k σ
  | e => wp (contK X K e σ) Q

section
variable {X : Env} {K : List It} {Q : Ex → St → Prop} {I : Nat → St → Prop} {n : Nat} {σ : St}
@[simp] theorem loopQ_normal : loopQ X K Q I n .normal σ = ∃ k, k < n ∧ I k σ := rfl
@[simp] theorem loopQ_exit (id : Nat) : loopQ X K Q I n (.exit id) σ = wp (contK X K (.exit id) σ) Q := rfl
@[simp] theorem loopQ_ret : loopQ X K Q I n .ret σ = wp (contK X K .ret σ) Q := rfl
@[simp] theorem loopQ_pan (v : V) : loopQ X K Q I n (.pan v) σ = wp (contK X K (.pan v) σ) Q := rfl
end

theorem run_cons' {X : Env} {s : SC} {σ : St} {e : Ex} {σ' : St} (h : run X [.c s] σ = some (e, σ')) (K : List It) : run X (.c s :: K) σ = contK X K e σ' := by
  simp only [run, contK] at h ⊢
  cases hs : codeL X s σ with
  | none => rw [hs] at h; cases h
  | some q => rw [hs] at h; cases h; rfl

/-- A loop; 'I n σ': at most n rounds are to come. -/
theorem wp_loop {X : Env} {ks ls : List Nat} {body : SC} {K : List It} {Q : Ex → St → Prop} (I : Nat → St → Prop)
    (step : ∀ n σ, I n σ → wp (run X [.c body] (σ.keep ks ls)) (loopQ X K Q I n)) :
    ∀ n σ, I n σ → wp (run X (.c (.loop ks ls body) :: K) σ) Q := by
  intro n
  induction n using Nat.strongRecOn with
  | _ n ih =>
    intro σ hI
    have hs := step n σ hI
    cases hr : run X [.c body] (σ.keep ks ls) with
    | none => rw [hr] at hs; exact hs.elim
    | some q =>
      obtain ⟨e, σ'⟩ := q
      rw [hr] at hs
      rw [run_loop, run_cons' hr]
      cases e with
      | normal =>
        obtain ⟨m, hm, hI'⟩ := hs
        exact ih m hm σ' hI'
      | exit id => exact hs
      | ret => exact hs
      | pan v => exact hs

/-- A call's end. -/
def endP (sf : SF) (h : List HO) (P : CR → List HO → Prop) (e : Ex) (σ : St) : Prop :=
  match endOf sf h (some (e, σ)) with
  | some (r, h') => P r h'
  | none => False

theorem endP_ret (sf : SF) (h : List HO) (P : CR → List HO → Prop) (σ : St) : endP sf h P .ret σ = (match (results σ sf.res) with | some v => P (finish sf.keep h (.ret v) σ.h).1 (finish sf.keep h (.ret v) σ.h).2 | none => False) := by
  unfold endP
  simp only [endOf]
  cases results σ sf.res <;> rfl
theorem endP_normal (sf : SF) (h : List HO) (P : CR → List HO → Prop) (σ : St) : endP sf h P .normal σ = (match (results σ sf.res) with | some v => P (finish sf.keep h (.ret v) σ.h).1 (finish sf.keep h (.ret v) σ.h).2 | none => False) := by
  unfold endP
  simp only [endOf]
  cases results σ sf.res <;> rfl
theorem endP_pan (sf : SF) (h : List HO) (P : CR → List HO → Prop) (σ : St) (v : V) : endP sf h P (.pan v) σ = P (finish sf.keep h (.pan v) σ.h).1 (finish sf.keep h (.pan v) σ.h).2 := rfl
attribute [simp] endP_ret endP_normal endP_pan

/-- A call answers so. -/
def Ans (r : Option (CR × List HO)) (P : CR → List HO → Prop) : Prop :=
  match r with
  | some (r, h) => P r h
  | none => False

theorem Ans.eq {r : Option (CR × List HO)} {c : CR} {h : List HO} (a : Ans r fun r' h' => r' = c ∧ h' = h) : r = some (c, h) := by
  cases r with
  | none => exact a.elim
  | some q => obtain ⟨c', h'⟩ := q; obtain ⟨rfl, rfl⟩ := a; rfl

theorem Ans.ex {r : Option (CR × List HO)} {P : CR → List HO → Prop} (a : Ans r P) : ∃ c h, r = some (c, h) ∧ P c h := by
  cases r with
  | none => exact a.elim
  | some q => obtain ⟨c', h'⟩ := q; exact ⟨c', h', rfl, a⟩

theorem ans_wp {sf : SF} {h : List HO} {r : Option (Ex × St)} {P : CR → List HO → Prop} (a : wp r (endP sf h P)) : Ans (endOf sf h r) P := by
  cases r with
  | none => exact a.elim
  | some q =>
    obtain ⟨e, σ⟩ := q
    unfold wp endP at a
    dsimp only at a
    unfold Ans
    exact a

/-! ### tests -/

section
variable {X : Env} {K : List It} {Q : Ex → St → Prop} {σ : St} {a b : SC} {t w : Bool} {d : Option Nat} {o : SO} {os : List SOper}
theorem wp_cond (h1 : t = true → wp (run X (.c a :: K) σ) Q) (h2 : t = false → wp (run X (.c b :: K) σ) Q) : wp (condK X (.v (.bool t)) a b K σ) Q := by
  cases t
  · exact h2 rfl
  · exact h1 rfl
theorem wp_guardT (h1 : t = true → wp (after X (stepO (VC X) σ d o) d os K) Q) (h2 : t = false → wp (run X (.o os :: K) (σ.put d (.v (.tuple [])))) Q) : wp (guardK X (.v (.bool t)) true d o os K σ) Q := by
  cases t
  · exact h2 rfl
  · exact h1 rfl
theorem wp_guardF (h1 : t = true → wp (run X (.o os :: K) (σ.put d (.v (.tuple [])))) Q) (h2 : t = false → wp (after X (stepO (VC X) σ d o) d os K) Q) : wp (guardK X (.v (.bool t)) false d o os K σ) Q := by
  cases t
  · exact h2 rfl
  · exact h1 rfl
theorem wp_guardDT (h1 : t = true → wp (afterD X (stepO (VC X) σ d o) d os K) Q) (h2 : t = false → wp (run X (.d os :: K) (σ.put d (.v (.tuple [])))) Q) : wp (guardD X (.v (.bool t)) true d o os K σ) Q := by
  cases t
  · exact h2 rfl
  · exact h1 rfl
theorem wp_guardDF (h1 : t = true → wp (run X (.d os :: K) (σ.put d (.v (.tuple [])))) Q) (h2 : t = false → wp (afterD X (stepO (VC X) σ d o) d os K) Q) : wp (guardD X (.v (.bool t)) false d o os K σ) Q := by
  cases t
  · exact h2 rfl
  · exact h1 rfl
end

/-! ### the heap -/

@[simp] theorem app_at (h l : List HO) (k : Nat) : (h ++ l)[h.length + k]? = l[k]? := by
  rw [List.getElem?_append_right (by omega)]
  congr 1; omega
@[simp] theorem app_at0 (h l : List HO) : (h ++ l)[h.length]? = l[0]? := app_at h l 0
@[simp] theorem app_set (h l : List HO) (k : Nat) (x : HO) : (h ++ l).set (h.length + k) x = h ++ l.set k x := by
  rw [List.set_append_right _ _ (by omega)]
  congr 2; omega
@[simp] theorem app_set0 (h l : List HO) (x : HO) : (h ++ l).set h.length x = h ++ l.set 0 x := app_set h l 0 x

theorem finish_app (h l : List HO) (v : V) (hv : v.pure = true) : finish false h (.ret v) (h ++ l) = (.ret v, h) := by
  have h1 := finish_same h v hv
  have hf : frz h.length (h ++ l) v = some v := by
    have key : ∀ l' : List V, V.pure.pures l' = true → frzs h.length (h ++ l) l' = some l' := by
      intro l'
      induction l' with
      | nil => intro _; rfl
      | cons a l' ih =>
        intro hl
        simp only [V.pure.pures, Bool.and_eq_true] at hl
        simp only [frzs, frz1, hl.1, if_true, Option.bind_some, ih hl.2]
    have key2 : ∀ a : V, a.pure = true → frz2 h.length (h ++ l) a = some a := by
      intro a ha
      cases a <;> first | (simp only [frz2, frz1, ha, if_true]; done) | skip
      case agg cs => simp only [frz2, key cs ha, Option.map_some]
    have key3 : ∀ l' : List V, V.pure.pures l' = true → frz2s h.length (h ++ l) l' = some l' := by
      intro l'
      induction l' with
      | nil => intro _; rfl
      | cons a l' ih =>
        intro hl
        simp only [V.pure.pures, Bool.and_eq_true] at hl
        simp only [frz2s, key2 a hl.1, Option.bind_some, ih hl.2]
    cases v <;> first | (exact key2 _ hv) | skip
    case tuple vs => simp only [frz, key3 vs hv, Option.map_some]
  unfold finish
  dsimp only
  rw [if_pos ⟨rfl, by simp⟩, hf]

/-- The end of a call that answers a row of its own. -/
theorem finish_row (h l : List HO) (k ver s : Nat) (row : List V) (hk : l[k]? = some (.row ver row)) (hp : V.pure.pures row = true) (off len : Nat) (hl : off + len ≤ row.length) :
    finish false h (.ret (.sl (h.length + k) ver s off len)) (h ++ l) = (.ret (.snap ((row.drop off).take len)), h) := by
  unfold finish
  dsimp only
  rw [if_pos ⟨rfl, by simp⟩]
  have : frz h.length (h ++ l) (.sl (h.length + k) ver s off len) = some (.snap ((row.drop off).take len)) := by
    simp [frz, frz2, frz1, hk, hl, hp]
  rw [this]

end Go.Vm
