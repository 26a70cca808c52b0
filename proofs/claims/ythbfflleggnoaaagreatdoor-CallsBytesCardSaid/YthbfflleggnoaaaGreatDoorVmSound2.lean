/- The VM is right: regions and code. -/
import Derived.Test.YthbfflleggnoaaaGreatDoorVmSound
set_option linter.unusedSimpArgs false
set_option linter.unusedVariables false
namespace Go.Vm
open Go Go.RowKit

/-- The VM's exit beside the model's. -/
def EX (G : Gh) (w : World) : Ex → Exit → Prop
  | .normal, .normal => True
  | .exit i, .exit j => j = i
  | .ret, .ret => True
  | .pan v, .panic chain => ∃ x, chain = [{ v := x, recovered := false }] ∧ VR G w v x
  | _, _ => False

/-- What code leaves. -/
def Post (D : List Deferred) (nt : Nat) (w : World) (G : Gh) (L : Lm) (σ : St) (ex : Ex) (σ' : St) (e : Exit) (a : Act) (w' : World) : Prop :=
  a.defers = D ∧ nt ≤ a.tmps.size ∧ ∃ G' L', EX G' w' ex e ∧ SR w' G' L' σ' a.tmps ∧ Ext w G L σ w' G' L' σ'

theorem Post.trans {D : List Deferred} {nt : Nat} {w w1 : World} {G G1 : Gh} {L L1 : Lm} {σ σ1 : St} {ex : Ex} {σ' : St} {e : Exit} {a : Act} {w' : World} (hx : Ext w G L σ w1 G1 L1 σ1) (h : Post D nt w1 G1 L1 σ1 ex σ' e a w') : Post D nt w G L σ ex σ' e a w' := by
  obtain ⟨h1, h2, G', L', h3, h4, h5⟩ := h
  exact ⟨h1, h2, G', L', h3, h4, hx.trans h5⟩

section
variable {P : Program} {D : List Deferred}

theorem Act.put_eq (a : Act) (d : Option Nat) (v : Value) : (a.put d v).defers = a.defers ∧ (a.put d v).tmps = putT a.tmps d v := by
  cases d <;> exact ⟨rfl, rfl⟩

theorem put_size (tm : Array Value) (d : Option Nat) (v : Value) : (putT tm d v).size = tm.size := by
  cases d <;> simp [putT]

def outE (d : Option Nat) : Option Out → Option (Ex × St)
  | some (.ok x σ) => some (.normal, σ.put d x)
  | some (.pan v σ) => some (.pan v, σ)
  | none => none

noncomputable def thenOps (call : Calls1) (os : List SOper) : Option (Ex × St) → Option (Ex × St)
  | some (.normal, σ) => runOps call os σ
  | r => r

theorem runOps_cons (call : Calls1) (s : SOper) (os : List SOper) (σ : St) : runOps call (s :: os) σ = thenOps call os (stepG call s σ) := by
  simp only [runOps]
  cases stepG call s σ with
  | none => rfl
  | some q => obtain ⟨e, σ'⟩ := q; cases e <;> rfl

theorem stepG_none (call : Calls1) (d : Option Nat) (o : SO) (σ : St) : stepG call ⟨d, none, o⟩ σ = outE d (stepO call σ d o) := by
  simp only [stepG]
  cases stepO call σ d o with
  | none => rfl
  | some q => cases q <;> rfl

theorem stepG_some (call : Calls1) (d : Option Nat) (t : Nat) (want : Bool) (o : SO) (σ : St) {b : Bool} (h : σ.e t = .v (.bool b)) :
    stepG call ⟨d, some (t, want), o⟩ σ = bif b == want then outE d (stepO call σ d o) else some (.normal, σ.put d (.v (.tuple []))) := by
  simp only [stepG, h]
  cases (b == want) with
  | false => rfl
  | true =>
    cases stepO call σ d o with
    | none => rfl
    | some q => cases q <;> rfl

theorem stepG_bool {call : Calls1} {d : Option Nat} {t : Nat} {want : Bool} {o : SO} {σ : St} {r : Ex × St} (h : stepG call ⟨d, some (t, want), o⟩ σ = some r) : (∃ b, σ.e t = .v (.bool b)) ∨ (σ.e t = .v (.tuple []) ∧ r = (.normal, σ.put d (.v (.tuple [])))) := by
  simp only [stepG] at h
  split at h
  · exact .inl ⟨_, ‹_›⟩
  · cases h; exact .inr ⟨‹_›, rfl⟩
  · cases h

def FitAt (P : Program) (nt : Nat) (ops : Array Oper) (l : List SOper) : Prop := ∀ i : Nat, (∃ o s, ops[i]? = some o ∧ l[i]? = some s ∧ fitOper P nt ops o s = true) ∨ (ops[i]? = none ∧ l[i]? = none)

theorem fitOps_at {nt : Nat} {ops : Array Oper} : ∀ {os : List Oper} {l : List SOper}, fitOps P nt ops os l = true → ∀ i : Nat, (∃ o s, os[i]? = some o ∧ l[i]? = some s ∧ fitOper P nt ops o s = true) ∨ (os[i]? = none ∧ l[i]? = none)
  | [], [], _, i => .inr ⟨rfl, rfl⟩
  | o :: os, s :: ss, h, i => by
    simp only [fitOps, Bool.and_eq_true] at h
    cases i with
    | zero => exact .inl ⟨o, s, rfl, rfl, h.1⟩
    | succ i => simpa using fitOps_at h.2 i
  | [], _ :: _, h, _ => by simp [fitOps] at h
  | _ :: _, [], h, _ => by simp [fitOps] at h

/-- A region's operations, in an order. -/
theorem runOps_sound {call : Calls1} (hc : CallOK P call) {nt : Nat} {ops : Array Oper} {l : List SOper} (hf : FitAt P nt ops l) {Q : Exit → Act → World → Prop} :
    ∀ (is : List Nat) {σ : St} {a : Act} {w : World} {G : Gh} {L : Lm} {ex : Ex} {σ' : St}, SR w G L σ a.tmps → nt ≤ a.tmps.size → a.defers = D → runOps call (pickOps l is) σ = some (ex, σ') →
      (∀ e a' w', Post D nt w G L σ ex σ' e a' w' → Q e a' w') → wpOps P ops Q is a w
  | [], σ, a, w, G, L, ex, σ', hs, hn, hd, h, hQ => by
    simp only [pickOps, List.filterMap_nil, runOps] at h
    cases h
    exact hQ _ _ _ ⟨hd, hn, G, L, trivial, hs, Ext.refl w G L σ⟩
  | i :: is, σ, a, w, G, L, ex, σ', hs, hn, hd, h, hQ => by
    rcases hf i with ⟨o, s, ho, hsi, hfo⟩ | ⟨ho, hsi⟩
    case inr =>
      have e : pickOps l (i :: is) = pickOps l is := by simp [pickOps, List.filterMap_cons, hsi]
      rw [e] at h
      simp only [wpOps, ho]
      exact runOps_sound hc hf is hs hn hd h hQ
    have e : pickOps l (i :: is) = s :: pickOps l is := by simp [pickOps, List.filterMap_cons, hsi]
    rw [e] at h
    simp only [wpOps, ho]
    simp only [fitOper, Bool.and_eq_true, beq_iff_eq] at hfo
    obtain ⟨⟨⟨hdst, hdn⟩, hg⟩, hop⟩ := hfo
    have hbound : ∀ t, o.dst = some t → t < a.tmps.size := by
      intro t ht
      rw [hdst] at ht; rw [ht] at hdn
      have : t < nt := by simpa using hdn
      exact Nat.lt_of_lt_of_le this hn
    obtain ⟨tm, ds⟩ := a
    dsimp only at hs hn hd hbound
    have hd' := hd.symm
    subst hd'
    -- after an operation
    have go : ∀ {x : T} {v : Value} {w1 : World} {G1 : Gh} {L1 : Lm} {σ1 : St}, TR G1 w1 L1 x v → SR w1 G1 L1 σ1 tm → Ext w G L σ w1 G1 L1 σ1 → runOps call (pickOps l is) (σ1.put s.d x) = some (ex, σ') → wpOps P ops Q is (Act.put ⟨tm, D⟩ o.dst v) w1 := by
      intro x v w1 G1 L1 σ1 hx h1 h2 hr
      obtain ⟨e1, e2⟩ := Act.put_eq ⟨tm, D⟩ o.dst v
      have h3 := h1.put (d := o.dst) hx hbound
      refine runOps_sound hc hf is (G := G1) (L := L1) (σ := σ1.put s.d x) ?_ (by rw [e2, put_size]; exact hn) e1 hr fun e a' w' hp => hQ e a' w' (Post.trans (h2.put s.d x) hp)
      rw [e2, ← hdst]; exact h3
    -- the operation itself
    have main : thenOps call (pickOps l is) (outE s.d (stepO call σ s.d s.o)) = some (ex, σ') → Oper.wp P o ⟨tm, D⟩ w (wpOps P ops Q is) Q := by
      intro hh
      obtain ⟨dst, op, ty, pos, af, gd⟩ := o
      cases hst : stepO call σ s.d s.o with
      | none => rw [hst] at hh; cases hh
      | some out =>
        rw [hst] at hh
        cases out with
        | ok x σ1 =>
          refine stepO_sound hc hop hs hdst hst (fun v w' G' L' x' σ1' e hx h1 h2 => ?_) fun val v w' G' σ1 e _ _ _ => by cases e
          cases e
          exact go hx h1 h2 hh
        | pan v σ1 =>
          cases hh
          refine stepO_sound hc hop hs hdst hst (fun v w' G' L' x σ1 e _ _ _ => by cases e) fun val v w' G' σ1 e hv h1 h2 => ?_
          cases e
          exact hQ _ _ _ ⟨rfl, hn, G', L, ⟨val, rfl, hv⟩, h1, h2⟩
    rw [runOps_cons] at h
    obtain ⟨sd, sg, so⟩ := s
    dsimp only at *
    cases hog : o.guard with
    | none =>
      rw [hog] at hg
      cases sg with
      | some q => obtain ⟨a, b⟩ := q; cases hg
      | none =>
        have hw : Region.wanted o (yielded ops tm) = true := by simp [Region.wanted, hog]
        rw [if_pos hw]
        rw [stepG_none] at h
        exact .inl (main h)
    | some q =>
      obtain ⟨j, wj⟩ := q
      rw [hog] at hg
      cases sg with
      | none => cases hg
      | some q =>
        obtain ⟨t, wt⟩ := q
        simp only [fitGuard, Bool.and_eq_true, beq_iff_eq] at hg
        obtain ⟨rfl, hgt⟩ := hg
        have skip : TR G w L (.v (.tuple [])) undef := .v _ _ (.tuple [] [] .nil)
        have hb : (∃ b, σ.e t = .v (.bool b)) ∨ (σ.e t = .v (.tuple []) ∧ stepG call ⟨sd, some (t, wj), so⟩ σ = some (.normal, σ.put sd (.v (.tuple [])))) := by
          cases hst : stepG call ⟨sd, some (t, wj), so⟩ σ with
          | none => rw [hst] at h; cases h
          | some r =>
            rcases stepG_bool hst with hb | ⟨hb, rfl⟩
            · exact .inl hb
            · exact .inr ⟨hb, rfl⟩
        rcases hb with ⟨b, hb⟩ | ⟨hb, hst⟩
        case inr =>
          rw [hst] at h
          have htb : tm.getD t undef = .tuple #[] := by
            have := hs.ev t
            rw [hb] at this
            obtain ⟨xs, hxs, e⟩ := this.inv_v.inv_tuple
            cases hxs
            exact e
          have hyi : yielded ops tm j = none := by
            simp only [yielded, hgt, Option.bind_some]
            rcases Nat.lt_or_ge t tm.size with hl | hl
            · rw [Array.getD_eq_getD_getElem?, Array.getElem?_eq_getElem hl] at htb
              rw [Array.getElem?_eq_getElem hl]
              have : tm[t] = .tuple #[] := htb
              rw [this]
            · rw [Array.getElem?_eq_none hl]
          have hw : Region.wanted o (yielded ops tm) = false := by
            simp only [Region.wanted, hog, hyi]
            rfl
          rw [hw, if_neg (by simp)]
          exact go skip hs (Ext.refl w G L σ) h
        rw [stepG_some _ _ _ _ _ _ hb] at h
        have htb : tm.getD t undef = .bool b := by
          have := hs.ev t
          rw [hb] at this
          exact this.inv_v.inv_bool
        have hlt : t < tm.size := by
          rcases Nat.lt_or_ge t tm.size with h | h
          · exact h
          · rw [Array.getD_eq_getD_getElem?, Array.getElem?_eq_none h] at htb; cases htb
        have hyi : yielded ops tm j = some b := by
          have : tm[t]? = some (.bool b) := by
            rw [Array.getD_eq_getD_getElem?, Array.getElem?_eq_getElem hlt] at htb
            rw [Array.getElem?_eq_getElem hlt]; exact congrArg some htb
          simp only [yielded, hgt, Option.bind_some, this]
        have hw : Region.wanted o (yielded ops tm) = (b == wj) := by
          simp only [Region.wanted, hog, hyi]
          cases b <;> cases wj <;> rfl
        rw [hw]
        cases hbw : (b == wj) with
        | true =>
          rw [if_pos rfl]
          rw [hbw] at h
          exact .inl (main h)
        | false =>
          rw [if_neg (by simp)]
          rw [hbw] at h
          exact go skip hs (Ext.refl w G L σ) h

theorem pickOps_range (l : List SOper) : pickOps l (List.range l.length) = l := by
  have : ∀ (l : List SOper) (k : Nat) (pre : List SOper), pre.length = k → ((List.range' k l.length).filterMap ((pre ++ l)[·]?)) = l := by
    intro l
    induction l with
    | nil => intro k pre _; rfl
    | cons x l ih =>
      intro k pre hk
      have h1 : (pre ++ x :: l)[k]? = some x := by rw [List.getElem?_append_right (by omega)]; simp [hk]
      have h2 := ih (k + 1) (pre ++ [x]) (by simp [hk])
      rw [List.append_assoc] at h2
      simp only [List.length_cons, List.range'_succ, List.filterMap_cons, h1]
      exact congrArg _ h2
  have h := this l 0 [] rfl
  rw [List.range_eq_range']
  exact h

theorem fitAt_len {nt : Nat} {ops : Array Oper} {l : List SOper} (h : FitAt P nt ops l) : ops.size = l.length := by
  rcases Nat.lt_trichotomy ops.size l.length with hl | hl | hl
  · rcases h ops.size with ⟨o, s, h1, _⟩ | ⟨h1, h2⟩
    · rw [Array.getElem?_eq_none (Nat.le_refl _)] at h1; cases h1
    · rw [List.getElem?_eq_getElem hl] at h2; cases h2
  · exact hl
  · rcases h l.length with ⟨o, s, _, h1, _⟩ | ⟨h1, h2⟩
    · rw [List.getElem?_eq_none (Nat.le_refl _)] at h1; cases h1
    · rw [Array.getElem?_eq_getElem hl] at h1; cases h1

end
end Go.Vm
