/- The VM as a program that Lean's kernel can run: what it answers, the VM answers. No claim about the program stands here. -/
import Derived.Test.YthbfflleggnoaaaGreatDoorVmDraw
set_option linter.unusedSimpArgs false
set_option linter.unusedVariables false
namespace Go.Vm
open Go

mutual
def beqV : V → V → Bool
  | .undef, .undef => true
  | .bool a, .bool b => a == b
  | .int k a, .int l b => decide (k = l) && decide (a = b)
  | .float k a, .float l b => decide (k = l) && a == b
  | .str a, .str b => decide (a = b)
  | .nilp, .nilp => true
  | .ptr a b, .ptr c d => a == c && b == d
  | .cref a, .cref b => beqVs a b
  | .eptr a b c d, .eptr a' b' c' d' => a == a' && b == b' && c == c' && d == d'
  | .nils, .nils => true
  | .snap a, .snap b => beqVs a b
  | .sl a b c d e, .sl a' b' c' d' e' => a == a' && b == b' && c == c' && d == d' && e == e'
  | .nilm, .nilm => true
  | .map a, .map b => a == b
  | .nilf, .nilf => true
  | .func a l, .func b m => a == b && beqVs l m
  | .nili, .nili => true
  | .iface a l, .iface b m => a == b && beqV l m
  | .agg a, .agg b => beqVs a b
  | .tuple a, .tuple b => beqVs a b
  | _, _ => false
def beqVs : List V → List V → Bool
  | [], [] => true
  | a :: as, b :: bs => beqV a b && beqVs as bs
  | _, _ => false
end

mutual
theorem beqV_eq : ∀ (a b : V), beqV a b = true → a = b
  | .undef, b, h => by cases b <;> first | rfl | (simp [beqV] at h)
  | .bool a, b, h => by cases b <;> simp_all [beqV]
  | .int k a, b, h => by cases b <;> simp_all [beqV]
  | .float k a, b, h => by cases b <;> simp_all [beqV]
  | .str a, b, h => by cases b <;> simp_all [beqV]
  | .nilp, b, h => by cases b <;> first | rfl | (simp [beqV] at h)
  | .ptr a c, b, h => by cases b <;> simp_all [beqV]
  | .cref a, b, h => by cases b <;> first | (simp [beqV] at h; done) | (rename_i b; rw [beqVs_eq a b (by simpa [beqV] using h)])
  | .eptr a c d e, b, h => by cases b <;> simp_all [beqV]
  | .nils, b, h => by cases b <;> first | rfl | (simp [beqV] at h)
  | .snap a, b, h => by cases b <;> first | (simp [beqV] at h; done) | (rename_i b; rw [beqVs_eq a b (by simpa [beqV] using h)])
  | .sl a c d e f, b, h => by cases b <;> simp_all [beqV]
  | .nilm, b, h => by cases b <;> first | rfl | (simp [beqV] at h)
  | .map a, b, h => by cases b <;> simp_all [beqV]
  | .nilf, b, h => by cases b <;> first | rfl | (simp [beqV] at h)
  | .func a l, b, h => by
    cases b <;> first | (simp [beqV] at h; done) | skip
    rename_i b m
    simp only [beqV, Bool.and_eq_true, beq_iff_eq] at h
    rw [h.1, beqVs_eq l m h.2]
  | .nili, b, h => by cases b <;> first | rfl | (simp [beqV] at h)
  | .iface a l, b, h => by
    cases b <;> first | (simp [beqV] at h; done) | skip
    rename_i b m
    simp only [beqV, Bool.and_eq_true, beq_iff_eq] at h
    rw [h.1, beqV_eq l m h.2]
  | .agg a, b, h => by cases b <;> first | (simp [beqV] at h; done) | (rename_i b; rw [beqVs_eq a b (by simpa [beqV] using h)])
  | .tuple a, b, h => by cases b <;> first | (simp [beqV] at h; done) | (rename_i b; rw [beqVs_eq a b (by simpa [beqV] using h)])
theorem beqVs_eq : ∀ (a b : List V), beqVs a b = true → a = b
  | [], [], _ => rfl
  | [], _ :: _, h => by simp [beqVs] at h
  | _ :: _, [], h => by simp [beqVs] at h
  | a :: as, b :: bs, h => by
    simp only [beqVs, Bool.and_eq_true] at h
    rw [beqV_eq a b h.1, beqVs_eq as bs h.2]
end

def beqE : List (V × V × Nat) → List (V × V × Nat) → Bool
  | [], [] => true
  | (a, b, c) :: r, (a', b', c') :: r' => beqV a a' && beqV b b' && c == c' && beqE r r'
  | _, _ => false
theorem beqE_eq : ∀ (a b : List (V × V × Nat)), beqE a b = true → a = b
  | [], [], _ => rfl
  | [], _ :: _, h => by simp [beqE] at h
  | _ :: _, [], h => by simp [beqE] at h
  | (a, b, c) :: r, (a', b', c') :: r', h => by
    simp only [beqE, Bool.and_eq_true, beq_iff_eq] at h
    rw [beqV_eq a a' h.1.1.1, beqV_eq b b' h.1.1.2, h.1.2, beqE_eq r r' h.2]

def beqO : HO → HO → Bool
  | .cells a, .cells b => beqVs a b
  | .row v a, .row w b => v == w && beqVs a b
  | .map a c, .map b d => beqE a b && c == d
  | .hole, .hole => true
  | _, _ => false
theorem beqO_eq (a b : HO) (h : beqO a b = true) : a = b := by
  cases a <;> cases b <;> first | (simp [beqO] at h; done) | skip
  · rename_i a b; rw [beqVs_eq a b (by simpa [beqO] using h)]
  · rename_i v a w b
    simp only [beqO, Bool.and_eq_true, beq_iff_eq] at h
    rw [h.1, beqVs_eq a b h.2]
  · rename_i a c b d
    simp only [beqO, Bool.and_eq_true, beq_iff_eq] at h
    rw [beqE_eq a b h.1, h.2]
  · rfl

def beqH : List HO → List HO → Bool
  | [], [] => true
  | a :: as, b :: bs => beqO a b && beqH as bs
  | _, _ => false
theorem beqH_eq : ∀ (a b : List HO), beqH a b = true → a = b
  | [], [], _ => rfl
  | [], _ :: _, h => by simp [beqH] at h
  | _ :: _, [], h => by simp [beqH] at h
  | a :: as, b :: bs, h => by
    simp only [beqH, Bool.and_eq_true] at h
    rw [beqO_eq a b h.1, beqH_eq as bs h.2]

def stepC (call : Calls1) (σ : St) (d : Option Nat) (o : SO) : Option Out :=
  match o with
  | .call strict f args =>
    match σ.val f, σ.vals args with
    | some (.func f caps), some vs =>
      match call f (vs ++ caps) σ.h with
      | some (.ret v, h) => bif strict && !(beqH h σ.h) then none else some (.ok (.v v) { σ with h := h })
      | some (.pan v, h) => bif strict then none else some (.pan v { σ with h := h })
      | none => none
    | _, _ => none
  | .pcall f args =>
    match σ.val f, σ.vals args with
    | some (.func f caps), some vs =>
      bif V.pure.pures (vs ++ caps) then
        match call f (vs ++ caps) [] with
        | some (.ret v, []) => bif v.pure then some (.ok (.v v) σ) else none
        | _ => none
      else none
    | _, _ => none
  | o =>
    match pureO σ o with
    | some x => some (.ok x σ)
    | none =>
      match readO σ o with
      | some x => some (.ok x σ)
      | none => effO σ d o

def stepGC (call : Calls1) (o : SOper) (σ : St) : Option (Ex × St) :=
  match o.g with
  | none =>
    match stepC call σ o.d o.o with
    | some (.ok x σ) => some (.normal, σ.put o.d x)
    | some (.pan v σ) => some (.pan v, σ)
    | none => none
  | some (t, want) =>
    match σ.e t with
    | .v (.bool b) =>
      bif b == want then
        match stepC call σ o.d o.o with
        | some (.ok x σ) => some (.normal, σ.put o.d x)
        | some (.pan v σ) => some (.pan v, σ)
        | none => none
      else some (.normal, σ.put o.d (.v (.tuple [])))
    | .v (.tuple []) => some (.normal, σ.put o.d (.v (.tuple [])))
    | _ => none

def runOpsC (call : Calls1) : List SOper → St → Option (Ex × St)
  | [], σ => some (.normal, σ)
  | o :: os, σ =>
    match stepGC call o σ with
    | some (.normal, σ) => runOpsC call os σ
    | r => r

def codeC (call : Calls1) (n : Nat) : SC → St → Option (Ex × St)
  | .skip, σ => some (.normal, σ)
  | .ops l, σ => runOpsC call l σ
  | .draw k _ l, σ => onlyN (runOpsC call l (σ.drawn k))
  | .seq a b, σ =>
    match codeC call n a σ with
    | some (.normal, σ) => codeC call n b σ
    | r => r
  | .cond c a b, σ =>
    match σ.ev c with
    | .v (.bool t) => bif t then codeC call n a σ else codeC call n b σ
    | _ => none
  | .block id ks ls c, σ =>
    match codeC call n c σ with
    | some (.exit id', σ) => bif id' == id then some (.normal, σ.keep ks ls) else some (.exit id', σ)
    | r => r
  | .loop ks ls c, σ => iter (fun σ => codeC call n c (σ.keep ks ls)) n σ
  | .exit id, σ => some (.exit id, σ)
  | .ret, σ => some (.ret, σ)

/-- All regions that draw: any two operations of which none waits for the other may change places. -/
def SC.drawsOk : SC → Bool
  | .draw _ deps l => drawOk deps l
  | .seq a b => a.drawsOk && b.drawsOk
  | .cond _ a b => a.drawsOk && b.drawsOk
  | .block _ _ _ a => a.drawsOk
  | .loop _ _ a => a.drawsOk
  | _ => true

def finishC (keep : Bool) (h : List HO) (r : CR) (h' : List HO) : CR × List HO :=
  match r with
  | .ret v =>
    bif !keep && beqH (h'.take h.length) h then
      match frz h.length h' v with
      | some v' => (.ret v', h)
      | none => (.ret v, h')
    else (.ret v, h')
  | .pan v => bif beqH (h'.take h.length) h && v.pure then (.pan v, h) else (.pan v, h')

theorem beqH_refl : ∀ h : List HO, beqH h h = true := by
  have hv : (∀ v : V, beqV v v = true) ∧ (∀ l : List V, beqVs l l = true) := by
    constructor
    · intro v
      exact V.rec (motive_1 := fun v => beqV v v = true) (motive_2 := fun l => beqVs l l = true)
        (by simp [beqV]) (by simp [beqV]) (by simp [beqV]) (by simp [beqV]) (by simp [beqV]) (by simp [beqV]) (by simp [beqV])
        (by intro l h; simpa [beqV] using h) (by simp [beqV]) (by simp [beqV]) (by intro l h; simpa [beqV] using h) (by simp [beqV]) (by simp [beqV]) (by simp [beqV]) (by simp [beqV])
        (by intro f l h; simpa [beqV] using h) (by simp [beqV]) (by intro f l h; simpa [beqV] using h) (by intro l h; simpa [beqV] using h) (by intro l h; simpa [beqV] using h)
        (by simp [beqVs]) (by intro a l h1 h2; simp [beqVs, h1, h2]) v
    · intro l
      exact V.rec_1 (motive_1 := fun v => beqV v v = true) (motive_2 := fun l => beqVs l l = true)
        (by simp [beqV]) (by simp [beqV]) (by simp [beqV]) (by simp [beqV]) (by simp [beqV]) (by simp [beqV]) (by simp [beqV])
        (by intro l h; simpa [beqV] using h) (by simp [beqV]) (by simp [beqV]) (by intro l h; simpa [beqV] using h) (by simp [beqV]) (by simp [beqV]) (by simp [beqV]) (by simp [beqV])
        (by intro f l h; simpa [beqV] using h) (by simp [beqV]) (by intro f l h; simpa [beqV] using h) (by intro l h; simpa [beqV] using h) (by intro l h; simpa [beqV] using h)
        (by simp [beqVs]) (by intro a l h1 h2; simp [beqVs, h1, h2]) l
  have he : ∀ l, beqE l l = true := by
    intro l
    induction l with
    | nil => rfl
    | cons a l ih => obtain ⟨a, b, c⟩ := a; simp [beqE, hv.1, ih]
  have ho : ∀ o, beqO o o = true := by
    intro o
    cases o <;> simp [beqO, hv.2, he]
  intro h
  induction h with
  | nil => rfl
  | cons a l ih => simp [beqH, ho, ih]

theorem beqH_iff (a b : List HO) : beqH a b = true ↔ a = b := ⟨beqH_eq a b, fun h => by subst h; exact beqH_refl a⟩

theorem finishC_eq (keep : Bool) (h : List HO) (r : CR) (h' : List HO) : finishC keep h r h' = finish keep h r h' := by
  unfold finishC finish
  cases r with
  | ret v =>
    dsimp only
    by_cases hk : keep = false ∧ h'.take h.length = h
    · rw [if_pos hk, hk.1, (beqH_iff _ _).2 hk.2]; rfl
    · rw [if_neg hk]
      have : (!keep && beqH (h'.take h.length) h) = false := by
        cases hb : (!keep && beqH (h'.take h.length) h) with
        | false => rfl
        | true =>
          simp only [Bool.and_eq_true, Bool.not_eq_true', beqH_iff] at hb
          exact absurd hb hk
      rw [this]; rfl
  | pan v =>
    dsimp only
    by_cases hk : h'.take h.length = h ∧ v.pure = true
    · rw [if_pos hk, (beqH_iff _ _).2 hk.1, hk.2]; rfl
    · rw [if_neg hk]
      have : (beqH (h'.take h.length) h && v.pure) = false := by
        cases hb : (beqH (h'.take h.length) h && v.pure) with
        | false => rfl
        | true =>
          simp only [Bool.and_eq_true, beqH_iff] at hb
          exact absurd hb hk
      rw [this]; rfl

def endOfC (sf : SF) (h : List HO) : Option (Ex × St) → Option (CR × List HO)
  | some (.ret, σ) | some (.normal, σ) => (results σ sf.res).map fun v => finishC sf.keep h (.ret v) σ.h
  | some (.pan v, σ) => some (finishC sf.keep h (.pan v) σ.h)
  | _ => none

def closeC (X : Env) (call : Calls1) (n : Nat) (g : Nat) (caps : List V) (pv : V) (h : List HO) : Option (List HO) :=
  (X.fn g).bind fun sf => sf.rcv.bind fun R =>
    match codeC call n R.pre (St.init caps h) with
    | some (.normal, σ) => (codeC call n R.rest (σ.put (some R.d) (.v pv))).bind fun p => bif p.1.isEnd then some p.2.h else none
    | _ => none

def bodyC (X : Env) (call : Calls1) (n : Nat) (sf : SF) (args : List V) (h : List HO) : Option (CR × List HO) :=
  match sf.dfr, sf.rcv with
  | none, none => endOfC sf h (codeC call n sf.body (St.init args h))
  | some D, none =>
    match codeC call n D.pre (St.init args h) with
    | some (.normal, σ) =>
      match σ.e D.t with
      | .v (.func g caps) =>
        (codeC call n D.rest σ).bind fun p => (pvOf p.1).bind fun pv => (closeC X call n g caps pv p.2.h).bind fun h' =>
          (results { p.2 with h := h' } sf.res).map fun v => finishC sf.keep h (.ret v) h'
      | _ => none
    | _ => none
  | _, _ => none

def SF.drawsOk (sf : SF) : Bool :=
  sf.body.drawsOk && (match sf.dfr with | some D => D.pre.drawsOk && D.rest.drawsOk | none => true) && (match sf.rcv with | some R => R.pre.drawsOk && R.rest.drawsOk | none => true)

def callC (X : Env) : Nat → Calls1
  | 0, _, _, _ => none
  | n + 1, f, args, h =>
    match X.ext f with
    | some e => e args h
    | none =>
      match X.fn f with
      | some sf => bodyC X (callC X n) n sf args h
      | none => none

theorem stepC_le {c c' : Calls1} (hc : LeC c c') {σ : St} {d : Option Nat} {o : SO} {r : Out} (h : stepC c σ d o = some r) : stepO c' σ d o = some r := by
  cases o <;> try exact h
  case call strict f args =>
    simp only [stepC] at h
    simp only [stepO]
    cases e1 : σ.val f with
    | none => rw [e1] at h; cases h
    | some fv =>
      cases e2 : σ.vals args with
      | none => rw [e1, e2] at h; cases fv <;> cases h
      | some vs =>
        rw [e1, e2] at h
        cases fv <;> first | (cases h; done) | skip
        rename_i g caps
        dsimp only at h ⊢
        cases e3 : c g (vs ++ caps) σ.h with
        | none => rw [e3] at h; cases h
        | some q =>
          rw [hc _ _ _ _ e3]
          rw [e3] at h
          obtain ⟨cr, h'⟩ := q
          cases cr with
          | ret v =>
            dsimp only at h ⊢
            cases hb : (strict && !(beqH h' σ.h)) with
            | true => rw [hb] at h; cases h
            | false =>
              rw [hb] at h
              rw [if_neg (fun hh => ?_)]
              · exact h
              · have : beqH h' σ.h = false := by
                  cases hq : beqH h' σ.h with
                  | false => rfl
                  | true => exact absurd (beqH_eq _ _ hq) hh.2
                rw [hh.1, this] at hb
                cases hb
          | pan v =>
            dsimp only at h ⊢
            cases strict with
            | true => cases h
            | false => rw [if_neg (by simp)]; exact h
  case pcall f args =>
    simp only [stepC] at h
    simp only [stepO]
    cases e1 : σ.val f with
    | none => rw [e1] at h; cases h
    | some fv =>
      cases e2 : σ.vals args with
      | none => rw [e1, e2] at h; cases fv <;> cases h
      | some vs =>
        rw [e1, e2] at h
        cases fv <;> first | (cases h; done) | skip
        rename_i g caps
        dsimp only at h ⊢
        cases hp : V.pure.pures (vs ++ caps) with
        | false => rw [hp] at h; cases h
        | true =>
          rw [hp] at h
          simp only [cond_true] at h
          rw [if_pos rfl]
          cases e3 : c g (vs ++ caps) [] with
          | none => rw [e3] at h; cases h
          | some q =>
            rw [hc _ _ _ _ e3]
            rw [e3] at h
            obtain ⟨cr, h'⟩ := q
            cases cr with
            | ret v =>
              cases h' with
              | cons a b => cases h
              | nil =>
                dsimp only at h ⊢
                cases hv : v.pure with
                | false => rw [hv] at h; cases h
                | true => rw [hv] at h; rw [if_pos rfl]; exact h
            | pan v => cases h

theorem stepGC_le {c c' : Calls1} (hc : LeC c c') {σ : St} {o : SOper} {r : Ex × St} (h : stepGC c o σ = some r) : stepG c' o σ = some r := by
  have key : ∀ r, (match stepC c σ o.d o.o with | some (.ok x σ) => some (Ex.normal, σ.put o.d x) | some (.pan v σ) => some (.pan v, σ) | none => none) = some r →
      (match stepO c' σ o.d o.o with | some (.ok x σ) => some (Ex.normal, σ.put o.d x) | some (.pan v σ) => some (.pan v, σ) | none => none) = some r := by
    intro r h
    cases e : stepC c σ o.d o.o with
    | none => rw [e] at h; cases h
    | some q => rw [e] at h; rw [stepC_le hc e]; exact h
  unfold stepGC at h
  unfold stepG
  cases hg : o.g with
  | none => rw [hg] at h; exact key _ h
  | some p =>
    obtain ⟨t, want⟩ := p
    rw [hg] at h
    (try dsimp only at h ⊢)
    split at h
    · rename_i b e
      rw [e]
      dsimp only
      cases hb : (b == want) with
      | true => rw [hb] at h; exact key _ h
      | false => rw [hb] at h; exact h
    · rename_i e; rw [e]; exact h
    · cases h

theorem runOpsC_le {c c' : Calls1} (hc : LeC c c') : ∀ {l : List SOper} {σ : St} {r : Ex × St}, runOpsC c l σ = some r → runOps c' l σ = some r
  | [], _, _, h => h
  | o :: os, σ, r, h => by
    unfold runOpsC at h
    unfold runOps
    cases e : stepGC c o σ with
    | none => rw [e] at h; cases h
    | some q =>
      rw [e] at h; rw [stepGC_le hc e]
      obtain ⟨ex, σ'⟩ := q
      cases ex <;> first | exact runOpsC_le hc h | exact h

theorem codeC_le {c c' : Calls1} (hc : LeC c c') (n : Nat) : ∀ {s : SC} {σ : St} {r : Ex × St}, s.drawsOk = true → codeC c n s σ = some r → codeN c' n s σ = some r
  | .skip, _, _, _, h => h
  | .ops _, _, _, _, h => runOpsC_le hc h
  | .draw k deps l, σ, r, hd, h => by
    unfold codeC at h
    unfold codeN
    rw [runDraw_ok (by simpa [SC.drawsOk] using hd)]
    obtain ⟨h1, h2⟩ := onlyN_some h
    exact onlyN_normal (runOpsC_le hc h1) h2
  | .seq a b, σ, r, hd, h => by
    simp only [SC.drawsOk, Bool.and_eq_true] at hd
    unfold codeC at h
    unfold codeN
    cases e : codeC c n a σ with
    | none => rw [e] at h; cases h
    | some q =>
      rw [e] at h; rw [codeC_le hc n hd.1 e]
      obtain ⟨ex, σ'⟩ := q
      cases ex <;> first | exact codeC_le hc n hd.2 h | exact h
  | .cond x a b, σ, r, hd, h => by
    simp only [SC.drawsOk, Bool.and_eq_true] at hd
    unfold codeC at h
    unfold codeN
    split at h
    · rename_i t e
      rw [e]
      dsimp only
      cases t
      · exact codeC_le hc n hd.2 h
      · exact codeC_le hc n hd.1 h
    · cases h
  | .block id ks ls a, σ, r, hd, h => by
    simp only [SC.drawsOk] at hd
    unfold codeC at h
    unfold codeN
    cases e : codeC c n a σ with
    | none => rw [e] at h; cases h
    | some q =>
      rw [e] at h; rw [codeC_le hc n hd e]
      obtain ⟨ex, σ'⟩ := q
      cases ex <;> try exact h
      rename_i id'
      dsimp only at h ⊢
      by_cases hid : id' = id
      · rw [if_pos hid]; simpa [hid] using h
      · rw [if_neg hid]
        have : (id' == id) = false := by simpa using hid
        simpa [this] using h
  | .loop ks ls a, σ, r, hd, h => by
    simp only [SC.drawsOk] at hd
    unfold codeC at h
    unfold codeN
    exact iter_mono (fun σ r h => codeC_le hc n hd h) (Nat.le_refl n) h
  | .exit _, _, _, _, h => h
  | .ret, _, _, _, h => h

theorem closeC_le {X : Env} (hd : ∀ f sf, X.fn f = some sf → sf.drawsOk = true) {c c' : Calls1} (hc : LeC c c') {n g : Nat} {caps : List V} {pv : V} {h h' : List HO} (hr : closeC X c n g caps pv h = some h') : closeN X c' n g caps pv h = some h' := by
  unfold closeC at hr
  unfold closeN
  simp only [Option.bind_eq_some_iff] at hr ⊢
  obtain ⟨sf, h1, R, h2, hr⟩ := hr
  refine ⟨sf, h1, R, h2, ?_⟩
  have hdr := hd g sf h1
  simp only [SF.drawsOk, Bool.and_eq_true, h2] at hdr
  cases e : codeC c n R.pre (St.init caps h) with
  | none => rw [e] at hr; cases hr
  | some q =>
    rw [e] at hr; rw [codeC_le hc n hdr.2.1 e]
    obtain ⟨ex, σ⟩ := q
    cases ex <;> first | (cases hr; done) | skip
    dsimp only at hr ⊢
    simp only [Option.bind_eq_some_iff] at hr ⊢
    obtain ⟨p, h3, h4⟩ := hr
    refine ⟨p, codeC_le hc n hdr.2.2 h3, ?_⟩
    cases hp : p.1.isEnd with
    | true => rw [hp] at h4; rw [if_pos rfl]; exact h4
    | false => rw [hp] at h4; cases h4

theorem bodyC_le {X : Env} (hd : ∀ f sf, X.fn f = some sf → sf.drawsOk = true) {c c' : Calls1} (hc : LeC c c') {n f : Nat} {sf : SF} (hf : X.fn f = some sf) {args : List V} {h : List HO} {r : CR × List HO} (hr : bodyC X c n sf args h = some r) : bodyN X c' n sf args h = some r := by
  have hdr := hd f sf hf
  simp only [SF.drawsOk, Bool.and_eq_true] at hdr
  unfold bodyC at hr
  unfold bodyN
  cases hdf : sf.dfr with
  | none =>
    cases hv : sf.rcv with
    | some R => rw [hdf, hv] at hr; cases hr
    | none =>
      rw [hdf, hv] at hr
      dsimp only at hr ⊢
      cases ec : codeC c n sf.body (St.init args h) with
      | none => rw [ec] at hr; cases hr
      | some q =>
        rw [ec] at hr
        rw [codeC_le hc n hdr.1.1 ec]
        obtain ⟨ex, σ'⟩ := q
        cases ex <;> first | (simpa only [endOfC, endOf, finishC_eq] using hr) | (cases hr)
  | some D =>
    cases hv : sf.rcv with
    | some R => rw [hdf, hv] at hr; cases hr
    | none =>
      rw [hdf, hv] at hr
      rw [hdf] at hdr
      simp only [Bool.and_eq_true] at hdr
      dsimp only at hr ⊢
      cases e : codeC c n D.pre (St.init args h) with
      | none => rw [e] at hr; cases hr
      | some q =>
        rw [e] at hr; rw [codeC_le hc n hdr.1.2.1 e]
        obtain ⟨ex, σ⟩ := q
        cases ex <;> first | (cases hr; done) | skip
        dsimp only at hr ⊢
        split at hr
        · rename_i g caps ht
          rw [ht]
          dsimp only
          simp only [Option.bind_eq_some_iff] at hr ⊢
          obtain ⟨p, h1, pv, h2, h', h3, h4⟩ := hr
          exact ⟨p, codeC_le hc n hdr.1.2.2 h1, pv, h2, h', closeC_le hd hc h3, by simpa only [finishC_eq] using h4⟩
        · cases hr

theorem callC_le {X : Env} (hd : ∀ f sf, X.fn f = some sf → sf.drawsOk = true) : ∀ n, LeC (callC X n) (callN X n)
  | 0 => fun _ _ _ _ h => by cases h
  | n + 1 => fun f a h r hr => by
    unfold callC at hr
    unfold callN
    cases e : X.ext f with
    | some g => rw [e] at hr; exact hr
    | none =>
      rw [e] at hr
      dsimp only at hr ⊢
      cases e' : X.fn f with
      | none => rw [e'] at hr; cases hr
      | some sf =>
        rw [e'] at hr
        dsimp only at hr ⊢
        exact bodyC_le hd (callC_le hd n) e' hr

/-- What the kernel computes, the VM answers. -/
theorem callC_VC {X : Env} (hd : ∀ f sf, X.fn f = some sf → sf.drawsOk = true) {n f : Nat} {a : List V} {h : List HO} {r : CR × List HO} (hr : callC X n f a h = some r) : VC X f a h = some r :=
  callN_VC X n f a h r (callC_le hd n f a h r hr)

end Go.Vm
