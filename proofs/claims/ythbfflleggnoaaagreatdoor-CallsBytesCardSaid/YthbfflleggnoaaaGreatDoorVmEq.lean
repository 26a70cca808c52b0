/- The VM without a bound on its rounds: the equations by which its answers are computed. -/
import Derived.Test.YthbfflleggnoaaaGreatDoorVmDef
set_option linter.unusedSimpArgs false
set_option linter.unusedVariables false
namespace Go.Vm
open Go

def Mono {α : Type} (f : Nat → Option α) : Prop := ∀ n r, f n = some r → f (n + 1) = some r

theorem Mono.le {α : Type} {f : Nat → Option α} (h : Mono f) {n m : Nat} (hm : n ≤ m) {r : α} (hr : f n = some r) : f m = some r := by
  induction hm with
  | refl => exact hr
  | step _ ih => exact h _ _ ih

open Classical in
noncomputable def lim {α : Type} (f : Nat → Option α) : Option α := if h : ∃ n, (f n).isSome then f h.choose else none

theorem lim_of {α : Type} {f : Nat → Option α} (h : Mono f) {n : Nat} {r : α} (hr : f n = some r) : lim f = some r := by
  unfold lim
  have hex : ∃ n, (f n).isSome := ⟨n, by simp [hr]⟩
  rw [dif_pos hex]
  obtain ⟨r', hr'⟩ := Option.isSome_iff_exists.1 hex.choose_spec
  have h1 := h.le (Nat.le_max_left n hex.choose) hr
  have h2 := h.le (Nat.le_max_right n hex.choose) hr'
  rw [hr', ← h1, h2]

theorem lim_inv {α : Type} {f : Nat → Option α} {r : α} (h : lim f = some r) : ∃ n, f n = some r := by
  unfold lim at h
  split at h
  · rename_i hex; exact ⟨_, h⟩
  · simp at h

theorem lim_const {α : Type} (x : Option α) : lim (fun _ => x) = x := by
  cases x with
  | none => unfold lim; simp
  | some r => exact lim_of (f := fun _ => some r) (fun _ _ h => h) (n := 0) rfl

theorem lim_ext {α β : Type} {f : Nat → Option α} {g : Nat → Option β} (hf : Mono f) (x : Option α)
    (h1 : ∀ n r, f n = some r → x = some r) (h2 : ∀ r, x = some r → ∃ n, f n = some r) : lim f = x := by
  cases hx : x with
  | none =>
    cases hl : lim f with
    | none => rfl
    | some r => obtain ⟨n, hn⟩ := lim_inv hl; have := h1 _ _ hn; rw [hx] at this; cases this
  | some r => obtain ⟨n, hn⟩ := h2 r hx; exact lim_of hf hn

/-! ### more answers of the callees give the same answers -/

def LeC (c c' : Calls1) : Prop := ∀ f a h r, c f a h = some r → c' f a h = some r

theorem stepO_mono {c c' : Calls1} (hc : LeC c c') {σ : St} {d : Option Nat} {o : SO} {r : Out} (h : stepO c σ d o = some r) :
    stepO c' σ d o = some r := by
  cases o <;> try exact h
  case call strict f args =>
    simp only [stepO] at h ⊢
    split at h
    · rename_i vs caps e1 e2
      split at h
      · rename_i e; rw [hc _ _ _ _ e]; exact h
      · rename_i e; rw [hc _ _ _ _ e]; exact h
      · cases h
    · cases h
  case pcall f args =>
    simp only [stepO] at h ⊢
    split at h
    · rename_i vs caps e1 e2
      split at h
      · rename_i hp
        rw [if_pos hp]
        split at h
        · rename_i e; rw [hc _ _ _ _ e]; exact h
        · cases h
      · cases h
    · cases h

theorem stepG_mono {c c' : Calls1} (hc : LeC c c') {σ : St} {o : SOper} {r : Ex × St} (h : stepG c o σ = some r) : stepG c' o σ = some r := by
  have key : ∀ r, (match stepO c σ o.d o.o with | some (.ok x σ) => some (Ex.normal, σ.put o.d x) | some (.pan v σ) => some (.pan v, σ) | none => none) = some r →
      (match stepO c' σ o.d o.o with | some (.ok x σ) => some (Ex.normal, σ.put o.d x) | some (.pan v σ) => some (.pan v, σ) | none => none) = some r := by
    intro r h
    cases e : stepO c σ o.d o.o with
    | none => rw [e] at h; cases h
    | some q => rw [e] at h; rw [stepO_mono hc e]; exact h
  unfold stepG at h ⊢
  cases hg : o.g with
  | none => rw [hg] at h; exact key _ h
  | some p =>
    obtain ⟨t, want⟩ := p
    rw [hg] at h
    (try dsimp only at h ⊢)
    split at h
    · rename_i b e
      cases hb : (b == want) with
      | true => rw [hb] at h; exact key _ h
      | false => rw [hb] at h; exact h
    · exact h
    · cases h

theorem runOps_mono {c c' : Calls1} (hc : LeC c c') : ∀ {l : List SOper} {σ : St} {r : Ex × St}, runOps c l σ = some r → runOps c' l σ = some r
  | [], _, _, h => h
  | o :: os, σ, r, h => by
    unfold runOps at h ⊢
    cases e : stepG c o σ with
    | none => rw [e] at h; cases h
    | some q =>
      rw [e] at h; rw [stepG_mono hc e]
      obtain ⟨ex, σ'⟩ := q
      cases ex <;> first | exact runOps_mono hc h | exact h

theorem onlyN_some {q : Option (Ex × St)} {r : Ex × St} (h : onlyN q = some r) : q = some r ∧ r.1 = .normal := by
  unfold onlyN at h
  split at h
  · cases h; exact ⟨rfl, rfl⟩
  · cases h

theorem onlyN_normal {q : Option (Ex × St)} {r : Ex × St} (h : q = some r) (hr : r.1 = .normal) : onlyN q = some r := by
  subst h; obtain ⟨e, σ⟩ := r; cases hr; rfl

theorem runDraw_mono {c c' : Calls1} (hc : LeC c c') {k : Nat} {deps : List (List Nat)} {l : List SOper} {σ : St} {r : Ex × St}
    (h : runDraw c k deps l σ = some r) : runDraw c' k deps l σ = some r := by
  unfold runDraw at h ⊢
  split at h
  · rename_i hall
    obtain ⟨h, hn⟩ := onlyN_some h
    have h' := runOps_mono hc h
    rw [if_pos, onlyN_normal h' hn]
    intro is his
    rw [h', runOps_mono hc ((hall is his).trans h)]
  · cases h

theorem iter_mono {f g : St → Option (Ex × St)} (hfg : ∀ σ r, f σ = some r → g σ = some r) : ∀ {n m : Nat} {σ : St} {r : Ex × St}, n ≤ m → iter f n σ = some r → iter g m σ = some r
  | 0, _, _, _, _, h => by cases h
  | n + 1, m, σ, r, hm, h => by
    obtain ⟨m, rfl⟩ : ∃ k, m = k + 1 := ⟨m - 1, by omega⟩
    unfold iter at h ⊢
    cases e : f σ with
    | none => rw [e] at h; cases h
    | some q =>
      rw [e] at h; rw [hfg _ _ e]
      obtain ⟨ex, σ'⟩ := q
      cases ex <;> first | exact iter_mono hfg (by omega) h | exact h

theorem codeN_mono {c c' : Calls1} (hc : LeC c c') {n m : Nat} (hm : n ≤ m) : ∀ {s : SC} {σ : St} {r : Ex × St}, codeN c n s σ = some r → codeN c' m s σ = some r
  | .skip, _, _, h => h
  | .ops _, _, _, h => runOps_mono hc h
  | .draw _ _ _, _, _, h => runDraw_mono hc h
  | .seq a b, σ, r, h => by
    unfold codeN at h ⊢
    cases e : codeN c n a σ with
    | none => rw [e] at h; cases h
    | some q =>
      rw [e] at h; rw [codeN_mono hc hm e]
      obtain ⟨ex, σ'⟩ := q
      cases ex <;> first | exact codeN_mono hc hm h | exact h
  | .cond x a b, σ, r, h => by
    unfold codeN at h ⊢
    split at h
    · rename_i t e
      cases t <;> exact codeN_mono hc hm h
    · cases h
  | .block id ks ls a, σ, r, h => by
    unfold codeN at h ⊢
    cases e : codeN c n a σ with
    | none => rw [e] at h; cases h
    | some q => rw [e] at h; rw [codeN_mono hc hm e]; exact h
  | .loop ks ls a, σ, r, h => by
    unfold codeN at h ⊢
    exact iter_mono (fun σ r h => codeN_mono hc hm h) hm h
  | .exit _, _, _, h => h
  | .ret, _, _, h => h

theorem closeN_mono {X : Env} {c c' : Calls1} (hc : LeC c c') {n m : Nat} (hm : n ≤ m) {g : Nat} {caps : List V} {pv : V} {h h' : List HO} (hr : closeN X c n g caps pv h = some h') : closeN X c' m g caps pv h = some h' := by
  unfold closeN at hr ⊢
  simp only [Option.bind_eq_some_iff] at hr ⊢
  obtain ⟨sf, h1, R, h2, hr⟩ := hr
  refine ⟨sf, h1, R, h2, ?_⟩
  cases e : codeN c n R.pre (St.init caps h) with
  | none => rw [e] at hr; cases hr
  | some q =>
    rw [e] at hr; rw [codeN_mono hc hm e]
    obtain ⟨ex, σ⟩ := q
    cases ex <;> first | (cases hr; done) | skip
    dsimp only at hr ⊢
    simp only [Option.bind_eq_some_iff] at hr ⊢
    obtain ⟨p, h3, h4⟩ := hr
    exact ⟨p, codeN_mono hc hm h3, h4⟩

theorem bodyN_mono {X : Env} {c c' : Calls1} (hc : LeC c c') {n m : Nat} (hm : n ≤ m) {sf : SF} {args : List V} {h : List HO} {r : CR × List HO} (hr : bodyN X c n sf args h = some r) : bodyN X c' m sf args h = some r := by
  unfold bodyN at hr ⊢
  cases hd : sf.dfr with
  | none =>
    cases hv : sf.rcv with
    | some R => rw [hd, hv] at hr; cases hr
    | none =>
      rw [hd, hv] at hr
      dsimp only at hr ⊢
      cases ec : codeN c n sf.body (St.init args h) with
      | none => rw [ec] at hr; cases hr
      | some q => rw [ec] at hr; rw [codeN_mono hc hm ec]; exact hr
  | some D =>
    cases hv : sf.rcv with
    | some R => rw [hd, hv] at hr; cases hr
    | none =>
      rw [hd, hv] at hr
      dsimp only at hr ⊢
      cases e : codeN c n D.pre (St.init args h) with
      | none => rw [e] at hr; cases hr
      | some q =>
        rw [e] at hr; rw [codeN_mono hc hm e]
        obtain ⟨ex, σ⟩ := q
        cases ex <;> first | (cases hr; done) | skip
        dsimp only at hr ⊢
        split at hr
        · rename_i g caps ht
          simp only [Option.bind_eq_some_iff] at hr ⊢
          obtain ⟨p, h1, pv, h2, h', h3, h4⟩ := hr
          exact ⟨p, codeN_mono hc hm h1, pv, h2, h', closeN_mono hc hm h3, h4⟩
        · cases hr

theorem callN_mono1 (X : Env) : ∀ n, LeC (callN X n) (callN X (n + 1))
  | 0 => fun _ _ _ _ h => by cases h
  | n + 1 => fun f a h r hr => by
    unfold callN at hr ⊢
    cases e : X.ext f with
    | some g => rw [e] at hr; exact hr
    | none =>
      rw [e] at hr
      (try dsimp only at hr ⊢)
      cases e' : X.fn f with
      | none => rw [e'] at hr; cases hr
      | some sf =>
        rw [e'] at hr
        (try dsimp only at hr ⊢)
        exact bodyN_mono (callN_mono1 X n) (Nat.le_succ n) hr

theorem callN_mono (X : Env) (f : Nat) (a : List V) (h : List HO) : Mono (fun n => callN X n f a h) := fun n r hr => callN_mono1 X n f a h r hr

theorem callN_le (X : Env) {n m : Nat} (hm : n ≤ m) : LeC (callN X n) (callN X m) := fun f a h _ hr => (callN_mono X f a h).le hm hr

/-- What a call answers. -/
noncomputable def VC (X : Env) : Calls1 := fun f a h => lim fun n => callN X n f a h

theorem callN_VC (X : Env) (n : Nat) : LeC (callN X n) (VC X) := fun f a h _ hr => lim_of (callN_mono X f a h) hr

/-! ### what is answered is answered within some bound -/

theorem stepO_cont (X : Env) {σ : St} {d : Option Nat} {o : SO} {r : Out} (h : stepO (VC X) σ d o = some r) : ∃ n, stepO (callN X n) σ d o = some r := by
  cases o <;> try exact ⟨0, h⟩
  case call strict f args =>
    simp only [stepO] at h ⊢
    split at h
    · rename_i vs caps e1 e2
      split at h
      · rename_i e; obtain ⟨n, hn⟩ := lim_inv e; exact ⟨n, by rw [hn]; exact h⟩
      · rename_i e; obtain ⟨n, hn⟩ := lim_inv e; exact ⟨n, by rw [hn]; exact h⟩
      · cases h
    · cases h
  case pcall f args =>
    simp only [stepO] at h ⊢
    split at h
    · rename_i vs caps e1 e2
      split at h
      · rename_i hp
        split at h
        · rename_i e; obtain ⟨n, hn⟩ := lim_inv e; exact ⟨n, by rw [if_pos hp, hn]; exact h⟩
        · cases h
      · cases h
    · cases h

theorem stepG_cont (X : Env) {σ : St} {o : SOper} {r : Ex × St} (h : stepG (VC X) o σ = some r) : ∃ n, stepG (callN X n) o σ = some r := by
  have key : ∀ r, (match stepO (VC X) σ o.d o.o with | some (.ok x σ) => some (Ex.normal, σ.put o.d x) | some (.pan v σ) => some (.pan v, σ) | none => none) = some r →
      ∃ n, (match stepO (callN X n) σ o.d o.o with | some (.ok x σ) => some (Ex.normal, σ.put o.d x) | some (.pan v σ) => some (.pan v, σ) | none => none) = some r := by
    intro r h
    cases e : stepO (VC X) σ o.d o.o with
    | none => rw [e] at h; cases h
    | some q => rw [e] at h; obtain ⟨n, hn⟩ := stepO_cont X e; exact ⟨n, by rw [hn]; exact h⟩
  unfold stepG at h ⊢
  cases hg : o.g with
  | none => rw [hg] at h; exact key _ h
  | some p =>
    obtain ⟨t, want⟩ := p
    rw [hg] at h
    (try dsimp only at h ⊢)
    split at h
    · rename_i b e
      cases hb : (b == want) with
      | true => rw [hb] at h; exact key _ h
      | false => rw [hb] at h; exact ⟨0, h⟩
    · exact ⟨0, h⟩
    · cases h

theorem runOps_cont (X : Env) : ∀ {l : List SOper} {σ : St} {r : Ex × St}, runOps (VC X) l σ = some r → ∃ n, runOps (callN X n) l σ = some r
  | [], _, _, h => ⟨0, h⟩
  | o :: os, σ, r, h => by
    unfold runOps at h ⊢
    cases e : stepG (VC X) o σ with
    | none => rw [e] at h; cases h
    | some q =>
      rw [e] at h
      obtain ⟨n, hn⟩ := stepG_cont X e
      obtain ⟨ex, σ'⟩ := q
      cases ex
      case normal =>
        obtain ⟨m, hm⟩ := runOps_cont X h
        refine ⟨max n m, ?_⟩
        rw [stepG_mono (callN_le X (Nat.le_max_left n m)) hn]
        exact runOps_mono (callN_le X (Nat.le_max_right n m)) hm
      all_goals exact ⟨n, by rw [hn]; exact h⟩

theorem runDraw_cont (X : Env) {k : Nat} {deps : List (List Nat)} {l : List SOper} {σ : St} {r : Ex × St}
    (h : runDraw (VC X) k deps l σ = some r) : ∃ n, runDraw (callN X n) k deps l σ = some r := by
  unfold runDraw at h
  split at h
  · rename_i hall
    obtain ⟨h, hnn⟩ := onlyN_some h
    obtain ⟨n, hn⟩ := runOps_cont X h
    have key : ∀ L : List (List Nat), (∀ is ∈ L, runOps (VC X) (pickOps l is) (σ.drawn k) = runOps (VC X) l (σ.drawn k)) →
        ∃ n, ∀ is ∈ L, runOps (callN X n) (pickOps l is) (σ.drawn k) = some r := by
      intro L
      induction L with
      | nil => exact fun _ => ⟨0, fun _ hm => by cases hm⟩
      | cons x L ih =>
        intro hL
        obtain ⟨n, hn⟩ := ih fun is his => hL is (List.mem_cons_of_mem _ his)
        obtain ⟨m, hm⟩ := runOps_cont X ((hL x List.mem_cons_self).trans h)
        refine ⟨max n m, fun is his => ?_⟩
        rcases List.mem_cons.1 his with rfl | his
        · exact runOps_mono (callN_le X (Nat.le_max_right n m)) hm
        · exact runOps_mono (callN_le X (Nat.le_max_left n m)) (hn is his)
    obtain ⟨m, hm⟩ := key _ hall
    refine ⟨max n m, ?_⟩
    have h1 := runOps_mono (callN_le X (Nat.le_max_left n m)) hn
    unfold runDraw
    rw [if_pos, onlyN_normal h1 hnn]
    intro is his
    rw [h1, runOps_mono (callN_le X (Nat.le_max_right n m)) (hm is his)]
  · cases h

theorem codeN_cont (X : Env) (m : Nat) : ∀ {s : SC} {σ : St} {r : Ex × St}, codeN (VC X) m s σ = some r → ∃ n, codeN (callN X n) m s σ = some r
  | .skip, _, _, h => ⟨0, h⟩
  | .ops _, _, _, h => runOps_cont X h
  | .draw _ _ _, _, _, h => runDraw_cont X h
  | .seq a b, σ, r, h => by
    unfold codeN at h ⊢
    cases e : codeN (VC X) m a σ with
    | none => rw [e] at h; cases h
    | some q =>
      rw [e] at h
      obtain ⟨n, hn⟩ := codeN_cont X m e
      obtain ⟨ex, σ'⟩ := q
      cases ex
      case normal =>
        obtain ⟨n', hn'⟩ := codeN_cont X m h
        refine ⟨max n n', ?_⟩
        rw [codeN_mono (callN_le X (Nat.le_max_left n n')) (Nat.le_refl m) hn]
        exact codeN_mono (callN_le X (Nat.le_max_right n n')) (Nat.le_refl m) hn'
      all_goals exact ⟨n, by rw [hn]; exact h⟩
  | .cond x a b, σ, r, h => by
    unfold codeN at h ⊢
    split at h
    · rename_i t e
      cases t <;> exact codeN_cont X m h
    · cases h
  | .block id ks ls a, σ, r, h => by
    unfold codeN at h ⊢
    cases e : codeN (VC X) m a σ with
    | none => rw [e] at h; cases h
    | some q => rw [e] at h; obtain ⟨n, hn⟩ := codeN_cont X m e; exact ⟨n, by rw [hn]; exact h⟩
  | .loop ks ls a, σ, r, h => by
    unfold codeN at h ⊢
    have key : ∀ j σ r, iter (fun σ => codeN (VC X) m a (σ.keep ks ls)) j σ = some r → ∃ n, iter (fun σ => codeN (callN X n) m a (σ.keep ks ls)) j σ = some r := by
      intro j
      induction j with
      | zero => intro σ r h; cases h
      | succ j ih =>
        intro σ r h
        unfold iter at h ⊢
        cases e : codeN (VC X) m a (σ.keep ks ls) with
        | none => rw [e] at h; cases h
        | some q =>
          rw [e] at h
          obtain ⟨n, hn⟩ := codeN_cont X m e
          obtain ⟨ex, σ'⟩ := q
          cases ex
          case normal =>
            obtain ⟨n', hn'⟩ := ih _ _ h
            refine ⟨max n n', ?_⟩
            rw [codeN_mono (callN_le X (Nat.le_max_left n n')) (Nat.le_refl m) hn]
            exact iter_mono (fun σ r h => codeN_mono (callN_le X (Nat.le_max_right n n')) (Nat.le_refl m) h) (Nat.le_refl j) hn'
          all_goals exact ⟨n, by rw [hn]; exact h⟩
    exact key _ _ _ h
  | .exit _, _, _, h => ⟨0, h⟩
  | .ret, _, _, h => ⟨0, h⟩

/-- What code comes to. -/
noncomputable def codeL (X : Env) (s : SC) (σ : St) : Option (Ex × St) := lim fun n => codeN (VC X) n s σ

theorem codeN_mono' (X : Env) (s : SC) (σ : St) : Mono (fun n => codeN (VC X) n s σ) := fun n _ h => codeN_mono (fun _ _ _ _ h => h) (Nat.le_succ n) h

theorem codeL_of {X : Env} {s : SC} {σ : St} {n : Nat} {r : Ex × St} (h : codeN (VC X) n s σ = some r) : codeL X s σ = some r := lim_of (codeN_mono' X s σ) h

/-- A call of a function that is known by its code. -/
theorem VC_code {X : Env} {f : Nat} {sf : SF} (hf : X.fn f = some sf) (he : X.ext f = none) (hd : sf.dfr = none) (hv : sf.rcv = none) (args : List V) (h : List HO) :
    VC X f args h = endOf sf h (codeL X sf.body (St.init args h)) := by
  refine lim_ext (β := Nat) (g := fun _ => none) (callN_mono X f args h) _ ?_ ?_
  · intro n r hr
    cases n with
    | zero => cases hr
    | succ n =>
      (try dsimp only at hr)
      simp only [callN, he, hf, bodyN, hd, hv] at hr
      cases ec : codeN (callN X n) n sf.body (St.init args h) with
      | none => rw [ec] at hr; cases hr
      | some q => rw [ec] at hr; rw [codeL_of (codeN_mono (callN_VC X n) (Nat.le_refl n) ec)]; exact hr
  · intro r hr
    cases ec : codeL X sf.body (St.init args h) with
    | none => rw [ec] at hr; cases hr
    | some q =>
      rw [ec] at hr
      obtain ⟨n, hn⟩ := lim_inv ec
      obtain ⟨m, hm⟩ := codeN_cont X n hn
      refine ⟨max n m + 1, ?_⟩
      (try dsimp only)
      simp only [callN, he, hf, bodyN, hd, hv]
      rw [codeN_mono (callN_le X (Nat.le_max_right n m)) (Nat.le_max_left n m) hm]
      exact hr

theorem VC_ext {X : Env} {f : Nat} {e : List V → List HO → Option (CR × List HO)} (he : X.ext f = some e) (args : List V) (h : List HO) :
    VC X f args h = e args h := by
  refine lim_ext (β := Nat) (g := fun _ => none) (callN_mono X f args h) _ ?_ ?_
  · intro n r hr
    cases n with
    | zero => cases hr
    | succ n => (try dsimp only at hr); simp only [callN, he] at hr; exact hr
  · intro r hr
    exact ⟨1, by (try dsimp only); simp only [callN, he]; exact hr⟩

section
variable (X : Env) (σ : St)
theorem codeL_skip : codeL X .skip σ = some (.normal, σ) := lim_const _
theorem codeL_exit (id : Nat) : codeL X (.exit id) σ = some (.exit id, σ) := lim_const _
theorem codeL_ret : codeL X .ret σ = some (.ret, σ) := lim_const _
theorem codeL_ops (l : List SOper) : codeL X (.ops l) σ = runOps (VC X) l σ := lim_const _
theorem codeL_draw (k : Nat) (deps : List (List Nat)) (l : List SOper) : codeL X (.draw k deps l) σ = runDraw (VC X) k deps l σ := lim_const _
theorem codeL_seq (a b : SC) : codeL X (.seq a b) σ = match codeL X a σ with | some (.normal, σ) => codeL X b σ | r => r := by
  refine lim_ext (β := Nat) (g := fun _ => none) (codeN_mono' X _ σ) _ ?_ ?_
  · intro n r hr
    (try dsimp only at hr)
    unfold codeN at hr
    cases e : codeN (VC X) n a σ with
    | none => rw [e] at hr; cases hr
    | some q =>
      rw [e] at hr; rw [codeL_of e]
      obtain ⟨ex, σ'⟩ := q
      cases ex <;> first | exact codeL_of hr | exact hr
  · intro r hr
    cases e : codeL X a σ with
    | none => rw [e] at hr; cases hr
    | some q =>
      rw [e] at hr
      obtain ⟨n, hn⟩ := lim_inv e
      obtain ⟨ex, σ'⟩ := q
      cases ex
      case normal =>
        obtain ⟨m, hm⟩ := lim_inv hr
        refine ⟨max n m, ?_⟩
        (try dsimp only); unfold codeN
        rw [(codeN_mono' X a σ).le (Nat.le_max_left n m) hn]
        exact (codeN_mono' X b σ').le (Nat.le_max_right n m) hm
      all_goals
        refine ⟨n, ?_⟩
        (try dsimp only); unfold codeN
        rw [hn]; exact hr
theorem codeL_cond (c : Opd) (a b : SC) : codeL X (.cond c a b) σ = match σ.ev c with | .v (.bool t) => bif t then codeL X a σ else codeL X b σ | _ => none := by
  have : (fun n => codeN (VC X) n (.cond c a b) σ) = fun n => match σ.ev c with | .v (.bool t) => bif t then codeN (VC X) n a σ else codeN (VC X) n b σ | _ => none := by
    funext n; simp only [codeN]; rfl
  unfold codeL
  rw [this]
  split
  · rename_i t _; cases t <;> rfl
  · exact lim_const none
theorem codeL_block (id : Nat) (ks ls : List Nat) (a : SC) : codeL X (.block id ks ls a) σ = match codeL X a σ with
    | some (.exit id', σ) => if id' = id then some (.normal, σ.keep ks ls) else some (.exit id', σ)
    | r => r := by
  refine lim_ext (β := Nat) (g := fun _ => none) (codeN_mono' X _ σ) _ ?_ ?_
  · intro n r hr
    (try dsimp only at hr)
    unfold codeN at hr
    cases e : codeN (VC X) n a σ with
    | none => rw [e] at hr; cases hr
    | some q => rw [e] at hr; rw [codeL_of e]; exact hr
  · intro r hr
    cases e : codeL X a σ with
    | none => rw [e] at hr; cases hr
    | some q => rw [e] at hr; obtain ⟨n, hn⟩ := lim_inv e; exact ⟨n, by (try dsimp only); unfold codeN; rw [hn]; exact hr⟩
theorem codeL_loop (ks ls : List Nat) (a : SC) : codeL X (.loop ks ls a) σ = match codeL X a (σ.keep ks ls) with
    | some (.normal, σ) => codeL X (.loop ks ls a) σ
    | r => r := by
  refine lim_ext (β := Nat) (g := fun _ => none) (codeN_mono' X _ σ) _ ?_ ?_
  · intro n r hr
    (try dsimp only at hr)
    unfold codeN at hr
    cases n with
    | zero => cases hr
    | succ n =>
      unfold iter at hr
      cases e : codeN (VC X) (n + 1) a (σ.keep ks ls) with
      | none => rw [e] at hr; cases hr
      | some q =>
        rw [e] at hr; rw [codeL_of e]
        obtain ⟨ex, σ'⟩ := q
        cases ex
        case normal =>
          (try dsimp only at hr ⊢)
          refine codeL_of (n := n + 1) ?_
          unfold codeN
          exact iter_mono (fun _ _ h => h) (Nat.le_succ n) hr
        all_goals exact hr
  · intro r hr
    cases e : codeL X a (σ.keep ks ls) with
    | none => rw [e] at hr; cases hr
    | some q =>
      rw [e] at hr
      obtain ⟨n, hn⟩ := lim_inv e
      obtain ⟨ex, σ'⟩ := q
      cases ex
      case normal =>
        obtain ⟨m, hm⟩ := lim_inv hr
        refine ⟨max n m + 1, ?_⟩
        (try dsimp only); unfold codeN iter
        rw [(codeN_mono' X a _).le (Nat.le_succ_of_le (Nat.le_max_left n m)) hn]
        (try dsimp only)
        unfold codeN at hm
        exact iter_mono (fun σ r h => (codeN_mono' X a _).le (by omega) h) (by omega) hm
      all_goals
        refine ⟨n + 1, ?_⟩
        (try dsimp only); unfold codeN iter
        rw [(codeN_mono' X a _).le (Nat.le_succ n) hn]
        exact hr
end

/-! ### the same, with what is still to be done as a list -/

inductive It where
  | c (s : SC)
  | o (l : List SOper)
  | d (l : List SOper)
  | e (id : Nat) (ks ls : List Nat)

noncomputable def contK (X : Env) : List It → Ex → St → Option (Ex × St)
  | [], e, σ => some (e, σ)
  | i :: k, e, σ =>
    match i, e with
    | .c s, .normal =>
      match codeL X s σ with
      | some (e, σ) => contK X k e σ
      | none => none
    | .o l, .normal =>
      match runOps (VC X) l σ with
      | some (e, σ) => contK X k e σ
      | none => none
    | .d l, .normal =>
      match onlyN (runOps (VC X) l σ) with
      | some (e, σ) => contK X k e σ
      | none => none
    | .e id ks ls, .exit i => if i = id then contK X k .normal (σ.keep ks ls) else contK X k (.exit i) σ
    | _, e => contK X k e σ

noncomputable def run (X : Env) (k : List It) (σ : St) : Option (Ex × St) := contK X k .normal σ

/-- What follows an operation. -/
noncomputable def after (X : Env) (r : Option Out) (d : Option Nat) (os : List SOper) (k : List It) : Option (Ex × St) :=
  match r with
  | some (.ok x σ) => run X (.o os :: k) (σ.put d x)
  | some (.pan v σ) => contK X k (.pan v) σ
  | none => none

/-- The same in a region that draws. -/
noncomputable def afterD (X : Env) (r : Option Out) (d : Option Nat) (os : List SOper) (k : List It) : Option (Ex × St) :=
  match r with
  | some (.ok x σ) => run X (.d os :: k) (σ.put d x)
  | _ => none

section
variable (X : Env) (σ : St) (k : List It)
theorem contK_nil (e : Ex) : contK X [] e σ = some (e, σ) := rfl
theorem run_nil : run X [] σ = some (.normal, σ) := rfl
theorem run_skip : run X (.c .skip :: k) σ = run X k σ := by simp only [run, contK, codeL_skip]
theorem run_seq (a b : SC) : run X (.c (.seq a b) :: k) σ = run X (.c a :: .c b :: k) σ := by
  simp only [run, contK, codeL_seq]
  cases e : codeL X a σ with
  | none => rfl
  | some q => obtain ⟨ex, σ'⟩ := q; cases ex <;> rfl
theorem run_cond (c : Opd) (a b : SC) {t : Bool} (h : σ.ev c = .v (.bool t)) : run X (.c (.cond c a b) :: k) σ = bif t then run X (.c a :: k) σ else run X (.c b :: k) σ := by
  simp only [run, contK, codeL_cond, h]
  cases t <;> rfl
theorem run_block (id : Nat) (ks ls : List Nat) (a : SC) : run X (.c (.block id ks ls a) :: k) σ = run X (.c a :: .e id ks ls :: k) σ := by
  simp only [run, contK, codeL_block]
  cases e : codeL X a σ with
  | none => rfl
  | some q =>
    obtain ⟨ex, σ'⟩ := q
    cases ex <;> try rfl
    (try dsimp only)
    split <;> rename_i he <;> split at he <;> (try cases he) <;> simp_all [contK]
theorem run_e (id : Nat) (ks ls : List Nat) : run X (.e id ks ls :: k) σ = run X k σ := rfl
theorem run_loop (ks ls : List Nat) (a : SC) : run X (.c (.loop ks ls a) :: k) σ = run X (.c a :: .c (.loop ks ls a) :: k) (σ.keep ks ls) := by
  conv => lhs; simp only [run, contK]; rw [codeL_loop]
  simp only [run, contK]
  cases e : codeL X a (σ.keep ks ls) with
  | none => rfl
  | some q => obtain ⟨ex, σ'⟩ := q; cases ex <;> rfl
theorem run_exit (id : Nat) : run X (.c (.exit id) :: k) σ = contK X k (.exit id) σ := by simp only [run, contK, codeL_exit]
theorem run_ret : run X (.c .ret :: k) σ = contK X k .ret σ := by simp only [run, contK, codeL_ret]
theorem contK_c (s : SC) (e : Ex) (h : e ≠ .normal) : contK X (.c s :: k) e σ = contK X k e σ := by cases e <;> first | exact absurd rfl h | rfl
theorem contK_o (l : List SOper) (e : Ex) (h : e ≠ .normal) : contK X (.o l :: k) e σ = contK X k e σ := by cases e <;> first | exact absurd rfl h | rfl
theorem contK_exit_c (s : SC) (id : Nat) : contK X (.c s :: k) (.exit id) σ = contK X k (.exit id) σ := rfl
theorem contK_exit_o (l : List SOper) (id : Nat) : contK X (.o l :: k) (.exit id) σ = contK X k (.exit id) σ := rfl
theorem contK_exit_e (id id' : Nat) (ks ls : List Nat) : contK X (.e id ks ls :: k) (.exit id') σ = if id' = id then run X k (σ.keep ks ls) else contK X k (.exit id') σ := rfl
theorem contK_ret : contK X k .ret σ = some (.ret, σ) := by
  induction k with
  | nil => rfl
  | cons i k ih => cases i <;> exact ih
theorem contK_pan (v : V) : contK X k (.pan v) σ = some (.pan v, σ) := by
  induction k with
  | nil => rfl
  | cons i k ih => cases i <;> exact ih
theorem run_ops (l : List SOper) : run X (.c (.ops l) :: k) σ = run X (.o l :: k) σ := by simp only [run, contK, codeL_ops]
theorem run_d_nil : run X (.d [] :: k) σ = run X k σ := rfl
theorem run_d (d : Option Nat) (o : SO) (os : List SOper) : run X (.d (⟨d, none, o⟩ :: os) :: k) σ = afterD X (stepO (VC X) σ d o) d os k := by
  simp only [run, contK, runOps, stepG, afterD]
  cases stepO (VC X) σ d o with
  | none => rfl
  | some q =>
    cases q with
    | ok x σ' => rfl
    | pan v σ' => rfl
theorem run_dg (d : Option Nat) (t : Nat) (want : Bool) (o : SO) (os : List SOper) {b : Bool} (h : σ.e t = .v (.bool b)) :
    run X (.d (⟨d, some (t, want), o⟩ :: os) :: k) σ = bif b == want then afterD X (stepO (VC X) σ d o) d os k else run X (.d os :: k) (σ.put d (.v (.tuple []))) := by
  simp only [run, contK, runOps, stepG, afterD, h]
  cases hb : (b == want) with
  | false => rfl
  | true =>
    cases stepO (VC X) σ d o with
    | none => rfl
    | some q =>
      cases q with
      | ok x σ' => rfl
      | pan v σ' => rfl
theorem run_o_nil : run X (.o [] :: k) σ = run X k σ := rfl
theorem run_o (d : Option Nat) (o : SO) (os : List SOper) : run X (.o (⟨d, none, o⟩ :: os) :: k) σ = after X (stepO (VC X) σ d o) d os k := by
  simp only [run, contK, runOps, stepG, after]
  cases stepO (VC X) σ d o with
  | none => rfl
  | some q =>
    cases q with
    | ok x σ' => rfl
    | pan v σ' => rfl
theorem run_g (d : Option Nat) (t : Nat) (want : Bool) (o : SO) (os : List SOper) {b : Bool} (h : σ.e t = .v (.bool b)) :
    run X (.o (⟨d, some (t, want), o⟩ :: os) :: k) σ = bif b == want then after X (stepO (VC X) σ d o) d os k else run X (.o os :: k) (σ.put d (.v (.tuple []))) := by
  simp only [run, contK, runOps, stepG, after, h]
  cases hb : (b == want) with
  | false => rfl
  | true =>
    cases stepO (VC X) σ d o with
    | none => rfl
    | some q =>
      cases q with
      | ok x σ' => rfl
      | pan v σ' => rfl
end

/-- A function's answer by its body. -/
theorem VC_run {X : Env} {f : Nat} {sf : SF} (hf : X.fn f = some sf) (he : X.ext f = none) (hd : sf.dfr = none) (hv : sf.rcv = none) (args : List V) (h : List HO) :
    VC X f args h = endOf sf h (run X [.c sf.body] (St.init args h)) := by
  rw [VC_code hf he hd hv]
  congr 1
  simp only [run, contK]
  cases codeL X sf.body (St.init args h) with
  | none => rfl
  | some q => rfl

theorem run_code {X : Env} {s : SC} {σ : St} : run X [.c s] σ = codeL X s σ := by
  simp only [run, contK]
  cases codeL X s σ with
  | none => rfl
  | some q => rfl

/-- A function's answer that defers a closure's call. -/
theorem VC_dfr {X : Env} {f : Nat} {sf : SF} {D : DF} (hf : X.fn f = some sf) (he : X.ext f = none) (hd : sf.dfr = some D) (hv : sf.rcv = none) {args : List V} {h : List HO}
    {σ σ' τ τ' : St} {g : Nat} {caps : List V} {ex ex2 : Ex} {pv v : V} {sg : SF} {R : RF}
    (h1 : run X [.c D.pre] (St.init args h) = some (.normal, σ)) (h2 : σ.e D.t = .v (.func g caps)) (h3 : run X [.c D.rest] σ = some (ex, σ')) (h4 : pvOf ex = some pv)
    (hg : X.fn g = some sg) (hr : sg.rcv = some R) (h5 : run X [.c R.pre] (St.init caps σ'.h) = some (.normal, τ)) (h6 : run X [.c R.rest] (τ.put (some R.d) (.v pv)) = some (ex2, τ')) (h7 : ex2.isEnd = true)
    (h8 : results { σ' with h := τ'.h } sf.res = some v) : VC X f args h = some (finish sf.keep h (.ret v) τ'.h) := by
  rw [run_code] at h1 h3 h5 h6
  obtain ⟨n1, e1⟩ := lim_inv h1
  obtain ⟨n3, e3⟩ := lim_inv h3
  obtain ⟨n5, e5⟩ := lim_inv h5
  obtain ⟨n6, e6⟩ := lim_inv h6
  obtain ⟨m1, f1⟩ := codeN_cont X n1 e1
  obtain ⟨m3, f3⟩ := codeN_cont X n3 e3
  obtain ⟨m5, f5⟩ := codeN_cont X n5 e5
  obtain ⟨m6, f6⟩ := codeN_cont X n6 e6
  generalize hk : n1 + n3 + n5 + n6 + m1 + m3 + m5 + m6 = k
  have g1 := codeN_mono (callN_le X (m := k) (by omega)) (m := k) (by omega) f1
  have g3 := codeN_mono (callN_le X (m := k) (by omega)) (m := k) (by omega) f3
  have g5 := codeN_mono (callN_le X (m := k) (by omega)) (m := k) (by omega) f5
  have g6 := codeN_mono (callN_le X (m := k) (by omega)) (m := k) (by omega) f6
  refine callN_VC X (k + 1) _ _ _ _ ?_
  simp only [callN, he, hf, bodyN, hd, hv, g1, h2, g3, Option.bind_some, h4, closeN, hg, hr, g5, g6, h7, if_true, h8, Option.map_some]

end Go.Vm
