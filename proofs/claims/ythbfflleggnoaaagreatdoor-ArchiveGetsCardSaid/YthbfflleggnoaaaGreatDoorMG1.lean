/- The VM without a bound on its rounds: the equations by which its answers are computed. How the VM's values and heap stand to the model's: the relation, and that it is kept when memory grows. The VM's heap and variables beside the model's memory; what is kept when one block turns, or one is new. When the VM's code is that of a function of a program: asked by a plain computation. '==' of values whose cells are numbers, texts and bools, and the look for a key: in the model, and what it answers. The operations that look at temporaries alone: the model answers as the VM does. The operations that look at temporaries alone, further. The operations that look at temporaries alone: the rest. Slices, indexes. Reading memory and maps. New blocks, and stores. The operations that make memory. Stores, and slices that are made. -/
import Derived.Test.YthbfflleggnoaaaGreatDoorMG0
import Derived.Below
import Derived.DeepKeys
import Derived.ChangeKeysEq
import Derived.MapKept
import Derived.WideKeyRuns
import Derived.Laws.BytesString
import Derived.Laws.Append
section
set_option linter.unusedSimpArgs false
set_option linter.unusedVariables false
namespace Go.Vm
open Go

def Mono {α : Type} (f : Nat → Option α) : Prop := ∀ n r, f n = some r → f (n + 1) = some r

theorem Mono.le {α : Type} {f : Nat → Option α} (h : Mono f) {n m : Nat} (hm : n ≤ m) {r : α} (hr : f n = some r) : f m = some r := by
  induction hm with
  | refl => exact hr
  | step _ ih => exact h _ _ ih

open Classical in
noncomputable def lim {α : Type} (f : Nat → Option α) : Option α := if h : ∃ n, (f n).isSome then f h.choose else none

theorem lim_of {α : Type} {f : Nat → Option α} (h : Mono f) {n : Nat} {r : α} (hr : f n = some r) : lim f = some r := by
  unfold lim
  have hex : ∃ n, (f n).isSome := ⟨n, by simp [hr]⟩
  rw [dif_pos hex]
  obtain ⟨r', hr'⟩ := Option.isSome_iff_exists.1 hex.choose_spec
  have h1 := h.le (Nat.le_max_left n hex.choose) hr
  have h2 := h.le (Nat.le_max_right n hex.choose) hr'
  rw [hr', ← h1, h2]

theorem lim_inv {α : Type} {f : Nat → Option α} {r : α} (h : lim f = some r) : ∃ n, f n = some r := by
  unfold lim at h
  split at h
  · rename_i hex; exact ⟨_, h⟩
  · simp at h

theorem lim_const {α : Type} (x : Option α) : lim (fun _ => x) = x := by
  cases x with
  | none => unfold lim; simp
  | some r => exact lim_of (f := fun _ => some r) (fun _ _ h => h) (n := 0) rfl

theorem lim_ext {α β : Type} {f : Nat → Option α} {g : Nat → Option β} (hf : Mono f) (x : Option α)
    (h1 : ∀ n r, f n = some r → x = some r) (h2 : ∀ r, x = some r → ∃ n, f n = some r) : lim f = x := by
  cases hx : x with
  | none =>
    cases hl : lim f with
    | none => rfl
    | some r => obtain ⟨n, hn⟩ := lim_inv hl; have := h1 _ _ hn; rw [hx] at this; cases this
  | some r => obtain ⟨n, hn⟩ := h2 r hx; exact lim_of hf hn

/-! ### more answers of the callees give the same answers -/

def LeC (c c' : Calls1) : Prop := ∀ f a h r, c f a h = some r → c' f a h = some r

theorem stepO_mono {c c' : Calls1} (hc : LeC c c') {σ : St} {d : Option Nat} {o : SO} {r : Out} (h : stepO c σ d o = some r) :
    stepO c' σ d o = some r := by
  cases o <;> try exact h
  case call strict f args =>
    simp only [stepO] at h ⊢
    split at h
    · rename_i vs caps e1 e2
      split at h
      · rename_i e; rw [hc _ _ _ _ e]; exact h
      · rename_i e; rw [hc _ _ _ _ e]; exact h
      · cases h
    · cases h
  case pcall f args =>
    simp only [stepO] at h ⊢
    split at h
    · rename_i vs caps e1 e2
      split at h
      · rename_i hp
        rw [if_pos hp]
        split at h
        · rename_i e; rw [hc _ _ _ _ e]; exact h
        · cases h
      · cases h
    · cases h

theorem stepG_mono {c c' : Calls1} (hc : LeC c c') {σ : St} {o : SOper} {r : Ex × St} (h : stepG c o σ = some r) : stepG c' o σ = some r := by
  have key : ∀ r, (match stepO c σ o.d o.o with | some (.ok x σ) => some (Ex.normal, σ.put o.d x) | some (.pan v σ) => some (.pan v, σ) | none => none) = some r →
      (match stepO c' σ o.d o.o with | some (.ok x σ) => some (Ex.normal, σ.put o.d x) | some (.pan v σ) => some (.pan v, σ) | none => none) = some r := by
    intro r h
    cases e : stepO c σ o.d o.o with
    | none => rw [e] at h; cases h
    | some q => rw [e] at h; rw [stepO_mono hc e]; exact h
  unfold stepG at h ⊢
  cases hg : o.g with
  | none => rw [hg] at h; exact key _ h
  | some p =>
    obtain ⟨t, want⟩ := p
    rw [hg] at h
    (try dsimp only at h ⊢)
    split at h
    · rename_i b e
      cases hb : (b == want) with
      | true => rw [hb] at h; exact key _ h
      | false => rw [hb] at h; exact h
    · exact h
    · cases h

theorem runOps_mono {c c' : Calls1} (hc : LeC c c') : ∀ {l : List SOper} {σ : St} {r : Ex × St}, runOps c l σ = some r → runOps c' l σ = some r
  | [], _, _, h => h
  | o :: os, σ, r, h => by
    unfold runOps at h ⊢
    cases e : stepG c o σ with
    | none => rw [e] at h; cases h
    | some q =>
      rw [e] at h; rw [stepG_mono hc e]
      obtain ⟨ex, σ'⟩ := q
      cases ex <;> first | exact runOps_mono hc h | exact h

theorem onlyN_some {q : Option (Ex × St)} {r : Ex × St} (h : onlyN q = some r) : q = some r ∧ r.1 = .normal := by
  unfold onlyN at h
  split at h
  · cases h; exact ⟨rfl, rfl⟩
  · cases h

theorem onlyN_normal {q : Option (Ex × St)} {r : Ex × St} (h : q = some r) (hr : r.1 = .normal) : onlyN q = some r := by
  subst h; obtain ⟨e, σ⟩ := r; cases hr; rfl

theorem sameD_some {p : Bool} {l : List SOper} {a b : Option (Ex × St)} (h : sameD p l a b) : (∃ x, a = some x) ∧ ∃ y, b = some y := by
  unfold sameD at h
  split at h
  · exact ⟨⟨_, rfl⟩, _, rfl⟩
  · exact ⟨⟨_, rfl⟩, _, rfl⟩
  · exact h.elim
theorem outD_some {p : Bool} {l : List SOper} {q : Option (Ex × St)} {r : Ex × St} (h : outD p l q = some r) :
    (∃ σ, q = some (.normal, σ) ∧ r = (.normal, σ)) ∨ ∃ v σ, p = true ∧ q = some (.pan v, σ) ∧ r = (.pan v, forgetE l σ) := by
  unfold outD at h
  split at h
  · cases h; exact .inl ⟨_, rfl, rfl⟩
  · cases p
    · cases h
    · cases h; exact .inr ⟨_, _, rfl, rfl, rfl⟩
  · cases h

theorem runDraw_mono {c c' : Calls1} (hc : LeC c c') {k : Nat} {deps : List (List Nat)} {l : List SOper} {σ : St} {r : Ex × St}
    (h : runDraw c k deps l σ = some r) : runDraw c' k deps l σ = some r := by
  unfold runDraw at h ⊢
  split at h
  · rename_i hall
    obtain ⟨x, hx⟩ : ∃ x, runOps c l (σ.drawn (k / 2)) = some x := by
      rcases outD_some h with ⟨_, e, _⟩ | ⟨_, _, _, e, _⟩ <;> exact ⟨_, e⟩
    have h' := runOps_mono hc hx
    rw [hx] at h hall
    rw [h', if_pos, h]
    intro is his
    have hs := hall is his
    obtain ⟨⟨y, hy⟩, _⟩ := sameD_some hs
    rw [hy] at hs
    rw [runOps_mono hc hy]
    exact hs
  · cases h

theorem iter_mono {f g : St → Option (Ex × St)} (hfg : ∀ σ r, f σ = some r → g σ = some r) : ∀ {n m : Nat} {σ : St} {r : Ex × St}, n ≤ m → iter f n σ = some r → iter g m σ = some r
  | 0, _, _, _, _, h => by cases h
  | n + 1, m, σ, r, hm, h => by
    obtain ⟨m, rfl⟩ : ∃ k, m = k + 1 := ⟨m - 1, by omega⟩
    unfold iter at h ⊢
    cases e : f σ with
    | none => rw [e] at h; cases h
    | some q =>
      rw [e] at h; rw [hfg _ _ e]
      obtain ⟨ex, σ'⟩ := q
      cases ex <;> first | exact iter_mono hfg (by omega) h | exact h

theorem codeN_mono {c c' : Calls1} (hc : LeC c c') {n m : Nat} (hm : n ≤ m) : ∀ {s : SC} {σ : St} {r : Ex × St}, codeN c n s σ = some r → codeN c' m s σ = some r
  | .skip, _, _, h => h
  | .ops _, _, _, h => runOps_mono hc h
  | .draw _ _ _, _, _, h => runDraw_mono hc h
  | .seq a b, σ, r, h => by
    unfold codeN at h ⊢
    cases e : codeN c n a σ with
    | none => rw [e] at h; cases h
    | some q =>
      rw [e] at h; rw [codeN_mono hc hm e]
      obtain ⟨ex, σ'⟩ := q
      cases ex <;> first | exact codeN_mono hc hm h | exact h
  | .cond x a b, σ, r, h => by
    unfold codeN at h ⊢
    split at h
    · rename_i t e
      cases t <;> exact codeN_mono hc hm h
    · cases h
  | .block id ks ls a, σ, r, h => by
    unfold codeN at h ⊢
    cases e : codeN c n a σ with
    | none => rw [e] at h; cases h
    | some q => rw [e] at h; rw [codeN_mono hc hm e]; exact h
  | .loop ks ls a, σ, r, h => by
    unfold codeN at h ⊢
    exact iter_mono (fun σ r h => codeN_mono hc hm h) hm h
  | .exit _, _, _, h => h
  | .ret, _, _, h => h

theorem closeN_mono {X : Env} {c c' : Calls1} (hc : LeC c c') {n m : Nat} (hm : n ≤ m) {g : Nat} {caps : List V} {pv : V} {h h' : List HO} (hr : closeN X c n g caps pv h = some h') : closeN X c' m g caps pv h = some h' := by
  unfold closeN at hr ⊢
  simp only [Option.bind_eq_some_iff] at hr ⊢
  obtain ⟨sf, h1, R, h2, hr⟩ := hr
  refine ⟨sf, h1, R, h2, ?_⟩
  cases e : codeN c n R.pre (St.init caps h) with
  | none => rw [e] at hr; cases hr
  | some q =>
    rw [e] at hr; rw [codeN_mono hc hm e]
    obtain ⟨ex, σ⟩ := q
    cases ex <;> first | (cases hr; done) | skip
    dsimp only at hr ⊢
    simp only [Option.bind_eq_some_iff] at hr ⊢
    obtain ⟨p, h3, h4⟩ := hr
    exact ⟨p, codeN_mono hc hm h3, h4⟩

theorem bodyN_mono {X : Env} {c c' : Calls1} (hc : LeC c c') {n m : Nat} (hm : n ≤ m) {sf : SF} {args : List V} {h : List HO} {r : CR × List HO} (hr : bodyN X c n sf args h = some r) : bodyN X c' m sf args h = some r := by
  unfold bodyN at hr ⊢
  cases hd : sf.dfr with
  | none =>
    cases hv : sf.rcv with
    | some R => rw [hd, hv] at hr; cases hr
    | none =>
      rw [hd, hv] at hr
      dsimp only at hr ⊢
      cases ec : codeN c n sf.body (St.init args h) with
      | none => rw [ec] at hr; cases hr
      | some q => rw [ec] at hr; rw [codeN_mono hc hm ec]; exact hr
  | some D =>
    cases hv : sf.rcv with
    | some R => rw [hd, hv] at hr; cases hr
    | none =>
      rw [hd, hv] at hr
      dsimp only at hr ⊢
      cases e : codeN c n D.pre (St.init args h) with
      | none => rw [e] at hr; cases hr
      | some q =>
        rw [e] at hr; rw [codeN_mono hc hm e]
        obtain ⟨ex, σ⟩ := q
        cases ex <;> first | (cases hr; done) | skip
        dsimp only at hr ⊢
        split at hr
        · rename_i g caps ht
          simp only [Option.bind_eq_some_iff] at hr ⊢
          obtain ⟨p, h1, pv, h2, h', h3, h4⟩ := hr
          exact ⟨p, codeN_mono hc hm h1, pv, h2, h', closeN_mono hc hm h3, h4⟩
        · cases hr

theorem callN_mono1 (X : Env) : ∀ n, LeC (callN X n) (callN X (n + 1))
  | 0 => fun _ _ _ _ h => by cases h
  | n + 1 => fun f a h r hr => by
    unfold callN at hr ⊢
    cases e : X.ext f with
    | some g => rw [e] at hr; exact hr
    | none =>
      rw [e] at hr
      (try dsimp only at hr ⊢)
      cases e' : X.fn f with
      | none => rw [e'] at hr; cases hr
      | some sf =>
        rw [e'] at hr
        (try dsimp only at hr ⊢)
        exact bodyN_mono (callN_mono1 X n) (Nat.le_succ n) hr

theorem callN_mono (X : Env) (f : Nat) (a : List V) (h : List HO) : Mono (fun n => callN X n f a h) := fun n r hr => callN_mono1 X n f a h r hr

theorem callN_le (X : Env) {n m : Nat} (hm : n ≤ m) : LeC (callN X n) (callN X m) := fun f a h _ hr => (callN_mono X f a h).le hm hr

/-- What a call answers. -/
noncomputable def VC (X : Env) : Calls1 := fun f a h => lim fun n => callN X n f a h

theorem callN_VC (X : Env) (n : Nat) : LeC (callN X n) (VC X) := fun f a h _ hr => lim_of (callN_mono X f a h) hr

/-! ### what is answered is answered within some bound -/

theorem stepO_cont (X : Env) {σ : St} {d : Option Nat} {o : SO} {r : Out} (h : stepO (VC X) σ d o = some r) : ∃ n, stepO (callN X n) σ d o = some r := by
  cases o <;> try exact ⟨0, h⟩
  case call strict f args =>
    simp only [stepO] at h ⊢
    split at h
    · rename_i vs caps e1 e2
      split at h
      · rename_i e; obtain ⟨n, hn⟩ := lim_inv e; exact ⟨n, by rw [hn]; exact h⟩
      · rename_i e; obtain ⟨n, hn⟩ := lim_inv e; exact ⟨n, by rw [hn]; exact h⟩
      · cases h
    · cases h
  case pcall f args =>
    simp only [stepO] at h ⊢
    split at h
    · rename_i vs caps e1 e2
      split at h
      · rename_i hp
        split at h
        · rename_i e; obtain ⟨n, hn⟩ := lim_inv e; exact ⟨n, by rw [if_pos hp, hn]; exact h⟩
        · cases h
      · cases h
    · cases h

theorem stepG_cont (X : Env) {σ : St} {o : SOper} {r : Ex × St} (h : stepG (VC X) o σ = some r) : ∃ n, stepG (callN X n) o σ = some r := by
  have key : ∀ r, (match stepO (VC X) σ o.d o.o with | some (.ok x σ) => some (Ex.normal, σ.put o.d x) | some (.pan v σ) => some (.pan v, σ) | none => none) = some r →
      ∃ n, (match stepO (callN X n) σ o.d o.o with | some (.ok x σ) => some (Ex.normal, σ.put o.d x) | some (.pan v σ) => some (.pan v, σ) | none => none) = some r := by
    intro r h
    cases e : stepO (VC X) σ o.d o.o with
    | none => rw [e] at h; cases h
    | some q => rw [e] at h; obtain ⟨n, hn⟩ := stepO_cont X e; exact ⟨n, by rw [hn]; exact h⟩
  unfold stepG at h ⊢
  cases hg : o.g with
  | none => rw [hg] at h; exact key _ h
  | some p =>
    obtain ⟨t, want⟩ := p
    rw [hg] at h
    (try dsimp only at h ⊢)
    split at h
    · rename_i b e
      cases hb : (b == want) with
      | true => rw [hb] at h; exact key _ h
      | false => rw [hb] at h; exact ⟨0, h⟩
    · exact ⟨0, h⟩
    · cases h

theorem runOps_cont (X : Env) : ∀ {l : List SOper} {σ : St} {r : Ex × St}, runOps (VC X) l σ = some r → ∃ n, runOps (callN X n) l σ = some r
  | [], _, _, h => ⟨0, h⟩
  | o :: os, σ, r, h => by
    unfold runOps at h ⊢
    cases e : stepG (VC X) o σ with
    | none => rw [e] at h; cases h
    | some q =>
      rw [e] at h
      obtain ⟨n, hn⟩ := stepG_cont X e
      obtain ⟨ex, σ'⟩ := q
      cases ex
      case normal =>
        obtain ⟨m, hm⟩ := runOps_cont X h
        refine ⟨max n m, ?_⟩
        rw [stepG_mono (callN_le X (Nat.le_max_left n m)) hn]
        exact runOps_mono (callN_le X (Nat.le_max_right n m)) hm
      all_goals exact ⟨n, by rw [hn]; exact h⟩

theorem runDraw_cont (X : Env) {k : Nat} {deps : List (List Nat)} {l : List SOper} {σ : St} {r : Ex × St}
    (h : runDraw (VC X) k deps l σ = some r) : ∃ n, runDraw (callN X n) k deps l σ = some r := by
  unfold runDraw at h
  split at h
  · rename_i hall
    obtain ⟨x, hx⟩ : ∃ x, runOps (VC X) l (σ.drawn (k / 2)) = some x := by
      rcases outD_some h with ⟨_, e, _⟩ | ⟨_, _, _, e, _⟩ <;> exact ⟨_, e⟩
    rw [hx] at h hall
    obtain ⟨n, hn⟩ := runOps_cont X hx
    have key : ∀ L : List (List Nat), (∀ is ∈ L, sameD (k % 2 == 1) l (runOps (VC X) (pickOps l is) (σ.drawn (k / 2))) (some x)) →
        ∃ n, ∀ is ∈ L, sameD (k % 2 == 1) l (runOps (callN X n) (pickOps l is) (σ.drawn (k / 2))) (some x) := by
      intro L
      induction L with
      | nil => exact fun _ => ⟨0, fun _ hm => by cases hm⟩
      | cons y L ih =>
        intro hL
        obtain ⟨n, hn⟩ := ih fun is his => hL is (List.mem_cons_of_mem _ his)
        have hs := hL y List.mem_cons_self
        obtain ⟨⟨z, hz⟩, _⟩ := sameD_some hs
        obtain ⟨m, hm⟩ := runOps_cont X hz
        refine ⟨max n m, fun is his => ?_⟩
        rcases List.mem_cons.1 his with rfl | his
        · rw [runOps_mono (callN_le X (Nat.le_max_right n m)) hm, ← hz]; exact hs
        · have hs2 := hn is his
          obtain ⟨⟨u, hu⟩, _⟩ := sameD_some hs2
          rw [runOps_mono (callN_le X (Nat.le_max_left n m)) hu, ← hu]; exact hs2
    obtain ⟨m, hm⟩ := key _ hall
    refine ⟨max n m, ?_⟩
    have h1 := runOps_mono (callN_le X (Nat.le_max_left n m)) hn
    unfold runDraw
    rw [h1, if_pos, h]
    intro is his
    have hs := hm is his
    obtain ⟨⟨u, hu⟩, _⟩ := sameD_some hs
    rw [runOps_mono (callN_le X (Nat.le_max_right n m)) hu, ← hu]; exact hs
  · cases h

theorem codeN_cont (X : Env) (m : Nat) : ∀ {s : SC} {σ : St} {r : Ex × St}, codeN (VC X) m s σ = some r → ∃ n, codeN (callN X n) m s σ = some r
  | .skip, _, _, h => ⟨0, h⟩
  | .ops _, _, _, h => runOps_cont X h
  | .draw _ _ _, _, _, h => runDraw_cont X h
  | .seq a b, σ, r, h => by
    unfold codeN at h ⊢
    cases e : codeN (VC X) m a σ with
    | none => rw [e] at h; cases h
    | some q =>
      rw [e] at h
      obtain ⟨n, hn⟩ := codeN_cont X m e
      obtain ⟨ex, σ'⟩ := q
      cases ex
      case normal =>
        obtain ⟨n', hn'⟩ := codeN_cont X m h
        refine ⟨max n n', ?_⟩
        rw [codeN_mono (callN_le X (Nat.le_max_left n n')) (Nat.le_refl m) hn]
        exact codeN_mono (callN_le X (Nat.le_max_right n n')) (Nat.le_refl m) hn'
      all_goals exact ⟨n, by rw [hn]; exact h⟩
  | .cond x a b, σ, r, h => by
    unfold codeN at h ⊢
    split at h
    · rename_i t e
      cases t <;> exact codeN_cont X m h
    · cases h
  | .block id ks ls a, σ, r, h => by
    unfold codeN at h ⊢
    cases e : codeN (VC X) m a σ with
    | none => rw [e] at h; cases h
    | some q => rw [e] at h; obtain ⟨n, hn⟩ := codeN_cont X m e; exact ⟨n, by rw [hn]; exact h⟩
  | .loop ks ls a, σ, r, h => by
    unfold codeN at h ⊢
    have key : ∀ j σ r, iter (fun σ => codeN (VC X) m a (σ.keep ks ls)) j σ = some r → ∃ n, iter (fun σ => codeN (callN X n) m a (σ.keep ks ls)) j σ = some r := by
      intro j
      induction j with
      | zero => intro σ r h; cases h
      | succ j ih =>
        intro σ r h
        unfold iter at h ⊢
        cases e : codeN (VC X) m a (σ.keep ks ls) with
        | none => rw [e] at h; cases h
        | some q =>
          rw [e] at h
          obtain ⟨n, hn⟩ := codeN_cont X m e
          obtain ⟨ex, σ'⟩ := q
          cases ex
          case normal =>
            obtain ⟨n', hn'⟩ := ih _ _ h
            refine ⟨max n n', ?_⟩
            rw [codeN_mono (callN_le X (Nat.le_max_left n n')) (Nat.le_refl m) hn]
            exact iter_mono (fun σ r h => codeN_mono (callN_le X (Nat.le_max_right n n')) (Nat.le_refl m) h) (Nat.le_refl j) hn'
          all_goals exact ⟨n, by rw [hn]; exact h⟩
    exact key _ _ _ h
  | .exit _, _, _, h => ⟨0, h⟩
  | .ret, _, _, h => ⟨0, h⟩

/-- What code comes to. -/
noncomputable def codeL (X : Env) (s : SC) (σ : St) : Option (Ex × St) := lim fun n => codeN (VC X) n s σ

theorem codeN_mono' (X : Env) (s : SC) (σ : St) : Mono (fun n => codeN (VC X) n s σ) := fun n _ h => codeN_mono (fun _ _ _ _ h => h) (Nat.le_succ n) h

theorem codeL_of {X : Env} {s : SC} {σ : St} {n : Nat} {r : Ex × St} (h : codeN (VC X) n s σ = some r) : codeL X s σ = some r := lim_of (codeN_mono' X s σ) h

/-- A call of a function that is known by its code. -/
theorem VC_code {X : Env} {f : Nat} {sf : SF} (hf : X.fn f = some sf) (he : X.ext f = none) (hd : sf.dfr = none) (hv : sf.rcv = none) (args : List V) (h : List HO) :
    VC X f args h = endOf sf h (codeL X sf.body (St.init args h)) := by
  refine lim_ext (β := Nat) (g := fun _ => none) (callN_mono X f args h) _ ?_ ?_
  · intro n r hr
    cases n with
    | zero => cases hr
    | succ n =>
      (try dsimp only at hr)
      simp only [callN, he, hf, bodyN, hd, hv] at hr
      cases ec : codeN (callN X n) n sf.body (St.init args h) with
      | none => rw [ec] at hr; cases hr
      | some q => rw [ec] at hr; rw [codeL_of (codeN_mono (callN_VC X n) (Nat.le_refl n) ec)]; exact hr
  · intro r hr
    cases ec : codeL X sf.body (St.init args h) with
    | none => rw [ec] at hr; cases hr
    | some q =>
      rw [ec] at hr
      obtain ⟨n, hn⟩ := lim_inv ec
      obtain ⟨m, hm⟩ := codeN_cont X n hn
      refine ⟨max n m + 1, ?_⟩
      (try dsimp only)
      simp only [callN, he, hf, bodyN, hd, hv]
      rw [codeN_mono (callN_le X (Nat.le_max_right n m)) (Nat.le_max_left n m) hm]
      exact hr

theorem VC_ext {X : Env} {f : Nat} {e : List V → List HO → Option (CR × List HO)} (he : X.ext f = some e) (args : List V) (h : List HO) :
    VC X f args h = e args h := by
  refine lim_ext (β := Nat) (g := fun _ => none) (callN_mono X f args h) _ ?_ ?_
  · intro n r hr
    cases n with
    | zero => cases hr
    | succ n => (try dsimp only at hr); simp only [callN, he] at hr; exact hr
  · intro r hr
    exact ⟨1, by (try dsimp only); simp only [callN, he]; exact hr⟩

section
variable (X : Env) (σ : St)
theorem codeL_skip : codeL X .skip σ = some (.normal, σ) := lim_const _
theorem codeL_exit (id : Nat) : codeL X (.exit id) σ = some (.exit id, σ) := lim_const _
theorem codeL_ret : codeL X .ret σ = some (.ret, σ) := lim_const _
theorem codeL_ops (l : List SOper) : codeL X (.ops l) σ = runOps (VC X) l σ := lim_const _
theorem codeL_draw (k : Nat) (deps : List (List Nat)) (l : List SOper) : codeL X (.draw k deps l) σ = runDraw (VC X) k deps l σ := lim_const _
theorem codeL_seq (a b : SC) : codeL X (.seq a b) σ = match codeL X a σ with | some (.normal, σ) => codeL X b σ | r => r := by
  refine lim_ext (β := Nat) (g := fun _ => none) (codeN_mono' X _ σ) _ ?_ ?_
  · intro n r hr
    (try dsimp only at hr)
    unfold codeN at hr
    cases e : codeN (VC X) n a σ with
    | none => rw [e] at hr; cases hr
    | some q =>
      rw [e] at hr; rw [codeL_of e]
      obtain ⟨ex, σ'⟩ := q
      cases ex <;> first | exact codeL_of hr | exact hr
  · intro r hr
    cases e : codeL X a σ with
    | none => rw [e] at hr; cases hr
    | some q =>
      rw [e] at hr
      obtain ⟨n, hn⟩ := lim_inv e
      obtain ⟨ex, σ'⟩ := q
      cases ex
      case normal =>
        obtain ⟨m, hm⟩ := lim_inv hr
        refine ⟨max n m, ?_⟩
        (try dsimp only); unfold codeN
        rw [(codeN_mono' X a σ).le (Nat.le_max_left n m) hn]
        exact (codeN_mono' X b σ').le (Nat.le_max_right n m) hm
      all_goals
        refine ⟨n, ?_⟩
        (try dsimp only); unfold codeN
        rw [hn]; exact hr
theorem codeL_cond (c : Opd) (a b : SC) : codeL X (.cond c a b) σ = match σ.ev c with | .v (.bool t) => bif t then codeL X a σ else codeL X b σ | _ => none := by
  have : (fun n => codeN (VC X) n (.cond c a b) σ) = fun n => match σ.ev c with | .v (.bool t) => bif t then codeN (VC X) n a σ else codeN (VC X) n b σ | _ => none := by
    funext n; simp only [codeN]; rfl
  unfold codeL
  rw [this]
  split
  · rename_i t _; cases t <;> rfl
  · exact lim_const none
theorem codeL_block (id : Nat) (ks ls : List Nat) (a : SC) : codeL X (.block id ks ls a) σ = match codeL X a σ with
    | some (.exit id', σ) => if id' = id then some (.normal, σ.keep ks ls) else some (.exit id', σ)
    | r => r := by
  refine lim_ext (β := Nat) (g := fun _ => none) (codeN_mono' X _ σ) _ ?_ ?_
  · intro n r hr
    (try dsimp only at hr)
    unfold codeN at hr
    cases e : codeN (VC X) n a σ with
    | none => rw [e] at hr; cases hr
    | some q => rw [e] at hr; rw [codeL_of e]; exact hr
  · intro r hr
    cases e : codeL X a σ with
    | none => rw [e] at hr; cases hr
    | some q => rw [e] at hr; obtain ⟨n, hn⟩ := lim_inv e; exact ⟨n, by (try dsimp only); unfold codeN; rw [hn]; exact hr⟩
theorem codeL_loop (ks ls : List Nat) (a : SC) : codeL X (.loop ks ls a) σ = match codeL X a (σ.keep ks ls) with
    | some (.normal, σ) => codeL X (.loop ks ls a) σ
    | r => r := by
  refine lim_ext (β := Nat) (g := fun _ => none) (codeN_mono' X _ σ) _ ?_ ?_
  · intro n r hr
    (try dsimp only at hr)
    unfold codeN at hr
    cases n with
    | zero => cases hr
    | succ n =>
      unfold iter at hr
      cases e : codeN (VC X) (n + 1) a (σ.keep ks ls) with
      | none => rw [e] at hr; cases hr
      | some q =>
        rw [e] at hr; rw [codeL_of e]
        obtain ⟨ex, σ'⟩ := q
        cases ex
        case normal =>
          (try dsimp only at hr ⊢)
          refine codeL_of (n := n + 1) ?_
          unfold codeN
          exact iter_mono (fun _ _ h => h) (Nat.le_succ n) hr
        all_goals exact hr
  · intro r hr
    cases e : codeL X a (σ.keep ks ls) with
    | none => rw [e] at hr; cases hr
    | some q =>
      rw [e] at hr
      obtain ⟨n, hn⟩ := lim_inv e
      obtain ⟨ex, σ'⟩ := q
      cases ex
      case normal =>
        obtain ⟨m, hm⟩ := lim_inv hr
        refine ⟨max n m + 1, ?_⟩
        (try dsimp only); unfold codeN iter
        rw [(codeN_mono' X a _).le (Nat.le_succ_of_le (Nat.le_max_left n m)) hn]
        (try dsimp only)
        unfold codeN at hm
        exact iter_mono (fun σ r h => (codeN_mono' X a _).le (by omega) h) (by omega) hm
      all_goals
        refine ⟨n + 1, ?_⟩
        (try dsimp only); unfold codeN iter
        rw [(codeN_mono' X a _).le (Nat.le_succ n) hn]
        exact hr
end

/-! ### the same, with what is still to be done as a list -/

inductive It where
  | c (s : SC)
  | o (l : List SOper)
  | d (l : List SOper)
  | p (all l : List SOper)
  | e (id : Nat) (ks ls : List Nat)

noncomputable def contK (X : Env) : List It → Ex → St → Option (Ex × St)
  | [], e, σ => some (e, σ)
  | i :: k, e, σ =>
    match i, e with
    | .c s, .normal =>
      match codeL X s σ with
      | some (e, σ) => contK X k e σ
      | none => none
    | .o l, .normal =>
      match runOps (VC X) l σ with
      | some (e, σ) => contK X k e σ
      | none => none
    | .d l, .normal =>
      match onlyN (runOps (VC X) l σ) with
      | some (e, σ) => contK X k e σ
      | none => none
    | .p all l, .normal =>
      match outD true all (runOps (VC X) l σ) with
      | some (e, σ) => contK X k e σ
      | none => none
    | .e id ks ls, .exit i => if i = id then contK X k .normal (σ.keep ks ls) else contK X k (.exit i) σ
    | _, e => contK X k e σ

noncomputable def run (X : Env) (k : List It) (σ : St) : Option (Ex × St) := contK X k .normal σ

/-- What follows an operation. -/
noncomputable def after (X : Env) (r : Option Out) (d : Option Nat) (os : List SOper) (k : List It) : Option (Ex × St) :=
  match r with
  | some (.ok x σ) => run X (.o os :: k) (σ.put d x)
  | some (.pan v σ) => contK X k (.pan v) σ
  | none => none

/-- The same in a region that draws. -/
noncomputable def afterD (X : Env) (r : Option Out) (d : Option Nat) (os : List SOper) (k : List It) : Option (Ex × St) :=
  match r with
  | some (.ok x σ) => run X (.d os :: k) (σ.put d x)
  | _ => none

/-- The same in a region that draws, and may panic. -/
noncomputable def afterP (X : Env) (all : List SOper) (r : Option Out) (d : Option Nat) (os : List SOper) (k : List It) : Option (Ex × St) :=
  match r with
  | some (.ok x σ) => run X (.p all os :: k) (σ.put d x)
  | some (.pan v σ) => some (.pan v, forgetE all σ)
  | none => none

section
variable (X : Env) (σ : St) (k : List It)
theorem contK_nil (e : Ex) : contK X [] e σ = some (e, σ) := rfl
theorem run_nil : run X [] σ = some (.normal, σ) := rfl
theorem run_skip : run X (.c .skip :: k) σ = run X k σ := by simp only [run, contK, codeL_skip]
theorem run_seq (a b : SC) : run X (.c (.seq a b) :: k) σ = run X (.c a :: .c b :: k) σ := by
  simp only [run, contK, codeL_seq]
  cases e : codeL X a σ with
  | none => rfl
  | some q => obtain ⟨ex, σ'⟩ := q; cases ex <;> rfl
theorem run_cond (c : Opd) (a b : SC) {t : Bool} (h : σ.ev c = .v (.bool t)) : run X (.c (.cond c a b) :: k) σ = bif t then run X (.c a :: k) σ else run X (.c b :: k) σ := by
  simp only [run, contK, codeL_cond, h]
  cases t <;> rfl
theorem run_block (id : Nat) (ks ls : List Nat) (a : SC) : run X (.c (.block id ks ls a) :: k) σ = run X (.c a :: .e id ks ls :: k) σ := by
  simp only [run, contK, codeL_block]
  cases e : codeL X a σ with
  | none => rfl
  | some q =>
    obtain ⟨ex, σ'⟩ := q
    cases ex <;> try rfl
    (try dsimp only)
    split <;> rename_i he <;> split at he <;> (try cases he) <;> simp_all [contK]
theorem run_e (id : Nat) (ks ls : List Nat) : run X (.e id ks ls :: k) σ = run X k σ := rfl
theorem run_loop (ks ls : List Nat) (a : SC) : run X (.c (.loop ks ls a) :: k) σ = run X (.c a :: .c (.loop ks ls a) :: k) (σ.keep ks ls) := by
  conv => lhs; simp only [run, contK]; rw [codeL_loop]
  simp only [run, contK]
  cases e : codeL X a (σ.keep ks ls) with
  | none => rfl
  | some q => obtain ⟨ex, σ'⟩ := q; cases ex <;> rfl
theorem run_exit (id : Nat) : run X (.c (.exit id) :: k) σ = contK X k (.exit id) σ := by simp only [run, contK, codeL_exit]
theorem run_ret : run X (.c .ret :: k) σ = contK X k .ret σ := by simp only [run, contK, codeL_ret]
theorem contK_c (s : SC) (e : Ex) (h : e ≠ .normal) : contK X (.c s :: k) e σ = contK X k e σ := by cases e <;> first | exact absurd rfl h | rfl
theorem contK_o (l : List SOper) (e : Ex) (h : e ≠ .normal) : contK X (.o l :: k) e σ = contK X k e σ := by cases e <;> first | exact absurd rfl h | rfl
theorem contK_exit_c (s : SC) (id : Nat) : contK X (.c s :: k) (.exit id) σ = contK X k (.exit id) σ := rfl
theorem contK_exit_o (l : List SOper) (id : Nat) : contK X (.o l :: k) (.exit id) σ = contK X k (.exit id) σ := rfl
theorem contK_exit_e (id id' : Nat) (ks ls : List Nat) : contK X (.e id ks ls :: k) (.exit id') σ = if id' = id then run X k (σ.keep ks ls) else contK X k (.exit id') σ := rfl
theorem contK_ret : contK X k .ret σ = some (.ret, σ) := by
  induction k with
  | nil => rfl
  | cons i k ih => cases i <;> exact ih
theorem contK_pan (v : V) : contK X k (.pan v) σ = some (.pan v, σ) := by
  induction k with
  | nil => rfl
  | cons i k ih => cases i <;> exact ih
theorem run_ops (l : List SOper) : run X (.c (.ops l) :: k) σ = run X (.o l :: k) σ := by simp only [run, contK, codeL_ops]
theorem run_p_nil (all : List SOper) : run X (.p all [] :: k) σ = run X k σ := rfl
theorem run_p (all : List SOper) (d : Option Nat) (o : SO) (os : List SOper) : run X (.p all (⟨d, none, o⟩ :: os) :: k) σ = afterP X all (stepO (VC X) σ d o) d os k := by
  simp only [run, contK, runOps, stepG, afterP]
  cases stepO (VC X) σ d o with
  | none => rfl
  | some q =>
    cases q with
    | ok x σ' => rfl
    | pan v σ' => exact contK_pan X _ k v
theorem run_pg (all : List SOper) (d : Option Nat) (t : Nat) (want : Bool) (o : SO) (os : List SOper) {b : Bool} (h : σ.e t = .v (.bool b)) :
    run X (.p all (⟨d, some (t, want), o⟩ :: os) :: k) σ = bif b == want then afterP X all (stepO (VC X) σ d o) d os k else run X (.p all os :: k) (σ.put d (.v (.tuple []))) := by
  simp only [run, contK, runOps, stepG, afterP, h]
  cases hb : (b == want) with
  | false => rfl
  | true =>
    cases stepO (VC X) σ d o with
    | none => rfl
    | some q =>
      cases q with
      | ok x σ' => rfl
      | pan v σ' => exact contK_pan X _ k v
theorem run_d_nil : run X (.d [] :: k) σ = run X k σ := rfl
theorem run_d (d : Option Nat) (o : SO) (os : List SOper) : run X (.d (⟨d, none, o⟩ :: os) :: k) σ = afterD X (stepO (VC X) σ d o) d os k := by
  simp only [run, contK, runOps, stepG, afterD]
  cases stepO (VC X) σ d o with
  | none => rfl
  | some q =>
    cases q with
    | ok x σ' => rfl
    | pan v σ' => rfl
theorem run_dg (d : Option Nat) (t : Nat) (want : Bool) (o : SO) (os : List SOper) {b : Bool} (h : σ.e t = .v (.bool b)) :
    run X (.d (⟨d, some (t, want), o⟩ :: os) :: k) σ = bif b == want then afterD X (stepO (VC X) σ d o) d os k else run X (.d os :: k) (σ.put d (.v (.tuple []))) := by
  simp only [run, contK, runOps, stepG, afterD, h]
  cases hb : (b == want) with
  | false => rfl
  | true =>
    cases stepO (VC X) σ d o with
    | none => rfl
    | some q =>
      cases q with
      | ok x σ' => rfl
      | pan v σ' => rfl
theorem run_o_nil : run X (.o [] :: k) σ = run X k σ := rfl
theorem run_o (d : Option Nat) (o : SO) (os : List SOper) : run X (.o (⟨d, none, o⟩ :: os) :: k) σ = after X (stepO (VC X) σ d o) d os k := by
  simp only [run, contK, runOps, stepG, after]
  cases stepO (VC X) σ d o with
  | none => rfl
  | some q =>
    cases q with
    | ok x σ' => rfl
    | pan v σ' => rfl
theorem run_g (d : Option Nat) (t : Nat) (want : Bool) (o : SO) (os : List SOper) {b : Bool} (h : σ.e t = .v (.bool b)) :
    run X (.o (⟨d, some (t, want), o⟩ :: os) :: k) σ = bif b == want then after X (stepO (VC X) σ d o) d os k else run X (.o os :: k) (σ.put d (.v (.tuple []))) := by
  simp only [run, contK, runOps, stepG, after, h]
  cases hb : (b == want) with
  | false => rfl
  | true =>
    cases stepO (VC X) σ d o with
    | none => rfl
    | some q =>
      cases q with
      | ok x σ' => rfl
      | pan v σ' => rfl
end

/-- A function's answer by its body. -/
theorem VC_run {X : Env} {f : Nat} {sf : SF} (hf : X.fn f = some sf) (he : X.ext f = none) (hd : sf.dfr = none) (hv : sf.rcv = none) (args : List V) (h : List HO) :
    VC X f args h = endOf sf h (run X [.c sf.body] (St.init args h)) := by
  rw [VC_code hf he hd hv]
  congr 1
  simp only [run, contK]
  cases codeL X sf.body (St.init args h) with
  | none => rfl
  | some q => rfl

theorem run_code {X : Env} {s : SC} {σ : St} : run X [.c s] σ = codeL X s σ := by
  simp only [run, contK]
  cases codeL X s σ with
  | none => rfl
  | some q => rfl

/-- A function's answer that defers a closure's call. -/
theorem VC_dfr {X : Env} {f : Nat} {sf : SF} {D : DF} (hf : X.fn f = some sf) (he : X.ext f = none) (hd : sf.dfr = some D) (hv : sf.rcv = none) {args : List V} {h : List HO}
    {σ σ' τ τ' : St} {g : Nat} {caps : List V} {ex ex2 : Ex} {pv v : V} {sg : SF} {R : RF}
    (h1 : run X [.c D.pre] (St.init args h) = some (.normal, σ)) (h2 : σ.e D.t = .v (.func g caps)) (h3 : run X [.c D.rest] σ = some (ex, σ')) (h4 : pvOf ex = some pv)
    (hg : X.fn g = some sg) (hr : sg.rcv = some R) (h5 : run X [.c R.pre] (St.init caps σ'.h) = some (.normal, τ)) (h6 : run X [.c R.rest] (τ.put (some R.d) (.v pv)) = some (ex2, τ')) (h7 : ex2.isEnd = true)
    (h8 : results { σ' with h := τ'.h } sf.res = some v) : VC X f args h = some (finish sf.keep h (.ret v) τ'.h) := by
  rw [run_code] at h1 h3 h5 h6
  obtain ⟨n1, e1⟩ := lim_inv h1
  obtain ⟨n3, e3⟩ := lim_inv h3
  obtain ⟨n5, e5⟩ := lim_inv h5
  obtain ⟨n6, e6⟩ := lim_inv h6
  obtain ⟨m1, f1⟩ := codeN_cont X n1 e1
  obtain ⟨m3, f3⟩ := codeN_cont X n3 e3
  obtain ⟨m5, f5⟩ := codeN_cont X n5 e5
  obtain ⟨m6, f6⟩ := codeN_cont X n6 e6
  generalize hk : n1 + n3 + n5 + n6 + m1 + m3 + m5 + m6 = k
  have g1 := codeN_mono (callN_le X (m := k) (by omega)) (m := k) (by omega) f1
  have g3 := codeN_mono (callN_le X (m := k) (by omega)) (m := k) (by omega) f3
  have g5 := codeN_mono (callN_le X (m := k) (by omega)) (m := k) (by omega) f5
  have g6 := codeN_mono (callN_le X (m := k) (by omega)) (m := k) (by omega) f6
  refine callN_VC X (k + 1) _ _ _ _ ?_
  simp only [callN, he, hf, bodyN, hd, hv, g1, h2, g3, Option.bind_some, h4, closeN, hg, hr, g5, g6, h7, if_true, h8, Option.map_some]

end Go.Vm
end

section
set_option linter.unusedSimpArgs false
set_option linter.unusedVariables false
namespace Go.Vm
open Go

structure RowLoc where
  B : Nat
  base : Nat
  s : Nat
  cap : Nat

structure Gh where
  st : Nat → Prop
  ob : Nat → Option Nat
  rw : Nat → Nat → Option RowLoc

/-- A value of one cell. -/
def isCell : Value → Prop
  | .agg _ => False
  | .tuple _ => False
  | _ => True

def V.isC : V → Prop
  | .agg _ => False
  | .tuple _ => False
  | _ => True

/-- These cells lie there. -/
def cellsIn (w : World) (B off : Nat) (xs : List Value) : Prop :=
  ∃ c el fr, w.heap[B]? = some (.cells c el fr) ∧ ∀ i, i < xs.length → c[off + i]? = xs[i]?

mutual
inductive VR (G : Gh) (w : World) : V → Value → Prop
  | undef (x : Value) : VR G w .undef x
  | bool (b : Bool) : VR G w (.bool b) (.bool b)
  | int (k : IntKind) (n : Int) : VR G w (.int k n) (.int k n)
  | float (k : FloatKind) (n : Nat) : VR G w (.float k n) (.float k n)
  | str (s : List UInt8) (b : ByteArray) (h : b.data.toList = s) : VR G w (.str s) (.string b)
  | nilp : VR G w .nilp (.pointer none)
  | ptr (id off B : Nat) (h : G.ob id = some B) : VR G w (.ptr id off) (.pointer (some ⟨B, off, none⟩))
  | cref (cs : List V) (B off : Nat) (xs : List Value) (hs : G.st B) (hc : cellsIn w B off xs) (h : CRs G w cs xs) : VR G w (.cref cs) (.pointer (some ⟨B, off, none⟩))
  | eptr (id ver i off : Nat) (r : RowLoc) (h : G.rw id ver = some r) : VR G w (.eptr id ver i off) (.pointer (some ⟨r.B, r.base + i * r.s + off, none⟩))
  | nils : VR G w .nils (.slice none 0 0)
  | snil (a : Option Addr) (c : Nat) : VR G w (.snap []) (.slice a 0 c)
  | snap (l : List V) (B off s cap : Nat) (xs : List Value) (hs : G.st B) (hc : cellsIn w B off xs) (hl : ∀ v ∈ l, v.cells.length = s) (hle : l.length ≤ cap)
      (h : CRs G w (l.flatMap V.cells) xs) : VR G w (.snap l) (.slice (some ⟨B, off, none⟩) l.length cap)
  | sl (id ver off len cap : Nat) (r : RowLoc) (a : Addr) (h : G.rw id ver = some r) (hl : len ≤ cap) (hc : off + cap ≤ r.cap)
      (ha : cap = 0 ∨ a = ⟨r.B, r.base + off * r.s, none⟩) : VR G w (.sl id ver r.s off len) (.slice (some a) len cap)
  | nilm : VR G w .nilm (.map none)
  | map (id B : Nat) (h : G.ob id = some B) : VR G w (.map id) (.map (some B))
  | nilf : VR G w .nilf .nilFunc
  | func (f : Nat) (caps : List V) (xs : List Value) (h : VRs G w caps xs) : VR G w (.func f caps) (.func (.func f) #[] xs.toArray)
  | nili : VR G w .nili .nilIface
  | iface (t : Nat) (v : V) (x : Value) (h : VR G w v x) : VR G w (.iface t v) (.iface t x)
  | agg (cs : List V) (xs : List Value) (h : CRs G w cs xs) : VR G w (.agg cs) (.agg xs.toArray)
  | tuple (vs : List V) (xs : List Value) (h : VRs G w vs xs) : VR G w (.tuple vs) (.tuple xs.toArray)
inductive VRs (G : Gh) (w : World) : List V → List Value → Prop
  | nil : VRs G w [] []
  | cons (v : V) (x : Value) (vs : List V) (xs : List Value) (h : VR G w v x) (hs : VRs G w vs xs) : VRs G w (v :: vs) (x :: xs)
inductive CRs (G : Gh) (w : World) : List V → List Value → Prop
  | nil : CRs G w [] []
  | cons (v : V) (x : Value) (vs : List V) (xs : List Value) (hv : v.isC) (hx : isCell x) (h : VR G w v x) (hs : CRs G w vs xs) : CRs G w (v :: vs) (x :: xs)
end

/-- What was known is known yet; what is only read lies as it lay. -/
structure Le (G : Gh) (w : World) (G' : Gh) (w' : World) : Prop where
  st : ∀ B, G.st B → G'.st B
  hp : ∀ B, G.st B → w'.heap[B]? = w.heap[B]?
  ob : ∀ id B, G.ob id = some B → G'.ob id = some B
  rw : ∀ id v r, G.rw id v = some r → G'.rw id v = some r

theorem Le.refl (G : Gh) (w : World) : Le G w G w := ⟨fun _ h => h, fun _ _ => rfl, fun _ _ h => h, fun _ _ _ h => h⟩
theorem Le.trans {G G' G'' : Gh} {w w' w'' : World} (h : Le G w G' w') (h' : Le G' w' G'' w'') : Le G w G'' w'' :=
  ⟨fun B hB => h'.st B (h.st B hB), fun B hB => (h'.hp B (h.st B hB)).trans (h.hp B hB), fun id B e => h'.ob id B (h.ob id B e), fun id v r e => h'.rw id v r (h.rw id v r e)⟩

theorem cellsIn.of_eq {w w' : World} {B off : Nat} {xs : List Value} (h : cellsIn w B off xs) (he : w'.heap[B]? = w.heap[B]?) : cellsIn w' B off xs := by
  obtain ⟨c, el, fr, hb, hc⟩ := h
  exact ⟨c, el, fr, he.trans hb, hc⟩

mutual
theorem VR.mono {G G' : Gh} {w w' : World} (hle : Le G w G' w') {v : V} {x : Value} : VR G w v x → VR G' w' v x
  | .undef x => .undef x
  | .bool b => .bool b
  | .int k n => .int k n
  | .float k n => .float k n
  | .str s b h => .str s b h
  | .nilp => .nilp
  | .ptr id off B h => .ptr id off B (hle.ob _ _ h)
  | .cref cs B off xs hs hc h => .cref cs B off xs (hle.st _ hs) (hc.of_eq (hle.hp _ hs)) (CRs.mono hle h)
  | .eptr id ver i off r h => .eptr id ver i off r (hle.rw _ _ _ h)
  | .nils => .nils
  | .snil a c => .snil a c
  | .snap l B off s cap xs hs hc hl hc' h => .snap l B off s cap xs (hle.st _ hs) (hc.of_eq (hle.hp _ hs)) hl hc' (CRs.mono hle h)
  | .sl id ver off len cap r a h hl hc ha => .sl id ver off len cap r a (hle.rw _ _ _ h) hl hc ha
  | .nilm => .nilm
  | .map id B h => .map id B (hle.ob _ _ h)
  | .nilf => .nilf
  | .func f caps xs h => .func f caps xs (VRs.mono hle h)
  | .nili => .nili
  | .iface t v x h => .iface t v x (VR.mono hle h)
  | .agg cs xs h => .agg cs xs (CRs.mono hle h)
  | .tuple vs xs h => .tuple vs xs (VRs.mono hle h)
theorem VRs.mono {G G' : Gh} {w w' : World} (hle : Le G w G' w') {v : List V} {x : List Value} : VRs G w v x → VRs G' w' v x
  | .nil => .nil
  | .cons v x vs xs h hs => .cons v x vs xs (VR.mono hle h) (VRs.mono hle hs)
theorem CRs.mono {G G' : Gh} {w w' : World} (hle : Le G w G' w') {v : List V} {x : List Value} : CRs G w v x → CRs G' w' v x
  | .nil => .nil
  | .cons v x vs xs hv hx h hs => .cons v x vs xs hv hx (VR.mono hle h) (CRs.mono hle hs)
end

theorem CRs.length {G : Gh} {w : World} {v : List V} {x : List Value} (h : CRs G w v x) : v.length = x.length := by
  induction v generalizing x with
  | nil => cases h; rfl
  | cons a v ih => cases h; rename_i h; simp [ih h]
theorem VRs.length {G : Gh} {w : World} {v : List V} {x : List Value} (h : VRs G w v x) : v.length = x.length := by
  induction v generalizing x with
  | nil => cases h; rfl
  | cons a v ih => cases h; rename_i h; simp [ih h]
theorem CRs.append {G : Gh} {w : World} {v v' : List V} {x x' : List Value} (h : CRs G w v x) (h' : CRs G w v' x') : CRs G w (v ++ v') (x ++ x') := by
  induction v generalizing x with
  | nil => cases h; exact h'
  | cons a v ih => cases h with | cons _ _ _ _ hv hx h hs => exact .cons _ _ _ _ hv hx h (ih hs)
theorem CRs.drop {G : Gh} {w : World} {v : List V} {x : List Value} (h : CRs G w v x) (n : Nat) : CRs G w (v.drop n) (x.drop n) := by
  induction n generalizing v x with
  | zero => exact h
  | succ n ih =>
    cases h with
    | nil => exact .nil
    | cons v x vs xs hv hx h hs => exact ih hs
theorem CRs.take {G : Gh} {w : World} {v : List V} {x : List Value} (h : CRs G w v x) (n : Nat) : CRs G w (v.take n) (x.take n) := by
  induction n generalizing v x with
  | zero => exact .nil
  | succ n ih =>
    cases h with
    | nil => exact .nil
    | cons v x vs xs hv hx h hs => exact .cons _ _ _ _ hv hx h (ih hs)
theorem CRs.get {G : Gh} {w : World} {v : List V} {x : List Value} (h : CRs G w v x) {i : Nat} {a : V} (hi : v[i]? = some a) : ∃ b, x[i]? = some b ∧ VR G w a b ∧ a.isC ∧ isCell b := by
  induction i generalizing v x with
  | zero => cases h with
    | nil => simp at hi
    | cons v x vs xs hv hx h hs => simp at hi; subst hi; exact ⟨x, rfl, h, hv, hx⟩
  | succ n ih =>
    cases h with
    | nil => simp at hi
    | cons v x vs xs hv hx h hs => simp at hi ⊢; exact ih hs hi
theorem VRs.get {G : Gh} {w : World} {v : List V} {x : List Value} (h : VRs G w v x) {i : Nat} {a : V} (hi : v[i]? = some a) : ∃ b, x[i]? = some b ∧ VR G w a b := by
  induction i generalizing v x with
  | zero => cases h with
    | nil => simp at hi
    | cons v x vs xs h hs => simp at hi; subst hi; exact ⟨x, rfl, h⟩
  | succ n ih =>
    cases h with
    | nil => simp at hi
    | cons v x vs xs h hs => simp at hi ⊢; exact ih hs hi
theorem VRs.append {G : Gh} {w : World} {v v' : List V} {x x' : List Value} (h : VRs G w v x) (h' : VRs G w v' x') : VRs G w (v ++ v') (x ++ x') := by
  induction v generalizing x with
  | nil => cases h; exact h'
  | cons a v ih => cases h with | cons _ _ _ _ h hs => exact .cons _ _ _ _ h (ih hs)

/-- The cells of a value. -/
theorem VR.cells {G : Gh} {w : World} {v : V} {x : Value} (h : VR G w v x) (hv : v.cells ≠ []) : CRs G w v.cells x.cells.toList := by
  have one : ∀ {v : V} {x : Value}, v.isC → isCell x → VR G w v x → CRs G w [v] [x] := fun hv hx h => .cons _ _ _ _ hv hx h .nil
  cases h
  case undef => exact absurd rfl hv
  case tuple => exact absurd rfl hv
  case agg cs xs h => exact h
  all_goals (refine one trivial trivial ?_; constructor <;> assumption)

section
variable {G : Gh} {w : World} {x : Value}
theorem VR.inv_bool {b : Bool} (h : VR G w (.bool b) x) : x = .bool b := by cases h; rfl
theorem VR.inv_int {k : IntKind} {n : Int} (h : VR G w (.int k n) x) : x = .int k n := by cases h; rfl
theorem VR.inv_float {k : FloatKind} {n : Nat} (h : VR G w (.float k n) x) : x = .float k n := by cases h; rfl
theorem VR.inv_str {s : List UInt8} (h : VR G w (.str s) x) : ∃ b : ByteArray, x = .string b ∧ b.data.toList = s := by cases h; exact ⟨_, rfl, ‹_›⟩
theorem VR.inv_nilp (h : VR G w .nilp x) : x = .pointer none := by cases h; rfl
theorem VR.inv_nils (h : VR G w .nils x) : x = .slice none 0 0 := by cases h; rfl
theorem VR.inv_nilm (h : VR G w .nilm x) : x = .map none := by cases h; rfl
theorem VR.inv_nilf (h : VR G w .nilf x) : x = .nilFunc := by cases h; rfl
theorem VR.inv_nili (h : VR G w .nili x) : x = .nilIface := by cases h; rfl
theorem VR.inv_ptr {id off : Nat} (h : VR G w (.ptr id off) x) : ∃ B, G.ob id = some B ∧ x = .pointer (some ⟨B, off, none⟩) := by cases h; exact ⟨_, ‹_›, rfl⟩
theorem VR.inv_cref {cs : List V} (h : VR G w (.cref cs) x) : ∃ B off xs, G.st B ∧ cellsIn w B off xs ∧ CRs G w cs xs ∧ x = .pointer (some ⟨B, off, none⟩) := by cases h; exact ⟨_, _, _, ‹_›, ‹_›, ‹_›, rfl⟩
theorem VR.inv_eptr {id ver i off : Nat} (h : VR G w (.eptr id ver i off) x) : ∃ r, G.rw id ver = some r ∧ x = .pointer (some ⟨r.B, r.base + i * r.s + off, none⟩) := by cases h; exact ⟨_, ‹_›, rfl⟩
theorem VR.inv_map {id : Nat} (h : VR G w (.map id) x) : ∃ B, G.ob id = some B ∧ x = .map (some B) := by cases h; exact ⟨_, ‹_›, rfl⟩
theorem VR.inv_func {f : Nat} {caps : List V} (h : VR G w (.func f caps) x) : ∃ xs, VRs G w caps xs ∧ x = .func (.func f) #[] xs.toArray := by cases h; exact ⟨_, ‹_›, rfl⟩
theorem VR.inv_iface {t : Nat} {v : V} (h : VR G w (.iface t v) x) : ∃ y, VR G w v y ∧ x = .iface t y := by cases h; exact ⟨_, ‹_›, rfl⟩
theorem VR.inv_agg {cs : List V} (h : VR G w (.agg cs) x) : ∃ xs, CRs G w cs xs ∧ x = .agg xs.toArray := by cases h; exact ⟨_, ‹_›, rfl⟩
theorem VR.inv_tuple {cs : List V} (h : VR G w (.tuple cs) x) : ∃ xs, VRs G w cs xs ∧ x = .tuple xs.toArray := by cases h; exact ⟨_, ‹_›, rfl⟩
theorem VR.inv_sl {id ver s off len : Nat} (h : VR G w (.sl id ver s off len) x) : ∃ r a cap, G.rw id ver = some r ∧ s = r.s ∧ len ≤ cap ∧ off + cap ≤ r.cap ∧
    (cap = 0 ∨ a = ⟨r.B, r.base + off * r.s, none⟩) ∧ x = .slice (some a) len cap := by cases h; exact ⟨_, _, _, ‹_›, rfl, ‹_›, ‹_›, ‹_›, rfl⟩
theorem VR.inv_snap {l : List V} (h : VR G w (.snap l) x) : (l = [] ∧ ∃ a c, x = .slice a 0 c) ∨ ∃ B off s cap xs, G.st B ∧ cellsIn w B off xs ∧ (∀ v ∈ l, v.cells.length = s) ∧ l.length ≤ cap ∧
    CRs G w (l.flatMap V.cells) xs ∧ x = .slice (some ⟨B, off, none⟩) l.length cap := by
  cases h
  · exact .inl ⟨rfl, _, _, rfl⟩
  · exact .inr ⟨_, _, _, _, _, ‹_›, ‹_›, ‹_›, ‹_›, ‹_›, rfl⟩
end

end Go.Vm
end

section
set_option linter.unusedSimpArgs false
set_option linter.unusedVariables false
namespace Go.Vm
open Go Go.RowKit

def NoFr (fr : Nat × Nat) (n : Nat) : Prop := ∀ o, o < n → ¬ (fr.1 ≤ o ∧ o < fr.2)

/-- A block of the VM's that holds just these cells. -/
def OC (G : Gh) (w : World) (B : Nat) (cs : List V) : Prop :=
  ∃ c el fr, w.heap[B]? = some (.cells c el fr) ∧ CRs G w cs c.toList ∧ NoFr fr c.size

/-- A block of the VM's that holds a row, and room behind it. -/
def OR (G : Gh) (w : World) (r : RowLoc) (l : List V) : Prop :=
  ∃ c el fr, w.heap[r.B]? = some (.cells c el fr) ∧ r.base + r.cap * r.s ≤ c.size ∧ l.length ≤ r.cap ∧ (∀ v ∈ l, v.cells.length = r.s) ∧ 0 < r.s ∧
    CRs G w (l.flatMap V.cells) ((c.toList.drop r.base).take (l.length * r.s)) ∧ NoFr fr c.size

inductive ER (G : Gh) (w : World) : List (V × V × Nat) → List MapEntry → Prop
  | nil : ER G w [] []
  | cons (k v : V) (b : Nat) (e : MapEntry) (l : List (V × V × Nat)) (es : List MapEntry) (hk : VR G w k e.key) (hv : VR G w v e.val) (hb : e.born = b) (h : ER G w l es) :
      ER G w ((k, v, b) :: l) (e :: es)

def HR (G : Gh) (w : World) (id : Nat) : HO → Prop
  | .cells cs => ∃ B, G.ob id = some B ∧ OC G w B cs
  | .row ver l => ∃ r, G.rw id ver = some r ∧ (∀ v, ver < v → G.rw id v = none) ∧ OR G w r l
  | .map es clock => ∃ B es', G.ob id = some B ∧ w.heap[B]? = some (.map es' clock) ∧ ER G w es es'.toList
  | .hole => G.ob id = none ∧ ∀ v, G.rw id v = none

/-- The block that is an object's own. -/
def ownB (G : Gh) (h : List HO) (id : Nat) : Option Nat :=
  match h[id]? with
  | some (.cells _) => G.ob id
  | some (.map _ _) => G.ob id
  | some (.row ver _) => (G.rw id ver).map (·.B)
  | _ => none

structure WR (w : World) (G : Gh) (h : List HO) : Prop where
  obj : ∀ id o, h[id]? = some o → HR G w id o
  dom : ∀ id, h.length ≤ id → G.ob id = none ∧ ∀ v, G.rw id v = none
  inj : ∀ i j B, ownB G h i = some B → ownB G h j = some B → i = j
  ost : ∀ i B, ownB G h i = some B → ¬ G.st B
  stl : ∀ B, G.st B → B < w.heap.size

theorem OC.mono {G G' : Gh} {w w' : World} {B : Nat} {cs : List V} (h : OC G w B cs) (hle : Le G w G' w') (he : w'.heap[B]? = w.heap[B]?) : OC G' w' B cs := by
  obtain ⟨c, el, fr, hb, hc, hf⟩ := h
  exact ⟨c, el, fr, he.trans hb, CRs.mono hle hc, hf⟩
theorem OR.mono {G G' : Gh} {w w' : World} {r : RowLoc} {l : List V} (h : OR G w r l) (hle : Le G w G' w') (he : w'.heap[r.B]? = w.heap[r.B]?) : OR G' w' r l := by
  obtain ⟨c, el, fr, hb, h1, h2, h3, h4, hc, hf⟩ := h
  exact ⟨c, el, fr, he.trans hb, h1, h2, h3, h4, CRs.mono hle hc, hf⟩
theorem ER.mono {G G' : Gh} {w w' : World} (hle : Le G w G' w') {l : List (V × V × Nat)} {es : List MapEntry} (h : ER G w l es) : ER G' w' l es := by
  induction h with
  | nil => exact .nil
  | cons k v b e l es hk hv hb _ ih => exact .cons k v b e l es (VR.mono hle hk) (VR.mono hle hv) hb ih

theorem lt_of_block {w : World} {B : Nat} {o : Obj} (h : w.heap[B]? = some o) : B < w.heap.size := by
  rcases Nat.lt_or_ge B w.heap.size with hl | hl
  · exact hl
  · rw [Array.getElem?_eq_none hl] at h; cases h

/-- An object's own block is there. -/
theorem HR.own_lt {G : Gh} {w : World} {h : List HO} {id B : Nat} {o : HO} (hr : HR G w id o) (ho : h[id]? = some o) (hb : ownB G h id = some B) : B < w.heap.size := by
  unfold ownB at hb
  rw [ho] at hb
  cases o with
  | cells cs => obtain ⟨B', e, c, el, fr, hh, _⟩ := hr; dsimp only at hb; rw [e] at hb; cases hb; exact lt_of_block hh
  | row ver l => obtain ⟨r, e, _, c, el, fr, hh, _⟩ := hr; dsimp only at hb; rw [e] at hb; cases hb; exact lt_of_block hh
  | map es k => obtain ⟨B', es', e, hh, _⟩ := hr; dsimp only at hb; rw [e] at hb; cases hb; exact lt_of_block hh
  | hole => cases hb

theorem WR.own_lt {w : World} {G : Gh} {h : List HO} (hw : WR w G h) {id B : Nat} (hb : ownB G h id = some B) : B < w.heap.size := by
  cases ho : h[id]? with
  | none => unfold ownB at hb; rw [ho] at hb; cases hb
  | some o => exact (hw.obj id o ho).own_lt ho hb

theorem HR.mono {G G' : Gh} {w w' : World} {h : List HO} {id : Nat} {o : HO} (hr : HR G w id o) (ho : h[id]? = some o) (hle : Le G w G' w')
    (hag : G'.ob id = G.ob id ∧ ∀ v, G'.rw id v = G.rw id v) (he : ∀ B, ownB G h id = some B → w'.heap[B]? = w.heap[B]?) : HR G' w' id o := by
  have he' := he
  unfold ownB at he'
  rw [ho] at he'
  cases o with
  | cells cs => obtain ⟨B, e, hc⟩ := hr; exact ⟨B, hag.1.trans e, hc.mono hle (he' B e)⟩
  | row ver l => obtain ⟨r, e, hn, hc⟩ := hr; exact ⟨r, (hag.2 ver).trans e, fun v hv => (hag.2 v).trans (hn v hv), hc.mono hle (he' r.B (by dsimp only; rw [e]; rfl))⟩
  | map es k => obtain ⟨B, es', e, hc, h2⟩ := hr; exact ⟨B, es', hag.1.trans e, (he' B e).trans hc, h2.mono hle⟩
  | hole => exact ⟨hag.1.trans hr.1, fun v => (hag.2 v).trans (hr.2 v)⟩

theorem ownB_agree {G G' : Gh} {h h' : List HO} {id : Nat} (hag : G'.ob id = G.ob id ∧ ∀ v, G'.rw id v = G.rw id v) (hh : h'[id]? = h[id]?) : ownB G' h' id = ownB G h id := by
  unfold ownB
  rw [hh]
  split <;> first | exact hag.1 | (rw [hag.2]) | rfl

/-- One object turns, or comes. -/
theorem WR.put {w w' : World} {G G' : Gh} {h h' : List HO} {id : Nat} {o' : HO} (hw : WR w G h) (hle : Le G w G' w') (hsz : w.heap.size ≤ w'.heap.size)
    (hst : ∀ B, G'.st B → G.st B) (hag : ∀ j, j ≠ id → G'.ob j = G.ob j ∧ ∀ v, G'.rw j v = G.rw j v)
    (hid : h'[id]? = some o') (hoth : ∀ j, j ≠ id → h'[j]? = h[j]?)
    (hfr : ∀ B, B < w.heap.size → ownB G h id ≠ some B → w'.heap[B]? = w.heap[B]?)
    (hnew : HR G' w' id o')
    (hB : ∀ B, ownB G' h' id = some B → ownB G h id = some B ∨ w.heap.size ≤ B) : WR w' G' h' := by
  have own : ∀ j, j ≠ id → ownB G' h' j = ownB G h j := fun j hj => ownB_agree (hag j hj) (hoth j hj)
  refine ⟨?_, ?_, ?_, ?_, fun B hB' => Nat.lt_of_lt_of_le (hw.stl B (hst B hB')) hsz⟩
  · intro j o hj
    by_cases e : j = id
    · subst e; rw [hid] at hj; cases hj; exact hnew
    · rw [hoth j e] at hj
      refine (hw.obj j o hj).mono hj hle (hag j e) fun B hB' => hfr B (hw.own_lt hB') fun hc => e (hw.inj j id B hB' hc)
  · intro j hj
    have e : j ≠ id := by
      intro e; subst e
      rw [List.getElem?_eq_none hj] at hid; cases hid
    have h1 := hoth j e
    rw [List.getElem?_eq_none hj] at h1
    have h2 : h.length ≤ j := by
      rcases Nat.lt_or_ge j h.length with hl | hl
      · rw [List.getElem?_eq_getElem hl] at h1; cases h1
      · exact hl
    have := hw.dom j h2
    exact ⟨(hag j e).1.trans this.1, fun v => ((hag j e).2 v).trans (this.2 v)⟩
  · intro i j B hi hj
    by_cases ei : i = id
    · by_cases ej : j = id
      · rw [ei, ej]
      · subst ei
        rw [own j ej] at hj
        rcases hB B hi with hc | hc
        · exact hw.inj _ _ B hc hj
        · exact absurd (hw.own_lt hj) (by omega)
    · by_cases ej : j = id
      · subst ej
        rw [own i ei] at hi
        rcases hB B hj with hc | hc
        · exact hw.inj _ _ B hi hc
        · exact absurd (hw.own_lt hi) (by omega)
      · rw [own i ei] at hi; rw [own j ej] at hj; exact hw.inj _ _ B hi hj
  · intro i B hi hs
    by_cases ei : i = id
    · subst ei
      rcases hB B hi with hc | hc
      · exact hw.ost _ B hc (hst B hs)
      · exact absurd (hw.stl B (hst B hs)) (by omega)
    · rw [own i ei] at hi; exact hw.ost _ B hi (hst B hs)

/-- Nothing of the heap's own turns. -/
theorem WR.keep {w w' : World} {G G' : Gh} {h : List HO} (hw : WR w G h) (hle : Le G w G' w') (hsz : w.heap.size ≤ w'.heap.size)
    (hst : ∀ B, G'.st B → B < w'.heap.size ∧ ∀ id, ownB G h id ≠ some B) (hag : ∀ j, G'.ob j = G.ob j ∧ ∀ v, G'.rw j v = G.rw j v)
    (hfr : ∀ id B, ownB G h id = some B → w'.heap[B]? = w.heap[B]?) : WR w' G' h := by
  have own : ∀ j, ownB G' h j = ownB G h j := fun j => ownB_agree (hag j) rfl
  refine ⟨fun j o hj => (hw.obj j o hj).mono hj hle (hag j) fun B hB => hfr j B hB, fun j hj => ?_, fun i j B hi hj => ?_, fun i B hi hs => ?_, fun B hB => (hst B hB).1⟩
  · have := hw.dom j hj
    exact ⟨(hag j).1.trans this.1, fun v => ((hag j).2 v).trans (this.2 v)⟩
  · rw [own] at hi hj; exact hw.inj _ _ B hi hj
  · rw [own] at hi; exact (hst B hs).2 i hi

/-! ### the variables of a call -/

abbrev Lm := Nat → Nat → Option Nat

structure LR (w : World) (G : Gh) (L : Lm) (σ : St) : Prop where
  obj : ∀ d g cs, σ.m d = some (g, cs) → ∃ B, L d g = some B ∧ OC G w B cs ∧ ¬ G.st B ∧ ∀ id, ownB G σ.h id ≠ some B
  inj : ∀ d d' g g' cs cs' B, σ.m d = some (g, cs) → σ.m d' = some (g', cs') → L d g = some B → L d' g' = some B → d = d'
  fresh : ∀ d g, σ.g ≤ g → L d g = none

inductive TR (G : Gh) (w : World) (L : Lm) : T → Value → Prop
  | v (v : V) (x : Value) (h : VR G w v x) : TR G w L (.v v) x
  | loc (d g off B : Nat) (h : L d g = some B) : TR G w L (.loc d g off) (.pointer (some ⟨B, off, none⟩))

def ERel (G : Gh) (w : World) (L : Lm) (e : Nat → T) (tm : Array Value) : Prop := ∀ t, TR G w L (e t) (tm.getD t undef)

structure SR (w : World) (G : Gh) (L : Lm) (σ : St) (tm : Array Value) : Prop where
  hp : WR w G σ.h
  lc : LR w G L σ
  ev : ERel G w L σ.e tm

theorem TR.mono {G G' : Gh} {w w' : World} {L L' : Lm} {x : T} {v : Value} (h : TR G w L x v) (hle : Le G w G' w') (hL : ∀ d g B, L d g = some B → L' d g = some B) : TR G' w' L' x v := by
  cases h with
  | v v x h => exact .v _ _ (VR.mono hle h)
  | loc d g off B h => exact .loc d g off B (hL _ _ _ h)

/-- What a step may do to memory. -/
structure Ext (w : World) (G : Gh) (L : Lm) (σ : St) (w' : World) (G' : Gh) (L' : Lm) (σ' : St) : Prop where
  os : w'.os = w.os
  tape : w'.tape = w.tape
  output : w'.output = w.output
  sz : w.heap.size ≤ w'.heap.size
  fr : ∀ B, B < w.heap.size → (∀ id, ownB G σ.h id ≠ some B) → (∀ d g cs, σ.m d = some (g, cs) → L d g ≠ some B) → w'.heap[B]? = w.heap[B]?
  st : ∀ B, G.st B → G'.st B
  ob : ∀ id B, G.ob id = some B → G'.ob id = some B
  rw : ∀ id v r, G.rw id v = some r → G'.rw id v = some r
  lm : ∀ d g B, L d g = some B → L' d g = some B
  stn : ∀ B, G'.st B → G.st B ∨ w.heap.size ≤ B ∨ ∃ d g cs, σ.m d = some (g, cs) ∧ L d g = some B
  own : ∀ id B, ownB G' σ'.h id = some B → (∃ j, ownB G σ.h j = some B) ∨ w.heap.size ≤ B
  loc : ∀ d g cs B, σ'.m d = some (g, cs) → L' d g = some B → (∃ d g cs, σ.m d = some (g, cs) ∧ L d g = some B) ∨ w.heap.size ≤ B

theorem Ext.refl (w : World) (G : Gh) (L : Lm) (σ : St) : Ext w G L σ w G L σ :=
  ⟨rfl, rfl, rfl, Nat.le_refl _, fun _ _ _ _ => rfl, fun _ h => h, fun _ _ h => h, fun _ _ _ h => h, fun _ _ _ h => h, fun _ h => .inl h, fun id _ h => .inl ⟨id, h⟩, fun d g cs _ h h' => .inl ⟨d, g, cs, h, h'⟩⟩

theorem Ext.trans {w w' w'' : World} {G G' G'' : Gh} {L L' L'' : Lm} {σ σ' σ'' : St} (h : Ext w G L σ w' G' L' σ') (h' : Ext w' G' L' σ' w'' G'' L'' σ'') : Ext w G L σ w'' G'' L'' σ'' := by
  refine ⟨h'.os.trans h.os, h'.tape.trans h.tape, h'.output.trans h.output, Nat.le_trans h.sz h'.sz, ?_, fun B hB => h'.st B (h.st B hB), fun id B e => h'.ob _ _ (h.ob _ _ e),
    fun id v r e => h'.rw _ _ _ (h.rw _ _ _ e), fun d g B e => h'.lm _ _ _ (h.lm _ _ _ e), ?_, ?_, ?_⟩
  · intro B hB h1 h2
    refine (h'.fr B (Nat.lt_of_lt_of_le hB h.sz) ?_ ?_).trans (h.fr B hB h1 h2)
    · intro id e
      rcases h.own id B e with ⟨j, hj⟩ | hg
      · exact h1 j hj
      · omega
    · intro d g cs e e2
      rcases h.loc d g cs B e e2 with ⟨d, g, cs, h3, h4⟩ | hg
      · exact h2 d g cs h3 h4
      · omega
  · intro B hB
    rcases h'.stn B hB with h1 | h1 | ⟨d, g, cs, h1, h2⟩
    · exact h.stn B h1
    · exact .inr (.inl (Nat.le_trans h.sz h1))
    · rcases h.loc d g cs B h1 h2 with ⟨d, g, cs, h3, h4⟩ | hg
      · exact .inr (.inr ⟨d, g, cs, h3, h4⟩)
      · exact .inr (.inl hg)
  · intro id B e
    rcases h'.own id B e with ⟨j, hj⟩ | hg
    · exact h.own j B hj
    · exact .inr (Nat.le_trans h.sz hg)
  · intro d g cs B e e2
    rcases h'.loc d g cs B e e2 with ⟨d, g, cs, h3, h4⟩ | hg
    · exact h.loc d g cs B h3 h4
    · exact .inr (Nat.le_trans h.sz hg)

theorem Ext.le {w w' : World} {G G' : Gh} {L L' : Lm} {σ σ' : St} {tm : Array Value} (h : Ext w G L σ w' G' L' σ') (hs : SR w G L σ tm) : Le G w G' w' := by
  refine ⟨h.st, fun B hB => h.fr B (hs.hp.stl B hB) (fun id e => hs.hp.ost id B e hB) ?_, h.ob, h.rw⟩
  intro d g cs e e2
  obtain ⟨B', e3, _, hn, _⟩ := hs.lc.obj d g cs e
  rw [e3] at e2; cases e2; exact hn hB

def putT (tm : Array Value) (d : Option Nat) (v : Value) : Array Value :=
  match d with
  | some d => tm.setIfInBounds d v
  | none => tm

theorem SR.put {w : World} {G : Gh} {L : Lm} {σ : St} {tm : Array Value} (hs : SR w G L σ tm) {d : Option Nat} {x : T} {v : Value} (h : TR G w L x v) (hd : ∀ t, d = some t → t < tm.size) :
    SR w G L (σ.put d x) (putT tm d v) := by
  cases d with
  | none => exact hs
  | some d =>
    refine ⟨hs.hp, ⟨hs.lc.obj, hs.lc.inj, hs.lc.fresh⟩, ?_⟩
    intro t
    have hdt := hd d rfl
    show TR G w L (bif t == d then x else σ.e t) ((tm.setIfInBounds d v).getD t undef)
    by_cases e : t = d
    · subst e
      simp only [beq_self_eq_true, cond_true]
      simpa [Array.getD_eq_getD_getElem?, hdt] using h
    · have e1 : (t == d) = false := by simpa using e
      rw [e1, cond_false]
      have := hs.ev t
      simpa [Array.getD_eq_getD_getElem?, Array.getElem?_setIfInBounds_ne (Ne.symm e)] using this

theorem Ext.put {w w' : World} {G G' : Gh} {L L' : Lm} {σ σ' : St} (h : Ext w G L σ w' G' L' σ') (d : Option Nat) (x : T) : Ext w G L σ w' G' L' (σ'.put d x) := by
  cases d with
  | none => exact h
  | some d => exact ⟨h.os, h.tape, h.output, h.sz, h.fr, h.st, h.ob, h.rw, h.lm, h.stn, h.own, h.loc⟩

end Go.Vm
end

section
set_option linter.unusedSimpArgs false
set_option linter.unusedVariables false
namespace Go.Vm
open Go

def fitC : Value → V → Bool
  | .bool a, .bool b => a == b
  | .int k n, .int k' n' => k == k' && n == n'
  | .float k n, .float k' n' => k == k' && n == n'
  | .string b, .str s => b.data.toList == s
  | .pointer none, .nilp => true
  | .slice none 0 0, .nils => true
  | .map none, .nilm => true
  | .nilFunc, .nilf => true
  | .nilIface, .nili => true
  | _, _ => false

def fitCs : List Value → List V → Bool
  | [], [] => true
  | x :: xs, v :: vs => fitC x v && fitCs xs vs
  | _, _ => false

def fitV : Value → V → Bool
  | .agg xs, .agg vs => fitCs xs.toList vs
  | x, v => fitC x v

def fitX : Operand → Opd → Bool
  | .tmp t, .t n => t == n
  | .const v, .c x => fitV v x
  | .func f, .c (.func g []) => f == g
  | _, _ => false

def fitXs : List Operand → List Opd → Bool
  | [], [] => true
  | x :: xs, v :: vs => fitX x v && fitXs xs vs
  | _, _ => false

def fitXo : Option Operand → Option Opd → Bool
  | none, none => true
  | some x, some y => fitX x y
  | _, _ => false

def aggD : TypeDesc → Bool
  | .struct _ => true
  | .array _ _ => true
  | _ => false

section
variable (P : Program)
def aggT (t : TypeId) : Option Bool := (P.underlying t).map aggD
def sizeT (t : TypeId) : Option Nat := (P.info? t).map (·.size)
def zeroFit (t : TypeId) (cs : List V) : Bool :=
  match (P.info? t).bind (·.zero) with
  | some z => fitCs z.cells.toList cs
  | none => false
def elemT (t : TypeId) : Option TypeId := match P.underlying t with | some (.slice e) => some e | _ => none
def fieldT (t : TypeId) (f : Nat) : Option Field := match P.underlying t with | some (.struct fs) => fs[f]? | _ => none
def fieldsOk (t : TypeId) : Bool := match P.underlying t with | some (.struct fs) => fs.all fun f => (P.info? f.type).isSome | _ => false
def arrT (t : TypeId) : Option (Nat × TypeId) := match P.underlying t with | some (.array n e) => some (n, e) | _ => none

/-- The parts of a struct's or an array's literal. -/
def fitParts (place : Nat → Option (Nat × Nat)) : List (Nat × Operand) → List (Nat × Nat × Opd) → Bool
  | [], [] => true
  | (i, x) :: ps, (off, n, y) :: qs => place i == some (off, n) && 0 < n && fitX x y && fitParts place ps qs
  | _, _ => false

def placeT (t : TypeId) (i : Nat) : Option (Nat × Nat) :=
  match P.underlying t with
  | some (.struct fs) => (fs[i]?).bind fun f => (sizeT P f.type).map fun n => (f.offset, n)
  | some (.array _ e) => (sizeT P e).map fun n => (i * n, n)
  | _ => none

def fitIdx : Nat → List (Nat × Operand) → List Opd → Bool
  | _, [], [] => true
  | i, (j, x) :: ps, y :: ys => i == j && fitX x y && fitIdx (i + 1) ps ys
  | _, _, _ => false

/-- The kinds of a comparable type's cells, in order; its parts follow one another. -/
def kindsGo (f : TypeId → Option (List K)) : Nat → List Field → Option (List K)
  | _, [] => some []
  | off, fd :: r => if fd.name != "_" && fd.offset == off then (f fd.type).bind fun ks => (kindsGo f (off + ks.length) r).map fun q => ks ++ q else none

def kindsT : Nat → TypeId → Option (List K)
  | 0, _ => none
  | d + 1, t =>
    match P.underlying t with
    | some .bool => some [.bool]
    | some (.int k) => some [.int k]
    | some (.float k) => some [.float k]
    | some .string => some [.str]
    | some (.array n e) => (kindsT d e).bind fun ks => if sizeT P e == some ks.length then some (List.replicate n ks).flatten else none
    | some (.struct fs) => if P.stoodInHeld t then none else kindsGo (fun t => (kindsT d t).bind fun ks => if sizeT P t == some ks.length then some ks else none) 0 fs.toList
    | _ => none

def cmpFit (t : TypeId) (ks : List K) : Bool := aggT P t == some true && kindsT P 20 t == some ks

def keyFit (t : TypeId) (ks : KT) : Bool :=
  match ks with
  | .agg ks => cmpFit P t ks && ks.all K.plain
  | .int => match P.underlying t with | some (.int _) => true | _ => false
  | .str => match P.underlying t with | some .string => true | _ => false

def fitO (op : Op) (so : SO) : Bool :=
  match op, so with
  | .move x, .mov y => fitX x y
  | .assign x, .mov y => fitX x y
  | .pick c a b, .pick c' a' b' => fitX c c' && fitX a a' && fitX b b'
  | .alloc t, .allocL z => zeroFit P t z
  | .alloc t, .allocH _ z => zeroFit P t z
  | .box _ x, .boxL y => fitX x y
  | .box _ x, .boxH _ y => fitX x y
  | .build t ps, .build z qs => zeroFit P t z && (fieldsOk P t || (match arrT P t with | some (_, e) => (sizeT P e).isSome | none => false)) && fitParts (placeT P t) ps.toList qs
  | .buildSlice t n ps, .bsnap z ys => (match elemT P t with | some e => sizeT P e == some z && (((P.info? e).bind (·.zero)).any fun v => v.cells.size == z) | none => false) && 0 < z && n == ys.length && n * z ≤ 16777216 && fitIdx 0 ps.toList ys
  | .buildSlice t n ps, .brow z ys => (match elemT P t with | some e => sizeT P e == some z && (((P.info? e).bind (·.zero)).any fun v => v.cells.size == z) | none => false) && 0 < z && n == ys.length && n * z ≤ 16777216 && fitIdx 0 ps.toList ys
  | .load t a, .load _ ag n b => aggT P t == some ag && sizeT P t == some n && (ag || n == 1) && fitX a b
  | .load t a, .loadA _ ag n b => aggT P t == some ag && sizeT P t == some n && (ag || n == 1) && fitX a b
  | .load t a, .loadN _ ag n b => aggT P t == some ag && sizeT P t == some n && (ag || n == 1) && fitX a b
  | .store t a x, .store n b y => sizeT P t == some n && 0 < n && fitX a b && fitX x y
  | .store t a x, .storeA _ n b y => sizeT P t == some n && 0 < n && fitX a b && fitX x y
  | .typeAssert x _ t ok, .tassert t' y => ok && t == t' && (match P.underlying t with | some (.interface _) => false | some _ => true | none => false) && fitX x y
  | .nilCheck x, .nilck y => fitX x y
  | .binOp o _ x y _, .bin o' x' y' => o == o' && fitX x x' && fitX y y'
  | .binOp o t x y _, .cmpB neg x' y' => (o == (if neg then .neq else .eql)) && P.underlying t matches some .bool && fitX x x' && fitX y y'
  | .binOp o t x y _, .cmpA neg ks x' y' => (o == (if neg then .neq else .eql)) && cmpFit P t ks && !P.eqGuardType P.depth t && fitX x x' && fitX y y'
  | .binOp o t x y _, .cmpN neg tk x' y' => (o == (if neg then .neq else .eql)) && (match tk, P.underlying t with
      | 0, some (.pointer _) => true
      | 1, some (.slice _) => true
      | 2, some (.map _ _) => true
      | 3, some (.func _ _ _) => true
      | _, _ => false) && fitX x x' && fitX y y'
  | .binOp o t x y _, .ifn neg x' => (o == (if neg then .neq else .eql)) && (match P.underlying t with | some (.interface _) => true | _ => false) && (match y with | .const .nilIface => true | _ => false) && fitX x x'
  | .unOp o _ x, .un o' y => o == o' && fitX x y
  | .convert src dst x, .cvI k y => (P.underlying src).isSome && (match P.underlying dst with | some (.int q) => q == k | _ => false) && fitX x y
  | .convert src dst x, .cvF k y => (P.underlying src).isSome && (match P.underlying dst with | some (.float q) => q == k | _ => false) && fitX x y
  | .convert src dst x, .cvFI k y => (P.underlying src).isSome && (match P.underlying dst with | some (.int q) => q == k | _ => false) && fitX x y
  | .convert src dst x, .cvSS y => (P.underlying src).isSome && (P.underlying dst matches some .string) && fitX x y
  | .convert src dst x, .cvSB y => (P.underlying src).isSome && (match P.underlying dst with | some (.slice e) => (P.underlying e matches some (.int .u8)) | _ => false) && fitX x y
  | .convert src dst x, .cvBS y => (match P.underlying src with | some (.slice e) => (P.underlying e matches some (.int .u8)) | _ => false) && (P.underlying dst matches some .string) && fitX x y
  | .makeInterface t x, .mkif t' y => t == t' && (match P.underlying t with | some (.interface _) => false | some _ => true | none => false) && fitX x y
  | .makeFunc (.func f) first caps, .mkfn f' ys => f == f' && first.isEmpty && fitXs caps.toList ys
  | .makeMap _ none, .mkmap _ => true
  | .makeSlice t l c, .mkslice _ bytes z zero l' c' => (match elemT P t with
      | some e => sizeT P e == some z && ((P.info? e).map (·.bytes)) == some bytes && (((P.info? e).bind (·.zero)).any fun v => fitV v zero && v.cells.size == z)
      | none => false) && fitX l l' && fitX c c'
  | .slice t x lo hi mx, .slice str z x' lo' hi' mx' => (if str then (P.underlying t matches some .string) else match elemT P t with | some e => sizeT P e == some z | none => false) &&
      fitX x x' && fitXo lo lo' && fitXo hi hi' && fitXo mx mx' && (mx.isNone || hi.isSome)
  | .slice t x lo hi mx, .frzL n y => lo.isNone && hi.isNone && mx.isNone && (match arrT P t with | some (n', e) => n == n' && sizeT P e == some 1 | none => false) && fitX x y
  | .fieldAddr t x f, .faddr off y => (match fieldT P t f with | some fd => fd.offset == off && (sizeT P fd.type).any (fun n => n != 0) | none => false) && fitX x y
  | .field t x f, .field ag off n y => (match fieldT P t f with | some fd => fd.offset == off && sizeT P fd.type == some n && aggT P fd.type == some ag && (ag || n == 1) | none => false) && fitX x y
  | .indexAddr t x i, .iaddr none z y j => (match elemT P t with | some e => sizeT P e == some z | none => false) && fitX x y && fitX i j
  | .indexAddr t x i, .iaddr (some n) z y j => (match arrT P t with | some (n', e) => n == n' && sizeT P e == some z | none => false) && fitX x y && fitX i j
  | .index t x i, .index none y j => (P.underlying t matches some .string) && fitX x y && fitX i j
  | .index t x i, .index (some (n, z, ag)) y j => (match arrT P t with | some (n', e) => n == n' && sizeT P e == some z && aggT P e == some ag && (ag || z == 1) | none => false) && fitX x y && fitX i j
  | .lookup t x i ok, .lookup ks zero ok' y j => (match P.underlying t with | some (.map k e) => keyFit P k ks && (((P.info? e).bind (·.zero)).any fun v => fitV v zero) | _ => false) && ok == ok' && fitX x y && fitX i j
  | .mapUpdate t x k v, .mapup ks y k' v' => (match P.underlying t with | some (.map kt _) => keyFit P kt ks | _ => false) && fitX x y && fitX k k' && fitX v v'
  | .mapEntry t x k, .mapent ks zero y k' => (match P.underlying t with | some (.map kt e) => keyFit P kt ks && (((P.info? e).bind (·.zero)).any fun v => fitV v zero) | _ => false) && fitX x y && fitX k k'
  | .entryStore _ x s v, .entst y s' v' => fitX x y && fitX s s' && fitX v v'
  | .extract x i, .extract y j => i == j && fitX x y
  | .panic x, .panic y => fitX x y
  | .call { callee := .value f, args := args, .. }, .call _ f' args' => fitX f f' && fitXs args.toList args'
  | .call { callee := .value f, args := args, .. }, .pcall f' args' => fitX f f' && fitXs args.toList args'
  | .call { callee := .builtin b, args := args, argTypes := ts }, so =>
    match b, so with
    | .len, .len tk y => (match args.toList, ts.toList with
        | [x], [t] => (match tk, P.underlying t with | 0, some .string => true | 1, some (.slice _) => true | 2, some (.map _ _) => true | _, _ => false) && fitX x y
        | _, _ => false)
    | .len, .num n => (match args.toList, ts.toList with
        | [_], [t] => (match P.underlying t with | some (.array m _) => n == (m : Int) | some (.pointer a) => (match P.underlying a with | some (.array m _) => n == (m : Int) | _ => false) | _ => false)
        | _, _ => false)
    | .cap, .cap y => (match args.toList, ts.toList with
        | [x], [t] => (P.underlying t matches some (.slice _)) && fitX x y
        | _, _ => false)
    | .max, .minmax true ys => fitXs args.toList ys
    | .min, .minmax false ys => fitXs args.toList ys
    | .append, .append z bytes y1 y2 => (match args.toList, ts.toList with
        | [x1, x2], [t, u] => (match elemT P t with
            | some e => sizeT P e == some z && ((P.info? e).map (·.bytes)) == some bytes && (((P.info? e).bind (·.zero)).any fun v => v.cells.size == z)
            | none => false) && (match P.underlying u with | some (.int _) => false | some _ => true | none => false) && fitX x1 y1 && fitX x2 y2
        | _, _ => false)
    | .append, .appendz z bytes zero y1 y2 => (match args.toList, ts.toList with
        | [x1, x2], [t, u] => (match elemT P t with
            | some e => sizeT P e == some z && ((P.info? e).map (·.bytes)) == some bytes && (((P.info? e).bind (·.zero)).any fun v => fitV v zero && v.cells.size == z)
            | none => false) && (match P.underlying u with | some (.int _) => true | _ => false) && fitX x1 y1 && fitX x2 y2
        | _, _ => false)
    | .copy, .copy y1 y2 => (match args.toList, ts.toList with
        | [x1, x2], [t, _] => (match elemT P t with | some e => sizeT P e == some 1 | none => false) && fitX x1 y1 && fitX x2 y2
        | _, _ => false)
    | .clear, .clear zero y => (match args.toList, ts.toList with
        | [x], [t] => (match elemT P t with | some e => (((P.info? e).bind (·.zero)).any fun v => fitV v zero) | none => false) && fitX x y
        | _, _ => false)
    | _, .no => true
    | _, _ => false
  | _, .no => true
  | _, _ => false
end

def fitGuard (ops : Array Oper) : Option (Nat × Bool) → Option (Nat × Bool) → Bool
  | none, none => true
  | some (j, w), some (t, w') => w == w' && ((ops[j]?).bind (·.dst)) == some t
  | _, _ => false

def fitOper (P : Program) (nt : Nat) (ops : Array Oper) (o : Oper) (s : SOper) : Bool :=
  o.dst == s.d && (s.d.all (· < nt)) && fitGuard ops o.guard s.g && fitO P o.op s.o

def fitOps (P : Program) (nt : Nat) (ops : Array Oper) : List Oper → List SOper → Bool
  | [], [] => true
  | o :: os, s :: ss => fitOper P nt ops o s && fitOps P nt ops os ss
  | _, _ => false

/-- What an operation waits for is among what the VM has it wait for, at least: the VM's orders are more. -/
def fitDeps (o : Oper) (ds : List Nat) : Bool := ds.all fun j => o.after.any fun e => e.on == j && Region.binds .any e

def fitDepss : List Oper → List (List Nat) → Bool
  | [], [] => true
  | o :: os, d :: ds => fitDeps o d && fitDepss os ds
  | _, _ => false

/-- What an operation waits for stands before it. -/
def fitBack : Nat → List Oper → Bool
  | _, [] => true
  | i, o :: os => (o.after.all fun e => !Region.binds .any e || decide (e.on < i)) && fitBack (i + 1) os

def fitCode (P : Program) (nt : Nat) : Code → SC → Bool
  | .skip, .skip => true
  | .region _ ops false, .ops l => fitOps P nt ops ops.toList l
  | .region _ ops true, .draw _ deps l => fitOps P nt ops ops.toList l && fitDepss ops.toList deps && fitBack 0 ops.toList
  | .region _ ops _, .skip => ops.isEmpty
  | .seq a b, .seq a' b' => fitCode P nt a a' && fitCode P nt b b'
  | .cond c a b, .cond c' a' b' => fitX c c' && fitCode P nt a a' && fitCode P nt b b'
  | .block id c, .block id' _ _ c' => id == id' && fitCode P nt c c'
  | .loop c, .loop _ _ c' => fitCode P nt c c'
  | .exit id, .exit id' => id == id'
  | .ret, .ret => true
  | _, _ => false

def fitRes (P : Program) : List ResultVar → List RV → Bool
  | [], [] => true
  | .tmp t :: rs, .t n :: ss => t == n && fitRes P rs ss
  | .cell a t :: rs, .c n ag z :: ss => a == n && aggT P t == some ag && sizeT P t == some z && (ag || z == 1) && fitRes P rs ss
  | _, _ => false

/-- A body that defers a call of a closure. -/
def fitD (P : Program) (nt : Nat) : Code → SC → Nat → SC → Bool
  | .seq a b, .seq a' pre, t, rest => fitCode P nt a a' && fitD P nt b pre t rest
  | .seq (.region _ ops false) b, .ops l, t, rest =>
    (match ops.toList, l with
      | [o1, o2], [s1] => fitOper P nt ops o1 s1 && s1.d == some t && s1.g.isNone && o2.guard.isNone && o2.dst.isNone &&
          (match o2.op with | .defer { callee := .value (.tmp t'), args := as, .. } => t' == t && as.isEmpty | _ => false)
      | _, _ => false) && fitCode P nt b rest
  | _, _, _, _ => false

/-- A closure that recovers. -/
def fitR (P : Program) (nt : Nat) : Code → SC → Nat → SC → Bool
  | .seq a b, .seq a' pre, d, rest => fitCode P nt a a' && fitR P nt b pre d rest
  | .seq (.region _ ops false) b, .skip, d, rest =>
    (match ops.toList with
      | [o] => o.dst == some d && d < nt && o.guard.isNone && (match o.op with | .call { callee := .builtin .recover, .. } => true | _ => false)
      | _ => false) && fitCode P nt b rest
  | _, _, _, _ => false

def fitFn (P : Program) (fn : Func) (sf : SF) : Bool :=
  match fn.body with
  | some c => fn.name != "runtime.NumGoroutine" && (match sf.dfr, sf.rcv with
      | none, none => fitCode P fn.ntmps c sf.body
      | some D, none => fitD P fn.ntmps c D.pre D.t D.rest
      | none, some R => fitR P fn.ntmps c R.pre R.d R.rest && fn.results.isEmpty
      | _, _ => false) && fitRes P fn.results.toList sf.res
  | none => false

end Go.Vm
end

section
set_option linter.unusedSimpArgs false
set_option linter.unusedVariables false
namespace Go.Vm
open Go

/-- Cells of such kinds. -/
def isKV : K → Value → Prop
  | .int k, x => ∃ n, x = .int k n
  | .str, x => ∃ s, x = .string s
  | .bool, x => ∃ b, x = .bool b
  | .float k, x => ∃ n, x = .float k n

inductive KVs : List K → List Value → Prop
  | nil : KVs [] []
  | cons (k : K) (x : Value) (ks : List K) (xs : List Value) (h : isKV k x) (hs : KVs ks xs) : KVs (k :: ks) (x :: xs)

theorem KVs.length {ks : List K} {xs : List Value} (h : KVs ks xs) : xs.length = ks.length := by
  induction h with
  | nil => rfl
  | cons _ _ _ _ _ _ ih => simp [ih]

theorem KVs.append_inv {ks ks' : List K} {xs : List Value} (h : KVs (ks ++ ks') xs) : KVs ks (xs.take ks.length) ∧ KVs ks' (xs.drop ks.length) := by
  induction ks generalizing xs with
  | nil => exact ⟨by simpa using KVs.nil, by simpa using h⟩
  | cons k ks ih =>
    cases h with
    | cons _ x _ xs hx hs =>
      obtain ⟨h1, h2⟩ := ih hs
      exact ⟨by simpa using KVs.cons k x _ _ hx h1, by simpa using h2⟩

/-- Are two such cells alike? -/
def eq1 : Value → Value → Bool
  | .int _ a, .int _ b => a == b
  | .string a, .string b => a.data.toList == b.data.toList
  | .bool a, .bool b => a == b
  | .float k a, .float _ b => k.format.order a b == some .eq
  | _, _ => false

def eqL : List Value → List Value → Bool
  | [], [] => true
  | x :: xs, y :: ys => eq1 x y && eqL xs ys
  | _, _ => false

theorem eqL_append {a b c d : List Value} (h : a.length = b.length) : eqL (a ++ c) (b ++ d) = (eqL a b && eqL c d) := by
  induction a generalizing b with
  | nil => cases b with
    | nil => simp [eqL]
    | cons _ _ => simp at h
  | cons x a ih => cases b with
    | nil => simp at h
    | cons y b => simp only [List.cons_append, eqL, ih (by simpa using h), Bool.and_assoc]

/-- A value of such a type: a struct or an array as a whole, else its one cell. -/
def Shp (P : Program) (t : TypeId) (x : Value) (cs : List Value) : Prop :=
  if aggT P t = some true then x = .agg cs.toArray else cs = [x]

section
variable {P : Program} (w : World)

theorem bytes_eq (a b : ByteArray) : (a == b) = (a.data.toList == b.data.toList) := by
  rw [Go.beq_toListBytes, ByteArray.toList_eq, ByteArray.toList_eq]

theorem aggT_of {t : TypeId} {d : TypeDesc} (h : P.underlying t = some d) : aggT P t = some (aggD d) := by
  unfold aggT; rw [h]; rfl

theorem run_part {e : TypeId} {ks : List K} (hs : sizeT P e = some ks.length) (ha : ∃ d, P.underlying e = some d) {xs : List Value} {off : Nat} (hx : KVs ks ((xs.drop off).take ks.length)) :
    (aggT P e = some true ∨ ks.length = 1) → ∃ a, (part e xs.toArray off).run P w = .ok a w ∧ Shp P e a ((xs.drop off).take ks.length) := by
  intro hcase
  obtain ⟨d, hd⟩ := ha
  obtain ⟨i, hi⟩ := Go.info_of_underlying hd
  have hsz : i.size = ks.length := by simpa [sizeT, hi] using hs
  have hag := aggT_of hd
  by_cases hg : aggT P e = some true
  · refine ⟨_, ?_, (by unfold Shp; rw [if_pos hg])⟩
    have hex : (xs.toArray.extract off (off + i.size)) = ((xs.drop off).take ks.length).toArray := by
      rw [hsz]; apply Array.ext'; simp [List.extract]
    rw [hg] at hag
    cases d <;> first | (cases hag; done) | (simp [part, isAgg, run_underlying hd, sizeOf, typeInfo, hi, hsz])
  · have h1 : ks.length = 1 := hcase.resolve_left hg
    have hlen := hx.length
    rw [h1] at hlen
    have : ∃ v, (xs.drop off).take 1 = [v] := by
      match hh : (xs.drop off).take 1 with
      | [] => rw [h1, hh] at hx; have := hx.length; rw [h1] at this; simp at this
      | [v] => exact ⟨v, rfl⟩
      | a :: b :: r => have := congrArg List.length hh; simp at this; omega
    obtain ⟨v, hv⟩ := this
    rw [h1, hv]
    refine ⟨v, ?_, (by unfold Shp; rw [if_neg hg])⟩
    have hget : xs[off]? = some v := by
      have := congrArg (fun l => l[0]?) hv
      simpa [List.getElem?_take, List.getElem?_drop] using this
    cases d <;> first | (exact absurd hag hg) | (simp [part, isAgg, run_underlying hd, hget])

theorem run_eqFields {dd : Nat} {f : TypeId → Option (List K)}
    (IH : ∀ t ks, f t = some ks → sizeT P t = some ks.length ∧ (∃ d, P.underlying t = some d) ∧ (aggT P t = some true ∨ ks.length = 1) ∧
      ∀ (w : World) a b xs ys, Shp P t a xs → Shp P t b ys → KVs ks xs → KVs ks ys → (Op.equalIn dd t a b).run P w = .ok (eqL xs ys) w) :
    ∀ (fs : List Field) (off : Nat) (ks : List K), kindsGo f off fs = some ks → ∀ (xs ys : List Value), KVs ks (xs.drop off) → KVs ks (ys.drop off) →
      (Op.eqFields dd xs.toArray ys.toArray fs).run P w = .ok (eqL (xs.drop off) (ys.drop off)) w
  | [], off, ks, h, xs, ys, hx, hy => by
    simp only [kindsGo, Option.some.injEq] at h
    subst h
    generalize xs.drop off = xs' at *
    generalize ys.drop off = ys' at *
    cases hx; cases hy
    simp [Op.eqFields, eqL]
  | fd :: fs, off, ks, h, xs, ys, hx, hy => by
    simp only [kindsGo] at h
    split at h
    · rename_i hc
      simp only [Bool.and_eq_true, bne_iff_ne, ne_eq, beq_iff_eq] at hc
      simp only [Option.bind_eq_some_iff, Option.map_eq_some_iff] at h
      obtain ⟨k1, hk1, k2, hk2, rfl⟩ := h
      obtain ⟨hsz, hu, hcase, heq⟩ := IH _ _ hk1
      obtain ⟨hx1, hx2⟩ := hx.append_inv
      obtain ⟨hy1, hy2⟩ := hy.append_inv
      rw [List.drop_drop] at hx2 hy2
      obtain ⟨a, p1, s1⟩ := run_part w hsz hu hx1 hcase
      obtain ⟨b, p2, s2⟩ := run_part w hsz hu hy1 hcase
      have hr := heq w a b _ _ s1 s2 hx1 hy1
      have hrest := run_eqFields IH fs (off + k1.length) k2 hk2 xs ys (by rw [Nat.add_comm] at hx2; rwa [Nat.add_comm]) (by rw [Nat.add_comm] at hy2; rwa [Nat.add_comm])
      have hsplit : eqL (xs.drop off) (ys.drop off) = (eqL ((xs.drop off).take k1.length) ((ys.drop off).take k1.length) && eqL (xs.drop (off + k1.length)) (ys.drop (off + k1.length))) := by
        conv => lhs; rw [← List.take_append_drop k1.length (xs.drop off), ← List.take_append_drop k1.length (ys.drop off)]
        rw [eqL_append (by rw [hx1.length, hy1.length]), List.drop_drop, List.drop_drop]
      rw [hsplit]
      simp only [Op.eqFields, hc.1, not_false_eq_true, ne_eq, if_true, Sem.run_bind, hc.2, p1, p2, hr, Result.andThen_ok]
      cases he : eqL ((xs.drop off).take k1.length) ((ys.drop off).take k1.length)
      · simp
      · simpa using hrest
    · cases h

theorem run_eqItems {dd : Nat} {e : TypeId} {ks : List K} (hsz : sizeT P e = some ks.length) (hu : ∃ d, P.underlying e = some d) (hcase : aggT P e = some true ∨ ks.length = 1)
    (IH : ∀ (w : World) a b xs ys, Shp P e a xs → Shp P e b ys → KVs ks xs → KVs ks ys → (Op.equalIn dd e a b).run P w = .ok (eqL xs ys) w) (xs ys : List Value) :
    ∀ (n m : Nat), KVs (List.replicate n ks).flatten (xs.drop (m * ks.length)) → KVs (List.replicate n ks).flatten (ys.drop (m * ks.length)) →
      (Op.eqItems dd e ks.length xs.toArray ys.toArray (List.range' m n)).run P w = .ok (eqL (xs.drop (m * ks.length)) (ys.drop (m * ks.length))) w
  | 0, m, hx, hy => by
    simp only [List.replicate_zero, List.flatten_nil] at hx hy
    generalize xs.drop (m * ks.length) = xs' at *
    generalize ys.drop (m * ks.length) = ys' at *
    cases hx; cases hy
    simp [Op.eqItems, eqL]
  | n + 1, m, hx, hy => by
    rw [List.replicate_succ, List.flatten_cons] at hx hy
    obtain ⟨hx1, hx2⟩ := hx.append_inv
    obtain ⟨hy1, hy2⟩ := hy.append_inv
    rw [List.drop_drop] at hx2 hy2
    have hm : m * ks.length + ks.length = (m + 1) * ks.length := by rw [Nat.add_mul, Nat.one_mul]
    rw [hm] at hx2 hy2
    obtain ⟨a, p1, s1⟩ := run_part w hsz hu hx1 hcase
    obtain ⟨b, p2, s2⟩ := run_part w hsz hu hy1 hcase
    have hr := IH w a b _ _ s1 s2 hx1 hy1
    have hrest := run_eqItems hsz hu hcase IH xs ys n (m + 1) hx2 hy2
    have hsplit : eqL (xs.drop (m * ks.length)) (ys.drop (m * ks.length)) = (eqL ((xs.drop (m * ks.length)).take ks.length) ((ys.drop (m * ks.length)).take ks.length) && eqL (xs.drop ((m + 1) * ks.length)) (ys.drop ((m + 1) * ks.length))) := by
      conv => lhs; rw [← List.take_append_drop ks.length (xs.drop (m * ks.length)), ← List.take_append_drop ks.length (ys.drop (m * ks.length))]
      rw [eqL_append (by rw [hx1.length, hy1.length]), List.drop_drop, List.drop_drop, hm]
    rw [hsplit]
    simp only [List.range'_succ, Op.eqItems, Sem.run_bind, p1, p2, hr, Result.andThen_ok]
    cases he : eqL ((xs.drop (m * ks.length)).take ks.length) ((ys.drop (m * ks.length)).take ks.length)
    · simp
    · simpa using hrest

theorem kindsT_spec : ∀ (d : Nat) (t : TypeId) (ks : List K), kindsT P d t = some ks → (∃ q, P.underlying t = some q) ∧ (aggT P t = some true ∨ ks.length = 1) ∧
    ∀ (dd : Nat), d ≤ dd → ∀ (w : World) a b xs ys, Shp P t a xs → Shp P t b ys → KVs ks xs → KVs ks ys → (Op.equalIn dd t a b).run P w = .ok (eqL xs ys) w
  | 0, t, ks, h => by simp [kindsT] at h
  | d + 1, t, ks, h => by
    unfold kindsT at h
    cases hu : P.underlying t with
    | none => rw [hu] at h; cases h
    | some q =>
      rw [hu] at h
      have hag := aggT_of hu
      refine ⟨⟨q, rfl⟩, ?_, ?_⟩
      · cases q <;> first | (cases h; done) | (left; exact hag) | (right; cases h; rfl)
      · intro dd hdd w a b xs ys ha hb hx hy
        obtain ⟨dd, rfl⟩ : ∃ k, dd = k + 1 := ⟨dd - 1, by omega⟩
        have single : aggD q = false → ∀ {z : Value} {zs : List Value}, Shp P t z zs → zs = [z] := by
          intro hq z zs hz
          unfold Shp at hz
          rw [hag, hq, if_neg (by simp)] at hz
          exact hz
        have whole : aggD q = true → ∀ {z : Value} {zs : List Value}, Shp P t z zs → z = .agg zs.toArray := by
          intro hq z zs hz
          unfold Shp at hz
          rw [hag, hq, if_pos rfl] at hz
          exact hz
        cases q <;> first | (cases h; done) | skip
        case bool =>
          have ea := single rfl ha; have eb := single rfl hb
          subst ea; subst eb; cases h
          cases hx with | cons _ _ _ _ h1 _ => cases hy with | cons _ _ _ _ h2 _ =>
            obtain ⟨p, rfl⟩ := h1; obtain ⟨r, rfl⟩ := h2
            rw [run_equalIn_bool w dd t p r hu]; simp [eqL, eq1]
        case int k =>
          have ea := single rfl ha; have eb := single rfl hb
          subst ea; subst eb; cases h
          cases hx with | cons _ _ _ _ h1 _ => cases hy with | cons _ _ _ _ h2 _ =>
            obtain ⟨p, rfl⟩ := h1; obtain ⟨r, rfl⟩ := h2
            rw [run_equalIn_int w dd t k k p r hu]; simp [eqL, eq1]
        case float k =>
          have ea := single rfl ha; have eb := single rfl hb
          subst ea; subst eb; cases h
          cases hx with | cons _ _ _ _ h1 _ => cases hy with | cons _ _ _ _ h2 _ =>
            obtain ⟨p, rfl⟩ := h1; obtain ⟨r, rfl⟩ := h2
            simp [Op.equalIn, run_underlying hu, Op.floatEq, eqL, eq1]
        case string =>
          have ea := single rfl ha; have eb := single rfl hb
          subst ea; subst eb; cases h
          cases hx with | cons _ _ _ _ h1 _ => cases hy with | cons _ _ _ _ h2 _ =>
            obtain ⟨p, rfl⟩ := h1; obtain ⟨r, rfl⟩ := h2
            rw [run_equalIn_string w dd t p r hu]; simp [eqL, eq1, ByteArray.toList_eq]
        case array n e =>
          have ea := whole rfl ha; have eb := whole rfl hb
          subst ea; subst eb
          simp only [Option.bind_eq_some_iff] at h
          obtain ⟨k1, hk1, h⟩ := h
          split at h
          · rename_i hsz
            cases h
            have hsz' : sizeT P e = some k1.length := by simpa using hsz
            obtain ⟨hu', hcase, heq⟩ := kindsT_spec d e k1 hk1
            obtain ⟨q', hq'⟩ := hu'
            obtain ⟨i, hi⟩ := Go.info_of_underlying hq'
            have hcell : P.cellsOf e = k1.length := by
              have : i.size = k1.length := by simpa [sizeT, hi] using hsz'
              simp [Program.cellsOf, hi, this]
            rw [run_equalIn_array w dd xs.toArray ys.toArray hu hi, hcell, List.range_eq_range']
            have := run_eqItems w hsz' ⟨q', hq'⟩ hcase (heq dd (by omega)) xs ys n 0 (by simpa using hx) (by simpa using hy)
            simpa using this
          · cases h
        case struct fs =>
          have ea := whole rfl ha; have eb := whole rfl hb
          subst ea; subst eb
          dsimp only at h
          split at h
          · cases h
          · rename_i hst
            have hfs : P.fieldsOf t = fs := by simp [Program.fieldsOf, hu]
            rw [run_equalIn_struct w dd t xs.toArray ys.toArray (by rw [hfs]; exact hu) (by simpa using hst), hfs]
            have := run_eqFields w (dd := dd) (f := fun t => (kindsT P d t).bind fun ks => if sizeT P t == some ks.length then some ks else none) (fun t' ks' h' => by
              simp only [Option.bind_eq_some_iff] at h'
              obtain ⟨k1, hk1, h'⟩ := h'
              split at h'
              · rename_i hsz
                cases h'
                obtain ⟨hu', hcase, heq⟩ := kindsT_spec d t' _ hk1
                exact ⟨by simpa using hsz, hu', hcase, heq dd (by omega)⟩
              · cases h') fs.toList 0 ks h xs ys (by simpa using hx) (by simpa using hy)
            simpa using this

theorem run_checkKey_kinds (em : Bool) : ∀ (d : Nat) (t : TypeId) (ks : List K), kindsT P d t = some ks → ∀ (dd : Nat), d ≤ dd → ∀ (w : World) a xs, Shp P t a xs → KVs ks xs →
    (Instr.checkKey em dd t a).run P w = .ok () w
  | 0, t, ks, h => by simp [kindsT] at h
  | d + 1, t, ks, h => by
    intro dd hdd w a xs ha hx
    obtain ⟨dd, rfl⟩ : ∃ k, dd = k + 1 := ⟨dd - 1, by omega⟩
    unfold kindsT at h
    cases hu : P.underlying t with
    | none => rw [hu] at h; cases h
    | some q =>
      rw [hu] at h
      have hag := aggT_of hu
      have single : aggD q = false → ∀ {z : Value} {zs : List Value}, Shp P t z zs → zs = [z] := by
        intro hq z zs hz
        unfold Shp at hz
        rw [hag, hq, if_neg (by simp)] at hz
        exact hz
      have whole : aggD q = true → ∀ {z : Value} {zs : List Value}, Shp P t z zs → z = .agg zs.toArray := by
        intro hq z zs hz
        unfold Shp at hz
        rw [hag, hq, if_pos rfl] at hz
        exact hz
      cases q <;> first | (cases h; done) | skip
      case bool => simp [Instr.checkKey, run_underlying hu]
      case int k => simp [Instr.checkKey, run_underlying hu]
      case float k => simp [Instr.checkKey, run_underlying hu]
      case string => simp [Instr.checkKey, run_underlying hu]
      case array n e =>
        have ea := whole rfl ha
        subst ea
        simp only [Option.bind_eq_some_iff] at h
        obtain ⟨k1, hk1, h⟩ := h
        split at h
        · rename_i hsz
          cases h
          have hsz' : sizeT P e = some k1.length := by simpa using hsz
          obtain ⟨⟨q', hq'⟩, hcase, _⟩ := kindsT_spec d e k1 hk1
          obtain ⟨i, hi⟩ := Go.info_of_underlying hq'
          have hcell : P.cellsOf e = k1.length := by
            have : i.size = k1.length := by simpa [sizeT, hi] using hsz'
            simp [Program.cellsOf, hi, this]
          rw [Instr.checkKey]
          simp only [Sem.run_bind, run_underlying hu, Result.andThen_ok]
          simp only [Std.Legacy.Range.forIn_eq_forIn_range', Std.Legacy.Range.size, Nat.sub_zero, Nat.add_one_sub_one, Nat.div_one]
          have key : ∀ n m, KVs (List.replicate n k1).flatten (xs.drop (m * k1.length)) → ((do
              let r ← forIn (List.range' m n) PUnit.unit fun i r => do
                let a ← sizeOf e
                let a ← part e xs.toArray (i * a)
                Instr.checkKey em dd e a
                do
                  pure PUnit.unit
                  pure (ForInStep.yield PUnit.unit)
              match r with
              | PUnit.unit => pure ()) : Sem Unit).run P w = .ok () w := by
            intro n
            induction n with
            | zero => intro m _; simp
            | succ n ih =>
              intro m hm
              rw [List.replicate_succ, List.flatten_cons] at hm
              obtain ⟨h1, h2⟩ := hm.append_inv
              rw [List.drop_drop] at h2
              have e2 : m * k1.length + k1.length = (m + 1) * k1.length := by rw [Nat.add_mul, Nat.one_mul]
              rw [e2] at h2
              obtain ⟨a, p1, s1⟩ := run_part w hsz' ⟨q', hq'⟩ h1 hcase
              have p2 := run_checkKey_kinds em d e k1 hk1 dd (by omega) w a _ s1 h1
              have := ih (m + 1) h2
              simp only [List.range'_succ, List.forIn_cons, Sem.run_bind, run_sizeOf w hi, hcell, Result.andThen_ok, p1, p2, Sem.run_pure] at this ⊢
              exact this
          have := key n 0 (by simpa using hx)
          simp at this ⊢
          rw [this]; rfl
        · cases h
      case struct fs =>
        have ea := whole rfl ha
        subst ea
        dsimp only at h
        split at h
        · cases h
        · rw [Instr.checkKey]
          simp only [Sem.run_bind, run_underlying hu, Result.andThen_ok]
          rw [← Array.forIn_toList]
          have key : ∀ (L : List Field) (off : Nat) (ks : List K), kindsGo (fun t => (kindsT P d t).bind fun ks => if sizeT P t == some ks.length then some ks else none) off L = some ks →
              KVs ks (xs.drop off) → ((do
              let r ← forIn L PUnit.unit fun f r => do
                if f.name ≠ "_" then do
                    let a ← part f.type xs.toArray f.offset
                    Instr.checkKey em dd f.type a
                    do
                      pure PUnit.unit
                      pure (ForInStep.yield PUnit.unit)
                  else do
                    pure PUnit.unit
                    pure (ForInStep.yield PUnit.unit)
              match r with
              | PUnit.unit => pure ()) : Sem Unit).run P w = .ok () w := by
            intro L
            induction L with
            | nil => intro off ks _ _; simp
            | cons f L ih =>
              intro off ks hk hx
              simp only [kindsGo] at hk
              split at hk
              · rename_i hc
                simp only [Bool.and_eq_true, bne_iff_ne, ne_eq, beq_iff_eq] at hc
                simp only [Option.bind_eq_some_iff, Option.map_eq_some_iff] at hk
                obtain ⟨k1, ⟨k1', hk1, hsz⟩, k2, hk2, rfl⟩ := hk
                split at hsz
                · rename_i hsz'
                  cases hsz
                  obtain ⟨⟨q', hq'⟩, hcase, _⟩ := kindsT_spec d f.type _ hk1
                  obtain ⟨h1, h2⟩ := hx.append_inv
                  rw [List.drop_drop] at h2
                  obtain ⟨a, p1, s1⟩ := run_part w (by simpa using hsz') ⟨q', hq'⟩ h1 hcase
                  have p2 := run_checkKey_kinds em d f.type _ hk1 dd (by omega) w a _ s1 h1
                  have := ih (off + k1.length) k2 hk2 h2
                  simp only [List.forIn_cons, Sem.run_bind, hc.1, hc.2, ne_eq, not_false_eq_true, if_true, Result.andThen_ok, p1, p2, Sem.run_pure] at this ⊢
                  exact this
                · cases hsz
              · cases hk
          have := key fs.toList 0 ks h (by simpa using hx)
          simp at this ⊢
          rw [this]; rfl

/-- '==' of two structs, or arrays. -/
theorem run_equal_agg {t : TypeId} {ks : List K} (hk : cmpFit P t ks = true) {xs ys : List Value} (hx : KVs ks xs) (hy : KVs ks ys) :
    (Op.equal t (.agg xs.toArray) (.agg ys.toArray)).run P w = .ok (eqL xs ys) w := by
  simp only [cmpFit, Bool.and_eq_true, beq_iff_eq] at hk
  obtain ⟨hag, hks⟩ := hk
  refine (kindsT_spec 20 t ks hks).2.2 10000 (by omega) w _ _ xs ys ?_ ?_ hx hy
  · unfold Shp; rw [if_pos hag]
  · unfold Shp; rw [if_pos hag]

end
end Go.Vm
end

section
set_option linter.unusedSimpArgs false
set_option linter.unusedVariables false
namespace Go.Vm
open Go Go.RowKit

section
variable {P : Program} {G : Gh} {w : World} {L : Lm} {σ : St} {tm : Array Value} {ds : List Deferred}

theorem fitC_VR {x : Value} {v : V} (h : fitC x v = true) : VR G w v x ∧ v.isC ∧ isCell x := by
  unfold fitC at h
  split at h <;> first
    | (cases h; done)
    | (simp only [beq_iff_eq] at h; subst h; exact ⟨.bool _, trivial, trivial⟩)
    | (simp only [Bool.and_eq_true, beq_iff_eq] at h; obtain ⟨rfl, rfl⟩ := h; first | exact ⟨.int _ _, trivial, trivial⟩ | exact ⟨.float _ _, trivial, trivial⟩)
    | (simp only [beq_iff_eq] at h; exact ⟨.str _ _ h, trivial, trivial⟩)
    | exact ⟨.nilp, trivial, trivial⟩
    | exact ⟨.nils, trivial, trivial⟩
    | exact ⟨.nilm, trivial, trivial⟩
    | exact ⟨.nilf, trivial, trivial⟩
    | exact ⟨.nili, trivial, trivial⟩

theorem fitCs_CRs : ∀ {xs : List Value} {vs : List V}, fitCs xs vs = true → CRs G w vs xs
  | [], [], _ => .nil
  | x :: xs, v :: vs, h => by
    simp only [fitCs, Bool.and_eq_true] at h
    obtain ⟨h1, h2, h3⟩ := fitC_VR (G := G) (w := w) h.1
    exact .cons _ _ _ _ h2 h3 h1 (fitCs_CRs h.2)
  | [], _ :: _, h => by simp [fitCs] at h
  | _ :: _, [], h => by simp [fitCs] at h

theorem fitV_VR {x : Value} {v : V} (h : fitV x v = true) : VR G w v x := by
  unfold fitV at h
  split at h
  · rename_i xs vs
    have := VR.agg (G := G) (w := w) vs xs.toList (fitCs_CRs h)
    simpa using this
  · exact (fitC_VR h).1

theorem ev_ok (hs : ERel G w L σ.e tm) {x : Operand} {y : Opd} (hf : fitX x y = true) : TR G w L (σ.ev y) (Act.eval ⟨tm, ds⟩ x) := by
  unfold fitX at hf
  split at hf
  · simp only [beq_iff_eq] at hf; subst hf; exact hs _
  · exact .v _ _ (fitV_VR hf)
  · simp only [beq_iff_eq] at hf; subst hf
    rename_i f; exact .v _ _ (by have := VR.func (G := G) (w := w) f [] [] .nil; simpa [Act.eval] using this)
  · cases hf

theorem val_ok (hs : ERel G w L σ.e tm) {x : Operand} {y : Opd} (hf : fitX x y = true) {v : V} (hv : σ.val y = some v) : VR G w v (Act.eval ⟨tm, ds⟩ x) := by
  have := ev_ok (ds := ds) hs hf
  unfold St.val at hv
  cases e : σ.ev y with
  | v u => rw [e] at hv this; cases hv; cases this; assumption
  | loc a b c => rw [e] at hv; cases hv

theorem vals_ok (hs : ERel G w L σ.e tm) : ∀ {xs : List Operand} {ys : List Opd}, fitXs xs ys = true → ∀ {vs : List V}, σ.vals ys = some vs → VRs G w vs (xs.map (Act.eval ⟨tm, ds⟩))
  | [], [], _, vs, hv => by cases hv; exact .nil
  | x :: xs, y :: ys, hf, vs, hv => by
    simp only [fitXs, Bool.and_eq_true] at hf
    simp only [St.vals, Option.bind_eq_some_iff] at hv
    obtain ⟨v, hv1, vs', hv2, e⟩ := hv
    cases e
    exact .cons _ _ _ _ (val_ok hs hf.1 hv1) (vals_ok hs hf.2 hv2)
  | [], _ :: _, hf, _, _ => by simp [fitXs] at hf
  | _ :: _, [], hf, _, _ => by simp [fitXs] at hf

theorem exec_v {ρ : Operand → Value} {o : Oper} {S : Sem Value} (h : execOp ρ o = (do pure (.value (← S)))) {x : Value} {w' : World} (hr : S.run P w = .ok x w') :
    (execOp ρ o).run P w = .ok (.value x) w' := by
  rw [h]; simp [hr]

/-- An operation's answer in the model is the VM's. -/
def Good (P : Program) (r : Result Next) (w : World) (G : Gh) (L : Lm) (σ : St) (tm : Array Value) (x : T) (σ' : St) : Prop :=
  ∃ n v w' G' L', r = .ok n w' ∧ (n = .value v ∨ n = .skip ∧ v = undef) ∧ TR G' w' L' x v ∧ SR w' G' L' σ' tm ∧ Ext w G L σ w' G' L' σ'

theorem Good.same {r : Result Next} {x : T} {v : Value} (hs : SR w G L σ tm) (hr : r = .ok (.value v) w) (hx : TR G w L x v) : Good P r w G L σ tm x σ :=
  ⟨_, v, w, G, L, hr, .inl rfl, hx, hs, Ext.refl w G L σ⟩

/-! ### parts of a literal -/

theorem foldl_set (c : Array Value) (off : Nat) : ∀ (xs : List Value) (i : Nat), off + i + xs.length ≤ c.size →
    ((xs.zipIdx i).foldl (fun cs (p : Value × Nat) => cs.setIfInBounds (off + p.2) p.1) c).toList = c.toList.take (off + i) ++ xs ++ c.toList.drop (off + i + xs.length)
  | [], i, h => by simp
  | x :: xs, i, h => by
    simp only [List.length_cons] at h
    have hlt : off + i < c.size := by omega
    simp only [List.zipIdx_cons, List.foldl_cons]
    have ih := foldl_set (c.setIfInBounds (off + i) x) off xs (i + 1) (by simp; omega)
    rw [ih]
    simp only [Array.toList_setIfInBounds, List.length_cons]
    have e1 : off + (i + 1) = off + i + 1 := by omega
    rw [e1]
    rw [List.take_set, List.drop_set_of_lt (by omega)]
    have e2 : off + i + 1 + xs.length = off + i + (xs.length + 1) := by omega
    rw [e2]
    have e3 : (c.toList.take (off + i + 1)).set (off + i) x = c.toList.take (off + i) ++ [x] := by
      have hl : off + i < c.toList.length := by simpa using hlt
      rw [List.take_succ_eq_append_getElem hl, List.set_append_right _ _ (by simp; omega)]
      simp
      have : off + i - min (off + i) c.size = 0 := by omega
      rw [this]; rfl
    rw [e3]
    simp

theorem foldl_set0 (c : Array Value) (off : Nat) (xs : Array Value) (h : off + xs.size ≤ c.size) :
    (xs.zipIdx.foldl (fun cs (p : Value × Nat) => cs.setIfInBounds (off + p.2) p.1) c).toList = c.toList.take off ++ xs.toList ++ c.toList.drop (off + xs.size) := by
  have := foldl_set c off xs.toList 0 (by simpa using h)
  rw [← Array.foldl_toList, Array.toList_zipIdx]
  simpa using this

theorem fill_ok (hs : ERel G w L σ.e tm) {place : Nat → Option (Nat × Nat)} : ∀ {ps : List (Nat × Operand)} {qs : List (Nat × Nat × Opd)}, fitParts place ps qs = true →
    ∀ {cs cs' : List V} {c : Array Value}, CRs G w cs c.toList →
    qs.foldl (fun (acc : Option (List V)) p => acc.bind fun cs => (σ.val p.2.2).bind fun x =>
      if x.cells.length = p.2.1 ∧ p.1 + p.2.1 ≤ cs.length then some (setRange cs p.1 x.cells) else none) (some cs) = some cs' →
    ∃ c', Instr.fill place c (ps.map fun p => (p.1, Act.eval ⟨tm, ds⟩ p.2)) = some c' ∧ CRs G w cs' c'.toList
  | [], [], _, cs, cs', c, hc, hq => by cases hq; exact ⟨c, rfl, hc⟩
  | (i, x) :: ps, (off, n, y) :: qs, hf, cs, cs', c, hc, hq => by
    simp only [fitParts, Bool.and_eq_true, beq_iff_eq, decide_eq_true_eq] at hf
    obtain ⟨⟨⟨hp, hn⟩, hx⟩, hrest⟩ := hf
    simp only [List.foldl_cons, Option.bind_some] at hq
    have none_stays : ∀ qs : List (Nat × Nat × Opd), qs.foldl (fun (acc : Option (List V)) p => acc.bind fun cs => (σ.val p.2.2).bind fun x =>
      if x.cells.length = p.2.1 ∧ p.1 + p.2.1 ≤ cs.length then some (setRange cs p.1 x.cells) else none) none = none := by
      intro qs; induction qs with
      | nil => rfl
      | cons a l ih => simpa using ih
    cases hv : σ.val y with
    | none => rw [hv] at hq; simp only [Option.bind_none] at hq; rw [none_stays] at hq; cases hq
    | some v =>
      rw [hv] at hq
      simp only [Option.bind_some] at hq
      split at hq
      · rename_i hc2
        have hvr := val_ok (ds := ds) hs hx hv
        have hcells := hvr.cells (by intro e; rw [e] at hc2; simp at hc2; omega)
        have hlen := hcells.length
        have hclen := hc.length
        have hsize : (Act.eval ⟨tm, ds⟩ x).cells.size = n := by rw [← Array.length_toList, ← hlen]; exact hc2.1
        have hfit : off + (Act.eval ⟨tm, ds⟩ x).cells.size ≤ c.size := by rw [hsize]; have := hc2.2; rw [hclen] at this; simpa using this
        have hfold := foldl_set0 c off _ hfit
        obtain ⟨c', h1, h2⟩ := fill_ok hs hrest (c := (Act.eval ⟨tm, ds⟩ x).cells.zipIdx.foldl (fun cs (p : Value × Nat) => cs.setIfInBounds (off + p.2) p.1) c) (by
          rw [hfold]
          exact ((hc.take off).append hcells).append (by have := hc.drop (off + v.cells.length); rwa [hc2.1, ← hsize] at this)) (by
          have e : setRange cs off v.cells = cs.take off ++ v.cells ++ cs.drop (off + (Act.eval ⟨tm, ds⟩ x).cells.size) := by simp [setRange, hsize, hc2.1]
          rw [e] at hq; exact hq)
        refine ⟨c', ?_, h2⟩
        simp only [List.map_cons, Instr.fill, hp]
        rw [if_neg (by simp [hsize]; omega)]
        exact h1
      · rw [none_stays] at hq; cases hq
  | [], _ :: _, hf, _, _, _, _, _ => by simp [fitParts] at hf
  | _ :: _, [], hf, _, _, _, _, _ => by simp [fitParts] at hf

theorem sizeT_info {t : TypeId} {n : Nat} (h : sizeT P t = some n) : ∃ i, P.info? t = some i ∧ i.size = n := by
  unfold sizeT at h
  cases hi : P.info? t with
  | none => rw [hi] at h; cases h
  | some i => rw [hi] at h; exact ⟨i, rfl, by simpa using h⟩

theorem run_sizeT {t : TypeId} {n : Nat} (h : sizeT P t = some n) : (sizeOf t).run P w = .ok n w := by
  obtain ⟨i, hi, hn⟩ := sizeT_info h
  simp [sizeOf, typeInfo, hi, hn]

theorem run_zeroT {t : TypeId} {z : Value} (h : (P.info? t).bind (·.zero) = some z) : (zeroValue t).run P w = .ok z w := by
  obtain ⟨i, hi, hz⟩ := Option.bind_eq_some_iff.1 h
  simp [zeroValue, typeInfo, hi, hz]

theorem run_isAggT {t : TypeId} {b : Bool} (h : aggT P t = some b) : (isAgg t).run P w = .ok b w := by
  unfold aggT at h
  obtain ⟨d, hd, rfl⟩ := Option.map_eq_some_iff.1 h
  cases d <;> simp [isAgg, run_underlying hd, aggD]

theorem zeroFit_ok {t : TypeId} {cs : List V} (h : zeroFit P t cs = true) : ∃ z, (P.info? t).bind (·.zero) = some z ∧ CRs G w cs z.cells.toList := by
  unfold zeroFit at h
  split at h
  · rename_i z hz; exact ⟨z, hz, fitCs_CRs h⟩
  · cases h

theorem run_mapM_sizes {fs : Array Field} (h : fs.all (fun f => (P.info? f.type).isSome) = true) :
    (fs.mapM fun f => do pure (f.offset, ← sizeOf f.type) : Sem (Array (Nat × Nat))).run P w = .ok (fs.map fun f => (f.offset, P.cellsOf f.type)) w := by
  have key : ∀ l : List Field, (∀ f ∈ l, (P.info? f.type).isSome) → (l.mapM fun f => do pure (f.offset, ← sizeOf f.type) : Sem (List (Nat × Nat))).run P w = .ok (l.map fun f => (f.offset, P.cellsOf f.type)) w := by
    intro l
    induction l with
    | nil => intro _; simp
    | cons f l ih =>
      intro hl
      obtain ⟨i, hi⟩ := Option.isSome_iff_exists.1 (hl f (by simp))
      have := ih (fun g hg => hl g (by simp [hg]))
      simp only [List.mapM_cons, Sem.run_bind, run_sizeOf w hi, Result.andThen_ok, Sem.run_pure, this, List.map_cons]
  have h2 := key fs.toList (fun f hf => Array.all_eq_true_iff_forall_mem.1 h f (Array.mem_toList_iff.1 hf))
  rw [Array.mapM_eq_mapM_toList]
  simp only [Sem.run_map, h2, Result.andThen_ok]
  congr 1
  apply Array.ext'; simp

theorem placeT_struct {t : TypeId} {fs : Array Field} (hu : P.underlying t = some (.struct fs)) (h : fs.all (fun f => (P.info? f.type).isSome) = true) :
    (fun i => (fs.map fun f => (f.offset, P.cellsOf f.type))[i]?) = placeT P t := by
  funext i
  simp only [placeT, hu, Array.getElem?_map]
  cases hf : fs[i]? with
  | none => rfl
  | some f =>
    have hm : f ∈ fs := Array.mem_of_getElem? hf
    obtain ⟨j, hj⟩ := Option.isSome_iff_exists.1 (Array.all_eq_true_iff_forall_mem.1 h f hm)
    simp [sizeT, Program.cellsOf, hj]

theorem build_ok (hs : SR w G L σ tm) {dst : Option Tmp} {ty : TypeId} {pos : String} {af : Array Edge} {gd : Option (Nat × Bool)} {t : TypeId} {ps : Array (Nat × Operand)} {z : List V} {qs : List (Nat × Nat × Opd)}
    (hf : fitO P (.build t ps) (.build z qs) = true) {x : T} (hx : pureO σ (.build z qs) = some x) :
    Good P ((execOp (Act.eval ⟨tm, ds⟩) ⟨dst, .build t ps, ty, pos, af, gd⟩).run P w) w G L σ tm x σ := by
  simp only [fitO, Bool.and_eq_true, Bool.or_eq_true] at hf
  obtain ⟨⟨hz, hty⟩, hps⟩ := hf
  obtain ⟨zv, hzv, hzc⟩ := zeroFit_ok (G := G) (w := w) hz
  simp only [pureO, Option.map_eq_some_iff] at hx
  obtain ⟨cs', hcs, rfl⟩ := hx
  obtain ⟨c', h1, h2⟩ := fill_ok (ds := ds) hs.ev hps hzc hcs
  refine Good.same (v := .agg c') hs (exec_v rfl ?_) (.v _ _ (by have := VR.agg (G := G) (w := w) cs' c'.toList h2; simpa using this))
  simp only [Instr.build, Sem.run_bind, run_zeroT hzv, Result.andThen_ok]
  have hlist : (ps.map fun (p : Nat × Operand) => (p.1, Act.eval ⟨tm, ds⟩ p.2)).toList = ps.toList.map fun p => (p.1, Act.eval ⟨tm, ds⟩ p.2) := by simp
  rcases hty with hty | hty
  · unfold fieldsOk at hty
    split at hty
    · rename_i fs hu
      simp only [run_underlying hu, Result.andThen_ok, Sem.run_bind, run_mapM_sizes hty]
      have := placeT_struct hu hty
      rw [← this, ← hlist] at h1
      simp only [Array.getElem?_map] at h1 ⊢
      rw [h1]; rfl
    · cases hty
  · split at hty
    · rename_i n e hu'
      have hu : P.underlying t = some (.array n e) := by
        unfold arrT at hu'
        split at hu'
        · rename_i hu; cases hu'; exact hu
        · cases hu'
      obtain ⟨m, hm⟩ := Option.isSome_iff_exists.1 hty
      have hpl : (fun i => some (i * m, m)) = placeT P t := by funext i; simp [placeT, hu, hm]
      simp only [run_underlying hu, Result.andThen_ok, Sem.run_bind, run_sizeT hm, hpl, hlist, h1]
      rfl
    · cases hty
end
end Go.Vm
end

section
set_option linter.unusedSimpArgs false
set_option linter.unusedVariables false
namespace Go.Vm
open Go Go.RowKit

section
variable {P : Program} {G : Gh} {w : World} {L : Lm} {σ : St} {tm : Array Value} {ds : List Deferred}
variable {dst : Option Tmp} {ty : TypeId} {pos : String} {af : Array Edge} {gd : Option (Nat × Bool)}

theorem TR.inv_v {v : V} {x : Value} (h : TR G w L (.v v) x) : VR G w v x := by cases h; assumption
theorem TR.inv_loc {d g off : Nat} {x : Value} (h : TR G w L (.loc d g off) x) : ∃ B, L d g = some B ∧ x = .pointer (some ⟨B, off, none⟩) := by cases h; exact ⟨_, ‹_›, rfl⟩

theorem mov_ok (hs : SR w G L σ tm) {op : Op} {x : Operand} {y : Opd} (ho : op = .move x ∨ op = .assign x) (hf : fitX x y = true) :
    Good P ((execOp (Act.eval ⟨tm, ds⟩) ⟨dst, op, ty, pos, af, gd⟩).run P w) w G L σ tm (σ.ev y) σ := by
  refine Good.same (v := Act.eval ⟨tm, ds⟩ x) hs ?_ (ev_ok hs.ev hf)
  rcases ho with rfl | rfl <;> rfl

theorem pick_ok (hs : SR w G L σ tm) {c a b : Operand} {c' a' b' : Opd} (hf : fitO P (.pick c a b) (.pick c' a' b') = true) {x : T} (hx : pureO σ (.pick c' a' b') = some x) :
    Good P ((execOp (Act.eval ⟨tm, ds⟩) ⟨dst, .pick c a b, ty, pos, af, gd⟩).run P w) w G L σ tm x σ := by
  simp only [fitO, Bool.and_eq_true] at hf
  obtain ⟨⟨h1, h2⟩, h3⟩ := hf
  have e1 := ev_ok (ds := ds) hs.ev h1
  have e2 := ev_ok (ds := ds) hs.ev h2
  have e3 := ev_ok (ds := ds) hs.ev h3
  simp only [pureO] at hx
  split at hx
  · rename_i e; rw [e] at e1
    cases hx
    have hb := e1.inv_v.inv_bool
    refine Good.same (v := Act.eval ⟨tm, ds⟩ a) hs ?_ e2
    simp [execOp, asBool, hb]
  · rename_i e; rw [e] at e1
    cases hx
    have hb := e1.inv_v.inv_bool
    refine Good.same (v := Act.eval ⟨tm, ds⟩ b) hs ?_ e3
    simp [execOp, asBool, hb]
  · cases hx

theorem bytesLess_eq (a b : ByteArray) : Op.bytesLess a.toList b.toList = Op.bytesLess a.data.toList b.data.toList := by rw [ByteArray.toList_eq, ByteArray.toList_eq]

theorem intV_ok {op : BinOp} {k : IntKind} {a b : Int} {r : V} (h : intV op k a b = some r) (hs1 : op ≠ .shl) (hs2 : op ≠ .shr) (t : TypeId) :
    ∃ v, (binOp op t (.int k a) (.int k b)).run P w = .ok v w ∧ VR G w r v := by
  cases op <;> simp only [intV, bitsV, Option.some.injEq, reduceCtorEq, not_true, ne_eq] at h hs1 hs2 <;> first
    | (subst h; refine ⟨_, ?_, .int _ _⟩; simp [binOp, Op.intArith, Op.intBits]; done)
    | (subst h; refine ⟨_, ?_, .bool _⟩; simp [binOp, Op.intCmp]; done)
    | skip
  · split at h
    · cases h
    · cases h; rename_i hb; exact ⟨_, by simp [binOp, Op.intDiv, hb], .int _ _⟩
  · split at h
    · cases h
    · cases h; rename_i hb; exact ⟨_, by simp [binOp, Op.intDiv, hb], .int _ _⟩

theorem strV_ok {op : BinOp} {a b : ByteArray} {r : V} (h : strV op a.data.toList b.data.toList = some r) (t : TypeId) :
    ∃ v, (binOp op t (.string a) (.string b)).run P w = .ok v w ∧ VR G w r v := by
  cases op <;> simp only [strV, Option.some.injEq, reduceCtorEq] at h
  case add =>
    split at h
    · rename_i hl
      cases h
      refine ⟨.string (a ++ b), ?_, .str _ _ (by simp)⟩
      have hsz : ¬ (((a.size + b.size : Nat) : Int) > IntKind.i64.max) := by
        have h1 : a.data.toList.length = a.size := rfl
        have h2 : b.data.toList.length = b.size := rfl
        have h3 : IntKind.i64.max = 9223372036854775807 := rfl
        have h4 : (2 : Nat) ^ 62 = 4611686018427387904 := rfl
        rw [h1, h2, h4] at hl
        rw [h3]
        omega
      simp only [binOp, Op.stringOp, if_neg hsz]
      rfl
    · cases h
  all_goals
    subst h
    refine ⟨_, ?_, .bool _⟩
    simp [binOp, Op.stringOp, ByteArray.toList_eq]

theorem floatV_ok {op : BinOp} {k : FloatKind} {a b : Nat} {r : V} (h : floatV op k a b = some r) (t : TypeId) :
    ∃ v, (binOp op t (.float k a) (.float k b)).run P w = .ok v w ∧ VR G w r v := by
  cases op <;> simp only [floatV, Option.some.injEq, reduceCtorEq, Option.map_eq_some_iff] at h <;> first
    | (subst h; refine ⟨_, ?_, .bool _⟩; simp [binOp, Op.floatCmp]; done)
    | (obtain ⟨q, hq, rfl⟩ := h; exact ⟨_, by simp [binOp, Op.floatArith, hq], .float _ _⟩)

theorem binV_ok {op : BinOp} {a b r : V} {va vb : Value} (ha : VR G w a va) (hb : VR G w b vb) (h : binV op a b = some r) (t : TypeId) (x y : Operand) :
    ∃ v, (do eqGuard op t x y va vb; binOp op t va vb : Sem Value).run P w = .ok v w ∧ VR G w r v := by
  unfold binV at h
  split at h
  · rename_i k p k' q
    cases ha; cases hb
    have hg : (eqGuard op t x y (.int k p) (.int k' q)).run P w = .ok () w := by cases op <;> rfl
    simp only [Sem.run_bind, hg, Result.andThen_ok]
    cases op
    case shl =>
      simp only [shiftV] at h
      split at h
      · cases h
      · rename_i hy; cases h; exact ⟨_, by simp [binOp, Op.shift, hy], .int _ _⟩
    case shr =>
      simp only [shiftV] at h
      split at h
      · cases h
      · rename_i hy; cases h; exact ⟨_, by simp [binOp, Op.shift, hy], .int _ _⟩
    all_goals
      dsimp only at h
      split at h
      · rename_i hk; subst hk; exact intV_ok h (by simp) (by simp) t
      · cases h
  · rename_i p q
    cases ha with | str _ va ea => cases hb with | str _ vb eb =>
      subst ea; subst eb
      have hg : (eqGuard op t x y (.string va) (.string vb)).run P w = .ok () w := by cases op <;> rfl
      simp only [Sem.run_bind, hg, Result.andThen_ok]
      exact strV_ok h t
  · rename_i k p k' q
    cases ha; cases hb
    have hg : (eqGuard op t x y (.float k p) (.float k' q)).run P w = .ok () w := by cases op <;> rfl
    simp only [Sem.run_bind, hg, Result.andThen_ok]
    split at h
    · rename_i hk; subst hk; exact floatV_ok h t
    · cases h
  · cases h

theorem bin_ok (hs : SR w G L σ tm) {o : BinOp} {t yt : TypeId} {x y : Operand} {o' : BinOp} {x' y' : Opd} (hf : fitO P (.binOp o t x y yt) (.bin o' x' y') = true) {r : T} (hx : pureO σ (.bin o' x' y') = some r) :
    Good P ((execOp (Act.eval ⟨tm, ds⟩) ⟨dst, .binOp o t x y yt, ty, pos, af, gd⟩).run P w) w G L σ tm r σ := by
  simp only [fitO, Bool.and_eq_true, beq_iff_eq] at hf
  obtain ⟨⟨rfl, h1⟩, h2⟩ := hf
  simp only [pureO, Option.bind_eq_some_iff, Option.map_eq_some_iff] at hx
  obtain ⟨a, ha, b, hb, q, hq, rfl⟩ := hx
  obtain ⟨v, hv, hr⟩ := binV_ok (val_ok (ds := ds) hs.ev h1 ha) (val_ok (ds := ds) hs.ev h2 hb) hq t x y
  exact Good.same hs (exec_v rfl hv) (.v _ _ hr)

theorem eqKs_ok {ks : List K} {xs ys : List V} {X Y : List Value} {b : Bool} (h : eqKs ks xs ys = some b) (hx : CRs G w xs X) (hy : CRs G w ys Y) : KVs ks X ∧ KVs ks Y ∧ b = eqL X Y := by
  induction ks generalizing xs ys X Y b with
  | nil =>
    cases xs <;> cases ys <;> simp [eqKs] at h
    cases hx; cases hy
    exact ⟨.nil, .nil, by simp [eqL, h]⟩
  | cons k ks ih =>
    cases hx with
    | nil => simp [eqKs] at h
    | cons x X' xs Xs _ _ hx1 hxs =>
      cases hy with
      | nil => simp [eqKs] at h
      | cons y Y' ys Ys _ _ hy1 hys =>
        simp only [eqKs, Option.bind_eq_some_iff] at h
        obtain ⟨a, h1, c, h2, h3⟩ := h
        cases h3
        obtain ⟨i1, i2, i3⟩ := ih h2 hxs hys
        have : isKV k X' ∧ isKV k Y' ∧ a = eq1 X' Y' := by
          unfold eqK at h1
          split at h1
          · cases hx1; cases hy1; cases h1; exact ⟨⟨_, rfl⟩, ⟨_, rfl⟩, rfl⟩
          · split at h1
            · rename_i hk; obtain ⟨rfl, rfl⟩ := hk; cases hx1; cases hy1; cases h1; exact ⟨⟨_, rfl⟩, ⟨_, rfl⟩, rfl⟩
            · cases h1
          · cases hx1 with | str _ va ea => cases hy1 with | str _ vb eb => subst ea; subst eb; cases h1; exact ⟨⟨_, rfl⟩, ⟨_, rfl⟩, rfl⟩
          · split at h1
            · rename_i hk; obtain ⟨rfl, rfl⟩ := hk; cases hx1; cases hy1; cases h1; exact ⟨⟨_, rfl⟩, ⟨_, rfl⟩, rfl⟩
            · cases h1
          · cases h1
        exact ⟨.cons _ _ _ _ this.1 i1, .cons _ _ _ _ this.2.1 i2, by rw [this.2.2, i3]; rfl⟩

theorem cmpA_ok (hs : SR w G L σ tm) {o : BinOp} {t yt : TypeId} {x y : Operand} {neg : Bool} {ks : List K} {x' y' : Opd} (hf : fitO P (.binOp o t x y yt) (.cmpA neg ks x' y') = true) {r : T} (hx : pureO σ (.cmpA neg ks x' y') = some r) :
    Good P ((execOp (Act.eval ⟨tm, ds⟩) ⟨dst, .binOp o t x y yt, ty, pos, af, gd⟩).run P w) w G L σ tm r σ := by
  simp only [fitO, Bool.and_eq_true, beq_iff_eq, Bool.not_eq_true'] at hf
  obtain ⟨⟨⟨⟨ho, hk⟩, hg⟩, h1⟩, h2⟩ := hf
  simp only [pureO] at hx
  split at hx
  · rename_i a b ha hb
    obtain ⟨q, hq, rfl⟩ := Option.map_eq_some_iff.1 hx
    have va := val_ok (ds := ds) hs.ev h1 ha
    have vb := val_ok (ds := ds) hs.ev h2 hb
    obtain ⟨X, hX, eX⟩ := va.inv_agg
    obtain ⟨Y, hY, eY⟩ := vb.inv_agg
    · obtain ⟨k1, k2, rfl⟩ := eqKs_ok hq hX hY
      have he := run_equal_agg (P := P) w hk k1 k2
      have hgd : (eqGuard o t x y (.agg X.toArray) (.agg Y.toArray)).run P w = .ok () w := run_eqGuard_agg w o t x y _ _ hg
      refine Good.same (v := .bool (neg ^^ eqL X Y)) hs (exec_v rfl ?_) (.v _ _ (.bool _))
      rw [eX, eY]
      simp only [Sem.run_bind, hgd, Result.andThen_ok]
      subst ho
      cases neg
      · simp [binOp, he]
      · simp [binOp, he]
  · cases hx

theorem cmpB_ok (hs : SR w G L σ tm) {o : BinOp} {t yt : TypeId} {x y : Operand} {neg : Bool} {x' y' : Opd} (hf : fitO P (.binOp o t x y yt) (.cmpB neg x' y') = true) {r : T} (hx : pureO σ (.cmpB neg x' y') = some r) :
    Good P ((execOp (Act.eval ⟨tm, ds⟩) ⟨dst, .binOp o t x y yt, ty, pos, af, gd⟩).run P w) w G L σ tm r σ := by
  simp only [fitO, Bool.and_eq_true, beq_iff_eq] at hf
  obtain ⟨⟨⟨ho, hk⟩, h1⟩, h2⟩ := hf
  have hu : P.underlying t = some .bool := by
    cases hq : P.underlying t with
    | none => rw [hq] at hk; cases hk
    | some d => cases d <;> rw [hq] at hk <;> first | rfl | (cases hk; done)
  simp only [pureO] at hx
  split at hx
  · rename_i a b ha hb
    cases hx
    have va := val_ok (ds := ds) hs.ev h1 ha
    have vb := val_ok (ds := ds) hs.ev h2 hb
    have eX := va.inv_bool
    have eY := vb.inv_bool
    have he : (Op.equal t (.bool a) (.bool b)).run P w = .ok (a == b) w := run_equalIn_bool w 9999 t a b hu
    have hgd : (eqGuard o t x y (.bool a) (.bool b)).run P w = .ok () w := by cases o <;> rfl
    refine Good.same (v := .bool (neg ^^ (a == b))) hs (exec_v rfl ?_) (.v _ _ (.bool _))
    rw [eX, eY]
    simp only [Sem.run_bind, hgd, Result.andThen_ok]
    subst ho
    cases neg
    · simp [binOp, he]
    · simp [binOp, he]
  · cases hx

end
end Go.Vm
end

section
set_option linter.unusedSimpArgs false
set_option linter.unusedVariables false
namespace Go.Vm
open Go Go.RowKit

section
variable {P : Program} {G : Gh} {w : World} {L : Lm} {σ : St} {tm : Array Value} {ds : List Deferred}
variable {dst : Option Tmp} {ty : TypeId} {pos : String} {af : Array Edge} {gd : Option (Nat × Bool)}

theorem bits_ok {op : BinOp} {k : IntKind} {a b : Int} {r : V} (h : bitsV op k a b = some r) : ∃ v, (Op.intBits op k a b).run P w = .ok v w ∧ VR G w r v := by
  cases op <;> simp only [bitsV, Option.some.injEq, reduceCtorEq] at h <;> (subst h; exact ⟨_, by simp [Op.intBits], .int _ _⟩)

theorem un_ok (hs : SR w G L σ tm) {o : UnOp} {t : TypeId} {x : Operand} {o' : UnOp} {y : Opd} (hf : fitO P (.unOp o t x) (.un o' y) = true) {r : T} (hx : pureO σ (.un o' y) = some r) :
    Good P ((execOp (Act.eval ⟨tm, ds⟩) ⟨dst, .unOp o t x, ty, pos, af, gd⟩).run P w) w G L σ tm r σ := by
  simp only [fitO, Bool.and_eq_true, beq_iff_eq] at hf
  obtain ⟨rfl, h1⟩ := hf
  simp only [pureO, Option.bind_eq_some_iff, Option.map_eq_some_iff] at hx
  obtain ⟨a, ha, q, hq, rfl⟩ := hx
  have va := val_ok (ds := ds) hs.ev h1 ha
  unfold unV at hq
  split at hq
  · cases hq; have e := va.inv_int
    exact Good.same hs (exec_v rfl (by rw [e]; simp [Op.unary, Op.intArith])) (.v _ _ (.int _ _))
  · have e := va.inv_int
    obtain ⟨v, hv, hr⟩ := bits_ok (P := P) (w := w) (G := G) hq
    exact Good.same hs (exec_v rfl (by rw [e]; simp [Op.unary, hv])) (.v _ _ hr)
  · cases hq; have e := va.inv_bool
    exact Good.same hs (exec_v rfl (by rw [e]; simp [Op.unary])) (.v _ _ (.bool _))
  · cases hq; have e := va.inv_float
    exact Good.same hs (exec_v rfl (by rw [e]; simp [Op.unary])) (.v _ _ (.float _ _))
  · cases hq

theorem und {t : TypeId} (h : (P.underlying t).isSome = true) : ∃ d, P.underlying t = some d := Option.isSome_iff_exists.1 h

theorem cvI_ok (hs : SR w G L σ tm) {s d : TypeId} {x : Operand} {k : IntKind} {y : Opd} (hf : fitO P (.convert s d x) (.cvI k y) = true) {r : T} (hx : pureO σ (.cvI k y) = some r) :
    Good P ((execOp (Act.eval ⟨tm, ds⟩) ⟨dst, .convert s d x, ty, pos, af, gd⟩).run P w) w G L σ tm r σ := by
  simp only [fitO, Bool.and_eq_true] at hf
  obtain ⟨⟨h0, hd⟩, h1⟩ := hf
  obtain ⟨sd, hsd⟩ := und h0
  simp only [pureO] at hx
  split at hx
  · rename_i k' n hv
    cases hx
    have e := (val_ok (ds := ds) hs.ev h1 hv).inv_int
    split at hd
    · rename_i q hq
      simp only [beq_iff_eq] at hd; subst hd
      exact Good.same hs (exec_v rfl (by rw [e]; simp [convert, run_underlying hsd, run_underlying hq, Conv.intToInt])) (.v _ _ (.int _ _))
    · cases hd
  · cases hx

theorem cvF_ok (hs : SR w G L σ tm) {s d : TypeId} {x : Operand} {k : FloatKind} {y : Opd} (hf : fitO P (.convert s d x) (.cvF k y) = true) {r : T} (hx : pureO σ (.cvF k y) = some r) :
    Good P ((execOp (Act.eval ⟨tm, ds⟩) ⟨dst, .convert s d x, ty, pos, af, gd⟩).run P w) w G L σ tm r σ := by
  simp only [fitO, Bool.and_eq_true] at hf
  obtain ⟨⟨h0, hd⟩, h1⟩ := hf
  obtain ⟨sd, hsd⟩ := und h0
  simp only [pureO] at hx
  split at hx
  · rename_i k' n hv
    cases hx
    have e := (val_ok (ds := ds) hs.ev h1 hv).inv_int
    split at hd
    · rename_i q hq
      simp only [beq_iff_eq] at hd; subst hd
      exact Good.same hs (exec_v rfl (by rw [e]; simp [convert, run_underlying hsd, run_underlying hq, Conv.intToFloat])) (.v _ _ (.float _ _))
    · cases hd
  · cases hx

theorem cvFI_ok (hs : SR w G L σ tm) {s d : TypeId} {x : Operand} {k : IntKind} {y : Opd} (hf : fitO P (.convert s d x) (.cvFI k y) = true) {r : T} (hx : pureO σ (.cvFI k y) = some r) :
    Good P ((execOp (Act.eval ⟨tm, ds⟩) ⟨dst, .convert s d x, ty, pos, af, gd⟩).run P w) w G L σ tm r σ := by
  simp only [fitO, Bool.and_eq_true] at hf
  obtain ⟨⟨h0, hd⟩, h1⟩ := hf
  obtain ⟨sd, hsd⟩ := und h0
  simp only [pureO] at hx
  split at hx
  · rename_i k' n hv
    have e := (val_ok (ds := ds) hs.ev h1 hv).inv_float
    split at hx
    · rename_i m hm
      split at hx
      · rename_i hb
        cases hx
        split at hd
        · rename_i q hq
          simp only [beq_iff_eq] at hd; subst hd
          exact Good.same hs (exec_v rfl (by rw [e]; simp [convert, run_underlying hsd, run_underlying hq, Conv.floatToInt, hm, hb])) (.v _ _ (.int _ _))
        · cases hd
      · cases hx
    · cases hx
  · cases hx

theorem cvSS_ok (hs : SR w G L σ tm) {s d : TypeId} {x : Operand} {y : Opd} (hf : fitO P (.convert s d x) (.cvSS y) = true) {r : T} (hx : pureO σ (.cvSS y) = some r) :
    Good P ((execOp (Act.eval ⟨tm, ds⟩) ⟨dst, .convert s d x, ty, pos, af, gd⟩).run P w) w G L σ tm r σ := by
  simp only [fitO, Bool.and_eq_true] at hf
  obtain ⟨⟨h0, hd⟩, h1⟩ := hf
  obtain ⟨sd, hsd⟩ := und h0
  simp only [pureO] at hx
  split at hx
  · rename_i k' hv
    cases hx
    have hvr := val_ok (ds := ds) hs.ev h1 hv
    obtain ⟨b, e, eb⟩ := hvr.inv_str
    have hq : P.underlying d = some .string := by
      cases hq : P.underlying d with
      | none => rw [hq] at hd; cases hd
      | some d' => cases d' <;> rw [hq] at hd <;> first | rfl | (cases hd; done)
    refine Good.same (v := .string b) hs (exec_v rfl ?_) (.v _ _ (.str _ _ eb))
    rw [e]; cases sd <;> simp [convert, run_underlying hsd, run_underlying hq]
  · cases hx

theorem mkif_ok (hs : SR w G L σ tm) {t : TypeId} {x : Operand} {t' : Nat} {y : Opd} (hf : fitO P (.makeInterface t x) (.mkif t' y) = true) {r : T} (hx : pureO σ (.mkif t' y) = some r) :
    Good P ((execOp (Act.eval ⟨tm, ds⟩) ⟨dst, .makeInterface t x, ty, pos, af, gd⟩).run P w) w G L σ tm r σ := by
  simp only [fitO, Bool.and_eq_true, beq_iff_eq] at hf
  obtain ⟨⟨rfl, hd⟩, h1⟩ := hf
  simp only [pureO, Option.map_eq_some_iff] at hx
  obtain ⟨v, hv, rfl⟩ := hx
  have hvr := val_ok (ds := ds) hs.ev h1 hv
  refine Good.same hs (exec_v (x := .iface t (Act.eval ⟨tm, ds⟩ x)) rfl ?_) (.v _ _ (.iface _ _ _ hvr))
  cases hq : P.underlying t with
  | none => rw [hq] at hd; cases hd
  | some d => cases d <;> rw [hq] at hd <;> first | (cases hd; done) | simp [Instr.makeInterface, run_underlying hq]

theorem mkfn_ok (hs : SR w G L σ tm) {fn : Fn} {first caps : Array Operand} {f' : Nat} {ys : List Opd} (hf : fitO P (.makeFunc fn first caps) (.mkfn f' ys) = true) {r : T} (hx : pureO σ (.mkfn f' ys) = some r) :
    Good P ((execOp (Act.eval ⟨tm, ds⟩) ⟨dst, .makeFunc fn first caps, ty, pos, af, gd⟩).run P w) w G L σ tm r σ := by
  cases fn <;> first | (simp only [fitO] at hf; cases hf; done) | skip
  simp only [fitO, Bool.and_eq_true, beq_iff_eq] at hf
  rename_i fn
  obtain ⟨⟨rfl, h0⟩, h1⟩ := hf
  simp only [pureO, Option.map_eq_some_iff] at hx
  obtain ⟨vs, hv, rfl⟩ := hx
  have hvr := vals_ok (ds := ds) hs.ev h1 hv
  have e0 : first = #[] := by simpa using h0
  subst e0
  refine Good.same hs (exec_v rfl (by simp [Instr.makeFunc]; rfl)) (.v _ _ ?_)
  have := VR.func (G := G) (w := w) fn vs _ hvr
  have e : caps.map (Act.eval ⟨tm, ds⟩) = (caps.toList.map (Act.eval ⟨tm, ds⟩)).toArray := by apply Array.ext'; simp
  rw [e]; exact this

theorem nilck_ok (hs : SR w G L σ tm) {x : Operand} {y : Opd} (hf : fitO P (.nilCheck x) (.nilck y) = true) {r : T} (hx : pureO σ (.nilck y) = some r) :
    Good P ((execOp (Act.eval ⟨tm, ds⟩) ⟨dst, .nilCheck x, ty, pos, af, gd⟩).run P w) w G L σ tm r σ := by
  simp only [fitO] at hf
  have e := ev_ok (ds := ds) hs.ev hf
  have key : ∀ {v : Value}, (∃ a, v = .pointer (some a)) → Act.eval ⟨tm, ds⟩ x = v → (execOp (Act.eval ⟨tm, ds⟩) ⟨dst, .nilCheck x, ty, pos, af, gd⟩).run P w = .ok (.value v) w := by
    rintro v ⟨a, rfl⟩ h
    simp [execOp, h]
  simp only [pureO] at hx
  split at hx <;> first | (cases hx; done) | skip
  all_goals
    rename_i he
    rw [he] at e
    cases hx
  · obtain ⟨B, _, h⟩ := e.inv_v.inv_ptr; exact Good.same hs (key ⟨_, h⟩ rfl) e
  · obtain ⟨B, _, _, _, _, _, h⟩ := e.inv_v.inv_cref; exact Good.same hs (key ⟨_, h⟩ rfl) e
  · obtain ⟨B, _, h⟩ := e.inv_v.inv_eptr; exact Good.same hs (key ⟨_, h⟩ rfl) e
  · obtain ⟨B, _, h⟩ := e.inv_loc; exact Good.same hs (key ⟨_, h⟩ rfl) e

theorem add_none (B off n : Nat) : (⟨B, off, none⟩ : Addr).add n = ⟨B, off + n, none⟩ := by
  unfold Addr.add
  split
  · rename_i h; subst h; rfl
  · rfl

theorem fieldT_ok {t : TypeId} {f : Nat} {fd : Field} (h : fieldT P t f = some fd) : ∃ fs, P.underlying t = some (.struct fs) ∧ fs[f]? = some fd := by
  unfold fieldT at h
  split at h
  · exact ⟨_, ‹_›, h⟩
  · cases h

theorem elemT_ok {t e : TypeId} (h : elemT P t = some e) : P.underlying t = some (.slice e) := by
  unfold elemT at h
  split at h
  · cases h; assumption
  · cases h

theorem arrT_ok {t e : TypeId} {n : Nat} (h : arrT P t = some (n, e)) : P.underlying t = some (.array n e) := by
  unfold arrT at h
  split at h
  · cases h; assumption
  · cases h

theorem faddr_ok (hs : SR w G L σ tm) {t : TypeId} {x : Operand} {f off : Nat} {y : Opd} (hf : fitO P (.fieldAddr t x f) (.faddr off y) = true) {r : T} (hx : pureO σ (.faddr off y) = some r) :
    Good P ((execOp (Act.eval ⟨tm, ds⟩) ⟨dst, .fieldAddr t x f, ty, pos, af, gd⟩).run P w) w G L σ tm r σ := by
  simp only [fitO, Bool.and_eq_true] at hf
  obtain ⟨hfd, h1⟩ := hf
  have e := ev_ok (ds := ds) hs.ev h1
  split at hfd
  · rename_i fd hfe
    obtain ⟨fs, hu, hg⟩ := fieldT_ok hfe
    simp only [Bool.and_eq_true, beq_iff_eq] at hfd
    obtain ⟨rfl, hsz⟩ := hfd
    obtain ⟨n, hn, hn0⟩ := (Option.any_eq_true_iff_get _ _).1 hsz |> fun ⟨a, b⟩ => (⟨_, Option.eq_some_of_isSome a, b⟩ : ∃ n, sizeT P fd.type = some n ∧ (n != 0) = true)
    have key : ∀ (B o : Nat), Act.eval ⟨tm, ds⟩ x = .pointer (some ⟨B, o, none⟩) →
        (execOp (Act.eval ⟨tm, ds⟩) ⟨dst, .fieldAddr t x f, ty, pos, af, gd⟩).run P w = .ok (.value (.pointer (some ⟨B, o + fd.offset, none⟩))) w := by
      intro B o h
      refine exec_v rfl ?_
      have hn1 : n ≠ 0 := by simpa using hn0
      simp [Instr.fieldAt, run_underlying hu, hg, h, Instr.sureAddr, fieldPlace, run_sizeT hn, hn1, add_none]
    simp only [pureO] at hx
    split at hx <;> first | (cases hx; done) | skip
    all_goals
      rename_i he
      rw [he] at e
      cases hx
    · obtain ⟨B, hB, h⟩ := e.inv_loc; exact Good.same hs (key _ _ h) (.loc _ _ _ _ hB)
    · obtain ⟨B, hB, h⟩ := e.inv_v.inv_ptr; exact Good.same hs (key _ _ h) (.v _ _ (.ptr _ _ _ hB))
    · obtain ⟨B, o, xs, hst, hc, hcr, h⟩ := e.inv_v.inv_cref
      refine Good.same hs (key _ _ h) (.v _ _ (.cref _ _ _ (xs.drop fd.offset) hst ?_ (hcr.drop _)))
      obtain ⟨c, el, fr, hb, hcc⟩ := hc
      refine ⟨c, el, fr, hb, fun i hi => ?_⟩
      simp only [List.length_drop] at hi
      rw [List.getElem?_drop, Nat.add_assoc]
      exact hcc _ (by omega)
    · rename_i id ver i o
      obtain ⟨r, hr, h⟩ := e.inv_v.inv_eptr
      refine Good.same hs (key _ _ h) (.v _ _ ?_)
      have := VR.eptr (G := G) (w := w) id ver i (o + fd.offset) r hr
      rw [← Nat.add_assoc] at this
      exact this
  · cases hfd

theorem cut_ok {cs c : List V} {xs : List Value} {off n : Nat} (h : cut cs off n = some c) (hc : CRs G w cs xs) : off + n ≤ xs.length ∧ CRs G w c ((xs.drop off).take n) := by
  unfold cut at h
  split at h
  · rename_i hl
    cases h
    exact ⟨by rw [← hc.length]; exact hl, (hc.drop off).take n⟩
  · cases h

/-- A part of a struct's or an array's cells. -/
theorem part_ok {e : TypeId} {ag : Bool} {n off : Nat} (hag : aggT P e = some ag) (hsz : sizeT P e = some n) (h1 : ag = true ∨ n = 1) {cs c : List V} {xs : List Value} {v : V}
    (hc : CRs G w cs xs) (hcut : cut cs off n = some c) (hv : mkv ag c = some v) : ∃ x, (part e xs.toArray off).run P w = .ok x w ∧ VR G w v x := by
  obtain ⟨hl, hcr⟩ := cut_ok hcut hc
  cases ag with
  | true =>
    simp only [mkv, Option.some.injEq] at hv
    subst hv
    refine ⟨.agg (xs.toArray.extract off (off + n)), by simp [part, run_isAggT hag, run_sizeT hsz], ?_⟩
    have e1 : xs.toArray.extract off (off + n) = ((xs.drop off).take n).toArray := by apply Array.ext'; simp [List.extract]
    rw [e1]
    exact .agg _ _ hcr
  | false =>
    have hn : n = 1 := h1.resolve_left (by simp)
    subst hn
    match c, hv with
    | [u], hv =>
      cases hv
      have hlt : off < xs.length := by omega
      have e1 : (xs.drop off).take 1 = [xs[off]] := by rw [List.drop_eq_getElem_cons hlt]; rfl
      rw [e1] at hcr
      cases hcr with | cons _ _ _ _ _ _ h _ =>
        exact ⟨xs[off], by simp [part, run_isAggT hag, hlt], h⟩

theorem field_ok (hs : SR w G L σ tm) {t : TypeId} {x : Operand} {f : Nat} {ag : Bool} {off n : Nat} {y : Opd} (hf : fitO P (.field t x f) (.field ag off n y) = true) {r : T} (hx : pureO σ (.field ag off n y) = some r) :
    Good P ((execOp (Act.eval ⟨tm, ds⟩) ⟨dst, .field t x f, ty, pos, af, gd⟩).run P w) w G L σ tm r σ := by
  simp only [fitO, Bool.and_eq_true] at hf
  obtain ⟨hfd, h1⟩ := hf
  split at hfd
  · rename_i fd hfe
    obtain ⟨fs, hu, hg⟩ := fieldT_ok hfe
    simp only [Bool.and_eq_true, beq_iff_eq, Bool.or_eq_true] at hfd
    obtain ⟨⟨⟨rfl, hsz⟩, hag⟩, hcase⟩ := hfd
    simp only [pureO] at hx
    split at hx
    · rename_i cs hv
      simp only [Option.bind_eq_some_iff, Option.map_eq_some_iff] at hx
      obtain ⟨c, hc, v, hmv, rfl⟩ := hx
      obtain ⟨xs, hcr, e⟩ := (val_ok (ds := ds) hs.ev h1 hv).inv_agg
      obtain ⟨z, hz, hvr⟩ := part_ok hag hsz hcase hcr hc hmv
      refine Good.same hs (exec_v rfl ?_) (.v _ _ hvr)
      simp [Instr.field, run_underlying hu, hg, e, asAgg, hz]
    · cases hx
  · cases hfd

theorem extract_ok (hs : SR w G L σ tm) {x : Operand} {i j : Nat} {y : Opd} (hf : fitO P (.extract x i) (.extract y j) = true) {r : T} (hx : pureO σ (.extract y j) = some r) :
    Good P ((execOp (Act.eval ⟨tm, ds⟩) ⟨dst, .extract x i, ty, pos, af, gd⟩).run P w) w G L σ tm r σ := by
  simp only [fitO, Bool.and_eq_true, beq_iff_eq] at hf
  obtain ⟨rfl, h1⟩ := hf
  simp only [pureO] at hx
  split at hx
  · rename_i vs hv
    obtain ⟨v, hg, rfl⟩ := Option.map_eq_some_iff.1 hx
    obtain ⟨xs, hxs, e⟩ := (val_ok (ds := ds) hs.ev h1 hv).inv_tuple
    obtain ⟨b, hb, hvr⟩ := hxs.get hg
    refine Good.same hs (exec_v rfl ?_) (.v _ _ hvr)
    simp [Instr.extract, e, hb]
  · cases hx

theorem num_ok (hs : SR w G L σ tm) {args : Array Operand} {ts : Array TypeId} {n : Int} (hf : fitO P (.call ⟨.builtin .len, args, ts⟩) (.num n) = true) {r : T} (hx : pureO σ (.num n) = some r) :
    Good P ((execOp (Act.eval ⟨tm, ds⟩) ⟨dst, .call ⟨.builtin .len, args, ts⟩, ty, pos, af, gd⟩).run P w) w G L σ tm r σ := by
  simp only [fitO] at hf
  simp only [pureO] at hx
  cases hx
  split at hf
  · rename_i x t ea et
    have ea' : args = #[x] := by apply Array.ext'; simpa using ea
    have et' : ts = #[t] := by apply Array.ext'; simpa using et
    subst ea'; subst et'
    refine Good.same (v := .int .i64 n) hs ?_ (.v _ _ (.int _ _))
    split at hf
    · rename_i m e hu
      simp only [beq_iff_eq] at hf; subst hf
      simp [execOp, resolve, invoke, builtin, Builtin.len_, run_underlying hu, goInt]
    · rename_i a hu
      split at hf
      · rename_i m e hu2
        simp only [beq_iff_eq] at hf; subst hf
        simp [execOp, resolve, invoke, builtin, Builtin.len_, run_underlying hu, run_underlying hu2, goInt]
      · cases hf
    · cases hf
  · cases hf

theorem cap_ok (hs : SR w G L σ tm) {args : Array Operand} {ts : Array TypeId} {y : Opd} (hf : fitO P (.call ⟨.builtin .cap, args, ts⟩) (.cap y) = true) {r : T} (hx : pureO σ (.cap y) = some r) :
    Good P ((execOp (Act.eval ⟨tm, ds⟩) ⟨dst, .call ⟨.builtin .cap, args, ts⟩, ty, pos, af, gd⟩).run P w) w G L σ tm r σ := by
  simp only [fitO] at hf
  simp only [pureO] at hx
  split at hf
  · rename_i x t ea et
    have ea' : args = #[x] := by apply Array.ext'; simpa using ea
    have et' : ts = #[t] := by apply Array.ext'; simpa using et
    subst ea'; subst et'
    simp only [Bool.and_eq_true] at hf
    obtain ⟨hu, h1⟩ := hf
    split at hx
    · rename_i hv
      cases hx
      have e := (val_ok (ds := ds) hs.ev h1 hv).inv_nils
      refine Good.same (v := .int .i64 0) hs ?_ (.v _ _ (.int _ _))
      cases hq : P.underlying t with
      | none => rw [hq] at hu; cases hu
      | some d => cases d <;> rw [hq] at hu <;> first | (cases hu; done) | simp [execOp, resolve, invoke, builtin, Builtin.cap_, run_underlying hq, goInt, e]
    · cases hx
  · cases hf

theorem len_ok (hs : SR w G L σ tm) {args : Array Operand} {ts : Array TypeId} {tk : Nat} {y : Opd} (hf : fitO P (.call ⟨.builtin .len, args, ts⟩) (.len tk y) = true) {r : T} (hx : pureO σ (.len tk y) = some r) :
    Good P ((execOp (Act.eval ⟨tm, ds⟩) ⟨dst, .call ⟨.builtin .len, args, ts⟩, ty, pos, af, gd⟩).run P w) w G L σ tm r σ := by
  simp only [fitO] at hf
  simp only [pureO] at hx
  split at hf
  · rename_i x t ea et
    have ea' : args = #[x] := by apply Array.ext'; simpa using ea
    have et' : ts = #[t] := by apply Array.ext'; simpa using et
    subst ea'; subst et'
    simp only [Bool.and_eq_true] at hf
    obtain ⟨hu, h1⟩ := hf
    split at hx <;> first | (cases hx; done) | skip
    all_goals
      rename_i hv
      have hvr := val_ok (ds := ds) hs.ev h1 hv
      cases hx
    · have hq : P.underlying t = some .string := by
        revert hu; cases P.underlying t with
        | none => intro h; cases h
        | some d => cases d <;> intro h <;> first | rfl | (cases h; done)
      obtain ⟨b, e, eb⟩ := hvr.inv_str
      subst eb
      refine Good.same hs ?_ (.v _ _ (.int _ _))
      have hlen : b.data.toList.length = b.size := rfl
      rw [hlen]
      simp [execOp, resolve, invoke, builtin, Builtin.len_, run_underlying hq, goInt, e]
    · have hq : ∃ q, P.underlying t = some (.slice q) := by
        revert hu; cases P.underlying t with
        | none => intro h; cases h
        | some d => cases d <;> intro h <;> first | exact ⟨_, rfl⟩ | (cases h; done)
      obtain ⟨q, hq⟩ := hq
      have e := hvr.inv_nils
      refine Good.same hs ?_ (.v _ _ (.int _ _))
      simp [execOp, resolve, invoke, builtin, Builtin.len_, run_underlying hq, goInt, e]
    · have hq : ∃ q, P.underlying t = some (.slice q) := by
        revert hu; cases P.underlying t with
        | none => intro h; cases h
        | some d => cases d <;> intro h <;> first | exact ⟨_, rfl⟩ | (cases h; done)
      obtain ⟨q, hq⟩ := hq
      refine Good.same hs ?_ (.v _ _ (.int _ _))
      rcases hvr.inv_snap with ⟨rfl, a, c, e⟩ | ⟨B, off, s, cap, xs, _, _, _, _, _, e⟩ <;>
        simp [execOp, resolve, invoke, builtin, Builtin.len_, run_underlying hq, goInt, e]
    · have hq : ∃ q, P.underlying t = some (.slice q) := by
        revert hu; cases P.underlying t with
        | none => intro h; cases h
        | some d => cases d <;> intro h <;> first | exact ⟨_, rfl⟩ | (cases h; done)
      obtain ⟨q, hq⟩ := hq
      obtain ⟨r, a, cap, _, _, _, _, _, e⟩ := hvr.inv_sl
      refine Good.same hs ?_ (.v _ _ (.int _ _))
      simp [execOp, resolve, invoke, builtin, Builtin.len_, run_underlying hq, goInt, e]
    · have hq : ∃ q q', P.underlying t = some (.map q q') := by
        revert hu; cases P.underlying t with
        | none => intro h; cases h
        | some d => cases d <;> intro h <;> first | exact ⟨_, _, rfl⟩ | (cases h; done)
      obtain ⟨q, q', hq⟩ := hq
      have e := hvr.inv_nilm
      refine Good.same hs ?_ (.v _ _ (.int _ _))
      simp [execOp, resolve, invoke, builtin, Builtin.len_, run_underlying hq, goInt, e]
  · cases hf

theorem foldlM_mm (isMax : Bool) (f : Value → Value → Sem Value) (hf : ∀ a b c va vb, VR G w a va → VR G w b vb → mm2 isMax a b = some c → ∃ vc, (f va vb).run P w = .ok vc w ∧ VR G w c vc) :
    ∀ (l : List V) (a r : V) (va : Value) (vl : List Value), VR G w a va → VRs G w l vl → mms isMax a l = some r → ∃ vr, (vl.foldlM f va : Sem Value).run P w = .ok vr w ∧ VR G w r vr
  | [], a, r, va, vl, ha, hl, h => by cases hl; cases h; exact ⟨va, rfl, ha⟩
  | b :: l, a, r, va, vl, ha, hl, h => by
    cases hl with
    | cons _ vb _ vl hb hl =>
      simp only [mms, Option.bind_eq_some_iff] at h
      obtain ⟨c, hc, h⟩ := h
      obtain ⟨vc, h1, h2⟩ := hf a b c va vb ha hb hc
      obtain ⟨vr, h3, h4⟩ := foldlM_mm isMax f hf l c r vc vl h2 hl h
      exact ⟨vr, by simp [List.foldlM_cons, h1, h3], h4⟩

theorem minmax_ok (hs : SR w G L σ tm) {b : Builtin} {args : Array Operand} {ts : Array TypeId} {isMax : Bool} {ys : List Opd} (hb : b = if isMax then .max else .min) (h1 : fitXs args.toList ys = true) {r : T} (hx : pureO σ (.minmax isMax ys) = some r) :
    Good P ((execOp (Act.eval ⟨tm, ds⟩) ⟨dst, .call ⟨.builtin b, args, ts⟩, ty, pos, af, gd⟩).run P w) w G L σ tm r σ := by
  simp only [pureO, Option.bind_eq_some_iff] at hx
  obtain ⟨vs, hvs, hx⟩ := hx
  have hvr := vals_ok (ds := ds) hs.ev h1 hvs
  split at hx
  · cases hx
  · rename_i a l
    obtain ⟨q, hq, rfl⟩ := Option.map_eq_some_iff.1 hx
    generalize hX : args.toList.map (Act.eval ⟨tm, ds⟩) = X at hvr
    cases hvr with
    | cons _ va _ vl ha hl =>
      have eX : (args.map (Act.eval ⟨tm, ds⟩)).toList = va :: vl := by simpa using hX
      cases isMax with
      | true =>
        obtain ⟨vr, h3, h4⟩ := foldlM_mm (P := P) true Builtin.max2 (by
          intro a b c va vb ha hb hc
          unfold mm2 at hc
          split at hc
          · cases hc; have e1 := ha.inv_int; have e2 := hb.inv_int; subst e1; subst e2
            exact ⟨_, by simp [Builtin.max2], .int _ _⟩
          · cases hc
            obtain ⟨x, rfl, rfl⟩ := ha.inv_str
            obtain ⟨y, rfl, rfl⟩ := hb.inv_str
            refine ⟨.string (if !Op.bytesLess x.data.toList y.data.toList then x else y), ?_, ?_⟩
            · simp [Builtin.max2, Op.stringOp, ByteArray.toList_eq, asBool]
            · cases hl : Op.bytesLess x.data.toList y.data.toList <;> simp <;> exact .str _ _ rfl
          · cases hc) l a q va vl ha hl hq
        refine Good.same (v := vr) hs ?_ (.v _ _ h4)
        subst hb
        simp only [if_true, execOp, resolve, invoke, builtin, Builtin.max_, Sem.run_bind, Sem.run_pure, Result.andThen_ok, eX, h3]
      | false =>
        obtain ⟨vr, h3, h4⟩ := foldlM_mm (P := P) false Builtin.min2 (by
          intro a b c va vb ha hb hc
          unfold mm2 at hc
          split at hc
          · cases hc; have e1 := ha.inv_int; have e2 := hb.inv_int; subst e1; subst e2
            exact ⟨_, by simp [Builtin.min2], .int _ _⟩
          · cases hc
            obtain ⟨x, rfl, rfl⟩ := ha.inv_str
            obtain ⟨y, rfl, rfl⟩ := hb.inv_str
            refine ⟨.string (if (Op.bytesLess x.data.toList y.data.toList || x.data.toList == y.data.toList) then x else y), ?_, ?_⟩
            · simp [Builtin.min2, Op.stringOp, ByteArray.toList_eq, asBool]
            · cases hl : (Op.bytesLess x.data.toList y.data.toList || x.data.toList == y.data.toList) <;> simp <;> exact .str _ _ rfl
          · cases hc) l a q va vl ha hl hq
        refine Good.same (v := vr) hs ?_ (.v _ _ h4)
        subst hb
        simp only [Bool.false_eq_true, if_false, execOp, resolve, invoke, builtin, Builtin.min_, Sem.run_bind, Sem.run_pure, Result.andThen_ok, eX, h3]

theorem eq_ptr {t e : TypeId} (hu : P.underlying t = some (.pointer e)) (d : Nat) (a b : Option Addr) (h : a = none ∨ b = none) :
    (Op.equalIn (d + 1) t (.pointer a) (.pointer b)).run P w = .ok (a.isNone && b.isNone) w := by
  rcases h with rfl | rfl
  · cases b <;> simp [Op.equalIn, run_underlying hu]
  · cases a <;> simp [Op.equalIn, run_underlying hu]
theorem eq_slice {t e : TypeId} (hu : P.underlying t = some (.slice e)) (d : Nat) (a b : Option Addr) (n c n' c' : Nat) (h : a = none ∨ b = none) :
    (Op.equalIn (d + 1) t (.slice a n c) (.slice b n' c')).run P w = .ok (a.isNone && b.isNone) w := by
  rcases h with rfl | rfl
  · cases b <;> simp [Op.equalIn, run_underlying hu]
  · cases a <;> simp [Op.equalIn, run_underlying hu]
theorem eq_map {t e f : TypeId} (hu : P.underlying t = some (.map e f)) (d : Nat) (a b : Option Nat) (h : a = none ∨ b = none) :
    (Op.equalIn (d + 1) t (.map a) (.map b)).run P w = .ok (a.isNone && b.isNone) w := by
  rcases h with rfl | rfl
  · cases b <;> simp [Op.equalIn, run_underlying hu]
  · cases a <;> simp [Op.equalIn, run_underlying hu]
theorem eq_func {t : TypeId} {e f : Array TypeId} {g : Bool} (hu : P.underlying t = some (.func e f g)) (d : Nat) (fn : Fn) (x y : Array Value) :
    (Op.equalIn (d + 1) t .nilFunc .nilFunc).run P w = .ok true w ∧ (Op.equalIn (d + 1) t .nilFunc (.func fn x y)).run P w = .ok false w ∧ (Op.equalIn (d + 1) t (.func fn x y) .nilFunc).run P w = .ok false w := by
  refine ⟨?_, ?_, ?_⟩ <;> simp [Op.equalIn, run_underlying hu]

theorem cmpN_ok (hs : SR w G L σ tm) {o : BinOp} {t yt : TypeId} {x y : Operand} {neg : Bool} {tk : Nat} {x' y' : Opd} (hf : fitO P (.binOp o t x y yt) (.cmpN neg tk x' y') = true) {r : T} (hx : pureO σ (.cmpN neg tk x' y') = some r) :
    Good P ((execOp (Act.eval ⟨tm, ds⟩) ⟨dst, .binOp o t x y yt, ty, pos, af, gd⟩).run P w) w G L σ tm r σ := by
  simp only [fitO, Bool.and_eq_true, beq_iff_eq] at hf
  obtain ⟨⟨⟨ho, hk⟩, h1⟩, h2⟩ := hf
  simp only [pureO, Option.bind_eq_some_iff, Option.map_eq_some_iff] at hx
  obtain ⟨a, ha, b, hb, q, hq, rfl⟩ := hx
  have va := val_ok (ds := ds) hs.ev h1 ha
  have vb := val_ok (ds := ds) hs.ev h2 hb
  have fin : ∀ {X Y : Value}, Act.eval ⟨tm, ds⟩ x = X → Act.eval ⟨tm, ds⟩ y = Y → (eqGuard o t x y X Y).run P w = .ok () w → (Op.equalIn (9999 + 1) t X Y).run P w = .ok q w →
      binOp .eql t X Y = (do pure (.bool (← Op.equal t X Y))) → binOp .neq t X Y = (do pure (.bool (!(← Op.equal t X Y)))) →
      Good P ((execOp (Act.eval ⟨tm, ds⟩) ⟨dst, .binOp o t x y yt, ty, pos, af, gd⟩).run P w) w G L σ tm (.v (.bool (neg ^^ q))) σ := by
    intro X Y eX eY hg hq' h3 h4
    have hq2 : (Op.equal t X Y).run P w = .ok q w := hq'
    refine Good.same (v := .bool (neg ^^ q)) hs (exec_v rfl ?_) (.v _ _ (.bool _))
    rw [eX, eY]
    simp only [Sem.run_bind, hg, Result.andThen_ok]
    subst ho
    cases neg
    · simp only [Bool.false_eq_true, if_false]; rw [h3]; simp [hq2]
    · simp only [if_true]; rw [h4]; simp [hq2]
  have gp : ∀ {X Y : Value}, (∀ c, X ≠ .agg c) → X ≠ .nilIface → (eqGuard o t x y X Y).run P w = .ok () w := by
    intro X Y h3 h4
    unfold eqGuard
    cases o <;> first | rfl | skip
    all_goals cases X <;> first | rfl | exact absurd rfl (h3 _) | exact absurd rfl h4
  have hu0 : tk = 0 → ∃ e, P.underlying t = some (.pointer e) := by
    rintro rfl; revert hk; cases P.underlying t with
    | none => intro h; cases h
    | some d => cases d <;> intro h <;> first | exact ⟨_, rfl⟩ | (cases h; done)
  have hu1 : tk = 1 → ∃ e, P.underlying t = some (.slice e) := by
    rintro rfl; revert hk; cases P.underlying t with
    | none => intro h; cases h
    | some d => cases d <;> intro h <;> first | exact ⟨_, rfl⟩ | (cases h; done)
  have hu2 : tk = 2 → ∃ e f, P.underlying t = some (.map e f) := by
    rintro rfl; revert hk; cases P.underlying t with
    | none => intro h; cases h
    | some d => cases d <;> intro h <;> first | exact ⟨_, _, rfl⟩ | (cases h; done)
  have hu3 : tk = 3 → ∃ e f g, P.underlying t = some (.func e f g) := by
    rintro rfl; revert hk; cases P.underlying t with
    | none => intro h; cases h
    | some d => cases d <;> intro h <;> first | exact ⟨_, _, _, rfl⟩ | (cases h; done)
  have ptr1 : ∀ {v : V} {X : Value}, VR G w v X → ((∃ a b, v = .ptr a b) ∨ (∃ a, v = .cref a) ∨ (∃ a b c d, v = .eptr a b c d)) → ∃ a, X = .pointer (some a) := by
    rintro v X h (⟨a, b, rfl⟩ | ⟨a, rfl⟩ | ⟨a, b, c, d, rfl⟩)
    · obtain ⟨B, _, e⟩ := h.inv_ptr; exact ⟨_, e⟩
    · obtain ⟨B, _, _, _, _, _, e⟩ := h.inv_cref; exact ⟨_, e⟩
    · obtain ⟨B, _, e⟩ := h.inv_eptr; exact ⟨_, e⟩
  have sl1 : ∀ {v : V} {X : Value}, VR G w v X → ((∃ a b c d e, v = .sl a b c d e) ∨ (∃ a l, v = .snap (a :: l))) → ∃ a n c, X = .slice (some a) n c := by
    rintro v X h (⟨a, b, c, d, e, rfl⟩ | ⟨a, l, rfl⟩)
    · obtain ⟨_, _, _, _, _, _, _, _, e⟩ := h.inv_sl; exact ⟨_, _, _, e⟩
    · rcases h.inv_snap with ⟨h, _⟩ | ⟨_, _, _, _, _, _, _, _, _, _, e⟩
      · cases h
      · exact ⟨_, _, _, e⟩
  unfold eqN at hq
  split at hq <;> first | (cases hq; done) | skip
  all_goals cases hq
  · obtain ⟨e, hu⟩ := hu0 rfl
    exact fin va.inv_nilp vb.inv_nilp (gp (by simp) (by simp)) (eq_ptr hu 9999 none none (.inl rfl)) rfl rfl
  · obtain ⟨e, hu⟩ := hu0 rfl
    obtain ⟨p, ep⟩ := ptr1 vb (.inl ⟨_, _, rfl⟩)
    exact fin va.inv_nilp ep (gp (by simp) (by simp)) (eq_ptr hu 9999 none (some p) (.inl rfl)) rfl rfl
  · obtain ⟨e, hu⟩ := hu0 rfl
    obtain ⟨p, ep⟩ := ptr1 va (.inl ⟨_, _, rfl⟩)
    exact fin ep vb.inv_nilp (gp (by simp) (by simp)) (eq_ptr hu 9999 (some p) none (.inr rfl)) rfl rfl
  · obtain ⟨e, hu⟩ := hu0 rfl
    obtain ⟨p, ep⟩ := ptr1 vb (.inr (.inl ⟨_, rfl⟩))
    exact fin va.inv_nilp ep (gp (by simp) (by simp)) (eq_ptr hu 9999 none (some p) (.inl rfl)) rfl rfl
  · obtain ⟨e, hu⟩ := hu0 rfl
    obtain ⟨p, ep⟩ := ptr1 va (.inr (.inl ⟨_, rfl⟩))
    exact fin ep vb.inv_nilp (gp (by simp) (by simp)) (eq_ptr hu 9999 (some p) none (.inr rfl)) rfl rfl
  · obtain ⟨e, hu⟩ := hu0 rfl
    obtain ⟨p, ep⟩ := ptr1 vb (.inr (.inr ⟨_, _, _, _, rfl⟩))
    exact fin va.inv_nilp ep (gp (by simp) (by simp)) (eq_ptr hu 9999 none (some p) (.inl rfl)) rfl rfl
  · obtain ⟨e, hu⟩ := hu0 rfl
    obtain ⟨p, ep⟩ := ptr1 va (.inr (.inr ⟨_, _, _, _, rfl⟩))
    exact fin ep vb.inv_nilp (gp (by simp) (by simp)) (eq_ptr hu 9999 (some p) none (.inr rfl)) rfl rfl
  · obtain ⟨e, hu⟩ := hu1 rfl
    exact fin va.inv_nils vb.inv_nils (gp (by simp) (by simp)) (eq_slice hu 9999 none none 0 0 0 0 (.inl rfl)) rfl rfl
  · obtain ⟨e, hu⟩ := hu1 rfl
    obtain ⟨p, n, c, ep⟩ := sl1 va (.inl ⟨_, _, _, _, _, rfl⟩)
    exact fin ep vb.inv_nils (gp (by simp) (by simp)) (eq_slice hu 9999 (some p) none n c 0 0 (.inr rfl)) rfl rfl
  · obtain ⟨e, hu⟩ := hu1 rfl
    obtain ⟨p, n, c, ep⟩ := sl1 vb (.inl ⟨_, _, _, _, _, rfl⟩)
    exact fin va.inv_nils ep (gp (by simp) (by simp)) (eq_slice hu 9999 none (some p) 0 0 n c (.inl rfl)) rfl rfl
  · obtain ⟨e, hu⟩ := hu1 rfl
    obtain ⟨p, n, c, ep⟩ := sl1 va (.inr ⟨_, _, rfl⟩)
    exact fin ep vb.inv_nils (gp (by simp) (by simp)) (eq_slice hu 9999 (some p) none n c 0 0 (.inr rfl)) rfl rfl
  · obtain ⟨e, hu⟩ := hu1 rfl
    obtain ⟨p, n, c, ep⟩ := sl1 vb (.inr ⟨_, _, rfl⟩)
    exact fin va.inv_nils ep (gp (by simp) (by simp)) (eq_slice hu 9999 none (some p) 0 0 n c (.inl rfl)) rfl rfl
  · obtain ⟨e, f, hu⟩ := hu2 rfl
    exact fin va.inv_nilm vb.inv_nilm (gp (by simp) (by simp)) (eq_map hu 9999 none none (.inl rfl)) rfl rfl
  · obtain ⟨e, f, hu⟩ := hu2 rfl
    obtain ⟨B, _, ep⟩ := vb.inv_map
    exact fin va.inv_nilm ep (gp (by simp) (by simp)) (eq_map hu 9999 none (some B) (.inl rfl)) rfl rfl
  · obtain ⟨e, f, hu⟩ := hu2 rfl
    obtain ⟨B, _, ep⟩ := va.inv_map
    exact fin ep vb.inv_nilm (gp (by simp) (by simp)) (eq_map hu 9999 (some B) none (.inr rfl)) rfl rfl
  · obtain ⟨e, f, g, hu⟩ := hu3 rfl
    exact fin va.inv_nilf vb.inv_nilf (gp (by simp) (by simp)) (eq_func hu 9999 (.func 0) #[] #[]).1 rfl rfl
  · obtain ⟨e, f, g, hu⟩ := hu3 rfl
    obtain ⟨xs, _, ep⟩ := vb.inv_func
    exact fin va.inv_nilf ep (gp (by simp) (by simp)) (eq_func hu 9999 _ _ _).2.1 rfl rfl
  · obtain ⟨e, f, g, hu⟩ := hu3 rfl
    obtain ⟨xs, _, ep⟩ := va.inv_func
    exact fin ep vb.inv_nilf (gp (by simp) (by simp)) (eq_func hu 9999 _ _ _).2.2 rfl rfl

end
end Go.Vm
end

section
set_option linter.unusedSimpArgs false
set_option linter.unusedVariables false
namespace Go.Vm
open Go Go.RowKit

section
variable {P : Program} {G : Gh} {w : World} {L : Lm} {σ : St} {tm : Array Value} {ds : List Deferred}
variable {dst : Option Tmp} {ty : TypeId} {pos : String} {af : Array Edge} {gd : Option (Nat × Bool)}

theorem flat_drop {s : Nat} : ∀ {l : List V} (k : Nat), (∀ v ∈ l, v.cells.length = s) → (l.drop k).flatMap V.cells = (l.flatMap V.cells).drop (k * s)
  | l, 0, _ => by simp
  | [], k + 1, _ => by simp
  | v :: l, k + 1, h => by
    have hv := h v (by simp)
    have ih := flat_drop (l := l) k (fun u hu => h u (by simp [hu]))
    rw [List.drop_succ_cons, ih, List.flatMap_cons, Nat.add_mul, Nat.one_mul, Nat.add_comm, ← List.drop_drop]
    congr 1
    rw [← hv, List.drop_left]

theorem flat_take {s : Nat} : ∀ {l : List V} (k : Nat), (∀ v ∈ l, v.cells.length = s) → (l.take k).flatMap V.cells = (l.flatMap V.cells).take (k * s)
  | l, 0, _ => by simp
  | [], k + 1, _ => by simp
  | v :: l, k + 1, h => by
    have hv := h v (by simp)
    have ih := flat_take (l := l) k (fun u hu => h u (by simp [hu]))
    rw [List.take_succ_cons, List.flatMap_cons, List.flatMap_cons, ih, Nat.add_mul, Nat.one_mul, Nat.add_comm, ← hv, List.take_length_add_append]

theorem flat_len {s : Nat} : ∀ {l : List V}, (∀ v ∈ l, v.cells.length = s) → (l.flatMap V.cells).length = l.length * s
  | [], _ => by simp
  | v :: l, h => by
    have hv := h v (by simp)
    have ih := flat_len (l := l) (fun u hu => h u (by simp [hu]))
    rw [List.flatMap_cons, List.length_append, ih, hv, List.length_cons, Nat.add_mul, Nat.one_mul, Nat.add_comm]

theorem cellsIn.drop {B off : Nat} {xs : List Value} (h : cellsIn w B off xs) (n : Nat) : cellsIn w B (off + n) (xs.drop n) := by
  obtain ⟨c, el, fr, hb, hc⟩ := h
  refine ⟨c, el, fr, hb, fun i hi => ?_⟩
  simp only [List.length_drop] at hi
  rw [List.getElem?_drop, Nat.add_assoc]
  exact hc _ (by omega)
theorem cellsIn.take {B off : Nat} {xs : List Value} (h : cellsIn w B off xs) (n : Nat) : cellsIn w B off (xs.take n) := by
  obtain ⟨c, el, fr, hb, hc⟩ := h
  refine ⟨c, el, fr, hb, fun i hi => ?_⟩
  simp only [List.length_take] at hi
  rw [List.getElem?_take, if_pos (by omega)]
  exact hc _ (by omega)

/-- A part of a list that is only read. -/
theorem snap_part {l : List V} {B off s a b : Nat} {xs : List Value} (hst : G.st B) (hc : cellsIn w B off xs) (hl : ∀ v ∈ l, v.cells.length = s) (hcr : CRs G w (l.flatMap V.cells) xs)
    (hab : a ≤ b) (hb : b ≤ l.length) {ad : Addr} {m : Nat} (hm : b - a ≤ m) (had : a = b ∨ ad = ⟨B, off + a * s, none⟩) : VR G w (.snap ((l.drop a).take (b - a))) (.slice (some ad) (b - a) m) := by
  by_cases e : a = b
  · subst e
    simp only [Nat.sub_self, List.take_zero]
    exact .snil _ _
  · have had := had.resolve_left e
    subst had
    have hl2 : ∀ v ∈ (l.drop a).take (b - a), v.cells.length = s := fun v hv => hl v (List.mem_of_mem_drop (List.mem_of_mem_take hv))
    have hlen : ((l.drop a).take (b - a)).length = b - a := by simp; omega
    have := VR.snap (G := G) (w := w) ((l.drop a).take (b - a)) B (off + a * s) s m ((xs.drop (a * s)).take ((b - a) * s)) hst ((hc.drop _).take _) hl2 (by omega) (by
      rw [flat_take _ (fun v hv => hl v (List.mem_of_mem_drop hv)), flat_drop _ hl]
      exact (hcr.drop _).take _)
    rw [hlen] at this
    exact this

theorem bound_ok (hs : ERel G w L σ.e tm) {x : Option Operand} {y : Option Opd} (hf : fitXo x y = true) {n d : Nat} (hb : bound1 σ y d = some n) :
    (x = none ∧ n = d) ∨ ∃ x' k, x = some x' ∧ Act.eval ⟨tm, ds⟩ x' = .int k (n : Int) := by
  cases x with
  | none =>
    cases y with
    | none => cases hb; exact .inl ⟨rfl, rfl⟩
    | some _ => simp [fitXo] at hf
  | some x =>
    cases y with
    | none => simp [fitXo] at hf
    | some y =>
      simp only [fitXo] at hf
      simp only [bound1] at hb
      split at hb
      · rename_i k i hv
        split at hb
        · rename_i hi
          cases hb
          have e := (val_ok (ds := ds) hs hf hv).inv_int
          exact .inr ⟨x, k, rfl, by rw [e, Int.toNat_of_nonneg hi]⟩
        · cases hb
      · cases hb


theorem run_sliceBound {k : IntKind} {n y : Nat} (h : n ≤ y) (c : BoundsCode) : (Instr.sliceBound (.int k (n : Int)) y c).run P w = .ok n w := by
  simp [Instr.sliceBound, asIntOf, h]

/-- The bounds of a slice expression. -/
theorem run_sliceBounds (hs : ERel G w L σ.e tm) {lo hi mx : Option Operand} {lo' hi' mx' : Option Opd} (h1 : fitXo lo lo' = true) (h2 : fitXo hi hi' = true) (h3 : fitXo mx mx' = true)
    {l h m len len' cap : Nat} (hm : bound1 σ mx' len = some m) (hh : bound1 σ hi' len = some h) (hl : bound1 σ lo' 0 = some l) (hlh : l ≤ h) (hlen : h ≤ len) (hhm : h ≤ m) (hml : m ≤ len) (hcap : len ≤ cap)
    (hfull : mx ≠ none → hi ≠ none) (isS : Bool) :
    ∃ m', (Instr.sliceBounds isS len cap (lo.map (Act.eval ⟨tm, ds⟩)) (hi.map (Act.eval ⟨tm, ds⟩)) (mx.map (Act.eval ⟨tm, ds⟩))).run P w = .ok (l, h, m') w ∧ h ≤ m' ∧ m' ≤ cap := by
  rcases bound_ok (ds := ds) hs h3 hm with ⟨rfl, em⟩ | ⟨xm, km, rfl, em⟩
  · refine ⟨cap, ?_, by omega, Nat.le_refl _⟩
    rcases bound_ok (ds := ds) hs h2 hh with ⟨rfl, eh⟩ | ⟨xh, kh, rfl, eh⟩
    · rcases bound_ok (ds := ds) hs h1 hl with ⟨rfl, el⟩ | ⟨xl, kl, rfl, el⟩
      · simp [Instr.sliceBounds, el, eh]
      · subst eh
        simp [Instr.sliceBounds, el, run_sliceBound hlh]
    · rcases bound_ok (ds := ds) hs h1 hl with ⟨rfl, el⟩ | ⟨xl, kl, rfl, el⟩
      · simp [Instr.sliceBounds, el, eh, run_sliceBound (show h ≤ cap by omega)]
      · simp [Instr.sliceBounds, el, eh, run_sliceBound (show h ≤ cap by omega), run_sliceBound hlh]
  · refine ⟨m, ?_, hhm, by omega⟩
    rcases bound_ok (ds := ds) hs h2 hh with ⟨rfl, eh⟩ | ⟨xh, kh, rfl, eh⟩
    · exact absurd rfl (hfull (by simp))
    · rcases bound_ok (ds := ds) hs h1 hl with ⟨rfl, el⟩ | ⟨xl, kl, rfl, el⟩
      · simp [Instr.sliceBounds, el, eh, em, run_sliceBound (show m ≤ cap by omega), run_sliceBound hhm]
      · simp [Instr.sliceBounds, el, eh, em, run_sliceBound (show m ≤ cap by omega), run_sliceBound hhm, run_sliceBound hlh]

theorem extract_list (b : ByteArray) (l h : Nat) : (b.extract l h).data.toList = (b.data.toList.drop l).take (h - l) := by
  simp [ByteArray.data_extract, List.extract]

theorem slice_ok (hs : SR w G L σ tm) {t : TypeId} {x : Operand} {lo hi mx : Option Operand} {str : Bool} {z : Nat} {y : Opd} {lo' hi' mx' : Option Opd}
    (hf : fitO P (.slice t x lo hi mx) (.slice str z y lo' hi' mx') = true) {r : T} (hx : pureO σ (.slice str z y lo' hi' mx') = some r) :
    Good P ((execOp (Act.eval ⟨tm, ds⟩) ⟨dst, .slice t x lo hi mx, ty, pos, af, gd⟩).run P w) w G L σ tm r σ := by
  simp only [fitO, Bool.and_eq_true] at hf
  obtain ⟨⟨⟨⟨⟨ht, h1⟩, h2⟩, h3⟩, h4⟩, h5⟩ := hf
  have hfull : mx ≠ none → hi ≠ none := by
    intro hne hn
    subst hn
    cases mx <;> simp at hne h5
  simp only [pureO, Option.bind_eq_some_iff, Option.map_eq_some_iff] at hx
  obtain ⟨v, hv, q, hq, rfl⟩ := hx
  have hvr := val_ok (ds := ds) hs.ev h1 hv
  unfold sliceV at hq
  split at hq
  · rename_i s
    have hu : P.underlying t = some .string := by
      revert ht; simp only [if_true]; cases P.underlying t with
      | none => intro h; cases h
      | some d => cases d <;> intro h <;> first | rfl | (cases h; done)
    split at hq
    · cases hq
    · simp only [Option.bind_eq_some_iff] at hq
      obtain ⟨h, hh, l, hl, hq⟩ := hq
      split at hq
      · rename_i hb
        cases hq
        obtain ⟨b, e, eb⟩ := hvr.inv_str
        subst eb
        have hmx : mx = none := by cases mx with | none => rfl | some _ => simp [fitXo] at h4
        subst hmx
        have hsz : b.data.toList.length = b.size := rfl
        obtain ⟨m', hr, _, _⟩ := run_sliceBounds (P := P) (ds := ds) hs.ev h2 h3 (mx := none) (mx' := none) rfl (l := l) (h := h) (m := b.data.toList.length) (len := b.data.toList.length) (len' := 0) (cap := b.data.toList.length) rfl hh hl hb.1 hb.2 hb.2 (Nat.le_refl _) (Nat.le_refl _) (by simp) false
        refine Good.same (v := .string (b.extract l h)) hs (exec_v rfl ?_) (.v _ _ (.str _ _ (extract_list b l h)))
        rw [hsz] at hr
        simp only [Option.map_none] at hr
        have hsl : Instr.sliceAt t (.string b) (lo.map (Act.eval ⟨tm, ds⟩)) (hi.map (Act.eval ⟨tm, ds⟩)) none = (do
            match ← underlying t with
            | .array n elem => do
              let a ← Instr.sureAddr (.string b)
              let (l, h, m) ← Instr.sliceBounds false n n (lo.map (Act.eval ⟨tm, ds⟩)) (hi.map (Act.eval ⟨tm, ds⟩)) none
              let size ← sizeOf elem
              pure (.slice (some (if m = l then a else a.add (l * size))) (h - l) (m - l))
            | _ => Instr.slice t (.string b) (lo.map (Act.eval ⟨tm, ds⟩)) (hi.map (Act.eval ⟨tm, ds⟩)) none) := rfl
        rw [e]
        simp only [Option.map_none]
        rw [hsl]
        simp [run_underlying hu, Instr.slice, hr]
      · cases hq
  · simp only [Option.bind_eq_some_iff] at hq
    obtain ⟨m, hm, h, hh, l, hl, hq⟩ := hq
    split at hq
    · rename_i hb
      obtain ⟨rfl, rfl, rfl⟩ := hb
      cases hq
      simp only [Bool.false_eq_true, if_false] at ht
      split at ht
      · rename_i e0 he
        have hu := elemT_ok he
        simp only [beq_iff_eq] at ht
        have e := hvr.inv_nils
        obtain ⟨m', hr, _, hm'⟩ := run_sliceBounds (P := P) (ds := ds) hs.ev h2 h3 h4 (l := 0) (h := 0) (m := 0) (len := 0) (len' := 0) (cap := 0) hm hh hl (Nat.le_refl _) (Nat.le_refl _) (Nat.le_refl _) (Nat.le_refl _) (Nat.le_refl _) hfull true
        have : m' = 0 := by omega
        subst this
        refine Good.same (v := .slice none 0 0) hs (exec_v rfl ?_) (.v _ _ .nils)
        simp [Instr.sliceAt, run_underlying hu, Instr.slice, e, hr, run_sizeT ht]
      · cases ht
    · cases hq
  · rename_i s
    simp only [Option.bind_eq_some_iff] at hq
    obtain ⟨m, hm, h, hh, l, hl, hq⟩ := hq
    split at hq
    · rename_i hb
      obtain ⟨b1, b2, b3, b4, b5⟩ := hb
      cases hq
      simp only [Bool.false_eq_true, if_false] at ht
      split at ht
      · rename_i e0 he
        have hu := elemT_ok he
        simp only [beq_iff_eq] at ht
        rcases hvr.inv_snap with ⟨rfl, a, c, e⟩ | ⟨B, off, sz, cap, xs, hst, hci, hlen, hle, hcr, e⟩
        · have : l = 0 ∧ h = 0 := by simp at b2; omega
          obtain ⟨rfl, rfl⟩ := this
          obtain ⟨m', hr, _, hm'⟩ := run_sliceBounds (P := P) (ds := ds) hs.ev h2 h3 h4 (l := 0) (h := 0) (m := m) (len := 0) (len' := 0) (cap := c) hm hh hl (Nat.le_refl _) (Nat.le_refl _) (Nat.zero_le _) (by simpa using b4) (Nat.zero_le _) hfull true
          refine Good.same (v := .slice (if m' = 0 then a else a.map (·.add (0 * z))) 0 m') hs (exec_v rfl ?_) (.v _ _ ?_)
          · simp [Instr.sliceAt, run_underlying hu, Instr.slice, e, hr, run_sizeT ht]
          · simpa using VR.snil (G := G) (w := w) _ m'
        · obtain ⟨m', hr, hm1, hm2⟩ := run_sliceBounds (P := P) (ds := ds) hs.ev h2 h3 h4 (len' := 0) (cap := cap) hm hh hl b1 b2 b3 b4 hle hfull true
          refine Good.same (v := .slice (if m' = l then some ⟨B, off, none⟩ else some (⟨B, off + l * z, none⟩)) (h - l) (m' - l)) hs (exec_v rfl ?_) (.v _ _ ?_)
          · simp only [Instr.sliceAt, Sem.run_bind, run_underlying hu, Result.andThen_ok, Instr.slice, e, hr, run_sizeT ht, Sem.run_pure, Option.map_some, add_none]
          · have hz : l = h ∨ sz = z := by
              by_cases hlh : l = h
              · exact .inl hlh
              · have hpos : 0 < s.length := by omega
                have h0 := hlen s[0] (List.getElem_mem hpos)
                have h1 := List.all_eq_true.1 b5 s[0] (List.getElem_mem hpos)
                simp only [beq_iff_eq] at h1
                exact .inr (by rw [← h0, h1])
            split
            · exact snap_part hst hci hlen hcr b1 b2 (by omega) (.inl (by omega))
            · exact snap_part hst hci hlen hcr b1 b2 (by omega) (by rcases hz with hz | hz; exact .inl hz; exact .inr (by rw [hz]))
      · cases ht
    · cases hq
  · rename_i id ver sz off len
    simp only [Option.bind_eq_some_iff] at hq
    obtain ⟨m, hm, h, hh, l, hl, hq⟩ := hq
    split at hq
    · rename_i hb
      obtain ⟨b1, b2, b3, b4, rfl⟩ := hb
      cases hq
      simp only [Bool.false_eq_true, if_false] at ht
      split at ht
      · rename_i e0 he
        have hu := elemT_ok he
        simp only [beq_iff_eq] at ht
        obtain ⟨rl, a, cap, hrl, rfl, hle, hcap, ha, e⟩ := hvr.inv_sl
        obtain ⟨m', hr, hm1, hm2⟩ := run_sliceBounds (P := P) (ds := ds) hs.ev h2 h3 h4 (len' := 0) (cap := cap) hm hh hl b1 b2 b3 b4 hle hfull true
        refine Good.same (v := .slice (some (if m' = l then a else a.add (l * rl.s))) (h - l) (m' - l)) hs (exec_v rfl ?_) (.v _ _ ?_)
        · simp only [Instr.sliceAt, Sem.run_bind, run_underlying hu, Result.andThen_ok, Instr.slice, e, hr, run_sizeT ht, Sem.run_pure, Option.map_some]
          split <;> rfl
        · refine .sl id ver (off + l) (h - l) (m' - l) rl _ hrl (by omega) (by omega) ?_
          by_cases hml : m' = l
          · exact .inl (by omega)
          · right
            rw [if_neg hml]
            rcases ha with ha | ha
            · omega
            · rw [ha, add_none, Nat.add_mul, ← Nat.add_assoc]
      · cases ht
    · cases hq
  · cases hq

theorem asInt_ok (hs : ERel G w L σ.e tm) {x : Operand} {y : Opd} (hf : fitX x y = true) {k : IntKind} {i : Int} (hv : σ.val y = some (.int k i)) : Act.eval ⟨tm, ds⟩ x = .int k i :=
  (val_ok (ds := ds) hs hf hv).inv_int

theorem snap_elem {l : List V} {B off s : Nat} {xs : List Value} {i : Nat} {v : V} (hst : G.st B) (hc : cellsIn w B off xs) (hl : ∀ v ∈ l, v.cells.length = s) (hcr : CRs G w (l.flatMap V.cells) xs)
    (hi : l[i]? = some v) : VR G w (.cref v.cells) (.pointer (some ⟨B, off + i * s, none⟩)) := by
  have hlt : i < l.length := by
    rcases Nat.lt_or_ge i l.length with h | h
    · exact h
    · rw [List.getElem?_eq_none h] at hi; cases hi
  have hv : l[i] = v := by rw [List.getElem?_eq_getElem hlt] at hi; exact Option.some.inj hi
  have h1 : ((l.drop i).take 1).flatMap V.cells = v.cells := by
    rw [List.drop_eq_getElem_cons hlt, hv]; simp
  have h2 := flat_take (l := l.drop i) 1 (fun u hu => hl u (List.mem_of_mem_drop hu))
  rw [h1, flat_drop i hl, Nat.one_mul] at h2
  rw [h2]
  exact .cref _ B (off + i * s) _ hst ((hc.drop _).take _) ((hcr.drop _).take _)

theorem iaddr_ok (hs : SR w G L σ tm) {t : TypeId} {x i : Operand} {arr : Option Nat} {z : Nat} {y j : Opd} (hf : fitO P (.indexAddr t x i) (.iaddr arr z y j) = true) {r : T} (hx : pureO σ (.iaddr arr z y j) = some r) :
    Good P ((execOp (Act.eval ⟨tm, ds⟩) ⟨dst, .indexAddr t x i, ty, pos, af, gd⟩).run P w) w G L σ tm r σ := by
  cases arr with
  | none =>
    simp only [fitO, Bool.and_eq_true] at hf
    obtain ⟨⟨ht, h1⟩, h2⟩ := hf
    split at ht
    · rename_i e he
      have hu := elemT_ok he
      simp only [beq_iff_eq] at ht
      simp only [pureO] at hx
      split at hx
      · rename_i l k ix hv hvi
        split at hx
        · rename_i hi0
          simp only [Option.bind_eq_some_iff] at hx
          obtain ⟨v, hg, hx⟩ := hx
          split at hx
          · rename_i hlen
            cases hx
            have ei := asInt_ok (ds := ds) hs.ev h2 hvi
            have hlt : ix.toNat < l.length := by
              rcases Nat.lt_or_ge ix.toNat l.length with h | h
              · exact h
              · rw [List.getElem?_eq_none h] at hg; cases hg
            rcases (val_ok (ds := ds) hs.ev h1 hv).inv_snap with ⟨rfl, _⟩ | ⟨B, off, sz, cap, xs, hst, hci, hl, hle, hcr, ex⟩
            · simp at hlt
            · have hz : sz = z := by rw [← hl v (List.mem_of_getElem? hg), hlen]
              subst hz
              have hb : 0 ≤ ix ∧ ix < (l.length : Int) := ⟨hi0, by omega⟩
              refine Good.same hs (exec_v rfl ?_) (.v _ _ (snap_elem hst hci hl hcr hg))
              simp [Instr.indexAt, run_underlying hu, ei, ex, asIntOf, hb, run_sizeT ht, add_none]
          · cases hx
        · cases hx
      · rename_i id ver sz off len k ix hv hvi
        split at hx
        · rename_i hb
          obtain ⟨hi0, hi1, rfl⟩ := hb
          cases hx
          have ei := asInt_ok (ds := ds) hs.ev h2 hvi
          obtain ⟨rl, a, cap, hrl, rfl, hle, hcap, ha, ex⟩ := (val_ok (ds := ds) hs.ev h1 hv).inv_sl
          have ha' : a = ⟨rl.B, rl.base + off * rl.s, none⟩ := ha.resolve_left (by omega)
          subst ha'
          have hb : 0 ≤ ix ∧ ix < (len : Int) := ⟨hi0, hi1⟩
          refine Good.same (v := .pointer (some ⟨rl.B, rl.base + (off + ix.toNat) * rl.s + 0, none⟩)) hs (exec_v rfl ?_) (.v _ _ (.eptr _ _ _ _ _ hrl))
          simp [Instr.indexAt, run_underlying hu, ei, ex, asIntOf, hb, run_sizeT ht, add_none, Nat.add_mul, Nat.add_assoc]
        · cases hx
      · cases hx
    · cases ht
  | some n =>
    simp only [fitO, Bool.and_eq_true] at hf
    obtain ⟨⟨ht, h1⟩, h2⟩ := hf
    split at ht
    · rename_i n' e he
      have hu := arrT_ok he
      simp only [Bool.and_eq_true, beq_iff_eq] at ht
      obtain ⟨rfl, hsz⟩ := ht
      have ev := ev_ok (ds := ds) hs.ev h1
      have key : ∀ {B o : Nat} {k : IntKind} {ix : Int}, Act.eval ⟨tm, ds⟩ x = .pointer (some ⟨B, o, none⟩) → Act.eval ⟨tm, ds⟩ i = .int k ix → 0 ≤ ix ∧ ix < n →
          (execOp (Act.eval ⟨tm, ds⟩) ⟨dst, .indexAddr t x i, ty, pos, af, gd⟩).run P w = .ok (.value (.pointer (some ⟨B, o + ix.toNat * z, none⟩))) w := by
        intro B o k ix ex ei hb
        refine exec_v rfl ?_
        simp [Instr.indexAt, run_underlying hu, ei, ex, asIntOf, Instr.sureAddr, hb, run_sizeT hsz, add_none]
      simp only [pureO] at hx
      split at hx <;> first | (cases hx; done) | skip
      all_goals
        rename_i hv hvi
        split at hx
        rotate_left
        · cases hx
        rename_i hb
        cases hx
        rw [hv] at ev
        have ei := asInt_ok (ds := ds) hs.ev h2 hvi
      · obtain ⟨B, hB, h⟩ := ev.inv_loc; exact Good.same hs (key h ei hb) (.loc _ _ _ _ hB)
      · obtain ⟨B, hB, h⟩ := ev.inv_v.inv_ptr; exact Good.same hs (key h ei hb) (.v _ _ (.ptr _ _ _ hB))
      · obtain ⟨B, o, xs, hst, hc, hcr, h⟩ := ev.inv_v.inv_cref
        exact Good.same hs (key h ei hb) (.v _ _ (.cref _ _ _ _ hst (hc.drop _) (hcr.drop _)))
      · rename_i id ver j' o k ix
        obtain ⟨r, hr, h⟩ := ev.inv_v.inv_eptr
        refine Good.same hs (key h ei hb) (.v _ _ ?_)
        have := VR.eptr (G := G) (w := w) id ver j' (o + ix.toNat * z) r hr
        rw [← Nat.add_assoc] at this
        exact this
    · cases ht

theorem index_ok (hs : SR w G L σ tm) {t : TypeId} {x i : Operand} {arr : Option (Nat × Nat × Bool)} {y j : Opd} (hf : fitO P (.index t x i) (.index arr y j) = true) {r : T} (hx : pureO σ (.index arr y j) = some r) :
    Good P ((execOp (Act.eval ⟨tm, ds⟩) ⟨dst, .index t x i, ty, pos, af, gd⟩).run P w) w G L σ tm r σ := by
  cases arr with
  | none =>
    simp only [fitO, Bool.and_eq_true] at hf
    obtain ⟨⟨ht, h1⟩, h2⟩ := hf
    have hu : P.underlying t = some .string := by
      revert ht; cases P.underlying t with
      | none => intro h; cases h
      | some d => cases d <;> intro h <;> first | rfl | (cases h; done)
    simp only [pureO] at hx
    split at hx
    · rename_i s k ix hv hvi
      split at hx
      · rename_i hi0
        obtain ⟨b, hb, rfl⟩ := Option.map_eq_some_iff.1 hx
        obtain ⟨ba, ex, eb⟩ := (val_ok (ds := ds) hs.ev h1 hv).inv_str
        have ei := asInt_ok (ds := ds) hs.ev h2 hvi
        refine Good.same (v := .int .u8 (b.toNat : Int)) hs (exec_v rfl ?_) (.v _ _ (.int _ _))
        have hg : ba[ix.toNat]? = some b := by
          rw [← eb] at hb
          have hlt : ix.toNat < ba.data.toList.length := by
            rcases Nat.lt_or_ge ix.toNat ba.data.toList.length with h | h
            · exact h
            · rw [List.getElem?_eq_none h] at hb; cases hb
          have hlt' : ix.toNat < ba.size := hlt
          rw [List.getElem?_eq_getElem hlt] at hb
          rw [getElem?_pos ba ix.toNat hlt']
          rw [← Option.some.inj hb]
          rfl
        simp [Instr.index, asIntOf, run_underlying hu, ei, ex, hi0, hg]
      · cases hx
    · cases hx
  | some q =>
    obtain ⟨n, z, ag⟩ := q
    simp only [fitO, Bool.and_eq_true] at hf
    obtain ⟨⟨ht, h1⟩, h2⟩ := hf
    split at ht
    · rename_i n' e he
      have hu := arrT_ok he
      simp only [Bool.and_eq_true, beq_iff_eq, Bool.or_eq_true] at ht
      obtain ⟨⟨⟨rfl, hsz⟩, hag⟩, hcase⟩ := ht
      simp only [pureO] at hx
      split at hx
      · rename_i cs k ix hv hvi
        split at hx
        · rename_i hb
          simp only [Option.bind_eq_some_iff, Option.map_eq_some_iff] at hx
          obtain ⟨c, hc, v, hmv, rfl⟩ := hx
          obtain ⟨xs, hcr, ex⟩ := (val_ok (ds := ds) hs.ev h1 hv).inv_agg
          have ei := asInt_ok (ds := ds) hs.ev h2 hvi
          obtain ⟨zv, hz, hvr⟩ := part_ok (P := P) hag hsz hcase hcr hc hmv
          refine Good.same hs (exec_v rfl ?_) (.v _ _ hvr)
          simp [Instr.index, asIntOf, run_underlying hu, ei, ex, hb, run_sizeT hsz, hz]
        · cases hx
      · cases hx
    · cases ht

end
end Go.Vm
end

section
set_option linter.unusedSimpArgs false
set_option linter.unusedVariables false
namespace Go.Vm
open Go Go.RowKit

section
variable {P : Program} {G : Gh} {w : World} {L : Lm} {σ : St} {tm : Array Value} {ds : List Deferred}
variable {dst : Option Tmp} {ty : TypeId} {pos : String} {af : Array Edge} {gd : Option (Nat × Bool)}

theorem cell_of {B off : Nat} {xs : List Value} (h : cellsIn w B off xs) {j : Nat} {v : Value} (hj : xs[j]? = some v) : w.cell? ⟨B, off + j, none⟩ = some v := by
  obtain ⟨c, el, fr, hb, hc⟩ := h
  have hlt : j < xs.length := by
    rcases Nat.lt_or_ge j xs.length with h | h
    · exact h
    · rw [List.getElem?_eq_none h] at hj; cases hj
  have := hc j hlt
  simp only [World.cell?, hb]
  simp [this, hj]

theorem OC.cellsIn {B : Nat} {cs : List V} (h : OC G w B cs) : ∃ xs, Go.Vm.cellsIn w B 0 xs ∧ CRs G w cs xs := by
  obtain ⟨c, el, fr, hb, hcr, _⟩ := h
  exact ⟨c.toList, ⟨c, el, fr, hb, fun i hi => by simp⟩, hcr⟩

theorem OR.cellsIn {r : RowLoc} {l : List V} (h : OR G w r l) : ∃ xs, Go.Vm.cellsIn w r.B r.base xs ∧ CRs G w (l.flatMap V.cells) xs ∧ ∀ v ∈ l, v.cells.length = r.s := by
  obtain ⟨c, el, fr, hb, h1, h2, h3, h4, hcr, _⟩ := h
  refine ⟨_, ⟨c, el, fr, hb, fun i hi => ?_⟩, hcr, h3⟩
  simp only [List.length_take, List.length_drop] at hi
  rw [List.getElem?_take, if_pos (by omega), List.getElem?_drop]
  simp

theorem cut_cells {cs c : List V} {off n B o : Nat} {xs : List Value} (h : cut cs off n = some c) (hci : cellsIn w B o xs) (hcr : CRs G w cs xs) :
    ∃ ys, cellsIn w B (o + off) ys ∧ CRs G w c ys ∧ ys.length = n := by
  obtain ⟨hl, hc⟩ := cut_ok h hcr
  exact ⟨_, (hci.drop off).take n, hc, by simp; omega⟩

/-- The cells behind an address. -/
theorem cellsAt_ok (hs : SR w G L σ tm) {x : T} {v : Value} (hv : TR G w L x v) {n : Nat} {cs : List V} (h : σ.cellsAt n x = some cs) :
    ∃ B off xs, v = .pointer (some ⟨B, off, none⟩) ∧ cellsIn w B off xs ∧ CRs G w cs xs ∧ xs.length = n := by
  unfold St.cellsAt at h
  split at h
  · rename_i d g off
    split at h
    · rename_i g' cs' hm
      split at h
      · rename_i hg
        subst hg
        obtain ⟨B, hB, rfl⟩ := hv.inv_loc
        obtain ⟨B', hB', hoc, _⟩ := hs.lc.obj _ _ _ hm
        rw [hB] at hB'; cases hB'
        obtain ⟨xs, hci, hcr⟩ := hoc.cellsIn
        obtain ⟨ys, h1, h2, h3⟩ := cut_cells h hci hcr
        exact ⟨B, off, ys, rfl, by simpa using h1, h2, h3⟩
      · cases h
    · cases h
  · rename_i id off
    split at h
    · rename_i cs' hm
      obtain ⟨B, hB, rfl⟩ := hv.inv_v.inv_ptr
      obtain ⟨B', hB', hoc⟩ := hs.hp.obj _ _ hm
      rw [hB] at hB'; cases hB'
      obtain ⟨xs, hci, hcr⟩ := hoc.cellsIn
      obtain ⟨ys, h1, h2, h3⟩ := cut_cells h hci hcr
      exact ⟨B, off, ys, rfl, by simpa using h1, h2, h3⟩
    · cases h
  · rename_i cs'
    obtain ⟨B, off, xs, hst, hci, hcr, rfl⟩ := hv.inv_v.inv_cref
    obtain ⟨ys, h1, h2, h3⟩ := cut_cells h hci hcr
    exact ⟨B, off, ys, rfl, by simpa using h1, h2, h3⟩
  · rename_i id ver i off
    split at h
    · rename_i ver' l hm
      split at h
      · rename_i hver
        subst hver
        simp only [Option.bind_eq_some_iff] at h
        obtain ⟨e, he, h⟩ := h
        obtain ⟨r, hr, rfl⟩ := hv.inv_v.inv_eptr
        obtain ⟨r', hr', _, hor⟩ := hs.hp.obj _ _ hm
        rw [hr] at hr'; cases hr'
        obtain ⟨xs, hci, hcr, hl⟩ := hor.cellsIn
        have hlt : i < l.length := by
          rcases Nat.lt_or_ge i l.length with h | h
          · exact h
          · rw [List.getElem?_eq_none h] at he; cases he
        have hv : l[i] = e := by rw [List.getElem?_eq_getElem hlt] at he; exact Option.some.inj he
        have h1 : ((l.drop i).take 1).flatMap V.cells = e.cells := by
          rw [List.drop_eq_getElem_cons hlt, hv]; simp
        have h2 := flat_take (l := l.drop i) 1 (fun u hu => hl u (List.mem_of_mem_drop hu))
        rw [h1, flat_drop i hl, Nat.one_mul] at h2
        obtain ⟨ys, h3, h4, h5⟩ := cut_cells h ((hci.drop (i * r.s)).take r.s) (by rw [h2]; exact (hcr.drop _).take _)
        exact ⟨r.B, _, ys, rfl, h3, h4, h5⟩
      · cases h
    · cases h
  · cases h

theorem mkv_ok {ag : Bool} {cs : List V} {v : V} {xs : List Value} {n : Nat} {t : TypeId} (hm : mkv ag cs = some v) (hag : aggT P t = some ag) (hsz : sizeT P t = some n) {B off : Nat} (hci : cellsIn w B off xs) (hcr : CRs G w cs xs) (hlen : xs.length = n) :
    ∃ x, (loadVar t ⟨B, off, none⟩).run P w = .ok x w ∧ VR G w v x := by
  have hl : (loadCells ⟨B, off, none⟩ xs.length).run P w = .ok xs.toArray w := run_loadCells_list w _ xs (fun j v hj => by rw [add_none]; exact cell_of hci hj)
  cases ag with
  | true =>
    cases hm
    refine ⟨.agg xs.toArray, ?_, .agg _ _ hcr⟩
    rw [hlen] at hl
    simp [loadVar, run_isAggT hag, run_sizeT hsz, hl]
  | false =>
    match cs, hm with
    | [u], hm =>
      cases hm
      cases hcr with
      | cons _ x _ xs' _ _ h hs =>
        refine ⟨x, ?_, h⟩
        have := cell_of hci (j := 0) (v := x) rfl
        simp only [Nat.add_zero] at this
        simp [loadVar, run_isAggT hag, this]

theorem load_ok (hs : SR w G L σ tm) {t : TypeId} {a : Operand} {st ag : Bool} {n : Nat} {b : Opd} (hf : fitO P (.load t a) (.load st ag n b) = true) {r : T} (hx : readO σ (.load st ag n b) = some r) :
    Good P ((execOp (Act.eval ⟨tm, ds⟩) ⟨dst, .load t a, ty, pos, af, gd⟩).run P w) w G L σ tm r σ := by
  simp only [fitO, Bool.and_eq_true, beq_iff_eq, Bool.or_eq_true] at hf
  obtain ⟨⟨⟨hag, hsz⟩, hc⟩, h1⟩ := hf
  simp only [readO] at hx
  split at hx
  · cases hx
  · simp only [Option.bind_eq_some_iff, Option.map_eq_some_iff] at hx
    obtain ⟨cs, hcs, v, hv, rfl⟩ := hx
    obtain ⟨B, off, xs, ea, hci, hcr, hlen⟩ := cellsAt_ok hs (ev_ok (ds := ds) hs.ev h1) hcs
    obtain ⟨x, hr, hvr⟩ := mkv_ok (P := P) hv hag hsz hci hcr hlen
    refine Good.same hs (exec_v rfl ?_) (.v _ _ hvr)
    simp [Instr.loadAt, ea, Instr.sureAddr, hr]

/-! ### maps -/

theorem eqKey_agg {ks : List K} {x y : V} {X Y : Value} {b : Bool} (hx : VR G w x X) (hy : VR G w y Y) (h : eqKey (.agg ks) x y = some b) :
    ∃ xs ys, X = .agg xs.toArray ∧ Y = .agg ys.toArray ∧ KVs ks xs ∧ KVs ks ys ∧ b = eqL xs ys := by
  unfold eqKey at h
  split at h
  · rename_i e; cases e
    obtain ⟨xs, hxs, rfl⟩ := hx.inv_agg
    obtain ⟨ys, hys, rfl⟩ := hy.inv_agg
    obtain ⟨h1, h2, h3⟩ := eqKs_ok h hxs hys
    exact ⟨xs, ys, rfl, rfl, h1, h2, h3⟩
  · rename_i e; cases e
  · rename_i e; cases e
  · cases h

theorem eqL_symm {ks : List K} : ∀ {xs ys : List Value}, ks.all K.plain = true → KVs ks xs → KVs ks ys → eqL xs ys = eqL ys xs := by
  induction ks with
  | nil => intro xs ys _ hx hy; cases hx; cases hy; rfl
  | cons k ks ih =>
    intro xs ys hp hx hy
    simp only [List.all_cons, Bool.and_eq_true] at hp
    cases hx with | cons _ x _ xs hx1 hxs => cases hy with | cons _ y _ ys hy1 hys =>
      simp only [eqL, ih hp.2 hxs hys]
      congr 1
      cases k with
      | int q => obtain ⟨a, rfl⟩ := hx1; obtain ⟨b, rfl⟩ := hy1; simp [eq1, BEq.comm]
      | str => obtain ⟨a, rfl⟩ := hx1; obtain ⟨b, rfl⟩ := hy1; simp [eq1, BEq.comm]
      | bool => obtain ⟨a, rfl⟩ := hx1; obtain ⟨b, rfl⟩ := hy1; simp [eq1, BEq.comm]
      | float q => simp [K.plain] at hp

theorem sameBits_eqL {ks : List K} : ∀ {xs ys : List Value}, ks.all K.plain = true → KVs ks xs → KVs ks ys → eqL xs ys = true → ∀ n, (xs.zip ys).all (fun p => Instr.sameBits n p.1 p.2) = true ∧ xs.length = ys.length := by
  induction ks with
  | nil => intro xs ys _ hx hy _ n; cases hx; cases hy; simp
  | cons k ks ih =>
    intro xs ys hp hx hy h n
    simp only [List.all_cons, Bool.and_eq_true] at hp
    cases hx with | cons _ x _ xs hx1 hxs => cases hy with | cons _ y _ ys hy1 hys =>
      simp only [eqL, Bool.and_eq_true] at h
      obtain ⟨i1, i2⟩ := ih hp.2 hxs hys h.2 n
      refine ⟨?_, by simp [i2]⟩
      simp only [List.zip_cons_cons, List.all_cons, Bool.and_eq_true]
      refine ⟨?_, i1⟩
      have h1 := h.1
      cases k with
      | int q => obtain ⟨a, rfl⟩ := hx1; obtain ⟨b, rfl⟩ := hy1; simp only [eq1, beq_iff_eq] at h1; subst h1; cases n <;> simp [Instr.sameBits]
      | str => obtain ⟨a, rfl⟩ := hx1; obtain ⟨b, rfl⟩ := hy1; simp only [eq1] at h1; rw [← bytes_eq] at h1; cases n <;> simp [Instr.sameBits, h1]
      | bool => obtain ⟨a, rfl⟩ := hx1; obtain ⟨b, rfl⟩ := hy1; simp only [eq1, beq_iff_eq] at h1; subst h1; cases n <;> simp [Instr.sameBits]
      | float q => simp [K.plain] at hp

/-- One key against another one, in the model. -/
theorem key_same {ks : KT} (hp : ks.plain = true) {x y : V} {X Y : Value} (hx : VR G w x X) (hy : VR G w y Y) (h : eqKey ks x y = some true) : Instr.sameBits 10000 Y X = true := by
  cases ks with
  | agg ks =>
    obtain ⟨xs, ys, rfl, rfl, k1, k2, h3⟩ := eqKey_agg hx hy h
    have heq : eqL ys xs = true := by rw [eqL_symm hp k2 k1]; exact h3.symm
    obtain ⟨h1, h2⟩ := sameBits_eqL hp k2 k1 heq 9999
    show (match (10000 : Nat), Value.agg ys.toArray, Value.agg xs.toArray with | _, _, _ => Instr.sameBits 10000 (.agg ys.toArray) (.agg xs.toArray)) = true
    simp only [Instr.sameBits, Bool.and_eq_true]
    exact ⟨by simpa using h2, by simpa using h1⟩
  | int =>
    unfold eqKey at h
    split at h <;> first | (cases h; done) | (have e := ‹KT.int = _›; cases e; done) | skip
    split at h
    · rename_i hk
      have e1 := hx.inv_int; have e2 := hy.inv_int
      subst e1; subst e2; subst hk
      simp only [Option.some.injEq, beq_iff_eq] at h
      subst h
      simp [Instr.sameBits]
    · cases h
  | str =>
    unfold eqKey at h
    split at h <;> first | (cases h; done) | (have e := ‹KT.str = _›; cases e; done) | skip
    obtain ⟨a, rfl, ea⟩ := hx.inv_str
    obtain ⟨b, rfl, eb⟩ := hy.inv_str
    subst ea; subst eb
    simp only [Option.some.injEq] at h
    have : (b == a) = true := by rw [bytes_eq]; rw [beq_iff_eq] at h ⊢; exact h.symm
    simp [Instr.sameBits, this]

/-- '==' of two keys, in the model. -/
theorem key_eq {kt : TypeId} {ks : KT} (hk : keyFit P kt ks = true) {x y : V} {X Y : Value} {b : Bool} (hx : VR G w x X) (hy : VR G w y Y) (h : eqKey ks x y = some b) :
    (∀ q, ks = .agg q → ∀ w, (Op.equal kt X Y).run P w = .ok b w) ∧ ((∀ q, ks ≠ .agg q) → ∃ d, P.underlying kt = some d ∧ Instr.sameNow d X Y = some b) := by
  cases ks with
  | agg q =>
    refine ⟨?_, fun hne => absurd rfl (hne q)⟩
    intro q' e w'
    obtain ⟨xs, ys, rfl, rfl, k1, k2, rfl⟩ := eqKey_agg hx hy h
    simp only [keyFit, Bool.and_eq_true] at hk
    exact run_equal_agg (P := P) w' hk.1 k1 k2
  | int =>
    refine ⟨fun q e => (by cases e), fun _ => ?_⟩
    unfold eqKey at h
    split at h <;> first | (cases h; done) | (have e := ‹KT.int = _›; cases e; done) | skip
    split at h
    · rename_i hkk
      have e1 := hx.inv_int; have e2 := hy.inv_int
      subst e1; subst e2; subst hkk
      simp only [keyFit] at hk
      split at hk
      · rename_i q hu; exact ⟨_, hu, by simpa [Instr.sameNow] using h⟩
      · cases hk
    · cases h
  | str =>
    refine ⟨fun q e => (by cases e), fun _ => ?_⟩
    unfold eqKey at h
    split at h <;> first | (cases h; done) | (have e := ‹KT.str = _›; cases e; done) | skip
    obtain ⟨a, rfl, ea⟩ := hx.inv_str
    obtain ⟨b, rfl, eb⟩ := hy.inv_str
    subst ea; subst eb
    simp only [keyFit] at hk
    split at hk
    · rename_i hu; exact ⟨_, hu, by simpa [Instr.sameNow, bytes_eq] using h⟩
    · cases hk

/-- The look for a key: what the VM finds, the model finds, at a place whose entry can be set alike. -/
def Found1 (G : Gh) (w : World) (ks : KT) (kv : V) (X : Value) (n : Nat) (es : List (V × V × Nat)) (es' : List MapEntry) : Option (V × Nat) → Option (Nat × Value) → Prop
  | none, r => r = none
  | some (v, b), r => ∃ i e, r = some (n + i, e.val) ∧ es'[i]? = some e ∧ VR G w v e.val ∧ e.born = b ∧ Instr.sameBits 10000 e.key X = true ∧
      ∀ nv nx, VR G w nv nx → ∃ es2, setE ks kv nv es = some es2 ∧ ER G w es2 (es'.set i ⟨X, nx, e.born⟩)

theorem find_step {ks : KT} (hp : ks.plain = true) {kv : V} {X : Value} {n : Nat} {k v : V} {b : Nat} {e : MapEntry} {l : List (V × V × Nat)} {es : List MapEntry} (hkX : VR G w kv X)
    (hk : VR G w k e.key) (hv : VR G w v e.val) (hb : e.born = b) (hl : ER G w l es) {t : Bool} (ht : eqKey ks kv k = some t) {r : Option (V × Nat)} {r' : Option (Nat × Value)}
    (h : if t = true then r = some (v, b) ∧ r' = some (n, e.val) else Found1 G w ks kv X (n + 1) l es r r') : Found1 G w ks kv X n ((k, v, b) :: l) (e :: es) r r' := by
  cases t with
  | true =>
    simp only [if_true] at h
    obtain ⟨rfl, rfl⟩ := h
    refine ⟨0, e, rfl, rfl, hv, hb, key_same hp hkX hk ht, fun nv nx hn => ⟨(kv, nv, b) :: l, by simp [setE, ht], ?_⟩⟩
    exact .cons _ _ _ _ _ _ hkX hn hb hl
  | false =>
    simp only [Bool.false_eq_true, if_false] at h
    cases r with
    | none => exact h
    | some q =>
      obtain ⟨v', b'⟩ := q
      obtain ⟨i, e', h1, h2, h3, h4, h5, h6⟩ := h
      refine ⟨i + 1, e', by rw [h1]; congr 2; omega, by simpa using h2, h3, h4, h5, fun nv nx hn => ?_⟩
      obtain ⟨es2, h7, h8⟩ := h6 nv nx hn
      exact ⟨(k, v, b) :: es2, by simp [setE, ht, h7], .cons _ _ _ _ _ _ hk hv hb h8⟩

theorem find_ok {kt : TypeId} {ks : KT} (hk : keyFit P kt ks = true) {kv : V} {X : Value} (hkX : VR G w kv X) {es : List (V × V × Nat)} {es' : List MapEntry} (her : ER G w es es') {r : Option (V × Nat)} (h : findE ks kv es = some r) :
    ∃ r', (Instr.findKey kt X es').run P w = .ok r' w ∧ Found1 G w ks kv X 0 es es' r r' := by
  have hp : ks.plain = true := by
    cases ks with
    | agg q => simp only [keyFit, Bool.and_eq_true] at hk; exact hk.2
    | int => rfl
    | str => rfl
  by_cases hag : ∃ q, ks = .agg q
  · obtain ⟨q, rfl⟩ := hag
    have key : ∀ (es : List (V × V × Nat)) (es' : List MapEntry) (n : Nat) (r : Option (V × Nat)), ER G w es es' → findE (.agg q) kv es = some r →
        ∃ r', (Instr.findAsking kt X es' n).run P w = .ok r' w ∧ Found1 G w (.agg q) kv X n es es' r r' := by
      intro es es' n r her
      induction her generalizing n r with
      | nil => intro h; cases h; exact ⟨none, by simp [Instr.findAsking], rfl⟩
      | cons k v b e l es hk' hv hb hl ih =>
        intro h
        simp only [findE, Option.bind_eq_some_iff] at h
        obtain ⟨t, ht, h⟩ := h
        have he := (key_eq (P := P) hk hkX hk' ht).1 q rfl w
        cases t with
        | true =>
          cases h
          exact ⟨some (n, e.val), by simp [Instr.findAsking, he], find_step hp hkX hk' hv hb hl ht (by simp)⟩
        | false =>
          obtain ⟨r', h1, h2⟩ := ih (n + 1) r h
          exact ⟨r', by simp [Instr.findAsking, he, h1], find_step hp hkX hk' hv hb hl ht (by simpa using h2)⟩
    obtain ⟨r', h1, h2⟩ := key es es' 0 r her h
    refine ⟨r', ?_, h2⟩
    rw [run_findKey_eq w ?_ X es']
    · exact h1
    · simp only [keyFit, cmpFit, Bool.and_eq_true, beq_iff_eq, aggT] at hk
      obtain ⟨d, hd, hda⟩ := Option.map_eq_some_iff.1 hk.1.1
      rw [hd]
      cases d <;> first | rfl | (cases hda; done)
  · have hne : ∀ q, ks ≠ .agg q := fun q e => hag ⟨q, e⟩
    have hund : ∃ d, P.underlying kt = some d := by
      cases ks with
      | agg q => exact absurd rfl (hne q)
      | int => simp only [keyFit] at hk; split at hk; exact ⟨_, ‹_›⟩; cases hk
      | str => simp only [keyFit] at hk; split at hk; exact ⟨_, ‹_›⟩; cases hk
    obtain ⟨d, hd⟩ := hund
    have key : ∀ (es : List (V × V × Nat)) (es' : List MapEntry) (n : Nat) (r : Option (V × Nat)), ER G w es es' → findE ks kv es = some r →
        ∃ r', Instr.findNow d X es' n = some r' ∧ Found1 G w ks kv X n es es' r r' := by
      intro es es' n r her
      induction her generalizing n r with
      | nil => intro h; cases h; exact ⟨none, rfl, rfl⟩
      | cons k v b e l es hk' hv hb hl ih =>
        intro h
        simp only [findE, Option.bind_eq_some_iff] at h
        obtain ⟨t, ht, h⟩ := h
        obtain ⟨d', hd', he⟩ := (key_eq (P := P) hk hkX hk' ht).2 hne
        rw [hd] at hd'; cases hd'
        cases t with
        | true =>
          cases h
          exact ⟨some (n, e.val), by simp [Instr.findNow, he], find_step hp hkX hk' hv hb hl ht (by simp)⟩
        | false =>
          obtain ⟨r', h1, h2⟩ := ih (n + 1) r h
          exact ⟨r', by simp [Instr.findNow, he, h1], find_step hp hkX hk' hv hb hl ht (by simpa using h2)⟩
    obtain ⟨r', h1, h2⟩ := key es es' 0 r her h
    exact ⟨r', by simp [Instr.findKey, run_underlying hd, h1], h2⟩

theorem isKs_KVs : ∀ {ks : List K} {cs : List V} {xs : List Value}, CRs G w cs xs → ks.length = cs.length → ((ks.zip cs).all fun p => V.isK p.1 p.2) = true → KVs ks xs
  | [], [], _, h, _, _ => by cases h; exact .nil
  | k :: ks, c :: cs, _, h, hl, hk => by
    cases h with
    | cons _ x _ xs _ _ h hs =>
      simp only [List.zip_cons_cons, List.all_cons, Bool.and_eq_true] at hk
      refine .cons _ _ _ _ ?_ (isKs_KVs hs (by simpa using hl) hk.2)
      have h1 := hk.1
      unfold V.isK at h1
      split at h1
      · simp only [beq_iff_eq] at h1; subst h1; exact ⟨_, h.inv_int⟩
      · obtain ⟨b, e, _⟩ := h.inv_str; exact ⟨b, e⟩
      · exact ⟨_, h.inv_bool⟩
      · cases h1
  | [], _ :: _, _, _, hl, _ => by simp at hl
  | _ :: _, [], _, _, hl, _ => by simp at hl

theorem checkKey_int {kt : TypeId} {k : IntKind} (hu : P.underlying kt = some (.int k)) (em : Bool) (n : Nat) (X : Value) : (Instr.checkKey em (n + 1) kt X).run P w = .ok () w := by
  simp [Instr.checkKey, run_underlying hu]
theorem checkKey_str {kt : TypeId} (hu : P.underlying kt = some .string) (em : Bool) (n : Nat) (X : Value) : (Instr.checkKey em (n + 1) kt X).run P w = .ok () w := by
  simp [Instr.checkKey, run_underlying hu]

theorem checkKey_ok {kt : TypeId} {ks : KT} (hk : keyFit P kt ks = true) {kv : V} {X : Value} (hkX : VR G w kv X) (hi : isKey ks kv = true) (em : Bool) : (Instr.checkKey em 10000 kt X).run P w = .ok () w := by
  unfold isKey at hi
  split at hi
  · rename_i q cs
    obtain ⟨xs, hxs, rfl⟩ := hkX.inv_agg
    simp only [Bool.and_eq_true, beq_iff_eq] at hi
    simp only [keyFit, cmpFit, Bool.and_eq_true, beq_iff_eq] at hk
    refine run_checkKey_kinds em 20 kt q hk.1.2 10000 (by omega) w _ xs ?_ (isKs_KVs hxs hi.1 hi.2)
    unfold Shp; rw [if_pos hk.1.1]
  · simp only [keyFit] at hk
    split at hk
    · rename_i hu; exact checkKey_int hu em 9999 X
    · cases hk
  · simp only [keyFit] at hk
    split at hk
    · rename_i hu; exact checkKey_str hu em 9999 X
    · cases hk
  · cases hi

theorem zeroAny {e : TypeId} {zero : V} (h : (((P.info? e).bind (·.zero)).any fun v => fitV v zero) = true) : ∃ z, (zeroValue e).run P w = .ok z w ∧ VR G w zero z := by
  cases hz : (P.info? e).bind (·.zero) with
  | none => rw [hz] at h; cases h
  | some z => rw [hz] at h; exact ⟨z, run_zeroT hz, fitV_VR (by simpa using h)⟩

theorem lookup_ok (hs : SR w G L σ tm) {t : TypeId} {x i : Operand} {ok : Bool} {ks : KT} {zero : V} {ok' : Bool} {y j : Opd} (hf : fitO P (.lookup t x i ok) (.lookup ks zero ok' y j) = true) {r : T} (hx : readO σ (.lookup ks zero ok' y j) = some r) :
    Good P ((execOp (Act.eval ⟨tm, ds⟩) ⟨dst, .lookup t x i ok, ty, pos, af, gd⟩).run P w) w G L σ tm r σ := by
  simp only [fitO, Bool.and_eq_true, beq_iff_eq] at hf
  obtain ⟨⟨⟨ht, rfl⟩, h1⟩, h2⟩ := hf
  split at ht
  · rename_i kt e hu
    simp only [Bool.and_eq_true] at ht
    obtain ⟨hkf, hz⟩ := ht
    obtain ⟨z, hzr, hzv⟩ := zeroAny (P := P) (G := G) (w := w) hz
    have tup : ∀ {a : V} {A : Value} (b : Bool), VR G w a A → VR G w (bif ok then .tuple [a, .bool b] else a) (if ok = true then .tuple #[A, .bool b] else A) := by
      intro a A b ha
      cases ok with
      | true =>
        have := VR.tuple (G := G) (w := w) [a, .bool b] [A, .bool b] (.cons _ _ _ _ ha (.cons _ _ _ _ (.bool b) .nil))
        simpa using this
      | false => simpa using ha
    simp only [readO] at hx
    split at hx
    · rename_i kv hm hkv
      cases hx
      obtain ⟨hkv, hik⟩ := Option.filter_eq_some_iff.1 hkv
      have em := (val_ok (ds := ds) hs.ev h1 hm).inv_nilm
      have hkX := val_ok (ds := ds) hs.ev h2 hkv
      obtain ⟨r', h3, h4⟩ := find_ok (P := P) hkf hkX (es := []) (es' := []) .nil (r := none) rfl
      cases h4
      refine Good.same hs (exec_v rfl ?_) (.v _ _ (tup false hzv))
      simp [Instr.lookup, run_underlying hu, em, checkKey_ok hkf hkX hik, h3, hzr]
    · rename_i id kv hm hkv
      obtain ⟨hkv, hik⟩ := Option.filter_eq_some_iff.1 hkv
      obtain ⟨B, hB, em⟩ := (val_ok (ds := ds) hs.ev h1 hm).inv_map
      have hkX := val_ok (ds := ds) hs.ev h2 hkv
      split at hx
      · rename_i es clock hid
        obtain ⟨B', es', hB', hheap, her⟩ := hs.hp.obj _ _ hid
        rw [hB] at hB'; cases hB'
        have hget : (getObj B).run P w = .ok (.map es' clock) w := by simp [getObj, Sem.run, hheap]
        split at hx
        · rename_i v b hfe
          cases hx
          obtain ⟨r', h3, i', e', h4, h5, h6, _⟩ := find_ok (P := P) hkf hkX her hfe
          subst h4
          refine Good.same hs (exec_v rfl ?_) (.v _ _ (tup true h6))
          simp [Instr.lookup, run_underlying hu, em, hget, checkKey_ok hkf hkX hik, h3]
        · rename_i hfe
          cases hx
          obtain ⟨r', h3, h4⟩ := find_ok (P := P) hkf hkX her hfe
          cases h4
          refine Good.same hs (exec_v rfl ?_) (.v _ _ (tup false hzv))
          simp [Instr.lookup, run_underlying hu, em, hget, checkKey_ok hkf hkX hik, h3, hzr]
        · cases hx
      · cases hx
    · cases hx
  · cases ht

end
end Go.Vm
end

section
set_option linter.unusedSimpArgs false
set_option linter.unusedVariables false
namespace Go.Vm
open Go Go.RowKit

def pushB (w : World) (o : Obj) : World := { w with heap := w.heap.push o }
def setB (w : World) (B : Nat) (o : Obj) : World := { w with heap := w.heap.setIfInBounds B o }

def Gh.setOb (G : Gh) (id B : Nat) : Gh := { G with ob := fun i => if i = id then some B else G.ob i }
def Gh.setRw (G : Gh) (id ver : Nat) (r : RowLoc) : Gh := { G with rw := fun i v => if i = id ∧ v = ver then some r else G.rw i v }
def Gh.addSt (G : Gh) (B : Nat) : Gh := { G with st := fun b => G.st b ∨ b = B }
def Lm.set (L : Lm) (d g B : Nat) : Lm := fun d' g' => if d' = d ∧ g' = g then some B else L d' g'

section
variable {P : Program} {G : Gh} {w : World} {L : Lm} {σ : St} {tm : Array Value} {ds : List Deferred}
variable {dst : Option Tmp} {ty : TypeId} {pos : String} {af : Array Edge} {gd : Option (Nat × Bool)}

theorem push_new (o : Obj) : (pushB w o).heap[w.heap.size]? = some o := by
  show (w.heap.push o)[w.heap.size]? = some o
  rw [Array.getElem?_push, if_pos rfl]
theorem push_old (o : Obj) {B : Nat} (h : B < w.heap.size) : (pushB w o).heap[B]? = w.heap[B]? := by
  simp only [pushB]; rw [Array.getElem?_push, if_neg (by omega)]
theorem push_size (o : Obj) : (pushB w o).heap.size = w.heap.size + 1 := by simp [pushB]
theorem set_new {B : Nat} (o : Obj) (h : B < w.heap.size) : (setB w B o).heap[B]? = some o := by simp [setB, h]
theorem set_old {B B' : Nat} (o : Obj) (h : B' ≠ B) : (setB w B o).heap[B']? = w.heap[B']? := by
  simp only [setB]; rw [Array.getElem?_setIfInBounds_ne (Ne.symm h)]
theorem set_size {B : Nat} (o : Obj) : (setB w B o).heap.size = w.heap.size := by simp [setB]

/-- A block comes that the VM's relation doesn't tell of, or tells of anew: what was known is known yet. -/
theorem SR.le_push (hs : SR w G L σ tm) (o : Obj) {G' : Gh} (hst : ∀ B, G.st B → G'.st B) (hob : ∀ id B, G.ob id = some B → G'.ob id = some B) (hrw : ∀ id v r, G.rw id v = some r → G'.rw id v = some r) :
    Le G w G' (pushB w o) := ⟨hst, fun B hB => push_old o (hs.hp.stl B hB), hob, hrw⟩

theorem LR.push (hs : SR w G L σ tm) (o : Obj) {G' : Gh} {h' : List HO} (hle : Le G w G' (pushB w o)) (hst : ∀ B, G'.st B → G.st B ∨ w.heap.size ≤ B)
    (hown : ∀ id B, ownB G' h' id = some B → (∃ j, ownB G σ.h j = some B) ∨ w.heap.size ≤ B) {σ' : St} (hm : σ'.m = σ.m) (hg : σ'.g = σ.g) (hh : σ'.h = h') : LR (pushB w o) G' L σ' := by
  refine ⟨?_, ?_, ?_⟩
  · intro d g cs hd
    rw [hm] at hd
    obtain ⟨B, h1, h2, h3, h4⟩ := hs.lc.obj d g cs hd
    have hlt : B < w.heap.size := by obtain ⟨c, el, fr, hb, _⟩ := h2; exact lt_of_block hb
    refine ⟨B, h1, h2.mono hle (push_old o hlt), ?_, ?_⟩
    · intro hc; rcases hst B hc with h | h
      · exact h3 h
      · omega
    · intro id hc; rw [hh] at hc
      rcases hown id B hc with ⟨j, hj⟩ | h
      · exact h4 j hj
      · omega
  · intro d d' g g' cs cs' B h1 h2; rw [hm] at h1 h2; exact hs.lc.inj d d' g g' cs cs' B h1 h2
  · intro d g h; rw [hg] at h; exact hs.lc.fresh d g h

/-- A block of which nothing is told. -/
theorem SR.pushNone (hs : SR w G L σ tm) (o : Obj) : SR (pushB w o) G L σ tm ∧ Ext w G L σ (pushB w o) G L σ := by
  have hle := hs.le_push o (G' := G) (fun _ h => h) (fun _ _ h => h) (fun _ _ _ h => h)
  refine ⟨⟨hs.hp.keep hle (by rw [push_size]; omega) (fun B hB => ⟨by rw [push_size]; have := hs.hp.stl B hB; omega, fun id e => hs.hp.ost id B e hB⟩) (fun _ => ⟨rfl, fun _ => rfl⟩) (fun id B hB => push_old o (hs.hp.own_lt hB)),
    LR.push hs o hle (fun _ h => .inl h) (fun id B h => .inl ⟨id, h⟩) rfl rfl rfl, fun t => (hs.ev t).mono hle fun _ _ _ h => h⟩, ?_⟩
  refine ⟨rfl, rfl, rfl, by rw [push_size]; omega, fun B hB _ _ => push_old o hB, fun _ h => h, fun _ _ h => h, fun _ _ _ h => h, fun _ _ _ h => h, fun _ h => .inl h, fun id B h => .inl ⟨id, h⟩, fun d g cs B h1 h2 => .inl ⟨d, g, cs, h1, h2⟩⟩

/-- A block that is only read from now on. -/
theorem SR.pushSt (hs : SR w G L σ tm) (o : Obj) : SR (pushB w o) (G.addSt w.heap.size) L σ tm ∧ Ext w G L σ (pushB w o) (G.addSt w.heap.size) L σ := by
  have hle := hs.le_push o (G' := G.addSt w.heap.size) (fun _ h => .inl h) (fun _ _ h => h) (fun _ _ _ h => h)
  have hown : ∀ id, ownB (G.addSt w.heap.size) σ.h id = ownB G σ.h id := fun id => rfl
  refine ⟨⟨hs.hp.keep hle (by rw [push_size]; omega) (fun B hB => ?_) (fun _ => ⟨rfl, fun _ => rfl⟩) (fun id B hB => push_old o (hs.hp.own_lt hB)),
    LR.push hs o hle (fun B h => h.imp id (fun e => by omega)) (fun id B h => .inl ⟨id, h⟩) rfl rfl rfl, fun t => (hs.ev t).mono hle fun _ _ _ h => h⟩, ?_⟩
  · rw [push_size]
    rcases hB with h | h
    · exact ⟨by have := hs.hp.stl B h; omega, fun id e => hs.hp.ost id B e h⟩
    · subst h; exact ⟨by omega, fun id e => by have := hs.hp.own_lt e; omega⟩
  · exact ⟨rfl, rfl, rfl, by rw [push_size]; omega, fun B hB _ _ => push_old o hB, fun _ h => .inl h, fun _ _ h => h, fun _ _ _ h => h, fun _ _ _ h => h, fun B h => h.imp id (fun e => by omega), fun id B h => .inl ⟨id, h⟩, fun d g cs B h1 h2 => .inl ⟨d, g, cs, h1, h2⟩⟩

/-- A variable of the call's own comes. -/
theorem SR.pushLocal (hs : SR w G L σ tm) {d : Nat} {cs : List V} {c : Array Value} {el : TypeId} (hc : CRs G w cs c.toList) :
    SR (pushB w (.cells c el)) G (L.set d σ.g w.heap.size) { σ with m := upd σ.m d (some (σ.g, cs)), g := σ.g + 1 } tm ∧
    Ext w G L σ (pushB w (.cells c el)) G (L.set d σ.g w.heap.size) { σ with m := upd σ.m d (some (σ.g, cs)), g := σ.g + 1 } := by
  obtain ⟨⟨hp, lc, ev⟩, hext⟩ := hs.pushNone (.cells c el)
  have hle := hext.le hs
  have hL : ∀ d' g' B, L d' g' = some B → L.set d σ.g w.heap.size d' g' = some B := by
    intro d' g' B h
    unfold Lm.set
    rw [if_neg]
    · exact h
    · rintro ⟨rfl, rfl⟩; rw [hs.lc.fresh _ _ (Nat.le_refl _)] at h; cases h
  have old : ∀ {d' g' : Nat} {cs' : List V} {B : Nat}, σ.m d' = some (g', cs') → L d' g' = some B → B < w.heap.size := by
    intro d' g' cs' B h1 h2
    obtain ⟨B', h3, ⟨c, el, fr, hb, _⟩, _⟩ := hs.lc.obj _ _ _ h1
    rw [h2] at h3; cases h3
    exact lt_of_block hb
  have get : ∀ {d' g' : Nat} {cs' : List V}, upd σ.m d (some (σ.g, cs)) d' = some (g', cs') → (d' = d ∧ g' = σ.g ∧ cs' = cs) ∨ (d' ≠ d ∧ σ.m d' = some (g', cs')) := by
    intro d' g' cs' h
    unfold upd at h
    by_cases e : d' = d
    · subst e; simp only [beq_self_eq_true, cond_true, Option.some.injEq, Prod.mk.injEq] at h; exact .inl ⟨rfl, h.1.symm, h.2.symm⟩
    · have e1 : (d' == d) = false := by simpa using e
      rw [e1, cond_false] at h; exact .inr ⟨e, h⟩
  refine ⟨⟨hp, ⟨?_, ?_, ?_⟩, fun t => (hs.ev t).mono hle hL⟩, ?_⟩
  · intro d' g' cs' h
    rcases get h with ⟨rfl, rfl, rfl⟩ | ⟨hne, h⟩
    · refine ⟨w.heap.size, by simp [Lm.set], ⟨c, el, (0, 0), push_new _, CRs.mono hle hc, fun o _ hh => by omega⟩, fun hst => by have := hs.hp.stl _ hst; omega, fun id e => by have := hs.hp.own_lt e; omega⟩
    · obtain ⟨B, h1, h2⟩ := lc.obj d' g' cs' h
      exact ⟨B, hL _ _ _ h1, h2⟩
  · intro d1 d2 g1 g2 cs1 cs2 B h1 h2 h3 h4
    rcases get h1 with ⟨e1, e2, e3⟩ | ⟨n1, k1⟩
    · rcases get h2 with ⟨e4, e5, e6⟩ | ⟨n2, k2⟩
      · rw [e1, e4]
      · exfalso
        rw [e1, e2] at h3
        have e3 : B = w.heap.size := by simpa [Lm.set] using h3.symm
        obtain ⟨B', h5, _⟩ := hs.lc.obj _ _ _ k2
        have h6 := hL _ _ _ h5
        rw [h4] at h6; cases h6
        have := old k2 h5; omega
    · rcases get h2 with ⟨e4, e5, e6⟩ | ⟨n2, k2⟩
      · exfalso
        rw [e4, e5] at h4
        have e3 : B = w.heap.size := by simpa [Lm.set] using h4.symm
        obtain ⟨B', h5, _⟩ := hs.lc.obj _ _ _ k1
        have h6 := hL _ _ _ h5
        rw [h3] at h6; cases h6
        have := old k1 h5; omega
      · obtain ⟨B1, h5, _⟩ := hs.lc.obj _ _ _ k1
        obtain ⟨B2, h6, _⟩ := hs.lc.obj _ _ _ k2
        have e5 := hL _ _ _ h5; have e6 := hL _ _ _ h6
        rw [h3] at e5; rw [h4] at e6; cases e5; cases e6
        exact hs.lc.inj _ _ _ _ _ _ _ k1 k2 h5 h6
  · intro d' g' h
    have h' : σ.g + 1 ≤ g' := h
    show L.set d σ.g w.heap.size d' g' = none
    unfold Lm.set
    rw [if_neg (by rintro ⟨_, rfl⟩; omega)]
    exact hs.lc.fresh d' g' (by omega)
  · refine ⟨rfl, rfl, rfl, hext.sz, hext.fr, fun _ h => h, fun _ _ h => h, fun _ _ _ h => h, hL, fun _ h => .inl h, fun id B h => .inl ⟨id, h⟩, ?_⟩
    intro d' g' cs' B h1 h2
    rcases get h1 with ⟨rfl, rfl, rfl⟩ | ⟨hne, h1⟩
    · have e3 : B = w.heap.size := by simpa [Lm.set] using h2.symm
      exact .inr (by omega)
    · obtain ⟨B', h5, _⟩ := hs.lc.obj _ _ _ h1
      have h6 := hL _ _ _ h5
      rw [h2] at h6; cases h6
      exact .inl ⟨d', g', cs', h1, h5⟩

/-- An object of the heap comes, at a place where none is. -/
theorem SR.pushHeap (hs : SR w G L σ tm) {o : Obj} {G' : Gh} {h' : List HO} {id : Nat} {o' : HO} (hle : Le G w G' (pushB w o)) (hst : ∀ B, G'.st B → G.st B)
    (hag : ∀ j, j ≠ id → G'.ob j = G.ob j ∧ ∀ v, G'.rw j v = G.rw j v) (hid : h'[id]? = some o') (hoth : ∀ j, j ≠ id → h'[j]? = σ.h[j]?) (hnew : HR G' (pushB w o) id o')
    (hB : ∀ B, ownB G' h' id = some B → w.heap.size ≤ B) {rb : Nat} :
    SR (pushB w o) G' L { σ with h := h', rb := rb } tm ∧ Ext w G L σ (pushB w o) G' L { σ with h := h', rb := rb } := by
  have hp : WR (pushB w o) G' h' := hs.hp.put hle (by rw [push_size]; omega) hst hag hid hoth (fun B hB _ => push_old o hB) hnew (fun B hB' => .inr (hB B hB'))
  have hown : ∀ j B, ownB G' h' j = some B → (∃ j, ownB G σ.h j = some B) ∨ w.heap.size ≤ B := by
    intro j B hj
    by_cases e : j = id
    · subst e; exact .inr (hB B hj)
    · rw [ownB_agree (hag j e) (hoth j e)] at hj; exact .inl ⟨j, hj⟩
  refine ⟨⟨hp, LR.push hs o hle (fun B h => .inl (hst B h)) hown rfl rfl rfl, fun t => (hs.ev t).mono hle fun _ _ _ h => h⟩, ?_⟩
  exact ⟨rfl, rfl, rfl, by rw [push_size]; omega, fun B hB _ _ => push_old o hB, hle.st, hle.ob, hle.rw, fun _ _ _ h => h, fun B h => .inl (hst B h), hown, fun d g cs B h1 h2 => .inl ⟨d, g, cs, h1, h2⟩⟩

end
end Go.Vm
end

section
set_option linter.unusedSimpArgs false
set_option linter.unusedVariables false
namespace Go.Vm
open Go Go.RowKit

section
variable {P : Program} {G : Gh} {w : World} {L : Lm} {σ : St} {tm : Array Value} {ds : List Deferred}
variable {dst : Option Tmp} {ty : TypeId} {pos : String} {af : Array Edge} {gd : Option (Nat × Bool)}

theorem Good.step {r : Result Next} {x : T} {v : Value} {w' : World} {G' : Gh} {L' : Lm} {σ' : St} (hr : r = .ok (.value v) w') (hx : TR G' w' L' x v) (h1 : SR w' G' L' σ' tm) (h2 : Ext w G L σ w' G' L' σ') : Good P r w G L σ tm x σ' :=
  ⟨_, v, w', G', L', hr, .inl rfl, hx, h1, h2⟩
theorem Good.skip {r : Result Next} {w' : World} {G' : Gh} {L' : Lm} {σ' : St} (hr : r = .ok .skip w') (h1 : SR w' G' L' σ' tm) (h2 : Ext w G L σ w' G' L' σ') : Good P r w G L σ tm (.v .undef) σ' :=
  ⟨_, undef, w', G', L', hr, .inr ⟨rfl, rfl⟩, .v _ _ (.undef _), h1, h2⟩

theorem newH_spec (hs : SR w G L σ tm) {slot : Option Nat} {o : HO} {id : Nat} {σ' : St} (h : σ.newH slot o = some (id, σ')) :
    G.ob id = none ∧ (∀ v, G.rw id v = none) ∧ ownB G σ.h id = none ∧ σ'.h[id]? = some o ∧ (∀ j, j ≠ id → σ'.h[j]? = σ.h[j]?) ∧ σ' = { σ with h := σ'.h, rb := σ.rb } := by
  unfold St.newH at h
  split at h
  · cases h
    have hd := hs.hp.dom σ.h.length (Nat.le_refl _)
    refine ⟨hd.1, hd.2, ?_, by simp, fun j hj => ?_, rfl⟩
    · unfold ownB; rw [List.getElem?_eq_none (Nat.le_refl _)]
    · rcases Nat.lt_or_ge j σ.h.length with hl | hl
      · rw [List.getElem?_append_left hl]
      · rw [List.getElem?_eq_none hl, List.getElem?_eq_none (by simp; omega)]
  · split at h
    · rename_i hh
      cases h
      have hd := hs.hp.obj _ _ hh
      rename_i j _
      have hlt : σ.rb + j < σ.h.length := by
        rcases Nat.lt_or_ge (σ.rb + j) σ.h.length with hl | hl
        · exact hl
        · rw [List.getElem?_eq_none hl] at hh; cases hh
      refine ⟨hd.1, hd.2, by unfold ownB; rw [hh], by simp [List.getElem?_set, hlt], fun j hj => by simp [List.getElem?_set, Ne.symm hj], rfl⟩
    · cases h

theorem newH_cells (hs : SR w G L σ tm) {slot : Option Nat} {cs : List V} {id : Nat} {σ' : St} (h : σ.newH slot (.cells cs) = some (id, σ')) {c : Array Value} {el : TypeId} (hc : CRs G w cs c.toList) :
    SR (pushB w (.cells c el)) (G.setOb id w.heap.size) L σ' tm ∧ Ext w G L σ (pushB w (.cells c el)) (G.setOb id w.heap.size) L σ' := by
  obtain ⟨h1, h2, h3, h4, h5, h6⟩ := newH_spec hs h
  have hle : Le G w (G.setOb id w.heap.size) (pushB w (.cells c el)) := hs.le_push _ (fun _ h => h) (fun j B hj => by
    show (if j = id then _ else _) = _
    rw [if_neg (by rintro rfl; rw [h1] at hj; cases hj)]; exact hj) (fun _ _ _ h => h)
  rw [h6]
  refine hs.pushHeap (id := id) hle (fun _ h => h) (fun j hj => ⟨by show (if j = id then _ else _) = _; rw [if_neg hj], fun _ => rfl⟩) h4 h5 ?_ ?_
  · exact ⟨w.heap.size, by show (if id = id then _ else _) = _; rw [if_pos rfl], c, el, (0, 0), push_new _, CRs.mono hle hc, fun o _ hh => by omega⟩
  · intro B hB
    unfold ownB at hB
    rw [h4] at hB
    have : (if id = id then some w.heap.size else G.ob id) = some B := hB
    rw [if_pos rfl] at this; cases this; exact Nat.le_refl _

theorem newH_map (hs : SR w G L σ tm) {slot : Option Nat} {id : Nat} {σ' : St} (h : σ.newH slot (.map [] 0) = some (id, σ')) :
    SR (pushB w (.map #[] 0)) (G.setOb id w.heap.size) L σ' tm ∧ Ext w G L σ (pushB w (.map #[] 0)) (G.setOb id w.heap.size) L σ' := by
  obtain ⟨h1, h2, h3, h4, h5, h6⟩ := newH_spec hs h
  have hle : Le G w (G.setOb id w.heap.size) (pushB w (.map #[] 0)) := hs.le_push _ (fun _ h => h) (fun j B hj => by
    show (if j = id then _ else _) = _
    rw [if_neg (by rintro rfl; rw [h1] at hj; cases hj)]; exact hj) (fun _ _ _ h => h)
  rw [h6]
  refine hs.pushHeap (id := id) hle (fun _ h => h) (fun j hj => ⟨by show (if j = id then _ else _) = _; rw [if_neg hj], fun _ => rfl⟩) h4 h5 ?_ ?_
  · exact ⟨w.heap.size, #[], by show (if id = id then _ else _) = _; rw [if_pos rfl], push_new _, .nil⟩
  · intro B hB
    unfold ownB at hB
    rw [h4] at hB
    have : (if id = id then some w.heap.size else G.ob id) = some B := hB
    rw [if_pos rfl] at this; cases this; exact Nat.le_refl _

theorem newH_row (hs : SR w G L σ tm) {slot : Option Nat} {l : List V} {id : Nat} {σ' : St} (h : σ.newH slot (.row 0 l) = some (id, σ')) {c : Array Value} {el : TypeId} {fr : Nat × Nat} {s cap : Nat}
    (h1' : cap * s ≤ c.size) (h2' : l.length ≤ cap) (h3' : ∀ v ∈ l, v.cells.length = s) (h4' : 0 < s) (hc : CRs G w (l.flatMap V.cells) (c.toList.take (l.length * s))) (hfr : NoFr fr c.size) :
    SR (pushB w (.cells c el fr)) (G.setRw id 0 ⟨w.heap.size, 0, s, cap⟩) L σ' tm ∧ Ext w G L σ (pushB w (.cells c el fr)) (G.setRw id 0 ⟨w.heap.size, 0, s, cap⟩) L σ' := by
  obtain ⟨h1, h2, h3, h4, h5, h6⟩ := newH_spec hs h
  have hget : (G.setRw id 0 ⟨w.heap.size, 0, s, cap⟩).rw id 0 = some ⟨w.heap.size, 0, s, cap⟩ := by
    show (if id = id ∧ 0 = 0 then _ else _) = _; rw [if_pos ⟨rfl, rfl⟩]
  have hle : Le G w (G.setRw id 0 ⟨w.heap.size, 0, s, cap⟩) (pushB w (.cells c el fr)) := hs.le_push _ (fun _ h => h) (fun _ _ h => h) (fun j v r hj => by
    show (if j = id ∧ v = 0 then _ else _) = _
    rw [if_neg (by rintro ⟨rfl, _⟩; rw [h2] at hj; cases hj)]; exact hj)
  rw [h6]
  refine hs.pushHeap (id := id) hle (fun _ h => h) (fun j hj => ⟨rfl, fun v => by show (if j = id ∧ v = 0 then _ else _) = _; rw [if_neg (fun e => hj e.1)]⟩) h4 h5 ?_ ?_
  · refine ⟨_, hget, fun v hv => ?_, c, el, fr, push_new _, by simpa using h1', h2', h3', h4', by simpa using CRs.mono hle hc, hfr⟩
    show (if id = id ∧ v = 0 then _ else _) = _
    rw [if_neg (by rintro ⟨_, rfl⟩; omega)]; exact h2 v
  · intro B hB
    unfold ownB at hB
    rw [h4] at hB
    have : ((G.setRw id 0 ⟨w.heap.size, 0, s, cap⟩).rw id 0).map (·.B) = some B := hB
    rw [hget] at this; cases this; exact Nat.le_refl _

theorem run_newRow (el : TypeId) (c : Array Value) : (newRow el c).run P w = .ok ⟨w.heap.size, 0, none⟩ (pushB w (.cells c el)) := by
  simp only [newRow, Sem.run_bind, run_newObj, Result.andThen_ok, Sem.run_pure]; rfl

theorem allocL_ok (hs : SR w G L σ tm) {t : TypeId} {z : List V} (hf : fitO P (.alloc t) (.allocL z) = true) {d : Option Nat} {x : T} {σ' : St} (hx : effO σ d (.allocL z) = some (.ok x σ')) :
    Good P ((execOp (Act.eval ⟨tm, ds⟩) ⟨dst, .alloc t, ty, pos, af, gd⟩).run P w) w G L σ tm x σ' := by
  obtain ⟨zv, hz, hc⟩ := zeroFit_ok (G := G) (w := w) hf
  simp only [effO] at hx
  split at hx
  · cases hx
    obtain ⟨h1, h2⟩ := hs.pushLocal (d := _) (el := t) hc
    refine Good.step (v := .pointer (some ⟨w.heap.size, 0, none⟩)) (exec_v rfl ?_) ?_ h1 h2
    · simp [Instr.alloc, run_zeroT hz, newVar, run_newRow]
    · exact .loc _ _ _ _ (by simp [Lm.set])
  · cases hx

theorem boxL_ok (hs : SR w G L σ tm) {t : TypeId} {x : Operand} {y : Opd} (hf : fitO P (.box t x) (.boxL y) = true) {d : Option Nat} {r : T} {σ' : St} (hx : effO σ d (.boxL y) = some (.ok r σ')) :
    Good P ((execOp (Act.eval ⟨tm, ds⟩) ⟨dst, .box t x, ty, pos, af, gd⟩).run P w) w G L σ tm r σ' := by
  simp only [fitO] at hf
  simp only [effO] at hx
  split at hx
  · rename_i d v hv
    split at hx
    · cases hx
    · rename_i hne
      cases hx
      have hc := (val_ok (ds := ds) hs.ev hf hv).cells (by intro e; rw [e] at hne; simp at hne)
      obtain ⟨h1, h2⟩ := hs.pushLocal (d := d) (el := t) hc
      refine Good.step (v := .pointer (some ⟨w.heap.size, 0, none⟩)) (exec_v rfl ?_) ?_ h1 h2
      · simp [Instr.box, newVar, run_newRow]
      · exact .loc _ _ _ _ (by simp [Lm.set])
  · cases hx

theorem allocH_ok (hs : SR w G L σ tm) {t : TypeId} {slot : Option Nat} {z : List V} (hf : fitO P (.alloc t) (.allocH slot z) = true) {d : Option Nat} {x : T} {σ' : St} (hx : effO σ d (.allocH slot z) = some (.ok x σ')) :
    Good P ((execOp (Act.eval ⟨tm, ds⟩) ⟨dst, .alloc t, ty, pos, af, gd⟩).run P w) w G L σ tm x σ' := by
  obtain ⟨zv, hz, hc⟩ := zeroFit_ok (G := G) (w := w) hf
  simp only [effO, Option.map_eq_some_iff] at hx
  obtain ⟨⟨id, σ1⟩, hn, e⟩ := hx
  cases e
  obtain ⟨h1, h2⟩ := newH_cells hs hn (el := t) hc
  refine Good.step (v := .pointer (some ⟨w.heap.size, 0, none⟩)) (exec_v rfl ?_) ?_ h1 h2
  · simp [Instr.alloc, run_zeroT hz, newVar, run_newRow]
  · exact .v _ _ (.ptr _ _ _ (by show (if id = id then _ else _) = _; rw [if_pos rfl]))

theorem boxH_ok (hs : SR w G L σ tm) {t : TypeId} {x : Operand} {slot : Option Nat} {y : Opd} (hf : fitO P (.box t x) (.boxH slot y) = true) {d : Option Nat} {r : T} {σ' : St} (hx : effO σ d (.boxH slot y) = some (.ok r σ')) :
    Good P ((execOp (Act.eval ⟨tm, ds⟩) ⟨dst, .box t x, ty, pos, af, gd⟩).run P w) w G L σ tm r σ' := by
  simp only [fitO] at hf
  simp only [effO, Option.bind_eq_some_iff] at hx
  obtain ⟨v, hv, hx⟩ := hx
  split at hx
  · cases hx
  · rename_i hne
    simp only [Option.map_eq_some_iff] at hx
    obtain ⟨⟨id, σ1⟩, hn, e⟩ := hx
    cases e
    have hc := (val_ok (ds := ds) hs.ev hf hv).cells (by intro e; rw [e] at hne; simp at hne)
    obtain ⟨h1, h2⟩ := newH_cells hs hn (el := t) hc
    refine Good.step (v := .pointer (some ⟨w.heap.size, 0, none⟩)) (exec_v rfl ?_) ?_ h1 h2
    · simp [Instr.box, newVar, run_newRow]
    · exact .v _ _ (.ptr _ _ _ (by show (if id = id then _ else _) = _; rw [if_pos rfl]))

theorem mkmap_ok (hs : SR w G L σ tm) {t : TypeId} {rs : Option Operand} {slot : Option Nat} (hf : fitO P (.makeMap t rs) (.mkmap slot) = true) {d : Option Nat} {r : T} {σ' : St} (hx : effO σ d (.mkmap slot) = some (.ok r σ')) :
    Good P ((execOp (Act.eval ⟨tm, ds⟩) ⟨dst, .makeMap t rs, ty, pos, af, gd⟩).run P w) w G L σ tm r σ' := by
  cases rs with
  | some _ => simp [fitO] at hf
  | none =>
    simp only [effO, Option.map_eq_some_iff] at hx
    obtain ⟨⟨id, σ1⟩, hn, e⟩ := hx
    cases e
    obtain ⟨h1, h2⟩ := newH_map hs hn
    refine Good.step (v := .map (some w.heap.size)) (exec_v rfl ?_) ?_ h1 h2
    · simp [Instr.makeMap]; rfl
    · exact .v _ _ (.map _ _ (by show (if id = id then _ else _) = _; rw [if_pos rfl]))

end
end Go.Vm
end

section
set_option linter.unusedSimpArgs false
set_option linter.unusedVariables false
namespace Go.Vm
open Go Go.RowKit

section
variable {P : Program} {G : Gh} {w : World} {L : Lm} {σ : St} {tm : Array Value} {ds : List Deferred}
variable {dst : Option Tmp} {ty : TypeId} {pos : String} {af : Array Edge} {gd : Option (Nat × Bool)}

/-- Cells, some of them written over. -/
def wr (c : Array Value) (off : Nat) (xs : List Value) : Array Value := (c.toList.take off ++ xs ++ c.toList.drop (off + xs.length)).toArray

theorem wr_size {c : Array Value} {off : Nat} {xs : List Value} (h : off + xs.length ≤ c.size) : (wr c off xs).size = c.size := by
  simp [wr]; omega

theorem setCell_eq {B off : Nat} {c : Array Value} {el : TypeId} {fr : Nat × Nat} (hb : w.heap[B]? = some (.cells c el fr)) (v : Value) :
    w.setCell ⟨B, off, none⟩ v = setB w B (.cells (c.setIfInBounds off v) el fr) := by
  unfold World.setCell setB
  congr 1
  apply Array.ext_getElem?
  intro i
  have hlt := lt_of_block hb
  simp only [Array.getElem?_modify, Array.getElem?_setIfInBounds]
  by_cases e : B = i
  · subst e; rw [if_pos rfl, if_pos rfl, if_pos hlt, hb]; rfl
  · rw [if_neg e, if_neg e]

theorem setB_setB {B : Nat} (o o' : Obj) : setB (setB w B o) B o' = setB w B o' := by
  simp [setB]

theorem isCell_one {v : Value} (h : isCell v) : v.oneCell' = true := by cases v <;> first | rfl | exact h.elim

theorem run_storeCells {B off : Nat} {el : TypeId} {fr : Nat × Nat} : ∀ (xs : List Value) (i : Nat) (c : Array Value) (w : World), w.heap[B]? = some (.cells c el fr) → NoFr fr c.size →
    off + i + xs.length ≤ c.size → (∀ x ∈ xs, isCell x) → (storeCells ⟨B, off, none⟩ xs i).run P w = .ok () (setB w B (.cells (wr c (off + i) xs) el fr))
  | [], i, c, w, hb, hf, hl, hx => by
    have e : wr c (off + i) [] = c := by simp [wr]
    have e2 : setB w B (.cells c el fr) = w := by
      unfold setB
      have hlt := lt_of_block hb
      have : w.heap.setIfInBounds B (.cells c el fr) = w.heap := by
        apply Array.ext_getElem?
        intro j
        rw [Array.getElem?_setIfInBounds]
        by_cases e : B = j
        · subst e; rw [if_pos rfl, if_pos hlt, hb]
        · rw [if_neg e]
      rw [this]
    rw [e, e2]; rfl
  | x :: xs, i, c, w, hb, hf, hl, hx => by
    simp only [List.length_cons] at hl
    have hlt : off + i < c.size := by omega
    have hcell : w.cell? ⟨B, off + i, none⟩ = some c[off + i] := by simp [World.cell?, hb, hlt]
    have hfz : w.frozen? ⟨B, off + i, none⟩ = false := by
      simp only [World.frozen?, hb]
      have := hf (off + i) hlt
      by_cases h1 : fr.1 ≤ off + i
      · have h2 : ¬ off + i < fr.2 := fun h => this ⟨h1, h⟩
        simp [h2]
      · simp [h1]
    have hst : (store ⟨B, off + i, none⟩ x).run P w = .ok () (setB w B (.cells (c.setIfInBounds (off + i) x) el fr)) := by
      rw [run_store P w _ x .plain (isCell_one (hx x (by simp))), hcell]
      simp only [hfz, Bool.false_eq_true, if_false]
      rw [setCell_eq hb]
    have hb' : (setB w B (.cells (c.setIfInBounds (off + i) x) el fr)).heap[B]? = some (.cells (c.setIfInBounds (off + i) x) el fr) := set_new _ (lt_of_block hb)
    have ih := run_storeCells (off := off) xs (i + 1) (c.setIfInBounds (off + i) x) _ hb' (by simpa using hf) (by simp; omega) (fun y hy => hx y (by simp [hy]))
    simp only [storeCells, Sem.run_bind, add_none, hst, Result.andThen_ok, ih]
    rw [setB_setB]
    have e : wr (c.setIfInBounds (off + i) x) (off + (i + 1)) xs = wr c (off + i) (x :: xs) := by
      have := foldl_set c off (x :: xs) i (by simpa using hl)
      have h2 := foldl_set (c.setIfInBounds (off + i) x) off xs (i + 1) (by simp; omega)
      simp only [List.zipIdx_cons, List.foldl_cons] at this
      rw [h2] at this
      apply Array.ext'
      simp only [wr]
      simpa using this
    rw [e]

theorem CRs.cells {vs : List V} {xs : List Value} (h : CRs G w vs xs) : ∀ x ∈ xs, isCell x := by
  induction vs generalizing xs with
  | nil => cases h; intro x hx; cases hx
  | cons v vs ih =>
    cases h with
    | cons _ x _ xs _ hx _ hs =>
      intro y hy
      rcases List.mem_cons.1 hy with rfl | hy
      · exact hx
      · exact ih hs y hy

/-- A block of the VM's own turns. -/
theorem SR.setHeap (hs : SR w G L σ tm) {B : Nat} {o : Obj} {G' : Gh} {h' : List HO} {id : Nat} {o' : HO} (hown : ownB G σ.h id = some B) (hst : ∀ B, G'.st B ↔ G.st B)
    (hob : ∀ id B, G.ob id = some B → G'.ob id = some B) (hrw : ∀ id v r, G.rw id v = some r → G'.rw id v = some r)
    (hag : ∀ j, j ≠ id → G'.ob j = G.ob j ∧ ∀ v, G'.rw j v = G.rw j v) (hid : h'[id]? = some o') (hoth : ∀ j, j ≠ id → h'[j]? = σ.h[j]?)
    (hnew : Le G w G' (setB w B o) → HR G' (setB w B o) id o') (hB : ∀ B', ownB G' h' id = some B' → B' = B) :
    SR (setB w B o) G' L { σ with h := h' } tm ∧ Ext w G L σ (setB w B o) G' L { σ with h := h' } := by
  have hlt := hs.hp.own_lt hown
  have hns := hs.hp.ost _ _ hown
  have hle : Le G w G' (setB w B o) := ⟨fun B hB => (hst B).2 hB, fun B' hB' => set_old o (by rintro rfl; exact hns hB'), hob, hrw⟩
  have hp : WR (setB w B o) G' h' := hs.hp.put hle (by rw [set_size]; exact Nat.le_refl _) (fun B hB => (hst B).1 hB) hag hid hoth (fun B' hB' hne => set_old o (by rintro rfl; exact hne hown)) (hnew hle) (fun B' hB' => .inl (by rw [hB B' hB']; exact hown))
  have hown' : ∀ j B', ownB G' h' j = some B' → ∃ j, ownB G σ.h j = some B' := by
    intro j B' hj
    by_cases e : j = id
    · subst e; rw [hB B' hj]; exact ⟨_, hown⟩
    · rw [ownB_agree (hag j e) (hoth j e)] at hj; exact ⟨j, hj⟩
  refine ⟨⟨hp, ⟨?_, hs.lc.inj, hs.lc.fresh⟩, fun t => (hs.ev t).mono hle fun _ _ _ h => h⟩, ?_⟩
  · intro d g cs hd
    obtain ⟨B', h1, h2, h3, h4⟩ := hs.lc.obj d g cs hd
    refine ⟨B', h1, h2.mono hle (set_old o (by rintro rfl; exact h4 _ hown)), fun hc => h3 ((hst _).1 hc), fun j hj => ?_⟩
    obtain ⟨j', hj'⟩ := hown' j B' hj
    exact h4 j' hj'
  · exact ⟨rfl, rfl, rfl, by rw [set_size]; exact Nat.le_refl _, fun B' hB' hne _ => set_old o (by rintro rfl; exact hne _ hown), hle.st, hob, hrw, fun _ _ _ h => h, fun B h => .inl ((hst B).1 h), fun j B' hj => .inl (hown' j B' hj), fun d g cs B h1 h2 => .inl ⟨d, g, cs, h1, h2⟩⟩

/-- A variable turns. -/
theorem SR.setLocal (hs : SR w G L σ tm) {d g B : Nat} {cs cs' : List V} {c : Array Value} {el : TypeId} {fr : Nat × Nat} (hd : σ.m d = some (g, cs)) (hL : L d g = some B) (hc : CRs G w cs' c.toList) (hf : NoFr fr c.size) :
    SR (setB w B (.cells c el fr)) G L { σ with m := upd σ.m d (some (g, cs')) } tm ∧ Ext w G L σ (setB w B (.cells c el fr)) G L { σ with m := upd σ.m d (some (g, cs')) } := by
  obtain ⟨B', h1, h2, h3, h4⟩ := hs.lc.obj d g cs hd
  rw [hL] at h1; cases h1
  have hlt : B < w.heap.size := by obtain ⟨c, el, fr, hb, _⟩ := h2; exact lt_of_block hb
  have hle : Le G w G (setB w B (.cells c el fr)) := ⟨fun _ h => h, fun B' hB' => set_old _ (by rintro rfl; exact h3 hB'), fun _ _ h => h, fun _ _ _ h => h⟩
  have get : ∀ {d' g' : Nat} {cs1 : List V}, upd σ.m d (some (g, cs')) d' = some (g', cs1) → (d' = d ∧ g' = g ∧ cs1 = cs') ∨ (d' ≠ d ∧ σ.m d' = some (g', cs1)) := by
    intro d' g' cs1 h
    unfold upd at h
    by_cases e : d' = d
    · subst e; simp only [beq_self_eq_true, cond_true, Option.some.injEq, Prod.mk.injEq] at h; exact .inl ⟨rfl, h.1.symm, h.2.symm⟩
    · have e1 : (d' == d) = false := by simpa using e
      rw [e1, cond_false] at h; exact .inr ⟨e, h⟩
  have back : ∀ {d' g' : Nat} {cs1 : List V}, upd σ.m d (some (g, cs')) d' = some (g', cs1) → ∃ cs2, σ.m d' = some (g', cs2) := by
    intro d' g' cs1 h
    rcases get h with ⟨rfl, rfl, _⟩ | ⟨_, h⟩
    · exact ⟨_, hd⟩
    · exact ⟨_, h⟩
  refine ⟨⟨hs.hp.keep hle (by rw [set_size]; exact Nat.le_refl _) (fun B' hB' => ⟨by rw [set_size]; exact hs.hp.stl _ hB', fun id e => hs.hp.ost _ _ e hB'⟩) (fun _ => ⟨rfl, fun _ => rfl⟩) (fun id B' hB' => set_old _ (by rintro rfl; exact h4 _ hB')), ⟨?_, ?_, hs.lc.fresh⟩,
    fun t => (hs.ev t).mono hle fun _ _ _ h => h⟩, ?_⟩
  · intro d' g' cs1 h
    rcases get h with ⟨rfl, rfl, rfl⟩ | ⟨hne, h⟩
    · exact ⟨B, hL, ⟨c, el, fr, set_new _ hlt, CRs.mono hle hc, hf⟩, h3, h4⟩
    · obtain ⟨B1, k1, k2, k3, k4⟩ := hs.lc.obj d' g' cs1 h
      exact ⟨B1, k1, k2.mono hle (set_old _ (by rintro rfl; exact hne (hs.lc.inj _ _ _ _ _ _ _ h hd k1 hL))), k3, k4⟩
  · intro d1 d2 g1 g2 cs1 cs2 B1 k1 k2 k3 k4
    obtain ⟨c1, k1⟩ := back k1
    obtain ⟨c2, k2⟩ := back k2
    exact hs.lc.inj _ _ _ _ _ _ _ k1 k2 k3 k4
  · refine ⟨rfl, rfl, rfl, by rw [set_size]; exact Nat.le_refl _, fun B' hB' _ hne => set_old _ (by rintro rfl; exact hne _ _ _ hd hL), fun _ h => h, fun _ _ h => h, fun _ _ _ h => h, fun _ _ _ h => h, fun _ h => .inl h, fun j B' hj => .inl ⟨j, hj⟩, ?_⟩
    intro d' g' cs1 B1 k1 k2
    obtain ⟨c1, k1⟩ := back k1
    exact .inl ⟨_, _, _, k1, k2⟩

theorem setRange_CRs {cs ys : List V} {xs zs : List Value} {off : Nat} (h : CRs G w cs xs) (h' : CRs G w ys zs) : CRs G w (setRange cs off ys) (xs.take off ++ zs ++ xs.drop (off + zs.length)) := by
  unfold setRange
  rw [h'.length]
  exact ((h.take off).append h').append (h.drop _)

/-- A store of a value's cells. -/
theorem storeAt_ok (hs : SR w G L σ tm) {x : T} {v : Value} (hv : TR G w L x v) {ys : List V} {zs : List Value} (hz : CRs G w ys zs) {σ' : St} (h : σ.storeAt ys x = some σ') :
    ∃ a w' G', v = .pointer (some a) ∧ (storeCells a zs).run P w = .ok () w' ∧ SR w' G' L σ' tm ∧ Ext w G L σ w' G' L σ' := by
  have hzl := hz.length
  unfold St.storeAt at h
  split at h
  · rename_i d g off
    split at h
    · rename_i g' cs hm
      split at h
      · rename_i hc
        obtain ⟨rfl, hl⟩ := hc
        cases h
        obtain ⟨B, hB, rfl⟩ := hv.inv_loc
        obtain ⟨B', hB', ⟨c, el, fr, hb, hcr, hf⟩, h3, h4⟩ := hs.lc.obj _ _ _ hm
        rw [hB] at hB'; cases hB'
        have hlen : off + zs.length ≤ c.size := by have := hcr.length; simp at this; omega
        have hr := run_storeCells (P := P) (B := B) (off := off) zs 0 c w hb hf (by simpa using hlen) hz.cells
        obtain ⟨h5, h6⟩ := hs.setLocal (cs' := setRange cs off ys) (c := wr c off zs) (el := el) (fr := fr) hm hB (by simpa [wr] using setRange_CRs hcr hz) (by rw [wr_size hlen]; exact hf)
        exact ⟨_, _, G, rfl, by simpa using hr, h5, h6⟩
      · cases h
    · cases h
  · rename_i id off
    split at h
    · rename_i cs hm
      split at h
      · rename_i hl
        cases h
        obtain ⟨B, hB, rfl⟩ := hv.inv_v.inv_ptr
        obtain ⟨B', hB', c, el, fr, hb, hcr, hf⟩ := hs.hp.obj _ _ hm
        rw [hB] at hB'; cases hB'
        have hlen : off + zs.length ≤ c.size := by have := hcr.length; simp at this; omega
        have hr := run_storeCells (P := P) (B := B) (off := off) zs 0 c w hb hf (by simpa using hlen) hz.cells
        have hlt : id < σ.h.length := by
          rcases Nat.lt_or_ge id σ.h.length with h | h
          · exact h
          · rw [List.getElem?_eq_none h] at hm; cases hm
        have hget : (σ.h.set id (.cells (setRange cs off ys)))[id]? = some (.cells (setRange cs off ys)) := by simp [List.getElem?_set, hlt]
        have hown : ownB G σ.h id = some B := by unfold ownB; rw [hm]; exact hB
        obtain ⟨h5, h6⟩ := hs.setHeap (id := id) (B := B) (o := .cells (wr c off zs) el fr) (G' := G) hown (fun _ => Iff.rfl) (fun _ _ h => h) (fun _ _ _ h => h) (fun _ _ => ⟨rfl, fun _ => rfl⟩) hget
          (fun j hj => by simp [List.getElem?_set, Ne.symm hj]) (fun hle => ⟨B, hB, _, _, _, set_new _ (lt_of_block hb), by simpa [wr] using CRs.mono hle (setRange_CRs hcr hz), by rw [wr_size hlen]; exact hf⟩)
          (fun B' hB' => by unfold ownB at hB'; rw [hget] at hB'; dsimp only at hB'; rw [hB] at hB'; cases hB'; rfl)
        exact ⟨_, _, G, rfl, by simpa using hr, h5, h6⟩
      · cases h
    · cases h
  · rename_i id ver i off
    split at h
    · rename_i ver' l hm
      obtain ⟨r, hr, rfl⟩ := hv.inv_v.inv_eptr
      obtain ⟨r', hr', hlast, c, el, fr, hb, h1, h2, h3, h4, hcr, hf⟩ := hs.hp.obj _ _ hm
      have hidlt : id < σ.h.length := by
        rcases Nat.lt_or_ge id σ.h.length with h | h
        · exact h
        · rw [List.getElem?_eq_none h] at hm; cases hm
      -- the row with one element turned
      have main : ∀ (e e' : V) , ver' = ver → l[i]? = some e → e'.cells = setRange e.cells off ys → off + ys.length ≤ e.cells.length →
          ∃ a w' G', Value.pointer (some ⟨r.B, r.base + i * r.s + off, none⟩) = .pointer (some a) ∧ (storeCells a zs).run P w = .ok () w' ∧ SR w' G' L { σ with h := σ.h.set id (.row ver (l.set i e')) } tm ∧
            Ext w G L σ w' G' L { σ with h := σ.h.set id (.row ver (l.set i e')) } := by
        intro e e' hver he hce hle'
        subst hver
        rw [hr] at hr'; cases hr'
        have hlt : i < l.length := by
          rcases Nat.lt_or_ge i l.length with h | h
          · exact h
          · rw [List.getElem?_eq_none h] at he; cases he
        have hei : l[i] = e := by rw [List.getElem?_eq_getElem hlt] at he; exact Option.some.inj he
        have hes : e.cells.length = r.s := by rw [← hei]; exact h3 _ (List.getElem_mem hlt)
        have hys : off + zs.length ≤ r.s := by omega
        have hmul : (i + 1) * r.s ≤ l.length * r.s := Nat.mul_le_mul_right _ hlt
        have hmul2 : l.length * r.s ≤ r.cap * r.s := Nat.mul_le_mul_right _ h2
        have e1 : (i + 1) * r.s = i * r.s + r.s := by rw [Nat.add_mul, Nat.one_mul]
        have hlen : r.base + i * r.s + off + zs.length ≤ c.size := by omega
        have hrun := run_storeCells (P := P) (B := r.B) (off := r.base + i * r.s + off) zs 0 c w hb hf (by simpa using hlen) hz.cells
        have hget : (σ.h.set id (.row ver' (l.set i e')))[id]? = some (.row ver' (l.set i e')) := by simp [List.getElem?_set, hidlt]
        have hown : ownB G σ.h id = some r.B := by unfold ownB; rw [hm]; dsimp only; rw [hr]; rfl
        have hxl : ((c.toList.drop r.base).take (l.length * r.s)).length = l.length * r.s := by simp; omega
        have hflat : (l.set i e').flatMap V.cells = setRange (l.flatMap V.cells) (i * r.s + off) ys := by
          have hl3 : ∀ v ∈ l.set i e', v.cells.length = r.s := by
            intro v hv
            rcases List.mem_or_eq_of_mem_set hv with h | h
            · exact h3 v h
            · subst h; rw [hce]; simp [setRange]; omega
          have s1 : l.set i e' = l.take i ++ e' :: l.drop (i + 1) := by rw [List.set_eq_take_append_cons_drop, if_pos hlt]
          rw [s1, List.flatMap_append, List.flatMap_cons, flat_take i h3, flat_drop (i + 1) h3, hce]
          have hfl := flat_len h3
          generalize hF : l.flatMap V.cells = F at *
          have hE : e.cells = (F.drop (i * r.s)).take r.s := by
            have q1 : ((l.drop i).take 1).flatMap V.cells = e.cells := by rw [List.drop_eq_getElem_cons hlt, hei]; simp
            have q2 := flat_take (l := l.drop i) 1 (fun u hu => h3 u (List.mem_of_mem_drop hu))
            rw [q1, flat_drop i h3, hF, Nat.one_mul] at q2
            exact q2
          rw [hE]
          unfold setRange
          have t1 : ((F.drop (i * r.s)).take r.s).take off = (F.drop (i * r.s)).take off := by rw [List.take_take]; congr 1; omega
          have t2 : ((F.drop (i * r.s)).take r.s).drop (off + ys.length) = (F.drop (i * r.s + (off + ys.length))).take (r.s - (off + ys.length)) := by
            rw [List.drop_take, List.drop_drop]
          have t3 : F.drop (i * r.s + off + ys.length) = (F.drop (i * r.s + (off + ys.length))).take (r.s - (off + ys.length)) ++ F.drop ((i + 1) * r.s) := by
            have := List.take_append_drop (r.s - (off + ys.length)) (F.drop (i * r.s + (off + ys.length)))
            rw [List.drop_drop] at this
            have e5 : i * r.s + (off + ys.length) + (r.s - (off + ys.length)) = (i + 1) * r.s := by omega
            rw [e5] at this
            rw [Nat.add_assoc]; exact this.symm
          have t4 : F.take (i * r.s + off) = F.take (i * r.s) ++ (F.drop (i * r.s)).take off := by rw [List.take_add]
          rw [t1, t2, t3, t4]
          simp only [List.append_assoc]
        obtain ⟨h5, h6⟩ := hs.setHeap (id := id) (B := r.B) (o := .cells (wr c (r.base + i * r.s + off) zs) el fr) (G' := G) hown (fun _ => Iff.rfl) (fun _ _ h => h) (fun _ _ _ h => h) (fun _ _ => ⟨rfl, fun _ => rfl⟩) hget
          (fun j hj => by simp [List.getElem?_set, Ne.symm hj]) (fun hle => by
            refine ⟨r, hr, hlast, _, _, _, set_new _ (lt_of_block hb), by rw [wr_size hlen]; exact h1, by simpa using h2, ?_, h4, ?_, by rw [wr_size hlen]; exact hf⟩
            · intro v hv
              rcases List.mem_or_eq_of_mem_set hv with h | h
              · exact h3 v h
              · subst h; rw [hce]; simp [setRange]; omega
            · rw [hflat, List.length_set]
              have := CRs.mono hle (setRange_CRs (off := i * r.s + off) hcr hz)
              have eq : ((wr c (r.base + i * r.s + off) zs).toList.drop r.base).take (l.length * r.s) =
                  ((c.toList.drop r.base).take (l.length * r.s)).take (i * r.s + off) ++ zs ++ ((c.toList.drop r.base).take (l.length * r.s)).drop (i * r.s + off + zs.length) := by
                simp only [wr]
                generalize c.toList = C at *
                have hC : r.base + i * r.s + off + zs.length ≤ C.length := by
                  simp at hxl; omega
                rw [List.append_assoc, List.drop_append_of_le_length (by simp; omega), List.take_append]
                have a1 : (List.drop r.base (C.take (r.base + i * r.s + off))) = (C.drop r.base).take (i * r.s + off) := by
                  rw [List.drop_take]; congr 1; omega
                rw [a1]
                have a2 : ((C.drop r.base).take (i * r.s + off)).length = i * r.s + off := by simp; omega
                rw [a2, List.take_of_length_le (by rw [a2]; omega)]
                rw [List.take_append, List.take_take]
                have a3 : min (i * r.s + off) (l.length * r.s) = i * r.s + off := by omega
                rw [a3, List.take_of_length_le (l := zs) (by omega), List.append_assoc]
                congr 2
                rw [List.drop_take, List.drop_drop]
                congr 1
                · omega
                · congr 1; omega
              rw [eq]; exact this)
          (fun B' hB' => by unfold ownB at hB'; rw [hget] at hB'; dsimp only at hB'; rw [hr] at hB'; cases hB'; rfl)
        exact ⟨_, _, G, rfl, by simpa using hrun, h5, h6⟩
      split at h
      · rename_i cs he
        split at h
        · rename_i hc
          cases h
          exact main _ _ hc.1 he rfl hc.2
        · cases h
      · rename_i e hne he
        split at h
        · rename_i y
          split at h
          · rename_i hc
            obtain ⟨hver, rfl, hy⟩ := hc
            cases h
            have hec : e.cells.length = 1 := by
              have hlt : i < l.length := by
                rcases Nat.lt_or_ge i l.length with h | h
                · exact h
                · rw [List.getElem?_eq_none h] at he; cases he
              have hei : l[i] = e := by rw [List.getElem?_eq_getElem hlt] at he; exact Option.some.inj he
              have hes : e.cells.length = r'.s := by rw [← hei]; exact h3 _ (List.getElem_mem hlt)
              have hle : e.cells.length ≤ 1 := by cases e <;> first | (exact (hne _ rfl).elim) | simp [V.cells]
              omega
            refine main e y hver he ?_ (by simp [hec])
            have hyc : y.cells = [y] := by
              cases hz with
              | cons _ _ _ _ hyc _ _ _ => cases y <;> first | rfl | exact hyc.elim | (simp [V.cells] at hy)
            match e.cells, hec with
            | [u], _ => simp [setRange, hyc]
          · cases h
        · cases h
      · cases h
    · cases h
  · cases h

theorem store_ok (hs : SR w G L σ tm) {t : TypeId} {a x : Operand} {n : Nat} {b y : Opd} (hf : fitO P (.store t a x) (.store n b y) = true) {d : Option Nat} {r : T} {σ' : St} (hx : effO σ d (.store n b y) = some (.ok r σ')) :
    Good P ((execOp (Act.eval ⟨tm, ds⟩) ⟨dst, .store t a x, ty, pos, af, gd⟩).run P w) w G L σ tm r σ' := by
  simp only [fitO, Bool.and_eq_true, beq_iff_eq, decide_eq_true_eq] at hf
  obtain ⟨⟨⟨hsz, hpos⟩, h1⟩, h2⟩ := hf
  simp only [effO, Option.bind_eq_some_iff] at hx
  obtain ⟨v, hv, hx⟩ := hx
  split at hx
  · rename_i hn
    simp only [Option.map_eq_some_iff] at hx
    obtain ⟨σ1, hσ, e⟩ := hx
    cases e
    have hvr := val_ok (ds := ds) hs.ev h2 hv
    by_cases hn0 : v.cells = []
    · rw [hn0] at hn; simp at hn; omega
    · have hcr := hvr.cells hn0
      obtain ⟨ad, w', G', ea, hr, h3, h4⟩ := storeAt_ok (P := P) hs (ev_ok (ds := ds) hs.ev h1) hcr hσ
      refine Good.skip ?_ h3 h4
      have hlen : (Act.eval ⟨tm, ds⟩ x).cells.size = n := by have := hcr.length; simp at this; omega
      simp [execOp, Instr.storeAt, ea, Instr.sureAddr, storeVar, run_sizeT hsz, hlen, hr]
  · cases hx

end
end Go.Vm
end
