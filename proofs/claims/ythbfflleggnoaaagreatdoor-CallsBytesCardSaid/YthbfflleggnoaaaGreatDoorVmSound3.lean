/- The VM is right: orders that are drawn; code. -/
import Derived.Test.YthbfflleggnoaaaGreatDoorVmSound2
set_option linter.unusedSimpArgs false
set_option linter.unusedVariables false
namespace Go.Vm
open Go Go.RowKit

section
variable {P : Program} {D : List Deferred}

theorem depss_at : ∀ {os : List Oper} {deps : List (List Nat)}, fitDepss os deps = true → ∀ {i : Nat} {o : Oper}, os[i]? = some o → fitDeps o (deps.getD i []) = true
  | [], _, _, i, o, h => by cases h
  | o' :: os, d :: ds, hf, i, o, h => by
    simp only [fitDepss, Bool.and_eq_true] at hf
    cases i with
    | zero => cases h; exact hf.1
    | succ i => simpa using depss_at hf.2 (i := i) h
  | _ :: _, [], hf, _, _, _ => by cases hf

theorem back_at : ∀ {os : List Oper} {k : Nat}, fitBack k os = true → ∀ {i : Nat} {o : Oper}, os[i]? = some o → ∀ e ∈ o.after, Region.binds .any e = true → e.on < k + i
  | [], _, _, i, o, h => by cases h
  | o' :: os, k, hf, i, o, h => by
    simp only [fitBack, Bool.and_eq_true] at hf
    cases i with
    | zero =>
      cases h
      intro e he hb
      have := Array.all_eq_true'.1 hf.1 e he
      rw [hb] at this
      simpa using this
    | succ i =>
      intro e he hb
      have := back_at hf.2 (i := i) h e he hb
      omega

theorem go_mem {ops : Array Oper} {deps : List (List Nat)} (hd : fitDepss ops.toList deps = true) (hb : fitBack 0 ops.toList = true) :
    ∀ (fuel t : Nat) (listed : Array Bool) (done : List Nat), listed.size = ops.size → (∀ i, listed.getD i false = done.contains i) → Region.linearise.go .any ops fuel t listed [] ∈ orders deps ops.size fuel done
  | 0, t, listed, done, _, _ => by simp [Region.linearise.go, orders]
  | fuel + 1, t, listed, done, hsz, hl => by
    simp only [Region.linearise.go]
    have htrue : ∀ i, i < ops.size → listed.getD i true = done.contains i := by
      intro i hi
      rw [← hl i]
      have : i < listed.size := by omega
      simp [Array.getD_eq_getD_getElem?, this]
    have hsub : ∀ i, i ∈ Region.ready .any ops listed → i ∈ ready deps ops.size done := by
      intro i hi
      simp only [Region.ready, List.mem_filter, List.mem_range, Bool.and_eq_true, Bool.not_eq_true'] at hi
      obtain ⟨h1, h2, h3⟩ := hi
      simp only [ready, List.mem_filter, List.mem_range, Bool.and_eq_true, Bool.not_eq_true']
      refine ⟨h1, by rw [← htrue i h1]; exact h2, ?_⟩
      have ho : ops[i]? = some ops[i] := Array.getElem?_eq_getElem h1
      rw [ho] at h3
      simp only [Option.map_some, Option.getD_some] at h3
      have hdi := depss_at hd (i := i) (o := ops[i]) (by simp)
      rw [List.all_eq_true]
      intro j hj
      have := List.all_eq_true.1 hdi j hj
      obtain ⟨e, he, hb1⟩ := Array.any_eq_true'.1 this
      simp only [Bool.and_eq_true, beq_iff_eq] at hb1
      have := Array.all_eq_true'.1 h3 e he
      rw [hb1.2] at this
      simp only [Bool.not_true, Bool.false_or] at this
      rw [← hl j, ← hb1.1]; exact this
    change (match (Region.ready .any ops listed)[t % (Region.ready .any ops listed).length]? with
      | some i => Region.linearise.go .any ops fuel (t / (Region.ready .any ops listed).length) (listed.setIfInBounds i true) [i]
      | none => [].reverse) ∈ _
    cases hi : (Region.ready .any ops listed)[t % (Region.ready .any ops listed).length]? with
    | some i =>
      have him := List.mem_of_getElem? hi
      have hvm := hsub i him
      have hlt : i < ops.size := by
        simp only [Region.ready, List.mem_filter, List.mem_range] at him
        exact him.1
      simp only []
      rw [linearise_go_acc, List.reverse_singleton, List.singleton_append]
      have ih := go_mem hd hb fuel (t / (Region.ready .any ops listed).length) (listed.setIfInBounds i true) (i :: done) (by simpa using hsz) (by
        intro j
        simp only [Array.getD_eq_getD_getElem?, Array.getElem?_setIfInBounds, List.contains_cons]
        by_cases e : i = j
        · subst e
          have h1 : i < listed.size := by omega
          simp [h1]
        · have e2 : (j == i) = false := by simpa using fun h => e h.symm
          rw [if_neg e, e2, Bool.false_or, ← hl j, Array.getD_eq_getD_getElem?])
      unfold orders
      cases hr : ready deps ops.size done with
      | nil => rw [hr] at hvm; cases hvm
      | cons x xs =>
        rw [hr] at hvm
        exact List.mem_flatMap.2 ⟨i, hvm, List.mem_map.2 ⟨_, ih, rfl⟩⟩
    | none =>
      have hnil : Region.ready .any ops listed = [] := by
        cases hr : Region.ready .any ops listed with
        | nil => rfl
        | cons x xs =>
          rw [hr] at hi
          have hlt : t % (x :: xs).length < (x :: xs).length := Nat.mod_lt _ (by simp)
          rw [List.getElem?_eq_getElem hlt] at hi; cases hi
      have hall : ∀ k i, i < k → i < ops.size → done.contains i = true := by
        intro k
        induction k with
        | zero => intro i h; omega
        | succ k ih =>
          intro i hik hi
          cases hc : done.contains i with
          | true => rfl
          | false =>
            exfalso
            have : i ∈ Region.ready .any ops listed := by
              simp only [Region.ready, List.mem_filter, List.mem_range, Bool.and_eq_true, Bool.not_eq_true']
              refine ⟨hi, by rw [htrue i hi]; exact hc, ?_⟩
              have ho : ops[i]? = some ops[i] := Array.getElem?_eq_getElem hi
              rw [ho]
              simp only [Option.map_some, Option.getD_some]
              rw [Array.all_eq_true']
              intro e he
              cases hbe : Region.binds .any e with
              | false => rfl
              | true =>
                have := back_at hb (i := i) (o := ops[i]) (by simp) e he hbe
                rw [hl e.on]
                simpa using ih e.on (by omega) (by omega)
            rw [hnil] at this; cases this
      have hr : ready deps ops.size done = [] := by
        simp only [ready, List.filter_eq_nil_iff, List.mem_range, Bool.and_eq_true, not_and]
        intro i hi h
        rw [hall (i + 1) i (by omega) hi] at h
        cases h
      unfold orders
      rw [hr]
      simp

/-- Places for what a region makes. -/
theorem SR.holes {w : World} {G : Gh} {L : Lm} {σ : St} {tm : Array Value} (hs : SR w G L σ tm) (k : Nat) : SR w G L (σ.drawn k) tm ∧ Ext w G L σ w G L (σ.drawn k) := by
  have hold : ∀ id, id < σ.h.length → (σ.drawn k).h[id]? = σ.h[id]? := fun id h => by show (σ.h ++ _)[id]? = _; rw [List.getElem?_append_left h]
  have hnew : ∀ id o, σ.h.length ≤ id → (σ.drawn k).h[id]? = some o → o = .hole := by
    intro id o hle h
    have h' : (σ.h ++ List.replicate k HO.hole)[id]? = some o := h
    rw [List.getElem?_append_right hle, List.getElem?_replicate] at h'
    split at h'
    · cases h'; rfl
    · cases h'
  have hown : ∀ id, ownB G (σ.drawn k).h id = ownB G σ.h id := by
    intro id
    rcases Nat.lt_or_ge id σ.h.length with h | h
    · unfold ownB; rw [hold id h]
    · unfold ownB
      rw [List.getElem?_eq_none h]
      cases ho : (σ.drawn k).h[id]? with
      | none => rfl
      | some o => rw [hnew id o h ho]
  refine ⟨⟨⟨?_, ?_, ?_, ?_, hs.hp.stl⟩, ⟨?_, hs.lc.inj, hs.lc.fresh⟩, hs.ev⟩, ?_⟩
  · intro id o ho
    rcases Nat.lt_or_ge id σ.h.length with h | h
    · rw [hold id h] at ho; exact hs.hp.obj id o ho
    · rw [hnew id o h ho]; exact hs.hp.dom id h
  · intro id hle
    have : (σ.drawn k).h.length = σ.h.length + k := by simp [St.drawn]
    exact hs.hp.dom id (by omega)
  · intro i j B hi hj; rw [hown] at hi hj; exact hs.hp.inj i j B hi hj
  · intro i B hi; rw [hown] at hi; exact hs.hp.ost i B hi
  · intro d g cs hd
    obtain ⟨B, h1, h2, h3, h4⟩ := hs.lc.obj d g cs hd
    exact ⟨B, h1, h2, h3, fun id => by rw [hown]; exact h4 id⟩
  · exact ⟨rfl, rfl, rfl, Nat.le_refl _, fun _ _ _ _ => rfl, fun _ h => h, fun _ _ h => h, fun _ _ _ h => h, fun _ _ _ h => h, fun _ h => .inl h, fun id B h => .inl ⟨id, by rw [hown] at h; exact h⟩, fun d g cs B h1 h2 => .inl ⟨d, g, cs, h1, h2⟩⟩

/-- What is forgotten at a loop's head. -/
theorem keepM_some {m : Nat → Option (Nat × List V)} : ∀ {ls : List Nat} {d : Nat} {q : Nat × List V}, keepM m ls d = some q → m d = some q
  | [], d, q, h => by cases h
  | t :: ts, d, q, h => by
    simp only [keepM, upd] at h
    by_cases e : d = t
    · subst e; simpa using h
    · have e1 : (d == t) = false := by simpa using e
      rw [e1, cond_false] at h; exact keepM_some h

theorem keepE_TR {G : Gh} {w : World} {L : Lm} {e : Nat → T} {tm : Array Value} (h : ERel G w L e tm) : ∀ ks, ERel G w L (keepE e ks) tm
  | [], t => .v _ _ (.undef _)
  | k :: ks, t => by
    simp only [keepE, upd]
    by_cases he : t = k
    · subst he; simp only [beq_self_eq_true, cond_true]; exact h t
    · have e1 : (t == k) = false := by simpa using he
      rw [e1, cond_false]; exact keepE_TR h ks t

theorem SR.keep {w : World} {G : Gh} {L : Lm} {σ : St} {tm : Array Value} (hs : SR w G L σ tm) (ks ls : List Nat) : SR w G L (σ.keep ks ls) tm ∧ Ext w G L σ w G L (σ.keep ks ls) := by
  refine ⟨⟨hs.hp, ⟨fun d g cs hd => hs.lc.obj d g cs (keepM_some hd), fun d d' g g' cs cs' B h1 h2 => hs.lc.inj d d' g g' cs cs' B (keepM_some h1) (keepM_some h2), hs.lc.fresh⟩, keepE_TR hs.ev ks⟩, ?_⟩
  exact ⟨rfl, rfl, rfl, Nat.le_refl _, fun _ _ _ _ => rfl, fun _ h => h, fun _ _ h => h, fun _ _ _ h => h, fun _ _ _ h => h, fun _ h => .inl h, fun id B h => .inl ⟨id, h⟩, fun d g cs B h1 h2 => .inl ⟨d, g, cs, keepM_some h1, h2⟩⟩

theorem EX.normal {G : Gh} {w : World} {ex : Ex} (h : EX G w ex .normal) : ex = .normal := by cases ex <;> first | rfl | exact h.elim

theorem EX.inv {G : Gh} {w : World} {ex : Ex} {e : Exit} (h : EX G w ex e) (hn : ex ≠ .normal) : e ≠ .normal := by
  intro he; subst he; exact hn h.normal

theorem then_post {nt : Nat} {w : World} {G : Gh} {L : Lm} {σ : St} {ex : Ex} {σ' : St} {e : Exit} {a : Act} {w' : World} (hp : Post D nt w G L σ ex σ' e a w') (hn : ex ≠ .normal) {next : Act → World → Prop} {Q : Exit → Act → World → Prop} (h : Q e a w') : Exit.then next Q e a w' := by
  obtain ⟨_, _, _, _, he, _⟩ := hp
  have := he.inv hn
  cases e <;> first | exact absurd rfl this | exact h

theorem least_ex {p : Nat → Prop} : ∀ (n : Nat), p n → ∃ m, p m ∧ ∀ k, p k → m ≤ k := by
  intro n
  induction n using Nat.strongRecOn with
  | _ n ih =>
    intro hp
    by_cases h : ∃ k, k < n ∧ p k
    · obtain ⟨k, hk, hpk⟩ := h; exact ih k hk hpk
    · exact ⟨n, hp, fun k hk => Nat.le_of_not_lt fun hlt => h ⟨k, hlt, hk⟩⟩

open Classical in
noncomputable def least (p : Nat → Prop) : Nat := if h : ∃ m, p m ∧ ∀ k, p k → m ≤ k then h.choose else 0

theorem least_spec {p : Nat → Prop} {n : Nat} (h : p n) : p (least p) ∧ ∀ k, p k → least p ≤ k := by
  have hex := least_ex n h
  unfold least
  rw [dif_pos hex]
  exact hex.choose_spec

/-- Code. -/
theorem codeN_sound (hm : P.follows .mixedOrders = true) {call : Calls1} (hc : CallOK P call) {nt n : Nat} : ∀ (sc : SC) (c : Code) {σ : St} {a : Act} {w : World} {G : Gh} {L : Lm} {ex : Ex} {σ' : St}, fitCode P nt c sc = true →
    SR w G L σ a.tmps → nt ≤ a.tmps.size → a.defers = D → codeN call n sc σ = some (ex, σ') → c.wp P (Post D nt w G L σ ex σ') a w := by
  intro sc
  induction sc with
  | skip =>
    intro c σ a w G L ex σ' hf hs hn hd h
    simp only [codeN] at h
    cases h
    have hpost : Post D nt w G L σ .normal σ .normal a w := ⟨hd, hn, G, L, trivial, hs, Ext.refl w G L σ⟩
    cases c with
    | skip => exact wp_skip hpost
    | region id ops dr =>
      have he : ops = #[] := by
        have : ops.isEmpty = true := by cases dr <;> exact hf
        simpa using this
      subst he
      cases dr with
      | false => exact wp_region (by simpa [wpOps] using hpost)
      | true =>
        refine wp_region_any hm ?_
        obtain ⟨h1, h2⟩ := hs.draw (w' := w.drew) rfl
        have : Post D nt w G L σ .normal σ .normal a w.drew := ⟨hd, hn, G, L, trivial, h1, h2⟩
        exact ⟨rfl, this⟩
    | _ => first | (cases hf; done) | (rename_i dr; cases dr <;> cases hf)
  | ops l =>
    intro c σ a w G L ex σ' hf hs hn hd h
    simp only [codeN] at h
    cases c with
    | region id ops dr =>
      cases dr with
      | true => cases hf
      | false =>
        have hat := fitOps_at (ops := ops) (os := ops.toList) hf
        have hat' : FitAt P nt ops l := fun i => by simpa using hat i
        refine wp_region (runOps_sound hc hat' _ hs hn hd ?_ fun e a' w' hp => hp)
        rw [fitAt_len hat', pickOps_range]; exact h
    | _ => first | (cases hf; done) | (rename_i dr; cases dr <;> cases hf)
  | draw k deps l =>
    intro c σ a w G L ex σ' hf hs hn hd h
    simp only [codeN, runDraw] at h
    split at h
    · rename_i hall
      replace h := (onlyN_some h).1
      cases c with
      | region id ops dr =>
        cases dr with
        | false => cases hf
        | true =>
          have hf' : (fitOps P nt ops ops.toList l && fitDepss ops.toList deps && fitBack 0 ops.toList) = true := hf
          simp only [Bool.and_eq_true] at hf'
          obtain ⟨⟨hf1, hf2⟩, hf3⟩ := hf'
          have hat' : FitAt P nt ops l := fun i => by simpa using fitOps_at (ops := ops) (os := ops.toList) hf1 i
          refine wp_region_draw fun t => ?_
          simp only [Region.schedule, hm, Bool.true_or, if_true]
          have hmem := go_mem hf2 hf3 ops.size t (Array.replicate ops.size false) [] (by simp) (by intro i; simp [Array.getD_eq_getD_getElem?, Array.getElem?_replicate]; split <;> rfl)
          rw [fitAt_len hat'] at hmem
          have hr := hall _ hmem
          obtain ⟨h1, h2⟩ := hs.draw (w' := w.drew) rfl
          obtain ⟨h3, h4⟩ := h1.holes k
          refine runOps_sound hc hat' _ h3 hn hd ?_ fun e a' w' hp => hp.trans (h2.trans h4)
          have e : Region.linearise .any ops t = Region.linearise.go .any ops l.length t (Array.replicate l.length false) [] := by
            unfold Region.linearise; rw [fitAt_len hat']
          rw [e, hr]; exact h
      | _ => first | (cases hf; done) | (rename_i dr; cases dr <;> cases hf)
    · cases h
  | seq x y ihx ihy =>
    intro c σ a w G L ex σ' hf hs hn hd h
    cases c with
    | seq cx cy =>
      simp only [fitCode, Bool.and_eq_true] at hf
      simp only [codeN] at h
      cases hq : codeN call n x σ with
      | none => rw [hq] at h; cases h
      | some q =>
        rw [hq] at h
        obtain ⟨ex1, σ1⟩ := q
        refine wp_seq (wp_mono (ihx cx hf.1 hs hn hd hq) fun e a1 w1 hp => ?_)
        by_cases hnorm : ex1 = .normal
        · subst hnorm
          have h' : codeN call n y σ1 = some (ex, σ') := h
          obtain ⟨p1, p2, G1, L1, p3, p4, p5⟩ := hp
          cases e with
          | normal => exact wp_mono (ihy cy hf.2 p4 p2 p1 h') fun e a2 w2 hp2 => hp2.trans p5
          | _ => exact p3.elim
        · refine then_post hp hnorm ?_
          cases ex1 with
          | normal => exact absurd rfl hnorm
          | _ => cases h; exact hp
    | _ => first | (cases hf; done) | (rename_i dr; cases dr <;> cases hf)
  | cond x y z ihy ihz =>
    intro c σ a w G L ex σ' hf hs hn hd h
    cases c with
    | cond cx cy cz =>
      simp only [fitCode, Bool.and_eq_true] at hf
      simp only [codeN] at h
      split at h
      · rename_i t ht
        obtain ⟨tm, ds⟩ := a
        have := ev_ok (ds := ds) hs.ev hf.1.1
        rw [ht] at this
        refine wp_cond (t := t) this.inv_v.inv_bool ?_
        cases t with
        | true => exact ihy cy hf.1.2 hs hn hd h
        | false => exact ihz cz hf.2 hs hn hd h
      · cases h
    | _ => first | (cases hf; done) | (rename_i dr; cases dr <;> cases hf)
  | block id ks ls y ih =>
    intro c σ a w G L ex σ' hf hs hn hd h
    cases c with
    | block id' cy =>
      simp only [fitCode, Bool.and_eq_true, beq_iff_eq] at hf
      obtain ⟨rfl, hf⟩ := hf
      simp only [codeN] at h
      cases hq : codeN call n y σ with
      | none => rw [hq] at h; cases h
      | some q =>
        rw [hq] at h
        obtain ⟨ex1, σ1⟩ := q
        refine wp_block (wp_mono (ih cy hf hs hn hd hq) fun e a1 w1 hp => ?_)
        obtain ⟨p1, p2, G1, L1, p3, p4, p5⟩ := hp
        cases ex1 with
        | exit i =>
          cases e with
          | exit j =>
            cases (show j = i from p3)
            simp only [Exit.inBlock]
            dsimp only at h
            split at h
            · rename_i e; rw [if_pos e]; cases h; exact ⟨p1, p2, G1, L1, trivial, (p4.keep ks ls).1, p5.trans (p4.keep ks ls).2⟩
            · rename_i e; rw [if_neg e]; cases h; exact ⟨p1, p2, G1, L1, rfl, p4, p5⟩
          | _ => exact p3.elim
        | normal => cases h; cases e with
          | normal => exact ⟨p1, p2, G1, L1, p3, p4, p5⟩
          | _ => exact p3.elim
        | ret => cases h; cases e with
          | ret => exact ⟨p1, p2, G1, L1, p3, p4, p5⟩
          | _ => exact p3.elim
        | pan v => cases h; cases e with
          | panic ch => exact ⟨p1, p2, G1, L1, p3, p4, p5⟩
          | _ => exact p3.elim
    | _ => first | (cases hf; done) | (rename_i dr; cases dr <;> cases hf)
  | loop ks ls y ih =>
    intro c σ a w G L ex σ' hf hs hn hd h
    cases c with
    | loop cy =>
      have hf' : fitCode P nt cy y = true := hf
      simp only [codeN] at h
      let J : Nat → Act → World → Prop := fun m a1 w1 => ∃ G1 L1 σ1, SR w1 G1 L1 σ1 a1.tmps ∧ nt ≤ a1.tmps.size ∧ a1.defers = D ∧ Ext w G L σ w1 G1 L1 σ1 ∧ iter (fun σ => codeN call n y (σ.keep ks ls)) m σ1 = some (ex, σ')
      refine wp_loop (fun a1 w1 => ∃ m, J m a1 w1) (fun a1 w1 => least fun m => J m a1 w1) ⟨n, G, L, σ, hs, hn, hd, Ext.refl w G L σ, h⟩ ?_
      intro a1 w1 hJ
      obtain ⟨m0, hm0⟩ := hJ
      have hspec := (least_spec (p := fun m => J m a1 w1) hm0).1
      generalize hk : (least fun m => J m a1 w1) = m at hspec
      obtain ⟨G1, L1, σ1, q1, q2, q3, q4, q5⟩ := hspec
      cases m with
      | zero => cases q5
      | succ m =>
        simp only [iter] at q5
        cases hq : codeN call n y (σ1.keep ks ls) with
        | none => rw [hq] at q5; cases q5
        | some q =>
          rw [hq] at q5
          obtain ⟨ex1, σ2⟩ := q
          obtain ⟨k1, k2⟩ := q1.keep ks ls
          refine wp_mono (ih cy hf' k1 q2 q3 hq) fun e a2 w2 hp => ?_
          by_cases hnorm : ex1 = .normal
          · subst hnorm
            obtain ⟨p1, p2, G2, L2, p3, p4, p5⟩ := hp
            cases e with
            | normal =>
              have hJ2 : J m a2 w2 := ⟨G2, L2, σ2, p4, p2, p1, q4.trans (k2.trans p5), q5⟩
              refine ⟨⟨m, hJ2⟩, ?_⟩
              exact Nat.lt_succ_of_le ((least_spec (p := fun m => J m a2 w2) hJ2).2 m hJ2)
            | _ => exact p3.elim
          · refine then_post hp hnorm ?_
            cases ex1 with
            | normal => exact absurd rfl hnorm
            | _ => cases q5; exact hp.trans (q4.trans k2)
    | _ => first | (cases hf; done) | (rename_i dr; cases dr <;> cases hf)
  | exit id =>
    intro c σ a w G L ex σ' hf hs hn hd h
    simp only [codeN] at h
    cases h
    cases c with
    | exit id' =>
      simp only [fitCode, beq_iff_eq] at hf
      subst hf
      exact wp_exit ⟨hd, hn, G, L, rfl, hs, Ext.refl w G L σ⟩
    | _ => first | (cases hf; done) | (rename_i dr; cases dr <;> cases hf)
  | ret =>
    intro c σ a w G L ex σ' hf hs hn hd h
    simp only [codeN] at h
    cases h
    cases c with
    | ret => exact wp_ret ⟨hd, hn, G, L, trivial, hs, Ext.refl w G L σ⟩
    | _ => first | (cases hf; done) | (rename_i dr; cases dr <;> cases hf)

end
end Go.Vm
