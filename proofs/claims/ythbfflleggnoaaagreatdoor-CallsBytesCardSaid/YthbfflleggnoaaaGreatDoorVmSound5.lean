/- The VM is right: calls. -/
import Derived.Test.YthbfflleggnoaaaGreatDoorVmSound4
set_option linter.unusedSimpArgs false
set_option linter.unusedVariables false
namespace Go.Vm
open Go Go.RowKit

section
variable {P : Program}

/-- The ghost of a call's end: what the call made is only read from now on. -/
def Gh.fin (G : Gh) (n : Nat) (h : List HO) : Gh where
  st := fun B => G.st B ∨ ∃ id, n ≤ id ∧ ownB G h id = some B
  ob := fun id => if id < n then G.ob id else none
  rw := fun id v => if id < n then G.rw id v else none

theorem Gh.fin_LeN (G : Gh) (n : Nat) (h : List HO) : LeN n G (G.fin n h) :=
  ⟨fun _ h => .inl h, fun id B hl e => by show (if id < n then _ else _) = _; rw [if_pos hl]; exact e, fun id v r hl e => by show (if id < n then _ else _) = _; rw [if_pos hl]; exact e⟩

/-- An answer that is frozen. -/
theorem frz1_ok {w : World} {G : Gh} {h : List HO} (hw : WR w G h) {n : Nat} {v v' : V} {x : Value} (hf : frz1 n h v = some v') (hv : VR G w v x) : VR (G.fin n h) w v' x ∧ (v.isC → v'.isC) := by
  unfold frz1 at hf
  split at hf
  · rename_i hp
    cases hf
    exact ⟨VR.cutN (G.fin_LeN n h) hv (pure_below n _ hp), fun h => h⟩
  · split at hf
    · cases hf
      rw [hv.inv_nils]
      exact ⟨.snil _ _, fun _ => trivial⟩
    · rename_i id ver s off len hnp
      split at hf
      · cases hf
      · rename_i hid
        split at hf
        · rename_i ver' row hm
          split at hf
          · rename_i hc
            obtain ⟨rfl, hle, hp⟩ := hc
            cases hf
            refine ⟨?_, fun _ => trivial⟩
            obtain ⟨r, a, cap, hr, rfl, h1, h2, ha, rfl⟩ := hv.inv_sl
            obtain ⟨r', hr', _, hor⟩ := hw.obj _ _ hm
            rw [hr] at hr'; cases hr'
            have hst : (G.fin n h).st r.B := .inr ⟨id, Nat.le_of_not_lt hid, by unfold ownB; rw [hm]; dsimp only; rw [hr]; rfl⟩
            obtain ⟨xs, hci, hcr, hl⟩ := hor.cellsIn
            have hlen : ((row.drop off).take len).length = len := by simp; omega
            by_cases h0 : len = 0
            · subst h0; rw [List.take_zero]; exact .snil _ _
            · have ha' := ha.resolve_left (by omega)
              subst ha'
              have := VR.snap (G := G.fin n h) (w := w) ((row.drop off).take len) r.B (r.base + off * r.s) r.s cap ((xs.drop (off * r.s)).take (len * r.s)) hst ((hci.drop (off * r.s)).take (len * r.s))
                (fun v hv => hl v (List.mem_of_mem_drop (List.mem_of_mem_take hv))) (by omega) (by
                  rw [flat_take _ (fun v hv => hl v (List.mem_of_mem_drop hv)), flat_drop _ hl]
                  refine CRs.cutN (G.fin_LeN n h) ((hcr.drop _).take _) ?_
                  rw [← flat_drop _ hl, ← flat_take _ (fun v hv => hl v (List.mem_of_mem_drop hv))]
                  have hall := (belowcs_flat row).1 (pures_belowcs n row hp)
                  have hsub : row = row.take off ++ ((row.drop off).take len ++ (row.drop off).drop len) := by rw [List.take_append_drop, List.take_append_drop]
                  rw [hsub, List.flatMap_append, List.flatMap_append, belows_append, belows_append] at hall
                  exact hall.2.1)
              rw [hlen] at this
              exact this
          · cases hf
        · cases hf
    · cases hf

theorem frzs_ok {w : World} {G : Gh} {h : List HO} (hw : WR w G h) {n : Nat} : ∀ {vs vs' : List V} {xs : List Value}, frzs n h vs = some vs' → CRs G w vs xs → CRs (G.fin n h) w vs' xs
  | [], _, _, hf, hv => by cases hf; cases hv; exact .nil
  | v :: vs, _, _, hf, hv => by
    simp only [frzs, Option.bind_eq_some_iff] at hf
    obtain ⟨v1, h1, vs1, h2, e⟩ := hf
    cases e
    cases hv with
    | cons _ x _ xs hc hx hv hs =>
      obtain ⟨h3, h4⟩ := frz1_ok hw h1 hv
      exact .cons _ _ _ _ (h4 hc) hx h3 (frzs_ok hw h2 hs)

theorem frz2_ok {w : World} {G : Gh} {h : List HO} (hw : WR w G h) {n : Nat} {v v' : V} {x : Value} (hf : frz2 n h v = some v') (hv : VR G w v x) : VR (G.fin n h) w v' x := by
  unfold frz2 at hf
  split at hf
  · obtain ⟨cs, h1, rfl⟩ := Option.map_eq_some_iff.1 hf
    obtain ⟨xs, h2, rfl⟩ := hv.inv_agg
    exact .agg _ _ (frzs_ok hw h1 h2)
  · exact (frz1_ok hw hf hv).1

theorem frz2s_ok {w : World} {G : Gh} {h : List HO} (hw : WR w G h) {n : Nat} : ∀ {vs vs' : List V} {xs : List Value}, frz2s n h vs = some vs' → VRs G w vs xs → VRs (G.fin n h) w vs' xs
  | [], _, _, hf, hv => by cases hf; cases hv; exact .nil
  | v :: vs, _, _, hf, hv => by
    simp only [frz2s, Option.bind_eq_some_iff] at hf
    obtain ⟨v1, h1, vs1, h2, e⟩ := hf
    cases e
    cases hv with
    | cons _ x _ xs hv hs => exact .cons _ _ _ _ (frz2_ok hw h1 hv) (frz2s_ok hw h2 hs)

theorem frz_ok {w : World} {G : Gh} {h : List HO} (hw : WR w G h) {n : Nat} {v v' : V} {x : Value} (hf : frz n h v = some v') (hv : VR G w v x) : VR (G.fin n h) w v' x := by
  unfold frz at hf
  split at hf
  · obtain ⟨cs, h1, rfl⟩ := Option.map_eq_some_iff.1 hf
    obtain ⟨xs, h2, rfl⟩ := hv.inv_tuple
    exact .tuple _ _ (frz2s_ok hw h1 h2)
  · exact frz2_ok hw hf hv

theorem ER.nb {G : Gh} {w : World} {n : Nat} (hd : Dom n G) {l : List (V × V × Nat)} {es : List MapEntry} (h : ER G w l es) : ∀ p ∈ l, V.nb n p.1 ∧ V.nb n p.2.1 := by
  induction h with
  | nil => intro p hp; cases hp
  | cons k v b e l es hk hv hb _ ih =>
    intro p hp
    rcases List.mem_cons.1 hp with rfl | hp
    · exact ⟨VR.nb hd hk, VR.nb hd hv⟩
    · exact ih p hp

theorem ER.cutN {G G' : Gh} {w : World} {n : Nat} (hle : LeN n G G') {l : List (V × V × Nat)} {es : List MapEntry} (h : ER G w l es) : (∀ p ∈ l, V.nb n p.1 ∧ V.nb n p.2.1) → ER G' w l es := by
  induction h with
  | nil => intro _; exact .nil
  | cons k v b e l es hk hv hb _ ih =>
    intro hp
    have h1 := hp (k, v, b) (by simp)
    exact .cons k v b e l es (VR.cutN hle hk h1.1) (VR.cutN hle hv h1.2) hb (ih fun p hm => hp p (by simp [hm]))

/-- A call's end: what it made is forgotten. -/
theorem fin_ok {w w' : World} {G G' : Gh} {h h' : List HO} (hw0 : WR w G h) (hx : Ext w G L0 (St.init [] h) w' G' L0 (St.init [] h')) (hw : WR w' G' h') (ht : h'.take h.length = h) :
    Ext w G L0 (St.init [] h) w' (G'.fin h.length h') L0 (St.init [] h) ∧ WR w' (G'.fin h.length h') h := by
  have hD : Dom h.length G := hw0.dom
  have hget : ∀ id, id < h.length → h'[id]? = h[id]? := by
    intro id hl
    have : (h'.take h.length)[id]? = h'[id]? := List.getElem?_take_of_lt hl
    rw [← this, ht]
  have hlen : h.length ≤ h'.length := by
    have := congrArg List.length ht
    simp at this; omega
  have hob : ∀ id, id < h.length → (G'.fin h.length h').ob id = G'.ob id := fun id hl => by show (if id < _ then _ else _) = _; rw [if_pos hl]
  have hrw : ∀ id v, id < h.length → (G'.fin h.length h').rw id v = G'.rw id v := fun id v hl => by show (if id < _ then _ else _) = _; rw [if_pos hl]
  have hownlt : ∀ id, id < h.length → ownB (G'.fin h.length h') h id = ownB G' h' id := by
    intro id hl
    unfold ownB
    rw [hget id hl]
    split <;> first | exact hob id hl | (rw [hrw id _ hl]) | rfl
  have hownge : ∀ id, h.length ≤ id → ownB (G'.fin h.length h') h id = none := by
    intro id hl; unfold ownB; rw [List.getElem?_eq_none hl]
  have hownG : ∀ id B, ownB G h id = some B → id < h.length ∧ ownB G' h' id = some B := by
    intro id B hB
    have hl : id < h.length := by
      rcases Nat.lt_or_ge id h.length with hl | hl
      · exact hl
      · unfold ownB at hB; rw [List.getElem?_eq_none hl] at hB; cases hB
    refine ⟨hl, ?_⟩
    unfold ownB at hB ⊢
    rw [hget id hl]
    revert hB
    cases h[id]? with
    | none => exact fun hB => hB
    | some o =>
      cases o with
      | cells cs => exact fun hB => hx.ob id B hB
      | map es c => exact fun hB => hx.ob id B hB
      | row ver l =>
        intro hB
        obtain ⟨r, hr, e⟩ := Option.map_eq_some_iff.1 hB
        show (G'.rw id ver).map (·.B) = some B
        rw [hx.rw id ver r hr]; exact congrArg some e
      | hole => exact fun hB => hB
  refine ⟨⟨hx.os, hx.tape, hx.output, hx.sz, hx.fr, fun B hB => .inl (hx.st B hB), fun id B e => by rw [hob id (hD.ob e)]; exact hx.ob id B e, fun id v r e => by rw [hrw id v (hD.rw e)]; exact hx.rw id v r e,
    fun _ _ _ h => h, ?_, ?_, fun d g cs B h => by cases h⟩, ⟨?_, ?_, ?_, ?_, ?_⟩⟩
  · rintro B (hB | ⟨id, hid, hB⟩)
    · exact hx.stn B hB
    · rcases hx.own id B hB with ⟨j, hj⟩ | hg
      · obtain ⟨h1, h2⟩ := hownG j B hj
        have := hw.inj _ _ B hB h2
        omega
      · exact .inr hg
  · intro id B hB
    rcases Nat.lt_or_ge id h.length with hl | hl
    · have hB' : ownB (G'.fin h.length h') h id = some B := hB
      rw [hownlt id hl] at hB'; exact hx.own id B hB'
    · have hB' : ownB (G'.fin h.length h') h id = some B := hB
      rw [hownge id hl] at hB'; cases hB'
  · intro id o ho
    have hl : id < h.length := by
      rcases Nat.lt_or_ge id h.length with hl | hl
      · exact hl
      · rw [List.getElem?_eq_none hl] at ho; cases ho
    have h0 := hw0.obj id o ho
    have h1 := hw.obj id o (by rw [hget id hl]; exact ho)
    have hle := G'.fin_LeN h.length h'
    cases o with
    | cells cs =>
      obtain ⟨B0, _, c0, el0, fr0, _, hc0, _⟩ := h0
      obtain ⟨B, e, c, el, fr, hb, hc, hf⟩ := h1
      exact ⟨B, (hob id hl).trans e, c, el, fr, hb, CRs.cutN hle hc (CRs.nb hD hc0), hf⟩
    | row ver l =>
      obtain ⟨r0, _, _, c0, el0, fr0, _, _, _, _, _, hc0, _⟩ := h0
      obtain ⟨r, e, hlast, c, el, fr, hb, q1, q2, q3, q4, hc, hf⟩ := h1
      exact ⟨r, (hrw id ver hl).trans e, fun v hv => (hrw id v hl).trans (hlast v hv), c, el, fr, hb, q1, q2, q3, q4, CRs.cutN hle hc (CRs.nb hD hc0), hf⟩
    | map es k =>
      obtain ⟨B0, es0, _, _, h2⟩ := h0
      obtain ⟨B, es', e, hb, h3⟩ := h1
      exact ⟨B, es', (hob id hl).trans e, hb, h3.cutN hle (h2.nb hD)⟩
    | hole => exact ⟨(hob id hl).trans h1.1, fun v => (hrw id v hl).trans (h1.2 v)⟩
  · intro id hl
    exact ⟨by show (if id < _ then _ else _) = _; rw [if_neg (by omega)], fun v => by show (if id < _ then _ else _) = _; rw [if_neg (by omega)]⟩
  · intro i j B hi hj
    rcases Nat.lt_or_ge i h.length with hli | hli
    · rcases Nat.lt_or_ge j h.length with hlj | hlj
      · rw [hownlt i hli] at hi; rw [hownlt j hlj] at hj; exact hw.inj i j B hi hj
      · rw [hownge j hlj] at hj; cases hj
    · rw [hownge i hli] at hi; cases hi
  · intro i B hi
    rcases Nat.lt_or_ge i h.length with hli | hli
    · rw [hownlt i hli] at hi
      rintro (hs | ⟨id, hid, hB⟩)
      · exact hw.ost i B hi hs
      · have := hw.inj _ _ B hi hB; omega
    · rw [hownge i hli] at hi; cases hi
  · rintro B (hB | ⟨id, hid, hB⟩)
    · exact hw.stl B hB
    · exact hw.own_lt hB

theorem finish_ok {w w' : World} {G : Gh} {h h1 : List HO} (hw0 : WR w G h) {keep : Bool} {r1 : CR} {e : Ending} (hp : CPost w G h r1 h1 e w') : CPost w G h (finish keep h r1 h1).1 (finish keep h r1 h1).2 e w' := by
  cases r1 with
  | ret v =>
    simp only [finish]
    split
    · rename_i hc
      split
      · rename_i v' hf
        obtain ⟨G', h2, h3, h4⟩ := hp
        obtain ⟨h5, h6⟩ := fin_ok hw0 h2 h3 hc.2
        refine ⟨_, h5, h6, ?_⟩
        cases e with
        | returned x => exact frz_ok h3 hf h4
        | _ => exact h4.elim
      · exact hp
    · exact hp
  | pan v =>
    simp only [finish]
    split
    · rename_i hc
      obtain ⟨G', h2, h3, h4⟩ := hp
      obtain ⟨h5, h6⟩ := fin_ok hw0 h2 h3 hc.1
      refine ⟨_, h5, h6, ?_⟩
      cases e with
      | panicked c =>
        obtain ⟨x, e1, e2⟩ := h4
        exact ⟨x, e1, VR.cutN (Gh.fin_LeN _ _ _) e2 (pure_below _ _ hc.2)⟩
      | _ => exact h4.elim
    · exact hp

/-! ### results -/

theorem res1_ok {w : World} {G : Gh} {L : Lm} {σ : St} {tm : Array Value} (hs : SR w G L σ tm) {r : ResultVar} {s : RV} (hf : fitRes P [r] [s] = true) {v : V} (hv : resultV σ s = some v) :
    ∃ x, ((match r with | .tmp t => pure (tm.getD t undef) | .cell a t => do loadVar t (← asAddr (tm.getD a undef))) : Sem Value).run P w = .ok x w ∧ VR G w v x := by
  cases r with
  | tmp t =>
    cases s with
    | t n =>
      simp only [fitRes, Bool.and_true, beq_iff_eq] at hf
      subst hf
      simp only [resultV] at hv
      have := hs.ev t
      refine ⟨_, rfl, ?_⟩
      cases he : σ.e t with
      | v u => rw [he] at hv this; cases hv; exact this.inv_v
      | loc a b c => rw [he] at hv; cases hv
    | c n ag z => cases hf
  | cell a t =>
    cases s with
    | t n => cases hf
    | c n ag z =>
      simp only [fitRes, Bool.and_true, Bool.and_eq_true, beq_iff_eq] at hf
      obtain ⟨⟨⟨rfl, h1⟩, h2⟩, h3⟩ := hf
      simp only [resultV, Option.bind_eq_some_iff] at hv
      obtain ⟨cs, hcs, hm⟩ := hv
      obtain ⟨B, off, xs, ea, hci, hcr, hlen⟩ := cellsAt_ok hs (hs.ev a) hcs
      obtain ⟨x, hr, hvr⟩ := mkv_ok (P := P) hm h1 h2 hci hcr hlen
      exact ⟨x, by simp [ea, asAddr, hr], hvr⟩

theorem fitRes_cons {r : ResultVar} {s : RV} {rs : List ResultVar} {ss : List RV} (h : fitRes P (r :: rs) (s :: ss) = true) : fitRes P [r] [s] = true ∧ fitRes P rs ss = true := by
  cases r <;> cases s <;> simp only [fitRes, Bool.and_eq_true, Bool.and_true] at h ⊢ <;> first | exact h | cases h

theorem resList_ok {w : World} {G : Gh} {L : Lm} {σ : St} {tm : Array Value} (hs : SR w G L σ tm) : ∀ {rs : List ResultVar} {ss : List RV}, fitRes P rs ss = true → ∀ {vs : List V}, resultVs σ ss = some vs →
    ∃ xs, (rs.mapM (fun r => (match r with | .tmp t => pure (tm.getD t undef) | .cell a t => do loadVar t (← asAddr (tm.getD a undef))) : ResultVar → Sem Value)).run P w = .ok xs w ∧ VRs G w vs xs
  | [], [], _, vs, hv => by cases hv; exact ⟨[], by simp, .nil⟩
  | r :: rs, s :: ss, hf, vs, hv => by
    obtain ⟨hf1, hf2⟩ := fitRes_cons hf
    simp only [resultVs, Option.bind_eq_some_iff] at hv
    obtain ⟨v, hv1, vs', hv2, e⟩ := hv
    cases e
    obtain ⟨x, h1, h2⟩ := res1_ok hs hf1 hv1
    obtain ⟨xs, h3, h4⟩ := resList_ok hs hf2 hv2
    refine ⟨x :: xs, ?_, .cons _ _ _ _ h2 h4⟩
    simp only [List.mapM_cons, Sem.run_bind, h1, Result.andThen_ok, h3, Sem.run_pure]
  | [], _ :: _, hf, _, _ => by cases hf
  | r :: _, [], hf, _, _ => by cases r <;> cases hf

theorem results_ok {w : World} {G : Gh} {L : Lm} {σ : St} {tm : Array Value} (hs : SR w G L σ tm) {fn : Func} {ss : List RV} (hf : fitRes P fn.results.toList ss = true) {v : V} (hv : results σ ss = some v) :
    ∃ x, (Go.results fn tm).run P w = .ok x w ∧ VR G w v x := by
  have run : ∀ {vs : List V}, resultVs σ ss = some vs → ∃ xs, (Go.results fn tm).run P w = .ok (if h : xs.length = 1 then xs[0] else .tuple xs.toArray) w ∧ VRs G w vs xs := by
    intro vs hvs
    obtain ⟨xs, h1, h2⟩ := resList_ok (P := P) hs hf hvs
    refine ⟨xs, ?_, h2⟩
    unfold Go.results
    rw [Array.mapM_eq_mapM_toList]
    simp only [Sem.run_bind, Sem.run_map, Sem.run_pure]
    exact (congrArg (fun z : Result (List Value) => (z.andThen fun a w' => Result.ok a.toArray w').andThen fun a w' => Result.ok (if h : a.size = 1 then a[0] else Value.tuple a) w') h1)
  have rvs : ∀ {ss : List RV} {vs : List V}, resultVs σ ss = some vs → vs.length = ss.length := by
    intro ss
    induction ss with
    | nil => intro vs h; cases h; rfl
    | cons s ss ih =>
      intro vs h
      simp only [resultVs, Option.bind_eq_some_iff] at h
      obtain ⟨v, _, vs', h2, e⟩ := h
      cases e
      simp [ih h2]
  unfold results at hv
  split at hv
  · rename_i s
    obtain ⟨xs, h1, h2⟩ := run (vs := [v]) (by simp [resultVs, hv])
    cases h2 with
    | cons _ x _ xs h hs' =>
      cases hs'
      exact ⟨x, by simpa using h1, h⟩
  · rename_i hne
    obtain ⟨vs, hvs, rfl⟩ := Option.map_eq_some_iff.1 hv
    obtain ⟨xs, h1, h2⟩ := run hvs
    have hl := h2.length
    have hl2 := rvs hvs
    have : ¬ xs.length = 1 := by
      intro h
      have : ss.length = 1 := by omega
      obtain ⟨s, hs1⟩ := List.length_eq_one_iff.1 this
      exact hne s hs1
    rw [dif_neg this] at h1
    exact ⟨_, h1, .tuple _ _ h2⟩

end
end Go.Vm
