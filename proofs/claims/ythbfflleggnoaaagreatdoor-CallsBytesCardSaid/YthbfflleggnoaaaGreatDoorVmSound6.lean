/- The VM is right: calls; a deferred closure that recovers. -/
import Derived.Test.YthbfflleggnoaaaGreatDoorVmSound5
import Derived.Recover
set_option linter.unusedSimpArgs false
set_option linter.unusedVariables false
namespace Go.Vm
open Go Go.RowKit

section
variable {P : Program}

theorem codeN_seq {call : Calls1} {n : Nat} {a b : SC} {σ σ1 : St} (h : codeN call n (.seq a b) σ = some (.normal, σ1)) : ∃ σa, codeN call n a σ = some (.normal, σa) ∧ codeN call n b σa = some (.normal, σ1) := by
  unfold codeN at h
  cases e : codeN call n a σ with
  | none => rw [e] at h; cases h
  | some q =>
    rw [e] at h
    obtain ⟨ex, σa⟩ := q
    cases ex <;> first | (cases h; done) | exact ⟨σa, rfl, h⟩

/-- The value that a deferred call recovers, beside the frame's mode. -/
def PvR (G : Gh) (w : World) (u : FrameMode) (pv : V) : Prop :=
  (u = .returning ∧ pv = .nili) ∨ ∃ x, u = .panicking [{ v := x, recovered := false }] ∧ VR G w pv x

theorem PvR.mono {G G' : Gh} {w w' : World} (hle : Le G w G' w') {u : FrameMode} {pv : V} (h : PvR G w u pv) : PvR G' w' u pv := by
  rcases h with h | ⟨x, h1, h2⟩
  · exact .inl h
  · exact .inr ⟨x, h1, VR.mono hle h2⟩

theorem fitR_sound (hm : P.follows .mixedOrders = true) {call : Calls1} (hc : CallOK P call) {nt n : Nat} {d : Nat} {rest : SC} {u : FrameMode} {pv : V} {c₀ : Frame} {cs : List Frame} (hu : c₀.mode = u) {ex : Ex} {σ2 : St} :
    ∀ (c : Code) (pre : SC) {σ σ1 : St} {a : Act} {w : World} {G : Gh} {L : Lm}, fitR P nt c pre d rest = true → SR w G L σ a.tmps → nt ≤ a.tmps.size → a.defers = [] → PvR G w u pv →
      codeN call n pre σ = some (.normal, σ1) → codeN call n rest (σ1.put (some d) (.v pv)) = some (ex, σ2) →
      c.wpS P (fun e a' cs' w' => ∃ u', settle u' = .returning ∧ cs' = { c₀ with mode := u' } :: cs ∧ Post [] nt w G L σ ex σ2 e a' w') a (c₀ :: cs) w := by
  intro c
  induction c with
  | seq x y ihx ihy =>
    intro pre σ σ1 a w G L hf hs hn hd hpv h1 h2
    cases pre with
    | seq a' pre' =>
      simp only [fitR, Bool.and_eq_true] at hf
      obtain ⟨σa, e1, e2⟩ := codeN_seq h1
      refine wpS_seq (wpS_of_wp (wp_mono (codeN_sound hm hc a' x hf.1 hs hn hd e1) fun e a1 w1 hp => ?_))
      obtain ⟨p1, p2, G1, L1, p3, p4, p5⟩ := hp
      cases e with
      | normal =>
        have := ihy pre' (w := w1) (G := G1) (L := L1) hf.2 p4 p2 p1 (hpv.mono (p5.le hs)) e2 h2
        intro b k hb hr
        obtain ⟨e', a', cs', w', ⟨u', q1, q2, q3⟩, r⟩ := this b k hb hr
        exact ⟨e', a', cs', w', ⟨u', q1, q2, q3.trans p5⟩, r⟩
      | _ => exact p3.elim
    | skip =>
      cases x with
      | region id ops dr =>
        cases dr with
        | true => cases hf
        | false =>
          simp only [fitR, Bool.and_eq_true] at hf
          obtain ⟨hf1, hf2⟩ := hf
          split at hf1
          · rename_i o ho
            have ho' : ops = #[o] := by apply Array.ext'; simpa using ho
            subst ho'
            simp only [Bool.and_eq_true, beq_iff_eq, decide_eq_true_eq] at hf1
            obtain ⟨⟨⟨hdst, hdn⟩, hg⟩, hop⟩ := hf1
            have hgn : o.guard = none := by simpa using hg
            simp only [codeN] at h1
            cases h1
            have hw : Region.wanted o (yielded #[o] a.tmps) = true := by simp [Region.wanted, hgn]
            have hrun : (execOp a.eval o).run P w = .ok .recover w := by
              obtain ⟨dst, op, ty, pos, af, gd⟩ := o
              dsimp only at hop ⊢
              cases op <;> first | (cases hop; done) | skip
              rename_i cl
              obtain ⟨ce, as, ats⟩ := cl
              cases ce <;> first | (cases hop; done) | skip
              rename_i b
              cases b <;> first | (cases hop; done) | skip
              simp [execOp, resolve, invoke, builtin]
            have next : ∀ {X : Value} {u' : FrameMode}, VR G w pv X → settle u' = .returning → y.wpS P (fun e a' cs' w' => ∃ u', settle u' = .returning ∧ cs' = { c₀ with mode := u' } :: cs ∧ Post [] nt w G L σ ex σ2 e a' w') (a.put o.dst X) ({ c₀ with mode := u' } :: cs) w := by
              intro X u' hX hset
              obtain ⟨e1, e2⟩ := Act.put_eq a o.dst X
              have h3 := hs.put (d := some d) (.v _ _ hX) (fun t ht => by cases ht; exact Nat.lt_of_lt_of_le hdn hn)
              have hx : Ext w G L σ w G L (σ.put (some d) (.v pv)) := (Ext.refl w G L σ).put _ _
              refine wpS_of_wp (wp_mono (codeN_sound hm hc rest y (w := w) (G := G) (L := L) (σ := σ.put (some d) (.v pv)) (a := a.put o.dst X) hf2 ?_ ?_ ?_ h2) fun e a1 w1 hp => ⟨u', hset, rfl, hp.trans hx⟩)
              · rw [e2, hdst]; exact h3
              · rw [e2, put_size]; exact hn
              · rw [e1]; exact hd
            refine wpS_seq (wpS_region ?_)
            show wpOpsS P #[o] _ [0] a (c₀ :: cs) w
            simp only [wpOpsS, show (#[o] : Array Oper)[0]? = some o from rfl, hw, if_true, hrun]
            rcases hpv with ⟨rfl, rfl⟩ | ⟨X, rfl, hX⟩
            · have : recoverD (c₀ :: cs) = none := by simp [recoverD, hu]
              rw [this]
              have e0 : ({ c₀ with mode := .returning } : Frame) = c₀ := by rw [← hu]
              have := next (u' := .returning) .nili rfl
              rw [e0] at this
              exact this
            · have : recoverD (c₀ :: cs) = some (X, { c₀ with mode := .panicking [{ v := X, recovered := true }] } :: cs) := by simp [recoverD, hu]
              rw [this]
              exact next hX rfl
          · cases hf1
      | _ => cases hf
    | _ => first | (cases hf; done) | (cases x <;> first | (cases hf; done) | (rename_i dr; cases dr <;> cases hf))
  | _ => intro pre σ σ1 a w G L hf; first | (cases hf; done) | (cases pre <;> cases hf)

/-! ### calls -/

structure Env.OK (P : Program) (X : Env) : Prop where
  mixed : P.follows .mixedOrders = true
  fn : ∀ f sf, X.fn f = some sf → ∃ fn, P.funcs[f]? = some fn ∧ fitFn P fn sf = true
  ext : ∀ f e, X.ext f = some e → ∀ vs h r h', e vs h = some (r, h') → ∀ w G xs, WR w G h → VRs G w vs xs →
    ((callFunc f xs.toArray).run P w = .ok (.enter f xs.toArray) w ∧ Calls P f xs.toArray w (CPost w G h r h')) ∨
    (∃ x w', (callFunc f xs.toArray).run P w = .ok (.value x) w' ∧ CPost w G h r h' (.returned x) w')

theorem argsE_ok {G : Gh} {w : World} {L : Lm} : ∀ {vs : List V} {xs : List Value} (i : Nat) (pre : List Value) (n : Nat), VRs G w vs xs → pre.length = i →
    ∀ t, i ≤ t → TR G w L (argsE i vs t) ((pre ++ xs ++ List.replicate n undef).getD t undef)
  | [], _, i, pre, n, h, hp, t, ht => .v _ _ (.undef _)
  | v :: vs, _, i, pre, n, h, hp, t, ht => by
    cases h with
    | cons _ x _ xs h hs =>
      simp only [argsE, upd]
      by_cases e : t = i
      · subst e
        simp only [beq_self_eq_true, cond_true]
        have : (pre ++ x :: xs ++ List.replicate n undef).getD t undef = x := by
          rw [List.getD_eq_getElem?_getD, List.append_assoc, List.getElem?_append_right (by omega)]; simp [hp]
        rw [this]; exact .v _ _ h
      · have e1 : (t == i) = false := by simpa using e
        rw [e1, cond_false]
        have := argsE_ok (L := L) (i + 1) (pre ++ [x]) n hs (by simp [hp]) t (by omega)
        simpa using this

theorem init_ok {w : World} {G : Gh} {h : List HO} {vs : List V} {xs : List Value} (hw : WR w G h) (hv : VRs G w vs xs) (nt : Nat) :
    SR w G L0 (St.init vs h) (xs.toArray ++ Array.replicate (nt - xs.toArray.size) undef) := by
  refine ⟨hw, ⟨fun d g cs h => (by cases h), fun d d' g g' cs cs' B h => (by cases h), fun _ _ _ => rfl⟩, fun t => ?_⟩
  have := argsE_ok (L := L0) 0 [] (nt - xs.toArray.size) hv rfl t (Nat.zero_le _)
  have e : (xs.toArray ++ Array.replicate (nt - xs.toArray.size) undef).getD t undef = ([] ++ xs ++ List.replicate (nt - xs.toArray.size) undef).getD t undef := by
    rw [Array.getD_eq_getD_getElem?, List.getD_eq_getElem?_getD, ← Array.getElem?_toList]
    simp
  rw [e]; exact this

/-- What a call's body did, without its variables. -/
theorem Ext.top {w w' : World} {G G' : Gh} {L' : Lm} {vs : List V} {h : List HO} {σ' : St} (p5 : Ext w G L0 (St.init vs h) w' G' L' σ') : Ext w G L0 (St.init [] h) w' G' L0 (St.init [] σ'.h) :=
  ⟨p5.os, p5.tape, p5.output, p5.sz, p5.fr, p5.st, p5.ob, p5.rw, fun _ _ _ h => h, p5.stn, p5.own, fun d g cs B h => by cases h⟩

theorem closeN_sound {X : Env} (hX : X.OK P) {call : Calls1} (hc : CallOK P call) {n g : Nat} {caps : List V} {xs : List Value} {pv : V} {h h' : List HO} (hcl : closeN X call n g caps pv h = some h') {w : World} {G : Gh} (hw : WR w G h) (hv : VRs G w caps xs)
    {u : FrameMode} (hpv : PvR G w u pv) :
    (callFunc g xs.toArray).run P w = .ok (.enter g xs.toArray) w ∧
    CallsD P g xs.toArray u w fun e u' w' => ∃ v G', e = .returned v ∧ settle u' = .returning ∧ Ext w G L0 (St.init [] h) w' G' L0 (St.init [] h') ∧ WR w' G' h' := by
  unfold closeN at hcl
  simp only [Option.bind_eq_some_iff] at hcl
  obtain ⟨sf, hsf, R, hR, hcl⟩ := hcl
  obtain ⟨fn, hfn, hfit⟩ := hX.fn g sf hsf
  unfold fitFn at hfit
  split at hfit
  · rename_i c hbody
    simp only [Bool.and_eq_true] at hfit
    obtain ⟨⟨hname, hcode⟩, _⟩ := hfit
    have hname' : (fn.name == "runtime.NumGoroutine") = false := by simpa [bne] using hname
    have hn2 : ¬ fn.name = "runtime.NumGoroutine" := by simpa using hname'
    rw [hR] at hcode
    cases hd : sf.dfr with
    | some D => rw [hd] at hcode; cases hcode
    | none =>
      rw [hd] at hcode
      simp only [Bool.and_eq_true] at hcode
      obtain ⟨hcode, hres⟩ := hcode
      have hres' : fn.results = #[] := by simpa using hres
      cases e1 : codeN call n R.pre (St.init caps h) with
      | none => rw [e1] at hcl; cases hcl
      | some q =>
        rw [e1] at hcl
        obtain ⟨ex1, σ1⟩ := q
        cases ex1 <;> first | (cases hcl; done) | skip
        simp only [Option.bind_eq_some_iff] at hcl
        obtain ⟨⟨ex, σ2⟩, e2, hend⟩ := hcl
        split at hend
        · rename_i hisE
          cases hend
          refine ⟨by simp [callFunc, hfn, hn2, hbody], callsD_of_wpS hfn hbody fun c₀ cs hu => ?_⟩
          have hs0 := init_ok hw hv fn.ntmps
          have := fitR_sound hX.mixed hc hu (ex := ex) (σ2 := σ2) (cs := cs) c R.pre (a := { tmps := xs.toArray ++ Array.replicate (fn.ntmps - xs.toArray.size) undef, defers := [] }) hcode hs0 (by simp; omega) rfl hpv e1 e2
          intro b k hb hr
          obtain ⟨e', a', cs', w', ⟨u', q1, q2, q3⟩, r⟩ := this b k hb hr
          refine ⟨e', a', cs', w', ?_, r⟩
          obtain ⟨p1, p2, G', L', p3, p4, p5⟩ := q3
          have fin : ∃ v, (Go.results fn a'.tmps).run P w' = .ok v w' ∧ ∃ v' G'', Ending.returned v = .returned v' ∧ settle u' = .returning ∧ Ext w G L0 (St.init [] h) w' G'' L0 (St.init [] σ2.h) ∧ WR w' G'' σ2.h :=
            ⟨.tuple #[], by simp [Go.results, hres'], _, G', rfl, q1, p5.top, p4.hp⟩
          cases ex with
          | normal => cases e' with
            | normal => exact ⟨p1, u', q2, fin⟩
            | _ => exact p3.elim
          | ret => cases e' with
            | ret => exact ⟨p1, u', q2, fin⟩
            | _ => exact p3.elim
          | exit i => cases hisE
          | pan v => cases hisE
        · cases hend
  · cases hfit

/-- A body that defers. -/
theorem fitD_sound (hm : P.follows .mixedOrders = true) {call : Calls1} (hc : CallOK P call) {nt n : Nat} {t g : Nat} {caps : List V} {rest : SC} {ex : Ex} {σ1 σ2 : St} (ht : σ1.e t = .v (.func g caps)) (h2 : codeN call n rest σ1 = some (ex, σ2)) :
    ∀ (c : Code) (pre : SC) {σ : St} {a : Act} {w : World} {G : Gh} {L : Lm}, fitD P nt c pre t rest = true → SR w G L σ a.tmps → nt ≤ a.tmps.size → a.defers = [] → codeN call n pre σ = some (.normal, σ1) →
      c.wp P (fun e a' w' => ∃ xs : List Value, a'.defers = [{ target := .fn (.func g) xs.toArray, args := #[] }] ∧ nt ≤ a'.tmps.size ∧ ∃ G' L', EX G' w' ex e ∧ SR w' G' L' σ2 a'.tmps ∧ Ext w G L σ w' G' L' σ2 ∧ VRs G' w' caps xs) a w := by
  intro c
  induction c with
  | seq x y ihx ihy =>
    intro pre σ a w G L hf hs hn hd h1
    cases pre with
    | seq a' pre' =>
      simp only [fitD, Bool.and_eq_true] at hf
      obtain ⟨σa, e1, e2⟩ := codeN_seq h1
      refine wp_seq (wp_mono (codeN_sound hm hc a' x hf.1 hs hn hd e1) fun e a1 w1 hp => ?_)
      obtain ⟨p1, p2, G1, L1, p3, p4, p5⟩ := hp
      cases e with
      | normal =>
        refine wp_mono (ihy pre' hf.2 p4 p2 p1 e2) fun e a2 w2 hp => ?_
        obtain ⟨xs, q1, q2, G2, L2, q3, q4, q5, q6⟩ := hp
        exact ⟨xs, q1, q2, G2, L2, q3, q4, p5.trans q5, q6⟩
      | _ => exact p3.elim
    | ops l =>
      cases x with
      | region id ops dr =>
        cases dr with
        | true => cases hf
        | false =>
          simp only [fitD, Bool.and_eq_true] at hf
          obtain ⟨hf1, hf2⟩ := hf
          split at hf1
          · rename_i o1 o2 s1 ho
            have ho' : ops = #[o1, o2] := by apply Array.ext'; simpa using ho
            subst ho'
            simp only [Bool.and_eq_true, beq_iff_eq] at hf1
            obtain ⟨⟨⟨⟨⟨hfo, hs1d⟩, hs1g⟩, hg2⟩, hd2⟩, hop2⟩ := hf1
            have hg2' : o2.guard = none := by simpa using hg2
            have hd2' : o2.dst = none := by simpa using hd2
            simp only [fitOper, Bool.and_eq_true, beq_iff_eq] at hfo
            obtain ⟨⟨⟨hdst, hdn⟩, hg⟩, hop⟩ := hfo
            obtain ⟨sd, sg, so⟩ := s1
            dsimp only at *
            subst hs1d
            have hsg : sg = none := by simpa using hs1g
            subst hsg
            have hog : o1.guard = none := by
              cases h : o1.guard with
              | none => rfl
              | some q => rw [h] at hg; obtain ⟨a, b⟩ := q; cases hg
            simp only [codeN, runOps] at h1
            rw [stepG_none] at h1
            cases hst : stepO call σ (some t) so with
            | none => rw [hst] at h1; cases h1
            | some out =>
              rw [hst] at h1
              cases out with
              | pan v σ' => cases h1
              | ok x σa =>
                simp only [outE, Option.some.injEq, Prod.mk.injEq, true_and] at h1
                subst h1
                have hx : x = .v (.func g caps) := by
                  have : (σa.put (some t) x).e t = x := by show (bif t == t then x else σa.e t) = x; simp
                  rw [← this]; exact ht
                subst hx
                have htn : t < nt := by simpa using hdn
                obtain ⟨tm, ds⟩ := a
                dsimp only at hs hn hd
                subst hd
                refine wp_seq (wp_region ?_)
                show wpOps P #[o1, o2] _ [0, 1] ⟨tm, []⟩ w
                have hw1 : Region.wanted o1 (yielded #[o1, o2] tm) = true := by simp [Region.wanted, hog]
                simp only [wpOps, show (#[o1, o2] : Array Oper)[0]? = some o1 from rfl, show (#[o1, o2] : Array Oper)[1]? = some o2 from rfl]
                rw [if_pos hw1]
                refine .inl ?_
                obtain ⟨dst1, op1, ty1, pos1, af1, gd1⟩ := o1
                dsimp only at *
                subst hdst
                refine stepO_sound (ds := []) hc hop hs rfl hst (fun v w' G' L' x' σ' e hx' k1 k2 => ?_) fun val v w' G' σ' e => by cases e
                cases e
                have k3 := k1.put (d := some t) (x := .v (.func g caps)) hx' (fun t' ht' => by cases ht'; omega)
                have k4 := k2.put (some t) (.v (.func g caps))
                obtain ⟨e1, e2⟩ := Act.put_eq ⟨tm, []⟩ (some t) v
                generalize ha1 : Act.put ⟨tm, []⟩ (some t) v = a1 at e1 e2
                dsimp only at e1 e2
                have hw2 : Region.wanted o2 (yielded #[⟨some t, op1, ty1, pos1, af1, gd1⟩, o2] a1.tmps) = true := by simp [Region.wanted, hg2']
                rw [if_pos hw2]
                refine .inl ?_
                have hfv : ∃ xs, VRs G' w' caps xs ∧ v = .func (.func g) #[] xs.toArray := by
                  cases hx' with
                  | v _ _ h => exact h.inv_func
                obtain ⟨xs, hxs, rfl⟩ := hfv
                have hval : a1.eval (.tmp t) = .func (.func g) #[] xs.toArray := by
                  show a1.tmps.getD t undef = _
                  rw [e2]
                  have : t < tm.size := Nat.lt_of_lt_of_le htn hn
                  simp [putT, Array.getD_eq_getD_getElem?, this]
                have hrun : (execOp a1.eval o2).run P w' = .ok (.defer { target := .fn (.func g) xs.toArray, args := #[] }) w' := by
                  obtain ⟨dst2, op2, ty2, pos2, af2, gd2⟩ := o2
                  dsimp only at hop2 ⊢
                  cases op2 <;> first | (cases hop2; done) | skip
                  rename_i cl
                  obtain ⟨ce, as, ats⟩ := cl
                  cases ce <;> first | (cases hop2; done) | skip
                  rename_i f
                  cases f <;> first | (cases hop2; done) | skip
                  simp only [Bool.and_eq_true, beq_iff_eq] at hop2
                  obtain ⟨rfl, has⟩ := hop2
                  have has' : as = #[] := by simpa using has
                  subst has'
                  simp [execOp, resolve, Deferred.ofValue, hval]
                unfold Oper.wp
                rw [hrun, Oper.upon_defer, hd2']
                simp only [wpOps, Act.put]
                refine wp_mono (codeN_sound (D := [{ target := .fn (.func g) xs.toArray, args := #[] }]) hm hc rest y (w := w') (G := G') (L := L') (σ := σa.put (some t) (.v (.func g caps))) hf2 ?_ ?_ ?_ h2) fun e a2 w2 hp => ?_
                · dsimp only; rw [e2]; exact k3
                · dsimp only; rw [e2, put_size]; exact hn
                · dsimp only; rw [e1]
                · obtain ⟨p1, p2, G2, L2, p3, p4, p5⟩ := hp
                  refine ⟨xs, p1, p2, G2, L2, p3, p4, k4.trans p5, VRs.mono (p5.le k3) hxs⟩
          · cases hf1
      | _ => cases hf
    | _ => first | (cases hf; done) | (cases x <;> first | (cases hf; done) | (rename_i dr; cases dr <;> cases hf))
  | _ => intro pre σ a w G L hf; first | (cases hf; done) | (cases pre <;> cases hf)

end
end Go.Vm
