/- The operations that look at temporaries alone: the rest. -/
import Derived.Test.YthbfflleggnoaaaGreatDoorVmPure2
set_option linter.unusedSimpArgs false
set_option linter.unusedVariables false
namespace Go.Vm
open Go Go.RowKit

section
variable {P : Program} {G : Gh} {w : World} {L : Lm} {σ : St} {tm : Array Value} {ds : List Deferred}
variable {dst : Option Tmp} {ty : TypeId} {pos : String} {af : Array Edge} {gd : Option (Nat × Bool)}

theorem bits_ok {op : BinOp} {k : IntKind} {a b : Int} {r : V} (h : bitsV op k a b = some r) : ∃ v, (Op.intBits op k a b).run P w = .ok v w ∧ VR G w r v := by
  cases op <;> simp only [bitsV, Option.some.injEq, reduceCtorEq] at h <;> (subst h; exact ⟨_, by simp [Op.intBits], .int _ _⟩)

theorem un_ok (hs : SR w G L σ tm) {o : UnOp} {t : TypeId} {x : Operand} {o' : UnOp} {y : Opd} (hf : fitO P (.unOp o t x) (.un o' y) = true) {r : T} (hx : pureO σ (.un o' y) = some r) :
    Good P ((execOp (Act.eval ⟨tm, ds⟩) ⟨dst, .unOp o t x, ty, pos, af, gd⟩).run P w) w G L σ tm r σ := by
  simp only [fitO, Bool.and_eq_true, beq_iff_eq] at hf
  obtain ⟨rfl, h1⟩ := hf
  simp only [pureO, Option.bind_eq_some_iff, Option.map_eq_some_iff] at hx
  obtain ⟨a, ha, q, hq, rfl⟩ := hx
  have va := val_ok (ds := ds) hs.ev h1 ha
  unfold unV at hq
  split at hq
  · cases hq; have e := va.inv_int
    exact Good.same hs (exec_v rfl (by rw [e]; simp [Op.unary, Op.intArith])) (.v _ _ (.int _ _))
  · have e := va.inv_int
    obtain ⟨v, hv, hr⟩ := bits_ok (P := P) (w := w) (G := G) hq
    exact Good.same hs (exec_v rfl (by rw [e]; simp [Op.unary, hv])) (.v _ _ hr)
  · cases hq; have e := va.inv_bool
    exact Good.same hs (exec_v rfl (by rw [e]; simp [Op.unary])) (.v _ _ (.bool _))
  · cases hq; have e := va.inv_float
    exact Good.same hs (exec_v rfl (by rw [e]; simp [Op.unary])) (.v _ _ (.float _ _))
  · cases hq

theorem und {t : TypeId} (h : (P.underlying t).isSome = true) : ∃ d, P.underlying t = some d := Option.isSome_iff_exists.1 h

theorem cvI_ok (hs : SR w G L σ tm) {s d : TypeId} {x : Operand} {k : IntKind} {y : Opd} (hf : fitO P (.convert s d x) (.cvI k y) = true) {r : T} (hx : pureO σ (.cvI k y) = some r) :
    Good P ((execOp (Act.eval ⟨tm, ds⟩) ⟨dst, .convert s d x, ty, pos, af, gd⟩).run P w) w G L σ tm r σ := by
  simp only [fitO, Bool.and_eq_true] at hf
  obtain ⟨⟨h0, hd⟩, h1⟩ := hf
  obtain ⟨sd, hsd⟩ := und h0
  simp only [pureO] at hx
  split at hx
  · rename_i k' n hv
    cases hx
    have e := (val_ok (ds := ds) hs.ev h1 hv).inv_int
    split at hd
    · rename_i q hq
      simp only [beq_iff_eq] at hd; subst hd
      exact Good.same hs (exec_v rfl (by rw [e]; simp [convert, run_underlying hsd, run_underlying hq, Conv.intToInt])) (.v _ _ (.int _ _))
    · cases hd
  · cases hx

theorem cvF_ok (hs : SR w G L σ tm) {s d : TypeId} {x : Operand} {k : FloatKind} {y : Opd} (hf : fitO P (.convert s d x) (.cvF k y) = true) {r : T} (hx : pureO σ (.cvF k y) = some r) :
    Good P ((execOp (Act.eval ⟨tm, ds⟩) ⟨dst, .convert s d x, ty, pos, af, gd⟩).run P w) w G L σ tm r σ := by
  simp only [fitO, Bool.and_eq_true] at hf
  obtain ⟨⟨h0, hd⟩, h1⟩ := hf
  obtain ⟨sd, hsd⟩ := und h0
  simp only [pureO] at hx
  split at hx
  · rename_i k' n hv
    cases hx
    have e := (val_ok (ds := ds) hs.ev h1 hv).inv_int
    split at hd
    · rename_i q hq
      simp only [beq_iff_eq] at hd; subst hd
      exact Good.same hs (exec_v rfl (by rw [e]; simp [convert, run_underlying hsd, run_underlying hq, Conv.intToFloat])) (.v _ _ (.float _ _))
    · cases hd
  · cases hx

theorem cvFI_ok (hs : SR w G L σ tm) {s d : TypeId} {x : Operand} {k : IntKind} {y : Opd} (hf : fitO P (.convert s d x) (.cvFI k y) = true) {r : T} (hx : pureO σ (.cvFI k y) = some r) :
    Good P ((execOp (Act.eval ⟨tm, ds⟩) ⟨dst, .convert s d x, ty, pos, af, gd⟩).run P w) w G L σ tm r σ := by
  simp only [fitO, Bool.and_eq_true] at hf
  obtain ⟨⟨h0, hd⟩, h1⟩ := hf
  obtain ⟨sd, hsd⟩ := und h0
  simp only [pureO] at hx
  split at hx
  · rename_i k' n hv
    have e := (val_ok (ds := ds) hs.ev h1 hv).inv_float
    split at hx
    · rename_i m hm
      split at hx
      · rename_i hb
        cases hx
        split at hd
        · rename_i q hq
          simp only [beq_iff_eq] at hd; subst hd
          exact Good.same hs (exec_v rfl (by rw [e]; simp [convert, run_underlying hsd, run_underlying hq, Conv.floatToInt, hm, hb])) (.v _ _ (.int _ _))
        · cases hd
      · cases hx
    · cases hx
  · cases hx

theorem cvSS_ok (hs : SR w G L σ tm) {s d : TypeId} {x : Operand} {y : Opd} (hf : fitO P (.convert s d x) (.cvSS y) = true) {r : T} (hx : pureO σ (.cvSS y) = some r) :
    Good P ((execOp (Act.eval ⟨tm, ds⟩) ⟨dst, .convert s d x, ty, pos, af, gd⟩).run P w) w G L σ tm r σ := by
  simp only [fitO, Bool.and_eq_true] at hf
  obtain ⟨⟨h0, hd⟩, h1⟩ := hf
  obtain ⟨sd, hsd⟩ := und h0
  simp only [pureO] at hx
  split at hx
  · rename_i k' hv
    cases hx
    have hvr := val_ok (ds := ds) hs.ev h1 hv
    obtain ⟨b, e, eb⟩ := hvr.inv_str
    have hq : P.underlying d = some .string := by
      cases hq : P.underlying d with
      | none => rw [hq] at hd; cases hd
      | some d' => cases d' <;> rw [hq] at hd <;> first | rfl | (cases hd; done)
    refine Good.same (v := .string b) hs (exec_v rfl ?_) (.v _ _ (.str _ _ eb))
    rw [e]; cases sd <;> simp [convert, run_underlying hsd, run_underlying hq]
  · cases hx

theorem mkif_ok (hs : SR w G L σ tm) {t : TypeId} {x : Operand} {t' : Nat} {y : Opd} (hf : fitO P (.makeInterface t x) (.mkif t' y) = true) {r : T} (hx : pureO σ (.mkif t' y) = some r) :
    Good P ((execOp (Act.eval ⟨tm, ds⟩) ⟨dst, .makeInterface t x, ty, pos, af, gd⟩).run P w) w G L σ tm r σ := by
  simp only [fitO, Bool.and_eq_true, beq_iff_eq] at hf
  obtain ⟨⟨rfl, hd⟩, h1⟩ := hf
  simp only [pureO, Option.map_eq_some_iff] at hx
  obtain ⟨v, hv, rfl⟩ := hx
  have hvr := val_ok (ds := ds) hs.ev h1 hv
  refine Good.same hs (exec_v (x := .iface t (Act.eval ⟨tm, ds⟩ x)) rfl ?_) (.v _ _ (.iface _ _ _ hvr))
  cases hq : P.underlying t with
  | none => rw [hq] at hd; cases hd
  | some d => cases d <;> rw [hq] at hd <;> first | (cases hd; done) | simp [Instr.makeInterface, run_underlying hq]

theorem mkfn_ok (hs : SR w G L σ tm) {fn : Fn} {first caps : Array Operand} {f' : Nat} {ys : List Opd} (hf : fitO P (.makeFunc fn first caps) (.mkfn f' ys) = true) {r : T} (hx : pureO σ (.mkfn f' ys) = some r) :
    Good P ((execOp (Act.eval ⟨tm, ds⟩) ⟨dst, .makeFunc fn first caps, ty, pos, af, gd⟩).run P w) w G L σ tm r σ := by
  cases fn <;> first | (simp only [fitO] at hf; cases hf; done) | skip
  simp only [fitO, Bool.and_eq_true, beq_iff_eq] at hf
  rename_i fn
  obtain ⟨⟨rfl, h0⟩, h1⟩ := hf
  simp only [pureO, Option.map_eq_some_iff] at hx
  obtain ⟨vs, hv, rfl⟩ := hx
  have hvr := vals_ok (ds := ds) hs.ev h1 hv
  have e0 : first = #[] := by simpa using h0
  subst e0
  refine Good.same hs (exec_v rfl (by simp [Instr.makeFunc]; rfl)) (.v _ _ ?_)
  have := VR.func (G := G) (w := w) fn vs _ hvr
  have e : caps.map (Act.eval ⟨tm, ds⟩) = (caps.toList.map (Act.eval ⟨tm, ds⟩)).toArray := by apply Array.ext'; simp
  rw [e]; exact this

theorem nilck_ok (hs : SR w G L σ tm) {x : Operand} {y : Opd} (hf : fitO P (.nilCheck x) (.nilck y) = true) {r : T} (hx : pureO σ (.nilck y) = some r) :
    Good P ((execOp (Act.eval ⟨tm, ds⟩) ⟨dst, .nilCheck x, ty, pos, af, gd⟩).run P w) w G L σ tm r σ := by
  simp only [fitO] at hf
  have e := ev_ok (ds := ds) hs.ev hf
  have key : ∀ {v : Value}, (∃ a, v = .pointer (some a)) → Act.eval ⟨tm, ds⟩ x = v → (execOp (Act.eval ⟨tm, ds⟩) ⟨dst, .nilCheck x, ty, pos, af, gd⟩).run P w = .ok (.value v) w := by
    rintro v ⟨a, rfl⟩ h
    simp [execOp, h]
  simp only [pureO] at hx
  split at hx <;> first | (cases hx; done) | skip
  all_goals
    rename_i he
    rw [he] at e
    cases hx
  · obtain ⟨B, _, h⟩ := e.inv_v.inv_ptr; exact Good.same hs (key ⟨_, h⟩ rfl) e
  · obtain ⟨B, _, _, _, _, _, h⟩ := e.inv_v.inv_cref; exact Good.same hs (key ⟨_, h⟩ rfl) e
  · obtain ⟨B, _, h⟩ := e.inv_v.inv_eptr; exact Good.same hs (key ⟨_, h⟩ rfl) e
  · obtain ⟨B, _, h⟩ := e.inv_loc; exact Good.same hs (key ⟨_, h⟩ rfl) e

theorem add_none (B off n : Nat) : (⟨B, off, none⟩ : Addr).add n = ⟨B, off + n, none⟩ := by
  unfold Addr.add
  split
  · rename_i h; subst h; rfl
  · rfl

theorem fieldT_ok {t : TypeId} {f : Nat} {fd : Field} (h : fieldT P t f = some fd) : ∃ fs, P.underlying t = some (.struct fs) ∧ fs[f]? = some fd := by
  unfold fieldT at h
  split at h
  · exact ⟨_, ‹_›, h⟩
  · cases h

theorem elemT_ok {t e : TypeId} (h : elemT P t = some e) : P.underlying t = some (.slice e) := by
  unfold elemT at h
  split at h
  · cases h; assumption
  · cases h

theorem arrT_ok {t e : TypeId} {n : Nat} (h : arrT P t = some (n, e)) : P.underlying t = some (.array n e) := by
  unfold arrT at h
  split at h
  · cases h; assumption
  · cases h

theorem faddr_ok (hs : SR w G L σ tm) {t : TypeId} {x : Operand} {f off : Nat} {y : Opd} (hf : fitO P (.fieldAddr t x f) (.faddr off y) = true) {r : T} (hx : pureO σ (.faddr off y) = some r) :
    Good P ((execOp (Act.eval ⟨tm, ds⟩) ⟨dst, .fieldAddr t x f, ty, pos, af, gd⟩).run P w) w G L σ tm r σ := by
  simp only [fitO, Bool.and_eq_true] at hf
  obtain ⟨hfd, h1⟩ := hf
  have e := ev_ok (ds := ds) hs.ev h1
  split at hfd
  · rename_i fd hfe
    obtain ⟨fs, hu, hg⟩ := fieldT_ok hfe
    simp only [Bool.and_eq_true, beq_iff_eq] at hfd
    obtain ⟨rfl, hsz⟩ := hfd
    obtain ⟨n, hn, hn0⟩ := (Option.any_eq_true_iff_get _ _).1 hsz |> fun ⟨a, b⟩ => (⟨_, Option.eq_some_of_isSome a, b⟩ : ∃ n, sizeT P fd.type = some n ∧ (n != 0) = true)
    have key : ∀ (B o : Nat), Act.eval ⟨tm, ds⟩ x = .pointer (some ⟨B, o, none⟩) →
        (execOp (Act.eval ⟨tm, ds⟩) ⟨dst, .fieldAddr t x f, ty, pos, af, gd⟩).run P w = .ok (.value (.pointer (some ⟨B, o + fd.offset, none⟩))) w := by
      intro B o h
      refine exec_v rfl ?_
      have hn1 : n ≠ 0 := by simpa using hn0
      simp [Instr.fieldAt, run_underlying hu, hg, h, Instr.sureAddr, fieldPlace, run_sizeT hn, hn1, add_none]
    simp only [pureO] at hx
    split at hx <;> first | (cases hx; done) | skip
    all_goals
      rename_i he
      rw [he] at e
      cases hx
    · obtain ⟨B, hB, h⟩ := e.inv_loc; exact Good.same hs (key _ _ h) (.loc _ _ _ _ hB)
    · obtain ⟨B, hB, h⟩ := e.inv_v.inv_ptr; exact Good.same hs (key _ _ h) (.v _ _ (.ptr _ _ _ hB))
    · obtain ⟨B, o, xs, hst, hc, hcr, h⟩ := e.inv_v.inv_cref
      refine Good.same hs (key _ _ h) (.v _ _ (.cref _ _ _ (xs.drop fd.offset) hst ?_ (hcr.drop _)))
      obtain ⟨c, el, fr, hb, hcc⟩ := hc
      refine ⟨c, el, fr, hb, fun i hi => ?_⟩
      simp only [List.length_drop] at hi
      rw [List.getElem?_drop, Nat.add_assoc]
      exact hcc _ (by omega)
    · rename_i id ver i o
      obtain ⟨r, hr, h⟩ := e.inv_v.inv_eptr
      refine Good.same hs (key _ _ h) (.v _ _ ?_)
      have := VR.eptr (G := G) (w := w) id ver i (o + fd.offset) r hr
      rw [← Nat.add_assoc] at this
      exact this
  · cases hfd

theorem cut_ok {cs c : List V} {xs : List Value} {off n : Nat} (h : cut cs off n = some c) (hc : CRs G w cs xs) : off + n ≤ xs.length ∧ CRs G w c ((xs.drop off).take n) := by
  unfold cut at h
  split at h
  · rename_i hl
    cases h
    exact ⟨by rw [← hc.length]; exact hl, (hc.drop off).take n⟩
  · cases h

/-- A part of a struct's or an array's cells. -/
theorem part_ok {e : TypeId} {ag : Bool} {n off : Nat} (hag : aggT P e = some ag) (hsz : sizeT P e = some n) (h1 : ag = true ∨ n = 1) {cs c : List V} {xs : List Value} {v : V}
    (hc : CRs G w cs xs) (hcut : cut cs off n = some c) (hv : mkv ag c = some v) : ∃ x, (part e xs.toArray off).run P w = .ok x w ∧ VR G w v x := by
  obtain ⟨hl, hcr⟩ := cut_ok hcut hc
  cases ag with
  | true =>
    simp only [mkv, Option.some.injEq] at hv
    subst hv
    refine ⟨.agg (xs.toArray.extract off (off + n)), by simp [part, run_isAggT hag, run_sizeT hsz], ?_⟩
    have e1 : xs.toArray.extract off (off + n) = ((xs.drop off).take n).toArray := by apply Array.ext'; simp [List.extract]
    rw [e1]
    exact .agg _ _ hcr
  | false =>
    have hn : n = 1 := h1.resolve_left (by simp)
    subst hn
    match c, hv with
    | [u], hv =>
      cases hv
      have hlt : off < xs.length := by omega
      have e1 : (xs.drop off).take 1 = [xs[off]] := by rw [List.drop_eq_getElem_cons hlt]; rfl
      rw [e1] at hcr
      cases hcr with | cons _ _ _ _ _ _ h _ =>
        exact ⟨xs[off], by simp [part, run_isAggT hag, hlt], h⟩

theorem field_ok (hs : SR w G L σ tm) {t : TypeId} {x : Operand} {f : Nat} {ag : Bool} {off n : Nat} {y : Opd} (hf : fitO P (.field t x f) (.field ag off n y) = true) {r : T} (hx : pureO σ (.field ag off n y) = some r) :
    Good P ((execOp (Act.eval ⟨tm, ds⟩) ⟨dst, .field t x f, ty, pos, af, gd⟩).run P w) w G L σ tm r σ := by
  simp only [fitO, Bool.and_eq_true] at hf
  obtain ⟨hfd, h1⟩ := hf
  split at hfd
  · rename_i fd hfe
    obtain ⟨fs, hu, hg⟩ := fieldT_ok hfe
    simp only [Bool.and_eq_true, beq_iff_eq, Bool.or_eq_true] at hfd
    obtain ⟨⟨⟨rfl, hsz⟩, hag⟩, hcase⟩ := hfd
    simp only [pureO] at hx
    split at hx
    · rename_i cs hv
      simp only [Option.bind_eq_some_iff, Option.map_eq_some_iff] at hx
      obtain ⟨c, hc, v, hmv, rfl⟩ := hx
      obtain ⟨xs, hcr, e⟩ := (val_ok (ds := ds) hs.ev h1 hv).inv_agg
      obtain ⟨z, hz, hvr⟩ := part_ok hag hsz hcase hcr hc hmv
      refine Good.same hs (exec_v rfl ?_) (.v _ _ hvr)
      simp [Instr.field, run_underlying hu, hg, e, asAgg, hz]
    · cases hx
  · cases hfd

theorem extract_ok (hs : SR w G L σ tm) {x : Operand} {i j : Nat} {y : Opd} (hf : fitO P (.extract x i) (.extract y j) = true) {r : T} (hx : pureO σ (.extract y j) = some r) :
    Good P ((execOp (Act.eval ⟨tm, ds⟩) ⟨dst, .extract x i, ty, pos, af, gd⟩).run P w) w G L σ tm r σ := by
  simp only [fitO, Bool.and_eq_true, beq_iff_eq] at hf
  obtain ⟨rfl, h1⟩ := hf
  simp only [pureO] at hx
  split at hx
  · rename_i vs hv
    obtain ⟨v, hg, rfl⟩ := Option.map_eq_some_iff.1 hx
    obtain ⟨xs, hxs, e⟩ := (val_ok (ds := ds) hs.ev h1 hv).inv_tuple
    obtain ⟨b, hb, hvr⟩ := hxs.get hg
    refine Good.same hs (exec_v rfl ?_) (.v _ _ hvr)
    simp [Instr.extract, e, hb]
  · cases hx

theorem num_ok (hs : SR w G L σ tm) {args : Array Operand} {ts : Array TypeId} {n : Int} (hf : fitO P (.call ⟨.builtin .len, args, ts⟩) (.num n) = true) {r : T} (hx : pureO σ (.num n) = some r) :
    Good P ((execOp (Act.eval ⟨tm, ds⟩) ⟨dst, .call ⟨.builtin .len, args, ts⟩, ty, pos, af, gd⟩).run P w) w G L σ tm r σ := by
  simp only [fitO] at hf
  simp only [pureO] at hx
  cases hx
  split at hf
  · rename_i x t ea et
    have ea' : args = #[x] := by apply Array.ext'; simpa using ea
    have et' : ts = #[t] := by apply Array.ext'; simpa using et
    subst ea'; subst et'
    refine Good.same (v := .int .i64 n) hs ?_ (.v _ _ (.int _ _))
    split at hf
    · rename_i m e hu
      simp only [beq_iff_eq] at hf; subst hf
      simp [execOp, resolve, invoke, builtin, Builtin.len_, run_underlying hu, goInt]
    · rename_i a hu
      split at hf
      · rename_i m e hu2
        simp only [beq_iff_eq] at hf; subst hf
        simp [execOp, resolve, invoke, builtin, Builtin.len_, run_underlying hu, run_underlying hu2, goInt]
      · cases hf
    · cases hf
  · cases hf

theorem cap_ok (hs : SR w G L σ tm) {args : Array Operand} {ts : Array TypeId} {y : Opd} (hf : fitO P (.call ⟨.builtin .cap, args, ts⟩) (.cap y) = true) {r : T} (hx : pureO σ (.cap y) = some r) :
    Good P ((execOp (Act.eval ⟨tm, ds⟩) ⟨dst, .call ⟨.builtin .cap, args, ts⟩, ty, pos, af, gd⟩).run P w) w G L σ tm r σ := by
  simp only [fitO] at hf
  simp only [pureO] at hx
  split at hf
  · rename_i x t ea et
    have ea' : args = #[x] := by apply Array.ext'; simpa using ea
    have et' : ts = #[t] := by apply Array.ext'; simpa using et
    subst ea'; subst et'
    simp only [Bool.and_eq_true] at hf
    obtain ⟨hu, h1⟩ := hf
    split at hx
    · rename_i hv
      cases hx
      have e := (val_ok (ds := ds) hs.ev h1 hv).inv_nils
      refine Good.same (v := .int .i64 0) hs ?_ (.v _ _ (.int _ _))
      cases hq : P.underlying t with
      | none => rw [hq] at hu; cases hu
      | some d => cases d <;> rw [hq] at hu <;> first | (cases hu; done) | simp [execOp, resolve, invoke, builtin, Builtin.cap_, run_underlying hq, goInt, e]
    · cases hx
  · cases hf

theorem len_ok (hs : SR w G L σ tm) {args : Array Operand} {ts : Array TypeId} {tk : Nat} {y : Opd} (hf : fitO P (.call ⟨.builtin .len, args, ts⟩) (.len tk y) = true) {r : T} (hx : pureO σ (.len tk y) = some r) :
    Good P ((execOp (Act.eval ⟨tm, ds⟩) ⟨dst, .call ⟨.builtin .len, args, ts⟩, ty, pos, af, gd⟩).run P w) w G L σ tm r σ := by
  simp only [fitO] at hf
  simp only [pureO] at hx
  split at hf
  · rename_i x t ea et
    have ea' : args = #[x] := by apply Array.ext'; simpa using ea
    have et' : ts = #[t] := by apply Array.ext'; simpa using et
    subst ea'; subst et'
    simp only [Bool.and_eq_true] at hf
    obtain ⟨hu, h1⟩ := hf
    split at hx <;> first | (cases hx; done) | skip
    all_goals
      rename_i hv
      have hvr := val_ok (ds := ds) hs.ev h1 hv
      cases hx
    · have hq : P.underlying t = some .string := by
        revert hu; cases P.underlying t with
        | none => intro h; cases h
        | some d => cases d <;> intro h <;> first | rfl | (cases h; done)
      obtain ⟨b, e, eb⟩ := hvr.inv_str
      subst eb
      refine Good.same hs ?_ (.v _ _ (.int _ _))
      have hlen : b.data.toList.length = b.size := rfl
      rw [hlen]
      simp [execOp, resolve, invoke, builtin, Builtin.len_, run_underlying hq, goInt, e]
    · have hq : ∃ q, P.underlying t = some (.slice q) := by
        revert hu; cases P.underlying t with
        | none => intro h; cases h
        | some d => cases d <;> intro h <;> first | exact ⟨_, rfl⟩ | (cases h; done)
      obtain ⟨q, hq⟩ := hq
      have e := hvr.inv_nils
      refine Good.same hs ?_ (.v _ _ (.int _ _))
      simp [execOp, resolve, invoke, builtin, Builtin.len_, run_underlying hq, goInt, e]
    · have hq : ∃ q, P.underlying t = some (.slice q) := by
        revert hu; cases P.underlying t with
        | none => intro h; cases h
        | some d => cases d <;> intro h <;> first | exact ⟨_, rfl⟩ | (cases h; done)
      obtain ⟨q, hq⟩ := hq
      refine Good.same hs ?_ (.v _ _ (.int _ _))
      rcases hvr.inv_snap with ⟨rfl, a, c, e⟩ | ⟨B, off, s, cap, xs, _, _, _, _, _, e⟩ <;>
        simp [execOp, resolve, invoke, builtin, Builtin.len_, run_underlying hq, goInt, e]
    · have hq : ∃ q, P.underlying t = some (.slice q) := by
        revert hu; cases P.underlying t with
        | none => intro h; cases h
        | some d => cases d <;> intro h <;> first | exact ⟨_, rfl⟩ | (cases h; done)
      obtain ⟨q, hq⟩ := hq
      obtain ⟨r, a, cap, _, _, _, _, _, e⟩ := hvr.inv_sl
      refine Good.same hs ?_ (.v _ _ (.int _ _))
      simp [execOp, resolve, invoke, builtin, Builtin.len_, run_underlying hq, goInt, e]
    · have hq : ∃ q q', P.underlying t = some (.map q q') := by
        revert hu; cases P.underlying t with
        | none => intro h; cases h
        | some d => cases d <;> intro h <;> first | exact ⟨_, _, rfl⟩ | (cases h; done)
      obtain ⟨q, q', hq⟩ := hq
      have e := hvr.inv_nilm
      refine Good.same hs ?_ (.v _ _ (.int _ _))
      simp [execOp, resolve, invoke, builtin, Builtin.len_, run_underlying hq, goInt, e]
  · cases hf

theorem foldlM_mm (isMax : Bool) (f : Value → Value → Sem Value) (hf : ∀ a b c va vb, VR G w a va → VR G w b vb → mm2 isMax a b = some c → ∃ vc, (f va vb).run P w = .ok vc w ∧ VR G w c vc) :
    ∀ (l : List V) (a r : V) (va : Value) (vl : List Value), VR G w a va → VRs G w l vl → mms isMax a l = some r → ∃ vr, (vl.foldlM f va : Sem Value).run P w = .ok vr w ∧ VR G w r vr
  | [], a, r, va, vl, ha, hl, h => by cases hl; cases h; exact ⟨va, rfl, ha⟩
  | b :: l, a, r, va, vl, ha, hl, h => by
    cases hl with
    | cons _ vb _ vl hb hl =>
      simp only [mms, Option.bind_eq_some_iff] at h
      obtain ⟨c, hc, h⟩ := h
      obtain ⟨vc, h1, h2⟩ := hf a b c va vb ha hb hc
      obtain ⟨vr, h3, h4⟩ := foldlM_mm isMax f hf l c r vc vl h2 hl h
      exact ⟨vr, by simp [List.foldlM_cons, h1, h3], h4⟩

theorem minmax_ok (hs : SR w G L σ tm) {b : Builtin} {args : Array Operand} {ts : Array TypeId} {isMax : Bool} {ys : List Opd} (hb : b = if isMax then .max else .min) (h1 : fitXs args.toList ys = true) {r : T} (hx : pureO σ (.minmax isMax ys) = some r) :
    Good P ((execOp (Act.eval ⟨tm, ds⟩) ⟨dst, .call ⟨.builtin b, args, ts⟩, ty, pos, af, gd⟩).run P w) w G L σ tm r σ := by
  simp only [pureO, Option.bind_eq_some_iff] at hx
  obtain ⟨vs, hvs, hx⟩ := hx
  have hvr := vals_ok (ds := ds) hs.ev h1 hvs
  split at hx
  · cases hx
  · rename_i a l
    obtain ⟨q, hq, rfl⟩ := Option.map_eq_some_iff.1 hx
    generalize hX : args.toList.map (Act.eval ⟨tm, ds⟩) = X at hvr
    cases hvr with
    | cons _ va _ vl ha hl =>
      have eX : (args.map (Act.eval ⟨tm, ds⟩)).toList = va :: vl := by simpa using hX
      cases isMax with
      | true =>
        obtain ⟨vr, h3, h4⟩ := foldlM_mm (P := P) true Builtin.max2 (by
          intro a b c va vb ha hb hc
          unfold mm2 at hc
          split at hc
          · cases hc; have e1 := ha.inv_int; have e2 := hb.inv_int; subst e1; subst e2
            exact ⟨_, by simp [Builtin.max2], .int _ _⟩
          · cases hc
            obtain ⟨x, rfl, rfl⟩ := ha.inv_str
            obtain ⟨y, rfl, rfl⟩ := hb.inv_str
            refine ⟨.string (if !Op.bytesLess x.data.toList y.data.toList then x else y), ?_, ?_⟩
            · simp [Builtin.max2, Op.stringOp, ByteArray.toList_eq, asBool]
            · cases hl : Op.bytesLess x.data.toList y.data.toList <;> simp <;> exact .str _ _ rfl
          · cases hc) l a q va vl ha hl hq
        refine Good.same (v := vr) hs ?_ (.v _ _ h4)
        subst hb
        simp only [if_true, execOp, resolve, invoke, builtin, Builtin.max_, Sem.run_bind, Sem.run_pure, Result.andThen_ok, eX, h3]
      | false =>
        obtain ⟨vr, h3, h4⟩ := foldlM_mm (P := P) false Builtin.min2 (by
          intro a b c va vb ha hb hc
          unfold mm2 at hc
          split at hc
          · cases hc; have e1 := ha.inv_int; have e2 := hb.inv_int; subst e1; subst e2
            exact ⟨_, by simp [Builtin.min2], .int _ _⟩
          · cases hc
            obtain ⟨x, rfl, rfl⟩ := ha.inv_str
            obtain ⟨y, rfl, rfl⟩ := hb.inv_str
            refine ⟨.string (if (Op.bytesLess x.data.toList y.data.toList || x.data.toList == y.data.toList) then x else y), ?_, ?_⟩
            · simp [Builtin.min2, Op.stringOp, ByteArray.toList_eq, asBool]
            · cases hl : (Op.bytesLess x.data.toList y.data.toList || x.data.toList == y.data.toList) <;> simp <;> exact .str _ _ rfl
          · cases hc) l a q va vl ha hl hq
        refine Good.same (v := vr) hs ?_ (.v _ _ h4)
        subst hb
        simp only [Bool.false_eq_true, if_false, execOp, resolve, invoke, builtin, Builtin.min_, Sem.run_bind, Sem.run_pure, Result.andThen_ok, eX, h3]

theorem eq_ptr {t e : TypeId} (hu : P.underlying t = some (.pointer e)) (d : Nat) (a b : Option Addr) (h : a = none ∨ b = none) :
    (Op.equalIn (d + 1) t (.pointer a) (.pointer b)).run P w = .ok (a.isNone && b.isNone) w := by
  rcases h with rfl | rfl
  · cases b <;> simp [Op.equalIn, run_underlying hu]
  · cases a <;> simp [Op.equalIn, run_underlying hu]
theorem eq_slice {t e : TypeId} (hu : P.underlying t = some (.slice e)) (d : Nat) (a b : Option Addr) (n c n' c' : Nat) (h : a = none ∨ b = none) :
    (Op.equalIn (d + 1) t (.slice a n c) (.slice b n' c')).run P w = .ok (a.isNone && b.isNone) w := by
  rcases h with rfl | rfl
  · cases b <;> simp [Op.equalIn, run_underlying hu]
  · cases a <;> simp [Op.equalIn, run_underlying hu]
theorem eq_map {t e f : TypeId} (hu : P.underlying t = some (.map e f)) (d : Nat) (a b : Option Nat) (h : a = none ∨ b = none) :
    (Op.equalIn (d + 1) t (.map a) (.map b)).run P w = .ok (a.isNone && b.isNone) w := by
  rcases h with rfl | rfl
  · cases b <;> simp [Op.equalIn, run_underlying hu]
  · cases a <;> simp [Op.equalIn, run_underlying hu]
theorem eq_func {t : TypeId} {e f : Array TypeId} {g : Bool} (hu : P.underlying t = some (.func e f g)) (d : Nat) (fn : Fn) (x y : Array Value) :
    (Op.equalIn (d + 1) t .nilFunc .nilFunc).run P w = .ok true w ∧ (Op.equalIn (d + 1) t .nilFunc (.func fn x y)).run P w = .ok false w ∧ (Op.equalIn (d + 1) t (.func fn x y) .nilFunc).run P w = .ok false w := by
  refine ⟨?_, ?_, ?_⟩ <;> simp [Op.equalIn, run_underlying hu]

theorem cmpN_ok (hs : SR w G L σ tm) {o : BinOp} {t yt : TypeId} {x y : Operand} {neg : Bool} {tk : Nat} {x' y' : Opd} (hf : fitO P (.binOp o t x y yt) (.cmpN neg tk x' y') = true) {r : T} (hx : pureO σ (.cmpN neg tk x' y') = some r) :
    Good P ((execOp (Act.eval ⟨tm, ds⟩) ⟨dst, .binOp o t x y yt, ty, pos, af, gd⟩).run P w) w G L σ tm r σ := by
  simp only [fitO, Bool.and_eq_true, beq_iff_eq] at hf
  obtain ⟨⟨⟨ho, hk⟩, h1⟩, h2⟩ := hf
  simp only [pureO, Option.bind_eq_some_iff, Option.map_eq_some_iff] at hx
  obtain ⟨a, ha, b, hb, q, hq, rfl⟩ := hx
  have va := val_ok (ds := ds) hs.ev h1 ha
  have vb := val_ok (ds := ds) hs.ev h2 hb
  have fin : ∀ {X Y : Value}, Act.eval ⟨tm, ds⟩ x = X → Act.eval ⟨tm, ds⟩ y = Y → (eqGuard o t x y X Y).run P w = .ok () w → (Op.equalIn (9999 + 1) t X Y).run P w = .ok q w →
      binOp .eql t X Y = (do pure (.bool (← Op.equal t X Y))) → binOp .neq t X Y = (do pure (.bool (!(← Op.equal t X Y)))) →
      Good P ((execOp (Act.eval ⟨tm, ds⟩) ⟨dst, .binOp o t x y yt, ty, pos, af, gd⟩).run P w) w G L σ tm (.v (.bool (neg ^^ q))) σ := by
    intro X Y eX eY hg hq' h3 h4
    have hq2 : (Op.equal t X Y).run P w = .ok q w := hq'
    refine Good.same (v := .bool (neg ^^ q)) hs (exec_v rfl ?_) (.v _ _ (.bool _))
    rw [eX, eY]
    simp only [Sem.run_bind, hg, Result.andThen_ok]
    subst ho
    cases neg
    · simp only [Bool.false_eq_true, if_false]; rw [h3]; simp [hq2]
    · simp only [if_true]; rw [h4]; simp [hq2]
  have gp : ∀ {X Y : Value}, (∀ c, X ≠ .agg c) → X ≠ .nilIface → (eqGuard o t x y X Y).run P w = .ok () w := by
    intro X Y h3 h4
    unfold eqGuard
    cases o <;> first | rfl | skip
    all_goals cases X <;> first | rfl | exact absurd rfl (h3 _) | exact absurd rfl h4
  have hu0 : tk = 0 → ∃ e, P.underlying t = some (.pointer e) := by
    rintro rfl; revert hk; cases P.underlying t with
    | none => intro h; cases h
    | some d => cases d <;> intro h <;> first | exact ⟨_, rfl⟩ | (cases h; done)
  have hu1 : tk = 1 → ∃ e, P.underlying t = some (.slice e) := by
    rintro rfl; revert hk; cases P.underlying t with
    | none => intro h; cases h
    | some d => cases d <;> intro h <;> first | exact ⟨_, rfl⟩ | (cases h; done)
  have hu2 : tk = 2 → ∃ e f, P.underlying t = some (.map e f) := by
    rintro rfl; revert hk; cases P.underlying t with
    | none => intro h; cases h
    | some d => cases d <;> intro h <;> first | exact ⟨_, _, rfl⟩ | (cases h; done)
  have hu3 : tk = 3 → ∃ e f g, P.underlying t = some (.func e f g) := by
    rintro rfl; revert hk; cases P.underlying t with
    | none => intro h; cases h
    | some d => cases d <;> intro h <;> first | exact ⟨_, _, _, rfl⟩ | (cases h; done)
  have ptr1 : ∀ {v : V} {X : Value}, VR G w v X → ((∃ a b, v = .ptr a b) ∨ (∃ a, v = .cref a) ∨ (∃ a b c d, v = .eptr a b c d)) → ∃ a, X = .pointer (some a) := by
    rintro v X h (⟨a, b, rfl⟩ | ⟨a, rfl⟩ | ⟨a, b, c, d, rfl⟩)
    · obtain ⟨B, _, e⟩ := h.inv_ptr; exact ⟨_, e⟩
    · obtain ⟨B, _, _, _, _, _, e⟩ := h.inv_cref; exact ⟨_, e⟩
    · obtain ⟨B, _, e⟩ := h.inv_eptr; exact ⟨_, e⟩
  have sl1 : ∀ {v : V} {X : Value}, VR G w v X → ((∃ a b c d e, v = .sl a b c d e) ∨ (∃ a l, v = .snap (a :: l))) → ∃ a n c, X = .slice (some a) n c := by
    rintro v X h (⟨a, b, c, d, e, rfl⟩ | ⟨a, l, rfl⟩)
    · obtain ⟨_, _, _, _, _, _, _, _, e⟩ := h.inv_sl; exact ⟨_, _, _, e⟩
    · rcases h.inv_snap with ⟨h, _⟩ | ⟨_, _, _, _, _, _, _, _, _, _, e⟩
      · cases h
      · exact ⟨_, _, _, e⟩
  unfold eqN at hq
  split at hq <;> first | (cases hq; done) | skip
  all_goals cases hq
  · obtain ⟨e, hu⟩ := hu0 rfl
    exact fin va.inv_nilp vb.inv_nilp (gp (by simp) (by simp)) (eq_ptr hu 9999 none none (.inl rfl)) rfl rfl
  · obtain ⟨e, hu⟩ := hu0 rfl
    obtain ⟨p, ep⟩ := ptr1 vb (.inl ⟨_, _, rfl⟩)
    exact fin va.inv_nilp ep (gp (by simp) (by simp)) (eq_ptr hu 9999 none (some p) (.inl rfl)) rfl rfl
  · obtain ⟨e, hu⟩ := hu0 rfl
    obtain ⟨p, ep⟩ := ptr1 va (.inl ⟨_, _, rfl⟩)
    exact fin ep vb.inv_nilp (gp (by simp) (by simp)) (eq_ptr hu 9999 (some p) none (.inr rfl)) rfl rfl
  · obtain ⟨e, hu⟩ := hu0 rfl
    obtain ⟨p, ep⟩ := ptr1 vb (.inr (.inl ⟨_, rfl⟩))
    exact fin va.inv_nilp ep (gp (by simp) (by simp)) (eq_ptr hu 9999 none (some p) (.inl rfl)) rfl rfl
  · obtain ⟨e, hu⟩ := hu0 rfl
    obtain ⟨p, ep⟩ := ptr1 va (.inr (.inl ⟨_, rfl⟩))
    exact fin ep vb.inv_nilp (gp (by simp) (by simp)) (eq_ptr hu 9999 (some p) none (.inr rfl)) rfl rfl
  · obtain ⟨e, hu⟩ := hu0 rfl
    obtain ⟨p, ep⟩ := ptr1 vb (.inr (.inr ⟨_, _, _, _, rfl⟩))
    exact fin va.inv_nilp ep (gp (by simp) (by simp)) (eq_ptr hu 9999 none (some p) (.inl rfl)) rfl rfl
  · obtain ⟨e, hu⟩ := hu0 rfl
    obtain ⟨p, ep⟩ := ptr1 va (.inr (.inr ⟨_, _, _, _, rfl⟩))
    exact fin ep vb.inv_nilp (gp (by simp) (by simp)) (eq_ptr hu 9999 (some p) none (.inr rfl)) rfl rfl
  · obtain ⟨e, hu⟩ := hu1 rfl
    exact fin va.inv_nils vb.inv_nils (gp (by simp) (by simp)) (eq_slice hu 9999 none none 0 0 0 0 (.inl rfl)) rfl rfl
  · obtain ⟨e, hu⟩ := hu1 rfl
    obtain ⟨p, n, c, ep⟩ := sl1 va (.inl ⟨_, _, _, _, _, rfl⟩)
    exact fin ep vb.inv_nils (gp (by simp) (by simp)) (eq_slice hu 9999 (some p) none n c 0 0 (.inr rfl)) rfl rfl
  · obtain ⟨e, hu⟩ := hu1 rfl
    obtain ⟨p, n, c, ep⟩ := sl1 vb (.inl ⟨_, _, _, _, _, rfl⟩)
    exact fin va.inv_nils ep (gp (by simp) (by simp)) (eq_slice hu 9999 none (some p) 0 0 n c (.inl rfl)) rfl rfl
  · obtain ⟨e, hu⟩ := hu1 rfl
    obtain ⟨p, n, c, ep⟩ := sl1 va (.inr ⟨_, _, rfl⟩)
    exact fin ep vb.inv_nils (gp (by simp) (by simp)) (eq_slice hu 9999 (some p) none n c 0 0 (.inr rfl)) rfl rfl
  · obtain ⟨e, hu⟩ := hu1 rfl
    obtain ⟨p, n, c, ep⟩ := sl1 vb (.inr ⟨_, _, rfl⟩)
    exact fin va.inv_nils ep (gp (by simp) (by simp)) (eq_slice hu 9999 none (some p) 0 0 n c (.inl rfl)) rfl rfl
  · obtain ⟨e, f, hu⟩ := hu2 rfl
    exact fin va.inv_nilm vb.inv_nilm (gp (by simp) (by simp)) (eq_map hu 9999 none none (.inl rfl)) rfl rfl
  · obtain ⟨e, f, hu⟩ := hu2 rfl
    obtain ⟨B, _, ep⟩ := vb.inv_map
    exact fin va.inv_nilm ep (gp (by simp) (by simp)) (eq_map hu 9999 none (some B) (.inl rfl)) rfl rfl
  · obtain ⟨e, f, hu⟩ := hu2 rfl
    obtain ⟨B, _, ep⟩ := va.inv_map
    exact fin ep vb.inv_nilm (gp (by simp) (by simp)) (eq_map hu 9999 (some B) none (.inr rfl)) rfl rfl
  · obtain ⟨e, f, g, hu⟩ := hu3 rfl
    exact fin va.inv_nilf vb.inv_nilf (gp (by simp) (by simp)) (eq_func hu 9999 (.func 0) #[] #[]).1 rfl rfl
  · obtain ⟨e, f, g, hu⟩ := hu3 rfl
    obtain ⟨xs, _, ep⟩ := vb.inv_func
    exact fin va.inv_nilf ep (gp (by simp) (by simp)) (eq_func hu 9999 _ _ _).2.1 rfl rfl
  · obtain ⟨e, f, g, hu⟩ := hu3 rfl
    obtain ⟨xs, _, ep⟩ := va.inv_func
    exact fin ep vb.inv_nilf (gp (by simp) (by simp)) (eq_func hu 9999 _ _ _).2.2 rfl rfl

end
end Go.Vm
