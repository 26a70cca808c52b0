/- The operations that look at temporaries alone, further. -/
import Derived.Test.YthbfflleggnoaaaGreatDoorVmPure
set_option linter.unusedSimpArgs false
set_option linter.unusedVariables false
namespace Go.Vm
open Go Go.RowKit

section
variable {P : Program} {G : Gh} {w : World} {L : Lm} {σ : St} {tm : Array Value} {ds : List Deferred}
variable {dst : Option Tmp} {ty : TypeId} {pos : String} {af : Array Edge} {gd : Option (Nat × Bool)}

theorem TR.inv_v {v : V} {x : Value} (h : TR G w L (.v v) x) : VR G w v x := by cases h; assumption
theorem TR.inv_loc {d g off : Nat} {x : Value} (h : TR G w L (.loc d g off) x) : ∃ B, L d g = some B ∧ x = .pointer (some ⟨B, off, none⟩) := by cases h; exact ⟨_, ‹_›, rfl⟩

theorem mov_ok (hs : SR w G L σ tm) {op : Op} {x : Operand} {y : Opd} (ho : op = .move x ∨ op = .assign x) (hf : fitX x y = true) :
    Good P ((execOp (Act.eval ⟨tm, ds⟩) ⟨dst, op, ty, pos, af, gd⟩).run P w) w G L σ tm (σ.ev y) σ := by
  refine Good.same (v := Act.eval ⟨tm, ds⟩ x) hs ?_ (ev_ok hs.ev hf)
  rcases ho with rfl | rfl <;> rfl

theorem pick_ok (hs : SR w G L σ tm) {c a b : Operand} {c' a' b' : Opd} (hf : fitO P (.pick c a b) (.pick c' a' b') = true) {x : T} (hx : pureO σ (.pick c' a' b') = some x) :
    Good P ((execOp (Act.eval ⟨tm, ds⟩) ⟨dst, .pick c a b, ty, pos, af, gd⟩).run P w) w G L σ tm x σ := by
  simp only [fitO, Bool.and_eq_true] at hf
  obtain ⟨⟨h1, h2⟩, h3⟩ := hf
  have e1 := ev_ok (ds := ds) hs.ev h1
  have e2 := ev_ok (ds := ds) hs.ev h2
  have e3 := ev_ok (ds := ds) hs.ev h3
  simp only [pureO] at hx
  split at hx
  · rename_i e; rw [e] at e1
    cases hx
    have hb := e1.inv_v.inv_bool
    refine Good.same (v := Act.eval ⟨tm, ds⟩ a) hs ?_ e2
    simp [execOp, asBool, hb]
  · rename_i e; rw [e] at e1
    cases hx
    have hb := e1.inv_v.inv_bool
    refine Good.same (v := Act.eval ⟨tm, ds⟩ b) hs ?_ e3
    simp [execOp, asBool, hb]
  · cases hx

theorem bytesLess_eq (a b : ByteArray) : Op.bytesLess a.toList b.toList = Op.bytesLess a.data.toList b.data.toList := by rw [ByteArray.toList_eq, ByteArray.toList_eq]

theorem intV_ok {op : BinOp} {k : IntKind} {a b : Int} {r : V} (h : intV op k a b = some r) (hs1 : op ≠ .shl) (hs2 : op ≠ .shr) (t : TypeId) :
    ∃ v, (binOp op t (.int k a) (.int k b)).run P w = .ok v w ∧ VR G w r v := by
  cases op <;> simp only [intV, bitsV, Option.some.injEq, reduceCtorEq, not_true, ne_eq] at h hs1 hs2 <;> first
    | (subst h; refine ⟨_, ?_, .int _ _⟩; simp [binOp, Op.intArith, Op.intBits]; done)
    | (subst h; refine ⟨_, ?_, .bool _⟩; simp [binOp, Op.intCmp]; done)
    | skip
  · split at h
    · cases h
    · cases h; rename_i hb; exact ⟨_, by simp [binOp, Op.intDiv, hb], .int _ _⟩
  · split at h
    · cases h
    · cases h; rename_i hb; exact ⟨_, by simp [binOp, Op.intDiv, hb], .int _ _⟩

theorem strV_ok {op : BinOp} {a b : ByteArray} {r : V} (h : strV op a.data.toList b.data.toList = some r) (t : TypeId) :
    ∃ v, (binOp op t (.string a) (.string b)).run P w = .ok v w ∧ VR G w r v := by
  cases op <;> simp only [strV, Option.some.injEq, reduceCtorEq] at h
  case add =>
    split at h
    · rename_i hl
      cases h
      refine ⟨.string (a ++ b), ?_, .str _ _ (by simp)⟩
      have hsz : ¬ (((a.size + b.size : Nat) : Int) > IntKind.i64.max) := by
        have h1 : a.data.toList.length = a.size := rfl
        have h2 : b.data.toList.length = b.size := rfl
        have h3 : IntKind.i64.max = 9223372036854775807 := rfl
        have h4 : (2 : Nat) ^ 62 = 4611686018427387904 := rfl
        rw [h1, h2, h4] at hl
        rw [h3]
        omega
      simp only [binOp, Op.stringOp, if_neg hsz]
      rfl
    · cases h
  all_goals
    subst h
    refine ⟨_, ?_, .bool _⟩
    simp [binOp, Op.stringOp, ByteArray.toList_eq]

theorem floatV_ok {op : BinOp} {k : FloatKind} {a b : Nat} {r : V} (h : floatV op k a b = some r) (t : TypeId) :
    ∃ v, (binOp op t (.float k a) (.float k b)).run P w = .ok v w ∧ VR G w r v := by
  cases op <;> simp only [floatV, Option.some.injEq, reduceCtorEq, Option.map_eq_some_iff] at h <;> first
    | (subst h; refine ⟨_, ?_, .bool _⟩; simp [binOp, Op.floatCmp]; done)
    | (obtain ⟨q, hq, rfl⟩ := h; exact ⟨_, by simp [binOp, Op.floatArith, hq], .float _ _⟩)

theorem binV_ok {op : BinOp} {a b r : V} {va vb : Value} (ha : VR G w a va) (hb : VR G w b vb) (h : binV op a b = some r) (t : TypeId) (x y : Operand) :
    ∃ v, (do eqGuard op t x y va vb; binOp op t va vb : Sem Value).run P w = .ok v w ∧ VR G w r v := by
  unfold binV at h
  split at h
  · rename_i k p k' q
    cases ha; cases hb
    have hg : (eqGuard op t x y (.int k p) (.int k' q)).run P w = .ok () w := by cases op <;> rfl
    simp only [Sem.run_bind, hg, Result.andThen_ok]
    cases op
    case shl =>
      simp only [shiftV] at h
      split at h
      · cases h
      · rename_i hy; cases h; exact ⟨_, by simp [binOp, Op.shift, hy], .int _ _⟩
    case shr =>
      simp only [shiftV] at h
      split at h
      · cases h
      · rename_i hy; cases h; exact ⟨_, by simp [binOp, Op.shift, hy], .int _ _⟩
    all_goals
      dsimp only at h
      split at h
      · rename_i hk; subst hk; exact intV_ok h (by simp) (by simp) t
      · cases h
  · rename_i p q
    cases ha with | str _ va ea => cases hb with | str _ vb eb =>
      subst ea; subst eb
      have hg : (eqGuard op t x y (.string va) (.string vb)).run P w = .ok () w := by cases op <;> rfl
      simp only [Sem.run_bind, hg, Result.andThen_ok]
      exact strV_ok h t
  · rename_i k p k' q
    cases ha; cases hb
    have hg : (eqGuard op t x y (.float k p) (.float k' q)).run P w = .ok () w := by cases op <;> rfl
    simp only [Sem.run_bind, hg, Result.andThen_ok]
    split at h
    · rename_i hk; subst hk; exact floatV_ok h t
    · cases h
  · cases h

theorem bin_ok (hs : SR w G L σ tm) {o : BinOp} {t yt : TypeId} {x y : Operand} {o' : BinOp} {x' y' : Opd} (hf : fitO P (.binOp o t x y yt) (.bin o' x' y') = true) {r : T} (hx : pureO σ (.bin o' x' y') = some r) :
    Good P ((execOp (Act.eval ⟨tm, ds⟩) ⟨dst, .binOp o t x y yt, ty, pos, af, gd⟩).run P w) w G L σ tm r σ := by
  simp only [fitO, Bool.and_eq_true, beq_iff_eq] at hf
  obtain ⟨⟨rfl, h1⟩, h2⟩ := hf
  simp only [pureO, Option.bind_eq_some_iff, Option.map_eq_some_iff] at hx
  obtain ⟨a, ha, b, hb, q, hq, rfl⟩ := hx
  obtain ⟨v, hv, hr⟩ := binV_ok (val_ok (ds := ds) hs.ev h1 ha) (val_ok (ds := ds) hs.ev h2 hb) hq t x y
  exact Good.same hs (exec_v rfl hv) (.v _ _ hr)

theorem eqKs_ok {ks : List K} {xs ys : List V} {X Y : List Value} {b : Bool} (h : eqKs ks xs ys = some b) (hx : CRs G w xs X) (hy : CRs G w ys Y) : KVs ks X ∧ KVs ks Y ∧ b = eqL X Y := by
  induction ks generalizing xs ys X Y b with
  | nil =>
    cases xs <;> cases ys <;> simp [eqKs] at h
    cases hx; cases hy
    exact ⟨.nil, .nil, by simp [eqL, h]⟩
  | cons k ks ih =>
    cases hx with
    | nil => simp [eqKs] at h
    | cons x X' xs Xs _ _ hx1 hxs =>
      cases hy with
      | nil => simp [eqKs] at h
      | cons y Y' ys Ys _ _ hy1 hys =>
        simp only [eqKs, Option.bind_eq_some_iff] at h
        obtain ⟨a, h1, c, h2, h3⟩ := h
        cases h3
        obtain ⟨i1, i2, i3⟩ := ih h2 hxs hys
        have : isKV k X' ∧ isKV k Y' ∧ a = eq1 X' Y' := by
          unfold eqK at h1
          split at h1
          · cases hx1; cases hy1; cases h1; exact ⟨⟨_, rfl⟩, ⟨_, rfl⟩, rfl⟩
          · split at h1
            · rename_i hk; obtain ⟨rfl, rfl⟩ := hk; cases hx1; cases hy1; cases h1; exact ⟨⟨_, rfl⟩, ⟨_, rfl⟩, rfl⟩
            · cases h1
          · cases hx1 with | str _ va ea => cases hy1 with | str _ vb eb => subst ea; subst eb; cases h1; exact ⟨⟨_, rfl⟩, ⟨_, rfl⟩, rfl⟩
          · cases h1
        exact ⟨.cons _ _ _ _ this.1 i1, .cons _ _ _ _ this.2.1 i2, by rw [this.2.2, i3]; rfl⟩

theorem cmpA_ok (hs : SR w G L σ tm) {o : BinOp} {t yt : TypeId} {x y : Operand} {neg : Bool} {ks : List K} {x' y' : Opd} (hf : fitO P (.binOp o t x y yt) (.cmpA neg ks x' y') = true) {r : T} (hx : pureO σ (.cmpA neg ks x' y') = some r) :
    Good P ((execOp (Act.eval ⟨tm, ds⟩) ⟨dst, .binOp o t x y yt, ty, pos, af, gd⟩).run P w) w G L σ tm r σ := by
  simp only [fitO, Bool.and_eq_true, beq_iff_eq, Bool.not_eq_true'] at hf
  obtain ⟨⟨⟨⟨ho, hk⟩, hg⟩, h1⟩, h2⟩ := hf
  simp only [pureO] at hx
  split at hx
  · rename_i a b ha hb
    obtain ⟨q, hq, rfl⟩ := Option.map_eq_some_iff.1 hx
    have va := val_ok (ds := ds) hs.ev h1 ha
    have vb := val_ok (ds := ds) hs.ev h2 hb
    obtain ⟨X, hX, eX⟩ := va.inv_agg
    obtain ⟨Y, hY, eY⟩ := vb.inv_agg
    · obtain ⟨k1, k2, rfl⟩ := eqKs_ok hq hX hY
      have he := run_equal_agg (P := P) w hk k1 k2
      have hgd : (eqGuard o t x y (.agg X.toArray) (.agg Y.toArray)).run P w = .ok () w := run_eqGuard_agg w o t x y _ _ hg
      refine Good.same (v := .bool (neg ^^ eqL X Y)) hs (exec_v rfl ?_) (.v _ _ (.bool _))
      rw [eX, eY]
      simp only [Sem.run_bind, hgd, Result.andThen_ok]
      subst ho
      cases neg
      · simp [binOp, he]
      · simp [binOp, he]
  · cases hx

theorem cmpB_ok (hs : SR w G L σ tm) {o : BinOp} {t yt : TypeId} {x y : Operand} {neg : Bool} {x' y' : Opd} (hf : fitO P (.binOp o t x y yt) (.cmpB neg x' y') = true) {r : T} (hx : pureO σ (.cmpB neg x' y') = some r) :
    Good P ((execOp (Act.eval ⟨tm, ds⟩) ⟨dst, .binOp o t x y yt, ty, pos, af, gd⟩).run P w) w G L σ tm r σ := by
  simp only [fitO, Bool.and_eq_true, beq_iff_eq] at hf
  obtain ⟨⟨⟨ho, hk⟩, h1⟩, h2⟩ := hf
  have hu : P.underlying t = some .bool := by
    cases hq : P.underlying t with
    | none => rw [hq] at hk; cases hk
    | some d => cases d <;> rw [hq] at hk <;> first | rfl | (cases hk; done)
  simp only [pureO] at hx
  split at hx
  · rename_i a b ha hb
    cases hx
    have va := val_ok (ds := ds) hs.ev h1 ha
    have vb := val_ok (ds := ds) hs.ev h2 hb
    have eX := va.inv_bool
    have eY := vb.inv_bool
    have he : (Op.equal t (.bool a) (.bool b)).run P w = .ok (a == b) w := run_equalIn_bool w 9999 t a b hu
    have hgd : (eqGuard o t x y (.bool a) (.bool b)).run P w = .ok () w := by cases o <;> rfl
    refine Good.same (v := .bool (neg ^^ (a == b))) hs (exec_v rfl ?_) (.v _ _ (.bool _))
    rw [eX, eY]
    simp only [Sem.run_bind, hgd, Result.andThen_ok]
    subst ho
    cases neg
    · simp [binOp, he]
    · simp [binOp, he]
  · cases hx

end
end Go.Vm
