/- Loads and stores at addresses of which something is said; type assertions; rows of zeros behind nil. -/
import Derived.Test.YthbfflleggnoaaaGreatDoorVmEff6
set_option linter.unusedSimpArgs false
set_option linter.unusedVariables false
namespace Go.Vm
open Go Go.RowKit

section
variable {P : Program} {G : Gh} {w : World} {L : Lm} {σ : St} {tm : Array Value} {ds : List Deferred}
variable {dst : Option Tmp} {ty : TypeId} {pos : String} {af : Array Edge} {gd : Option (Nat × Bool)}

theorem tassert_ok (hs : SR w G L σ tm) {x : Operand} {xt t : TypeId} {ok : Bool} {t' : Nat} {y : Opd} (hf : fitO P (.typeAssert x xt t ok) (.tassert t' y) = true) {r : T} (hx : pureO σ (.tassert t' y) = some r) :
    Good P ((execOp (Act.eval ⟨tm, ds⟩) ⟨dst, .typeAssert x xt t ok, ty, pos, af, gd⟩).run P w) w G L σ tm r σ := by
  simp only [fitO, Bool.and_eq_true, beq_iff_eq] at hf
  obtain ⟨⟨⟨rfl, rfl⟩, hd⟩, h1⟩ := hf
  simp only [pureO] at hx
  split at hx
  · rename_i t2 v hv
    split at hx
    · rename_i e
      cases hx
      have hvr := val_ok (ds := ds) hs.ev h1 hv
      obtain ⟨X, hX, eX⟩ := hvr.inv_iface
      subst e
      refine Good.same hs (exec_v (x := .tuple #[X, .bool true]) rfl ?_) (.v _ _ ?_)
      · rw [eX]
        cases hq : P.underlying t2 with
        | none => rw [hq] at hd; cases hd
        | some d => cases d <;> rw [hq] at hd <;> first | (cases hd; done) | simp [Instr.typeAssert, run_underlying hq]
      · exact .tuple _ [X, .bool true] (.cons _ _ _ _ hX (.cons _ _ _ _ (.bool true) .nil))
    · cases hx
  · cases hx

theorem ifn_ok (hs : SR w G L σ tm) {o : BinOp} {t yt : TypeId} {x y : Operand} {neg : Bool} {x' : Opd} (hf : fitO P (.binOp o t x y yt) (.ifn neg x') = true) {r : T} (hx : pureO σ (.ifn neg x') = some r) :
    Good P ((execOp (Act.eval ⟨tm, ds⟩) ⟨dst, .binOp o t x y yt, ty, pos, af, gd⟩).run P w) w G L σ tm r σ := by
  simp only [fitO, Bool.and_eq_true, beq_iff_eq] at hf
  obtain ⟨⟨⟨ho, hk⟩, hy⟩, h1⟩ := hf
  have hu : ∃ ms, P.underlying t = some (.interface ms) := by
    cases hq : P.underlying t with
    | none => rw [hq] at hk; cases hk
    | some d => cases d <;> rw [hq] at hk <;> first | exact ⟨_, rfl⟩ | (cases hk; done)
  obtain ⟨ms, hu⟩ := hu
  have ey : y = .const .nilIface := by
    cases y <;> first | (cases hy; done) | skip
    rename_i v
    cases v <;> first | rfl | (cases hy; done)
  subst ey
  have eY : Act.eval ⟨tm, ds⟩ (.const .nilIface) = .nilIface := rfl
  have fin : ∀ {X : Value} {q : Bool}, Act.eval ⟨tm, ds⟩ x = X → (eqGuard o t x (.const .nilIface) X .nilIface).run P w = .ok () w → (Op.equal t X .nilIface).run P w = .ok q w →
      (binOp .eql t X .nilIface = (do pure (.bool (← Op.equal t X .nilIface)))) → (binOp .neq t X .nilIface = (do pure (.bool (!(← Op.equal t X .nilIface))))) →
      Good P ((execOp (Act.eval ⟨tm, ds⟩) ⟨dst, .binOp o t x (.const .nilIface) yt, ty, pos, af, gd⟩).run P w) w G L σ tm (.v (.bool (neg ^^ q))) σ := by
    intro X q eX hg he h3 h4
    refine Good.same (v := .bool (neg ^^ q)) hs (exec_v rfl ?_) (.v _ _ (.bool _))
    rw [eX, eY]
    simp only [Sem.run_bind, hg, Result.andThen_ok]
    subst ho
    cases neg
    · simp only [Bool.false_eq_true, if_false]; rw [h3]; simp [he]
    · simp only [if_true]; rw [h4]; simp [he]
  simp only [pureO] at hx
  split at hx
  · rename_i hv
    cases hx
    have hvr := val_ok (ds := ds) hs.ev h1 hv
    have eX := hvr.inv_nili
    refine fin eX ?_ ?_ rfl rfl
    · unfold eqGuard
      cases o <;> first | rfl | (cases x <;> simp)
    · show (Op.equalIn (9999 + 1) t _ _).run P w = _
      unfold Op.equalIn
      simp only [Sem.run_bind, run_underlying hu, Result.andThen_ok, Sem.run_pure]
  · rename_i t2 v hv
    cases hx
    have hvr := val_ok (ds := ds) hs.ev h1 hv
    obtain ⟨X, hX, eX⟩ := hvr.inv_iface
    refine fin eX ?_ ?_ rfl rfl
    · unfold eqGuard
      cases o <;> rfl
    · show (Op.equalIn (9999 + 1) t _ _).run P w = _
      unfold Op.equalIn
      simp only [Sem.run_bind, run_underlying hu, Result.andThen_ok, Sem.run_pure]
  · cases hx

theorem loadA_ok (hs : SR w G L σ tm) {t : TypeId} {a : Operand} {A : Acc} {ag : Bool} {n : Nat} {b : Opd} (hf : fitO P (.load t a) (.loadA A ag n b) = true) {r : T} (hx : readO σ (.loadA A ag n b) = some r) :
    Good P ((execOp (Act.eval ⟨tm, ds⟩) ⟨dst, .load t a, ty, pos, af, gd⟩).run P w) w G L σ tm r σ := by
  refine load_ok (st := false) (ag := ag) (n := n) (b := b) hs hf ?_
  simp only [readO] at hx ⊢
  split at hx
  · simpa using hx
  · cases hx

theorem loadN_ok (hs : SR w G L σ tm) {t : TypeId} {a : Operand} {x : Nat} {ag : Bool} {n : Nat} {b : Opd} (hf : fitO P (.load t a) (.loadN x ag n b) = true) {r : T} (hx : readO σ (.loadN x ag n b) = some r) :
    Good P ((execOp (Act.eval ⟨tm, ds⟩) ⟨dst, .load t a, ty, pos, af, gd⟩).run P w) w G L σ tm r σ := by
  refine load_ok (st := false) (ag := ag) (n := n) (b := b) hs hf ?_
  simp only [readO, St.loadN] at hx ⊢
  split at hx
  · rename_i h1 h2
    split at hx
    · cases hx
    · rw [h1]; simpa using hx
  · cases hx

theorem storeA_ok (hs : SR w G L σ tm) {t : TypeId} {a x : Operand} {A : Acc} {n : Nat} {b y : Opd} (hf : fitO P (.store t a x) (.storeA A n b y) = true) {d : Option Nat} {r : T} {σ' : St} (hx : effO σ d (.storeA A n b y) = some (.ok r σ')) :
    Good P ((execOp (Act.eval ⟨tm, ds⟩) ⟨dst, .store t a x, ty, pos, af, gd⟩).run P w) w G L σ tm r σ' := by
  refine store_ok (n := n) (b := b) (y := y) (d := d) hs hf ?_
  simp only [effO, Option.bind_eq_some_iff] at hx ⊢
  obtain ⟨v, hv, hx⟩ := hx
  refine ⟨v, hv, ?_⟩
  split at hx
  · rename_i h; rw [if_pos h.1]; exact hx
  · cases hx

theorem run_appz {t u e : TypeId} {i : TypeInfo} {z : Value} {k : IntKind} {k2 : IntKind} {n : Int} (ht : P.underlying t = some (.slice e)) (hu : P.underlying u = some (.int k)) (hi : P.info? e = some i) (hzv : i.zero = some z)
    (hn : 0 < n) (h63 : n < far) (hb : n * i.bytes < far) (hsz : 0 < i.size) :
    (Builtin.append_ #[t, u] ty #[.slice none 0 0, .int k2 n]).run P w = .ok (.slice (some ⟨w.heap.size, 0, none⟩) n.toNat (grownCap w n.toNat 0 e))
      (pushB w.drew (.cells (Builtin.zeroCells z.cells n.toNat ++ Builtin.zeroCells z.cells (grownCap w n.toNat 0 e - n.toNat)) e)) := by
  have hfar : far = 4294967296 := rfl
  obtain ⟨m, rfl⟩ : ∃ m : Nat, n = (m : Int) := ⟨n.toNat, by omega⟩
  have hm : 0 < m := by omega
  have hm2 : m < far := by omega
  have hmb : m * i.bytes < far := by exact_mod_cast hb
  have hw : IntKind.i64.wrap (m : Int) = (m : Int) := by simp [IntKind.wrap, IntKind.bits, IntKind.signed]; omega
  have h1 : ¬ ((m : Int) < 0) := by omega
  have hp48 : (2 : Int) ^ 48 = 281474976710656 := rfl
  have hpn : (2 : Nat) ^ 48 = 281474976710656 := rfl
  have h2 : ¬ ((m : Int) * (i.bytes : Int) > 2 ^ 48) := by rw [hp48]; omega
  have h3 : ¬ (0 + m ≤ 0) := by omega
  have hfit := growslice_fits (need := m) (old := 0) (bytes := i.bytes) hm (by omega)
  have h48 : ¬ (Builtin.nextslicecap m 0 * i.bytes > 2 ^ 48) := by rw [hpn]; omega
  have h63' : ¬ (((m : Nat) : Int) > IntKind.i64.max) := by have : IntKind.i64.max = 9223372036854775807 := rfl
                                                            omega
  have hq : (Question.appendCap m 0 e).forced = false := rfl
  have hms : ¬ (m * i.size = 0) := by
    have := Nat.mul_pos hm hsz; omega
  have hasInt : (asInt (.int k2 (m : Int))).run P w = .ok (m : Int) w := by simp [asInt, asIntOf]
  simp only [Builtin.append_, Sem.run_bind, show (#[t, u] : Array TypeId)[0]? = some t from rfl, show (#[t, u] : Array TypeId)[1]? = some u from rfl, show (#[Value.slice none 0 0, Value.int k2 (m : Int)] : Array Value)[0]? = some (.slice none 0 0) from rfl,
    show (#[Value.slice none 0 0, Value.int k2 (m : Int)] : Array Value)[1]? = some (.int k2 (m : Int)) from rfl, run_underlying ht, Result.andThen_ok, sizeOf, typeInfo, run_program, hi, Sem.run_pure]
  simp only [run_underlying hu, Result.andThen_ok, if_true, hasInt, hw, Sem.run_bind, h1, if_false, run_program, hi, Sem.run_pure, h2, Int.toNat_natCast, h3, Bool.not_true, Bool.false_eq_true, Nat.zero_add, h63', or_true, true_or, and_true, false_and, h48, run_choose, hq, run_askRoom]
  have h3' : ¬ (m ≤ 0) := by omega
  simp only [if_neg h3', Sem.run_bind, run_program, hi, Sem.run_pure, Result.andThen_ok, h48, if_false, run_choose, hq, run_askRoom, Bool.false_eq_true]
  simp only [Builtin.firstCells, Sem.run_pure, Result.andThen_ok, hms, if_false, zeroValue, Sem.run_bind, typeInfo, run_program, hi, hzv, run_newRow]
  have e0 : (#[] : Array Value) ++ Builtin.zeroCells z.cells m = Builtin.zeroCells z.cells m := by simp
  rw [e0]
  rfl

theorem zeroCells_list (zs : Array Value) (z : Nat) (hz : zs.size = z) (h0 : 0 < z) (n : Nat) : (Builtin.zeroCells zs n).toList = (List.replicate n zs.toList).flatten := by
  have := cycle_eq zs.toList (by simp; omega) n
  rw [← this]
  simp [Builtin.zeroCells]

theorem appendz_ok (hs : SR w G L σ tm) {args : Array Operand} {ts : Array TypeId} {z bytes : Nat} {zero : V} {y1 y2 : Opd} (hf : fitO P (.call ⟨.builtin .append, args, ts⟩) (.appendz z bytes zero y1 y2) = true) {d : Option Nat} {r : T} {σ' : St}
    (hx : effO σ d (.appendz z bytes zero y1 y2) = some (.ok r σ')) :
    Good P ((execOp (Act.eval ⟨tm, ds⟩) ⟨dst, .call ⟨.builtin .append, args, ts⟩, ty, pos, af, gd⟩).run P w) w G L σ tm r σ' := by
  simp only [fitO] at hf
  split at hf
  · rename_i x1 x2 t u ea et
    have ea' : args = #[x1, x2] := by apply Array.ext'; simpa using ea
    have et' : ts = #[t, u] := by apply Array.ext'; simpa using et
    subst ea'; subst et'
    simp only [Bool.and_eq_true] at hf
    obtain ⟨⟨⟨ht, hu2⟩, h1⟩, h2⟩ := hf
    split at ht
    · rename_i e he
      have htu := elemT_ok he
      simp only [Bool.and_eq_true, beq_iff_eq] at ht
      obtain ⟨⟨hsz, hby⟩, hzero⟩ := ht
      obtain ⟨i, hi, hib⟩ := Option.map_eq_some_iff.1 hby
      have hisz : i.size = z := by obtain ⟨i', hi', h⟩ := sizeT_info hsz; rw [hi] at hi'; cases hi'; exact h
      subst hisz
      cases hzv : (P.info? e).bind (·.zero) with
      | none => rw [hzv] at hzero; cases hzero
      | some zv =>
        rw [hzv] at hzero
        simp only [Option.any_some, Bool.and_eq_true, beq_iff_eq] at hzero
        obtain ⟨hzf, hzs⟩ := hzero
        have hzvr : VR G w zero zv := fitV_VR hzf
        have hiz : i.zero = some zv := by rw [hi] at hzv; exact hzv
        have hud : ∃ k, P.underlying u = some (.int k) := by
          revert hu2; cases P.underlying u with
          | none => intro h; cases h
          | some du => cases du <;> intro h <;> first | exact ⟨_, rfl⟩ | (cases h; done)
        obtain ⟨k, hu⟩ := hud
        simp only [effO] at hx
        split at hx
        · rename_i k2 n hv1 hv2
          split at hx
          · rename_i hb
            obtain ⟨b1, b2, b3, b4, b5⟩ := hb
            cases hx
            have hr1 := val_ok (ds := ds) hs.ev h1 hv1
            have hr2 := val_ok (ds := ds) hs.ev h2 hv2
            have e1 := hr1.inv_nils
            have e2 := hr2.inv_int
            have hrun := run_appz (ty := ty) (k2 := k2) (n := n) (w := w) htu hu hi hiz b1 b3 (by rw [hib]; exact b2) b5
            generalize hcap : grownCap w n.toNat 0 e = cap at hrun
            have hcap2 : n.toNat ≤ cap := by rw [← hcap]; simp only [grownCap, Question.cut]; omega
            have hnew : σ.newH none (.row 0 (List.replicate n.toNat zero)) = some (σ.h.length, { σ with h := σ.h ++ [HO.row 0 (List.replicate n.toNat zero)] }) := rfl
            obtain ⟨hs1, hx1⟩ := hs.draw (w' := w.drew) rfl
            have hle1 := hx1.le hs
            have hcz : zero.cells ≠ [] := by intro e; rw [e] at b4; simp at b4; omega
            have hcr := CRs.mono hle1 (hzvr.cells hcz)
            have hrep : ∀ n, CRs G w.drew (List.replicate n zero.cells).flatten (List.replicate n zv.cells.toList).flatten := by
              intro n
              induction n with
              | zero => simpa using CRs.nil
              | succ n ih => rw [List.replicate_succ, List.replicate_succ, List.flatten_cons, List.flatten_cons]; exact hcr.append ih
            have hflat : (List.replicate n.toNat zero).flatMap V.cells = (List.replicate n.toNat zero.cells).flatten := by simp [List.flatMap]
            have hlz : (Builtin.zeroCells zv.cells n.toNat).toList = (List.replicate n.toNat zv.cells.toList).flatten := zeroCells_list zv.cells i.size hzs b5 _
            generalize hcells : (Builtin.zeroCells zv.cells n.toNat ++ Builtin.zeroCells zv.cells (cap - n.toNat)) = cells at hrun
            have hcsz : cells.size = cap * i.size := by
              rw [← hcells]; simp only [Array.size_append, zeroCells_size, hzs]
              rw [← Nat.add_mul]; congr 1; omega
            obtain ⟨h3, h4⟩ := newH_row hs1 hnew (c := cells) (el := e) (fr := (0, 0)) (s := i.size) (cap := cap) (by omega) (by simpa using hcap2) (fun v hv => by rw [List.eq_of_mem_replicate hv]; exact b4) b5 (by
              rw [hflat, List.length_replicate, ← hcells, Array.toList_append, hlz]
              have hl : (List.replicate n.toNat zv.cells.toList).flatten.length = n.toNat * i.size := by simp [hzs]
              rw [List.take_append_of_le_length (by omega), List.take_of_length_le (by omega)]
              exact hrep _) (fun o _ hh => by omega)
            have hget : (G.setRw σ.h.length 0 ⟨w.drew.heap.size, 0, i.size, cap⟩).rw σ.h.length 0 = some ⟨w.drew.heap.size, 0, i.size, cap⟩ := by
              show (if σ.h.length = σ.h.length ∧ 0 = 0 then _ else _) = _; rw [if_pos ⟨rfl, rfl⟩]
            have hdrew : w.drew.heap = w.heap := rfl
            refine Good.step (v := .slice (some ⟨w.heap.size, 0, none⟩) n.toNat cap) ?_ (.v _ _ (.sl σ.h.length 0 0 n.toNat cap _ _ hget hcap2 (by simp) (.inr (by simp [hdrew])))) h3 (hx1.trans h4)
            simp only [execOp, resolve, invoke, builtin, Sem.run_bind, Sem.run_pure, Result.andThen_ok, List.map_toArray, List.map_cons, List.map_nil, e1, e2, hrun]
          · cases hx
        · cases hx
    · cases ht
  · cases hf

end
end Go.Vm
