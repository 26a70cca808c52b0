/- Reading memory and maps. -/
import Derived.Test.YthbfflleggnoaaaGreatDoorVmPure4
import Derived.Laws.BytesString
set_option linter.unusedSimpArgs false
set_option linter.unusedVariables false
namespace Go.Vm
open Go Go.RowKit

section
variable {P : Program} {G : Gh} {w : World} {L : Lm} {σ : St} {tm : Array Value} {ds : List Deferred}
variable {dst : Option Tmp} {ty : TypeId} {pos : String} {af : Array Edge} {gd : Option (Nat × Bool)}

theorem cell_of {B off : Nat} {xs : List Value} (h : cellsIn w B off xs) {j : Nat} {v : Value} (hj : xs[j]? = some v) : w.cell? ⟨B, off + j, none⟩ = some v := by
  obtain ⟨c, el, fr, hb, hc⟩ := h
  have hlt : j < xs.length := by
    rcases Nat.lt_or_ge j xs.length with h | h
    · exact h
    · rw [List.getElem?_eq_none h] at hj; cases hj
  have := hc j hlt
  simp only [World.cell?, hb]
  simp [this, hj]

theorem OC.cellsIn {B : Nat} {cs : List V} (h : OC G w B cs) : ∃ xs, Go.Vm.cellsIn w B 0 xs ∧ CRs G w cs xs := by
  obtain ⟨c, el, fr, hb, hcr, _⟩ := h
  exact ⟨c.toList, ⟨c, el, fr, hb, fun i hi => by simp⟩, hcr⟩

theorem OR.cellsIn {r : RowLoc} {l : List V} (h : OR G w r l) : ∃ xs, Go.Vm.cellsIn w r.B r.base xs ∧ CRs G w (l.flatMap V.cells) xs ∧ ∀ v ∈ l, v.cells.length = r.s := by
  obtain ⟨c, el, fr, hb, h1, h2, h3, h4, hcr, _⟩ := h
  refine ⟨_, ⟨c, el, fr, hb, fun i hi => ?_⟩, hcr, h3⟩
  simp only [List.length_take, List.length_drop] at hi
  rw [List.getElem?_take, if_pos (by omega), List.getElem?_drop]
  simp

theorem cut_cells {cs c : List V} {off n B o : Nat} {xs : List Value} (h : cut cs off n = some c) (hci : cellsIn w B o xs) (hcr : CRs G w cs xs) :
    ∃ ys, cellsIn w B (o + off) ys ∧ CRs G w c ys ∧ ys.length = n := by
  obtain ⟨hl, hc⟩ := cut_ok h hcr
  exact ⟨_, (hci.drop off).take n, hc, by simp; omega⟩

/-- The cells behind an address. -/
theorem cellsAt_ok (hs : SR w G L σ tm) {x : T} {v : Value} (hv : TR G w L x v) {n : Nat} {cs : List V} (h : σ.cellsAt n x = some cs) :
    ∃ B off xs, v = .pointer (some ⟨B, off, none⟩) ∧ cellsIn w B off xs ∧ CRs G w cs xs ∧ xs.length = n := by
  unfold St.cellsAt at h
  split at h
  · rename_i d g off
    split at h
    · rename_i g' cs' hm
      split at h
      · rename_i hg
        subst hg
        obtain ⟨B, hB, rfl⟩ := hv.inv_loc
        obtain ⟨B', hB', hoc, _⟩ := hs.lc.obj _ _ _ hm
        rw [hB] at hB'; cases hB'
        obtain ⟨xs, hci, hcr⟩ := hoc.cellsIn
        obtain ⟨ys, h1, h2, h3⟩ := cut_cells h hci hcr
        exact ⟨B, off, ys, rfl, by simpa using h1, h2, h3⟩
      · cases h
    · cases h
  · rename_i id off
    split at h
    · rename_i cs' hm
      obtain ⟨B, hB, rfl⟩ := hv.inv_v.inv_ptr
      obtain ⟨B', hB', hoc⟩ := hs.hp.obj _ _ hm
      rw [hB] at hB'; cases hB'
      obtain ⟨xs, hci, hcr⟩ := hoc.cellsIn
      obtain ⟨ys, h1, h2, h3⟩ := cut_cells h hci hcr
      exact ⟨B, off, ys, rfl, by simpa using h1, h2, h3⟩
    · cases h
  · rename_i cs'
    obtain ⟨B, off, xs, hst, hci, hcr, rfl⟩ := hv.inv_v.inv_cref
    obtain ⟨ys, h1, h2, h3⟩ := cut_cells h hci hcr
    exact ⟨B, off, ys, rfl, by simpa using h1, h2, h3⟩
  · rename_i id ver i off
    split at h
    · rename_i ver' l hm
      split at h
      · rename_i hver
        subst hver
        simp only [Option.bind_eq_some_iff] at h
        obtain ⟨e, he, h⟩ := h
        obtain ⟨r, hr, rfl⟩ := hv.inv_v.inv_eptr
        obtain ⟨r', hr', _, hor⟩ := hs.hp.obj _ _ hm
        rw [hr] at hr'; cases hr'
        obtain ⟨xs, hci, hcr, hl⟩ := hor.cellsIn
        have hlt : i < l.length := by
          rcases Nat.lt_or_ge i l.length with h | h
          · exact h
          · rw [List.getElem?_eq_none h] at he; cases he
        have hv : l[i] = e := by rw [List.getElem?_eq_getElem hlt] at he; exact Option.some.inj he
        have h1 : ((l.drop i).take 1).flatMap V.cells = e.cells := by
          rw [List.drop_eq_getElem_cons hlt, hv]; simp
        have h2 := flat_take (l := l.drop i) 1 (fun u hu => hl u (List.mem_of_mem_drop hu))
        rw [h1, flat_drop i hl, Nat.one_mul] at h2
        obtain ⟨ys, h3, h4, h5⟩ := cut_cells h ((hci.drop (i * r.s)).take r.s) (by rw [h2]; exact (hcr.drop _).take _)
        exact ⟨r.B, _, ys, rfl, h3, h4, h5⟩
      · cases h
    · cases h
  · cases h

theorem mkv_ok {ag : Bool} {cs : List V} {v : V} {xs : List Value} {n : Nat} {t : TypeId} (hm : mkv ag cs = some v) (hag : aggT P t = some ag) (hsz : sizeT P t = some n) {B off : Nat} (hci : cellsIn w B off xs) (hcr : CRs G w cs xs) (hlen : xs.length = n) :
    ∃ x, (loadVar t ⟨B, off, none⟩).run P w = .ok x w ∧ VR G w v x := by
  have hl : (loadCells ⟨B, off, none⟩ xs.length).run P w = .ok xs.toArray w := run_loadCells_list w _ xs (fun j v hj => by rw [add_none]; exact cell_of hci hj)
  cases ag with
  | true =>
    cases hm
    refine ⟨.agg xs.toArray, ?_, .agg _ _ hcr⟩
    rw [hlen] at hl
    simp [loadVar, run_isAggT hag, run_sizeT hsz, hl]
  | false =>
    match cs, hm with
    | [u], hm =>
      cases hm
      cases hcr with
      | cons _ x _ xs' _ _ h hs =>
        refine ⟨x, ?_, h⟩
        have := cell_of hci (j := 0) (v := x) rfl
        simp only [Nat.add_zero] at this
        simp [loadVar, run_isAggT hag, this]

theorem load_ok (hs : SR w G L σ tm) {t : TypeId} {a : Operand} {st ag : Bool} {n : Nat} {b : Opd} (hf : fitO P (.load t a) (.load st ag n b) = true) {r : T} (hx : readO σ (.load st ag n b) = some r) :
    Good P ((execOp (Act.eval ⟨tm, ds⟩) ⟨dst, .load t a, ty, pos, af, gd⟩).run P w) w G L σ tm r σ := by
  simp only [fitO, Bool.and_eq_true, beq_iff_eq, Bool.or_eq_true] at hf
  obtain ⟨⟨⟨hag, hsz⟩, hc⟩, h1⟩ := hf
  simp only [readO] at hx
  split at hx
  · cases hx
  · simp only [Option.bind_eq_some_iff, Option.map_eq_some_iff] at hx
    obtain ⟨cs, hcs, v, hv, rfl⟩ := hx
    obtain ⟨B, off, xs, ea, hci, hcr, hlen⟩ := cellsAt_ok hs (ev_ok (ds := ds) hs.ev h1) hcs
    obtain ⟨x, hr, hvr⟩ := mkv_ok (P := P) hv hag hsz hci hcr hlen
    refine Good.same hs (exec_v rfl ?_) (.v _ _ hvr)
    simp [Instr.loadAt, ea, Instr.sureAddr, hr]

/-! ### maps -/

theorem eqKey_agg {ks : List K} {x y : V} {X Y : Value} {b : Bool} (hx : VR G w x X) (hy : VR G w y Y) (h : eqKey (.agg ks) x y = some b) :
    ∃ xs ys, X = .agg xs.toArray ∧ Y = .agg ys.toArray ∧ KVs ks xs ∧ KVs ks ys ∧ b = eqL xs ys := by
  unfold eqKey at h
  split at h
  · rename_i e; cases e
    obtain ⟨xs, hxs, rfl⟩ := hx.inv_agg
    obtain ⟨ys, hys, rfl⟩ := hy.inv_agg
    obtain ⟨h1, h2, h3⟩ := eqKs_ok h hxs hys
    exact ⟨xs, ys, rfl, rfl, h1, h2, h3⟩
  · rename_i e; cases e
  · rename_i e; cases e
  · cases h

theorem sameBits_eqL {ks : List K} : ∀ {xs ys : List Value}, KVs ks xs → KVs ks ys → eqL xs ys = true → ∀ n, (xs.zip ys).all (fun p => Instr.sameBits n p.1 p.2) = true ∧ xs.length = ys.length := by
  induction ks with
  | nil => intro xs ys hx hy _ n; cases hx; cases hy; simp
  | cons k ks ih =>
    intro xs ys hx hy h n
    cases hx with | cons _ x _ xs hx1 hxs => cases hy with | cons _ y _ ys hy1 hys =>
      simp only [eqL, Bool.and_eq_true] at h
      obtain ⟨i1, i2⟩ := ih hxs hys h.2 n
      refine ⟨?_, by simp [i2]⟩
      simp only [List.zip_cons_cons, List.all_cons, Bool.and_eq_true]
      refine ⟨?_, i1⟩
      have h1 := h.1
      cases k with
      | int q => obtain ⟨a, rfl⟩ := hx1; obtain ⟨b, rfl⟩ := hy1; simp only [eq1, beq_iff_eq] at h1; subst h1; cases n <;> simp [Instr.sameBits]
      | str => obtain ⟨a, rfl⟩ := hx1; obtain ⟨b, rfl⟩ := hy1; simp only [eq1] at h1; rw [← bytes_eq] at h1; cases n <;> simp [Instr.sameBits, h1]
      | bool => obtain ⟨a, rfl⟩ := hx1; obtain ⟨b, rfl⟩ := hy1; simp only [eq1, beq_iff_eq] at h1; subst h1; cases n <;> simp [Instr.sameBits]

/-- One key against another one, in the model. -/
theorem key_same {ks : KT} {x y : V} {X Y : Value} (hx : VR G w x X) (hy : VR G w y Y) (h : eqKey ks x y = some true) : Instr.sameBits 10000 Y X = true := by
  cases ks with
  | agg ks =>
    obtain ⟨xs, ys, rfl, rfl, k1, k2, h3⟩ := eqKey_agg hx hy h
    have heq : eqL ys xs = true := by
      have sym : ∀ a b : List Value, eqL a b = eqL b a := by
        intro a
        induction a with
        | nil => intro b; cases b <;> rfl
        | cons x a ih =>
          intro b
          cases b with
          | nil => rfl
          | cons y b =>
            simp only [eqL, ih b]
            congr 1
            cases x <;> cases y <;> simp [eq1, BEq.comm]
      rw [sym]; exact h3.symm
    obtain ⟨h1, h2⟩ := sameBits_eqL k2 k1 heq 9999
    show (match (10000 : Nat), Value.agg ys.toArray, Value.agg xs.toArray with | _, _, _ => Instr.sameBits 10000 (.agg ys.toArray) (.agg xs.toArray)) = true
    simp only [Instr.sameBits, Bool.and_eq_true]
    exact ⟨by simpa using h2, by simpa using h1⟩
  | int =>
    unfold eqKey at h
    split at h <;> first | (cases h; done) | (have e := ‹KT.int = _›; cases e; done) | skip
    split at h
    · rename_i hk
      have e1 := hx.inv_int; have e2 := hy.inv_int
      subst e1; subst e2; subst hk
      simp only [Option.some.injEq, beq_iff_eq] at h
      subst h
      simp [Instr.sameBits]
    · cases h
  | str =>
    unfold eqKey at h
    split at h <;> first | (cases h; done) | (have e := ‹KT.str = _›; cases e; done) | skip
    obtain ⟨a, rfl, ea⟩ := hx.inv_str
    obtain ⟨b, rfl, eb⟩ := hy.inv_str
    subst ea; subst eb
    simp only [Option.some.injEq] at h
    have : (b == a) = true := by rw [bytes_eq]; rw [beq_iff_eq] at h ⊢; exact h.symm
    simp [Instr.sameBits, this]

/-- '==' of two keys, in the model. -/
theorem key_eq {kt : TypeId} {ks : KT} (hk : keyFit P kt ks = true) {x y : V} {X Y : Value} {b : Bool} (hx : VR G w x X) (hy : VR G w y Y) (h : eqKey ks x y = some b) :
    (∀ q, ks = .agg q → ∀ w, (Op.equal kt X Y).run P w = .ok b w) ∧ ((∀ q, ks ≠ .agg q) → ∃ d, P.underlying kt = some d ∧ Instr.sameNow d X Y = some b) := by
  cases ks with
  | agg q =>
    refine ⟨?_, fun hne => absurd rfl (hne q)⟩
    intro q' e w'
    obtain ⟨xs, ys, rfl, rfl, k1, k2, rfl⟩ := eqKey_agg hx hy h
    exact run_equal_agg (P := P) w' hk k1 k2
  | int =>
    refine ⟨fun q e => (by cases e), fun _ => ?_⟩
    unfold eqKey at h
    split at h <;> first | (cases h; done) | (have e := ‹KT.int = _›; cases e; done) | skip
    split at h
    · rename_i hkk
      have e1 := hx.inv_int; have e2 := hy.inv_int
      subst e1; subst e2; subst hkk
      simp only [keyFit] at hk
      split at hk
      · rename_i q hu; exact ⟨_, hu, by simpa [Instr.sameNow] using h⟩
      · cases hk
    · cases h
  | str =>
    refine ⟨fun q e => (by cases e), fun _ => ?_⟩
    unfold eqKey at h
    split at h <;> first | (cases h; done) | (have e := ‹KT.str = _›; cases e; done) | skip
    obtain ⟨a, rfl, ea⟩ := hx.inv_str
    obtain ⟨b, rfl, eb⟩ := hy.inv_str
    subst ea; subst eb
    simp only [keyFit] at hk
    split at hk
    · rename_i hu; exact ⟨_, hu, by simpa [Instr.sameNow, bytes_eq] using h⟩
    · cases hk

/-- The look for a key: what the VM finds, the model finds, at a place whose entry can be set alike. -/
def Found1 (G : Gh) (w : World) (ks : KT) (kv : V) (X : Value) (n : Nat) (es : List (V × V × Nat)) (es' : List MapEntry) : Option (V × Nat) → Option (Nat × Value) → Prop
  | none, r => r = none
  | some (v, b), r => ∃ i e, r = some (n + i, e.val) ∧ es'[i]? = some e ∧ VR G w v e.val ∧ e.born = b ∧ Instr.sameBits 10000 e.key X = true ∧
      ∀ nv nx, VR G w nv nx → ∃ es2, setE ks kv nv es = some es2 ∧ ER G w es2 (es'.set i ⟨X, nx, e.born⟩)

theorem find_step {ks : KT} {kv : V} {X : Value} {n : Nat} {k v : V} {b : Nat} {e : MapEntry} {l : List (V × V × Nat)} {es : List MapEntry} (hkX : VR G w kv X)
    (hk : VR G w k e.key) (hv : VR G w v e.val) (hb : e.born = b) (hl : ER G w l es) {t : Bool} (ht : eqKey ks kv k = some t) {r : Option (V × Nat)} {r' : Option (Nat × Value)}
    (h : if t = true then r = some (v, b) ∧ r' = some (n, e.val) else Found1 G w ks kv X (n + 1) l es r r') : Found1 G w ks kv X n ((k, v, b) :: l) (e :: es) r r' := by
  cases t with
  | true =>
    simp only [if_true] at h
    obtain ⟨rfl, rfl⟩ := h
    refine ⟨0, e, rfl, rfl, hv, hb, key_same hkX hk ht, fun nv nx hn => ⟨(kv, nv, b) :: l, by simp [setE, ht], ?_⟩⟩
    exact .cons _ _ _ _ _ _ hkX hn hb hl
  | false =>
    simp only [Bool.false_eq_true, if_false] at h
    cases r with
    | none => exact h
    | some q =>
      obtain ⟨v', b'⟩ := q
      obtain ⟨i, e', h1, h2, h3, h4, h5, h6⟩ := h
      refine ⟨i + 1, e', by rw [h1]; congr 2; omega, by simpa using h2, h3, h4, h5, fun nv nx hn => ?_⟩
      obtain ⟨es2, h7, h8⟩ := h6 nv nx hn
      exact ⟨(k, v, b) :: es2, by simp [setE, ht, h7], .cons _ _ _ _ _ _ hk hv hb h8⟩

theorem find_ok {kt : TypeId} {ks : KT} (hk : keyFit P kt ks = true) {kv : V} {X : Value} (hkX : VR G w kv X) {es : List (V × V × Nat)} {es' : List MapEntry} (her : ER G w es es') {r : Option (V × Nat)} (h : findE ks kv es = some r) :
    ∃ r', (Instr.findKey kt X es').run P w = .ok r' w ∧ Found1 G w ks kv X 0 es es' r r' := by
  by_cases hag : ∃ q, ks = .agg q
  · obtain ⟨q, rfl⟩ := hag
    have key : ∀ (es : List (V × V × Nat)) (es' : List MapEntry) (n : Nat) (r : Option (V × Nat)), ER G w es es' → findE (.agg q) kv es = some r →
        ∃ r', (Instr.findAsking kt X es' n).run P w = .ok r' w ∧ Found1 G w (.agg q) kv X n es es' r r' := by
      intro es es' n r her
      induction her generalizing n r with
      | nil => intro h; cases h; exact ⟨none, by simp [Instr.findAsking], rfl⟩
      | cons k v b e l es hk' hv hb hl ih =>
        intro h
        simp only [findE, Option.bind_eq_some_iff] at h
        obtain ⟨t, ht, h⟩ := h
        have he := (key_eq (P := P) hk hkX hk' ht).1 q rfl w
        cases t with
        | true =>
          cases h
          exact ⟨some (n, e.val), by simp [Instr.findAsking, he], find_step hkX hk' hv hb hl ht (by simp)⟩
        | false =>
          obtain ⟨r', h1, h2⟩ := ih (n + 1) r h
          exact ⟨r', by simp [Instr.findAsking, he, h1], find_step hkX hk' hv hb hl ht (by simpa using h2)⟩
    obtain ⟨r', h1, h2⟩ := key es es' 0 r her h
    refine ⟨r', ?_, h2⟩
    rw [run_findKey_eq w ?_ X es']
    · exact h1
    · simp only [keyFit, Bool.and_eq_true, beq_iff_eq, aggT] at hk
      obtain ⟨d, hd, hda⟩ := Option.map_eq_some_iff.1 hk.1
      rw [hd]
      cases d <;> first | rfl | (cases hda; done)
  · have hne : ∀ q, ks ≠ .agg q := fun q e => hag ⟨q, e⟩
    have hund : ∃ d, P.underlying kt = some d := by
      cases ks with
      | agg q => exact absurd rfl (hne q)
      | int => simp only [keyFit] at hk; split at hk; exact ⟨_, ‹_›⟩; cases hk
      | str => simp only [keyFit] at hk; split at hk; exact ⟨_, ‹_›⟩; cases hk
    obtain ⟨d, hd⟩ := hund
    have key : ∀ (es : List (V × V × Nat)) (es' : List MapEntry) (n : Nat) (r : Option (V × Nat)), ER G w es es' → findE ks kv es = some r →
        ∃ r', Instr.findNow d X es' n = some r' ∧ Found1 G w ks kv X n es es' r r' := by
      intro es es' n r her
      induction her generalizing n r with
      | nil => intro h; cases h; exact ⟨none, rfl, rfl⟩
      | cons k v b e l es hk' hv hb hl ih =>
        intro h
        simp only [findE, Option.bind_eq_some_iff] at h
        obtain ⟨t, ht, h⟩ := h
        obtain ⟨d', hd', he⟩ := (key_eq (P := P) hk hkX hk' ht).2 hne
        rw [hd] at hd'; cases hd'
        cases t with
        | true =>
          cases h
          exact ⟨some (n, e.val), by simp [Instr.findNow, he], find_step hkX hk' hv hb hl ht (by simp)⟩
        | false =>
          obtain ⟨r', h1, h2⟩ := ih (n + 1) r h
          exact ⟨r', by simp [Instr.findNow, he, h1], find_step hkX hk' hv hb hl ht (by simpa using h2)⟩
    obtain ⟨r', h1, h2⟩ := key es es' 0 r her h
    exact ⟨r', by simp [Instr.findKey, run_underlying hd, h1], h2⟩

theorem isKs_KVs : ∀ {ks : List K} {cs : List V} {xs : List Value}, CRs G w cs xs → ks.length = cs.length → ((ks.zip cs).all fun p => V.isK p.1 p.2) = true → KVs ks xs
  | [], [], _, h, _, _ => by cases h; exact .nil
  | k :: ks, c :: cs, _, h, hl, hk => by
    cases h with
    | cons _ x _ xs _ _ h hs =>
      simp only [List.zip_cons_cons, List.all_cons, Bool.and_eq_true] at hk
      refine .cons _ _ _ _ ?_ (isKs_KVs hs (by simpa using hl) hk.2)
      have h1 := hk.1
      unfold V.isK at h1
      split at h1
      · simp only [beq_iff_eq] at h1; subst h1; exact ⟨_, h.inv_int⟩
      · obtain ⟨b, e, _⟩ := h.inv_str; exact ⟨b, e⟩
      · exact ⟨_, h.inv_bool⟩
      · cases h1
  | [], _ :: _, _, _, hl, _ => by simp at hl
  | _ :: _, [], _, _, hl, _ => by simp at hl

theorem checkKey_int {kt : TypeId} {k : IntKind} (hu : P.underlying kt = some (.int k)) (em : Bool) (n : Nat) (X : Value) : (Instr.checkKey em (n + 1) kt X).run P w = .ok () w := by
  simp [Instr.checkKey, run_underlying hu]
theorem checkKey_str {kt : TypeId} (hu : P.underlying kt = some .string) (em : Bool) (n : Nat) (X : Value) : (Instr.checkKey em (n + 1) kt X).run P w = .ok () w := by
  simp [Instr.checkKey, run_underlying hu]

theorem checkKey_ok {kt : TypeId} {ks : KT} (hk : keyFit P kt ks = true) {kv : V} {X : Value} (hkX : VR G w kv X) (hi : isKey ks kv = true) (em : Bool) : (Instr.checkKey em 10000 kt X).run P w = .ok () w := by
  unfold isKey at hi
  split at hi
  · rename_i q cs
    obtain ⟨xs, hxs, rfl⟩ := hkX.inv_agg
    simp only [Bool.and_eq_true, beq_iff_eq] at hi
    simp only [keyFit, Bool.and_eq_true, beq_iff_eq] at hk
    refine run_checkKey_kinds em 20 kt q hk.2 10000 (by omega) w _ xs ?_ (isKs_KVs hxs hi.1 hi.2)
    unfold Shp; rw [if_pos hk.1]
  · simp only [keyFit] at hk
    split at hk
    · rename_i hu; exact checkKey_int hu em 9999 X
    · cases hk
  · simp only [keyFit] at hk
    split at hk
    · rename_i hu; exact checkKey_str hu em 9999 X
    · cases hk
  · cases hi

theorem zeroAny {e : TypeId} {zero : V} (h : (((P.info? e).bind (·.zero)).any fun v => fitV v zero) = true) : ∃ z, (zeroValue e).run P w = .ok z w ∧ VR G w zero z := by
  cases hz : (P.info? e).bind (·.zero) with
  | none => rw [hz] at h; cases h
  | some z => rw [hz] at h; exact ⟨z, run_zeroT hz, fitV_VR (by simpa using h)⟩

theorem lookup_ok (hs : SR w G L σ tm) {t : TypeId} {x i : Operand} {ok : Bool} {ks : KT} {zero : V} {ok' : Bool} {y j : Opd} (hf : fitO P (.lookup t x i ok) (.lookup ks zero ok' y j) = true) {r : T} (hx : readO σ (.lookup ks zero ok' y j) = some r) :
    Good P ((execOp (Act.eval ⟨tm, ds⟩) ⟨dst, .lookup t x i ok, ty, pos, af, gd⟩).run P w) w G L σ tm r σ := by
  simp only [fitO, Bool.and_eq_true, beq_iff_eq] at hf
  obtain ⟨⟨⟨ht, rfl⟩, h1⟩, h2⟩ := hf
  split at ht
  · rename_i kt e hu
    simp only [Bool.and_eq_true] at ht
    obtain ⟨hkf, hz⟩ := ht
    obtain ⟨z, hzr, hzv⟩ := zeroAny (P := P) (G := G) (w := w) hz
    have tup : ∀ {a : V} {A : Value} (b : Bool), VR G w a A → VR G w (bif ok then .tuple [a, .bool b] else a) (if ok = true then .tuple #[A, .bool b] else A) := by
      intro a A b ha
      cases ok with
      | true =>
        have := VR.tuple (G := G) (w := w) [a, .bool b] [A, .bool b] (.cons _ _ _ _ ha (.cons _ _ _ _ (.bool b) .nil))
        simpa using this
      | false => simpa using ha
    simp only [readO] at hx
    split at hx
    · rename_i kv hm hkv
      cases hx
      obtain ⟨hkv, hik⟩ := Option.filter_eq_some_iff.1 hkv
      have em := (val_ok (ds := ds) hs.ev h1 hm).inv_nilm
      have hkX := val_ok (ds := ds) hs.ev h2 hkv
      obtain ⟨r', h3, h4⟩ := find_ok (P := P) hkf hkX (es := []) (es' := []) .nil (r := none) rfl
      cases h4
      refine Good.same hs (exec_v rfl ?_) (.v _ _ (tup false hzv))
      simp [Instr.lookup, run_underlying hu, em, checkKey_ok hkf hkX hik, h3, hzr]
    · rename_i id kv hm hkv
      obtain ⟨hkv, hik⟩ := Option.filter_eq_some_iff.1 hkv
      obtain ⟨B, hB, em⟩ := (val_ok (ds := ds) hs.ev h1 hm).inv_map
      have hkX := val_ok (ds := ds) hs.ev h2 hkv
      split at hx
      · rename_i es clock hid
        obtain ⟨B', es', hB', hheap, her⟩ := hs.hp.obj _ _ hid
        rw [hB] at hB'; cases hB'
        have hget : (getObj B).run P w = .ok (.map es' clock) w := by simp [getObj, Sem.run, hheap]
        split at hx
        · rename_i v b hfe
          cases hx
          obtain ⟨r', h3, i', e', h4, h5, h6, _⟩ := find_ok (P := P) hkf hkX her hfe
          subst h4
          refine Good.same hs (exec_v rfl ?_) (.v _ _ (tup true h6))
          simp [Instr.lookup, run_underlying hu, em, hget, checkKey_ok hkf hkX hik, h3]
        · rename_i hfe
          cases hx
          obtain ⟨r', h3, h4⟩ := find_ok (P := P) hkf hkX her hfe
          cases h4
          refine Good.same hs (exec_v rfl ?_) (.v _ _ (tup false hzv))
          simp [Instr.lookup, run_underlying hu, em, hget, checkKey_ok hkf hkX hik, h3, hzr]
        · cases hx
      · cases hx
    · cases hx
  · cases ht

end
end Go.Vm
