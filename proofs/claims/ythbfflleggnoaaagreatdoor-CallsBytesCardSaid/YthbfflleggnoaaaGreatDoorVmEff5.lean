/- Maps written; append, copy, clear. -/
import Derived.Test.YthbfflleggnoaaaGreatDoorVmEff4
set_option linter.unusedSimpArgs false
set_option linter.unusedVariables false
namespace Go.Vm
open Go Go.RowKit

section
variable {P : Program} {G : Gh} {w : World} {L : Lm} {σ : St} {tm : Array Value} {ds : List Deferred}
variable {dst : Option Tmp} {ty : TypeId} {pos : String} {af : Array Edge} {gd : Option (Nat × Bool)}

theorem ER.append {a : List (V × V × Nat)} {b : List MapEntry} (h : ER G w a b) {k v : V} {n : Nat} {e : MapEntry} (hk : VR G w k e.key) (hv : VR G w v e.val) (hn : e.born = n) : ER G w (a ++ [(k, v, n)]) (b ++ [e]) := by
  induction h with
  | nil => exact .cons _ _ _ _ _ _ hk hv hn .nil
  | cons k' v' b' e' l es h1 h2 h3 _ ih => exact .cons _ _ _ _ _ _ h1 h2 h3 ih

/-- A map's block turns. -/
theorem SR.setMap (hs : SR w G L σ tm) {id B : Nat} {es es2 : List (V × V × Nat)} {clock clock2 : Nat} {es2' : Array MapEntry} (hid : σ.h[id]? = some (.map es clock)) (hB : G.ob id = some B) (her : ER G w es2 es2'.toList) :
    SR (setB w B (.map es2' clock2)) G L { σ with h := σ.h.set id (.map es2 clock2) } tm ∧ Ext w G L σ (setB w B (.map es2' clock2)) G L { σ with h := σ.h.set id (.map es2 clock2) } := by
  have hlt : id < σ.h.length := by
    rcases Nat.lt_or_ge id σ.h.length with h | h
    · exact h
    · rw [List.getElem?_eq_none h] at hid; cases hid
  have hget : (σ.h.set id (.map es2 clock2))[id]? = some (.map es2 clock2) := by simp [List.getElem?_set, hlt]
  have hown : ownB G σ.h id = some B := by unfold ownB; rw [hid]; exact hB
  exact hs.setHeap (id := id) hown (fun _ => Iff.rfl) (fun _ _ h => h) (fun _ _ _ h => h) (fun _ _ => ⟨rfl, fun _ => rfl⟩) hget (fun j hj => by simp [List.getElem?_set, Ne.symm hj])
    (fun hle => ⟨B, es2', hB, set_new _ (hs.hp.own_lt hown), her.mono hle⟩) (fun B' hB' => by unfold ownB at hB'; rw [hget] at hB'; dsimp only at hB'; rw [hB] at hB'; cases hB'; rfl)

theorem run_setObj {B : Nat} {es : Array MapEntry} {clock : Nat} (h : w.heap[B]? = some (.map es clock)) (o : Obj) : (setObj B o).run P w = .ok () (setB w B o) := by
  simp only [setObj, Sem.run, h]; rfl

theorem mapup_ok (hs : SR w G L σ tm) {t : TypeId} {x k v : Operand} {ks : KT} {y k' v' : Opd} (hf : fitO P (.mapUpdate t x k v) (.mapup ks y k' v') = true) {d : Option Nat} {r : T} {σ' : St} (hx : effO σ d (.mapup ks y k' v') = some (.ok r σ')) :
    Good P ((execOp (Act.eval ⟨tm, ds⟩) ⟨dst, .mapUpdate t x k v, ty, pos, af, gd⟩).run P w) w G L σ tm r σ' := by
  simp only [fitO, Bool.and_eq_true] at hf
  obtain ⟨⟨⟨ht, h1⟩, h2⟩, h3⟩ := hf
  split at ht
  · rename_i kt e hu
    simp only [effO] at hx
    split at hx
    · rename_i id kv vv hm hkv hvv
      obtain ⟨hkv, hik⟩ := Option.filter_eq_some_iff.1 hkv
      obtain ⟨B, hB, em⟩ := (val_ok (ds := ds) hs.ev h1 hm).inv_map
      have hkX := val_ok (ds := ds) hs.ev h2 hkv
      have hvX := val_ok (ds := ds) hs.ev h3 hvv
      split at hx
      · rename_i es clock hid
        obtain ⟨B', es', hB', hheap, her⟩ := hs.hp.obj _ _ hid
        rw [hB] at hB'; cases hB'
        have hget : (getObj B).run P w = .ok (.map es' clock) w := by simp [getObj, Sem.run, hheap]
        split at hx
        · rename_i q hfe
          obtain ⟨v0, b0⟩ := q
          simp only [Option.map_eq_some_iff] at hx
          obtain ⟨es2, hse, e2⟩ := hx
          cases e2
          obtain ⟨r', h4, i, e0, h5, h6, h7, h8, h9, h10⟩ := find_ok (P := P) ht hkX her hfe
          obtain ⟨es3, h11, h12⟩ := h10 _ _ hvX
          rw [hse] at h11; cases h11
          subst h5
          have hi : i < es'.size := by
            rcases Nat.lt_or_ge i es'.toList.length with h | h
            · simpa using h
            · rw [List.getElem?_eq_none h] at h6; cases h6
          have hmod : (es'.modify i fun e => { e with key := Act.eval ⟨tm, ds⟩ k, val := Act.eval ⟨tm, ds⟩ v }).toList = es'.toList.set i ⟨Act.eval ⟨tm, ds⟩ k, Act.eval ⟨tm, ds⟩ v, e0.born⟩ := by
            apply List.ext_getElem?
            intro j
            rw [Array.getElem?_toList, Array.getElem?_modify, List.getElem?_set]
            by_cases ej : i = j
            · subst ej
              rw [if_pos rfl, if_pos rfl]
              simp only [Array.getElem?_toList] at h6
              rw [h6]; simp [hi]
            · rw [if_neg ej, if_neg ej, Array.getElem?_toList]
          obtain ⟨h13, h14⟩ := hs.setMap (clock2 := clock) (es2' := es'.modify i fun e => { e with key := Act.eval ⟨tm, ds⟩ k, val := Act.eval ⟨tm, ds⟩ v }) hid hB (by rw [hmod]; exact h12)
          refine Good.skip ?_ h13 h14
          have hes : es'[i]? = some e0 := by simpa using h6
          have hes2 : es'[0 + i]? = some e0 := by rw [Nat.zero_add]; exact hes
          simp only [execOp, Sem.run_bind, Instr.mapUpdate, run_underlying hu, Result.andThen_ok, em, hget, checkKey_ok ht hkX hik, h4, hes, hes2, Option.map_some, Option.getD_some, Instr.keyThatStays, h9, if_true, Sem.run_pure, run_setObj hheap, Nat.zero_add]
          all_goals first | rfl | (rw [run_setObj hheap]; rfl)
        · rename_i hfe
          cases hx
          obtain ⟨r', h4, h5⟩ := find_ok (P := P) ht hkX her hfe
          cases h5
          obtain ⟨h13, h14⟩ := hs.setMap (clock2 := clock + 1) (es2' := es'.push { key := Act.eval ⟨tm, ds⟩ k, val := Act.eval ⟨tm, ds⟩ v, born := clock }) hid hB (by
            rw [Array.toList_push]; exact her.append (e := ⟨_, _, _⟩) hkX hvX rfl)
          refine Good.skip ?_ h13 h14
          simp only [execOp, Sem.run_bind, Instr.mapUpdate, run_underlying hu, Result.andThen_ok, em, hget, checkKey_ok ht hkX hik, h4]
          rw [run_setObj hheap]
          rfl
        · cases hx
      · cases hx
    · cases hx
  · cases ht

theorem mapent_ok (hs : SR w G L σ tm) {t : TypeId} {x k : Operand} {ks : KT} {zero : V} {y k' : Opd} (hf : fitO P (.mapEntry t x k) (.mapent ks zero y k') = true) {d : Option Nat} {r : T} {σ' : St} (hx : effO σ d (.mapent ks zero y k') = some (.ok r σ')) :
    Good P ((execOp (Act.eval ⟨tm, ds⟩) ⟨dst, .mapEntry t x k, ty, pos, af, gd⟩).run P w) w G L σ tm r σ' := by
  simp only [fitO, Bool.and_eq_true] at hf
  obtain ⟨⟨ht, h1⟩, h2⟩ := hf
  split at ht
  · rename_i kt e hu
    simp only [Bool.and_eq_true] at ht
    obtain ⟨ht, hz⟩ := ht
    obtain ⟨z, hzr, hzv⟩ := zeroAny (P := P) (G := G) (w := w) hz
    have tup : ∀ {a : V} {A : Value} (n : Nat) {G' : Gh} {w' : World}, VR G' w' a A → VR G' w' (.tuple [a, .int .i64 (n : Int)]) (.tuple #[A, goInt n]) := by
      intro a A n G' w' ha
      have := VR.tuple (G := G') (w := w') [a, .int .i64 (n : Int)] [A, goInt n] (.cons _ _ _ _ ha (.cons _ _ _ _ (.int _ _) .nil))
      simpa using this
    simp only [effO] at hx
    split at hx
    · rename_i id kv hm hkv
      obtain ⟨hkv, hik⟩ := Option.filter_eq_some_iff.1 hkv
      obtain ⟨B, hB, em⟩ := (val_ok (ds := ds) hs.ev h1 hm).inv_map
      have hkX := val_ok (ds := ds) hs.ev h2 hkv
      split at hx
      · rename_i es clock hid
        obtain ⟨B', es', hB', hheap, her⟩ := hs.hp.obj _ _ hid
        rw [hB] at hB'; cases hB'
        have hget : (getObj B).run P w = .ok (.map es' clock) w := by simp [getObj, Sem.run, hheap]
        split at hx
        · rename_i v0 b0 hfe
          simp only [Option.map_eq_some_iff] at hx
          obtain ⟨es2, hse, e2⟩ := hx
          cases e2
          obtain ⟨r', h4, i, e0, h5, h6, h7, h8, h9, h10⟩ := find_ok (P := P) ht hkX her hfe
          obtain ⟨es3, h11, h12⟩ := h10 _ _ h7
          rw [hse] at h11; cases h11
          subst h5
          have hi : i < es'.size := by
            rcases Nat.lt_or_ge i es'.toList.length with h | h
            · simpa using h
            · rw [List.getElem?_eq_none h] at h6; cases h6
          have hmod : (es'.modify i fun e => { e with key := Act.eval ⟨tm, ds⟩ k }).toList = es'.toList.set i ⟨Act.eval ⟨tm, ds⟩ k, e0.val, e0.born⟩ := by
            apply List.ext_getElem?
            intro j
            rw [Array.getElem?_toList, Array.getElem?_modify, List.getElem?_set]
            by_cases ej : i = j
            · subst ej
              rw [if_pos rfl, if_pos rfl]
              simp only [Array.getElem?_toList] at h6
              rw [h6]; simp [hi]
            · rw [if_neg ej, if_neg ej, Array.getElem?_toList]
          obtain ⟨h13, h14⟩ := hs.setMap (clock2 := clock) (es2' := es'.modify i fun e => { e with key := Act.eval ⟨tm, ds⟩ k }) hid hB (by rw [hmod]; exact h12)
          have hes : es'[i]? = some e0 := by simpa using h6
          have hes2 : es'[0 + i]? = some e0 := by rw [Nat.zero_add]; exact hes
          refine Good.step (v := .tuple #[e0.val, goInt e0.born]) (exec_v rfl ?_) (.v _ _ (by rw [h8]; exact tup b0 (VR.mono (h14.le hs) h7))) h13 h14
          simp only [Instr.mapEntry, Sem.run_bind, run_underlying hu, Result.andThen_ok, em, hget, checkKey_ok ht hkX hik, h4, hes, hes2, Option.map_some, Option.getD_some, Instr.keyThatStays, h9, if_true, Sem.run_pure, Nat.zero_add]
          rw [run_setObj hheap]
          simp
        · rename_i hfe
          cases hx
          obtain ⟨r', h4, h5⟩ := find_ok (P := P) ht hkX her hfe
          cases h5
          obtain ⟨h13, h14⟩ := hs.setMap (clock2 := clock + 1) (es2' := es'.push { key := Act.eval ⟨tm, ds⟩ k, val := z, born := clock }) hid hB (by
            rw [Array.toList_push]; exact her.append (e := ⟨_, _, _⟩) hkX hzv rfl)
          refine Good.step (v := .tuple #[z, goInt clock]) (exec_v rfl ?_) (.v _ _ (tup clock (VR.mono (h14.le hs) hzv))) h13 h14
          simp only [Instr.mapEntry, Sem.run_bind, run_underlying hu, Result.andThen_ok, em, hget, checkKey_ok ht hkX hik, h4, hzr]
          rw [run_setObj hheap]
          simp
        · cases hx
      · cases hx
    · cases hx
  · cases ht

theorem born_ok {n : Nat} {nv : V} {nx : Value} (hn : VR G w nv nx) {l : List (V × V × Nat)} {es : List MapEntry} (her : ER G w l es) : ∀ {l2 : List (V × V × Nat)}, setBorn n nv l = some l2 →
    ∃ i e, es.findIdx? (fun e => (e.born : Int) == (n : Int)) = some i ∧ es[i]? = some e ∧ ER G w l2 (es.set i ⟨e.key, nx, e.born⟩) := by
  induction her with
  | nil => intro l2 h; cases h
  | cons k v b e l es hk hv hb hl ih =>
    intro l2 h
    simp only [setBorn] at h
    split at h
    · rename_i hbn
      cases h
      refine ⟨0, e, ?_, rfl, .cons _ _ _ _ _ _ hk hn hb hl⟩
      have : ((e.born : Int) == (n : Int)) = true := by rw [hb, hbn]; simp
      simp [List.findIdx?_cons, this]
    · rename_i hbn
      obtain ⟨l3, h3, e3⟩ := Option.map_eq_some_iff.1 h
      cases e3
      obtain ⟨i, e', h4, h5, h6⟩ := ih h3
      refine ⟨i + 1, e', ?_, by simpa using h5, .cons _ _ _ _ _ _ hk hv hb h6⟩
      have : ((e.born : Int) == (n : Int)) = false := by rw [hb]; simp; omega
      rw [List.findIdx?_cons, this, h4]; rfl

theorem entst_ok (hs : SR w G L σ tm) {t : TypeId} {x s v : Operand} {y s' v' : Opd} (hf : fitO P (.entryStore t x s v) (.entst y s' v') = true) {d : Option Nat} {r : T} {σ' : St} (hx : effO σ d (.entst y s' v') = some (.ok r σ')) :
    Good P ((execOp (Act.eval ⟨tm, ds⟩) ⟨dst, .entryStore t x s v, ty, pos, af, gd⟩).run P w) w G L σ tm r σ' := by
  simp only [fitO, Bool.and_eq_true] at hf
  obtain ⟨⟨h1, h2⟩, h3⟩ := hf
  simp only [effO] at hx
  split at hx
  · rename_i id k n vv hm hn hvv
    obtain ⟨B, hB, em⟩ := (val_ok (ds := ds) hs.ev h1 hm).inv_map
    have es0 := asInt_ok (ds := ds) hs.ev h2 hn
    have hvX := val_ok (ds := ds) hs.ev h3 hvv
    split at hx
    · rename_i es clock hid
      split at hx
      · rename_i hn0
        obtain ⟨B', es', hB', hheap, her⟩ := hs.hp.obj _ _ hid
        rw [hB] at hB'; cases hB'
        have hget : (getObj B).run P w = .ok (.map es' clock) w := by simp [getObj, Sem.run, hheap]
        simp only [Option.map_eq_some_iff] at hx
        obtain ⟨es2, hse, e2⟩ := hx
        cases e2
        obtain ⟨N, rfl⟩ := Int.eq_ofNat_of_zero_le hn0
        simp only [Int.toNat_natCast] at hse
        obtain ⟨i, e0, h4, h5, h6⟩ := born_ok hvX her hse
        have hi : i < es'.size := by
          rcases Nat.lt_or_ge i es'.toList.length with h | h
          · simpa using h
          · rw [List.getElem?_eq_none h] at h5; cases h5
        have hmod : (es'.modify i fun e => { e with val := Act.eval ⟨tm, ds⟩ v }).toList = es'.toList.set i ⟨e0.key, Act.eval ⟨tm, ds⟩ v, e0.born⟩ := by
          apply List.ext_getElem?
          intro j
          rw [Array.getElem?_toList, Array.getElem?_modify, List.getElem?_set]
          by_cases ej : i = j
          · subst ej
            rw [if_pos rfl, if_pos rfl]
            simp only [Array.getElem?_toList] at h5
            rw [h5]; simp [hi]
          · rw [if_neg ej, if_neg ej, Array.getElem?_toList]
        obtain ⟨h13, h14⟩ := hs.setMap (clock2 := clock) (es2' := es'.modify i fun e => { e with val := Act.eval ⟨tm, ds⟩ v }) hid hB (by rw [hmod]; exact h6)
        refine Good.skip ?_ h13 h14
        have hfi : es'.findIdx? (fun e => (e.born : Int) == (N : Int)) = some i := by rw [← List.findIdx?_toArray] at h4; simpa using h4
        simp only [execOp, Instr.entryStore, Sem.run_bind, em, hget, Result.andThen_ok, asInt, asIntOf, es0, Sem.run_pure, hfi]
        rw [run_setObj hheap]
        rfl
      · cases hx
    · cases hx
  · cases hx

theorem panic_ok (hs : SR w G L σ tm) {x : Operand} {y : Opd} (hf : fitO P (.panic x) (.panic y) = true) {d : Option Nat} {v : V} {σ' : St} (hx : effO σ d (.panic y) = some (.pan v σ')) :
    ∃ val, (execOp (Act.eval ⟨tm, ds⟩) ⟨dst, .panic x, ty, pos, af, gd⟩).run P w = .halt (.panic val) w ∧ VR G w v val ∧ σ' = σ := by
  simp only [fitO] at hf
  simp only [effO, Option.bind_eq_some_iff] at hx
  obtain ⟨u, hu, hx⟩ := hx
  split at hx
  · cases hx
    have hvr := val_ok (ds := ds) hs.ev hf hu
    obtain ⟨y', _, e⟩ := hvr.inv_iface
    refine ⟨Act.eval ⟨tm, ds⟩ x, ?_, hvr, rfl⟩
    simp only [execOp, Sem.run_bind, Instr.panic, e, run_goPanic, Result.andThen_halt]
  · cases hx

/-! ### append -/

theorem run_firstCells {z n : Nat} {B off : Nat} {xs : List Value} (h : cellsIn w B off xs) (hl : xs.length = n * z) (m c : Nat) : (Builtin.firstCells z n (.slice (some ⟨B, off, none⟩) m c)).run P w = .ok xs.toArray w := by
  simp only [Builtin.firstCells]
  rw [← hl]
  exact run_loadCells_list w _ _ (fun j v hj => by rw [add_none]; exact cell_of h hj)

/-- What is appended, or copied. -/
theorem src_ok (hs : SR w G L σ tm) {v : V} {x : Value} (hv : VR G w v x) {add : List V} (ha : σ.srcV v = some add) {z : Nat} (hz : ∀ u ∈ add, u.cells.length = z) :
    (Builtin.lenOf x).run P w = .ok add.length w ∧ ∀ n, n ≤ add.length → ∀ w', w'.heap = w.heap → ∃ news, (Builtin.firstCells z n x).run P w' = .ok news.toArray w' ∧ CRs G w ((add.take n).flatMap V.cells) news ∧ news.length = n * z := by
  by_cases hstr : ∃ s, v = .str s
  · obtain ⟨s, rfl⟩ := hstr
    simp only [St.srcV, Option.some.injEq] at ha
    subst ha
    obtain ⟨b, rfl, rfl⟩ := hv.inv_str
    have hbl : (bytesV b.data.toList).length = b.size := by simp [bytesV]
    refine ⟨by rw [hbl]; simp [Builtin.lenOf], fun n hn w' _ => ?_⟩
    refine ⟨(b.data.toList.take n).map fun b => Value.int .u8 (b.toNat : Int), ?_, ?_, ?_⟩
    · have : (b.extract 0 n).data.toList = b.data.toList.take n := by rw [extract_list]; simp
      have h2 : ((b.extract 0 n).data.map fun b => Value.int .u8 (b.toNat : Int)) = ((b.data.toList.take n).map fun b => Value.int .u8 (b.toNat : Int)).toArray := by
        apply Array.ext'; rw [Array.toList_map, this]
      simp only [Builtin.firstCells, Sem.run_pure, h2]
    · have : (bytesV b.data.toList).take n = bytesV (b.data.toList.take n) := by simp [bytesV, List.map_take]
      rw [this, bytes_flat]
      exact bytes_CRs _
    · rw [hbl] at hn
      have h1 : ((b.data.toList.take n).map fun b => Value.int .u8 (b.toNat : Int)).length = n := by
        have : b.data.toList.length = b.size := rfl
        simp only [List.length_map, List.length_take]; omega
      rw [h1]
      cases n with
      | zero => simp
      | succ n =>
        have hpos : 0 < (bytesV b.data.toList).length := by rw [hbl]; omega
        have := hz _ (List.getElem_mem hpos)
        simp [bytesV] at this
        rw [← this]; simp [V.cells]
  · have ha' : σ.elems v = some add := by
      cases v <;> first | exact ha | exact absurd ⟨_, rfl⟩ hstr
    obtain ⟨base, cap, rfl, hle, hcase⟩ := elems_ok hs hv ha'
    refine ⟨by simp [Builtin.lenOf], fun n hn w' hw' => ?_⟩
    rcases hcase with rfl | ⟨B, off, xs, s, rfl, hci, hcr, hlen⟩
    · have : n = 0 := by simpa using hn
      subst this
      refine ⟨[], ?_, by simpa using CRs.nil, by simp⟩
      cases base <;> simp [Builtin.firstCells, loadCells, loadCellsFrom]
    · have hci' : cellsIn w' B off (xs.take (n * z)) := by
        obtain ⟨c, el, fr, hb, hc⟩ := hci.take (n * z)
        exact ⟨c, el, fr, by rw [hw']; exact hb, hc⟩
      have hfl := flat_len hz
      have hxl := hcr.length
      have hnm : n * z ≤ add.length * z := Nat.mul_le_mul_right _ hn
      have hl : (xs.take (n * z)).length = n * z := by simp; omega
      exact ⟨_, run_firstCells hci' hl _ _, by rw [flat_take _ hz]; exact hcr.take _, hl⟩

theorem hzeros {du : TypeDesc} (hdu2 : ∀ k, du ≠ .int k) : (du matches .int _) = false := by
  cases du <;> first | rfl | exact absurd rfl (hdu2 _)

theorem run_app_fit {t u e : TypeId} {i : TypeInfo} {du : TypeDesc} (ht : P.underlying t = some (.slice e)) (hdu : P.underlying u = some du) (hdu2 : ∀ k, du ≠ .int k) (hi : P.info? e = some i) {x : Value} {n : Nat}
    (hl : (Builtin.lenOf x).run P w = .ok n w) {news : List Value} (hn : (Builtin.firstCells i.size n x).run P w = .ok news.toArray w) {a : Addr} {len cap : Nat} (hle : len + n ≤ cap) {w' : World}
    (hs : (storeCells (a.add (len * i.size)) news).run P w = .ok () w') : (Builtin.append_ #[t, u] ty #[.slice (some a) len cap, x]).run P w = .ok (.slice (some a) (len + n) cap) w' := by
  have hz := hzeros hdu2
  simp only [Builtin.append_, Sem.run_bind, show (#[t, u] : Array TypeId)[0]? = some t from rfl, show (#[t, u] : Array TypeId)[1]? = some u from rfl, show (#[Value.slice (some a) len cap, x] : Array Value)[0]? = some (.slice (some a) len cap) from rfl,
    show (#[Value.slice (some a) len cap, x] : Array Value)[1]? = some x from rfl, run_underlying ht, Result.andThen_ok, sizeOf, typeInfo, run_program, hi, Sem.run_pure]
  simp only [run_underlying hdu, Result.andThen_ok, hz, Bool.false_eq_true, if_false, hl, if_pos hle, Bool.not_false, if_true, hn, Sem.run_bind, hs, Sem.run_pure]

theorem run_app_nil {t u e : TypeId} {i : TypeInfo} {du : TypeDesc} (ht : P.underlying t = some (.slice e)) (hdu : P.underlying u = some du) (hdu2 : ∀ k, du ≠ .int k) (hi : P.info? e = some i) {x : Value}
    (hl : (Builtin.lenOf x).run P w = .ok 0 w) {news : List Value} (hn : (Builtin.firstCells i.size 0 x).run P w = .ok news.toArray w) : (Builtin.append_ #[t, u] ty #[.slice none 0 0, x]).run P w = .ok (.slice none 0 0) w := by
  have hz := hzeros hdu2
  simp only [Builtin.append_, Sem.run_bind, show (#[t, u] : Array TypeId)[0]? = some t from rfl, show (#[t, u] : Array TypeId)[1]? = some u from rfl, show (#[Value.slice none 0 0, x] : Array Value)[0]? = some (.slice none 0 0) from rfl,
    show (#[Value.slice none 0 0, x] : Array Value)[1]? = some x from rfl, run_underlying ht, Result.andThen_ok, sizeOf, typeInfo, run_program, hi, Sem.run_pure]
  simp only [run_underlying hdu, Result.andThen_ok, hz, Bool.false_eq_true, if_false, hl, Nat.add_zero, Nat.le_refl, if_true, Bool.not_false, hn, Sem.run_bind, Sem.run_pure]

theorem run_app_grow {t u e : TypeId} {i : TypeInfo} {z : Value} {du : TypeDesc} (ht : P.underlying t = some (.slice e)) (hdu : P.underlying u = some du) (hdu2 : ∀ k, du ≠ .int k) (hi : P.info? e = some i) (hzv : i.zero = some z) {x : Value} {n : Nat}
    (hl : (Builtin.lenOf x).run P w = .ok n w) {base : Option Addr} {len cap : Nat} {olds news : List Value} (hg : cap < len + n) (h63 : len + n < far) (hb : (len + n) * i.bytes < far)
    (hold : (Builtin.firstCells i.size len (.slice base len cap)).run P w.drew = .ok olds.toArray w.drew) (hn : (Builtin.firstCells i.size n x).run P w.drew = .ok news.toArray w.drew) :
    (Builtin.append_ #[t, u] ty #[.slice base len cap, x]).run P w = .ok (.slice (some ⟨w.heap.size, 0, none⟩) (len + n) (grownCap w (len + n) cap e))
      (pushB w.drew (.cells (olds.toArray ++ news.toArray ++ Builtin.zeroCells z.cells (grownCap w (len + n) cap e - (len + n))) e)) := by
  have hz := hzeros hdu2
  have hfar : far = 4294967296 := rfl
  have h1 : ¬ (len + n ≤ cap) := by omega
  have hfit := growslice_fits (need := len + n) (old := cap) (bytes := i.bytes) hg (by omega)
  have h48 : ¬ (Builtin.nextslicecap (len + n) cap * i.bytes > 2 ^ 48) := by have : (2 : Nat) ^ 48 = 281474976710656 := rfl
                                                                             omega
  have h63' : ¬ (((len + n : Nat) : Int) > IntKind.i64.max) := by have : IntKind.i64.max = 9223372036854775807 := rfl
                                                                  omega
  have hq : (Question.appendCap (len + n) cap e).forced = false := rfl
  simp only [Builtin.append_, Sem.run_bind, show (#[t, u] : Array TypeId)[0]? = some t from rfl, show (#[t, u] : Array TypeId)[1]? = some u from rfl, show (#[Value.slice base len cap, x] : Array Value)[0]? = some (.slice base len cap) from rfl,
    show (#[Value.slice base len cap, x] : Array Value)[1]? = some x from rfl, run_underlying ht, Result.andThen_ok, sizeOf, typeInfo, run_program, hi, Sem.run_pure]
  simp only [run_underlying hdu, Result.andThen_ok, hz, Bool.false_eq_true, if_false, hl, if_neg h1, Bool.not_false, if_true, false_and, h63', h48, Sem.run_bind, Sem.run_pure, run_program, hi, run_choose, hq, run_askRoom]
  simp only [World.drew] at hold hn
  simp only [hold, hn, Result.andThen_ok, zeroValue, Sem.run_bind, typeInfo, run_program, hi, hzv, Sem.run_pure, run_newRow]
  rfl

theorem zeroCells_size (z : Array Value) (n : Nat) : (Builtin.zeroCells z n).size = n * z.size := by simp [Builtin.zeroCells]

theorem append_ok (hs : SR w G L σ tm) {args : Array Operand} {ts : Array TypeId} {z bytes : Nat} {y1 y2 : Opd} (hf : fitO P (.call ⟨.builtin .append, args, ts⟩) (.append z bytes y1 y2) = true) {d : Option Nat} {r : T} {σ' : St}
    (hx : effO σ d (.append z bytes y1 y2) = some (.ok r σ')) :
    Good P ((execOp (Act.eval ⟨tm, ds⟩) ⟨dst, .call ⟨.builtin .append, args, ts⟩, ty, pos, af, gd⟩).run P w) w G L σ tm r σ' := by
  simp only [fitO] at hf
  split at hf
  · rename_i x1 x2 t u ea et
    have ea' : args = #[x1, x2] := by apply Array.ext'; simpa using ea
    have et' : ts = #[t, u] := by apply Array.ext'; simpa using et
    subst ea'; subst et'
    simp only [Bool.and_eq_true] at hf
    obtain ⟨⟨⟨ht, hu2⟩, h1⟩, h2⟩ := hf
    split at ht
    · rename_i e he
      have htu := elemT_ok he
      simp only [Bool.and_eq_true, beq_iff_eq] at ht
      obtain ⟨⟨hsz, hby⟩, hzero⟩ := ht
      obtain ⟨i, hi, hib⟩ := Option.map_eq_some_iff.1 hby
      have hisz : i.size = z := by obtain ⟨i', hi', h⟩ := sizeT_info hsz; rw [hi] at hi'; cases hi'; exact h
      subst hisz
      cases hzv : (P.info? e).bind (·.zero) with
      | none => rw [hzv] at hzero; cases hzero
      | some zv =>
        rw [hzv] at hzero
        have hzs : zv.cells.size = i.size := by simpa using hzero
        have hiz : i.zero = some zv := by rw [hi] at hzv; exact hzv
        have hud : ∃ du, P.underlying u = some du ∧ ∀ k, du ≠ .int k := by
          revert hu2; cases P.underlying u with
          | none => intro h; cases h
          | some du => cases du <;> intro h <;> first | exact absurd h Bool.false_ne_true | exact ⟨_, rfl, fun _ e => by cases e⟩
        obtain ⟨du, hdu, hdu2⟩ := hud
        simp only [effO] at hx
        split at hx
        · rename_i v1 v2 hv1 hv2
          simp only [Option.bind_eq_some_iff] at hx
          obtain ⟨add, hadd, hx⟩ := hx
          split at hx
          · rename_i hall
            have hzall : ∀ u ∈ add, u.cells.length = i.size := fun v hv => by simpa using List.all_eq_true.1 hall v hv
            have hr1 := val_ok (ds := ds) hs.ev h1 hv1
            have hr2 := val_ok (ds := ds) hs.ev h2 hv2
            obtain ⟨hlen, hsrc⟩ := src_ok (P := P) hs hr2 hadd hzall
            have exec : ∀ {v : Value} {w' : World}, (Builtin.append_ #[t, u] ty #[Act.eval ⟨tm, ds⟩ x1, Act.eval ⟨tm, ds⟩ x2]).run P w = .ok v w' →
                (execOp (Act.eval ⟨tm, ds⟩) ⟨dst, .call ⟨.builtin .append, #[x1, x2], #[t, u]⟩, ty, pos, af, gd⟩).run P w = .ok (.value v) w' := by
              intro v w' h
              simp only [execOp, resolve, invoke, builtin, Sem.run_bind, Sem.run_pure, Result.andThen_ok, List.map_toArray, List.map_cons, List.map_nil, h]
            have hfar : far = 4294967296 := rfl
            have hdrew : w.drew.heap = w.heap := rfl
            obtain ⟨news, hnews, hncr, hnl⟩ := hsrc add.length (Nat.le_refl _) w rfl
            obtain ⟨news', hnews', hncr', hnl'⟩ := hsrc add.length (Nat.le_refl _) w.drew hdrew
            rw [List.take_length] at hncr hncr'
            obtain ⟨hs1, hx1⟩ := hs.draw (w' := w.drew) rfl
            have hle1 := hx1.le hs
            split at hx
            · -- nil
              have e1 := hr1.inv_nils
              cases hemp : add.isEmpty with
              | true =>
                rw [hemp] at hx
                cases hx
                have h0 : add = [] := by simpa using hemp
                subst h0
                refine Good.same hs (v := .slice none 0 0) (exec ?_) (.v _ _ .nils)
                rw [e1]
                exact run_app_nil htu hdu hdu2 hi hlen hnews
              | false =>
                rw [hemp] at hx
                have hpos : 0 < add.length := by cases add with
                  | nil => cases hemp
                  | cons a l => simp
                simp only [cond_false] at hx
                split at hx
                · rename_i hc
                  obtain ⟨c1, c2, c3⟩ := hc
                  cases hx
                  have hnew : σ.newH none (.row 0 add) = some (σ.h.length, { σ with h := σ.h ++ [HO.row 0 add] }) := rfl
                  have hrun := run_app_grow (ty := ty) htu hdu hdu2 hi hiz hlen (base := none) (len := 0) (cap := 0) (olds := []) (by omega) (by omega) (by rw [hib, Nat.zero_add]; exact c1) (by simp [Builtin.firstCells]) hnews'
                  generalize hcap : grownCap w (0 + add.length) 0 e = cap at hrun
                  have hcap2 : add.length ≤ cap := by rw [← hcap]; simp only [grownCap, Question.cut]; omega
                  generalize hcells : (([] : List Value).toArray ++ news'.toArray ++ Builtin.zeroCells zv.cells (cap - (0 + add.length))) = cells at hrun
                  have hsz : cells.size = cap * i.size := by
                    rw [← hcells]; simp only [Array.size_append, zeroCells_size, hzs, List.size_toArray, List.length_nil, hnl']
                    rw [Nat.zero_add, Nat.zero_add, ← Nat.add_mul]; congr 1; omega
                  obtain ⟨h3, h4⟩ := newH_row hs1 hnew (c := cells) (el := e) (fr := (0, 0)) (s := i.size) (cap := cap) (by omega) hcap2 hzall c3 (by
                    rw [← hcells]
                    simp only [Array.toList_append, List.nil_append]
                    rw [List.take_append_of_le_length (by simp [hnl']), List.take_of_length_le (by simp [hnl'])]
                    exact CRs.mono hle1 hncr') (fun o _ hh => by omega)
                  have hget : (G.setRw σ.h.length 0 ⟨w.drew.heap.size, 0, i.size, cap⟩).rw σ.h.length 0 = some ⟨w.drew.heap.size, 0, i.size, cap⟩ := by
                    show (if σ.h.length = σ.h.length ∧ 0 = 0 then _ else _) = _; rw [if_pos ⟨rfl, rfl⟩]
                  rw [e1] at exec
                  rw [Nat.zero_add] at hrun
                  exact Good.step (exec hrun) (.v _ _ (.sl σ.h.length 0 0 add.length cap _ _ hget hcap2 (by simp) (.inr (by simp [hdrew])))) h3 (hx1.trans h4)
                · cases hx
            · -- a row
              rename_i id ver sz off len
              split at hx
              · rename_i ver' l hid
                split at hx
                · rename_i hc
                  obtain ⟨rfl, rfl, rfl, c4, c5, c6⟩ := hc
                  cases hx
                  obtain ⟨ro, a, cap, hro, hsz0, hlc, hcr, hadr, e1⟩ := hr1.inv_sl
                  obtain ⟨ro', hro', hlast, c, el, fr, hb, o1, o2, o3, o4, ocr, ofr⟩ := hs.hp.obj _ _ hid
                  rw [hro] at hro'; cases hro'
                  have hidlt : id < σ.h.length := by
                    rcases Nat.lt_or_ge id σ.h.length with h | h
                    · exact h
                    · rw [List.getElem?_eq_none h] at hid; cases hid
                  generalize hl' : l.take len ++ add = l'
                  have hll : l'.length = len + add.length := by rw [← hl']; simp; omega
                  have hl'z : ∀ v ∈ l', v.cells.length = ro.s := by
                    intro v hv; rw [← hl'] at hv
                    rcases List.mem_append.1 hv with h | h
                    · exact o3 v (List.mem_of_mem_take h)
                    · rw [← hsz0]; exact hzall v h
                  have hget' : (σ.h.set id (.row (ver' + 1) l'))[id]? = some (.row (ver' + 1) l') := by simp [List.getElem?_set, hidlt]
                  have hoth : ∀ j, j ≠ id → (σ.h.set id (.row (ver' + 1) l'))[j]? = σ.h[j]? := fun j hj => by simp [List.getElem?_set, Ne.symm hj]
                  have hown : ownB G σ.h id = some ro.B := by unfold ownB; rw [hid]; dsimp only; rw [hro]; rfl
                  have m1 : len * ro.s ≤ l.length * ro.s := Nat.mul_le_mul_right _ c4
                  have m2 : l.length * ro.s ≤ ro.cap * ro.s := Nat.mul_le_mul_right _ o2
                  have oldcr : CRs G w ((l.take len).flatMap V.cells) ((c.toList.drop ro.base).take (len * ro.s)) := by
                    have := ocr.take (len * ro.s)
                    rw [← flat_take _ o3, List.take_take, Nat.min_eq_left m1] at this
                    exact this
                  have hrw : ∀ (rn : RowLoc) j v q, G.rw j v = some q → (G.setRw id (ver' + 1) rn).rw j v = some q := by
                    intro rn j v q hj
                    show (if j = id ∧ v = ver' + 1 then _ else _) = _
                    rw [if_neg (by rintro ⟨rfl, rfl⟩; rw [hlast _ (by omega)] at hj; cases hj)]; exact hj
                  have hag : ∀ (rn : RowLoc) j, j ≠ id → (G.setRw id (ver' + 1) rn).ob j = G.ob j ∧ ∀ v, (G.setRw id (ver' + 1) rn).rw j v = G.rw j v := fun rn j hj =>
                    ⟨rfl, fun v => by show (if j = id ∧ v = ver' + 1 then _ else _) = _; rw [if_neg (fun e => hj e.1)]⟩
                  have hgetG : ∀ rn : RowLoc, (G.setRw id (ver' + 1) rn).rw id (ver' + 1) = some rn := fun rn => by
                    show (if id = id ∧ ver' + 1 = ver' + 1 then _ else _) = _; rw [if_pos ⟨rfl, rfl⟩]
                  have hlastG : ∀ (rn : RowLoc) v, ver' + 1 < v → (G.setRw id (ver' + 1) rn).rw id v = none := fun rn v hv => by
                    show (if id = id ∧ v = ver' + 1 then _ else _) = _; rw [if_neg (by rintro ⟨_, rfl⟩; omega)]; exact hlast v (by omega)
                  have hBG : ∀ (rn : RowLoc) B', ownB (G.setRw id (ver' + 1) rn) (σ.h.set id (.row (ver' + 1) l')) id = some B' → B' = rn.B := by
                    intro rn B' hB'
                    unfold ownB at hB'
                    rw [hget'] at hB'; dsimp only at hB'; rw [hgetG] at hB'; cases hB'; rfl
                  rw [e1] at exec
                  by_cases hfit : len + add.length ≤ cap
                  · -- there is room
                    have m3 : (len + add.length) * ro.s ≤ ro.cap * ro.s := Nat.mul_le_mul_right _ (by omega)
                    have hnl2 : news.length = add.length * ro.s := by rw [hnl, hsz0]
                    rw [Nat.add_mul] at m3
                    have hroom : ro.base + len * ro.s + news.length ≤ c.size := by omega
                    have hst : (storeCells (a.add (len * i.size)) news).run P w = .ok () (setB w ro.B (.cells (wr c (ro.base + len * ro.s) news) el fr)) := by
                      have hr := run_storeCells (P := P) (B := ro.B) (off := ro.base + len * ro.s) news 0 c w hb ofr (by simpa using hroom) hncr.cells
                      rcases hadr with h0 | ha
                      · have : news = [] := by
                          have : add.length = 0 := by omega
                          rw [this, Nat.zero_mul] at hnl2; exact List.eq_nil_of_length_eq_zero hnl2
                        subst this
                        exact hr
                      · rw [ha, add_none, hsz0]; simpa using hr
                    obtain ⟨h3, h4⟩ := hs.setHeap (id := id) (B := ro.B) (o := .cells (wr c (ro.base + len * ro.s) news) el fr) (G' := G.setRw id (ver' + 1) ro) (h' := σ.h.set id (.row (ver' + 1) l')) hown (fun _ => Iff.rfl) (fun _ _ h => h)
                      (hrw ro) (hag ro) hget' hoth (fun hle => by
                        refine ⟨ro, hgetG ro, hlastG ro, _, el, fr, set_new _ (lt_of_block hb), by rw [wr_size hroom]; exact o1, by omega, hl'z, o4, ?_, by rw [wr_size hroom]; exact ofr⟩
                        have : ((wr c (ro.base + len * ro.s) news).toList.drop ro.base).take (l'.length * ro.s) = (c.toList.drop ro.base).take (len * ro.s) ++ news := by
                          simp only [wr, List.toList_toArray]
                          rw [List.append_assoc, List.drop_append_of_le_length (by simp; omega), List.drop_take]
                          rw [show ro.base + len * ro.s - ro.base = len * ro.s by omega]
                          have hlen3 : ((c.toList.drop ro.base).take (len * ro.s)).length = len * ro.s := by simp; omega
                          rw [← List.append_assoc, List.take_append_of_le_length (by simp only [List.length_append, hlen3, hll, hnl2, Nat.add_mul]; omega),
                            List.take_of_length_le (by simp only [List.length_append, hlen3, hll, hnl2, Nat.add_mul]; omega)]
                        rw [this, ← hl', List.flatMap_append]
                        exact CRs.mono hle (oldcr.append hncr)) (hBG ro)
                    have hrun := run_app_fit (ty := ty) htu hdu hdu2 hi hlen hnews hfit hst
                    refine Good.step (exec hrun) (.v _ _ ?_) h3 h4
                    have hv := VR.sl (G := G.setRw id (ver' + 1) ro) (w := setB w ro.B (.cells (wr c (ro.base + len * ro.s) news) el fr)) id (ver' + 1) 0 (len + add.length) cap ro a (hgetG ro) hfit (by omega) hadr
                    rw [hsz0]; exact hv
                  · -- there is none
                    have hgt : cap < len + add.length := by omega
                    have hold : (Builtin.firstCells i.size len (.slice (some a) len cap)).run P w.drew = .ok ((c.toList.drop ro.base).take (len * ro.s)).toArray w.drew := by
                      have hl2 : ((c.toList.drop ro.base).take (len * ro.s)).length = len * i.size := by rw [hsz0]; simp; omega
                      rcases hadr with h0 | ha
                      · have : len = 0 := by omega
                        subst this
                        simp [Builtin.firstCells, loadCells, loadCellsFrom]
                      · subst ha
                        rw [Nat.zero_mul, Nat.add_zero]
                        refine run_firstCells (w := w.drew) ⟨c, el, fr, hb, fun j hj => by
                          have hj' : j < len * ro.s := by rw [hl2, hsz0] at hj; exact hj
                          rw [List.getElem?_take_of_lt hj', List.getElem?_drop, Array.getElem?_toList]⟩ hl2 len cap
                    have hrun := run_app_grow (ty := ty) htu hdu hdu2 hi hiz hlen (base := some a) (len := len) (cap := cap) hgt c6 (by rw [hib]; exact c5) hold hnews'
                    generalize hcap : grownCap w (len + add.length) cap e = cap' at hrun
                    have hcap2 : len + add.length ≤ cap' := by rw [← hcap]; simp only [grownCap, Question.cut]; omega
                    generalize hcells : (((c.toList.drop ro.base).take (len * ro.s)).toArray ++ news'.toArray ++ Builtin.zeroCells zv.cells (cap' - (len + add.length))) = cells at hrun
                    have hlen3 : ((c.toList.drop ro.base).take (len * ro.s)).length = len * ro.s := by simp; omega
                    have hnl2 : news'.length = add.length * ro.s := by rw [hnl', hsz0]
                    have hsz : cells.size = cap' * ro.s := by
                      rw [← hcells]; simp only [Array.size_append, zeroCells_size, hzs, List.size_toArray, hlen3, hnl2, hsz0]
                      rw [← Nat.add_mul, ← Nat.add_mul]; congr 1; omega
                    have hle2 : Le G w.drew (G.setRw id (ver' + 1) ⟨w.heap.size, 0, ro.s, cap'⟩) (pushB w.drew (.cells cells e)) := hs1.le_push _ (fun _ h => h) (fun _ _ h => h) (hrw _)
                    obtain ⟨h3, h4⟩ := hs1.pushHeap (id := id) (o := .cells cells e) (G' := G.setRw id (ver' + 1) ⟨w.heap.size, 0, ro.s, cap'⟩) (h' := σ.h.set id (.row (ver' + 1) l')) (rb := σ.rb) hle2 (fun _ h => h) (hag _) hget' hoth
                      ⟨_, hgetG _, hlastG _, cells, e, (0, 0), push_new _, by rw [hsz]; simp, by rw [hll]; exact hcap2, hl'z, o4, by
                        have : (cells.toList.drop 0).take (l'.length * ro.s) = (c.toList.drop ro.base).take (len * ro.s) ++ news' := by
                          rw [← hcells]
                          simp only [Array.toList_append, List.drop_zero]
                          rw [List.take_append_of_le_length (by simp only [List.length_append, hlen3, hll, hnl2, Nat.add_mul]; omega),
                            List.take_of_length_le (by simp only [List.length_append, hlen3, hll, hnl2, Nat.add_mul]; omega)]
                        rw [this, ← hl', List.flatMap_append]
                        exact CRs.mono hle2 (CRs.mono hle1 (oldcr.append hncr')), fun o _ hh => by omega⟩
                      (fun B hB => by rw [hBG _ B hB]; exact Nat.le_refl _)
                    refine Good.step (exec hrun) (.v _ _ ?_) h3 (hx1.trans h4)
                    have hv := VR.sl (G := G.setRw id (ver' + 1) ⟨w.heap.size, 0, ro.s, cap'⟩) (w := pushB w.drew (.cells cells e)) id (ver' + 1) 0 (len + add.length) cap' _ ⟨w.heap.size, 0, none⟩ (hgetG _) hcap2 (by simp) (.inr (by simp))
                    rw [hsz0]; exact hv
                · cases hx
              · cases hx
            · cases hx
          · cases hx
        · cases hx
    · cases ht
  · cases hf

end
end Go.Vm
