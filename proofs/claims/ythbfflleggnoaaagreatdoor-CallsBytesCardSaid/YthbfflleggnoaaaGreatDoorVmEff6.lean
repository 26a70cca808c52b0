/- Copy. -/
import Derived.Test.YthbfflleggnoaaaGreatDoorVmEff5
set_option linter.unusedSimpArgs false
set_option linter.unusedVariables false
namespace Go.Vm
open Go Go.RowKit

section
variable {P : Program} {G : Gh} {w : World} {L : Lm} {σ : St} {tm : Array Value} {ds : List Deferred}
variable {dst : Option Tmp} {ty : TypeId} {pos : String} {af : Array Edge} {gd : Option (Nat × Bool)}

/-- Cells of a row of the VM's own turn: its elements are of one cell. -/
theorem SR.setRow (hs : SR w G L σ tm) {id ver : Nat} {l : List V} {r : RowLoc} (hid : σ.h[id]? = some (.row ver l)) (hr : G.rw id ver = some r) (h1 : r.s = 1) {p : Nat} {ys : List V} {zs : List Value}
    (hp : p + ys.length ≤ l.length) (hys : ∀ v ∈ ys, v.cells.length = 1) (hz : CRs G w (ys.flatMap V.cells) zs) :
    ∃ w', (storeCells ⟨r.B, r.base + p, none⟩ zs).run P w = .ok () w' ∧ SR w' G L { σ with h := σ.h.set id (.row ver (l.take p ++ ys ++ l.drop (p + ys.length))) } tm ∧
      Ext w G L σ w' G L { σ with h := σ.h.set id (.row ver (l.take p ++ ys ++ l.drop (p + ys.length))) } := by
  obtain ⟨r', hr', hlast, hor⟩ := hs.hp.obj _ _ hid
  rw [hr] at hr'; cases hr'
  obtain ⟨c, el, fr, hb, g1, g2, g3, g4, hcr, hf⟩ := hor
  rw [h1] at g1 g3 hcr
  simp only [Nat.mul_one] at g1 hcr
  have flatlen : ∀ (m : List V), (∀ v ∈ m, v.cells.length = 1) → (m.flatMap V.cells).length = m.length := by
    intro m
    induction m with
    | nil => intro _; rfl
    | cons a m ih =>
      intro h
      rw [List.flatMap_cons, List.length_append, h a (by simp), ih (fun v hv => h v (by simp [hv])), List.length_cons]; omega
  have hzl : zs.length = ys.length := by have := hz.length; rw [flatlen ys hys] at this; exact this.symm
  have hrun := run_storeCells (P := P) (off := r.base + p) zs 0 c w hb hf (by omega) hz.cells
  have hlt : id < σ.h.length := by
    rcases Nat.lt_or_ge id σ.h.length with h | h
    · exact h
    · rw [List.getElem?_eq_none h] at hid; cases hid
  have hget : (σ.h.set id (HO.row ver (l.take p ++ ys ++ l.drop (p + ys.length))))[id]? = some (HO.row ver (l.take p ++ ys ++ l.drop (p + ys.length))) := by simp [List.getElem?_set, hlt]
  have hown : ownB G σ.h id = some r.B := by unfold ownB; rw [hid]; simp [hr]
  have hlen : r.base + p + zs.length ≤ c.size := by omega
  have hl' : (l.take p ++ ys ++ l.drop (p + ys.length)).length = l.length := by simp; omega
  obtain ⟨h5, h6⟩ := hs.setHeap (id := id) (B := r.B) (o := .cells (wr c (r.base + p) zs) el fr) (G' := G) hown (fun _ => Iff.rfl) (fun _ _ h => h) (fun _ _ _ h => h) (fun _ _ => ⟨rfl, fun _ => rfl⟩) hget
    (fun j hj => by simp [List.getElem?_set, Ne.symm hj]) (fun hle => by
      refine ⟨r, hr, hlast, _, _, _, set_new _ (lt_of_block hb), by rw [wr_size hlen, h1]; omega, by rw [hl']; exact g2, ?_, g4, ?_, by rw [wr_size hlen]; exact hf⟩
      · intro v hv
        rw [h1]
        rcases List.mem_append.1 hv with hv | hv
        · rcases List.mem_append.1 hv with hv | hv
          · exact g3 v (List.mem_of_mem_take hv)
          · exact hys v hv
        · exact g3 v (List.mem_of_mem_drop hv)
      · rw [hl', h1, Nat.mul_one]
        have hfl := CRs.mono hle (setRange_CRs (off := p) hcr hz)
        have e1 : setRange (l.flatMap V.cells) p (ys.flatMap V.cells) = (l.take p ++ ys ++ l.drop (p + ys.length)).flatMap V.cells := by
          have t1 := flat_take (l := l) p g3
          have t2 := flat_drop (l := l) (p + ys.length) g3
          simp only [Nat.mul_one] at t1 t2
          simp only [setRange, List.flatMap_append, t1, t2, flatlen ys hys]
        rw [e1] at hfl
        have eq : ((wr c (r.base + p) zs).toList.drop r.base).take l.length =
            ((c.toList.drop r.base).take l.length).take p ++ zs ++ ((c.toList.drop r.base).take l.length).drop (p + zs.length) := by
          simp only [wr]
          have hC : r.base + l.length ≤ c.toList.length := by simp; omega
          generalize c.toList = C at *
          rw [List.append_assoc, List.drop_append_of_le_length (by simp; omega), List.take_append]
          have a1 : (List.drop r.base (C.take (r.base + p))) = (C.drop r.base).take p := by
            rw [List.drop_take]; congr 1; omega
          rw [a1]
          have a2 : ((C.drop r.base).take p).length = p := by simp; omega
          rw [a2, List.take_of_length_le (by rw [a2]; omega)]
          rw [List.take_append, List.take_take]
          have a3 : min p l.length = p := by omega
          rw [a3, List.take_of_length_le (l := zs) (by omega), List.append_assoc]
          congr 2
          rw [List.drop_take, List.drop_drop]
          congr 1
          · omega
          · congr 1; omega
        rw [eq]; exact hfl)
    (fun B' hB' => by unfold ownB at hB'; rw [hget] at hB'; dsimp only at hB'; rw [hr] at hB'; cases hB'; rfl)
  refine ⟨_, ?_, h5, h6⟩
  simpa using hrun

theorem copy_ok (hs : SR w G L σ tm) {args : Array Operand} {ts : Array TypeId} {y1 y2 : Opd} (hf : fitO P (.call ⟨.builtin .copy, args, ts⟩) (.copy y1 y2) = true) {d : Option Nat} {r : T} {σ' : St}
    (hx : effO σ d (.copy y1 y2) = some (.ok r σ')) :
    Good P ((execOp (Act.eval ⟨tm, ds⟩) ⟨dst, .call ⟨.builtin .copy, args, ts⟩, ty, pos, af, gd⟩).run P w) w G L σ tm r σ' := by
  simp only [fitO] at hf
  split at hf
  · rename_i x1 x2 t u ea et
    have ea' : args = #[x1, x2] := by apply Array.ext'; simpa using ea
    have et' : ts = #[t, u] := by apply Array.ext'; simpa using et
    subst ea'; subst et'
    simp only [Bool.and_eq_true] at hf
    obtain ⟨⟨ht, h1⟩, h2⟩ := hf
    split at ht
    · rename_i e he
      have htu := elemT_ok he
      have hsz : sizeT P e = some 1 := by simpa using ht
      simp only [effO] at hx
      split at hx
      · rename_i v1 v2 hv1 hv2
        simp only [Option.bind_eq_some_iff] at hx
        obtain ⟨add, hadd, hx⟩ := hx
        split at hx
        · rename_i hall
          have hzall : ∀ u ∈ add, u.cells.length = 1 := fun v hv => by simpa using List.all_eq_true.1 hall v hv
          have hr1 := val_ok (ds := ds) hs.ev h1 hv1
          have hr2 := val_ok (ds := ds) hs.ev h2 hv2
          obtain ⟨hlen, hsrc⟩ := src_ok (P := P) hs hr2 hadd hzall
          have exec : ∀ {v : Value} {w' : World}, (Builtin.copy_ #[t, u] ty #[Act.eval ⟨tm, ds⟩ x1, Act.eval ⟨tm, ds⟩ x2]).run P w = .ok v w' →
              (execOp (Act.eval ⟨tm, ds⟩) ⟨dst, .call ⟨.builtin .copy, #[x1, x2], #[t, u]⟩, ty, pos, af, gd⟩).run P w = .ok (.value v) w' := by
            intro v w' h
            simp only [execOp, resolve, invoke, builtin, Sem.run_bind, Sem.run_pure, Result.andThen_ok, List.map_toArray, List.map_cons, List.map_nil, h]
          split at hx
          · cases hx
            obtain ⟨news, hn, _, hnl⟩ := hsrc 0 (Nat.zero_le _) w rfl
            refine Good.same hs (v := .int .i64 0) (exec ?_) (.v _ _ (.int _ _))
            rw [hr1.inv_nils]
            have e0 : Nat.min add.length 0 = 0 := Nat.min_zero _
            simp [Builtin.copy_, run_underlying htu, hlen, run_sizeT hsz, hn, goInt]
          · rename_i id ver sz off len
            split at hx
            · rename_i ver' l hm
              split at hx
              · rename_i hc
                obtain ⟨rfl, rfl, hle⟩ := hc
                cases hx
                obtain ⟨q, a, cap, hq, hqs, c1, c2, ha, ev⟩ := hr1.inv_sl
                generalize hk : min add.length len = k
                have hk1 : k ≤ add.length := by omega
                have hk2 : k ≤ len := by omega
                obtain ⟨news, hn, hncr, hnl⟩ := hsrc k hk1 w rfl
                have e0 : Nat.min add.length len = k := hk
                have hys : ∀ v ∈ add.take k, v.cells.length = 1 := fun v hv => hzall v (List.mem_of_mem_take hv)
                have hyl : (add.take k).length = k := by simp; omega
                have hmain : ∃ w', (storeCells a news).run P w = .ok () w' ∧ SR w' G L { σ with h := σ.h.set id (.row ver' (l.take off ++ add.take k ++ l.drop (off + k))) } tm ∧
                    Ext w G L σ w' G L { σ with h := σ.h.set id (.row ver' (l.take off ++ add.take k ++ l.drop (off + k))) } := by
                  by_cases hk0 : k = 0
                  · subst hk0
                    have hn0 : news = [] := by simpa using hnl
                    subst hn0
                    have hlt : id < σ.h.length := by
                      rcases Nat.lt_or_ge id σ.h.length with h | h
                      · exact h
                      · rw [List.getElem?_eq_none h] at hm; cases hm
                    have hsame : σ.h.set id (.row ver' (l.take off ++ add.take 0 ++ l.drop (off + 0))) = σ.h := by
                      have e1 : l.take off ++ add.take 0 ++ l.drop (off + 0) = l := by simp
                      rw [e1]
                      rw [List.getElem?_eq_getElem hlt] at hm
                      rw [← Option.some.inj hm]
                      exact List.set_getElem_self hlt
                    rw [hsame]
                    exact ⟨w, rfl, hs, Ext.refl w G L σ⟩
                  · have ha' := ha.resolve_left (by omega)
                    subst ha'
                    have hq1 : q.s = 1 := hqs.symm
                    have := hs.setRow (P := P) hm hq hq1 (p := off) (ys := add.take k) (by rw [hyl]; omega) hys hncr
                    rw [hyl] at this
                    rw [hq1, Nat.mul_one]
                    exact this
                obtain ⟨w', hst, h5, h6⟩ := hmain
                refine Good.step (v := .int .i64 (k : Int)) (exec ?_) (.v _ _ (.int _ _)) h5 h6
                rw [ev]
                simp [Builtin.copy_, run_underlying htu, hlen, run_sizeT hsz, hn, e0, hst, goInt]
              · cases hx
            · cases hx
          · cases hx
        · cases hx
      · cases hx
    · cases ht
  · cases hf

end
end Go.Vm
