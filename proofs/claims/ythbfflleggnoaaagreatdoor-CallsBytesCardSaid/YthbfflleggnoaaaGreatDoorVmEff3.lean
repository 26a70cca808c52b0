/- Stores, and slices that are made. -/
import Derived.Test.YthbfflleggnoaaaGreatDoorVmEff2
import Derived.Laws.Append
set_option linter.unusedSimpArgs false
set_option linter.unusedVariables false
namespace Go.Vm
open Go Go.RowKit

section
variable {P : Program} {G : Gh} {w : World} {L : Lm} {σ : St} {tm : Array Value} {ds : List Deferred}
variable {dst : Option Tmp} {ty : TypeId} {pos : String} {af : Array Edge} {gd : Option (Nat × Bool)}

/-- Cells, some of them written over. -/
def wr (c : Array Value) (off : Nat) (xs : List Value) : Array Value := (c.toList.take off ++ xs ++ c.toList.drop (off + xs.length)).toArray

theorem wr_size {c : Array Value} {off : Nat} {xs : List Value} (h : off + xs.length ≤ c.size) : (wr c off xs).size = c.size := by
  simp [wr]; omega

theorem setCell_eq {B off : Nat} {c : Array Value} {el : TypeId} {fr : Nat × Nat} (hb : w.heap[B]? = some (.cells c el fr)) (v : Value) :
    w.setCell ⟨B, off, none⟩ v = setB w B (.cells (c.setIfInBounds off v) el fr) := by
  unfold World.setCell setB
  congr 1
  apply Array.ext_getElem?
  intro i
  have hlt := lt_of_block hb
  simp only [Array.getElem?_modify, Array.getElem?_setIfInBounds]
  by_cases e : B = i
  · subst e; rw [if_pos rfl, if_pos rfl, if_pos hlt, hb]; rfl
  · rw [if_neg e, if_neg e]

theorem setB_setB {B : Nat} (o o' : Obj) : setB (setB w B o) B o' = setB w B o' := by
  simp [setB]

theorem isCell_one {v : Value} (h : isCell v) : v.oneCell' = true := by cases v <;> first | rfl | exact h.elim

theorem run_storeCells {B off : Nat} {el : TypeId} {fr : Nat × Nat} : ∀ (xs : List Value) (i : Nat) (c : Array Value) (w : World), w.heap[B]? = some (.cells c el fr) → NoFr fr c.size →
    off + i + xs.length ≤ c.size → (∀ x ∈ xs, isCell x) → (storeCells ⟨B, off, none⟩ xs i).run P w = .ok () (setB w B (.cells (wr c (off + i) xs) el fr))
  | [], i, c, w, hb, hf, hl, hx => by
    have e : wr c (off + i) [] = c := by simp [wr]
    have e2 : setB w B (.cells c el fr) = w := by
      unfold setB
      have hlt := lt_of_block hb
      have : w.heap.setIfInBounds B (.cells c el fr) = w.heap := by
        apply Array.ext_getElem?
        intro j
        rw [Array.getElem?_setIfInBounds]
        by_cases e : B = j
        · subst e; rw [if_pos rfl, if_pos hlt, hb]
        · rw [if_neg e]
      rw [this]
    rw [e, e2]; rfl
  | x :: xs, i, c, w, hb, hf, hl, hx => by
    simp only [List.length_cons] at hl
    have hlt : off + i < c.size := by omega
    have hcell : w.cell? ⟨B, off + i, none⟩ = some c[off + i] := by simp [World.cell?, hb, hlt]
    have hfz : w.frozen? ⟨B, off + i, none⟩ = false := by
      simp only [World.frozen?, hb]
      have := hf (off + i) hlt
      by_cases h1 : fr.1 ≤ off + i
      · have h2 : ¬ off + i < fr.2 := fun h => this ⟨h1, h⟩
        simp [h2]
      · simp [h1]
    have hst : (store ⟨B, off + i, none⟩ x).run P w = .ok () (setB w B (.cells (c.setIfInBounds (off + i) x) el fr)) := by
      rw [run_store P w _ x .plain (isCell_one (hx x (by simp))), hcell]
      simp only [hfz, Bool.false_eq_true, if_false]
      rw [setCell_eq hb]
    have hb' : (setB w B (.cells (c.setIfInBounds (off + i) x) el fr)).heap[B]? = some (.cells (c.setIfInBounds (off + i) x) el fr) := set_new _ (lt_of_block hb)
    have ih := run_storeCells (off := off) xs (i + 1) (c.setIfInBounds (off + i) x) _ hb' (by simpa using hf) (by simp; omega) (fun y hy => hx y (by simp [hy]))
    simp only [storeCells, Sem.run_bind, add_none, hst, Result.andThen_ok, ih]
    rw [setB_setB]
    have e : wr (c.setIfInBounds (off + i) x) (off + (i + 1)) xs = wr c (off + i) (x :: xs) := by
      have := foldl_set c off (x :: xs) i (by simpa using hl)
      have h2 := foldl_set (c.setIfInBounds (off + i) x) off xs (i + 1) (by simp; omega)
      simp only [List.zipIdx_cons, List.foldl_cons] at this
      rw [h2] at this
      apply Array.ext'
      simp only [wr]
      simpa using this
    rw [e]

theorem CRs.cells {vs : List V} {xs : List Value} (h : CRs G w vs xs) : ∀ x ∈ xs, isCell x := by
  induction vs generalizing xs with
  | nil => cases h; intro x hx; cases hx
  | cons v vs ih =>
    cases h with
    | cons _ x _ xs _ hx _ hs =>
      intro y hy
      rcases List.mem_cons.1 hy with rfl | hy
      · exact hx
      · exact ih hs y hy

/-- A block of the VM's own turns. -/
theorem SR.setHeap (hs : SR w G L σ tm) {B : Nat} {o : Obj} {G' : Gh} {h' : List HO} {id : Nat} {o' : HO} (hown : ownB G σ.h id = some B) (hst : ∀ B, G'.st B ↔ G.st B)
    (hob : ∀ id B, G.ob id = some B → G'.ob id = some B) (hrw : ∀ id v r, G.rw id v = some r → G'.rw id v = some r)
    (hag : ∀ j, j ≠ id → G'.ob j = G.ob j ∧ ∀ v, G'.rw j v = G.rw j v) (hid : h'[id]? = some o') (hoth : ∀ j, j ≠ id → h'[j]? = σ.h[j]?)
    (hnew : Le G w G' (setB w B o) → HR G' (setB w B o) id o') (hB : ∀ B', ownB G' h' id = some B' → B' = B) :
    SR (setB w B o) G' L { σ with h := h' } tm ∧ Ext w G L σ (setB w B o) G' L { σ with h := h' } := by
  have hlt := hs.hp.own_lt hown
  have hns := hs.hp.ost _ _ hown
  have hle : Le G w G' (setB w B o) := ⟨fun B hB => (hst B).2 hB, fun B' hB' => set_old o (by rintro rfl; exact hns hB'), hob, hrw⟩
  have hp : WR (setB w B o) G' h' := hs.hp.put hle (by rw [set_size]; exact Nat.le_refl _) (fun B hB => (hst B).1 hB) hag hid hoth (fun B' hB' hne => set_old o (by rintro rfl; exact hne hown)) (hnew hle) (fun B' hB' => .inl (by rw [hB B' hB']; exact hown))
  have hown' : ∀ j B', ownB G' h' j = some B' → ∃ j, ownB G σ.h j = some B' := by
    intro j B' hj
    by_cases e : j = id
    · subst e; rw [hB B' hj]; exact ⟨_, hown⟩
    · rw [ownB_agree (hag j e) (hoth j e)] at hj; exact ⟨j, hj⟩
  refine ⟨⟨hp, ⟨?_, hs.lc.inj, hs.lc.fresh⟩, fun t => (hs.ev t).mono hle fun _ _ _ h => h⟩, ?_⟩
  · intro d g cs hd
    obtain ⟨B', h1, h2, h3, h4⟩ := hs.lc.obj d g cs hd
    refine ⟨B', h1, h2.mono hle (set_old o (by rintro rfl; exact h4 _ hown)), fun hc => h3 ((hst _).1 hc), fun j hj => ?_⟩
    obtain ⟨j', hj'⟩ := hown' j B' hj
    exact h4 j' hj'
  · exact ⟨rfl, rfl, rfl, by rw [set_size]; exact Nat.le_refl _, fun B' hB' hne _ => set_old o (by rintro rfl; exact hne _ hown), hle.st, hob, hrw, fun _ _ _ h => h, fun B h => .inl ((hst B).1 h), fun j B' hj => .inl (hown' j B' hj), fun d g cs B h1 h2 => .inl ⟨d, g, cs, h1, h2⟩⟩

/-- A variable turns. -/
theorem SR.setLocal (hs : SR w G L σ tm) {d g B : Nat} {cs cs' : List V} {c : Array Value} {el : TypeId} {fr : Nat × Nat} (hd : σ.m d = some (g, cs)) (hL : L d g = some B) (hc : CRs G w cs' c.toList) (hf : NoFr fr c.size) :
    SR (setB w B (.cells c el fr)) G L { σ with m := upd σ.m d (some (g, cs')) } tm ∧ Ext w G L σ (setB w B (.cells c el fr)) G L { σ with m := upd σ.m d (some (g, cs')) } := by
  obtain ⟨B', h1, h2, h3, h4⟩ := hs.lc.obj d g cs hd
  rw [hL] at h1; cases h1
  have hlt : B < w.heap.size := by obtain ⟨c, el, fr, hb, _⟩ := h2; exact lt_of_block hb
  have hle : Le G w G (setB w B (.cells c el fr)) := ⟨fun _ h => h, fun B' hB' => set_old _ (by rintro rfl; exact h3 hB'), fun _ _ h => h, fun _ _ _ h => h⟩
  have get : ∀ {d' g' : Nat} {cs1 : List V}, upd σ.m d (some (g, cs')) d' = some (g', cs1) → (d' = d ∧ g' = g ∧ cs1 = cs') ∨ (d' ≠ d ∧ σ.m d' = some (g', cs1)) := by
    intro d' g' cs1 h
    unfold upd at h
    by_cases e : d' = d
    · subst e; simp only [beq_self_eq_true, cond_true, Option.some.injEq, Prod.mk.injEq] at h; exact .inl ⟨rfl, h.1.symm, h.2.symm⟩
    · have e1 : (d' == d) = false := by simpa using e
      rw [e1, cond_false] at h; exact .inr ⟨e, h⟩
  have back : ∀ {d' g' : Nat} {cs1 : List V}, upd σ.m d (some (g, cs')) d' = some (g', cs1) → ∃ cs2, σ.m d' = some (g', cs2) := by
    intro d' g' cs1 h
    rcases get h with ⟨rfl, rfl, _⟩ | ⟨_, h⟩
    · exact ⟨_, hd⟩
    · exact ⟨_, h⟩
  refine ⟨⟨hs.hp.keep hle (by rw [set_size]; exact Nat.le_refl _) (fun B' hB' => ⟨by rw [set_size]; exact hs.hp.stl _ hB', fun id e => hs.hp.ost _ _ e hB'⟩) (fun _ => ⟨rfl, fun _ => rfl⟩) (fun id B' hB' => set_old _ (by rintro rfl; exact h4 _ hB')), ⟨?_, ?_, hs.lc.fresh⟩,
    fun t => (hs.ev t).mono hle fun _ _ _ h => h⟩, ?_⟩
  · intro d' g' cs1 h
    rcases get h with ⟨rfl, rfl, rfl⟩ | ⟨hne, h⟩
    · exact ⟨B, hL, ⟨c, el, fr, set_new _ hlt, CRs.mono hle hc, hf⟩, h3, h4⟩
    · obtain ⟨B1, k1, k2, k3, k4⟩ := hs.lc.obj d' g' cs1 h
      exact ⟨B1, k1, k2.mono hle (set_old _ (by rintro rfl; exact hne (hs.lc.inj _ _ _ _ _ _ _ h hd k1 hL))), k3, k4⟩
  · intro d1 d2 g1 g2 cs1 cs2 B1 k1 k2 k3 k4
    obtain ⟨c1, k1⟩ := back k1
    obtain ⟨c2, k2⟩ := back k2
    exact hs.lc.inj _ _ _ _ _ _ _ k1 k2 k3 k4
  · refine ⟨rfl, rfl, rfl, by rw [set_size]; exact Nat.le_refl _, fun B' hB' _ hne => set_old _ (by rintro rfl; exact hne _ _ _ hd hL), fun _ h => h, fun _ _ h => h, fun _ _ _ h => h, fun _ _ _ h => h, fun _ h => .inl h, fun j B' hj => .inl ⟨j, hj⟩, ?_⟩
    intro d' g' cs1 B1 k1 k2
    obtain ⟨c1, k1⟩ := back k1
    exact .inl ⟨_, _, _, k1, k2⟩

theorem setRange_CRs {cs ys : List V} {xs zs : List Value} {off : Nat} (h : CRs G w cs xs) (h' : CRs G w ys zs) : CRs G w (setRange cs off ys) (xs.take off ++ zs ++ xs.drop (off + zs.length)) := by
  unfold setRange
  rw [h'.length]
  exact ((h.take off).append h').append (h.drop _)

/-- A store of a value's cells. -/
theorem storeAt_ok (hs : SR w G L σ tm) {x : T} {v : Value} (hv : TR G w L x v) {ys : List V} {zs : List Value} (hz : CRs G w ys zs) {σ' : St} (h : σ.storeAt ys x = some σ') :
    ∃ a w' G', v = .pointer (some a) ∧ (storeCells a zs).run P w = .ok () w' ∧ SR w' G' L σ' tm ∧ Ext w G L σ w' G' L σ' := by
  have hzl := hz.length
  unfold St.storeAt at h
  split at h
  · rename_i d g off
    split at h
    · rename_i g' cs hm
      split at h
      · rename_i hc
        obtain ⟨rfl, hl⟩ := hc
        cases h
        obtain ⟨B, hB, rfl⟩ := hv.inv_loc
        obtain ⟨B', hB', ⟨c, el, fr, hb, hcr, hf⟩, h3, h4⟩ := hs.lc.obj _ _ _ hm
        rw [hB] at hB'; cases hB'
        have hlen : off + zs.length ≤ c.size := by have := hcr.length; simp at this; omega
        have hr := run_storeCells (P := P) (B := B) (off := off) zs 0 c w hb hf (by simpa using hlen) hz.cells
        obtain ⟨h5, h6⟩ := hs.setLocal (cs' := setRange cs off ys) (c := wr c off zs) (el := el) (fr := fr) hm hB (by simpa [wr] using setRange_CRs hcr hz) (by rw [wr_size hlen]; exact hf)
        exact ⟨_, _, G, rfl, by simpa using hr, h5, h6⟩
      · cases h
    · cases h
  · rename_i id off
    split at h
    · rename_i cs hm
      split at h
      · rename_i hl
        cases h
        obtain ⟨B, hB, rfl⟩ := hv.inv_v.inv_ptr
        obtain ⟨B', hB', c, el, fr, hb, hcr, hf⟩ := hs.hp.obj _ _ hm
        rw [hB] at hB'; cases hB'
        have hlen : off + zs.length ≤ c.size := by have := hcr.length; simp at this; omega
        have hr := run_storeCells (P := P) (B := B) (off := off) zs 0 c w hb hf (by simpa using hlen) hz.cells
        have hlt : id < σ.h.length := by
          rcases Nat.lt_or_ge id σ.h.length with h | h
          · exact h
          · rw [List.getElem?_eq_none h] at hm; cases hm
        have hget : (σ.h.set id (.cells (setRange cs off ys)))[id]? = some (.cells (setRange cs off ys)) := by simp [List.getElem?_set, hlt]
        have hown : ownB G σ.h id = some B := by unfold ownB; rw [hm]; exact hB
        obtain ⟨h5, h6⟩ := hs.setHeap (id := id) (B := B) (o := .cells (wr c off zs) el fr) (G' := G) hown (fun _ => Iff.rfl) (fun _ _ h => h) (fun _ _ _ h => h) (fun _ _ => ⟨rfl, fun _ => rfl⟩) hget
          (fun j hj => by simp [List.getElem?_set, Ne.symm hj]) (fun hle => ⟨B, hB, _, _, _, set_new _ (lt_of_block hb), by simpa [wr] using CRs.mono hle (setRange_CRs hcr hz), by rw [wr_size hlen]; exact hf⟩)
          (fun B' hB' => by unfold ownB at hB'; rw [hget] at hB'; dsimp only at hB'; rw [hB] at hB'; cases hB'; rfl)
        exact ⟨_, _, G, rfl, by simpa using hr, h5, h6⟩
      · cases h
    · cases h
  · rename_i id ver i off
    split at h
    · rename_i ver' l hm
      obtain ⟨r, hr, rfl⟩ := hv.inv_v.inv_eptr
      obtain ⟨r', hr', hlast, c, el, fr, hb, h1, h2, h3, h4, hcr, hf⟩ := hs.hp.obj _ _ hm
      have hidlt : id < σ.h.length := by
        rcases Nat.lt_or_ge id σ.h.length with h | h
        · exact h
        · rw [List.getElem?_eq_none h] at hm; cases hm
      -- the row with one element turned
      have main : ∀ (e e' : V) , ver' = ver → l[i]? = some e → e'.cells = setRange e.cells off ys → off + ys.length ≤ e.cells.length →
          ∃ a w' G', Value.pointer (some ⟨r.B, r.base + i * r.s + off, none⟩) = .pointer (some a) ∧ (storeCells a zs).run P w = .ok () w' ∧ SR w' G' L { σ with h := σ.h.set id (.row ver (l.set i e')) } tm ∧
            Ext w G L σ w' G' L { σ with h := σ.h.set id (.row ver (l.set i e')) } := by
        intro e e' hver he hce hle'
        subst hver
        rw [hr] at hr'; cases hr'
        have hlt : i < l.length := by
          rcases Nat.lt_or_ge i l.length with h | h
          · exact h
          · rw [List.getElem?_eq_none h] at he; cases he
        have hei : l[i] = e := by rw [List.getElem?_eq_getElem hlt] at he; exact Option.some.inj he
        have hes : e.cells.length = r.s := by rw [← hei]; exact h3 _ (List.getElem_mem hlt)
        have hys : off + zs.length ≤ r.s := by omega
        have hmul : (i + 1) * r.s ≤ l.length * r.s := Nat.mul_le_mul_right _ hlt
        have hmul2 : l.length * r.s ≤ r.cap * r.s := Nat.mul_le_mul_right _ h2
        have e1 : (i + 1) * r.s = i * r.s + r.s := by rw [Nat.add_mul, Nat.one_mul]
        have hlen : r.base + i * r.s + off + zs.length ≤ c.size := by omega
        have hrun := run_storeCells (P := P) (B := r.B) (off := r.base + i * r.s + off) zs 0 c w hb hf (by simpa using hlen) hz.cells
        have hget : (σ.h.set id (.row ver' (l.set i e')))[id]? = some (.row ver' (l.set i e')) := by simp [List.getElem?_set, hidlt]
        have hown : ownB G σ.h id = some r.B := by unfold ownB; rw [hm]; dsimp only; rw [hr]; rfl
        have hxl : ((c.toList.drop r.base).take (l.length * r.s)).length = l.length * r.s := by simp; omega
        have hflat : (l.set i e').flatMap V.cells = setRange (l.flatMap V.cells) (i * r.s + off) ys := by
          have hl3 : ∀ v ∈ l.set i e', v.cells.length = r.s := by
            intro v hv
            rcases List.mem_or_eq_of_mem_set hv with h | h
            · exact h3 v h
            · subst h; rw [hce]; simp [setRange]; omega
          have s1 : l.set i e' = l.take i ++ e' :: l.drop (i + 1) := by rw [List.set_eq_take_append_cons_drop, if_pos hlt]
          rw [s1, List.flatMap_append, List.flatMap_cons, flat_take i h3, flat_drop (i + 1) h3, hce]
          have hfl := flat_len h3
          generalize hF : l.flatMap V.cells = F at *
          have hE : e.cells = (F.drop (i * r.s)).take r.s := by
            have q1 : ((l.drop i).take 1).flatMap V.cells = e.cells := by rw [List.drop_eq_getElem_cons hlt, hei]; simp
            have q2 := flat_take (l := l.drop i) 1 (fun u hu => h3 u (List.mem_of_mem_drop hu))
            rw [q1, flat_drop i h3, hF, Nat.one_mul] at q2
            exact q2
          rw [hE]
          unfold setRange
          have t1 : ((F.drop (i * r.s)).take r.s).take off = (F.drop (i * r.s)).take off := by rw [List.take_take]; congr 1; omega
          have t2 : ((F.drop (i * r.s)).take r.s).drop (off + ys.length) = (F.drop (i * r.s + (off + ys.length))).take (r.s - (off + ys.length)) := by
            rw [List.drop_take, List.drop_drop]
          have t3 : F.drop (i * r.s + off + ys.length) = (F.drop (i * r.s + (off + ys.length))).take (r.s - (off + ys.length)) ++ F.drop ((i + 1) * r.s) := by
            have := List.take_append_drop (r.s - (off + ys.length)) (F.drop (i * r.s + (off + ys.length)))
            rw [List.drop_drop] at this
            have e5 : i * r.s + (off + ys.length) + (r.s - (off + ys.length)) = (i + 1) * r.s := by omega
            rw [e5] at this
            rw [Nat.add_assoc]; exact this.symm
          have t4 : F.take (i * r.s + off) = F.take (i * r.s) ++ (F.drop (i * r.s)).take off := by rw [List.take_add]
          rw [t1, t2, t3, t4]
          simp only [List.append_assoc]
        obtain ⟨h5, h6⟩ := hs.setHeap (id := id) (B := r.B) (o := .cells (wr c (r.base + i * r.s + off) zs) el fr) (G' := G) hown (fun _ => Iff.rfl) (fun _ _ h => h) (fun _ _ _ h => h) (fun _ _ => ⟨rfl, fun _ => rfl⟩) hget
          (fun j hj => by simp [List.getElem?_set, Ne.symm hj]) (fun hle => by
            refine ⟨r, hr, hlast, _, _, _, set_new _ (lt_of_block hb), by rw [wr_size hlen]; exact h1, by simpa using h2, ?_, h4, ?_, by rw [wr_size hlen]; exact hf⟩
            · intro v hv
              rcases List.mem_or_eq_of_mem_set hv with h | h
              · exact h3 v h
              · subst h; rw [hce]; simp [setRange]; omega
            · rw [hflat, List.length_set]
              have := CRs.mono hle (setRange_CRs (off := i * r.s + off) hcr hz)
              have eq : ((wr c (r.base + i * r.s + off) zs).toList.drop r.base).take (l.length * r.s) =
                  ((c.toList.drop r.base).take (l.length * r.s)).take (i * r.s + off) ++ zs ++ ((c.toList.drop r.base).take (l.length * r.s)).drop (i * r.s + off + zs.length) := by
                simp only [wr]
                generalize c.toList = C at *
                have hC : r.base + i * r.s + off + zs.length ≤ C.length := by
                  simp at hxl; omega
                rw [List.append_assoc, List.drop_append_of_le_length (by simp; omega), List.take_append]
                have a1 : (List.drop r.base (C.take (r.base + i * r.s + off))) = (C.drop r.base).take (i * r.s + off) := by
                  rw [List.drop_take]; congr 1; omega
                rw [a1]
                have a2 : ((C.drop r.base).take (i * r.s + off)).length = i * r.s + off := by simp; omega
                rw [a2, List.take_of_length_le (by rw [a2]; omega)]
                rw [List.take_append, List.take_take]
                have a3 : min (i * r.s + off) (l.length * r.s) = i * r.s + off := by omega
                rw [a3, List.take_of_length_le (l := zs) (by omega), List.append_assoc]
                congr 2
                rw [List.drop_take, List.drop_drop]
                congr 1
                · omega
                · congr 1; omega
              rw [eq]; exact this)
          (fun B' hB' => by unfold ownB at hB'; rw [hget] at hB'; dsimp only at hB'; rw [hr] at hB'; cases hB'; rfl)
        exact ⟨_, _, G, rfl, by simpa using hrun, h5, h6⟩
      split at h
      · rename_i cs he
        split at h
        · rename_i hc
          cases h
          exact main _ _ hc.1 he rfl hc.2
        · cases h
      · rename_i e hne he
        split at h
        · rename_i y
          split at h
          · rename_i hc
            obtain ⟨hver, rfl, hy⟩ := hc
            cases h
            have hec : e.cells.length = 1 := by
              have hlt : i < l.length := by
                rcases Nat.lt_or_ge i l.length with h | h
                · exact h
                · rw [List.getElem?_eq_none h] at he; cases he
              have hei : l[i] = e := by rw [List.getElem?_eq_getElem hlt] at he; exact Option.some.inj he
              have hes : e.cells.length = r'.s := by rw [← hei]; exact h3 _ (List.getElem_mem hlt)
              have hle : e.cells.length ≤ 1 := by cases e <;> first | (exact (hne _ rfl).elim) | simp [V.cells]
              omega
            refine main e y hver he ?_ (by simp [hec])
            have hyc : y.cells = [y] := by
              cases hz with
              | cons _ _ _ _ hyc _ _ _ => cases y <;> first | rfl | exact hyc.elim | (simp [V.cells] at hy)
            match e.cells, hec with
            | [u], _ => simp [setRange, hyc]
          · cases h
        · cases h
      · cases h
    · cases h
  · cases h

theorem store_ok (hs : SR w G L σ tm) {t : TypeId} {a x : Operand} {n : Nat} {b y : Opd} (hf : fitO P (.store t a x) (.store n b y) = true) {d : Option Nat} {r : T} {σ' : St} (hx : effO σ d (.store n b y) = some (.ok r σ')) :
    Good P ((execOp (Act.eval ⟨tm, ds⟩) ⟨dst, .store t a x, ty, pos, af, gd⟩).run P w) w G L σ tm r σ' := by
  simp only [fitO, Bool.and_eq_true, beq_iff_eq, decide_eq_true_eq] at hf
  obtain ⟨⟨⟨hsz, hpos⟩, h1⟩, h2⟩ := hf
  simp only [effO, Option.bind_eq_some_iff] at hx
  obtain ⟨v, hv, hx⟩ := hx
  split at hx
  · rename_i hn
    simp only [Option.map_eq_some_iff] at hx
    obtain ⟨σ1, hσ, e⟩ := hx
    cases e
    have hvr := val_ok (ds := ds) hs.ev h2 hv
    by_cases hn0 : v.cells = []
    · rw [hn0] at hn; simp at hn; omega
    · have hcr := hvr.cells hn0
      obtain ⟨ad, w', G', ea, hr, h3, h4⟩ := storeAt_ok (P := P) hs (ev_ok (ds := ds) hs.ev h1) hcr hσ
      refine Good.skip ?_ h3 h4
      have hlen : (Act.eval ⟨tm, ds⟩ x).cells.size = n := by have := hcr.length; simp at this; omega
      simp [execOp, Instr.storeAt, ea, Instr.sureAddr, storeVar, run_sizeT hsz, hlen, hr]
  · cases hx

end
end Go.Vm
