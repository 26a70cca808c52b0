/- '==' of values whose cells are numbers, texts and bools, and the look for a key: in the model, and what it answers. -/
import Derived.Test.YthbfflleggnoaaaGreatDoorVmFit
import Derived.ChangeKeysEq
import Derived.MapKept
import Derived.WideKeyRuns
set_option linter.unusedSimpArgs false
set_option linter.unusedVariables false
namespace Go.Vm
open Go

/-- Cells of such kinds. -/
def isKV : K → Value → Prop
  | .int k, x => ∃ n, x = .int k n
  | .str, x => ∃ s, x = .string s
  | .bool, x => ∃ b, x = .bool b

inductive KVs : List K → List Value → Prop
  | nil : KVs [] []
  | cons (k : K) (x : Value) (ks : List K) (xs : List Value) (h : isKV k x) (hs : KVs ks xs) : KVs (k :: ks) (x :: xs)

theorem KVs.length {ks : List K} {xs : List Value} (h : KVs ks xs) : xs.length = ks.length := by
  induction h with
  | nil => rfl
  | cons _ _ _ _ _ _ ih => simp [ih]

theorem KVs.append_inv {ks ks' : List K} {xs : List Value} (h : KVs (ks ++ ks') xs) : KVs ks (xs.take ks.length) ∧ KVs ks' (xs.drop ks.length) := by
  induction ks generalizing xs with
  | nil => exact ⟨by simpa using KVs.nil, by simpa using h⟩
  | cons k ks ih =>
    cases h with
    | cons _ x _ xs hx hs =>
      obtain ⟨h1, h2⟩ := ih hs
      exact ⟨by simpa using KVs.cons k x _ _ hx h1, by simpa using h2⟩

/-- Are two such cells alike? -/
def eq1 : Value → Value → Bool
  | .int _ a, .int _ b => a == b
  | .string a, .string b => a.data.toList == b.data.toList
  | .bool a, .bool b => a == b
  | _, _ => false

def eqL : List Value → List Value → Bool
  | [], [] => true
  | x :: xs, y :: ys => eq1 x y && eqL xs ys
  | _, _ => false

theorem eqL_append {a b c d : List Value} (h : a.length = b.length) : eqL (a ++ c) (b ++ d) = (eqL a b && eqL c d) := by
  induction a generalizing b with
  | nil => cases b with
    | nil => simp [eqL]
    | cons _ _ => simp at h
  | cons x a ih => cases b with
    | nil => simp at h
    | cons y b => simp only [List.cons_append, eqL, ih (by simpa using h), Bool.and_assoc]

/-- A value of such a type: a struct or an array as a whole, else its one cell. -/
def Shp (P : Program) (t : TypeId) (x : Value) (cs : List Value) : Prop :=
  if aggT P t = some true then x = .agg cs.toArray else cs = [x]

section
variable {P : Program} (w : World)

theorem bytes_eq (a b : ByteArray) : (a == b) = (a.data.toList == b.data.toList) := by
  rw [Go.beq_toListBytes, ByteArray.toList_eq, ByteArray.toList_eq]

theorem aggT_of {t : TypeId} {d : TypeDesc} (h : P.underlying t = some d) : aggT P t = some (aggD d) := by
  unfold aggT; rw [h]; rfl

theorem run_part {e : TypeId} {ks : List K} (hs : sizeT P e = some ks.length) (ha : ∃ d, P.underlying e = some d) {xs : List Value} {off : Nat} (hx : KVs ks ((xs.drop off).take ks.length)) :
    (aggT P e = some true ∨ ks.length = 1) → ∃ a, (part e xs.toArray off).run P w = .ok a w ∧ Shp P e a ((xs.drop off).take ks.length) := by
  intro hcase
  obtain ⟨d, hd⟩ := ha
  obtain ⟨i, hi⟩ := Go.info_of_underlying hd
  have hsz : i.size = ks.length := by simpa [sizeT, hi] using hs
  have hag := aggT_of hd
  by_cases hg : aggT P e = some true
  · refine ⟨_, ?_, (by unfold Shp; rw [if_pos hg])⟩
    have hex : (xs.toArray.extract off (off + i.size)) = ((xs.drop off).take ks.length).toArray := by
      rw [hsz]; apply Array.ext'; simp [List.extract]
    rw [hg] at hag
    cases d <;> first | (cases hag; done) | (simp [part, isAgg, run_underlying hd, sizeOf, typeInfo, hi, hsz])
  · have h1 : ks.length = 1 := hcase.resolve_left hg
    have hlen := hx.length
    rw [h1] at hlen
    have : ∃ v, (xs.drop off).take 1 = [v] := by
      match hh : (xs.drop off).take 1 with
      | [] => rw [h1, hh] at hx; have := hx.length; rw [h1] at this; simp at this
      | [v] => exact ⟨v, rfl⟩
      | a :: b :: r => have := congrArg List.length hh; simp at this; omega
    obtain ⟨v, hv⟩ := this
    rw [h1, hv]
    refine ⟨v, ?_, (by unfold Shp; rw [if_neg hg])⟩
    have hget : xs[off]? = some v := by
      have := congrArg (fun l => l[0]?) hv
      simpa [List.getElem?_take, List.getElem?_drop] using this
    cases d <;> first | (exact absurd hag hg) | (simp [part, isAgg, run_underlying hd, hget])

theorem run_eqFields {dd : Nat} {f : TypeId → Option (List K)}
    (IH : ∀ t ks, f t = some ks → sizeT P t = some ks.length ∧ (∃ d, P.underlying t = some d) ∧ (aggT P t = some true ∨ ks.length = 1) ∧
      ∀ (w : World) a b xs ys, Shp P t a xs → Shp P t b ys → KVs ks xs → KVs ks ys → (Op.equalIn dd t a b).run P w = .ok (eqL xs ys) w) :
    ∀ (fs : List Field) (off : Nat) (ks : List K), kindsGo f off fs = some ks → ∀ (xs ys : List Value), KVs ks (xs.drop off) → KVs ks (ys.drop off) →
      (Op.eqFields dd xs.toArray ys.toArray fs).run P w = .ok (eqL (xs.drop off) (ys.drop off)) w
  | [], off, ks, h, xs, ys, hx, hy => by
    simp only [kindsGo, Option.some.injEq] at h
    subst h
    generalize xs.drop off = xs' at *
    generalize ys.drop off = ys' at *
    cases hx; cases hy
    simp [Op.eqFields, eqL]
  | fd :: fs, off, ks, h, xs, ys, hx, hy => by
    simp only [kindsGo] at h
    split at h
    · rename_i hc
      simp only [Bool.and_eq_true, bne_iff_ne, ne_eq, beq_iff_eq] at hc
      simp only [Option.bind_eq_some_iff, Option.map_eq_some_iff] at h
      obtain ⟨k1, hk1, k2, hk2, rfl⟩ := h
      obtain ⟨hsz, hu, hcase, heq⟩ := IH _ _ hk1
      obtain ⟨hx1, hx2⟩ := hx.append_inv
      obtain ⟨hy1, hy2⟩ := hy.append_inv
      rw [List.drop_drop] at hx2 hy2
      obtain ⟨a, p1, s1⟩ := run_part w hsz hu hx1 hcase
      obtain ⟨b, p2, s2⟩ := run_part w hsz hu hy1 hcase
      have hr := heq w a b _ _ s1 s2 hx1 hy1
      have hrest := run_eqFields IH fs (off + k1.length) k2 hk2 xs ys (by rw [Nat.add_comm] at hx2; rwa [Nat.add_comm]) (by rw [Nat.add_comm] at hy2; rwa [Nat.add_comm])
      have hsplit : eqL (xs.drop off) (ys.drop off) = (eqL ((xs.drop off).take k1.length) ((ys.drop off).take k1.length) && eqL (xs.drop (off + k1.length)) (ys.drop (off + k1.length))) := by
        conv => lhs; rw [← List.take_append_drop k1.length (xs.drop off), ← List.take_append_drop k1.length (ys.drop off)]
        rw [eqL_append (by rw [hx1.length, hy1.length]), List.drop_drop, List.drop_drop]
      rw [hsplit]
      simp only [Op.eqFields, hc.1, not_false_eq_true, ne_eq, if_true, Sem.run_bind, hc.2, p1, p2, hr, Result.andThen_ok]
      cases he : eqL ((xs.drop off).take k1.length) ((ys.drop off).take k1.length)
      · simp
      · simpa using hrest
    · cases h

theorem run_eqItems {dd : Nat} {e : TypeId} {ks : List K} (hsz : sizeT P e = some ks.length) (hu : ∃ d, P.underlying e = some d) (hcase : aggT P e = some true ∨ ks.length = 1)
    (IH : ∀ (w : World) a b xs ys, Shp P e a xs → Shp P e b ys → KVs ks xs → KVs ks ys → (Op.equalIn dd e a b).run P w = .ok (eqL xs ys) w) (xs ys : List Value) :
    ∀ (n m : Nat), KVs (List.replicate n ks).flatten (xs.drop (m * ks.length)) → KVs (List.replicate n ks).flatten (ys.drop (m * ks.length)) →
      (Op.eqItems dd e ks.length xs.toArray ys.toArray (List.range' m n)).run P w = .ok (eqL (xs.drop (m * ks.length)) (ys.drop (m * ks.length))) w
  | 0, m, hx, hy => by
    simp only [List.replicate_zero, List.flatten_nil] at hx hy
    generalize xs.drop (m * ks.length) = xs' at *
    generalize ys.drop (m * ks.length) = ys' at *
    cases hx; cases hy
    simp [Op.eqItems, eqL]
  | n + 1, m, hx, hy => by
    rw [List.replicate_succ, List.flatten_cons] at hx hy
    obtain ⟨hx1, hx2⟩ := hx.append_inv
    obtain ⟨hy1, hy2⟩ := hy.append_inv
    rw [List.drop_drop] at hx2 hy2
    have hm : m * ks.length + ks.length = (m + 1) * ks.length := by rw [Nat.add_mul, Nat.one_mul]
    rw [hm] at hx2 hy2
    obtain ⟨a, p1, s1⟩ := run_part w hsz hu hx1 hcase
    obtain ⟨b, p2, s2⟩ := run_part w hsz hu hy1 hcase
    have hr := IH w a b _ _ s1 s2 hx1 hy1
    have hrest := run_eqItems hsz hu hcase IH xs ys n (m + 1) hx2 hy2
    have hsplit : eqL (xs.drop (m * ks.length)) (ys.drop (m * ks.length)) = (eqL ((xs.drop (m * ks.length)).take ks.length) ((ys.drop (m * ks.length)).take ks.length) && eqL (xs.drop ((m + 1) * ks.length)) (ys.drop ((m + 1) * ks.length))) := by
      conv => lhs; rw [← List.take_append_drop ks.length (xs.drop (m * ks.length)), ← List.take_append_drop ks.length (ys.drop (m * ks.length))]
      rw [eqL_append (by rw [hx1.length, hy1.length]), List.drop_drop, List.drop_drop, hm]
    rw [hsplit]
    simp only [List.range'_succ, Op.eqItems, Sem.run_bind, p1, p2, hr, Result.andThen_ok]
    cases he : eqL ((xs.drop (m * ks.length)).take ks.length) ((ys.drop (m * ks.length)).take ks.length)
    · simp
    · simpa using hrest

theorem kindsT_spec : ∀ (d : Nat) (t : TypeId) (ks : List K), kindsT P d t = some ks → (∃ q, P.underlying t = some q) ∧ (aggT P t = some true ∨ ks.length = 1) ∧
    ∀ (dd : Nat), d ≤ dd → ∀ (w : World) a b xs ys, Shp P t a xs → Shp P t b ys → KVs ks xs → KVs ks ys → (Op.equalIn dd t a b).run P w = .ok (eqL xs ys) w
  | 0, t, ks, h => by simp [kindsT] at h
  | d + 1, t, ks, h => by
    unfold kindsT at h
    cases hu : P.underlying t with
    | none => rw [hu] at h; cases h
    | some q =>
      rw [hu] at h
      have hag := aggT_of hu
      refine ⟨⟨q, rfl⟩, ?_, ?_⟩
      · cases q <;> first | (cases h; done) | (left; exact hag) | (right; cases h; rfl)
      · intro dd hdd w a b xs ys ha hb hx hy
        obtain ⟨dd, rfl⟩ : ∃ k, dd = k + 1 := ⟨dd - 1, by omega⟩
        have single : aggD q = false → ∀ {z : Value} {zs : List Value}, Shp P t z zs → zs = [z] := by
          intro hq z zs hz
          unfold Shp at hz
          rw [hag, hq, if_neg (by simp)] at hz
          exact hz
        have whole : aggD q = true → ∀ {z : Value} {zs : List Value}, Shp P t z zs → z = .agg zs.toArray := by
          intro hq z zs hz
          unfold Shp at hz
          rw [hag, hq, if_pos rfl] at hz
          exact hz
        cases q <;> first | (cases h; done) | skip
        case bool =>
          have ea := single rfl ha; have eb := single rfl hb
          subst ea; subst eb; cases h
          cases hx with | cons _ _ _ _ h1 _ => cases hy with | cons _ _ _ _ h2 _ =>
            obtain ⟨p, rfl⟩ := h1; obtain ⟨r, rfl⟩ := h2
            rw [run_equalIn_bool w dd t p r hu]; simp [eqL, eq1]
        case int k =>
          have ea := single rfl ha; have eb := single rfl hb
          subst ea; subst eb; cases h
          cases hx with | cons _ _ _ _ h1 _ => cases hy with | cons _ _ _ _ h2 _ =>
            obtain ⟨p, rfl⟩ := h1; obtain ⟨r, rfl⟩ := h2
            rw [run_equalIn_int w dd t k k p r hu]; simp [eqL, eq1]
        case string =>
          have ea := single rfl ha; have eb := single rfl hb
          subst ea; subst eb; cases h
          cases hx with | cons _ _ _ _ h1 _ => cases hy with | cons _ _ _ _ h2 _ =>
            obtain ⟨p, rfl⟩ := h1; obtain ⟨r, rfl⟩ := h2
            rw [run_equalIn_string w dd t p r hu]; simp [eqL, eq1, ByteArray.toList_eq]
        case array n e =>
          have ea := whole rfl ha; have eb := whole rfl hb
          subst ea; subst eb
          simp only [Option.bind_eq_some_iff] at h
          obtain ⟨k1, hk1, h⟩ := h
          split at h
          · rename_i hsz
            cases h
            have hsz' : sizeT P e = some k1.length := by simpa using hsz
            obtain ⟨hu', hcase, heq⟩ := kindsT_spec d e k1 hk1
            obtain ⟨q', hq'⟩ := hu'
            obtain ⟨i, hi⟩ := Go.info_of_underlying hq'
            have hcell : P.cellsOf e = k1.length := by
              have : i.size = k1.length := by simpa [sizeT, hi] using hsz'
              simp [Program.cellsOf, hi, this]
            rw [run_equalIn_array w dd xs.toArray ys.toArray hu hi, hcell, List.range_eq_range']
            have := run_eqItems w hsz' ⟨q', hq'⟩ hcase (heq dd (by omega)) xs ys n 0 (by simpa using hx) (by simpa using hy)
            simpa using this
          · cases h
        case struct fs =>
          have ea := whole rfl ha; have eb := whole rfl hb
          subst ea; subst eb
          dsimp only at h
          split at h
          · cases h
          · rename_i hst
            have hfs : P.fieldsOf t = fs := by simp [Program.fieldsOf, hu]
            rw [run_equalIn_struct w dd t xs.toArray ys.toArray (by rw [hfs]; exact hu) (by simpa using hst), hfs]
            have := run_eqFields w (dd := dd) (f := fun t => (kindsT P d t).bind fun ks => if sizeT P t == some ks.length then some ks else none) (fun t' ks' h' => by
              simp only [Option.bind_eq_some_iff] at h'
              obtain ⟨k1, hk1, h'⟩ := h'
              split at h'
              · rename_i hsz
                cases h'
                obtain ⟨hu', hcase, heq⟩ := kindsT_spec d t' _ hk1
                exact ⟨by simpa using hsz, hu', hcase, heq dd (by omega)⟩
              · cases h') fs.toList 0 ks h xs ys (by simpa using hx) (by simpa using hy)
            simpa using this

theorem run_checkKey_kinds (em : Bool) : ∀ (d : Nat) (t : TypeId) (ks : List K), kindsT P d t = some ks → ∀ (dd : Nat), d ≤ dd → ∀ (w : World) a xs, Shp P t a xs → KVs ks xs →
    (Instr.checkKey em dd t a).run P w = .ok () w
  | 0, t, ks, h => by simp [kindsT] at h
  | d + 1, t, ks, h => by
    intro dd hdd w a xs ha hx
    obtain ⟨dd, rfl⟩ : ∃ k, dd = k + 1 := ⟨dd - 1, by omega⟩
    unfold kindsT at h
    cases hu : P.underlying t with
    | none => rw [hu] at h; cases h
    | some q =>
      rw [hu] at h
      have hag := aggT_of hu
      have single : aggD q = false → ∀ {z : Value} {zs : List Value}, Shp P t z zs → zs = [z] := by
        intro hq z zs hz
        unfold Shp at hz
        rw [hag, hq, if_neg (by simp)] at hz
        exact hz
      have whole : aggD q = true → ∀ {z : Value} {zs : List Value}, Shp P t z zs → z = .agg zs.toArray := by
        intro hq z zs hz
        unfold Shp at hz
        rw [hag, hq, if_pos rfl] at hz
        exact hz
      cases q <;> first | (cases h; done) | skip
      case bool => simp [Instr.checkKey, run_underlying hu]
      case int k => simp [Instr.checkKey, run_underlying hu]
      case string => simp [Instr.checkKey, run_underlying hu]
      case array n e =>
        have ea := whole rfl ha
        subst ea
        simp only [Option.bind_eq_some_iff] at h
        obtain ⟨k1, hk1, h⟩ := h
        split at h
        · rename_i hsz
          cases h
          have hsz' : sizeT P e = some k1.length := by simpa using hsz
          obtain ⟨⟨q', hq'⟩, hcase, _⟩ := kindsT_spec d e k1 hk1
          obtain ⟨i, hi⟩ := Go.info_of_underlying hq'
          have hcell : P.cellsOf e = k1.length := by
            have : i.size = k1.length := by simpa [sizeT, hi] using hsz'
            simp [Program.cellsOf, hi, this]
          rw [Instr.checkKey]
          simp only [Sem.run_bind, run_underlying hu, Result.andThen_ok]
          simp only [Std.Legacy.Range.forIn_eq_forIn_range', Std.Legacy.Range.size, Nat.sub_zero, Nat.add_one_sub_one, Nat.div_one]
          have key : ∀ n m, KVs (List.replicate n k1).flatten (xs.drop (m * k1.length)) → ((do
              let r ← forIn (List.range' m n) PUnit.unit fun i r => do
                let a ← sizeOf e
                let a ← part e xs.toArray (i * a)
                Instr.checkKey em dd e a
                do
                  pure PUnit.unit
                  pure (ForInStep.yield PUnit.unit)
              match r with
              | PUnit.unit => pure ()) : Sem Unit).run P w = .ok () w := by
            intro n
            induction n with
            | zero => intro m _; simp
            | succ n ih =>
              intro m hm
              rw [List.replicate_succ, List.flatten_cons] at hm
              obtain ⟨h1, h2⟩ := hm.append_inv
              rw [List.drop_drop] at h2
              have e2 : m * k1.length + k1.length = (m + 1) * k1.length := by rw [Nat.add_mul, Nat.one_mul]
              rw [e2] at h2
              obtain ⟨a, p1, s1⟩ := run_part w hsz' ⟨q', hq'⟩ h1 hcase
              have p2 := run_checkKey_kinds em d e k1 hk1 dd (by omega) w a _ s1 h1
              have := ih (m + 1) h2
              simp only [List.range'_succ, List.forIn_cons, Sem.run_bind, run_sizeOf w hi, hcell, Result.andThen_ok, p1, p2, Sem.run_pure] at this ⊢
              exact this
          have := key n 0 (by simpa using hx)
          simp at this ⊢
          rw [this]; rfl
        · cases h
      case struct fs =>
        have ea := whole rfl ha
        subst ea
        dsimp only at h
        split at h
        · cases h
        · rw [Instr.checkKey]
          simp only [Sem.run_bind, run_underlying hu, Result.andThen_ok]
          rw [← Array.forIn_toList]
          have key : ∀ (L : List Field) (off : Nat) (ks : List K), kindsGo (fun t => (kindsT P d t).bind fun ks => if sizeT P t == some ks.length then some ks else none) off L = some ks →
              KVs ks (xs.drop off) → ((do
              let r ← forIn L PUnit.unit fun f r => do
                if f.name ≠ "_" then do
                    let a ← part f.type xs.toArray f.offset
                    Instr.checkKey em dd f.type a
                    do
                      pure PUnit.unit
                      pure (ForInStep.yield PUnit.unit)
                  else do
                    pure PUnit.unit
                    pure (ForInStep.yield PUnit.unit)
              match r with
              | PUnit.unit => pure ()) : Sem Unit).run P w = .ok () w := by
            intro L
            induction L with
            | nil => intro off ks _ _; simp
            | cons f L ih =>
              intro off ks hk hx
              simp only [kindsGo] at hk
              split at hk
              · rename_i hc
                simp only [Bool.and_eq_true, bne_iff_ne, ne_eq, beq_iff_eq] at hc
                simp only [Option.bind_eq_some_iff, Option.map_eq_some_iff] at hk
                obtain ⟨k1, ⟨k1', hk1, hsz⟩, k2, hk2, rfl⟩ := hk
                split at hsz
                · rename_i hsz'
                  cases hsz
                  obtain ⟨⟨q', hq'⟩, hcase, _⟩ := kindsT_spec d f.type _ hk1
                  obtain ⟨h1, h2⟩ := hx.append_inv
                  rw [List.drop_drop] at h2
                  obtain ⟨a, p1, s1⟩ := run_part w (by simpa using hsz') ⟨q', hq'⟩ h1 hcase
                  have p2 := run_checkKey_kinds em d f.type _ hk1 dd (by omega) w a _ s1 h1
                  have := ih (off + k1.length) k2 hk2 h2
                  simp only [List.forIn_cons, Sem.run_bind, hc.1, hc.2, ne_eq, not_false_eq_true, if_true, Result.andThen_ok, p1, p2, Sem.run_pure] at this ⊢
                  exact this
                · cases hsz
              · cases hk
          have := key fs.toList 0 ks h (by simpa using hx)
          simp at this ⊢
          rw [this]; rfl

/-- '==' of two structs, or arrays. -/
theorem run_equal_agg {t : TypeId} {ks : List K} (hk : keyFit P t (.agg ks) = true) {xs ys : List Value} (hx : KVs ks xs) (hy : KVs ks ys) :
    (Op.equal t (.agg xs.toArray) (.agg ys.toArray)).run P w = .ok (eqL xs ys) w := by
  simp only [keyFit, Bool.and_eq_true, beq_iff_eq] at hk
  obtain ⟨hag, hks⟩ := hk
  refine (kindsT_spec 20 t ks hks).2.2 10000 (by omega) w _ _ xs ys ?_ ?_ hx hy
  · unfold Shp; rw [if_pos hag]
  · unfold Shp; rw [if_pos hag]

end
end Go.Vm
