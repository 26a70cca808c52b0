/- The arguments' shapes, as data. -/
import Derived.Test.YthbfflleggnoaaaGreatDoorVmEntry
import Derived.Test.YthbfflleggnoaaaGreatDoorTy
set_option linter.unusedSimpArgs false
set_option linter.unusedVariables false
namespace Go.Vm.Tryz
open Go Go.Vm

def N63 : Nat := 9223372036854775808

theorem R_of {n : Int} (h1 : IntKind.i64.min ≤ n) (h2 : n ≤ IntKind.i64.max) : R n := by
  have e1 : IntKind.i64.min = -9223372036854775808 := by decide
  have e2 : IntKind.i64.max = 9223372036854775807 := by decide
  unfold R; omega
def RU (n : Int) : Prop := 0 ≤ n ∧ n ≤ 18446744073709551615
theorem RU_of {n : Int} (h1 : IntKind.u64.min ≤ n) (h2 : n ≤ IntKind.u64.max) : RU n := by
  have e1 : IntKind.u64.min = 0 := by decide
  have e2 : IntKind.u64.max = 18446744073709551615 := by decide
  unfold RU; omega

theorem ofSlice {α : Type} {s : Sh} (f : α → V) (ok : α → Prop) (h1 : ∀ v, HasV s v → ∃ a, v = f a ∧ ok a) {cs : List V} (h : HasCs (.slice s) cs) :
    ∃ l : List α, cs = [Sl.v f (some l)] ∧ l.length < N63 ∧ ∀ a ∈ l, ok a := by
  simp only [HasCs] at h
  obtain ⟨l, rfl, hl, hv⟩ := h
  have key : ∀ l : List V, (∀ v ∈ l, ∃ c, mkS s c v ∧ HasCs s c) → ∃ l' : List α, l = l'.map f ∧ ∀ a ∈ l', ok a := by
    intro l
    induction l with
    | nil => exact fun _ => ⟨[], rfl, fun _ h => by cases h⟩
    | cons v l ih =>
      intro hv
      obtain ⟨a, rfl, ha⟩ := h1 v (hv v (by simp))
      obtain ⟨l', rfl, hl'⟩ := ih fun v h => hv v (by simp [h])
      refine ⟨a :: l', rfl, fun b hb => ?_⟩
      rcases List.mem_cons.1 hb with rfl | hb
      · exact ha
      · exact hl' b hb
  obtain ⟨l', rfl, hok⟩ := key l hv
  exact ⟨l', rfl, by simpa [N63] using hl, hok⟩

theorem ofAgg {l : List Sh} {v : V} (h : HasV (.struct l) v) : ∃ cs, v = .agg cs ∧ HasL l cs := by
  obtain ⟨cs, h1, h2⟩ := h
  simp only [mkS, Sh.isAgg, if_true] at h1
  simp only [HasCs] at h2
  exact ⟨cs, h1, h2⟩

def okStr (s : Str) : Prop := s.length < N63
theorem ofStr {cs : List V} (h : HasCs .str cs) : ∃ s, cs = [S s] ∧ okStr s := by
  simp only [HasCs] at h
  obtain ⟨s, rfl, h⟩ := h
  exact ⟨s, rfl, by simpa [okStr, N63] using h⟩
theorem ofStrV {v : V} (h : HasV .str v) : ∃ s, v = S s ∧ okStr s := by
  obtain ⟨cs, h1, h2⟩ := h
  obtain ⟨s, rfl, h⟩ := ofStr h2
  simp [mkS, Sh.isAgg] at h1
  exact ⟨s, h1.symm, h⟩
theorem ofI {cs : List V} (h : HasCs (.int .i64) cs) : ∃ n, cs = [I n] ∧ R n := by
  simp only [HasCs] at h
  obtain ⟨n, rfl, h1, h2⟩ := h
  exact ⟨n, rfl, R_of h1 h2⟩
theorem ofU {cs : List V} (h : HasCs (.int .u64) cs) : ∃ n, cs = [.int .u64 n] ∧ RU n := by
  simp only [HasCs] at h
  obtain ⟨n, rfl, h1, h2⟩ := h
  exact ⟨n, rfl, RU_of h1 h2⟩
theorem ofB {cs : List V} (h : HasCs .bool cs) : ∃ b, cs = [B b] := by
  simpa only [HasCs] using h

/-- One field, and the others. -/
theorem ofField {s : Sh} {r : List Sh} {cs : List V} (h : HasL (s :: r) cs) : ∃ a b, cs = a ++ b ∧ HasCs s a ∧ HasL r b := by
  simpa only [HasL] using h
theorem ofEnd {cs : List V} (h : HasL [] cs) : cs = [] := by
  simpa only [HasL] using h

def shStamp : Sh := .struct [.int .i64, .int .i64]
def okStamp (s : Stamp) : Prop := R s.time ∧ R s.who
abbrev Stamp.c (s : Stamp) : List V := [I s.time, I s.who]
theorem ofStamp {cs : List V} (h : HasCs shStamp cs) : ∃ s : Stamp, cs = s.c ∧ okStamp s := by
  simp only [shStamp, HasCs] at h
  obtain ⟨_, _, rfl, h1, h⟩ := ofField h
  obtain ⟨_, _, rfl, h2, h⟩ := ofField h
  obtain rfl := ofEnd h
  obtain ⟨a, rfl, ha⟩ := ofI h1
  obtain ⟨b, rfl, hb⟩ := ofI h2
  exact ⟨⟨a, b⟩, rfl, ha, hb⟩

def shPiece : Sh := .struct [.int .i64, shStamp, .str]
def okPiece (p : Piece) : Prop := R p.index ∧ okStamp p.at_ ∧ okStr p.data
theorem ofPiece (v : V) (h : HasV shPiece v) : ∃ p : Piece, v = p.v ∧ okPiece p := by
  obtain ⟨cs, rfl, h0⟩ := ofAgg h
  clear h
  have h := h0
  obtain ⟨_, _, rfl, h1, h⟩ := ofField h
  obtain ⟨_, _, rfl, h2, h⟩ := ofField h
  obtain ⟨_, _, rfl, h3, h⟩ := ofField h
  obtain rfl := ofEnd h
  obtain ⟨a, rfl, ha⟩ := ofI h1
  obtain ⟨b, rfl, hb⟩ := ofStamp h2
  obtain ⟨c, rfl, hc⟩ := ofStr h3
  exact ⟨⟨a, b, c⟩, rfl, ha, hb, hc⟩

def shXattr : Sh := .struct [.str, shStamp, .str, .bool]
def okXattr (x : Xattr) : Prop := okStr x.name ∧ okStamp x.at_ ∧ okStr x.val
theorem ofXattr (v : V) (h : HasV shXattr v) : ∃ x : Xattr, v = x.v ∧ okXattr x := by
  obtain ⟨cs, rfl, h0⟩ := ofAgg h
  clear h
  have h := h0
  obtain ⟨_, _, rfl, h1, h⟩ := ofField h
  obtain ⟨_, _, rfl, h2, h⟩ := ofField h
  obtain ⟨_, _, rfl, h3, h⟩ := ofField h
  obtain ⟨_, _, rfl, h4, h⟩ := ofField h
  obtain rfl := ofEnd h
  obtain ⟨a, rfl, ha⟩ := ofStr h1
  obtain ⟨b, rfl, hb⟩ := ofStamp h2
  obtain ⟨c, rfl, hc⟩ := ofStr h3
  obtain ⟨d, rfl⟩ := ofB h4
  exact ⟨⟨a, b, c, d⟩, rfl, ha, hb, hc⟩

def shInode : Sh := .struct [shStamp, .int .i64, .str, .struct [shStamp, .int .i64, .int .u64], .struct [shStamp, .int .i64], .slice shPiece, .slice shXattr]
structure okInode (n : Inode) : Prop where
  id : okStamp n.id
  kind : R n.kind
  text : okStr n.text
  aAt : okStamp n.aAt
  mode : R n.mode
  time : RU n.time
  sAt : okStamp n.sAt
  size : R n.n
  pieces : n.pieces.l.length < N63 ∧ ∀ p ∈ n.pieces.l, okPiece p
  xattrs : n.xattrs.l.length < N63 ∧ ∀ p ∈ n.xattrs.l, okXattr p
theorem ofInode (v : V) (h : HasV shInode v) : ∃ n : Inode, v = n.v ∧ okInode n := by
  obtain ⟨cs, rfl, h0⟩ := ofAgg h
  clear h
  have h := h0
  obtain ⟨_, _, rfl, h1, h⟩ := ofField h
  obtain ⟨_, _, rfl, h2, h⟩ := ofField h
  obtain ⟨_, _, rfl, h3, h⟩ := ofField h
  obtain ⟨_, _, rfl, h4, h⟩ := ofField h
  obtain ⟨_, _, rfl, h5, h⟩ := ofField h
  obtain ⟨_, _, rfl, h6, h⟩ := ofField h
  obtain ⟨_, _, rfl, h7, h⟩ := ofField h
  obtain rfl := ofEnd h
  simp only [HasCs] at h4 h5
  obtain ⟨_, _, rfl, h41, h⟩ := ofField h4
  obtain ⟨_, _, rfl, h42, h⟩ := ofField h
  obtain ⟨_, _, rfl, h43, h⟩ := ofField h
  obtain rfl := ofEnd h
  obtain ⟨_, _, rfl, h51, h⟩ := ofField h5
  obtain ⟨_, _, rfl, h52, h⟩ := ofField h
  obtain rfl := ofEnd h
  obtain ⟨a, rfl, ha⟩ := ofStamp h1
  obtain ⟨b, rfl, hb⟩ := ofI h2
  obtain ⟨c, rfl, hc⟩ := ofStr h3
  obtain ⟨d, rfl, hd⟩ := ofStamp h41
  obtain ⟨e, rfl, he⟩ := ofI h42
  obtain ⟨f, rfl, hf⟩ := ofU h43
  obtain ⟨g, rfl, hg⟩ := ofStamp h51
  obtain ⟨i, rfl, hi⟩ := ofI h52
  obtain ⟨j, rfl, hj⟩ := ofSlice Piece.v okPiece ofPiece h6
  obtain ⟨k, rfl, hk⟩ := ofSlice Xattr.v okXattr ofXattr h7
  exact ⟨⟨a, b, c, d, e, f, g, i, some j, some k⟩, rfl, ha, hb, hc, hd, he, hf, hg, hi, hj, hk⟩

def shStat : Sh := .struct [shStamp, .int .i64, .int .i64, .int .u64, .int .i64, .int .i64]
structure okStat (s : Stat) : Prop where
  node : okStamp s.node
  kind : R s.kind
  mode : R s.mode
  time : RU s.time
  size : R s.size
  links : R s.links
theorem ofStat {cs : List V} (h : HasCs shStat cs) : ∃ s : Stat, cs = s.c ∧ okStat s := by
  simp only [shStat, HasCs] at h
  obtain ⟨_, _, rfl, h1, h⟩ := ofField h
  obtain ⟨_, _, rfl, h2, h⟩ := ofField h
  obtain ⟨_, _, rfl, h3, h⟩ := ofField h
  obtain ⟨_, _, rfl, h4, h⟩ := ofField h
  obtain ⟨_, _, rfl, h5, h⟩ := ofField h
  obtain ⟨_, _, rfl, h6, h⟩ := ofField h
  obtain rfl := ofEnd h
  obtain ⟨a, rfl, ha⟩ := ofStamp h1
  obtain ⟨b, rfl, hb⟩ := ofI h2
  obtain ⟨c, rfl, hc⟩ := ofI h3
  obtain ⟨d, rfl, hd⟩ := ofU h4
  obtain ⟨e, rfl, he⟩ := ofI h5
  obtain ⟨f, rfl, hf⟩ := ofI h6
  exact ⟨⟨a, b, c, d, e, f⟩, rfl, ha, hb, hc, hd, he, hf⟩

def shAnswer : Sh := .struct [.int .i64, .str, .slice .str, shStat]
structure okAnswer (a : Answer) : Prop where
  err : R a.err
  data : okStr a.data
  names : a.names.l.length < N63 ∧ ∀ s ∈ a.names.l, okStr s
  stat : okStat a.stat
theorem ofAnswer (v : V) (h : HasV shAnswer v) : ∃ a : Answer, v = a.v ∧ okAnswer a := by
  obtain ⟨cs, rfl, h0⟩ := ofAgg h
  clear h
  have h := h0
  obtain ⟨_, _, rfl, h1, h⟩ := ofField h
  obtain ⟨_, _, rfl, h2, h⟩ := ofField h
  obtain ⟨_, _, rfl, h3, h⟩ := ofField h
  obtain ⟨_, _, rfl, h4, h⟩ := ofField h
  obtain rfl := ofEnd h
  obtain ⟨a, rfl, ha⟩ := ofI h1
  obtain ⟨b, rfl, hb⟩ := ofStr h2
  obtain ⟨c, rfl, hc⟩ := ofSlice S okStr (fun v h => ofStrV h) h3
  obtain ⟨d, rfl, hd⟩ := ofStat h4
  exact ⟨⟨a, b, some c, d⟩, by simp, ha, hb, hc, hd⟩
end Go.Vm.Tryz
