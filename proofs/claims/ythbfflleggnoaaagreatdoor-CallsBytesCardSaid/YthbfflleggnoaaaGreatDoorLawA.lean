/- The law answers true. -/
import Derived.Test.YthbfflleggnoaaaGreatDoorBytesA
import Derived.Test.YthbfflleggnoaaaGreatDoorSameA
import Derived.Test.YthbfflleggnoaaaGreatDoorAwakeA
import Derived.Test.YthbfflleggnoaaaGreatDoorShT
set_option linter.unusedSimpArgs false
set_option linter.unusedVariables false
set_option maxRecDepth 10000
namespace Go.Vm.Tryz
open Go Go.Vm

theorem same_self (a : Answer) : sameB a a = true := by simp [sameB]
theorem ansC_v (a : Answer) : AnsC a.v a := ⟨_, Sl.row S a.names, rfl⟩

theorem law3 (nd : Inode) (a b : Answer) (hnd : okInode nd) (ha : okAnswer a) (hb : okAnswer b) : VC X 3 [nd.v, a.v, b.v] [] = some (.ret (B true), []) := by
  obtain ⟨bb, hs⟩ : ∃ bb, VC X 7 [.agg [I 0, I 0, I 0, I 0, I 0, I 0, I 0, I 0, .snap [.agg [I nd.id.time, I nd.id.who, I nd.kind, S nd.text, I nd.aAt.time, I nd.aAt.who, I nd.mode, .int .u64 nd.time, I nd.sAt.time, I nd.sAt.who, I nd.n, Sl.v Piece.v nd.pieces, Sl.v Xattr.v nd.xattrs]], .nils]] [] = some (.ret (B bb), []) := by
    obtain ⟨c, h, e, ⟨bb, rfl⟩, rfl⟩ := (small_ok (I 0) (I 0) (I 0) (I 0) (I 0) (I 0) (I 0) (I 0) [nd] (.snap [nd.v]) (.inr rfl) [] .nils (.inl ⟨rfl, rfl⟩) (by simp) (by simp)
      (fun n hn => by rw [List.mem_singleton.1 hn]; exact ⟨hnd.pieces.1, hnd.xattrs.1⟩) []).ex
    exact ⟨bb, e⟩
  have h9 : VC X 9 [.agg [I nd.id.time, I nd.id.who, I nd.kind, S nd.text, I nd.aAt.time, I nd.aAt.who, I nd.mode, .int .u64 nd.time, I nd.sAt.time, I nd.sAt.who, I nd.n, Sl.v Piece.v nd.pieces, Sl.v Xattr.v nd.xattrs]] [] = _ := bytes9 nd.n nd.pieces.l _ (Sl.row _ nd.pieces) nd.c rfl rfl rfl hnd.pieces.1 []
  have h10 : VC X 10 [.agg [I nd.id.time, I nd.id.who, I nd.kind, S nd.text, I nd.aAt.time, I nd.aAt.who, I nd.mode, .int .u64 nd.time, I nd.sAt.time, I nd.sAt.who, I nd.n, Sl.v Piece.v nd.pieces, Sl.v Xattr.v nd.xattrs]] [] = _ := bytes10 nd.n nd.pieces.l _ (Sl.row _ nd.pieces) nd.c rfl rfl rfl hnd.pieces.1 []
  have h11 : VC X 11 [.agg [I a.err, S a.data, Sl.v S a.names, I a.stat.node.time, I a.stat.node.who, I a.stat.kind, I a.stat.mode, .int .u64 a.stat.time, I a.stat.size, I a.stat.links], .agg [I b.err, S b.data, Sl.v S b.names, I b.stat.node.time, I b.stat.node.who, I b.stat.kind, I b.stat.mode, .int .u64 b.stat.time, I b.stat.size, I b.stat.links]] [] = _ := same11 a.v b.v a b (ansC_v a) (ansC_v b) ha.names.1 []
  have h12 : VC X 12 [.agg [I a.err, S a.data, Sl.v S a.names, I a.stat.node.time, I a.stat.node.who, I a.stat.kind, I a.stat.mode, .int .u64 a.stat.time, I a.stat.size, I a.stat.links], .agg [I b.err, S b.data, Sl.v S b.names, I b.stat.node.time, I b.stat.node.who, I b.stat.kind, I b.stat.mode, .int .u64 b.stat.time, I b.stat.size, I b.stat.links]] [] = _ := same12 a.v b.v a b (ansC_v a) (ansC_v b) ha.names.1 hb.names.1 []
  have haa : VC X 11 [.agg [I a.err, S a.data, Sl.v S a.names, I a.stat.node.time, I a.stat.node.who, I a.stat.kind, I a.stat.mode, .int .u64 a.stat.time, I a.stat.size, I a.stat.links], .agg [I a.err, S a.data, Sl.v S a.names, I a.stat.node.time, I a.stat.node.who, I a.stat.kind, I a.stat.mode, .int .u64 a.stat.time, I a.stat.size, I a.stat.links]] [] = _ := same11 a.v a.v a a (ansC_v a) (ansC_v a) ha.names.1 []
  rw [same_self] at haa
  have hw := awake_ok
  rw [v3]
  refine Ans.eq (ans_wp ?_)
  rcases ea : a.names with _ | an <;> rcases eb : b.names with _ | bn
  all_goals
    rw [ea] at h11 h12 haa
    rw [eb] at h11 h12
    simp at h11 h12 haa
    simp [s3, hs, ea, eb]
    repeat' (first | refine wp_cond (fun hc => ?_) (fun hc => ?_) | refine wp_guardT (fun hc => ?_) (fun hc => ?_) | refine wp_guardF (fun hc => ?_) (fun hc => ?_) | refine wp_guardDT (fun hc => ?_) (fun hc => ?_) | refine wp_guardDF (fun hc => ?_) (fun hc => ?_)) <;> (have hc' := hc; (try simp at hc'); simp [hc, hc', h9, h10, h11, h12, haa, hw])
end Go.Vm.Tryz
