/- DiskNobody, walked. -/
import Derived.Test.YtpbkbmdpmfclpaaDkL
namespace Go.Dk
open Go Go.Sl
attribute [local irreducible] GK GO Yl Wt Ef Hd GH KH wpList Code.wp Sat pt FnOk Rd bodyPost Ret Exit.then Exit.inBlock Exit.noGoto exs
attribute [local irreducible] rep

variable {hF : Hp}
theorem nobody_ok (n : Int) (kv : Value) : FnOk Go.Proofs.Try.prog 6 [.int .i64 n, kv] [] hF (fun v _ => v = .bool true) := by
  refine FnOk.intro 79 Go.Proofs.Try.func6 rfl rfl fun w0 => ?_
  (repeat (first | refine GK.run ?_ | (refine GK.box ?_; intro bl) | (refine GK.mkMap ?_; intro bm) | (refine GK.build0 tb ?_; intro bs)))
  refine GL.cons ?_
  refine Gt.buildLit tb (sz := 0) (n := 1) (by first | exact Wt.none | (exact Wt.some rfl rfl rfl)) rfl rfl (by kernel_rfl) rfl rfl rfl rfl rfl rfl ?_
  intro sl
  (repeat (first | refine GK.run ?_ | (refine GK.box ?_; intro bl) | (refine GK.mkMap ?_; intro bm) | (refine GK.build0 tb ?_; intro bs)))
  refine GK.weak (by repeat (first | exact trivial | refine ⟨rfl, ?_⟩)) (fun w s => s.sel [0, 0] rfl) (G.loop (fun i : Nat => 2 - i)
    (fun i => [(0, .int .i64 n), (1, kv), (11, .slice (some ⟨sl, 0, none⟩) 2 2), (12, .int .i64 2), (13, .int .i64 i)])
    (fun _ => [blk sl 24 (0, 0) [.pointer none, dptr bl], dblk bl zcells])
    (fun i => i ≤ 2) (fun i hi => ?_) 0 (Nat.zero_le _))
  (repeat (first | refine GK.run ?_ | (refine GK.box ?_; intro bl) | (refine GK.mkMap ?_; intro bm) | (refine GK.build0 tb ?_; intro bs)))
  refine G.cond rfl (fun h => ?_) (fun h => ?_)
  · have h : i < 2 := by simp at h; omega
    obtain ⟨dv, hdv, hn⟩ : ∃ dv, [Value.pointer none, dptr bl][0 + ((i : Nat) : Int).toNat * 1]? = some dv ∧ Nob dv (dblk bl zcells) := by
      rcases (show i = 0 ∨ i = 1 by omega) with rfl | rfl
      · exact ⟨_, rfl, nob_nil _⟩
      · exact ⟨_, rfl, nob_zero _⟩
    (repeat (first | refine GK.run ?_ | (refine GK.box ?_; intro bl) | (refine GK.mkMap ?_; intro bm) | (refine GK.build0 tb ?_; intro bs)))
    refine GL.cons ?_; refine GO.call [1] (fun hF' _ hH => read_nob hn n) (by first | exact Wt.none | (exact Wt.some rfl rfl rfl)) (by kernel_rfl) rfl rfl rfl ?_
    rintro v Γ' ⟨rfl, rfl⟩
    (repeat (first | refine GK.run ?_ | (refine GK.box ?_; intro bl) | (refine GK.mkMap ?_; intro bm) | (refine GK.build0 tb ?_; intro bs)))
    refine GL.cons ?_; refine GO.call [] (fun hF' _ hH => ones_ok 1) (by first | exact Wt.none | (exact Wt.some rfl rfl rfl)) (by kernel_rfl) rfl rfl rfl ?_
    rintro v Γ' ⟨p1, k1, rfl, rfl⟩
    (repeat (first | refine GK.run ?_ | (refine GK.box ?_; intro bl) | (refine GK.mkMap ?_; intro bm) | (refine GK.build0 tb ?_; intro bs)))
    refine GL.cons ?_; refine GO.call [1] (fun hF' _ hH => write_nob hn n _) (by first | exact Wt.none | (exact Wt.some rfl rfl rfl)) (by kernel_rfl) rfl rfl rfl ?_
    rintro v Γ' ⟨rfl, rfl⟩
    (repeat (first | refine GK.run ?_ | (refine GK.box ?_; intro bl) | (refine GK.mkMap ?_; intro bm) | (refine GK.build0 tb ?_; intro bs)))
    refine GL.cons ?_; refine GO.call [0] (fun hF' _ hH => flush_nob hn) (by first | exact Wt.none | (exact Wt.some rfl rfl rfl)) (by kernel_rfl) rfl rfl rfl ?_
    rintro v Γ' ⟨rfl, rfl⟩
    (repeat (first | refine GK.run ?_ | (refine GK.box ?_; intro bl) | (refine GK.mkMap ?_; intro bm) | (refine GK.build0 tb ?_; intro bs)))
    refine GL.cons ?_; refine GO.call [0] (fun hF' _ hH => arm_nob hn n) (by first | exact Wt.none | (exact Wt.some rfl rfl rfl)) (by kernel_rfl) rfl rfl rfl ?_
    rintro v Γ' ⟨rfl, rfl⟩
    (repeat (first | refine GK.run ?_ | (refine GK.box ?_; intro bl) | (refine GK.mkMap ?_; intro bm) | (refine GK.build0 tb ?_; intro bs)))
    refine GL.cons ?_; refine GO.call [0] (fun hF' _ hH => restart_nob hn kv) (by first | exact Wt.none | (exact Wt.some rfl rfl rfl)) (by kernel_rfl) rfl rfl rfl ?_
    rintro v Γ' ⟨rfl, rfl⟩
    (repeat (first | refine GK.run ?_ | (refine GK.box ?_; intro bl) | (refine GK.mkMap ?_; intro bm) | (refine GK.build0 tb ?_; intro bs)))
    refine GL.cons ?_; refine GO.call [0] (fun hF' _ hH => sectors_nob hn) (by first | exact Wt.none | (exact Wt.some rfl rfl rfl)) (by kernel_rfl) rfl rfl rfl ?_
    rintro v Γ' ⟨rfl, rfl⟩
    (repeat (first | refine GK.run ?_ | (refine GK.box ?_; intro bl) | (refine GK.mkMap ?_; intro bm) | (refine GK.build0 tb ?_; intro bs)))
    refine GL.cons ?_; refine GO.call [0] (fun hF' _ hH => ops_nob hn) (by first | exact Wt.none | (exact Wt.some rfl rfl rfl)) (by kernel_rfl) rfl rfl rfl ?_
    rintro v Γ' ⟨rfl, rfl⟩
    (repeat (first | refine GK.run ?_ | (refine GK.box ?_; intro bl) | (refine GK.mkMap ?_; intro bm) | (refine GK.build0 tb ?_; intro bs)))
    refine GL.cons ?_; refine GO.call [0] (fun hF' _ hH => pending_nob hn) (by first | exact Wt.none | (exact Wt.some rfl rfl rfl)) (by kernel_rfl) rfl rfl rfl ?_
    rintro v Γ' ⟨rfl, rfl⟩
    (repeat (first | refine GK.run ?_ | (refine GK.box ?_; intro bl) | (refine GK.mkMap ?_; intro bm) | (refine GK.build0 tb ?_; intro bs)))
    refine GL.cons ?_; refine GO.call [0] (fun hF' _ hH => sure_nob hn) (by first | exact Wt.none | (exact Wt.some rfl rfl rfl)) (by kernel_rfl) rfl rfl rfl ?_
    rintro v Γ' ⟨rfl, rfl⟩
    (repeat (first | refine GK.run ?_ | (refine GK.box ?_; intro bl) | (refine GK.mkMap ?_; intro bm) | (refine GK.build0 tb ?_; intro bs)))
    refine GL.cons ?_; refine GO.call [0] (fun hF' _ hH => down_nob hn) (by first | exact Wt.none | (exact Wt.some rfl rfl rfl)) (by kernel_rfl) rfl rfl rfl ?_
    rintro v Γ' ⟨rfl, rfl⟩
    (repeat (first | refine GK.run ?_ | (refine GK.box ?_; intro bl) | (refine GK.mkMap ?_; intro bm) | (refine GK.build0 tb ?_; intro bs)))
    refine GL.cons ?_; refine GO.call [0] (fun hF' _ hH => clone_nob hn) (by first | exact Wt.none | (exact Wt.some rfl rfl rfl)) (by kernel_rfl) rfl rfl rfl ?_
    rintro v Γ' ⟨rfl, rfl⟩
    (repeat (first | refine GK.run ?_ | (refine GK.box ?_; intro bl) | (refine GK.mkMap ?_; intro bm) | (refine GK.build0 tb ?_; intro bs)))
    refine GQ.again (i + 1) h (by omega) (by repeat (first | exact trivial | refine ⟨rfl, ?_⟩)) (fun w s => s.sel [2, 0] rfl)
  · (repeat (first | refine GK.run ?_ | (refine GK.box ?_; intro bl) | (refine GK.mkMap ?_; intro bm) | (refine GK.build0 tb ?_; intro bs)))
    refine GL.cons ?_; refine GO.call [] (fun hF' _ hH => lives_ok) (by first | exact Wt.none | (exact Wt.some rfl rfl rfl)) (by kernel_rfl) rfl rfl rfl ?_
    rintro v Γ' rfl
    (repeat (first | refine GK.run ?_ | (refine GK.box ?_; intro bl) | (refine GK.mkMap ?_; intro bm) | (refine GK.build0 tb ?_; intro bs)))
    exact GQ.end1 rfl rfl rfl
end Go.Dk
