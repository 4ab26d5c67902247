/- A disk that no call made; a sector of a byte. -/
import Derived.Test.YtmiajgldkbmbjaaDkG
namespace Go.Dk
open Go Go.Sl
attribute [local irreducible] GK GO Yl Wt Ef Hd GH KH wpList Code.wp Sat pt FnOk Rd bodyPost Ret Exit.then Exit.inBlock Exit.noGoto exs Int.decLt Int.decLe Int.instDecidableEq

variable {dv : Value} {c : HProp} {hF : Hp}
/-- The value dv, with its chunk c, is a disk that no call made. -/
def Nob (dv : Value) (c : HProp) : Prop := ∀ hF, FnOk Go.Proofs.Try.prog 27 [dv] [c] hF (fun v Γ => v = .bool true ∧ Γ = [c])
theorem nob_nil (c : HProp) : Nob (.pointer none) c := fun hF => by
  refine FnOk.intro 13 Go.Proofs.Try.func27 rfl rfl fun w0 => ?_
  (repeat (first | refine GK.run ?_ | (refine GK.box ?_; intro bl) | (refine GK.mkMap ?_; intro bm) | (refine GK.build0 tb ?_; intro bs)))
  exact GQ.end1 rfl rfl ⟨rfl, rfl⟩
def zcells : List Value := [.slice none 0 0, .slice none 0 0, .map none, .bool false, .bool false, .int .i64 0, .int .i64 0]
theorem nob_zero (d : Nat) : Nob (dptr d) (dblk d zcells) := fun hF => by
  refine FnOk.intro 13 Go.Proofs.Try.func27 rfl rfl fun w0 => ?_
  (repeat (first | refine GK.run ?_ | (refine GK.box ?_; intro bl) | (refine GK.mkMap ?_; intro bm) | (refine GK.build0 tb ?_; intro bs)))
  exact GQ.end1 rfl rfl ⟨by simp, rfl⟩

theorem wrong_nob (hn : Nob dv c) (i : Int) : FnOk Go.Proofs.Try.prog 29 [dv, .int .i64 i] [c] hF (fun v Γ => v = .int .i64 1 ∧ Γ = [c]) := by
  refine FnOk.intro 25 Go.Proofs.Try.func29 rfl rfl fun w0 => ?_
  (repeat (first | refine GK.run ?_ | (refine GK.box ?_; intro bl) | (refine GK.mkMap ?_; intro bm) | (refine GK.build0 tb ?_; intro bs)))
  refine GL.cons ?_
  refine GO.call [0] (fun hF' _ _ => hn hF') .none (by kernel_rfl) rfl rfl rfl ?_
  rintro v Γ' ⟨rfl, rfl⟩
  (repeat (first | refine GK.run ?_ | (refine GK.box ?_; intro bl) | (refine GK.mkMap ?_; intro bm) | (refine GK.build0 tb ?_; intro bs)))
  exact GQ.end1 rfl rfl ⟨rfl, rfl⟩
theorem read_nob (hn : Nob dv c) (i : Int) : FnOk Go.Proofs.Try.prog 14 [dv, .int .i64 i] [c] hF (fun v Γ => v = .tuple #[.slice none 0 0, .int .i64 1] ∧ Γ = [c]) := by
  refine FnOk.intro 42 Go.Proofs.Try.func14 rfl rfl fun w0 => ?_
  (repeat (first | refine GK.run ?_ | (refine GK.box ?_; intro bl) | (refine GK.mkMap ?_; intro bm) | (refine GK.build0 tb ?_; intro bs)))
  refine GL.cons ?_
  refine GO.call [0] (fun hF' _ _ => wrong_nob hn i) .none (by kernel_rfl) rfl rfl rfl ?_
  rintro v Γ' ⟨rfl, rfl⟩
  (repeat (first | refine GK.run ?_ | (refine GK.box ?_; intro bl) | (refine GK.mkMap ?_; intro bm) | (refine GK.build0 tb ?_; intro bs)))
  exact GQ.end2 rfl rfl rfl ⟨rfl, rfl⟩
theorem write_nob (hn : Nob dv c) (i : Int) (bv : Value) : FnOk Go.Proofs.Try.prog 11 [dv, .int .i64 i, bv] [c] hF (fun v Γ => v = .int .i64 1 ∧ Γ = [c]) := by
  refine FnOk.intro 44 Go.Proofs.Try.func11 rfl rfl fun w0 => ?_
  (repeat (first | refine GK.run ?_ | (refine GK.box ?_; intro bl) | (refine GK.mkMap ?_; intro bm) | (refine GK.build0 tb ?_; intro bs)))
  refine GL.cons ?_
  refine GO.call [0] (fun hF' _ _ => wrong_nob hn i) .none (by kernel_rfl) rfl rfl rfl ?_
  rintro v Γ' ⟨rfl, rfl⟩
  (repeat (first | refine GK.run ?_ | (refine GK.box ?_; intro bl) | (refine GK.mkMap ?_; intro bm) | (refine GK.build0 tb ?_; intro bs)))
  exact GQ.end1 rfl rfl ⟨rfl, rfl⟩
theorem flush_nob (hn : Nob dv c) : FnOk Go.Proofs.Try.prog 9 [dv] [c] hF (fun v Γ => v = .int .i64 1 ∧ Γ = [c]) := by
  refine FnOk.intro 34 Go.Proofs.Try.func9 rfl rfl fun w0 => ?_
  (repeat (first | refine GK.run ?_ | (refine GK.box ?_; intro bl) | (refine GK.mkMap ?_; intro bm) | (refine GK.build0 tb ?_; intro bs)))
  refine GL.cons ?_
  refine GO.call [0] (fun hF' _ _ => wrong_nob hn 0) .none (by kernel_rfl) rfl rfl rfl ?_
  rintro v Γ' ⟨rfl, rfl⟩
  (repeat (first | refine GK.run ?_ | (refine GK.box ?_; intro bl) | (refine GK.mkMap ?_; intro bm) | (refine GK.build0 tb ?_; intro bs)))
  exact GQ.end1 rfl rfl ⟨rfl, rfl⟩
theorem arm_nob (hn : Nob dv c) (i : Int) : FnOk Go.Proofs.Try.prog 17 [dv, .int .i64 i] [c] hF (fun v Γ => v = .int .i64 1 ∧ Γ = [c]) := by
  refine FnOk.intro 20 Go.Proofs.Try.func17 rfl rfl fun w0 => ?_
  (repeat (first | refine GK.run ?_ | (refine GK.box ?_; intro bl) | (refine GK.mkMap ?_; intro bm) | (refine GK.build0 tb ?_; intro bs)))
  refine GL.cons ?_
  refine GO.call [0] (fun hF' _ _ => wrong_nob hn 0) .none (by kernel_rfl) rfl rfl rfl ?_
  rintro v Γ' ⟨rfl, rfl⟩
  (repeat (first | refine GK.run ?_ | (refine GK.box ?_; intro bl) | (refine GK.mkMap ?_; intro bm) | (refine GK.build0 tb ?_; intro bs)))
  exact GQ.end1 rfl rfl ⟨rfl, rfl⟩
theorem restart_nob (hn : Nob dv c) (kv : Value) : FnOk Go.Proofs.Try.prog 8 [dv, kv] [c] hF (fun v Γ => v = .int .i64 1 ∧ Γ = [c]) := by
  refine FnOk.intro 71 Go.Proofs.Try.func8 rfl rfl fun w0 => ?_
  (repeat (first | refine GK.run ?_ | (refine GK.box ?_; intro bl) | (refine GK.mkMap ?_; intro bm) | (refine GK.build0 tb ?_; intro bs)))
  refine GL.cons ?_
  refine GO.call [0] (fun hF' _ _ => hn hF') .none (by kernel_rfl) rfl rfl rfl ?_
  rintro v Γ' ⟨rfl, rfl⟩
  (repeat (first | refine GK.run ?_ | (refine GK.box ?_; intro bl) | (refine GK.mkMap ?_; intro bm) | (refine GK.build0 tb ?_; intro bs)))
  exact GQ.end1 rfl rfl ⟨rfl, rfl⟩
theorem sectors_nob (hn : Nob dv c) : FnOk Go.Proofs.Try.prog 25 [dv] [c] hF (fun v Γ => v = .int .i64 0 ∧ Γ = [c]) := by
  refine FnOk.intro 10 Go.Proofs.Try.func25 rfl rfl fun w0 => ?_
  (repeat (first | refine GK.run ?_ | (refine GK.box ?_; intro bl) | (refine GK.mkMap ?_; intro bm) | (refine GK.build0 tb ?_; intro bs)))
  refine GL.cons ?_
  refine GO.call [0] (fun hF' _ _ => hn hF') .none (by kernel_rfl) rfl rfl rfl ?_
  rintro v Γ' ⟨rfl, rfl⟩
  (repeat (first | refine GK.run ?_ | (refine GK.box ?_; intro bl) | (refine GK.mkMap ?_; intro bm) | (refine GK.build0 tb ?_; intro bs)))
  exact GQ.end1 rfl rfl ⟨rfl, rfl⟩
theorem ops_nob (hn : Nob dv c) : FnOk Go.Proofs.Try.prog 26 [dv] [c] hF (fun v Γ => v = .int .i64 0 ∧ Γ = [c]) := by
  refine FnOk.intro 9 Go.Proofs.Try.func26 rfl rfl fun w0 => ?_
  (repeat (first | refine GK.run ?_ | (refine GK.box ?_; intro bl) | (refine GK.mkMap ?_; intro bm) | (refine GK.build0 tb ?_; intro bs)))
  refine GL.cons ?_
  refine GO.call [0] (fun hF' _ _ => hn hF') .none (by kernel_rfl) rfl rfl rfl ?_
  rintro v Γ' ⟨rfl, rfl⟩
  (repeat (first | refine GK.run ?_ | (refine GK.box ?_; intro bl) | (refine GK.mkMap ?_; intro bm) | (refine GK.build0 tb ?_; intro bs)))
  exact GQ.end1 rfl rfl ⟨rfl, rfl⟩
theorem pending_nob (hn : Nob dv c) : FnOk Go.Proofs.Try.prog 13 [dv] [c] hF (fun v Γ => v = .slice none 0 0 ∧ Γ = [c]) := by
  refine FnOk.intro 24 Go.Proofs.Try.func13 rfl rfl fun w0 => ?_
  (repeat (first | refine GK.run ?_ | (refine GK.box ?_; intro bl) | (refine GK.mkMap ?_; intro bm) | (refine GK.build0 tb ?_; intro bs)))
  refine GL.cons ?_
  refine GO.call [0] (fun hF' _ _ => hn hF') .none (by kernel_rfl) rfl rfl rfl ?_
  rintro v Γ' ⟨rfl, rfl⟩
  (repeat (first | refine GK.run ?_ | (refine GK.box ?_; intro bl) | (refine GK.mkMap ?_; intro bm) | (refine GK.build0 tb ?_; intro bs)))
  exact GQ.end1 rfl rfl ⟨rfl, rfl⟩
theorem sure_nob (hn : Nob dv c) : FnOk Go.Proofs.Try.prog 10 [dv] [c] hF (fun v Γ => v = .slice none 0 0 ∧ Γ = [c]) := by
  refine FnOk.intro 25 Go.Proofs.Try.func10 rfl rfl fun w0 => ?_
  (repeat (first | refine GK.run ?_ | (refine GK.box ?_; intro bl) | (refine GK.mkMap ?_; intro bm) | (refine GK.build0 tb ?_; intro bs)))
  refine GL.cons ?_
  refine GO.call [0] (fun hF' _ _ => hn hF') .none (by kernel_rfl) rfl rfl rfl ?_
  rintro v Γ' ⟨rfl, rfl⟩
  (repeat (first | refine GK.run ?_ | (refine GK.box ?_; intro bl) | (refine GK.mkMap ?_; intro bm) | (refine GK.build0 tb ?_; intro bs)))
  exact GQ.end1 rfl rfl ⟨rfl, rfl⟩
theorem clone_nob (hn : Nob dv c) : FnOk Go.Proofs.Try.prog 19 [dv] [c] hF (fun v Γ => v = .pointer none ∧ Γ = [c]) := by
  refine FnOk.intro 42 Go.Proofs.Try.func19 rfl rfl fun w0 => ?_
  (repeat (first | refine GK.run ?_ | (refine GK.box ?_; intro bl) | (refine GK.mkMap ?_; intro bm) | (refine GK.build0 tb ?_; intro bs)))
  refine GL.cons ?_
  refine GO.call [0] (fun hF' _ _ => hn hF') .none (by kernel_rfl) rfl rfl rfl ?_
  rintro v Γ' ⟨rfl, rfl⟩
  (repeat (first | refine GK.run ?_ | (refine GK.box ?_; intro bl) | (refine GK.mkMap ?_; intro bm) | (refine GK.build0 tb ?_; intro bs)))
  exact GQ.end1 rfl rfl ⟨rfl, rfl⟩
theorem down_nob (hn : Nob dv c) : FnOk Go.Proofs.Try.prog 16 [dv] [c] hF (fun v Γ => v = .bool false ∧ Γ = [c]) := by
  refine FnOk.intro 12 Go.Proofs.Try.func16 rfl rfl fun w0 => ?_
  (repeat (first | refine GK.run ?_ | (refine GK.box ?_; intro bl) | (refine GK.mkMap ?_; intro bm) | (refine GK.build0 tb ?_; intro bs)))
  refine GL.cons ?_
  refine GO.call [0] (fun hF' _ _ => hn hF') .none (by kernel_rfl) rfl rfl rfl ?_
  rintro v Γ' ⟨rfl, rfl⟩
  (repeat (first | refine GK.run ?_ | (refine GK.box ?_; intro bl) | (refine GK.mkMap ?_; intro bm) | (refine GK.build0 tb ?_; intro bs)))
  exact GQ.end1 rfl rfl ⟨rfl, rfl⟩
/-- Bytes that are all the same but for the first i, which are others. -/
theorem ones_ok (b : UInt8) : FnOk Go.Proofs.Try.prog 18 [.int .u8 b.toNat] [] hF (fun v Γ => ∃ p k, v = .slice p (rep 256 b).length k ∧ Γ = [brow v (rep 256 b)]) := by
  refine FnOk.intro 17 Go.Proofs.Try.func18 rfl rfl fun w0 => ?_
  (repeat (first | refine GK.run ?_ | (refine GK.box ?_; intro bl) | (refine GK.mkMap ?_; intro bm) | (refine GK.build0 tb ?_; intro bs)))
  refine GL.cons ?_
  refine Gt.makeSlice tb (zl := [.int .u8 0]) (n := 256) (c := 256) .none rfl rfl (by kernel_rfl) rfl rfl rfl (Nat.le_refl _) (by omega) (by omega) ?_
  intro s
  (repeat (first | refine GK.run ?_ | (refine GK.box ?_; intro bl) | (refine GK.mkMap ?_; intro bm) | (refine GK.build0 tb ?_; intro bs)))
  refine GK.openRow 0 rfl (by omega) fun s' tail fz hp hc ht hxs hf => ?_
  cases hp
  obtain ⟨n, hn⟩ : ∃ n : Nat, 256 = n := ⟨_, rfl⟩
  refine GK.weak (by subst hn; exact (by repeat (first | exact trivial | refine ⟨rfl, ?_⟩))) (fun w q => ?_) (G.loop (fun i : Nat => n - i)
    (fun i => [(0, .int .u8 b.toNat), (3, .slice (some ⟨s, 0, none⟩) n n), (7, .int .i64 n), (8, .int .i64 i)])
    (fun i => [blk s 5 fz (u8s (rep i b ++ rep (n - i) 0) ++ tail)])
    (fun i => i ≤ n) (fun i hi => ?_) 0 (Nat.zero_le _))
  · have e : u8s (rep 0 b ++ rep (n - 0) 0) = (List.replicate 256 [Value.int .u8 0]).flatten := by
      simp only [rep, u8s, List.replicate_zero, List.nil_append, List.map_replicate, Nat.sub_zero]
      rw [List.flatten_replicate_singleton, hn]; rfl
    show Sat [blk s _ fz (u8s (rep 0 b ++ rep (n - 0) 0) ++ tail)] _ _
    rw [e]; exact q
  (repeat (first | refine GK.run ?_ | (refine GK.box ?_; intro bl) | (refine GK.mkMap ?_; intro bm) | (refine GK.build0 tb ?_; intro bs)))
  refine G.cond rfl (fun h => ?_) (fun h => ?_)
  · have h : i < n := by simpa using h
    (repeat (first | refine GK.run ?_ | (refine GK.box ?_; intro bl) | (refine GK.mkMap ?_; intro bm) | (refine GK.build0 tb ?_; intro bs)))
    have hl : (u8s (rep i b ++ rep (n - i) 0) ++ tail).length = n + tail.length := by simp [rep_length]; omega
    have hl0 : ((List.replicate 256 [Value.int .u8 0]).flatten ++ tail).length = n + tail.length := by rw [List.length_append, hxs, ← hn]
    refine GL.cons ?_
    refine Gt.storeAt tb 0 .none rfl rfl rfl rfl rfl (by rw [hl]; show 0 + i * 1 < _; omega) (free_row (n := n + tail.length) (by rw [← hl0]; exact hf) (by show 0 + i * 1 < _; omega)) ?_
    (repeat (first | refine GK.run ?_ | (refine GK.box ?_; intro bl) | (refine GK.mkMap ?_; intro bm) | (refine GK.build0 tb ?_; intro bs)))
    refine GQ.again (i + 1) (by omega) (by omega) (by repeat (first | exact trivial | refine ⟨rfl, ?_⟩)) (fun w q => ?_)
    have e : (u8s (rep i b ++ rep (n - i) 0) ++ tail).set (0 + i * 1) (.int .u8 b.toNat) = u8s (rep (i + 1) b ++ rep (n - (i + 1)) 0) ++ tail := by
      have h1 : rep (n - i) 0 = 0 :: rep (n - (i + 1)) 0 := by rw [show n - i = (n - (i + 1)) + 1 from by omega]; exact List.replicate_succ
      have h2 : rep (i + 1) b = rep i b ++ [b] := List.replicate_succ'
      rw [h1, h2, u8s_append, u8s_append, u8s_append, List.append_assoc, List.append_assoc]
      rw [List.set_append_right _ _ (by simp [rep_length])]
      simp [rep_length, u8s]
    rw [← e]; exact q
  · have h : i = n := by simp at h; omega
    subst h
    (repeat (first | refine GK.run ?_ | (refine GK.box ?_; intro bl) | (refine GK.mkMap ?_; intro bm) | (refine GK.build0 tb ?_; intro bs)))
    refine GK.heap (Γ' := [brow (.slice (some ⟨s, 0, none⟩) i i) (rep 256 b)]) (fun w q => ?_) (GQ.end1 rfl rfl ⟨_, _, by rw [rep_length, hn], by rw [hn]⟩)
    rw [Nat.sub_self, show rep 0 (0 : UInt8) = [] from rfl, List.append_nil] at q
    have hl : (rep i b).length = i := rep_length i b
    rw [hn, show brow (.slice (some ⟨s, 0, none⟩) i i) (rep i b) = row (.slice (some ⟨s, 0, none⟩) i i) 5 1 i (u8s (rep i b)) from by rw [brow, hl]]
    have ht0 : tail = [] := List.length_eq_zero_iff.1 (by omega)
    subst ht0
    exact Sat.row_blk (Nat.le_refl _) (by simp) (by simp [hl]) (by rw [show (u8s (rep i b) ++ ([] : List Value)).length = ((List.replicate 256 [Value.int .u8 0]).flatten ++ ([] : List Value)).length from by rw [List.append_nil, List.append_nil, u8s_length, hl, hxs, hn, Nat.mul_one]]; exact hf) q
end Go.Dk
