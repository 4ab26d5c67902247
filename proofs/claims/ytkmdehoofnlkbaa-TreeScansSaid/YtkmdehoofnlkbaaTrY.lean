/- TreeNobody, walked. -/
import Derived.Test.YtkmdehoofnlkbaaTrX
namespace Go.Tr
open Go Go.Sl
attribute [local irreducible] GK GO Yl Wt Ef Hd GH KH wpListIn Code.wpIn toBody roundQ poolOf rs RS YieldOk IterOk VOk row star exs mp lp Sat pt FnOk Rd bodyPost bodyPostM Lv Ret Exit.then Exit.inBlock Exit.noGoto Int.decLt Int.decLe Int.instDecidableEq
attribute [local irreducible] ents ptrs hasH less dset num M.put M.del bulk acts
set_option pp.deepTerms true
set_option pp.maxSteps 1000000
variable {hF H : Hp}
abbrev zblk (b : Nat) : HProp := blk b 48 (0, 0) [.bool false, .pointer none, .int .i64 0]
def Nob (mv : Value) (A : HProp) : Prop := ∀ hF', FnOk Go.Proofs.Try.prog 26 [mv] [A] hF' (fun v Γ => v = .bool true ∧ Γ = [A])
theorem Nob.zero (b : Nat) : Nob (nptr b) (zblk b) := fun _ => none_ok b false (.pointer none) (.int .i64 0)
theorem Nob.nil : Nob (.pointer none) (fact True) := fun hF' => by
  refine FnOk.intro 12 Go.Proofs.Try.func26 rfl rfl fun w0 => ?_
  (repeat (first | refine GK.run ?_ | (refine GK.box ?_; intro bl) | (refine GK.mkMap ?_; intro bm) | (refine GK.build0 tb ?_; intro bs)))
  exact GQ.end1 rfl rfl ⟨rfl, rfl⟩
variable {mv : Value} {A : HProp}
theorem nb_get (hno : Nob mv A) (k : Ky) : FnOk Go.Proofs.Try.prog 21 [mv, str k] [A] hF (fun v Γ => v = .tuple #[str [], .bool false] ∧ Γ = [A]) := by
  refine FnOk.intro 45 Go.Proofs.Try.func21 rfl rfl fun w0 => ?_
  (repeat (first | refine GK.run ?_ | (refine GK.box ?_; intro bl) | (refine GK.mkMap ?_; intro bm) | (refine GK.build0 tb ?_; intro bs)))
  refine GL.cons ?_; refine GO.call [0] (fun hF' hle hH => hno hF') (by first | exact Wt.none | exact Wt.some rfl rfl (by first | exact rfl | decide +kernel)) (by kernel_rfl) rfl rfl rfl ?_
  rintro v Γ' ⟨rfl, rfl⟩
  (repeat (first | refine GK.run ?_ | (refine GK.box ?_; intro bl) | (refine GK.mkMap ?_; intro bm) | (refine GK.build0 tb ?_; intro bs)))
  exact GQ.fin2 rfl (Rv.tmp rfl) (Rv.tmp rfl) (fun w s => s) ⟨rfl, rfl⟩
theorem nb_put (hno : Nob mv A) (k v : Ky) : FnOk Go.Proofs.Try.prog 15 [mv, str k, str v] [A] hF (fun v Γ => v = .bool false ∧ Γ = [A]) := by
  refine FnOk.intro 68 Go.Proofs.Try.func15 rfl rfl fun w0 => ?_
  (repeat (first | refine GK.run ?_ | (refine GK.box ?_; intro bl) | (refine GK.mkMap ?_; intro bm) | (refine GK.build0 tb ?_; intro bs)))
  refine GL.cons ?_; refine GO.call [0] (fun hF' hle hH => hno hF') (by first | exact Wt.none | exact Wt.some rfl rfl (by first | exact rfl | decide +kernel)) (by kernel_rfl) rfl rfl rfl ?_
  rintro v Γ' ⟨rfl, rfl⟩
  (repeat (first | refine GK.run ?_ | (refine GK.box ?_; intro bl) | (refine GK.mkMap ?_; intro bm) | (refine GK.build0 tb ?_; intro bs)))
  exact GQ.fin1 rfl (Rv.tmp rfl) (fun w s => s) ⟨rfl, rfl⟩
theorem nb_del (hno : Nob mv A) (k : Ky) : FnOk Go.Proofs.Try.prog 14 [mv, str k] [A] hF (fun v Γ => v = .bool false ∧ Γ = [A]) := by
  refine FnOk.intro 56 Go.Proofs.Try.func14 rfl rfl fun w0 => ?_
  (repeat (first | refine GK.run ?_ | (refine GK.box ?_; intro bl) | (refine GK.mkMap ?_; intro bm) | (refine GK.build0 tb ?_; intro bs)))
  refine GL.cons ?_; refine GO.call [0] (fun hF' hle hH => hno hF') (by first | exact Wt.none | exact Wt.some rfl rfl (by first | exact rfl | decide +kernel)) (by kernel_rfl) rfl rfl rfl ?_
  rintro v Γ' ⟨rfl, rfl⟩
  (repeat (first | refine GK.run ?_ | (refine GK.box ?_; intro bl) | (refine GK.mkMap ?_; intro bm) | (refine GK.build0 tb ?_; intro bs)))
  exact GQ.fin1 rfl (Rv.tmp rfl) (fun w s => s) ⟨rfl, rfl⟩
theorem nb_len (hno : Nob mv A) : FnOk Go.Proofs.Try.prog 16 [mv] [A] hF (fun v Γ => v = .int .i64 0 ∧ Γ = [A]) := by
  refine FnOk.intro 9 Go.Proofs.Try.func16 rfl rfl fun w0 => ?_
  (repeat (first | refine GK.run ?_ | (refine GK.box ?_; intro bl) | (refine GK.mkMap ?_; intro bm) | (refine GK.build0 tb ?_; intro bs)))
  refine GL.cons ?_; refine GO.call [0] (fun hF' hle hH => hno hF') (by first | exact Wt.none | exact Wt.some rfl rfl (by first | exact rfl | decide +kernel)) (by kernel_rfl) rfl rfl rfl ?_
  rintro v Γ' ⟨rfl, rfl⟩
  (repeat (first | refine GK.run ?_ | (refine GK.box ?_; intro bl) | (refine GK.mkMap ?_; intro bm) | (refine GK.build0 tb ?_; intro bs)))
  exact GQ.fin1 rfl (Rv.tmp rfl) (fun w s => s) ⟨rfl, rfl⟩
theorem nb_depth (hno : Nob mv A) : FnOk Go.Proofs.Try.prog 17 [mv] [A] hF (fun v Γ => v = .int .i64 0 ∧ Γ = [A]) := by
  refine FnOk.intro 30 Go.Proofs.Try.func17 rfl rfl fun w0 => ?_
  (repeat (first | refine GK.run ?_ | (refine GK.box ?_; intro bl) | (refine GK.mkMap ?_; intro bm) | (refine GK.build0 tb ?_; intro bs)))
  refine GL.cons ?_; refine GO.call [0] (fun hF' hle hH => hno hF') (by first | exact Wt.none | exact Wt.some rfl rfl (by first | exact rfl | decide +kernel)) (by kernel_rfl) rfl rfl rfl ?_
  rintro v Γ' ⟨rfl, rfl⟩
  (repeat (first | refine GK.run ?_ | (refine GK.box ?_; intro bl) | (refine GK.mkMap ?_; intro bm) | (refine GK.build0 tb ?_; intro bs)))
  exact GQ.fin1 rfl (Rv.tmp rfl) (fun w s => s) ⟨rfl, rfl⟩
theorem nb_clone (hno : Nob mv A) : FnOk Go.Proofs.Try.prog 19 [mv] [A] hF (fun v Γ => v = .pointer none ∧ Γ = [A]) := by
  refine FnOk.intro 9 Go.Proofs.Try.func19 rfl rfl fun w0 => ?_
  (repeat (first | refine GK.run ?_ | (refine GK.box ?_; intro bl) | (refine GK.mkMap ?_; intro bm) | (refine GK.build0 tb ?_; intro bs)))
  refine GL.cons ?_; refine GO.call [0] (fun hF' hle hH => hno hF') (by first | exact Wt.none | exact Wt.some rfl rfl (by first | exact rfl | decide +kernel)) (by kernel_rfl) rfl rfl rfl ?_
  rintro v Γ' ⟨rfl, rfl⟩
  (repeat (first | refine GK.run ?_ | (refine GK.box ?_; intro bl) | (refine GK.mkMap ?_; intro bm) | (refine GK.build0 tb ?_; intro bs)))
  exact GQ.fin1 rfl (Rv.tmp rfl) (fun w s => s) ⟨rfl, rfl⟩
theorem nb_scan (hno : Nob mv A) (k u : Ky) : FnOk Go.Proofs.Try.prog 13 [mv, str k, str u] [A] hF (fun v Γ => ∃ b1 b2 b3, v = .func (.func 27) #[] #[nptr b1, nptr b2, nptr b3] ∧ Γ = [nbox b1 (.pointer none), kbox b2 k, kbox b3 u, A]) := by
  refine FnOk.intro 16 Go.Proofs.Try.func13 rfl rfl fun w0 => ?_
  (repeat (first | refine GK.run ?_ | (refine GK.box ?_; intro bl) | (refine GK.mkMap ?_; intro bm) | (refine GK.build0 tb ?_; intro bs)))
  refine GL.cons ?_; refine GO.alloc (by first | exact Wt.none | exact Wt.some rfl rfl (by first | exact rfl | decide +kernel)) (by exact rfl) ?_
  intro b7
  (repeat (first | refine GK.run ?_ | (refine GK.box ?_; intro bl) | (refine GK.mkMap ?_; intro bm) | (refine GK.build0 tb ?_; intro bs)))
  refine GL.cons ?_; refine GO.call [3] (fun hF' hle hH => hno hF') (by first | exact Wt.none | exact Wt.some rfl rfl (by first | exact rfl | decide +kernel)) (by kernel_rfl) rfl rfl rfl ?_
  rintro v Γ' ⟨rfl, rfl⟩
  (repeat (first | refine GK.run ?_ | (refine GK.box ?_; intro bl) | (refine GK.mkMap ?_; intro bm) | (refine GK.build0 tb ?_; intro bs)))
  exact GK.sel [1, 2, 1, 0] rfl (GQ.fin1 rfl (Rv.tmp rfl) (fun w s => s) ⟨_, _, _, rfl, rfl⟩)
theorem nobody_ok (k v : Ky) : FnOk Go.Proofs.Try.prog 7 [str k, str v] [] hF (fun r _ => r = .bool true) := by
  refine FnOk.intro 65 Go.Proofs.Try.func7 rfl rfl fun w0 => ?_
  (repeat (first | refine GK.run ?_ | (refine GK.box ?_; intro bl) | (refine GK.mkMap ?_; intro bm) | (refine GK.build0 tb ?_; intro bs)))
  refine GL.cons ?_
  refine Gt.buildLit tb (sz := 0) (n := 1) (by first | exact Wt.none | exact Wt.some rfl rfl (by first | exact rfl | decide +kernel)) rfl rfl (by kernel_rfl) rfl rfl rfl rfl rfl rfl ?_
  intro bs
  (repeat (first | refine GK.run ?_ | (refine GK.box ?_; intro bl) | (refine GK.mkMap ?_; intro bm) | (refine GK.build0 tb ?_; intro bs)))
  refine GK.weak (fr' := [(0, str k), (1, str v), (11, .slice (some ⟨bs, 0, none⟩) 2 2), (12, .int .i64 2), (13, .int .i64 ((0 : Nat) : Int))]) (Γ' := [blk bs 25 (0, 0) [.pointer none, nptr bl], zblk bl]) (by repeat (first | exact trivial | refine ⟨rfl, ?_⟩)) (fun w s => s) (G.loop (fun x : Nat => 2 - x) (fun x => [(0, str k), (1, str v), (11, .slice (some ⟨bs, 0, none⟩) 2 2), (12, .int .i64 2), (13, .int .i64 (x : Int))]) (fun _ => [blk bs 25 (0, 0) [.pointer none, nptr bl], zblk bl]) (fun x => x ≤ 2) (fun j hj => ?_) 0 (by decide))
  replace hj : j ≤ 2 := hj
  (repeat (first | refine GK.run ?_ | (refine GK.box ?_; intro bl) | (refine GK.mkMap ?_; intro bm) | (refine GK.build0 tb ?_; intro bs)))
  refine G.cond rfl (fun h0 => ?_) (fun h0 => ?_)
  rotate_left
  · (repeat (first | refine GK.run ?_ | (refine GK.box ?_; intro bl) | (refine GK.mkMap ?_; intro bm) | (refine GK.build0 tb ?_; intro bs)))
    refine GL.cons ?_; refine GO.call [] (fun hF' hle hH => lives_ok) (by first | exact Wt.none | exact Wt.some rfl rfl (by first | exact rfl | decide +kernel)) (by kernel_rfl) rfl rfl rfl ?_
    rintro v Γ' ⟨rfl, rfl⟩
    (repeat (first | refine GK.run ?_ | (refine GK.box ?_; intro bl) | (refine GK.mkMap ?_; intro bm) | (refine GK.build0 tb ?_; intro bs)))
    exact GQ.fin1 rfl (Rv.tmp rfl) (fun w s => s) rfl
  have h0 : j < 2 := by simp at h0; omega
  (repeat (first | refine GK.run ?_ | (refine GK.box ?_; intro bl) | (refine GK.mkMap ?_; intro bm) | (refine GK.build0 tb ?_; intro bs)))
  refine GL.cut (fun x : Value × HProp × HProp => [(6, x.1), (0, str k), (1, str v), (11, .slice (some ⟨bs, 0, none⟩) 2 2), (12, .int .i64 2), (13, .int .i64 (j : Int))]) (fun x => [x.2.1, x.2.2]) (fun x => Nob x.1 x.2.1 ∧ ∀ hF w, Sat [x.2.1, x.2.2] hF w → Sat [blk bs 25 (0, 0) [.pointer none, nptr bl], zblk bl] hF w) (fun x hx => ?_) ?_
  rotate_left
  · rcases (show j = 0 ∨ j = 1 by omega) with rfl | rfl
    · (repeat (first | refine GK.run ?_ | (refine GK.box ?_; intro bl) | (refine GK.mkMap ?_; intro bm) | (refine GK.build0 tb ?_; intro bs)))
      refine GQ.reach (.pointer none, fact True, star [blk bs 25 (0, 0) [.pointer none, nptr bl], zblk bl]) ⟨Nob.nil, fun hF w s => s.drop.unstar⟩ (by repeat (first | exact trivial | refine ⟨rfl, ?_⟩)) (fun w s => Sat.fact trivial (Sat.star_mk s))
    · (repeat (first | refine GK.run ?_ | (refine GK.box ?_; intro bl) | (refine GK.mkMap ?_; intro bm) | (refine GK.build0 tb ?_; intro bs)))
      refine GQ.reach (nptr bl, zblk bl, blk bs 25 (0, 0) [.pointer none, nptr bl]) ⟨Nob.zero bl, fun hF w s => s.perm (.swap _ _ _)⟩ (by repeat (first | exact trivial | refine ⟨rfl, ?_⟩)) (fun w s => s.perm (.swap _ _ _))
  obtain ⟨mv, A, R⟩ := x
  obtain ⟨hno, hback⟩ := hx
  replace hno : Nob mv A := hno
  replace hback : ∀ hF w, Sat [A, R] hF w → Sat [blk bs 25 (0, 0) [.pointer none, nptr bl], zblk bl] hF w := hback
  (repeat (first | refine GK.run ?_ | (refine GK.box ?_; intro bl) | (refine GK.mkMap ?_; intro bm) | (refine GK.build0 tb ?_; intro bs)))
  refine GL.cons ?_; refine GO.call [0] (fun hF' hle hH => nb_get hno k) (by first | exact Wt.none | exact Wt.some rfl rfl (by first | exact rfl | decide +kernel)) (by kernel_rfl) rfl rfl rfl ?_
  rintro v1 Γ' ⟨rfl, rfl⟩
  (repeat (first | refine GK.run ?_ | (refine GK.box ?_; intro bl) | (refine GK.mkMap ?_; intro bm) | (refine GK.build0 tb ?_; intro bs)))
  refine GL.cons ?_; refine GO.call [0] (fun hF' hle hH => nb_put hno k v) (by first | exact Wt.none | exact Wt.some rfl rfl (by first | exact rfl | decide +kernel)) (by kernel_rfl) rfl rfl rfl ?_
  rintro v1 Γ' ⟨rfl, rfl⟩
  (repeat (first | refine GK.run ?_ | (refine GK.box ?_; intro bl) | (refine GK.mkMap ?_; intro bm) | (refine GK.build0 tb ?_; intro bs)))
  refine GL.cons ?_; refine GO.call [0] (fun hF' hle hH => nb_del hno k) (by first | exact Wt.none | exact Wt.some rfl rfl (by first | exact rfl | decide +kernel)) (by kernel_rfl) rfl rfl rfl ?_
  rintro v1 Γ' ⟨rfl, rfl⟩
  (repeat (first | refine GK.run ?_ | (refine GK.box ?_; intro bl) | (refine GK.mkMap ?_; intro bm) | (refine GK.build0 tb ?_; intro bs)))
  refine GL.cons ?_; refine GO.call [0] (fun hF' hle hH => nb_len hno) (by first | exact Wt.none | exact Wt.some rfl rfl (by first | exact rfl | decide +kernel)) (by kernel_rfl) rfl rfl rfl ?_
  rintro v1 Γ' ⟨rfl, rfl⟩
  (repeat (first | refine GK.run ?_ | (refine GK.box ?_; intro bl) | (refine GK.mkMap ?_; intro bm) | (refine GK.build0 tb ?_; intro bs)))
  refine GL.cons ?_; refine GO.call [0] (fun hF' hle hH => nb_depth hno) (by first | exact Wt.none | exact Wt.some rfl rfl (by first | exact rfl | decide +kernel)) (by kernel_rfl) rfl rfl rfl ?_
  rintro v1 Γ' ⟨rfl, rfl⟩
  (repeat (first | refine GK.run ?_ | (refine GK.box ?_; intro bl) | (refine GK.mkMap ?_; intro bm) | (refine GK.build0 tb ?_; intro bs)))
  refine GL.cons ?_; refine GO.call [0] (fun hF' hle hH => nb_clone hno) (by first | exact Wt.none | exact Wt.some rfl rfl (by first | exact rfl | decide +kernel)) (by kernel_rfl) rfl rfl rfl ?_
  rintro v1 Γ' ⟨rfl, rfl⟩
  (repeat (first | refine GK.run ?_ | (refine GK.box ?_; intro bl) | (refine GK.mkMap ?_; intro bm) | (refine GK.build0 tb ?_; intro bs)))
  refine GL.cons ?_; refine GO.call [0] (fun hF' hle hH => nb_scan hno [] []) (by first | exact Wt.none | exact Wt.some rfl rfl (by first | exact rfl | decide +kernel)) (by kernel_rfl) rfl rfl rfl ?_
  rintro v1 Γ' ⟨b1, b2, b3, rfl, rfl⟩
  refine GK.sel [3, 3] rfl ?_
  refine GK.heap (fun w s => Sat.pool_emp s) ?_
  (repeat (first | refine GK.run ?_ | (refine GK.box ?_; intro bl) | (refine GK.mkMap ?_; intro bm) | (refine GK.build0 tb ?_; intro bs)))
  refine GL.cons ?_; refine GO.call [1,0] (fun hF' hle hH => told_ok (A := A) (q := none) (r := none) (k := []) (u := []) (fun hF' => nb_scan hno [] []) rfl trivial (by decide)) (by first | exact Wt.none | exact Wt.some rfl rfl (by first | exact rfl | decide +kernel)) (by kernel_rfl) rfl rfl rfl ?_
  rintro v1 Γ' ⟨H', le', rfl, hl1⟩
  obtain ⟨p1, c1, rfl, _⟩ := rs.out hl1
  (repeat (first | refine GK.run ?_ | (refine GK.box ?_; intro bl) | (refine GK.mkMap ?_; intro bm) | (refine GK.build0 tb ?_; intro bs)))
  exact GQ.again (j + 1) (by show j + 1 ≤ 2; omega) (by show 2 - (j + 1) < 2 - j; omega) (by repeat (first | exact trivial | refine ⟨rfl, ?_⟩)) (fun w s => hback _ w (s.sel [0, 1] rfl))
end Go.Tr
