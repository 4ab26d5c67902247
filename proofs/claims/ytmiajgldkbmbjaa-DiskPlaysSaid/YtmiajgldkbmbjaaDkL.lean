/- The chapter's example. -/
import Derived.Test.YtmiajgldkbmbjaaDkN
namespace Go.Dk
open Go Go.Sl
def lB : List UInt8 := rep 256 1
theorem lB_length : lB.length = 256 := rep_length _ _
def l0 : DM := DM.fresh 2
def l1 : DM := ⟨[blank, blank], [(0, lB)], false, false, 0, 1⟩
def l2 : DM := ⟨[blank, blank], [(0, lB)], false, true, 0, 1⟩
def l3 : DM := ⟨[blank, blank], [(0, lB)], true, true, 0, 1⟩
def l4 : DM := ⟨[blank, blank], [], false, false, 0, 1⟩
def l5 : DM := ⟨[lB, blank], [], false, false, 0, 1⟩
theorem l0_write : l0.write 0 lB = (0, l1) := by
  have : l0 = ⟨[blank, blank], [], false, false, 0, 0⟩ := rfl
  rw [this]
  simp [DM.write, DM.wrong, DM.goes, lB_length, l1]
theorem l1_arm : l1.arm 0 = (0, l2) := rfl
theorem l2_flush : l2.flush = (50, l3) := rfl
theorem l3_none : l3.restart [] = (0, l4) := rfl
theorem l3_zero : l3.restart [0] = (0, l5) := rfl
theorem l4_read : l4.read 0 = (blank, 0) := rfl
theorem l5_read : l5.read 0 = (lB, 0) := rfl
attribute [local irreducible] GK GO Yl Wt Ef Hd GH KH wpList Code.wp Sat pt FnOk Rd bodyPost Ret Exit.then Exit.inBlock Exit.noGoto exs Int.decLt Int.decLe Int.instDecidableEq
attribute [local irreducible] rep lB blank l0 l1 l2 l3 l4 l5 DM.write DM.arm DM.flush DM.restart DM.read DM.fresh

variable {hF : Hp}
theorem lives_ok : FnOk Go.Proofs.Try.prog 15 [] [] hF (fun v _ => v = .bool true) := by
  refine FnOk.intro 80 Go.Proofs.Try.func15 rfl rfl fun w0 => ?_
  (repeat (first | refine GK.run ?_ | (refine GK.box ?_; intro bl) | (refine GK.mkMap ?_; intro bm) | (refine GK.build0 tb ?_; intro bs)))
  refine GL.cons ?_; refine GO.call [] (fun hF' hle hH => new_ok 2) (by first | exact Wt.none | exact Wt.some rfl rfl (by first | exact rfl | decide +kernel)) (by kernel_rfl) rfl rfl rfl ?_
  intro v Γ' h
  rw [if_neg (by omega)] at h
  obtain ⟨d, rfl, rfl⟩ := h
  have e0 : DM.fresh (Int.toNat 2) = l0 := by unfold l0; rfl
  rw [e0]
  (repeat (first | refine GK.run ?_ | (refine GK.box ?_; intro bl) | (refine GK.mkMap ?_; intro bm) | (refine GK.build0 tb ?_; intro bs)))
  refine GL.cons ?_; refine GO.call [] (fun hF' hle hH => ones_ok 1) (by first | exact Wt.none | exact Wt.some rfl rfl (by first | exact rfl | decide +kernel)) (by kernel_rfl) rfl rfl rfl ?_
  rintro v Γ' ⟨p1, k1, rfl, rfl⟩
  have eB : rep 256 1 = lB := by unfold lB; rfl
  rw [eB]
  (repeat (first | refine GK.run ?_ | (refine GK.box ?_; intro bl) | (refine GK.mkMap ?_; intro bm) | (refine GK.build0 tb ?_; intro bs)))
  refine GL.cons ?_; refine GO.call [1] (fun hF' hle hH => write_ok 0 _ lB (hH.ro 0 rfl) (by unfold l0 DM.fresh; decide) (by unfold l0 DM.fresh; decide +kernel) (by rw [lB_length]; omega)) (by first | exact Wt.none | exact Wt.some rfl rfl (by first | exact rfl | decide +kernel)) (by kernel_rfl) rfl rfl rfl ?_
  rintro v Γ' ⟨rfl, rfl⟩
  rw [l0_write]
  (repeat (first | refine GK.run ?_ | (refine GK.box ?_; intro bl) | (refine GK.mkMap ?_; intro bm) | (refine GK.build0 tb ?_; intro bs)))
  refine GL.cons ?_; refine GO.call [0] (fun hF' hle hH => arm_ok 0 (by omega)) (by first | exact Wt.none | exact Wt.some rfl rfl (by first | exact rfl | decide +kernel)) (by kernel_rfl) rfl rfl rfl ?_
  rintro v Γ' ⟨rfl, rfl⟩
  rw [l1_arm]
  (repeat (first | refine GK.run ?_ | (refine GK.box ?_; intro bl) | (refine GK.mkMap ?_; intro bm) | (refine GK.build0 tb ?_; intro bs)))
  refine GL.cons ?_; refine GO.call [0] (fun hF' hle hH => flush_ok (by unfold l2; decide +kernel)) (by first | exact Wt.none | exact Wt.some rfl rfl (by first | exact rfl | decide +kernel)) (by kernel_rfl) rfl rfl rfl ?_
  rintro v Γ' ⟨rfl, rfl⟩
  rw [l2_flush]
  (repeat (first | refine GK.run ?_ | (refine GK.box ?_; intro bl) | (refine GK.mkMap ?_; intro bm) | (refine GK.build0 tb ?_; intro bs)))
  refine GL.cons ?_; refine GO.call [0] (fun hF' hle hH => down_ok) (by first | exact Wt.none | exact Wt.some rfl rfl (by first | exact rfl | decide +kernel)) (by kernel_rfl) rfl rfl rfl ?_
  rintro v Γ' ⟨rfl, rfl⟩
  rw [show l3.off = true from by unfold l3; rfl]
  (repeat (first | refine GK.run ?_ | (refine GK.box ?_; intro bl) | (refine GK.mkMap ?_; intro bm) | (refine GK.build0 tb ?_; intro bs)))
  refine GL.cons ?_; refine GO.call [0] (fun hF' hle hH => clone_ok) (by first | exact Wt.none | exact Wt.some rfl rfl (by first | exact rfl | decide +kernel)) (by kernel_rfl) rfl rfl rfl ?_
  rintro v Γ' ⟨d2, rfl, rfl⟩
  (repeat (first | refine GK.run ?_ | (refine GK.box ?_; intro bl) | (refine GK.mkMap ?_; intro bm) | (refine GK.build0 tb ?_; intro bs)))
  refine GL.cons ?_; refine GO.call [1] (fun hF' hle hH => restart_ok _ [] ⟨none, 0, rfl, fun h => absurd h (by simp)⟩ (by simp)) (by first | exact Wt.none | exact Wt.some rfl rfl (by first | exact rfl | decide +kernel)) (by kernel_rfl) rfl rfl rfl ?_
  rintro v Γ' ⟨rfl, rfl⟩
  rw [l3_none]
  (repeat (first | refine GK.run ?_ | (refine GK.box ?_; intro bl) | (refine GK.mkMap ?_; intro bm) | (refine GK.build0 tb ?_; intro bs)))
  refine GL.cons ?_; refine Gt.buildLit tb (sz := 0) (n := 0) (by first | exact Wt.none | exact Wt.some rfl rfl (by first | exact rfl | decide +kernel)) rfl rfl (by kernel_rfl) rfl rfl rfl rfl rfl rfl ?_
  intro bx
  (repeat (first | refine GK.run ?_ | (refine GK.box ?_; intro bl) | (refine GK.mkMap ?_; intro bm) | (refine GK.build0 tb ?_; intro bs)))
  refine GL.cons ?_; refine GO.call [2] (fun hF' hle hH => restart_ok _ [0] (hH.roBlk 0 rfl) (by simp)) (by first | exact Wt.none | exact Wt.some rfl rfl (by first | exact rfl | decide +kernel)) (by kernel_rfl) rfl rfl rfl ?_
  rintro v Γ' ⟨rfl, rfl⟩
  rw [l3_zero]
  (repeat (first | refine GK.run ?_ | (refine GK.box ?_; intro bl) | (refine GK.mkMap ?_; intro bm) | (refine GK.build0 tb ?_; intro bs)))
  refine GL.cons ?_; refine GO.call [2] (fun hF' hle hH => read_ok 0) (by first | exact Wt.none | exact Wt.some rfl rfl (by first | exact rfl | decide +kernel)) (by kernel_rfl) rfl rfl rfl ?_
  rintro v Γ' ⟨p2, k2, rfl, rfl⟩
  rw [l4_read]
  (repeat (first | refine GK.run ?_ | (refine GK.box ?_; intro bl) | (refine GK.mkMap ?_; intro bm) | (refine GK.build0 tb ?_; intro bs)))
  refine GL.cons ?_; refine GO.call [2] (fun hF' hle hH => read_ok 0) (by first | exact Wt.none | exact Wt.some rfl rfl (by first | exact rfl | decide +kernel)) (by kernel_rfl) rfl rfl rfl ?_
  rintro v Γ' ⟨p3, k3, rfl, rfl⟩
  rw [l5_read]
  (repeat (first | refine GK.run ?_ | (refine GK.box ?_; intro bl) | (refine GK.mkMap ?_; intro bm) | (refine GK.build0 tb ?_; intro bs)))
  have eK : rep 256 0 = blank := by unfold blank; rfl
  refine G.draw [] [brow (.slice p3 lB.length k3) lB, brow (.slice p2 blank.length k2) blank] (by kernel_rfl) ?_
  ((first | refine GH.tk 0 [0,1] ?_ | refine GH.tks 0 [0,1] ?_))
  refine GH.take 1 rfl (by kernel_rfl) .none (fun _ s => s.sel [0, 1] rfl) (Yl.rowStr (s := blank) 1 rfl rfl rfl rfl rfl) ?_
  refine GH.step 2 rfl (by kernel_rfl) ?_
  refine GO.call [] (fun hF' _ _ => ones_ok 0) .none (by kernel_rfl) rfl rfl rfl ?_
  rintro v Γ' ⟨p4, k4, rfl, rfl⟩
  rw [eK]
  refine GH.keep (fun _ s => s.sel [1, 2] rfl) ?_
  refine GH.step 3 rfl (by kernel_rfl) ?_
  refine GO.yield .none (Yl.rowStr (s := blank) 0 rfl rfl rfl rfl rfl) ?_
  refine GH.keep (fun _ s => s.sel [1, 2] rfl) ?_
  ((first | refine GH.tk 4 [1,2] ?_ | refine GH.tks 4 [1,2] ?_))
  rw [show (blank == blank) = true from beq_self_eq_true blank]
  ((first | refine GH.tk 5 [1,2] ?_ | refine GH.tks 5 [1,2] ?_); (first | refine GH.tk 6 [1,2] ?_ | refine GH.tks 6 [1,2] ?_))
  refine GH.take 7 rfl (by kernel_rfl) (.some rfl rfl rfl) (fun _ s => s.sel [1, 2] rfl) (Yl.rowStr (s := lB) 0 rfl rfl rfl rfl rfl) ?_
  refine GH.step 8 rfl (by kernel_rfl) ?_
  refine GO.call [] (fun hF' _ _ => ones_ok 1) (.some rfl rfl rfl) (by kernel_rfl) rfl rfl rfl ?_
  rintro v Γ' ⟨p5, k5, rfl, rfl⟩
  rw [eB]
  refine GH.keep (fun _ s => s.sel [2, 3] rfl) ?_
  refine GH.step 9 rfl (by kernel_rfl) ?_
  refine GO.yield (.some rfl rfl rfl) (Yl.rowStr (s := lB) 0 rfl rfl rfl rfl rfl) ?_
  refine GH.keep (fun _ s => s.sel [2, 3] rfl) ?_
  ((first | refine GH.tk 10 [2,3] ?_ | refine GH.tks 10 [2,3] ?_))
  rw [show (lB == lB) = true from beq_self_eq_true lB]
  ((first | refine GH.tk 11 [2,3] ?_ | refine GH.tks 11 [2,3] ?_); (first | refine GH.tk 12 [2,3] ?_ | refine GH.tks 12 [2,3] ?_); (first | refine GH.tk 13 [2,3] ?_ | refine GH.tks 13 [2,3] ?_); (first | refine GH.tk 14 [2,3] ?_ | refine GH.tks 14 [2,3] ?_); (first | refine GH.tk 15 [2,3] ?_ | refine GH.tks 15 [2,3] ?_); (first | refine GH.tk 16 [2,3] ?_ | refine GH.tks 16 [2,3] ?_))
  refine GH.fin (by kernel_rfl) ?_
  (repeat (first | refine GK.run ?_ | (refine GK.box ?_; intro bl) | (refine GK.mkMap ?_; intro bm) | (refine GK.build0 tb ?_; intro bs)))
  exact GQ.end1 rfl rfl rfl
end Go.Dk
