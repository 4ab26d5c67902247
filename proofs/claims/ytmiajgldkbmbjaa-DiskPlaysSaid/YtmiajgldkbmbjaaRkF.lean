/- The document's disk: New. -/
import Derived.Test.YtmiajgldkbmbjaaRkE
namespace Go.Dk
open Go Go.Sl
attribute [local irreducible] GK GO Yl Wt Ef Hd GH KH wpList Code.wp Sat pt FnOk Rd bodyPost Ret Exit.then Exit.inBlock Exit.noGoto exs Int.decLt Int.decLe Int.instDecidableEq
attribute [local irreducible] rep whole blank
variable {d : Nat} {D : DM} {hF : Hp}
theorem rnew_ok (n : Int) : FnOk Go.Proofs.Try.prog 21 [.int .i64 n] [] hF
    (fun v Γ => if n < 1 ∨ 4096 < n then v = .tuple #[.pointer none, .int .i64 2] ∧ Γ = [] else ∃ d, v = .tuple #[dptr d, .int .i64 0] ∧ Γ = [rk d (DM.fresh n.toNat)]) := by
  refine FnOk.intro 32 Go.Proofs.Try.func21 rfl rfl fun w0 => ?_
  (repeat (first | refine GK.run ?_ | (refine GK.box ?_; intro bl) | (refine GK.mkMap ?_; intro bm) | (refine GK.build0 tb ?_; intro bs)))
  refine GK.split 9 _ rfl (fun h => ?_) (fun h => ?_)
  · have h : n < 1 := by simpa using h
    (repeat (first | refine GK.run ?_ | (refine GK.box ?_; intro bl) | (refine GK.mkMap ?_; intro bm) | (refine GK.build0 tb ?_; intro bs)))
    refine GQ.end2 rfl rfl rfl ?_
    rw [if_pos (.inl h)]
    exact ⟨rfl, rfl⟩
  · have h : ¬ n < 1 := by simpa using h
    (repeat (first | refine GK.run ?_ | (refine GK.box ?_; intro bl) | (refine GK.mkMap ?_; intro bm) | (refine GK.build0 tb ?_; intro bs)))
    refine G.cond rfl (fun h1 => ?_) (fun h1 => ?_)
    · have h1 : 4096 < n := by simpa using h1
      (repeat (first | refine GK.run ?_ | (refine GK.box ?_; intro bl) | (refine GK.mkMap ?_; intro bm) | (refine GK.build0 tb ?_; intro bs)))
      refine GQ.end2 rfl rfl rfl ?_
      rw [if_pos (.inr h1)]
      exact ⟨rfl, rfl⟩
    · have h1 : ¬ 4096 < n := by simpa using h1
      obtain ⟨m, rfl⟩ : ∃ m : Nat, n = m := ⟨n.toNat, by omega⟩
      (repeat (first | refine GK.run ?_ | (refine GK.box ?_; intro bl) | (refine GK.mkMap ?_; intro bm) | (refine GK.build0 tb ?_; intro bs)))
      refine GL.cons ?_; refine GO.call [] (fun hF' hle hH => rblank_ok) (by first | exact Wt.none | exact Wt.some rfl rfl (by first | exact rfl | decide +kernel)) (by kernel_rfl) rfl rfl rfl ?_
      rintro v Γ' ⟨rfl, rfl⟩
      (repeat (first | refine GK.run ?_ | (refine GK.box ?_; intro bl) | (refine GK.mkMap ?_; intro bm) | (refine GK.build0 tb ?_; intro bs)))
      refine GK.weak (by repeat (first | exact trivial | refine ⟨rfl, ?_⟩)) (fun w s => ?_) (G.loop (fun x : Nat × Option Addr × Nat => m - x.1)
        (fun x => [(0, .int .i64 m), (4, dptr bl), (5, str blank), (6, .int .i64 x.1)])
        (fun x => [rblk bl [.slice x.2.1 x.1 x.2.2, .slice none 0 0, .bool false, .bool false, .int .i64 0, .int .i64 0], row (.slice x.2.1 x.1 x.2.2) 9 1 x.1 (strs (List.replicate x.1 blank))])
        (fun x => x.1 ≤ m) (fun x hi => ?_) (0, none, 0) (Nat.zero_le _))
      · exact ((s.sel [0] rfl).row_nil (e := 9) (sz := 1)).sel [1, 0] rfl
      obtain ⟨k, p, c⟩ := x
      replace hi : k ≤ m := hi
      (repeat (first | refine GK.run ?_ | (refine GK.box ?_; intro bl) | (refine GK.mkMap ?_; intro bm) | (refine GK.build0 tb ?_; intro bs)))
      refine G.cond rfl (fun h2 => ?_) (fun h2 => ?_)
      · have h2 : k < m := by simp at h2; omega
        (repeat (first | refine GK.run ?_ | (refine GK.box ?_; intro bl) | (refine GK.mkMap ?_; intro bm) | (refine GK.build0 tb ?_; intro bs)))
        refine GL.cons ?_; refine Gt.buildLit tb (sz := 0) (n := 0) (by first | exact Wt.none | exact Wt.some rfl rfl (by first | exact rfl | decide +kernel)) rfl rfl (by kernel_rfl) rfl rfl rfl rfl rfl rfl ?_
        intro bx
        (repeat (first | refine GK.run ?_ | (refine GK.box ?_; intro bl) | (refine GK.mkMap ?_; intro bm) | (refine GK.build0 tb ?_; intro bs)))
        refine GL.cons ?_; refine Gt.append tb 2 (by first | exact Wt.none | exact Wt.some rfl rfl (by first | exact rfl | decide +kernel)) rfl (.inl ⟨_, rfl⟩) rfl rfl rfl rfl rfl (Src.slice (m := 1) (Rd.blk 0 rfl) (At.all _) rfl (one_of_all rfl)) (by omega) (by omega) ?_
        intro p2 c2
        (repeat (first | refine GK.run ?_ | (refine GK.box ?_; intro bl) | (refine GK.mkMap ?_; intro bm) | (refine GK.build0 tb ?_; intro bs)))
        refine GQ.again (k + 1, p2, c2) h2 (by show m - (k + 1) < m - k; omega) (by repeat (first | exact trivial | refine ⟨rfl, ?_⟩)) (fun w s => ?_)
        show Sat [_, row _ _ 1 _ (strs (List.replicate (k + 1) blank))] _ _
        rw [List.replicate_succ', strs_snoc]
        exact s.sel [2, 0] rfl
      · have h2 : k = m := by simp at h2; omega
        subst h2
        (repeat (first | refine GK.run ?_ | (refine GK.box ?_; intro bl) | (refine GK.mkMap ?_; intro bm) | (refine GK.build0 tb ?_; intro bs)))
        refine GK.heap (Γ' := [rk bl (DM.fresh k)]) (fun w s => ?_) (GQ.end2 rfl rfl rfl ?_)
        · have hl : (DM.fresh k).sure.length = k := by simp [DM.fresh]
          refine shut_rk (x := ⟨p, c, none, 0⟩) (DM.Ok.fresh (by omega) (by omega)) ?_
          show Sat (rblk bl [.slice p (DM.fresh k).sure.length c, _, _, _, _, _] :: row (.slice p (DM.fresh k).sure.length c) _ 1 (DM.fresh k).sure.length _ :: _) _ _
          rw [hl]
          exact ((s.sel [0, 0] rfl).row_nil (e := 76) (sz := 2)).sel [1, 1, 0] rfl
        · rw [if_neg (by omega)]
          exact ⟨bl, rfl, rfl⟩
end Go.Dk
