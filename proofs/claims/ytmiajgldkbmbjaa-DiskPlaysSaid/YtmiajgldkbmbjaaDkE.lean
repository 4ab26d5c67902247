/- The disk's Arm, Down, Ops, Sectors, New, Restart. -/
import Derived.Test.YtmiajgldkbmbjaaDkD
namespace Go.Dk
open Go Go.Sl
attribute [local irreducible] GK GO Yl Wt Ef Hd GH KH wpList Code.wp Sat pt FnOk Rd bodyPost Ret Exit.then Exit.inBlock Exit.noGoto exs Int.decLt Int.decLe Int.instDecidableEq

variable {d : Nat} {D : DM} {hF : Hp}
theorem arm_ok (n : Int) (hn : n ≤ 9223372036854775807) :
    FnOk Go.Proofs.Try.prog 17 [dptr d, .int .i64 n] [dk d D] hF (fun v Γ => v = .int .i64 (D.arm n).1 ∧ Γ = [dk d (D.arm n).2]) := by
  refine FnOk.intro 20 Go.Proofs.Try.func17 rfl rfl fun w0 => ?_
  refine GK.opens 0 rfl fun x hx => ?_
  obtain ⟨xs, xsc, xst, xsz, xpp, xpc, xm, xl⟩ := x
  have hw : wrongI D.off D.sure.length 0 = D.wrong 0 := rfl
  (repeat (first | refine GK.run ?_ | (refine GK.box ?_; intro bl) | (refine GK.mkMap ?_; intro bm) | (refine GK.build0 tb ?_; intro bs)))
  refine GL.cons ?_
  refine GO.call [0] (fun hF' _ _ => wrong_ok hx.ok.pos 0) .none (by kernel_rfl) rfl rfl rfl ?_
  rintro v Γ' ⟨rfl, rfl⟩
  rw [hw, wrong0 hx.ok]
  (repeat (first | refine GK.run ?_ | (refine GK.box ?_; intro bl) | (refine GK.mkMap ?_; intro bm) | (refine GK.build0 tb ?_; intro bs)))
  refine G.cond rfl (fun h => ?_) (fun h => ?_)
  · have h : D.off = true := by
      cases e : D.off <;> simp [e] at h ⊢
    (repeat (first | refine GK.run ?_ | (refine GK.box ?_; intro bl) | (refine GK.mkMap ?_; intro bm) | (refine GK.build0 tb ?_; intro bs)))
    refine GK.heap (Γ' := [dk d D]) (fun w s => shut_dk hx (s.sel [0, 0, 0, 0] rfl)) (GQ.end1 rfl rfl ?_)
    simp [DM.arm, h]
  · have h : D.off = false := by
      cases e : D.off <;> simp [e] at h ⊢
    (repeat (first | refine GK.run ?_ | (refine GK.box ?_; intro bl) | (refine GK.mkMap ?_; intro bm) | (refine GK.build0 tb ?_; intro bs)))
    refine G.cond rfl (fun h1 => ?_) (fun h1 => ?_)
    · have h1 : n < 0 := by simpa using h1
      (repeat (first | refine GK.run ?_ | (refine GK.box ?_; intro bl) | (refine GK.mkMap ?_; intro bm) | (refine GK.build0 tb ?_; intro bs)))
      refine GK.heap (Γ' := [dk d D]) (fun w s => shut_dk hx (s.sel [0, 0, 0, 0] rfl)) (GQ.end1 rfl rfl ?_)
      simp [DM.arm, h, h1]
    · have h1 : ¬ n < 0 := by simpa using h1
      (repeat (first | refine GK.run ?_ | (refine GK.box ?_; intro bl) | (refine GK.mkMap ?_; intro bm) | (refine GK.build0 tb ?_; intro bs)))
      refine GK.heap (Γ' := [dk d { D with armed := true, plan := n }]) (fun w s => shut_dk (x := ⟨xs, xsc, xst, xsz, xpp, xpc, xm, xl⟩) { hx with ok := { hx.ok with plan := ?_ } } (s.sel [0, 0, 0, 0] rfl)) (GQ.end1 rfl rfl ?_)
      · show 0 ≤ n ∧ n ≤ 9223372036854775807
        omega
      · simp [DM.arm, h, h1]

theorem down_ok : FnOk Go.Proofs.Try.prog 16 [dptr d] [dk d D] hF (fun v Γ => v = .bool D.off ∧ Γ = [dk d D]) := by
  refine FnOk.intro 12 Go.Proofs.Try.func16 rfl rfl fun w0 => ?_
  refine GK.opens 0 rfl fun x hx => ?_
  obtain ⟨xs, xsc, xst, xsz, xpp, xpc, xm, xl⟩ := x
  (repeat (first | refine GK.run ?_ | (refine GK.box ?_; intro bl) | (refine GK.mkMap ?_; intro bm) | (refine GK.build0 tb ?_; intro bs)))
  refine GL.cons ?_
  refine GO.call [0] (fun hF' _ _ => none_ok hx.ok.pos) .none (by kernel_rfl) rfl rfl rfl ?_
  rintro v Γ' ⟨rfl, rfl⟩
  (repeat (first | refine GK.run ?_ | (refine GK.box ?_; intro bl) | (refine GK.mkMap ?_; intro bm) | (refine GK.build0 tb ?_; intro bs)))
  exact GK.heap (Γ' := [dk d D]) (fun w s => shut_dk hx (s.sel [0, 0, 0, 0] rfl)) (GQ.end1 rfl rfl ⟨rfl, rfl⟩)
theorem ops_ok : FnOk Go.Proofs.Try.prog 26 [dptr d] [dk d D] hF (fun v Γ => v = .int .i64 D.opn ∧ Γ = [dk d D]) := by
  refine FnOk.intro 9 Go.Proofs.Try.func26 rfl rfl fun w0 => ?_
  refine GK.opens 0 rfl fun x hx => ?_
  obtain ⟨xs, xsc, xst, xsz, xpp, xpc, xm, xl⟩ := x
  (repeat (first | refine GK.run ?_ | (refine GK.box ?_; intro bl) | (refine GK.mkMap ?_; intro bm) | (refine GK.build0 tb ?_; intro bs)))
  refine GL.cons ?_
  refine GO.call [0] (fun hF' _ _ => none_ok hx.ok.pos) .none (by kernel_rfl) rfl rfl rfl ?_
  rintro v Γ' ⟨rfl, rfl⟩
  (repeat (first | refine GK.run ?_ | (refine GK.box ?_; intro bl) | (refine GK.mkMap ?_; intro bm) | (refine GK.build0 tb ?_; intro bs)))
  exact GK.heap (Γ' := [dk d D]) (fun w s => shut_dk hx (s.sel [0, 0, 0, 0] rfl)) (GQ.end1 rfl rfl ⟨rfl, rfl⟩)
theorem sectors_ok : FnOk Go.Proofs.Try.prog 25 [dptr d] [dk d D] hF (fun v Γ => v = .int .i64 D.sure.length ∧ Γ = [dk d D]) := by
  refine FnOk.intro 10 Go.Proofs.Try.func25 rfl rfl fun w0 => ?_
  refine GK.opens 0 rfl fun x hx => ?_
  obtain ⟨xs, xsc, xst, xsz, xpp, xpc, xm, xl⟩ := x
  (repeat (first | refine GK.run ?_ | (refine GK.box ?_; intro bl) | (refine GK.mkMap ?_; intro bm) | (refine GK.build0 tb ?_; intro bs)))
  refine GL.cons ?_
  refine GO.call [0] (fun hF' _ _ => none_ok hx.ok.pos) .none (by kernel_rfl) rfl rfl rfl ?_
  rintro v Γ' ⟨rfl, rfl⟩
  (repeat (first | refine GK.run ?_ | (refine GK.box ?_; intro bl) | (refine GK.mkMap ?_; intro bm) | (refine GK.build0 tb ?_; intro bs)))
  exact GK.heap (Γ' := [dk d D]) (fun w s => shut_dk hx (s.sel [0, 0, 0, 0] rfl)) (GQ.end1 rfl rfl ⟨rfl, rfl⟩)

theorem new_ok (n : Int) : FnOk Go.Proofs.Try.prog 20 [.int .i64 n] [] hF
    (fun v Γ => if n < 1 ∨ 4096 < n then v = .tuple #[.pointer none, .int .i64 2] ∧ Γ = [] else ∃ d, v = .tuple #[dptr d, .int .i64 0] ∧ Γ = [dk d (DM.fresh n.toNat)]) := by
  refine FnOk.intro 15 Go.Proofs.Try.func20 rfl rfl fun w0 => ?_
  (repeat (first | refine GK.run ?_ | (refine GK.box ?_; intro bl) | (refine GK.mkMap ?_; intro bm) | (refine GK.build0 tb ?_; intro bs)))
  refine GK.split 6 _ rfl (fun h => ?_) (fun h => ?_)
  · have h : n < 1 := by simpa using h
    (repeat (first | refine GK.run ?_ | (refine GK.box ?_; intro bl) | (refine GK.mkMap ?_; intro bm) | (refine GK.build0 tb ?_; intro bs)))
    refine GQ.end2 rfl rfl rfl ?_
    rw [if_pos (.inl h)]
    exact ⟨rfl, rfl⟩
  · have h : ¬ n < 1 := by simpa using h
    (repeat (first | refine GK.run ?_ | (refine GK.box ?_; intro bl) | (refine GK.mkMap ?_; intro bm) | (refine GK.build0 tb ?_; intro bs)))
    refine G.cond rfl (fun h1 => ?_) (fun h1 => ?_)
    · have h1 : 4096 < n := by simpa using h1
      (repeat (first | refine GK.run ?_ | (refine GK.box ?_; intro bl) | (refine GK.mkMap ?_; intro bm) | (refine GK.build0 tb ?_; intro bs)))
      refine GQ.end2 rfl rfl rfl ?_
      rw [if_pos (.inr h1)]
      exact ⟨rfl, rfl⟩
    · have h1 : ¬ 4096 < n := by simpa using h1
      obtain ⟨k, rfl⟩ : ∃ k : Nat, n = k := ⟨n.toNat, by omega⟩
      (repeat (first | refine GK.run ?_ | (refine GK.box ?_; intro bl) | (refine GK.mkMap ?_; intro bm) | (refine GK.build0 tb ?_; intro bs)))
      refine GL.cons ?_
      refine Gt.makeSlice tb (zl := u8s blank) .none rfl rfl (by kernel_rfl) (by rw [u8s_length]; exact blank_length) rfl rfl (Nat.le_refl _) (by omega) (by omega) ?_
      intro b
      (repeat (first | refine GK.run ?_ | (refine GK.box ?_; intro bl) | (refine GK.mkMap ?_; intro bm) | (refine GK.build0 tb ?_; intro bs)))
      refine GK.openRow 2 rfl (by omega) fun b' tail fz hp hc ht hxs hf => ?_
      cases hp
      refine GK.heap (Γ' := [dk bl (DM.fresh k)]) (fun w s => ?_) (GQ.end2 rfl rfl rfl ?_)
      · have hl : (DM.fresh k).sure.length = k := by simp [DM.fresh]
        have hfl : flat (DM.fresh k).sure = (List.replicate k (u8s blank)).flatten := by simp [DM.fresh, flat, List.flatMap]
        have ht0 : tail = [] := List.length_eq_zero_iff.1 (by rw [ht]; simp)
        subst ht0
        refine shut_dk (x := ⟨b, k, [], fz, none, 0, bm, []⟩) ⟨DM.Ok.fresh (by omega) (by omega), by rw [hl]; exact Nat.le_refl _, by rw [hl]; simp, by rw [hfl]; exact hf, by intro i; rfl⟩ ?_
        rw [hfl]
        show Sat (dblk bl (dcells _ (DM.fresh k).sure.length _ _ _ _ _ _ _ _ _) :: _) _ _
        rw [hl]
        have s := s.sel [2, 0, 0] rfl
        have s := ((s.mp_new (α := Int)).row_nil (e := 68) (sz := 257)).sel [3, 2, 0, 0] rfl
        exact s
      · rw [if_neg (by omega)]
        exact ⟨bl, rfl, rfl⟩
end Go.Dk
