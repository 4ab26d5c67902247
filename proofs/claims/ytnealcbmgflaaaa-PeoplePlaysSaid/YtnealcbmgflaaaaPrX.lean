/- PrE, PrF, PrG, PrH as one text. -/
import Derived.Test.YtnealcbmgflaaaaPrV
set_option linter.unusedSimpArgs false
set_option linter.unusedVariables false
/- The document's people: joining and leaving. -/
namespace Go.Pe
open Go Go.Sl Go.Ls
set_option maxRecDepth 100000
def rjoinM (r : RP) (o u : By) (k : Int) : Int × RP := if o ∉ r.O then (111, r) else if u ∉ r.U then (111, r) else if k ≠ 1 ∧ k ≠ 2 then (2, r) else if lastR r.F o u = true ∧ k = 1 then (151, r) else (0, ⟨r.U, r.O, (if 0 ≤ factM r.F o [] u then r.F.eraseIdx (factM r.F o [] u).toNat else r.F) ++ [⟨o, [], u, k⟩]⟩)
def stayF (o u : By) (f : Ft) : Bool := !decide (f.o = o) || !decide (f.u = u)
def rleaveM (r : RP) (o u : By) : Int × RP := if roleR r.F o u = 0 then (111, r) else if lastR r.F o u = true then (151, r) else (0, ⟨r.U, r.O, r.F.filter (stayF o u)⟩)
set_option maxRecDepth 100000
set_option maxHeartbeats 4000000
attribute [local irreducible] GK GO Yl Wt Ef Hd GH KH wpListIn Code.wpIn toBody roundQ poolOf rs RS YieldOk IterOk VOk row star exs mp lp Sat pt FnOk Rd bodyPost bodyPostM Lv Ret Exit.then Exit.inBlock Exit.noGoto Int.decLt Int.decLe Int.instDecidableEq
attribute [local irreducible] u8s strs likeTo fts factM membersR teamsR roleR ownersR lastR Pa.nameM
set_option pp.deepTerms true
set_option pp.maxSteps 1000000
variable {hF H : Hp} {r : RP} {uv ov fv : Value}
theorem rjoin_ok {o u : By} {k : Int} (h : RpAt H r uv ov fv) (hnf : r.F.length < 1000000) : FnOk Go.Proofs.Try.prog 40 [.agg ⟨[uv, ov, fv]⟩, str o, str u, .int .i64 k] [poolOf H] hF (fun v Γ => Leaves H (rjoinM r o u k) v Γ) := by
  have h0 := h
  have ou := h.u.one
  have oo := h.o.one
  have hno := h.no
  have hoo := h.o
  have hnu := h.nu
  have huu := h.u
  have hfl := fact_lt r.F o [] u
  obtain ⟨p, c, rfl, hc, hln, hr⟩ := rs.out h.f
  refine FnOk.intro 55 Go.Proofs.Try.func40 rfl rfl fun w0 => ?_
  (repeat (first | refine GK.ro ?_ | (refine GK.box ?_; intro bl) | (refine GK.mkMap ?_; intro bm) | (refine GK.build0 tb ?_; intro bs) | (refine GL.cons ?_; refine GO.alloc Wt.o (by exact rfl) ?_; intro ba) | (refine GL.cons ?_; refine Gt.storeAny tb 0 Wt.o (by exact rfl) (by exact rfl) (by exact rfl) (by assumption) (by assumption) (by exact rfl) (by first | exact rfl | assumption) ?_) | (refine GL.cons ?_; refine Gt.storeAny tb 1 Wt.o (by exact rfl) (by exact rfl) (by exact rfl) (by assumption) (by assumption) (by exact rfl) (by first | exact rfl | assumption) ?_) | (refine GL.cons ?_; refine Gt.storeAny tb 2 Wt.o (by exact rfl) (by exact rfl) (by exact rfl) (by assumption) (by assumption) (by exact rfl) (by first | exact rfl | assumption) ?_) | (refine GL.cons ?_; refine Gt.storeAny tb 3 Wt.o (by exact rfl) (by exact rfl) (by exact rfl) (by assumption) (by assumption) (by exact rfl) (by first | exact rfl | assumption) ?_) | (refine GL.cons ?_; refine Gt.storeAny tb 4 Wt.o (by exact rfl) (by exact rfl) (by exact rfl) (by assumption) (by assumption) (by exact rfl) (by first | exact rfl | assumption) ?_) | (refine GL.cons ?_; refine Gt.storeAny tb 5 Wt.o (by exact rfl) (by exact rfl) (by exact rfl) (by assumption) (by assumption) (by exact rfl) (by first | exact rfl | assumption) ?_) | (refine GL.cons ?_; refine Gt.storeAny tb 6 Wt.o (by exact rfl) (by exact rfl) (by exact rfl) (by assumption) (by assumption) (by exact rfl) (by first | exact rfl | assumption) ?_) | (refine GL.cons ?_; refine Gt.storeAny tb 7 Wt.o (by exact rfl) (by exact rfl) (by exact rfl) (by assumption) (by assumption) (by exact rfl) (by first | exact rfl | assumption) ?_) | (refine GL.cons ?_; refine Gt.storeAny tb 8 Wt.o (by exact rfl) (by exact rfl) (by exact rfl) (by assumption) (by assumption) (by exact rfl) (by first | exact rfl | assumption) ?_) | (refine GL.cons ?_; refine Gt.storeAny tb 9 Wt.o (by exact rfl) (by exact rfl) (by exact rfl) (by assumption) (by assumption) (by exact rfl) (by first | exact rfl | assumption) ?_)))
  obtain ⟨b1, rfl⟩ : ∃ b1, b1 = bl := ⟨_, rfl⟩
  refine GL.cons ?_; refine GO.callA (fun hF' hle hH => has_ok (l := r.O) (s := o) hoo hno) Wt.o (by kernel_rfl) rfl rfl SubR.o ?_
  by_cases ho : o ∈ r.O
  rotate_left
  · rw [decide_eq_false ho, show rjoinM r o u k = (111, r) from if_pos ho]
    rintro v Γ' ⟨rfl, rfl⟩
    (repeat (first | refine GK.ro ?_ | (refine GK.box ?_; intro bl) | (refine GK.mkMap ?_; intro bm) | (refine GK.build0 tb ?_; intro bs)))
    refine GL.cons ?_; (first | refine Gt.storeAny tb 0 Wt.o rfl rfl rfl rfl (by exact tri_one ou oo rfl) rfl rfl ?_ | refine Gt.storeAny tb 1 Wt.o rfl rfl rfl rfl (by exact tri_one ou oo rfl) rfl rfl ?_ | refine Gt.storeAny tb 2 Wt.o rfl rfl rfl rfl (by exact tri_one ou oo rfl) rfl rfl ?_ | refine Gt.storeAny tb 3 Wt.o rfl rfl rfl rfl (by exact tri_one ou oo rfl) rfl rfl ?_)
    (repeat (first | refine GK.ro ?_ | (refine GK.box ?_; intro bl) | (refine GK.mkMap ?_; intro bm) | (refine GK.build0 tb ?_; intro bs)))
    exact GQ.fin2 rfl (Rv.row rfl (by kernel_rfl) (by kernel_rfl) (by first | exact Rd.blk 0 rfl | exact Rd.blk 1 rfl | exact Rd.blk 2 rfl | exact Rd.blk 3 rfl) (At.all _)) (Rv.tmp rfl) (fun _ s => Sat.sub SubR.o s) ⟨H, uv, ov, .slice p r.F.length c, le.refl _, rfl, h0, rfl⟩
  have ho1 : ¬ o ∉ r.O := fun e => e ho
  rw [decide_eq_true ho]
  rintro v Γ' ⟨rfl, rfl⟩
  (repeat (first | refine GK.ro ?_ | (refine GK.box ?_; intro bl) | (refine GK.mkMap ?_; intro bm) | (refine GK.build0 tb ?_; intro bs)))
  refine GL.cons ?_; refine GO.callA (fun hF' hle hH => has_ok (l := r.U) (s := u) huu hnu) Wt.o (by kernel_rfl) rfl rfl SubR.o ?_
  by_cases hu : u ∈ r.U
  rotate_left
  · rw [decide_eq_false hu, show rjoinM r o u k = (111, r) from (if_neg ho1).trans (if_pos hu)]
    rintro v Γ' ⟨rfl, rfl⟩
    (repeat (first | refine GK.ro ?_ | (refine GK.box ?_; intro bl) | (refine GK.mkMap ?_; intro bm) | (refine GK.build0 tb ?_; intro bs)))
    refine GL.cons ?_; (first | refine Gt.storeAny tb 0 Wt.o rfl rfl rfl rfl (by exact tri_one ou oo rfl) rfl rfl ?_ | refine Gt.storeAny tb 1 Wt.o rfl rfl rfl rfl (by exact tri_one ou oo rfl) rfl rfl ?_ | refine Gt.storeAny tb 2 Wt.o rfl rfl rfl rfl (by exact tri_one ou oo rfl) rfl rfl ?_ | refine Gt.storeAny tb 3 Wt.o rfl rfl rfl rfl (by exact tri_one ou oo rfl) rfl rfl ?_)
    (repeat (first | refine GK.ro ?_ | (refine GK.box ?_; intro bl) | (refine GK.mkMap ?_; intro bm) | (refine GK.build0 tb ?_; intro bs)))
    exact GQ.fin2 rfl (Rv.row rfl (by kernel_rfl) (by kernel_rfl) (by first | exact Rd.blk 0 rfl | exact Rd.blk 1 rfl | exact Rd.blk 2 rfl | exact Rd.blk 3 rfl) (At.all _)) (Rv.tmp rfl) (fun _ s => Sat.sub SubR.o s) ⟨H, uv, ov, .slice p r.F.length c, le.refl _, rfl, h0, rfl⟩
  have hu1 : ¬ u ∉ r.U := fun e => e hu
  rw [decide_eq_true hu]
  rintro v Γ' ⟨rfl, rfl⟩
  by_cases hk : k ≠ 1 ∧ k ≠ 2
  · obtain ⟨k1, k2⟩ := hk
    rw [show rjoinM r o u k = (2, r) from (if_neg ho1).trans ((if_neg hu1).trans (if_pos ⟨k1, k2⟩))]
    (repeat (first | refine GK.ro ?_ | (refine GK.box ?_; intro bl) | (refine GK.mkMap ?_; intro bm) | (refine GK.build0 tb ?_; intro bs)))
    refine GL.cons ?_; (first | refine Gt.storeAny tb 0 Wt.o rfl rfl rfl rfl (by exact tri_one ou oo rfl) rfl rfl ?_ | refine Gt.storeAny tb 1 Wt.o rfl rfl rfl rfl (by exact tri_one ou oo rfl) rfl rfl ?_ | refine Gt.storeAny tb 2 Wt.o rfl rfl rfl rfl (by exact tri_one ou oo rfl) rfl rfl ?_ | refine Gt.storeAny tb 3 Wt.o rfl rfl rfl rfl (by exact tri_one ou oo rfl) rfl rfl ?_)
    (repeat (first | refine GK.ro ?_ | (refine GK.box ?_; intro bl) | (refine GK.mkMap ?_; intro bm) | (refine GK.build0 tb ?_; intro bs)))
    exact GQ.fin2 rfl (Rv.row rfl (by kernel_rfl) (by kernel_rfl) (by first | exact Rd.blk 0 rfl | exact Rd.blk 1 rfl | exact Rd.blk 2 rfl | exact Rd.blk 3 rfl) (At.all _)) (Rv.tmp rfl) (fun _ s => Sat.sub SubR.o s) ⟨H, uv, ov, .slice p r.F.length c, le.refl _, rfl, h0, rfl⟩
  have hkk : k = 1 ∨ k = 2 := by omega
  cases hl : lastR r.F o u with
  | true =>
    rcases hkk with rfl | rfl
    · rw [show rjoinM r o u 1 = (151, r) from (if_neg ho1).trans ((if_neg hu1).trans ((if_neg hk).trans (if_pos ⟨hl, rfl⟩)))]
      (repeat (first | refine GK.ro ?_ | (refine GK.box ?_; intro bl) | (refine GK.mkMap ?_; intro bm) | (refine GK.build0 tb ?_; intro bs)))
      refine GL.cons ?_; refine GO.callA (fun hF' hle hH => rlast_ok (o := o) (u := u) h0) Wt.o (by kernel_rfl) rfl rfl SubR.o ?_
      rw [hl]
      rintro v Γ' ⟨H1, l1, rfl, rfl⟩
      have h1 := h0.mono l1
      (repeat (first | refine GK.ro ?_ | (refine GK.box ?_; intro bl) | (refine GK.mkMap ?_; intro bm) | (refine GK.build0 tb ?_; intro bs)))
      refine GL.cons ?_; (first | refine Gt.storeAny tb 0 Wt.o rfl rfl rfl rfl (by exact tri_one ou oo rfl) rfl rfl ?_ | refine Gt.storeAny tb 1 Wt.o rfl rfl rfl rfl (by exact tri_one ou oo rfl) rfl rfl ?_ | refine Gt.storeAny tb 2 Wt.o rfl rfl rfl rfl (by exact tri_one ou oo rfl) rfl rfl ?_ | refine Gt.storeAny tb 3 Wt.o rfl rfl rfl rfl (by exact tri_one ou oo rfl) rfl rfl ?_)
      (repeat (first | refine GK.ro ?_ | (refine GK.box ?_; intro bl) | (refine GK.mkMap ?_; intro bm) | (refine GK.build0 tb ?_; intro bs)))
      exact GQ.fin2 rfl (Rv.row rfl (by kernel_rfl) (by kernel_rfl) (by first | exact Rd.blk 0 rfl | exact Rd.blk 1 rfl | exact Rd.blk 2 rfl | exact Rd.blk 3 rfl) (At.all _)) (Rv.tmp rfl) (fun _ s => Sat.sub SubR.o s) ⟨H1, uv, ov, .slice p r.F.length c, l1, rfl, h1, rfl⟩
    · have hnl : ¬ (lastR r.F o u = true ∧ (2 : Int) = 1) := by omega
      (repeat (first | refine GK.ro ?_ | (refine GK.box ?_; intro bl) | (refine GK.mkMap ?_; intro bm) | (refine GK.build0 tb ?_; intro bs)))
      refine GL.cons ?_; refine GO.callA (fun hF' hle hH => rlast_ok (o := o) (u := u) h0) Wt.o (by kernel_rfl) rfl rfl SubR.o ?_
      rw [hl]
      rintro v Γ' ⟨H1, l1, rfl, rfl⟩
      have h1 := h0.mono l1
      (repeat (first | refine GK.ro ?_ | (refine GK.box ?_; intro bl) | (refine GK.mkMap ?_; intro bm) | (refine GK.build0 tb ?_; intro bs)))
      refine GL.cons ?_; refine GO.callA (fun hF' hle hH => fact_ok (o := o) (t := []) (u := u) h1) Wt.o (by kernel_rfl) rfl rfl SubR.o ?_
      rintro v3 Γ' ⟨rfl, rfl⟩
      by_cases hf : 0 ≤ factM r.F o [] u
      · rw [show rjoinM r o u 2 = (0, ⟨r.U, r.O, r.F.eraseIdx (factM r.F o [] u).toNat ++ [⟨o, [], u, 2⟩]⟩) from (if_neg ho1).trans ((if_neg hu1).trans ((if_neg hk).trans ((if_neg hnl).trans (by rw [if_pos hf]))))]
        obtain ⟨i, hi⟩ : ∃ i : Nat, factM r.F o [] u = i := ⟨(factM r.F o [] u).toNat, by omega⟩
        rw [hi] at hf hfl ⊢
        rw [Int.toNat_natCast]
        have hel : (r.F.eraseIdx i).length = r.F.length - 1 := by rw [List.length_eraseIdx_of_lt (by omega)]
        (repeat (first | refine GK.ro ?_ | (refine GK.box ?_; intro bl) | (refine GK.mkMap ?_; intro bm) | (refine GK.build0 tb ?_; intro bs)))
        refine GL.cons ?_; refine GO.callA (fun hF' hle hH => without_ok (i := i) h1 (by omega)) Wt.o (by kernel_rfl) rfl rfl SubR.o ?_
        rintro v4 Γ' ⟨H2, fv2, l2, rfl, h2, rfl⟩
        have of2 := h2.f.one
        (repeat (first | refine GK.ro ?_ | (refine GK.box ?_; intro bl) | (refine GK.mkMap ?_; intro bm) | (refine GK.build0 tb ?_; intro bs)))
        refine GL.cons ?_; (first | refine Gt.storeAny tb 0 Wt.o rfl rfl rfl rfl (by exact tri_one ou oo of2) rfl rfl ?_ | refine Gt.storeAny tb 1 Wt.o rfl rfl rfl rfl (by exact tri_one ou oo of2) rfl rfl ?_ | refine Gt.storeAny tb 2 Wt.o rfl rfl rfl rfl (by exact tri_one ou oo of2) rfl rfl ?_ | refine Gt.storeAny tb 3 Wt.o rfl rfl rfl rfl (by exact tri_one ou oo of2) rfl rfl ?_)
        (repeat (first | refine GK.ro ?_ | (refine GK.box ?_; intro bl) | (refine GK.mkMap ?_; intro bm) | (refine GK.build0 tb ?_; intro bs)))
        refine GL.cons ?_; refine GO.callA (fun hF' hle hH => rwith_ok (f := ⟨o, [], u, 2⟩) h2 (by show (r.F.eraseIdx i).length < _; omega)) Wt.o (by kernel_rfl) rfl rfl SubR.o ?_
        rintro v4 Γ' ⟨H3, fv3, l3, rfl, h3, rfl⟩
        have of2 := h3.f.one
        (repeat (first | refine GK.ro ?_ | (refine GK.box ?_; intro bl) | (refine GK.mkMap ?_; intro bm) | (refine GK.build0 tb ?_; intro bs)))
        refine GL.cons ?_; (first | refine Gt.storeAny tb 0 Wt.o rfl rfl rfl rfl (by exact tri_one ou oo of2) rfl rfl ?_ | refine Gt.storeAny tb 1 Wt.o rfl rfl rfl rfl (by exact tri_one ou oo of2) rfl rfl ?_ | refine Gt.storeAny tb 2 Wt.o rfl rfl rfl rfl (by exact tri_one ou oo of2) rfl rfl ?_ | refine Gt.storeAny tb 3 Wt.o rfl rfl rfl rfl (by exact tri_one ou oo of2) rfl rfl ?_)
        (repeat (first | refine GK.ro ?_ | (refine GK.box ?_; intro bl) | (refine GK.mkMap ?_; intro bm) | (refine GK.build0 tb ?_; intro bs)))
        exact GQ.fin2 rfl (Rv.row rfl (by kernel_rfl) (by kernel_rfl) (by first | exact Rd.blk 0 rfl | exact Rd.blk 1 rfl | exact Rd.blk 2 rfl | exact Rd.blk 3 rfl) (At.all _)) (Rv.tmp rfl) (fun _ s => Sat.sub SubR.o s) ⟨H3, uv, ov, fv3, (l1.trans l2).trans l3, rfl, h3, rfl⟩
      · rw [show rjoinM r o u 2 = (0, ⟨r.U, r.O, r.F ++ [⟨o, [], u, 2⟩]⟩) from (if_neg ho1).trans ((if_neg hu1).trans ((if_neg hk).trans ((if_neg hnl).trans (by rw [if_neg hf]))))]
        (repeat (first | refine GK.ro ?_ | (refine GK.box ?_; intro bl) | (refine GK.mkMap ?_; intro bm) | (refine GK.build0 tb ?_; intro bs)))
        refine GL.cons ?_; refine GO.callA (fun hF' hle hH => rwith_ok (f := ⟨o, [], u, 2⟩) h1 hnf) Wt.o (by kernel_rfl) rfl rfl SubR.o ?_
        rintro v4 Γ' ⟨H3, fv3, l3, rfl, h3, rfl⟩
        have of2 := h3.f.one
        (repeat (first | refine GK.ro ?_ | (refine GK.box ?_; intro bl) | (refine GK.mkMap ?_; intro bm) | (refine GK.build0 tb ?_; intro bs)))
        refine GL.cons ?_; (first | refine Gt.storeAny tb 0 Wt.o rfl rfl rfl rfl (by exact tri_one ou oo of2) rfl rfl ?_ | refine Gt.storeAny tb 1 Wt.o rfl rfl rfl rfl (by exact tri_one ou oo of2) rfl rfl ?_ | refine Gt.storeAny tb 2 Wt.o rfl rfl rfl rfl (by exact tri_one ou oo of2) rfl rfl ?_ | refine Gt.storeAny tb 3 Wt.o rfl rfl rfl rfl (by exact tri_one ou oo of2) rfl rfl ?_)
        (repeat (first | refine GK.ro ?_ | (refine GK.box ?_; intro bl) | (refine GK.mkMap ?_; intro bm) | (refine GK.build0 tb ?_; intro bs)))
        exact GQ.fin2 rfl (Rv.row rfl (by kernel_rfl) (by kernel_rfl) (by first | exact Rd.blk 0 rfl | exact Rd.blk 1 rfl | exact Rd.blk 2 rfl | exact Rd.blk 3 rfl) (At.all _)) (Rv.tmp rfl) (fun _ s => Sat.sub SubR.o s) ⟨H3, uv, ov, fv3, l1.trans l3, rfl, h3, rfl⟩
  | false =>
    rcases hkk with rfl | rfl
    · have hnl : ¬ (lastR r.F o u = true ∧ (1 : Int) = 1) := by (rw [hl]; simp)
      (repeat (first | refine GK.ro ?_ | (refine GK.box ?_; intro bl) | (refine GK.mkMap ?_; intro bm) | (refine GK.build0 tb ?_; intro bs)))
      refine GL.cons ?_; refine GO.callA (fun hF' hle hH => rlast_ok (o := o) (u := u) h0) Wt.o (by kernel_rfl) rfl rfl SubR.o ?_
      rw [hl]
      rintro v Γ' ⟨H1, l1, rfl, rfl⟩
      have h1 := h0.mono l1
      (repeat (first | refine GK.ro ?_ | (refine GK.box ?_; intro bl) | (refine GK.mkMap ?_; intro bm) | (refine GK.build0 tb ?_; intro bs)))
      refine GL.cons ?_; refine GO.callA (fun hF' hle hH => fact_ok (o := o) (t := []) (u := u) h1) Wt.o (by kernel_rfl) rfl rfl SubR.o ?_
      rintro v3 Γ' ⟨rfl, rfl⟩
      by_cases hf : 0 ≤ factM r.F o [] u
      · rw [show rjoinM r o u 1 = (0, ⟨r.U, r.O, r.F.eraseIdx (factM r.F o [] u).toNat ++ [⟨o, [], u, 1⟩]⟩) from (if_neg ho1).trans ((if_neg hu1).trans ((if_neg hk).trans ((if_neg hnl).trans (by rw [if_pos hf]))))]
        obtain ⟨i, hi⟩ : ∃ i : Nat, factM r.F o [] u = i := ⟨(factM r.F o [] u).toNat, by omega⟩
        rw [hi] at hf hfl ⊢
        rw [Int.toNat_natCast]
        have hel : (r.F.eraseIdx i).length = r.F.length - 1 := by rw [List.length_eraseIdx_of_lt (by omega)]
        (repeat (first | refine GK.ro ?_ | (refine GK.box ?_; intro bl) | (refine GK.mkMap ?_; intro bm) | (refine GK.build0 tb ?_; intro bs)))
        refine GL.cons ?_; refine GO.callA (fun hF' hle hH => without_ok (i := i) h1 (by omega)) Wt.o (by kernel_rfl) rfl rfl SubR.o ?_
        rintro v4 Γ' ⟨H2, fv2, l2, rfl, h2, rfl⟩
        have of2 := h2.f.one
        (repeat (first | refine GK.ro ?_ | (refine GK.box ?_; intro bl) | (refine GK.mkMap ?_; intro bm) | (refine GK.build0 tb ?_; intro bs)))
        refine GL.cons ?_; (first | refine Gt.storeAny tb 0 Wt.o rfl rfl rfl rfl (by exact tri_one ou oo of2) rfl rfl ?_ | refine Gt.storeAny tb 1 Wt.o rfl rfl rfl rfl (by exact tri_one ou oo of2) rfl rfl ?_ | refine Gt.storeAny tb 2 Wt.o rfl rfl rfl rfl (by exact tri_one ou oo of2) rfl rfl ?_ | refine Gt.storeAny tb 3 Wt.o rfl rfl rfl rfl (by exact tri_one ou oo of2) rfl rfl ?_)
        (repeat (first | refine GK.ro ?_ | (refine GK.box ?_; intro bl) | (refine GK.mkMap ?_; intro bm) | (refine GK.build0 tb ?_; intro bs)))
        refine GL.cons ?_; refine GO.callA (fun hF' hle hH => rwith_ok (f := ⟨o, [], u, 1⟩) h2 (by show (r.F.eraseIdx i).length < _; omega)) Wt.o (by kernel_rfl) rfl rfl SubR.o ?_
        rintro v4 Γ' ⟨H3, fv3, l3, rfl, h3, rfl⟩
        have of2 := h3.f.one
        (repeat (first | refine GK.ro ?_ | (refine GK.box ?_; intro bl) | (refine GK.mkMap ?_; intro bm) | (refine GK.build0 tb ?_; intro bs)))
        refine GL.cons ?_; (first | refine Gt.storeAny tb 0 Wt.o rfl rfl rfl rfl (by exact tri_one ou oo of2) rfl rfl ?_ | refine Gt.storeAny tb 1 Wt.o rfl rfl rfl rfl (by exact tri_one ou oo of2) rfl rfl ?_ | refine Gt.storeAny tb 2 Wt.o rfl rfl rfl rfl (by exact tri_one ou oo of2) rfl rfl ?_ | refine Gt.storeAny tb 3 Wt.o rfl rfl rfl rfl (by exact tri_one ou oo of2) rfl rfl ?_)
        (repeat (first | refine GK.ro ?_ | (refine GK.box ?_; intro bl) | (refine GK.mkMap ?_; intro bm) | (refine GK.build0 tb ?_; intro bs)))
        exact GQ.fin2 rfl (Rv.row rfl (by kernel_rfl) (by kernel_rfl) (by first | exact Rd.blk 0 rfl | exact Rd.blk 1 rfl | exact Rd.blk 2 rfl | exact Rd.blk 3 rfl) (At.all _)) (Rv.tmp rfl) (fun _ s => Sat.sub SubR.o s) ⟨H3, uv, ov, fv3, (l1.trans l2).trans l3, rfl, h3, rfl⟩
      · rw [show rjoinM r o u 1 = (0, ⟨r.U, r.O, r.F ++ [⟨o, [], u, 1⟩]⟩) from (if_neg ho1).trans ((if_neg hu1).trans ((if_neg hk).trans ((if_neg hnl).trans (by rw [if_neg hf]))))]
        (repeat (first | refine GK.ro ?_ | (refine GK.box ?_; intro bl) | (refine GK.mkMap ?_; intro bm) | (refine GK.build0 tb ?_; intro bs)))
        refine GL.cons ?_; refine GO.callA (fun hF' hle hH => rwith_ok (f := ⟨o, [], u, 1⟩) h1 hnf) Wt.o (by kernel_rfl) rfl rfl SubR.o ?_
        rintro v4 Γ' ⟨H3, fv3, l3, rfl, h3, rfl⟩
        have of2 := h3.f.one
        (repeat (first | refine GK.ro ?_ | (refine GK.box ?_; intro bl) | (refine GK.mkMap ?_; intro bm) | (refine GK.build0 tb ?_; intro bs)))
        refine GL.cons ?_; (first | refine Gt.storeAny tb 0 Wt.o rfl rfl rfl rfl (by exact tri_one ou oo of2) rfl rfl ?_ | refine Gt.storeAny tb 1 Wt.o rfl rfl rfl rfl (by exact tri_one ou oo of2) rfl rfl ?_ | refine Gt.storeAny tb 2 Wt.o rfl rfl rfl rfl (by exact tri_one ou oo of2) rfl rfl ?_ | refine Gt.storeAny tb 3 Wt.o rfl rfl rfl rfl (by exact tri_one ou oo of2) rfl rfl ?_)
        (repeat (first | refine GK.ro ?_ | (refine GK.box ?_; intro bl) | (refine GK.mkMap ?_; intro bm) | (refine GK.build0 tb ?_; intro bs)))
        exact GQ.fin2 rfl (Rv.row rfl (by kernel_rfl) (by kernel_rfl) (by first | exact Rd.blk 0 rfl | exact Rd.blk 1 rfl | exact Rd.blk 2 rfl | exact Rd.blk 3 rfl) (At.all _)) (Rv.tmp rfl) (fun _ s => Sat.sub SubR.o s) ⟨H3, uv, ov, fv3, l1.trans l3, rfl, h3, rfl⟩
    · have hnl : ¬ (lastR r.F o u = true ∧ (2 : Int) = 1) := by omega
      (repeat (first | refine GK.ro ?_ | (refine GK.box ?_; intro bl) | (refine GK.mkMap ?_; intro bm) | (refine GK.build0 tb ?_; intro bs)))
      refine GL.cons ?_; refine GO.callA (fun hF' hle hH => rlast_ok (o := o) (u := u) h0) Wt.o (by kernel_rfl) rfl rfl SubR.o ?_
      rw [hl]
      rintro v Γ' ⟨H1, l1, rfl, rfl⟩
      have h1 := h0.mono l1
      (repeat (first | refine GK.ro ?_ | (refine GK.box ?_; intro bl) | (refine GK.mkMap ?_; intro bm) | (refine GK.build0 tb ?_; intro bs)))
      refine GL.cons ?_; refine GO.callA (fun hF' hle hH => fact_ok (o := o) (t := []) (u := u) h1) Wt.o (by kernel_rfl) rfl rfl SubR.o ?_
      rintro v3 Γ' ⟨rfl, rfl⟩
      by_cases hf : 0 ≤ factM r.F o [] u
      · rw [show rjoinM r o u 2 = (0, ⟨r.U, r.O, r.F.eraseIdx (factM r.F o [] u).toNat ++ [⟨o, [], u, 2⟩]⟩) from (if_neg ho1).trans ((if_neg hu1).trans ((if_neg hk).trans ((if_neg hnl).trans (by rw [if_pos hf]))))]
        obtain ⟨i, hi⟩ : ∃ i : Nat, factM r.F o [] u = i := ⟨(factM r.F o [] u).toNat, by omega⟩
        rw [hi] at hf hfl ⊢
        rw [Int.toNat_natCast]
        have hel : (r.F.eraseIdx i).length = r.F.length - 1 := by rw [List.length_eraseIdx_of_lt (by omega)]
        (repeat (first | refine GK.ro ?_ | (refine GK.box ?_; intro bl) | (refine GK.mkMap ?_; intro bm) | (refine GK.build0 tb ?_; intro bs)))
        refine GL.cons ?_; refine GO.callA (fun hF' hle hH => without_ok (i := i) h1 (by omega)) Wt.o (by kernel_rfl) rfl rfl SubR.o ?_
        rintro v4 Γ' ⟨H2, fv2, l2, rfl, h2, rfl⟩
        have of2 := h2.f.one
        (repeat (first | refine GK.ro ?_ | (refine GK.box ?_; intro bl) | (refine GK.mkMap ?_; intro bm) | (refine GK.build0 tb ?_; intro bs)))
        refine GL.cons ?_; (first | refine Gt.storeAny tb 0 Wt.o rfl rfl rfl rfl (by exact tri_one ou oo of2) rfl rfl ?_ | refine Gt.storeAny tb 1 Wt.o rfl rfl rfl rfl (by exact tri_one ou oo of2) rfl rfl ?_ | refine Gt.storeAny tb 2 Wt.o rfl rfl rfl rfl (by exact tri_one ou oo of2) rfl rfl ?_ | refine Gt.storeAny tb 3 Wt.o rfl rfl rfl rfl (by exact tri_one ou oo of2) rfl rfl ?_)
        (repeat (first | refine GK.ro ?_ | (refine GK.box ?_; intro bl) | (refine GK.mkMap ?_; intro bm) | (refine GK.build0 tb ?_; intro bs)))
        refine GL.cons ?_; refine GO.callA (fun hF' hle hH => rwith_ok (f := ⟨o, [], u, 2⟩) h2 (by show (r.F.eraseIdx i).length < _; omega)) Wt.o (by kernel_rfl) rfl rfl SubR.o ?_
        rintro v4 Γ' ⟨H3, fv3, l3, rfl, h3, rfl⟩
        have of2 := h3.f.one
        (repeat (first | refine GK.ro ?_ | (refine GK.box ?_; intro bl) | (refine GK.mkMap ?_; intro bm) | (refine GK.build0 tb ?_; intro bs)))
        refine GL.cons ?_; (first | refine Gt.storeAny tb 0 Wt.o rfl rfl rfl rfl (by exact tri_one ou oo of2) rfl rfl ?_ | refine Gt.storeAny tb 1 Wt.o rfl rfl rfl rfl (by exact tri_one ou oo of2) rfl rfl ?_ | refine Gt.storeAny tb 2 Wt.o rfl rfl rfl rfl (by exact tri_one ou oo of2) rfl rfl ?_ | refine Gt.storeAny tb 3 Wt.o rfl rfl rfl rfl (by exact tri_one ou oo of2) rfl rfl ?_)
        (repeat (first | refine GK.ro ?_ | (refine GK.box ?_; intro bl) | (refine GK.mkMap ?_; intro bm) | (refine GK.build0 tb ?_; intro bs)))
        exact GQ.fin2 rfl (Rv.row rfl (by kernel_rfl) (by kernel_rfl) (by first | exact Rd.blk 0 rfl | exact Rd.blk 1 rfl | exact Rd.blk 2 rfl | exact Rd.blk 3 rfl) (At.all _)) (Rv.tmp rfl) (fun _ s => Sat.sub SubR.o s) ⟨H3, uv, ov, fv3, (l1.trans l2).trans l3, rfl, h3, rfl⟩
      · rw [show rjoinM r o u 2 = (0, ⟨r.U, r.O, r.F ++ [⟨o, [], u, 2⟩]⟩) from (if_neg ho1).trans ((if_neg hu1).trans ((if_neg hk).trans ((if_neg hnl).trans (by rw [if_neg hf]))))]
        (repeat (first | refine GK.ro ?_ | (refine GK.box ?_; intro bl) | (refine GK.mkMap ?_; intro bm) | (refine GK.build0 tb ?_; intro bs)))
        refine GL.cons ?_; refine GO.callA (fun hF' hle hH => rwith_ok (f := ⟨o, [], u, 2⟩) h1 hnf) Wt.o (by kernel_rfl) rfl rfl SubR.o ?_
        rintro v4 Γ' ⟨H3, fv3, l3, rfl, h3, rfl⟩
        have of2 := h3.f.one
        (repeat (first | refine GK.ro ?_ | (refine GK.box ?_; intro bl) | (refine GK.mkMap ?_; intro bm) | (refine GK.build0 tb ?_; intro bs)))
        refine GL.cons ?_; (first | refine Gt.storeAny tb 0 Wt.o rfl rfl rfl rfl (by exact tri_one ou oo of2) rfl rfl ?_ | refine Gt.storeAny tb 1 Wt.o rfl rfl rfl rfl (by exact tri_one ou oo of2) rfl rfl ?_ | refine Gt.storeAny tb 2 Wt.o rfl rfl rfl rfl (by exact tri_one ou oo of2) rfl rfl ?_ | refine Gt.storeAny tb 3 Wt.o rfl rfl rfl rfl (by exact tri_one ou oo of2) rfl rfl ?_)
        (repeat (first | refine GK.ro ?_ | (refine GK.box ?_; intro bl) | (refine GK.mkMap ?_; intro bm) | (refine GK.build0 tb ?_; intro bs)))
        exact GQ.fin2 rfl (Rv.row rfl (by kernel_rfl) (by kernel_rfl) (by first | exact Rd.blk 0 rfl | exact Rd.blk 1 rfl | exact Rd.blk 2 rfl | exact Rd.blk 3 rfl) (At.all _)) (Rv.tmp rfl) (fun _ s => Sat.sub SubR.o s) ⟨H3, uv, ov, fv3, l1.trans l3, rfl, h3, rfl⟩
end Go.Pe
/- The document's people: leaving. -/
namespace Go.Pe
open Go Go.Sl Go.Ls
set_option maxRecDepth 100000
def leftR (F : List Ft) (o u : By) (j : Nat) : List Ft := (F.take j).filter (stayF o u)
theorem left_zero (F : List Ft) (o u : By) : leftR F o u 0 = [] := rfl
theorem left_all (F : List Ft) (o u : By) : leftR F o u F.length = F.filter (stayF o u) := by unfold leftR; rw [List.take_length]
theorem left_len (F : List Ft) (o u : By) (j : Nat) : (leftR F o u j).length ≤ F.length := Nat.le_trans (List.length_filter_le _ _) (by rw [List.length_take]; omega)
theorem left_stay {F : List Ft} {o u : By} {j : Nat} {f : Ft} (h : F[j]? = some f) (hs : stayF o u f = true) : leftR F o u (j + 1) = leftR F o u j ++ [f] := by
  obtain ⟨hl, he⟩ := List.getElem?_eq_some_iff.1 h
  unfold leftR
  rw [List.take_succ_eq_append_getElem hl, List.filter_append, he, List.filter_cons, if_pos hs]; rfl
theorem left_go {F : List Ft} {o u : By} {j : Nat} {f : Ft} (h : F[j]? = some f) (hs : stayF o u f = false) : leftR F o u (j + 1) = leftR F o u j := by
  obtain ⟨hl, he⟩ := List.getElem?_eq_some_iff.1 h
  unfold leftR
  rw [List.take_succ_eq_append_getElem hl, List.filter_append, he, List.filter_cons, if_neg (by rw [hs]; decide)]; simp
theorem at_at {cs xs A : List Value} {o i : Nat} (h : At cs o xs) (k : At xs i A) : At cs (o + i) A := fun j v e => by
  have := h _ _ (k j v e)
  rwa [Nat.add_assoc]
set_option maxRecDepth 100000
set_option maxHeartbeats 4000000
attribute [local irreducible] GK GO Yl Wt Ef Hd GH KH wpListIn Code.wpIn toBody roundQ poolOf rs RS YieldOk IterOk VOk row star exs mp lp Sat pt FnOk Rd bodyPost bodyPostM Lv Ret Exit.then Exit.inBlock Exit.noGoto Int.decLt Int.decLe Int.instDecidableEq
attribute [local irreducible] u8s strs likeTo fts factM membersR teamsR roleR ownersR lastR Pa.nameM leftR
set_option pp.deepTerms true
set_option pp.maxSteps 1000000
variable {hF H : Hp} {r : RP} {uv ov fv : Value}
theorem rleave_ok {o u : By} (h : RpAt H r uv ov fv) : FnOk Go.Proofs.Try.prog 41 [.agg ⟨[uv, ov, fv]⟩, str o, str u] [poolOf H] hF (fun v Γ => Leaves H (rleaveM r o u) v Γ) := by
  have h0 := h
  have ou := h.u.one
  have oo := h.o.one
  have hnf := h.nf
  obtain ⟨p, c, rfl, hc, hln, hr⟩ := rs.out h.f
  refine FnOk.intro 57 Go.Proofs.Try.func41 rfl rfl fun w0 => ?_
  (repeat (first | refine GK.ro ?_ | (refine GK.box ?_; intro bl) | (refine GK.mkMap ?_; intro bm) | (refine GK.build0 tb ?_; intro bs) | (refine GL.cons ?_; refine GO.alloc Wt.o (by exact rfl) ?_; intro ba) | (refine GL.cons ?_; refine Gt.storeAny tb 0 Wt.o (by exact rfl) (by exact rfl) (by exact rfl) (by assumption) (by assumption) (by exact rfl) (by first | exact rfl | assumption) ?_) | (refine GL.cons ?_; refine Gt.storeAny tb 1 Wt.o (by exact rfl) (by exact rfl) (by exact rfl) (by assumption) (by assumption) (by exact rfl) (by first | exact rfl | assumption) ?_) | (refine GL.cons ?_; refine Gt.storeAny tb 2 Wt.o (by exact rfl) (by exact rfl) (by exact rfl) (by assumption) (by assumption) (by exact rfl) (by first | exact rfl | assumption) ?_) | (refine GL.cons ?_; refine Gt.storeAny tb 3 Wt.o (by exact rfl) (by exact rfl) (by exact rfl) (by assumption) (by assumption) (by exact rfl) (by first | exact rfl | assumption) ?_) | (refine GL.cons ?_; refine Gt.storeAny tb 4 Wt.o (by exact rfl) (by exact rfl) (by exact rfl) (by assumption) (by assumption) (by exact rfl) (by first | exact rfl | assumption) ?_) | (refine GL.cons ?_; refine Gt.storeAny tb 5 Wt.o (by exact rfl) (by exact rfl) (by exact rfl) (by assumption) (by assumption) (by exact rfl) (by first | exact rfl | assumption) ?_) | (refine GL.cons ?_; refine Gt.storeAny tb 6 Wt.o (by exact rfl) (by exact rfl) (by exact rfl) (by assumption) (by assumption) (by exact rfl) (by first | exact rfl | assumption) ?_) | (refine GL.cons ?_; refine Gt.storeAny tb 7 Wt.o (by exact rfl) (by exact rfl) (by exact rfl) (by assumption) (by assumption) (by exact rfl) (by first | exact rfl | assumption) ?_) | (refine GL.cons ?_; refine Gt.storeAny tb 8 Wt.o (by exact rfl) (by exact rfl) (by exact rfl) (by assumption) (by assumption) (by exact rfl) (by first | exact rfl | assumption) ?_) | (refine GL.cons ?_; refine Gt.storeAny tb 9 Wt.o (by exact rfl) (by exact rfl) (by exact rfl) (by assumption) (by assumption) (by exact rfl) (by first | exact rfl | assumption) ?_)))
  obtain ⟨b0, rfl⟩ : ∃ b0, b0 = bl := ⟨_, rfl⟩
  refine GL.cons ?_; refine GO.callA (fun hF' hle hH => roleR_ok (o := o) (u := u) h0) Wt.o (by kernel_rfl) rfl rfl SubR.o ?_
  rintro v Γ' ⟨rfl, rfl⟩
  by_cases hr0 : roleR r.F o u = 0
  · rw [show rleaveM r o u = (111, r) from if_pos hr0]
    (repeat (first | refine GK.ro ?_ | (refine GK.box ?_; intro bl) | (refine GK.mkMap ?_; intro bm) | (refine GK.build0 tb ?_; intro bs)))
    refine GL.cons ?_; (first | refine Gt.storeAny tb 0 Wt.o rfl rfl rfl rfl (by exact tri_one ou oo rfl) rfl rfl ?_ | refine Gt.storeAny tb 1 Wt.o rfl rfl rfl rfl (by exact tri_one ou oo rfl) rfl rfl ?_ | refine Gt.storeAny tb 2 Wt.o rfl rfl rfl rfl (by exact tri_one ou oo rfl) rfl rfl ?_ | refine Gt.storeAny tb 3 Wt.o rfl rfl rfl rfl (by exact tri_one ou oo rfl) rfl rfl ?_)
    (repeat (first | refine GK.ro ?_ | (refine GK.box ?_; intro bl) | (refine GK.mkMap ?_; intro bm) | (refine GK.build0 tb ?_; intro bs)))
    exact GQ.fin2 rfl (Rv.row rfl (by kernel_rfl) (by kernel_rfl) (by first | exact Rd.blk 0 rfl | exact Rd.blk 1 rfl | exact Rd.blk 2 rfl | exact Rd.blk 3 rfl) (At.all _)) (Rv.tmp rfl) (fun _ s => Sat.sub SubR.o s) ⟨H, uv, ov, .slice p r.F.length c, le.refl _, rfl, h0, rfl⟩
  (repeat (first | refine GK.ro ?_ | (refine GK.box ?_; intro bl) | (refine GK.mkMap ?_; intro bm) | (refine GK.build0 tb ?_; intro bs)))
  refine GL.cons ?_; refine GO.callA (fun hF' hle hH => rlast_ok (o := o) (u := u) h0) Wt.o (by kernel_rfl) rfl rfl SubR.o ?_
  rintro v Γ' ⟨H1, l1, rfl, rfl⟩
  have h1 := h0.mono l1
  cases hl : lastR r.F o u with
  | true =>
    rw [show rleaveM r o u = (151, r) from (if_neg hr0).trans (if_pos hl)]
    (repeat (first | refine GK.ro ?_ | (refine GK.box ?_; intro bl) | (refine GK.mkMap ?_; intro bm) | (refine GK.build0 tb ?_; intro bs)))
    refine GL.cons ?_; (first | refine Gt.storeAny tb 0 Wt.o rfl rfl rfl rfl (by exact tri_one ou oo rfl) rfl rfl ?_ | refine Gt.storeAny tb 1 Wt.o rfl rfl rfl rfl (by exact tri_one ou oo rfl) rfl rfl ?_ | refine Gt.storeAny tb 2 Wt.o rfl rfl rfl rfl (by exact tri_one ou oo rfl) rfl rfl ?_ | refine Gt.storeAny tb 3 Wt.o rfl rfl rfl rfl (by exact tri_one ou oo rfl) rfl rfl ?_)
    (repeat (first | refine GK.ro ?_ | (refine GK.box ?_; intro bl) | (refine GK.mkMap ?_; intro bm) | (refine GK.build0 tb ?_; intro bs)))
    exact GQ.fin2 rfl (Rv.row rfl (by kernel_rfl) (by kernel_rfl) (by first | exact Rd.blk 0 rfl | exact Rd.blk 1 rfl | exact Rd.blk 2 rfl | exact Rd.blk 3 rfl) (At.all _)) (Rv.tmp rfl) (fun _ s => Sat.sub SubR.o s) ⟨H1, uv, ov, .slice p r.F.length c, l1, rfl, h1, rfl⟩
  | false =>
  have hl1 : ¬ lastR r.F o u = true := by rw [hl]; decide
  rw [show rleaveM r o u = (0, ⟨r.U, r.O, r.F.filter (stayF o u)⟩) from (if_neg hr0).trans (if_neg hl1)]
  (repeat (first | refine GK.ro ?_ | (refine GK.box ?_; intro bl) | (refine GK.mkMap ?_; intro bm) | (refine GK.build0 tb ?_; intro bs)))
  refine G.loopK (X := Nat × Option Addr × Nat) [(1, _), (2, _), (3, _), (6, _)] (fun (j, q, d) => [(8, .slice q (leftR r.F o u j).length d), (9, .int .i64 (j : Int))]) (fun (j, _, _) => r.F.length - j)
    (fun (j, q, d) => [row (.slice q (leftR r.F o u j).length d) 76 4 (leftR r.F o u j).length (fts (leftR r.F o u j)), blk b0 44 (0, 0) [uv, ov, .slice p r.F.length c], blk ba 44 (0, 0) [.slice none 0 0, .slice none 0 0, .slice none 0 0], poolOf H1])
    (fun (j, _, _) => j ≤ r.F.length) (0, none, 0) (Nat.zero_le _) (by simp only [left_zero, List.length_nil]; exact Sub.o)
    (fun w s => by simp only [left_zero, List.length_nil]; show Sat [row (.slice none 0 0) 76 4 0 (fts []), blk b0 44 (0, 0) [uv, ov, .slice p r.F.length c], blk ba 44 (0, 0) [.slice none 0 0, .slice none 0 0, .slice none 0 0], poolOf H1] _ w; rw [fts_nil]; exact Sl.Sat.row_nil (Sl.Sat.sub SubR.o s)) (fun z hz q hq => ?_)
  obtain ⟨j, lq, ld⟩ := z
  dsimp only [List.cons_append, List.nil_append] at hq hz ⊢
  have hll := left_len r.F o u j
  (repeat (first | refine GK.ro ?_ | (refine GK.box ?_; intro bl) | (refine GK.mkMap ?_; intro bm) | (refine GK.build0 tb ?_; intro bs)))
  (first | refine G.condP rfl (fun hb => ?_) (fun hb => ?_) | refine G.condN rfl (fun hb => ?_) (fun hb => ?_) | refine G.cond rfl (fun hb => ?_) (fun hb => ?_))
  · obtain ⟨f, hf⟩ : ∃ f, r.F[j]? = some f := ⟨_, List.getElem?_eq_getElem (by omega)⟩
    have hlt : j < r.F.length := by omega
    clear hb
    obtain ⟨b1, o1, cs1, et1, fz1, rfl, hb1, hat1⟩ := hr (by omega)
    have hb1' := l1 _ _ hb1
    have g0 : cs1[o1 + (j : Int).toNat * 4 + 0]? = some (str f.o) := ft_get hat1 hf rfl
    have g2 : cs1[o1 + (j : Int).toNat * 4 + 2]? = some (str f.u) := ft_get hat1 hf rfl
    have hAf : At cs1 (o1 + (j : Int).toNat * 4) (ftC f) := by rw [Int.toNat_natCast]; exact at_at hat1 (fts_at hf)
    have hAl : (ftC f).length = 4 := rfl
    by_cases e1 : f.o = o
    rotate_left
    · have hb : (f.o == o) = false := by simp [e1]
      have hbn : (!f.o == o) = true := by rw [hb]; rfl
      (repeat (first | refine GK.ro ?_ | (refine GK.box ?_; intro bl) | (refine GK.mkMap ?_; intro bm) | (refine GK.build0 tb ?_; intro bs)))
      refine GL.cons ?_; refine Gt.buildLit tb (sz := 3) (n := 0) Wt.o rfl rfl (by kernel_rfl) rfl rfl rfl rfl rfl rfl ?_
      intro bx
      refine GK.heap (Γ' := [blk bx 76 (0, 0) (ftC f), row (.slice lq (leftR r.F o u j).length ld) 76 4 (leftR r.F o u j).length (fts (leftR r.F o u j)), blk b0 44 (0, 0) [uv, ov, .slice (some ⟨b1, o1, none⟩) r.F.length c], blk ba 44 (0, 0) [.slice none 0 0, .slice none 0 0, .slice none 0 0], poolOf H1]) (fun _ s => Sat.sub SubR.o s) ?_
      refine GL.cons ?_; (first | refine Gt.append tb 1 Wt.o rfl (.inl ⟨_, rfl⟩) rfl rfl rfl rfl rfl (Src.slice (m := 1) (Rd.blk 0 rfl) (At.all _) rfl (one_of_all rfl)) (by omega) (by omega) ?_ | refine Gt.append tb 2 Wt.o rfl (.inl ⟨_, rfl⟩) rfl rfl rfl rfl rfl (Src.slice (m := 1) (Rd.blk 0 rfl) (At.all _) rfl (one_of_all rfl)) (by omega) (by omega) ?_ | refine Gt.append tb 3 Wt.o rfl (.inl ⟨_, rfl⟩) rfl rfl rfl rfl rfl (Src.slice (m := 1) (Rd.blk 0 rfl) (At.all _) rfl (one_of_all rfl)) (by omega) (by omega) ?_ | refine Gt.append tb 4 Wt.o rfl (.inl ⟨_, rfl⟩) rfl rfl rfl rfl rfl (Src.slice (m := 1) (Rd.blk 0 rfl) (At.all _) rfl (one_of_all rfl)) (by omega) (by omega) ?_ | refine Gt.append tb 5 Wt.o rfl (.inl ⟨_, rfl⟩) rfl rfl rfl rfl rfl (Src.slice (m := 1) (Rd.blk 0 rfl) (At.all _) rfl (one_of_all rfl)) (by omega) (by omega) ?_ | refine Gt.append tb 6 Wt.o rfl (.inl ⟨_, rfl⟩) rfl rfl rfl rfl rfl (Src.slice (m := 1) (Rd.blk 0 rfl) (At.all _) rfl (one_of_all rfl)) (by omega) (by omega) ?_ | refine Gt.append tb 7 Wt.o rfl (.inl ⟨_, rfl⟩) rfl rfl rfl rfl rfl (Src.slice (m := 1) (Rd.blk 0 rfl) (At.all _) rfl (one_of_all rfl)) (by omega) (by omega) ?_ | refine Gt.append tb 8 Wt.o rfl (.inl ⟨_, rfl⟩) rfl rfl rfl rfl rfl (Src.slice (m := 1) (Rd.blk 0 rfl) (At.all _) rfl (one_of_all rfl)) (by omega) (by omega) ?_ | refine Gt.append tb 9 Wt.o rfl (.inl ⟨_, rfl⟩) rfl rfl rfl rfl rfl (Src.slice (m := 1) (Rd.blk 0 rfl) (At.all _) rfl (one_of_all rfl)) (by omega) (by omega) ?_ | refine Gt.append tb 10 Wt.o rfl (.inl ⟨_, rfl⟩) rfl rfl rfl rfl rfl (Src.slice (m := 1) (Rd.blk 0 rfl) (At.all _) rfl (one_of_all rfl)) (by omega) (by omega) ?_ | refine Gt.append tb 11 Wt.o rfl (.inl ⟨_, rfl⟩) rfl rfl rfl rfl rfl (Src.slice (m := 1) (Rd.blk 0 rfl) (At.all _) rfl (one_of_all rfl)) (by omega) (by omega) ?_ | refine Gt.append tb 12 Wt.o rfl (.inl ⟨_, rfl⟩) rfl rfl rfl rfl rfl (Src.slice (m := 1) (Rd.blk 0 rfl) (At.all _) rfl (one_of_all rfl)) (by omega) (by omega) ?_)
      intro q5 d5
      rw [show fts (leftR r.F o u j) ++ ftC f = fts (leftR r.F o u (j + 1)) from by rw [left_stay hf (by unfold stayF; simp [e1]), fts_append, fts_sing], show (leftR r.F o u j).length + 1 = (leftR r.F o u (j + 1)).length from by rw [left_stay hf (by unfold stayF; simp [e1])]; simp]
      (repeat (first | refine GK.ro ?_ | (refine GK.box ?_; intro bl) | (refine GK.mkMap ?_; intro bm) | (refine GK.build0 tb ?_; intro bs)))
      (refine GQ.againN ((j + 1, q5, d5)) ?_ ?_ ?_ ?_; rotate_left; (first | omega | (dsimp only; omega)); exact Sub.o; exact (fun _ s => Sat.sub SubR.o s))
      show j + 1 ≤ _
      omega
    have hb : (f.o == o) = true := by simp [e1]
    have hbn : (!f.o == o) = false := by rw [hb]; rfl
    by_cases e2 : f.u = u
    rotate_left
    · have hb2 : (f.u == u) = false := by simp [e2]
      have hbn2 : (!f.u == u) = true := by rw [hb2]; rfl
      (repeat (first | refine GK.ro ?_ | (refine GK.box ?_; intro bl) | (refine GK.mkMap ?_; intro bm) | (refine GK.build0 tb ?_; intro bs)))
      refine GL.cons ?_; refine Gt.buildLit tb (sz := 3) (n := 0) Wt.o rfl rfl (by kernel_rfl) rfl rfl rfl rfl rfl rfl ?_
      intro bx
      refine GK.heap (Γ' := [blk bx 76 (0, 0) (ftC f), row (.slice lq (leftR r.F o u j).length ld) 76 4 (leftR r.F o u j).length (fts (leftR r.F o u j)), blk b0 44 (0, 0) [uv, ov, .slice (some ⟨b1, o1, none⟩) r.F.length c], blk ba 44 (0, 0) [.slice none 0 0, .slice none 0 0, .slice none 0 0], poolOf H1]) (fun _ s => Sat.sub SubR.o s) ?_
      refine GL.cons ?_; (first | refine Gt.append tb 1 Wt.o rfl (.inl ⟨_, rfl⟩) rfl rfl rfl rfl rfl (Src.slice (m := 1) (Rd.blk 0 rfl) (At.all _) rfl (one_of_all rfl)) (by omega) (by omega) ?_ | refine Gt.append tb 2 Wt.o rfl (.inl ⟨_, rfl⟩) rfl rfl rfl rfl rfl (Src.slice (m := 1) (Rd.blk 0 rfl) (At.all _) rfl (one_of_all rfl)) (by omega) (by omega) ?_ | refine Gt.append tb 3 Wt.o rfl (.inl ⟨_, rfl⟩) rfl rfl rfl rfl rfl (Src.slice (m := 1) (Rd.blk 0 rfl) (At.all _) rfl (one_of_all rfl)) (by omega) (by omega) ?_ | refine Gt.append tb 4 Wt.o rfl (.inl ⟨_, rfl⟩) rfl rfl rfl rfl rfl (Src.slice (m := 1) (Rd.blk 0 rfl) (At.all _) rfl (one_of_all rfl)) (by omega) (by omega) ?_ | refine Gt.append tb 5 Wt.o rfl (.inl ⟨_, rfl⟩) rfl rfl rfl rfl rfl (Src.slice (m := 1) (Rd.blk 0 rfl) (At.all _) rfl (one_of_all rfl)) (by omega) (by omega) ?_ | refine Gt.append tb 6 Wt.o rfl (.inl ⟨_, rfl⟩) rfl rfl rfl rfl rfl (Src.slice (m := 1) (Rd.blk 0 rfl) (At.all _) rfl (one_of_all rfl)) (by omega) (by omega) ?_ | refine Gt.append tb 7 Wt.o rfl (.inl ⟨_, rfl⟩) rfl rfl rfl rfl rfl (Src.slice (m := 1) (Rd.blk 0 rfl) (At.all _) rfl (one_of_all rfl)) (by omega) (by omega) ?_ | refine Gt.append tb 8 Wt.o rfl (.inl ⟨_, rfl⟩) rfl rfl rfl rfl rfl (Src.slice (m := 1) (Rd.blk 0 rfl) (At.all _) rfl (one_of_all rfl)) (by omega) (by omega) ?_ | refine Gt.append tb 9 Wt.o rfl (.inl ⟨_, rfl⟩) rfl rfl rfl rfl rfl (Src.slice (m := 1) (Rd.blk 0 rfl) (At.all _) rfl (one_of_all rfl)) (by omega) (by omega) ?_ | refine Gt.append tb 10 Wt.o rfl (.inl ⟨_, rfl⟩) rfl rfl rfl rfl rfl (Src.slice (m := 1) (Rd.blk 0 rfl) (At.all _) rfl (one_of_all rfl)) (by omega) (by omega) ?_ | refine Gt.append tb 11 Wt.o rfl (.inl ⟨_, rfl⟩) rfl rfl rfl rfl rfl (Src.slice (m := 1) (Rd.blk 0 rfl) (At.all _) rfl (one_of_all rfl)) (by omega) (by omega) ?_ | refine Gt.append tb 12 Wt.o rfl (.inl ⟨_, rfl⟩) rfl rfl rfl rfl rfl (Src.slice (m := 1) (Rd.blk 0 rfl) (At.all _) rfl (one_of_all rfl)) (by omega) (by omega) ?_)
      intro q5 d5
      rw [show fts (leftR r.F o u j) ++ ftC f = fts (leftR r.F o u (j + 1)) from by rw [left_stay hf (by unfold stayF; simp [e2]), fts_append, fts_sing], show (leftR r.F o u j).length + 1 = (leftR r.F o u (j + 1)).length from by rw [left_stay hf (by unfold stayF; simp [e2])]; simp]
      (repeat (first | refine GK.ro ?_ | (refine GK.box ?_; intro bl) | (refine GK.mkMap ?_; intro bm) | (refine GK.build0 tb ?_; intro bs)))
      (refine GQ.againN ((j + 1, q5, d5)) ?_ ?_ ?_ ?_; rotate_left; (first | omega | (dsimp only; omega)); exact Sub.o; exact (fun _ s => Sat.sub SubR.o s))
      show j + 1 ≤ _
      omega
    have hb2 : (f.u == u) = true := by simp [e2]
    have hbn2 : (!f.u == u) = false := by rw [hb2]; rfl
    (repeat (first | refine GK.ro ?_ | (refine GK.box ?_; intro bl) | (refine GK.mkMap ?_; intro bm) | (refine GK.build0 tb ?_; intro bs)))
    have hs : stayF o u f = false := by unfold stayF; simp [e1, e2]
    refine GQ.againN (j + 1, lq, ld) ?_ ?_ ?_ ?_
    · show j + 1 ≤ _; omega
    · simp only at hq ⊢; omega
    · simp only [left_go hf hs, Int.natCast_add, Int.natCast_one]; exact Sub.o
    · simp only [left_go hf hs]; exact (fun _ s => Sat.sub SubR.o s)
  · have hjl : j = r.F.length := by omega
    subst hjl
    rw [left_all] at hll ⊢
    (repeat (first | refine GK.ro ?_ | (refine GK.box ?_; intro bl) | (refine GK.mkMap ?_; intro bm) | (refine GK.build0 tb ?_; intro bs)))
    refine GK.heap (Γ' := [poolOf H1, row (.slice lq (r.F.filter (stayF o u)).length ld) 76 4 (r.F.filter (stayF o u)).length (fts (r.F.filter (stayF o u))), blk b0 44 (0, 0) [uv, ov, .slice lq (r.F.filter (stayF o u)).length ld], blk ba 44 (0, 0) [.slice none 0 0, .slice none 0 0, .slice none 0 0]]) (fun _ s => Sat.sub SubR.o s) ?_
    refine GK.absorb fun H2 k2 l2 a2 m2 => ?_
    have gd := row_in a2 m2
    (repeat (first | refine GK.ro ?_ | (refine GK.box ?_; intro bl) | (refine GK.mkMap ?_; intro bm) | (refine GK.build0 tb ?_; intro bs)))
    refine GL.cons ?_; (first | refine Gt.storeAny tb 0 Wt.o rfl rfl rfl rfl (by exact tri_one ou oo rfl) rfl rfl ?_ | refine Gt.storeAny tb 1 Wt.o rfl rfl rfl rfl (by exact tri_one ou oo rfl) rfl rfl ?_ | refine Gt.storeAny tb 2 Wt.o rfl rfl rfl rfl (by exact tri_one ou oo rfl) rfl rfl ?_ | refine Gt.storeAny tb 3 Wt.o rfl rfl rfl rfl (by exact tri_one ou oo rfl) rfl rfl ?_)
    (repeat (first | refine GK.ro ?_ | (refine GK.box ?_; intro bl) | (refine GK.mkMap ?_; intro bm) | (refine GK.build0 tb ?_; intro bs)))
    exact GQ.fin2 rfl (Rv.row rfl (by kernel_rfl) (by kernel_rfl) (by first | exact Rd.blk 0 rfl | exact Rd.blk 1 rfl | exact Rd.blk 2 rfl | exact Rd.blk 3 rfl) (At.all _)) (Rv.tmp rfl) (fun _ s => Sat.sub SubR.o s) ⟨H2, uv, ov, .slice lq (r.F.filter (stayF o u)).length ld, l1.trans l2, rfl, ⟨h1.u.mono l2, h1.o.mono l2, gd, h1.nu, h1.no, by show (r.F.filter (stayF o u)).length ≤ _; omega⟩, rfl⟩
end Go.Pe
/- The document's people: a subject. -/
namespace Go.Pe
open Go Go.Sl Go.Ls
set_option maxRecDepth 100000
def inF (F : List Ft) (o u : By) (t : By) : Bool := !decide (u = []) && decide (0 ≤ factM F o t u)
def inR (F : List Ft) (o u : By) : List By := (teamsR F o).filter (inF F o u)
def inJ (F : List Ft) (o u : By) (j : Nat) : List By := ((teamsR F o).take j).filter (inF F o u)
theorem inJ_zero (F : List Ft) (o u : By) : inJ F o u 0 = [] := rfl
theorem inJ_all (F : List Ft) (o u : By) : inJ F o u (teamsR F o).length = inR F o u := by unfold inJ inR; rw [List.take_length]
theorem inJ_len (F : List Ft) (o u : By) (j : Nat) : (inJ F o u j).length ≤ (teamsR F o).length := Nat.le_trans (List.length_filter_le _ _) (by rw [List.length_take]; omega)
theorem inJ_in {F : List Ft} {o u : By} {j : Nat} {t : By} (h : (teamsR F o)[j]? = some t) (hs : inF F o u t = true) : inJ F o u (j + 1) = inJ F o u j ++ [t] := by
  obtain ⟨hl, he⟩ := List.getElem?_eq_some_iff.1 h
  unfold inJ
  rw [List.take_succ_eq_append_getElem hl, List.filter_append, he, List.filter_cons, if_pos hs]; rfl
theorem inJ_out {F : List Ft} {o u : By} {j : Nat} {t : By} (h : (teamsR F o)[j]? = some t) (hs : inF F o u t = false) : inJ F o u (j + 1) = inJ F o u j := by
  obtain ⟨hl, he⟩ := List.getElem?_eq_some_iff.1 h
  unfold inJ
  rw [List.take_succ_eq_append_getElem hl, List.filter_append, he, List.filter_cons, if_neg (by rw [hs]; decide)]; simp
def suC (u : By) (tv : Value) (r : Int) : List Value := [str u, tv, .int .i64 r]
set_option maxRecDepth 100000
set_option maxHeartbeats 4000000
attribute [local irreducible] GK GO Yl Wt Ef Hd GH KH wpListIn Code.wpIn toBody roundQ poolOf rs RS YieldOk IterOk VOk row star exs mp lp Sat pt FnOk Rd bodyPost bodyPostM Lv Ret Exit.then Exit.inBlock Exit.noGoto Int.decLt Int.decLe Int.instDecidableEq
attribute [local irreducible] u8s strs likeTo fts factM membersR teamsR roleR
set_option pp.deepTerms true
set_option pp.maxSteps 1000000
variable {hF H : Hp} {r : RP} {uv ov fv : Value}
theorem rsubject_ok {o u : By} (h : RpAt H r uv ov fv) : FnOk Go.Proofs.Try.prog 23 [.agg ⟨[uv, ov, fv]⟩, str o, str u] [poolOf H] hF
    (fun v Γ => ∃ H' tv, le H H' ∧ v = .agg ⟨suC u tv (roleR r.F o u)⟩ ∧ rs H' tv (inR r.F o u).length 1 (strs (inR r.F o u)) ∧ Γ = [poolOf H']) := by
  have h0 := h
  have hnf := h.nf
  have htl := teamsR_len r.F o
  refine FnOk.intro 48 Go.Proofs.Try.func23 rfl rfl fun w0 => ?_
  (repeat (first | refine GK.ro ?_ | (refine GK.box ?_; intro bl) | (refine GK.mkMap ?_; intro bm) | (refine GK.build0 tb ?_; intro bs) | (refine GL.cons ?_; refine GO.alloc Wt.o (by exact rfl) ?_; intro ba) | (refine GL.cons ?_; refine Gt.storeAny tb 0 Wt.o (by exact rfl) (by exact rfl) (by exact rfl) (by assumption) (by assumption) (by exact rfl) (by first | exact rfl | assumption) ?_) | (refine GL.cons ?_; refine Gt.storeAny tb 1 Wt.o (by exact rfl) (by exact rfl) (by exact rfl) (by assumption) (by assumption) (by exact rfl) (by first | exact rfl | assumption) ?_) | (refine GL.cons ?_; refine Gt.storeAny tb 2 Wt.o (by exact rfl) (by exact rfl) (by exact rfl) (by assumption) (by assumption) (by exact rfl) (by first | exact rfl | assumption) ?_) | (refine GL.cons ?_; refine Gt.storeAny tb 3 Wt.o (by exact rfl) (by exact rfl) (by exact rfl) (by assumption) (by assumption) (by exact rfl) (by first | exact rfl | assumption) ?_) | (refine GL.cons ?_; refine Gt.storeAny tb 4 Wt.o (by exact rfl) (by exact rfl) (by exact rfl) (by assumption) (by assumption) (by exact rfl) (by first | exact rfl | assumption) ?_) | (refine GL.cons ?_; refine Gt.storeAny tb 5 Wt.o (by exact rfl) (by exact rfl) (by exact rfl) (by assumption) (by assumption) (by exact rfl) (by first | exact rfl | assumption) ?_) | (refine GL.cons ?_; refine Gt.storeAny tb 6 Wt.o (by exact rfl) (by exact rfl) (by exact rfl) (by assumption) (by assumption) (by exact rfl) (by first | exact rfl | assumption) ?_) | (refine GL.cons ?_; refine Gt.storeAny tb 7 Wt.o (by exact rfl) (by exact rfl) (by exact rfl) (by assumption) (by assumption) (by exact rfl) (by first | exact rfl | assumption) ?_) | (refine GL.cons ?_; refine Gt.storeAny tb 8 Wt.o (by exact rfl) (by exact rfl) (by exact rfl) (by assumption) (by assumption) (by exact rfl) (by first | exact rfl | assumption) ?_) | (refine GL.cons ?_; refine Gt.storeAny tb 9 Wt.o (by exact rfl) (by exact rfl) (by exact rfl) (by assumption) (by assumption) (by exact rfl) (by first | exact rfl | assumption) ?_)))
  obtain ⟨b0, rfl⟩ : ∃ b0, b0 = bl := ⟨_, rfl⟩
  obtain ⟨b6, rfl⟩ : ∃ b6, b6 = ba := ⟨_, rfl⟩
  refine GL.cons ?_; refine GO.callA (fun hF' hle hH => roleR_ok (o := o) (u := u) h0) Wt.o (by kernel_rfl) rfl rfl SubR.o ?_
  rintro v Γ' ⟨rfl, rfl⟩
  (repeat (first | refine GK.ro ?_ | (refine GK.box ?_; intro bl) | (refine GK.mkMap ?_; intro bm) | (refine GK.build0 tb ?_; intro bs)))
  refine GL.cons ?_; refine GO.alloc Wt.o (by exact rfl) ?_
  intro b7
  (repeat (first | refine GK.ro ?_ | (refine GK.box ?_; intro bl) | (refine GK.mkMap ?_; intro bm) | (refine GK.build0 tb ?_; intro bs)))
  refine GL.cons ?_; (first | refine Gt.storeAny tb 0 Wt.o rfl rfl rfl rfl (one_of_all rfl) rfl rfl ?_ | refine Gt.storeAny tb 1 Wt.o rfl rfl rfl rfl (one_of_all rfl) rfl rfl ?_)
  (repeat (first | refine GK.ro ?_ | (refine GK.box ?_; intro bl) | (refine GK.mkMap ?_; intro bm) | (refine GK.build0 tb ?_; intro bs)))
  refine GL.cons ?_; refine GO.callA (fun hF' hle hH => rteams_ok (o := o) h0) Wt.o (by kernel_rfl) rfl rfl SubR.o ?_
  rintro v Γ' ⟨H1, l1, hm, rfl⟩
  have h1 := h0.mono l1
  obtain ⟨p, c, rfl, hc, hln, hr⟩ := rs.out hm
  (repeat (first | refine GK.ro ?_ | (refine GK.box ?_; intro bl) | (refine GK.mkMap ?_; intro bm) | (refine GK.build0 tb ?_; intro bs)))
  refine G.loopK (X := Nat × Option Addr × Nat) [(1, _), (2, _), (3, _), (6, _), (7, _), (8, _)] (fun (j, _, _) => [(9, .int .i64 (j : Int))]) (fun (j, _, _) => (teamsR r.F o).length - j)
    (fun (j, q, d) => [row (.slice q (inJ r.F o u j).length d) 9 1 (inJ r.F o u j).length (strs (inJ r.F o u j)), blk b7 35 (0, 0) [str u, .slice q (inJ r.F o u j).length d, .int .i64 (roleR r.F o u)], blk b0 44 (0, 0) [uv, ov, fv], blk b6 35 (0, 0) [str [], .slice none 0 0, .int .i64 0], poolOf H1])
    (fun (j, _, _) => j ≤ (teamsR r.F o).length) (0, none, 0) (Nat.zero_le _) Sub.o
    (fun w s => by simp only [inJ_zero, List.length_nil]; show Sat [row (.slice none 0 0) 9 1 0 (strs []), blk b7 35 (0, 0) [str u, .slice none 0 0, .int .i64 (roleR r.F o u)], blk b0 44 (0, 0) [uv, ov, fv], blk b6 35 (0, 0) [str [], .slice none 0 0, .int .i64 0], poolOf H1] _ w; rw [strs_nil]; exact Sl.Sat.row_nil (Sl.Sat.sub SubR.o s)) (fun z hz q hq => ?_)
  obtain ⟨j, iq, idd⟩ := z
  dsimp only [List.cons_append, List.nil_append] at hq hz ⊢
  have hll := inJ_len r.F o u j
  (repeat (first | refine GK.ro ?_ | (refine GK.box ?_; intro bl) | (refine GK.mkMap ?_; intro bm) | (refine GK.build0 tb ?_; intro bs)))
  (first | refine G.condP rfl (fun hb => ?_) (fun hb => ?_) | refine G.condN rfl (fun hb => ?_) (fun hb => ?_) | refine G.cond rfl (fun hb => ?_) (fun hb => ?_))
  · obtain ⟨t, ht⟩ : ∃ t, (teamsR r.F o)[j]? = some t := ⟨_, List.getElem?_eq_getElem (by omega)⟩
    have hlt : j < (teamsR r.F o).length := by omega
    clear hb
    obtain ⟨b1, o1, cs1, et1, fz1, rfl, hb1, hat1⟩ := hr (by omega)
    have hA1 : cs1[o1 + (j : Int).toNat * 1]? = some (str t) := by have := hat1 j _ (strs_get ht); simpa using this
    by_cases e1 : u = []
    · have hb : (u == []) = true := by simp [e1]
      have hb2 : (!u == []) = false := by rw [hb]; rfl
      (repeat (first | refine GK.ro ?_ | (refine GK.box ?_; intro bl) | (refine GK.mkMap ?_; intro bm) | (refine GK.build0 tb ?_; intro bs)))
      refine G.draw [] [blk b0 44 (0, 0) [uv, ov, fv], blk b6 35 (0, 0) [str [], .slice none 0 0, .int .i64 0], poolOf H1] (by kernel_rfl) ?_
      ((first | refine GH.to 0 ?_ | refine GH.tos 0 ?_); (first | refine GH.to 1 ?_ | refine GH.tos 1 ?_); (first | refine GH.to 2 ?_ | refine GH.tos 2 ?_); (first | refine GH.to 3 ?_ | refine GH.tos 3 ?_); (first | refine GH.to 4 ?_ | refine GH.tos 4 ?_); (first | refine GH.to 5 ?_ | refine GH.tos 5 ?_); (first | refine GH.to 6 ?_ | refine GH.tos 6 ?_); (first | refine GH.to 7 ?_ | refine GH.tos 7 ?_); (first | refine GH.to 8 ?_ | refine GH.tos 8 ?_); (first | refine GH.to 9 ?_ | refine GH.tos 9 ?_); (first | refine GH.to 10 ?_ | refine GH.tos 10 ?_); (first | refine GH.to 11 ?_ | refine GH.tos 11 ?_); (first | refine GH.to 12 ?_ | refine GH.tos 12 ?_))
      refine GH.fin (by kernel_rfl) ?_
      (repeat (first | refine GK.ro ?_ | (refine GK.box ?_; intro bl) | (refine GK.mkMap ?_; intro bm) | (refine GK.build0 tb ?_; intro bs)))
      have hs : inF r.F o u t = false := by unfold inF; simp [e1]
      refine GQ.againN (j + 1, iq, idd) ?_ ?_ ?_ ?_
      · show j + 1 ≤ _; omega
      · simp only at hq ⊢; omega
      · simp only [inJ_out ht hs, Int.natCast_add, Int.natCast_one]; exact Sub.o
      · simp only [inJ_out ht hs]; exact (fun _ s => Sat.sub SubR.o s)
    have hb : (u == []) = false := by simp [e1]
    have hb2 : (!u == []) = true := by rw [hb]; rfl
    (repeat (first | refine GK.ro ?_ | (refine GK.box ?_; intro bl) | (refine GK.mkMap ?_; intro bm) | (refine GK.build0 tb ?_; intro bs)))
    refine G.draw [] [blk b0 44 (0, 0) [uv, ov, fv], blk b6 35 (0, 0) [str [], .slice none 0 0, .int .i64 0], poolOf H1] (by kernel_rfl) ?_
    ((first | refine GH.to 0 ?_ | refine GH.tos 0 ?_); (first | refine GH.to 1 ?_ | refine GH.tos 1 ?_); (first | refine GH.to 2 ?_ | refine GH.tos 2 ?_); (first | refine GH.to 3 ?_ | refine GH.tos 3 ?_); (first | refine GH.to 4 ?_ | refine GH.tos 4 ?_); (first | refine GH.to 5 ?_ | refine GH.tos 5 ?_); (first | refine GH.to 6 ?_ | refine GH.tos 6 ?_); (first | refine GH.to 7 ?_ | refine GH.tos 7 ?_); (first | refine GH.to 8 ?_ | refine GH.tos 8 ?_); (first | refine GH.to 9 ?_ | refine GH.tos 9 ?_))
    refine GH.step 10 rfl (by kernel_rfl) ?_
    refine GO.callA (fun hF' hle hH => fact_ok (o := o) (t := t) (u := u) h1) Wt.o (by kernel_rfl) rfl rfl SubR.o ?_
    rintro v Γ' ⟨rfl, rfl⟩
    refine GH.keep (fun _ s => Sat.sub SubR.o s) ?_
    ((first | refine GH.to 11 ?_ | refine GH.tos 11 ?_); (first | refine GH.to 12 ?_ | refine GH.tos 12 ?_))
    refine GH.fin (by kernel_rfl) ?_
    by_cases hf : 0 ≤ factM r.F o t u
    · (repeat (first | refine GK.ro ?_ | (refine GK.box ?_; intro bl) | (refine GK.mkMap ?_; intro bm) | (refine GK.build0 tb ?_; intro bs)))
      refine G.draw [9] [blk b7 35 (0, 0) [str u, .slice iq (inJ r.F o u j).length idd, .int .i64 (roleR r.F o u)], poolOf H1] (by kernel_rfl) ?_
      ((first | refine GH.to 0 ?_ | refine GH.tos 0 ?_); (first | refine GH.to 1 ?_ | refine GH.tos 1 ?_); (first | refine GH.to 2 ?_ | refine GH.tos 2 ?_); (first | refine GH.to 3 ?_ | refine GH.tos 3 ?_); (first | refine GH.to 4 ?_ | refine GH.tos 4 ?_); (first | refine GH.to 5 ?_ | refine GH.tos 5 ?_))
      refine GH.step 6 rfl (by kernel_rfl) ?_
      refine Gt.buildLit tb (sz := 0) (n := 0) Wt.o rfl rfl (by kernel_rfl) rfl rfl rfl rfl rfl rfl ?_
      intro bx
      refine GH.keep (fun _ s => Sat.sub SubR.o s) ?_
      refine GH.heap (Γ' := [blk bx 9 (0, 0) [str t], row (.slice iq (inJ r.F o u j).length idd) 9 1 (inJ r.F o u j).length (strs (inJ r.F o u j)), blk b7 35 (0, 0) [str u, .slice iq (inJ r.F o u j).length idd, .int .i64 (roleR r.F o u)], blk b0 44 (0, 0) [uv, ov, fv], blk b6 35 (0, 0) [str [], .slice none 0 0, .int .i64 0], poolOf H1]) (fun _ s => Sat.sub SubR.o s) ?_
      refine GH.step 7 rfl (by kernel_rfl) ?_
      refine Gt.append tb 1 Wt.o rfl (.inl ⟨_, rfl⟩) rfl rfl rfl rfl rfl (Src.slice (m := 1) (Rd.blk 0 rfl) (At.all _) rfl (one_of_all rfl)) (by omega) (by omega) ?_
      intro q5 d5
      refine GH.keep (fun _ s => Sat.sub SubR.o s) ?_
      rw [show strs (inJ r.F o u j) ++ [str t] = strs (inJ r.F o u (j + 1)) from by rw [inJ_in ht (by unfold inF; simp [e1, hf])]; unfold strs; simp, show (inJ r.F o u j).length + 1 = (inJ r.F o u (j + 1)).length from by rw [inJ_in ht (by unfold inF; simp [e1, hf])]; simp]
      refine GH.heap (Γ' := [blk b7 35 (0, 0) [str u, .slice iq (inJ r.F o u j).length idd, .int .i64 (roleR r.F o u)], row (.slice q5 (inJ r.F o u (j + 1)).length d5) 9 1 (inJ r.F o u (j + 1)).length (strs (inJ r.F o u (j + 1))), blk b0 44 (0, 0) [uv, ov, fv], blk b6 35 (0, 0) [str [], .slice none 0 0, .int .i64 0], poolOf H1]) (fun _ s => Sat.sub SubR.o s) ?_
      ((first | refine GH.to 8 ?_ | refine GH.tos 8 ?_))
      refine GH.step 9 rfl (by kernel_rfl) ?_
      refine Gt.storeAt tb 0 Wt.o rfl rfl rfl rfl rfl (by show 0 + 1 < 3; omega) rfl ?_
      refine GH.on rfl ?_
      refine GH.fin (by kernel_rfl) ?_
      (repeat (first | refine GK.ro ?_ | (refine GK.box ?_; intro bl) | (refine GK.mkMap ?_; intro bm) | (refine GK.build0 tb ?_; intro bs)))
      (refine GQ.againN ((j + 1, q5, d5)) ?_ ?_ ?_ ?_; rotate_left; (first | omega | (dsimp only; omega)); exact Sub.o; exact (fun _ s => Sat.sub SubR.o s))
      show j + 1 ≤ _
      omega
    · (repeat (first | refine GK.ro ?_ | (refine GK.box ?_; intro bl) | (refine GK.mkMap ?_; intro bm) | (refine GK.build0 tb ?_; intro bs)))
      have hs : inF r.F o u t = false := by unfold inF; simp [hf]
      refine GQ.againN (j + 1, iq, idd) ?_ ?_ ?_ ?_
      · show j + 1 ≤ _; omega
      · simp only at hq ⊢; omega
      · simp only [inJ_out ht hs, Int.natCast_add, Int.natCast_one]; exact Sub.o
      · simp only [inJ_out ht hs]; exact (fun _ s => Sat.sub SubR.o s)
  · have hjl : j = (teamsR r.F o).length := by omega
    subst hjl
    rw [inJ_all] at hll ⊢
    (repeat (first | refine GK.ro ?_ | (refine GK.box ?_; intro bl) | (refine GK.mkMap ?_; intro bm) | (refine GK.build0 tb ?_; intro bs)))
    refine GK.heap (Γ' := [poolOf H1, row (.slice iq (inR r.F o u).length idd) 9 1 (inR r.F o u).length (strs (inR r.F o u)), blk b7 35 (0, 0) [str u, .slice iq (inR r.F o u).length idd, .int .i64 (roleR r.F o u)], blk b0 44 (0, 0) [uv, ov, fv], blk b6 35 (0, 0) [str [], .slice none 0 0, .int .i64 0]]) (fun _ s => Sat.sub SubR.o s) ?_
    refine GK.absorb fun H2 k2 l2 a2 m2 => ?_
    have gd := row_in a2 m2
    (repeat (first | refine GK.ro ?_ | (refine GK.box ?_; intro bl) | (refine GK.mkMap ?_; intro bm) | (refine GK.build0 tb ?_; intro bs)))
    refine GL.cons ?_; (first | refine Gt.storeAny tb 0 Wt.o rfl rfl rfl rfl (one_of_all rfl) rfl rfl ?_ | refine Gt.storeAny tb 1 Wt.o rfl rfl rfl rfl (one_of_all rfl) rfl rfl ?_ | refine Gt.storeAny tb 2 Wt.o rfl rfl rfl rfl (one_of_all rfl) rfl rfl ?_ | refine Gt.storeAny tb 3 Wt.o rfl rfl rfl rfl (one_of_all rfl) rfl rfl ?_)
    (repeat (first | refine GK.ro ?_ | (refine GK.box ?_; intro bl) | (refine GK.mkMap ?_; intro bm) | (refine GK.build0 tb ?_; intro bs)))
    exact GQ.fin1 rfl (Rv.row rfl (by kernel_rfl) (by kernel_rfl) (by first | exact Rd.blk 0 rfl | exact Rd.blk 1 rfl | exact Rd.blk 2 rfl | exact Rd.blk 3 rfl) (At.all _)) (fun _ s => Sat.sub SubR.o s) ⟨H2, .slice iq (inR r.F o u).length idd, l1.trans l2, rfl, gd, rfl⟩
end Go.Pe
/- The document's people: one act. -/
namespace Go.Pe
open Go Go.Sl Go.Ls
set_option maxRecDepth 100000
def modelM (r : RP) (x : Ac) : Int × RP :=
  if x.k = 0 then raddUserM r x.u else if x.k = 1 then raddOrgM r x.o x.u else if x.k = 2 then rjoinM r x.o x.u x.r else if x.k = 3 then rleaveM r x.o x.u
  else if x.k = 4 then raddTeamM r x.o x.t else if x.k = 5 then rputM r x.o x.t x.u else routM r x.o x.t x.u
set_option maxRecDepth 100000
set_option maxHeartbeats 4000000
attribute [local irreducible] GK GO Yl Wt Ef Hd GH KH wpListIn Code.wpIn toBody roundQ poolOf rs RS YieldOk IterOk VOk row star exs mp lp Sat pt FnOk Rd bodyPost bodyPostM Lv Ret Exit.then Exit.inBlock Exit.noGoto Int.decLt Int.decLe Int.instDecidableEq
attribute [local irreducible] u8s strs likeTo fts factM membersR teamsR roleR ownersR lastR Pa.nameM raddUserM raddOrgM rjoinM rleaveM raddTeamM rputM routM
set_option pp.deepTerms true
set_option pp.maxSteps 1000000
variable {hF H : Hp} {r : RP} {uv ov fv : Value}
theorem model_ok {x : Ac} (hx : x.Ok) (h : RpAt H r uv ov fv) (hn : r.U.length < 1000000) (hn2 : r.O.length < 1000000) (hnf : r.F.length < 1000000) : FnOk Go.Proofs.Try.prog 20 [.agg ⟨[uv, ov, fv]⟩, .agg ⟨actC x⟩] [poolOf H] hF (fun v Γ => Leaves H (modelM r x) v Γ) := by
  have h0 := h
  obtain ⟨c0, c1, c2, c3, c4⟩ := acC_get x
  have hu := hx.u
  have ho := hx.o
  have ht := hx.t
  refine FnOk.intro 80 Go.Proofs.Try.func20 rfl rfl fun w0 => ?_
  (repeat (first | refine GK.ro ?_ | (refine GK.box ?_; intro bl) | (refine GK.mkMap ?_; intro bm) | (refine GK.build0 tb ?_; intro bs) | (refine GL.cons ?_; refine GO.alloc Wt.o (by exact rfl) ?_; intro ba) | (refine GL.cons ?_; refine Gt.storeAny tb 0 Wt.o (by exact rfl) (by exact rfl) (by exact rfl) (by assumption) (by assumption) (by exact rfl) (by first | exact rfl | assumption) ?_) | (refine GL.cons ?_; refine Gt.storeAny tb 1 Wt.o (by exact rfl) (by exact rfl) (by exact rfl) (by assumption) (by assumption) (by exact rfl) (by first | exact rfl | assumption) ?_) | (refine GL.cons ?_; refine Gt.storeAny tb 2 Wt.o (by exact rfl) (by exact rfl) (by exact rfl) (by assumption) (by assumption) (by exact rfl) (by first | exact rfl | assumption) ?_) | (refine GL.cons ?_; refine Gt.storeAny tb 3 Wt.o (by exact rfl) (by exact rfl) (by exact rfl) (by assumption) (by assumption) (by exact rfl) (by first | exact rfl | assumption) ?_) | (refine GL.cons ?_; refine Gt.storeAny tb 4 Wt.o (by exact rfl) (by exact rfl) (by exact rfl) (by assumption) (by assumption) (by exact rfl) (by first | exact rfl | assumption) ?_) | (refine GL.cons ?_; refine Gt.storeAny tb 5 Wt.o (by exact rfl) (by exact rfl) (by exact rfl) (by assumption) (by assumption) (by exact rfl) (by first | exact rfl | assumption) ?_) | (refine GL.cons ?_; refine Gt.storeAny tb 6 Wt.o (by exact rfl) (by exact rfl) (by exact rfl) (by assumption) (by assumption) (by exact rfl) (by first | exact rfl | assumption) ?_) | (refine GL.cons ?_; refine Gt.storeAny tb 7 Wt.o (by exact rfl) (by exact rfl) (by exact rfl) (by assumption) (by assumption) (by exact rfl) (by first | exact rfl | assumption) ?_) | (refine GL.cons ?_; refine Gt.storeAny tb 8 Wt.o (by exact rfl) (by exact rfl) (by exact rfl) (by assumption) (by assumption) (by exact rfl) (by first | exact rfl | assumption) ?_) | (refine GL.cons ?_; refine Gt.storeAny tb 9 Wt.o (by exact rfl) (by exact rfl) (by exact rfl) (by assumption) (by assumption) (by exact rfl) (by first | exact rfl | assumption) ?_)))
  by_cases k0 : x.k = 0
  · rw [show modelM r x = raddUserM r x.u from if_pos k0]
    (repeat (first | refine GK.ro ?_ | (refine GK.box ?_; intro bl) | (refine GK.mkMap ?_; intro bm) | (refine GK.build0 tb ?_; intro bs)))
    refine GL.cons ?_; refine GO.callA (fun hF' hle hH => raddUser_ok (u := x.u) h0 (by omega) hn) Wt.o (by kernel_rfl) rfl rfl SubR.o ?_
    rintro v Γ' ⟨H1, uv1, ov1, fv1, l1, rfl, h1, rfl⟩
    have ou := h1.u.one
    have oo := h1.o.one
    have of2 := h1.f.one
    (repeat (first | refine GK.ro ?_ | (refine GK.box ?_; intro bl) | (refine GK.mkMap ?_; intro bm) | (refine GK.build0 tb ?_; intro bs)))
    refine GL.cons ?_; (first | refine Gt.storeAny tb 0 Wt.o rfl rfl rfl rfl (by exact tri_one ou oo of2) rfl rfl ?_ | refine Gt.storeAny tb 1 Wt.o rfl rfl rfl rfl (by exact tri_one ou oo of2) rfl rfl ?_ | refine Gt.storeAny tb 2 Wt.o rfl rfl rfl rfl (by exact tri_one ou oo of2) rfl rfl ?_ | refine Gt.storeAny tb 3 Wt.o rfl rfl rfl rfl (by exact tri_one ou oo of2) rfl rfl ?_)
    (repeat (first | refine GK.ro ?_ | (refine GK.box ?_; intro bl) | (refine GK.mkMap ?_; intro bm) | (refine GK.build0 tb ?_; intro bs)))
    exact GQ.fin2 rfl (Rv.row rfl (by kernel_rfl) (by kernel_rfl) (by first | exact Rd.blk 0 rfl | exact Rd.blk 1 rfl | exact Rd.blk 2 rfl | exact Rd.blk 3 rfl) (At.all _)) (Rv.tmp rfl) (fun _ s => Sat.sub SubR.o s) ⟨H1, uv1, ov1, fv1, l1, rfl, h1, rfl⟩
  by_cases k1 : x.k = 1
  · rw [show modelM r x = raddOrgM r x.o x.u from (if_neg k0).trans (if_pos k1)]
    (repeat (first | refine GK.ro ?_ | (refine GK.box ?_; intro bl) | (refine GK.mkMap ?_; intro bm) | (refine GK.build0 tb ?_; intro bs)))
    refine GL.cons ?_; refine GO.callA (fun hF' hle hH => raddOrg_ok (n := x.o) (w := x.u) h0 (by omega) hn2 hnf) Wt.o (by kernel_rfl) rfl rfl SubR.o ?_
    rintro v Γ' ⟨H1, uv1, ov1, fv1, l1, rfl, h1, rfl⟩
    have ou := h1.u.one
    have oo := h1.o.one
    have of2 := h1.f.one
    (repeat (first | refine GK.ro ?_ | (refine GK.box ?_; intro bl) | (refine GK.mkMap ?_; intro bm) | (refine GK.build0 tb ?_; intro bs)))
    refine GL.cons ?_; (first | refine Gt.storeAny tb 0 Wt.o rfl rfl rfl rfl (by exact tri_one ou oo of2) rfl rfl ?_ | refine Gt.storeAny tb 1 Wt.o rfl rfl rfl rfl (by exact tri_one ou oo of2) rfl rfl ?_ | refine Gt.storeAny tb 2 Wt.o rfl rfl rfl rfl (by exact tri_one ou oo of2) rfl rfl ?_ | refine Gt.storeAny tb 3 Wt.o rfl rfl rfl rfl (by exact tri_one ou oo of2) rfl rfl ?_)
    (repeat (first | refine GK.ro ?_ | (refine GK.box ?_; intro bl) | (refine GK.mkMap ?_; intro bm) | (refine GK.build0 tb ?_; intro bs)))
    exact GQ.fin2 rfl (Rv.row rfl (by kernel_rfl) (by kernel_rfl) (by first | exact Rd.blk 0 rfl | exact Rd.blk 1 rfl | exact Rd.blk 2 rfl | exact Rd.blk 3 rfl) (At.all _)) (Rv.tmp rfl) (fun _ s => Sat.sub SubR.o s) ⟨H1, uv1, ov1, fv1, l1, rfl, h1, rfl⟩
  by_cases k2 : x.k = 2
  · rw [show modelM r x = rjoinM r x.o x.u x.r from (if_neg k0).trans ((if_neg k1).trans (if_pos k2))]
    (repeat (first | refine GK.ro ?_ | (refine GK.box ?_; intro bl) | (refine GK.mkMap ?_; intro bm) | (refine GK.build0 tb ?_; intro bs)))
    refine GL.cons ?_; refine GO.callA (fun hF' hle hH => rjoin_ok (o := x.o) (u := x.u) (k := x.r) h0 hnf) Wt.o (by kernel_rfl) rfl rfl SubR.o ?_
    rintro v Γ' ⟨H1, uv1, ov1, fv1, l1, rfl, h1, rfl⟩
    have ou := h1.u.one
    have oo := h1.o.one
    have of2 := h1.f.one
    (repeat (first | refine GK.ro ?_ | (refine GK.box ?_; intro bl) | (refine GK.mkMap ?_; intro bm) | (refine GK.build0 tb ?_; intro bs)))
    refine GL.cons ?_; (first | refine Gt.storeAny tb 0 Wt.o rfl rfl rfl rfl (by exact tri_one ou oo of2) rfl rfl ?_ | refine Gt.storeAny tb 1 Wt.o rfl rfl rfl rfl (by exact tri_one ou oo of2) rfl rfl ?_ | refine Gt.storeAny tb 2 Wt.o rfl rfl rfl rfl (by exact tri_one ou oo of2) rfl rfl ?_ | refine Gt.storeAny tb 3 Wt.o rfl rfl rfl rfl (by exact tri_one ou oo of2) rfl rfl ?_)
    (repeat (first | refine GK.ro ?_ | (refine GK.box ?_; intro bl) | (refine GK.mkMap ?_; intro bm) | (refine GK.build0 tb ?_; intro bs)))
    exact GQ.fin2 rfl (Rv.row rfl (by kernel_rfl) (by kernel_rfl) (by first | exact Rd.blk 0 rfl | exact Rd.blk 1 rfl | exact Rd.blk 2 rfl | exact Rd.blk 3 rfl) (At.all _)) (Rv.tmp rfl) (fun _ s => Sat.sub SubR.o s) ⟨H1, uv1, ov1, fv1, l1, rfl, h1, rfl⟩
  by_cases k3 : x.k = 3
  · rw [show modelM r x = rleaveM r x.o x.u from (if_neg k0).trans ((if_neg k1).trans ((if_neg k2).trans (if_pos k3)))]
    (repeat (first | refine GK.ro ?_ | (refine GK.box ?_; intro bl) | (refine GK.mkMap ?_; intro bm) | (refine GK.build0 tb ?_; intro bs)))
    refine GL.cons ?_; refine GO.callA (fun hF' hle hH => rleave_ok (o := x.o) (u := x.u) h0) Wt.o (by kernel_rfl) rfl rfl SubR.o ?_
    rintro v Γ' ⟨H1, uv1, ov1, fv1, l1, rfl, h1, rfl⟩
    have ou := h1.u.one
    have oo := h1.o.one
    have of2 := h1.f.one
    (repeat (first | refine GK.ro ?_ | (refine GK.box ?_; intro bl) | (refine GK.mkMap ?_; intro bm) | (refine GK.build0 tb ?_; intro bs)))
    refine GL.cons ?_; (first | refine Gt.storeAny tb 0 Wt.o rfl rfl rfl rfl (by exact tri_one ou oo of2) rfl rfl ?_ | refine Gt.storeAny tb 1 Wt.o rfl rfl rfl rfl (by exact tri_one ou oo of2) rfl rfl ?_ | refine Gt.storeAny tb 2 Wt.o rfl rfl rfl rfl (by exact tri_one ou oo of2) rfl rfl ?_ | refine Gt.storeAny tb 3 Wt.o rfl rfl rfl rfl (by exact tri_one ou oo of2) rfl rfl ?_)
    (repeat (first | refine GK.ro ?_ | (refine GK.box ?_; intro bl) | (refine GK.mkMap ?_; intro bm) | (refine GK.build0 tb ?_; intro bs)))
    exact GQ.fin2 rfl (Rv.row rfl (by kernel_rfl) (by kernel_rfl) (by first | exact Rd.blk 0 rfl | exact Rd.blk 1 rfl | exact Rd.blk 2 rfl | exact Rd.blk 3 rfl) (At.all _)) (Rv.tmp rfl) (fun _ s => Sat.sub SubR.o s) ⟨H1, uv1, ov1, fv1, l1, rfl, h1, rfl⟩
  by_cases k4 : x.k = 4
  · rw [show modelM r x = raddTeamM r x.o x.t from (if_neg k0).trans ((if_neg k1).trans ((if_neg k2).trans ((if_neg k3).trans (if_pos k4))))]
    (repeat (first | refine GK.ro ?_ | (refine GK.box ?_; intro bl) | (refine GK.mkMap ?_; intro bm) | (refine GK.build0 tb ?_; intro bs)))
    refine GL.cons ?_; refine GO.callA (fun hF' hle hH => raddTeam_ok (o := x.o) (t := x.t) h0 (by omega) hnf) Wt.o (by kernel_rfl) rfl rfl SubR.o ?_
    rintro v Γ' ⟨H1, uv1, ov1, fv1, l1, rfl, h1, rfl⟩
    have ou := h1.u.one
    have oo := h1.o.one
    have of2 := h1.f.one
    (repeat (first | refine GK.ro ?_ | (refine GK.box ?_; intro bl) | (refine GK.mkMap ?_; intro bm) | (refine GK.build0 tb ?_; intro bs)))
    refine GL.cons ?_; (first | refine Gt.storeAny tb 0 Wt.o rfl rfl rfl rfl (by exact tri_one ou oo of2) rfl rfl ?_ | refine Gt.storeAny tb 1 Wt.o rfl rfl rfl rfl (by exact tri_one ou oo of2) rfl rfl ?_ | refine Gt.storeAny tb 2 Wt.o rfl rfl rfl rfl (by exact tri_one ou oo of2) rfl rfl ?_ | refine Gt.storeAny tb 3 Wt.o rfl rfl rfl rfl (by exact tri_one ou oo of2) rfl rfl ?_)
    (repeat (first | refine GK.ro ?_ | (refine GK.box ?_; intro bl) | (refine GK.mkMap ?_; intro bm) | (refine GK.build0 tb ?_; intro bs)))
    exact GQ.fin2 rfl (Rv.row rfl (by kernel_rfl) (by kernel_rfl) (by first | exact Rd.blk 0 rfl | exact Rd.blk 1 rfl | exact Rd.blk 2 rfl | exact Rd.blk 3 rfl) (At.all _)) (Rv.tmp rfl) (fun _ s => Sat.sub SubR.o s) ⟨H1, uv1, ov1, fv1, l1, rfl, h1, rfl⟩
  by_cases k5 : x.k = 5
  · rw [show modelM r x = rputM r x.o x.t x.u from (if_neg k0).trans ((if_neg k1).trans ((if_neg k2).trans ((if_neg k3).trans ((if_neg k4).trans (if_pos k5)))))]
    (repeat (first | refine GK.ro ?_ | (refine GK.box ?_; intro bl) | (refine GK.mkMap ?_; intro bm) | (refine GK.build0 tb ?_; intro bs)))
    refine GL.cons ?_; refine GO.callA (fun hF' hle hH => rput_ok (o := x.o) (t := x.t) (u := x.u) h0 hnf) Wt.o (by kernel_rfl) rfl rfl SubR.o ?_
    rintro v Γ' ⟨H1, uv1, ov1, fv1, l1, rfl, h1, rfl⟩
    have ou := h1.u.one
    have oo := h1.o.one
    have of2 := h1.f.one
    (repeat (first | refine GK.ro ?_ | (refine GK.box ?_; intro bl) | (refine GK.mkMap ?_; intro bm) | (refine GK.build0 tb ?_; intro bs)))
    refine GL.cons ?_; (first | refine Gt.storeAny tb 0 Wt.o rfl rfl rfl rfl (by exact tri_one ou oo of2) rfl rfl ?_ | refine Gt.storeAny tb 1 Wt.o rfl rfl rfl rfl (by exact tri_one ou oo of2) rfl rfl ?_ | refine Gt.storeAny tb 2 Wt.o rfl rfl rfl rfl (by exact tri_one ou oo of2) rfl rfl ?_ | refine Gt.storeAny tb 3 Wt.o rfl rfl rfl rfl (by exact tri_one ou oo of2) rfl rfl ?_)
    (repeat (first | refine GK.ro ?_ | (refine GK.box ?_; intro bl) | (refine GK.mkMap ?_; intro bm) | (refine GK.build0 tb ?_; intro bs)))
    exact GQ.fin2 rfl (Rv.row rfl (by kernel_rfl) (by kernel_rfl) (by first | exact Rd.blk 0 rfl | exact Rd.blk 1 rfl | exact Rd.blk 2 rfl | exact Rd.blk 3 rfl) (At.all _)) (Rv.tmp rfl) (fun _ s => Sat.sub SubR.o s) ⟨H1, uv1, ov1, fv1, l1, rfl, h1, rfl⟩
  · rw [show modelM r x = routM r x.o x.t x.u from (if_neg k0).trans ((if_neg k1).trans ((if_neg k2).trans ((if_neg k3).trans ((if_neg k4).trans (if_neg k5)))))]
    (repeat (first | refine GK.ro ?_ | (refine GK.box ?_; intro bl) | (refine GK.mkMap ?_; intro bm) | (refine GK.build0 tb ?_; intro bs)))
    refine GL.cons ?_; refine GO.callA (fun hF' hle hH => rout_ok (o := x.o) (t := x.t) (u := x.u) h0) Wt.o (by kernel_rfl) rfl rfl SubR.o ?_
    rintro v Γ' ⟨H1, uv1, ov1, fv1, l1, rfl, h1, rfl⟩
    have ou := h1.u.one
    have oo := h1.o.one
    have of2 := h1.f.one
    (repeat (first | refine GK.ro ?_ | (refine GK.box ?_; intro bl) | (refine GK.mkMap ?_; intro bm) | (refine GK.build0 tb ?_; intro bs)))
    refine GL.cons ?_; (first | refine Gt.storeAny tb 0 Wt.o rfl rfl rfl rfl (by exact tri_one ou oo of2) rfl rfl ?_ | refine Gt.storeAny tb 1 Wt.o rfl rfl rfl rfl (by exact tri_one ou oo of2) rfl rfl ?_ | refine Gt.storeAny tb 2 Wt.o rfl rfl rfl rfl (by exact tri_one ou oo of2) rfl rfl ?_ | refine Gt.storeAny tb 3 Wt.o rfl rfl rfl rfl (by exact tri_one ou oo of2) rfl rfl ?_)
    (repeat (first | refine GK.ro ?_ | (refine GK.box ?_; intro bl) | (refine GK.mkMap ?_; intro bm) | (refine GK.build0 tb ?_; intro bs)))
    exact GQ.fin2 rfl (Rv.row rfl (by kernel_rfl) (by kernel_rfl) (by first | exact Rd.blk 0 rfl | exact Rd.blk 1 rfl | exact Rd.blk 2 rfl | exact Rd.blk 3 rfl) (At.all _)) (Rv.tmp rfl) (fun _ s => Sat.sub SubR.o s) ⟨H1, uv1, ov1, fv1, l1, rfl, h1, rfl⟩
end Go.Pe
