/- The chapter's example. -/
import Derived.Test.YtbbfhchceimflaaDoorPbM
set_option linter.unusedSimpArgs false
set_option linter.unusedVariables false
namespace Go.Pb
open Go Go.Sl Go.Lb Go.Pa Go.Oc
def exO : Op1 := ⟨1, [112], topV, botV, [[120]]⟩
def exP : Pch := ⟨[97], 0, [], [], [exO]⟩
def noP : Pch := ⟨[], 0, [], [], []⟩
theorem exO_ok : exO.Ok := ⟨by unfold i64ok exO; decide, by decide, topV_ok, botV_ok, by decide, by intro s hs; simp [exO] at hs; subst hs; decide⟩
theorem exP_ok : exP.Ok := ⟨by decide, by unfold i64ok exP; decide, by decide, by decide, (by intro h hh; cases hh), by decide, by intro o h; simp [exP] at h; subst h; exact exO_ok⟩
theorem noP_ok : noP.Ok := ⟨by decide, by unfold i64ok noP; decide, by decide, by decide, (by intro h hh; cases hh), by decide, by intro o h; cases h⟩
theorem exP_check : checkM exP = 0 := by kernel_rfl
theorem noP_check : checkM noP = 100 := by kernel_rfl
theorem exP_bytes : bytesM exP = [80, 1, 97, 0, 0, 0, 1, 1, 1, 112, 0, 1, 1, 1, 120] := by
  have h0 : uv 0 = [0] := uv_low (by decide)
  have h1 : uv 1 = [1] := uv_low (by decide)
  have e1 : vxB exP topV = [0] := by unfold vxB; rw [if_pos rfl]
  have e2 : vxB exP botV = [1] := by unfold vxB; rw [if_neg (by decide), if_pos rfl]
  simp [bytesM, tx, opB, exP, exO] at *
  simp [bytesM, tx, opB, exP, exO, h0, h1, e1, e2]
def exL (v : Value) : List Value := opC (exO, v)
theorem noP_at (H : Hp) : PaAt H noP (.slice none 0 0) (.slice none 0 0) := ⟨rs.nil, [], rfl, rs.nil, by intro x h; cases h⟩
theorem exP_at {H : Hp} {b1 b2 : Nat} {t1 t2 : TypeId} {f1 f2 : Nat × Nat} (h1 : H b1 = some (.cells ⟨[str [120]]⟩ t1 f1)) (h2 : H b2 = some (.cells ⟨opC (exO, .slice (some ⟨b1, 0, none⟩) 1 1)⟩ t2 f2)) :
    PaAt H exP (.slice none 0 0) (.slice (some ⟨b2, 0, none⟩) 1 1) := by
  refine ⟨rs.nil, [(exO, .slice (some ⟨b1, 0, none⟩) 1 1)], rfl, ?_, ?_⟩
  · refine rs.mk (by decide) (by simp only [List.flatMap_cons, List.flatMap_nil, List.append_nil]; exact opC_len (x := (exO, _)) exO_ok) fun _ => ⟨b2, 0, _, _, _, rfl, h2, ?_⟩
    simp only [List.flatMap_cons, List.flatMap_nil, List.append_nil]
    exact At.all _
  · intro x hx
    simp at hx
    subst hx
    exact rs.mk (by decide) rfl fun _ => ⟨b1, 0, _, _, _, rfl, h1, At.all _⟩
set_option maxRecDepth 100000
set_option maxHeartbeats 4000000
attribute [local irreducible] GK GO Yl Wt Ef Hd GH KH wpListIn Code.wpIn toBody roundQ poolOf rs RS YieldOk IterOk VOk row star exs mp lp Sat pt FnOk Rd bodyPost bodyPostM Lv Ret Exit.then Exit.inBlock Exit.noGoto Int.decLt Int.decLe Int.instDecidableEq
set_option pp.deepTerms true
set_option pp.maxSteps 1000000
variable {hF H : Hp}
theorem lives_ok (hb0 : Bot H) : FnOk Go.Proofs.Tryd.prog 10 [] [poolOf H] hF (fun v Γ => v = .bool true ∧ ∃ H', le H H' ∧ Γ = [poolOf H']) := by
  refine FnOk.intro 36 Go.Proofs.Tryd.func10 rfl rfl fun w0 => ?_
  (repeat (first | refine GK.ro ?_ | (refine GK.box ?_; intro bl) | (refine GK.mkMap ?_; intro bm) | (refine GK.build0 tb ?_; intro bs)))
  refine GL.cons ?_; refine Gt.buildLit tb (sz := 0) (n := 0) (by first | exact Wt.none | exact Wt.some rfl rfl (by first | exact rfl | decide +kernel)) rfl rfl (by kernel_rfl) rfl rfl rfl rfl rfl rfl ?_
  intro b1
  (repeat (first | refine GK.ro ?_ | (refine GK.box ?_; intro bl) | (refine GK.mkMap ?_; intro bm) | (refine GK.build0 tb ?_; intro bs)))
  refine GL.cons ?_
  refine Gt.buildLit tb (sz := 68) (n := 0) (by first | exact Wt.none | exact Wt.some rfl rfl (by first | exact rfl | decide +kernel)) rfl rfl (by kernel_rfl) rfl rfl rfl rfl rfl rfl ?_
  intro b2
  (repeat (first | refine GK.ro ?_ | (refine GK.box ?_; intro bl) | (refine GK.mkMap ?_; intro bm) | (refine GK.build0 tb ?_; intro bs)))
  refine GK.heap (Γ' := [poolOf H, blk b1 9 (0, 0) [str [120]], blk b2 59 (0, 0) (opC (exO, .slice (some ⟨b1, 0, none⟩) 1 1))]) (fun _ s => Sat.sub (by repeat (first | exact SubR.nil | apply SubR.cons 0 rfl | apply SubR.cons 1 rfl | apply SubR.cons 2 rfl | apply SubR.cons 3 rfl | apply SubR.cons 4 rfl | apply SubR.cons 5 rfl | apply SubR.cons 6 rfl | apply SubR.cons 7 rfl | apply SubR.cons 8 rfl | apply SubR.cons 9 rfl | apply SubR.cons 10 rfl | apply SubR.cons 11 rfl | apply SubR.cons 12 rfl | apply SubR.cons 13 rfl | apply SubR.cons 14 rfl | apply SubR.cons 15 rfl)) s) ?_
  refine GK.absorb fun H1 k1 le1 x1 y1 => ?_
  refine GK.absorb fun H2 k2 le2 x2 y2 => ?_
  have hpa := exP_at (le2 _ _ (pt_in x1 y1)) (pt_in x2 y2)
  have hb2 := hb0.mono (le1.trans le2)
  refine GL.cons ?_; refine GO.callA (fun hF' hle hH => encode_ok hpa exP_ok hb2) (by first | exact Wt.none | exact Wt.some rfl rfl (by first | exact rfl | decide +kernel)) (by kernel_rfl) rfl rfl (by repeat (first | exact SubR.nil | apply SubR.cons 0 rfl | apply SubR.cons 1 rfl | apply SubR.cons 2 rfl | apply SubR.cons 3 rfl | apply SubR.cons 4 rfl | apply SubR.cons 5 rfl | apply SubR.cons 6 rfl | apply SubR.cons 7 rfl | apply SubR.cons 8 rfl | apply SubR.cons 9 rfl | apply SubR.cons 10 rfl | apply SubR.cons 11 rfl | apply SubR.cons 12 rfl | apply SubR.cons 13 rfl | apply SubR.cons 14 rfl | apply SubR.cons 15 rfl)) ?_
  rintro v Γ' (⟨_, q, c, rfl, rfl⟩ | ⟨h, _⟩)
  rotate_left
  · exact absurd exP_check h
  rw [exP_bytes]
  (repeat (first | refine GK.ro ?_ | (refine GK.box ?_; intro bl) | (refine GK.mkMap ?_; intro bm) | (refine GK.build0 tb ?_; intro bs)))
  refine GL.cons ?_
  refine GO.yield (by first | exact Wt.none | exact Wt.some rfl rfl (by first | exact rfl | decide +kernel)) (Yl.rowStr 0 rfl rfl rfl rfl rfl) ?_
  (repeat (first | refine GK.ro ?_ | (refine GK.box ?_; intro bl) | (refine GK.mkMap ?_; intro bm) | (refine GK.build0 tb ?_; intro bs)))
  refine GL.cons ?_; refine GO.callA (fun hF' hle hH => check_ok (noP_at H2) noP_ok hb2) (by first | exact Wt.none | exact Wt.some rfl rfl (by first | exact rfl | decide +kernel)) (by kernel_rfl) rfl rfl (by repeat (first | exact SubR.nil | apply SubR.cons 0 rfl | apply SubR.cons 1 rfl | apply SubR.cons 2 rfl | apply SubR.cons 3 rfl | apply SubR.cons 4 rfl | apply SubR.cons 5 rfl | apply SubR.cons 6 rfl | apply SubR.cons 7 rfl | apply SubR.cons 8 rfl | apply SubR.cons 9 rfl | apply SubR.cons 10 rfl | apply SubR.cons 11 rfl | apply SubR.cons 12 rfl | apply SubR.cons 13 rfl | apply SubR.cons 14 rfl | apply SubR.cons 15 rfl)) ?_
  rintro v Γ' ⟨rfl, rfl⟩
  rw [noP_check]
  (repeat (first | refine GK.ro ?_ | (refine GK.box ?_; intro bl) | (refine GK.mkMap ?_; intro bm) | (refine GK.build0 tb ?_; intro bs)))
  exact GQ.fin1 rfl (Rv.tmp rfl) (fun _ s => Sat.sub (by repeat (first | exact SubR.nil | apply SubR.cons 0 rfl | apply SubR.cons 1 rfl | apply SubR.cons 2 rfl | apply SubR.cons 3 rfl | apply SubR.cons 4 rfl | apply SubR.cons 5 rfl | apply SubR.cons 6 rfl | apply SubR.cons 7 rfl | apply SubR.cons 8 rfl | apply SubR.cons 9 rfl | apply SubR.cons 10 rfl | apply SubR.cons 11 rfl | apply SubR.cons 12 rfl | apply SubR.cons 13 rfl | apply SubR.cons 14 rfl | apply SubR.cons 15 rfl)) s) ⟨rfl, H2, le1.trans le2, rfl⟩
end Go.Pb
