/- The chapter's example. -/
import Derived.Test.YtjphghadogedkaaRvJ
set_option linter.unusedSimpArgs false
set_option linter.unusedVariables false
namespace Go.Re
open Go Go.Sl
set_option maxRecDepth 100000
def h1 : By := 1 :: List.replicate 31 0
def ann : By := [97, 110, 110]
def bob : By := [98, 111, 98]
def main : By := [109, 97, 105, 110]
def L1 : List Sh := [⟨⟨1, ann, main, h1, true⟩, [], []⟩]
def L2 : List Sh := [⟨⟨1, ann, main, h1, true⟩, [], [(bob, 1)]⟩]
theorem ex1 : proposeM [] ann main h1 = (1, 0, L1) := rfl
theorem ex2 : onM L1 1 (fun s => giveM s ann (yn true)) = (200, L1) := rfl
theorem ex3 : onM L1 1 (fun s => giveM s bob (yn true)) = (0, L2) := rfl
theorem ex4 : atS L2 1 = some ⟨⟨1, ann, main, h1, true⟩, [], [(bob, 1)]⟩ := rfl
theorem ex5 : ofM 1 [(bob, 1)] = [bob] := by decide +kernel
theorem ex6 : ofM 2 [(bob, 1)] = [] := by decide +kernel
theorem ex7 : passM ⟨1, ann, main, h1, true⟩ [bob] [] 1 false = true := by decide +kernel
theorem ex8 : passM ⟨1, ann, main, h1, true⟩ [bob] [] 2 false = false := by decide +kernel
theorem Sat.pool_emp {Γ : List HProp} {hF : Hp} {w : World} (h : Sat Γ hF w) : Sat (poolOf emp :: Γ) hF w := by
  obtain ⟨hs, a, q, c, d⟩ := h
  refine ⟨emp :: hs, ⟨rfl, a⟩, ⟨fun b => .inr rfl, fun k _ b => .inl rfl, q⟩, c, fun k hk => ?_⟩
  rcases List.mem_cons.1 hk with rfl | hk
  · intro b o e; cases e
  · exact d k hk
set_option maxRecDepth 100000
set_option maxHeartbeats 4000000
attribute [local irreducible] GK GO Yl Wt Ef Hd GH KH wpListIn Code.wpIn toBody roundQ poolOf rs RS YieldOk IterOk VOk row star exs mp lp Sat pt FnOk Rd bodyPost bodyPostM Lv Ret Exit.then Exit.inBlock Exit.noGoto Int.decLt Int.decLe Int.instDecidableEq
attribute [local irreducible] u8s strs likeTo propC encV prs ptrs sheetC sheets zeroC
set_option pp.deepTerms true
set_option pp.maxSteps 1000000
variable {hF : Hp}
theorem lives_ok : FnOk Go.Proofs.Try.prog 9 [] [] hF (fun v Γ => v = .bool true ∧ Γ = []) := by
  refine FnOk.intro 56 Go.Proofs.Try.func9 rfl rfl fun w0 => ?_
  (repeat (first | refine GK.ro ?_ | (refine GK.box ?_; intro bl) | (refine GK.mkMap ?_; intro bm) | (refine GK.build0 tb ?_; intro bs)))
  refine GL.cons ?_; refine GO.callA (fun hF' hle hH => new_ok) (by first | exact Wt.none | exact Wt.some rfl rfl (by first | exact rfl | decide +kernel)) (by kernel_rfl) rfl rfl (by repeat (first | exact SubR.nil | apply SubR.cons 0 rfl | apply SubR.cons 1 rfl | apply SubR.cons 2 rfl | apply SubR.cons 3 rfl | apply SubR.cons 4 rfl | apply SubR.cons 5 rfl | apply SubR.cons 6 rfl | apply SubR.cons 7 rfl | apply SubR.cons 8 rfl | apply SubR.cons 9 rfl | apply SubR.cons 10 rfl | apply SubR.cons 11 rfl | apply SubR.cons 12 rfl | apply SubR.cons 13 rfl | apply SubR.cons 14 rfl | apply SubR.cons 15 rfl)) ?_
  rintro v Γ' ⟨b, rfl, rfl⟩
  (repeat (first | refine GK.ro ?_ | (refine GK.box ?_; intro bl) | (refine GK.mkMap ?_; intro bm) | (refine GK.build0 tb ?_; intro bs)))
  refine GL.cons ?_; refine GO.yield (by first | exact Wt.none | exact Wt.some rfl rfl (by first | exact rfl | decide +kernel)) (Yl.buildArr (sz := 1) (zl := u8s (List.replicate 32 0)) (l := u8s h1) rfl (by kernel_rfl) (by kernel_rfl) rfl (by kernel_rfl)) ?_
  (repeat (first | refine GK.ro ?_ | (refine GK.box ?_; intro bl) | (refine GK.mkMap ?_; intro bm) | (refine GK.build0 tb ?_; intro bs)))
  refine GL.cons ?_; refine GO.callA (fun hF' hle hH => propose_ok (L := []) (a := ann) (c := main) (h := h1) rfl (Nat.zero_le _)) (by first | exact Wt.none | exact Wt.some rfl rfl (by first | exact rfl | decide +kernel)) (by kernel_rfl) rfl rfl (by repeat (first | exact SubR.nil | apply SubR.cons 0 rfl | apply SubR.cons 1 rfl | apply SubR.cons 2 rfl | apply SubR.cons 3 rfl | apply SubR.cons 4 rfl | apply SubR.cons 5 rfl | apply SubR.cons 6 rfl | apply SubR.cons 7 rfl | apply SubR.cons 8 rfl | apply SubR.cons 9 rfl | apply SubR.cons 10 rfl | apply SubR.cons 11 rfl | apply SubR.cons 12 rfl | apply SubR.cons 13 rfl | apply SubR.cons 14 rfl | apply SubR.cons 15 rfl)) ?_
  rw [ex1]
  rintro v Γ' ⟨rfl, rfl⟩
  (repeat (first | refine GK.ro ?_ | (refine GK.box ?_; intro bl) | (refine GK.mkMap ?_; intro bm) | (refine GK.build0 tb ?_; intro bs)))
  refine GL.cons ?_; refine GO.callA (fun hF' hle hH => vote_ok (L := L1) (u := ann) (Nat.le_of_ble_eq_true rfl)) (by first | exact Wt.none | exact Wt.some rfl rfl (by first | exact rfl | decide +kernel)) (by kernel_rfl) rfl rfl (by repeat (first | exact SubR.nil | apply SubR.cons 0 rfl | apply SubR.cons 1 rfl | apply SubR.cons 2 rfl | apply SubR.cons 3 rfl | apply SubR.cons 4 rfl | apply SubR.cons 5 rfl | apply SubR.cons 6 rfl | apply SubR.cons 7 rfl | apply SubR.cons 8 rfl | apply SubR.cons 9 rfl | apply SubR.cons 10 rfl | apply SubR.cons 11 rfl | apply SubR.cons 12 rfl | apply SubR.cons 13 rfl | apply SubR.cons 14 rfl | apply SubR.cons 15 rfl)) ?_
  rw [ex2]
  rintro v Γ' ⟨rfl, rfl⟩
  (repeat (first | refine GK.ro ?_ | (refine GK.box ?_; intro bl) | (refine GK.mkMap ?_; intro bm) | (refine GK.build0 tb ?_; intro bs)))
  refine GL.cons ?_; refine GO.callA (fun hF' hle hH => vote_ok (L := L1) (u := bob) (Nat.le_of_ble_eq_true rfl)) (by first | exact Wt.none | exact Wt.some rfl rfl (by first | exact rfl | decide +kernel)) (by kernel_rfl) rfl rfl (by repeat (first | exact SubR.nil | apply SubR.cons 0 rfl | apply SubR.cons 1 rfl | apply SubR.cons 2 rfl | apply SubR.cons 3 rfl | apply SubR.cons 4 rfl | apply SubR.cons 5 rfl | apply SubR.cons 6 rfl | apply SubR.cons 7 rfl | apply SubR.cons 8 rfl | apply SubR.cons 9 rfl | apply SubR.cons 10 rfl | apply SubR.cons 11 rfl | apply SubR.cons 12 rfl | apply SubR.cons 13 rfl | apply SubR.cons 14 rfl | apply SubR.cons 15 rfl)) ?_
  rw [ex3]
  rintro v Γ' ⟨rfl, rfl⟩
  (repeat (first | refine GK.ro ?_ | (refine GK.box ?_; intro bl) | (refine GK.mkMap ?_; intro bm) | (refine GK.build0 tb ?_; intro bs)))
  refine GL.cons ?_; refine GO.callA (fun hF' hle hH => proposal_ok (L := L2) (Nat.le_of_ble_eq_true rfl) (fun s hs => by simp [L2] at hs; subst hs; exact ⟨Nat.le_of_ble_eq_true rfl, Nat.le_of_ble_eq_true rfl⟩)) (by first | exact Wt.none | exact Wt.some rfl rfl (by first | exact rfl | decide +kernel)) (by kernel_rfl) rfl rfl (by repeat (first | exact SubR.nil | apply SubR.cons 0 rfl | apply SubR.cons 1 rfl | apply SubR.cons 2 rfl | apply SubR.cons 3 rfl | apply SubR.cons 4 rfl | apply SubR.cons 5 rfl | apply SubR.cons 6 rfl | apply SubR.cons 7 rfl | apply SubR.cons 8 rfl | apply SubR.cons 9 rfl | apply SubR.cons 10 rfl | apply SubR.cons 11 rfl | apply SubR.cons 12 rfl | apply SubR.cons 13 rfl | apply SubR.cons 14 rfl | apply SubR.cons 15 rfl)) ?_
  rintro v Γ' ⟨ex, hT, rfl⟩
  unfold Told at hT
  rw [ex4] at hT
  obtain ⟨yv, nv, tv, rfl, rfl⟩ := hT
  refine GK.pure (fun w s => (row_len (s.perm (.swap _ _ _))).1) ?_
  rintro ⟨yp, yc, rfl⟩
  refine GK.pure (fun w s => (row_len ((s.drop).drop)).1) ?_
  rintro ⟨np, nc, rfl⟩
  refine GK.pure (fun w s => (row_len (((s.drop).drop).drop)).1) ?_
  rintro ⟨tp, tc, rfl⟩
  rw [ex5, ex6]
  refine GK.heap (Γ' := [poolOf emp, row (.slice yp [bob].length yc) 9 1 [bob].length (strs [bob]), row (.slice np ([] : List By).length nc) 9 1 ([] : List By).length (strs []), board b L2]) (fun w s => Sl.Sat.sub (by repeat (first | exact SubR.nil | apply SubR.cons 0 rfl | apply SubR.cons 1 rfl | apply SubR.cons 2 rfl | apply SubR.cons 3 rfl | apply SubR.cons 4 rfl | apply SubR.cons 5 rfl | apply SubR.cons 6 rfl | apply SubR.cons 7 rfl | apply SubR.cons 8 rfl | apply SubR.cons 9 rfl | apply SubR.cons 10 rfl | apply SubR.cons 11 rfl | apply SubR.cons 12 rfl | apply SubR.cons 13 rfl | apply SubR.cons 14 rfl | apply SubR.cons 15 rfl)) (Sat.pool_emp s)) ?_
  refine GK.absorb fun H1 k1 l1 a1 m1 => ?_
  refine GK.absorb fun H2 k2 l2 a2 m2 => ?_
  have hy := (row_in a1 m1).mono l2
  have hn := row_in a2 m2
  have hh : h1.length = 32 := rfl
  have z := propC_len (p := ⟨1, ann, main, h1, true⟩) (y := .slice yp [bob].length yc) (n := .slice np ([] : List By).length nc) (t := .slice tp ([] : List (By × By)).length tc) hh
  have zo := propC_one (p := ⟨1, ann, main, h1, true⟩) (y := .slice yp [bob].length yc) (n := .slice np ([] : List By).length nc) (t := .slice tp ([] : List (By × By)).length tc) rfl rfl rfl
  have zA : At (propC ⟨1, ann, main, h1, true⟩ (.slice yp [bob].length yc) (.slice np ([] : List By).length nc) (.slice tp ([] : List (By × By)).length tc)) 0 (propC ⟨1, ann, main, h1, true⟩ (.slice yp [bob].length yc) (.slice np ([] : List By).length nc) (.slice tp ([] : List (By × By)).length tc)) := At.all _
  (repeat (first | refine GK.ro ?_ | (refine GK.box ?_; intro bl) | (refine GK.mkMap ?_; intro bm) | (refine GK.build0 tb ?_; intro bs) | (refine GL.cons ?_; refine GO.alloc (by first | exact Wt.none | exact Wt.some rfl rfl (by first | exact rfl | decide +kernel)) (by exact rfl) ?_; intro ba) | (refine GL.cons ?_; refine Gt.storeAny tb 0 (by first | exact Wt.none | exact Wt.some rfl rfl (by first | exact rfl | decide +kernel)) (by exact rfl) (by exact rfl) (by exact rfl) (by assumption) (by assumption) (by exact rfl) (by first | exact rfl | assumption) ?_) | (refine GL.cons ?_; refine Gt.storeAny tb 1 (by first | exact Wt.none | exact Wt.some rfl rfl (by first | exact rfl | decide +kernel)) (by exact rfl) (by exact rfl) (by exact rfl) (by assumption) (by assumption) (by exact rfl) (by first | exact rfl | assumption) ?_) | (refine GL.cons ?_; refine Gt.storeAny tb 2 (by first | exact Wt.none | exact Wt.some rfl rfl (by first | exact rfl | decide +kernel)) (by exact rfl) (by exact rfl) (by exact rfl) (by assumption) (by assumption) (by exact rfl) (by first | exact rfl | assumption) ?_) | (refine GL.cons ?_; refine Gt.storeAny tb 3 (by first | exact Wt.none | exact Wt.some rfl rfl (by first | exact rfl | decide +kernel)) (by exact rfl) (by exact rfl) (by exact rfl) (by assumption) (by assumption) (by exact rfl) (by first | exact rfl | assumption) ?_) | (refine GL.cons ?_; refine Gt.storeAny tb 4 (by first | exact Wt.none | exact Wt.some rfl rfl (by first | exact rfl | decide +kernel)) (by exact rfl) (by exact rfl) (by exact rfl) (by assumption) (by assumption) (by exact rfl) (by first | exact rfl | assumption) ?_) | (refine GL.cons ?_; refine Gt.storeAny tb 5 (by first | exact Wt.none | exact Wt.some rfl rfl (by first | exact rfl | decide +kernel)) (by exact rfl) (by exact rfl) (by exact rfl) (by assumption) (by assumption) (by exact rfl) (by first | exact rfl | assumption) ?_) | (refine GL.cons ?_; refine Gt.storeAny tb 6 (by first | exact Wt.none | exact Wt.some rfl rfl (by first | exact rfl | decide +kernel)) (by exact rfl) (by exact rfl) (by exact rfl) (by assumption) (by assumption) (by exact rfl) (by first | exact rfl | assumption) ?_) | (refine GL.cons ?_; refine Gt.storeAny tb 7 (by first | exact Wt.none | exact Wt.some rfl rfl (by first | exact rfl | decide +kernel)) (by exact rfl) (by exact rfl) (by exact rfl) (by assumption) (by assumption) (by exact rfl) (by first | exact rfl | assumption) ?_) | (refine GL.cons ?_; refine Gt.storeAny tb 8 (by first | exact Wt.none | exact Wt.some rfl rfl (by first | exact rfl | decide +kernel)) (by exact rfl) (by exact rfl) (by exact rfl) (by assumption) (by assumption) (by exact rfl) (by first | exact rfl | assumption) ?_) | (refine GL.cons ?_; refine Gt.storeAny tb 9 (by first | exact Wt.none | exact Wt.some rfl rfl (by first | exact rfl | decide +kernel)) (by exact rfl) (by exact rfl) (by exact rfl) (by assumption) (by assumption) (by exact rfl) (by first | exact rfl | assumption) ?_)))
  refine GL.cons ?_; refine GO.callA (fun hF' hle hH => passes_ok (p := ⟨1, ann, main, h1, true⟩) (yes := [bob]) (no := []) (n := 1) (ve := false) hy hn rfl hh (Nat.le_of_ble_eq_true rfl) (Nat.le_of_ble_eq_true rfl)) (by first | exact Wt.none | exact Wt.some rfl rfl (by first | exact rfl | decide +kernel)) (by kernel_rfl) rfl rfl (by repeat (first | exact SubR.nil | apply SubR.cons 0 rfl | apply SubR.cons 1 rfl | apply SubR.cons 2 rfl | apply SubR.cons 3 rfl | apply SubR.cons 4 rfl | apply SubR.cons 5 rfl | apply SubR.cons 6 rfl | apply SubR.cons 7 rfl | apply SubR.cons 8 rfl | apply SubR.cons 9 rfl | apply SubR.cons 10 rfl | apply SubR.cons 11 rfl | apply SubR.cons 12 rfl | apply SubR.cons 13 rfl | apply SubR.cons 14 rfl | apply SubR.cons 15 rfl)) ?_
  rw [ex7]
  rintro v Γ' ⟨rfl, rfl⟩
  (repeat (first | refine GK.ro ?_ | (refine GK.box ?_; intro bl) | (refine GK.mkMap ?_; intro bm) | (refine GK.build0 tb ?_; intro bs)))
  refine GL.cons ?_; refine GO.callA (fun hF' hle hH => passes_ok (p := ⟨1, ann, main, h1, true⟩) (yes := [bob]) (no := []) (n := 2) (ve := false) hy hn rfl hh (Nat.le_of_ble_eq_true rfl) (Nat.le_of_ble_eq_true rfl)) (by first | exact Wt.none | exact Wt.some rfl rfl (by first | exact rfl | decide +kernel)) (by kernel_rfl) rfl rfl (by repeat (first | exact SubR.nil | apply SubR.cons 0 rfl | apply SubR.cons 1 rfl | apply SubR.cons 2 rfl | apply SubR.cons 3 rfl | apply SubR.cons 4 rfl | apply SubR.cons 5 rfl | apply SubR.cons 6 rfl | apply SubR.cons 7 rfl | apply SubR.cons 8 rfl | apply SubR.cons 9 rfl | apply SubR.cons 10 rfl | apply SubR.cons 11 rfl | apply SubR.cons 12 rfl | apply SubR.cons 13 rfl | apply SubR.cons 14 rfl | apply SubR.cons 15 rfl)) ?_
  rw [ex8]
  rintro v Γ' ⟨rfl, rfl⟩
  (repeat (first | refine GK.ro ?_ | (refine GK.box ?_; intro bl) | (refine GK.mkMap ?_; intro bm) | (refine GK.build0 tb ?_; intro bs)))
  exact GQ.fin1 rfl (Rv.tmp rfl) (fun _ s => Sat.sub (by repeat (first | exact SubR.nil | apply SubR.cons 0 rfl | apply SubR.cons 1 rfl | apply SubR.cons 2 rfl | apply SubR.cons 3 rfl | apply SubR.cons 4 rfl | apply SubR.cons 5 rfl | apply SubR.cons 6 rfl | apply SubR.cons 7 rfl | apply SubR.cons 8 rfl | apply SubR.cons 9 rfl | apply SubR.cons 10 rfl | apply SubR.cons 11 rfl | apply SubR.cons 12 rfl | apply SubR.cons 13 rfl | apply SubR.cons 14 rfl | apply SubR.cons 15 rfl)) s) ⟨rfl, rfl⟩
end Go.Re
