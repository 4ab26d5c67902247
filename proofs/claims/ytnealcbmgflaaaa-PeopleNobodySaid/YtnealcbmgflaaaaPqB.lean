/- PeopleNobody. -/
import Derived.Test.YtnealcbmgflaaaaPqA
set_option linter.unusedSimpArgs false
set_option linter.unusedVariables false
namespace Go.Pe
open Go Go.Sl Go.Ls
set_option maxRecDepth 100000
def zp (bz : Nat) : HProp := blk bz 50 (0, 0) [.map none, .map none]
theorem acC_set (x : Ac) (k : Int) : (actC x).set (0 + 0) (.int .i64 k) = actC { x with k := k } := rfl
/-- One of both. -/
theorem pick_none {bz i : Nat} (hi : i < 2) : ∃ pv Z Z', ([Value.pointer none, .pointer (some ⟨bz, 0, none⟩)] : List Value)[0 + (i : Int).toNat * 1]? = some pv ∧ NoneAt pv Z ∧ (∀ Γ hF w, Sat (zp bz :: Γ) hF w → Sat (Z :: Z' :: Γ) hF w) ∧ (∀ Γ hF w, Sat (Z :: Z' :: Γ) hF w → Sat (zp bz :: Γ) hF w) := by
  have : i = 0 ∨ i = 1 := by omega
  rcases this with rfl | rfl
  · exact ⟨_, star [], zp bz, rfl, noneAt_nil, fun Γ hF w s => Sl.Sat.star_nil s, fun Γ hF w s => s.drop⟩
  · exact ⟨_, zp bz, star [], rfl, noneAt_zero, fun Γ hF w s => Sl.Sat.perm (.swap _ _ _) (Sl.Sat.star_nil s), fun Γ hF w s => (Sl.Sat.perm (.swap _ _ _) s).drop⟩
set_option maxRecDepth 100000
set_option maxHeartbeats 4000000
attribute [local irreducible] GK GO Yl Wt Ef Hd GH KH wpListIn Code.wpIn toBody roundQ poolOf rs RS YieldOk IterOk VOk row star exs mp lp Sat pt FnOk Rd bodyPost bodyPostM Lv Ret Exit.then Exit.inBlock Exit.noGoto Int.decLt Int.decLe Int.instDecidableEq
attribute [local irreducible] u8s strs likeTo rng rngAt keys encU encT encV encO inT freshM unitV Pa.nameM lastM vset vdel vget inP teamErr actC acts people NoneAt zp
set_option pp.deepTerms true
set_option pp.maxSteps 1000000
variable {hF H : Hp}
theorem nobodyLaw_ok {x : Ac} (hx : x.Ok) : FnOk Go.Proofs.Try.prog 7 [.agg ⟨actC x⟩] [poolOf H] hF (fun v Γ => v = .bool true ∧ ∃ H' Γ2, le H H' ∧ Γ = poolOf H' :: Γ2) := by
  refine FnOk.intro 59 Go.Proofs.Try.func7 rfl rfl fun w0 => ?_
  (repeat (first | refine GK.ro ?_ | (refine GK.box ?_; intro bl) | (refine GK.mkMap ?_; intro bm) | (refine GK.build0 tb ?_; intro bs)))
  rename_i ba
  obtain ⟨bz, rfl⟩ : ∃ bz, bz = bl := ⟨_, rfl⟩
  refine GL.cons ?_; refine Gt.buildLit tb (sz := 0) (n := 1) Wt.o rfl rfl (by kernel_rfl) rfl rfl rfl rfl rfl rfl ?_
  intro bs
  (repeat (first | refine GK.ro ?_ | (refine GK.box ?_; intro bl) | (refine GK.mkMap ?_; intro bm) | (refine GK.build0 tb ?_; intro bs)))
  refine G.loopK (X := Nat × Ac) [(1, _), (8, _), (9, _)] (fun (i, _) => [(10, .int .i64 (i : Int))]) (fun (i, _) => 2 - i) (fun (_, y) => [zp bz, blk ba 28 (0, 0) (actC y), blk bs 25 (0, 0) [.pointer none, .pointer (some ⟨bz, 0, none⟩)], poolOf H]) (fun (i, _) => i ≤ 2) (0, x) (Nat.zero_le _) Sub.o (fun w s => by unfold zp; exact Sl.Sat.sub SubR.o s) (fun z hz q hq => ?_)
  obtain ⟨i, y⟩ := z
  dsimp only [List.cons_append, List.nil_append] at hq hz ⊢
  (repeat (first | refine GK.ro ?_ | (refine GK.box ?_; intro bl) | (refine GK.mkMap ?_; intro bm) | (refine GK.build0 tb ?_; intro bs)))
  (first | refine G.condP rfl (fun hb => ?_) (fun hb => ?_) | refine G.condN rfl (fun hb => ?_) (fun hb => ?_) | refine G.cond rfl (fun hb => ?_) (fun hb => ?_))
  · have hi2 : i < 2 := by omega
    clear hb
    obtain ⟨pv, Z, Z', kp, hnb, hto, hback⟩ := pick_none (bz := bz) hi2
    refine GK.heap (Γ' := [Z, Z', blk ba 28 (0, 0) (actC y), blk bs 25 (0, 0) [.pointer none, .pointer (some ⟨bz, 0, none⟩)], poolOf H]) (fun w s => hto _ _ _ s) ?_
    (repeat (first | refine GK.ro ?_ | (refine GK.box ?_; intro bl) | (refine GK.mkMap ?_; intro bm) | (refine GK.build0 tb ?_; intro bs)))
    refine G.loopK (X := Nat × Ac) [(1, _), (4, _), (8, _), (9, _), (10, _)] (fun (j, _) => [(14, .int .i64 (j : Int))]) (fun (j, _) => 7 - j) (fun (_, y) => [Z, Z', blk ba 28 (0, 0) (actC y), blk bs 25 (0, 0) [.pointer none, .pointer (some ⟨bz, 0, none⟩)], poolOf H]) (fun (j, _) => j ≤ 7) (0, y) (Nat.zero_le _) Sub.o (fun _ s => Sat.sub SubR.o s) (fun z2 hz2 q2 hq2 => ?_)
    obtain ⟨j, y⟩ := z2
    dsimp only [List.cons_append, List.nil_append] at hq2 hz2 ⊢
    have hal := acC_len y
    (repeat (first | refine GK.ro ?_ | (refine GK.box ?_; intro bl) | (refine GK.mkMap ?_; intro bm) | (refine GK.build0 tb ?_; intro bs)))
    (first | refine G.condP rfl (fun hb => ?_) (fun hb => ?_) | refine G.condN rfl (fun hb => ?_) (fun hb => ?_) | refine G.cond rfl (fun hb => ?_) (fun hb => ?_))
    · have hal2 := acC_len (⟨(j : Int), y.o, y.t, y.u, y.r⟩ : Ac)
      have haA2 : At (actC (⟨(j : Int), y.o, y.t, y.u, y.r⟩ : Ac)) 0 (actC (⟨(j : Int), y.o, y.t, y.u, y.r⟩ : Ac)) := At.all _
      (repeat (first | refine GK.ro ?_ | (refine GK.box ?_; intro bl) | (refine GK.mkMap ?_; intro bm) | (refine GK.build0 tb ?_; intro bs)))
      refine GL.cons ?_; refine Gt.storeAt tb 2 Wt.o rfl rfl rfl rfl rfl (by rw [hal]; omega) rfl ?_
      rw [acC_set]
      (repeat (first | refine GK.ro ?_ | (refine GK.box ?_; intro bl) | (refine GK.mkMap ?_; intro bm) | (refine GK.build0 tb ?_; intro bs)))
      refine GL.cons ?_; refine GO.callA (fun hF' hle hH => do_nb (x := (⟨(j : Int), y.o, y.t, y.u, y.r⟩ : Ac)) hnb) Wt.o (by kernel_rfl) rfl rfl SubR.o ?_
      rintro v Γ' ⟨rfl, rfl⟩
      (repeat (first | refine GK.ro ?_ | (refine GK.box ?_; intro bl) | (refine GK.mkMap ?_; intro bm) | (refine GK.build0 tb ?_; intro bs)))
      (refine GQ.againN ((j + 1, (⟨(j : Int), y.o, y.t, y.u, y.r⟩ : Ac))) ?_ ?_ ?_ ?_; rotate_left; (first | omega | (dsimp only; omega)); exact Sub.o; exact (fun _ s => Sat.sub SubR.o s))
      show j + 1 ≤ 7
      omega
    · obtain ⟨c0, c1, c2, c3, c4⟩ := acC_get y
      have hnil : rs H (.slice none 0 0) ([] : List By).length 1 (strs []) := by rw [strs_nil]; exact rs.nil
      (repeat (first | refine GK.ro ?_ | (refine GK.box ?_; intro bl) | (refine GK.mkMap ?_; intro bm) | (refine GK.build0 tb ?_; intro bs)))
      refine G.draw [] [blk ba 28 (0, 0) (actC y)] (by kernel_rfl) ?_
      ((first | refine GH.to 0 ?_ | refine GH.tos 0 ?_); (first | refine GH.to 3 ?_ | refine GH.tos 3 ?_); (first | refine GH.to 7 ?_ | refine GH.tos 7 ?_); (first | refine GH.to 8 ?_ | refine GH.tos 8 ?_); (first | refine GH.to 9 ?_ | refine GH.tos 9 ?_); (first | refine GH.to 13 ?_ | refine GH.tos 13 ?_); (first | refine GH.to 14 ?_ | refine GH.tos 14 ?_); (first | refine GH.to 15 ?_ | refine GH.tos 15 ?_))
      refine GH.step 1 rfl (by kernel_rfl) ?_
      refine GO.callA (fun hF' hle hH => users_nb hnb) Wt.o (by kernel_rfl) rfl rfl SubR.o ?_
      rintro v Γ' ⟨rfl, rfl⟩
      refine GH.keep (fun _ s => Sat.sub SubR.o s) ?_
      ((first | refine GH.to 2 ?_ | refine GH.tos 2 ?_))
      refine GH.step 4 rfl (by kernel_rfl) ?_
      refine GO.callA (fun hF' hle hH => orgs_nb hnb) Wt.o (by kernel_rfl) rfl rfl SubR.o ?_
      rintro v Γ' ⟨rfl, rfl⟩
      refine GH.keep (fun _ s => Sat.sub SubR.o s) ?_
      ((first | refine GH.to 5 ?_ | refine GH.tos 5 ?_); (first | refine GH.to 6 ?_ | refine GH.tos 6 ?_))
      refine GH.step 10 rfl (by kernel_rfl) ?_
      refine GO.callA (fun hF' hle hH => members_nb (n := y.o) hnb) Wt.o (by kernel_rfl) rfl rfl SubR.o ?_
      rintro v Γ' ⟨rfl, rfl⟩
      refine GH.keep (fun _ s => Sat.sub SubR.o s) ?_
      ((first | refine GH.to 11 ?_ | refine GH.tos 11 ?_); (first | refine GH.to 12 ?_ | refine GH.tos 12 ?_))
      refine GH.step 16 rfl (by kernel_rfl) ?_
      refine GO.callA (fun hF' hle hH => teams_nb (n := y.o) hnb) Wt.o (by kernel_rfl) rfl rfl SubR.o ?_
      rintro v Γ' ⟨rfl, rfl⟩
      refine GH.keep (fun _ s => Sat.sub SubR.o s) ?_
      ((first | refine GH.to 17 ?_ | refine GH.tos 17 ?_); (first | refine GH.to 18 ?_ | refine GH.tos 18 ?_); (first | refine GH.to 19 ?_ | refine GH.tos 19 ?_); (first | refine GH.to 20 ?_ | refine GH.tos 20 ?_); (first | refine GH.to 21 ?_ | refine GH.tos 21 ?_); (first | refine GH.to 22 ?_ | refine GH.tos 22 ?_); (first | refine GH.to 23 ?_ | refine GH.tos 23 ?_); (first | refine GH.to 24 ?_ | refine GH.tos 24 ?_); (first | refine GH.to 25 ?_ | refine GH.tos 25 ?_); (first | refine GH.to 27 ?_ | refine GH.tos 27 ?_); (first | refine GH.to 28 ?_ | refine GH.tos 28 ?_); (first | refine GH.to 29 ?_ | refine GH.tos 29 ?_))
      refine GH.step 26 rfl (by kernel_rfl) ?_
      refine GO.callA (fun hF' hle hH => subject_nb (n := y.o) (u := y.u) hnb) Wt.o (by kernel_rfl) rfl rfl SubR.o ?_
      rintro v Γ' ⟨rfl, rfl⟩
      refine GH.keep (fun _ s => Sat.sub SubR.o s) ?_
      refine GH.step 30 rfl (by kernel_rfl) ?_
      refine GO.callA (fun hF' hle hH => sameS_ok (u1 := y.u) (u2 := y.u) (r1 := 0) (r2 := 0) (t1 := []) (t2 := []) hnil hnil (Nat.zero_le _) (Nat.zero_le _)) Wt.o (by kernel_rfl) rfl rfl SubR.o ?_
      rw [decide_eq_true (⟨rfl, rfl, rfl⟩ : y.u = y.u ∧ (0 : Int) = 0 ∧ ([] : List By) = [])]
      rintro v Γ' ⟨rfl, rfl⟩
      refine GH.keep (fun _ s => Sat.sub SubR.o s) ?_
      ((first | refine GH.to 31 ?_ | refine GH.tos 31 ?_); (first | refine GH.to 32 ?_ | refine GH.tos 32 ?_))
      refine GH.fin (by kernel_rfl) ?_
      (repeat (first | refine GK.ro ?_ | (refine GK.box ?_; intro bl) | (refine GK.mkMap ?_; intro bm) | (refine GK.build0 tb ?_; intro bs)))
      refine GQ.againN (i + 1, y) ?_ ?_ Sub.o (fun w s => hback _ _ _ (Sl.Sat.sub (A := [Z, Z', blk ba 28 (0, 0) (actC y), blk bs 25 (0, 0) [.pointer none, .pointer (some ⟨bz, 0, none⟩)], poolOf H]) SubR.o s))
      · show i + 1 ≤ 2; omega
      · show 2 - (i + 1) < q; omega
  · (repeat (first | refine GK.ro ?_ | (refine GK.box ?_; intro bl) | (refine GK.mkMap ?_; intro bm) | (refine GK.build0 tb ?_; intro bs)))
    refine GL.cons ?_; refine GO.callA (fun hF' hle hH => lives_ok) Wt.o (by kernel_rfl) rfl rfl SubR.o ?_
    rintro v Γ' ⟨rfl, rfl⟩
    (repeat (first | refine GK.ro ?_ | (refine GK.box ?_; intro bl) | (refine GK.mkMap ?_; intro bm) | (refine GK.build0 tb ?_; intro bs)))
    exact GQ.fin1 rfl (Rv.tmp rfl) (fun _ s => Sat.sub SubR.o s) ⟨rfl, H, [], le.refl _, rfl⟩
theorem nobody_law {W : World} {x : Ac} (h : x.Ok) : FnOk Go.Proofs.Try.prog 7 [.agg ⟨actC x⟩] [poolOf (mem W)] emp (LawR W) := nobodyLaw_ok h
end Go.Pe
