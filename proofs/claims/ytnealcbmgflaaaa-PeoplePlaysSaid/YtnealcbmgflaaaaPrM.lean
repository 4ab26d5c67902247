/- PeoplePlays: people answer, and are told, as the document says. -/
import Derived.Test.YtnealcbmgflaaaaPrY
set_option linter.unusedSimpArgs false
set_option linter.unusedVariables false
namespace Go.Pe
open Go Go.Sl Go.Ls
set_option maxRecDepth 100000
theorem raddUser_f (r : RP) (u : By) : (raddUserM r u).2.F.length ≤ r.F.length + 1 := by unfold raddUserM; repeat' (split <;> try (dsimp only; omega))
theorem raddOrg_f (r : RP) (n w : By) : (raddOrgM r n w).2.F.length ≤ r.F.length + 1 := by unfold raddOrgM; repeat' (split <;> try (dsimp only; first | omega | (rw [List.length_append]; simp)))
theorem rjoin_f (r : RP) (o u : By) (k : Int) : (rjoinM r o u k).2.F.length ≤ r.F.length + 1 := by
  unfold rjoinM
  repeat' (split <;> try (dsimp only; first | omega | (rw [List.length_append]; simp)))
  all_goals first | exact List.length_eraseIdx_le _ _ | exact Nat.le_refl _
theorem rleave_f (r : RP) (o u : By) : (rleaveM r o u).2.F.length ≤ r.F.length + 1 := by
  unfold rleaveM
  have := List.length_filter_le (stayF o u) r.F
  repeat' (split <;> try (dsimp only; omega))
theorem raddTeam_f (r : RP) (o t : By) : (raddTeamM r o t).2.F.length ≤ r.F.length + 1 := by unfold raddTeamM; repeat' (split <;> try (dsimp only; first | omega | (rw [List.length_append]; simp)))
theorem rput_f (r : RP) (o t u : By) : (rputM r o t u).2.F.length ≤ r.F.length + 1 := by unfold rputM; repeat' (split <;> try (dsimp only; first | omega | (rw [List.length_append]; simp)))
theorem rout_f (r : RP) (o t u : By) : (routM r o t u).2.F.length ≤ r.F.length + 1 := by
  unfold routM
  have := List.length_eraseIdx_le r.F (factM r.F o t u).toNat
  repeat' (split <;> try (dsimp only; omega))
theorem model_f (r : RP) (x : Ac) : (modelM r x).2.F.length ≤ r.F.length + 1 := by
  unfold modelM
  split
  · exact raddUser_f _ _
  split
  · exact raddOrg_f _ _ _
  split
  · exact rjoin_f _ _ _ _
  split
  · exact rleave_f _ _ _
  split
  · exact raddTeam_f _ _ _
  split
  · exact rput_f _ _ _ _
  · exact rout_f _ _ _ _
end Go.Pe
namespace Go.Sl
theorem GH.absorb {P : Program} {cx : Cx} {fr : Fr} {Γ : List HProp} {Q : Exit → Act → World → Prop} {ops : Array Oper} {fs : List Nat} {Δ : List HProp} {n : Nat} {done : Array Bool} {A : HProp} {H : Hp}
    (h : ∀ H' k, le H H' → A k → le k H' → GH P cx ops Q fs Δ n done fr (poolOf H' :: Γ)) : GH P cx ops Q fs Δ n done fr (poolOf H :: A :: Γ) := fun hcl => GK.absorb fun H' k a b c => h H' k a b c hcl
end Go.Sl
namespace Go.Pe
open Go Go.Sl Go.Ls
set_option maxRecDepth 100000
set_option maxHeartbeats 4000000
attribute [local irreducible] GK GO Yl Wt Ef Hd GH KH wpListIn Code.wpIn toBody roundQ poolOf rs RS YieldOk IterOk VOk row star exs mp lp Sat pt FnOk Rd bodyPost bodyPostM Lv Ret Exit.then Exit.inBlock Exit.noGoto Int.decLt Int.decLe Int.instDecidableEq
attribute [local irreducible] u8s strs likeTo rng rngAt keys encU encT encV encO inT freshM unitV Pa.nameM lastM vset vdel vget inP teamErr doM modelM usersM orgsM membersM teamsM subTeams subRole fts factM membersR teamsR roleR inR people actC
set_option pp.deepTerms true
set_option pp.maxSteps 1000000
variable {hF H : Hp}
theorem playsLaw_ok {l : List Ac} {v : Value} (h : rs H v l.length 5 (acts l)) (hk : ∀ x ∈ l, x.Ok) (n1 : l.length ≤ 140737488355328) :
    FnOk Go.Proofs.Try.prog 6 [v] [poolOf H] hF (fun v Γ => v = .bool true ∧ ∃ H' Γ2, le H H' ∧ Γ = poolOf H' :: Γ2) := by
  have h0 := h
  obtain ⟨p, c, rfl, hc, hln, hr⟩ := rs.out h
  refine FnOk.intro 121 Go.Proofs.Try.func6 rfl rfl fun w0 => ?_
  (repeat (first | refine GK.ro ?_ | (refine GK.box ?_; intro bl) | (refine GK.mkMap ?_; intro bm) | (refine GK.build0 tb ?_; intro bs)))
  refine GL.cons ?_; refine GO.callA (fun hF' hle hH => few_ok h0 hk n1) Wt.o (by kernel_rfl) rfl rfl SubR.o ?_
  rintro v Γ' ⟨⟨bb, rfl, hfew⟩, rfl⟩
  cases bb with
  | false =>
    (repeat (first | refine GK.ro ?_ | (refine GK.box ?_; intro bl) | (refine GK.mkMap ?_; intro bm) | (refine GK.build0 tb ?_; intro bs)))
    refine GL.cons ?_; refine GO.callA (fun hF' hle hH => lives_ok) Wt.o (by kernel_rfl) rfl rfl SubR.o ?_
    rintro v Γ' ⟨rfl, rfl⟩
    (repeat (first | refine GK.ro ?_ | (refine GK.box ?_; intro bl) | (refine GK.mkMap ?_; intro bm) | (refine GK.build0 tb ?_; intro bs)))
    exact GQ.fin1 rfl (Rv.tmp rfl) (fun _ s => Sat.sub SubR.o s) ⟨rfl, H, [], le.refl _, rfl⟩
  | true =>
  have hl200 := hfew rfl
  (repeat (first | refine GK.ro ?_ | (refine GK.box ?_; intro bl) | (refine GK.mkMap ?_; intro bm) | (refine GK.build0 tb ?_; intro bs)))
  refine GL.cons ?_; refine GO.callA (fun hF' hle hH => new_ok) Wt.o (by kernel_rfl) rfl rfl SubR.o ?_
  rintro v Γ' ⟨b, rfl, rfl⟩
  (repeat (first | refine GK.ro ?_ | (refine GK.box ?_; intro bl) | (refine GK.mkMap ?_; intro bm) | (refine GK.build0 tb ?_; intro bs)))
  refine GL.cons ?_; refine GO.alloc Wt.o (by exact rfl) ?_
  intro b4
  (repeat (first | refine GK.ro ?_ | (refine GK.box ?_; intro bl) | (refine GK.mkMap ?_; intro bm) | (refine GK.build0 tb ?_; intro bs)))
  refine GL.cons ?_; (first | refine Gt.storeAny tb 0 Wt.o rfl rfl rfl rfl (one_of_all rfl) rfl rfl ?_ | refine Gt.storeAny tb 1 Wt.o rfl rfl rfl rfl (one_of_all rfl) rfl rfl ?_)
  (repeat (first | refine GK.ro ?_ | (refine GK.box ?_; intro bl) | (refine GK.mkMap ?_; intro bm) | (refine GK.build0 tb ?_; intro bs)))
  refine G.loopK (X := Nat × Pp × Hp × RP × Value × Value × Value) [(3, _), (4, _), (19, _), (20, _)] (fun (i, _) => [(21, .int .i64 (i : Int))]) (fun (i, _) => l.length - i) (fun (_, P, H', _, uv, ov, fv) => [people b P, blk b4 44 (0, 0) [uv, ov, fv], poolOf H'])
    (fun (i, P, H', r, uv, ov, fv) => i ≤ l.length ∧ PInv P ∧ Sz P i ∧ le H H' ∧ Like P r ∧ RpAt H' r uv ov fv ∧ r.F.length ≤ i) (0, ⟨[], []⟩, H, ⟨[], [], []⟩, .slice none 0 0, .slice none 0 0, .slice none 0 0)
    ⟨Nat.zero_le _, PInv.nil, Sz.nil, le.refl _, Like.nil, ⟨by rw [strs_nil]; exact rs.nil, by rw [strs_nil]; exact rs.nil, by rw [fts_nil]; exact rs.nil, by simp, by simp, by simp⟩, by simp⟩ Sub.o (fun _ s => Sat.sub SubR.o s) (fun z hz q hq => ?_)
  obtain ⟨i, P, H0, r, uv, ov, fv⟩ := z
  obtain ⟨hi, hinv, hsz, le0, hlk, hrp, hfl⟩ := hz
  dsimp only [List.cons_append, List.nil_append] at hq hfl ⊢
  (repeat (first | refine GK.ro ?_ | (refine GK.box ?_; intro bl) | (refine GK.mkMap ?_; intro bm) | (refine GK.build0 tb ?_; intro bs)))
  (first | refine G.condP rfl (fun hb => ?_) (fun hb => ?_) | refine G.condN rfl (fun hb => ?_) (fun hb => ?_) | refine G.cond rfl (fun hb => ?_) (fun hb => ?_))
  · obtain ⟨x, hx⟩ : ∃ x, l[i]? = some x := ⟨_, List.getElem?_eq_getElem (by omega)⟩
    have hxk := hk x (List.mem_of_getElem? hx)
    obtain ⟨k0, k1, k2, k3, k4⟩ := acC_get x
    have hal := acC_len x
    have hao := actC_one x
    have haA : At (actC x) 0 (actC x) := At.all _
    have hlt : i < l.length := by omega
    clear hb
    obtain ⟨b1, o1, cs1, et1, fz1, rfl, hb1, hat1⟩ := hr (by omega)
    have hb1' := le0 _ _ hb1
    have hA : At cs1 (o1 + (i : Int).toNat * 5) (actC x) := at_trans hat1 (acts_at hx)
    (repeat (first | refine GK.ro ?_ | (refine GK.box ?_; intro bl) | (refine GK.mkMap ?_; intro bm) | (refine GK.build0 tb ?_; intro bs) | (refine GL.cons ?_; refine GO.alloc Wt.o (by exact rfl) ?_; intro ba) | (refine GL.cons ?_; refine Gt.storeAny tb 0 Wt.o (by exact rfl) (by exact rfl) (by exact rfl) (by assumption) (by assumption) (by exact rfl) (by first | exact rfl | assumption) ?_) | (refine GL.cons ?_; refine Gt.storeAny tb 1 Wt.o (by exact rfl) (by exact rfl) (by exact rfl) (by assumption) (by assumption) (by exact rfl) (by first | exact rfl | assumption) ?_) | (refine GL.cons ?_; refine Gt.storeAny tb 2 Wt.o (by exact rfl) (by exact rfl) (by exact rfl) (by assumption) (by assumption) (by exact rfl) (by first | exact rfl | assumption) ?_) | (refine GL.cons ?_; refine Gt.storeAny tb 3 Wt.o (by exact rfl) (by exact rfl) (by exact rfl) (by assumption) (by assumption) (by exact rfl) (by first | exact rfl | assumption) ?_) | (refine GL.cons ?_; refine Gt.storeAny tb 4 Wt.o (by exact rfl) (by exact rfl) (by exact rfl) (by assumption) (by assumption) (by exact rfl) (by first | exact rfl | assumption) ?_) | (refine GL.cons ?_; refine Gt.storeAny tb 5 Wt.o (by exact rfl) (by exact rfl) (by exact rfl) (by assumption) (by assumption) (by exact rfl) (by first | exact rfl | assumption) ?_) | (refine GL.cons ?_; refine Gt.storeAny tb 6 Wt.o (by exact rfl) (by exact rfl) (by exact rfl) (by assumption) (by assumption) (by exact rfl) (by first | exact rfl | assumption) ?_) | (refine GL.cons ?_; refine Gt.storeAny tb 7 Wt.o (by exact rfl) (by exact rfl) (by exact rfl) (by assumption) (by assumption) (by exact rfl) (by first | exact rfl | assumption) ?_) | (refine GL.cons ?_; refine Gt.storeAny tb 8 Wt.o (by exact rfl) (by exact rfl) (by exact rfl) (by assumption) (by assumption) (by exact rfl) (by first | exact rfl | assumption) ?_) | (refine GL.cons ?_; refine Gt.storeAny tb 9 Wt.o (by exact rfl) (by exact rfl) (by exact rfl) (by assumption) (by assumption) (by exact rfl) (by first | exact rfl | assumption) ?_)))
    refine GL.cons ?_; refine GO.callA (fun hF' hle hH => do_ok hxk hinv (hsz.small (by omega))) Wt.o (by kernel_rfl) rfl rfl SubR.o ?_
    rintro v Γ' ⟨rfl, rfl⟩
    have hlu : r.U.length ≤ 200 := by rw [hlk.u]; unfold usersM; rw [sortS_len]; have := hsz.u; omega
    have hlo : r.O.length ≤ 200 := by rw [hlk.o]; unfold orgsM; rw [sortS_len, List.length_map]; have := hsz.o; omega
    (repeat (first | refine GK.ro ?_ | (refine GK.box ?_; intro bl) | (refine GK.mkMap ?_; intro bm) | (refine GK.build0 tb ?_; intro bs)))
    refine GL.cons ?_; refine GO.callA (fun hF' hle hH => model_ok hxk hrp (by omega) (by omega) (by omega)) Wt.o (by kernel_rfl) rfl rfl SubR.o ?_
    rintro v Γ' ⟨H1, uv1, ov1, fv1, l1, rfl, h1, rfl⟩
    obtain ⟨hae, hlk2⟩ := hlk.act (x := x) hinv
    have hmf := model_f r x
    have ou := h1.u.one
    have oo := h1.o.one
    have of2 := h1.f.one
    (repeat (first | refine GK.ro ?_ | (refine GK.box ?_; intro bl) | (refine GK.mkMap ?_; intro bm) | (refine GK.build0 tb ?_; intro bs)))
    refine GL.cons ?_; (first | refine Gt.storeAny tb 0 Wt.o rfl rfl rfl rfl (by exact tri_one ou oo of2) rfl rfl ?_ | refine Gt.storeAny tb 1 Wt.o rfl rfl rfl rfl (by exact tri_one ou oo of2) rfl rfl ?_ | refine Gt.storeAny tb 2 Wt.o rfl rfl rfl rfl (by exact tri_one ou oo of2) rfl rfl ?_ | refine Gt.storeAny tb 3 Wt.o rfl rfl rfl rfl (by exact tri_one ou oo of2) rfl rfl ?_)
    rw [hae]
    have hinv2 := hinv.doM (x := x)
    have hsz2 := hsz.doM (x := x)
    have hsm := hsz2.small (by omega)
    generalize (doM P x).1 = e
    generalize (doM P x).2 = P2 at hinv2 hsz2 hsm hlk2 ⊢
    generalize (modelM r x).2 = r2 at h1 hlk2 hmf ⊢
    have hne : (!decide (e = e)) = false := by simp
    have ul := usersM_len hsm
    have ol := orgsM_len hsm
    have ml := membersM_len hsm x.o
    have tl := teamsM_len hsm x.o
    have sl := subTeams_len hsm x.o x.u
    have hem := hlk2.members hinv2 x.o
    have het := hlk2.teams hinv2 x.o
    have hes := hlk2.subs hinv2 x.o x.u
    have her := hlk2.role hinv2 x.o x.u
    (repeat (first | refine GK.ro ?_ | (refine GK.box ?_; intro bl) | (refine GK.mkMap ?_; intro bm) | (refine GK.build0 tb ?_; intro bs)))
    refine G.draw [] [blk b4 44 (0, 0) [uv1, ov1, fv1], blk ba 28 (0, 0) (actC x)] (by kernel_rfl) ?_
    ((first | refine GH.to 0 ?_ | refine GH.tos 0 ?_); (first | refine GH.to 1 ?_ | refine GH.tos 1 ?_); (first | refine GH.to 2 ?_ | refine GH.tos 2 ?_); (first | refine GH.to 3 ?_ | refine GH.tos 3 ?_))
    rw [hne]
    ((first | refine GH.to 4 ?_ | refine GH.tos 4 ?_); (first | refine GH.to 6 ?_ | refine GH.tos 6 ?_); (first | refine GH.to 7 ?_ | refine GH.tos 7 ?_))
    refine GH.step 5 rfl (by kernel_rfl) ?_
    refine GO.callA (fun hF' hle hH => users_ok hsm) Wt.o (by kernel_rfl) rfl rfl SubR.o ?_
    rintro v Γ' ⟨ex, ⟨tp2, tc2, rfl, rfl⟩, rfl⟩
    refine GH.keep (fun _ s => Sat.sub SubR.o s) ?_
    refine GH.heap (Γ' := [poolOf H1, row (.slice tp2 (usersM P2).length tc2) 9 1 (usersM P2).length (strs (usersM P2)), people b P2, blk b4 44 (0, 0) [uv1, ov1, fv1], blk ba 28 (0, 0) (actC x)]) (fun _ s => Sat.sub SubR.o s) ?_
    refine GH.absorb fun H2 k2 l2 a2 m2 => ?_
    have g2 := row_in a2 m2
    have hlu2 : r2.U.length ≤ 1099511627776 := by rw [hlk2.u]; exact ul
    have hlo2 : r2.O.length ≤ 1099511627776 := by rw [hlk2.o]; exact ol
    refine GH.step 8 rfl (by kernel_rfl) ?_
    refine GO.callA (fun hF' hle hH => texts_ok g2 (h1.u.mono l2) (by omega) (by omega)) Wt.o (by kernel_rfl) rfl rfl SubR.o ?_
    rw [decide_eq_true (hlk2.u.symm)]
    rintro v Γ' ⟨rfl, rfl⟩
    refine GH.keep (fun _ s => Sat.sub SubR.o s) ?_
    ((first | refine GH.to 9 ?_ | refine GH.tos 9 ?_); (first | refine GH.to 10 ?_ | refine GH.tos 10 ?_); (first | refine GH.to 11 ?_ | refine GH.tos 11 ?_); (first | refine GH.to 12 ?_ | refine GH.tos 12 ?_); (first | refine GH.to 14 ?_ | refine GH.tos 14 ?_); (first | refine GH.to 15 ?_ | refine GH.tos 15 ?_))
    refine GH.step 13 rfl (by kernel_rfl) ?_
    refine GO.callA (fun hF' hle hH => orgs_ok hsm) Wt.o (by kernel_rfl) rfl rfl SubR.o ?_
    rintro v Γ' ⟨ex, ⟨tp3, tc3, rfl, rfl⟩, rfl⟩
    refine GH.keep (fun _ s => Sat.sub SubR.o s) ?_
    refine GH.heap (Γ' := [poolOf H2, row (.slice tp3 (orgsM P2).length tc3) 9 1 (orgsM P2).length (strs (orgsM P2)), people b P2, blk b4 44 (0, 0) [uv1, ov1, fv1], blk ba 28 (0, 0) (actC x)]) (fun _ s => Sat.sub SubR.o s) ?_
    refine GH.absorb fun H3 k3 l3 a3 m3 => ?_
    have g3 := row_in a3 m3
    refine GH.step 16 rfl (by kernel_rfl) ?_
    refine GO.callA (fun hF' hle hH => texts_ok g3 (h1.o.mono (l2.trans l3)) (by omega) (by omega)) Wt.o (by kernel_rfl) rfl rfl SubR.o ?_
    rw [decide_eq_true (hlk2.o.symm)]
    rintro v Γ' ⟨rfl, rfl⟩
    refine GH.keep (fun _ s => Sat.sub SubR.o s) ?_
    ((first | refine GH.to 17 ?_ | refine GH.tos 17 ?_); (first | refine GH.to 18 ?_ | refine GH.tos 18 ?_); (first | refine GH.to 19 ?_ | refine GH.tos 19 ?_); (first | refine GH.to 20 ?_ | refine GH.tos 20 ?_); (first | refine GH.to 21 ?_ | refine GH.tos 21 ?_); (first | refine GH.to 22 ?_ | refine GH.tos 22 ?_); (first | refine GH.to 24 ?_ | refine GH.tos 24 ?_); (first | refine GH.to 25 ?_ | refine GH.tos 25 ?_); (first | refine GH.to 26 ?_ | refine GH.tos 26 ?_))
    refine GH.step 23 rfl (by kernel_rfl) ?_
    refine GO.callA (fun hF' hle hH => members_ok (n := x.o) hsm) Wt.o (by kernel_rfl) rfl rfl SubR.o ?_
    rintro v Γ' ⟨ex, ⟨tp4, tc4, rfl, rfl⟩, rfl⟩
    refine GH.keep (fun _ s => Sat.sub SubR.o s) ?_
    refine GH.heap (Γ' := [poolOf H3, row (.slice tp4 (membersM P2 x.o).length tc4) 9 1 (membersM P2 x.o).length (strs (membersM P2 x.o)), people b P2, blk b4 44 (0, 0) [uv1, ov1, fv1], blk ba 28 (0, 0) (actC x)]) (fun _ s => Sat.sub SubR.o s) ?_
    refine GH.absorb fun H4 k4 l4 a4 m4 => ?_
    have g4 := row_in a4 m4
    have h4 := h1.mono ((l2.trans l3).trans l4)
    refine GH.step 27 rfl (by kernel_rfl) ?_
    refine GO.callA (fun hF' hle hH => rmembers_ok (o := x.o) h4) Wt.o (by kernel_rfl) rfl rfl SubR.o ?_
    rintro v Γ' ⟨H5, l5, hm5, rfl⟩
    refine GH.keep (fun _ s => Sat.sub SubR.o s) ?_
    refine GH.step 28 rfl (by kernel_rfl) ?_
    refine GO.callA (fun hF' hle hH => texts_ok (g4.mono l5) hm5 (by omega) (by rw [hem]; omega)) Wt.o (by kernel_rfl) rfl rfl SubR.o ?_
    rw [decide_eq_true (hem.symm)]
    rintro v Γ' ⟨rfl, rfl⟩
    refine GH.keep (fun _ s => Sat.sub SubR.o s) ?_
    ((first | refine GH.to 29 ?_ | refine GH.tos 29 ?_); (first | refine GH.to 30 ?_ | refine GH.tos 30 ?_); (first | refine GH.to 31 ?_ | refine GH.tos 31 ?_); (first | refine GH.to 32 ?_ | refine GH.tos 32 ?_); (first | refine GH.to 33 ?_ | refine GH.tos 33 ?_); (first | refine GH.to 34 ?_ | refine GH.tos 34 ?_); (first | refine GH.to 36 ?_ | refine GH.tos 36 ?_); (first | refine GH.to 37 ?_ | refine GH.tos 37 ?_); (first | refine GH.to 38 ?_ | refine GH.tos 38 ?_))
    refine GH.step 35 rfl (by kernel_rfl) ?_
    refine GO.callA (fun hF' hle hH => teams_ok (n := x.o) hsm) Wt.o (by kernel_rfl) rfl rfl SubR.o ?_
    rintro v Γ' ⟨ex, ⟨tp6, tc6, rfl, rfl⟩, rfl⟩
    refine GH.keep (fun _ s => Sat.sub SubR.o s) ?_
    refine GH.heap (Γ' := [poolOf H5, row (.slice tp6 (teamsM P2 x.o).length tc6) 9 1 (teamsM P2 x.o).length (strs (teamsM P2 x.o)), people b P2, blk b4 44 (0, 0) [uv1, ov1, fv1], blk ba 28 (0, 0) (actC x)]) (fun _ s => Sat.sub SubR.o s) ?_
    refine GH.absorb fun H6 k6 l6 a6 m6 => ?_
    have g6 := row_in a6 m6
    have h6 := h4.mono (l5.trans l6)
    refine GH.step 39 rfl (by kernel_rfl) ?_
    refine GO.callA (fun hF' hle hH => rteams_ok (o := x.o) h6) Wt.o (by kernel_rfl) rfl rfl SubR.o ?_
    rintro v Γ' ⟨H7, l7, hm7, rfl⟩
    refine GH.keep (fun _ s => Sat.sub SubR.o s) ?_
    refine GH.step 40 rfl (by kernel_rfl) ?_
    refine GO.callA (fun hF' hle hH => texts_ok (g6.mono l7) hm7 (by omega) (by rw [het]; omega)) Wt.o (by kernel_rfl) rfl rfl SubR.o ?_
    rw [decide_eq_true (het.symm)]
    rintro v Γ' ⟨rfl, rfl⟩
    refine GH.keep (fun _ s => Sat.sub SubR.o s) ?_
    ((first | refine GH.to 41 ?_ | refine GH.tos 41 ?_); (first | refine GH.to 42 ?_ | refine GH.tos 42 ?_); (first | refine GH.to 43 ?_ | refine GH.tos 43 ?_); (first | refine GH.to 44 ?_ | refine GH.tos 44 ?_); (first | refine GH.to 45 ?_ | refine GH.tos 45 ?_); (first | refine GH.to 46 ?_ | refine GH.tos 46 ?_); (first | refine GH.to 47 ?_ | refine GH.tos 47 ?_); (first | refine GH.to 48 ?_ | refine GH.tos 48 ?_); (first | refine GH.to 50 ?_ | refine GH.tos 50 ?_); (first | refine GH.to 51 ?_ | refine GH.tos 51 ?_); (first | refine GH.to 52 ?_ | refine GH.tos 52 ?_); (first | refine GH.to 53 ?_ | refine GH.tos 53 ?_); (first | refine GH.to 54 ?_ | refine GH.tos 54 ?_))
    refine GH.step 49 rfl (by kernel_rfl) ?_
    refine GO.callA (fun hF' hle hH => subject_ok (n := x.o) (u := x.u) hsm) Wt.o (by kernel_rfl) rfl rfl SubR.o ?_
    rintro v Γ' ⟨ex, ⟨tp8, tc8, rfl, rfl⟩, rfl⟩
    refine GH.keep (fun _ s => Sat.sub SubR.o s) ?_
    refine GH.heap (Γ' := [poolOf H7, row (.slice tp8 (subTeams P2 x.o x.u).length tc8) 9 1 (subTeams P2 x.o x.u).length (strs (subTeams P2 x.o x.u)), people b P2, blk b4 44 (0, 0) [uv1, ov1, fv1], blk ba 28 (0, 0) (actC x)]) (fun _ s => Sat.sub SubR.o s) ?_
    refine GH.absorb fun H8 k8 l8 a8 m8 => ?_
    have g8 := row_in a8 m8
    have h8 := h6.mono (l7.trans l8)
    refine GH.step 55 rfl (by kernel_rfl) ?_
    refine GO.callA (fun hF' hle hH => rsubject_ok (o := x.o) (u := x.u) h8) Wt.o (by kernel_rfl) rfl rfl SubR.o ?_
    rintro v Γ' ⟨H9, tv9, l9, rfl, hm9, rfl⟩
    refine GH.keep (fun _ s => Sat.sub SubR.o s) ?_
    refine GH.step 56 rfl (by kernel_rfl) ?_
    refine GO.callA (fun hF' hle hH => sameS_ok (u1 := x.u) (u2 := x.u) (r1 := subRole P2 x.o x.u) (r2 := roleR r2.F x.o x.u) (t1 := subTeams P2 x.o x.u) (t2 := inR r2.F x.o x.u) (g8.mono l9) hm9 (by omega) (by rw [hes]; omega)) Wt.o (by kernel_rfl) rfl rfl SubR.o ?_
    rw [decide_eq_true (⟨rfl, her.symm, hes.symm⟩ : x.u = x.u ∧ subRole P2 x.o x.u = roleR r2.F x.o x.u ∧ subTeams P2 x.o x.u = inR r2.F x.o x.u)]
    rintro v Γ' ⟨rfl, rfl⟩
    refine GH.keep (fun _ s => Sat.sub SubR.o s) ?_
    ((first | refine GH.to 57 ?_ | refine GH.tos 57 ?_); (first | refine GH.to 58 ?_ | refine GH.tos 58 ?_))
    refine GH.fin (by kernel_rfl) ?_
    (repeat (first | refine GK.ro ?_ | (refine GK.box ?_; intro bl) | (refine GK.mkMap ?_; intro bm) | (refine GK.build0 tb ?_; intro bs)))
    (refine GQ.againN ((i + 1, P2, H9, r2, uv1, ov1, fv1)) ?_ ?_ ?_ ?_; rotate_left; (first | omega | (dsimp only; omega)); exact Sub.o; exact (fun _ s => Sat.sub SubR.o s))
    exact ⟨by omega, hinv2, hsz2, (((((((le0.trans l1).trans l2).trans l3).trans l4).trans l5).trans l6).trans (l7.trans l8)).trans l9, hlk2, h8.mono l9, Nat.le_trans hmf (Nat.succ_le_succ hfl)⟩
  · have hsm := hsz.small (by omega)
    have hlu : r.U.length ≤ 200 := by rw [hlk.u]; unfold usersM; rw [sortS_len]; have := hsz.u; omega
    have hlo : r.O.length ≤ 200 := by rw [hlk.o]; unfold orgsM; rw [sortS_len, List.length_map]; have := hsz.o; omega
    have hrp0 := hrp
    obtain ⟨pu, cu, rfl, hcu, hlnu, hru⟩ := rs.out hrp.u
    obtain ⟨po, co, rfl, hco, hlno, hro⟩ := rs.out hrp.o
    (repeat (first | refine GK.ro ?_ | (refine GK.box ?_; intro bl) | (refine GK.mkMap ?_; intro bm) | (refine GK.build0 tb ?_; intro bs)))
    refine G.loopK (X := Nat × Hp) [(3, _), (4, _), (95, _), (96, _)] (fun (j, _) => [(97, .int .i64 (j : Int))]) (fun (j, _) => r.O.length - j) (fun (_, H') => [people b P, blk b4 44 (0, 0) [.slice pu r.U.length cu, .slice po r.O.length co, fv], poolOf H'])
      (fun (j, H') => j ≤ r.O.length ∧ le H0 H') (0, H0) ⟨Nat.zero_le _, le.refl _⟩ Sub.o (fun _ s => Sat.sub SubR.o s) (fun z hz q2 hq2 => ?_)
    obtain ⟨j, H1⟩ := z
    obtain ⟨hj, l1⟩ := hz
    dsimp only [List.cons_append, List.nil_append] at hq2 ⊢
    (repeat (first | refine GK.ro ?_ | (refine GK.box ?_; intro bl) | (refine GK.mkMap ?_; intro bm) | (refine GK.build0 tb ?_; intro bs)))
    (first | refine G.condP rfl (fun hb => ?_) (fun hb => ?_) | refine G.condN rfl (fun hb => ?_) (fun hb => ?_) | refine G.cond rfl (fun hb => ?_) (fun hb => ?_))
    · obtain ⟨n, hn⟩ : ∃ n, r.O[j]? = some n := ⟨_, List.getElem?_eq_getElem (by omega)⟩
      have hlt2 : j < r.O.length := by omega
      clear hb
      obtain ⟨b1, o1, cs1, et1, fz1, rfl, hb1, hat1⟩ := hro (by omega)
      have hb1' := l1 _ _ hb1
      have hA1 : cs1[o1 + (j : Int).toNat * 1]? = some (str n) := by have := hat1 j _ (strs_get hn); simpa using this
      (repeat (first | refine GK.ro ?_ | (refine GK.box ?_; intro bl) | (refine GK.mkMap ?_; intro bm) | (refine GK.build0 tb ?_; intro bs)))
      refine G.loopK (X := Nat × Hp) [(3, _), (4, _), (10, _), (95, _), (96, _), (97, _), (102, _), (103, _)] (fun (k, _) => [(104, .int .i64 (k : Int))]) (fun (k, _) => r.U.length - k) (fun (_, H') => [people b P, blk b4 44 (0, 0) [.slice pu r.U.length cu, .slice (some ⟨b1, o1, none⟩) r.O.length co, fv], poolOf H'])
        (fun (k, H') => k ≤ r.U.length ∧ le H1 H') (0, H1) ⟨Nat.zero_le _, le.refl _⟩ Sub.o (fun _ s => Sat.sub SubR.o s) (fun z2 hz2 q3 hq3 => ?_)
      obtain ⟨k, H2⟩ := z2
      obtain ⟨hk2, l2⟩ := hz2
      dsimp only [List.cons_append, List.nil_append] at hq3 ⊢
      (repeat (first | refine GK.ro ?_ | (refine GK.box ?_; intro bl) | (refine GK.mkMap ?_; intro bm) | (refine GK.build0 tb ?_; intro bs)))
      (first | refine G.condP rfl (fun hb => ?_) (fun hb => ?_) | refine G.condN rfl (fun hb => ?_) (fun hb => ?_) | refine G.cond rfl (fun hb => ?_) (fun hb => ?_))
      · obtain ⟨u, hu⟩ : ∃ u, r.U[k]? = some u := ⟨_, List.getElem?_eq_getElem (by omega)⟩
        have hlt3 : k < r.U.length := by omega
        clear hb
        obtain ⟨b5, o5, cs5, et5, fz5, rfl, hb5, hat5⟩ := hru (by omega)
        have hb5' := l2 _ _ (l1 _ _ hb5)
        have hA5 : cs5[o5 + (k : Int).toNat * 1]? = some (str u) := by have := hat5 k _ (strs_get hu); simpa using this
        have sl := subTeams_len hsm n u
        have hes := hlk.subs hinv n u
        have her := hlk.role hinv n u
        have h2 := hrp0.mono (l1.trans l2)
        (repeat (first | refine GK.ro ?_ | (refine GK.box ?_; intro bl) | (refine GK.mkMap ?_; intro bm) | (refine GK.build0 tb ?_; intro bs)))
        refine G.draw [] [blk b4 44 (0, 0) [.slice (some ⟨b5, o5, none⟩) r.U.length cu, .slice (some ⟨b1, o1, none⟩) r.O.length co, fv]] (by kernel_rfl) ?_
        ((first | refine GH.to 0 ?_ | refine GH.tos 0 ?_); (first | refine GH.to 1 ?_ | refine GH.tos 1 ?_); (first | refine GH.to 2 ?_ | refine GH.tos 2 ?_); (first | refine GH.to 4 ?_ | refine GH.tos 4 ?_); (first | refine GH.to 5 ?_ | refine GH.tos 5 ?_); (first | refine GH.to 6 ?_ | refine GH.tos 6 ?_))
        refine GH.step 3 rfl (by kernel_rfl) ?_
        refine GO.callA (fun hF' hle hH => subject_ok (n := n) (u := u) hsm) Wt.o (by kernel_rfl) rfl rfl SubR.o ?_
        rintro v Γ' ⟨ex, ⟨sp, sc, rfl, rfl⟩, rfl⟩
        refine GH.keep (fun _ s => Sat.sub SubR.o s) ?_
        refine GH.heap (Γ' := [poolOf H2, row (.slice sp (subTeams P n u).length sc) 9 1 (subTeams P n u).length (strs (subTeams P n u)), people b P, blk b4 44 (0, 0) [.slice (some ⟨b5, o5, none⟩) r.U.length cu, .slice (some ⟨b1, o1, none⟩) r.O.length co, fv]]) (fun _ s => Sat.sub SubR.o s) ?_
        refine GH.absorb fun H3 k3 l3 a3 m3 => ?_
        have g3 := row_in a3 m3
        have h3 := h2.mono l3
        refine GH.step 7 rfl (by kernel_rfl) ?_
        refine GO.callA (fun hF' hle hH => rsubject_ok (o := n) (u := u) h3) Wt.o (by kernel_rfl) rfl rfl SubR.o ?_
        rintro v Γ' ⟨H4, tv4, l4, rfl, hm4, rfl⟩
        refine GH.keep (fun _ s => Sat.sub SubR.o s) ?_
        refine GH.step 8 rfl (by kernel_rfl) ?_
        refine GO.callA (fun hF' hle hH => sameS_ok (u1 := u) (u2 := u) (r1 := subRole P n u) (r2 := roleR r.F n u) (t1 := subTeams P n u) (t2 := inR r.F n u) (g3.mono l4) hm4 (by omega) (by rw [hes]; omega)) Wt.o (by kernel_rfl) rfl rfl SubR.o ?_
        rw [decide_eq_true (⟨rfl, her.symm, hes.symm⟩ : u = u ∧ subRole P n u = roleR r.F n u ∧ subTeams P n u = inR r.F n u)]
        rintro v Γ' ⟨rfl, rfl⟩
        refine GH.keep (fun _ s => Sat.sub SubR.o s) ?_
        ((first | refine GH.to 9 ?_ | refine GH.tos 9 ?_))
        refine GH.fin (by kernel_rfl) ?_
        (repeat (first | refine GK.ro ?_ | (refine GK.box ?_; intro bl) | (refine GK.mkMap ?_; intro bm) | (refine GK.build0 tb ?_; intro bs)))
        (refine GQ.againN ((k + 1, H4)) ?_ ?_ ?_ ?_; rotate_left; (first | omega | (dsimp only; omega)); exact Sub.o; exact (fun _ s => Sat.sub SubR.o s))
        exact ⟨by omega, (l2.trans l3).trans l4⟩
      · (repeat (first | refine GK.ro ?_ | (refine GK.box ?_; intro bl) | (refine GK.mkMap ?_; intro bm) | (refine GK.build0 tb ?_; intro bs)))
        (refine GQ.againN ((j + 1, H2)) ?_ ?_ ?_ ?_; rotate_left; (first | omega | (dsimp only; omega)); exact Sub.o; exact (fun _ s => Sat.sub SubR.o s))
        exact ⟨by omega, l1.trans l2⟩
    · (repeat (first | refine GK.ro ?_ | (refine GK.box ?_; intro bl) | (refine GK.mkMap ?_; intro bm) | (refine GK.build0 tb ?_; intro bs)))
      refine GL.cons ?_; refine GO.callA (fun hF' hle hH => lives_ok) Wt.o (by kernel_rfl) rfl rfl SubR.o ?_
      rintro v Γ' ⟨rfl, rfl⟩
      (repeat (first | refine GK.ro ?_ | (refine GK.box ?_; intro bl) | (refine GK.mkMap ?_; intro bm) | (refine GK.build0 tb ?_; intro bs)))
      exact GQ.fin1 rfl (Rv.tmp rfl) (fun _ s => Sat.sub SubR.o s) ⟨rfl, H1, _, le0.trans l1, rfl⟩
theorem plays_law {W : World} {l : List Ac} {v : Value} (h : rs (mem W) v l.length 5 (acts l)) (hk : ∀ x ∈ l, x.Ok) (n1 : l.length ≤ 140737488355328) :
    FnOk Go.Proofs.Try.prog 6 [v] [poolOf (mem W)] emp (LawR W) := playsLaw_ok h hk n1
end Go.Pe
