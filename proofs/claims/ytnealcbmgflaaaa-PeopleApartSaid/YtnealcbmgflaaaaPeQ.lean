/- PeopleApart. -/
import Derived.Test.YtnealcbmgflaaaaPeO
set_option linter.unusedSimpArgs false
set_option linter.unusedVariables false
namespace Go.Pe
open Go Go.Sl Go.Ls
set_option maxRecDepth 100000
theorem getO_snoc {L : List (By × Og)} {k n : By} {o : Og} (h : n ≠ k) : getO (L ++ [(k, o)]) n = getO L n := by
  induction L with
  | nil => show (if n = k then some o else none) = none; exact if_neg h
  | cons y r ih =>
    obtain ⟨q, p⟩ := y
    rw [List.cons_append]
    unfold getO
    rw [ih]
theorem onO_apart {P : Pp} {k n : By} {g : Og → Int × Og} (h : n ≠ k) : getO (onO P k g).2.orgs n = getO P.orgs n := by
  unfold onO
  cases hk : getO P.orgs k with
  | none => rfl
  | some o => show getO (updO _ _ _) n = _; rw [getO_upd, if_neg h]
theorem doM_apart {P : Pp} {x : Ac} {n : By} (h : x.o ≠ n) : getO (doM P x).2.orgs n = getO P.orgs n := by
  have h' : n ≠ x.o := fun e => h e.symm
  unfold doM
  split
  · unfold addUserM; dsimp only; split <;> rfl
  split
  · unfold addOrgM
    dsimp only
    split
    · exact getO_snoc h'
    · rfl
  split
  · exact onO_apart h'
  split
  · exact onO_apart h'
  split
  · exact onO_apart h'
  split
  · exact onO_apart h'
  · exact onO_apart h'
theorem told_apart {P P' : Pp} {n : By} (h : getO P'.orgs n = getO P.orgs n) : membersM P' n = membersM P n ∧ teamsM P' n = teamsM P n ∧ ∀ u, subTeams P' n u = subTeams P n u ∧ subRole P' n u = subRole P n u := by
  unfold membersM teamsM subTeams subRole
  rw [h]
  exact ⟨rfl, rfl, fun u => ⟨rfl, rfl⟩⟩
/-- Subjects, told one behind the other. -/
def wasC (P : Pp) (n : By) (l : List (By × Value)) : List Value := l.flatMap fun x => subC x.1 x.2 (subRole P n x.1)
theorem wasC_len (P : Pp) (n : By) (l : List (By × Value)) : (wasC P n l).length = l.length * 3 := by unfold wasC; exact flatMap_len (fun _ => rfl)
theorem wasC_at {P : Pp} {n : By} {l : List (By × Value)} {i : Nat} {x : By × Value} (h : l[i]? = some x) : At (wasC P n l) (i * 3) (subC x.1 x.2 (subRole P n x.1)) := by
  unfold wasC; exact flatMap_at (sz := 3) (f := fun x => subC x.1 x.2 (subRole P n x.1)) (fun _ => rfl) h
theorem wasC_snoc (P : Pp) (n : By) (l : List (By × Value)) (x : By × Value) : wasC P n (l ++ [x]) = wasC P n l ++ subC x.1 x.2 (subRole P n x.1) := by unfold wasC; rw [List.flatMap_append]; simp
theorem wasC_nil (P : Pp) (n : By) : wasC P n [] = [] := rfl
/-- What was told lies in this memory. -/
def WasAt (P : Pp) (n : By) (us : List By) (H : Hp) (l : List (By × Value)) : Prop := (∃ j, l.map (·.1) = us.take j) ∧ ∀ x ∈ l, rs H x.2 (subTeams P n x.1).length 1 (strs (subTeams P n x.1))
theorem WasAt.mono {P : Pp} {n : By} {us : List By} {H H' : Hp} {l : List (By × Value)} (h : WasAt P n us H l) (hl : le H H') : WasAt P n us H' l := ⟨h.1, fun x hx => (h.2 x hx).mono hl⟩
end Go.Pe
namespace Go.Sl
theorem GH.absorb {P : Program} {cx : Cx} {fr : Fr} {Γ : List HProp} {Q : Exit → Act → World → Prop} {ops : Array Oper} {fs : List Nat} {Δ : List HProp} {n : Nat} {done : Array Bool} {A : HProp} {H : Hp}
    (h : ∀ H' k, le H H' → A k → le k H' → GH P cx ops Q fs Δ n done fr (poolOf H' :: Γ)) : GH P cx ops Q fs Δ n done fr (poolOf H :: A :: Γ) := fun hcl => GK.absorb fun H' k a b c => h H' k a b c hcl
end Go.Sl
namespace Go.Pe
open Go Go.Sl Go.Ls
set_option maxRecDepth 100000
set_option maxHeartbeats 4000000
attribute [local irreducible] GK GO Yl Wt Ef Hd GH KH wpListIn Code.wpIn toBody roundQ poolOf rs RS YieldOk IterOk VOk row star exs mp lp Sat pt FnOk Rd bodyPost bodyPostM Lv Ret Exit.then Exit.inBlock Exit.noGoto Int.decLt Int.decLe Int.instDecidableEq
attribute [local irreducible] u8s strs likeTo rng rngAt keys encU encT encV encO inT freshM unitV Pa.nameM lastM vset vdel vget inP teamErr actC acts people onO joinM leaveM addTeamM putM outM addUserM addOrgM subTeams subRole usersM membersM teamsM orgsM doM wasC
set_option pp.deepTerms true
set_option pp.maxSteps 1000000
variable {hF H : Hp}
theorem apartLaw_ok {l : List Ac} {v : Value} {y : Ac} {n : By} (h : rs H v l.length 5 (acts l)) (hk : ∀ x ∈ l, x.Ok) (n1 : l.length ≤ 140737488355328) (hy : y.Ok) (hn : n.length ≤ 140737488355328) :
    FnOk Go.Proofs.Try.prog 5 [v, .agg ⟨actC y⟩, str n] [poolOf H] hF (fun v Γ => v = .bool true ∧ ∃ H' Γ2, le H H' ∧ Γ = poolOf H' :: Γ2) := by
  have h0 := h
  obtain ⟨p, c, rfl, hc, hln, hr⟩ := rs.out h
  obtain ⟨y0, y1, y2, y3, y4⟩ := acC_get y
  have yo := hy.o
  have yt := hy.t
  have yu := hy.u
  refine FnOk.intro 117 Go.Proofs.Try.func5 rfl rfl fun w0 => ?_
  (repeat (first | refine GK.ro ?_ | (refine GK.box ?_; intro bl) | (refine GK.mkMap ?_; intro bm) | (refine GK.build0 tb ?_; intro bs)))
  refine GL.cons ?_; refine GO.callA (fun hF' hle hH => few_ok h0 hk n1) Wt.o (by kernel_rfl) rfl rfl SubR.o ?_
  rintro v Γ' ⟨⟨bb, rfl, hfew⟩, rfl⟩
  cases bb with
  | false =>
    (repeat (first | refine GK.ro ?_ | (refine GK.box ?_; intro bl) | (refine GK.mkMap ?_; intro bm) | (refine GK.build0 tb ?_; intro bs)))
    refine GL.cons ?_; refine GO.callA (fun hF' hle hH => lives_ok) Wt.o (by kernel_rfl) rfl rfl SubR.o ?_
    rintro v Γ' ⟨rfl, rfl⟩
    (repeat (first | refine GK.ro ?_ | (refine GK.box ?_; intro bl) | (refine GK.mkMap ?_; intro bm) | (refine GK.build0 tb ?_; intro bs)))
    exact GQ.fin1 rfl (Rv.tmp rfl) (fun _ s => Sat.sub SubR.o s) ⟨rfl, H, [], le.refl _, rfl⟩
  | true =>
  have hl200 := hfew rfl
  by_cases hn1 : 1000 < n.length
  · (repeat (first | refine GK.ro ?_ | (refine GK.box ?_; intro bl) | (refine GK.mkMap ?_; intro bm) | (refine GK.build0 tb ?_; intro bs)))
    refine GL.cons ?_; refine GO.callA (fun hF' hle hH => lives_ok) Wt.o (by kernel_rfl) rfl rfl SubR.o ?_
    rintro v Γ' ⟨rfl, rfl⟩
    (repeat (first | refine GK.ro ?_ | (refine GK.box ?_; intro bl) | (refine GK.mkMap ?_; intro bm) | (refine GK.build0 tb ?_; intro bs)))
    exact GQ.fin1 rfl (Rv.tmp rfl) (fun _ s => Sat.sub SubR.o s) ⟨rfl, H, [], le.refl _, rfl⟩
  by_cases hne : y.o = n
  · have hb : (y.o == n) = true := by simp [hne]
    (repeat (first | refine GK.ro ?_ | (refine GK.box ?_; intro bl) | (refine GK.mkMap ?_; intro bm) | (refine GK.build0 tb ?_; intro bs)))
    refine GL.cons ?_; refine GO.callA (fun hF' hle hH => lives_ok) Wt.o (by kernel_rfl) rfl rfl SubR.o ?_
    rintro v Γ' ⟨rfl, rfl⟩
    (repeat (first | refine GK.ro ?_ | (refine GK.box ?_; intro bl) | (refine GK.mkMap ?_; intro bm) | (refine GK.build0 tb ?_; intro bs)))
    exact GQ.fin1 rfl (Rv.tmp rfl) (fun _ s => Sat.sub SubR.o s) ⟨rfl, H, [], le.refl _, rfl⟩
  have hb : (y.o == n) = false := by simp [hne]
  by_cases hn2 : 1000 < y.o.length + y.t.length + y.u.length
  · (repeat (first | refine GK.ro ?_ | (refine GK.box ?_; intro bl) | (refine GK.mkMap ?_; intro bm) | (refine GK.build0 tb ?_; intro bs)))
    refine GL.cons ?_; refine GO.callA (fun hF' hle hH => lives_ok) Wt.o (by kernel_rfl) rfl rfl SubR.o ?_
    rintro v Γ' ⟨rfl, rfl⟩
    (repeat (first | refine GK.ro ?_ | (refine GK.box ?_; intro bl) | (refine GK.mkMap ?_; intro bm) | (refine GK.build0 tb ?_; intro bs)))
    exact GQ.fin1 rfl (Rv.tmp rfl) (fun _ s => Sat.sub SubR.o s) ⟨rfl, H, [], le.refl _, rfl⟩
  (repeat (first | refine GK.ro ?_ | (refine GK.box ?_; intro bl) | (refine GK.mkMap ?_; intro bm) | (refine GK.build0 tb ?_; intro bs)))
  refine GL.cons ?_; refine GO.callA (fun hF' hle hH => new_ok) Wt.o (by kernel_rfl) rfl rfl SubR.o ?_
  rintro v Γ' ⟨b, rfl, rfl⟩
  (repeat (first | refine GK.ro ?_ | (refine GK.box ?_; intro bl) | (refine GK.mkMap ?_; intro bm) | (refine GK.build0 tb ?_; intro bs)))
  refine G.loopK (X := Nat × Pp) [(2, _), (4, _), (7, _), (48, _), (49, _)] (fun (i, _) => [(50, .int .i64 (i : Int))]) (fun (i, _) => l.length - i) (fun (_, P) => [people b P, blk bl 28 (0, 0) (actC y), poolOf H]) (fun (i, P) => i ≤ l.length ∧ PInv P ∧ Sz P i) (0, ⟨[], []⟩) ⟨Nat.zero_le _, PInv.nil, Sz.nil⟩ Sub.o (fun _ s => Sat.sub SubR.o s) (fun x hx q hq => ?_)
  obtain ⟨i, P⟩ := x
  obtain ⟨hi, hinv, hsz⟩ := hx
  dsimp only [List.cons_append, List.nil_append] at hq ⊢
  (repeat (first | refine GK.ro ?_ | (refine GK.box ?_; intro bl) | (refine GK.mkMap ?_; intro bm) | (refine GK.build0 tb ?_; intro bs)))
  (first | refine G.condP rfl (fun hb => ?_) (fun hb => ?_) | refine G.condN rfl (fun hb => ?_) (fun hb => ?_) | refine G.cond rfl (fun hb => ?_) (fun hb => ?_))
  · obtain ⟨x, hx⟩ : ∃ x, l[i]? = some x := ⟨_, List.getElem?_eq_getElem (by omega)⟩
    have hxk := hk x (List.mem_of_getElem? hx)
    obtain ⟨k0, k1, k2, k3, k4⟩ := acC_get x
    have hal := acC_len x
    have hao := actC_one x
    have haA : At (actC x) 0 (actC x) := At.all _
    have hlt : i < l.length := by omega
    obtain ⟨b1, o1, cs1, et1, fz1, rfl, hb1, hat1⟩ := hr (by omega)
    have hA : At cs1 (o1 + (i : Int).toNat * 5) (actC x) := at_trans hat1 (acts_at hx)
    (repeat (first | refine GK.ro ?_ | (refine GK.box ?_; intro bl) | (refine GK.mkMap ?_; intro bm) | (refine GK.build0 tb ?_; intro bs) | (refine GL.cons ?_; refine GO.alloc Wt.o (by exact rfl) ?_; intro ba) | (refine GL.cons ?_; refine Gt.storeAny tb 0 Wt.o (by exact rfl) (by exact rfl) (by exact rfl) (by assumption) (by assumption) (by exact rfl) (by first | exact rfl | assumption) ?_) | (refine GL.cons ?_; refine Gt.storeAny tb 1 Wt.o (by exact rfl) (by exact rfl) (by exact rfl) (by assumption) (by assumption) (by exact rfl) (by first | exact rfl | assumption) ?_) | (refine GL.cons ?_; refine Gt.storeAny tb 2 Wt.o (by exact rfl) (by exact rfl) (by exact rfl) (by assumption) (by assumption) (by exact rfl) (by first | exact rfl | assumption) ?_) | (refine GL.cons ?_; refine Gt.storeAny tb 3 Wt.o (by exact rfl) (by exact rfl) (by exact rfl) (by assumption) (by assumption) (by exact rfl) (by first | exact rfl | assumption) ?_) | (refine GL.cons ?_; refine Gt.storeAny tb 4 Wt.o (by exact rfl) (by exact rfl) (by exact rfl) (by assumption) (by assumption) (by exact rfl) (by first | exact rfl | assumption) ?_) | (refine GL.cons ?_; refine Gt.storeAny tb 5 Wt.o (by exact rfl) (by exact rfl) (by exact rfl) (by assumption) (by assumption) (by exact rfl) (by first | exact rfl | assumption) ?_) | (refine GL.cons ?_; refine Gt.storeAny tb 6 Wt.o (by exact rfl) (by exact rfl) (by exact rfl) (by assumption) (by assumption) (by exact rfl) (by first | exact rfl | assumption) ?_) | (refine GL.cons ?_; refine Gt.storeAny tb 7 Wt.o (by exact rfl) (by exact rfl) (by exact rfl) (by assumption) (by assumption) (by exact rfl) (by first | exact rfl | assumption) ?_) | (refine GL.cons ?_; refine Gt.storeAny tb 8 Wt.o (by exact rfl) (by exact rfl) (by exact rfl) (by assumption) (by assumption) (by exact rfl) (by first | exact rfl | assumption) ?_) | (refine GL.cons ?_; refine Gt.storeAny tb 9 Wt.o (by exact rfl) (by exact rfl) (by exact rfl) (by assumption) (by assumption) (by exact rfl) (by first | exact rfl | assumption) ?_)))
    refine GL.cons ?_; refine GO.callA (fun hF' hle hH => do_ok hxk hinv (hsz.small (by omega))) Wt.o (by kernel_rfl) rfl rfl SubR.o ?_
    rintro v Γ' ⟨rfl, rfl⟩
    (repeat (first | refine GK.ro ?_ | (refine GK.box ?_; intro bl) | (refine GK.mkMap ?_; intro bm) | (refine GK.build0 tb ?_; intro bs)))
    (refine GQ.againN ((i + 1, (doM P x).2)) ?_ ?_ ?_ ?_; rotate_left; (first | omega | (dsimp only; omega)); exact Sub.o; exact (fun _ s => Sat.sub SubR.o s))
    exact ⟨by omega, hinv.doM, hsz.doM⟩
  have hsm := hsz.small (by omega)
  have ml := membersM_len hsm n
  have tl := teamsM_len hsm n
  have ul := usersM_len hsm
  (repeat (first | refine GK.ro ?_ | (refine GK.box ?_; intro bl) | (refine GK.mkMap ?_; intro bm) | (refine GK.build0 tb ?_; intro bs)))
  refine GL.cons ?_; refine GO.callA (fun hF' hle hH => members_ok (n := n) hsm) Wt.o (by kernel_rfl) rfl rfl SubR.o ?_
  rintro v Γ' ⟨ex, ⟨mp2, mc, rfl, rfl⟩, rfl⟩
  (repeat (first | refine GK.ro ?_ | (refine GK.box ?_; intro bl) | (refine GK.mkMap ?_; intro bm) | (refine GK.build0 tb ?_; intro bs)))
  refine GL.cons ?_; refine GO.callA (fun hF' hle hH => teams_ok (n := n) hsm) Wt.o (by kernel_rfl) rfl rfl SubR.o ?_
  rintro v Γ' ⟨ex, ⟨tp, tc, rfl, rfl⟩, rfl⟩
  (repeat (first | refine GK.ro ?_ | (refine GK.box ?_; intro bl) | (refine GK.mkMap ?_; intro bm) | (refine GK.build0 tb ?_; intro bs)))
  refine GL.cons ?_; refine GO.callA (fun hF' hle hH => users_ok hsm) Wt.o (by kernel_rfl) rfl rfl SubR.o ?_
  rintro v Γ' ⟨ex, ⟨up, uc, rfl, rfl⟩, rfl⟩
  refine GK.heap (Γ' := [poolOf H, row (.slice mp2 (membersM P n).length mc) 9 1 (membersM P n).length (strs (membersM P n)), row (.slice tp (teamsM P n).length tc) 9 1 (teamsM P n).length (strs (teamsM P n)), people b P, row (.slice up (usersM P).length uc) 9 1 (usersM P).length (strs (usersM P)), blk bl 28 (0, 0) (actC y)]) (fun _ s => Sat.sub SubR.o s) ?_
  refine GK.absorb fun H1 k1 l1 a1 m1 => ?_
  refine GK.absorb fun H2 k2 l2 a2 m2 => ?_
  have hme := (row_in a1 m1).mono l2
  have hte := row_in a2 m2
  (repeat (first | refine GK.ro ?_ | (refine GK.box ?_; intro bl) | (refine GK.mkMap ?_; intro bm) | (refine GK.build0 tb ?_; intro bs)))
  refine G.loopK (X := Nat × Hp × List (By × Value) × Option Addr × Nat) [(2, _), (4, _), (7, _), (10, _), (11, _), (65, _), (66, _)] (fun (j, _, w, q, d) => [(67, .int .i64 (j : Int)), (12, .slice q w.length d)]) (fun (j, _) => (usersM P).length - j)
    (fun (_, H', w, q, d) => [row (.slice q w.length d) 35 3 w.length (wasC P n w), people b P, row (.slice up (usersM P).length uc) 9 1 (usersM P).length (strs (usersM P)), blk bl 28 (0, 0) (actC y), poolOf H'])
    (fun (j, H', w, _, _) => j ≤ (usersM P).length ∧ w.length = j ∧ le H2 H' ∧ w.map (·.1) = (usersM P).take j ∧ ∀ x ∈ w, rs H' x.2 (subTeams P n x.1).length 1 (strs (subTeams P n x.1))) (0, H2, [], none, 0) ⟨Nat.zero_le _, rfl, le.refl _, rfl, by simp⟩ Sub.o
    (fun w s => by show Sat [row (.slice none 0 0) 35 3 0 (wasC P n []), people b P, row (.slice up (usersM P).length uc) 9 1 (usersM P).length (strs (usersM P)), blk bl 28 (0, 0) (actC y), poolOf H2] _ w; rw [wasC_nil]; exact Sl.Sat.row_nil (Sl.Sat.sub SubR.o s)) (fun z hz q2 hq2 => ?_)
  obtain ⟨j, H3, w, wq, wd⟩ := z
  obtain ⟨hj, hwl, le3, hwn, hwr⟩ := hz
  dsimp only [List.cons_append, List.nil_append] at hq2 hwl hwn hwr ⊢
  (repeat (first | refine GK.ro ?_ | (refine GK.box ?_; intro bl) | (refine GK.mkMap ?_; intro bm) | (refine GK.build0 tb ?_; intro bs)))
  (first | refine G.condP rfl (fun hb => ?_) (fun hb => ?_) | refine G.condN rfl (fun hb => ?_) (fun hb => ?_) | refine G.cond rfl (fun hb => ?_) (fun hb => ?_))
  · obtain ⟨u, hu⟩ : ∃ u, (usersM P)[j]? = some u := ⟨_, List.getElem?_eq_getElem (by omega)⟩
    have hlt2 : j < (usersM P).length := by omega
    have stl := subTeams_len hsm n u
    refine GK.rowPtr 2 rfl (by omega) fun b3 hp => ?_
    subst hp
    have kx : (strs (usersM P))[0 + (j : Int).toNat * 1]? = some (str u) := by rw [show 0 + (j : Int).toNat * 1 = j by omega]; exact strs_get hu
    (repeat (first | refine GK.ro ?_ | (refine GK.box ?_; intro bl) | (refine GK.mkMap ?_; intro bm) | (refine GK.build0 tb ?_; intro bs)))
    refine GL.cons ?_; refine GO.callA (fun hF' hle hH => subject_ok (n := n) (u := u) hsm) Wt.o (by kernel_rfl) rfl rfl SubR.o ?_
    rintro v Γ' ⟨ex, ⟨sp, sc, rfl, rfl⟩, rfl⟩
    refine GK.heap (Γ' := [poolOf H3, row (.slice sp (subTeams P n u).length sc) 9 1 (subTeams P n u).length (strs (subTeams P n u)), row (.slice wq w.length wd) 35 3 w.length (wasC P n w), people b P, row (.slice (some ⟨b3, 0, none⟩) (usersM P).length uc) 9 1 (usersM P).length (strs (usersM P)), blk bl 28 (0, 0) (actC y)]) (fun _ s => Sat.sub SubR.o s) ?_
    refine GK.absorb fun H4 k4 l4 a4 m4 => ?_
    have hst := row_in a4 m4
    (repeat (first | refine GK.ro ?_ | (refine GK.box ?_; intro bl) | (refine GK.mkMap ?_; intro bm) | (refine GK.build0 tb ?_; intro bs)))
    refine GL.cons ?_; refine Gt.buildLit tb (sz := 2) (n := 0) Wt.o rfl rfl (by kernel_rfl) rfl rfl rfl rfl rfl rfl ?_
    intro bx
    refine GL.cons ?_; (first | refine Gt.append tb 1 Wt.o rfl (.inl ⟨_, rfl⟩) rfl rfl rfl rfl rfl (Src.slice (m := 1) (Rd.blk 0 rfl) (At.all _) rfl (one_of_all rfl)) (by omega) (by omega) ?_ | refine Gt.append tb 2 Wt.o rfl (.inl ⟨_, rfl⟩) rfl rfl rfl rfl rfl (Src.slice (m := 1) (Rd.blk 0 rfl) (At.all _) rfl (one_of_all rfl)) (by omega) (by omega) ?_ | refine Gt.append tb 3 Wt.o rfl (.inl ⟨_, rfl⟩) rfl rfl rfl rfl rfl (Src.slice (m := 1) (Rd.blk 0 rfl) (At.all _) rfl (one_of_all rfl)) (by omega) (by omega) ?_ | refine Gt.append tb 4 Wt.o rfl (.inl ⟨_, rfl⟩) rfl rfl rfl rfl rfl (Src.slice (m := 1) (Rd.blk 0 rfl) (At.all _) rfl (one_of_all rfl)) (by omega) (by omega) ?_ | refine Gt.append tb 5 Wt.o rfl (.inl ⟨_, rfl⟩) rfl rfl rfl rfl rfl (Src.slice (m := 1) (Rd.blk 0 rfl) (At.all _) rfl (one_of_all rfl)) (by omega) (by omega) ?_ | refine Gt.append tb 6 Wt.o rfl (.inl ⟨_, rfl⟩) rfl rfl rfl rfl rfl (Src.slice (m := 1) (Rd.blk 0 rfl) (At.all _) rfl (one_of_all rfl)) (by omega) (by omega) ?_ | refine Gt.append tb 7 Wt.o rfl (.inl ⟨_, rfl⟩) rfl rfl rfl rfl rfl (Src.slice (m := 1) (Rd.blk 0 rfl) (At.all _) rfl (one_of_all rfl)) (by omega) (by omega) ?_ | refine Gt.append tb 8 Wt.o rfl (.inl ⟨_, rfl⟩) rfl rfl rfl rfl rfl (Src.slice (m := 1) (Rd.blk 0 rfl) (At.all _) rfl (one_of_all rfl)) (by omega) (by omega) ?_ | refine Gt.append tb 9 Wt.o rfl (.inl ⟨_, rfl⟩) rfl rfl rfl rfl rfl (Src.slice (m := 1) (Rd.blk 0 rfl) (At.all _) rfl (one_of_all rfl)) (by omega) (by omega) ?_ | refine Gt.append tb 10 Wt.o rfl (.inl ⟨_, rfl⟩) rfl rfl rfl rfl rfl (Src.slice (m := 1) (Rd.blk 0 rfl) (At.all _) rfl (one_of_all rfl)) (by omega) (by omega) ?_ | refine Gt.append tb 11 Wt.o rfl (.inl ⟨_, rfl⟩) rfl rfl rfl rfl rfl (Src.slice (m := 1) (Rd.blk 0 rfl) (At.all _) rfl (one_of_all rfl)) (by omega) (by omega) ?_ | refine Gt.append tb 12 Wt.o rfl (.inl ⟨_, rfl⟩) rfl rfl rfl rfl rfl (Src.slice (m := 1) (Rd.blk 0 rfl) (At.all _) rfl (one_of_all rfl)) (by omega) (by omega) ?_)
    intro q5 d5
    rw [show wasC P n w ++ List.flatMap (fun v : Value => v.cells.toList) [Value.agg ⟨subC u (.slice sp (subTeams P n u).length sc) (subRole P n u)⟩] = wasC P n (w ++ [(u, .slice sp (subTeams P n u).length sc)]) from by rw [wasC_snoc]; rfl, show w.length + 1 = (w ++ [(u, Value.slice sp (subTeams P n u).length sc)]).length by simp]
    (repeat (first | refine GK.ro ?_ | (refine GK.box ?_; intro bl) | (refine GK.mkMap ?_; intro bm) | (refine GK.build0 tb ?_; intro bs)))
    (refine GQ.againN ((j + 1, H4, w ++ [(u, .slice sp (subTeams P n u).length sc)], q5, d5)) ?_ ?_ ?_ ?_; rotate_left; (first | omega | (dsimp only; omega)); exact Sub.o; exact (fun _ s => Sat.sub SubR.o s))
    refine ⟨by omega, by simp [hwl], le3.trans l4, ?_, fun x hx => ?_⟩
    · rw [List.map_append, hwn, List.take_succ_eq_append_getElem hlt2]
      congr 1
      have := (List.getElem?_eq_some_iff.1 hu).2
      simp [this]
    · rcases List.mem_append.1 hx with hx | hx
      · exact (hwr x hx).mono l4
      · rw [List.mem_singleton.1 hx]; exact hst
  have hjl : j = (usersM P).length := by omega
  subst hjl
  rw [List.take_length] at hwn
  have hinv2 := hinv.doM (x := y)
  have hsz2 := hsz.doM (x := y)
  have hsm2 := hsz2.small (by omega)
  obtain ⟨e1, e2, e3⟩ := told_apart (doM_apart (P := P) (x := y) (n := n) hne)
  have ml2 := membersM_len hsm2 n
  have tl2 := teamsM_len hsm2 n
  (repeat (first | refine GK.ro ?_ | (refine GK.box ?_; intro bl) | (refine GK.mkMap ?_; intro bm) | (refine GK.build0 tb ?_; intro bs)))
  refine GL.cons ?_; refine GO.callA (fun hF' hle hH => users_ok hsm) Wt.o (by kernel_rfl) rfl rfl SubR.o ?_
  rintro v Γ' ⟨ex, ⟨vp, vc, rfl, rfl⟩, rfl⟩
  (repeat (first | refine GK.ro ?_ | (refine GK.box ?_; intro bl) | (refine GK.mkMap ?_; intro bm) | (refine GK.build0 tb ?_; intro bs)))
  have hyl := acC_len y
  have hyA : At (actC y) 0 (actC y) := At.all _
  (repeat (first | refine GK.ro ?_ | (refine GK.box ?_; intro bl) | (refine GK.mkMap ?_; intro bm) | (refine GK.build0 tb ?_; intro bs)))
  refine GL.cons ?_; refine GO.callA (fun hF' hle hH => do_ok hy hinv hsm) Wt.o (by kernel_rfl) rfl rfl SubR.o ?_
  rintro v Γ' ⟨rfl, rfl⟩
  generalize (doM P y).2 = P2 at hinv2 hsz2 hsm2 e1 e2 e3 ml2 tl2 ⊢
  have hww : w.length = (usersM P).length := hwl
  (repeat (first | refine GK.ro ?_ | (refine GK.box ?_; intro bl) | (refine GK.mkMap ?_; intro bm) | (refine GK.build0 tb ?_; intro bs)))
  refine G.loopK (X := Nat × Hp) [(2, _), (7, _), (10, _), (11, _), (12, _), (84, _), (85, _)] (fun (j, _) => [(86, .int .i64 (j : Int))]) (fun (j, _) => (usersM P).length - j) (fun (_, H') => [row (.slice wq w.length wd) 35 3 w.length (wasC P n w), row (.slice vp (usersM P).length vc) 9 1 (usersM P).length (strs (usersM P)), people b P2, poolOf H'])
    (fun (j, H') => j ≤ (usersM P).length ∧ le H3 H') (0, H3) ⟨Nat.zero_le _, le.refl _⟩ Sub.o (fun _ s => Sat.sub SubR.o s) (fun z hz q4 hq4 => ?_)
  obtain ⟨j, H4⟩ := z
  obtain ⟨hj, le4⟩ := hz
  dsimp only [List.cons_append, List.nil_append] at hq4 ⊢
  (repeat (first | refine GK.ro ?_ | (refine GK.box ?_; intro bl) | (refine GK.mkMap ?_; intro bm) | (refine GK.build0 tb ?_; intro bs)))
  (first | refine G.condP rfl (fun hb => ?_) (fun hb => ?_) | refine G.condN rfl (fun hb => ?_) (fun hb => ?_) | refine G.cond rfl (fun hb => ?_) (fun hb => ?_))
  · obtain ⟨u, hu⟩ : ∃ u, (usersM P)[j]? = some u := ⟨_, List.getElem?_eq_getElem (by omega)⟩
    have hlt2 : j < (usersM P).length := by omega
    obtain ⟨⟨u', tv⟩, hw⟩ : ∃ x, w[j]? = some x := ⟨_, List.getElem?_eq_getElem (by omega)⟩
    have huu : u' = u := by
      have h1 : (w.map (·.1))[j]? = some u' := by rw [List.getElem?_map, hw]; rfl
      rw [hwn, hu] at h1; cases h1; rfl
    subst huu
    have hrs := (hwr _ (List.mem_of_getElem? hw)).mono le4
    have hA : At (wasC P n w) (0 + (j : Int).toNat * 3) (subC u' tv (subRole P n u')) := by rw [show 0 + (j : Int).toNat * 3 = j * 3 by omega]; exact wasC_at hw
    have hAl : (subC u' tv (subRole P n u')).length = 3 := rfl
    have stl := subTeams_len hsm n u'
    have stl2 := subTeams_len hsm2 n u'
    obtain ⟨g1, g2⟩ := e3 u'
    clear hb
    refine GK.rowPtr 0 rfl (by omega) fun b3 hp => ?_
    subst hp
    refine GK.rowPtr 1 rfl (by omega) fun b4 hp => ?_
    subst hp
    have kx : (strs (usersM P))[0 + (j : Int).toNat * 1]? = some (str u') := by rw [show 0 + (j : Int).toNat * 1 = j by omega]; exact strs_get hu
    (repeat (first | refine GK.ro ?_ | (refine GK.box ?_; intro bl) | (refine GK.mkMap ?_; intro bm) | (refine GK.build0 tb ?_; intro bs)))
    refine G.draw [] [row (.slice (some ⟨b3, 0, none⟩) w.length wd) 35 3 w.length (wasC P n w), row (.slice (some ⟨b4, 0, none⟩) (usersM P).length vc) 9 1 (usersM P).length (strs (usersM P))] (by kernel_rfl) ?_
    ((first | refine GH.to 0 ?_ | refine GH.tos 0 ?_); (first | refine GH.to 1 ?_ | refine GH.tos 1 ?_); (first | refine GH.to 2 ?_ | refine GH.tos 2 ?_); (first | refine GH.to 4 ?_ | refine GH.tos 4 ?_); (first | refine GH.to 5 ?_ | refine GH.tos 5 ?_); (first | refine GH.to 6 ?_ | refine GH.tos 6 ?_); (first | refine GH.to 7 ?_ | refine GH.tos 7 ?_))
    refine GH.step 3 rfl (by kernel_rfl) ?_
    refine GO.callA (fun hF' hle hH => subject_ok (n := n) (u := u') hsm2) Wt.o (by kernel_rfl) rfl rfl SubR.o ?_
    rintro v Γ' ⟨ex, ⟨sp, sc, rfl, rfl⟩, rfl⟩
    refine GH.keep (fun _ s => Sat.sub SubR.o s) ?_
    refine GH.heap (Γ' := [poolOf H4, row (.slice sp (subTeams P2 n u').length sc) 9 1 (subTeams P2 n u').length (strs (subTeams P2 n u')), people b P2, row (.slice (some ⟨b3, 0, none⟩) w.length wd) 35 3 w.length (wasC P n w), row (.slice (some ⟨b4, 0, none⟩) (usersM P).length vc) 9 1 (usersM P).length (strs (usersM P))]) (fun _ s => Sat.sub SubR.o s) ?_
    refine GH.absorb fun H5 k5 l5 a5 m5 => ?_
    have hs2 := row_in a5 m5
    refine GH.step 8 rfl (by kernel_rfl) ?_
    refine GO.callA (fun hF' hle hH => sameS_ok (u1 := u') (u2 := u') (r1 := subRole P2 n u') (r2 := subRole P n u') (t1 := subTeams P2 n u') (t2 := subTeams P n u') hs2 (hrs.mono l5) (by omega) (by omega)) Wt.o (by kernel_rfl) rfl rfl SubR.o ?_
    rw [decide_eq_true (⟨rfl, g2, g1⟩ : u' = u' ∧ subRole P2 n u' = subRole P n u' ∧ subTeams P2 n u' = subTeams P n u')]
    rintro v Γ' ⟨rfl, rfl⟩
    refine GH.keep (fun _ s => Sat.sub SubR.o s) ?_
    ((first | refine GH.to 9 ?_ | refine GH.tos 9 ?_))
    refine GH.fin (by kernel_rfl) ?_
    (repeat (first | refine GK.ro ?_ | (refine GK.box ?_; intro bl) | (refine GK.mkMap ?_; intro bm) | (refine GK.build0 tb ?_; intro bs)))
    (refine GQ.againN ((j + 1, H5)) ?_ ?_ ?_ ?_; rotate_left; (first | omega | (dsimp only; omega)); exact Sub.o; exact (fun _ s => Sat.sub SubR.o s))
    exact ⟨by omega, le4.trans l5⟩
  (repeat (first | refine GK.ro ?_ | (refine GK.box ?_; intro bl) | (refine GK.mkMap ?_; intro bm) | (refine GK.build0 tb ?_; intro bs)))
  refine GL.cons ?_; refine GO.callA (fun hF' hle hH => members_ok (n := n) hsm2) Wt.o (by kernel_rfl) rfl rfl SubR.o ?_
  rintro v Γ' ⟨ex, ⟨mp4, mc4, rfl, rfl⟩, rfl⟩
  refine GK.heap (Γ' := [poolOf H4, row (.slice mp4 (membersM P2 n).length mc4) 9 1 (membersM P2 n).length (strs (membersM P2 n)), people b P2]) (fun _ s => Sat.sub SubR.o s) ?_
  refine GK.absorb fun H5 k5 l5 a5 m5 => ?_
  have hm2 := row_in a5 m5
  (repeat (first | refine GK.ro ?_ | (refine GK.box ?_; intro bl) | (refine GK.mkMap ?_; intro bm) | (refine GK.build0 tb ?_; intro bs)))
  refine GL.cons ?_; refine GO.callA (fun hF' hle hH => texts_ok hm2 (hme.mono ((le3.trans le4).trans l5)) (by omega) (by omega)) Wt.o (by kernel_rfl) rfl rfl SubR.o ?_
  rw [decide_eq_true e1]
  rintro v Γ' ⟨rfl, rfl⟩
  (repeat (first | refine GK.ro ?_ | (refine GK.box ?_; intro bl) | (refine GK.mkMap ?_; intro bm) | (refine GK.build0 tb ?_; intro bs)))
  refine GL.cons ?_; refine GO.callA (fun hF' hle hH => teams_ok (n := n) hsm2) Wt.o (by kernel_rfl) rfl rfl SubR.o ?_
  rintro v Γ' ⟨ex, ⟨tp4, tc4, rfl, rfl⟩, rfl⟩
  refine GK.heap (Γ' := [poolOf H5, row (.slice tp4 (teamsM P2 n).length tc4) 9 1 (teamsM P2 n).length (strs (teamsM P2 n)), people b P2]) (fun _ s => Sat.sub SubR.o s) ?_
  refine GK.absorb fun H6 k6 l6 a6 m6 => ?_
  have ht2 := row_in a6 m6
  (repeat (first | refine GK.ro ?_ | (refine GK.box ?_; intro bl) | (refine GK.mkMap ?_; intro bm) | (refine GK.build0 tb ?_; intro bs)))
  refine GL.cons ?_; refine GO.callA (fun hF' hle hH => texts_ok ht2 (hte.mono (((le3.trans le4).trans l5).trans l6)) (by omega) (by omega)) Wt.o (by kernel_rfl) rfl rfl SubR.o ?_
  rw [decide_eq_true e2]
  rintro v Γ' ⟨rfl, rfl⟩
  (repeat (first | refine GK.ro ?_ | (refine GK.box ?_; intro bl) | (refine GK.mkMap ?_; intro bm) | (refine GK.build0 tb ?_; intro bs)))
  refine GL.cons ?_; refine GO.callA (fun hF' hle hH => lives_ok) Wt.o (by kernel_rfl) rfl rfl SubR.o ?_
  rintro v Γ' ⟨rfl, rfl⟩
  (repeat (first | refine GK.ro ?_ | (refine GK.box ?_; intro bl) | (refine GK.mkMap ?_; intro bm) | (refine GK.build0 tb ?_; intro bs)))
  exact GQ.fin1 rfl (Rv.tmp rfl) (fun _ s => Sat.sub SubR.o s) ⟨rfl, H6, [], ((((l1.trans l2).trans le3).trans le4).trans l5).trans l6, rfl⟩
theorem apart_law {W : World} {l : List Ac} {v : Value} {y : Ac} {n : By} (h : rs (mem W) v l.length 5 (acts l)) (hk : ∀ x ∈ l, x.Ok) (n1 : l.length ≤ 140737488355328) (hy : y.Ok) (hn : n.length ≤ 140737488355328) :
    FnOk Go.Proofs.Try.prog 5 [v, .agg ⟨actC y⟩, str n] [poolOf (mem W)] emp (LawR W) := apartLaw_ok h hk n1 hy hn
end Go.Pe
