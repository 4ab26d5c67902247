/- PeopleTeams. -/
import Derived.Test.YtnealcbmgflaaaaPeN
set_option linter.unusedSimpArgs false
set_option linter.unusedVariables false
namespace Go.Pe
open Go Go.Sl Go.Ls
set_option maxRecDepth 100000
theorem vget_pos {vs : List (By × Int)} {u : By} (hn : (vs.map (·.1)).Nodup) (hv : ∀ x ∈ vs, x.2 = 1 ∨ x.2 = 2) (h : u ∈ vs.map (·.1)) : vget vs u ≠ 0 := by
  obtain ⟨x, hx, rfl⟩ := List.mem_map.1 h
  have h2 := hv x hx
  have := (vget_mem hn (w := x.2) (by omega)).2 hx
  omega
theorem vget_in {vs : List (By × Int)} {u : By} (h : vget vs u ≠ 0) : u ∈ vs.map (·.1) := Classical.byContradiction fun hc => h (vget_none hc)
theorem teams_role {P : Pp} (h : PInv P) {n u : By} (ht : subTeams P n u ≠ []) : subRole P n u ≠ 0 := by
  unfold subTeams at ht
  unfold subRole
  cases hn : getO P.orgs n with
  | none => rw [hn] at ht; exact absurd rfl ht
  | some o =>
    rw [hn] at ht
    dsimp only at ht ⊢
    have ho := h.o _ (getO_mem hn)
    obtain ⟨t, hm⟩ := List.exists_mem_of_ne_nil _ ht
    rw [mem_sortS] at hm
    unfold inP at hm
    obtain ⟨x, hx, rfl⟩ := List.mem_map.1 hm
    obtain ⟨h1, h2⟩ := List.mem_filter.1 hx
    exact vget_pos ho.rn ho.rv (ho.tm x h1 u (of_decide_eq_true h2))
theorem teams_told {P : Pp} {n u t : By} (ht : t ∈ subTeams P n u) : t ∈ teamsM P n := by
  unfold subTeams at ht
  unfold teamsM
  cases hn : getO P.orgs n with
  | none => rw [hn] at ht; cases ht
  | some o =>
    rw [hn] at ht
    dsimp only at ht ⊢
    rw [mem_sortS] at ht ⊢
    exact inP_names ht
theorem role_told {P : Pp} (h : PInv P) {n u : By} (hr : subRole P n u ≠ 0) : u ∈ usersM P ∧ u ∈ membersM P n := by
  unfold subRole at hr
  unfold membersM usersM
  cases hn : getO P.orgs n with
  | none => rw [hn] at hr; exact absurd rfl hr
  | some o =>
    rw [hn] at hr
    dsimp only at hr ⊢
    have ho := h.o _ (getO_mem hn)
    have hm := vget_in hr
    rw [mem_sortS, mem_sortS]
    obtain ⟨x, hx, hu⟩ := List.mem_map.1 hm
    exact ⟨hu ▸ ho.ru x hx, hm⟩
theorem sortS_le (l : List By) {k : Nat} (h : l.length ≤ k) : (sortS l).length ≤ k := by rw [sortS_len]; exact h
theorem inP_len (u : By) (ts : List (By × List By)) : (inP u ts).length ≤ ts.length := by unfold inP; rw [List.length_map]; exact List.length_filter_le _ _
theorem subTeams_len {P : Pp} (hm : Small P) (n u : By) : (subTeams P n u).length ≤ 1099511627776 := by
  unfold subTeams
  cases hn : getO P.orgs n with
  | none => simp
  | some o => exact sortS_le _ (Nat.le_trans (inP_len _ _) (hm.t n o hn))
theorem teamsM_len {P : Pp} (hm : Small P) (n : By) : (teamsM P n).length ≤ 1099511627776 := by
  unfold teamsM
  cases hn : getO P.orgs n with
  | none => simp
  | some o => exact sortS_le _ (by rw [List.length_map]; exact hm.t n o hn)
theorem membersM_len {P : Pp} (hm : Small P) (n : By) : (membersM P n).length ≤ 1099511627776 := by
  unfold membersM
  cases hn : getO P.orgs n with
  | none => simp
  | some o => exact sortS_le _ (by rw [List.length_map]; exact hm.r n o hn)
theorem usersM_len {P : Pp} (hm : Small P) : (usersM P).length ≤ 1099511627776 := sortS_le _ hm.u
theorem orgsM_len {P : Pp} (hm : Small P) : (orgsM P).length ≤ 1099511627776 := sortS_le _ (by rw [List.length_map]; exact hm.o)
set_option maxRecDepth 100000
set_option maxHeartbeats 4000000
attribute [local irreducible] GK GO Yl Wt Ef Hd GH KH wpListIn Code.wpIn toBody roundQ poolOf rs RS YieldOk IterOk VOk row star exs mp lp Sat pt FnOk Rd bodyPost bodyPostM Lv Ret Exit.then Exit.inBlock Exit.noGoto Int.decLt Int.decLe Int.instDecidableEq
attribute [local irreducible] u8s strs likeTo rng rngAt keys encU encT encV encO inT freshM unitV Pa.nameM lastM vset vdel vget inP teamErr actC acts people onO joinM leaveM addTeamM putM outM addUserM addOrgM subTeams subRole usersM membersM teamsM orgsM subC doM
set_option pp.deepTerms true
set_option pp.maxSteps 1000000
variable {hF H : Hp}
theorem teamsLaw_ok {l : List Ac} {v : Value} (h : rs H v l.length 5 (acts l)) (hk : ∀ x ∈ l, x.Ok) (n1 : l.length ≤ 140737488355328) :
    FnOk Go.Proofs.Try.prog 4 [v] [poolOf H] hF (fun v Γ => v = .bool true ∧ ∃ H' Γ2, le H H' ∧ Γ = poolOf H' :: Γ2) := by
  have h0 := h
  obtain ⟨p, c, rfl, hc, hln, hr⟩ := rs.out h
  refine FnOk.intro 76 Go.Proofs.Try.func4 rfl rfl fun w0 => ?_
  (repeat (first | refine GK.ro ?_ | (refine GK.box ?_; intro bl) | (refine GK.mkMap ?_; intro bm) | (refine GK.build0 tb ?_; intro bs)))
  refine GL.cons ?_; refine GO.callA (fun hF' hle hH => few_ok h0 hk n1) Wt.o (by kernel_rfl) rfl rfl SubR.o ?_
  rintro v Γ' ⟨⟨bb, rfl, hfew⟩, rfl⟩
  cases bb with
  | false =>
    (repeat (first | refine GK.ro ?_ | (refine GK.box ?_; intro bl) | (refine GK.mkMap ?_; intro bm) | (refine GK.build0 tb ?_; intro bs)))
    refine GL.cons ?_; refine GO.callA (fun hF' hle hH => lives_ok) Wt.o (by kernel_rfl) rfl rfl SubR.o ?_
    rintro v Γ' ⟨rfl, rfl⟩
    (repeat (first | refine GK.ro ?_ | (refine GK.box ?_; intro bl) | (refine GK.mkMap ?_; intro bm) | (refine GK.build0 tb ?_; intro bs)))
    exact GQ.fin1 rfl (Rv.tmp rfl) (fun _ s => Sat.sub SubR.o s) ⟨rfl, H, [], le.refl _, rfl⟩
  | true =>
  have hl200 := hfew rfl
  (repeat (first | refine GK.ro ?_ | (refine GK.box ?_; intro bl) | (refine GK.mkMap ?_; intro bm) | (refine GK.build0 tb ?_; intro bs)))
  refine GL.cons ?_; refine GO.callA (fun hF' hle hH => new_ok) Wt.o (by kernel_rfl) rfl rfl SubR.o ?_
  rintro v Γ' ⟨b, rfl, rfl⟩
  (repeat (first | refine GK.ro ?_ | (refine GK.box ?_; intro bl) | (refine GK.mkMap ?_; intro bm) | (refine GK.build0 tb ?_; intro bs)))
  refine G.loopK (X := Nat × Pp) [(3, _), (14, _), (15, _)] (fun (i, _) => [(16, .int .i64 (i : Int))]) (fun (i, _) => l.length - i) (fun (_, P) => [people b P, poolOf H]) (fun (i, P) => i ≤ l.length ∧ PInv P ∧ Sz P i) (0, ⟨[], []⟩) ⟨Nat.zero_le _, PInv.nil, Sz.nil⟩ Sub.o (fun _ s => Sat.sub SubR.o s) (fun x hx q hq => ?_)
  obtain ⟨i, P⟩ := x
  obtain ⟨hi, hinv, hsz⟩ := hx
  dsimp only [List.cons_append, List.nil_append] at hq ⊢
  (repeat (first | refine GK.ro ?_ | (refine GK.box ?_; intro bl) | (refine GK.mkMap ?_; intro bm) | (refine GK.build0 tb ?_; intro bs)))
  (first | refine G.condP rfl (fun hb => ?_) (fun hb => ?_) | refine G.condN rfl (fun hb => ?_) (fun hb => ?_) | refine G.cond rfl (fun hb => ?_) (fun hb => ?_))
  · obtain ⟨x, hx⟩ : ∃ x, l[i]? = some x := ⟨_, List.getElem?_eq_getElem (by omega)⟩
    have hxk := hk x (List.mem_of_getElem? hx)
    obtain ⟨k0, k1, k2, k3, k4⟩ := acC_get x
    have hal := acC_len x
    have hao := actC_one x
    have haA : At (actC x) 0 (actC x) := At.all _
    have hlt : i < l.length := by omega
    clear hb
    obtain ⟨b1, o1, cs1, et1, fz1, rfl, hb1, hat1⟩ := hr (by omega)
    have hA : At cs1 (o1 + (i : Int).toNat * 5) (actC x) := at_trans hat1 (acts_at hx)
    (repeat (first | refine GK.ro ?_ | (refine GK.box ?_; intro bl) | (refine GK.mkMap ?_; intro bm) | (refine GK.build0 tb ?_; intro bs) | (refine GL.cons ?_; refine GO.alloc Wt.o (by exact rfl) ?_; intro ba) | (refine GL.cons ?_; refine Gt.storeAny tb 0 Wt.o (by exact rfl) (by exact rfl) (by exact rfl) (by assumption) (by assumption) (by exact rfl) (by first | exact rfl | assumption) ?_) | (refine GL.cons ?_; refine Gt.storeAny tb 1 Wt.o (by exact rfl) (by exact rfl) (by exact rfl) (by assumption) (by assumption) (by exact rfl) (by first | exact rfl | assumption) ?_) | (refine GL.cons ?_; refine Gt.storeAny tb 2 Wt.o (by exact rfl) (by exact rfl) (by exact rfl) (by assumption) (by assumption) (by exact rfl) (by first | exact rfl | assumption) ?_) | (refine GL.cons ?_; refine Gt.storeAny tb 3 Wt.o (by exact rfl) (by exact rfl) (by exact rfl) (by assumption) (by assumption) (by exact rfl) (by first | exact rfl | assumption) ?_) | (refine GL.cons ?_; refine Gt.storeAny tb 4 Wt.o (by exact rfl) (by exact rfl) (by exact rfl) (by assumption) (by assumption) (by exact rfl) (by first | exact rfl | assumption) ?_) | (refine GL.cons ?_; refine Gt.storeAny tb 5 Wt.o (by exact rfl) (by exact rfl) (by exact rfl) (by assumption) (by assumption) (by exact rfl) (by first | exact rfl | assumption) ?_) | (refine GL.cons ?_; refine Gt.storeAny tb 6 Wt.o (by exact rfl) (by exact rfl) (by exact rfl) (by assumption) (by assumption) (by exact rfl) (by first | exact rfl | assumption) ?_) | (refine GL.cons ?_; refine Gt.storeAny tb 7 Wt.o (by exact rfl) (by exact rfl) (by exact rfl) (by assumption) (by assumption) (by exact rfl) (by first | exact rfl | assumption) ?_) | (refine GL.cons ?_; refine Gt.storeAny tb 8 Wt.o (by exact rfl) (by exact rfl) (by exact rfl) (by assumption) (by assumption) (by exact rfl) (by first | exact rfl | assumption) ?_) | (refine GL.cons ?_; refine Gt.storeAny tb 9 Wt.o (by exact rfl) (by exact rfl) (by exact rfl) (by assumption) (by assumption) (by exact rfl) (by first | exact rfl | assumption) ?_)))
    refine GL.cons ?_; refine GO.callA (fun hF' hle hH => do_ok hxk hinv (hsz.small (by omega))) Wt.o (by kernel_rfl) rfl rfl SubR.o ?_
    rintro v Γ' ⟨rfl, rfl⟩
    have hinv2 := hinv.doM (x := x)
    have hsz2 := hsz.doM (x := x)
    have hsm := hsz2.small (by omega)
    generalize (doM P x).2 = P2 at hinv2 hsz2 hsm ⊢
    have tl := subTeams_len hsm x.o x.u
    have tl2 := teamsM_len hsm x.o
    have ml := membersM_len hsm x.o
    have ul := usersM_len hsm
    have f1 := teams_role hinv2 (n := x.o) (u := x.u)
    have f2 := fun t => teams_told (P := P2) (n := x.o) (u := x.u) (t := t)
    have f3 := role_told hinv2 (n := x.o) (u := x.u)
    (repeat (first | refine GK.ro ?_ | (refine GK.box ?_; intro bl) | (refine GK.mkMap ?_; intro bm) | (refine GK.build0 tb ?_; intro bs)))
    refine GL.cons ?_; refine GO.callA (fun hF' hle hH => subject_ok (n := x.o) (u := x.u) hsm) Wt.o (by kernel_rfl) rfl rfl SubR.o ?_
    rintro v Γ' ⟨ex, ⟨sp, sc, rfl, rfl⟩, rfl⟩
    generalize subTeams P2 x.o x.u = ts at tl f1 f2 ⊢
    generalize subRole P2 x.o x.u = ro at f1 f3 ⊢
    have s1 : (subC x.u (.slice sp ts.length sc) ro)[0 + 1]? = some (.slice sp ts.length sc) := (subC_get _ _ _).2.1
    have s2 : (subC x.u (.slice sp ts.length sc) ro)[0 + 2]? = some (.int .i64 ro) := (subC_get _ _ _).2.2
    have s3 : (subC x.u (.slice sp ts.length sc) ro).length = 3 := by unfold subC; rfl
    have s4 : ∀ w ∈ subC x.u (.slice sp ts.length sc) ro, w.oneCell' = true := by unfold subC; exact one_of_all rfl
    have s5 : At (subC x.u (.slice sp ts.length sc) ro) 0 (subC x.u (.slice sp ts.length sc) ro) := At.all _
    (repeat (first | refine GK.ro ?_ | (refine GK.box ?_; intro bl) | (refine GK.mkMap ?_; intro bm) | (refine GK.build0 tb ?_; intro bs)))
    refine GL.cons ?_; refine GO.alloc Wt.o (by exact rfl) ?_
    intro bs
    (repeat (first | refine GK.ro ?_ | (refine GK.box ?_; intro bl) | (refine GK.mkMap ?_; intro bm) | (refine GK.build0 tb ?_; intro bs)))
    refine GL.cons ?_; refine Gt.storeAny tb 0 Wt.o rfl rfl rfl s3 s4 rfl rfl ?_
    refine GK.weak (fr' := [(3, .pointer (some ⟨b, 0, none⟩)), (5, .pointer (some ⟨ba, 0, none⟩)), (6, .pointer (some ⟨bs, 0, none⟩)), (14, .slice (some ⟨b1, o1, none⟩) l.length c), (15, .int .i64 (l.length : Int)), (16, .int .i64 (i : Int))])
      (Γ' := [row (.slice sp ts.length sc) 9 1 ts.length (strs ts), people b P2, blk bs 35 (0, 0) (subC x.u (.slice sp ts.length sc) ro), blk ba 28 (0, 0) (actC x), poolOf H]) Sub.o (fun _ s => Sat.sub SubR.o s) ?_
    refine GL.nil ?_
    refine GQ.next ?_
    refine G.seq ?_
    refine G.cutK (X := Unit) [(3, _), (5, _), (6, _), (14, _), (15, _), (16, _)] (fun _ => [(37, .bool false)]) (fun _ => [row (.slice sp ts.length sc) 9 1 ts.length (strs ts), people b P2, blk bs 35 (0, 0) (subC x.u (.slice sp ts.length sc) ro), blk ba 28 (0, 0) (actC x), poolOf H]) (fun _ => True) Sub.o (fun _ _ => ?_) ?_
    rotate_left
    · by_cases h1 : ts.length = 0
      · (repeat (first | refine GK.ro ?_ | (refine GK.box ?_; intro bl) | (refine GK.mkMap ?_; intro bm) | (refine GK.build0 tb ?_; intro bs)))
        exact GQ.reach () trivial Sub.o (fun _ s => Sat.sub SubR.o s)
      · have h2 : ro ≠ 0 := f1 (fun e => h1 (by rw [e]; rfl))
        (repeat (first | refine GK.ro ?_ | (refine GK.box ?_; intro bl) | (refine GK.mkMap ?_; intro bm) | (refine GK.build0 tb ?_; intro bs)))
        rw [decide_eq_false h2]
        exact GQ.reach () trivial Sub.o (fun _ s => Sat.sub SubR.o s)
    dsimp only [List.cons_append, List.nil_append]
    (repeat (first | refine GK.ro ?_ | (refine GK.box ?_; intro bl) | (refine GK.mkMap ?_; intro bm) | (refine GK.build0 tb ?_; intro bs)))
    refine G.loopK (X := Nat) [(3, _), (5, _), (6, _), (14, _), (15, _), (16, _), (39, _), (40, _)] (fun j => [(41, .int .i64 (j : Int))]) (fun j => ts.length - j) (fun _ => [row (.slice sp ts.length sc) 9 1 ts.length (strs ts), people b P2, blk bs 35 (0, 0) (subC x.u (.slice sp ts.length sc) ro), blk ba 28 (0, 0) (actC x), poolOf H]) (fun j => j ≤ ts.length) 0 (Nat.zero_le _) Sub.o (fun _ s => Sat.sub SubR.o s) (fun j hj q2 hq2 => ?_)
    dsimp only [List.cons_append, List.nil_append] at hq2 ⊢
    (repeat (first | refine GK.ro ?_ | (refine GK.box ?_; intro bl) | (refine GK.mkMap ?_; intro bm) | (refine GK.build0 tb ?_; intro bs)))
    (first | refine G.condP rfl (fun hb => ?_) (fun hb => ?_) | refine G.condN rfl (fun hb => ?_) (fun hb => ?_) | refine G.cond rfl (fun hb => ?_) (fun hb => ?_))
    · obtain ⟨t, ht⟩ : ∃ t, ts[j]? = some t := ⟨_, List.getElem?_eq_getElem (by omega)⟩
      have htm := f2 t (List.mem_of_getElem? ht)
      have hlt2 : j < ts.length := by omega
      clear hb
      refine GK.rowPtr 0 rfl (by omega) fun b3 hp => ?_
      subst hp
      have kx : (strs ts)[0 + (j : Int).toNat * 1]? = some (str t) := by rw [show 0 + (j : Int).toNat * 1 = j by omega]; exact strs_get ht
      (repeat (first | refine GK.ro ?_ | (refine GK.box ?_; intro bl) | (refine GK.mkMap ?_; intro bm) | (refine GK.build0 tb ?_; intro bs)))
      refine GL.cons ?_; refine GO.callA (fun hF' hle hH => teams_ok (n := x.o) hsm) Wt.o (by kernel_rfl) rfl rfl SubR.o ?_
      rintro v Γ' ⟨ex, ⟨tp, tc, rfl, rfl⟩, rfl⟩
      (repeat (first | refine GK.ro ?_ | (refine GK.box ?_; intro bl) | (refine GK.mkMap ?_; intro bm) | (refine GK.build0 tb ?_; intro bs)))
      refine GL.cons ?_; refine GO.callA (fun hF' hle hH => holds_ok (l := teamsM P2 x.o) (s := t) tl2) Wt.o (by kernel_rfl) rfl rfl SubR.o ?_
      rw [decide_eq_true htm]
      rintro v Γ' ⟨rfl, rfl⟩
      (repeat (first | refine GK.ro ?_ | (refine GK.box ?_; intro bl) | (refine GK.mkMap ?_; intro bm) | (refine GK.build0 tb ?_; intro bs)))
      (refine GQ.againN (j + 1) ?_ ?_ ?_ ?_; rotate_left; (first | omega | (dsimp only; omega)); exact Sub.o; exact (fun _ s => Sat.sub SubR.o s))
      omega
    (repeat (first | refine GK.ro ?_ | (refine GK.box ?_; intro bl) | (refine GK.mkMap ?_; intro bm) | (refine GK.build0 tb ?_; intro bs)))
    refine GK.weak (fr' := [(3, .pointer (some ⟨b, 0, none⟩)), (5, .pointer (some ⟨ba, 0, none⟩)), (6, .pointer (some ⟨bs, 0, none⟩)), (14, .slice (some ⟨b1, o1, none⟩) l.length c), (15, .int .i64 (l.length : Int)), (16, .int .i64 (i : Int))])
      (Γ' := [people b P2, blk bs 35 (0, 0) (subC x.u (.slice sp ts.length sc) ro), blk ba 28 (0, 0) (actC x), poolOf H]) Sub.o (fun _ s => Sat.sub SubR.o s) ?_
    by_cases h1 : ro = 0
    · subst h1
      refine G.draw [] [blk bs 35 (0, 0) (subC x.u (.slice sp ts.length sc) 0), blk ba 28 (0, 0) (actC x)] (by kernel_rfl) ?_
      ((first | refine GH.to 0 ?_ | refine GH.tos 0 ?_); (first | refine GH.to 1 ?_ | refine GH.tos 1 ?_); (first | refine GH.to 2 ?_ | refine GH.tos 2 ?_); (first | refine GH.to 3 ?_ | refine GH.tos 3 ?_); (first | refine GH.to 4 ?_ | refine GH.tos 4 ?_); (first | refine GH.to 5 ?_ | refine GH.tos 5 ?_); (first | refine GH.to 6 ?_ | refine GH.tos 6 ?_); (first | refine GH.to 7 ?_ | refine GH.tos 7 ?_); (first | refine GH.to 8 ?_ | refine GH.tos 8 ?_); (first | refine GH.to 9 ?_ | refine GH.tos 9 ?_); (first | refine GH.to 10 ?_ | refine GH.tos 10 ?_); (first | refine GH.to 11 ?_ | refine GH.tos 11 ?_); (first | refine GH.to 12 ?_ | refine GH.tos 12 ?_); (first | refine GH.to 13 ?_ | refine GH.tos 13 ?_); (first | refine GH.to 14 ?_ | refine GH.tos 14 ?_); (first | refine GH.to 15 ?_ | refine GH.tos 15 ?_); (first | refine GH.to 16 ?_ | refine GH.tos 16 ?_); (first | refine GH.to 17 ?_ | refine GH.tos 17 ?_); (first | refine GH.to 18 ?_ | refine GH.tos 18 ?_); (first | refine GH.to 19 ?_ | refine GH.tos 19 ?_); (first | refine GH.to 20 ?_ | refine GH.tos 20 ?_))
      refine GH.fin (by kernel_rfl) ?_
      (repeat (first | refine GK.ro ?_ | (refine GK.box ?_; intro bl) | (refine GK.mkMap ?_; intro bm) | (refine GK.build0 tb ?_; intro bs)))
      (refine GQ.againN ((i + 1, P2)) ?_ ?_ ?_ ?_; rotate_left; (first | omega | (dsimp only; omega)); exact Sub.o; exact (fun _ s => Sat.sub SubR.o s))
      exact ⟨by omega, hinv2, hsz2⟩
    · obtain ⟨g1, g2⟩ := f3 h1
      have hd : decide (ro = 0) = false := decide_eq_false h1
      refine G.draw [] [blk bs 35 (0, 0) (subC x.u (.slice sp ts.length sc) ro), blk ba 28 (0, 0) (actC x)] (by kernel_rfl) ?_
      ((first | refine GH.to 0 ?_ | refine GH.tos 0 ?_); (first | refine GH.to 1 ?_ | refine GH.tos 1 ?_); (first | refine GH.to 2 ?_ | refine GH.tos 2 ?_); (first | refine GH.to 3 ?_ | refine GH.tos 3 ?_); (first | refine GH.to 4 ?_ | refine GH.tos 4 ?_); (first | refine GH.to 6 ?_ | refine GH.tos 6 ?_); (first | refine GH.to 7 ?_ | refine GH.tos 7 ?_))
      refine GH.step 5 rfl (by kernel_rfl) ?_
      refine GO.callA (fun hF' hle hH => users_ok hsm) Wt.o (by kernel_rfl) rfl rfl SubR.o ?_
      rintro v Γ' ⟨ex, ⟨up, uc, rfl, rfl⟩, rfl⟩
      refine GH.keep (fun _ s => Sat.sub SubR.o s) ?_
      refine GH.step 8 rfl (by kernel_rfl) ?_
      refine GO.callA (fun hF' hle hH => holds_ok (l := usersM P2) (s := x.u) ul) Wt.o (by kernel_rfl) rfl rfl SubR.o ?_
      rw [decide_eq_true g1]
      rintro v Γ' ⟨rfl, rfl⟩
      refine GH.keep (fun _ s => Sat.sub SubR.o s) ?_
      ((first | refine GH.to 9 ?_ | refine GH.tos 9 ?_); (first | refine GH.to 10 ?_ | refine GH.tos 10 ?_); (first | refine GH.to 11 ?_ | refine GH.tos 11 ?_); (first | refine GH.to 12 ?_ | refine GH.tos 12 ?_); (first | refine GH.to 13 ?_ | refine GH.tos 13 ?_); (first | refine GH.to 15 ?_ | refine GH.tos 15 ?_); (first | refine GH.to 16 ?_ | refine GH.tos 16 ?_))
      refine GH.step 14 rfl (by kernel_rfl) ?_
      refine GO.callA (fun hF' hle hH => members_ok (n := x.o) hsm) Wt.o (by kernel_rfl) rfl rfl SubR.o ?_
      rintro v Γ' ⟨ex, ⟨mp2, mc, rfl, rfl⟩, rfl⟩
      refine GH.keep (fun _ s => Sat.sub SubR.o s) ?_
      refine GH.step 17 rfl (by kernel_rfl) ?_
      refine GO.callA (fun hF' hle hH => holds_ok (l := membersM P2 x.o) (s := x.u) ml) Wt.o (by kernel_rfl) rfl rfl SubR.o ?_
      rw [decide_eq_true g2]
      rintro v Γ' ⟨rfl, rfl⟩
      refine GH.keep (fun _ s => Sat.sub SubR.o s) ?_
      ((first | refine GH.to 18 ?_ | refine GH.tos 18 ?_); (first | refine GH.to 19 ?_ | refine GH.tos 19 ?_); (first | refine GH.to 20 ?_ | refine GH.tos 20 ?_))
      refine GH.fin (by kernel_rfl) ?_
      (repeat (first | refine GK.ro ?_ | (refine GK.box ?_; intro bl) | (refine GK.mkMap ?_; intro bm) | (refine GK.build0 tb ?_; intro bs)))
      (refine GQ.againN ((i + 1, P2)) ?_ ?_ ?_ ?_; rotate_left; (first | omega | (dsimp only; omega)); exact Sub.o; exact (fun _ s => Sat.sub SubR.o s))
      exact ⟨by omega, hinv2, hsz2⟩
  · (repeat (first | refine GK.ro ?_ | (refine GK.box ?_; intro bl) | (refine GK.mkMap ?_; intro bm) | (refine GK.build0 tb ?_; intro bs)))
    refine GL.cons ?_; refine GO.callA (fun hF' hle hH => lives_ok) Wt.o (by kernel_rfl) rfl rfl SubR.o ?_
    rintro v Γ' ⟨rfl, rfl⟩
    (repeat (first | refine GK.ro ?_ | (refine GK.box ?_; intro bl) | (refine GK.mkMap ?_; intro bm) | (refine GK.build0 tb ?_; intro bs)))
    exact GQ.fin1 rfl (Rv.tmp rfl) (fun _ s => Sat.sub SubR.o s) ⟨rfl, H, [], le.refl _, rfl⟩
theorem teams_law {W : World} {l : List Ac} {v : Value} (h : rs (mem W) v l.length 5 (acts l)) (hk : ∀ x ∈ l, x.Ok) (n1 : l.length ≤ 140737488355328) :
    FnOk Go.Proofs.Try.prog 4 [v] [poolOf (mem W)] emp (LawR W) := teamsLaw_ok h hk n1
end Go.Pe
