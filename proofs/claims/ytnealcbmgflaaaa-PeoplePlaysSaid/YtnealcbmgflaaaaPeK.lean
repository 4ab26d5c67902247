/- People: what is told. -/
import Derived.Test.YtnealcbmgflaaaaPeJ
set_option linter.unusedSimpArgs false
set_option linter.unusedVariables false
namespace Go.Pe
open Go Go.Sl Go.Ls
set_option maxRecDepth 100000
/-- Names, told in order, in new memory. -/
def NamesAre (l : List By) (v : Value) (ex : List HProp) : Prop := ∃ p c, v = .slice p l.length c ∧ ex = [row (.slice p l.length c) 9 1 l.length (strs l)]
theorem keys_encU (l : List By) : keys (encU l) = l := by unfold keys encU; rw [List.map_map]; simp [Function.comp_def]
theorem keys_encV (l : List (By × Int)) : keys (encV l) = l.map (·.1) := by unfold keys encV; rw [List.map_map]; rfl
theorem keys_encT (l : List Tm) : keys (encT l) = l.map (·.1) := by unfold keys encT; rw [List.map_map]; rfl
theorem keys_encO (l : List Ob) : keys (encO l) = l.map (·.1) := by unfold keys encO; rw [List.map_map]; rfl
theorem encV_len (l : List (By × Int)) : (encV l).length = l.length := by unfold encV; simp
theorem encT_len (l : List Tm) : (encT l).length = l.length := by unfold encT; simp
def usersM (P : Pp) : List By := sortS P.users
def orgsM (P : Pp) : List By := sortS (P.orgs.map (·.1))
def membersM (P : Pp) (n : By) : List By := match getO P.orgs n with
  | none => []
  | some o => sortS (o.roles.map (·.1))
def teamsM (P : Pp) (n : By) : List By := match getO P.orgs n with
  | none => []
  | some o => sortS (o.teams.map (·.1))
def subTeams (P : Pp) (n u : By) : List By := match getO P.orgs n with
  | none => []
  | some o => sortS (inP u o.teams)
def subRole (P : Pp) (n u : By) : Int := match getO P.orgs n with
  | none => 0
  | some o => vget o.roles u
structure Small (P : Pp) : Prop where
  u : P.users.length ≤ 1099511627776
  o : P.orgs.length ≤ 1099511627776
  t : ∀ n o, getO P.orgs n = some o → o.teams.length ≤ 1099511627776
  r : ∀ n o, getO P.orgs n = some o → o.roles.length ≤ 1099511627776
theorem updO_self : ∀ {L : List (By × Og)} {n : By} {o : Og}, getO L n = some o → updO L n o = L
  | [], _, _, h => by cases h
  | (k, p) :: r, n, o, h => by
    unfold getO at h
    unfold updO
    split
    · rename_i e; subst e; rw [if_pos rfl] at h; cases h; rfl
    · rename_i e; rw [if_neg e] at h; rw [updO_self h]
set_option maxRecDepth 100000
set_option maxHeartbeats 4000000
attribute [local irreducible] GK GO Yl Wt Ef Hd GH KH wpListIn Code.wpIn toBody roundQ poolOf rs RS YieldOk IterOk VOk row star exs mp lp Sat pt FnOk Rd bodyPost bodyPostM Lv Ret Exit.then Exit.inBlock Exit.noGoto Int.decLt Int.decLe Int.instDecidableEq
attribute [local irreducible] u8s strs likeTo rng rngAt keys encU encT encV encO inT freshM unitV Pa.nameM lastM vset vdel vget inP teamErr
set_option pp.deepTerms true
set_option pp.maxSteps 1000000
variable {hF H : Hp} {b : Nat} {P : Pp} {n : By}
theorem users_ok (hm : Small P) : FnOk Go.Proofs.Try.prog 17 [.pointer (some ⟨b, 0, none⟩)] [people b P] hF (fun v Γ => ∃ ex, NamesAre (usersM P) v ex ∧ Γ = people b P :: ex) := by
  have h1 := hm.u
  refine FnOk.intro 10 Go.Proofs.Try.func17 rfl rfl fun w0 => ?_
  refine GK.opens 0 rfl fun x hx => ?_
  obtain ⟨mu, mo, os⟩ := x
  unfold peopleL
  (repeat (first | refine GK.ro ?_ | (refine GK.box ?_; intro bl) | (refine GK.mkMap ?_; intro bm) | (refine GK.build0 tb ?_; intro bs)))
  refine GL.cons ?_; refine GO.callA (fun hF' hle hH => none_ok) Wt.o (by kernel_rfl) rfl rfl SubR.o ?_
  rintro v Γ' ⟨rfl, rfl⟩
  (repeat (first | refine GK.ro ?_ | (refine GK.box ?_; intro bl) | (refine GK.mkMap ?_; intro bm) | (refine GK.build0 tb ?_; intro bs)))
  refine GL.cons ?_; refine GO.callA (fun hF' hle hH => rising_mark (es := encU P.users) (by rw [encU_len]; omega)) Wt.o (by kernel_rfl) rfl rfl SubR.o ?_
  rw [keys_encU]
  rintro v Γ' ⟨p, c, rfl, rfl⟩
  (repeat (first | refine GK.ro ?_ | (refine GK.box ?_; intro bl) | (refine GK.mkMap ?_; intro bm) | (refine GK.build0 tb ?_; intro bs)))
  refine GQ.fin1 rfl (Rv.tmp rfl) (Γ' := [people b P, row (.slice p (sortS P.users).length c) 9 1 (sortS P.users).length (strs (sortS P.users))]) (fun w s => ?_) ⟨_, ⟨p, c, rfl, rfl⟩, rfl⟩
  exact Sl.Sat.shut (mu, mo, os) hx (Sl.Sat.sub (A := [pblk b mu mo, mp mu (encU P.users), mp mo (encO os), star (os.map obC), row (.slice p (sortS P.users).length c) 9 1 (sortS P.users).length (strs (sortS P.users))]) SubR.o s)
theorem orgs_ok (hm : Small P) : FnOk Go.Proofs.Try.prog 12 [.pointer (some ⟨b, 0, none⟩)] [people b P] hF (fun v Γ => ∃ ex, NamesAre (orgsM P) v ex ∧ Γ = people b P :: ex) := by
  have h1 := hm.o
  refine FnOk.intro 10 Go.Proofs.Try.func12 rfl rfl fun w0 => ?_
  refine GK.opens 0 rfl fun x hx => ?_
  obtain ⟨mu, mo, os⟩ := x
  have hxl : os.length = P.orgs.length := by have := congrArg List.length hx; simpa using this
  have hk : keys (encO os) = P.orgs.map (·.1) := by rw [keys_encO, ← plain_names]; exact congrArg _ hx
  unfold peopleL
  (repeat (first | refine GK.ro ?_ | (refine GK.box ?_; intro bl) | (refine GK.mkMap ?_; intro bm) | (refine GK.build0 tb ?_; intro bs)))
  refine GL.cons ?_; refine GO.callA (fun hF' hle hH => none_ok) Wt.o (by kernel_rfl) rfl rfl SubR.o ?_
  rintro v Γ' ⟨rfl, rfl⟩
  (repeat (first | refine GK.ro ?_ | (refine GK.box ?_; intro bl) | (refine GK.mkMap ?_; intro bm) | (refine GK.build0 tb ?_; intro bs)))
  refine GL.cons ?_; refine GO.callA (fun hF' hle hH => rising_org (es := encO os) (by rw [encO_len]; omega)) Wt.o (by kernel_rfl) rfl rfl SubR.o ?_
  rw [hk]
  rintro v Γ' ⟨p, c, rfl, rfl⟩
  (repeat (first | refine GK.ro ?_ | (refine GK.box ?_; intro bl) | (refine GK.mkMap ?_; intro bm) | (refine GK.build0 tb ?_; intro bs)))
  refine GQ.fin1 rfl (Rv.tmp rfl) (Γ' := [people b P, row (.slice p (orgsM P).length c) 9 1 (orgsM P).length (strs (orgsM P))]) (fun w s => ?_) ⟨_, ⟨p, c, rfl, rfl⟩, rfl⟩
  exact Sl.Sat.shut (mu, mo, os) hx (Sl.Sat.sub (A := [pblk b mu mo, mp mu (encU P.users), mp mo (encO os), star (os.map obC), row (.slice p (orgsM P).length c) 9 1 (orgsM P).length (strs (orgsM P))]) SubR.o s)
theorem people_same {o : Og} (hn : getO P.orgs n = some o) : (⟨P.users, updO P.orgs n o⟩ : Pp) = P := by rw [updO_self hn]
theorem members_ok (hm : Small P) : FnOk Go.Proofs.Try.prog 13 [.pointer (some ⟨b, 0, none⟩), str n] [people b P] hF (fun v Γ => ∃ ex, NamesAre (membersM P n) v ex ∧ Γ = people b P :: ex) := by
  cases hn : getO P.orgs n with
  | none =>
    rw [show membersM P n = [] from by unfold membersM; rw [hn]]
    refine people_miss hn fun hF mu mo os ha => ?_
    refine FnOk.intro 16 Go.Proofs.Try.func13 rfl rfl fun w0 => ?_
    (repeat (first | refine GK.ro ?_ | (refine GK.box ?_; intro bl) | (refine GK.mkMap ?_; intro bm) | (refine GK.build0 tb ?_; intro bs)))
    refine GL.cons ?_; refine GO.callA (fun hF' hle hH => at_ok (os := os) (n := n)) Wt.o (by kernel_rfl) rfl rfl SubR.o ?_
    rw [ha]
    rintro v Γ' ⟨rfl, rfl⟩
    (repeat (first | refine GK.ro ?_ | (refine GK.box ?_; intro bl) | (refine GK.mkMap ?_; intro bm) | (refine GK.build0 tb ?_; intro bs)))
    refine GQ.fin1 rfl (Rv.tmp rfl) (Γ' := [pblk b mu mo, mp mu (encU P.users), mp mo (encO os), row (.slice none 0 0) 9 1 0 (strs [])]) (fun w s => ?_) ⟨_, ⟨none, 0, rfl, rfl⟩, rfl⟩
    rw [strs_nil]
    exact Sl.Sat.sub SubR.o (Sl.Sat.row_nil (e := 9) (sz := 1) s)
  | some o =>
    have h1 := hm.r n o hn
    rw [show membersM P n = sortS (o.roles.map (·.1)) from by unfold membersM; rw [hn]]
    refine FnOk.weak (fun _ s => s) ?_ (people_at hn (R := fun v ex o' => NamesAre (sortS (o.roles.map (·.1))) v ex ∧ o' = o) fun hF mu mo os a mi mr l ha hl => ?_)
    · rintro v Γ' ⟨ex, o', ⟨h, rfl⟩, rfl⟩ w' s'
      rw [people_same hn] at s'
      exact ⟨_, ⟨ex, h, rfl⟩, s'⟩
    · unfold orgL
      refine FnOk.intro 16 Go.Proofs.Try.func13 rfl rfl fun w0 => ?_
      (repeat (first | refine GK.ro ?_ | (refine GK.box ?_; intro bl) | (refine GK.mkMap ?_; intro bm) | (refine GK.build0 tb ?_; intro bs)))
      refine GL.cons ?_; refine GO.callA (fun hF' hle hH => at_ok (os := os) (n := n)) Wt.o (by kernel_rfl) rfl rfl SubR.o ?_
      rw [ha]
      rintro v Γ' ⟨rfl, rfl⟩
      (repeat (first | refine GK.ro ?_ | (refine GK.box ?_; intro bl) | (refine GK.mkMap ?_; intro bm) | (refine GK.build0 tb ?_; intro bs)))
      refine GL.cons ?_; refine GO.callA (fun hF' hle hH => rising_int (es := encV o.roles) (by rw [encV_len]; omega)) Wt.o (by kernel_rfl) rfl rfl SubR.o ?_
      rw [keys_encV]
      rintro v Γ' ⟨p, c, rfl, rfl⟩
      (repeat (first | refine GK.ro ?_ | (refine GK.box ?_; intro bl) | (refine GK.mkMap ?_; intro bm) | (refine GK.build0 tb ?_; intro bs)))
      exact GQ.fin1 rfl (Rv.tmp rfl) (Γ' := [pblk b mu mo, mp mu (encU P.users), mp mo (encO os), oblk a mi mr, mp mi (encT l), star (l.map teamC), mp mr (encV o.roles), row (.slice p (sortS (o.roles.map (·.1))).length c) 9 1 (sortS (o.roles.map (·.1))).length (strs (sortS (o.roles.map (·.1))))]) (fun _ s => Sat.sub SubR.o s) ⟨_, o, l, ⟨⟨p, c, rfl, rfl⟩, rfl⟩, hl, rfl⟩
theorem teams_ok (hm : Small P) : FnOk Go.Proofs.Try.prog 16 [.pointer (some ⟨b, 0, none⟩), str n] [people b P] hF (fun v Γ => ∃ ex, NamesAre (teamsM P n) v ex ∧ Γ = people b P :: ex) := by
  cases hn : getO P.orgs n with
  | none =>
    rw [show teamsM P n = [] from by unfold teamsM; rw [hn]]
    refine people_miss hn fun hF mu mo os ha => ?_
    refine FnOk.intro 17 Go.Proofs.Try.func16 rfl rfl fun w0 => ?_
    (repeat (first | refine GK.ro ?_ | (refine GK.box ?_; intro bl) | (refine GK.mkMap ?_; intro bm) | (refine GK.build0 tb ?_; intro bs)))
    refine GL.cons ?_; refine GO.callA (fun hF' hle hH => at_ok (os := os) (n := n)) Wt.o (by kernel_rfl) rfl rfl SubR.o ?_
    rw [ha]
    rintro v Γ' ⟨rfl, rfl⟩
    (repeat (first | refine GK.ro ?_ | (refine GK.box ?_; intro bl) | (refine GK.mkMap ?_; intro bm) | (refine GK.build0 tb ?_; intro bs)))
    refine GQ.fin1 rfl (Rv.tmp rfl) (Γ' := [pblk b mu mo, mp mu (encU P.users), mp mo (encO os), row (.slice none 0 0) 9 1 0 (strs [])]) (fun w s => ?_) ⟨_, ⟨none, 0, rfl, rfl⟩, rfl⟩
    rw [strs_nil]
    exact Sl.Sat.sub SubR.o (Sl.Sat.row_nil (e := 9) (sz := 1) s)
  | some o =>
    have h1 := hm.t n o hn
    rw [show teamsM P n = sortS (o.teams.map (·.1)) from by unfold teamsM; rw [hn]]
    refine FnOk.weak (fun _ s => s) ?_ (people_at hn (R := fun v ex o' => NamesAre (sortS (o.teams.map (·.1))) v ex ∧ o' = o) fun hF mu mo os a mi mr l ha hl => ?_)
    · rintro v Γ' ⟨ex, o', ⟨h, rfl⟩, rfl⟩ w' s'
      rw [people_same hn] at s'
      exact ⟨_, ⟨ex, h, rfl⟩, s'⟩
    · have hll : l.length = o.teams.length := by rw [← hl]; simp
      have hkt : keys (encT l) = o.teams.map (·.1) := by rw [keys_encT]; exact strip_names hl
      unfold orgL
      refine FnOk.intro 17 Go.Proofs.Try.func16 rfl rfl fun w0 => ?_
      (repeat (first | refine GK.ro ?_ | (refine GK.box ?_; intro bl) | (refine GK.mkMap ?_; intro bm) | (refine GK.build0 tb ?_; intro bs)))
      refine GL.cons ?_; refine GO.callA (fun hF' hle hH => at_ok (os := os) (n := n)) Wt.o (by kernel_rfl) rfl rfl SubR.o ?_
      rw [ha]
      rintro v Γ' ⟨rfl, rfl⟩
      (repeat (first | refine GK.ro ?_ | (refine GK.box ?_; intro bl) | (refine GK.mkMap ?_; intro bm) | (refine GK.build0 tb ?_; intro bs)))
      refine GL.cons ?_; refine GO.callA (fun hF' hle hH => rising_team (es := encT l) (by rw [encT_len]; omega)) Wt.o (by kernel_rfl) rfl rfl SubR.o ?_
      rw [hkt]
      rintro v Γ' ⟨p, c, rfl, rfl⟩
      (repeat (first | refine GK.ro ?_ | (refine GK.box ?_; intro bl) | (refine GK.mkMap ?_; intro bm) | (refine GK.build0 tb ?_; intro bs)))
      exact GQ.fin1 rfl (Rv.tmp rfl) (Γ' := [pblk b mu mo, mp mu (encU P.users), mp mo (encO os), oblk a mi mr, mp mi (encT l), star (l.map teamC), mp mr (encV o.roles), row (.slice p (sortS (o.teams.map (·.1))).length c) 9 1 (sortS (o.teams.map (·.1))).length (strs (sortS (o.teams.map (·.1))))]) (fun _ s => Sat.sub SubR.o s) ⟨_, o, l, ⟨⟨p, c, rfl, rfl⟩, rfl⟩, hl, rfl⟩
def subC (u : By) (tv : Value) (r : Int) : List Value := [str u, tv, .int .i64 r]
/-- A subject, told. -/
def SubIs (u : By) (ts : List By) (r : Int) (v : Value) (ex : List HProp) : Prop := ∃ p c, v = .agg ⟨subC u (.slice p ts.length c) r⟩ ∧ ex = [row (.slice p ts.length c) 9 1 ts.length (strs ts)]
theorem subject_ok {u : By} (hm : Small P) : FnOk Go.Proofs.Try.prog 14 [.pointer (some ⟨b, 0, none⟩), str n, str u] [people b P] hF (fun v Γ => ∃ ex, SubIs u (subTeams P n u) (subRole P n u) v ex ∧ Γ = people b P :: ex) := by
  cases hn : getO P.orgs n with
  | none =>
    rw [show subTeams P n u = [] from by unfold subTeams; rw [hn], show subRole P n u = 0 from by unfold subRole; rw [hn]]
    refine people_miss hn fun hF mu mo os ha => ?_
    refine FnOk.intro 31 Go.Proofs.Try.func14 rfl rfl fun w0 => ?_
    (repeat (first | refine GK.ro ?_ | (refine GK.box ?_; intro bl) | (refine GK.mkMap ?_; intro bm) | (refine GK.build0 tb ?_; intro bs)))
    refine GL.cons ?_; refine GO.alloc Wt.o (by exact rfl) ?_
    intro b0
    (repeat (first | refine GK.ro ?_ | (refine GK.box ?_; intro bl) | (refine GK.mkMap ?_; intro bm) | (refine GK.build0 tb ?_; intro bs)))
    refine GL.cons ?_; refine GO.alloc Wt.o (by exact rfl) ?_
    intro b6
    (repeat (first | refine GK.ro ?_ | (refine GK.box ?_; intro bl) | (refine GK.mkMap ?_; intro bm) | (refine GK.build0 tb ?_; intro bs)))
    refine GL.cons ?_; refine Gt.storeAny tb 0 Wt.o rfl rfl rfl rfl (one_of_all rfl) rfl rfl ?_
    (repeat (first | refine GK.ro ?_ | (refine GK.box ?_; intro bl) | (refine GK.mkMap ?_; intro bm) | (refine GK.build0 tb ?_; intro bs)))
    refine GL.cons ?_; refine GO.callA (fun hF' hle hH => at_ok (os := os) (n := n)) Wt.o (by kernel_rfl) rfl rfl SubR.o ?_
    rw [ha]
    rintro v Γ' ⟨rfl, rfl⟩
    (repeat (first | refine GK.ro ?_ | (refine GK.box ?_; intro bl) | (refine GK.mkMap ?_; intro bm) | (refine GK.build0 tb ?_; intro bs)))
    refine GK.heap (Γ' := [blk b6 35 (0, 0) [str u, .slice none 0 0, .int .i64 0], blk b0 35 (0, 0) [str [], .slice none 0 0, .int .i64 0], pblk b mu mo, mp mu (encU P.users), mp mo (encO os)]) (fun _ s => Sat.sub SubR.o s) ?_
    refine GL.cons ?_; refine Gt.storeAny tb 1 Wt.o rfl rfl rfl rfl (one_of_all rfl) rfl rfl ?_
    (repeat (first | refine GK.ro ?_ | (refine GK.box ?_; intro bl) | (refine GK.mkMap ?_; intro bm) | (refine GK.build0 tb ?_; intro bs)))
    refine GQ.fin1 rfl (Rv.row rfl (by kernel_rfl) (by kernel_rfl) (Rd.blk 1 rfl) (At.all _)) (Γ' := [pblk b mu mo, mp mu (encU P.users), mp mo (encO os), row (.slice none 0 0) 9 1 0 (strs [])]) (fun w s => ?_) ⟨_, ⟨none, 0, rfl, rfl⟩, rfl⟩
    rw [strs_nil]
    exact Sl.Sat.sub SubR.o (Sl.Sat.row_nil (e := 9) (sz := 1) s)
  | some o =>
    have h1 := hm.t n o hn
    rw [show subTeams P n u = sortS (inP u o.teams) from by unfold subTeams; rw [hn], show subRole P n u = vget o.roles u from by unfold subRole; rw [hn]]
    refine FnOk.weak (fun _ s => s) ?_ (people_at hn (R := fun v ex o' => SubIs u (sortS (inP u o.teams)) (vget o.roles u) v ex ∧ o' = o) fun hF mu mo os a mi mr l ha hl => ?_)
    · rintro v Γ' ⟨ex, o', ⟨h, rfl⟩, rfl⟩ w' s'
      rw [people_same hn] at s'
      exact ⟨_, ⟨ex, h, rfl⟩, s'⟩
    · have hll : l.length = o.teams.length := by rw [← hl]; simp
      have hit : inT u l = inP u o.teams := by rw [inT_eq, hl]
      unfold orgL
      refine FnOk.intro 31 Go.Proofs.Try.func14 rfl rfl fun w0 => ?_
      (repeat (first | refine GK.ro ?_ | (refine GK.box ?_; intro bl) | (refine GK.mkMap ?_; intro bm) | (refine GK.build0 tb ?_; intro bs)))
      refine GL.cons ?_; refine GO.alloc Wt.o (by exact rfl) ?_
      intro b0
      (repeat (first | refine GK.ro ?_ | (refine GK.box ?_; intro bl) | (refine GK.mkMap ?_; intro bm) | (refine GK.build0 tb ?_; intro bs)))
      refine GL.cons ?_; refine GO.alloc Wt.o (by exact rfl) ?_
      intro b6
      (repeat (first | refine GK.ro ?_ | (refine GK.box ?_; intro bl) | (refine GK.mkMap ?_; intro bm) | (refine GK.build0 tb ?_; intro bs)))
      refine GL.cons ?_; refine Gt.storeAny tb 0 Wt.o rfl rfl rfl rfl (one_of_all rfl) rfl rfl ?_
      (repeat (first | refine GK.ro ?_ | (refine GK.box ?_; intro bl) | (refine GK.mkMap ?_; intro bm) | (refine GK.build0 tb ?_; intro bs)))
      refine GL.cons ?_; refine GO.callA (fun hF' hle hH => at_ok (os := os) (n := n)) Wt.o (by kernel_rfl) rfl rfl SubR.o ?_
      rw [ha]
      rintro v Γ' ⟨rfl, rfl⟩
      (repeat (first | refine GK.ro ?_ | (refine GK.box ?_; intro bl) | (refine GK.mkMap ?_; intro bm) | (refine GK.build0 tb ?_; intro bs)))
      refine G.draw [] [oblk a mi mr, mp mr (encV o.roles)] (by kernel_rfl) ?_
      ((first | refine GH.to 0 ?_ | refine GH.tos 0 ?_); (first | refine GH.to 1 ?_ | refine GH.tos 1 ?_); (first | refine GH.to 2 ?_ | refine GH.tos 2 ?_); (first | refine GH.to 3 ?_ | refine GH.tos 3 ?_); (first | refine GH.to 4 ?_ | refine GH.tos 4 ?_); (first | refine GH.to 6 ?_ | refine GH.tos 6 ?_); (first | refine GH.to 7 ?_ | refine GH.tos 7 ?_); (first | refine GH.to 8 ?_ | refine GH.tos 8 ?_); (first | refine GH.to 9 ?_ | refine GH.tos 9 ?_); (first | refine GH.to 10 ?_ | refine GH.tos 10 ?_))
      refine GH.take 11 rfl (by kernel_rfl) Wt.o (fun _ s => Sat.sub SubR.o s) (Yl.look1 1 (KeyT.str rfl) rfl rfl rfl rfl rfl (enc_vget o.roles u)) ?_
      refine GH.step 5 rfl (by kernel_rfl) ?_
      refine GO.callA (fun hF' hle hH => of_ok (m := mi) (l := l) (u := u) (by omega)) Wt.o (by kernel_rfl) rfl rfl SubR.o ?_
      rintro v Γ' ⟨p, c, rfl, rfl⟩
      rw [hit]
      refine GH.keep (fun _ s => Sat.sub SubR.o s) ?_
      ((first | refine GH.to 12 ?_ | refine GH.tos 12 ?_))
      refine GH.heap (Γ' := [blk b6 35 (0, 0) [str u, .slice none 0 0, .int .i64 0], blk b0 35 (0, 0) [str [], .slice none 0 0, .int .i64 0], oblk a mi mr, mp mr (encV o.roles), row (.slice p (sortS (inP u o.teams)).length c) 9 1 (sortS (inP u o.teams)).length (strs (sortS (inP u o.teams))), mp mi (encT l), star (l.map teamC), pblk b mu mo, mp mu (encU P.users), mp mo (encO os)]) (fun _ s => Sat.sub SubR.o s) ?_
      refine GH.step 13 rfl (by kernel_rfl) ?_
      refine Gt.storeAt tb 0 Wt.o rfl rfl rfl rfl rfl (by show 0 + 1 < 3; omega) rfl ?_
      refine GH.keep (fun _ s => Sat.sub SubR.o s) ?_
      ((first | refine GH.to 14 ?_ | refine GH.tos 14 ?_))
      refine GH.step 15 rfl (by kernel_rfl) ?_
      refine Gt.storeAt tb 0 Wt.o rfl rfl rfl rfl rfl (by show 0 + 2 < 3; omega) rfl ?_
      refine GH.keep (fun _ s => Sat.sub SubR.o s) ?_
      refine GH.fin (by kernel_rfl) ?_
      (repeat (first | refine GK.ro ?_ | (refine GK.box ?_; intro bl) | (refine GK.mkMap ?_; intro bm) | (refine GK.build0 tb ?_; intro bs)))
      refine GL.cons ?_; refine Gt.storeAny tb 1 Wt.o rfl rfl rfl rfl (one_of_all rfl) rfl rfl ?_
      (repeat (first | refine GK.ro ?_ | (refine GK.box ?_; intro bl) | (refine GK.mkMap ?_; intro bm) | (refine GK.build0 tb ?_; intro bs)))
      exact GQ.fin1 rfl (Rv.row rfl (by kernel_rfl) (by kernel_rfl) (Rd.blk 1 rfl) (At.all _)) (Γ' := [pblk b mu mo, mp mu (encU P.users), mp mo (encO os), oblk a mi mr, mp mi (encT l), star (l.map teamC), mp mr (encV o.roles), row (.slice p (sortS (inP u o.teams)).length c) 9 1 (sortS (inP u o.teams)).length (strs (sortS (inP u o.teams)))]) (fun _ s => Sat.sub SubR.o s) ⟨_, o, l, ⟨⟨p, c, rfl, rfl⟩, rfl⟩, hl, rfl⟩
end Go.Pe
