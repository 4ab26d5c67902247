/- PeopleOwners. -/
import Derived.Test.YtnealcbmgflaaaaPeO
set_option linter.unusedSimpArgs false
set_option linter.unusedVariables false
namespace Go.Pe
open Go Go.Sl Go.Ls
set_option maxRecDepth 100000
theorem org_there {P : Pp} {n : By} (h : n ∈ orgsM P) : ∃ o, getO P.orgs n = some o := by
  unfold orgsM at h
  rw [mem_sortS] at h
  cases hn : getO P.orgs n with
  | some o => exact ⟨o, rfl⟩
  | none =>
    exfalso
    have key : ∀ L : List (By × Og), n ∈ L.map (·.1) → getO L n = none → False := by
      intro L
      induction L with
      | nil => intro h; cases h
      | cons x r ih =>
        obtain ⟨k, o⟩ := x
        intro h h2
        unfold getO at h2
        split at h2
        · cases h2
        · rename_i e
          rw [List.map_cons] at h
          rcases List.mem_cons.1 h with h | h
          · exact e h
          · exact ih h h2
    exact key _ h hn
def ownedBy (P : Pp) (n : By) (l : List By) : Bool := l.any fun u => decide (subRole P n u = 2)
theorem has_owner {P : Pp} (h : PInv P) {n : By} (hn : n ∈ orgsM P) : ownedBy P n (membersM P n) = true := by
  obtain ⟨o, ho⟩ := org_there hn
  have hi := h.o _ (getO_mem ho)
  obtain ⟨x, hx, h2⟩ := hi.ow
  refine List.any_eq_true.2 ⟨x.1, ?_, decide_eq_true ?_⟩
  · unfold membersM; rw [ho]; exact (mem_sortS _ _).2 (List.mem_map.2 ⟨x, hx, rfl⟩)
  · unfold subRole; rw [ho]
    exact (vget_mem hi.rn (by decide)).2 (by rw [← h2]; exact hx)
theorem owned_take {P : Pp} {n u : By} {l : List By} {j : Nat} (h : l[j]? = some u) : ownedBy P n (l.take (j + 1)) = (ownedBy P n (l.take j) || decide (subRole P n u = 2)) := by
  obtain ⟨hj, rfl⟩ := List.getElem?_eq_some_iff.1 h
  unfold ownedBy
  rw [List.take_succ_eq_append_getElem hj, List.any_append]; simp
theorem owned_zero {P : Pp} {n : By} {l : List By} : ownedBy P n (l.take 0) = false := by unfold ownedBy; simp
set_option maxRecDepth 100000
set_option maxHeartbeats 4000000
attribute [local irreducible] GK GO Yl Wt Ef Hd GH KH wpListIn Code.wpIn toBody roundQ poolOf rs RS YieldOk IterOk VOk row star exs mp lp Sat pt FnOk Rd bodyPost bodyPostM Lv Ret Exit.then Exit.inBlock Exit.noGoto Int.decLt Int.decLe Int.instDecidableEq
attribute [local irreducible] u8s strs likeTo rng rngAt keys encU encT encV encO inT freshM unitV Pa.nameM lastM vset vdel vget inP teamErr actC acts people onO joinM leaveM addTeamM putM outM addUserM addOrgM subTeams subRole usersM membersM teamsM orgsM subC doM ownedBy
set_option pp.deepTerms true
set_option pp.maxSteps 1000000
variable {hF H : Hp}
theorem ownersLaw_ok {l : List Ac} {v : Value} (h : rs H v l.length 5 (acts l)) (hk : ∀ x ∈ l, x.Ok) (n1 : l.length ≤ 140737488355328) :
    FnOk Go.Proofs.Try.prog 3 [v] [poolOf H] hF (fun v Γ => v = .bool true ∧ ∃ H' Γ2, le H H' ∧ Γ = poolOf H' :: Γ2) := by
  have h0 := h
  obtain ⟨p, c, rfl, hc, hln, hr⟩ := rs.out h
  refine FnOk.intro 55 Go.Proofs.Try.func3 rfl rfl fun w0 => ?_
  (repeat (first | refine GK.ro ?_ | (refine GK.box ?_; intro bl) | (refine GK.mkMap ?_; intro bm) | (refine GK.build0 tb ?_; intro bs)))
  refine GL.cons ?_; refine GO.callA (fun hF' hle hH => few_ok h0 hk n1) Wt.o (by kernel_rfl) rfl rfl SubR.o ?_
  rintro v Γ' ⟨⟨bb, rfl, hfew⟩, rfl⟩
  cases bb with
  | false =>
    (repeat (first | refine GK.ro ?_ | (refine GK.box ?_; intro bl) | (refine GK.mkMap ?_; intro bm) | (refine GK.build0 tb ?_; intro bs)))
    refine GL.cons ?_; refine GO.callA (fun hF' hle hH => lives_ok) Wt.o (by kernel_rfl) rfl rfl SubR.o ?_
    rintro v Γ' ⟨rfl, rfl⟩
    (repeat (first | refine GK.ro ?_ | (refine GK.box ?_; intro bl) | (refine GK.mkMap ?_; intro bm) | (refine GK.build0 tb ?_; intro bs)))
    exact GQ.fin1 rfl (Rv.tmp rfl) (fun _ s => Sat.sub SubR.o s) ⟨rfl, H, [], le.refl _, rfl⟩
  | true =>
  have hl200 := hfew rfl
  (repeat (first | refine GK.ro ?_ | (refine GK.box ?_; intro bl) | (refine GK.mkMap ?_; intro bm) | (refine GK.build0 tb ?_; intro bs)))
  refine GL.cons ?_; refine GO.callA (fun hF' hle hH => new_ok) Wt.o (by kernel_rfl) rfl rfl SubR.o ?_
  rintro v Γ' ⟨b, rfl, rfl⟩
  (repeat (first | refine GK.ro ?_ | (refine GK.box ?_; intro bl) | (refine GK.mkMap ?_; intro bm) | (refine GK.build0 tb ?_; intro bs)))
  refine G.loopK (X := Nat × Pp) [(3, _), (16, _), (17, _)] (fun (i, _) => [(18, .int .i64 (i : Int))]) (fun (i, _) => l.length - i) (fun (_, P) => [people b P, poolOf H]) (fun (i, P) => i ≤ l.length ∧ PInv P ∧ Sz P i) (0, ⟨[], []⟩) ⟨Nat.zero_le _, PInv.nil, Sz.nil⟩ Sub.o (fun _ s => Sat.sub SubR.o s) (fun x hx q hq => ?_)
  obtain ⟨i, P⟩ := x
  obtain ⟨hi, hinv, hsz⟩ := hx
  dsimp only [List.cons_append, List.nil_append] at hq ⊢
  (repeat (first | refine GK.ro ?_ | (refine GK.box ?_; intro bl) | (refine GK.mkMap ?_; intro bm) | (refine GK.build0 tb ?_; intro bs)))
  (first | refine G.condP rfl (fun hb => ?_) (fun hb => ?_) | refine G.condN rfl (fun hb => ?_) (fun hb => ?_) | refine G.cond rfl (fun hb => ?_) (fun hb => ?_))
  · obtain ⟨x, hx⟩ : ∃ x, l[i]? = some x := ⟨_, List.getElem?_eq_getElem (by omega)⟩
    have hxk := hk x (List.mem_of_getElem? hx)
    obtain ⟨k0, k1, k2, k3, k4⟩ := acC_get x
    have hal := acC_len x
    have hao := actC_one x
    have haA : At (actC x) 0 (actC x) := At.all _
    have hlt : i < l.length := by omega
    clear hb
    obtain ⟨b1, o1, cs1, et1, fz1, rfl, hb1, hat1⟩ := hr (by omega)
    have hA : At cs1 (o1 + (i : Int).toNat * 5) (actC x) := at_trans hat1 (acts_at hx)
    (repeat (first | refine GK.ro ?_ | (refine GK.box ?_; intro bl) | (refine GK.mkMap ?_; intro bm) | (refine GK.build0 tb ?_; intro bs) | (refine GL.cons ?_; refine GO.alloc Wt.o (by exact rfl) ?_; intro ba) | (refine GL.cons ?_; refine Gt.storeAny tb 0 Wt.o (by exact rfl) (by exact rfl) (by exact rfl) (by assumption) (by assumption) (by exact rfl) (by first | exact rfl | assumption) ?_) | (refine GL.cons ?_; refine Gt.storeAny tb 1 Wt.o (by exact rfl) (by exact rfl) (by exact rfl) (by assumption) (by assumption) (by exact rfl) (by first | exact rfl | assumption) ?_) | (refine GL.cons ?_; refine Gt.storeAny tb 2 Wt.o (by exact rfl) (by exact rfl) (by exact rfl) (by assumption) (by assumption) (by exact rfl) (by first | exact rfl | assumption) ?_) | (refine GL.cons ?_; refine Gt.storeAny tb 3 Wt.o (by exact rfl) (by exact rfl) (by exact rfl) (by assumption) (by assumption) (by exact rfl) (by first | exact rfl | assumption) ?_) | (refine GL.cons ?_; refine Gt.storeAny tb 4 Wt.o (by exact rfl) (by exact rfl) (by exact rfl) (by assumption) (by assumption) (by exact rfl) (by first | exact rfl | assumption) ?_) | (refine GL.cons ?_; refine Gt.storeAny tb 5 Wt.o (by exact rfl) (by exact rfl) (by exact rfl) (by assumption) (by assumption) (by exact rfl) (by first | exact rfl | assumption) ?_) | (refine GL.cons ?_; refine Gt.storeAny tb 6 Wt.o (by exact rfl) (by exact rfl) (by exact rfl) (by assumption) (by assumption) (by exact rfl) (by first | exact rfl | assumption) ?_) | (refine GL.cons ?_; refine Gt.storeAny tb 7 Wt.o (by exact rfl) (by exact rfl) (by exact rfl) (by assumption) (by assumption) (by exact rfl) (by first | exact rfl | assumption) ?_) | (refine GL.cons ?_; refine Gt.storeAny tb 8 Wt.o (by exact rfl) (by exact rfl) (by exact rfl) (by assumption) (by assumption) (by exact rfl) (by first | exact rfl | assumption) ?_) | (refine GL.cons ?_; refine Gt.storeAny tb 9 Wt.o (by exact rfl) (by exact rfl) (by exact rfl) (by assumption) (by assumption) (by exact rfl) (by first | exact rfl | assumption) ?_)))
    refine GL.cons ?_; refine GO.callA (fun hF' hle hH => do_ok hxk hinv (hsz.small (by omega))) Wt.o (by kernel_rfl) rfl rfl SubR.o ?_
    rintro v Γ' ⟨rfl, rfl⟩
    have hinv2 := hinv.doM (x := x)
    have hsz2 := hsz.doM (x := x)
    have hsm := hsz2.small (by omega)
    generalize (doM P x).2 = P2 at hinv2 hsz2 hsm ⊢
    have ol := orgsM_len hsm
    (repeat (first | refine GK.ro ?_ | (refine GK.box ?_; intro bl) | (refine GK.mkMap ?_; intro bm) | (refine GK.build0 tb ?_; intro bs)))
    refine GL.cons ?_; refine GO.callA (fun hF' hle hH => orgs_ok hsm) Wt.o (by kernel_rfl) rfl rfl SubR.o ?_
    rintro v Γ' ⟨ex, ⟨op, oc, rfl, rfl⟩, rfl⟩
    (repeat (first | refine GK.ro ?_ | (refine GK.box ?_; intro bl) | (refine GK.mkMap ?_; intro bm) | (refine GK.build0 tb ?_; intro bs)))
    refine G.loopK (X := Nat) [(3, _), (16, _), (17, _), (18, _), (26, _), (27, _)] (fun j => [(28, .int .i64 (j : Int))]) (fun j => (orgsM P2).length - j) (fun _ => [row (.slice op (orgsM P2).length oc) 9 1 (orgsM P2).length (strs (orgsM P2)), people b P2, poolOf H]) (fun j => j ≤ (orgsM P2).length) 0 (Nat.zero_le _) Sub.o (fun _ s => Sat.sub SubR.o s) (fun j hj q2 hq2 => ?_)
    dsimp only [List.cons_append, List.nil_append] at hq2 ⊢
    (repeat (first | refine GK.ro ?_ | (refine GK.box ?_; intro bl) | (refine GK.mkMap ?_; intro bm) | (refine GK.build0 tb ?_; intro bs)))
    (first | refine G.condP rfl (fun hb => ?_) (fun hb => ?_) | refine G.condN rfl (fun hb => ?_) (fun hb => ?_) | refine G.cond rfl (fun hb => ?_) (fun hb => ?_))
    · obtain ⟨n, hn⟩ : ∃ n, (orgsM P2)[j]? = some n := ⟨_, List.getElem?_eq_getElem (by omega)⟩
      have hown := has_owner hinv2 (List.mem_of_getElem? hn)
      have ml := membersM_len hsm n
      have hlt2 : j < (orgsM P2).length := by omega
      clear hb
      refine GK.rowPtr 0 rfl (by omega) fun b3 hp => ?_
      subst hp
      have kx : (strs (orgsM P2))[0 + (j : Int).toNat * 1]? = some (str n) := by rw [show 0 + (j : Int).toNat * 1 = j by omega]; exact strs_get hn
      (repeat (first | refine GK.ro ?_ | (refine GK.box ?_; intro bl) | (refine GK.mkMap ?_; intro bm) | (refine GK.build0 tb ?_; intro bs)))
      refine GL.cons ?_; refine GO.callA (fun hF' hle hH => members_ok (n := n) hsm) Wt.o (by kernel_rfl) rfl rfl SubR.o ?_
      rintro v Γ' ⟨ex, ⟨mp2, mc, rfl, rfl⟩, rfl⟩
      (repeat (first | refine GK.ro ?_ | (refine GK.box ?_; intro bl) | (refine GK.mkMap ?_; intro bm) | (refine GK.build0 tb ?_; intro bs)))
      refine G.loopK (X := Nat) [(3, _), (7, _), (16, _), (17, _), (18, _), (26, _), (27, _), (28, _), (34, _), (35, _)] (fun m => [(36, .int .i64 (m : Int)), (8, .bool (ownedBy P2 n ((membersM P2 n).take m)))]) (fun m => (membersM P2 n).length - m) (fun _ => [row (.slice mp2 (membersM P2 n).length mc) 9 1 (membersM P2 n).length (strs (membersM P2 n)), row (.slice (some ⟨b3, 0, none⟩) (orgsM P2).length oc) 9 1 (orgsM P2).length (strs (orgsM P2)), people b P2, poolOf H]) (fun m => m ≤ (membersM P2 n).length) 0 (Nat.zero_le _) (by simp only [owned_zero]; exact Sub.o) (fun _ s => Sat.sub SubR.o s) (fun m hm q3 hq3 => ?_)
      dsimp only [List.cons_append, List.nil_append] at hq3 ⊢
      (repeat (first | refine GK.ro ?_ | (refine GK.box ?_; intro bl) | (refine GK.mkMap ?_; intro bm) | (refine GK.build0 tb ?_; intro bs)))
      (first | refine G.condP rfl (fun hb => ?_) (fun hb => ?_) | refine G.condN rfl (fun hb => ?_) (fun hb => ?_) | refine G.cond rfl (fun hb => ?_) (fun hb => ?_))
      · obtain ⟨u, hu⟩ : ∃ u, (membersM P2 n)[m]? = some u := ⟨_, List.getElem?_eq_getElem (by omega)⟩
        have hst := owned_take (P := P2) (n := n) hu
        have hlt3 : m < (membersM P2 n).length := by omega
        clear hb
        refine GK.rowPtr 0 rfl (by omega) fun b4 hp => ?_
        subst hp
        have ky : (strs (membersM P2 n))[0 + (m : Int).toNat * 1]? = some (str u) := by rw [show 0 + (m : Int).toNat * 1 = m by omega]; exact strs_get hu
        cases hob : ownedBy P2 n ((membersM P2 n).take m) with
        | true =>
          rw [hob, Bool.true_or] at hst
          (repeat (first | refine GK.ro ?_ | (refine GK.box ?_; intro bl) | (refine GK.mkMap ?_; intro bm) | (refine GK.build0 tb ?_; intro bs)))
          refine GQ.againN (m + 1) ?_ ?_ ?_ (fun _ s => Sat.sub SubR.o s)
          · show m + 1 ≤ _; omega
          · omega
          · simp only [hst]; exact Sub.o
        | false =>
          rw [hob, Bool.false_or] at hst
          (repeat (first | refine GK.ro ?_ | (refine GK.box ?_; intro bl) | (refine GK.mkMap ?_; intro bm) | (refine GK.build0 tb ?_; intro bs)))
          refine GL.cons ?_; refine GO.callA (fun hF' hle hH => subject_ok (n := n) (u := u) hsm) Wt.o (by kernel_rfl) rfl rfl SubR.o ?_
          rintro v Γ' ⟨ex, ⟨sp, sc, rfl, rfl⟩, rfl⟩
          have s2 : (subC u (.slice sp (subTeams P2 n u).length sc) (subRole P2 n u))[2]? = some (.int .i64 (subRole P2 n u)) := (subC_get _ _ _).2.2
          (repeat (first | refine GK.ro ?_ | (refine GK.box ?_; intro bl) | (refine GK.mkMap ?_; intro bm) | (refine GK.build0 tb ?_; intro bs)))
          refine GQ.againN (m + 1) ?_ ?_ ?_ (fun _ s => Sat.sub SubR.o s)
          · show m + 1 ≤ _; omega
          · omega
          · simp only [hst]; exact Sub.o
      · have hme : m = (membersM P2 n).length := by omega
        subst hme
        rw [List.take_length, hown]
        (repeat (first | refine GK.ro ?_ | (refine GK.box ?_; intro bl) | (refine GK.mkMap ?_; intro bm) | (refine GK.build0 tb ?_; intro bs)))
        (refine GQ.againN (j + 1) ?_ ?_ ?_ ?_; rotate_left; (first | omega | (dsimp only; omega)); exact Sub.o; exact (fun _ s => Sat.sub SubR.o s))
        omega
    · (repeat (first | refine GK.ro ?_ | (refine GK.box ?_; intro bl) | (refine GK.mkMap ?_; intro bm) | (refine GK.build0 tb ?_; intro bs)))
      (refine GQ.againN ((i + 1, P2)) ?_ ?_ ?_ ?_; rotate_left; (first | omega | (dsimp only; omega)); exact Sub.o; exact (fun _ s => Sat.sub SubR.o s))
      exact ⟨by omega, hinv2, hsz2⟩
  · (repeat (first | refine GK.ro ?_ | (refine GK.box ?_; intro bl) | (refine GK.mkMap ?_; intro bm) | (refine GK.build0 tb ?_; intro bs)))
    refine GL.cons ?_; refine GO.callA (fun hF' hle hH => lives_ok) Wt.o (by kernel_rfl) rfl rfl SubR.o ?_
    rintro v Γ' ⟨rfl, rfl⟩
    (repeat (first | refine GK.ro ?_ | (refine GK.box ?_; intro bl) | (refine GK.mkMap ?_; intro bm) | (refine GK.build0 tb ?_; intro bs)))
    exact GQ.fin1 rfl (Rv.tmp rfl) (fun _ s => Sat.sub SubR.o s) ⟨rfl, H, [], le.refl _, rfl⟩
theorem owners_law {W : World} {l : List Ac} {v : Value} (h : rs (mem W) v l.length 5 (acts l)) (hk : ∀ x ∈ l, x.Ok) (n1 : l.length ≤ 140737488355328) :
    FnOk Go.Proofs.Try.prog 3 [v] [poolOf (mem W)] emp (LawR W) := ownersLaw_ok h hk n1
end Go.Pe
