/- PrI, PrJ, PrK, PrL as one text. -/
import Derived.Test.YtnealcbmgflaaaaPrX
import Derived.Test.YtnealcbmgflaaaaPeO
set_option linter.unusedSimpArgs false
set_option linter.unusedVariables false
/- The document's people and the program's: alike, and told alike. -/
namespace Go.Pe
open Go Go.Sl Go.Ls
set_option maxRecDepth 100000
/-- A fact of the document's holds of the program's people. -/
def Holds1 (P : Pp) (f : Ft) : Prop := ∃ g, getO P.orgs f.o = some g ∧
  ((f.t = [] ∧ (f.u, f.r) ∈ g.roles) ∨ (f.t ≠ [] ∧ f.u = [] ∧ f.r = 0 ∧ f.t ∈ g.teams.map (·.1)) ∨ (f.t ≠ [] ∧ f.u ≠ [] ∧ f.r = 0 ∧ ∃ m, (f.t, m) ∈ g.teams ∧ f.u ∈ m))
def keyF (f : Ft) : By × By × By := (f.o, f.t, f.u)
structure Like (P : Pp) (r : RP) : Prop where
  u : r.U = usersM P
  o : r.O = orgsM P
  nd : (r.F.map keyF).Nodup
  f : ∀ f, f ∈ r.F ↔ Holds1 P f
theorem nameM_ne {s : By} (h : Pa.nameM s = true) : s ≠ [] := fun e => by rw [e] at h; exact absurd h (by decide)
theorem user_ne {P : Pp} (h : PInv P) {n u : By} {g : Og} (hn : getO P.orgs n = some g) (hu : u ∈ g.roles.map (·.1)) : u ≠ [] := by
  obtain ⟨x, hx, rfl⟩ := List.mem_map.1 hu
  exact nameM_ne (h.uw _ ((h.o _ (getO_mem hn)).ru x hx))
theorem team_ne {P : Pp} (h : PInv P) {n t : By} {g : Og} (hn : getO P.orgs n = some g) (ht : t ∈ g.teams.map (·.1)) : t ≠ [] := by
  obtain ⟨x, hx, rfl⟩ := List.mem_map.1 ht
  exact nameM_ne ((h.o _ (getO_mem hn)).tw x hx)
theorem isF_iff {o t u : By} {f : Ft} : isF o t u f = true ↔ f.o = o ∧ f.t = t ∧ f.u = u := by unfold isF; simp [and_assoc]
theorem fact_iff {F : List Ft} {o t u : By} : 0 ≤ factM F o t u ↔ ∃ f ∈ F, f.o = o ∧ f.t = t ∧ f.u = u := by
  rcases fact_cases F o t u with ⟨e, hno⟩ | ⟨i, f, e, hf, hk⟩
  · rw [e]
    constructor
    · intro h; omega
    · rintro ⟨f, hf, hk⟩
      have := hno f hf
      rw [isF_iff.2 hk] at this
      cases this
  · rw [e]
    exact ⟨fun _ => ⟨f, List.mem_of_getElem? hf, isF_iff.1 hk⟩, fun _ => by omega⟩
theorem mem_membersR {F : List Ft} {o u : By} : u ∈ membersR F o ↔ ∃ f ∈ F, f.o = o ∧ f.t = [] ∧ f.u = u := by
  unfold membersR
  rw [mem_rises, List.mem_map]
  constructor
  · rintro ⟨f, hf, rfl⟩
    obtain ⟨h1, h2⟩ := List.mem_filter.1 hf
    unfold memF at h2
    simp at h2
    exact ⟨f, h1, h2.1, h2.2, rfl⟩
  · rintro ⟨f, hf, h1, h2, rfl⟩
    exact ⟨f, List.mem_filter.2 ⟨hf, by unfold memF; simp [h1, h2]⟩, rfl⟩
theorem mem_teamsR {F : List Ft} {o t : By} : t ∈ teamsR F o ↔ ∃ f ∈ F, f.o = o ∧ f.t = t ∧ t ≠ [] ∧ f.u = [] := by
  unfold teamsR
  rw [mem_rises, List.mem_map]
  constructor
  · rintro ⟨f, hf, rfl⟩
    obtain ⟨h1, h2⟩ := List.mem_filter.1 hf
    unfold teamF at h2
    simp at h2
    exact ⟨f, h1, h2.1.1, rfl, h2.1.2, h2.2⟩
  · rintro ⟨f, hf, h1, rfl, h2, h3⟩
    exact ⟨f, List.mem_filter.2 ⟨hf, by unfold teamF; simp [h1, h2, h3]⟩, rfl⟩
theorem rise_rises (l : List By) : Rise (rises l) := (par_rises l).1
theorem rise_sortS {l : List By} (h : l.Nodup) : Rise (sortS l) := by rw [sortS_rises h]; exact rise_rises l
theorem Like.holds {P : Pp} {r : RP} (h : Like P r) {f : Ft} (hf : f ∈ r.F) : Holds1 P f := (h.f f).1 hf
theorem Like.members {P : Pp} {r : RP} (h : Like P r) (hi : PInv P) (o : By) : membersR r.F o = membersM P o := by
  refine rise_ext (rise_rises _) ?_ fun u => ?_
  · unfold membersM
    cases hn : getO P.orgs o with
    | none => exact List.Pairwise.nil
    | some g => exact rise_sortS (hi.o _ (getO_mem hn)).rn
  · rw [mem_membersR]
    unfold membersM
    constructor
    · rintro ⟨f, hf, rfl, h2, rfl⟩
      obtain ⟨g, hg, h3 | h3 | h3⟩ := h.holds hf
      · rw [hg]; exact (mem_sortS _ _).2 (List.mem_map.2 ⟨_, h3.2, rfl⟩)
      · exact absurd h2 h3.1
      · exact absurd h2 h3.1
    · intro hu
      cases hn : getO P.orgs o with
      | none => rw [hn] at hu; cases hu
      | some g =>
        rw [hn] at hu
        obtain ⟨x, hx, rfl⟩ := List.mem_map.1 ((mem_sortS _ _).1 hu)
        exact ⟨⟨o, [], x.1, x.2⟩, (h.f _).2 ⟨g, hn, .inl ⟨rfl, hx⟩⟩, rfl, rfl, rfl⟩
theorem Like.teams {P : Pp} {r : RP} (h : Like P r) (hi : PInv P) (o : By) : teamsR r.F o = teamsM P o := by
  refine rise_ext (rise_rises _) ?_ fun t => ?_
  · unfold teamsM
    cases hn : getO P.orgs o with
    | none => exact List.Pairwise.nil
    | some g => exact rise_sortS (hi.o _ (getO_mem hn)).tn
  · rw [mem_teamsR]
    unfold teamsM
    constructor
    · rintro ⟨f, hf, rfl, rfl, h2, h4⟩
      obtain ⟨g, hg, h3 | h3 | h3⟩ := h.holds hf
      · exact absurd h3.1 h2
      · rw [hg]; exact (mem_sortS _ _).2 h3.2.2.2
      · exact absurd h4 h3.2.1
    · intro ht
      cases hn : getO P.orgs o with
      | none => rw [hn] at ht; cases ht
      | some g =>
        rw [hn] at ht
        have ht2 := (mem_sortS _ _).1 ht
        have hne := team_ne hi hn ht2
        exact ⟨⟨o, t, [], 0⟩, (h.f _).2 ⟨g, hn, .inr (.inl ⟨hne, rfl, rfl, ht2⟩)⟩, rfl, rfl, hne, rfl⟩
theorem Like.role {P : Pp} {r : RP} (h : Like P r) (hi : PInv P) (o u : By) : roleR r.F o u = subRole P o u := by
  unfold roleR
  have zero : (∀ g, getO P.orgs o = some g → u ∉ g.roles.map (·.1)) → subRole P o u = 0 := fun hz => by
    unfold subRole
    cases hn : getO P.orgs o with
    | none => rfl
    | some g => exact vget_none (hz g hn)
  by_cases hu : u = []
  · rw [if_pos hu]
    exact (zero fun g hg hm => user_ne hi hg hm hu).symm
  rw [if_neg hu]
  rcases fact_cases r.F o [] u with ⟨e, hno⟩ | ⟨i, f, e, hf, hk⟩
  · rw [e, show roleAt r.F (-1) = 0 from by unfold roleAt; exact if_pos (by omega)]
    refine (zero fun g hg hm => ?_).symm
    obtain ⟨x, hx, rfl⟩ := List.mem_map.1 hm
    have := hno _ ((h.f ⟨o, [], x.1, x.2⟩).2 ⟨g, hg, .inl ⟨rfl, hx⟩⟩)
    have t2 : isF o [] x.1 ⟨o, [], x.1, x.2⟩ = true := isF_iff.2 ⟨rfl, rfl, rfl⟩
    rw [this] at t2
    cases t2
  · obtain ⟨rfl, h2, rfl⟩ := isF_iff.1 hk
    have hra : roleAt r.F (i : Int) = f.r := by unfold roleAt; rw [if_neg (by omega), Int.toNat_natCast, hf]
    rw [e, hra]
    obtain ⟨g, hg, h3 | h3 | h3⟩ := h.holds (List.mem_of_getElem? hf)
    · unfold subRole
      rw [hg]
      have ho := hi.o _ (getO_mem hg)
      have hv := ho.rv _ h3.2
      dsimp only at hv
      exact ((vget_mem ho.rn (by omega)).2 h3.2).symm
    · exact absurd h2 h3.1
    · exact absurd h2 h3.1
theorem mem_inP {u t : By} {ts : List (By × List By)} : t ∈ inP u ts ↔ ∃ m, (t, m) ∈ ts ∧ u ∈ m := by
  unfold inP
  rw [List.mem_map]
  constructor
  · rintro ⟨x, hx, rfl⟩
    obtain ⟨h1, h2⟩ := List.mem_filter.1 hx
    exact ⟨x.2, h1, of_decide_eq_true h2⟩
  · rintro ⟨m, h1, h2⟩
    exact ⟨(t, m), List.mem_filter.2 ⟨h1, decide_eq_true h2⟩, rfl⟩
theorem inP_nodup {u : By} {ts : List (By × List By)} (h : (ts.map (·.1)).Nodup) : (inP u ts).Nodup := by
  unfold inP
  exact (List.filter_sublist.map _).nodup h
theorem Like.inTeam {P : Pp} {r : RP} (h : Like P r) (hi : PInv P) {o t u : By} (ht : t ≠ []) (hu : u ≠ []) : 0 ≤ factM r.F o t u ↔ ∃ g, getO P.orgs o = some g ∧ t ∈ inP u g.teams := by
  rw [fact_iff]
  constructor
  · rintro ⟨f, hf, rfl, rfl, rfl⟩
    obtain ⟨g, hg, h3 | h3 | h3⟩ := h.holds hf
    · exact absurd h3.1 ht
    · exact absurd h3.2.1 hu
    · exact ⟨g, hg, mem_inP.2 h3.2.2.2⟩
  · rintro ⟨g, hg, hm⟩
    exact ⟨⟨o, t, u, 0⟩, (h.f _).2 ⟨g, hg, .inr (.inr ⟨ht, hu, rfl, mem_inP.1 hm⟩)⟩, rfl, rfl, rfl⟩
theorem Like.subs {P : Pp} {r : RP} (h : Like P r) (hi : PInv P) (o u : By) : inR r.F o u = subTeams P o u := by
  refine rise_ext ?_ ?_ fun t => ?_
  · unfold inR teamsR
    exact (rise_rises _).filter _
  · unfold subTeams
    cases hn : getO P.orgs o with
    | none => exact List.Pairwise.nil
    | some g => exact rise_sortS (inP_nodup (hi.o _ (getO_mem hn)).tn)
  · unfold inR
    rw [List.mem_filter, h.teams hi]
    unfold teamsM subTeams inF
    cases hn : getO P.orgs o with
    | none => simp
    | some g =>
      dsimp only
      rw [mem_sortS, mem_sortS]
      constructor
      · rintro ⟨h1, h2⟩
        simp at h2
        obtain ⟨g2, hg2, h4⟩ := (h.inTeam hi (team_ne hi hn h1) h2.1).1 h2.2
        rw [hn] at hg2
        cases hg2
        exact h4
      · intro h1
        obtain ⟨m, h2, h3⟩ := mem_inP.1 h1
        have hu : u ≠ [] := user_ne hi hn ((hi.o _ (getO_mem hn)).tm _ h2 u h3)
        have hm : t ∈ g.teams.map (·.1) := List.mem_map.2 ⟨_, h2, rfl⟩
        refine ⟨hm, ?_⟩
        have := (h.inTeam (u := u) hi (team_ne hi hn hm) hu).2 ⟨g, hn, h1⟩
        simp [hu, this]
theorem Like.nil : Like ⟨[], []⟩ ⟨[], [], []⟩ := ⟨by unfold usersM sortS; simp, by unfold orgsM sortS; simp, by simp, fun f => by
  unfold Holds1
  constructor
  · intro h; cases h
  · rintro ⟨g, hg, _⟩; cases hg⟩
end Go.Pe
/- The document's people and the program's: the same answer to each act (first half). -/
namespace Go.Pe
open Go Go.Sl Go.Ls
set_option maxRecDepth 100000
def HoldsG (g : Og) (f : Ft) : Prop := (f.t = [] ∧ (f.u, f.r) ∈ g.roles) ∨ (f.t ≠ [] ∧ f.u = [] ∧ f.r = 0 ∧ f.t ∈ g.teams.map (·.1)) ∨ (f.t ≠ [] ∧ f.u ≠ [] ∧ f.r = 0 ∧ ∃ m, (f.t, m) ∈ g.teams ∧ f.u ∈ m)
theorem holds_iff {P : Pp} {f : Ft} : Holds1 P f ↔ ∃ g, getO P.orgs f.o = some g ∧ HoldsG g f := Iff.rfl
theorem Like.at {P : Pp} {r : RP} (h : Like P r) {f : Ft} {g : Og} (hg : getO P.orgs f.o = some g) : f ∈ r.F ↔ HoldsG g f := by
  rw [h.f f, holds_iff, hg]
  exact ⟨fun ⟨g2, h2, h3⟩ => by cases h2; exact h3, fun h3 => ⟨g, rfl, h3⟩⟩
theorem getO_none {L : List (By × Og)} {n : By} : getO L n = none ↔ n ∉ L.map (·.1) := by
  induction L with
  | nil => simp [getO]
  | cons x l ih =>
    obtain ⟨k, o⟩ := x
    unfold getO
    by_cases h : n = k
    · simp [h]
    · rw [if_neg h, ih]; simp [h]
theorem getO_snoc {L : List (By × Og)} {n m : By} {g : Og} : getO (L ++ [(n, g)]) m = match getO L m with
    | some o => some o
    | none => if m = n then some g else none := by
  induction L with
  | nil => rfl
  | cons x l ih =>
    obtain ⟨k, o⟩ := x
    show getO ((k, o) :: (l ++ [(n, g)])) m = _
    unfold getO
    by_cases h : m = k
    · simp [h]
    · rw [if_neg h, if_neg h, ih]
/-- One organisation changes. -/
theorem Like.upd {P : Pp} {r : RP} {o : By} {g g' : Og} {F' : List Ft} (h : Like P r) (hg : getO P.orgs o = some g) (hn : (F'.map keyF).Nodup) (hf : ∀ f, f ∈ F' ↔ (f.o ≠ o ∧ f ∈ r.F) ∨ (f.o = o ∧ HoldsG g' f)) :
    Like ⟨P.users, updO P.orgs o g'⟩ ⟨r.U, r.O, F'⟩ := by
  refine ⟨h.u, ?_, hn, fun f => ?_⟩
  · rw [show r.O = orgsM P from h.o]
    unfold orgsM
    dsimp only
    rw [upd_keys]
  · rw [hf f, holds_iff]
    dsimp only
    rw [getO_upd]
    by_cases ho : f.o = o
    · rw [if_pos ho, hg]
      simp [ho]
    · rw [if_neg ho]
      simp only [ho, ne_eq, not_false_eq_true, true_and, false_and, or_false]
      exact h.f f
theorem key_nodup {F : List Ft} (h : (F.map keyF).Nodup) {f g : Ft} (hf : f ∈ F) (hg : g ∈ F) (hk : keyF f = keyF g) : f = g := by
  induction F with
  | nil => cases hf
  | cons x l ih =>
    rw [List.map_cons, List.nodup_cons] at h
    rcases List.mem_cons.1 hf with e1 | h1 <;> rcases List.mem_cons.1 hg with e2 | h2
    · rw [e1, e2]
    · exact absurd (List.mem_map.2 ⟨g, h2, by rw [← hk, e1]⟩) h.1
    · exact absurd (List.mem_map.2 ⟨f, h1, by rw [hk, e2]⟩) h.1
    · exact ih h.2 h1 h2
theorem erase_mem {F : List Ft} (h : (F.map keyF).Nodup) {i : Nat} {f0 : Ft} (hi : F[i]? = some f0) (f : Ft) : f ∈ F.eraseIdx i ↔ f ∈ F ∧ keyF f ≠ keyF f0 := by
  have hp := perm_erase hi
  have hn := (hp.map keyF).nodup_iff.1 h
  rw [List.map_cons, List.nodup_cons] at hn
  rw [hp.mem_iff, List.mem_cons]
  constructor
  · intro hf
    exact ⟨.inr hf, fun hk => hn.1 (List.mem_map.2 ⟨f, hf, hk⟩)⟩
  · rintro ⟨rfl | hf, hk⟩
    · exact absurd rfl hk
    · exact hf
def dropK (F : List Ft) (o t u : By) : List Ft := if 0 ≤ factM F o t u then F.eraseIdx (factM F o t u).toNat else F
theorem keyF_eq {f : Ft} {o t u : By} : keyF f = (o, t, u) ↔ f.o = o ∧ f.t = t ∧ f.u = u := by unfold keyF; simp [Prod.ext_iff]
theorem dropK_mem {F : List Ft} (h : (F.map keyF).Nodup) (o t u : By) (f : Ft) : f ∈ dropK F o t u ↔ f ∈ F ∧ ¬ (f.o = o ∧ f.t = t ∧ f.u = u) := by
  unfold dropK
  rcases fact_cases F o t u with ⟨e, hno⟩ | ⟨i, g, e, hg, hk⟩
  · rw [e, if_neg (by omega)]
    refine ⟨fun hf => ⟨hf, fun hx => ?_⟩, fun hf => hf.1⟩
    have := hno f hf
    rw [isF_iff.2 hx] at this
    cases this
  · rw [e, if_pos (by omega), Int.toNat_natCast, erase_mem h hg, show keyF g = (o, t, u) from keyF_eq.2 (isF_iff.1 hk), ne_eq, keyF_eq]
theorem dropK_nodup {F : List Ft} (h : (F.map keyF).Nodup) (o t u : By) : ((dropK F o t u).map keyF).Nodup := by
  unfold dropK
  split
  · exact ((List.eraseIdx_sublist _ _).map keyF).nodup h
  · exact h
theorem snoc_nodup {F : List Ft} (h : (F.map keyF).Nodup) {f0 : Ft} (hno : ∀ f ∈ F, ¬ (f.o = f0.o ∧ f.t = f0.t ∧ f.u = f0.u)) : ((F ++ [f0]).map keyF).Nodup := by
  rw [List.map_append, List.nodup_append]
  refine ⟨h, by simp, ?_⟩
  intro a ha b hb hab
  obtain ⟨f, hf, rfl⟩ := List.mem_map.1 ha
  simp at hb
  subst hb
  exact hno f hf (keyF_eq.1 hab)
theorem Like.addUser {P : Pp} {r : RP} {u : By} (h : Like P r) (hi : PInv P) : (raddUserM r u).1 = (addUserM P u).1 ∧ Like (addUserM P u).2 (raddUserM r u).2 := by
  have hm : u ∈ r.U ↔ u ∈ P.users := by rw [h.u]; exact mem_sortS _ _
  have hl : r.U.length = P.users.length := by rw [h.u]; exact sortS_len _
  unfold raddUserM addUserM freshM
  cases hn : Pa.nameM u with
  | false => exact ⟨by simp, by simpa using h⟩
  | true =>
    by_cases h1 : u ∈ P.users
    · exact ⟨by simp [hm, h1], by simpa [hm, h1] using h⟩
    · by_cases h2 : 64 ≤ P.users.length
      · have h3 : (64 : Int) ≤ (P.users.length : Int) := by omega
        exact ⟨by simp [hm, h1, hl, h2, h3], by simpa [hm, h1, hl, h2, h3] using h⟩
      · have h3 : ¬ (64 : Int) ≤ (P.users.length : Int) := by omega
        refine ⟨by simp [hm, h1, hl, h2]; omega, ?_⟩
        simp only [hm, h1, hl, h2, h3, decide_false, if_false, if_true, Bool.true_eq_false, Bool.false_eq_true]
        refine ⟨?_, h.o, h.nd, h.f⟩
        show withM r.U u = sortS (addU P.users u)
        have hr : Rise r.U := by rw [h.u]; exact rise_sortS hi.un
        refine rise_ext (rise_withM _ hr) (rise_sortS (addU_nodup hi.un)) fun x => ?_
        rw [mem_withM, mem_sortS, mem_addU, h.u]
        show _ ∨ x ∈ sortS P.users ↔ _
        rw [mem_sortS]
theorem Like.addOrg {P : Pp} {r : RP} {n w : By} (h : Like P r) (hi : PInv P) : (raddOrgM r n w).1 = (addOrgM P n w).1 ∧ Like (addOrgM P n w).2 (raddOrgM r n w).2 := by
  have hm : w ∈ r.U ↔ w ∈ P.users := by rw [h.u]; exact mem_sortS _ _
  have ho : n ∈ r.O ↔ n ∈ P.orgs.map (·.1) := by rw [h.o]; exact mem_sortS _ _
  have hl : r.O.length = P.orgs.length := by rw [h.o]; unfold orgsM; rw [sortS_len, List.length_map]
  unfold addOrgM orgErr raddOrgM
  generalize hfr : freshM n (decide (n ∈ P.orgs.map (·.1))) P.orgs.length 8 = e
  unfold freshM at hfr
  cases hn : Pa.nameM n with
  | false =>
    rw [if_pos hn] at hfr
    subst hfr
    exact ⟨by simp, by simpa using h⟩
  | true =>
    rw [if_neg (by rw [hn]; decide)] at hfr
    by_cases h1 : n ∈ P.orgs.map (·.1)
    · rw [if_pos (decide_eq_true h1)] at hfr
      subst hfr
      rw [if_neg (by decide), if_pos (ho.2 h1)]
      exact ⟨by simp, by simpa using h⟩
    · rw [if_neg (by rw [decide_eq_false h1]; decide)] at hfr
      rw [if_neg (by decide), if_neg (fun e => h1 (ho.1 e))]
      by_cases h3 : w ∈ P.users
      · rw [if_neg (fun e => e (hm.2 h3)), hl]
        by_cases h2 : 8 ≤ P.orgs.length
        · rw [if_pos (by omega)] at hfr
          subst hfr
          rw [if_pos h2]
          exact ⟨by simp [h3], by simpa [h3] using h⟩
        · rw [if_neg (by omega)] at hfr
          subst hfr
          rw [if_neg h2]
          refine ⟨by simp [h3], ?_⟩
          rw [if_neg (c := ((0 : Int) = 0 ∨ (0 : Int) = 3) ∧ w ∉ P.users) (fun e => e.2 h3), if_pos rfl]
          have hgn : getO P.orgs n = none := getO_none.2 h1
          have hno : ∀ f ∈ r.F, f.o ≠ n := fun f hf e => by
            obtain ⟨g, hg, _⟩ := h.holds hf
            rw [e, hgn] at hg
            cases hg
          refine ⟨h.u, ?_, snoc_nodup h.nd (fun f hf (hx : f.o = n ∧ f.t = [] ∧ f.u = w) => hno f hf hx.1), fun f => ?_⟩
          · show withM r.O n = sortS ((P.orgs ++ [(n, (⟨[], [(w, 2)]⟩ : Og))]).map (·.1))
            have hr : Rise r.O := by rw [h.o]; exact rise_sortS hi.on
            refine rise_ext (rise_withM _ hr) (rise_sortS ?_) fun x => ?_
            · rw [List.map_append, List.nodup_append]
              refine ⟨hi.on, by simp, ?_⟩
              intro a ha b hb hab
              simp at hb
              subst hb
              exact h1 (hab ▸ ha)
            · rw [mem_withM, mem_sortS, h.o, List.map_append, List.mem_append]
              show _ ∨ x ∈ sortS (P.orgs.map (·.1)) ↔ _
              rw [mem_sortS]
              simp [or_comm]
          · rw [holds_iff]
            dsimp only
            rw [getO_snoc, List.mem_append, h.f f, holds_iff]
            cases hg : getO P.orgs f.o with
            | some g =>
              have : f.o ≠ n := fun e => by rw [e, hgn] at hg; cases hg
              simp
              intro e
              exact absurd (by rw [e]) this
            | none =>
              by_cases e : f.o = n
              · simp [e, HoldsG]
                obtain ⟨fo, ft, fu, fr⟩ := f
                simp at e
                subst e
                simp [and_comm, and_assoc]
              · simp [e]
                intro e2
                exact e (by rw [e2])
      · rw [if_pos (fun e => h3 (hm.1 e))]
        by_cases h2 : 8 ≤ P.orgs.length
        · rw [if_pos (by omega)] at hfr
          subst hfr
          exact ⟨by simp [h3], by simpa [h3] using h⟩
        · rw [if_neg (by omega)] at hfr
          subst hfr
          exact ⟨by simp [h3], by simpa [h3] using h⟩
end Go.Pe
/- The document's people and the program's: joining and leaving alike. -/
namespace Go.Pe
open Go Go.Sl Go.Ls
set_option maxRecDepth 100000
theorem mem_vset {vs : List (By × Int)} {u : By} {w : Int} (hn : (vs.map (·.1)).Nodup) (x : By × Int) : x ∈ vset vs u w ↔ x = (u, w) ∨ (x ∈ vs ∧ x.1 ≠ u) := by
  induction vs with
  | nil => simp [vset]
  | cons y l ih =>
    obtain ⟨k, v⟩ := y
    rw [List.map_cons, List.nodup_cons] at hn
    unfold vset
    by_cases h : u = k
    · subst h
      rw [if_pos rfl, List.mem_cons, List.mem_cons]
      constructor
      · rintro (hx | hx)
        · exact .inl hx
        · exact .inr ⟨.inr hx, fun e => hn.1 (e ▸ List.mem_map.2 ⟨x, hx, rfl⟩)⟩
      · rintro (hx | ⟨rfl | hx, hne⟩)
        · exact .inl hx
        · exact absurd rfl hne
        · exact .inr hx
    · rw [if_neg h, List.mem_cons, List.mem_cons, ih hn.2]
      constructor
      · rintro (rfl | hx | hx)
        · exact .inr ⟨.inl rfl, fun e => h e.symm⟩
        · exact .inl hx
        · exact .inr ⟨.inr hx.1, hx.2⟩
      · rintro (hx | ⟨hx | hx, hne⟩)
        · exact .inr (.inl hx)
        · exact .inl hx
        · exact .inr (.inr ⟨hx, hne⟩)
theorem mem_vdel {vs : List (By × Int)} {u : By} (hn : (vs.map (·.1)).Nodup) (x : By × Int) : x ∈ vdel vs u ↔ x ∈ vs ∧ x.1 ≠ u := by
  induction vs with
  | nil => simp [vdel]
  | cons y l ih =>
    obtain ⟨k, v⟩ := y
    rw [List.map_cons, List.nodup_cons] at hn
    unfold vdel
    by_cases h : u = k
    · subst h
      rw [if_pos rfl, List.mem_cons]
      constructor
      · intro hx
        exact ⟨.inr hx, fun e => hn.1 (e ▸ List.mem_map.2 ⟨x, hx, rfl⟩)⟩
      · rintro ⟨rfl | hx, hne⟩
        · exact absurd rfl hne
        · exact hx
    · rw [if_neg h, List.mem_cons, List.mem_cons, ih hn.2]
      constructor
      · rintro (rfl | hx)
        · exact ⟨.inl rfl, fun e => h e.symm⟩
        · exact ⟨.inr hx.1, hx.2⟩
      · rintro ⟨hx | hx, hne⟩
        · exact .inl hx
        · exact .inr ⟨hx, hne⟩
theorem holdsG_mem {g : Og} {o u : By} {w : Int} : HoldsG g ⟨o, [], u, w⟩ ↔ (u, w) ∈ g.roles := by unfold HoldsG; simp
theorem holdsG_team {g : Og} {o t u : By} {w : Int} (ht : t ≠ []) : HoldsG g ⟨o, t, u, w⟩ ↔ w = 0 ∧ ((u = [] ∧ t ∈ g.teams.map (·.1)) ∨ (u ≠ [] ∧ t ∈ inP u g.teams)) := by
  rw [mem_inP]
  unfold HoldsG
  dsimp only
  constructor
  · rintro (h | h | h)
    · exact absurd h.1 ht
    · exact ⟨h.2.2.1, .inl ⟨h.2.1, h.2.2.2⟩⟩
    · exact ⟨h.2.2.1, .inr ⟨h.2.1, h.2.2.2⟩⟩
  · rintro ⟨h0, h | h⟩
    · exact .inr (.inl ⟨ht, h.1, h0, h.2⟩)
    · exact .inr (.inr ⟨ht, h.1, h0, h.2⟩)
theorem Like.owners {P : Pp} {r : RP} (h : Like P r) (hi : PInv P) {o : By} {g : Og} (hg : getO P.orgs o = some g) : ownersR r.F o = owners g.roles := by
  have ho := hi.o _ (getO_mem hg)
  dsimp only at ho
  have e1 : (fun u => decide (roleR r.F o u = 2)) = fun u => decide (vget g.roles u = 2) := by
    funext u
    rw [h.role hi]
    unfold subRole
    rw [hg]
  unfold ownersR
  rw [h.members hi, e1]
  unfold membersM
  rw [hg]
  dsimp only
  rw [((sortS_perm _).filter _).length_eq, List.filter_map, List.length_map]
  unfold Pe.owners
  refine congrArg List.length (List.filter_congr fun x hx => ?_)
  have hv := ho.rv x hx
  have : vget g.roles x.1 = x.2 := (vget_mem ho.rn (by omega)).2 hx
  show decide (vget g.roles x.1 = 2) = _
  rw [this]
theorem Like.last {P : Pp} {r : RP} (h : Like P r) (hi : PInv P) {o u : By} {g : Og} (hg : getO P.orgs o = some g) : lastR r.F o u = lastM g.roles u := by
  unfold lastR lastM
  rw [h.role hi, h.owners hi hg, Bool.and_comm]
  unfold subRole
  rw [hg]
theorem Like.org {P : Pp} {r : RP} (h : Like P r) {o : By} : o ∈ r.O ↔ getO P.orgs o ≠ none := by
  rw [h.o, ne_eq, getO_none, Classical.not_not]
  exact mem_sortS _ _
theorem Like.join {P : Pp} {r : RP} {o u : By} {k : Int} (h : Like P r) (hi : PInv P) : (rjoinM r o u k).1 = (onO P o (joinM P.users u k)).1 ∧ Like (onO P o (joinM P.users u k)).2 (rjoinM r o u k).2 := by
  have hm : u ∈ r.U ↔ u ∈ P.users := by rw [h.u]; exact mem_sortS _ _
  unfold onO rjoinM
  cases hg : getO P.orgs o with
  | none =>
    rw [if_pos (fun e => (h.org.1 e) hg)]
    exact ⟨rfl, h⟩
  | some g =>
    have ho := hi.o _ (getO_mem hg)
    dsimp only at ho ⊢
    rw [if_neg (fun e => e (h.org.2 (by rw [hg]; simp)))]
    unfold joinM
    rw [h.last hi hg]
    by_cases hu : u ∈ P.users
    rotate_left
    · rw [if_pos (fun e => hu (hm.1 e)), if_pos hu]
      exact ⟨rfl, by rw [people_same hg]; exact h⟩
    rw [if_neg (c := u ∉ r.U) (fun e => e (hm.2 hu)), if_neg (c := u ∉ P.users) (fun e => e hu)]
    by_cases hk : k ≠ 1 ∧ k ≠ 2
    · rw [if_pos hk, if_pos hk]
      exact ⟨rfl, by rw [people_same hg]; exact h⟩
    rw [if_neg hk, if_neg hk]
    by_cases hl : lastM g.roles u = true ∧ k = 1
    · rw [if_pos hl, if_pos hl]
      exact ⟨rfl, by rw [people_same hg]; exact h⟩
    rw [if_neg hl, if_neg hl]
    refine ⟨rfl, ?_⟩
    show Like _ ⟨r.U, r.O, dropK r.F o [] u ++ [⟨o, [], u, k⟩]⟩
    refine h.upd hg (snoc_nodup (dropK_nodup h.nd _ _ _) fun f hf => ((dropK_mem h.nd _ _ _ f).1 hf).2) fun f => ?_
    rw [List.mem_append, dropK_mem h.nd, List.mem_singleton]
    obtain ⟨fo, ft, fu, fr⟩ := f
    dsimp only
    by_cases e : fo = o
    rotate_left
    · simp [e]
    subst e
    rw [h.at (f := ⟨fo, ft, fu, fr⟩) hg]
    by_cases et : ft = []
    · subst et
      rw [holdsG_mem, holdsG_mem]
      dsimp only
      rw [mem_vset ho.rn]
      simp [or_comm]
    · rw [holdsG_team et, holdsG_team et]
      simp [et]
theorem Like.leave {P : Pp} {r : RP} {o u : By} (h : Like P r) (hi : PInv P) : (rleaveM r o u).1 = (onO P o (leaveM u)).1 ∧ Like (onO P o (leaveM u)).2 (rleaveM r o u).2 := by
  unfold onO rleaveM
  rw [h.role hi]
  unfold subRole
  cases hg : getO P.orgs o with
  | none => exact ⟨rfl, h⟩
  | some g =>
    have ho := hi.o _ (getO_mem hg)
    dsimp only at ho ⊢
    unfold leaveM
    rw [h.last hi hg]
    by_cases h0 : vget g.roles u = 0
    · rw [if_pos h0, if_pos h0]
      exact ⟨rfl, by rw [people_same hg]; exact h⟩
    rw [if_neg h0, if_neg h0]
    by_cases hl : lastM g.roles u = true
    · rw [if_pos hl, if_pos hl]
      exact ⟨rfl, by rw [people_same hg]; exact h⟩
    rw [if_neg hl, if_neg hl]
    have hu : u ≠ [] := user_ne hi hg (vget_in h0)
    refine ⟨rfl, ?_⟩
    refine h.upd hg ((List.filter_sublist.map keyF).nodup h.nd) fun f => ?_
    rw [List.mem_filter]
    obtain ⟨fo, ft, fu, fr⟩ := f
    unfold stayF
    dsimp only
    by_cases e : fo = o
    rotate_left
    · simp [e]
    subst e
    rw [h.at (f := ⟨fo, ft, fu, fr⟩) hg]
    by_cases et : ft = []
    · subst et
      rw [holdsG_mem, holdsG_mem]
      dsimp only
      rw [mem_vdel ho.rn]
      simp
    · rw [holdsG_team et, holdsG_team et]
      have hnm : (g.teams.map (outP u)).map (·.1) = g.teams.map (·.1) := by rw [List.map_map]; rfl
      have hin : ft ∈ inP fu (g.teams.map (outP u)) ↔ ft ∈ inP fu g.teams ∧ fu ≠ u := by
        rw [mem_inP, mem_inP]
        constructor
        · rintro ⟨m, hx, hy⟩
          obtain ⟨x, hx2, he⟩ := List.mem_map.1 hx
          unfold outP at he
          cases he
          have := (mem_udel (ho.mn x hx2)).1 hy
          exact ⟨⟨x.2, hx2, this.1⟩, this.2⟩
        · rintro ⟨⟨m, hx, hy⟩, hz⟩
          exact ⟨udel m u, List.mem_map.2 ⟨_, hx, rfl⟩, (mem_udel (ho.mn _ hx)).2 ⟨hy, hz⟩⟩
      dsimp only
      rw [hnm, hin]
      by_cases e2 : fu = u
      · subst e2; simp [hu]
      · simp [e2]
end Go.Pe
/- The document's people and the program's: teams alike; every act alike. -/
namespace Go.Pe
open Go Go.Sl Go.Ls
set_option maxRecDepth 100000
theorem getT_iff {L : List (By × List By)} (hn : (L.map (·.1)).Nodup) {t : By} {m : List By} : getT L t = some m ↔ (t, m) ∈ L := by
  refine ⟨getT_mem, fun h => ?_⟩
  induction L with
  | nil => cases h
  | cons x l ih =>
    obtain ⟨k, m2⟩ := x
    rw [List.map_cons, List.nodup_cons] at hn
    unfold getT
    rcases List.mem_cons.1 h with e | h1
    · cases e; rw [if_pos rfl]
    · have : t ≠ k := fun e => hn.1 (List.mem_map.2 ⟨_, h1, e⟩)
      rw [if_neg this]; exact ih hn.2 h1
theorem inP_upd {L : List (By × List By)} (hn : (L.map (·.1)).Nodup) {t s u : By} {m m' : List By} (hm : getT L t = some m) : s ∈ inP u (updT L t m') ↔ (s ≠ t ∧ s ∈ inP u L) ∨ (s = t ∧ u ∈ m') := by
  have hn2 : ((updT L t m').map (·.1)).Nodup := by rw [updT_keys]; exact hn
  rw [mem_inP, mem_inP]
  constructor
  · rintro ⟨q, h1, h2⟩
    have := (getT_iff hn2).2 h1
    rw [getT_upd] at this
    by_cases e : s = t
    · rw [if_pos e, hm] at this
      cases this
      exact .inr ⟨e, h2⟩
    · rw [if_neg e] at this
      exact .inl ⟨e, q, (getT_iff hn).1 this, h2⟩
  · rintro (⟨e, q, h1, h2⟩ | ⟨rfl, h2⟩)
    · refine ⟨q, (getT_iff hn2).1 ?_, h2⟩
      rw [getT_upd, if_neg e]
      exact (getT_iff hn).2 h1
    · refine ⟨m', (getT_iff hn2).1 ?_, h2⟩
      rw [getT_upd, if_pos rfl, hm]
      rfl
theorem Like.team {P : Pp} {r : RP} {o t : By} (h : Like P r) (hi : PInv P) : (raddTeamM r o t).1 = (onO P o (addTeamM t)).1 ∧ Like (onO P o (addTeamM t)).2 (raddTeamM r o t).2 := by
  unfold onO raddTeamM
  rw [h.teams hi]
  unfold teamsM
  cases hg : getO P.orgs o with
  | none =>
    rw [if_pos (fun e => (h.org.1 e) hg)]
    exact ⟨rfl, h⟩
  | some g =>
    have ho := hi.o _ (getO_mem hg)
    dsimp only at ho ⊢
    rw [if_neg (fun e => e (h.org.2 (by rw [hg]; simp)))]
    unfold addTeamM
    generalize hfr : teamErr t g = e
    unfold teamErr freshM at hfr
    have hm : t ∈ sortS (g.teams.map (·.1)) ↔ t ∈ g.teams.map (·.1) := mem_sortS _ _
    have hl : (sortS (g.teams.map (·.1))).length = g.teams.length := by rw [sortS_len, List.length_map]
    rw [hl]
    cases hn : Pa.nameM t with
    | false =>
      rw [if_pos hn] at hfr
      subst hfr
      rw [if_pos rfl, if_neg (by decide)]
      exact ⟨rfl, by rw [people_same hg]; exact h⟩
    | true =>
      rw [if_neg (by rw [hn]; decide)] at hfr
      rw [if_neg (by decide)]
      by_cases h1 : t ∈ g.teams.map (·.1)
      · rw [if_pos (decide_eq_true h1)] at hfr
        subst hfr
        rw [if_pos (hm.2 h1), if_neg (by decide)]
        exact ⟨rfl, by rw [people_same hg]; exact h⟩
      · rw [if_neg (by rw [decide_eq_false h1]; decide)] at hfr
        rw [if_neg (fun e => h1 (hm.1 e))]
        by_cases h2 : 8 ≤ g.teams.length
        · rw [if_pos (by omega)] at hfr
          subst hfr
          rw [if_pos h2, if_neg (by decide)]
          exact ⟨rfl, by rw [people_same hg]; exact h⟩
        · rw [if_neg (by omega)] at hfr
          subst hfr
          rw [if_neg h2, if_pos rfl]
          have ht : t ≠ [] := nameM_ne hn
          refine ⟨rfl, ?_⟩
          have hno : ∀ f ∈ r.F, ¬ (f.o = o ∧ f.t = t ∧ f.u = []) := fun f hf hx => by
            have : t ∈ teamsR r.F o := mem_teamsR.2 ⟨f, hf, hx.1, hx.2.1, ht, hx.2.2⟩
            rw [h.teams hi] at this
            unfold teamsM at this
            rw [hg] at this
            exact h1 (hm.1 this)
          refine h.upd hg (snoc_nodup h.nd hno) fun f => ?_
          rw [List.mem_append, List.mem_singleton]
          obtain ⟨fo, ft, fu, fr⟩ := f
          dsimp only
          by_cases e : fo = o
          rotate_left
          · simp [e]
          subst e
          rw [h.at (f := ⟨fo, ft, fu, fr⟩) hg]
          by_cases et : ft = []
          · subst et
            rw [holdsG_mem, holdsG_mem]
            simp [Ne.symm ht]
          · rw [holdsG_team et, holdsG_team et]
            have hin : ft ∈ inP fu (g.teams ++ [(t, [])]) ↔ ft ∈ inP fu g.teams := by
              rw [mem_inP, mem_inP]
              constructor
              · rintro ⟨m, hx, hy⟩
                rcases List.mem_append.1 hx with hx | hx
                · exact ⟨m, hx, hy⟩
                · simp at hx; rw [hx.2] at hy; cases hy
              · rintro ⟨m, hx, hy⟩
                exact ⟨m, List.mem_append.2 (.inl hx), hy⟩
            dsimp only
            rw [hin, List.map_append, List.mem_append]
            constructor
            · rintro (⟨h0, ⟨h5, h6⟩ | h5⟩ | h5)
              · exact .inr ⟨rfl, h0, .inl ⟨h5, .inl h6⟩⟩
              · exact .inr ⟨rfl, h0, .inr h5⟩
              · cases h5; exact .inr ⟨rfl, rfl, .inl ⟨rfl, .inr (by simp)⟩⟩
            · rintro (⟨h5, _⟩ | ⟨_, h0, ⟨h5, h6 | h6⟩ | h5⟩)
              · exact absurd rfl h5
              · exact .inl ⟨h0, .inl ⟨h5, h6⟩⟩
              · simp at h6; right; rw [h6, h5, h0]
              · exact .inl ⟨h0, .inr h5⟩
theorem Like.put {P : Pp} {r : RP} {o t u : By} (h : Like P r) (hi : PInv P) : (rputM r o t u).1 = (onO P o (putM t u)).1 ∧ Like (onO P o (putM t u)).2 (rputM r o t u).2 := by
  unfold onO rputM
  rw [h.teams hi, h.role hi]
  unfold teamsM subRole
  cases hg : getO P.orgs o with
  | none =>
    rw [if_pos (by simp)]
    exact ⟨rfl, h⟩
  | some g =>
    have ho := hi.o _ (getO_mem hg)
    dsimp only at ho ⊢
    have hm : t ∈ sortS (g.teams.map (·.1)) ↔ t ∈ g.teams.map (·.1) := mem_sortS _ _
    unfold putM
    by_cases h1 : t ∈ g.teams.map (·.1)
    rotate_left
    · rw [if_pos (fun e => h1 (hm.1 e)), if_pos (.inl h1)]
      exact ⟨rfl, by rw [people_same hg]; exact h⟩
    rw [if_neg (c := t ∉ sortS (g.teams.map (·.1))) (fun e => e (hm.2 h1))]
    by_cases h2 : vget g.roles u = 0
    · rw [if_pos h2, if_pos (.inr h2)]
      exact ⟨rfl, by rw [people_same hg]; exact h⟩
    rw [if_neg h2, if_neg (c := t ∉ g.teams.map (·.1) ∨ vget g.roles u = 0) (fun e => e.elim (fun e => e h1) h2)]
    have ht : t ≠ [] := team_ne hi hg h1
    have hu : u ≠ [] := user_ne hi hg (vget_in h2)
    have hft : 0 ≤ factM r.F o t u ↔ t ∈ inP u g.teams := by
      rw [h.inTeam hi ht hu]
      exact ⟨fun ⟨g2, e, h5⟩ => by rw [hg] at e; cases e; exact h5, fun h5 => ⟨g, hg, h5⟩⟩
    by_cases h3 : t ∈ inP u g.teams
    · rw [if_pos (hft.2 h3), if_pos h3]
      exact ⟨rfl, by rw [people_same hg]; exact h⟩
    rw [if_neg (fun e => h3 (hft.1 e)), if_neg h3]
    refine ⟨rfl, ?_⟩
    have hno : ∀ f ∈ r.F, ¬ (f.o = o ∧ f.t = t ∧ f.u = u) := fun f hf hx => h3 (hft.1 (fact_iff.2 ⟨f, hf, hx⟩))
    obtain ⟨x, hx, hxt⟩ := List.mem_map.1 h1
    have hget : getT g.teams t = some x.2 := (getT_iff ho.tn).2 (by rw [← hxt]; exact hx)
    refine h.upd hg (snoc_nodup h.nd hno) fun f => ?_
    rw [List.mem_append, List.mem_singleton, hget]
    obtain ⟨fo, ft, fu, fr⟩ := f
    dsimp only
    by_cases e : fo = o
    rotate_left
    · simp [e]
    subst e
    rw [h.at (f := ⟨fo, ft, fu, fr⟩) hg]
    by_cases et : ft = []
    · subst et
      rw [holdsG_mem, holdsG_mem]
      simp [Ne.symm ht]
    · rw [holdsG_team et, holdsG_team et]
      dsimp only
      rw [updT_keys, inP_upd ho.tn hget, Option.getD_some, mem_addU]
      have hxm : ∀ v, ft = t → (v ∈ x.2 ↔ ft ∈ inP v g.teams) := fun v e => by
        rw [mem_inP, e]
        exact ⟨fun hv => ⟨x.2, (getT_iff ho.tn).1 hget, hv⟩, fun ⟨m, q1, q2⟩ => by
          have := (getT_iff ho.tn).2 q1
          rw [hget] at this; cases this; exact q2⟩
      constructor
      · rintro (⟨h0, ⟨h5, h6⟩ | ⟨h5, h6⟩⟩ | h5)
        · exact .inr ⟨rfl, h0, .inl ⟨h5, h6⟩⟩
        · refine .inr ⟨rfl, h0, .inr ⟨h5, ?_⟩⟩
          by_cases e : ft = t
          · exact .inr ⟨e, .inr ((hxm fu e).2 h6)⟩
          · exact .inl ⟨e, h6⟩
        · cases h5; exact .inr ⟨rfl, rfl, .inr ⟨hu, .inr ⟨rfl, .inl rfl⟩⟩⟩
      · rintro (⟨h5, _⟩ | ⟨_, h0, ⟨h5, h6⟩ | ⟨h5, ⟨h6, h7⟩ | ⟨h6, h7 | h7⟩⟩⟩)
        · exact absurd rfl h5
        · exact .inl ⟨h0, .inl ⟨h5, h6⟩⟩
        · exact .inl ⟨h0, .inr ⟨h5, h7⟩⟩
        · right; rw [h6, h7, h0]
        · exact .inl ⟨h0, .inr ⟨h5, (hxm fu h6).1 h7⟩⟩
theorem Like.out {P : Pp} {r : RP} {o t u : By} (h : Like P r) (hi : PInv P) : (routM r o t u).1 = (onO P o (outM t u)).1 ∧ Like (onO P o (outM t u)).2 (routM r o t u).2 := by
  have key : ∀ g, getO P.orgs o = some g → t ∈ inP u g.teams → t ≠ [] ∧ u ≠ [] := fun g hg hm => by
    obtain ⟨m, q1, q2⟩ := mem_inP.1 hm
    exact ⟨team_ne hi hg (List.mem_map.2 ⟨_, q1, rfl⟩), user_ne hi hg ((hi.o _ (getO_mem hg)).tm _ q1 u q2)⟩
  have miss : (∀ g, getO P.orgs o = some g → t ∉ inP u g.teams) → routM r o t u = (111, r) := fun hno => by
    unfold routM
    by_cases ht : t = []
    · rw [if_pos ht]
    rw [if_neg ht]
    by_cases hu : u = []
    · rw [if_pos hu]
    rw [if_neg hu, if_pos]
    refine Classical.byContradiction fun hc => ?_
    obtain ⟨g, hg, hm⟩ := (h.inTeam hi ht hu).1 (show 0 ≤ factM r.F o t u by omega)
    exact hno g hg hm
  unfold onO
  cases hg : getO P.orgs o with
  | none =>
    rw [miss fun g hx => by rw [hg] at hx; cases hx]
    exact ⟨rfl, h⟩
  | some g =>
    have ho := hi.o _ (getO_mem hg)
    dsimp only at ho ⊢
    unfold outM
    by_cases h3 : t ∈ inP u g.teams
    rotate_left
    · rw [miss fun g2 hx => by rw [hg] at hx; cases hx; exact h3, if_pos h3]
      exact ⟨rfl, by rw [people_same hg]; exact h⟩
    obtain ⟨ht, hu⟩ := key g hg h3
    have hf := (h.inTeam hi ht hu).2 ⟨g, hg, h3⟩
    rw [if_neg (c := t ∉ inP u g.teams) (fun e => e h3), show routM r o t u = (0, ⟨r.U, r.O, dropK r.F o t u⟩) from by
      unfold routM dropK
      rw [if_neg ht, if_neg hu, if_neg (by omega), if_pos hf]]
    refine ⟨rfl, ?_⟩
    obtain ⟨m, q1, q2⟩ := mem_inP.1 h3
    have hget : getT g.teams t = some m := (getT_iff ho.tn).2 q1
    refine h.upd hg (dropK_nodup h.nd _ _ _) fun f => ?_
    rw [dropK_mem h.nd, hget]
    obtain ⟨fo, ft, fu, fr⟩ := f
    dsimp only
    by_cases e : fo = o
    rotate_left
    · simp [e]
    subst e
    rw [h.at (f := ⟨fo, ft, fu, fr⟩) hg]
    by_cases et : ft = []
    · subst et
      rw [holdsG_mem, holdsG_mem]
      simp [Ne.symm ht]
    · rw [holdsG_team et, holdsG_team et]
      dsimp only
      rw [updT_keys, inP_upd ho.tn hget, Option.getD_some, mem_udel (ho.mn _ q1)]
      have hxm : ∀ v, ft = t → (v ∈ m ↔ ft ∈ inP v g.teams) := fun v e => by
        rw [mem_inP, e]
        exact ⟨fun hv => ⟨m, q1, hv⟩, fun ⟨m2, q3, q4⟩ => by
          have := (getT_iff ho.tn).2 q3
          rw [hget] at this; cases this; exact q4⟩
      constructor
      · rintro ⟨⟨h0, ⟨h5, h6⟩ | ⟨h5, h6⟩⟩, hne⟩
        · exact .inr ⟨rfl, h0, .inl ⟨h5, h6⟩⟩
        · refine .inr ⟨rfl, h0, .inr ⟨h5, ?_⟩⟩
          by_cases e : ft = t
          · exact .inr ⟨e, (hxm fu e).2 h6, fun e2 => hne ⟨rfl, e, e2⟩⟩
          · exact .inl ⟨e, h6⟩
      · rintro (⟨h5, _⟩ | ⟨_, h0, ⟨h5, h6⟩ | ⟨h5, ⟨h6, h7⟩ | ⟨h6, h7, h8⟩⟩⟩)
        · exact absurd rfl h5
        · exact ⟨⟨h0, .inl ⟨h5, h6⟩⟩, fun e => hu (by rw [← e.2.2]; exact h5)⟩
        · exact ⟨⟨h0, .inr ⟨h5, h7⟩⟩, fun e => h6 e.2.1⟩
        · exact ⟨⟨h0, .inr ⟨h5, (hxm fu h6).1 h7⟩⟩, fun e => h8 e.2.2⟩
theorem Like.act {P : Pp} {r : RP} {x : Ac} (h : Like P r) (hi : PInv P) : (modelM r x).1 = (doM P x).1 ∧ Like (doM P x).2 (modelM r x).2 := by
  unfold modelM doM
  split
  · exact h.addUser hi
  split
  · exact h.addOrg hi
  split
  · exact h.join hi
  split
  · exact h.leave hi
  split
  · exact h.team hi
  split
  · exact h.put hi
  · exact h.out hi
end Go.Pe
