/- People: what always holds. -/
import Derived.Test.YtnealcbmgflaaaaPeK
set_option linter.unusedSimpArgs false
set_option linter.unusedVariables false
namespace Go.Pe
open Go Go.Sl Go.Ls
set_option maxRecDepth 100000
theorem vget_mem : ∀ {vs : List (By × Int)} {u : By} {w : Int}, (vs.map (·.1)).Nodup → w ≠ 0 → (vget vs u = w ↔ (u, w) ∈ vs)
  | [], u, w, _, hw => by simp [vget]; omega
  | (k, v) :: r, u, w, hn, hw => by
    have hn' := hn
    rw [List.map_cons, List.nodup_cons] at hn'
    have ih := vget_mem (u := u) hn'.2 hw
    unfold vget
    split
    · rename_i e
      subst e
      constructor
      · rintro rfl; exact List.mem_cons_self
      · intro h
        rcases List.mem_cons.1 h with h | h
        · cases h; rfl
        · exact absurd (List.mem_map.2 ⟨_, h, rfl⟩) hn'.1
    · rename_i e
      rw [ih, List.mem_cons]
      constructor
      · exact .inr
      · rintro (h | h)
        · cases h; exact absurd rfl e
        · exact h
theorem vset_keys (vs : List (By × Int)) (u : By) (w : Int) : (vset vs u w).map (·.1) = addU (vs.map (·.1)) u := by
  induction vs with
  | nil => simp [vset, addU]
  | cons x r ih =>
    obtain ⟨k, v⟩ := x
    unfold vset
    split
    · rename_i e; subst e; simp [addU]
    · rename_i e
      rw [List.map_cons, ih, List.map_cons]
      unfold addU
      by_cases h : u ∈ r.map (·.1)
      · rw [if_pos h, if_pos (List.mem_cons_of_mem _ h)]
      · rw [if_neg h, if_neg (fun h2 => (List.mem_cons.1 h2).elim e h)]; simp
theorem vget_vset (vs : List (By × Int)) (u x : By) (w : Int) : vget (vset vs u w) x = if x = u then w else vget vs x := by
  induction vs with
  | nil => simp [vset, vget]
  | cons y r ih =>
    obtain ⟨k, v⟩ := y
    unfold vset
    split
    · rename_i e; subst e; simp only [vget]; split <;> rfl
    · rename_i e
      simp only [vget, ih]
      by_cases h : x = k
      · rw [if_pos h, if_neg (by intro h2; rw [← h2] at e; exact e h), if_pos h]
      · rw [if_neg h, if_neg h]
theorem vdel_sub (vs : List (By × Int)) (u : By) : ((vdel vs u).map (·.1)).Sublist (vs.map (·.1)) := by
  induction vs with
  | nil => simp [vdel]
  | cons y r ih =>
    obtain ⟨k, v⟩ := y
    unfold vdel
    split
    · exact List.sublist_cons_self _ _
    · exact List.Sublist.cons_cons _ ih
theorem vget_none {vs : List (By × Int)} {u : By} (h : u ∉ vs.map (·.1)) : vget vs u = 0 := by
  induction vs with
  | nil => rfl
  | cons y r ih =>
    obtain ⟨k, v⟩ := y
    rw [List.map_cons, List.mem_cons] at h
    unfold vget
    rw [if_neg (fun e => h (.inl e)), ih (fun e => h (.inr e))]
theorem vget_vdel {vs : List (By × Int)} (hn : (vs.map (·.1)).Nodup) (u x : By) : vget (vdel vs u) x = if x = u then 0 else vget vs x := by
  induction vs with
  | nil => simp [vdel, vget]
  | cons y r ih =>
    obtain ⟨k, v⟩ := y
    rw [List.map_cons, List.nodup_cons] at hn
    unfold vdel
    split
    · rename_i e; subst e
      by_cases h : x = u
      · subst h; rw [if_pos rfl, vget_none hn.1]
      · rw [if_neg h]; simp only [vget]; rw [if_neg h]
    · rename_i e
      simp only [vget, ih hn.2]
      by_cases h : x = k
      · rw [if_pos h, if_neg (by intro h2; rw [← h2] at e; exact e h), if_pos h]
      · rw [if_neg h, if_neg h]
theorem vset_len (l : List (By × Int)) (u : By) (n : Int) : (vset l u n).length ≤ l.length + 1 := by
  induction l with
  | nil => simp [vset]
  | cons x r ih => obtain ⟨k, v⟩ := x; simp only [vset]; split <;> simp <;> omega
theorem vdel_len (l : List (By × Int)) (u : By) : (vdel l u).length ≤ l.length := by
  induction l with
  | nil => simp [vdel]
  | cons x r ih => obtain ⟨k, v⟩ := x; simp only [vdel]; split <;> simp <;> omega
theorem mem_addU {l : List By} {u x : By} : x ∈ addU l u ↔ x = u ∨ x ∈ l := by
  unfold addU
  split
  · rename_i h
    constructor
    · exact .inr
    · rintro (rfl | h2)
      · exact h
      · exact h2
  · rw [List.mem_append, List.mem_singleton]; exact Or.comm
theorem addU_len (l : List By) (u : By) : (addU l u).length ≤ l.length + 1 := by
  unfold addU; split <;> simp
theorem udel_sub (l : List By) (u : By) : (udel l u).Sublist l := by
  induction l with
  | nil => exact List.Sublist.slnil
  | cons k r ih =>
    unfold udel
    split
    · exact List.sublist_cons_self _ _
    · exact List.Sublist.cons_cons _ ih
theorem mem_udel {l : List By} (hn : l.Nodup) {u x : By} : x ∈ udel l u ↔ x ∈ l ∧ x ≠ u := by
  induction l with
  | nil => simp [udel]
  | cons k r ih =>
    rw [List.nodup_cons] at hn
    unfold udel
    split
    · rename_i e
      subst e
      constructor
      · intro h; exact ⟨List.mem_cons_of_mem _ h, fun e => hn.1 (e ▸ h)⟩
      · rintro ⟨h, h2⟩
        rcases List.mem_cons.1 h with h | h
        · exact absurd h h2
        · exact h
    · rename_i e
      rw [List.mem_cons, List.mem_cons, ih hn.2]
      constructor
      · rintro (rfl | ⟨h1, h2⟩)
        · exact ⟨.inl rfl, fun h => e h.symm⟩
        · exact ⟨.inr h1, h2⟩
      · rintro ⟨rfl | h1, h2⟩
        · exact .inl rfl
        · exact .inr ⟨h1, h2⟩
theorem upd_keys (L : List (By × Og)) (n : By) (o : Og) : (updO L n o).map (·.1) = L.map (·.1) := by
  induction L with
  | nil => rfl
  | cons x r ih =>
    obtain ⟨k, p⟩ := x
    unfold updO
    split
    · rename_i e; subst e; rfl
    · rw [List.map_cons, ih, List.map_cons]
theorem mem_upd {L : List (By × Og)} {n : By} {o : Og} {x : By × Og} (h : x ∈ updO L n o) : x ∈ L ∨ x = (n, o) := by
  induction L with
  | nil => cases h
  | cons y r ih =>
    obtain ⟨k, p⟩ := y
    unfold updO at h
    split at h
    · rcases List.mem_cons.1 h with h | h
      · exact .inr h
      · exact .inl (List.mem_cons_of_mem _ h)
    · rcases List.mem_cons.1 h with h | h
      · exact .inl (h ▸ List.mem_cons_self)
      · rcases ih h with h | h
        · exact .inl (List.mem_cons_of_mem _ h)
        · exact .inr h
theorem getO_mem {L : List (By × Og)} {n : By} {o : Og} (h : getO L n = some o) : (n, o) ∈ L := by
  induction L with
  | nil => cases h
  | cons y r ih =>
    obtain ⟨k, p⟩ := y
    unfold getO at h
    split at h
    · rename_i e; subst e; cases h; exact List.mem_cons_self
    · exact List.mem_cons_of_mem _ (ih h)
theorem getO_upd (L : List (By × Og)) (n m : By) (o : Og) : getO (updO L n o) m = if m = n then (getO L n).map (fun _ => o) else getO L m := by
  induction L with
  | nil => simp [updO, getO]
  | cons y r ih =>
    obtain ⟨k, p⟩ := y
    unfold updO
    by_cases h : n = k
    · subst h
      rw [if_pos rfl]
      unfold getO
      by_cases h2 : m = n
      · subst h2; simp
      · rw [if_neg h2, if_neg h2, if_neg h2]
    · rw [if_neg h]
      unfold getO
      rw [ih]
      by_cases h2 : m = k
      · subst h2; rw [if_pos rfl, if_pos rfl, if_neg (fun e => h e.symm)]
      · rw [if_neg h2, if_neg h2]
        by_cases h3 : m = n
        · rw [if_pos h3, if_pos h3, if_neg h]
        · rw [if_neg h3, if_neg h3]
theorem getT_mem {L : List (By × List By)} {t : By} {m : List By} (h : getT L t = some m) : (t, m) ∈ L := by
  induction L with
  | nil => cases h
  | cons y r ih =>
    obtain ⟨k, p⟩ := y
    unfold getT at h
    split at h
    · rename_i e; subst e; cases h; exact List.mem_cons_self
    · exact List.mem_cons_of_mem _ (ih h)
theorem updT_keys (L : List (By × List By)) (n : By) (o : List By) : (updT L n o).map (·.1) = L.map (·.1) := by
  induction L with
  | nil => rfl
  | cons x r ih =>
    obtain ⟨k, p⟩ := x
    unfold updT
    split
    · rename_i e; subst e; rfl
    · rw [List.map_cons, ih, List.map_cons]
theorem mem_updT {L : List (By × List By)} {n : By} {o : List By} {x : By × List By} (h : x ∈ updT L n o) : x ∈ L ∨ x = (n, o) := by
  induction L with
  | nil => cases h
  | cons y r ih =>
    obtain ⟨k, p⟩ := y
    unfold updT at h
    split at h
    · rcases List.mem_cons.1 h with h | h
      · exact .inr h
      · exact .inl (List.mem_cons_of_mem _ h)
    · rcases List.mem_cons.1 h with h | h
      · exact .inl (h ▸ List.mem_cons_self)
      · rcases ih h with h | h
        · exact .inl (List.mem_cons_of_mem _ h)
        · exact .inr h
theorem getT_upd (L : List (By × List By)) (n m : By) (o : List By) : getT (updT L n o) m = if m = n then (getT L n).map (fun _ => o) else getT L m := by
  induction L with
  | nil => simp [updT, getT]
  | cons y r ih =>
    obtain ⟨k, p⟩ := y
    unfold updT
    by_cases h : n = k
    · subst h
      rw [if_pos rfl]
      unfold getT
      by_cases h2 : m = n
      · subst h2; simp
      · rw [if_neg h2, if_neg h2, if_neg h2]
    · rw [if_neg h]
      unfold getT
      rw [ih]
      by_cases h2 : m = k
      · subst h2; rw [if_pos rfl, if_pos rfl, if_neg (fun e => h e.symm)]
      · rw [if_neg h2, if_neg h2]
        by_cases h3 : m = n
        · rw [if_pos h3, if_pos h3, if_neg h]
        · rw [if_neg h3, if_neg h3]
/-- Of an organisation. -/
structure OInv (us : List By) (o : Og) : Prop where
  tn : (o.teams.map (·.1)).Nodup
  rn : (o.roles.map (·.1)).Nodup
  rv : ∀ x ∈ o.roles, x.2 = 1 ∨ x.2 = 2
  ru : ∀ x ∈ o.roles, x.1 ∈ us
  tm : ∀ x ∈ o.teams, ∀ u ∈ x.2, u ∈ o.roles.map (·.1)
  mn : ∀ x ∈ o.teams, x.2.Nodup
  ow : ∃ x ∈ o.roles, x.2 = 2
  tw : ∀ x ∈ o.teams, Pa.nameM x.1 = true
structure PInv (P : Pp) : Prop where
  un : P.users.Nodup
  uw : ∀ u ∈ P.users, Pa.nameM u = true
  on : (P.orgs.map (·.1)).Nodup
  ow : ∀ x ∈ P.orgs, Pa.nameM x.1 = true
  o : ∀ x ∈ P.orgs, OInv P.users x.2
theorem PInv.nil : PInv ⟨[], []⟩ := ⟨List.nodup_nil, by simp, List.nodup_nil, by simp, by simp⟩
theorem nodup_of_keys {α β : Type} {l : List (α × β)} (hn : (l.map (·.1)).Nodup) : l.Nodup := List.Pairwise.of_map (S := (· ≠ ·)) (·.1) (fun a b h e => h (by rw [e])) hn
theorem other_owner {vs : List (By × Int)} (hn : (vs.map (·.1)).Nodup) {u : By} (ho : ∃ x ∈ vs, x.2 = 2) (hl : lastM vs u = false) : ∃ x ∈ vs, x.2 = 2 ∧ x.1 ≠ u := by
  refine Classical.byContradiction fun hno => ?_
  have hall : ∀ x ∈ vs, x.2 = 2 → x.1 = u := fun x hx h2 => Classical.byContradiction fun h => hno ⟨x, hx, h2, h⟩
  obtain ⟨x, hx, h2⟩ := ho
  have hxu := hall x hx h2
  have hm : (u, (2 : Int)) ∈ vs := by
    have : x = (u, 2) := Prod.ext hxu h2
    rw [← this]; exact hx
  have hg : vget vs u = 2 := (vget_mem hn (by decide)).2 hm
  have h1 : owners vs = 1 := by
    unfold owners
    have hp : (vs.filter fun x => decide (x.2 = 2)).Nodup := (nodup_of_keys hn).filter _
    have hs : ∀ y ∈ vs.filter (fun x => decide (x.2 = 2)), y = (u, 2) := fun y hy => by
      obtain ⟨q1, q2⟩ := List.mem_filter.1 hy
      have q3 : y.2 = 2 := of_decide_eq_true q2
      exact Prod.ext (hall y q1 q3) q3
    have hin : (u, (2 : Int)) ∈ vs.filter (fun x => decide (x.2 = 2)) := List.mem_filter.2 ⟨hm, decide_eq_true rfl⟩
    generalize vs.filter (fun x => decide (x.2 = 2)) = L at hp hs hin
    match L, hp, hs, hin with
    | [a], _, _, _ => rfl
    | a :: c :: r, hp, hs, _ =>
      rw [List.nodup_cons] at hp
      exact absurd (by rw [hs a (by simp), hs c (by simp)]; simp) hp.1
  unfold lastM at hl
  rw [h1, hg] at hl
  simp at hl
theorem vset_mem {vs : List (By × Int)} {u : By} {r : Int} {x : By × Int} (h : x ∈ vset vs u r) : x = (u, r) ∨ x ∈ vs := by
  induction vs with
  | nil => simpa [vset] using h
  | cons y l ih =>
    obtain ⟨k, v⟩ := y
    unfold vset at h
    split at h
    · rcases List.mem_cons.1 h with h | h
      · exact .inl h
      · exact .inr (List.mem_cons_of_mem _ h)
    · rcases List.mem_cons.1 h with h | h
      · exact .inr (h ▸ List.mem_cons_self)
      · rcases ih h with h | h
        · exact .inl h
        · exact .inr (List.mem_cons_of_mem _ h)
theorem vset_keep {vs : List (By × Int)} {u : By} {r : Int} {x : By × Int} (h : x ∈ vs) (hx : x.1 ≠ u) : x ∈ vset vs u r := by
  induction vs with
  | nil => cases h
  | cons y l ih =>
    obtain ⟨k, v⟩ := y
    unfold vset
    split
    · rename_i e
      rcases List.mem_cons.1 h with h | h
      · subst h; exact absurd e.symm hx
      · exact List.mem_cons_of_mem _ h
    · rcases List.mem_cons.1 h with h | h
      · exact h ▸ List.mem_cons_self
      · exact List.mem_cons_of_mem _ (ih h)
theorem vset_new {vs : List (By × Int)} {u : By} {r : Int} : (u, r) ∈ vset vs u r := by
  induction vs with
  | nil => simp [vset]
  | cons y l ih =>
    obtain ⟨k, v⟩ := y
    unfold vset
    split
    · exact List.mem_cons_self
    · exact List.mem_cons_of_mem _ ih
theorem vdel_mem {vs : List (By × Int)} {u : By} {x : By × Int} (h : x ∈ vdel vs u) : x ∈ vs := by
  induction vs with
  | nil => cases h
  | cons y l ih =>
    obtain ⟨k, v⟩ := y
    unfold vdel at h
    split at h
    · exact List.mem_cons_of_mem _ h
    · rcases List.mem_cons.1 h with h | h
      · exact h ▸ List.mem_cons_self
      · exact List.mem_cons_of_mem _ (ih h)
theorem vdel_keep {vs : List (By × Int)} {u : By} {x : By × Int} (h : x ∈ vs) (hx : x.1 ≠ u) : x ∈ vdel vs u := by
  induction vs with
  | nil => cases h
  | cons y l ih =>
    obtain ⟨k, v⟩ := y
    unfold vdel
    split
    · rename_i e
      rcases List.mem_cons.1 h with h | h
      · subst h; exact absurd e.symm hx
      · exact h
    · rcases List.mem_cons.1 h with h | h
      · exact h ▸ List.mem_cons_self
      · exact List.mem_cons_of_mem _ (ih h)
theorem OInv.users {us us' : List By} {o : Og} (h : OInv us o) (hu : ∀ u ∈ us, u ∈ us') : OInv us' o := ⟨h.tn, h.rn, h.rv, fun x hx => hu _ (h.ru x hx), h.tm, h.mn, h.ow, h.tw⟩
theorem OInv.join {us : List By} {o : Og} {u : By} {r : Int} (h : OInv us o) : OInv us (joinM us u r o).2 := by
  unfold joinM
  split
  · exact h
  rename_i h1
  split
  · exact h
  rename_i h2
  split
  · exact h
  rename_i h3
  have hk := vset_keys o.roles u r
  refine ⟨h.tn, ?_, fun x hx => ?_, fun x hx => ?_, fun x hx v hv => ?_, h.mn, ?_, h.tw⟩
  · show ((vset o.roles u r).map (·.1)).Nodup
    rw [hk]; exact addU_nodup h.rn
  · rcases vset_mem hx with rfl | hx
    · show r = 1 ∨ r = 2; omega
    · exact h.rv x hx
  · rcases vset_mem hx with rfl | hx
    · exact Classical.byContradiction fun hc => h1 hc
    · exact h.ru x hx
  · show v ∈ (vset o.roles u r).map (·.1)
    rw [hk]; exact mem_addU.2 (.inr (h.tm x hx v hv))
  · by_cases hr : r = 2
    · exact ⟨(u, r), vset_new, hr⟩
    · have hr1 : r = 1 := by omega
      have hl : lastM o.roles u = false := by
        cases hc : lastM o.roles u with
        | false => rfl
        | true => exact absurd ⟨hc, hr1⟩ h3
      obtain ⟨x, hx, q1, q2⟩ := other_owner h.rn h.ow hl
      exact ⟨x, vset_keep hx q2, q1⟩
theorem OInv.leave {us : List By} {o : Og} {u : By} (h : OInv us o) : OInv us (leaveM u o).2 := by
  unfold leaveM
  split
  · exact h
  rename_i h1
  split
  · exact h
  rename_i h2
  have hmem : ∀ x ∈ o.teams.map (outP u), ∃ y ∈ o.teams, x = outP u y := fun x hx => by
    obtain ⟨y, hy, rfl⟩ := List.mem_map.1 hx; exact ⟨y, hy, rfl⟩
  refine ⟨?_, (vdel_sub _ _).nodup h.rn, fun x hx => h.rv x (vdel_mem hx), fun x hx => h.ru x (vdel_mem hx), fun x hx v hv => ?_, fun x hx => ?_, ?_, fun x hx => ?_⟩
  · show ((o.teams.map (outP u)).map (·.1)).Nodup
    rw [List.map_map]; exact h.tn
  · obtain ⟨y, hy, rfl⟩ := hmem x hx
    obtain ⟨q1, q2⟩ := (mem_udel (h.mn y hy)).1 hv
    obtain ⟨z, hz, hzv⟩ := List.mem_map.1 (h.tm y hy v q1)
    exact List.mem_map.2 ⟨z, vdel_keep hz (by rw [hzv]; exact q2), hzv⟩
  · obtain ⟨y, hy, rfl⟩ := hmem x hx
    exact (udel_sub _ _).nodup (h.mn y hy)
  · obtain ⟨x, hx, q1, q2⟩ := other_owner h.rn h.ow (by simpa using h2)
    exact ⟨x, vdel_keep hx q2, q1⟩
  · obtain ⟨y, hy, rfl⟩ := hmem x hx
    exact h.tw y hy
theorem OInv.team {us : List By} {o : Og} {t : By} (h : OInv us o) : OInv us (addTeamM t o).2 := by
  unfold addTeamM
  dsimp only
  split
  · rename_i h1
    unfold teamErr at h1
    obtain ⟨q1, _, q3⟩ := freshM_ok h1
    have q1' : t ∉ o.teams.map (·.1) := of_decide_eq_false q1
    have key : ∀ x ∈ o.teams ++ [(t, ([] : List By))], x ∈ o.teams ∨ x = (t, []) := fun x hx => by simpa using hx
    refine ⟨?_, h.rn, h.rv, h.ru, fun x hx v hv => ?_, fun x hx => ?_, h.ow, fun x hx => ?_⟩
    · show ((o.teams ++ [(t, ([] : List By))]).map (·.1)).Nodup
      rw [List.map_append, List.nodup_append]
      exact ⟨h.tn, by simp, fun a ha b hb => by simp at hb; subst hb; rintro rfl; exact q1' ha⟩
    · rcases key x hx with hx | rfl
      · exact h.tm x hx v hv
      · cases hv
    · rcases key x hx with hx | rfl
      · exact h.mn x hx
      · exact List.nodup_nil
    · rcases key x hx with hx | rfl
      · exact h.tw x hx
      · exact q3
  · exact h
theorem OInv.put {us : List By} {o : Og} {t u : By} (h : OInv us o) : OInv us (putM t u o).2 := by
  unfold putM
  split
  · exact h
  rename_i h1
  split
  · exact h
  rename_i h2
  have hur : u ∈ o.roles.map (·.1) := by
    refine Classical.byContradiction fun hc => h1 (.inr (vget_none hc))
  have hm : ∀ v ∈ (getT o.teams t).getD [], v ∈ o.roles.map (·.1) := fun v hv => by
    cases hg : getT o.teams t with
    | none => rw [hg] at hv; cases hv
    | some m => rw [hg] at hv; exact h.tm _ (getT_mem hg) v hv
  have hn : ((getT o.teams t).getD []).Nodup := by
    cases hg : getT o.teams t with
    | none => exact List.nodup_nil
    | some m => exact h.mn _ (getT_mem hg)
  have ht : ∃ m, (t, m) ∈ o.teams := by
    have : t ∈ o.teams.map (·.1) := Classical.byContradiction fun hc => h1 (.inl hc)
    obtain ⟨x, hx, rfl⟩ := List.mem_map.1 this
    exact ⟨x.2, hx⟩
  refine ⟨?_, h.rn, h.rv, h.ru, fun x hx v hv => ?_, fun x hx => ?_, h.ow, fun x hx => ?_⟩
  · show ((updT _ _ _).map (·.1)).Nodup
    rw [updT_keys]; exact h.tn
  · rcases mem_updT hx with hx | rfl
    · exact h.tm x hx v hv
    · rcases mem_addU.1 hv with rfl | hv
      · exact hur
      · exact hm v hv
  · rcases mem_updT hx with hx | rfl
    · exact h.mn x hx
    · exact addU_nodup hn
  · rcases mem_updT hx with hx | rfl
    · exact h.tw x hx
    · obtain ⟨m, hm⟩ := ht; exact h.tw (t, m) hm
theorem OInv.out {us : List By} {o : Og} {t u : By} (h : OInv us o) : OInv us (outM t u o).2 := by
  unfold outM
  split
  · exact h
  rename_i h1
  have hm : ∀ v ∈ (getT o.teams t).getD [], v ∈ o.roles.map (·.1) := fun v hv => by
    cases hg : getT o.teams t with
    | none => rw [hg] at hv; cases hv
    | some m => rw [hg] at hv; exact h.tm _ (getT_mem hg) v hv
  have hn : ((getT o.teams t).getD []).Nodup := by
    cases hg : getT o.teams t with
    | none => exact List.nodup_nil
    | some m => exact h.mn _ (getT_mem hg)
  have ht : ∃ m, (t, m) ∈ o.teams := by
    have : t ∈ o.teams.map (·.1) := inP_names (Classical.byContradiction fun hc => h1 hc)
    obtain ⟨x, hx, rfl⟩ := List.mem_map.1 this
    exact ⟨x.2, hx⟩
  refine ⟨?_, h.rn, h.rv, h.ru, fun x hx v hv => ?_, fun x hx => ?_, h.ow, fun x hx => ?_⟩
  · show ((updT _ _ _).map (·.1)).Nodup
    rw [updT_keys]; exact h.tn
  · rcases mem_updT hx with hx | rfl
    · exact h.tm x hx v hv
    · exact hm v ((udel_sub _ _).subset hv)
  · rcases mem_updT hx with hx | rfl
    · exact h.mn x hx
    · exact (udel_sub _ _).nodup hn
  · rcases mem_updT hx with hx | rfl
    · exact h.tw x hx
    · obtain ⟨m, hm⟩ := ht; exact h.tw (t, m) hm
theorem PInv.at1 {P : Pp} {n : By} {g : Og → Int × Og} (h : PInv P) (hg : ∀ o, OInv P.users o → OInv P.users (g o).2) : PInv (onO P n g).2 := by
  unfold onO
  cases hn : getO P.orgs n with
  | none => exact h
  | some o =>
    have hm := getO_mem hn
    refine ⟨h.un, h.uw, ?_, fun x hx => ?_, fun x hx => ?_⟩
    · show ((updO _ _ _).map (·.1)).Nodup
      rw [upd_keys]; exact h.on
    · rcases mem_upd hx with hx | rfl
      · exact h.ow x hx
      · exact h.ow (n, o) hm
    · rcases mem_upd hx with hx | rfl
      · exact h.o x hx
      · exact hg o (h.o _ hm)
theorem PInv.addUser {P : Pp} {u : By} (h : PInv P) : PInv (addUserM P u).2 := by
  unfold addUserM
  dsimp only
  split
  · rename_i h1
    obtain ⟨q1, _, q3⟩ := freshM_ok h1
    exact ⟨addU_nodup h.un, fun v hv => by
      rcases mem_addU.1 hv with rfl | hv
      · exact q3
      · exact h.uw v hv, h.on, h.ow, fun x hx => (h.o x hx).users fun v hv => mem_addU.2 (.inr hv)⟩
  · exact h
theorem PInv.addOrg {P : Pp} {n owner : By} (h : PInv P) : PInv (addOrgM P n owner).2 := by
  unfold addOrgM
  dsimp only
  split
  · rename_i h1
    unfold orgErr at h1
    split at h1
    · cases h1
    rename_i h2
    obtain ⟨q1, _, q3⟩ := freshM_ok h1
    have q1' : n ∉ P.orgs.map (·.1) := of_decide_eq_false q1
    have hou : owner ∈ P.users := Classical.byContradiction fun hc => h2 ⟨.inl h1, hc⟩
    have key : ∀ x ∈ P.orgs ++ [(n, (⟨[], [(owner, 2)]⟩ : Og))], x ∈ P.orgs ∨ x = (n, ⟨[], [(owner, 2)]⟩) := fun x hx => by simpa using hx
    refine ⟨h.un, h.uw, ?_, fun x hx => ?_, fun x hx => ?_⟩
    · show ((P.orgs ++ [(n, (⟨[], [(owner, 2)]⟩ : Og))]).map (·.1)).Nodup
      rw [List.map_append, List.nodup_append]
      exact ⟨h.on, by simp, fun a ha b hb => by simp at hb; subst hb; rintro rfl; exact q1' ha⟩
    · rcases key x hx with hx | rfl
      · exact h.ow x hx
      · exact q3
    · rcases key x hx with hx | rfl
      · exact h.o x hx
      · exact ⟨List.nodup_nil, by simp, by simp, by simpa using hou, by simp, by simp, ⟨(owner, 2), by simp, rfl⟩, by simp⟩
  · exact h
end Go.Pe
