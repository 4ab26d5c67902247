/- People: calls at one organisation. -/
import Derived.Test.YtnealcbmgflaaaaPeF
set_option linter.unusedSimpArgs false
set_option linter.unusedVariables false
namespace Go.Pe
open Go Go.Sl Go.Ls
set_option maxRecDepth 100000
def getO : List (By × Og) → By → Option Og
  | [], _ => none
  | (k, o) :: r, n => if n = k then some o else getO r n
def updO : List (By × Og) → By → Og → List (By × Og)
  | [], _, _ => []
  | (k, o) :: r, n, o' => if n = k then (n, o') :: r else (k, o) :: updO r n o'
theorem get_none : ∀ {os : List Ob} {n : By}, getO (os.map plainO) n = none → findB os n = none
  | [], _, _ => rfl
  | x :: r, n, h => by
    unfold findB
    rw [List.map_cons] at h
    unfold getO plainO at h
    split at h
    · cases h
    · rename_i e
      rw [List.find?_cons, decide_eq_false e]
      exact get_none h
theorem get_some : ∀ {os : List Ob} {n : By} {o : Og}, getO (os.map plainO) n = some o → ∃ i a, findB os n = some (n, a, o) ∧ os[i]? = some (n, a, o) ∧ ∀ o', (os.set i (n, a, o')).map plainO = updO (os.map plainO) n o' ∧ encO (os.set i (n, a, o')) = encO os
  | [], _, _, h => by cases h
  | (k, a, p) :: r, n, o, h => by
    rw [List.map_cons] at h
    unfold getO plainO at h
    split at h
    · rename_i e
      have e' : n = k := e
      subst e'
      cases h
      refine ⟨0, a, ?_, rfl, fun o' => ⟨?_, rfl⟩⟩
      · unfold findB; rw [List.find?_cons, decide_eq_true rfl]
      · rw [List.set_cons_zero, List.map_cons, List.map_cons]
        unfold updO plainO
        rw [if_pos rfl]
    · rename_i e
      obtain ⟨i, b, h1, h2, h3⟩ := get_some h
      refine ⟨i + 1, b, ?_, by simpa using h2, fun o' => ?_⟩
      · unfold findB at h1 ⊢; rw [List.find?_cons, decide_eq_false e]; exact h1
      · obtain ⟨h4, h5⟩ := h3 o'
        rw [List.set_cons_succ, List.map_cons, List.map_cons]
        refine ⟨?_, ?_⟩
        · show plainO (k, a, p) :: _ = updO ((k, p) :: r.map plainO) n o'
          have e2 : updO ((k, p) :: r.map plainO) n o' = (k, p) :: updO (r.map plainO) n o' := by
            conv => lhs; unfold updO
            exact if_neg e
          rw [e2, h4]; rfl
        · unfold encO at h5 ⊢; rw [List.map_cons, List.map_cons, h5]
variable {hF : Hp} {f : FuncId} {args : List Value} {b : Nat} {P : Pp} {n : By}
theorem people_miss {R : Value → List HProp → Prop} (hn : getO P.orgs n = none)
    (h : ∀ hF mu mo os, adr os n = none → FnOk Go.Proofs.Try.prog f args [pblk b mu mo, mp mu (encU P.users), mp mo (encO os)] hF (fun v Γ => ∃ ex, R v ex ∧ Γ = pblk b mu mo :: mp mu (encU P.users) :: mp mo (encO os) :: ex)) :
    FnOk Go.Proofs.Try.prog f args [people b P] hF (fun v Γ => ∃ ex, R v ex ∧ Γ = people b P :: ex) := fun w s => by
  obtain ⟨⟨mu, mo, os⟩, hx, s2⟩ := s.opens
  have hx' : os.map plainO = P.orgs := hx
  rw [← hx'] at hn
  have ha : adr os n = none := by unfold adr; rw [get_none hn]; rfl
  have s3 : Sat ([pblk b mu mo, mp mu (encU P.users), mp mo (encO os)] ++ [star (os.map obC)]) hF w := s2
  have := (FnOk.frame (Δ := [star (os.map obC)]) fun hF' _ _ => h hF' mu mo os ha) w s3
  refine Calls.mono this (Ret.mono ?_)
  rintro v Γ' ⟨Γ'', rfl, ex, hR, rfl⟩ w' s'
  refine ⟨_, ⟨ex, hR, rfl⟩, Sl.Sat.shut (mu, mo, os) hx ?_⟩
  exact s'.perm (((List.perm_append_comm (l₁ := ex) (l₂ := [star (os.map obC)])).append_left [pblk b mu mo, mp mu (encU P.users), mp mo (encO os)]))
theorem people_at {o : Og} {R : Value → List HProp → Og → Prop} (hn : getO P.orgs n = some o)
    (h : ∀ hF mu mo os a mi mr l, adr os n = some ⟨a, 0, none⟩ → l.map strip = o.teams → FnOk Go.Proofs.Try.prog f args (pblk b mu mo :: mp mu (encU P.users) :: mp mo (encO os) :: orgL a o.roles (mi, mr, l)) hF
      (fun v Γ => ∃ ex o' l', R v ex o' ∧ l'.map strip = o'.teams ∧ Γ = pblk b mu mo :: mp mu (encU P.users) :: mp mo (encO os) :: (orgL a o'.roles (mi, mr, l') ++ ex))) :
    FnOk Go.Proofs.Try.prog f args [people b P] hF (fun v Γ => ∃ ex o', R v ex o' ∧ Γ = people b ⟨P.users, updO P.orgs n o'⟩ :: ex) := fun w s => by
  obtain ⟨⟨mu, mo, os⟩, hx, s2⟩ := s.opens
  have hx' : os.map plainO = P.orgs := hx
  rw [← hx'] at hn
  obtain ⟨i, a, h1, h2, h3⟩ := get_some hn
  have ha : adr os n = some ⟨a, 0, none⟩ := by unfold adr; rw [h1]; rfl
  have s3 : Sat (obC (n, a, o) :: star ((os.map obC).eraseIdx i) :: [pblk b mu mo, mp mu (encU P.users), mp mo (encO os)]) hF w := Sat.pullM h2 (Sl.Sat.sub SubR.o s2)
  obtain ⟨⟨mi, mr, l⟩, hl, s4⟩ := Sl.Sat.opens (φ := fun x : Nat × Nat × List Tm => x.2.2.map strip = o.teams) (Λ := orgL a o.roles) s3
  have s5 : Sat ((pblk b mu mo :: mp mu (encU P.users) :: mp mo (encO os) :: orgL a o.roles (mi, mr, l)) ++ [star ((os.map obC).eraseIdx i)]) hF w := Sl.Sat.sub (by
    show SubR [pblk b mu mo, mp mu (encU P.users), mp mo (encO os), oblk a mi mr, mp mi (encT l), star (l.map teamC), mp mr (encV o.roles), star ((os.map obC).eraseIdx i)] [oblk a mi mr, mp mi (encT l), star (l.map teamC), mp mr (encV o.roles), star ((os.map obC).eraseIdx i), pblk b mu mo, mp mu (encU P.users), mp mo (encO os)] []
    exact SubR.o) s4
  have := (FnOk.frame (Δ := [star ((os.map obC).eraseIdx i)]) fun hF' _ _ => h hF' mu mo os a mi mr l ha hl) w s5
  refine Calls.mono this (Ret.mono ?_)
  rintro v Γ' ⟨Γ'', rfl, ex, o', l', hR, hl', rfl⟩ w' s6
  refine ⟨_, ⟨ex, o', hR, rfl⟩, ?_⟩
  have s7 : Sat (orgL a o'.roles (mi, mr, l') ++ (star ((os.map obC).eraseIdx i) :: pblk b mu mo :: mp mu (encU P.users) :: mp mo (encO os) :: ex)) hF w' := by
    refine s6.perm ?_
    have e : pblk b mu mo :: mp mu (encU P.users) :: mp mo (encO os) :: (orgL a o'.roles (mi, mr, l') ++ ex) ++ [star ((os.map obC).eraseIdx i)] = [pblk b mu mo, mp mu (encU P.users), mp mo (encO os)] ++ (orgL a o'.roles (mi, mr, l') ++ (ex ++ [star ((os.map obC).eraseIdx i)])) := by simp
    rw [e]
    refine List.perm_append_comm.trans ?_
    rw [List.append_assoc]
    refine List.Perm.append_left _ ?_
    rw [List.append_assoc]
    refine (List.perm_append_comm (l₁ := ex)).trans ?_
    rw [List.append_assoc]
    refine List.Perm.cons _ ?_
    exact List.Perm.refl _
  have s8 := Sat.putM (f := obC) (y := (n, a, o')) (List.getElem?_eq_some_iff.1 h2).1 (Sl.Sat.shut (φ := fun x : Nat × Nat × List Tm => x.2.2.map strip = o'.teams) (Λ := orgL a o'.roles) (mi, mr, l') hl' s7)
  obtain ⟨h4, h5⟩ := h3 o'
  refine Sl.Sat.shut (mu, mo, os.set i (n, a, o')) (by show (os.set i (n, a, o')).map plainO = _; rw [h4, hx']) ?_
  show Sat (pblk b mu mo :: mp mu (encU P.users) :: mp mo (encO (os.set i (n, a, o'))) :: star ((os.set i (n, a, o')).map obC) :: ex) hF w'
  rw [h5]
  refine s8.perm ?_
  have e1 : star ((os.set i (n, a, o')).map obC) :: pblk b mu mo :: mp mu (encU P.users) :: mp mo (encO os) :: ex = ([star ((os.set i (n, a, o')).map obC)] ++ [pblk b mu mo, mp mu (encU P.users), mp mo (encO os)]) ++ ex := by simp
  have e2 : pblk b mu mo :: mp mu (encU P.users) :: mp mo (encO os) :: star ((os.set i (n, a, o')).map obC) :: ex = ([pblk b mu mo, mp mu (encU P.users), mp mo (encO os)] ++ [star ((os.set i (n, a, o')).map obC)]) ++ ex := by simp
  rw [e1, e2]
  exact List.Perm.append_right _ List.perm_append_comm
def onO (P : Pp) (n : By) (g : Og → Int × Og) : Int × Pp := match getO P.orgs n with
  | none => (111, P)
  | some o => ((g o).1, ⟨P.users, updO P.orgs n (g o).2⟩)
/-- A call at one organisation, which leaves an error alone. -/
theorem people_on {g : Og → Int × Og} (h0 : ∀ hF mu mo os, adr os n = none → FnOk Go.Proofs.Try.prog f args [pblk b mu mo, mp mu (encU P.users), mp mo (encO os)] hF (fun v Γ => v = .int .i64 111 ∧ Γ = [pblk b mu mo, mp mu (encU P.users), mp mo (encO os)]))
    (h1 : ∀ hF mu mo os a mi mr l o, getO P.orgs n = some o → adr os n = some ⟨a, 0, none⟩ → l.map strip = o.teams → FnOk Go.Proofs.Try.prog f args (pblk b mu mo :: mp mu (encU P.users) :: mp mo (encO os) :: orgL a o.roles (mi, mr, l)) hF
      (fun v Γ => v = .int .i64 (g o).1 ∧ ∃ l', l'.map strip = (g o).2.teams ∧ Γ = pblk b mu mo :: mp mu (encU P.users) :: mp mo (encO os) :: orgL a (g o).2.roles (mi, mr, l'))) :
    FnOk Go.Proofs.Try.prog f args [people b P] hF (fun v Γ => v = .int .i64 (onO P n g).1 ∧ Γ = [people b (onO P n g).2]) := by
  cases hn : getO P.orgs n with
  | none =>
    rw [show onO P n g = (111, P) from by unfold onO; rw [hn]]
    refine FnOk.weak (fun _ s => s) ?_ (people_miss hn (R := fun v ex => v = .int .i64 111 ∧ ex = []) fun hF mu mo os ha => FnOk.weak (fun _ s => s) ?_ (h0 hF mu mo os ha))
    · rintro v Γ' ⟨ex, ⟨rfl, rfl⟩, rfl⟩ w' s'
      exact ⟨_, ⟨rfl, rfl⟩, s'⟩
    · rintro v Γ' ⟨rfl, rfl⟩ w' s'
      exact ⟨_, ⟨[], ⟨rfl, rfl⟩, rfl⟩, s'⟩
  | some o =>
    rw [show onO P n g = ((g o).1, ⟨P.users, updO P.orgs n (g o).2⟩) from by unfold onO; rw [hn]]
    refine FnOk.weak (fun _ s => s) ?_ (people_at hn (R := fun v ex o' => v = .int .i64 (g o).1 ∧ ex = [] ∧ o' = (g o).2) fun hF mu mo os a mi mr l ha hl => FnOk.weak (fun _ s => s) ?_ (h1 hF mu mo os a mi mr l o hn ha hl))
    · rintro v Γ' ⟨ex, o', ⟨rfl, rfl, rfl⟩, rfl⟩ w' s'
      exact ⟨_, ⟨rfl, rfl⟩, s'⟩
    · rintro v Γ' ⟨rfl, l', hl', rfl⟩ w' s'
      exact ⟨_, ⟨[], (g o).2, l', ⟨rfl, rfl, rfl⟩, hl', by rw [List.append_nil]⟩, s'⟩
end Go.Pe
