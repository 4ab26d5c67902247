/- People: AddTeam, Put, Out. -/
import Derived.Test.YtnealcbmgflaaaaPeH
set_option linter.unusedSimpArgs false
set_option linter.unusedVariables false
namespace Go.Pe
open Go Go.Sl Go.Ls
set_option maxRecDepth 100000
def findT (l : List Tm) (t : By) : Option Tm := l.find? fun x => decide (t = x.1)
def adrT (l : List Tm) (t : By) : Option Nat := (findT l t).map (·.2.1)
theorem encT_getD (l : List Tm) (t : By) : (mget (encT l) t).getD (.map none) = .map (adrT l t) := by
  unfold adrT findT
  induction l with
  | nil => rfl
  | cons x r ih =>
    show (mget ((x.1, Value.map (some x.2.1)) :: encT r) t).getD _ = _
    rw [mget_cons, List.find?_cons]
    by_cases h : t = x.1
    · simp [h]
    · rw [if_neg h, ih, decide_eq_false h]
theorem findT_none {l : List Tm} {t : By} : findT l t = none ↔ t ∉ l.map (·.1) := by
  unfold findT
  rw [List.find?_eq_none]
  constructor
  · intro h hm
    obtain ⟨x, hx, rfl⟩ := List.mem_map.1 hm
    exact h x hx (by simp)
  · intro h x hx e
    have : t = x.1 := by simpa using e
    exact h (List.mem_map.2 ⟨x, hx, this.symm⟩)
theorem adrT_there (l : List Tm) (t : By) : (adrT l t).isNone = !decide (t ∈ l.map (·.1)) := by
  unfold adrT
  cases h : findT l t with
  | none => rw [decide_eq_false (findT_none.1 h)]; rfl
  | some x =>
    have : t ∈ l.map (·.1) := by
      refine Classical.byContradiction fun hm => ?_
      rw [findT_none.2 hm] at h; cases h
    rw [decide_eq_true this]; rfl
theorem enc_newT {l : List Tm} {t : By} {a : Nat} (h : t ∉ l.map (·.1)) : mset (encT l) t (.map (some a)) = encT (l ++ [(t, a, [])]) := by
  have hm : mfind (encT l) t = none := by
    cases hf : mfind (encT l) t with
    | none => rfl
    | some p =>
      have h1 := encT_getD l t
      have h2 : adrT l t = none := by unfold adrT; rw [findT_none.2 h]; rfl
      exfalso
      have h3 : ∃ x ∈ encT l, x.1 = t := by
        have key : ∀ (es : Es) (j : Nat) (v : Value), mfind es t = some (j, v) → ∃ x ∈ es, x.1 = t := by
          intro es
          induction es with
          | nil => intro j v h; simp [mfind] at h
          | cons y r ih =>
            intro j v h
            obtain ⟨k, w⟩ := y
            simp only [mfind] at h
            split at h
            · rename_i e; exact ⟨(k, w), List.mem_cons_self, e.symm⟩
            · obtain ⟨q, hq, _⟩ := Option.map_eq_some_iff.1 h
              obtain ⟨x, hx, e⟩ := ih q.1 q.2 hq
              exact ⟨x, List.mem_cons_of_mem _ hx, e⟩
        exact key _ p.1 p.2 hf
      obtain ⟨x, hx, e⟩ := h3
      unfold encT at hx
      obtain ⟨y, hy, rfl⟩ := List.mem_map.1 hx
      exact h (List.mem_map.2 ⟨y, hy, e⟩)
  rw [mset_new _ _ _ hm]; unfold encT; simp
def getT : List (By × List By) → By → Option (List By)
  | [], _ => none
  | (k, m) :: r, t => if t = k then some m else getT r t
def updT : List (By × List By) → By → List By → List (By × List By)
  | [], _, _ => []
  | (k, m) :: r, t, m' => if t = k then (t, m') :: r else (k, m) :: updT r t m'
theorem findT_some : ∀ {l : List Tm} {t : By} {a : Nat}, adrT l t = some a → ∃ i m, l[i]? = some (t, a, m) ∧ getT (l.map strip) t = some m ∧ ∀ m', (l.set i (t, a, m')).map strip = updT (l.map strip) t m' ∧ encT (l.set i (t, a, m')) = encT l
  | [], _, _, h => by cases h
  | (k, c, m) :: r, t, a, h => by
    unfold adrT findT at h
    rw [List.find?_cons] at h
    by_cases e : t = k
    · subst e
      rw [decide_eq_true rfl] at h
      cases h
      refine ⟨0, m, rfl, ?_, fun m' => ⟨?_, rfl⟩⟩
      · rw [List.map_cons]; unfold getT strip; exact if_pos rfl
      · rw [List.set_cons_zero, List.map_cons, List.map_cons]
        unfold updT strip
        rw [if_pos rfl]
    · rw [decide_eq_false (show ¬ t = (k, c, m).1 from e)] at h
      obtain ⟨i, m2, h2, h3, h4⟩ := findT_some (l := r) h
      refine ⟨i + 1, m2, by simpa using h2, ?_, fun m' => ?_⟩
      · rw [List.map_cons]
        show getT ((k, m) :: r.map strip) t = _
        unfold getT
        rw [if_neg e]; exact h3
      · obtain ⟨h5, h6⟩ := h4 m'
        rw [List.set_cons_succ, List.map_cons, List.map_cons]
        refine ⟨?_, ?_⟩
        · show strip (k, c, m) :: _ = updT ((k, m) :: r.map strip) t m'
          have e2 : updT ((k, m) :: r.map strip) t m' = (k, m) :: updT (r.map strip) t m' := by
            conv => lhs; unfold updT
            exact if_neg e
          rw [e2, h5]; rfl
        · unfold encT at h6 ⊢; rw [List.map_cons, List.map_cons, h6]
def inP (u : By) (ts : List (By × List By)) : List By := (ts.filter fun x => decide (u ∈ x.2)).map (·.1)
theorem inT_eq (u : By) (l : List Tm) : inT u l = inP u (l.map strip) := by
  unfold inT inP
  rw [List.filter_map, List.map_map]
  rfl
theorem mem_sortS (l : List By) (x : By) : x ∈ sortS l ↔ x ∈ l := (sortS_perm l).mem_iff
theorem inP_names {u t : By} {ts : List (By × List By)} (h : t ∈ inP u ts) : t ∈ ts.map (·.1) := by
  unfold inP at h
  obtain ⟨x, hx, rfl⟩ := List.mem_map.1 h
  exact List.mem_map.2 ⟨x, (List.mem_filter.1 hx).1, rfl⟩
def teamErr (t : By) (o : Og) : Int := freshM t (decide (t ∈ o.teams.map (·.1))) o.teams.length 8
def addTeamM (t : By) (o : Og) : Int × Og := (teamErr t o, if teamErr t o = 0 then ⟨o.teams ++ [(t, [])], o.roles⟩ else o)
def putM (t u : By) (o : Og) : Int × Og :=
  if t ∉ o.teams.map (·.1) ∨ vget o.roles u = 0 then (111, o) else if t ∈ inP u o.teams then (110, o) else (0, ⟨updT o.teams t (addU ((getT o.teams t).getD []) u), o.roles⟩)
def outM (t u : By) (o : Og) : Int × Og :=
  if t ∉ inP u o.teams then (111, o) else (0, ⟨updT o.teams t (udel ((getT o.teams t).getD []) u), o.roles⟩)
set_option maxRecDepth 100000
set_option maxHeartbeats 4000000
attribute [local irreducible] GK GO Yl Wt Ef Hd GH KH wpListIn Code.wpIn toBody roundQ poolOf rs RS YieldOk IterOk VOk row star exs mp lp Sat pt FnOk Rd bodyPost bodyPostM Lv Ret Exit.then Exit.inBlock Exit.noGoto Int.decLt Int.decLe Int.instDecidableEq
attribute [local irreducible] u8s strs likeTo rng rngAt keys encU encT encV encO inT freshM unitV Pa.nameM lastM vset vdel vget inP teamErr
set_option pp.deepTerms true
set_option pp.maxSteps 1000000
variable {hF H : Hp} {b : Nat} {P : Pp} {n : By}
theorem addTeam_ok {t : By} (hs : t.length < 9223372036854775807) : FnOk Go.Proofs.Try.prog 28 [.pointer (some ⟨b, 0, none⟩), str n, str t] [people b P] hF (fun v Γ => v = .int .i64 (onO P n (addTeamM t)).1 ∧ Γ = [people b (onO P n (addTeamM t)).2]) := by
  refine people_on (fun hF mu mo os ha => ?_) (fun hF mu mo os a mi mr l o ho ha hl => ?_)
  · refine FnOk.intro 44 Go.Proofs.Try.func28 rfl rfl fun w0 => ?_
    (repeat (first | refine GK.ro ?_ | (refine GK.box ?_; intro bl) | (refine GK.mkMap ?_; intro bm) | (refine GK.build0 tb ?_; intro bs)))
    refine GL.cons ?_; refine GO.callA (fun hF' hle hH => at_ok (os := os) (n := n)) Wt.o (by kernel_rfl) rfl rfl SubR.o ?_
    rw [ha]
    rintro v Γ' ⟨rfl, rfl⟩
    (repeat (first | refine GK.ro ?_ | (refine GK.box ?_; intro bl) | (refine GK.mkMap ?_; intro bm) | (refine GK.build0 tb ?_; intro bs)))
    refine GL.cons ?_; refine GO.callA (fun hF' hle hH => none_ok) Wt.o (by kernel_rfl) rfl rfl SubR.o ?_
    rintro v Γ' ⟨rfl, rfl⟩
    (repeat (first | refine GK.ro ?_ | (refine GK.box ?_; intro bl) | (refine GK.mkMap ?_; intro bm) | (refine GK.build0 tb ?_; intro bs)))
    exact GQ.fin1 rfl (Rv.tmp rfl) (fun _ s => Sat.sub SubR.o s) ⟨rfl, rfl⟩
  · unfold orgL
    refine FnOk.intro 44 Go.Proofs.Try.func28 rfl rfl fun w0 => ?_
    (repeat (first | refine GK.ro ?_ | (refine GK.box ?_; intro bl) | (refine GK.mkMap ?_; intro bm) | (refine GK.build0 tb ?_; intro bs)))
    refine GL.cons ?_; refine GO.callA (fun hF' hle hH => at_ok (os := os) (n := n)) Wt.o (by kernel_rfl) rfl rfl SubR.o ?_
    rw [ha]
    rintro v Γ' ⟨rfl, rfl⟩
    (repeat (first | refine GK.ro ?_ | (refine GK.box ?_; intro bl) | (refine GK.mkMap ?_; intro bm) | (refine GK.build0 tb ?_; intro bs)))
    refine GL.cons ?_; refine GO.callA (fun hF' hle hH => none_ok) Wt.o (by kernel_rfl) rfl rfl SubR.o ?_
    rintro v Γ' ⟨rfl, rfl⟩
    (repeat (first | refine GK.ro ?_ | (refine GK.box ?_; intro bl) | (refine GK.mkMap ?_; intro bm) | (refine GK.build0 tb ?_; intro bs)))
    refine G.draw [] [oblk a mi mr, mp mi (encT l)] (by kernel_rfl) ?_
    ((first | refine GH.to 0 ?_ | refine GH.tos 0 ?_); (first | refine GH.to 1 ?_ | refine GH.tos 1 ?_); (first | refine GH.to 2 ?_ | refine GH.tos 2 ?_); (first | refine GH.to 3 ?_ | refine GH.tos 3 ?_); (first | refine GH.to 4 ?_ | refine GH.tos 4 ?_); (first | refine GH.to 5 ?_ | refine GH.tos 5 ?_); (first | refine GH.to 6 ?_ | refine GH.tos 6 ?_))
    refine GH.take 7 rfl (by kernel_rfl) Wt.o (fun _ s => Sat.sub SubR.o s) (Yl.look1 1 (KeyT.str rfl) rfl rfl rfl rfl rfl (encT_getD l t)) ?_
    ((first | refine GH.to 8 ?_ | refine GH.tos 8 ?_); (first | refine GH.to 9 ?_ | refine GH.tos 9 ?_); (first | refine GH.to 10 ?_ | refine GH.tos 10 ?_); (first | refine GH.to 11 ?_ | refine GH.tos 11 ?_); (first | refine GH.to 12 ?_ | refine GH.tos 12 ?_); (first | refine GH.to 13 ?_ | refine GH.tos 13 ?_))
    refine GH.take 14 rfl (by kernel_rfl) Wt.o (fun _ s => Sat.sub SubR.o s) (Yl.len_map 1 rfl rfl rfl) ?_
    refine GH.step 15 rfl (by kernel_rfl) ?_
    refine GO.callA (fun hF' hle hH => fresh_ok (name := t) hs) Wt.o (by kernel_rfl) rfl rfl SubR.o ?_
    rintro v Γ' ⟨rfl, rfl⟩
    refine GH.keep (fun _ s => Sat.sub SubR.o s) ?_
    ((first | refine GH.to 16 ?_ | refine GH.tos 16 ?_))
    refine GH.fin (by kernel_rfl) ?_
    have el : (encT l).length = o.teams.length := by unfold encT; rw [← hl]; simp
    have et : freshM t (!(adrT l t).isNone) (encT l).length 8 = teamErr t o := by
      unfold teamErr
      rw [adrT_there, Bool.not_not, strip_names hl, el]
    have hfo : teamErr t o = 0 → t ∉ l.map (·.1) := fun h => by
      unfold teamErr at h
      have := (freshM_ok h).1
      rw [strip_names hl]; simpa using this
    rw [et]
    refine GK.weak (fr' := [(0, .pointer (some ⟨b, 0, none⟩)), (2, str t), (7, .pointer (some ⟨a, 0, none⟩)), (8, .int .i64 (teamErr t o))]) (Γ' := [mp mi (encT l), oblk a mi mr, pblk b mu mo, mp mu (encU P.users), mp mo (encO os), star (l.map teamC), mp mr (encV o.roles)]) Sub.o (fun _ s => Sat.sub SubR.o s) ?_
    by_cases he : teamErr t o = 0
    · have e2 : addTeamM t o = (0, ⟨o.teams ++ [(t, [])], o.roles⟩) := by unfold addTeamM; rw [he, if_pos rfl]
      rw [e2, he]
      (repeat (first | refine GK.ro ?_ | (refine GK.box ?_; intro bl) | (refine GK.mkMap ?_; intro bm) | (refine GK.build0 tb ?_; intro bs)))
      refine GL.cons ?_; refine GO.mapUpdate 1 Wt.o (KeyT.str rfl) rfl rfl rfl rfl rfl ?_
      rw [enc_newT (hfo he)]
      (repeat (first | refine GK.ro ?_ | (refine GK.box ?_; intro bl) | (refine GK.mkMap ?_; intro bm) | (refine GK.build0 tb ?_; intro bs)))
      refine GQ.fin1 rfl (Rv.tmp rfl) (Γ' := [pblk b mu mo, mp mu (encU P.users), mp mo (encO os), oblk a mi mr, mp mi (encT (l ++ [(t, bm, [])])), star ((l ++ [(t, bm, [])]).map teamC), mp mr (encV o.roles)]) (fun w s => ?_) ⟨rfl, l ++ [(t, bm, [])], ?_, rfl⟩
      · have s2 : Sat [pt bm (Obj.map #[] 0), star (l.map teamC), pblk b mu mo, mp mu (encU P.users), mp mo (encO os), oblk a mi mr, mp mi (encT (l ++ [(t, bm, [])])), mp mr (encV o.roles)] hF w := Sl.Sat.sub SubR.o s
        have s3 := Sat.mp_new (α := By) s2
        have e1 : ([] : Es) = encU [] := by unfold encU; rfl
        rw [e1] at s3
        have s4 := Sat.pushM (f := teamC) (y := (t, bm, [])) s3
        exact Sl.Sat.sub SubR.o s4
      · rw [List.map_append, hl]; rfl
    · have e2 : addTeamM t o = (teamErr t o, o) := by unfold addTeamM; rw [if_neg he]
      rw [e2]
      (repeat (first | refine GK.ro ?_ | (refine GK.box ?_; intro bl) | (refine GK.mkMap ?_; intro bm) | (refine GK.build0 tb ?_; intro bs)))
      exact GQ.fin1 rfl (Rv.tmp rfl) (fun _ s => Sat.sub SubR.o s) ⟨rfl, l, hl, rfl⟩
end Go.Pe
