/- People: Put, Out. -/
import Derived.Test.YtnealcbmgflaaaaPeI
set_option linter.unusedSimpArgs false
set_option linter.unusedVariables false
namespace Go.Pe
open Go Go.Sl Go.Ls
set_option maxRecDepth 100000
theorem there_adr {l : List Tm} {t : By} (h : t ∈ l.map (·.1)) : ∃ c, adrT l t = some c := by
  have := adrT_there l t
  rw [decide_eq_true h] at this
  cases hc : adrT l t with
  | none => rw [hc] at this; cases this
  | some c => exact ⟨c, rfl⟩
theorem not_there_adr {l : List Tm} {t : By} (h : t ∉ l.map (·.1)) : adrT l t = none := by
  have := adrT_there l t
  rw [decide_eq_false h] at this
  cases hc : adrT l t with
  | none => rfl
  | some c => rw [hc] at this; cases this
set_option maxRecDepth 100000
set_option maxHeartbeats 4000000
attribute [local irreducible] GK GO Yl Wt Ef Hd GH KH wpListIn Code.wpIn toBody roundQ poolOf rs RS YieldOk IterOk VOk row star exs mp lp Sat pt FnOk Rd bodyPost bodyPostM Lv Ret Exit.then Exit.inBlock Exit.noGoto Int.decLt Int.decLe Int.instDecidableEq
attribute [local irreducible] u8s strs likeTo rng rngAt keys encU encT encV encO inT freshM unitV Pa.nameM lastM vset vdel vget inP teamErr
set_option pp.deepTerms true
set_option pp.maxSteps 1000000
variable {hF H : Hp} {b : Nat} {P : Pp} {n : By}
theorem put_ok {t u : By} (hv : ∀ o, getO P.orgs n = some o → o.teams.length ≤ 1099511627776) : FnOk Go.Proofs.Try.prog 29 [.pointer (some ⟨b, 0, none⟩), str n, str t, str u] [people b P] hF (fun v Γ => v = .int .i64 (onO P n (putM t u)).1 ∧ Γ = [people b (onO P n (putM t u)).2]) := by
  refine people_on (fun hF mu mo os ha => ?_) (fun hF mu mo os a mi mr l o ho ha hl => ?_)
  · refine FnOk.intro 56 Go.Proofs.Try.func29 rfl rfl fun w0 => ?_
    (repeat (first | refine GK.ro ?_ | (refine GK.box ?_; intro bl) | (refine GK.mkMap ?_; intro bm) | (refine GK.build0 tb ?_; intro bs)))
    refine GL.cons ?_; refine GO.callA (fun hF' hle hH => at_ok (os := os) (n := n)) Wt.o (by kernel_rfl) rfl rfl SubR.o ?_
    rw [ha]
    rintro v Γ' ⟨rfl, rfl⟩
    (repeat (first | refine GK.ro ?_ | (refine GK.box ?_; intro bl) | (refine GK.mkMap ?_; intro bm) | (refine GK.build0 tb ?_; intro bs)))
    refine GL.cons ?_; refine GO.callA (fun hF' hle hH => none_ok) Wt.o (by kernel_rfl) rfl rfl SubR.o ?_
    rintro v Γ' ⟨rfl, rfl⟩
    (repeat (first | refine GK.ro ?_ | (refine GK.box ?_; intro bl) | (refine GK.mkMap ?_; intro bm) | (refine GK.build0 tb ?_; intro bs)))
    exact GQ.fin1 rfl (Rv.tmp rfl) (fun _ s => Sat.sub SubR.o s) ⟨rfl, rfl⟩
  · have hvl := hv o ho
    have hll : l.length = o.teams.length := by rw [← hl]; simp
    unfold orgL
    refine FnOk.intro 56 Go.Proofs.Try.func29 rfl rfl fun w0 => ?_
    (repeat (first | refine GK.ro ?_ | (refine GK.box ?_; intro bl) | (refine GK.mkMap ?_; intro bm) | (refine GK.build0 tb ?_; intro bs)))
    refine GL.cons ?_; refine GO.callA (fun hF' hle hH => at_ok (os := os) (n := n)) Wt.o (by kernel_rfl) rfl rfl SubR.o ?_
    rw [ha]
    rintro v Γ' ⟨rfl, rfl⟩
    (repeat (first | refine GK.ro ?_ | (refine GK.box ?_; intro bl) | (refine GK.mkMap ?_; intro bm) | (refine GK.build0 tb ?_; intro bs)))
    refine GL.cons ?_; refine GO.callA (fun hF' hle hH => none_ok) Wt.o (by kernel_rfl) rfl rfl SubR.o ?_
    rintro v Γ' ⟨rfl, rfl⟩
    (repeat (first | refine GK.ro ?_ | (refine GK.box ?_; intro bl) | (refine GK.mkMap ?_; intro bm) | (refine GK.build0 tb ?_; intro bs)))
    refine GK.heap (Γ' := [pblk b mu mo, mp mu (encU P.users), mp mo (encO os), oblk a mi mr, mp mi (encT l), star (l.map teamC), mp mr (encV o.roles)]) (fun _ s => Sat.sub SubR.o s) ?_
    refine GL.cons ?_; refine GO.yield Wt.o (Yl.look1 4 (KeyT.str rfl) rfl rfl rfl rfl rfl (encT_getD l t)) ?_
    by_cases ht : t ∈ l.map (·.1)
    rotate_left
    · have e : putM t u o = (111, o) := if_pos (.inl (by rw [← strip_names hl]; exact ht))
      rw [e, not_there_adr ht]
      (repeat (first | refine GK.ro ?_ | (refine GK.box ?_; intro bl) | (refine GK.mkMap ?_; intro bm) | (refine GK.build0 tb ?_; intro bs)))
      exact GQ.fin1 rfl (Rv.tmp rfl) (fun _ s => Sat.sub SubR.o s) ⟨rfl, l, hl, rfl⟩
    obtain ⟨c, hc⟩ := there_adr ht
    obtain ⟨i, mem, f1, f2, f3⟩ := findT_some hc
    rw [hl] at f2
    rw [hc]
    (repeat (first | refine GK.ro ?_ | (refine GK.box ?_; intro bl) | (refine GK.mkMap ?_; intro bm) | (refine GK.build0 tb ?_; intro bs)))
    refine GL.cons ?_; refine GO.yield Wt.o (Yl.look1 6 (KeyT.str rfl) rfl rfl rfl rfl rfl (enc_vget o.roles u)) ?_
    by_cases hu : vget o.roles u = 0
    · have e : putM t u o = (111, o) := if_pos (.inr hu)
      rw [e, hu]
      (repeat (first | refine GK.ro ?_ | (refine GK.box ?_; intro bl) | (refine GK.mkMap ?_; intro bm) | (refine GK.build0 tb ?_; intro bs)))
      exact GQ.fin1 rfl (Rv.tmp rfl) (fun _ s => Sat.sub SubR.o s) ⟨rfl, l, hl, rfl⟩
    have e1 : putM t u o = if t ∈ inP u o.teams then (110, o) else (0, ⟨updT o.teams t (addU mem u), o.roles⟩) := by
      unfold putM
      rw [if_neg (by rintro (h | h); exact h (by rw [← strip_names hl]; exact ht); exact hu h), f2]; rfl
    have hso : (sortS (inT u l)).length ≤ l.length := by rw [sortS_len]; exact inT_len u l
    (repeat (first | refine GK.ro ?_ | (refine GK.box ?_; intro bl) | (refine GK.mkMap ?_; intro bm) | (refine GK.build0 tb ?_; intro bs)))
    refine GL.cons ?_; refine GO.callA (fun hF' hle hH => of_ok (m := mi) (l := l) (u := u) (by omega)) Wt.o (by kernel_rfl) rfl rfl SubR.o ?_
    rintro v Γ' ⟨p, cc, rfl, rfl⟩
    (repeat (first | refine GK.ro ?_ | (refine GK.box ?_; intro bl) | (refine GK.mkMap ?_; intro bm) | (refine GK.build0 tb ?_; intro bs)))
    refine GL.cons ?_; refine GO.callA (fun hF' hle hH => contains_ok (l := sortS (inT u l)) (s := t) (by omega)) Wt.o (by kernel_rfl) rfl rfl SubR.o ?_
    rw [show decide (t ∈ sortS (inT u l)) = decide (t ∈ inP u o.teams) from by rw [← hl, ← inT_eq]; exact decide_eq_decide.2 (mem_sortS _ _)]
    by_cases hin : t ∈ inP u o.teams
    · rw [decide_eq_true hin, e1, if_pos hin]
      rintro v Γ' ⟨rfl, rfl⟩
      (repeat (first | refine GK.ro ?_ | (refine GK.box ?_; intro bl) | (refine GK.mkMap ?_; intro bm) | (refine GK.build0 tb ?_; intro bs)))
      exact GQ.fin1 rfl (Rv.tmp rfl) (Γ' := [pblk b mu mo, mp mu (encU P.users), mp mo (encO os), oblk a mi mr, mp mi (encT l), star (l.map teamC), mp mr (encV o.roles)]) (fun _ s => Sat.sub SubR.o s) ⟨rfl, l, hl, rfl⟩
    · rw [decide_eq_false hin, e1, if_neg hin]
      rintro v Γ' ⟨rfl, rfl⟩
      (repeat (first | refine GK.ro ?_ | (refine GK.box ?_; intro bl) | (refine GK.mkMap ?_; intro bm) | (refine GK.build0 tb ?_; intro bs)))
      refine GK.heap (Γ' := [pblk b mu mo, mp mu (encU P.users), mp mo (encO os), oblk a mi mr, mp mi (encT l), star (l.map teamC), mp mr (encV o.roles)]) (fun _ s => Sat.sub SubR.o s) ?_
      refine GL.cons ?_; refine GO.yield Wt.o (Yl.look1 4 (KeyT.str rfl) rfl rfl rfl rfl rfl (encT_getD l t)) ?_
      rw [hc]
      (repeat (first | refine GK.ro ?_ | (refine GK.box ?_; intro bl) | (refine GK.mkMap ?_; intro bm) | (refine GK.build0 tb ?_; intro bs)))
      refine GK.heap (Γ' := [teamC (t, c, mem), star ((l.map teamC).eraseIdx i), pblk b mu mo, mp mu (encU P.users), mp mo (encO os), oblk a mi mr, mp mi (encT l), mp mr (encV o.roles)]) (fun w s => Sat.pullM f1 (Sl.Sat.sub SubR.o s)) ?_
      refine GL.cons ?_; refine GO.mapUpdate (u := unitV) 0 Wt.o (KeyT.str rfl) rfl rfl rfl (by unfold unitV; rfl) rfl ?_
      rw [enc_addU]
      (repeat (first | refine GK.ro ?_ | (refine GK.box ?_; intro bl) | (refine GK.mkMap ?_; intro bm) | (refine GK.build0 tb ?_; intro bs)))
      obtain ⟨f4, f5⟩ := f3 (addU mem u)
      refine GQ.fin1 rfl (Rv.tmp rfl) (Γ' := [pblk b mu mo, mp mu (encU P.users), mp mo (encO os), oblk a mi mr, mp mi (encT (l.set i (t, c, addU mem u))), star ((l.set i (t, c, addU mem u)).map teamC), mp mr (encV o.roles)]) (fun w s => ?_) ⟨rfl, l.set i (t, c, addU mem u), by rw [f4, hl], rfl⟩
      rw [f5]
      exact Sl.Sat.sub SubR.o (Sat.putM (f := teamC) (y := (t, c, addU mem u)) (List.getElem?_eq_some_iff.1 f1).1 s)
theorem out_ok {t u : By} (hv : ∀ o, getO P.orgs n = some o → o.teams.length ≤ 1099511627776) : FnOk Go.Proofs.Try.prog 30 [.pointer (some ⟨b, 0, none⟩), str n, str t, str u] [people b P] hF (fun v Γ => v = .int .i64 (onO P n (outM t u)).1 ∧ Γ = [people b (onO P n (outM t u)).2]) := by
  refine people_on (fun hF mu mo os ha => ?_) (fun hF mu mo os a mi mr l o ho ha hl => ?_)
  · refine FnOk.intro 38 Go.Proofs.Try.func30 rfl rfl fun w0 => ?_
    (repeat (first | refine GK.ro ?_ | (refine GK.box ?_; intro bl) | (refine GK.mkMap ?_; intro bm) | (refine GK.build0 tb ?_; intro bs)))
    refine GL.cons ?_; refine GO.callA (fun hF' hle hH => at_ok (os := os) (n := n)) Wt.o (by kernel_rfl) rfl rfl SubR.o ?_
    rw [ha]
    rintro v Γ' ⟨rfl, rfl⟩
    (repeat (first | refine GK.ro ?_ | (refine GK.box ?_; intro bl) | (refine GK.mkMap ?_; intro bm) | (refine GK.build0 tb ?_; intro bs)))
    refine GL.cons ?_; refine GO.callA (fun hF' hle hH => none_ok) Wt.o (by kernel_rfl) rfl rfl SubR.o ?_
    rintro v Γ' ⟨rfl, rfl⟩
    (repeat (first | refine GK.ro ?_ | (refine GK.box ?_; intro bl) | (refine GK.mkMap ?_; intro bm) | (refine GK.build0 tb ?_; intro bs)))
    exact GQ.fin1 rfl (Rv.tmp rfl) (fun _ s => Sat.sub SubR.o s) ⟨rfl, rfl⟩
  · have hvl := hv o ho
    have hll : l.length = o.teams.length := by rw [← hl]; simp
    have hso : (sortS (inT u l)).length ≤ l.length := by rw [sortS_len]; exact inT_len u l
    unfold orgL
    refine FnOk.intro 38 Go.Proofs.Try.func30 rfl rfl fun w0 => ?_
    (repeat (first | refine GK.ro ?_ | (refine GK.box ?_; intro bl) | (refine GK.mkMap ?_; intro bm) | (refine GK.build0 tb ?_; intro bs)))
    refine GL.cons ?_; refine GO.callA (fun hF' hle hH => at_ok (os := os) (n := n)) Wt.o (by kernel_rfl) rfl rfl SubR.o ?_
    rw [ha]
    rintro v Γ' ⟨rfl, rfl⟩
    (repeat (first | refine GK.ro ?_ | (refine GK.box ?_; intro bl) | (refine GK.mkMap ?_; intro bm) | (refine GK.build0 tb ?_; intro bs)))
    refine GL.cons ?_; refine GO.callA (fun hF' hle hH => none_ok) Wt.o (by kernel_rfl) rfl rfl SubR.o ?_
    rintro v Γ' ⟨rfl, rfl⟩
    (repeat (first | refine GK.ro ?_ | (refine GK.box ?_; intro bl) | (refine GK.mkMap ?_; intro bm) | (refine GK.build0 tb ?_; intro bs)))
    refine GL.cons ?_; refine GO.callA (fun hF' hle hH => of_ok (m := mi) (l := l) (u := u) (by omega)) Wt.o (by kernel_rfl) rfl rfl SubR.o ?_
    rintro v Γ' ⟨p, cc, rfl, rfl⟩
    (repeat (first | refine GK.ro ?_ | (refine GK.box ?_; intro bl) | (refine GK.mkMap ?_; intro bm) | (refine GK.build0 tb ?_; intro bs)))
    refine GL.cons ?_; refine GO.callA (fun hF' hle hH => contains_ok (l := sortS (inT u l)) (s := t) (by omega)) Wt.o (by kernel_rfl) rfl rfl SubR.o ?_
    rw [show decide (t ∈ sortS (inT u l)) = decide (t ∈ inP u o.teams) from by rw [← hl, ← inT_eq]; exact decide_eq_decide.2 (mem_sortS _ _)]
    by_cases hin : t ∈ inP u o.teams
    rotate_left
    · rw [decide_eq_false hin, show outM t u o = (111, o) from if_pos hin]
      rintro v Γ' ⟨rfl, rfl⟩
      (repeat (first | refine GK.ro ?_ | (refine GK.box ?_; intro bl) | (refine GK.mkMap ?_; intro bm) | (refine GK.build0 tb ?_; intro bs)))
      exact GQ.fin1 rfl (Rv.tmp rfl) (Γ' := [pblk b mu mo, mp mu (encU P.users), mp mo (encO os), oblk a mi mr, mp mi (encT l), star (l.map teamC), mp mr (encV o.roles)]) (fun _ s => Sat.sub SubR.o s) ⟨rfl, l, hl, rfl⟩
    · obtain ⟨c, hc⟩ := there_adr (l := l) (t := t) (by rw [strip_names hl]; exact inP_names hin)
      obtain ⟨i, mem, f1, f2, f3⟩ := findT_some hc
      rw [hl] at f2
      rw [decide_eq_true hin, show outM t u o = (0, ⟨updT o.teams t (udel mem u), o.roles⟩) from by unfold outM; rw [if_neg (fun h => h hin), f2]; rfl]
      rintro v Γ' ⟨rfl, rfl⟩
      (repeat (first | refine GK.ro ?_ | (refine GK.box ?_; intro bl) | (refine GK.mkMap ?_; intro bm) | (refine GK.build0 tb ?_; intro bs)))
      refine GK.heap (Γ' := [pblk b mu mo, mp mu (encU P.users), mp mo (encO os), oblk a mi mr, mp mi (encT l), star (l.map teamC), mp mr (encV o.roles)]) (fun _ s => Sat.sub SubR.o s) ?_
      refine GL.cons ?_; refine GO.yield Wt.o (Yl.look1 4 (KeyT.str rfl) rfl rfl rfl rfl rfl (encT_getD l t)) ?_
      rw [hc]
      (repeat (first | refine GK.ro ?_ | (refine GK.box ?_; intro bl) | (refine GK.mkMap ?_; intro bm) | (refine GK.build0 tb ?_; intro bs)))
      refine GK.heap (Γ' := [teamC (t, c, mem), star ((l.map teamC).eraseIdx i), pblk b mu mo, mp mu (encU P.users), mp mo (encO os), oblk a mi mr, mp mi (encT l), mp mr (encV o.roles)]) (fun w s => Sat.pullM f1 (Sl.Sat.sub SubR.o s)) ?_
      refine GL.cons ?_; refine GO.mapDelete 0 Wt.o (KeyT.str rfl) rfl rfl rfl rfl ?_
      rw [enc_udel]
      (repeat (first | refine GK.ro ?_ | (refine GK.box ?_; intro bl) | (refine GK.mkMap ?_; intro bm) | (refine GK.build0 tb ?_; intro bs)))
      obtain ⟨f4, f5⟩ := f3 (udel mem u)
      refine GQ.fin1 rfl (Rv.tmp rfl) (Γ' := [pblk b mu mo, mp mu (encU P.users), mp mo (encO os), oblk a mi mr, mp mi (encT (l.set i (t, c, udel mem u))), star ((l.set i (t, c, udel mem u)).map teamC), mp mr (encV o.roles)]) (fun w s => ?_) ⟨rfl, l.set i (t, c, udel mem u), by rw [f4, hl], rfl⟩
      rw [f5]
      exact Sl.Sat.sub SubR.o (Sat.putM (f := teamC) (y := (t, c, udel mem u)) (List.getElem?_eq_some_iff.1 f1).1 s)
end Go.Pe
