/- People: subjects alike; the chapter's example. -/
import Derived.Test.YtnealcbmgflaaaaPeM
set_option linter.unusedSimpArgs false
set_option linter.unusedVariables false
namespace Go.Pe
open Go Go.Sl Go.Ls
set_option maxRecDepth 100000
theorem Sat.pool_emp {Γ : List HProp} {hF : Hp} {w : World} (h : Sat Γ hF w) : Sat (poolOf emp :: Γ) hF w := by
  obtain ⟨hs, a, q, c, d⟩ := h
  refine ⟨emp :: hs, ⟨rfl, a⟩, ⟨fun b => .inr rfl, fun k _ b => .inl rfl, q⟩, c, fun k hk => ?_⟩
  rcases List.mem_cons.1 hk with rfl | hk
  · intro b o e; cases e
  · exact d k hk
def ann : By := [97, 110, 110]
def bob : By := [98, 111, 98]
def org : By := [111, 114, 103]
def tt : By := [116]
def E1 : Pp := ⟨[ann], []⟩
def E2 : Pp := ⟨[ann, bob], []⟩
def E3 : Pp := ⟨[ann, bob], [(org, ⟨[], [(ann, 2)]⟩)]⟩
def E4 : Pp := ⟨[ann, bob], [(org, ⟨[], [(ann, 2), (bob, 1)]⟩)]⟩
def E5 : Pp := ⟨[ann, bob], [(org, ⟨[(tt, [])], [(ann, 2), (bob, 1)]⟩)]⟩
def E6 : Pp := ⟨[ann, bob], [(org, ⟨[(tt, [bob])], [(ann, 2), (bob, 1)]⟩)]⟩
theorem ex1 : addUserM ⟨[], []⟩ ann = (0, E1) := rfl
theorem ex2 : addUserM E1 bob = (0, E2) := rfl
theorem ex3 : addOrgM E2 org ann = (0, E3) := rfl
theorem ex4 : onO E3 org (leaveM ann) = (151, E3) := rfl
theorem ex5 : onO E3 org (joinM E3.users bob 1) = (0, E4) := rfl
theorem ex6 : onO E4 org (addTeamM tt) = (0, E5) := rfl
theorem ex7 : onO E5 org (putM tt bob) = (0, E6) := rfl
theorem ex8 : subTeams E6 org bob = [tt] := by
  show sortS (inP bob [(tt, [bob])]) = _
  decide +kernel
theorem ex9 : subRole E6 org bob = 1 := rfl
theorem small_of {P : Pp} (h1 : P.users.length ≤ 9) (h2 : P.orgs.length ≤ 9) (h3 : ∀ x ∈ P.orgs, x.2.teams.length ≤ 9 ∧ x.2.roles.length ≤ 9) : Small P := Sz.small (k := 9) ⟨h1, h2, h3⟩ (by omega)
theorem sm3 : Small E3 := small_of (by decide) (by decide) (by decide)
theorem sm6 : Small E6 := small_of (by decide) (by decide) (by decide)
theorem sm5 : Small E5 := small_of (by decide) (by decide) (by decide)
theorem strs1 (p : By) : strs [p] = [str p] := rfl
theorem subC_get (u : By) (tv : Value) (r : Int) : (subC u tv r)[0 + 0]? = some (str u) ∧ (subC u tv r)[0 + 1]? = some tv ∧ (subC u tv r)[0 + 2]? = some (.int .i64 r) := ⟨rfl, rfl, rfl⟩
set_option maxRecDepth 100000
set_option maxHeartbeats 4000000
attribute [local irreducible] GK GO Yl Wt Ef Hd GH KH wpListIn Code.wpIn toBody roundQ poolOf rs RS YieldOk IterOk VOk row star exs mp lp Sat pt FnOk Rd bodyPost bodyPostM Lv Ret Exit.then Exit.inBlock Exit.noGoto Int.decLt Int.decLe Int.instDecidableEq
attribute [local irreducible] u8s strs likeTo rng rngAt keys encU encT encV encO inT freshM unitV Pa.nameM lastM vset vdel vget inP teamErr actC acts people onO joinM leaveM addTeamM putM outM addUserM addOrgM subTeams subRole E1 E2 E3 E4 E5 E6
set_option pp.deepTerms true
set_option pp.maxSteps 1000000
variable {hF H : Hp}
theorem sameS_ok {u1 u2 : By} {t1 t2 : List By} {r1 r2 : Int} {v1 v2 : Value} (h1 : rs H v1 t1.length 1 (strs t1)) (h2 : rs H v2 t2.length 1 (strs t2)) (n1 : t1.length ≤ 140737488355328) (n2 : t2.length ≤ 140737488355328) :
    FnOk Go.Proofs.Try.prog 18 [.agg ⟨subC u1 v1 r1⟩, .agg ⟨subC u2 v2 r2⟩] [poolOf H] hF (fun v Γ => v = .bool (decide (u1 = u2 ∧ r1 = r2 ∧ t1 = t2)) ∧ Γ = [poolOf H]) := by
  obtain ⟨a0, a1, a2⟩ := subC_get u1 v1 r1
  obtain ⟨b0, b1, b2⟩ := subC_get u2 v2 r2
  refine FnOk.intro 24 Go.Proofs.Try.func18 rfl rfl fun w0 => ?_
  by_cases hu : u1 = u2
  rotate_left
  · have hb : (u1 == u2) = false := by simp [hu]
    rw [decide_eq_false (fun h => hu h.1)]
    (repeat (first | refine GK.ro ?_ | (refine GK.box ?_; intro bl) | (refine GK.mkMap ?_; intro bm) | (refine GK.build0 tb ?_; intro bs)))
    exact GQ.fin1 rfl (Rv.tmp rfl) (fun _ s => Sat.sub SubR.o s) ⟨rfl, rfl⟩
  have hb : (u1 == u2) = true := by simp [hu]
  by_cases hr : r1 = r2
  rotate_left
  · rw [decide_eq_false (fun h => hr h.2.1)]
    have hd : decide (r1 = r2) = false := decide_eq_false hr
    (repeat (first | refine GK.ro ?_ | (refine GK.box ?_; intro bl) | (refine GK.mkMap ?_; intro bm) | (refine GK.build0 tb ?_; intro bs)))
    exact GQ.fin1 rfl (Rv.tmp rfl) (fun _ s => Sat.sub SubR.o s) ⟨rfl, rfl⟩
  have hd : decide (r1 = r2) = true := decide_eq_true hr
  (repeat (first | refine GK.ro ?_ | (refine GK.box ?_; intro bl) | (refine GK.mkMap ?_; intro bm) | (refine GK.build0 tb ?_; intro bs)))
  refine GL.cons ?_; refine GO.callA (fun hF' hle hH => texts_ok h1 h2 n1 n2) Wt.o (by kernel_rfl) rfl rfl SubR.o ?_
  rintro v Γ' ⟨rfl, rfl⟩
  (repeat (first | refine GK.ro ?_ | (refine GK.box ?_; intro bl) | (refine GK.mkMap ?_; intro bm) | (refine GK.build0 tb ?_; intro bs)))
  refine GQ.fin1 rfl (Rv.tmp rfl) (fun _ s => Sat.sub SubR.o s) ⟨?_, rfl⟩
  congr 1
  simp [hu, hr]
theorem lives_ok : FnOk Go.Proofs.Try.prog 9 [] [] hF (fun v Γ => v = .bool true ∧ Γ = []) := by
  refine FnOk.intro 53 Go.Proofs.Try.func9 rfl rfl fun w0 => ?_
  (repeat (first | refine GK.ro ?_ | (refine GK.box ?_; intro bl) | (refine GK.mkMap ?_; intro bm) | (refine GK.build0 tb ?_; intro bs)))
  refine GL.cons ?_; refine GO.callA (fun hF' hle hH => new_ok) Wt.o (by kernel_rfl) rfl rfl SubR.o ?_
  rintro v Γ' ⟨b, rfl, rfl⟩
  (repeat (first | refine GK.ro ?_ | (refine GK.box ?_; intro bl) | (refine GK.mkMap ?_; intro bm) | (refine GK.build0 tb ?_; intro bs)))
  refine GL.cons ?_; refine GO.callA (fun hF' hle hH => addUser_ok (P := ⟨[], []⟩) (u := ann) (Nat.le_of_ble_eq_true rfl)) Wt.o (by kernel_rfl) rfl rfl SubR.o ?_
  rw [ex1]
  rintro v Γ' ⟨rfl, rfl⟩
  (repeat (first | refine GK.ro ?_ | (refine GK.box ?_; intro bl) | (refine GK.mkMap ?_; intro bm) | (refine GK.build0 tb ?_; intro bs)))
  refine GL.cons ?_; refine GO.callA (fun hF' hle hH => addUser_ok (P := E1) (u := bob) (Nat.le_of_ble_eq_true rfl)) Wt.o (by kernel_rfl) rfl rfl SubR.o ?_
  rw [ex2]
  rintro v Γ' ⟨rfl, rfl⟩
  (repeat (first | refine GK.ro ?_ | (refine GK.box ?_; intro bl) | (refine GK.mkMap ?_; intro bm) | (refine GK.build0 tb ?_; intro bs)))
  refine GL.cons ?_; refine GO.callA (fun hF' hle hH => addOrg_ok (P := E2) (n := org) (owner := ann) (Nat.le_of_ble_eq_true rfl)) Wt.o (by kernel_rfl) rfl rfl SubR.o ?_
  rw [ex3]
  rintro v Γ' ⟨rfl, rfl⟩
  (repeat (first | refine GK.ro ?_ | (refine GK.box ?_; intro bl) | (refine GK.mkMap ?_; intro bm) | (refine GK.build0 tb ?_; intro bs)))
  refine GL.cons ?_; refine GO.callA (fun hF' hle hH => leave_ok (P := E3) (n := org) (u := ann) (sm3.r org) (fun o h => by unfold E3 at h; cases h; exact List.nodup_nil)) Wt.o (by kernel_rfl) rfl rfl SubR.o ?_
  rw [ex4]
  rintro v Γ' ⟨rfl, rfl⟩
  (repeat (first | refine GK.ro ?_ | (refine GK.box ?_; intro bl) | (refine GK.mkMap ?_; intro bm) | (refine GK.build0 tb ?_; intro bs)))
  refine GL.cons ?_; refine GO.callA (fun hF' hle hH => join_ok (P := E3) (n := org) (u := bob) (r := 1) (sm3.r org)) Wt.o (by kernel_rfl) rfl rfl SubR.o ?_
  rw [ex5]
  rintro v Γ' ⟨rfl, rfl⟩
  (repeat (first | refine GK.ro ?_ | (refine GK.box ?_; intro bl) | (refine GK.mkMap ?_; intro bm) | (refine GK.build0 tb ?_; intro bs)))
  refine GL.cons ?_; refine GO.callA (fun hF' hle hH => addTeam_ok (P := E4) (n := org) (t := tt) (Nat.le_of_ble_eq_true rfl)) Wt.o (by kernel_rfl) rfl rfl SubR.o ?_
  rw [ex6]
  rintro v Γ' ⟨rfl, rfl⟩
  (repeat (first | refine GK.ro ?_ | (refine GK.box ?_; intro bl) | (refine GK.mkMap ?_; intro bm) | (refine GK.build0 tb ?_; intro bs)))
  refine GL.cons ?_; refine GO.callA (fun hF' hle hH => put_ok (P := E5) (n := org) (t := tt) (u := bob) (sm5.t org)) Wt.o (by kernel_rfl) rfl rfl SubR.o ?_
  rw [ex7]
  rintro v Γ' ⟨rfl, rfl⟩
  (repeat (first | refine GK.ro ?_ | (refine GK.box ?_; intro bl) | (refine GK.mkMap ?_; intro bm) | (refine GK.build0 tb ?_; intro bs)))
  refine GL.cons ?_; refine GO.callA (fun hF' hle hH => subject_ok (P := E6) (n := org) (u := bob) sm6) Wt.o (by kernel_rfl) rfl rfl SubR.o ?_
  rw [ex8, ex9]
  rintro v Γ' ⟨ex, ⟨p, c, rfl, rfl⟩, rfl⟩
  (repeat (first | refine GK.ro ?_ | (refine GK.box ?_; intro bl) | (refine GK.mkMap ?_; intro bm) | (refine GK.build0 tb ?_; intro bs)))
  refine GL.cons ?_; refine Gt.buildLit tb (sz := 0) (n := 0) Wt.o rfl rfl (by kernel_rfl) rfl rfl rfl rfl rfl rfl ?_
  intro bx
  (repeat (first | refine GK.ro ?_ | (refine GK.box ?_; intro bl) | (refine GK.mkMap ?_; intro bm) | (refine GK.build0 tb ?_; intro bs)))
  refine GK.heap (Γ' := [poolOf emp, row (.slice p [tt].length c) 9 1 [tt].length (strs [tt]), blk bx 9 (0, 0) [str tt], people b E6]) (fun w s => Sl.Sat.sub SubR.o (Sat.pool_emp s)) ?_
  refine GK.absorb fun H1 k1 l1 a1 m1 => ?_
  refine GK.absorb fun H2 k2 l2 a2 m2 => ?_
  have hy := (row_in a1 m1).mono l2
  have hn : rs H2 (.slice (some ⟨bx, 0, none⟩) [tt].length 1) [tt].length 1 (strs [tt]) := rs.mk (Nat.le_refl _) (by rw [strs_len]; rfl) fun _ => ⟨bx, 0, _, _, _, rfl, pt_in a2 m2, (by rw [strs1]; exact At.all _)⟩
  refine GL.cons ?_; refine GO.callA (fun hF' hle hH => sameS_ok (u1 := bob) (u2 := bob) (r1 := 1) (r2 := 1) (t1 := [tt]) (t2 := [tt]) hy hn (Nat.le_of_ble_eq_true rfl) (Nat.le_of_ble_eq_true rfl)) Wt.o (by kernel_rfl) rfl rfl SubR.o ?_
  rw [decide_eq_true (⟨rfl, rfl, rfl⟩ : bob = bob ∧ (1 : Int) = 1 ∧ [tt] = [tt])]
  rintro v Γ' ⟨rfl, rfl⟩
  (repeat (first | refine GK.ro ?_ | (refine GK.box ?_; intro bl) | (refine GK.mkMap ?_; intro bm) | (refine GK.build0 tb ?_; intro bs)))
  exact GQ.fin1 rfl (Rv.tmp rfl) (fun _ s => Sat.sub SubR.o s) ⟨rfl, rfl⟩
end Go.Pe
