/- People: acts. -/
import Derived.Test.YtnealcbmgflaaaaPeL
set_option linter.unusedSimpArgs false
set_option linter.unusedVariables false
namespace Go.Pe
open Go Go.Sl Go.Ls
set_option maxRecDepth 100000
structure Ac where
  k : Int
  o : By
  t : By
  u : By
  r : Int
def actC (x : Ac) : List Value := [.int .i64 x.k, str x.o, str x.t, str x.u, .int .i64 x.r]
def acts (l : List Ac) : List Value := l.flatMap actC
structure Ac.Ok (x : Ac) : Prop where
  o : x.o.length ≤ 140737488355328
  t : x.t.length ≤ 140737488355328
  u : x.u.length ≤ 140737488355328
theorem acts_len (l : List Ac) : (acts l).length = l.length * 5 := by unfold acts; exact flatMap_len (fun _ => rfl)
theorem acts_at {l : List Ac} {i : Nat} {a : Ac} (h : l[i]? = some a) : At (acts l) (i * 5) (actC a) := by unfold acts; exact flatMap_at (f := actC) (fun _ => rfl) h
theorem at_trans {cs A B : List Value} {o k : Nat} (h1 : At cs o A) (h2 : At A k B) : At cs (o + k) B := fun j v hv => by
  have := h1 (k + j) v (h2 j v hv)
  rw [show o + k + j = o + (k + j) by omega]; exact this
theorem actC_one (x : Ac) : ∀ u ∈ actC x, u.oneCell' = true := one_of_all rfl
def doM (P : Pp) (x : Ac) : Int × Pp :=
  if x.k = 0 then addUserM P x.u else if x.k = 1 then addOrgM P x.o x.u else if x.k = 2 then onO P x.o (joinM P.users x.u x.r) else if x.k = 3 then onO P x.o (leaveM x.u)
  else if x.k = 4 then onO P x.o (addTeamM x.t) else if x.k = 5 then onO P x.o (putM x.t x.u) else onO P x.o (outM x.t x.u)
theorem PInv.doM {P : Pp} {x : Ac} (h : PInv P) : PInv (doM P x).2 := by
  unfold Pe.doM
  split
  · exact h.addUser
  split
  · exact h.addOrg
  split
  · exact h.at1 fun o ho => ho.join
  split
  · exact h.at1 fun o ho => ho.leave
  split
  · exact h.at1 fun o ho => ho.team
  split
  · exact h.at1 fun o ho => ho.put
  · exact h.at1 fun o ho => ho.out
/-- No more than this many. -/
structure Sz (P : Pp) (k : Nat) : Prop where
  u : P.users.length ≤ k
  o : P.orgs.length ≤ k
  i : ∀ x ∈ P.orgs, x.2.teams.length ≤ k ∧ x.2.roles.length ≤ k
theorem Sz.nil : Sz ⟨[], []⟩ 0 := ⟨Nat.le_refl _, Nat.le_refl _, by simp⟩
theorem Sz.small {P : Pp} {k : Nat} (h : Sz P k) (hk : k ≤ 1099511627776) : Small P :=
  ⟨by have := h.u; omega, by have := h.o; omega, fun n o ho => by have := (h.i _ (getO_mem ho)).1; dsimp only at this; omega, fun n o ho => by have := (h.i _ (getO_mem ho)).2; dsimp only at this; omega⟩
theorem Sz.more {P : Pp} {k : Nat} (h : Sz P k) : Sz P (k + 1) := ⟨by have := h.u; omega, by have := h.o; omega, fun x hx => by have := h.i x hx; omega⟩
theorem updT_len (L : List (By × List By)) (n : By) (o : List By) : (updT L n o).length = L.length := by
  have := congrArg List.length (updT_keys L n o); simpa using this
theorem Sz.at1 {P : Pp} {k : Nat} {n : By} {g : Og → Int × Og} (h : Sz P k) (hg : ∀ o : Og, (g o).2.teams.length ≤ o.teams.length + 1 ∧ (g o).2.roles.length ≤ o.roles.length + 1) : Sz (onO P n g).2 (k + 1) := by
  unfold onO
  cases hn : getO P.orgs n with
  | none => exact h.more
  | some o =>
    have hm := h.i _ (getO_mem hn)
    dsimp only at hm
    have hl : (updO P.orgs n (g o).2).length = P.orgs.length := by have := congrArg List.length (upd_keys P.orgs n (g o).2); simpa using this
    refine ⟨by have := h.u; show P.users.length ≤ k + 1; omega, by have := h.o; show (updO P.orgs n (g o).2).length ≤ k + 1; omega, fun x hx => ?_⟩
    rcases mem_upd hx with hx | rfl
    · have := h.i x hx; omega
    · have := hg o; dsimp only; omega
theorem Sz.doM {P : Pp} {x : Ac} {k : Nat} (h : Sz P k) : Sz (doM P x).2 (k + 1) := by
  unfold Pe.doM
  split
  · unfold addUserM
    dsimp only
    split
    · exact ⟨by have := addU_len P.users x.u; have := h.u; dsimp only; omega, by have := h.o; dsimp only; omega, fun y hy => by have := h.i y hy; omega⟩
    · exact h.more
  split
  · unfold addOrgM
    dsimp only
    split
    · refine ⟨by have := h.u; dsimp only; omega, by have := h.o; dsimp only; rw [List.length_append]; simp; omega, fun y hy => ?_⟩
      rcases List.mem_append.1 hy with hy | hy
      · have := h.i y hy; omega
      · rw [List.mem_singleton.1 hy]; simp
    · exact h.more
  split
  · refine h.at1 fun o => ?_
    unfold joinM
    split
    · dsimp only; omega
    split
    · dsimp only; omega
    split
    · dsimp only; omega
    · have := vset_len o.roles x.u x.r; dsimp only; omega
  split
  · refine h.at1 fun o => ?_
    unfold leaveM
    split
    · dsimp only; omega
    split
    · dsimp only; omega
    · have := vdel_len o.roles x.u; dsimp only; rw [List.length_map]; omega
  split
  · refine h.at1 fun o => ?_
    unfold addTeamM
    dsimp only
    split
    · dsimp only; rw [List.length_append]; simp
    · omega
  split
  · refine h.at1 fun o => ?_
    unfold putM
    split
    · dsimp only; omega
    split
    · dsimp only; omega
    · dsimp only; rw [updT_len]; omega
  · refine h.at1 fun o => ?_
    unfold outM
    split
    · dsimp only; omega
    · dsimp only; rw [updT_len]; omega
theorem acC_get (x : Ac) : (actC x)[0 + 0]? = some (.int .i64 x.k) ∧ (actC x)[0 + 1]? = some (str x.o) ∧ (actC x)[0 + 2]? = some (str x.t) ∧ (actC x)[0 + 3]? = some (str x.u) ∧ (actC x)[0 + 4]? = some (.int .i64 x.r) := ⟨rfl, rfl, rfl, rfl, rfl⟩
theorem acC_len (x : Ac) : (actC x).length = 5 := rfl
set_option maxRecDepth 100000
set_option maxHeartbeats 4000000
attribute [local irreducible] GK GO Yl Wt Ef Hd GH KH wpListIn Code.wpIn toBody roundQ poolOf rs RS YieldOk IterOk VOk row star exs mp lp Sat pt FnOk Rd bodyPost bodyPostM Lv Ret Exit.then Exit.inBlock Exit.noGoto Int.decLt Int.decLe Int.instDecidableEq
attribute [local irreducible] u8s strs likeTo rng rngAt keys encU encT encV encO inT freshM unitV Pa.nameM lastM vset vdel vget inP teamErr actC acts people onO joinM leaveM addTeamM putM outM addUserM addOrgM
set_option pp.deepTerms true
set_option pp.maxSteps 1000000
variable {hF H : Hp} {b : Nat} {P : Pp}
theorem do_ok {x : Ac} (hx : x.Ok) (hi : PInv P) (hm : Small P) : FnOk Go.Proofs.Try.prog 11 [.pointer (some ⟨b, 0, none⟩), .agg ⟨actC x⟩] [people b P] hF (fun v Γ => v = .int .i64 (doM P x).1 ∧ Γ = [people b (doM P x).2]) := by
  obtain ⟨c0, c1, c2, c3, c4⟩ := acC_get x
  have hu := hx.u
  have ho := hx.o
  have ht := hx.t
  have hnd : ∀ o, getO P.orgs x.o = some o → (o.teams.map (·.1)).Nodup := fun o h => (hi.o _ (getO_mem h)).tn
  refine FnOk.intro 65 Go.Proofs.Try.func11 rfl rfl fun w0 => ?_
  (repeat (first | refine GK.ro ?_ | (refine GK.box ?_; intro bl) | (refine GK.mkMap ?_; intro bm) | (refine GK.build0 tb ?_; intro bs)))
  by_cases k0 : x.k = 0
  · rw [show doM P x = addUserM P x.u from if_pos k0]
    (repeat (first | refine GK.ro ?_ | (refine GK.box ?_; intro bl) | (refine GK.mkMap ?_; intro bm) | (refine GK.build0 tb ?_; intro bs)))
    refine GL.cons ?_; refine GO.callA (fun hF' hle hH => addUser_ok (u := x.u) (by omega)) Wt.o (by kernel_rfl) rfl rfl SubR.o ?_
    rintro v Γ' ⟨rfl, rfl⟩
    (repeat (first | refine GK.ro ?_ | (refine GK.box ?_; intro bl) | (refine GK.mkMap ?_; intro bm) | (refine GK.build0 tb ?_; intro bs)))
    exact GQ.fin1 rfl (Rv.tmp rfl) (fun _ s => Sat.sub SubR.o s) ⟨rfl, rfl⟩
  by_cases k1 : x.k = 1
  · rw [show doM P x = addOrgM P x.o x.u from (if_neg k0).trans (if_pos k1)]
    (repeat (first | refine GK.ro ?_ | (refine GK.box ?_; intro bl) | (refine GK.mkMap ?_; intro bm) | (refine GK.build0 tb ?_; intro bs)))
    refine GL.cons ?_; refine GO.callA (fun hF' hle hH => addOrg_ok (n := x.o) (owner := x.u) (by omega)) Wt.o (by kernel_rfl) rfl rfl SubR.o ?_
    rintro v Γ' ⟨rfl, rfl⟩
    (repeat (first | refine GK.ro ?_ | (refine GK.box ?_; intro bl) | (refine GK.mkMap ?_; intro bm) | (refine GK.build0 tb ?_; intro bs)))
    exact GQ.fin1 rfl (Rv.tmp rfl) (fun _ s => Sat.sub SubR.o s) ⟨rfl, rfl⟩
  by_cases k2 : x.k = 2
  · rw [show doM P x = onO P x.o (joinM P.users x.u x.r) from (if_neg k0).trans ((if_neg k1).trans (if_pos k2))]
    (repeat (first | refine GK.ro ?_ | (refine GK.box ?_; intro bl) | (refine GK.mkMap ?_; intro bm) | (refine GK.build0 tb ?_; intro bs)))
    refine GL.cons ?_; refine GO.callA (fun hF' hle hH => join_ok (n := x.o) (u := x.u) (r := x.r) (hm.r x.o)) Wt.o (by kernel_rfl) rfl rfl SubR.o ?_
    rintro v Γ' ⟨rfl, rfl⟩
    (repeat (first | refine GK.ro ?_ | (refine GK.box ?_; intro bl) | (refine GK.mkMap ?_; intro bm) | (refine GK.build0 tb ?_; intro bs)))
    exact GQ.fin1 rfl (Rv.tmp rfl) (fun _ s => Sat.sub SubR.o s) ⟨rfl, rfl⟩
  by_cases k3 : x.k = 3
  · rw [show doM P x = onO P x.o (leaveM x.u) from (if_neg k0).trans ((if_neg k1).trans ((if_neg k2).trans (if_pos k3)))]
    (repeat (first | refine GK.ro ?_ | (refine GK.box ?_; intro bl) | (refine GK.mkMap ?_; intro bm) | (refine GK.build0 tb ?_; intro bs)))
    refine GL.cons ?_; refine GO.callA (fun hF' hle hH => leave_ok (n := x.o) (u := x.u) (hm.r x.o) hnd) Wt.o (by kernel_rfl) rfl rfl SubR.o ?_
    rintro v Γ' ⟨rfl, rfl⟩
    (repeat (first | refine GK.ro ?_ | (refine GK.box ?_; intro bl) | (refine GK.mkMap ?_; intro bm) | (refine GK.build0 tb ?_; intro bs)))
    exact GQ.fin1 rfl (Rv.tmp rfl) (fun _ s => Sat.sub SubR.o s) ⟨rfl, rfl⟩
  by_cases k4 : x.k = 4
  · rw [show doM P x = onO P x.o (addTeamM x.t) from (if_neg k0).trans ((if_neg k1).trans ((if_neg k2).trans ((if_neg k3).trans (if_pos k4))))]
    (repeat (first | refine GK.ro ?_ | (refine GK.box ?_; intro bl) | (refine GK.mkMap ?_; intro bm) | (refine GK.build0 tb ?_; intro bs)))
    refine GL.cons ?_; refine GO.callA (fun hF' hle hH => addTeam_ok (n := x.o) (t := x.t) (by omega)) Wt.o (by kernel_rfl) rfl rfl SubR.o ?_
    rintro v Γ' ⟨rfl, rfl⟩
    (repeat (first | refine GK.ro ?_ | (refine GK.box ?_; intro bl) | (refine GK.mkMap ?_; intro bm) | (refine GK.build0 tb ?_; intro bs)))
    exact GQ.fin1 rfl (Rv.tmp rfl) (fun _ s => Sat.sub SubR.o s) ⟨rfl, rfl⟩
  by_cases k5 : x.k = 5
  · rw [show doM P x = onO P x.o (putM x.t x.u) from (if_neg k0).trans ((if_neg k1).trans ((if_neg k2).trans ((if_neg k3).trans ((if_neg k4).trans (if_pos k5)))))]
    (repeat (first | refine GK.ro ?_ | (refine GK.box ?_; intro bl) | (refine GK.mkMap ?_; intro bm) | (refine GK.build0 tb ?_; intro bs)))
    refine GL.cons ?_; refine GO.callA (fun hF' hle hH => put_ok (n := x.o) (t := x.t) (u := x.u) (hm.t x.o)) Wt.o (by kernel_rfl) rfl rfl SubR.o ?_
    rintro v Γ' ⟨rfl, rfl⟩
    (repeat (first | refine GK.ro ?_ | (refine GK.box ?_; intro bl) | (refine GK.mkMap ?_; intro bm) | (refine GK.build0 tb ?_; intro bs)))
    exact GQ.fin1 rfl (Rv.tmp rfl) (fun _ s => Sat.sub SubR.o s) ⟨rfl, rfl⟩
  · rw [show doM P x = onO P x.o (outM x.t x.u) from (if_neg k0).trans ((if_neg k1).trans ((if_neg k2).trans ((if_neg k3).trans ((if_neg k4).trans (if_neg k5)))))]
    (repeat (first | refine GK.ro ?_ | (refine GK.box ?_; intro bl) | (refine GK.mkMap ?_; intro bm) | (refine GK.build0 tb ?_; intro bs)))
    refine GL.cons ?_; refine GO.callA (fun hF' hle hH => out_ok (n := x.o) (t := x.t) (u := x.u) (hm.t x.o)) Wt.o (by kernel_rfl) rfl rfl SubR.o ?_
    rintro v Γ' ⟨rfl, rfl⟩
    (repeat (first | refine GK.ro ?_ | (refine GK.box ?_; intro bl) | (refine GK.mkMap ?_; intro bm) | (refine GK.build0 tb ?_; intro bs)))
    exact GQ.fin1 rfl (Rv.tmp rfl) (fun _ s => Sat.sub SubR.o s) ⟨rfl, rfl⟩
theorem few_ok {l : List Ac} {v : Value} (h : rs H v l.length 5 (acts l)) (hk : ∀ x ∈ l, x.Ok) (n1 : l.length ≤ 140737488355328) :
    FnOk Go.Proofs.Try.prog 8 [v] [poolOf H] hF (fun v Γ => (∃ b, v = .bool b ∧ (b = true → l.length ≤ 200)) ∧ Γ = [poolOf H]) := by
  obtain ⟨p, c, rfl, hc, hln, hr⟩ := rs.out h
  refine FnOk.intro 30 Go.Proofs.Try.func8 rfl rfl fun w0 => ?_
  (repeat (first | refine GK.ro ?_ | (refine GK.box ?_; intro bl) | (refine GK.mkMap ?_; intro bm) | (refine GK.build0 tb ?_; intro bs)))
  refine G.loopK (X := Nat × Int) [(6, _), (7, _)] (fun (i, u) => [(3, .int .i64 u), (8, .int .i64 (i : Int))]) (fun (i, _) => l.length - i) (fun _ => [poolOf H])
    (fun (i, u) => i ≤ l.length ∧ (i : Int) ≤ u ∧ u ≤ 200) (0, 0) ⟨Nat.zero_le _, by simp, by omega⟩ Sub.o (fun _ s => Sat.sub SubR.o s) (fun x hx q hq => ?_)
  obtain ⟨i, u⟩ := x
  obtain ⟨hi, hu1, hu2⟩ := hx
  dsimp only [List.cons_append, List.nil_append] at hq ⊢
  (repeat (first | refine GK.ro ?_ | (refine GK.box ?_; intro bl) | (refine GK.mkMap ?_; intro bm) | (refine GK.build0 tb ?_; intro bs)))
  (first | refine G.condP rfl (fun hb => ?_) (fun hb => ?_) | refine G.condN rfl (fun hb => ?_) (fun hb => ?_) | refine G.cond rfl (fun hb => ?_) (fun hb => ?_))
  · obtain ⟨x, hx⟩ : ∃ x, l[i]? = some x := ⟨_, List.getElem?_eq_getElem (by omega)⟩
    have hxk := hk x (List.mem_of_getElem? hx)
    obtain ⟨k0, k1, k2, k3, k4⟩ := acC_get x
    have hxo := hxk.o
    have hxt := hxk.t
    have hxu := hxk.u
    have hal := acC_len x
    have hao := actC_one x
    have haA : At (actC x) 0 (actC x) := At.all _
    have hlt : i < l.length := by omega
    clear hb
    obtain ⟨b1, o1, cs1, et1, fz1, rfl, hb1, hat1⟩ := hr (by omega)
    have hA : At cs1 (o1 + (i : Int).toNat * 5) (actC x) := at_trans hat1 (acts_at hx)
    (repeat (first | refine GK.ro ?_ | (refine GK.box ?_; intro bl) | (refine GK.mkMap ?_; intro bm) | (refine GK.build0 tb ?_; intro bs) | (refine GL.cons ?_; refine GO.alloc Wt.o (by exact rfl) ?_; intro ba) | (refine GL.cons ?_; refine Gt.storeAny tb 0 Wt.o (by exact rfl) (by exact rfl) (by exact rfl) (by assumption) (by assumption) (by exact rfl) (by first | exact rfl | assumption) ?_) | (refine GL.cons ?_; refine Gt.storeAny tb 1 Wt.o (by exact rfl) (by exact rfl) (by exact rfl) (by assumption) (by assumption) (by exact rfl) (by first | exact rfl | assumption) ?_) | (refine GL.cons ?_; refine Gt.storeAny tb 2 Wt.o (by exact rfl) (by exact rfl) (by exact rfl) (by assumption) (by assumption) (by exact rfl) (by first | exact rfl | assumption) ?_) | (refine GL.cons ?_; refine Gt.storeAny tb 3 Wt.o (by exact rfl) (by exact rfl) (by exact rfl) (by assumption) (by assumption) (by exact rfl) (by first | exact rfl | assumption) ?_) | (refine GL.cons ?_; refine Gt.storeAny tb 4 Wt.o (by exact rfl) (by exact rfl) (by exact rfl) (by assumption) (by assumption) (by exact rfl) (by first | exact rfl | assumption) ?_) | (refine GL.cons ?_; refine Gt.storeAny tb 5 Wt.o (by exact rfl) (by exact rfl) (by exact rfl) (by assumption) (by assumption) (by exact rfl) (by first | exact rfl | assumption) ?_) | (refine GL.cons ?_; refine Gt.storeAny tb 6 Wt.o (by exact rfl) (by exact rfl) (by exact rfl) (by assumption) (by assumption) (by exact rfl) (by first | exact rfl | assumption) ?_) | (refine GL.cons ?_; refine Gt.storeAny tb 7 Wt.o (by exact rfl) (by exact rfl) (by exact rfl) (by assumption) (by assumption) (by exact rfl) (by first | exact rfl | assumption) ?_) | (refine GL.cons ?_; refine Gt.storeAny tb 8 Wt.o (by exact rfl) (by exact rfl) (by exact rfl) (by assumption) (by assumption) (by exact rfl) (by first | exact rfl | assumption) ?_) | (refine GL.cons ?_; refine Gt.storeAny tb 9 Wt.o (by exact rfl) (by exact rfl) (by exact rfl) (by assumption) (by assumption) (by exact rfl) (by first | exact rfl | assumption) ?_)))
    (first | refine G.condP rfl (fun hb => ?_) (fun hb => ?_) | refine G.condN rfl (fun hb => ?_) (fun hb => ?_) | refine G.cond rfl (fun hb => ?_) (fun hb => ?_))
    · (repeat (first | refine GK.ro ?_ | (refine GK.box ?_; intro bl) | (refine GK.mkMap ?_; intro bm) | (refine GK.build0 tb ?_; intro bs)))
      exact GQ.fin1 rfl (Rv.tmp rfl) (fun _ s => Sat.sub SubR.o s) ⟨⟨false, rfl, fun h => by cases h⟩, rfl⟩
    · (repeat (first | refine GK.ro ?_ | (refine GK.box ?_; intro bl) | (refine GK.mkMap ?_; intro bm) | (refine GK.build0 tb ?_; intro bs)))
      (refine GQ.againN ((i + 1, u + (1 + (((x.o.length + x.t.length + x.u.length) / 100 : Nat) : Int)))) ?_ ?_ ?_ ?_; rotate_left; (first | omega | (dsimp only; omega)); exact Sub.o; exact (fun _ s => Sat.sub SubR.o s))
      exact ⟨by omega, by omega, by omega⟩
  · (repeat (first | refine GK.ro ?_ | (refine GK.box ?_; intro bl) | (refine GK.mkMap ?_; intro bm) | (refine GK.build0 tb ?_; intro bs)))
    exact GQ.fin1 rfl (Rv.tmp rfl) (fun _ s => Sat.sub SubR.o s) ⟨⟨true, rfl, fun _ => by omega⟩, rfl⟩
theorem holds_ok {l : List By} {p : Option Addr} {c : Nat} {s : By} (hl : l.length ≤ 1099511627776) :
    FnOk Go.Proofs.Try.prog 15 [.slice p l.length c, str s] [row (.slice p l.length c) 9 1 l.length (strs l)] hF (fun v Γ => v = .bool (decide (s ∈ l)) ∧ Γ = [row (.slice p l.length c) 9 1 l.length (strs l)]) := by
  refine FnOk.intro 17 Go.Proofs.Try.func15 rfl rfl fun w0 => ?_
  (repeat (first | refine GK.ro ?_ | (refine GK.box ?_; intro bl) | (refine GK.mkMap ?_; intro bm) | (refine GK.build0 tb ?_; intro bs)))
  refine G.loopK (X := Nat) [(1, _), (7, _), (8, _)] (fun j => [(9, .int .i64 (j : Int))]) (fun j => l.length - j) (fun _ => [row (.slice p l.length c) 9 1 l.length (strs l)]) (fun j => j ≤ l.length ∧ ∀ i < j, ∀ x, l[i]? = some x → x ≠ s) 0 ⟨Nat.zero_le _, fun i hi => by omega⟩ Sub.o (fun _ s => Sat.sub SubR.o s) (fun j hj q hq => ?_)
  obtain ⟨hj, hno⟩ := hj
  dsimp only [List.cons_append, List.nil_append] at hq ⊢
  (repeat (first | refine GK.ro ?_ | (refine GK.box ?_; intro bl) | (refine GK.mkMap ?_; intro bm) | (refine GK.build0 tb ?_; intro bs)))
  (first | refine G.condP rfl (fun hb => ?_) (fun hb => ?_) | refine G.condN rfl (fun hb => ?_) (fun hb => ?_) | refine G.cond rfl (fun hb => ?_) (fun hb => ?_))
  · obtain ⟨x, hx⟩ : ∃ x, l[j]? = some x := ⟨_, List.getElem?_eq_getElem (by omega)⟩
    refine GK.rowPtr 0 rfl (by omega) fun b3 hp => ?_
    subst hp
    have kx : (strs l)[0 + (j : Int).toNat * 1]? = some (str x) := by rw [show 0 + (j : Int).toNat * 1 = j by omega]; exact strs_get hx
    (repeat (first | refine GK.ro ?_ | (refine GK.box ?_; intro bl) | (refine GK.mkMap ?_; intro bm) | (refine GK.build0 tb ?_; intro bs)))
    by_cases he : x = s
    · have hb : (x == s) = true := by simp [he]
      (repeat (first | refine GK.ro ?_ | (refine GK.box ?_; intro bl) | (refine GK.mkMap ?_; intro bm) | (refine GK.build0 tb ?_; intro bs)))
      have : s ∈ l := he ▸ List.mem_of_getElem? hx
      exact GQ.fin1 rfl (Rv.tmp rfl) (fun _ s => Sat.sub SubR.o s) ⟨by rw [decide_eq_true this], rfl⟩
    · have hb : (x == s) = false := by simp [he]
      (repeat (first | refine GK.ro ?_ | (refine GK.box ?_; intro bl) | (refine GK.mkMap ?_; intro bm) | (refine GK.build0 tb ?_; intro bs)))
      (refine GQ.againN (j + 1) ?_ ?_ ?_ ?_; rotate_left; (first | omega | (dsimp only; omega)); exact Sub.o; exact (fun _ s => Sat.sub SubR.o s))
      refine ⟨by omega, fun i hi y hy => ?_⟩
      rcases Nat.lt_or_ge i j with h | h
      · exact hno i h y hy
      · obtain rfl : i = j := by omega
        rw [hx] at hy; cases hy; exact he
  · (repeat (first | refine GK.ro ?_ | (refine GK.box ?_; intro bl) | (refine GK.mkMap ?_; intro bm) | (refine GK.build0 tb ?_; intro bs)))
    have : s ∉ l := fun hm => by
      obtain ⟨i, hi⟩ := List.getElem?_of_mem hm
      exact hno i (by have := (List.getElem?_eq_some_iff.1 hi).1; omega) s hi rfl
    exact GQ.fin1 rfl (Rv.tmp rfl) (fun _ s => Sat.sub SubR.o s) ⟨by rw [decide_eq_false this], rfl⟩
end Go.Pe
