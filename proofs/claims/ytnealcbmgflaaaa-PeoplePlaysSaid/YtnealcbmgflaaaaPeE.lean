/- People: where they lie; users and organisations added. -/
import Derived.Test.YtnealcbmgflaaaaPeD
set_option linter.unusedSimpArgs false
set_option linter.unusedVariables false
namespace Go.Pe
open Go Go.Sl Go.Ls
set_option maxRecDepth 100000
/-- An organisation, plainly. -/
structure Og where
  teams : List (By × List By)
  roles : List (By × Int)
structure Pp where
  users : List By
  orgs : List (By × Og)
def strip (x : Tm) : By × List By := (x.1, x.2.2)
def oblk (a mi mr : Nat) : HProp := blk a 66 (0, 0) [.map (some mi), .map (some mr)]
def pblk (b mu mo : Nat) : HProp := blk b 50 (0, 0) [.map (some mu), .map (some mo)]
def orgL (a : Nat) (vs : List (By × Int)) (x : Nat × Nat × List Tm) : List HProp := [oblk a x.1 x.2.1, mp x.1 (encT x.2.2), star (x.2.2.map teamC), mp x.2.1 (encV vs)]
def orgC (a : Nat) (o : Og) : HProp := exs (fun x : Nat × Nat × List Tm => x.2.2.map strip = o.teams) (orgL a o.roles)
abbrev Ob := By × Nat × Og
def encO (os : List Ob) : Es := os.map fun x => (x.1, .pointer (some ⟨x.2.1, 0, none⟩))
def plainO (x : Ob) : By × Og := (x.1, x.2.2)
def obC (x : Ob) : HProp := orgC x.2.1 x.2.2
def peopleL (b : Nat) (us : List By) (x : Nat × Nat × List Ob) : List HProp := [pblk b x.1 x.2.1, mp x.1 (encU us), mp x.2.1 (encO x.2.2), star (x.2.2.map obC)]
def people (b : Nat) (P : Pp) : HProp := exs (fun x : Nat × Nat × List Ob => x.2.2.map plainO = P.orgs) (peopleL b P.users)
def findB (os : List Ob) (n : By) : Option Ob := os.find? fun x => decide (n = x.1)
theorem encO_get (os : List Ob) (n : By) : mget (encO os) n = (findB os n).map fun x => .pointer (some ⟨x.2.1, 0, none⟩) := by
  unfold findB
  induction os with
  | nil => rfl
  | cons x r ih =>
    show mget ((x.1, _) :: encO r) n = _
    rw [mget_cons, List.find?_cons]
    by_cases h : n = x.1
    · simp [h]
    · rw [if_neg h, ih, decide_eq_false h]
def adr (os : List Ob) (n : By) : Option Addr := (findB os n).map fun x => ⟨x.2.1, 0, none⟩
theorem encO_getD (os : List Ob) (n : By) : (mget (encO os) n).getD (.pointer none) = .pointer (adr os n) := by
  rw [encO_get]; unfold adr; cases findB os n <;> rfl
theorem findB_none {os : List Ob} {n : By} : findB os n = none ↔ n ∉ os.map (·.1) := by
  unfold findB
  rw [List.find?_eq_none]
  constructor
  · intro h hm
    obtain ⟨x, hx, rfl⟩ := List.mem_map.1 hm
    exact h x hx (by simp)
  · intro h x hx e
    have : n = x.1 := by simpa using e
    exact h (List.mem_map.2 ⟨x, hx, this.symm⟩)
theorem enc_addU (us : List By) (u : By) : mset (encU us) u unitV = encU (addU us u) := by
  induction us with
  | nil => simp [encU, addU, mset]
  | cons x r ih =>
    show mset ((x, unitV) :: encU r) u unitV = _
    unfold mset
    by_cases h : u = x
    · subst h; rw [if_pos rfl]; simp [addU, encU]
    · rw [if_neg h, ih]
      unfold addU
      by_cases h2 : u ∈ r
      · rw [if_pos h2, if_pos (List.mem_cons_of_mem _ h2)]; rfl
      · rw [if_neg h2, if_neg (by simp [h, h2])]; rfl
theorem freshM_ok {name : By} {t : Bool} {n m : Int} (h : freshM name t n m = 0) : t = false ∧ n < m ∧ Pa.nameM name = true := by
  unfold freshM at h
  split at h
  · cases h
  · rename_i h1
    split at h
    · cases h
    · rename_i h2
      split at h
      · cases h
      · rename_i h3
        exact ⟨by simpa using h2, by omega, by simpa using h1⟩
theorem encU_len (l : List By) : (encU l).length = l.length := by unfold encU; simp
theorem encO_len (l : List Ob) : (encO l).length = l.length := by unfold encO; simp
def addUserM (P : Pp) (u : By) : Int × Pp :=
  (freshM u (decide (u ∈ P.users)) P.users.length 64, if freshM u (decide (u ∈ P.users)) P.users.length 64 = 0 then ⟨addU P.users u, P.orgs⟩ else P)
def orgErr (P : Pp) (n owner : By) : Int :=
  if (freshM n (decide (n ∈ P.orgs.map (·.1))) P.orgs.length 8 = 0 ∨ freshM n (decide (n ∈ P.orgs.map (·.1))) P.orgs.length 8 = 3) ∧ owner ∉ P.users then 111 else freshM n (decide (n ∈ P.orgs.map (·.1))) P.orgs.length 8
def addOrgM (P : Pp) (n owner : By) : Int × Pp := (orgErr P n owner, if orgErr P n owner = 0 then ⟨P.users, P.orgs ++ [(n, ⟨[], [(owner, 2)]⟩)]⟩ else P)
theorem plain_names (os : List Ob) : (os.map plainO).map (·.1) = os.map (·.1) := by rw [List.map_map]; rfl
set_option maxRecDepth 100000
set_option maxHeartbeats 4000000
attribute [local irreducible] GK GO Yl Wt Ef Hd GH KH wpListIn Code.wpIn toBody roundQ poolOf rs RS YieldOk IterOk VOk row star exs mp lp Sat pt FnOk Rd bodyPost bodyPostM Lv Ret Exit.then Exit.inBlock Exit.noGoto Int.decLt Int.decLe Int.instDecidableEq
attribute [local irreducible] u8s strs likeTo rng rngAt keys encU encT encV encO inT freshM unitV Pa.nameM
set_option pp.deepTerms true
set_option pp.maxSteps 1000000
variable {hF H : Hp}
theorem none_nil : FnOk Go.Proofs.Try.prog 31 [.pointer none] [] hF (fun v Γ => v = .bool true ∧ Γ = []) := by
  refine FnOk.intro 12 Go.Proofs.Try.func31 rfl rfl fun w0 => ?_
  (repeat (first | refine GK.ro ?_ | (refine GK.box ?_; intro bl) | (refine GK.mkMap ?_; intro bm) | (refine GK.build0 tb ?_; intro bs)))
  exact GQ.fin1 rfl (Rv.tmp rfl) (fun _ s => Sat.sub SubR.o s) ⟨rfl, rfl⟩
theorem none_zero {b : Nat} : FnOk Go.Proofs.Try.prog 31 [.pointer (some ⟨b, 0, none⟩)] [blk b 50 (0, 0) [.map none, .map none]] hF (fun v Γ => v = .bool true ∧ Γ = [blk b 50 (0, 0) [.map none, .map none]]) := by
  refine FnOk.intro 12 Go.Proofs.Try.func31 rfl rfl fun w0 => ?_
  (repeat (first | refine GK.ro ?_ | (refine GK.box ?_; intro bl) | (refine GK.mkMap ?_; intro bm) | (refine GK.build0 tb ?_; intro bs)))
  exact GQ.fin1 rfl (Rv.tmp rfl) (fun _ s => Sat.sub SubR.o s) ⟨rfl, rfl⟩
theorem none_ok {b mu mo : Nat} : FnOk Go.Proofs.Try.prog 31 [.pointer (some ⟨b, 0, none⟩)] [pblk b mu mo] hF (fun v Γ => v = .bool false ∧ Γ = [pblk b mu mo]) := by
  refine FnOk.intro 12 Go.Proofs.Try.func31 rfl rfl fun w0 => ?_
  (repeat (first | refine GK.ro ?_ | (refine GK.box ?_; intro bl) | (refine GK.mkMap ?_; intro bm) | (refine GK.build0 tb ?_; intro bs)))
  exact GQ.fin1 rfl (Rv.tmp rfl) (fun _ s => Sat.sub SubR.o s) ⟨rfl, rfl⟩
theorem user_ok {b mu mo : Nat} {us : List By} {u : By} : FnOk Go.Proofs.Try.prog 49 [.pointer (some ⟨b, 0, none⟩), str u] [pblk b mu mo, mp mu (encU us)] hF (fun v Γ => v = .bool (decide (u ∈ us)) ∧ Γ = [pblk b mu mo, mp mu (encU us)]) := by
  obtain ⟨g1, g2⟩ := encU_get us u
  refine FnOk.intro 17 Go.Proofs.Try.func49 rfl rfl fun w0 => ?_
  (repeat (first | refine GK.ro ?_ | (refine GK.box ?_; intro bl) | (refine GK.mkMap ?_; intro bm) | (refine GK.build0 tb ?_; intro bs)))
  refine GL.cons ?_; refine GO.yield Wt.o (Yl.look2 1 (KeyT.str rfl) rfl (by kernel_rfl) rfl rfl rfl g1 g2) ?_
  unfold unitV
  (repeat (first | refine GK.ro ?_ | (refine GK.box ?_; intro bl) | (refine GK.mkMap ?_; intro bm) | (refine GK.build0 tb ?_; intro bs)))
  refine GL.cons ?_; refine GO.alloc Wt.o (by exact rfl) ?_
  intro ba
  (repeat (first | refine GK.ro ?_ | (refine GK.box ?_; intro bl) | (refine GK.mkMap ?_; intro bm) | (refine GK.build0 tb ?_; intro bs)))
  refine GL.cons ?_; refine Gt.storeAny tb 0 Wt.o rfl rfl rfl rfl no_one rfl rfl ?_
  (repeat (first | refine GK.ro ?_ | (refine GK.box ?_; intro bl) | (refine GK.mkMap ?_; intro bm) | (refine GK.build0 tb ?_; intro bs)))
  exact GQ.fin1 rfl (Rv.tmp rfl) (fun _ s => Sat.sub SubR.o s) ⟨rfl, rfl⟩
theorem at_ok {b mu mo : Nat} {os : List Ob} {n : By} : FnOk Go.Proofs.Try.prog 33 [.pointer (some ⟨b, 0, none⟩), str n] [pblk b mu mo, mp mo (encO os)] hF (fun v Γ => v = .pointer (adr os n) ∧ Γ = [pblk b mu mo, mp mo (encO os)]) := by
  refine FnOk.intro 13 Go.Proofs.Try.func33 rfl rfl fun w0 => ?_
  (repeat (first | refine GK.ro ?_ | (refine GK.box ?_; intro bl) | (refine GK.mkMap ?_; intro bm) | (refine GK.build0 tb ?_; intro bs)))
  refine GL.cons ?_; refine GO.callA (fun hF' hle hH => none_ok) Wt.o (by kernel_rfl) rfl rfl SubR.o ?_
  rintro v Γ' ⟨rfl, rfl⟩
  (repeat (first | refine GK.ro ?_ | (refine GK.box ?_; intro bl) | (refine GK.mkMap ?_; intro bm) | (refine GK.build0 tb ?_; intro bs)))
  refine GL.cons ?_; refine GO.yield Wt.o (Yl.look1 1 (KeyT.str rfl) rfl rfl rfl rfl rfl (encO_getD os n)) ?_
  (repeat (first | refine GK.ro ?_ | (refine GK.box ?_; intro bl) | (refine GK.mkMap ?_; intro bm) | (refine GK.build0 tb ?_; intro bs)))
  exact GQ.fin1 rfl (Rv.tmp rfl) (fun _ s => Sat.sub SubR.o s) ⟨rfl, rfl⟩
theorem new_ok : FnOk Go.Proofs.Try.prog 10 [] [] hF (fun v Γ => ∃ b, v = .pointer (some ⟨b, 0, none⟩) ∧ Γ = [people b ⟨[], []⟩]) := by
  refine FnOk.intro 5 Go.Proofs.Try.func10 rfl rfl fun w0 => ?_
  (repeat (first | refine GK.ro ?_ | (refine GK.box ?_; intro bl) | (refine GK.mkMap ?_; intro bm) | (refine GK.build0 tb ?_; intro bs)))
  rename_i bm2
  refine GQ.fin1 rfl (Rv.tmp rfl) (Γ' := [people bl ⟨[], []⟩]) (fun w s => ?_) ⟨bl, rfl, rfl⟩
  have s2 : Sat [blk bl 50 (0, 0) [.map (some bm2), .map (some bm)], pt bm (Obj.map #[] 0), pt bm2 (Obj.map #[] 0)] hF w := s
  have s3 := Sat.mp_new (α := By) (s2.perm (.trans (.swap _ _ _) (.cons _ (.swap _ _ _))))
  have s4 := Sat.mp_new (α := By) (s3.perm (.swap _ _ _))
  refine Sl.Sat.shut (bm2, bm, []) rfl ?_
  have s5 := Sl.Sat.star_nil s4
  show Sat [pblk bl bm2 bm, mp bm2 (encU []), mp bm (encO []), star []] hF w
  have e1 : encU [] = [] := by unfold encU; rfl
  have e2 : encO [] = [] := by unfold encO; rfl
  rw [e1, e2]
  exact Sl.Sat.sub SubR.o s5
theorem addUser_ok {b : Nat} {P : Pp} {u : By} (hs : u.length < 9223372036854775807) : FnOk Go.Proofs.Try.prog 24 [.pointer (some ⟨b, 0, none⟩), str u] [people b P] hF (fun v Γ => v = .int .i64 (addUserM P u).1 ∧ Γ = [people b (addUserM P u).2]) := by
  refine FnOk.intro 27 Go.Proofs.Try.func24 rfl rfl fun w0 => ?_
  refine GK.opens 0 rfl fun x hx => ?_
  obtain ⟨mu, mo, os⟩ := x
  (repeat (first | refine GK.ro ?_ | (refine GK.box ?_; intro bl) | (refine GK.mkMap ?_; intro bm) | (refine GK.build0 tb ?_; intro bs)))
  refine GL.cons ?_; refine GO.callA (fun hF' hle hH => none_ok) Wt.o (by kernel_rfl) rfl rfl SubR.o ?_
  rintro v Γ' ⟨rfl, rfl⟩
  (repeat (first | refine GK.ro ?_ | (refine GK.box ?_; intro bl) | (refine GK.mkMap ?_; intro bm) | (refine GK.build0 tb ?_; intro bs)))
  refine G.draw [] [pblk b mu mo, mp mu (encU P.users)] (by kernel_rfl) ?_
  ((first | refine GH.to 0 ?_ | refine GH.tos 0 ?_); (first | refine GH.to 1 ?_ | refine GH.tos 1 ?_); (first | refine GH.to 2 ?_ | refine GH.tos 2 ?_); (first | refine GH.to 4 ?_ | refine GH.tos 4 ?_); (first | refine GH.to 5 ?_ | refine GH.tos 5 ?_); (first | refine GH.to 6 ?_ | refine GH.tos 6 ?_); (first | refine GH.to 7 ?_ | refine GH.tos 7 ?_))
  refine GH.step 3 rfl (by kernel_rfl) ?_
  refine GO.callA (fun hF' hle hH => user_ok (us := P.users) (u := u)) Wt.o (by kernel_rfl) rfl rfl SubR.o ?_
  rintro v Γ' ⟨rfl, rfl⟩
  refine GH.keep (fun _ s => Sat.sub SubR.o s) ?_
  refine GH.take 8 rfl (by kernel_rfl) Wt.o (fun _ s => Sat.sub SubR.o s) (Yl.len_map 1 rfl rfl rfl) ?_
  refine GH.step 9 rfl (by kernel_rfl) ?_
  refine GO.callA (fun hF' hle hH => fresh_ok (name := u) hs) Wt.o (by kernel_rfl) rfl rfl SubR.o ?_
  rintro v Γ' ⟨rfl, rfl⟩
  refine GH.keep (fun _ s => Sat.sub SubR.o s) ?_
  ((first | refine GH.to 10 ?_ | refine GH.tos 10 ?_))
  refine GH.fin (by kernel_rfl) ?_
  rw [encU_len]
  refine GK.weak (fr' := [(0, .pointer (some ⟨b, 0, none⟩)), (1, str u), (5, .int .i64 (addUserM P u).1)]) (Γ' := peopleL b P.users (mu, mo, os)) Sub.o (fun _ s => Sat.sub SubR.o s) ?_
  by_cases he : (addUserM P u).1 = 0
  · have e2 : (addUserM P u).2 = ⟨addU P.users u, P.orgs⟩ := by unfold addUserM at he ⊢; exact if_pos he
    rw [he]
    unfold peopleL
    (repeat (first | refine GK.ro ?_ | (refine GK.box ?_; intro bl) | (refine GK.mkMap ?_; intro bm) | (refine GK.build0 tb ?_; intro bs)))

    refine GL.cons ?_; refine GO.mapUpdate (u := unitV) 1 Wt.o (KeyT.str rfl) rfl rfl rfl (by unfold unitV; rfl) rfl ?_
    rw [enc_addU]
    (repeat (first | refine GK.ro ?_ | (refine GK.box ?_; intro bl) | (refine GK.mkMap ?_; intro bm) | (refine GK.build0 tb ?_; intro bs)))
    refine GQ.fin1 rfl (Rv.tmp rfl) (fun w s => Sl.Sat.shut (mu, mo, os) (by rw [e2]; exact hx) ?_) ⟨rfl, rfl⟩
    rw [e2]
    exact Sl.Sat.sub SubR.o s
  · have e2 : (addUserM P u).2 = P := by unfold addUserM at he ⊢; exact if_neg he
    unfold peopleL
    (repeat (first | refine GK.ro ?_ | (refine GK.box ?_; intro bl) | (refine GK.mkMap ?_; intro bm) | (refine GK.build0 tb ?_; intro bs)))
    rw [e2]
    exact GQ.fin1 rfl (Rv.tmp rfl) (fun w s => Sl.Sat.shut (mu, mo, os) hx s) ⟨rfl, rfl⟩
end Go.Pe
