/- People: Join, Leave. -/
import Derived.Test.YtnealcbmgflaaaaPeG
set_option linter.unusedSimpArgs false
set_option linter.unusedVariables false
namespace Go.Pe
open Go Go.Sl Go.Ls
set_option maxRecDepth 100000
def vset : List (By × Int) → By → Int → List (By × Int)
  | [], a, u => [(a, u)]
  | (k, v) :: r, a, u => if a = k then (a, u) :: r else (k, v) :: vset r a u
def vdel : List (By × Int) → By → List (By × Int)
  | [], _ => []
  | (k, v) :: r, a => if a = k then r else (k, v) :: vdel r a
theorem enc_vset (vs : List (By × Int)) (a : By) (u : Int) : mset (encV vs) a (.int .i64 u) = encV (vset vs a u) := by
  induction vs with
  | nil => rfl
  | cons x r ih =>
    obtain ⟨k, v⟩ := x
    show mset ((k, Value.int .i64 v) :: encV r) a _ = _
    unfold mset vset
    split
    · rfl
    · rw [ih]; rfl
theorem enc_vdel (vs : List (By × Int)) (a : By) : mdel (encV vs) a = encV (vdel vs a) := by
  induction vs with
  | nil => rfl
  | cons x r ih =>
    obtain ⟨k, v⟩ := x
    show mdel ((k, Value.int .i64 v) :: encV r) a = _
    unfold mdel vdel
    split
    · rfl
    · rw [ih]; rfl
def joinM (us : List By) (u : By) (r : Int) (o : Og) : Int × Og :=
  if u ∉ us then (111, o) else if r ≠ 1 ∧ r ≠ 2 then (2, o) else if lastM o.roles u = true ∧ r = 1 then (151, o) else (0, ⟨o.teams, vset o.roles u r⟩)
def outP (u : By) (x : By × List By) : By × List By := (x.1, udel x.2 u)
def leaveM (u : By) (o : Og) : Int × Og :=
  if vget o.roles u = 0 then (111, o) else if lastM o.roles u = true then (151, o) else (0, ⟨o.teams.map (outP u), vdel o.roles u⟩)
theorem strip_out (u : By) (l : List Tm) : (l.map (outT u)).map strip = (l.map strip).map (outP u) := by rw [List.map_map, List.map_map]; rfl
theorem strip_names {l : List Tm} {ts : List (By × List By)} (h : l.map strip = ts) : l.map (·.1) = ts.map (·.1) := by rw [← h, List.map_map]; rfl
set_option maxRecDepth 100000
set_option maxHeartbeats 4000000
attribute [local irreducible] GK GO Yl Wt Ef Hd GH KH wpListIn Code.wpIn toBody roundQ poolOf rs RS YieldOk IterOk VOk row star exs mp lp Sat pt FnOk Rd bodyPost bodyPostM Lv Ret Exit.then Exit.inBlock Exit.noGoto Int.decLt Int.decLe Int.instDecidableEq
attribute [local irreducible] u8s strs likeTo rng rngAt keys encU encT encV encO inT freshM unitV Pa.nameM lastM vset vdel vget
set_option pp.deepTerms true
set_option pp.maxSteps 1000000
variable {hF H : Hp} {b : Nat} {P : Pp} {n : By}
theorem join_ok {u : By} {r : Int} (hv : ∀ o, getO P.orgs n = some o → o.roles.length ≤ 1099511627776) : FnOk Go.Proofs.Try.prog 27 [.pointer (some ⟨b, 0, none⟩), str n, str u, .int .i64 r] [people b P] hF (fun v Γ => v = .int .i64 (onO P n (joinM P.users u r)).1 ∧ Γ = [people b (onO P n (joinM P.users u r)).2]) := by
  refine people_on (fun hF mu mo os ha => ?_) (fun hF mu mo os a mi mr l o ho ha hl => ?_)
  · refine FnOk.intro 46 Go.Proofs.Try.func27 rfl rfl fun w0 => ?_
    (repeat (first | refine GK.ro ?_ | (refine GK.box ?_; intro bl) | (refine GK.mkMap ?_; intro bm) | (refine GK.build0 tb ?_; intro bs)))
    refine GL.cons ?_; refine GO.callA (fun hF' hle hH => at_ok (os := os) (n := n)) Wt.o (by kernel_rfl) rfl rfl SubR.o ?_
    rw [ha]
    rintro v Γ' ⟨rfl, rfl⟩
    (repeat (first | refine GK.ro ?_ | (refine GK.box ?_; intro bl) | (refine GK.mkMap ?_; intro bm) | (refine GK.build0 tb ?_; intro bs)))
    refine GL.cons ?_; refine GO.callA (fun hF' hle hH => none_ok) Wt.o (by kernel_rfl) rfl rfl SubR.o ?_
    rintro v Γ' ⟨rfl, rfl⟩
    (repeat (first | refine GK.ro ?_ | (refine GK.box ?_; intro bl) | (refine GK.mkMap ?_; intro bm) | (refine GK.build0 tb ?_; intro bs)))
    exact GQ.fin1 rfl (Rv.tmp rfl) (fun _ s => Sat.sub SubR.o s) ⟨rfl, rfl⟩
  · have hvl := hv o ho
    unfold orgL
    refine FnOk.intro 46 Go.Proofs.Try.func27 rfl rfl fun w0 => ?_
    (repeat (first | refine GK.ro ?_ | (refine GK.box ?_; intro bl) | (refine GK.mkMap ?_; intro bm) | (refine GK.build0 tb ?_; intro bs)))
    refine GL.cons ?_; refine GO.callA (fun hF' hle hH => at_ok (os := os) (n := n)) Wt.o (by kernel_rfl) rfl rfl SubR.o ?_
    rw [ha]
    rintro v Γ' ⟨rfl, rfl⟩
    (repeat (first | refine GK.ro ?_ | (refine GK.box ?_; intro bl) | (refine GK.mkMap ?_; intro bm) | (refine GK.build0 tb ?_; intro bs)))
    refine GL.cons ?_; refine GO.callA (fun hF' hle hH => none_ok) Wt.o (by kernel_rfl) rfl rfl SubR.o ?_
    rintro v Γ' ⟨rfl, rfl⟩
    (repeat (first | refine GK.ro ?_ | (refine GK.box ?_; intro bl) | (refine GK.mkMap ?_; intro bm) | (refine GK.build0 tb ?_; intro bs)))
    refine GL.cons ?_; refine GO.callA (fun hF' hle hH => user_ok (us := P.users) (u := u)) Wt.o (by kernel_rfl) rfl rfl SubR.o ?_
    by_cases hu : u ∈ P.users
    rotate_left
    · rw [decide_eq_false hu]
      rintro v Γ' ⟨rfl, rfl⟩
      (repeat (first | refine GK.ro ?_ | (refine GK.box ?_; intro bl) | (refine GK.mkMap ?_; intro bm) | (refine GK.build0 tb ?_; intro bs)))
      have e : joinM P.users u r o = (111, o) := if_pos hu
      rw [e]
      exact GQ.fin1 rfl (Rv.tmp rfl) (fun _ s => Sat.sub SubR.o s) ⟨rfl, l, hl, rfl⟩
    rw [decide_eq_true hu]
    rintro v Γ' ⟨rfl, rfl⟩
    have hu2 : ¬ u ∉ P.users := fun h => h hu
    by_cases hr : r ≠ 1 ∧ r ≠ 2
    · have e : joinM P.users u r o = (2, o) := (if_neg hu2).trans (if_pos hr)
      rw [e]
      (repeat (first | refine GK.ro ?_ | (refine GK.box ?_; intro bl) | (refine GK.mkMap ?_; intro bm) | (refine GK.build0 tb ?_; intro bs)))
      exact GQ.fin1 rfl (Rv.tmp rfl) (fun _ s => Sat.sub SubR.o s) ⟨rfl, l, hl, rfl⟩
    have e3 : joinM P.users u r o = if lastM o.roles u = true ∧ r = 1 then (151, o) else (0, ⟨o.teams, vset o.roles u r⟩) := (if_neg hu2).trans (if_neg hr)
    rw [e3]
    by_cases h1 : r = 1
    · subst h1
      (repeat (first | refine GK.ro ?_ | (refine GK.box ?_; intro bl) | (refine GK.mkMap ?_; intro bm) | (refine GK.build0 tb ?_; intro bs)))
      refine GL.cons ?_; refine GO.callA (fun hF' hle hH => last_ok (vs := o.roles) (u := u) hvl) Wt.o (by kernel_rfl) rfl rfl SubR.o ?_
      cases hla : lastM o.roles u with
      | true =>
        rintro v Γ' ⟨rfl, rfl⟩
        (repeat (first | refine GK.ro ?_ | (refine GK.box ?_; intro bl) | (refine GK.mkMap ?_; intro bm) | (refine GK.build0 tb ?_; intro bs)))
        rw [if_pos ⟨rfl, rfl⟩]
        exact GQ.fin1 rfl (Rv.tmp rfl) (fun _ s => Sat.sub SubR.o s) ⟨rfl, l, hl, rfl⟩
      | false =>
        rintro v Γ' ⟨rfl, rfl⟩
        (repeat (first | refine GK.ro ?_ | (refine GK.box ?_; intro bl) | (refine GK.mkMap ?_; intro bm) | (refine GK.build0 tb ?_; intro bs)))
        refine GK.heap (Γ' := [mp mr (encV o.roles), pblk b mu mo, mp mu (encU P.users), mp mo (encO os), oblk a mi mr, mp mi (encT l), star (l.map teamC)]) (fun _ s => Sat.sub SubR.o s) ?_
        refine GL.cons ?_; refine GO.mapUpdate 0 Wt.o (KeyT.str rfl) rfl rfl rfl rfl rfl ?_
        rw [enc_vset]
        (repeat (first | refine GK.ro ?_ | (refine GK.box ?_; intro bl) | (refine GK.mkMap ?_; intro bm) | (refine GK.build0 tb ?_; intro bs)))
        rw [if_neg (fun h => by cases h.1)]
        exact GQ.fin1 rfl (Rv.tmp rfl) (fun _ s => Sat.sub SubR.o s) ⟨rfl, l, hl, rfl⟩
    · have h2 : r = 2 := by omega
      subst h2
      (repeat (first | refine GK.ro ?_ | (refine GK.box ?_; intro bl) | (refine GK.mkMap ?_; intro bm) | (refine GK.build0 tb ?_; intro bs)))
      refine GL.cons ?_; refine GO.callA (fun hF' hle hH => last_ok (vs := o.roles) (u := u) hvl) Wt.o (by kernel_rfl) rfl rfl SubR.o ?_
      rintro v Γ' ⟨rfl, rfl⟩
      rw [if_neg (fun h => by omega)]
      cases hla : lastM o.roles u with
      | true =>
        (repeat (first | refine GK.ro ?_ | (refine GK.box ?_; intro bl) | (refine GK.mkMap ?_; intro bm) | (refine GK.build0 tb ?_; intro bs)))
        refine GK.heap (Γ' := [mp mr (encV o.roles), pblk b mu mo, mp mu (encU P.users), mp mo (encO os), oblk a mi mr, mp mi (encT l), star (l.map teamC)]) (fun _ s => Sat.sub SubR.o s) ?_
        refine GL.cons ?_; refine GO.mapUpdate 0 Wt.o (KeyT.str rfl) rfl rfl rfl rfl rfl ?_
        rw [enc_vset]
        (repeat (first | refine GK.ro ?_ | (refine GK.box ?_; intro bl) | (refine GK.mkMap ?_; intro bm) | (refine GK.build0 tb ?_; intro bs)))
        exact GQ.fin1 rfl (Rv.tmp rfl) (fun _ s => Sat.sub SubR.o s) ⟨rfl, l, hl, rfl⟩
      | false =>
        (repeat (first | refine GK.ro ?_ | (refine GK.box ?_; intro bl) | (refine GK.mkMap ?_; intro bm) | (refine GK.build0 tb ?_; intro bs)))
        refine GK.heap (Γ' := [mp mr (encV o.roles), pblk b mu mo, mp mu (encU P.users), mp mo (encO os), oblk a mi mr, mp mi (encT l), star (l.map teamC)]) (fun _ s => Sat.sub SubR.o s) ?_
        refine GL.cons ?_; refine GO.mapUpdate 0 Wt.o (KeyT.str rfl) rfl rfl rfl rfl rfl ?_
        rw [enc_vset]
        (repeat (first | refine GK.ro ?_ | (refine GK.box ?_; intro bl) | (refine GK.mkMap ?_; intro bm) | (refine GK.build0 tb ?_; intro bs)))
        exact GQ.fin1 rfl (Rv.tmp rfl) (fun _ s => Sat.sub SubR.o s) ⟨rfl, l, hl, rfl⟩
theorem leave_ok {u : By} (hv : ∀ o, getO P.orgs n = some o → o.roles.length ≤ 1099511627776) (hn : ∀ o, getO P.orgs n = some o → (o.teams.map (·.1)).Nodup) : FnOk Go.Proofs.Try.prog 26 [.pointer (some ⟨b, 0, none⟩), str n, str u] [people b P] hF (fun v Γ => v = .int .i64 (onO P n (leaveM u)).1 ∧ Γ = [people b (onO P n (leaveM u)).2]) := by
  refine people_on (fun hF mu mo os ha => ?_) (fun hF mu mo os a mi mr l o ho ha hl => ?_)
  · refine FnOk.intro 41 Go.Proofs.Try.func26 rfl rfl fun w0 => ?_
    (repeat (first | refine GK.ro ?_ | (refine GK.box ?_; intro bl) | (refine GK.mkMap ?_; intro bm) | (refine GK.build0 tb ?_; intro bs)))
    refine GL.cons ?_; refine GO.callA (fun hF' hle hH => at_ok (os := os) (n := n)) Wt.o (by kernel_rfl) rfl rfl SubR.o ?_
    rw [ha]
    rintro v Γ' ⟨rfl, rfl⟩
    (repeat (first | refine GK.ro ?_ | (refine GK.box ?_; intro bl) | (refine GK.mkMap ?_; intro bm) | (refine GK.build0 tb ?_; intro bs)))
    refine GL.cons ?_; refine GO.callA (fun hF' hle hH => none_ok) Wt.o (by kernel_rfl) rfl rfl SubR.o ?_
    rintro v Γ' ⟨rfl, rfl⟩
    (repeat (first | refine GK.ro ?_ | (refine GK.box ?_; intro bl) | (refine GK.mkMap ?_; intro bm) | (refine GK.build0 tb ?_; intro bs)))
    exact GQ.fin1 rfl (Rv.tmp rfl) (fun _ s => Sat.sub SubR.o s) ⟨rfl, rfl⟩
  · have hvl := hv o ho
    unfold orgL
    refine FnOk.intro 41 Go.Proofs.Try.func26 rfl rfl fun w0 => ?_
    (repeat (first | refine GK.ro ?_ | (refine GK.box ?_; intro bl) | (refine GK.mkMap ?_; intro bm) | (refine GK.build0 tb ?_; intro bs)))
    refine GL.cons ?_; refine GO.callA (fun hF' hle hH => at_ok (os := os) (n := n)) Wt.o (by kernel_rfl) rfl rfl SubR.o ?_
    rw [ha]
    rintro v Γ' ⟨rfl, rfl⟩
    (repeat (first | refine GK.ro ?_ | (refine GK.box ?_; intro bl) | (refine GK.mkMap ?_; intro bm) | (refine GK.build0 tb ?_; intro bs)))
    refine GL.cons ?_; refine GO.callA (fun hF' hle hH => none_ok) Wt.o (by kernel_rfl) rfl rfl SubR.o ?_
    rintro v Γ' ⟨rfl, rfl⟩
    (repeat (first | refine GK.ro ?_ | (refine GK.box ?_; intro bl) | (refine GK.mkMap ?_; intro bm) | (refine GK.build0 tb ?_; intro bs)))
    refine GK.heap (Γ' := [mp mr (encV o.roles), oblk a mi mr, pblk b mu mo, mp mu (encU P.users), mp mo (encO os), mp mi (encT l), star (l.map teamC)]) (fun _ s => Sat.sub SubR.o s) ?_
    refine GL.cons ?_; refine GO.yield Wt.o (Yl.look1 0 (KeyT.str rfl) rfl rfl rfl rfl rfl (enc_vget o.roles u)) ?_
    by_cases h0 : vget o.roles u = 0
    · have e : leaveM u o = (111, o) := if_pos h0
      rw [e, h0]
      (repeat (first | refine GK.ro ?_ | (refine GK.box ?_; intro bl) | (refine GK.mkMap ?_; intro bm) | (refine GK.build0 tb ?_; intro bs)))
      exact GQ.fin1 rfl (Rv.tmp rfl) (fun _ s => Sat.sub SubR.o s) ⟨rfl, l, hl, rfl⟩
    (repeat (first | refine GK.ro ?_ | (refine GK.box ?_; intro bl) | (refine GK.mkMap ?_; intro bm) | (refine GK.build0 tb ?_; intro bs)))
    refine GL.cons ?_; refine GO.callA (fun hF' hle hH => last_ok (vs := o.roles) (u := u) hvl) Wt.o (by kernel_rfl) rfl rfl SubR.o ?_
    by_cases hla : lastM o.roles u = true
    · have e : leaveM u o = (151, o) := (if_neg h0).trans (if_pos hla)
      rw [e, hla]
      rintro v Γ' ⟨rfl, rfl⟩
      (repeat (first | refine GK.ro ?_ | (refine GK.box ?_; intro bl) | (refine GK.mkMap ?_; intro bm) | (refine GK.build0 tb ?_; intro bs)))
      exact GQ.fin1 rfl (Rv.tmp rfl) (fun _ s => Sat.sub SubR.o s) ⟨rfl, l, hl, rfl⟩
    · have e : leaveM u o = (0, ⟨o.teams.map (outP u), vdel o.roles u⟩) := (if_neg h0).trans (if_neg hla)
      rw [e, show lastM o.roles u = false from by simpa using hla]
      rintro v Γ' ⟨rfl, rfl⟩
      (repeat (first | refine GK.ro ?_ | (refine GK.box ?_; intro bl) | (refine GK.mkMap ?_; intro bm) | (refine GK.build0 tb ?_; intro bs)))
      refine GK.heap (Γ' := [mp mr (encV o.roles), oblk a mi mr, pblk b mu mo, mp mu (encU P.users), mp mo (encO os), mp mi (encT l), star (l.map teamC)]) (fun _ s => Sat.sub SubR.o s) ?_
      refine GL.cons ?_; refine GO.mapDelete 0 Wt.o (KeyT.str rfl) rfl rfl rfl rfl ?_
      rw [enc_vdel]
      (repeat (first | refine GK.ro ?_ | (refine GK.box ?_; intro bl) | (refine GK.mkMap ?_; intro bm) | (refine GK.build0 tb ?_; intro bs)))
      refine GL.cons ?_; refine GO.callA (fun hF' hle hH => forget_ok (m := mi) (l := l) (u := u) (by rw [strip_names hl]; exact hn o ho)) Wt.o (by kernel_rfl) rfl rfl SubR.o ?_
      rintro v Γ' ⟨rfl, rfl⟩
      (repeat (first | refine GK.ro ?_ | (refine GK.box ?_; intro bl) | (refine GK.mkMap ?_; intro bm) | (refine GK.build0 tb ?_; intro bs)))
      refine GQ.fin1 rfl (Rv.tmp rfl) (Γ' := [pblk b mu mo, mp mu (encU P.users), mp mo (encO os), oblk a mi mr, mp mi (encT (l.map (outT u))), star ((l.map (outT u)).map teamC), mp mr (encV (vdel o.roles u))]) (fun _ s => Sat.sub SubR.o s) ⟨rfl, l.map (outT u), ?_, rfl⟩
      rw [strip_out, hl]
end Go.Pe
