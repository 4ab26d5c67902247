/- PrA, PrB, PrC, PrD as one text. -/
import Derived.Test.YtnealcbmgflaaaaPeN
import Derived.Test.YtnealcbmgflaaaaNmA
set_option linter.unusedSimpArgs false
set_option linter.unusedVariables false
/- The document's people: looking up. -/
namespace Go.Pe
open Go Go.Sl Go.Ls
set_option maxRecDepth 100000
structure Ft where
  o : By
  t : By
  u : By
  r : Int
def ftC (f : Ft) : List Value := [str f.o, str f.t, str f.u, .int .i64 f.r]
def fts (l : List Ft) : List Value := l.flatMap ftC
theorem fts_len (l : List Ft) : (fts l).length = l.length * 4 := by unfold fts; exact flatMap_len (fun _ => rfl)
theorem fts_at {l : List Ft} {i : Nat} {f : Ft} (h : l[i]? = some f) : At (fts l) (i * 4) (ftC f) := by unfold fts; exact flatMap_at (f := ftC) (fun _ => rfl) h
theorem fts_one (l : List Ft) : ∀ u ∈ fts l, u.oneCell' = true := by
  intro u hu
  unfold fts at hu
  obtain ⟨f, _, hf⟩ := List.mem_flatMap.1 hu
  unfold ftC at hf
  simp at hf
  rcases hf with rfl | rfl | rfl | rfl <;> rfl
theorem fts_append (a b : List Ft) : fts (a ++ b) = fts a ++ fts b := by unfold fts; simp
theorem fts_sing (f : Ft) : fts [f] = ftC f := by unfold fts; simp
theorem fts_nil : fts [] = [] := rfl
theorem ft_get {cs : List Value} {o i k : Nat} {F : List Ft} {f : Ft} {v : Value} (hat : At cs o (fts F)) (hf : F[i]? = some f) (hk : (ftC f)[k]? = some v) : cs[o + (i : Int).toNat * 4 + k]? = some v := by
  have := hat (i * 4 + k) v (fts_at hf k v hk)
  rw [show o + (i : Int).toNat * 4 + k = o + (i * 4 + k) by omega]; exact this
structure RP where
  U : List By
  O : List By
  F : List Ft
structure RpAt (H : Hp) (r : RP) (uv ov fv : Value) : Prop where
  u : rs H uv r.U.length 1 (strs r.U)
  o : rs H ov r.O.length 1 (strs r.O)
  f : rs H fv r.F.length 4 (fts r.F)
  nu : r.U.length ≤ 1000000
  no : r.O.length ≤ 1000000
  nf : r.F.length ≤ 1000000
theorem RpAt.mono {H H' : Hp} {r : RP} {uv ov fv : Value} (h : RpAt H r uv ov fv) (hl : le H H') : RpAt H' r uv ov fv := ⟨h.u.mono hl, h.o.mono hl, h.f.mono hl, h.nu, h.no, h.nf⟩
def isF (o t u : By) (f : Ft) : Bool := decide (f.o = o) && decide (f.t = t) && decide (f.u = u)
def factM (F : List Ft) (o t u : By) : Int := match F.findIdx? (isF o t u) with
  | some i => i
  | none => -1
theorem fact_at {F : List Ft} {o t u : By} {i : Nat} {f : Ft} (hf : F[i]? = some f) (h : isF o t u f = true) (hno : ∀ j < i, ∀ g, F[j]? = some g → isF o t u g = false) : factM F o t u = i := by
  have hi := (List.getElem?_eq_some_iff.1 hf).1
  have : F.findIdx? (isF o t u) = some i := List.findIdx?_eq_some_iff_getElem.2 ⟨hi, by rw [(List.getElem?_eq_some_iff.1 hf).2]; exact h, fun j hj => by
    have := hno j hj _ (List.getElem?_eq_getElem (by omega)); simp [this]⟩
  unfold factM; rw [this]
theorem fact_no {F : List Ft} {o t u : By} (hno : ∀ j < F.length, ∀ g, F[j]? = some g → isF o t u g = false) : factM F o t u = -1 := by
  have : F.findIdx? (isF o t u) = none := List.findIdx?_eq_none_iff.2 fun x hx => by
    obtain ⟨j, hj⟩ := List.getElem?_of_mem hx
    exact hno j (List.getElem?_eq_some_iff.1 hj).1 x hj
  unfold factM; rw [this]
theorem fact_cases (F : List Ft) (o t u : By) : (factM F o t u = -1 ∧ ∀ g ∈ F, isF o t u g = false) ∨ ∃ (i : Nat) (f : Ft), factM F o t u = i ∧ F[i]? = some f ∧ isF o t u f = true := by
  unfold factM
  cases h : F.findIdx? (isF o t u) with
  | none => left; exact ⟨rfl, List.findIdx?_eq_none_iff.1 h⟩
  | some i =>
    right
    obtain ⟨hi, h1, _⟩ := List.findIdx?_eq_some_iff_getElem.1 h
    exact ⟨i, _, rfl, List.getElem?_eq_getElem hi, h1⟩
def roleAt (F : List Ft) (i : Int) : Int := if i < 0 then 0 else match F[i.toNat]? with
  | some f => f.r
  | none => 0
def roleR (F : List Ft) (o u : By) : Int := if u = [] then 0 else roleAt F (factM F o [] u)
def memF (o : By) (f : Ft) : Bool := decide (f.o = o) && decide (f.t = [])
def teamF (o : By) (f : Ft) : Bool := decide (f.o = o) && !decide (f.t = []) && decide (f.u = [])
def membersR (F : List Ft) (o : By) : List By := rises ((F.filter (memF o)).map (·.u))
def teamsR (F : List Ft) (o : By) : List By := rises ((F.filter (teamF o)).map (·.t))
theorem members_take {F : List Ft} {o : By} {j : Nat} {f : Ft} (h : F[j]? = some f) : membersR (F.take (j + 1)) o = if memF o f then withM (membersR (F.take j) o) f.u else membersR (F.take j) o := by
  obtain ⟨hj, rfl⟩ := List.getElem?_eq_some_iff.1 h
  unfold membersR
  rw [List.take_succ_eq_append_getElem hj, List.filter_append, List.map_append]
  by_cases hm : memF o F[j] = true
  · rw [if_pos hm, List.filter_cons, if_pos hm]; exact rises_snoc _ _
  · rw [if_neg hm, List.filter_cons, if_neg hm]; simp
theorem teams_take {F : List Ft} {o : By} {j : Nat} {f : Ft} (h : F[j]? = some f) : teamsR (F.take (j + 1)) o = if teamF o f then withM (teamsR (F.take j) o) f.t else teamsR (F.take j) o := by
  obtain ⟨hj, rfl⟩ := List.getElem?_eq_some_iff.1 h
  unfold teamsR
  rw [List.take_succ_eq_append_getElem hj, List.filter_append, List.map_append]
  by_cases hm : teamF o F[j] = true
  · rw [if_pos hm, List.filter_cons, if_pos hm]; exact rises_snoc _ _
  · rw [if_neg hm, List.filter_cons, if_neg hm]; simp
theorem rises_le (l : List By) : (rises l).length ≤ l.length := by rw [rises_len]; exact uniq_len l
theorem membersR_len (F : List Ft) (o : By) : (membersR F o).length ≤ F.length := Nat.le_trans (rises_le _) (by rw [List.length_map]; exact List.length_filter_le _ _)
theorem teamsR_len (F : List Ft) (o : By) : (teamsR F o).length ≤ F.length := Nat.le_trans (rises_le _) (by rw [List.length_map]; exact List.length_filter_le _ _)
theorem fact_lt (F : List Ft) (o t u : By) : -1 ≤ factM F o t u ∧ factM F o t u < F.length := by
  rcases fact_cases F o t u with ⟨h, _⟩ | ⟨i, f, h, hf, _⟩
  · rw [h]; omega
  · have := (List.getElem?_eq_some_iff.1 hf).1; omega
set_option maxRecDepth 100000
set_option maxHeartbeats 4000000
attribute [local irreducible] GK GO Yl Wt Ef Hd GH KH wpListIn Code.wpIn toBody roundQ poolOf rs RS YieldOk IterOk VOk row star exs mp lp Sat pt FnOk Rd bodyPost bodyPostM Lv Ret Exit.then Exit.inBlock Exit.noGoto Int.decLt Int.decLe Int.instDecidableEq
attribute [local irreducible] u8s strs likeTo fts factM membersR teamsR roleR
set_option pp.deepTerms true
set_option pp.maxSteps 1000000
variable {hF H : Hp} {r : RP} {uv ov fv : Value}
theorem has_ok {l : List By} {lv : Value} {s : By} (h : rs H lv l.length 1 (strs l)) (hl : l.length ≤ 1000000) : FnOk Go.Proofs.Try.prog 60 [lv, str s] [poolOf H] hF (fun v Γ => v = .bool (decide (s ∈ l)) ∧ Γ = [poolOf H]) := by
  obtain ⟨p, c, rfl, hc, hln, hr⟩ := rs.out h
  refine FnOk.intro 18 Go.Proofs.Try.func60 rfl rfl fun w0 => ?_
  (repeat (first | refine GK.ro ?_ | (refine GK.box ?_; intro bl) | (refine GK.mkMap ?_; intro bm) | (refine GK.build0 tb ?_; intro bs)))
  refine G.loopK (X := Nat) [(0, _), (1, _)] (fun j => [(5, .int .i64 (j : Int))]) (fun j => l.length - j) (fun _ => [poolOf H]) (fun j => j ≤ l.length ∧ ∀ i < j, ∀ x, l[i]? = some x → x ≠ s) 0 ⟨Nat.zero_le _, fun i hi => by omega⟩ Sub.o (fun _ s => Sat.sub SubR.o s) (fun j hj q hq => ?_)
  obtain ⟨hj, hno⟩ := hj
  dsimp only [List.cons_append, List.nil_append] at hq ⊢
  (repeat (first | refine GK.ro ?_ | (refine GK.box ?_; intro bl) | (refine GK.mkMap ?_; intro bm) | (refine GK.build0 tb ?_; intro bs)))
  (first | refine G.condP rfl (fun hb => ?_) (fun hb => ?_) | refine G.condN rfl (fun hb => ?_) (fun hb => ?_) | refine G.cond rfl (fun hb => ?_) (fun hb => ?_))
  · obtain ⟨x, hx⟩ : ∃ x, l[j]? = some x := ⟨_, List.getElem?_eq_getElem (by omega)⟩
    have hlt : j < l.length := by omega
    clear hb
    obtain ⟨b1, o1, cs1, et1, fz1, rfl, hb1, hat1⟩ := hr (by omega)
    have hA1 : cs1[o1 + (j : Int).toNat * 1]? = some (str x) := by have := hat1 j _ (strs_get hx); simpa using this
    by_cases he : x = s
    · have hb : (x == s) = true := by simp [he]
      (repeat (first | refine GK.ro ?_ | (refine GK.box ?_; intro bl) | (refine GK.mkMap ?_; intro bm) | (refine GK.build0 tb ?_; intro bs)))
      have : s ∈ l := he ▸ List.mem_of_getElem? hx
      exact GQ.fin1 rfl (Rv.tmp rfl) (fun _ s => Sat.sub SubR.o s) ⟨by rw [decide_eq_true this], rfl⟩
    · have hb : (x == s) = false := by simp [he]
      (repeat (first | refine GK.ro ?_ | (refine GK.box ?_; intro bl) | (refine GK.mkMap ?_; intro bm) | (refine GK.build0 tb ?_; intro bs)))
      (refine GQ.againN (j + 1) ?_ ?_ ?_ ?_; rotate_left; (first | omega | (dsimp only; omega)); exact Sub.o; exact (fun _ s => Sat.sub SubR.o s))
      refine ⟨by omega, fun i hi y hy => ?_⟩
      rcases Nat.lt_or_ge i j with h | h
      · exact hno i h y hy
      · obtain rfl : i = j := by omega
        rw [hx] at hy; cases hy; exact he
  · (repeat (first | refine GK.ro ?_ | (refine GK.box ?_; intro bl) | (refine GK.mkMap ?_; intro bm) | (refine GK.build0 tb ?_; intro bs)))
    have : s ∉ l := fun hm => by
      obtain ⟨i, hi⟩ := List.getElem?_of_mem hm
      exact hno i (by have := (List.getElem?_eq_some_iff.1 hi).1; omega) s hi rfl
    exact GQ.fin1 rfl (Rv.tmp rfl) (fun _ s => Sat.sub SubR.o s) ⟨by rw [decide_eq_false this], rfl⟩
theorem fact_ok {o t u : By} (h : RpAt H r uv ov fv) : FnOk Go.Proofs.Try.prog 47 [.agg ⟨[uv, ov, fv]⟩, str o, str t, str u] [poolOf H] hF (fun v Γ => v = .int .i64 (factM r.F o t u) ∧ Γ = [poolOf H]) := by
  have hnf := h.nf
  obtain ⟨p, c, rfl, hc, hln, hr⟩ := rs.out h.f
  refine FnOk.intro 46 Go.Proofs.Try.func47 rfl rfl fun w0 => ?_
  (repeat (first | refine GK.ro ?_ | (refine GK.box ?_; intro bl) | (refine GK.mkMap ?_; intro bm) | (refine GK.build0 tb ?_; intro bs)))
  refine G.loopK (X := Nat) [(1, _), (2, _), (3, _), (4, _)] (fun j => [(9, .int .i64 (j : Int))]) (fun j => r.F.length - j) (fun _ => [blk bl 44 (0, 0) [uv, ov, .slice p r.F.length c], poolOf H]) (fun j => j ≤ r.F.length ∧ ∀ i < j, ∀ x, r.F[i]? = some x → isF o t u x = false) 0 ⟨Nat.zero_le _, fun i hi => by omega⟩ Sub.o (fun _ s => Sat.sub SubR.o s) (fun j hj q hq => ?_)
  obtain ⟨hj, hno⟩ := hj
  dsimp only [List.cons_append, List.nil_append] at hq ⊢
  (repeat (first | refine GK.ro ?_ | (refine GK.box ?_; intro bl) | (refine GK.mkMap ?_; intro bm) | (refine GK.build0 tb ?_; intro bs)))
  (first | refine G.condP rfl (fun hb => ?_) (fun hb => ?_) | refine G.condN rfl (fun hb => ?_) (fun hb => ?_) | refine G.cond rfl (fun hb => ?_) (fun hb => ?_))
  · obtain ⟨f, hf⟩ : ∃ f, r.F[j]? = some f := ⟨_, List.getElem?_eq_getElem (by omega)⟩
    have hlt : j < r.F.length := by omega
    clear hb
    obtain ⟨b1, o1, cs1, et1, fz1, rfl, hb1, hat1⟩ := hr (by omega)
    have g0 : cs1[o1 + (j : Int).toNat * 4 + 0]? = some (str f.o) := ft_get hat1 hf rfl
    have g1 : cs1[o1 + (j : Int).toNat * 4 + 1]? = some (str f.t) := ft_get hat1 hf rfl
    have g2 : cs1[o1 + (j : Int).toNat * 4 + 2]? = some (str f.u) := ft_get hat1 hf rfl
    have nxt : isF o t u f = false → ∀ i < j + 1, ∀ x, r.F[i]? = some x → isF o t u x = false := fun hx i hi y hy => by
      rcases Nat.lt_or_ge i j with h | h
      · exact hno i h y hy
      · obtain rfl : i = j := by omega
        rw [hf] at hy; cases hy; exact hx
    by_cases e1 : f.o = o
    rotate_left
    · have hb : (f.o == o) = false := by simp [e1]
      (repeat (first | refine GK.ro ?_ | (refine GK.box ?_; intro bl) | (refine GK.mkMap ?_; intro bm) | (refine GK.build0 tb ?_; intro bs)))
      (refine GQ.againN (j + 1) ?_ ?_ ?_ ?_; rotate_left; (first | omega | (dsimp only; omega)); exact Sub.o; exact (fun _ s => Sat.sub SubR.o s))
      exact ⟨by omega, nxt (by unfold isF; simp [e1])⟩
    have hb : (f.o == o) = true := by simp [e1]
    by_cases e2 : f.t = t
    rotate_left
    · have hb2 : (f.t == t) = false := by simp [e2]
      (repeat (first | refine GK.ro ?_ | (refine GK.box ?_; intro bl) | (refine GK.mkMap ?_; intro bm) | (refine GK.build0 tb ?_; intro bs)))
      (refine GQ.againN (j + 1) ?_ ?_ ?_ ?_; rotate_left; (first | omega | (dsimp only; omega)); exact Sub.o; exact (fun _ s => Sat.sub SubR.o s))
      exact ⟨by omega, nxt (by unfold isF; simp [e2])⟩
    have hb2 : (f.t == t) = true := by simp [e2]
    by_cases e3 : f.u = u
    · have hb3 : (f.u == u) = true := by simp [e3]
      (repeat (first | refine GK.ro ?_ | (refine GK.box ?_; intro bl) | (refine GK.mkMap ?_; intro bm) | (refine GK.build0 tb ?_; intro bs)))
      exact GQ.fin1 rfl (Rv.tmp rfl) (fun _ s => Sat.sub SubR.o s) ⟨by rw [fact_at hf (by unfold isF; simp [e1, e2, e3]) hno], rfl⟩
    · have hb3 : (f.u == u) = false := by simp [e3]
      (repeat (first | refine GK.ro ?_ | (refine GK.box ?_; intro bl) | (refine GK.mkMap ?_; intro bm) | (refine GK.build0 tb ?_; intro bs)))
      (refine GQ.againN (j + 1) ?_ ?_ ?_ ?_; rotate_left; (first | omega | (dsimp only; omega)); exact Sub.o; exact (fun _ s => Sat.sub SubR.o s))
      exact ⟨by omega, nxt (by unfold isF; simp [e3])⟩
  · (repeat (first | refine GK.ro ?_ | (refine GK.box ?_; intro bl) | (refine GK.mkMap ?_; intro bm) | (refine GK.build0 tb ?_; intro bs)))
    exact GQ.fin1 rfl (Rv.tmp rfl) (fun _ s => Sat.sub SubR.o s) ⟨by rw [fact_no (fun j2 h2 g hg => hno j2 (by omega) g hg)], rfl⟩
theorem roleR_ok {o u : By} (h : RpAt H r uv ov fv) : FnOk Go.Proofs.Try.prog 46 [.agg ⟨[uv, ov, fv]⟩, str o, str u] [poolOf H] hF (fun v Γ => v = .int .i64 (roleR r.F o u) ∧ Γ = [poolOf H]) := by
  have h0 := h
  have hnf := h.nf
  obtain ⟨p, c, rfl, hc, hln, hr⟩ := rs.out h.f
  have hrr : roleR r.F o u = if u = [] then 0 else roleAt r.F (factM r.F o [] u) := by unfold roleR; rfl
  refine FnOk.intro 24 Go.Proofs.Try.func46 rfl rfl fun w0 => ?_
  (repeat (first | refine GK.ro ?_ | (refine GK.box ?_; intro bl) | (refine GK.mkMap ?_; intro bm) | (refine GK.build0 tb ?_; intro bs)))
  refine GL.cons ?_; refine GO.callA (fun hF' hle hH => fact_ok (o := o) (t := []) (u := u) h0) Wt.o (by kernel_rfl) rfl rfl SubR.o ?_
  rintro v Γ' ⟨rfl, rfl⟩
  by_cases hu : u = []
  · have hb : (u == []) = true := by simp [hu]
    rw [if_pos hu] at hrr
    (repeat (first | refine GK.ro ?_ | (refine GK.box ?_; intro bl) | (refine GK.mkMap ?_; intro bm) | (refine GK.build0 tb ?_; intro bs)))
    exact GQ.fin1 rfl (Rv.tmp rfl) (fun _ s => Sat.sub SubR.o s) ⟨by rw [hrr], rfl⟩
  have hb : (u == []) = false := by simp [hu]
  rw [if_neg hu] at hrr
  rcases fact_cases r.F o [] u with ⟨e, _⟩ | ⟨i, f, e, hf, _⟩
  · rw [e] at hrr ⊢
    (repeat (first | refine GK.ro ?_ | (refine GK.box ?_; intro bl) | (refine GK.mkMap ?_; intro bm) | (refine GK.build0 tb ?_; intro bs)))
    exact GQ.fin1 rfl (Rv.tmp rfl) (fun _ s => Sat.sub SubR.o s) ⟨by rw [hrr, show roleAt r.F (-1) = 0 from by unfold roleAt; exact if_pos (by omega)], rfl⟩
  · rw [e] at hrr ⊢
    have hlt := (List.getElem?_eq_some_iff.1 hf).1
    obtain ⟨b1, o1, cs1, et1, fz1, rfl, hb1, hat1⟩ := hr (by omega)
    have g3 : cs1[o1 + (i : Int).toNat * 4 + 3]? = some (.int .i64 f.r) := ft_get hat1 hf rfl
    have hra : roleAt r.F (i : Int) = f.r := by unfold roleAt; rw [if_neg (by omega), Int.toNat_natCast, hf]
    (repeat (first | refine GK.ro ?_ | (refine GK.box ?_; intro bl) | (refine GK.mkMap ?_; intro bm) | (refine GK.build0 tb ?_; intro bs)))
    exact GQ.fin1 rfl (Rv.tmp rfl) (fun _ s => Sat.sub SubR.o s) ⟨by rw [hrr, hra], rfl⟩
end Go.Pe
/- The document's people: members, teams, one fact more, one less. -/
namespace Go.Pe
open Go Go.Sl Go.Ls
set_option maxRecDepth 100000
theorem membersR_nil (o : By) : membersR [] o = [] := rfl
theorem teamsR_nil (o : By) : teamsR [] o = [] := rfl
theorem tri_one {a b c : Value} (ha : a.oneCell' = true) (hb : b.oneCell' = true) (hc : c.oneCell' = true) : ∀ u ∈ [a, b, c], u.oneCell' = true := by
  intro u hu
  simp at hu
  rcases hu with rfl | rfl | rfl
  · exact ha
  · exact hb
  · exact hc
set_option maxRecDepth 100000
set_option maxHeartbeats 4000000
attribute [local irreducible] GK GO Yl Wt Ef Hd GH KH wpListIn Code.wpIn toBody roundQ poolOf rs RS YieldOk IterOk VOk row star exs mp lp Sat pt FnOk Rd bodyPost bodyPostM Lv Ret Exit.then Exit.inBlock Exit.noGoto Int.decLt Int.decLe Int.instDecidableEq
attribute [local irreducible] u8s strs likeTo fts factM membersR teamsR roleR
set_option pp.deepTerms true
set_option pp.maxSteps 1000000
variable {hF H : Hp} {r : RP} {uv ov fv : Value}
theorem rmembers_ok {o : By} (h : RpAt H r uv ov fv) : FnOk Go.Proofs.Try.prog 21 [.agg ⟨[uv, ov, fv]⟩, str o] [poolOf H] hF (fun v Γ => ∃ H', le H H' ∧ rs H' v (membersR r.F o).length 1 (strs (membersR r.F o)) ∧ Γ = [poolOf H']) := by
  have h0 := h
  have hnf := h.nf
  obtain ⟨p, c, rfl, hc, hln, hr⟩ := rs.out h.f
  refine FnOk.intro 40 Go.Proofs.Try.func21 rfl rfl fun w0 => ?_
  (repeat (first | refine GK.ro ?_ | (refine GK.box ?_; intro bl) | (refine GK.mkMap ?_; intro bm) | (refine GK.build0 tb ?_; intro bs)))
  refine G.loopK (X := Nat × Hp × Value) [(1, _), (2, _)] (fun (j, _, mv) => [(5, mv), (6, .int .i64 (j : Int))]) (fun (j, _, _) => r.F.length - j) (fun (_, H', _) => [blk bl 44 (0, 0) [uv, ov, .slice p r.F.length c], poolOf H'])
    (fun (j, H', mv) => j ≤ r.F.length ∧ le H H' ∧ rs H' mv (membersR (r.F.take j) o).length 1 (strs (membersR (r.F.take j) o))) (0, H, .slice none 0 0) ⟨Nat.zero_le _, le.refl _, by rw [List.take_zero, membersR_nil, strs_nil]; exact rs.nil⟩ Sub.o (fun _ s => Sat.sub SubR.o s) (fun z hz q hq => ?_)
  obtain ⟨j, H1, mv⟩ := z
  obtain ⟨hj, le1, hmv⟩ := hz
  dsimp only [List.cons_append, List.nil_append] at hq hmv ⊢
  (repeat (first | refine GK.ro ?_ | (refine GK.box ?_; intro bl) | (refine GK.mkMap ?_; intro bm) | (refine GK.build0 tb ?_; intro bs)))
  (first | refine G.condP rfl (fun hb => ?_) (fun hb => ?_) | refine G.condN rfl (fun hb => ?_) (fun hb => ?_) | refine G.cond rfl (fun hb => ?_) (fun hb => ?_))
  · obtain ⟨f, hf⟩ : ∃ f, r.F[j]? = some f := ⟨_, List.getElem?_eq_getElem (by omega)⟩
    have hlt : j < r.F.length := by omega
    clear hb
    obtain ⟨b1, o1, cs1, et1, fz1, rfl, hb1, hat1⟩ := hr (by omega)
    have hb1' := le1 _ _ hb1
    have g0 : cs1[o1 + (j : Int).toNat * 4 + 0]? = some (str f.o) := ft_get hat1 hf rfl
    have g1 : cs1[o1 + (j : Int).toNat * 4 + 1]? = some (str f.t) := ft_get hat1 hf rfl
    have g2 : cs1[o1 + (j : Int).toNat * 4 + 2]? = some (str f.u) := ft_get hat1 hf rfl
    have ht := members_take (o := o) hf
    have hml := membersR_len (r.F.take j) o
    have htl : (r.F.take j).length ≤ r.F.length := by rw [List.length_take]; omega
    have no : memF o f = false → rs H1 mv (membersR (r.F.take (j + 1)) o).length 1 (strs (membersR (r.F.take (j + 1)) o)) := fun hx => by rw [ht, if_neg (by rw [hx]; decide)]; exact hmv
    by_cases e1 : f.o = o
    rotate_left
    · have hb : (f.o == o) = false := by simp [e1]
      (repeat (first | refine GK.ro ?_ | (refine GK.box ?_; intro bl) | (refine GK.mkMap ?_; intro bm) | (refine GK.build0 tb ?_; intro bs)))
      (refine GQ.againN ((j + 1, H1, mv)) ?_ ?_ ?_ ?_; rotate_left; (first | omega | (dsimp only; omega)); exact Sub.o; exact (fun _ s => Sat.sub SubR.o s))
      exact ⟨by omega, le1, no (by unfold memF; simp [e1])⟩
    have hb : (f.o == o) = true := by simp [e1]
    by_cases e2 : f.t = []
    rotate_left
    · have hb2 : (f.t == []) = false := by simp [e2]
      (repeat (first | refine GK.ro ?_ | (refine GK.box ?_; intro bl) | (refine GK.mkMap ?_; intro bm) | (refine GK.build0 tb ?_; intro bs)))
      (refine GQ.againN ((j + 1, H1, mv)) ?_ ?_ ?_ ?_; rotate_left; (first | omega | (dsimp only; omega)); exact Sub.o; exact (fun _ s => Sat.sub SubR.o s))
      exact ⟨by omega, le1, no (by unfold memF; simp [e2])⟩
    have hb2 : (f.t == []) = true := by simp [e2]
    have hyes : memF o f = true := by unfold memF; simp [e1, e2]
    (repeat (first | refine GK.ro ?_ | (refine GK.box ?_; intro bl) | (refine GK.mkMap ?_; intro bm) | (refine GK.build0 tb ?_; intro bs)))
    refine GL.cons ?_; refine GO.callA (fun hF' hle hH => with_ok (s := f.u) hmv (by omega)) Wt.o (by kernel_rfl) rfl rfl SubR.o ?_
    rintro v2 Γ' ⟨H2, le2, hrs2, rfl⟩
    (repeat (first | refine GK.ro ?_ | (refine GK.box ?_; intro bl) | (refine GK.mkMap ?_; intro bm) | (refine GK.build0 tb ?_; intro bs)))
    (refine GQ.againN ((j + 1, H2, v2)) ?_ ?_ ?_ ?_; rotate_left; (first | omega | (dsimp only; omega)); exact Sub.o; exact (fun _ s => Sat.sub SubR.o s))
    exact ⟨by omega, le1.trans le2, by rw [ht, if_pos hyes]; exact hrs2⟩
  · have hjl : j = r.F.length := by omega
    subst hjl
    rw [List.take_length] at hmv
    (repeat (first | refine GK.ro ?_ | (refine GK.box ?_; intro bl) | (refine GK.mkMap ?_; intro bm) | (refine GK.build0 tb ?_; intro bs)))
    exact GQ.fin1 rfl (Rv.tmp rfl) (fun _ s => Sat.sub SubR.o s) ⟨H1, le1, hmv, rfl⟩
theorem rteams_ok {o : By} (h : RpAt H r uv ov fv) : FnOk Go.Proofs.Try.prog 22 [.agg ⟨[uv, ov, fv]⟩, str o] [poolOf H] hF (fun v Γ => ∃ H', le H H' ∧ rs H' v (teamsR r.F o).length 1 (strs (teamsR r.F o)) ∧ Γ = [poolOf H']) := by
  have h0 := h
  have hnf := h.nf
  obtain ⟨p, c, rfl, hc, hln, hr⟩ := rs.out h.f
  refine FnOk.intro 49 Go.Proofs.Try.func22 rfl rfl fun w0 => ?_
  (repeat (first | refine GK.ro ?_ | (refine GK.box ?_; intro bl) | (refine GK.mkMap ?_; intro bm) | (refine GK.build0 tb ?_; intro bs)))
  refine G.loopK (X := Nat × Hp × Value) [(1, _), (2, _)] (fun (j, _, mv) => [(5, mv), (6, .int .i64 (j : Int))]) (fun (j, _, _) => r.F.length - j) (fun (_, H', _) => [blk bl 44 (0, 0) [uv, ov, .slice p r.F.length c], poolOf H'])
    (fun (j, H', mv) => j ≤ r.F.length ∧ le H H' ∧ rs H' mv (teamsR (r.F.take j) o).length 1 (strs (teamsR (r.F.take j) o))) (0, H, .slice none 0 0) ⟨Nat.zero_le _, le.refl _, by rw [List.take_zero, teamsR_nil, strs_nil]; exact rs.nil⟩ Sub.o (fun _ s => Sat.sub SubR.o s) (fun z hz q hq => ?_)
  obtain ⟨j, H1, mv⟩ := z
  obtain ⟨hj, le1, hmv⟩ := hz
  dsimp only [List.cons_append, List.nil_append] at hq hmv ⊢
  (repeat (first | refine GK.ro ?_ | (refine GK.box ?_; intro bl) | (refine GK.mkMap ?_; intro bm) | (refine GK.build0 tb ?_; intro bs)))
  (first | refine G.condP rfl (fun hb => ?_) (fun hb => ?_) | refine G.condN rfl (fun hb => ?_) (fun hb => ?_) | refine G.cond rfl (fun hb => ?_) (fun hb => ?_))
  · obtain ⟨f, hf⟩ : ∃ f, r.F[j]? = some f := ⟨_, List.getElem?_eq_getElem (by omega)⟩
    have hlt : j < r.F.length := by omega
    clear hb
    obtain ⟨b1, o1, cs1, et1, fz1, rfl, hb1, hat1⟩ := hr (by omega)
    have hb1' := le1 _ _ hb1
    have g0 : cs1[o1 + (j : Int).toNat * 4 + 0]? = some (str f.o) := ft_get hat1 hf rfl
    have g1 : cs1[o1 + (j : Int).toNat * 4 + 1]? = some (str f.t) := ft_get hat1 hf rfl
    have g2 : cs1[o1 + (j : Int).toNat * 4 + 2]? = some (str f.u) := ft_get hat1 hf rfl
    have ht := teams_take (o := o) hf
    have hml := teamsR_len (r.F.take j) o
    have htl : (r.F.take j).length ≤ r.F.length := by rw [List.length_take]; omega
    have no : teamF o f = false → rs H1 mv (teamsR (r.F.take (j + 1)) o).length 1 (strs (teamsR (r.F.take (j + 1)) o)) := fun hx => by rw [ht, if_neg (by rw [hx]; decide)]; exact hmv
    by_cases e1 : f.o = o
    rotate_left
    · have hb : (f.o == o) = false := by simp [e1]
      (repeat (first | refine GK.ro ?_ | (refine GK.box ?_; intro bl) | (refine GK.mkMap ?_; intro bm) | (refine GK.build0 tb ?_; intro bs)))
      (refine GQ.againN ((j + 1, H1, mv)) ?_ ?_ ?_ ?_; rotate_left; (first | omega | (dsimp only; omega)); exact Sub.o; exact (fun _ s => Sat.sub SubR.o s))
      exact ⟨by omega, le1, no (by unfold teamF; simp [e1])⟩
    have hb : (f.o == o) = true := by simp [e1]
    by_cases e2 : f.t = []
    · have hb2 : (!(f.t == [])) = false := by simp [e2]
      (repeat (first | refine GK.ro ?_ | (refine GK.box ?_; intro bl) | (refine GK.mkMap ?_; intro bm) | (refine GK.build0 tb ?_; intro bs)))
      (refine GQ.againN ((j + 1, H1, mv)) ?_ ?_ ?_ ?_; rotate_left; (first | omega | (dsimp only; omega)); exact Sub.o; exact (fun _ s => Sat.sub SubR.o s))
      exact ⟨by omega, le1, no (by unfold teamF; simp [e2])⟩
    have hb2 : (!(f.t == [])) = true := by simp [e2]
    by_cases e3 : f.u = []
    rotate_left
    · have hb3 : (f.u == []) = false := by simp [e3]
      (repeat (first | refine GK.ro ?_ | (refine GK.box ?_; intro bl) | (refine GK.mkMap ?_; intro bm) | (refine GK.build0 tb ?_; intro bs)))
      (refine GQ.againN ((j + 1, H1, mv)) ?_ ?_ ?_ ?_; rotate_left; (first | omega | (dsimp only; omega)); exact Sub.o; exact (fun _ s => Sat.sub SubR.o s))
      exact ⟨by omega, le1, no (by unfold teamF; simp [e3])⟩
    have hb3 : (f.u == []) = true := by simp [e3]
    have hyes : teamF o f = true := by unfold teamF; simp [e1, e2, e3]
    (repeat (first | refine GK.ro ?_ | (refine GK.box ?_; intro bl) | (refine GK.mkMap ?_; intro bm) | (refine GK.build0 tb ?_; intro bs)))
    refine GL.cons ?_; refine GO.callA (fun hF' hle hH => with_ok (s := f.t) hmv (by omega)) Wt.o (by kernel_rfl) rfl rfl SubR.o ?_
    rintro v2 Γ' ⟨H2, le2, hrs2, rfl⟩
    (repeat (first | refine GK.ro ?_ | (refine GK.box ?_; intro bl) | (refine GK.mkMap ?_; intro bm) | (refine GK.build0 tb ?_; intro bs)))
    (refine GQ.againN ((j + 1, H2, v2)) ?_ ?_ ?_ ?_; rotate_left; (first | omega | (dsimp only; omega)); exact Sub.o; exact (fun _ s => Sat.sub SubR.o s))
    exact ⟨by omega, le1.trans le2, by rw [ht, if_pos hyes]; exact hrs2⟩
  · have hjl : j = r.F.length := by omega
    subst hjl
    rw [List.take_length] at hmv
    (repeat (first | refine GK.ro ?_ | (refine GK.box ?_; intro bl) | (refine GK.mkMap ?_; intro bm) | (refine GK.build0 tb ?_; intro bs)))
    exact GQ.fin1 rfl (Rv.tmp rfl) (fun _ s => Sat.sub SubR.o s) ⟨H1, le1, hmv, rfl⟩
theorem rwith_ok {f : Ft} (h : RpAt H r uv ov fv) (hn : r.F.length < 1000000) : FnOk Go.Proofs.Try.prog 61 [.agg ⟨[uv, ov, fv]⟩, .agg ⟨ftC f⟩] [poolOf H] hF
    (fun v Γ => ∃ H' fv', le H H' ∧ v = .agg ⟨[uv, ov, fv']⟩ ∧ RpAt H' ⟨r.U, r.O, r.F ++ [f]⟩ uv ov fv' ∧ Γ = [poolOf H']) := by
  have h0 := h
  have hdd := h.f
  have ou := h.u.one
  have oo := h.o.one
  obtain ⟨p, c, rfl, hc, hln, hr⟩ := rs.out h.f
  refine FnOk.intro 14 Go.Proofs.Try.func61 rfl rfl fun w0 => ?_
  (repeat (first | refine GK.ro ?_ | (refine GK.box ?_; intro bl) | (refine GK.mkMap ?_; intro bm) | (refine GK.build0 tb ?_; intro bs) | (refine GL.cons ?_; refine GO.alloc Wt.o (by exact rfl) ?_; intro ba) | (refine GL.cons ?_; refine Gt.storeAny tb 0 Wt.o (by exact rfl) (by exact rfl) (by exact rfl) (by assumption) (by assumption) (by exact rfl) (by first | exact rfl | assumption) ?_) | (refine GL.cons ?_; refine Gt.storeAny tb 1 Wt.o (by exact rfl) (by exact rfl) (by exact rfl) (by assumption) (by assumption) (by exact rfl) (by first | exact rfl | assumption) ?_) | (refine GL.cons ?_; refine Gt.storeAny tb 2 Wt.o (by exact rfl) (by exact rfl) (by exact rfl) (by assumption) (by assumption) (by exact rfl) (by first | exact rfl | assumption) ?_) | (refine GL.cons ?_; refine Gt.storeAny tb 3 Wt.o (by exact rfl) (by exact rfl) (by exact rfl) (by assumption) (by assumption) (by exact rfl) (by first | exact rfl | assumption) ?_) | (refine GL.cons ?_; refine Gt.storeAny tb 4 Wt.o (by exact rfl) (by exact rfl) (by exact rfl) (by assumption) (by assumption) (by exact rfl) (by first | exact rfl | assumption) ?_) | (refine GL.cons ?_; refine Gt.storeAny tb 5 Wt.o (by exact rfl) (by exact rfl) (by exact rfl) (by assumption) (by assumption) (by exact rfl) (by first | exact rfl | assumption) ?_) | (refine GL.cons ?_; refine Gt.storeAny tb 6 Wt.o (by exact rfl) (by exact rfl) (by exact rfl) (by assumption) (by assumption) (by exact rfl) (by first | exact rfl | assumption) ?_) | (refine GL.cons ?_; refine Gt.storeAny tb 7 Wt.o (by exact rfl) (by exact rfl) (by exact rfl) (by assumption) (by assumption) (by exact rfl) (by first | exact rfl | assumption) ?_) | (refine GL.cons ?_; refine Gt.storeAny tb 8 Wt.o (by exact rfl) (by exact rfl) (by exact rfl) (by assumption) (by assumption) (by exact rfl) (by first | exact rfl | assumption) ?_) | (refine GL.cons ?_; refine Gt.storeAny tb 9 Wt.o (by exact rfl) (by exact rfl) (by exact rfl) (by assumption) (by assumption) (by exact rfl) (by first | exact rfl | assumption) ?_)))
  rename_i b1
  refine GK.heap (Γ' := [blk b1 44 (0, 0) [uv, ov, .slice p r.F.length c], blk bl 76 (0, 0) (ftC f), blk ba 44 (0, 0) [.slice none 0 0, .slice none 0 0, .slice none 0 0], poolOf H]) (fun _ s => Sat.sub SubR.o s) ?_
  refine G.draw [8] [blk b1 44 (0, 0) [uv, ov, .slice p r.F.length c], blk bl 76 (0, 0) (ftC f)] (by kernel_rfl) ?_
  ((first | refine GH.to 1 ?_ | refine GH.tos 1 ?_); (first | refine GH.to 2 ?_ | refine GH.tos 2 ?_); (first | refine GH.to 4 ?_ | refine GH.tos 4 ?_))
  refine GH.step2 0 5 rfl rfl (by kernel_rfl) ?_ ?_
  · refine Gt.build0 tb Wt.o rfl rfl ?_
    intro s1
    refine GH.keep (fun _ s => Sat.sub SubR.o s) ?_
    refine GH.heap (Γ' := [row (.slice (some ⟨s1, 0, none⟩) 0 0) 76 4 0 [], poolOf H, blk b1 44 (0, 0) [uv, ov, .slice p r.F.length c], blk bl 76 (0, 0) (ftC f), blk ba 44 (0, 0) [.slice none 0 0, .slice none 0 0, .slice none 0 0]]) (fun _ s => Sat.sub SubR.o s) ?_
    refine GH.step2 3 5 rfl rfl (by kernel_rfl) ?_ ?_
    · refine Gt.append0 tb 0 (m := r.F.length) Wt.o rfl (.inl ⟨_, rfl⟩) rfl rfl rfl rfl rfl (RS.src (RS.pool 1 rfl hdd) (fts_one r.F) hln ⟨_, _, rfl⟩) (by omega) (by omega) ?_
      intro qa da
      refine GH.keep (fun _ s => Sat.sub SubR.o s) ?_
      refine GH.step 5 rfl (by kernel_rfl) ?_
      refine Gt.buildLit tb (sz := 3) (n := 0) Wt.o rfl rfl (by kernel_rfl) rfl rfl rfl rfl rfl rfl ?_
      intro bx
      refine GH.keep (fun _ s => Sat.sub SubR.o s) ?_
      refine GH.heap (Γ' := [blk bx 76 (0, 0) (ftC f), row (.slice qa r.F.length da) 76 4 r.F.length (fts r.F), blk b1 44 (0, 0) [uv, ov, .slice p r.F.length c], blk bl 76 (0, 0) (ftC f), blk ba 44 (0, 0) [.slice none 0 0, .slice none 0 0, .slice none 0 0], poolOf H]) (fun _ s => Sat.sub SubR.o s) ?_
      refine GH.step 6 rfl (by kernel_rfl) ?_
      refine Gt.append tb 1 Wt.o rfl (.inl ⟨_, rfl⟩) rfl rfl rfl rfl rfl (Src.slice (m := 1) (Rd.blk 0 rfl) (At.all _) rfl (one_of_all rfl)) (by omega) (by omega) ?_
      intro qb db
      refine GH.keep (fun _ s => Sat.sub SubR.o s) ?_
      rw [show fts r.F ++ ftC f = fts (r.F ++ [f]) from by rw [fts_append, fts_sing]]
      refine GH.weak (fr' := [(2, .pointer (some ⟨b1, 0, none⟩)), (4, .pointer (some ⟨ba, 0, none⟩)), (11, .slice qb (r.F.length + 1) db)]) (Γ' := [blk b1 44 (0, 0) [uv, ov, .slice p r.F.length c], blk ba 44 (0, 0) [.slice none 0 0, .slice none 0 0, .slice none 0 0], row (.slice qb (r.F.length + 1) db) 76 4 (r.F.length + 1) (fts (r.F ++ [f])), blk bl 76 (0, 0) (ftC f), poolOf H]) Sub.o (fun _ s => Sat.sub SubR.o s) ?_
      ((first | refine GH.to 7 ?_ | refine GH.tos 7 ?_))
      refine GH.step 8 rfl (by kernel_rfl) ?_
      refine Gt.storeAt tb 0 Wt.o rfl rfl rfl rfl rfl (by show 0 + 2 < 3; omega) rfl ?_
      refine GH.on rfl ?_
      refine GH.fin (by kernel_rfl) ?_
      refine GK.heap (Γ' := [poolOf H, row (.slice qb (r.F.length + 1) db) 76 4 (r.F.length + 1) (fts (r.F ++ [f])), blk b1 44 (0, 0) [uv, ov, .slice qb (r.F.length + 1) db], blk ba 44 (0, 0) [.slice none 0 0, .slice none 0 0, .slice none 0 0]]) (fun _ s => Sat.sub SubR.o s) ?_
      refine GK.absorb fun H1 k1 l1 a1 m1 => ?_
      have gd := row_in a1 m1
      (repeat (first | refine GK.ro ?_ | (refine GK.box ?_; intro bl) | (refine GK.mkMap ?_; intro bm) | (refine GK.build0 tb ?_; intro bs)))
      refine GL.cons ?_; refine Gt.storeAny tb 2 Wt.o rfl rfl rfl rfl (by exact tri_one ou oo rfl) rfl rfl ?_
      (repeat (first | refine GK.ro ?_ | (refine GK.box ?_; intro bl) | (refine GK.mkMap ?_; intro bm) | (refine GK.build0 tb ?_; intro bs)))
      exact GQ.fin1 rfl (Rv.row rfl (by kernel_rfl) (by kernel_rfl) (Rd.blk 2 rfl) (At.all _)) (fun _ s => Sat.sub SubR.o s) ⟨H1, .slice qb (r.F.length + 1) db, l1, rfl, ⟨h0.u.mono l1, h0.o.mono l1, by rw [List.length_append]; exact gd, h0.nu, h0.no, by rw [List.length_append]; simp; omega⟩, rfl⟩
    · refine Gt.buildLit tb (sz := 3) (n := 0) Wt.o rfl rfl (by kernel_rfl) rfl rfl rfl rfl rfl rfl ?_
      intro bx
      refine GH.keep (fun _ s => Sat.sub SubR.o s) ?_
      refine GH.heap (Γ' := [row (.slice (some ⟨s1, 0, none⟩) 0 0) 76 4 0 [], poolOf H, blk bx 76 (0, 0) (ftC f), blk b1 44 (0, 0) [uv, ov, .slice p r.F.length c], blk bl 76 (0, 0) (ftC f), blk ba 44 (0, 0) [.slice none 0 0, .slice none 0 0, .slice none 0 0]]) (fun _ s => Sat.sub SubR.o s) ?_
      refine GH.step 3 rfl (by kernel_rfl) ?_
      refine Gt.append0 tb 0 (m := r.F.length) Wt.o rfl (.inl ⟨_, rfl⟩) rfl rfl rfl rfl rfl (RS.src (RS.pool 1 rfl hdd) (fts_one r.F) hln ⟨_, _, rfl⟩) (by omega) (by omega) ?_
      intro qa da
      refine GH.keep (fun _ s => Sat.sub SubR.o s) ?_
      refine GH.heap (Γ' := [blk bx 76 (0, 0) (ftC f), row (.slice qa r.F.length da) 76 4 r.F.length (fts r.F), blk b1 44 (0, 0) [uv, ov, .slice p r.F.length c], blk bl 76 (0, 0) (ftC f), blk ba 44 (0, 0) [.slice none 0 0, .slice none 0 0, .slice none 0 0], poolOf H]) (fun _ s => Sat.sub SubR.o s) ?_
      refine GH.step 6 rfl (by kernel_rfl) ?_
      refine Gt.append tb 1 Wt.o rfl (.inl ⟨_, rfl⟩) rfl rfl rfl rfl rfl (Src.slice (m := 1) (Rd.blk 0 rfl) (At.all _) rfl (one_of_all rfl)) (by omega) (by omega) ?_
      intro qb db
      refine GH.keep (fun _ s => Sat.sub SubR.o s) ?_
      rw [show fts r.F ++ ftC f = fts (r.F ++ [f]) from by rw [fts_append, fts_sing]]
      refine GH.weak (fr' := [(2, .pointer (some ⟨b1, 0, none⟩)), (4, .pointer (some ⟨ba, 0, none⟩)), (11, .slice qb (r.F.length + 1) db)]) (Γ' := [blk b1 44 (0, 0) [uv, ov, .slice p r.F.length c], blk ba 44 (0, 0) [.slice none 0 0, .slice none 0 0, .slice none 0 0], row (.slice qb (r.F.length + 1) db) 76 4 (r.F.length + 1) (fts (r.F ++ [f])), blk bl 76 (0, 0) (ftC f), poolOf H]) Sub.o (fun _ s => Sat.sub SubR.o s) ?_
      ((first | refine GH.to 7 ?_ | refine GH.tos 7 ?_))
      refine GH.step 8 rfl (by kernel_rfl) ?_
      refine Gt.storeAt tb 0 Wt.o rfl rfl rfl rfl rfl (by show 0 + 2 < 3; omega) rfl ?_
      refine GH.on rfl ?_
      refine GH.fin (by kernel_rfl) ?_
      refine GK.heap (Γ' := [poolOf H, row (.slice qb (r.F.length + 1) db) 76 4 (r.F.length + 1) (fts (r.F ++ [f])), blk b1 44 (0, 0) [uv, ov, .slice qb (r.F.length + 1) db], blk ba 44 (0, 0) [.slice none 0 0, .slice none 0 0, .slice none 0 0]]) (fun _ s => Sat.sub SubR.o s) ?_
      refine GK.absorb fun H1 k1 l1 a1 m1 => ?_
      have gd := row_in a1 m1
      (repeat (first | refine GK.ro ?_ | (refine GK.box ?_; intro bl) | (refine GK.mkMap ?_; intro bm) | (refine GK.build0 tb ?_; intro bs)))
      refine GL.cons ?_; refine Gt.storeAny tb 2 Wt.o rfl rfl rfl rfl (by exact tri_one ou oo rfl) rfl rfl ?_
      (repeat (first | refine GK.ro ?_ | (refine GK.box ?_; intro bl) | (refine GK.mkMap ?_; intro bm) | (refine GK.build0 tb ?_; intro bs)))
      exact GQ.fin1 rfl (Rv.row rfl (by kernel_rfl) (by kernel_rfl) (Rd.blk 2 rfl) (At.all _)) (fun _ s => Sat.sub SubR.o s) ⟨H1, .slice qb (r.F.length + 1) db, l1, rfl, ⟨h0.u.mono l1, h0.o.mono l1, by rw [List.length_append]; exact gd, h0.nu, h0.no, by rw [List.length_append]; simp; omega⟩, rfl⟩
  · refine Gt.buildLit tb (sz := 3) (n := 0) Wt.o rfl rfl (by kernel_rfl) rfl rfl rfl rfl rfl rfl ?_
    intro bx
    refine GH.keep (fun _ s => Sat.sub SubR.o s) ?_
    refine GH.step 0 rfl (by kernel_rfl) ?_
    refine Gt.build0 tb Wt.o rfl rfl ?_
    intro s1
    refine GH.keep (fun _ s => Sat.sub SubR.o s) ?_
    refine GH.heap (Γ' := [row (.slice (some ⟨s1, 0, none⟩) 0 0) 76 4 0 [], poolOf H, blk bx 76 (0, 0) (ftC f), blk b1 44 (0, 0) [uv, ov, .slice p r.F.length c], blk bl 76 (0, 0) (ftC f), blk ba 44 (0, 0) [.slice none 0 0, .slice none 0 0, .slice none 0 0]]) (fun _ s => Sat.sub SubR.o s) ?_
    refine GH.step 3 rfl (by kernel_rfl) ?_
    refine Gt.append0 tb 0 (m := r.F.length) Wt.o rfl (.inl ⟨_, rfl⟩) rfl rfl rfl rfl rfl (RS.src (RS.pool 1 rfl hdd) (fts_one r.F) hln ⟨_, _, rfl⟩) (by omega) (by omega) ?_
    intro qa da
    refine GH.keep (fun _ s => Sat.sub SubR.o s) ?_
    refine GH.heap (Γ' := [blk bx 76 (0, 0) (ftC f), row (.slice qa r.F.length da) 76 4 r.F.length (fts r.F), blk b1 44 (0, 0) [uv, ov, .slice p r.F.length c], blk bl 76 (0, 0) (ftC f), blk ba 44 (0, 0) [.slice none 0 0, .slice none 0 0, .slice none 0 0], poolOf H]) (fun _ s => Sat.sub SubR.o s) ?_
    refine GH.step 6 rfl (by kernel_rfl) ?_
    refine Gt.append tb 1 Wt.o rfl (.inl ⟨_, rfl⟩) rfl rfl rfl rfl rfl (Src.slice (m := 1) (Rd.blk 0 rfl) (At.all _) rfl (one_of_all rfl)) (by omega) (by omega) ?_
    intro qb db
    refine GH.keep (fun _ s => Sat.sub SubR.o s) ?_
    rw [show fts r.F ++ ftC f = fts (r.F ++ [f]) from by rw [fts_append, fts_sing]]
    refine GH.weak (fr' := [(2, .pointer (some ⟨b1, 0, none⟩)), (4, .pointer (some ⟨ba, 0, none⟩)), (11, .slice qb (r.F.length + 1) db)]) (Γ' := [blk b1 44 (0, 0) [uv, ov, .slice p r.F.length c], blk ba 44 (0, 0) [.slice none 0 0, .slice none 0 0, .slice none 0 0], row (.slice qb (r.F.length + 1) db) 76 4 (r.F.length + 1) (fts (r.F ++ [f])), blk bl 76 (0, 0) (ftC f), poolOf H]) Sub.o (fun _ s => Sat.sub SubR.o s) ?_
    ((first | refine GH.to 7 ?_ | refine GH.tos 7 ?_))
    refine GH.step 8 rfl (by kernel_rfl) ?_
    refine Gt.storeAt tb 0 Wt.o rfl rfl rfl rfl rfl (by show 0 + 2 < 3; omega) rfl ?_
    refine GH.on rfl ?_
    refine GH.fin (by kernel_rfl) ?_
    refine GK.heap (Γ' := [poolOf H, row (.slice qb (r.F.length + 1) db) 76 4 (r.F.length + 1) (fts (r.F ++ [f])), blk b1 44 (0, 0) [uv, ov, .slice qb (r.F.length + 1) db], blk ba 44 (0, 0) [.slice none 0 0, .slice none 0 0, .slice none 0 0]]) (fun _ s => Sat.sub SubR.o s) ?_
    refine GK.absorb fun H1 k1 l1 a1 m1 => ?_
    have gd := row_in a1 m1
    (repeat (first | refine GK.ro ?_ | (refine GK.box ?_; intro bl) | (refine GK.mkMap ?_; intro bm) | (refine GK.build0 tb ?_; intro bs)))
    refine GL.cons ?_; refine Gt.storeAny tb 2 Wt.o rfl rfl rfl rfl (by exact tri_one ou oo rfl) rfl rfl ?_
    (repeat (first | refine GK.ro ?_ | (refine GK.box ?_; intro bl) | (refine GK.mkMap ?_; intro bm) | (refine GK.build0 tb ?_; intro bs)))
    exact GQ.fin1 rfl (Rv.row rfl (by kernel_rfl) (by kernel_rfl) (Rd.blk 2 rfl) (At.all _)) (fun _ s => Sat.sub SubR.o s) ⟨H1, .slice qb (r.F.length + 1) db, l1, rfl, ⟨h0.u.mono l1, h0.o.mono l1, by rw [List.length_append]; exact gd, h0.nu, h0.no, by rw [List.length_append]; simp; omega⟩, rfl⟩
end Go.Pe
/- The document's people: one fact less, owners; users and organisations added. -/
namespace Go.Pe
open Go Go.Sl Go.Ls
set_option maxRecDepth 100000
theorem fts_take (l : List Ft) (n : Nat) : (fts l).take (n * 4) = fts (l.take n) := by unfold fts; exact flatMap_take (sz := 4) (f := ftC) (fun _ => rfl) l n
theorem fts_drop (l : List Ft) (n : Nat) : (fts l).drop (n * 4) = fts (l.drop n) := by unfold fts; exact flatMap_drop (sz := 4) (f := ftC) (fun _ => rfl) l n
def ownersR (F : List Ft) (o : By) : Nat := ((membersR F o).filter fun u => decide (roleR F o u = 2)).length
def lastR (F : List Ft) (o u : By) : Bool := decide (roleR F o u = 2) && decide (ownersR F o = 1)
/-- What such a call leaves. -/
def Leaves (H : Hp) (m : Int × RP) (v : Value) (Γ : List HProp) : Prop := ∃ H' uv ov fv, le H H' ∧ v = .tuple #[.agg ⟨[uv, ov, fv]⟩, .int .i64 m.1] ∧ RpAt H' m.2 uv ov fv ∧ Γ = [poolOf H']
def raddUserM (r : RP) (u : By) : Int × RP := if Pa.nameM u = false then (150, r) else if u ∈ r.U then (110, r) else if 64 ≤ r.U.length then (3, r) else (0, ⟨withM r.U u, r.O, r.F⟩)
def raddOrgM (r : RP) (n w : By) : Int × RP := if Pa.nameM n = false then (150, r) else if n ∈ r.O then (110, r) else if w ∉ r.U then (111, r) else if 8 ≤ r.O.length then (3, r) else (0, ⟨r.U, withM r.O n, r.F ++ [⟨n, [], w, 2⟩]⟩)
set_option maxRecDepth 100000
set_option maxHeartbeats 4000000
attribute [local irreducible] GK GO Yl Wt Ef Hd GH KH wpListIn Code.wpIn toBody roundQ poolOf rs RS YieldOk IterOk VOk row star exs mp lp Sat pt FnOk Rd bodyPost bodyPostM Lv Ret Exit.then Exit.inBlock Exit.noGoto Int.decLt Int.decLe Int.instDecidableEq
attribute [local irreducible] u8s strs likeTo fts factM membersR teamsR roleR ownersR lastR Pa.nameM
set_option pp.deepTerms true
set_option pp.maxSteps 1000000
variable {hF H : Hp} {r : RP} {uv ov fv : Value}
theorem without_ok {i : Nat} (h : RpAt H r uv ov fv) (hi : i < r.F.length) : FnOk Go.Proofs.Try.prog 63 [.agg ⟨[uv, ov, fv]⟩, .int .i64 (i : Int)] [poolOf H] hF
    (fun v Γ => ∃ H' fv', le H H' ∧ v = .agg ⟨[uv, ov, fv']⟩ ∧ RpAt H' ⟨r.U, r.O, r.F.eraseIdx i⟩ uv ov fv' ∧ Γ = [poolOf H']) := by
  have h0 := h
  have hnf := h.nf
  have ou := h.u.one
  have oo := h.o.one
  have hff := h.f
  obtain ⟨p, c, rfl, hc, hln, hr⟩ := rs.out h.f
  have htk := rs.take (m := i) (k := i) hff (by omega) (by omega)
  have htk2 := rs.take (m := i) (k := c) hff (by omega) (by omega)
  have hdr := rs.cut (l := i + 1) hff (by omega)
  have one1 : ∀ u ∈ (fts r.F).take (i * 4), u.oneCell' = true := fun u hu => fts_one r.F u (List.mem_of_mem_take hu)
  have one2 : ∀ u ∈ (fts r.F).drop ((i + 1) * 4), u.oneCell' = true := fun u hu => fts_one r.F u (List.mem_of_mem_drop hu)
  have len1 : ((fts r.F).take (i * 4)).length = i * 4 := by rw [List.length_take, fts_len]; omega
  have len2 : ((fts r.F).drop ((i + 1) * 4)).length = (r.F.length - (i + 1)) * 4 := by rw [List.length_drop, fts_len]; omega
  have hel : (r.F.eraseIdx i).length = r.F.length - 1 := by rw [List.length_eraseIdx_of_lt hi]
  have hee : (fts r.F).take (i * 4) ++ (fts r.F).drop ((i + 1) * 4) = fts (r.F.eraseIdx i) := by rw [fts_take, fts_drop, ← fts_append, List.eraseIdx_eq_take_drop_succ]
  refine FnOk.intro 19 Go.Proofs.Try.func63 rfl rfl fun w0 => ?_
  (repeat (first | refine GK.ro ?_ | (refine GK.box ?_; intro bl) | (refine GK.mkMap ?_; intro bm) | (refine GK.build0 tb ?_; intro bs) | (refine GL.cons ?_; refine GO.alloc Wt.o (by exact rfl) ?_; intro ba) | (refine GL.cons ?_; refine Gt.storeAny tb 0 Wt.o (by exact rfl) (by exact rfl) (by exact rfl) (by assumption) (by assumption) (by exact rfl) (by first | exact rfl | assumption) ?_) | (refine GL.cons ?_; refine Gt.storeAny tb 1 Wt.o (by exact rfl) (by exact rfl) (by exact rfl) (by assumption) (by assumption) (by exact rfl) (by first | exact rfl | assumption) ?_) | (refine GL.cons ?_; refine Gt.storeAny tb 2 Wt.o (by exact rfl) (by exact rfl) (by exact rfl) (by assumption) (by assumption) (by exact rfl) (by first | exact rfl | assumption) ?_) | (refine GL.cons ?_; refine Gt.storeAny tb 3 Wt.o (by exact rfl) (by exact rfl) (by exact rfl) (by assumption) (by assumption) (by exact rfl) (by first | exact rfl | assumption) ?_) | (refine GL.cons ?_; refine Gt.storeAny tb 4 Wt.o (by exact rfl) (by exact rfl) (by exact rfl) (by assumption) (by assumption) (by exact rfl) (by first | exact rfl | assumption) ?_) | (refine GL.cons ?_; refine Gt.storeAny tb 5 Wt.o (by exact rfl) (by exact rfl) (by exact rfl) (by assumption) (by assumption) (by exact rfl) (by first | exact rfl | assumption) ?_) | (refine GL.cons ?_; refine Gt.storeAny tb 6 Wt.o (by exact rfl) (by exact rfl) (by exact rfl) (by assumption) (by assumption) (by exact rfl) (by first | exact rfl | assumption) ?_) | (refine GL.cons ?_; refine Gt.storeAny tb 7 Wt.o (by exact rfl) (by exact rfl) (by exact rfl) (by assumption) (by assumption) (by exact rfl) (by first | exact rfl | assumption) ?_) | (refine GL.cons ?_; refine Gt.storeAny tb 8 Wt.o (by exact rfl) (by exact rfl) (by exact rfl) (by assumption) (by assumption) (by exact rfl) (by first | exact rfl | assumption) ?_) | (refine GL.cons ?_; refine Gt.storeAny tb 9 Wt.o (by exact rfl) (by exact rfl) (by exact rfl) (by assumption) (by assumption) (by exact rfl) (by first | exact rfl | assumption) ?_)))
  obtain ⟨b1, rfl⟩ : ∃ b1, b1 = bl := ⟨_, rfl⟩
  refine GK.heap (Γ' := [blk b1 44 (0, 0) [uv, ov, .slice p r.F.length c], blk ba 44 (0, 0) [.slice none 0 0, .slice none 0 0, .slice none 0 0], poolOf H]) (fun _ s => Sat.sub SubR.o s) ?_
  refine G.draw [13] [blk b1 44 (0, 0) [uv, ov, .slice p r.F.length c]] (by kernel_rfl) ?_
  ((first | refine GH.to 1 ?_ | refine GH.tos 1 ?_); (first | refine GH.to 2 ?_ | refine GH.tos 2 ?_); (first | refine GH.to 3 ?_ | refine GH.tos 3 ?_); (first | refine GH.to 4 ?_ | refine GH.tos 4 ?_); (first | refine GH.to 6 ?_ | refine GH.tos 6 ?_); (first | refine GH.to 7 ?_ | refine GH.tos 7 ?_); (first | refine GH.to 8 ?_ | refine GH.tos 8 ?_); (first | refine GH.to 9 ?_ | refine GH.tos 9 ?_); (first | refine GH.to 10 ?_ | refine GH.tos 10 ?_))
  rw [Int.toNat_natCast, show ((i : Int) + 1).toNat = i + 1 by omega]
  refine GH.step 0 rfl (by kernel_rfl) ?_
  refine Gt.build0 tb Wt.o rfl rfl ?_
  intro s1
  refine GH.keep (fun _ s => Sat.sub SubR.o s) ?_
  refine GH.heap (Γ' := [row (.slice (some ⟨s1, 0, none⟩) 0 0) 76 4 0 [], poolOf H, blk b1 44 (0, 0) [uv, ov, .slice p r.F.length c], blk ba 44 (0, 0) [.slice none 0 0, .slice none 0 0, .slice none 0 0]]) (fun _ s => Sat.sub SubR.o s) ?_
  refine GH.step 5 rfl (by kernel_rfl) ?_
  refine Gt.append0 tb 0 (m := i) Wt.o rfl (.inl ⟨_, rfl⟩) rfl rfl rfl rfl rfl (RS.src (RS.pool 1 rfl htk2) one1 len1 ⟨_, _, rfl⟩) (by omega) (by omega) ?_
  intro qa da
  refine GH.keep (fun _ s => Sat.sub SubR.o s) ?_
  refine GH.heap (Γ' := [row (.slice qa i da) 76 4 i ((fts r.F).take (i * 4)), poolOf H, blk b1 44 (0, 0) [uv, ov, .slice p r.F.length c], blk ba 44 (0, 0) [.slice none 0 0, .slice none 0 0, .slice none 0 0]]) (fun _ s => Sat.sub SubR.o s) ?_
  refine GH.step 11 rfl (by kernel_rfl) ?_
  refine Gt.append tb 0 Wt.o rfl (.inl ⟨_, rfl⟩) rfl rfl rfl rfl rfl (RS.src (RS.pool 1 rfl hdr) one2 len2 ⟨_, _, rfl⟩) (by omega) (by omega) ?_
  intro qb db
  refine GH.keep (fun _ s => Sat.sub SubR.o s) ?_
  rw [hee, show i + (r.F.length - (i + 1)) = (r.F.eraseIdx i).length by omega]
  ((first | refine GH.to 12 ?_ | refine GH.tos 12 ?_))
  refine GH.heap (Γ' := [blk b1 44 (0, 0) [uv, ov, .slice p r.F.length c], blk ba 44 (0, 0) [.slice none 0 0, .slice none 0 0, .slice none 0 0], row (.slice qb (r.F.eraseIdx i).length db) 76 4 (r.F.eraseIdx i).length (fts (r.F.eraseIdx i)), poolOf H]) (fun _ s => Sat.sub SubR.o s) ?_
  refine GH.step 13 rfl (by kernel_rfl) ?_
  refine Gt.storeAt tb 0 Wt.o rfl rfl rfl rfl rfl (by show 0 + 2 < 3; omega) rfl ?_
  refine GH.on rfl ?_
  refine GH.fin (by kernel_rfl) ?_
  refine GK.heap (Γ' := [poolOf H, row (.slice qb (r.F.eraseIdx i).length db) 76 4 (r.F.eraseIdx i).length (fts (r.F.eraseIdx i)), blk b1 44 (0, 0) [uv, ov, .slice qb (r.F.eraseIdx i).length db], blk ba 44 (0, 0) [.slice none 0 0, .slice none 0 0, .slice none 0 0]]) (fun _ s => Sat.sub SubR.o s) ?_
  refine GK.absorb fun H1 k1 l1 a1 m1 => ?_
  have gd := row_in a1 m1
  (repeat (first | refine GK.ro ?_ | (refine GK.box ?_; intro bl) | (refine GK.mkMap ?_; intro bm) | (refine GK.build0 tb ?_; intro bs)))
  refine GL.cons ?_; (first | refine Gt.storeAny tb 0 Wt.o rfl rfl rfl rfl (by exact tri_one ou oo rfl) rfl rfl ?_ | refine Gt.storeAny tb 1 Wt.o rfl rfl rfl rfl (by exact tri_one ou oo rfl) rfl rfl ?_ | refine Gt.storeAny tb 2 Wt.o rfl rfl rfl rfl (by exact tri_one ou oo rfl) rfl rfl ?_ | refine Gt.storeAny tb 3 Wt.o rfl rfl rfl rfl (by exact tri_one ou oo rfl) rfl rfl ?_)
  (repeat (first | refine GK.ro ?_ | (refine GK.box ?_; intro bl) | (refine GK.mkMap ?_; intro bm) | (refine GK.build0 tb ?_; intro bs)))
  exact GQ.fin1 rfl (Rv.row rfl (by kernel_rfl) (by kernel_rfl) (by first | exact Rd.blk 0 rfl | exact Rd.blk 1 rfl | exact Rd.blk 2 rfl | exact Rd.blk 3 rfl) (At.all _)) (fun _ s => Sat.sub SubR.o s) ⟨H1, .slice qb (r.F.eraseIdx i).length db, l1, rfl, ⟨h0.u.mono l1, h0.o.mono l1, gd, h0.nu, h0.no, by show (r.F.eraseIdx i).length ≤ _; omega⟩, rfl⟩
theorem owners_ok {o : By} (h : RpAt H r uv ov fv) : FnOk Go.Proofs.Try.prog 75 [.agg ⟨[uv, ov, fv]⟩, str o] [poolOf H] hF (fun v Γ => ∃ H', le H H' ∧ v = .int .i64 (ownersR r.F o) ∧ Γ = [poolOf H']) := by
  have h0 := h
  have hnf := h.nf
  have hml := membersR_len r.F o
  have hoe : ownersR r.F o = ((membersR r.F o).filter fun u => decide (roleR r.F o u = 2)).length := by unfold ownersR; rfl
  refine FnOk.intro 28 Go.Proofs.Try.func75 rfl rfl fun w0 => ?_
  (repeat (first | refine GK.ro ?_ | (refine GK.box ?_; intro bl) | (refine GK.mkMap ?_; intro bm) | (refine GK.build0 tb ?_; intro bs)))
  refine GL.cons ?_; refine GO.callA (fun hF' hle hH => rmembers_ok (o := o) h0) Wt.o (by kernel_rfl) rfl rfl SubR.o ?_
  rintro v Γ' ⟨H1, le1, hm, rfl⟩
  have h1 := h0.mono le1
  obtain ⟨p, c, rfl, hc, hln, hr⟩ := rs.out hm
  (repeat (first | refine GK.ro ?_ | (refine GK.box ?_; intro bl) | (refine GK.mkMap ?_; intro bm) | (refine GK.build0 tb ?_; intro bs)))
  refine G.loopK (X := Nat) [(1, _), (2, _), (5, _)] (fun j => [(6, .int .i64 ((((membersR r.F o).take j).filter fun u => decide (roleR r.F o u = 2)).length : Int)), (7, .int .i64 (j : Int))]) (fun j => (membersR r.F o).length - j) (fun _ => [blk bl 44 (0, 0) [uv, ov, fv], poolOf H1]) (fun j => j ≤ (membersR r.F o).length) 0 (Nat.zero_le _) Sub.o (fun _ s => Sat.sub SubR.o s) (fun j hj q hq => ?_)
  dsimp only [List.cons_append, List.nil_append] at hq ⊢
  have hfl : (((membersR r.F o).take j).filter fun u => decide (roleR r.F o u = 2)).length ≤ (membersR r.F o).length := Nat.le_trans (List.length_filter_le _ _) (by rw [List.length_take]; omega)
  (repeat (first | refine GK.ro ?_ | (refine GK.box ?_; intro bl) | (refine GK.mkMap ?_; intro bm) | (refine GK.build0 tb ?_; intro bs)))
  (first | refine G.condP rfl (fun hb => ?_) (fun hb => ?_) | refine G.condN rfl (fun hb => ?_) (fun hb => ?_) | refine G.cond rfl (fun hb => ?_) (fun hb => ?_))
  · obtain ⟨u, hu⟩ : ∃ u, (membersR r.F o)[j]? = some u := ⟨_, List.getElem?_eq_getElem (by omega)⟩
    have hlt : j < (membersR r.F o).length := by omega
    clear hb
    obtain ⟨b1, o1, cs1, et1, fz1, rfl, hb1, hat1⟩ := hr (by omega)
    have hA1 : cs1[o1 + (j : Int).toNat * 1]? = some (str u) := by have := hat1 j _ (strs_get hu); simpa using this
    have htk : (((membersR r.F o).take (j + 1)).filter fun u => decide (roleR r.F o u = 2)).length = (((membersR r.F o).take j).filter fun u => decide (roleR r.F o u = 2)).length + (if roleR r.F o u = 2 then 1 else 0) := by
      have := (List.getElem?_eq_some_iff.1 hu).2
      rw [List.take_succ_eq_append_getElem hlt, this, List.filter_append, List.length_append]
      congr 1
      by_cases h2 : roleR r.F o u = 2
      · rw [if_pos h2, List.filter_cons, if_pos (decide_eq_true h2)]; rfl
      · rw [if_neg h2, List.filter_cons, if_neg (by rw [decide_eq_false h2]; decide)]; rfl
    (repeat (first | refine GK.ro ?_ | (refine GK.box ?_; intro bl) | (refine GK.mkMap ?_; intro bm) | (refine GK.build0 tb ?_; intro bs)))
    refine G.draw [] [blk bl 44 (0, 0) [uv, ov, fv], poolOf H1] (by kernel_rfl) ?_
    ((first | refine GH.to 0 ?_ | refine GH.tos 0 ?_); (first | refine GH.to 1 ?_ | refine GH.tos 1 ?_); (first | refine GH.to 2 ?_ | refine GH.tos 2 ?_); (first | refine GH.to 3 ?_ | refine GH.tos 3 ?_); (first | refine GH.to 4 ?_ | refine GH.tos 4 ?_); (first | refine GH.to 5 ?_ | refine GH.tos 5 ?_))
    refine GH.step 6 rfl (by kernel_rfl) ?_
    refine GO.callA (fun hF' hle hH => roleR_ok (o := o) (u := u) h1) Wt.o (by kernel_rfl) rfl rfl SubR.o ?_
    rintro v Γ' ⟨rfl, rfl⟩
    refine GH.keep (fun _ s => Sat.sub SubR.o s) ?_
    ((first | refine GH.to 7 ?_ | refine GH.tos 7 ?_))
    refine GH.fin (by kernel_rfl) ?_
    (repeat (first | refine GK.ro ?_ | (refine GK.box ?_; intro bl) | (refine GK.mkMap ?_; intro bm) | (refine GK.build0 tb ?_; intro bs)))
    (first | refine G.condP rfl (fun hb => ?_) (fun hb => ?_) | refine G.condN rfl (fun hb => ?_) (fun hb => ?_) | refine G.cond rfl (fun hb => ?_) (fun hb => ?_))
    · rw [if_pos hb] at htk
      (repeat (first | refine GK.ro ?_ | (refine GK.box ?_; intro bl) | (refine GK.mkMap ?_; intro bm) | (refine GK.build0 tb ?_; intro bs)))
      refine GQ.againN (j + 1) ?_ ?_ ?_ (fun _ s => Sat.sub SubR.o s)
      · show j + 1 ≤ _; omega
      · omega
      · simp only [htk, Int.natCast_add, Int.natCast_one]; exact Sub.o
    · rw [if_neg hb] at htk
      (repeat (first | refine GK.ro ?_ | (refine GK.box ?_; intro bl) | (refine GK.mkMap ?_; intro bm) | (refine GK.build0 tb ?_; intro bs)))
      refine GQ.againN (j + 1) ?_ ?_ ?_ (fun _ s => Sat.sub SubR.o s)
      · show j + 1 ≤ _; omega
      · omega
      · simp only [htk, Nat.add_zero]; exact Sub.o
  · have hjl : j = (membersR r.F o).length := by omega
    subst hjl
    rw [List.take_length, ← hoe]
    (repeat (first | refine GK.ro ?_ | (refine GK.box ?_; intro bl) | (refine GK.mkMap ?_; intro bm) | (refine GK.build0 tb ?_; intro bs)))
    exact GQ.fin1 rfl (Rv.tmp rfl) (fun _ s => Sat.sub SubR.o s) ⟨H1, le1, rfl, rfl⟩
theorem rlast_ok {o u : By} (h : RpAt H r uv ov fv) : FnOk Go.Proofs.Try.prog 62 [.agg ⟨[uv, ov, fv]⟩, str o, str u] [poolOf H] hF (fun v Γ => ∃ H', le H H' ∧ v = .bool (lastR r.F o u) ∧ Γ = [poolOf H']) := by
  have h0 := h
  have hla : lastR r.F o u = (decide (roleR r.F o u = 2) && decide (ownersR r.F o = 1)) := by unfold lastR; rfl
  refine FnOk.intro 18 Go.Proofs.Try.func62 rfl rfl fun w0 => ?_
  (repeat (first | refine GK.ro ?_ | (refine GK.box ?_; intro bl) | (refine GK.mkMap ?_; intro bm) | (refine GK.build0 tb ?_; intro bs)))
  refine GL.cons ?_; refine GO.callA (fun hF' hle hH => roleR_ok (o := o) (u := u) h0) Wt.o (by kernel_rfl) rfl rfl SubR.o ?_
  rintro v Γ' ⟨rfl, rfl⟩
  by_cases h2 : roleR r.F o u = 2
  · rw [decide_eq_true h2, Bool.true_and] at hla
    (repeat (first | refine GK.ro ?_ | (refine GK.box ?_; intro bl) | (refine GK.mkMap ?_; intro bm) | (refine GK.build0 tb ?_; intro bs)))
    refine GL.cons ?_; refine GO.callA (fun hF' hle hH => owners_ok (o := o) h0) Wt.o (by kernel_rfl) rfl rfl SubR.o ?_
    rintro v Γ' ⟨H1, le1, rfl, rfl⟩
    (repeat (first | refine GK.ro ?_ | (refine GK.box ?_; intro bl) | (refine GK.mkMap ?_; intro bm) | (refine GK.build0 tb ?_; intro bs)))
    refine GQ.fin1 rfl (Rv.tmp rfl) (fun _ s => Sat.sub SubR.o s) ⟨H1, le1, ?_, rfl⟩
    rw [hla]
    congr 1
    exact decide_eq_decide.2 (by omega)
  · rw [decide_eq_false h2, Bool.false_and] at hla
    (repeat (first | refine GK.ro ?_ | (refine GK.box ?_; intro bl) | (refine GK.mkMap ?_; intro bm) | (refine GK.build0 tb ?_; intro bs)))
    exact GQ.fin1 rfl (Rv.tmp rfl) (fun _ s => Sat.sub SubR.o s) ⟨H, le.refl _, by rw [hla], rfl⟩
theorem raddUser_ok {u : By} (h : RpAt H r uv ov fv) (hs : u.length < 9223372036854775807) (hn : r.U.length < 1000000) : FnOk Go.Proofs.Try.prog 38 [.agg ⟨[uv, ov, fv]⟩, str u] [poolOf H] hF (fun v Γ => Leaves H (raddUserM r u) v Γ) := by
  have h0 := h
  have ou := h.u.one
  have oo := h.o.one
  have hnu := h.nu
  have huu := h.u
  obtain ⟨p, c, rfl, hc, hln, hr⟩ := rs.out h.f
  obtain ⟨pu, cu, rfl, hcu, hlnu, hru⟩ := rs.out h.u
  refine FnOk.intro 26 Go.Proofs.Try.func38 rfl rfl fun w0 => ?_
  (repeat (first | refine GK.ro ?_ | (refine GK.box ?_; intro bl) | (refine GK.mkMap ?_; intro bm) | (refine GK.build0 tb ?_; intro bs) | (refine GL.cons ?_; refine GO.alloc Wt.o (by exact rfl) ?_; intro ba) | (refine GL.cons ?_; refine Gt.storeAny tb 0 Wt.o (by exact rfl) (by exact rfl) (by exact rfl) (by assumption) (by assumption) (by exact rfl) (by first | exact rfl | assumption) ?_) | (refine GL.cons ?_; refine Gt.storeAny tb 1 Wt.o (by exact rfl) (by exact rfl) (by exact rfl) (by assumption) (by assumption) (by exact rfl) (by first | exact rfl | assumption) ?_) | (refine GL.cons ?_; refine Gt.storeAny tb 2 Wt.o (by exact rfl) (by exact rfl) (by exact rfl) (by assumption) (by assumption) (by exact rfl) (by first | exact rfl | assumption) ?_) | (refine GL.cons ?_; refine Gt.storeAny tb 3 Wt.o (by exact rfl) (by exact rfl) (by exact rfl) (by assumption) (by assumption) (by exact rfl) (by first | exact rfl | assumption) ?_) | (refine GL.cons ?_; refine Gt.storeAny tb 4 Wt.o (by exact rfl) (by exact rfl) (by exact rfl) (by assumption) (by assumption) (by exact rfl) (by first | exact rfl | assumption) ?_) | (refine GL.cons ?_; refine Gt.storeAny tb 5 Wt.o (by exact rfl) (by exact rfl) (by exact rfl) (by assumption) (by assumption) (by exact rfl) (by first | exact rfl | assumption) ?_) | (refine GL.cons ?_; refine Gt.storeAny tb 6 Wt.o (by exact rfl) (by exact rfl) (by exact rfl) (by assumption) (by assumption) (by exact rfl) (by first | exact rfl | assumption) ?_) | (refine GL.cons ?_; refine Gt.storeAny tb 7 Wt.o (by exact rfl) (by exact rfl) (by exact rfl) (by assumption) (by assumption) (by exact rfl) (by first | exact rfl | assumption) ?_) | (refine GL.cons ?_; refine Gt.storeAny tb 8 Wt.o (by exact rfl) (by exact rfl) (by exact rfl) (by assumption) (by assumption) (by exact rfl) (by first | exact rfl | assumption) ?_) | (refine GL.cons ?_; refine Gt.storeAny tb 9 Wt.o (by exact rfl) (by exact rfl) (by exact rfl) (by assumption) (by assumption) (by exact rfl) (by first | exact rfl | assumption) ?_)))
  refine GL.cons ?_; refine GO.callA (fun hF' hle hH => Pa.rname_ok u hs) Wt.o (by kernel_rfl) rfl rfl SubR.o ?_
  rintro v Γ' ⟨rfl, rfl⟩
  cases hnm : Pa.nameM u with
  | false =>
    rw [show raddUserM r u = (150, r) from if_pos hnm]
    (repeat (first | refine GK.ro ?_ | (refine GK.box ?_; intro bl) | (refine GK.mkMap ?_; intro bm) | (refine GK.build0 tb ?_; intro bs)))
    refine GL.cons ?_; (first | refine Gt.storeAny tb 0 Wt.o rfl rfl rfl rfl (by exact tri_one ou oo rfl) rfl rfl ?_ | refine Gt.storeAny tb 1 Wt.o rfl rfl rfl rfl (by exact tri_one ou oo rfl) rfl rfl ?_ | refine Gt.storeAny tb 2 Wt.o rfl rfl rfl rfl (by exact tri_one ou oo rfl) rfl rfl ?_ | refine Gt.storeAny tb 3 Wt.o rfl rfl rfl rfl (by exact tri_one ou oo rfl) rfl rfl ?_)
    (repeat (first | refine GK.ro ?_ | (refine GK.box ?_; intro bl) | (refine GK.mkMap ?_; intro bm) | (refine GK.build0 tb ?_; intro bs)))
    exact GQ.fin2 rfl (Rv.row rfl (by kernel_rfl) (by kernel_rfl) (by first | exact Rd.blk 0 rfl | exact Rd.blk 1 rfl | exact Rd.blk 2 rfl | exact Rd.blk 3 rfl) (At.all _)) (Rv.tmp rfl) (fun _ s => Sat.sub SubR.o s) ⟨H, _, ov, .slice p r.F.length c, le.refl _, rfl, h0, rfl⟩
  | true =>
  have hn1 : ¬ Pa.nameM u = false := by rw [hnm]; decide
  (repeat (first | refine GK.ro ?_ | (refine GK.box ?_; intro bl) | (refine GK.mkMap ?_; intro bm) | (refine GK.build0 tb ?_; intro bs)))
  refine GL.cons ?_; refine GO.callA (fun hF' hle hH => has_ok (l := r.U) (s := u) huu hnu) Wt.o (by kernel_rfl) rfl rfl SubR.o ?_
  by_cases hu : u ∈ r.U
  · rw [decide_eq_true hu, show raddUserM r u = (110, r) from (if_neg hn1).trans (if_pos hu)]
    rintro v Γ' ⟨rfl, rfl⟩
    (repeat (first | refine GK.ro ?_ | (refine GK.box ?_; intro bl) | (refine GK.mkMap ?_; intro bm) | (refine GK.build0 tb ?_; intro bs)))
    refine GL.cons ?_; (first | refine Gt.storeAny tb 0 Wt.o rfl rfl rfl rfl (by exact tri_one ou oo rfl) rfl rfl ?_ | refine Gt.storeAny tb 1 Wt.o rfl rfl rfl rfl (by exact tri_one ou oo rfl) rfl rfl ?_ | refine Gt.storeAny tb 2 Wt.o rfl rfl rfl rfl (by exact tri_one ou oo rfl) rfl rfl ?_ | refine Gt.storeAny tb 3 Wt.o rfl rfl rfl rfl (by exact tri_one ou oo rfl) rfl rfl ?_)
    (repeat (first | refine GK.ro ?_ | (refine GK.box ?_; intro bl) | (refine GK.mkMap ?_; intro bm) | (refine GK.build0 tb ?_; intro bs)))
    exact GQ.fin2 rfl (Rv.row rfl (by kernel_rfl) (by kernel_rfl) (by first | exact Rd.blk 0 rfl | exact Rd.blk 1 rfl | exact Rd.blk 2 rfl | exact Rd.blk 3 rfl) (At.all _)) (Rv.tmp rfl) (fun _ s => Sat.sub SubR.o s) ⟨H, _, ov, .slice p r.F.length c, le.refl _, rfl, h0, rfl⟩
  rw [decide_eq_false hu]
  rintro v Γ' ⟨rfl, rfl⟩
  by_cases h64 : 64 ≤ r.U.length
  · rw [show raddUserM r u = (3, r) from (if_neg hn1).trans ((if_neg hu).trans (if_pos h64))]
    (repeat (first | refine GK.ro ?_ | (refine GK.box ?_; intro bl) | (refine GK.mkMap ?_; intro bm) | (refine GK.build0 tb ?_; intro bs)))
    refine GL.cons ?_; (first | refine Gt.storeAny tb 0 Wt.o rfl rfl rfl rfl (by exact tri_one ou oo rfl) rfl rfl ?_ | refine Gt.storeAny tb 1 Wt.o rfl rfl rfl rfl (by exact tri_one ou oo rfl) rfl rfl ?_ | refine Gt.storeAny tb 2 Wt.o rfl rfl rfl rfl (by exact tri_one ou oo rfl) rfl rfl ?_ | refine Gt.storeAny tb 3 Wt.o rfl rfl rfl rfl (by exact tri_one ou oo rfl) rfl rfl ?_)
    (repeat (first | refine GK.ro ?_ | (refine GK.box ?_; intro bl) | (refine GK.mkMap ?_; intro bm) | (refine GK.build0 tb ?_; intro bs)))
    exact GQ.fin2 rfl (Rv.row rfl (by kernel_rfl) (by kernel_rfl) (by first | exact Rd.blk 0 rfl | exact Rd.blk 1 rfl | exact Rd.blk 2 rfl | exact Rd.blk 3 rfl) (At.all _)) (Rv.tmp rfl) (fun _ s => Sat.sub SubR.o s) ⟨H, _, ov, .slice p r.F.length c, le.refl _, rfl, h0, rfl⟩
  rw [show raddUserM r u = (0, ⟨withM r.U u, r.O, r.F⟩) from (if_neg hn1).trans ((if_neg hu).trans (if_neg h64))]
  (repeat (first | refine GK.ro ?_ | (refine GK.box ?_; intro bl) | (refine GK.mkMap ?_; intro bm) | (refine GK.build0 tb ?_; intro bs)))
  refine GL.cons ?_; refine GO.callA (fun hF' hle hH => with_ok (s := u) huu (by omega)) Wt.o (by kernel_rfl) rfl rfl SubR.o ?_
  rintro v Γ' ⟨H1, l1, hw, rfl⟩
  have ow := hw.one
  have hwl := withM_len r.U u
  obtain ⟨b1, rfl⟩ : ∃ b1, b1 = bl := ⟨_, rfl⟩
  refine GK.heap (Γ' := [blk b1 44 (0, 0) [.slice pu r.U.length cu, ov, .slice p r.F.length c], blk ba 44 (0, 0) [.slice none 0 0, .slice none 0 0, .slice none 0 0], poolOf H1]) (fun _ s => Sat.sub SubR.o s) ?_
  (repeat (first | refine GK.ro ?_ | (refine GK.box ?_; intro bl) | (refine GK.mkMap ?_; intro bm) | (refine GK.build0 tb ?_; intro bs)))
  refine GL.cons ?_; refine Gt.storeAt tb 0 Wt.o rfl rfl rfl ow rfl (by show 0 + 0 < 3; omega) rfl ?_
  (repeat (first | refine GK.ro ?_ | (refine GK.box ?_; intro bl) | (refine GK.mkMap ?_; intro bm) | (refine GK.build0 tb ?_; intro bs)))
  refine GL.cons ?_; refine Gt.storeAny tb 1 Wt.o rfl rfl rfl rfl (by exact tri_one ow oo rfl) rfl rfl ?_
  (repeat (first | refine GK.ro ?_ | (refine GK.box ?_; intro bl) | (refine GK.mkMap ?_; intro bm) | (refine GK.build0 tb ?_; intro bs)))
  exact GQ.fin2 rfl (Rv.row rfl (by kernel_rfl) (by kernel_rfl) (by first | exact Rd.blk 0 rfl | exact Rd.blk 1 rfl | exact Rd.blk 2 rfl | exact Rd.blk 3 rfl) (At.all _)) (Rv.tmp rfl) (fun _ s => Sat.sub SubR.o s) ⟨H1, v, ov, .slice p r.F.length c, l1, rfl, ⟨hw, h0.o.mono l1, h0.f.mono l1, by show (withM r.U u).length ≤ _; omega, h0.no, h0.nf⟩, rfl⟩
theorem raddOrg_ok {n w : By} (h : RpAt H r uv ov fv) (hs : n.length < 9223372036854775807) (hn : r.O.length < 1000000) (hnf : r.F.length < 1000000) : FnOk Go.Proofs.Try.prog 39 [.agg ⟨[uv, ov, fv]⟩, str n, str w] [poolOf H] hF (fun v Γ => Leaves H (raddOrgM r n w) v Γ) := by
  have h0 := h
  have ou := h.u.one
  have oo := h.o.one
  have hnu := h.nu
  have hno := h.no
  have huu := h.u
  have hoo := h.o
  obtain ⟨p, c, rfl, hc, hln, hr⟩ := rs.out h.f
  obtain ⟨po, co, rfl, hco, hlno, hro⟩ := rs.out h.o
  refine FnOk.intro 38 Go.Proofs.Try.func39 rfl rfl fun w0 => ?_
  (repeat (first | refine GK.ro ?_ | (refine GK.box ?_; intro bl) | (refine GK.mkMap ?_; intro bm) | (refine GK.build0 tb ?_; intro bs) | (refine GL.cons ?_; refine GO.alloc Wt.o (by exact rfl) ?_; intro ba) | (refine GL.cons ?_; refine Gt.storeAny tb 0 Wt.o (by exact rfl) (by exact rfl) (by exact rfl) (by assumption) (by assumption) (by exact rfl) (by first | exact rfl | assumption) ?_) | (refine GL.cons ?_; refine Gt.storeAny tb 1 Wt.o (by exact rfl) (by exact rfl) (by exact rfl) (by assumption) (by assumption) (by exact rfl) (by first | exact rfl | assumption) ?_) | (refine GL.cons ?_; refine Gt.storeAny tb 2 Wt.o (by exact rfl) (by exact rfl) (by exact rfl) (by assumption) (by assumption) (by exact rfl) (by first | exact rfl | assumption) ?_) | (refine GL.cons ?_; refine Gt.storeAny tb 3 Wt.o (by exact rfl) (by exact rfl) (by exact rfl) (by assumption) (by assumption) (by exact rfl) (by first | exact rfl | assumption) ?_) | (refine GL.cons ?_; refine Gt.storeAny tb 4 Wt.o (by exact rfl) (by exact rfl) (by exact rfl) (by assumption) (by assumption) (by exact rfl) (by first | exact rfl | assumption) ?_) | (refine GL.cons ?_; refine Gt.storeAny tb 5 Wt.o (by exact rfl) (by exact rfl) (by exact rfl) (by assumption) (by assumption) (by exact rfl) (by first | exact rfl | assumption) ?_) | (refine GL.cons ?_; refine Gt.storeAny tb 6 Wt.o (by exact rfl) (by exact rfl) (by exact rfl) (by assumption) (by assumption) (by exact rfl) (by first | exact rfl | assumption) ?_) | (refine GL.cons ?_; refine Gt.storeAny tb 7 Wt.o (by exact rfl) (by exact rfl) (by exact rfl) (by assumption) (by assumption) (by exact rfl) (by first | exact rfl | assumption) ?_) | (refine GL.cons ?_; refine Gt.storeAny tb 8 Wt.o (by exact rfl) (by exact rfl) (by exact rfl) (by assumption) (by assumption) (by exact rfl) (by first | exact rfl | assumption) ?_) | (refine GL.cons ?_; refine Gt.storeAny tb 9 Wt.o (by exact rfl) (by exact rfl) (by exact rfl) (by assumption) (by assumption) (by exact rfl) (by first | exact rfl | assumption) ?_)))
  obtain ⟨b1, rfl⟩ : ∃ b1, b1 = bl := ⟨_, rfl⟩
  refine GL.cons ?_; refine GO.callA (fun hF' hle hH => Pa.rname_ok n hs) Wt.o (by kernel_rfl) rfl rfl SubR.o ?_
  rintro v Γ' ⟨rfl, rfl⟩
  cases hnm : Pa.nameM n with
  | false =>
    rw [show raddOrgM r n w = (150, r) from if_pos hnm]
    (repeat (first | refine GK.ro ?_ | (refine GK.box ?_; intro bl) | (refine GK.mkMap ?_; intro bm) | (refine GK.build0 tb ?_; intro bs)))
    refine GL.cons ?_; (first | refine Gt.storeAny tb 0 Wt.o rfl rfl rfl rfl (by exact tri_one ou oo rfl) rfl rfl ?_ | refine Gt.storeAny tb 1 Wt.o rfl rfl rfl rfl (by exact tri_one ou oo rfl) rfl rfl ?_ | refine Gt.storeAny tb 2 Wt.o rfl rfl rfl rfl (by exact tri_one ou oo rfl) rfl rfl ?_ | refine Gt.storeAny tb 3 Wt.o rfl rfl rfl rfl (by exact tri_one ou oo rfl) rfl rfl ?_)
    (repeat (first | refine GK.ro ?_ | (refine GK.box ?_; intro bl) | (refine GK.mkMap ?_; intro bm) | (refine GK.build0 tb ?_; intro bs)))
    exact GQ.fin2 rfl (Rv.row rfl (by kernel_rfl) (by kernel_rfl) (by first | exact Rd.blk 0 rfl | exact Rd.blk 1 rfl | exact Rd.blk 2 rfl | exact Rd.blk 3 rfl) (At.all _)) (Rv.tmp rfl) (fun _ s => Sat.sub SubR.o s) ⟨H, uv, _, .slice p r.F.length c, le.refl _, rfl, h0, rfl⟩
  | true =>
  have hn1 : ¬ Pa.nameM n = false := by rw [hnm]; decide
  (repeat (first | refine GK.ro ?_ | (refine GK.box ?_; intro bl) | (refine GK.mkMap ?_; intro bm) | (refine GK.build0 tb ?_; intro bs)))
  refine GL.cons ?_; refine GO.callA (fun hF' hle hH => has_ok (l := r.O) (s := n) hoo hno) Wt.o (by kernel_rfl) rfl rfl SubR.o ?_
  by_cases hu : n ∈ r.O
  · rw [decide_eq_true hu, show raddOrgM r n w = (110, r) from (if_neg hn1).trans (if_pos hu)]
    rintro v Γ' ⟨rfl, rfl⟩
    (repeat (first | refine GK.ro ?_ | (refine GK.box ?_; intro bl) | (refine GK.mkMap ?_; intro bm) | (refine GK.build0 tb ?_; intro bs)))
    refine GL.cons ?_; (first | refine Gt.storeAny tb 0 Wt.o rfl rfl rfl rfl (by exact tri_one ou oo rfl) rfl rfl ?_ | refine Gt.storeAny tb 1 Wt.o rfl rfl rfl rfl (by exact tri_one ou oo rfl) rfl rfl ?_ | refine Gt.storeAny tb 2 Wt.o rfl rfl rfl rfl (by exact tri_one ou oo rfl) rfl rfl ?_ | refine Gt.storeAny tb 3 Wt.o rfl rfl rfl rfl (by exact tri_one ou oo rfl) rfl rfl ?_)
    (repeat (first | refine GK.ro ?_ | (refine GK.box ?_; intro bl) | (refine GK.mkMap ?_; intro bm) | (refine GK.build0 tb ?_; intro bs)))
    exact GQ.fin2 rfl (Rv.row rfl (by kernel_rfl) (by kernel_rfl) (by first | exact Rd.blk 0 rfl | exact Rd.blk 1 rfl | exact Rd.blk 2 rfl | exact Rd.blk 3 rfl) (At.all _)) (Rv.tmp rfl) (fun _ s => Sat.sub SubR.o s) ⟨H, uv, _, .slice p r.F.length c, le.refl _, rfl, h0, rfl⟩
  rw [decide_eq_false hu]
  rintro v Γ' ⟨rfl, rfl⟩
  (repeat (first | refine GK.ro ?_ | (refine GK.box ?_; intro bl) | (refine GK.mkMap ?_; intro bm) | (refine GK.build0 tb ?_; intro bs)))
  refine GL.cons ?_; refine GO.callA (fun hF' hle hH => has_ok (l := r.U) (s := w) huu hnu) Wt.o (by kernel_rfl) rfl rfl SubR.o ?_
  by_cases hw : w ∈ r.U
  rotate_left
  · rw [decide_eq_false hw, show raddOrgM r n w = (111, r) from (if_neg hn1).trans ((if_neg hu).trans (if_pos hw))]
    rintro v Γ' ⟨rfl, rfl⟩
    (repeat (first | refine GK.ro ?_ | (refine GK.box ?_; intro bl) | (refine GK.mkMap ?_; intro bm) | (refine GK.build0 tb ?_; intro bs)))
    refine GL.cons ?_; (first | refine Gt.storeAny tb 0 Wt.o rfl rfl rfl rfl (by exact tri_one ou oo rfl) rfl rfl ?_ | refine Gt.storeAny tb 1 Wt.o rfl rfl rfl rfl (by exact tri_one ou oo rfl) rfl rfl ?_ | refine Gt.storeAny tb 2 Wt.o rfl rfl rfl rfl (by exact tri_one ou oo rfl) rfl rfl ?_ | refine Gt.storeAny tb 3 Wt.o rfl rfl rfl rfl (by exact tri_one ou oo rfl) rfl rfl ?_)
    (repeat (first | refine GK.ro ?_ | (refine GK.box ?_; intro bl) | (refine GK.mkMap ?_; intro bm) | (refine GK.build0 tb ?_; intro bs)))
    exact GQ.fin2 rfl (Rv.row rfl (by kernel_rfl) (by kernel_rfl) (by first | exact Rd.blk 0 rfl | exact Rd.blk 1 rfl | exact Rd.blk 2 rfl | exact Rd.blk 3 rfl) (At.all _)) (Rv.tmp rfl) (fun _ s => Sat.sub SubR.o s) ⟨H, uv, _, .slice p r.F.length c, le.refl _, rfl, h0, rfl⟩
  rw [decide_eq_true hw]
  rintro v Γ' ⟨rfl, rfl⟩
  have hw1 : ¬ w ∉ r.U := fun e => e hw
  by_cases h8 : 8 ≤ r.O.length
  · rw [show raddOrgM r n w = (3, r) from (if_neg hn1).trans ((if_neg hu).trans ((if_neg hw1).trans (if_pos h8)))]
    (repeat (first | refine GK.ro ?_ | (refine GK.box ?_; intro bl) | (refine GK.mkMap ?_; intro bm) | (refine GK.build0 tb ?_; intro bs)))
    refine GL.cons ?_; (first | refine Gt.storeAny tb 0 Wt.o rfl rfl rfl rfl (by exact tri_one ou oo rfl) rfl rfl ?_ | refine Gt.storeAny tb 1 Wt.o rfl rfl rfl rfl (by exact tri_one ou oo rfl) rfl rfl ?_ | refine Gt.storeAny tb 2 Wt.o rfl rfl rfl rfl (by exact tri_one ou oo rfl) rfl rfl ?_ | refine Gt.storeAny tb 3 Wt.o rfl rfl rfl rfl (by exact tri_one ou oo rfl) rfl rfl ?_)
    (repeat (first | refine GK.ro ?_ | (refine GK.box ?_; intro bl) | (refine GK.mkMap ?_; intro bm) | (refine GK.build0 tb ?_; intro bs)))
    exact GQ.fin2 rfl (Rv.row rfl (by kernel_rfl) (by kernel_rfl) (by first | exact Rd.blk 0 rfl | exact Rd.blk 1 rfl | exact Rd.blk 2 rfl | exact Rd.blk 3 rfl) (At.all _)) (Rv.tmp rfl) (fun _ s => Sat.sub SubR.o s) ⟨H, uv, _, .slice p r.F.length c, le.refl _, rfl, h0, rfl⟩
  rw [show raddOrgM r n w = (0, ⟨r.U, withM r.O n, r.F ++ [⟨n, [], w, 2⟩]⟩) from (if_neg hn1).trans ((if_neg hu).trans ((if_neg hw1).trans (if_neg h8)))]
  (repeat (first | refine GK.ro ?_ | (refine GK.box ?_; intro bl) | (refine GK.mkMap ?_; intro bm) | (refine GK.build0 tb ?_; intro bs)))
  refine GL.cons ?_; refine GO.callA (fun hF' hle hH => with_ok (s := n) hoo (by omega)) Wt.o (by kernel_rfl) rfl rfl SubR.o ?_
  rintro v Γ' ⟨H1, l1, hww, rfl⟩
  have ow := hww.one
  have hwl := withM_len r.O n
  have h1 : RpAt H1 ⟨r.U, withM r.O n, r.F⟩ uv v (.slice p r.F.length c) := ⟨h0.u.mono l1, hww, h0.f.mono l1, h0.nu, by show (withM r.O n).length ≤ _; omega, h0.nf⟩
  refine GK.heap (Γ' := [blk b1 44 (0, 0) [uv, .slice po r.O.length co, .slice p r.F.length c], blk ba 44 (0, 0) [.slice none 0 0, .slice none 0 0, .slice none 0 0], poolOf H1]) (fun _ s => Sat.sub SubR.o s) ?_
  (repeat (first | refine GK.ro ?_ | (refine GK.box ?_; intro bl) | (refine GK.mkMap ?_; intro bm) | (refine GK.build0 tb ?_; intro bs)))
  refine GL.cons ?_; refine Gt.storeAt tb 0 Wt.o rfl rfl rfl ow rfl (by show 0 + 1 < 3; omega) rfl ?_
  (repeat (first | refine GK.ro ?_ | (refine GK.box ?_; intro bl) | (refine GK.mkMap ?_; intro bm) | (refine GK.build0 tb ?_; intro bs)))
  refine GL.cons ?_; refine GO.callA (fun hF' hle hH => rwith_ok (f := ⟨n, [], w, 2⟩) h1 hnf) Wt.o (by kernel_rfl) rfl rfl SubR.o ?_
  rintro v2 Γ' ⟨H2, fv2, l2, rfl, h2, rfl⟩
  have of2 := h2.f.one
  (repeat (first | refine GK.ro ?_ | (refine GK.box ?_; intro bl) | (refine GK.mkMap ?_; intro bm) | (refine GK.build0 tb ?_; intro bs)))
  refine GL.cons ?_; (first | refine Gt.storeAny tb 1 Wt.o rfl rfl rfl rfl (by exact tri_one ou ow of2) rfl rfl ?_ | refine Gt.storeAny tb 2 Wt.o rfl rfl rfl rfl (by exact tri_one ou ow of2) rfl rfl ?_)
  (repeat (first | refine GK.ro ?_ | (refine GK.box ?_; intro bl) | (refine GK.mkMap ?_; intro bm) | (refine GK.build0 tb ?_; intro bs)))
  exact GQ.fin2 rfl (Rv.row rfl (by kernel_rfl) (by kernel_rfl) (by first | exact Rd.blk 0 rfl | exact Rd.blk 1 rfl | exact Rd.blk 2 rfl | exact Rd.blk 3 rfl) (At.all _)) (Rv.tmp rfl) (fun _ s => Sat.sub SubR.o s) ⟨H2, uv, v, fv2, l1.trans l2, rfl, h2, rfl⟩
end Go.Pe
/- The document's people: a team added, a member put in one and taken out. -/
namespace Go.Pe
open Go Go.Sl Go.Ls
set_option maxRecDepth 100000
def raddTeamM (r : RP) (o t : By) : Int × RP := if o ∉ r.O then (111, r) else if Pa.nameM t = false then (150, r) else if t ∈ teamsR r.F o then (110, r) else if 8 ≤ (teamsR r.F o).length then (3, r) else (0, ⟨r.U, r.O, r.F ++ [⟨o, t, [], 0⟩]⟩)
def rputM (r : RP) (o t u : By) : Int × RP := if t ∉ teamsR r.F o then (111, r) else if roleR r.F o u = 0 then (111, r) else if 0 ≤ factM r.F o t u then (110, r) else (0, ⟨r.U, r.O, r.F ++ [⟨o, t, u, 0⟩]⟩)
def routM (r : RP) (o t u : By) : Int × RP := if t = [] then (111, r) else if u = [] then (111, r) else if factM r.F o t u < 0 then (111, r) else (0, ⟨r.U, r.O, r.F.eraseIdx (factM r.F o t u).toNat⟩)
set_option maxRecDepth 100000
set_option maxHeartbeats 4000000
attribute [local irreducible] GK GO Yl Wt Ef Hd GH KH wpListIn Code.wpIn toBody roundQ poolOf rs RS YieldOk IterOk VOk row star exs mp lp Sat pt FnOk Rd bodyPost bodyPostM Lv Ret Exit.then Exit.inBlock Exit.noGoto Int.decLt Int.decLe Int.instDecidableEq
attribute [local irreducible] u8s strs likeTo fts factM membersR teamsR roleR ownersR lastR Pa.nameM
set_option pp.deepTerms true
set_option pp.maxSteps 1000000
variable {hF H : Hp} {r : RP} {uv ov fv : Value}
theorem raddTeam_ok {o t : By} (h : RpAt H r uv ov fv) (hs : t.length < 9223372036854775807) (hnf : r.F.length < 1000000) : FnOk Go.Proofs.Try.prog 42 [.agg ⟨[uv, ov, fv]⟩, str o, str t] [poolOf H] hF (fun v Γ => Leaves H (raddTeamM r o t) v Γ) := by
  have h0 := h
  have ou := h.u.one
  have oo := h.o.one
  have hno := h.no
  have hoo := h.o
  have htl := teamsR_len r.F o
  obtain ⟨p, c, rfl, hc, hln, hr⟩ := rs.out h.f
  refine FnOk.intro 35 Go.Proofs.Try.func42 rfl rfl fun w0 => ?_
  (repeat (first | refine GK.ro ?_ | (refine GK.box ?_; intro bl) | (refine GK.mkMap ?_; intro bm) | (refine GK.build0 tb ?_; intro bs) | (refine GL.cons ?_; refine GO.alloc Wt.o (by exact rfl) ?_; intro ba) | (refine GL.cons ?_; refine Gt.storeAny tb 0 Wt.o (by exact rfl) (by exact rfl) (by exact rfl) (by assumption) (by assumption) (by exact rfl) (by first | exact rfl | assumption) ?_) | (refine GL.cons ?_; refine Gt.storeAny tb 1 Wt.o (by exact rfl) (by exact rfl) (by exact rfl) (by assumption) (by assumption) (by exact rfl) (by first | exact rfl | assumption) ?_) | (refine GL.cons ?_; refine Gt.storeAny tb 2 Wt.o (by exact rfl) (by exact rfl) (by exact rfl) (by assumption) (by assumption) (by exact rfl) (by first | exact rfl | assumption) ?_) | (refine GL.cons ?_; refine Gt.storeAny tb 3 Wt.o (by exact rfl) (by exact rfl) (by exact rfl) (by assumption) (by assumption) (by exact rfl) (by first | exact rfl | assumption) ?_) | (refine GL.cons ?_; refine Gt.storeAny tb 4 Wt.o (by exact rfl) (by exact rfl) (by exact rfl) (by assumption) (by assumption) (by exact rfl) (by first | exact rfl | assumption) ?_) | (refine GL.cons ?_; refine Gt.storeAny tb 5 Wt.o (by exact rfl) (by exact rfl) (by exact rfl) (by assumption) (by assumption) (by exact rfl) (by first | exact rfl | assumption) ?_) | (refine GL.cons ?_; refine Gt.storeAny tb 6 Wt.o (by exact rfl) (by exact rfl) (by exact rfl) (by assumption) (by assumption) (by exact rfl) (by first | exact rfl | assumption) ?_) | (refine GL.cons ?_; refine Gt.storeAny tb 7 Wt.o (by exact rfl) (by exact rfl) (by exact rfl) (by assumption) (by assumption) (by exact rfl) (by first | exact rfl | assumption) ?_) | (refine GL.cons ?_; refine Gt.storeAny tb 8 Wt.o (by exact rfl) (by exact rfl) (by exact rfl) (by assumption) (by assumption) (by exact rfl) (by first | exact rfl | assumption) ?_) | (refine GL.cons ?_; refine Gt.storeAny tb 9 Wt.o (by exact rfl) (by exact rfl) (by exact rfl) (by assumption) (by assumption) (by exact rfl) (by first | exact rfl | assumption) ?_)))
  refine GL.cons ?_; refine GO.callA (fun hF' hle hH => has_ok (l := r.O) (s := o) hoo hno) Wt.o (by kernel_rfl) rfl rfl SubR.o ?_
  by_cases ho : o ∈ r.O
  rotate_left
  · rw [decide_eq_false ho, show raddTeamM r o t = (111, r) from if_pos ho]
    rintro v Γ' ⟨rfl, rfl⟩
    (repeat (first | refine GK.ro ?_ | (refine GK.box ?_; intro bl) | (refine GK.mkMap ?_; intro bm) | (refine GK.build0 tb ?_; intro bs)))
    refine GL.cons ?_; (first | refine Gt.storeAny tb 0 Wt.o rfl rfl rfl rfl (by exact tri_one ou oo rfl) rfl rfl ?_ | refine Gt.storeAny tb 1 Wt.o rfl rfl rfl rfl (by exact tri_one ou oo rfl) rfl rfl ?_ | refine Gt.storeAny tb 2 Wt.o rfl rfl rfl rfl (by exact tri_one ou oo rfl) rfl rfl ?_ | refine Gt.storeAny tb 3 Wt.o rfl rfl rfl rfl (by exact tri_one ou oo rfl) rfl rfl ?_)
    (repeat (first | refine GK.ro ?_ | (refine GK.box ?_; intro bl) | (refine GK.mkMap ?_; intro bm) | (refine GK.build0 tb ?_; intro bs)))
    exact GQ.fin2 rfl (Rv.row rfl (by kernel_rfl) (by kernel_rfl) (by first | exact Rd.blk 0 rfl | exact Rd.blk 1 rfl | exact Rd.blk 2 rfl | exact Rd.blk 3 rfl) (At.all _)) (Rv.tmp rfl) (fun _ s => Sat.sub SubR.o s) ⟨H, uv, ov, .slice p r.F.length c, le.refl _, rfl, h0, rfl⟩
  have ho1 : ¬ o ∉ r.O := fun e => e ho
  rw [decide_eq_true ho]
  rintro v Γ' ⟨rfl, rfl⟩
  (repeat (first | refine GK.ro ?_ | (refine GK.box ?_; intro bl) | (refine GK.mkMap ?_; intro bm) | (refine GK.build0 tb ?_; intro bs)))
  refine GL.cons ?_; refine GO.callA (fun hF' hle hH => Pa.rname_ok t hs) Wt.o (by kernel_rfl) rfl rfl SubR.o ?_
  rintro v Γ' ⟨rfl, rfl⟩
  cases hnm : Pa.nameM t with
  | false =>
    rw [show raddTeamM r o t = (150, r) from (if_neg ho1).trans (if_pos hnm)]
    (repeat (first | refine GK.ro ?_ | (refine GK.box ?_; intro bl) | (refine GK.mkMap ?_; intro bm) | (refine GK.build0 tb ?_; intro bs)))
    refine GL.cons ?_; (first | refine Gt.storeAny tb 0 Wt.o rfl rfl rfl rfl (by exact tri_one ou oo rfl) rfl rfl ?_ | refine Gt.storeAny tb 1 Wt.o rfl rfl rfl rfl (by exact tri_one ou oo rfl) rfl rfl ?_ | refine Gt.storeAny tb 2 Wt.o rfl rfl rfl rfl (by exact tri_one ou oo rfl) rfl rfl ?_ | refine Gt.storeAny tb 3 Wt.o rfl rfl rfl rfl (by exact tri_one ou oo rfl) rfl rfl ?_)
    (repeat (first | refine GK.ro ?_ | (refine GK.box ?_; intro bl) | (refine GK.mkMap ?_; intro bm) | (refine GK.build0 tb ?_; intro bs)))
    exact GQ.fin2 rfl (Rv.row rfl (by kernel_rfl) (by kernel_rfl) (by first | exact Rd.blk 0 rfl | exact Rd.blk 1 rfl | exact Rd.blk 2 rfl | exact Rd.blk 3 rfl) (At.all _)) (Rv.tmp rfl) (fun _ s => Sat.sub SubR.o s) ⟨H, uv, ov, .slice p r.F.length c, le.refl _, rfl, h0, rfl⟩
  | true =>
  have hn1 : ¬ Pa.nameM t = false := by rw [hnm]; decide
  (repeat (first | refine GK.ro ?_ | (refine GK.box ?_; intro bl) | (refine GK.mkMap ?_; intro bm) | (refine GK.build0 tb ?_; intro bs)))
  refine GL.cons ?_; refine GO.callA (fun hF' hle hH => rteams_ok (o := o) h0) Wt.o (by kernel_rfl) rfl rfl SubR.o ?_
  rintro v Γ' ⟨H1, l1, hm, rfl⟩
  have h1 := h0.mono l1
  (repeat (first | refine GK.ro ?_ | (refine GK.box ?_; intro bl) | (refine GK.mkMap ?_; intro bm) | (refine GK.build0 tb ?_; intro bs)))
  refine GL.cons ?_; refine GO.callA (fun hF' hle hH => has_ok (l := teamsR r.F o) (s := t) hm (by omega)) Wt.o (by kernel_rfl) rfl rfl SubR.o ?_
  by_cases ht : t ∈ teamsR r.F o
  · rw [decide_eq_true ht, show raddTeamM r o t = (110, r) from (if_neg ho1).trans ((if_neg hn1).trans (if_pos ht))]
    rintro v2 Γ' ⟨rfl, rfl⟩
    (repeat (first | refine GK.ro ?_ | (refine GK.box ?_; intro bl) | (refine GK.mkMap ?_; intro bm) | (refine GK.build0 tb ?_; intro bs)))
    refine GL.cons ?_; (first | refine Gt.storeAny tb 0 Wt.o rfl rfl rfl rfl (by exact tri_one ou oo rfl) rfl rfl ?_ | refine Gt.storeAny tb 1 Wt.o rfl rfl rfl rfl (by exact tri_one ou oo rfl) rfl rfl ?_ | refine Gt.storeAny tb 2 Wt.o rfl rfl rfl rfl (by exact tri_one ou oo rfl) rfl rfl ?_ | refine Gt.storeAny tb 3 Wt.o rfl rfl rfl rfl (by exact tri_one ou oo rfl) rfl rfl ?_)
    (repeat (first | refine GK.ro ?_ | (refine GK.box ?_; intro bl) | (refine GK.mkMap ?_; intro bm) | (refine GK.build0 tb ?_; intro bs)))
    exact GQ.fin2 rfl (Rv.row rfl (by kernel_rfl) (by kernel_rfl) (by first | exact Rd.blk 0 rfl | exact Rd.blk 1 rfl | exact Rd.blk 2 rfl | exact Rd.blk 3 rfl) (At.all _)) (Rv.tmp rfl) (fun _ s => Sat.sub SubR.o s) ⟨H1, uv, ov, .slice p r.F.length c, l1, rfl, h1, rfl⟩
  rw [decide_eq_false ht]
  rintro v2 Γ' ⟨rfl, rfl⟩
  (repeat (first | refine GK.ro ?_ | (refine GK.box ?_; intro bl) | (refine GK.mkMap ?_; intro bm) | (refine GK.build0 tb ?_; intro bs)))
  refine GL.cons ?_; refine GO.callA (fun hF' hle hH => rteams_ok (o := o) h1) Wt.o (by kernel_rfl) rfl rfl SubR.o ?_
  rintro v3 Γ' ⟨H2, l2, hm2, rfl⟩
  have h2 := h1.mono l2
  obtain ⟨pt, ct, rfl, hct, hlnt, hrt⟩ := rs.out hm2
  by_cases h8 : 8 ≤ (teamsR r.F o).length
  · rw [show raddTeamM r o t = (3, r) from (if_neg ho1).trans ((if_neg hn1).trans ((if_neg ht).trans (if_pos h8)))]
    (repeat (first | refine GK.ro ?_ | (refine GK.box ?_; intro bl) | (refine GK.mkMap ?_; intro bm) | (refine GK.build0 tb ?_; intro bs)))
    refine GL.cons ?_; (first | refine Gt.storeAny tb 0 Wt.o rfl rfl rfl rfl (by exact tri_one ou oo rfl) rfl rfl ?_ | refine Gt.storeAny tb 1 Wt.o rfl rfl rfl rfl (by exact tri_one ou oo rfl) rfl rfl ?_ | refine Gt.storeAny tb 2 Wt.o rfl rfl rfl rfl (by exact tri_one ou oo rfl) rfl rfl ?_ | refine Gt.storeAny tb 3 Wt.o rfl rfl rfl rfl (by exact tri_one ou oo rfl) rfl rfl ?_)
    (repeat (first | refine GK.ro ?_ | (refine GK.box ?_; intro bl) | (refine GK.mkMap ?_; intro bm) | (refine GK.build0 tb ?_; intro bs)))
    exact GQ.fin2 rfl (Rv.row rfl (by kernel_rfl) (by kernel_rfl) (by first | exact Rd.blk 0 rfl | exact Rd.blk 1 rfl | exact Rd.blk 2 rfl | exact Rd.blk 3 rfl) (At.all _)) (Rv.tmp rfl) (fun _ s => Sat.sub SubR.o s) ⟨H2, uv, ov, .slice p r.F.length c, l1.trans l2, rfl, h2, rfl⟩
  rw [show raddTeamM r o t = (0, ⟨r.U, r.O, r.F ++ [⟨o, t, [], 0⟩]⟩) from (if_neg ho1).trans ((if_neg hn1).trans ((if_neg ht).trans (if_neg h8)))]
  (repeat (first | refine GK.ro ?_ | (refine GK.box ?_; intro bl) | (refine GK.mkMap ?_; intro bm) | (refine GK.build0 tb ?_; intro bs)))
  refine GL.cons ?_; refine GO.callA (fun hF' hle hH => rwith_ok (f := ⟨o, t, [], 0⟩) h2 hnf) Wt.o (by kernel_rfl) rfl rfl SubR.o ?_
  rintro v4 Γ' ⟨H3, fv3, l3, rfl, h3, rfl⟩
  have of2 := h3.f.one
  (repeat (first | refine GK.ro ?_ | (refine GK.box ?_; intro bl) | (refine GK.mkMap ?_; intro bm) | (refine GK.build0 tb ?_; intro bs)))
  refine GL.cons ?_; (first | refine Gt.storeAny tb 0 Wt.o rfl rfl rfl rfl (by exact tri_one ou oo of2) rfl rfl ?_ | refine Gt.storeAny tb 1 Wt.o rfl rfl rfl rfl (by exact tri_one ou oo of2) rfl rfl ?_ | refine Gt.storeAny tb 2 Wt.o rfl rfl rfl rfl (by exact tri_one ou oo of2) rfl rfl ?_ | refine Gt.storeAny tb 3 Wt.o rfl rfl rfl rfl (by exact tri_one ou oo of2) rfl rfl ?_)
  (repeat (first | refine GK.ro ?_ | (refine GK.box ?_; intro bl) | (refine GK.mkMap ?_; intro bm) | (refine GK.build0 tb ?_; intro bs)))
  exact GQ.fin2 rfl (Rv.row rfl (by kernel_rfl) (by kernel_rfl) (by first | exact Rd.blk 0 rfl | exact Rd.blk 1 rfl | exact Rd.blk 2 rfl | exact Rd.blk 3 rfl) (At.all _)) (Rv.tmp rfl) (fun _ s => Sat.sub SubR.o s) ⟨H3, uv, ov, fv3, (l1.trans l2).trans l3, rfl, h3, rfl⟩
theorem rput_ok {o t u : By} (h : RpAt H r uv ov fv) (hnf : r.F.length < 1000000) : FnOk Go.Proofs.Try.prog 43 [.agg ⟨[uv, ov, fv]⟩, str o, str t, str u] [poolOf H] hF (fun v Γ => Leaves H (rputM r o t u) v Γ) := by
  have h0 := h
  have ou := h.u.one
  have oo := h.o.one
  have hno := h.no
  have hoo := h.o
  have htl := teamsR_len r.F o
  obtain ⟨p, c, rfl, hc, hln, hr⟩ := rs.out h.f
  refine FnOk.intro 37 Go.Proofs.Try.func43 rfl rfl fun w0 => ?_
  (repeat (first | refine GK.ro ?_ | (refine GK.box ?_; intro bl) | (refine GK.mkMap ?_; intro bm) | (refine GK.build0 tb ?_; intro bs) | (refine GL.cons ?_; refine GO.alloc Wt.o (by exact rfl) ?_; intro ba) | (refine GL.cons ?_; refine Gt.storeAny tb 0 Wt.o (by exact rfl) (by exact rfl) (by exact rfl) (by assumption) (by assumption) (by exact rfl) (by first | exact rfl | assumption) ?_) | (refine GL.cons ?_; refine Gt.storeAny tb 1 Wt.o (by exact rfl) (by exact rfl) (by exact rfl) (by assumption) (by assumption) (by exact rfl) (by first | exact rfl | assumption) ?_) | (refine GL.cons ?_; refine Gt.storeAny tb 2 Wt.o (by exact rfl) (by exact rfl) (by exact rfl) (by assumption) (by assumption) (by exact rfl) (by first | exact rfl | assumption) ?_) | (refine GL.cons ?_; refine Gt.storeAny tb 3 Wt.o (by exact rfl) (by exact rfl) (by exact rfl) (by assumption) (by assumption) (by exact rfl) (by first | exact rfl | assumption) ?_) | (refine GL.cons ?_; refine Gt.storeAny tb 4 Wt.o (by exact rfl) (by exact rfl) (by exact rfl) (by assumption) (by assumption) (by exact rfl) (by first | exact rfl | assumption) ?_) | (refine GL.cons ?_; refine Gt.storeAny tb 5 Wt.o (by exact rfl) (by exact rfl) (by exact rfl) (by assumption) (by assumption) (by exact rfl) (by first | exact rfl | assumption) ?_) | (refine GL.cons ?_; refine Gt.storeAny tb 6 Wt.o (by exact rfl) (by exact rfl) (by exact rfl) (by assumption) (by assumption) (by exact rfl) (by first | exact rfl | assumption) ?_) | (refine GL.cons ?_; refine Gt.storeAny tb 7 Wt.o (by exact rfl) (by exact rfl) (by exact rfl) (by assumption) (by assumption) (by exact rfl) (by first | exact rfl | assumption) ?_) | (refine GL.cons ?_; refine Gt.storeAny tb 8 Wt.o (by exact rfl) (by exact rfl) (by exact rfl) (by assumption) (by assumption) (by exact rfl) (by first | exact rfl | assumption) ?_) | (refine GL.cons ?_; refine Gt.storeAny tb 9 Wt.o (by exact rfl) (by exact rfl) (by exact rfl) (by assumption) (by assumption) (by exact rfl) (by first | exact rfl | assumption) ?_)))
  refine GL.cons ?_; refine GO.callA (fun hF' hle hH => rteams_ok (o := o) h0) Wt.o (by kernel_rfl) rfl rfl SubR.o ?_
  rintro v Γ' ⟨H1, l1, hm, rfl⟩
  have h1 := h0.mono l1
  (repeat (first | refine GK.ro ?_ | (refine GK.box ?_; intro bl) | (refine GK.mkMap ?_; intro bm) | (refine GK.build0 tb ?_; intro bs)))
  refine GL.cons ?_; refine GO.callA (fun hF' hle hH => has_ok (l := teamsR r.F o) (s := t) hm (by omega)) Wt.o (by kernel_rfl) rfl rfl SubR.o ?_
  by_cases ht : t ∈ teamsR r.F o
  rotate_left
  · rw [decide_eq_false ht, show rputM r o t u = (111, r) from if_pos ht]
    rintro v2 Γ' ⟨rfl, rfl⟩
    (repeat (first | refine GK.ro ?_ | (refine GK.box ?_; intro bl) | (refine GK.mkMap ?_; intro bm) | (refine GK.build0 tb ?_; intro bs)))
    refine GL.cons ?_; (first | refine Gt.storeAny tb 0 Wt.o rfl rfl rfl rfl (by exact tri_one ou oo rfl) rfl rfl ?_ | refine Gt.storeAny tb 1 Wt.o rfl rfl rfl rfl (by exact tri_one ou oo rfl) rfl rfl ?_ | refine Gt.storeAny tb 2 Wt.o rfl rfl rfl rfl (by exact tri_one ou oo rfl) rfl rfl ?_ | refine Gt.storeAny tb 3 Wt.o rfl rfl rfl rfl (by exact tri_one ou oo rfl) rfl rfl ?_)
    (repeat (first | refine GK.ro ?_ | (refine GK.box ?_; intro bl) | (refine GK.mkMap ?_; intro bm) | (refine GK.build0 tb ?_; intro bs)))
    exact GQ.fin2 rfl (Rv.row rfl (by kernel_rfl) (by kernel_rfl) (by first | exact Rd.blk 0 rfl | exact Rd.blk 1 rfl | exact Rd.blk 2 rfl | exact Rd.blk 3 rfl) (At.all _)) (Rv.tmp rfl) (fun _ s => Sat.sub SubR.o s) ⟨H1, uv, ov, .slice p r.F.length c, l1, rfl, h1, rfl⟩
  have ht1 : ¬ t ∉ teamsR r.F o := fun e => e ht
  rw [decide_eq_true ht]
  rintro v2 Γ' ⟨rfl, rfl⟩
  (repeat (first | refine GK.ro ?_ | (refine GK.box ?_; intro bl) | (refine GK.mkMap ?_; intro bm) | (refine GK.build0 tb ?_; intro bs)))
  refine GL.cons ?_; refine GO.callA (fun hF' hle hH => roleR_ok (o := o) (u := u) h1) Wt.o (by kernel_rfl) rfl rfl SubR.o ?_
  rintro v3 Γ' ⟨rfl, rfl⟩
  by_cases hr0 : roleR r.F o u = 0
  · rw [show rputM r o t u = (111, r) from (if_neg ht1).trans (if_pos hr0)]
    (repeat (first | refine GK.ro ?_ | (refine GK.box ?_; intro bl) | (refine GK.mkMap ?_; intro bm) | (refine GK.build0 tb ?_; intro bs)))
    refine GL.cons ?_; (first | refine Gt.storeAny tb 0 Wt.o rfl rfl rfl rfl (by exact tri_one ou oo rfl) rfl rfl ?_ | refine Gt.storeAny tb 1 Wt.o rfl rfl rfl rfl (by exact tri_one ou oo rfl) rfl rfl ?_ | refine Gt.storeAny tb 2 Wt.o rfl rfl rfl rfl (by exact tri_one ou oo rfl) rfl rfl ?_ | refine Gt.storeAny tb 3 Wt.o rfl rfl rfl rfl (by exact tri_one ou oo rfl) rfl rfl ?_)
    (repeat (first | refine GK.ro ?_ | (refine GK.box ?_; intro bl) | (refine GK.mkMap ?_; intro bm) | (refine GK.build0 tb ?_; intro bs)))
    exact GQ.fin2 rfl (Rv.row rfl (by kernel_rfl) (by kernel_rfl) (by first | exact Rd.blk 0 rfl | exact Rd.blk 1 rfl | exact Rd.blk 2 rfl | exact Rd.blk 3 rfl) (At.all _)) (Rv.tmp rfl) (fun _ s => Sat.sub SubR.o s) ⟨H1, uv, ov, .slice p r.F.length c, l1, rfl, h1, rfl⟩
  (repeat (first | refine GK.ro ?_ | (refine GK.box ?_; intro bl) | (refine GK.mkMap ?_; intro bm) | (refine GK.build0 tb ?_; intro bs)))
  refine GL.cons ?_; refine GO.callA (fun hF' hle hH => fact_ok (o := o) (t := t) (u := u) h1) Wt.o (by kernel_rfl) rfl rfl SubR.o ?_
  rintro v3 Γ' ⟨rfl, rfl⟩
  by_cases hf : 0 ≤ factM r.F o t u
  · rw [show rputM r o t u = (110, r) from (if_neg ht1).trans ((if_neg hr0).trans (if_pos hf))]
    (repeat (first | refine GK.ro ?_ | (refine GK.box ?_; intro bl) | (refine GK.mkMap ?_; intro bm) | (refine GK.build0 tb ?_; intro bs)))
    refine GL.cons ?_; (first | refine Gt.storeAny tb 0 Wt.o rfl rfl rfl rfl (by exact tri_one ou oo rfl) rfl rfl ?_ | refine Gt.storeAny tb 1 Wt.o rfl rfl rfl rfl (by exact tri_one ou oo rfl) rfl rfl ?_ | refine Gt.storeAny tb 2 Wt.o rfl rfl rfl rfl (by exact tri_one ou oo rfl) rfl rfl ?_ | refine Gt.storeAny tb 3 Wt.o rfl rfl rfl rfl (by exact tri_one ou oo rfl) rfl rfl ?_)
    (repeat (first | refine GK.ro ?_ | (refine GK.box ?_; intro bl) | (refine GK.mkMap ?_; intro bm) | (refine GK.build0 tb ?_; intro bs)))
    exact GQ.fin2 rfl (Rv.row rfl (by kernel_rfl) (by kernel_rfl) (by first | exact Rd.blk 0 rfl | exact Rd.blk 1 rfl | exact Rd.blk 2 rfl | exact Rd.blk 3 rfl) (At.all _)) (Rv.tmp rfl) (fun _ s => Sat.sub SubR.o s) ⟨H1, uv, ov, .slice p r.F.length c, l1, rfl, h1, rfl⟩
  rw [show rputM r o t u = (0, ⟨r.U, r.O, r.F ++ [⟨o, t, u, 0⟩]⟩) from (if_neg ht1).trans ((if_neg hr0).trans (if_neg hf))]
  (repeat (first | refine GK.ro ?_ | (refine GK.box ?_; intro bl) | (refine GK.mkMap ?_; intro bm) | (refine GK.build0 tb ?_; intro bs)))
  refine GL.cons ?_; refine GO.callA (fun hF' hle hH => rwith_ok (f := ⟨o, t, u, 0⟩) h1 hnf) Wt.o (by kernel_rfl) rfl rfl SubR.o ?_
  rintro v4 Γ' ⟨H3, fv3, l3, rfl, h3, rfl⟩
  have of2 := h3.f.one
  (repeat (first | refine GK.ro ?_ | (refine GK.box ?_; intro bl) | (refine GK.mkMap ?_; intro bm) | (refine GK.build0 tb ?_; intro bs)))
  refine GL.cons ?_; (first | refine Gt.storeAny tb 0 Wt.o rfl rfl rfl rfl (by exact tri_one ou oo of2) rfl rfl ?_ | refine Gt.storeAny tb 1 Wt.o rfl rfl rfl rfl (by exact tri_one ou oo of2) rfl rfl ?_ | refine Gt.storeAny tb 2 Wt.o rfl rfl rfl rfl (by exact tri_one ou oo of2) rfl rfl ?_ | refine Gt.storeAny tb 3 Wt.o rfl rfl rfl rfl (by exact tri_one ou oo of2) rfl rfl ?_)
  (repeat (first | refine GK.ro ?_ | (refine GK.box ?_; intro bl) | (refine GK.mkMap ?_; intro bm) | (refine GK.build0 tb ?_; intro bs)))
  exact GQ.fin2 rfl (Rv.row rfl (by kernel_rfl) (by kernel_rfl) (by first | exact Rd.blk 0 rfl | exact Rd.blk 1 rfl | exact Rd.blk 2 rfl | exact Rd.blk 3 rfl) (At.all _)) (Rv.tmp rfl) (fun _ s => Sat.sub SubR.o s) ⟨H3, uv, ov, fv3, l1.trans l3, rfl, h3, rfl⟩
theorem rout_ok {o t u : By} (h : RpAt H r uv ov fv) : FnOk Go.Proofs.Try.prog 44 [.agg ⟨[uv, ov, fv]⟩, str o, str t, str u] [poolOf H] hF (fun v Γ => Leaves H (routM r o t u) v Γ) := by
  have h0 := h
  have ou := h.u.one
  have oo := h.o.one
  have hno := h.no
  have hoo := h.o
  have htl := teamsR_len r.F o
  obtain ⟨p, c, rfl, hc, hln, hr⟩ := rs.out h.f
  have hfl := fact_lt r.F o t u
  refine FnOk.intro 30 Go.Proofs.Try.func44 rfl rfl fun w0 => ?_
  (repeat (first | refine GK.ro ?_ | (refine GK.box ?_; intro bl) | (refine GK.mkMap ?_; intro bm) | (refine GK.build0 tb ?_; intro bs) | (refine GL.cons ?_; refine GO.alloc Wt.o (by exact rfl) ?_; intro ba) | (refine GL.cons ?_; refine Gt.storeAny tb 0 Wt.o (by exact rfl) (by exact rfl) (by exact rfl) (by assumption) (by assumption) (by exact rfl) (by first | exact rfl | assumption) ?_) | (refine GL.cons ?_; refine Gt.storeAny tb 1 Wt.o (by exact rfl) (by exact rfl) (by exact rfl) (by assumption) (by assumption) (by exact rfl) (by first | exact rfl | assumption) ?_) | (refine GL.cons ?_; refine Gt.storeAny tb 2 Wt.o (by exact rfl) (by exact rfl) (by exact rfl) (by assumption) (by assumption) (by exact rfl) (by first | exact rfl | assumption) ?_) | (refine GL.cons ?_; refine Gt.storeAny tb 3 Wt.o (by exact rfl) (by exact rfl) (by exact rfl) (by assumption) (by assumption) (by exact rfl) (by first | exact rfl | assumption) ?_) | (refine GL.cons ?_; refine Gt.storeAny tb 4 Wt.o (by exact rfl) (by exact rfl) (by exact rfl) (by assumption) (by assumption) (by exact rfl) (by first | exact rfl | assumption) ?_) | (refine GL.cons ?_; refine Gt.storeAny tb 5 Wt.o (by exact rfl) (by exact rfl) (by exact rfl) (by assumption) (by assumption) (by exact rfl) (by first | exact rfl | assumption) ?_) | (refine GL.cons ?_; refine Gt.storeAny tb 6 Wt.o (by exact rfl) (by exact rfl) (by exact rfl) (by assumption) (by assumption) (by exact rfl) (by first | exact rfl | assumption) ?_) | (refine GL.cons ?_; refine Gt.storeAny tb 7 Wt.o (by exact rfl) (by exact rfl) (by exact rfl) (by assumption) (by assumption) (by exact rfl) (by first | exact rfl | assumption) ?_) | (refine GL.cons ?_; refine Gt.storeAny tb 8 Wt.o (by exact rfl) (by exact rfl) (by exact rfl) (by assumption) (by assumption) (by exact rfl) (by first | exact rfl | assumption) ?_) | (refine GL.cons ?_; refine Gt.storeAny tb 9 Wt.o (by exact rfl) (by exact rfl) (by exact rfl) (by assumption) (by assumption) (by exact rfl) (by first | exact rfl | assumption) ?_)))
  refine GL.cons ?_; refine GO.callA (fun hF' hle hH => fact_ok (o := o) (t := t) (u := u) h0) Wt.o (by kernel_rfl) rfl rfl SubR.o ?_
  rintro v3 Γ' ⟨rfl, rfl⟩
  by_cases e1 : t = []
  · have hb1 : (t == []) = true := by simp [e1]
    rw [show routM r o t u = (111, r) from if_pos e1]
    (repeat (first | refine GK.ro ?_ | (refine GK.box ?_; intro bl) | (refine GK.mkMap ?_; intro bm) | (refine GK.build0 tb ?_; intro bs)))
    refine GL.cons ?_; (first | refine Gt.storeAny tb 0 Wt.o rfl rfl rfl rfl (by exact tri_one ou oo rfl) rfl rfl ?_ | refine Gt.storeAny tb 1 Wt.o rfl rfl rfl rfl (by exact tri_one ou oo rfl) rfl rfl ?_ | refine Gt.storeAny tb 2 Wt.o rfl rfl rfl rfl (by exact tri_one ou oo rfl) rfl rfl ?_ | refine Gt.storeAny tb 3 Wt.o rfl rfl rfl rfl (by exact tri_one ou oo rfl) rfl rfl ?_)
    (repeat (first | refine GK.ro ?_ | (refine GK.box ?_; intro bl) | (refine GK.mkMap ?_; intro bm) | (refine GK.build0 tb ?_; intro bs)))
    exact GQ.fin2 rfl (Rv.row rfl (by kernel_rfl) (by kernel_rfl) (by first | exact Rd.blk 0 rfl | exact Rd.blk 1 rfl | exact Rd.blk 2 rfl | exact Rd.blk 3 rfl) (At.all _)) (Rv.tmp rfl) (fun _ s => Sat.sub SubR.o s) ⟨H, uv, ov, .slice p r.F.length c, le.refl _, rfl, h0, rfl⟩
  have hb1 : (t == []) = false := by simp [e1]
  by_cases e2 : u = []
  · have hb2 : (u == []) = true := by simp [e2]
    rw [show routM r o t u = (111, r) from (if_neg e1).trans (if_pos e2)]
    (repeat (first | refine GK.ro ?_ | (refine GK.box ?_; intro bl) | (refine GK.mkMap ?_; intro bm) | (refine GK.build0 tb ?_; intro bs)))
    refine GL.cons ?_; (first | refine Gt.storeAny tb 0 Wt.o rfl rfl rfl rfl (by exact tri_one ou oo rfl) rfl rfl ?_ | refine Gt.storeAny tb 1 Wt.o rfl rfl rfl rfl (by exact tri_one ou oo rfl) rfl rfl ?_ | refine Gt.storeAny tb 2 Wt.o rfl rfl rfl rfl (by exact tri_one ou oo rfl) rfl rfl ?_ | refine Gt.storeAny tb 3 Wt.o rfl rfl rfl rfl (by exact tri_one ou oo rfl) rfl rfl ?_)
    (repeat (first | refine GK.ro ?_ | (refine GK.box ?_; intro bl) | (refine GK.mkMap ?_; intro bm) | (refine GK.build0 tb ?_; intro bs)))
    exact GQ.fin2 rfl (Rv.row rfl (by kernel_rfl) (by kernel_rfl) (by first | exact Rd.blk 0 rfl | exact Rd.blk 1 rfl | exact Rd.blk 2 rfl | exact Rd.blk 3 rfl) (At.all _)) (Rv.tmp rfl) (fun _ s => Sat.sub SubR.o s) ⟨H, uv, ov, .slice p r.F.length c, le.refl _, rfl, h0, rfl⟩
  have hb2 : (u == []) = false := by simp [e2]
  by_cases hf : factM r.F o t u < 0
  · rw [show routM r o t u = (111, r) from (if_neg e1).trans ((if_neg e2).trans (if_pos hf))]
    (repeat (first | refine GK.ro ?_ | (refine GK.box ?_; intro bl) | (refine GK.mkMap ?_; intro bm) | (refine GK.build0 tb ?_; intro bs)))
    refine GL.cons ?_; (first | refine Gt.storeAny tb 0 Wt.o rfl rfl rfl rfl (by exact tri_one ou oo rfl) rfl rfl ?_ | refine Gt.storeAny tb 1 Wt.o rfl rfl rfl rfl (by exact tri_one ou oo rfl) rfl rfl ?_ | refine Gt.storeAny tb 2 Wt.o rfl rfl rfl rfl (by exact tri_one ou oo rfl) rfl rfl ?_ | refine Gt.storeAny tb 3 Wt.o rfl rfl rfl rfl (by exact tri_one ou oo rfl) rfl rfl ?_)
    (repeat (first | refine GK.ro ?_ | (refine GK.box ?_; intro bl) | (refine GK.mkMap ?_; intro bm) | (refine GK.build0 tb ?_; intro bs)))
    exact GQ.fin2 rfl (Rv.row rfl (by kernel_rfl) (by kernel_rfl) (by first | exact Rd.blk 0 rfl | exact Rd.blk 1 rfl | exact Rd.blk 2 rfl | exact Rd.blk 3 rfl) (At.all _)) (Rv.tmp rfl) (fun _ s => Sat.sub SubR.o s) ⟨H, uv, ov, .slice p r.F.length c, le.refl _, rfl, h0, rfl⟩
  rw [show routM r o t u = (0, ⟨r.U, r.O, r.F.eraseIdx (factM r.F o t u).toNat⟩) from (if_neg e1).trans ((if_neg e2).trans (if_neg hf))]
  obtain ⟨i, hi⟩ : ∃ i : Nat, factM r.F o t u = i := ⟨(factM r.F o t u).toNat, by omega⟩
  rw [hi] at hf hfl ⊢
  rw [Int.toNat_natCast]
  (repeat (first | refine GK.ro ?_ | (refine GK.box ?_; intro bl) | (refine GK.mkMap ?_; intro bm) | (refine GK.build0 tb ?_; intro bs)))
  refine GL.cons ?_; refine GO.callA (fun hF' hle hH => without_ok (i := i) h0 (by omega)) Wt.o (by kernel_rfl) rfl rfl SubR.o ?_
  rintro v4 Γ' ⟨H3, fv3, l3, rfl, h3, rfl⟩
  have of2 := h3.f.one
  (repeat (first | refine GK.ro ?_ | (refine GK.box ?_; intro bl) | (refine GK.mkMap ?_; intro bm) | (refine GK.build0 tb ?_; intro bs)))
  refine GL.cons ?_; (first | refine Gt.storeAny tb 0 Wt.o rfl rfl rfl rfl (by exact tri_one ou oo of2) rfl rfl ?_ | refine Gt.storeAny tb 1 Wt.o rfl rfl rfl rfl (by exact tri_one ou oo of2) rfl rfl ?_ | refine Gt.storeAny tb 2 Wt.o rfl rfl rfl rfl (by exact tri_one ou oo of2) rfl rfl ?_ | refine Gt.storeAny tb 3 Wt.o rfl rfl rfl rfl (by exact tri_one ou oo of2) rfl rfl ?_)
  (repeat (first | refine GK.ro ?_ | (refine GK.box ?_; intro bl) | (refine GK.mkMap ?_; intro bm) | (refine GK.build0 tb ?_; intro bs)))
  exact GQ.fin2 rfl (Rv.row rfl (by kernel_rfl) (by kernel_rfl) (by first | exact Rd.blk 0 rfl | exact Rd.blk 1 rfl | exact Rd.blk 2 rfl | exact Rd.blk 3 rfl) (At.all _)) (Rv.tmp rfl) (fun _ s => Sat.sub SubR.o s) ⟨H3, uv, ov, fv3, l3, rfl, h3, rfl⟩
end Go.Pe
