/- The document's board: what was made, what was done. -/
import Derived.Test.YtjphghadogedkaaRwB
set_option linter.unusedSimpArgs false
set_option linter.unusedVariables false
namespace Go.Re
open Go Go.Sl
set_option maxRecDepth 100000
structure Mk where
  a : By
  c : By
  h : By
structure Dd where
  kind : Int
  id : Int
  u : By
  t : By
def madeC (m : Mk) : List Value := [str m.a, str m.c] ++ u8s m.h
def deedC (d : Dd) : List Value := [.int .i64 d.kind, .int .i64 d.id, str d.u, str d.t]
def mades (l : List Mk) : List Value := l.flatMap madeC
def deeds (l : List Dd) : List Value := l.flatMap deedC
structure RB where
  L : List Mk
  D : List Dd
/-- Where such a board lies. -/
structure RbAt (H : Hp) (r : RB) (lv dv : Value) : Prop where
  l : rs H lv r.L.length 34 (mades r.L)
  d : rs H dv r.D.length 4 (deeds r.D)
  h : ∀ m ∈ r.L, m.h.length = 32
  nl : r.L.length ≤ 1000000
  nd : r.D.length ≤ 1000000
  k : ∀ d ∈ r.D, 0 ≤ d.kind ∧ d.kind ≤ 5
theorem RbAt.mono {H H' : Hp} {r : RB} {lv dv : Value} (h : RbAt H r lv dv) (hl : le H H') : RbAt H' r lv dv := ⟨h.l.mono hl, h.d.mono hl, h.h, h.nl, h.nd, h.k⟩
theorem deeds_at {l : List Dd} {i : Nat} {x : Dd} (h : l[i]? = some x) : At (deeds l) (i * 4) (deedC x) := flatMap_at (f := deedC) (fun _ => rfl) h
theorem deeds_len (l : List Dd) : (deeds l).length = l.length * 4 := by unfold deeds; exact flatMap_len (fun _ => rfl)
theorem deeds_one (l : List Dd) : ∀ u ∈ deeds l, u.oneCell' = true := by
  unfold deeds; intro u hu
  obtain ⟨x, _, hx⟩ := List.mem_flatMap.1 hu
  simp [deedC] at hx; rcases hx with rfl | rfl | rfl | rfl <;> rfl
theorem madeC_len {m : Mk} (h : m.h.length = 32) : (madeC m).length = 34 := by unfold madeC; simp [u8s_len, h]
theorem madeC_one (m : Mk) : ∀ u ∈ madeC m, u.oneCell' = true := by
  unfold madeC
  intro u hu
  simp only [List.mem_append, List.mem_cons, List.not_mem_nil, or_false] at hu
  rcases hu with (rfl | rfl) | hu
  · rfl
  · rfl
  · exact u8s_one _ u hu
theorem mades_len {l : List Mk} (h : ∀ m ∈ l, m.h.length = 32) : (mades l).length = l.length * 34 := by
  unfold mades
  induction l with
  | nil => rfl
  | cons a l ih => rw [List.flatMap_cons, List.length_append, ih (fun x hx => h x (by simp [hx])), madeC_len (h a (by simp)), List.length_cons]; omega
theorem mades_one (l : List Mk) : ∀ u ∈ mades l, u.oneCell' = true := by
  unfold mades; intro u hu
  obtain ⟨x, _, hx⟩ := List.mem_flatMap.1 hu
  exact madeC_one x u hx
theorem mades_at : ∀ {l : List Mk}, (∀ m ∈ l, m.h.length = 32) → ∀ {i : Nat} {a : Mk}, l[i]? = some a → At (mades l) (i * 34) (madeC a)
  | [], _, i, a, h => by simp at h
  | b :: l, hk, 0, a, h => by
    simp at h; subst h
    intro j v hv
    unfold mades
    rw [List.flatMap_cons, Nat.zero_mul, Nat.zero_add, List.getElem?_append_left (List.getElem?_eq_some_iff.1 hv).1]; exact hv
  | b :: l, hk, i + 1, a, h => by
    have := mades_at (l := l) (fun x hx => hk x (by simp [hx])) (i := i) (by simpa using h)
    intro j v hv
    have h2 := this j v hv
    unfold mades at h2 ⊢
    have hb := madeC_len (hk b (by simp))
    rw [List.flatMap_cons, List.getElem?_append_right (by omega), hb, show (i + 1) * 34 + j - 34 = i * 34 + j by omega]; exact h2
def thereM (r : RB) (n : Int) : Bool := decide (1 ≤ n ∧ n ≤ r.L.length)
def shutIn (D : List Dd) (n : Int) : Bool := D.any fun d => decide (d.id = n) && decide (d.kind = 5)
def isOpenM (r : RB) (n : Int) : Bool := !shutIn r.D n && thereM r n
def ofStep (n : Int) (u : By) (v : Int) (d : Dd) : Int := if d.id = n ∧ d.u = u ∧ d.kind < 4 then d.kind.tmod 3 else v
def ofR (D : List Dd) (n : Int) (u : By) : Int := D.foldl (ofStep n u) 0
def liveM (r : RB) (n : Int) : Int := if thereM r n = false then 111 else if isOpenM r n = false then 201 else 0
set_option maxRecDepth 100000
set_option maxHeartbeats 4000000
attribute [local irreducible] GK GO Yl Wt Ef Hd GH KH wpListIn Code.wpIn toBody roundQ poolOf rs RS YieldOk IterOk VOk row star exs mp lp Sat pt FnOk Rd bodyPost bodyPostM Lv Ret Exit.then Exit.inBlock Exit.noGoto Int.decLt Int.decLe Int.instDecidableEq
attribute [local irreducible] u8s strs likeTo madeC mades deeds
set_option pp.deepTerms true
set_option pp.maxSteps 1000000
variable {hF H : Hp}
theorem there_ok {r : RB} {lv dv : Value} {n : Int} (h : RbAt H r lv dv) : FnOk Go.Proofs.Try.prog 27 [.agg ⟨[lv, dv]⟩, .int .i64 n] [poolOf H] hF (fun v Γ => v = .bool (thereM r n) ∧ Γ = [poolOf H]) := by
  have hnl := h.nl
  obtain ⟨p, c, rfl, hc, hln, hr⟩ := rs.out h.l
  obtain ⟨p2, c2, rfl, hc2, hln2, hr2⟩ := rs.out h.d
  refine FnOk.intro 14 Go.Proofs.Try.func27 rfl rfl fun w0 => ?_
  (repeat' (first | refine GK.ro ?_ | (refine GK.box ?_; intro bl) | (refine GK.mkMap ?_; intro bm) | (refine GK.build0 tb ?_; intro bs) | (first | refine G.condP rfl (fun hb => ?_) (fun hb => ?_) | refine G.condN rfl (fun hb => ?_) (fun hb => ?_) | refine G.cond rfl (fun hb => ?_) (fun hb => ?_)) | ((fail_if_success refine GL.fork (b := true) rfl rfl ?_ ?_); (fail_if_success refine GL.fork (b := false) rfl rfl ?_ ?_); first | refine GL.forkP rfl rfl (fun hb => ?_) (fun hb => ?_) | refine GL.forkN rfl rfl (fun hb => ?_) (fun hb => ?_) | refine GL.fork rfl rfl (fun hb => ?_) (fun hb => ?_)) | ((fail_if_success refine GL.forkPick (b := true) rfl ?_ ?_); (fail_if_success refine GL.forkPick (b := false) rfl ?_ ?_); refine GL.forkPick rfl (fun hb => ?_) (fun hb => ?_))))
  all_goals (refine GQ.fin1 rfl (Rv.tmp rfl) (fun _ s => Sat.sub (by repeat (first | exact SubR.nil | apply SubR.cons 0 rfl | apply SubR.cons 1 rfl | apply SubR.cons 2 rfl | apply SubR.cons 3 rfl | apply SubR.cons 4 rfl | apply SubR.cons 5 rfl | apply SubR.cons 6 rfl | apply SubR.cons 7 rfl | apply SubR.cons 8 rfl | apply SubR.cons 9 rfl | apply SubR.cons 10 rfl | apply SubR.cons 11 rfl | apply SubR.cons 12 rfl | apply SubR.cons 13 rfl | apply SubR.cons 14 rfl | apply SubR.cons 15 rfl)) s) ⟨?_, rfl⟩)
  all_goals (unfold thereM; congr 1; rw [Bool.eq_iff_iff]; simp; omega)
theorem isOpen_ok {r : RB} {lv dv : Value} {n : Int} (h : RbAt H r lv dv) : FnOk Go.Proofs.Try.prog 45 [.agg ⟨[lv, dv]⟩, .int .i64 n] [poolOf H] hF (fun v Γ => v = .bool (isOpenM r n) ∧ Γ = [poolOf H]) := by
  have h0 := h
  have hnd := h.nd
  obtain ⟨p, c, rfl, hc, hln, hr⟩ := rs.out h.l
  obtain ⟨p2, c2, rfl, hc2, hln2, hr2⟩ := rs.out h.d
  refine FnOk.intro 33 Go.Proofs.Try.func45 rfl rfl fun w0 => ?_
  (repeat (first | refine GK.ro ?_ | (refine GK.box ?_; intro bl) | (refine GK.mkMap ?_; intro bm) | (refine GK.build0 tb ?_; intro bs)))
  refine GK.weak (fr' := [(1, .int .i64 n), (2, .pointer (some ⟨bl, 0, none⟩)), (5, .int .i64 ((0 : Nat) : Int))]) (Γ' := [blk bl 60 (0, 0) [.slice p r.L.length c, .slice p2 r.D.length c2], poolOf H]) (by repeat (first | exact trivial | refine ⟨rfl, ?_⟩)) (fun _ s => Sat.sub (by repeat (first | exact SubR.nil | apply SubR.cons 0 rfl | apply SubR.cons 1 rfl | apply SubR.cons 2 rfl | apply SubR.cons 3 rfl | apply SubR.cons 4 rfl | apply SubR.cons 5 rfl | apply SubR.cons 6 rfl | apply SubR.cons 7 rfl | apply SubR.cons 8 rfl | apply SubR.cons 9 rfl | apply SubR.cons 10 rfl | apply SubR.cons 11 rfl | apply SubR.cons 12 rfl | apply SubR.cons 13 rfl | apply SubR.cons 14 rfl | apply SubR.cons 15 rfl)) s)
    (G.loopN (X := Nat) (fun j => r.D.length - j) (fun j => [(1, .int .i64 n), (2, .pointer (some ⟨bl, 0, none⟩)), (5, .int .i64 (j : Int))]) (fun _ => [blk bl 60 (0, 0) [.slice p r.L.length c, .slice p2 r.D.length c2], poolOf H])
    (fun j => j ≤ r.D.length ∧ ∀ i < j, ∀ d, r.D[i]? = some d → ¬ (d.id = n ∧ d.kind = 5)) (fun j hj q hq => ?_) 0 ⟨Nat.zero_le _, fun i hi => by omega⟩)
  obtain ⟨hj, hno⟩ := hj
  (repeat (first | refine GK.ro ?_ | (refine GK.box ?_; intro bl) | (refine GK.mkMap ?_; intro bm) | (refine GK.build0 tb ?_; intro bs)))
  (first | refine G.condP rfl (fun hb => ?_) (fun hb => ?_) | refine G.condN rfl (fun hb => ?_) (fun hb => ?_) | refine G.cond rfl (fun hb => ?_) (fun hb => ?_))
  · obtain ⟨x, hx⟩ : ∃ x, r.D[j]? = some x := ⟨_, List.getElem?_eq_getElem (by omega)⟩
    have hlt : j < r.D.length := by omega
    clear hb
    obtain ⟨b1, o1, cs1, et1, fz1, rfl, hb1, hat1⟩ := hr2 (by omega)
    have hA := deeds_at hx
    have kk : cs1[o1 + (j : Int).toNat * 4 + 0]? = some (.int .i64 x.kind) := by
      have := hat1 (j * 4 + 0) _ (hA 0 _ rfl); rw [show o1 + (j : Int).toNat * 4 + 0 = o1 + (j * 4 + 0) by omega]; exact this
    have ki : cs1[o1 + (j : Int).toNat * 4 + 1]? = some (.int .i64 x.id) := by
      have := hat1 (j * 4 + 1) _ (hA 1 _ rfl); rw [show o1 + (j : Int).toNat * 4 + 1 = o1 + (j * 4 + 1) by omega]; exact this
    have hnext : ¬ (x.id = n ∧ x.kind = 5) → ∀ i < j + 1, ∀ d, r.D[i]? = some d → ¬ (d.id = n ∧ d.kind = 5) := fun hne i hi d hd => by
      rcases Nat.lt_or_ge i j with q | q
      · exact hno i q d hd
      · obtain rfl : i = j := by omega
        rw [hx] at hd; cases hd; exact hne
    (repeat' (first | refine GK.ro ?_ | (refine GK.box ?_; intro bl) | (refine GK.mkMap ?_; intro bm) | (refine GK.build0 tb ?_; intro bs) | (first | refine G.condP rfl (fun hb => ?_) (fun hb => ?_) | refine G.condN rfl (fun hb => ?_) (fun hb => ?_) | refine G.cond rfl (fun hb => ?_) (fun hb => ?_)) | ((fail_if_success refine GL.fork (b := true) rfl rfl ?_ ?_); (fail_if_success refine GL.fork (b := false) rfl rfl ?_ ?_); first | refine GL.forkP rfl rfl (fun hb => ?_) (fun hb => ?_) | refine GL.forkN rfl rfl (fun hb => ?_) (fun hb => ?_) | refine GL.fork rfl rfl (fun hb => ?_) (fun hb => ?_)) | ((fail_if_success refine GL.forkPick (b := true) rfl ?_ ?_); (fail_if_success refine GL.forkPick (b := false) rfl ?_ ?_); refine GL.forkPick rfl (fun hb => ?_) (fun hb => ?_))))
    · refine GQ.fin1 rfl (Rv.tmp rfl) (fun _ s => Sat.sub (by repeat (first | exact SubR.nil | apply SubR.cons 0 rfl | apply SubR.cons 1 rfl | apply SubR.cons 2 rfl | apply SubR.cons 3 rfl | apply SubR.cons 4 rfl | apply SubR.cons 5 rfl | apply SubR.cons 6 rfl | apply SubR.cons 7 rfl | apply SubR.cons 8 rfl | apply SubR.cons 9 rfl | apply SubR.cons 10 rfl | apply SubR.cons 11 rfl | apply SubR.cons 12 rfl | apply SubR.cons 13 rfl | apply SubR.cons 14 rfl | apply SubR.cons 15 rfl)) s) ⟨?_, rfl⟩
      have : shutIn r.D n = true := List.any_eq_true.2 ⟨x, List.mem_of_getElem? hx, by simp_all⟩
      unfold isOpenM; rw [this]; rfl
    all_goals ((refine GQ.againN (j + 1) ?_ ?_ ?_ ?_; rotate_left; (first | omega | (dsimp only; omega)); exact (by repeat (first | exact trivial | refine ⟨rfl, ?_⟩)); exact (fun _ s => Sat.sub (by repeat (first | exact SubR.nil | apply SubR.cons 0 rfl | apply SubR.cons 1 rfl | apply SubR.cons 2 rfl | apply SubR.cons 3 rfl | apply SubR.cons 4 rfl | apply SubR.cons 5 rfl | apply SubR.cons 6 rfl | apply SubR.cons 7 rfl | apply SubR.cons 8 rfl | apply SubR.cons 9 rfl | apply SubR.cons 10 rfl | apply SubR.cons 11 rfl | apply SubR.cons 12 rfl | apply SubR.cons 13 rfl | apply SubR.cons 14 rfl | apply SubR.cons 15 rfl)) s)); exact ⟨by omega, hnext (by simp_all)⟩)
  · (repeat (first | refine GK.ro ?_ | (refine GK.box ?_; intro bl) | (refine GK.mkMap ?_; intro bm) | (refine GK.build0 tb ?_; intro bs)))
    refine GL.cons ?_; refine GO.callA (fun hF' hle hH => there_ok h0) (by first | exact Wt.none | exact Wt.some rfl rfl (by first | exact rfl | decide +kernel)) (by kernel_rfl) rfl rfl (by repeat (first | exact SubR.nil | apply SubR.cons 0 rfl | apply SubR.cons 1 rfl | apply SubR.cons 2 rfl | apply SubR.cons 3 rfl | apply SubR.cons 4 rfl | apply SubR.cons 5 rfl | apply SubR.cons 6 rfl | apply SubR.cons 7 rfl | apply SubR.cons 8 rfl | apply SubR.cons 9 rfl | apply SubR.cons 10 rfl | apply SubR.cons 11 rfl | apply SubR.cons 12 rfl | apply SubR.cons 13 rfl | apply SubR.cons 14 rfl | apply SubR.cons 15 rfl)) ?_
    rintro v Γ' ⟨rfl, rfl⟩
    (repeat (first | refine GK.ro ?_ | (refine GK.box ?_; intro bl) | (refine GK.mkMap ?_; intro bm) | (refine GK.build0 tb ?_; intro bs)))
    refine GQ.fin1 rfl (Rv.tmp rfl) (fun _ s => Sat.sub (by repeat (first | exact SubR.nil | apply SubR.cons 0 rfl | apply SubR.cons 1 rfl | apply SubR.cons 2 rfl | apply SubR.cons 3 rfl | apply SubR.cons 4 rfl | apply SubR.cons 5 rfl | apply SubR.cons 6 rfl | apply SubR.cons 7 rfl | apply SubR.cons 8 rfl | apply SubR.cons 9 rfl | apply SubR.cons 10 rfl | apply SubR.cons 11 rfl | apply SubR.cons 12 rfl | apply SubR.cons 13 rfl | apply SubR.cons 14 rfl | apply SubR.cons 15 rfl)) s) ⟨?_, rfl⟩
    have : shutIn r.D n = false := by
      unfold shutIn
      rw [List.any_eq_false]
      intro d hd
      obtain ⟨i, hi⟩ := List.getElem?_of_mem hd
      have hil := (List.getElem?_eq_some_iff.1 hi).1
      have := hno i (by omega) d hi
      simpa using this
    unfold isOpenM; rw [this]; rfl
theorem refLive_ok {r : RB} {lv dv : Value} {n : Int} (h : RbAt H r lv dv) : FnOk Go.Proofs.Try.prog 49 [.agg ⟨[lv, dv]⟩, .int .i64 n] [poolOf H] hF (fun v Γ => v = .int .i64 (liveM r n) ∧ Γ = [poolOf H]) := by
  have h0 := h
  obtain ⟨p, c, rfl, hc, hln, hr⟩ := rs.out h.l
  obtain ⟨p2, c2, rfl, hc2, hln2, hr2⟩ := rs.out h.d
  refine FnOk.intro 13 Go.Proofs.Try.func49 rfl rfl fun w0 => ?_
  (repeat (first | refine GK.ro ?_ | (refine GK.box ?_; intro bl) | (refine GK.mkMap ?_; intro bm) | (refine GK.build0 tb ?_; intro bs)))
  refine GL.cons ?_; refine GO.callA (fun hF' hle hH => there_ok h0) (by first | exact Wt.none | exact Wt.some rfl rfl (by first | exact rfl | decide +kernel)) (by kernel_rfl) rfl rfl (by repeat (first | exact SubR.nil | apply SubR.cons 0 rfl | apply SubR.cons 1 rfl | apply SubR.cons 2 rfl | apply SubR.cons 3 rfl | apply SubR.cons 4 rfl | apply SubR.cons 5 rfl | apply SubR.cons 6 rfl | apply SubR.cons 7 rfl | apply SubR.cons 8 rfl | apply SubR.cons 9 rfl | apply SubR.cons 10 rfl | apply SubR.cons 11 rfl | apply SubR.cons 12 rfl | apply SubR.cons 13 rfl | apply SubR.cons 14 rfl | apply SubR.cons 15 rfl)) ?_
  rintro v Γ' ⟨rfl, rfl⟩
  unfold liveM
  cases ht : thereM r n with
  | false =>
    (repeat (first | refine GK.ro ?_ | (refine GK.box ?_; intro bl) | (refine GK.mkMap ?_; intro bm) | (refine GK.build0 tb ?_; intro bs)))
    exact GQ.fin1 rfl (Rv.tmp rfl) (fun _ s => Sat.sub (by repeat (first | exact SubR.nil | apply SubR.cons 0 rfl | apply SubR.cons 1 rfl | apply SubR.cons 2 rfl | apply SubR.cons 3 rfl | apply SubR.cons 4 rfl | apply SubR.cons 5 rfl | apply SubR.cons 6 rfl | apply SubR.cons 7 rfl | apply SubR.cons 8 rfl | apply SubR.cons 9 rfl | apply SubR.cons 10 rfl | apply SubR.cons 11 rfl | apply SubR.cons 12 rfl | apply SubR.cons 13 rfl | apply SubR.cons 14 rfl | apply SubR.cons 15 rfl)) s) ⟨rfl, rfl⟩
  | true =>
    (repeat (first | refine GK.ro ?_ | (refine GK.box ?_; intro bl) | (refine GK.mkMap ?_; intro bm) | (refine GK.build0 tb ?_; intro bs)))
    refine GL.cons ?_; refine GO.callA (fun hF' hle hH => isOpen_ok h0) (by first | exact Wt.none | exact Wt.some rfl rfl (by first | exact rfl | decide +kernel)) (by kernel_rfl) rfl rfl (by repeat (first | exact SubR.nil | apply SubR.cons 0 rfl | apply SubR.cons 1 rfl | apply SubR.cons 2 rfl | apply SubR.cons 3 rfl | apply SubR.cons 4 rfl | apply SubR.cons 5 rfl | apply SubR.cons 6 rfl | apply SubR.cons 7 rfl | apply SubR.cons 8 rfl | apply SubR.cons 9 rfl | apply SubR.cons 10 rfl | apply SubR.cons 11 rfl | apply SubR.cons 12 rfl | apply SubR.cons 13 rfl | apply SubR.cons 14 rfl | apply SubR.cons 15 rfl)) ?_
    rintro v Γ' ⟨rfl, rfl⟩
    cases ho : isOpenM r n with
    | false =>
      (repeat (first | refine GK.ro ?_ | (refine GK.box ?_; intro bl) | (refine GK.mkMap ?_; intro bm) | (refine GK.build0 tb ?_; intro bs)))
      exact GQ.fin1 rfl (Rv.tmp rfl) (fun _ s => Sat.sub (by repeat (first | exact SubR.nil | apply SubR.cons 0 rfl | apply SubR.cons 1 rfl | apply SubR.cons 2 rfl | apply SubR.cons 3 rfl | apply SubR.cons 4 rfl | apply SubR.cons 5 rfl | apply SubR.cons 6 rfl | apply SubR.cons 7 rfl | apply SubR.cons 8 rfl | apply SubR.cons 9 rfl | apply SubR.cons 10 rfl | apply SubR.cons 11 rfl | apply SubR.cons 12 rfl | apply SubR.cons 13 rfl | apply SubR.cons 14 rfl | apply SubR.cons 15 rfl)) s) ⟨rfl, rfl⟩
    | true =>
      (repeat (first | refine GK.ro ?_ | (refine GK.box ?_; intro bl) | (refine GK.mkMap ?_; intro bm) | (refine GK.build0 tb ?_; intro bs)))
      exact GQ.fin1 rfl (Rv.tmp rfl) (fun _ s => Sat.sub (by repeat (first | exact SubR.nil | apply SubR.cons 0 rfl | apply SubR.cons 1 rfl | apply SubR.cons 2 rfl | apply SubR.cons 3 rfl | apply SubR.cons 4 rfl | apply SubR.cons 5 rfl | apply SubR.cons 6 rfl | apply SubR.cons 7 rfl | apply SubR.cons 8 rfl | apply SubR.cons 9 rfl | apply SubR.cons 10 rfl | apply SubR.cons 11 rfl | apply SubR.cons 12 rfl | apply SubR.cons 13 rfl | apply SubR.cons 14 rfl | apply SubR.cons 15 rfl)) s) ⟨rfl, rfl⟩
end Go.Re
