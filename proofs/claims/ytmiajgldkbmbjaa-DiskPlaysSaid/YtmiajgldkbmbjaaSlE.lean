/- The engine, part E: calls; results that lie in memory; statements whose order is open. -/
import Derived.Test.YtmiajgldkbmbjaaSlD
import Derived.OrdersHeld
import Derived.Deep.RegionHeld3
namespace Go.Sl
variable {P : Program} {cx : Cx} {fr : Fr} {Γ : List HProp} {Q : Exit → Act → World → Prop} {ops : Array Oper} {rest : List Oper} {ty : TypeId}

def evs (cx : Cx) (fr : Fr) : List Operand → Option (List Value)
  | [] => some []
  | x :: r => match ev cx fr x, evs cx fr r with
    | some v, some vs => some (v :: vs)
    | _, _ => none
theorem St.evals {a : Act} {w : World} (h : St cx fr Γ a w) : ∀ {l : List Operand} {vs : List Value}, evs cx fr l = some vs → l.map a.eval = vs
  | [], vs, e => by simp [evs] at e; simp [e]
  | x :: r, vs, e => by
    simp only [evs] at e
    split at e
    · rename_i v us hv hr
      cases e
      simp [h.eval hv, h.evals hr]
    · cases e

/-- The chunks with these numbers (each counted among those that are left), and the others. -/
def takes : List Nat → List HProp → Option (List HProp × List HProp)
  | [], Γ => some ([], Γ)
  | i :: r, Γ => match Γ[i]? with
    | some A => match takes r (Γ.eraseIdx i) with
      | some (x, y) => some (A :: x, y)
      | none => none
    | none => none
theorem takes_perm : ∀ {sel : List Nat} {Γ x y : List HProp}, takes sel Γ = some (x, y) → Γ.Perm (x ++ y)
  | [], Γ, x, y, h => by simp [takes] at h; obtain ⟨rfl, rfl⟩ := h; simp
  | i :: r, Γ, x, y, h => by
    simp only [takes] at h
    split at h
    · rename_i A hA
      split at h
      · rename_i x' y' hr
        cases h
        exact (perm_eraseIdx hA).trans ((takes_perm hr).cons A)
      · cases h
    · cases h

/-- These chunks lie in this frame. -/
def Has (Δ : List HProp) (hF : Hp) : Prop := ∃ ls, Holds Δ ls ∧ ∀ k ∈ ls, le k hF
theorem Has.pt {Δ : List HProp} {hF : Hp} {b : Nat} {o : Obj} (h : Has Δ hF) (i : Nat) (hi : Δ[i]? = some (pt b o)) : hF b = some o := by
  obtain ⟨ls, h1, h2⟩ := h
  obtain ⟨ms, h3, p⟩ := h1.perm (perm_eraseIdx hi)
  cases ms with
  | nil => exact h3.elim
  | cons k ms =>
    have := h3.1
    exact h2 k (p.mem_iff.2 (by simp)) b o (by rw [this]; simp)

theorem Sat.call {Γ Δ : List HProp} {hF : Hp} {w : World} (h : Sat (Γ ++ Δ) hF w) :
    ∃ hF', le hF hF' ∧ Has Δ hF' ∧ Sat Γ hF' w ∧ ∀ Γ' w', Sat Γ' hF' w' → Sat (Γ' ++ Δ) hF w' := by
  obtain ⟨hs, a, q, c, d⟩ := h
  obtain ⟨ks, ls, rfl, h1, h2⟩ := a.split
  rw [Apart_iff] at q
  obtain ⟨q1, q2⟩ := q
  obtain ⟨p1, p2, p3⟩ := List.pairwise_append.1 q2
  have al : apart hF (ls.foldr cup emp) := apart_foldr fun k hk => q1 k (by simp [hk])
  refine ⟨cup hF (ls.foldr cup emp), le_cup_left _ _, ⟨ls, h2, fun k hk => (foldr_cup_le p2 k hk).trans (le_cup_right al)⟩, ⟨ks, h1, ?_, cup_le c (le_of_foldr fun k hk => d k (by simp [hk])), fun k hk => d k (by simp [hk])⟩, ?_⟩
  · rw [Apart_iff]
    exact ⟨fun k hk => (apart_cup (q1 k (by simp [hk])).symm (apart_foldr fun l hl => p3 k hk l hl)).symm, p1⟩
  · rintro Γ' w' ⟨ms, a', q', c', d'⟩
    rw [Apart_iff] at q'
    refine ⟨ms ++ ls, a'.append h2, ?_, (le_cup_left _ _).trans c', fun k hk => ?_⟩
    · rw [Apart_iff]
      refine ⟨fun k hk => ?_, List.pairwise_append.2 ⟨q'.2, p2, fun k hk l hl => ?_⟩⟩
      · rcases List.mem_append.1 hk with hk | hk
        · exact (apart_of_le (q'.1 k hk).symm (le_cup_left _ _)).symm
        · exact q1 k (by simp [hk])
      · exact apart_of_le (q'.1 k hk).symm ((foldr_cup_le p2 l hl).trans (le_cup_right al))
    · rcases List.mem_append.1 hk with hk | hk
      · exact d' k hk
      · exact (foldr_cup_le p2 k hk).trans ((le_cup_right al).trans c')

def callable (P : Program) (f : FuncId) : Bool := match P.funcs[f]? with
  | some fn => fn.body.isSome && !(fn.name == "runtime.NumGoroutine")
  | none => false
theorem run_callFunc {f : FuncId} (h : callable P f = true) (as : Array Value) (w : World) : (callFunc f as).run P w = .ok (.enter f as) w := by
  unfold callable at h
  split at h
  · rename_i fn hf
    simp only [Bool.and_eq_true, Bool.not_eq_true', beq_eq_false_iff_ne] at h
    have hb : ¬ fn.body = none := by intro e; rw [e] at h; simp at h
    simp [callFunc, hf, h.2, hb]
  · cases h

variable {K : Act → World → Prop}
theorem GO.call {d : Option Tmp} {pos : String} {af : Array Edge} {g : Option (Nat × Bool)} {fop : Operand} {args : List Operand} {ats : Array TypeId} {f : FuncId} {first cap : Array Value} {vs : List Value} {Γf Γr : List HProp} {R : Value → List HProp → Prop}
    (sel : List Nat) (hfn : ∀ hF', le cx.hF hF' → Has Γr hF' → FnOk P f (first.toList ++ vs ++ cap.toList) Γf hF' R)
    (hw : Wt cx ops fr g true) (hc : callable P f = true) (hf : ev cx fr fop = some (.func (.func f) first cap)) (ha : evs cx fr args = some vs) (hsel : takes sel Γ = some (Γf, Γr))
    (h : ∀ v Γ', R v Γ' → GK cx K (upd d v fr) (Γ' ++ Γr)) : GO P cx ops Q ⟨d, .call ⟨.value fop, args.toArray, ats⟩, ty, pos, af, g⟩ K fr Γ := fun a w s => by
  simp only [hw a _ _ ty pos af s.slots, if_true]
  have hr : (execOp a.eval ⟨d, .call ⟨.value fop, args.toArray, ats⟩, ty, pos, af, g⟩).run P w = .ok (.enter f (first.toList ++ vs ++ cap.toList).toArray) w := by
    have h1 : args.toArray.map a.eval = vs.toArray := by rw [List.map_toArray, s.evals ha]
    simp [execOp, resolve, s.eval hf, Deferred.ofValue, invoke, h1, run_callFunc hc]
  unfold Oper.wp
  rw [hr, Oper.upon_enter]
  obtain ⟨hF', hle, hhas, hsat, hback⟩ := (s.heap.perm (takes_perm hsel)).call
  refine (hfn hF' hle hhas w hsat).mono ?_
  rintro e w' ⟨v, Γ', rfl, hR, hs, hsame⟩
  exact h v Γ' hR _ _ (s.put d v (hback _ _ hs) hsame)

/-! ### more ends -/
section ends
variable {fn : Func} {R : Value → List HProp → Prop} {hF : Hp} {w0 : World} {N : Nat} {b o : Nat} {l A : List Value} {e : TypeId} {fz : Nat × Nat}
theorem run_result_row {a : Act} {w : World} {t : Nat} {tt : TypeId} (s : St cx fr Γ a w) (hv : ev cx fr (.tmp t) = some (.pointer (some ⟨b, o, none⟩))) (hs : isRow P tt = some true) (hn : tsize P tt = some A.length) (hr : Rd Γ cx.hF b (.cells ⟨l⟩ e fz)) (hA : At l o A) :
    (do loadVar tt (← asAddr (a.tmps.getD t undef)) : Sem Value).run P w = .ok (.agg ⟨A⟩) w := by
  rw [s.tmp hv]
  simp [asAddr, run_loadVar_at hs hn (hr w s.heap) hA]
theorem GQ.end_row {t : Nat} {tt : TypeId} (h : fn.results = #[.cell t tt]) (hv : ev ⟨N, [], hF, w0⟩ fr (.tmp t) = some (.pointer (some ⟨b, o, none⟩))) (hs : isRow P tt = some true) (hn : tsize P tt = some A.length) (hr : Rd Γ hF b (.cells ⟨l⟩ e fz)) (hA : At l o A) (hR : R (.agg ⟨A⟩) Γ) :
    GQ ⟨N, [], hF, w0⟩ (bodyPost P fn (Ret hF w0 R)) .ret fr Γ :=
  end_of _ (fun a w s => by
    have := run_result_row (cx := ⟨N, [], hF, w0⟩) s hv hs hn hr hA
    simp only [results, h]
    simpa using this) hR
theorem GQ.end_row_tmp {t u : Nat} {tt : TypeId} {v : Value} (h : fn.results = #[.cell t tt, .tmp u]) (hv : ev ⟨N, [], hF, w0⟩ fr (.tmp t) = some (.pointer (some ⟨b, o, none⟩))) (hs : isRow P tt = some true) (hn : tsize P tt = some A.length) (hr : Rd Γ hF b (.cells ⟨l⟩ e fz)) (hA : At l o A)
    (hu : ev ⟨N, [], hF, w0⟩ fr (.tmp u) = some v) (hR : R (.tuple #[.agg ⟨A⟩, v]) Γ) :
    GQ ⟨N, [], hF, w0⟩ (bodyPost P fn (Ret hF w0 R)) .ret fr Γ :=
  end_of _ (fun a w s => by
    have h1 := s.tmp hv
    have h2 := s.tmp hu
    have h3 := run_loadVar_at (P := P) hs hn (hr w s.heap) hA
    simp at h1 h2
    simp [results, h, h2, h1, asAddr, h3]) hR
end ends

/-! ### A statement whose order is open: what only reads is taken first -/
/-- Whatever comes up next; S holds behind all that is not among fs. -/
def Hd (P : Program) (ops : Array Oper) (Q : Exit → Act → World → Prop) (fs : List Nat) (S : World → Prop) : Nat → Array Bool → Act → World → Prop
  | 0, done, a, w => Region.ready .any ops done = [] ∧ Q .normal a w
  | n + 1, done, a, w => (Region.ready .any ops done = [] → Q .normal a w) ∧
    ∀ i ∈ Region.ready .any ops done, wpOp P ops Q i (fun a' w' => (fs.contains i = false → S w') ∧ Hd P ops Q fs S n (done.setIfInBounds i true) a' w') a w
theorem Hd.any {fs : List Nat} {S : World → Prop} : ∀ (n : Nat) (done : Array Bool) (a : Act) (w : World), Hd P ops Q fs S n done a w → wpAny P .any ops Q n done a w
  | 0, _, _, _, h => h
  | n + 1, _, _, _, h => ⟨h.1, fun i hi => wpOp_mono (fun a' w' k => Hd.any n _ a' w' k.2) (h.2 i hi)⟩

/-- Number i comes ahead of number j, by whatever steps. -/
def anc (ops : Array Oper) : Nat → Nat → Nat → Bool
  | 0, _, _ => false
  | n + 1, j, i => match ops[j]? with
    | some o => o.after.toList.any fun e => Region.binds .any e && (Nat.beq e.on i || anc ops n e.on i)
    | none => false
/-- What is done: all that it waits for is done, too. -/
def Closed (ops : Array Oper) (done : Array Bool) : Prop := ∀ j oj, ops[j]? = some oj → done.getD j false = true → ∀ e ∈ oj.after, Region.binds .any e = true → done.getD e.on false = true
theorem anc_done {done : Array Bool} (hc : Closed ops done) : ∀ (n j i : Nat) (oj : Oper), ops[j]? = some oj → (∀ e ∈ oj.after, Region.binds .any e = true → done.getD e.on false = true) → anc ops n j i = true → done.getD i false = true
  | 0, _, _, _, _, _, h => by simp [anc] at h
  | n + 1, j, i, oj, hj, hall, h => by
    simp only [anc, hj, List.any_eq_true, Bool.and_eq_true, Bool.or_eq_true] at h
    obtain ⟨e, he, hb, h⟩ := h
    have hd := hall e (by simpa using he) hb
    rcases h with h | h
    · have h := Nat.eq_of_beq_eq_true h; rw [← h]; exact hd
    · cases ho : ops[e.on]? with
      | none => cases n <;> simp [anc, ho] at h
      | some o => exact anc_done hc n e.on i o ho (hc e.on o ho hd) h
theorem getD_both' {done : Array Bool} {i : Nat} (h : done.getD i true = false) : done.getD i false = false := by
  by_cases hlt : i < done.size
  · simp [hlt] at *; exact h
  · simp [Array.getElem?_eq_none (Nat.le_of_not_lt hlt)]
theorem Closed.set {done : Array Bool} (hc : Closed ops done) {i : Nat} (hi : i ∈ Region.ready .any ops done) : Closed ops (done.setIfInBounds i true) := by
  obtain ⟨_, oi, hoi, hall⟩ := mem_ready.1 hi
  have mono : ∀ k, done.getD k false = true → (done.setIfInBounds i true).getD k false = true := fun k hk => by
    by_cases e : i = k
    · subst e
      by_cases hlt : i < done.size
      · simp [hlt]
      · simp [Array.getElem?_eq_none (Nat.le_of_not_lt hlt)] at hk
    · rw [getD_set_ne false e]; exact hk
  intro j oj hj hd e he hb
  by_cases q : i = j
  · subst q; rw [hoi] at hj; cases hj; exact mono _ (hall e he hb)
  · rw [getD_set_ne false q] at hd; exact mono _ (hc j oj hj hd e he hb)

theorem Hd.take {fs : List Nat} {S : World → Prop} {i : Nat} {oi : Oper} {v : Value} (hi : ops[i]? = some oi) (hsel : Region.noSelect ops = true) (hQ : ∀ c a w, Q (.panic c) (a.put oi.dst v) w → Q (.panic c) a w)
    (hfi : fs.contains i = false) (hf : ∀ f ∈ fs, anc ops ops.size f i = true) :
    ∀ (n : Nat) (done : Array Bool) (a : Act) (w : World), Closed ops done → (∀ j oj, ops[j]? = some oj → j ≠ i → done.getD j true = false → (∀ e ∈ oj.after, Region.binds .any e = true → e.on ≠ i) → oi.apart ops oj = true) →
      i ∈ Region.ready .any ops done → YieldsIf P ops S oi v a → S w → Hd P ops Q fs S n (done.setIfInBounds i true) (a.put oi.dst v) w → Hd P ops Q fs S (n + 1) done a w := by
  have self : ∀ (n : Nat) (done : Array Bool) (a : Act) (w : World), YieldsIf P ops S oi v a → S w → Hd P ops Q fs S n (done.setIfInBounds i true) (a.put oi.dst v) w →
      wpOp P ops Q i (fun a' w' => (fs.contains i = false → S w') ∧ Hd P ops Q fs S n (done.setIfInBounds i true) a' w') a w :=
    fun n done a w hy hS H => YieldsIf.wpOp hi hy hS ⟨fun _ => hS, H⟩
  intro n
  induction n with
  | zero =>
    intro done a w _ _ hr hy hS H
    refine ⟨fun h => absurd hr (by rw [h]; simp), fun j hj => ?_⟩
    by_cases e : j = i
    · subst e; exact self 0 done a w hy hS H
    · exact absurd (ready_mono hj e) (by rw [H.1]; simp)
  | succ n ih =>
    intro done a w hcl hfree hr hy hS H
    refine ⟨fun h => absurd hr (by rw [h]; simp), fun j hj => ?_⟩
    by_cases e : j = i
    · subst e; exact self (n + 1) done a w hy hS H
    obtain ⟨hun, oj, hoj, hall⟩ := mem_ready.1 hj
    have hun' : done.getD i false = false := getD_both' (mem_ready.1 hr).1
    have hnot : ∀ x ∈ oj.after, Region.binds .any x = true → x.on ≠ i := fun x hx hb q => by
      have h1 := hall x hx hb
      rw [q, hun'] at h1; cases h1
    have hjf : fs.contains j = false := by
      cases hc : fs.contains j with
      | false => rfl
      | true =>
        have := anc_done hcl _ j i oj hoj hall (hf j (by simpa using hc))
        rw [hun'] at this; cases this
    have h2 := wpOp_putIf hoj (hfree j oj hoj e hun hnot) (fun cs b => Region.noSelect_spec hsel i oi cs b hi) (fun cs b => Region.noSelect_spec hsel j oj cs b hoj) hQ hy (H.2 j (ready_mono hj e))
    refine wpOp_mono (fun a' w' h3 => ?_) h2
    obtain ⟨hy', hS', H'⟩ := h3
    rw [Array.setIfInBounds_comm _ _ (Ne.symm e)] at H'
    refine ⟨fun _ => hS' hjf, ih _ a' w' (hcl.set hj) (fun k ok hk hki hund hno => hfree k ok hk hki ?_ hno) (ready_mono hr (Ne.symm e)) hy' (hS' hjf) H'⟩
    by_cases q : j = k
    · subst q; exact hun
    · rwa [getD_set_ne true q] at hund

theorem Closed.none : Closed ops (Array.replicate ops.size false) := fun j oj _ hd => by
  exfalso
  by_cases h : j < ops.size <;> simp [h] at hd

/-- The walk's judgement in such a statement. 'Δ': what holds throughout. -/
def GH (P : Program) (cx : Cx) (ops : Array Oper) (Q : Exit → Act → World → Prop) (fs : List Nat) (Δ : List HProp) (n : Nat) (done : Array Bool) (fr : Fr) (Γ : List HProp) : Prop :=
  Closed ops done → GK cx (Hd P ops (NoPanic Q) fs (fun w => Sat Δ cx.hF w ∧ Same cx.w0 w) n done) fr Γ
def KH (P : Program) (cx : Cx) (ops : Array Oper) (Q : Exit → Act → World → Prop) (fs : List Nat) (Δ : List HProp) (n i : Nat) (done : Array Bool) : Act → World → Prop := fun a w =>
  Closed ops done → (fs.contains i = false → Sat Δ cx.hF w ∧ Same cx.w0 w) ∧ Hd P ops (NoPanic Q) fs (fun w => Sat Δ cx.hF w ∧ Same cx.w0 w) n done a w

section draws
variable {fs : List Nat} {Δ : List HProp} {n i : Nat} {done : Array Bool}
theorem G.draw {id : Nat} {l : List Oper} (fs : List Nat) (Δ : List HProp) (hm : P.follows .mixedOrders = true)
    (h : GH P cx l.toArray Q fs Δ l.length (Array.replicate l.length false) fr Γ) : G P cx (.region id l.toArray true) Q fr Γ := fun a w s => by
  refine wp_region_noPanic (wp_region_any hm (Hd.any (fs := fs) (S := fun w => Sat Δ cx.hF w ∧ Same cx.w0 w) _ _ _ _ ?_))
  have s' : St cx fr Γ a { w with drawn := w.drawn + 1 } := ⟨s.size, s.defers, s.slots, s.heap.mono (le.refl _), ⟨s.same.os, s.same.tape, s.same.output, s.same.size⟩⟩
  have hc : Closed l.toArray (Array.replicate l.length false) := by have := Closed.none (ops := l.toArray); simpa using this
  simpa using h hc a _ s'

theorem GH.take_any (i : Nat) {o : Oper} {v : Value} (hi : ops[i]? = some o)
    (hok : (Region.noSelect ops && Region.free .any ops done i && (Region.ready .any ops done).contains i && !fs.contains i && fs.all fun f => anc ops ops.size f i) = true)
    (hg : ∀ w, Sat Γ cx.hF w → Sat Δ cx.hF w) (hy : ∀ a, Slots cx.N fr a → a.tmps.size = cx.N → a.defers = cx.ds → YieldsIf P ops (fun w => Sat Δ cx.hF w ∧ Same cx.w0 w) o v a)
    (h : GH P cx ops Q fs Δ n (done.setIfInBounds i true) (upd o.dst v fr) Γ) : GH P cx ops Q fs Δ (n + 1) done fr Γ := fun hcl a w s => by
  simp only [Bool.and_eq_true, Bool.not_eq_true'] at hok
  obtain ⟨⟨⟨⟨h1, h2⟩, h3⟩, h4⟩, h5⟩ := hok
  have hr : i ∈ Region.ready .any ops done := by simpa using h3
  exact Hd.take hi h1 (fun c a w h => h.elim) h4 (by simpa using h5) n done a w hcl (Region.free_spec hi h2) hr (hy a s.slots s.size s.defers) ⟨hg w s.heap, s.same⟩ (h (hcl.set hr) _ _ (s.put o.dst v s.heap (.refl w)))

variable {d : Option Tmp} {op : Op} {pos : String} {af : Array Edge} {g : Option (Nat × Bool)}
/-- Number i, which only reads, is taken first. -/
theorem GH.take (i : Nat) {v : Value} (hi : ops[i]? = some ⟨d, op, ty, pos, af, g⟩)
    (hok : (Region.noSelect ops && Region.free .any ops done i && (Region.ready .any ops done).contains i && !fs.contains i && fs.all fun f => anc ops ops.size f i) = true)
    (hw : Wt cx ops fr g true) (hg : ∀ w, Sat Γ cx.hF w → Sat Δ cx.hF w) (hy : Yl P cx fr Δ op ty v)
    (h : GH P cx ops Q fs Δ n (done.setIfInBounds i true) (upd d v fr) Γ) : GH P cx ops Q fs Δ (n + 1) done fr Γ :=
  GH.take_any i hi hok hg (fun a hs hz hd => .inl ⟨hw a d op ty pos af hs, fun w hS => hy a w d pos af g ⟨hz, hd, hs, hS.1, hS.2⟩⟩) h
theorem GH.take_skip (i : Nat) (hi : ops[i]? = some ⟨d, op, ty, pos, af, g⟩)
    (hok : (Region.noSelect ops && Region.free .any ops done i && (Region.ready .any ops done).contains i && !fs.contains i && fs.all fun f => anc ops ops.size f i) = true)
    (hw : Wt cx ops fr g false) (hg : ∀ w, Sat Γ cx.hF w → Sat Δ cx.hF w)
    (h : GH P cx ops Q fs Δ n (done.setIfInBounds i true) (upd d undef fr) Γ) : GH P cx ops Q fs Δ (n + 1) done fr Γ :=
  GH.take_any i hi hok hg (fun a hs _ _ => .inr ⟨hw a d op ty pos af hs, rfl⟩) h
/-- Number i alone may come up: it does. -/
theorem GH.step (i : Nat) {o : Oper} (hi : ops[i]? = some o) (hr : Region.ready .any ops done = [i])
    (h : GO P cx ops (NoPanic Q) o (KH P cx ops Q fs Δ n i (done.setIfInBounds i true)) fr Γ) : GH P cx ops Q fs Δ (n + 1) done fr Γ := fun hcl a w s => by
  refine ⟨fun e => absurd (hr ▸ e) (by simp), fun j hj => ?_⟩
  rw [hr] at hj
  obtain rfl : j = i := by simpa using hj
  have hc := hcl.set (i := j) (by rw [hr]; simp)
  have := h a w s
  unfold wpOp
  simp only [hi]
  split
  · rename_i e; simp only [e, if_true] at this
    exact .inl (Oper.wp_mono (fun a' w' k => k hc) this)
  · rename_i e; simp only [e] at this; exact this hc
theorem GH.on (hf : fs.contains i = true) (h : GH P cx ops Q fs Δ n done fr Γ) : GK cx (KH P cx ops Q fs Δ n i done) fr Γ := fun a w s hc => ⟨fun e => absurd (hf ▸ e) (by simp), h hc a w s⟩
theorem GH.keep (hg : ∀ w, Sat Γ cx.hF w → Sat Δ cx.hF w) (h : GH P cx ops Q fs Δ n done fr Γ) : GK cx (KH P cx ops Q fs Δ n i done) fr Γ := fun a w s hc => ⟨fun _ => ⟨hg w s.heap, s.same⟩, h hc a w s⟩
theorem GH.fin (hr : Region.ready .any ops done = []) (h : GQ cx Q .normal fr Γ) : GH P cx ops Q fs Δ n done fr Γ := fun _ a w s => by
  cases n with
  | zero => exact ⟨hr, h a w s⟩
  | succ n => exact ⟨fun _ => h a w s, by rw [hr]; simp⟩
end draws
end Go.Sl
