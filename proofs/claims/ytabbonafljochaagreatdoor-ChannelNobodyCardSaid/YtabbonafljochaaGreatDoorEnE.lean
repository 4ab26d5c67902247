/- The engine, part E: calls; results that lie in memory; statements whose order is open. -/
import Derived.Test.YtabbonafljochaaGreatDoorEnD
import Derived.OrdersHeld
import Derived.Deep.RegionHeld3
namespace Go.Sl
variable {P : Program} {cx : Cx} {fr : Fr} {Γ : List HProp} {Q : Exit → Act → World → Prop} {ops : Array Oper} {rest : List Oper} {ty : TypeId}

def evs (cx : Cx) (fr : Fr) : List Operand → Option (List Value)
  | [] => some []
  | x :: r => match ev cx fr x, evs cx fr r with
    | some v, some vs => some (v :: vs)
    | _, _ => none
theorem St.evals {a : Act} {w : World} (h : St cx fr Γ a w) : ∀ {l : List Operand} {vs : List Value}, evs cx fr l = some vs → l.map a.eval = vs
  | [], vs, e => by simp [evs] at e; simp [e]
  | x :: r, vs, e => by
    simp only [evs] at e
    split at e
    · rename_i v us hv hr
      cases e
      simp [h.eval hv, h.evals hr]
    · cases e

/-- The chunks with these numbers (each counted among those that are left), and the others. -/
def takes : List Nat → List HProp → Option (List HProp × List HProp)
  | [], Γ => some ([], Γ)
  | i :: r, Γ => match Γ[i]? with
    | some A => match takes r (Γ.eraseIdx i) with
      | some (x, y) => some (A :: x, y)
      | none => none
    | none => none
theorem takes_perm : ∀ {sel : List Nat} {Γ x y : List HProp}, takes sel Γ = some (x, y) → Γ.Perm (x ++ y)
  | [], Γ, x, y, h => by simp [takes] at h; obtain ⟨rfl, rfl⟩ := h; simp
  | i :: r, Γ, x, y, h => by
    simp only [takes] at h
    split at h
    · rename_i A hA
      split at h
      · rename_i x' y' hr
        cases h
        exact (perm_eraseIdx hA).trans ((takes_perm hr).cons A)
      · cases h
    · cases h

/-- These chunks lie in this frame. -/
def Has (Δ : List HProp) (hF : Hp) : Prop := ∃ ls, Holds Δ ls ∧ ∀ k ∈ ls, le k hF
theorem Has.pt {Δ : List HProp} {hF : Hp} {b : Nat} {o : Obj} (h : Has Δ hF) (i : Nat) (hi : Δ[i]? = some (pt b o)) : hF b = some o := by
  obtain ⟨ls, h1, h2⟩ := h
  obtain ⟨ms, h3, p⟩ := h1.perm (perm_eraseIdx hi)
  cases ms with
  | nil => exact h3.elim
  | cons k ms =>
    have := h3.1
    exact h2 k (p.mem_iff.2 (by simp)) b o (by rw [this]; simp)

theorem Sat.call {Γ Δ : List HProp} {hF : Hp} {w : World} (h : Sat (Γ ++ Δ) hF w) :
    ∃ hF', le hF hF' ∧ Has Δ hF' ∧ Sat Γ hF' w ∧ ∀ Γ' w', Sat Γ' hF' w' → Sat (Γ' ++ Δ) hF w' := by
  obtain ⟨hs, a, q, c, d⟩ := h
  obtain ⟨ks, ls, rfl, h1, h2⟩ := a.split
  rw [Apart_iff] at q
  obtain ⟨q1, q2⟩ := q
  obtain ⟨p1, p2, p3⟩ := List.pairwise_append.1 q2
  have al : apart hF (ls.foldr cup emp) := apart_foldr fun k hk => q1 k (by simp [hk])
  refine ⟨cup hF (ls.foldr cup emp), le_cup_left _ _, ⟨ls, h2, fun k hk => (foldr_cup_le p2 k hk).trans (le_cup_right al)⟩, ⟨ks, h1, ?_, cup_le c (le_of_foldr fun k hk => d k (by simp [hk])), fun k hk => d k (by simp [hk])⟩, ?_⟩
  · rw [Apart_iff]
    exact ⟨fun k hk => (apart_cup (q1 k (by simp [hk])).symm (apart_foldr fun l hl => p3 k hk l hl)).symm, p1⟩
  · rintro Γ' w' ⟨ms, a', q', c', d'⟩
    rw [Apart_iff] at q'
    refine ⟨ms ++ ls, a'.append h2, ?_, (le_cup_left _ _).trans c', fun k hk => ?_⟩
    · rw [Apart_iff]
      refine ⟨fun k hk => ?_, List.pairwise_append.2 ⟨q'.2, p2, fun k hk l hl => ?_⟩⟩
      · rcases List.mem_append.1 hk with hk | hk
        · exact (apart_of_le (q'.1 k hk).symm (le_cup_left _ _)).symm
        · exact q1 k (by simp [hk])
      · exact apart_of_le (q'.1 k hk).symm ((foldr_cup_le p2 l hl).trans (le_cup_right al))
    · rcases List.mem_append.1 hk with hk | hk
      · exact d' k hk
      · exact (foldr_cup_le p2 k hk).trans ((le_cup_right al).trans c')

def callable (P : Program) (f : FuncId) : Bool := match P.funcs[f]? with
  | some fn => fn.body.isSome && !(fn.name == "runtime.NumGoroutine")
  | none => false
theorem run_callFunc {f : FuncId} (h : callable P f = true) (as : Array Value) (w : World) : (callFunc f as).run P w = .ok (.enter f as) w := by
  unfold callable at h
  split at h
  · rename_i fn hf
    simp only [Bool.and_eq_true, Bool.not_eq_true', beq_eq_false_iff_ne] at h
    have hb : ¬ fn.body = none := by intro e; rw [e] at h; simp at h
    simp [callFunc, hf, h.2, hb]
  · cases h

variable {K : Act → World → Prop}
/-- What a call's next step leads to. -/
def Nx (P : Program) (R : Ending → World → Prop) : Next → World → Prop
  | .enter f args, w => Calls P f args w R
  | .round l f tmps assign body, w => RoundIn (FW none) 0 P l f tmps assign body w R
  | _, _ => False
/-- A call of the value v. -/
def VOk (P : Program) (v : Value) (args : List Value) (Γ : List HProp) (hF : Hp) (R : Value → List HProp → Prop) : Prop :=
  ∀ w, Sat Γ hF w → ∃ d nx, (Deferred.ofValue v args.toArray).run P w = .ok d w ∧ (invoke d.target d.args).run P w = .ok nx w ∧ Nx P (Ret hF w R) nx w
theorem FnOk.val {f : FuncId} {first cap : Array Value} {args : List Value} {hF : Hp} {R : Value → List HProp → Prop} (hc : callable P f = true) (h : FnOk P f (first.toList ++ args ++ cap.toList) Γ hF R) : VOk P (.func (.func f) first cap) args Γ hF R := fun w hs => by
  refine ⟨{ target := .fn (.func f) cap, args := first ++ args.toArray }, .enter f (first.toList ++ args ++ cap.toList).toArray, rfl, ?_, h w hs⟩
  have hr := run_callFunc (P := P) hc (first ++ args.toArray ++ cap) w
  have e : (first.toList ++ args ++ cap.toList).toArray = first ++ args.toArray ++ cap := by
    apply Array.ext'; simp
  rw [e]; exact hr
theorem Ret.mono {hF : Hp} {w : World} {R R' : Value → List HProp → Prop} (h : ∀ v Γ', R v Γ' → ∀ w', Sat Γ' hF w' → ∃ Γ'', R' v Γ'' ∧ Sat Γ'' hF w') : ∀ e w', Ret hF w R e w' → Ret hF w R' e w' := by
  rintro e w' ⟨v, Γ', rfl, hR, hs, hm⟩
  obtain ⟨Γ'', h1, h2⟩ := h v Γ' hR w' hs
  exact ⟨v, Γ'', rfl, h1, h2, hm⟩
theorem Nx.mono {R R' : Ending → World → Prop} (h : ∀ e w, R e w → R' e w) : ∀ {nx : Next} {w : World}, Nx P R nx w → Nx P R' nx w
  | .enter _ _, _, k => Calls.mono k h
  | .round .., _, k => RoundIn.mono k h
theorem VOk.weak {v : Value} {args : List Value} {Γ' : List HProp} {hF : Hp} {R R' : Value → List HProp → Prop} (hg : ∀ w, Sat Γ' hF w → Sat Γ hF w) (hR : ∀ v Γ', R v Γ' → ∀ w', Sat Γ' hF w' → ∃ Γ'', R' v Γ'' ∧ Sat Γ'' hF w')
    (h : VOk P v args Γ hF R) : VOk P v args Γ' hF R' := fun w hs => by
  obtain ⟨d, nx, h1, h2, h3⟩ := h w (hg w hs)
  exact ⟨d, nx, h1, h2, h3.mono (Ret.mono hR)⟩
theorem FnOk.weak {f : FuncId} {args : List Value} {Γ' : List HProp} {hF : Hp} {R R' : Value → List HProp → Prop} (hg : ∀ w, Sat Γ' hF w → Sat Γ hF w) (hR : ∀ v Γ', R v Γ' → ∀ w', Sat Γ' hF w' → ∃ Γ'', R' v Γ'' ∧ Sat Γ'' hF w')
    (h : FnOk P f args Γ hF R) : FnOk P f args Γ' hF R' := fun w hs => Calls.mono (h w (hg w hs)) (Ret.mono hR)
/-- With chunks that are not touched. -/
theorem FnOk.frame {f : FuncId} {args : List Value} {Δ : List HProp} {hF : Hp} {R : Value → List HProp → Prop} (h : ∀ hF', le hF hF' → Has Δ hF' → FnOk P f args Γ hF' R) :
    FnOk P f args (Γ ++ Δ) hF (fun v Γ' => ∃ Γ'', Γ' = Γ'' ++ Δ ∧ R v Γ'') := fun w hs => by
  obtain ⟨hF', hle, hhas, hsat, hback⟩ := hs.call
  refine Calls.mono (h hF' hle hhas w hsat) ?_
  rintro e w' ⟨v, Γ', rfl, hR, hs, hm⟩
  exact ⟨v, Γ' ++ Δ, rfl, ⟨Γ', rfl, hR⟩, hback _ _ hs, hm⟩
theorem GO.callV {d : Option Tmp} {pos : String} {af : Array Edge} {g : Option (Nat × Bool)} {fop : Operand} {args : List Operand} {ats : Array TypeId} {fv : Value} {vs : List Value} {Γf Γr : List HProp} {R : Value → List HProp → Prop}
    (hfn : ∀ hF', le cx.hF hF' → Has Γr hF' → VOk P fv vs Γf hF' R)
    (hw : Wt cx ops fr g true) (hf : ev cx fr fop = some fv) (ha : evs cx fr args = some vs) (hsel : Γ.Perm (Γf ++ Γr))
    (h : ∀ v Γ', R v Γ' → GK cx K (upd d v fr) (Γ' ++ Γr)) : GO P cx ops Q ⟨d, .call ⟨.value fop, args.toArray, ats⟩, ty, pos, af, g⟩ K fr Γ := fun a w s => by
  simp only [hw a _ _ ty pos af s.slots, if_true]
  obtain ⟨hF', hle, hhas, hsat, hback⟩ := (s.heap.perm hsel).call
  obtain ⟨dd, nx, h1, h2, h3⟩ := hfn hF' hle hhas w hsat
  have hr : (execOp a.eval ⟨d, .call ⟨.value fop, args.toArray, ats⟩, ty, pos, af, g⟩).run P w = .ok nx w := by
    have h0 : args.toArray.map a.eval = vs.toArray := by rw [List.map_toArray, s.evals ha]
    simp only [execOp, resolve, s.eval hf, h0, Sem.run_bind, h1, Result.andThen_ok, h2]
  refine wpIn_of_run (fun c hc => by cases hc) ?_
  rw [hr]
  have key : ∀ e w', Ret hF' w R e w' → (match e, w' with
      | .returned v, w'' => K (a.put d v) w''
      | .panicked chain, w'' => Q (.panic chain) a w''
      | .outgrown, _ => LetsOut Q) := by
    rintro e w' ⟨v, Γ', rfl, hR, hs, hsame⟩
    exact h v Γ' hR _ _ (s.put d v (hback _ _ hs) hsame)
  cases nx with
  | enter f as => exact ⟨(fun hd => by cases hd), CallsIn.mono ((callsIn_wide (n := 0 - 1)).2 h3) (fun e w' hr => by have := key e w' hr; cases e <;> exact this)⟩
  | round l f tmps assign body => exact ⟨(fun hd => by cases hd), RoundIn.mono (R := Ret hF' w R) h3 (fun e w' hr => by have := key e w' hr; cases e <;> exact this)⟩
  | _ => exact h3.elim
theorem GO.call {d : Option Tmp} {pos : String} {af : Array Edge} {g : Option (Nat × Bool)} {fop : Operand} {args : List Operand} {ats : Array TypeId} {f : FuncId} {first cap : Array Value} {vs : List Value} {Γf Γr : List HProp} {R : Value → List HProp → Prop}
    (sel : List Nat) (hfn : ∀ hF', le cx.hF hF' → Has Γr hF' → FnOk P f (first.toList ++ vs ++ cap.toList) Γf hF' R)
    (hw : Wt cx ops fr g true) (hc : callable P f = true) (hf : ev cx fr fop = some (.func (.func f) first cap)) (ha : evs cx fr args = some vs) (hsel : takes sel Γ = some (Γf, Γr))
    (h : ∀ v Γ', R v Γ' → GK cx K (upd d v fr) (Γ' ++ Γr)) : GO P cx ops Q ⟨d, .call ⟨.value fop, args.toArray, ats⟩, ty, pos, af, g⟩ K fr Γ :=
  GO.callV (fun hF' hle hH => (hfn hF' hle hH).val hc) hw hf ha (takes_perm hsel) h

/-! ### more ends -/
section ends
variable {fn : Func} {R : Value → List HProp → Prop} {hF : Hp} {w0 : World} {N : Nat} {b o : Nat} {l A : List Value} {e : TypeId} {fz : Nat × Nat}
theorem run_result_row {a : Act} {w : World} {t : Nat} {tt : TypeId} (s : St cx fr Γ a w) (hv : ev cx fr (.tmp t) = some (.pointer (some ⟨b, o, none⟩))) (hs : isRow P tt = some true) (hn : tsize P tt = some A.length) (hr : Rd Γ cx.hF b (.cells ⟨l⟩ e fz)) (hA : At l o A) :
    (do loadVar tt (← asAddr (a.tmps.getD t undef)) : Sem Value).run P w = .ok (.agg ⟨A⟩) w := by
  rw [s.tmp hv]
  simp [asAddr, run_loadVar_at hs hn (hr w s.heap) hA]
theorem GQ.end_row {t : Nat} {tt : TypeId} (h : fn.results = #[.cell t tt]) (hv : ev ⟨N, [], hF, w0, none⟩ fr (.tmp t) = some (.pointer (some ⟨b, o, none⟩))) (hs : isRow P tt = some true) (hn : tsize P tt = some A.length) (hr : Rd Γ hF b (.cells ⟨l⟩ e fz)) (hA : At l o A) (hR : R (.agg ⟨A⟩) Γ) :
    GQ ⟨N, [], hF, w0, none⟩ (bodyPost P fn (Ret hF w0 R)) .ret fr Γ :=
  end_of _ (fun a w s => by
    have := run_result_row (cx := ⟨N, [], hF, w0, none⟩) s hv hs hn hr hA
    simp only [results, h]
    simpa using this) hR
theorem GQ.end_row_tmp {t u : Nat} {tt : TypeId} {v : Value} (h : fn.results = #[.cell t tt, .tmp u]) (hv : ev ⟨N, [], hF, w0, none⟩ fr (.tmp t) = some (.pointer (some ⟨b, o, none⟩))) (hs : isRow P tt = some true) (hn : tsize P tt = some A.length) (hr : Rd Γ hF b (.cells ⟨l⟩ e fz)) (hA : At l o A)
    (hu : ev ⟨N, [], hF, w0, none⟩ fr (.tmp u) = some v) (hR : R (.tuple #[.agg ⟨A⟩, v]) Γ) :
    GQ ⟨N, [], hF, w0, none⟩ (bodyPost P fn (Ret hF w0 R)) .ret fr Γ :=
  end_of _ (fun a w s => by
    have h1 := s.tmp hv
    have h2 := s.tmp hu
    have h3 := run_loadVar_at (P := P) hs hn (hr w s.heap) hA
    simp at h1 h2
    simp [results, h, h2, h1, asAddr, h3]) hR
end ends

/-! ### A statement whose order is open: what only reads is taken first -/
def noDefer (ops : Array Oper) : Bool := ops.toList.all fun o => match o.op with
  | .defer _ => false
  | _ => true
theorem noDefer_spec (h : noDefer ops = true) {j : Nat} {o : Oper} (ho : ops[j]? = some o) (c : Call) : o.op ≠ .defer c := by
  intro e
  have := List.all_eq_true.1 h o (by simpa using Array.mem_of_getElem? ho)
  rw [e] at this; cases this
section op
variable {ro : Option Nat} {S : World → Prop}
theorem YieldsIf.wpOpIn {i : Nat} {o : Oper} {v : Value} {a : Act} (hi : ops[i]? = some o) (hd : ∀ c, o.op ≠ .defer c) (hy : YieldsIf P ops S o v a)
    {K : Act → World → Prop} {w : World} (hS : S w) (h : K (a.put o.dst v) w) : wpOpIn (FW ro) 0 P ops Q i K a w := by
  unfold Go.wpOpIn
  simp only [hi]
  rcases hy with ⟨hw, hv⟩ | ⟨hw, rfl⟩
  · simp only [hw, if_true]
    refine wpIn_of_run hd ?_
    rw [hv w hS]; exact h
  · simp only [hw, Bool.false_eq_true, if_false]; exact ⟨fun _ _ => trivial, h⟩
theorem wpOpIn_putIf {j : Nat} {oi oj : Oper} {v : Value} (hj : ops[j]? = some oj) (hnd : ∀ c, oj.op ≠ .defer c) (hap : oi.apart ops oj = true)
    (hsi : ∀ cs b, oi.op ≠ .select cs b) (hsj : ∀ cs b, oj.op ≠ .select cs b)
    (hQ : ∀ c a w, Q (.panic c) (a.put oi.dst v) w → Q (.panic c) a w) {K : Act → World → Prop} {a : Act} {w : World}
    (hy : YieldsIf P ops S oi v a) (h : wpOpIn (FW ro) 0 P ops Q j K (a.put oi.dst v) w) :
    wpOpIn (FW ro) 0 P ops Q j (fun a' w' => YieldsIf P ops S oi v a' ∧ K (a'.put oi.dst v) w') a w := by
  obtain ⟨h1, h2, h3⟩ := Oper.apart_spec hap
  have keep : ∀ (a : Act), YieldsIf P ops S oi v a → ∀ u, YieldsIf P ops S oi v (a.put oj.dst u) := fun a hy u =>
    hy.of_same (execOp_put oi hsi a oj.dst u h3) (wanted_put oi a oj.dst u h3)
  have back : ∀ u w', K ((a.put oi.dst v).put oj.dst u) w' → YieldsIf P ops S oi v (a.put oj.dst u) ∧ K ((a.put oj.dst u).put oi.dst v) w' := fun u w' hk => ⟨keep a hy u, by rw [← Act.put_comm a v u h2]; exact hk⟩
  unfold Go.wpOpIn at *
  simp only [hj] at *
  rw [wanted_put oj a oi.dst v h1] at h
  split
  · rename_i hw
    simp only [hw, if_true] at h
    obtain ⟨_, h⟩ := h
    rw [Oper.semAt_eq _ _ _ hnd, execOp_put oj hsj a oi.dst v h1] at h
    refine wpIn_of_run hnd ?_
    generalize (execOp a.eval oj).run P w = r at *
    cases r with
    | ok n w' =>
      cases n <;> simp only [Oper.uponIn] at h ⊢
      case value u => exact back _ _ h
      case skip => exact back _ _ h
      case defer d =>
        have hd : YieldsIf P ops S oi v { a with defers := d :: a.defers } := hy.of_same rfl rfl
        refine ⟨keep _ hd _, ?_⟩
        rw [← Act.put_comm _ v undef h2, ← Act.put_defers]
        exact h
      case enter f args =>
        refine ⟨h.1, CallsIn.mono h.2 fun e w'' he => ?_⟩
        cases e with
        | returned u => exact back _ _ he
        | panicked c => exact hQ _ _ _ he
        | outgrown => exact he
      case row row args => exact ⟨h.1, RowsIn.mono h.2 fun u w'' he => back _ _ he⟩
      case round l f tmps assign body =>
        refine ⟨h.1, RoundIn.mono h.2 fun e w'' he => ?_⟩
        cases e with
        | returned u => exact back _ _ he
        | panicked c => exact hQ _ _ _ he
        | outgrown => exact he
    | halt x w' =>
      cases x <;> simp only [Oper.uponIn] at h ⊢
      case panic u => exact hQ _ _ _ h
  · rename_i hw
    simp only [hw] at h
    exact ⟨fun _ _ => trivial, back _ _ h.2⟩
end op
/-- Whatever comes up next; S holds behind all that is not among fs. -/
def Hd (ro : Option Nat) (P : Program) (ops : Array Oper) (Q : Exit → Act → World → Prop) (fs : List Nat) (S : World → Prop) : Nat → Array Bool → Act → World → Prop
  | 0, done, a, w => Region.ready .any ops done = [] ∧ Q .normal a w
  | n + 1, done, a, w => (Region.ready .any ops done = [] → Q .normal a w) ∧
    ∀ i ∈ Region.ready .any ops done, wpOpIn (FW ro) 0 P ops Q i (fun a' w' => (fs.contains i = false → S w') ∧ Hd ro P ops Q fs S n (done.setIfInBounds i true) a' w') a w
theorem Hd.any {ro : Option Nat} {fs : List Nat} {S : World → Prop} : ∀ (n : Nat) (done : Array Bool) (a : Act) (w : World), Hd ro P ops Q fs S n done a w → wpAnyIn (FW ro) 0 P .any ops Q n done a w
  | 0, _, _, _, h => h
  | n + 1, _, _, _, h => ⟨h.1, fun i hi => wpOpIn_mono (fun a' w' k => Hd.any n _ a' w' k.2) (h.2 i hi)⟩

/-- Number i comes ahead of number j, by whatever steps. -/
def anc (ops : Array Oper) : Nat → Nat → Nat → Bool
  | 0, _, _ => false
  | n + 1, j, i => match ops[j]? with
    | some o => o.after.toList.any fun e => Region.binds .any e && (Nat.beq e.on i || anc ops n e.on i)
    | none => false
/-- What is done: all that it waits for is done, too. -/
def Closed (ops : Array Oper) (done : Array Bool) : Prop := ∀ j oj, ops[j]? = some oj → done.getD j false = true → ∀ e ∈ oj.after, Region.binds .any e = true → done.getD e.on false = true
theorem anc_done {done : Array Bool} (hc : Closed ops done) : ∀ (n j i : Nat) (oj : Oper), ops[j]? = some oj → (∀ e ∈ oj.after, Region.binds .any e = true → done.getD e.on false = true) → anc ops n j i = true → done.getD i false = true
  | 0, _, _, _, _, _, h => by simp [anc] at h
  | n + 1, j, i, oj, hj, hall, h => by
    simp only [anc, hj, List.any_eq_true, Bool.and_eq_true, Bool.or_eq_true] at h
    obtain ⟨e, he, hb, h⟩ := h
    have hd := hall e (by simpa using he) hb
    rcases h with h | h
    · have h := Nat.eq_of_beq_eq_true h; rw [← h]; exact hd
    · cases ho : ops[e.on]? with
      | none => cases n <;> simp [anc, ho] at h
      | some o => exact anc_done hc n e.on i o ho (hc e.on o ho hd) h
theorem getD_both' {done : Array Bool} {i : Nat} (h : done.getD i true = false) : done.getD i false = false := by
  by_cases hlt : i < done.size
  · simp [hlt] at *; exact h
  · simp [Array.getElem?_eq_none (Nat.le_of_not_lt hlt)]
theorem Closed.set {done : Array Bool} (hc : Closed ops done) {i : Nat} (hi : i ∈ Region.ready .any ops done) : Closed ops (done.setIfInBounds i true) := by
  obtain ⟨_, oi, hoi, hall⟩ := mem_ready.1 hi
  have mono : ∀ k, done.getD k false = true → (done.setIfInBounds i true).getD k false = true := fun k hk => by
    by_cases e : i = k
    · subst e
      by_cases hlt : i < done.size
      · simp [hlt]
      · simp [Array.getElem?_eq_none (Nat.le_of_not_lt hlt)] at hk
    · rw [getD_set_ne false e]; exact hk
  intro j oj hj hd e he hb
  by_cases q : i = j
  · subst q; rw [hoi] at hj; cases hj; exact mono _ (hall e he hb)
  · rw [getD_set_ne false q] at hd; exact mono _ (hc j oj hj hd e he hb)

theorem Hd.take {ro : Option Nat} {fs : List Nat} {S : World → Prop} {i : Nat} {oi : Oper} {v : Value} (hi : ops[i]? = some oi) (hsel : Region.noSelect ops = true) (hnd : noDefer ops = true) (hQ : ∀ c a w, Q (.panic c) (a.put oi.dst v) w → Q (.panic c) a w)
    (hfi : fs.contains i = false) (hf : ∀ f ∈ fs, anc ops ops.size f i = true) :
    ∀ (n : Nat) (done : Array Bool) (a : Act) (w : World), Closed ops done → (∀ j oj, ops[j]? = some oj → j ≠ i → done.getD j true = false → (∀ e ∈ oj.after, Region.binds .any e = true → e.on ≠ i) → oi.apart ops oj = true) →
      i ∈ Region.ready .any ops done → YieldsIf P ops S oi v a → S w → Hd ro P ops Q fs S n (done.setIfInBounds i true) (a.put oi.dst v) w → Hd ro P ops Q fs S (n + 1) done a w := by
  have self : ∀ (n : Nat) (done : Array Bool) (a : Act) (w : World), YieldsIf P ops S oi v a → S w → Hd ro P ops Q fs S n (done.setIfInBounds i true) (a.put oi.dst v) w →
      wpOpIn (FW ro) 0 P ops Q i (fun a' w' => (fs.contains i = false → S w') ∧ Hd ro P ops Q fs S n (done.setIfInBounds i true) a' w') a w :=
    fun n done a w hy hS H => YieldsIf.wpOpIn hi (noDefer_spec hnd hi) hy hS ⟨fun _ => hS, H⟩
  intro n
  induction n with
  | zero =>
    intro done a w _ _ hr hy hS H
    refine ⟨fun h => absurd hr (by rw [h]; simp), fun j hj => ?_⟩
    by_cases e : j = i
    · subst e; exact self 0 done a w hy hS H
    · exact absurd (ready_mono hj e) (by rw [H.1]; simp)
  | succ n ih =>
    intro done a w hcl hfree hr hy hS H
    refine ⟨fun h => absurd hr (by rw [h]; simp), fun j hj => ?_⟩
    by_cases e : j = i
    · subst e; exact self (n + 1) done a w hy hS H
    obtain ⟨hun, oj, hoj, hall⟩ := mem_ready.1 hj
    have hun' : done.getD i false = false := getD_both' (mem_ready.1 hr).1
    have hnot : ∀ x ∈ oj.after, Region.binds .any x = true → x.on ≠ i := fun x hx hb q => by
      have h1 := hall x hx hb
      rw [q, hun'] at h1; cases h1
    have hjf : fs.contains j = false := by
      cases hc : fs.contains j with
      | false => rfl
      | true =>
        have := anc_done hcl _ j i oj hoj hall (hf j (by simpa using hc))
        rw [hun'] at this; cases this
    have h2 := wpOpIn_putIf hoj (noDefer_spec hnd hoj) (hfree j oj hoj e hun hnot) (fun cs b => Region.noSelect_spec hsel i oi cs b hi) (fun cs b => Region.noSelect_spec hsel j oj cs b hoj) hQ hy (H.2 j (ready_mono hj e))
    refine wpOpIn_mono (fun a' w' h3 => ?_) h2
    obtain ⟨hy', hS', H'⟩ := h3
    rw [Array.setIfInBounds_comm _ _ (Ne.symm e)] at H'
    refine ⟨fun _ => hS' hjf, ih _ a' w' (hcl.set hj) (fun k ok hk hki hund hno => hfree k ok hk hki ?_ hno) (ready_mono hr (Ne.symm e)) hy' (hS' hjf) H'⟩
    by_cases q : j = k
    · subst q; exact hun
    · rwa [getD_set_ne true q] at hund

theorem Closed.none : Closed ops (Array.replicate ops.size false) := fun j oj _ hd => by
  exfalso
  by_cases h : j < ops.size <;> simp [h] at hd

/-- The walk's judgement in such a statement. 'Δ': what holds throughout. -/
def GH (P : Program) (cx : Cx) (ops : Array Oper) (Q : Exit → Act → World → Prop) (fs : List Nat) (Δ : List HProp) (n : Nat) (done : Array Bool) (fr : Fr) (Γ : List HProp) : Prop :=
  Closed ops done → GK cx (Hd cx.ro P ops (NoPanic Q) fs (fun w => Sat Δ cx.hF w ∧ Same cx.w0 w) n done) fr Γ
def KH (P : Program) (cx : Cx) (ops : Array Oper) (Q : Exit → Act → World → Prop) (fs : List Nat) (Δ : List HProp) (n i : Nat) (done : Array Bool) : Act → World → Prop := fun a w =>
  Closed ops done → (fs.contains i = false → Sat Δ cx.hF w ∧ Same cx.w0 w) ∧ Hd cx.ro P ops (NoPanic Q) fs (fun w => Sat Δ cx.hF w ∧ Same cx.w0 w) n done a w

section draws
variable {fs : List Nat} {Δ : List HProp} {n i : Nat} {done : Array Bool}
theorem G.draw {id : Nat} {l : List Oper} (fs : List Nat) (Δ : List HProp) (hm : P.follows .mixedOrders = true)
    (h : GH P cx l.toArray Q fs Δ l.length (Array.replicate l.length false) fr Γ) : G P cx (.region id l.toArray true) Q fr Γ := fun a w s => by
  refine wpIn_mono (Q := NoPanic Q) (Q' := Q) (wpIn_region_any hm (Hd.any (ro := cx.ro) (fs := fs) (S := fun w => Sat Δ cx.hF w ∧ Same cx.w0 w) _ _ _ _ ?_)) NoPanic.imp
  have s' : St cx fr Γ a { w with drawn := w.drawn + 1 } := ⟨s.size, s.defers, s.slots, s.heap.mono (le.refl _), ⟨s.same.os, s.same.tape, s.same.output, s.same.size⟩⟩
  have hc : Closed l.toArray (Array.replicate l.length false) := by have := Closed.none (ops := l.toArray); simpa using this
  simpa using h hc a _ s'

theorem GH.take_any (i : Nat) {o : Oper} {v : Value} (hi : ops[i]? = some o)
    (hok : (Region.noSelect ops && noDefer ops && Region.free .any ops done i && (Region.ready .any ops done).contains i && !fs.contains i && fs.all fun f => anc ops ops.size f i) = true)
    (hg : ∀ w, Sat Γ cx.hF w → Sat Δ cx.hF w) (hy : ∀ a, Slots cx.N fr a → a.tmps.size = cx.N → a.defers = cx.ds → YieldsIf P ops (fun w => Sat Δ cx.hF w ∧ Same cx.w0 w) o v a)
    (h : GH P cx ops Q fs Δ n (done.setIfInBounds i true) (upd o.dst v fr) Γ) : GH P cx ops Q fs Δ (n + 1) done fr Γ := fun hcl a w s => by
  simp only [Bool.and_eq_true, Bool.not_eq_true'] at hok
  obtain ⟨⟨⟨⟨⟨h1, h0⟩, h2⟩, h3⟩, h4⟩, h5⟩ := hok
  have hr : i ∈ Region.ready .any ops done := by simpa using h3
  exact Hd.take hi h1 h0 (fun c a w h => h.elim) h4 (by simpa using h5) n done a w hcl (Region.free_spec hi h2) hr (hy a s.slots s.size s.defers) ⟨hg w s.heap, s.same⟩ (h (hcl.set hr) _ _ (s.put o.dst v s.heap (.refl w)))

variable {d : Option Tmp} {op : Op} {pos : String} {af : Array Edge} {g : Option (Nat × Bool)}
/-- Number i, which only reads, is taken first. -/
theorem GH.take (i : Nat) {v : Value} (hi : ops[i]? = some ⟨d, op, ty, pos, af, g⟩)
    (hok : (Region.noSelect ops && noDefer ops && Region.free .any ops done i && (Region.ready .any ops done).contains i && !fs.contains i && fs.all fun f => anc ops ops.size f i) = true)
    (hw : Wt cx ops fr g true) (hg : ∀ w, Sat Γ cx.hF w → Sat Δ cx.hF w) (hy : Yl P cx fr Δ op ty v)
    (h : GH P cx ops Q fs Δ n (done.setIfInBounds i true) (upd d v fr) Γ) : GH P cx ops Q fs Δ (n + 1) done fr Γ :=
  GH.take_any i hi hok hg (fun a hs hz hd => .inl ⟨hw a d op ty pos af hs, fun w hS => hy a w d pos af g ⟨hz, hd, hs, hS.1, hS.2⟩⟩) h
theorem GH.take_skip (i : Nat) (hi : ops[i]? = some ⟨d, op, ty, pos, af, g⟩)
    (hok : (Region.noSelect ops && noDefer ops && Region.free .any ops done i && (Region.ready .any ops done).contains i && !fs.contains i && fs.all fun f => anc ops ops.size f i) = true)
    (hw : Wt cx ops fr g false) (hg : ∀ w, Sat Γ cx.hF w → Sat Δ cx.hF w)
    (h : GH P cx ops Q fs Δ n (done.setIfInBounds i true) (upd d undef fr) Γ) : GH P cx ops Q fs Δ (n + 1) done fr Γ :=
  GH.take_any i hi hok hg (fun a hs _ _ => .inr ⟨hw a d op ty pos af hs, rfl⟩) h
/-- Number i alone may come up: it does. -/
theorem GH.step (i : Nat) {o : Oper} (hi : ops[i]? = some o) (hr : Region.ready .any ops done = [i])
    (h : GO P cx ops (NoPanic Q) o (KH P cx ops Q fs Δ n i (done.setIfInBounds i true)) fr Γ) : GH P cx ops Q fs Δ (n + 1) done fr Γ := fun hcl a w s => by
  refine ⟨fun e => absurd (hr ▸ e) (by simp), fun j hj => ?_⟩
  rw [hr] at hj
  obtain rfl : j = i := by simpa using hj
  have hc := hcl.set (i := j) (by rw [hr]; simp)
  have := h a w s
  unfold Go.wpOpIn
  simp only [hi]
  split
  · rename_i e; simp only [e, if_true] at this
    exact Oper.wpIn_mono (fun a' w' k => k hc) this
  · rename_i e; simp only [e] at this; exact ⟨fun _ _ => trivial, this hc⟩
theorem GH.on (hf : fs.contains i = true) (h : GH P cx ops Q fs Δ n done fr Γ) : GK cx (KH P cx ops Q fs Δ n i done) fr Γ := fun a w s hc => ⟨fun e => absurd (hf ▸ e) (by simp), h hc a w s⟩
theorem GH.keep (hg : ∀ w, Sat Γ cx.hF w → Sat Δ cx.hF w) (h : GH P cx ops Q fs Δ n done fr Γ) : GK cx (KH P cx ops Q fs Δ n i done) fr Γ := fun a w s hc => ⟨fun _ => ⟨hg w s.heap, s.same⟩, h hc a w s⟩
theorem GH.fin (hr : Region.ready .any ops done = []) (h : GQ cx Q .normal fr Γ) : GH P cx ops Q fs Δ n done fr Γ := fun _ a w s => by
  cases n with
  | zero => exact ⟨hr, h a w s⟩
  | succ n => exact ⟨fun _ => h a w s, by rw [hr]; simp⟩
end draws
end Go.Sl
