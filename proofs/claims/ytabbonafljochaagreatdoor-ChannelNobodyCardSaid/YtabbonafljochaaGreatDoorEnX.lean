/- The engine, part X: chunks found by themselves; functions without a body; roads split where a guard hangs on something unknown; a law over its memory as a pool. -/
import Derived.Test.YtabbonafljochaaGreatDoorEnZ
import Derived.Test.YtabbonafljochaaGreatDoorEnR
import Derived.Test.YtabbonafljochaaGreatDoorEnS
import Derived.Test.YtabbonafljochaaGreatDoorEnW
set_option linter.unusedSimpArgs false
set_option linter.unusedVariables false
namespace Go.Sl
open Go.RowKit
variable {P : Program} {cx : Cx} {fr : Fr} {Γ : List HProp} {Q : Exit → Act → World → Prop} {ops : Array Oper} {rest : List Oper} {ty : TypeId} {K : Act → World → Prop}

/-! ### chunks found by themselves -/
/-- A stands in Γ, and Γr is left. -/
def SubR (A Γ Γr : List HProp) : Prop := Γ.Perm (A ++ Γr)
theorem SubR.nil : SubR [] Γ Γ := List.Perm.refl _
theorem SubR.cons {A : HProp} {As Γr : List HProp} (i : Nat) (hi : Γ[i]? = some A) (h : SubR As (Γ.eraseIdx i) Γr) : SubR (A :: As) Γ Γr :=
  (perm_eraseIdx hi).trans (List.Perm.cons A h)
theorem Sat.sub {A Γr : List HProp} {hF : Hp} {w : World} (h : SubR A Γ Γr) (s : Sat Γ hF w) : Sat A hF w := by
  have s := s.perm h
  obtain ⟨hs, a, q, c, d⟩ := s
  obtain ⟨ks, ls, rfl, h1, h2⟩ := a.split
  rw [Apart_iff] at q
  obtain ⟨q1, q2⟩ := q
  obtain ⟨p1, _, _⟩ := List.pairwise_append.1 q2
  exact ⟨ks, h1, Apart_iff.2 ⟨fun k hk => q1 k (by simp [hk]), p1⟩, c, fun k hk => d k (by simp [hk])⟩
theorem GO.callA {d : Option Tmp} {pos : String} {af : Array Edge} {g : Option (Nat × Bool)} {fop : Operand} {args : List Operand} {ats : Array TypeId} {f : FuncId} {first cap : Array Value} {vs : List Value} {Γf Γr : List HProp} {R : Value → List HProp → Prop}
    (hfn : ∀ hF', le cx.hF hF' → Has Γr hF' → FnOk P f (first.toList ++ vs ++ cap.toList) Γf hF' R)
    (hw : Wt cx ops fr g true) (hc : callable P f = true) (hf : ev cx fr fop = some (.func (.func f) first cap)) (ha : evs cx fr args = some vs) (hsel : SubR Γf Γ Γr)
    (h : ∀ v Γ', R v Γ' → GK cx K (upd d v fr) (Γ' ++ Γr)) : GO P cx ops Q ⟨d, .call ⟨.value fop, args.toArray, ats⟩, ty, pos, af, g⟩ K fr Γ :=
  GO.callV (fun hF' hle hH => (hfn hF' hle hH).val hc) hw hf ha hsel h

/-! ### functions without a body -/
theorem GO.ext {d : Option Tmp} {pos : String} {af : Array Edge} {g : Option (Nat × Bool)} {fop : Operand} {args : List Operand} {ats : Array TypeId} {f : FuncId} {fn : Func} {e : Array Value → Sem Value} {vs : List Value} {v : Value}
    (hfn : P.funcs[f]? = some fn) (hb : fn.body = none) (hn : (fn.name == "runtime.NumGoroutine") = false) (hx : (Extern.findNext fn).isNone = true) (he : Extern.find fn = some e)
    (hw : Wt cx ops fr g true) (hf : ev cx fr fop = some (.func (.func f) #[] #[])) (ha : evs cx fr args = some vs) (hrun : ∀ w, Sat Γ cx.hF w → (e vs.toArray).run P w = .ok v w)
    (h : GK cx K (upd d v fr) Γ) : GO P cx ops Q ⟨d, .call ⟨.value fop, args.toArray, ats⟩, ty, pos, af, g⟩ K fr Γ := by
  refine GO.yield hw (fun a w d pos af g s => ?_) h
  have h0 : args.toArray.map a.eval = vs.toArray := by rw [List.map_toArray, s.evals ha]
  have h1 : Extern.findNext fn = none := by simpa using hx
  have hr := hrun w s.heap
  have hn' : ¬ fn.name = "runtime.NumGoroutine" := by simpa using hn
  simp [execOp, resolve, s.eval hf, h0, Deferred.ofValue, invoke, callFunc, hfn, hn', hb, h1, he, hr, mark]

/-! ### roads -/
theorem GL.fork {d : Option Tmp} {op : Op} {pos : String} {af : Array Edge} {j t : Nat} {want b : Bool} (hj : (ops[j]?).bind (·.dst) = some t) (hv : ev cx fr (.tmp t) = some (.bool b))
    (h1 : b = true → GL P cx ops (⟨d, op, ty, pos, af, some (j, want)⟩ :: rest) Q ((t, .bool true) :: fr) Γ) (h2 : b = false → GL P cx ops (⟨d, op, ty, pos, af, some (j, want)⟩ :: rest) Q ((t, .bool false) :: fr) Γ) :
    GL P cx ops (⟨d, op, ty, pos, af, some (j, want)⟩ :: rest) Q fr Γ := GK.split t b hv h1 h2
theorem GL.forkPick {d : Option Tmp} {x y : Operand} {pos : String} {af : Array Edge} {t : Nat} {b : Bool} {g : Option (Nat × Bool)} (hv : ev cx fr (.tmp t) = some (.bool b))
    (h1 : b = true → GL P cx ops (⟨d, .pick (.tmp t) x y, ty, pos, af, g⟩ :: rest) Q ((t, .bool true) :: fr) Γ) (h2 : b = false → GL P cx ops (⟨d, .pick (.tmp t) x y, ty, pos, af, g⟩ :: rest) Q ((t, .bool false) :: fr) Γ) :
    GL P cx ops (⟨d, .pick (.tmp t) x y, ty, pos, af, g⟩ :: rest) Q fr Γ := GK.split t b hv h1 h2

theorem bnt {b : Bool} (h : b = false) : (!b) = true := by rw [h]; rfl
theorem bnf {b : Bool} (h : b = true) : (!b) = false := by rw [h]; rfl
theorem wt_t {j t : Nat} {want b : Bool} (hj : (ops[j]?).bind (·.dst) = some t) (hv : ev cx fr (.tmp t) = some (.bool b)) (hb : b = want) : Wt cx ops fr (some (j, want)) true := Wt.some hj hv (by rw [hb]; exact beq_self_eq_true _)
theorem wt_f {j t : Nat} {want b : Bool} (hj : (ops[j]?).bind (·.dst) = some t) (hv : ev cx fr (.tmp t) = some (.bool b)) (hb : b = !want) : Wt cx ops fr (some (j, want)) false := Wt.some hj hv (by rw [hb]; cases want <;> rfl)
/-- A condition that is a plain one. -/
theorem G.condP {c : Operand} {x y : Code} {p : Prop} [Decidable p] (hc : ev cx fr c = some (.bool (decide p))) (h1 : p → G P cx x Q fr Γ) (h2 : ¬ p → G P cx y Q fr Γ) : G P cx (.cond c x y) Q fr Γ :=
  G.cond hc (fun e => h1 (of_decide_eq_true e)) (fun e => h2 (of_decide_eq_false e))
theorem G.condN {c : Operand} {x y : Code} {p : Prop} [Decidable p] (hc : ev cx fr c = some (.bool (!decide p))) (h1 : ¬ p → G P cx x Q fr Γ) (h2 : p → G P cx y Q fr Γ) : G P cx (.cond c x y) Q fr Γ :=
  G.cond hc (fun e => h1 (by simpa using e)) (fun e => h2 (by simpa using e))
section
variable {d : Option Tmp} {op : Op} {pos : String} {af : Array Edge} {j t : Nat} {want : Bool}
theorem GL.forkP {p : Prop} [Decidable p] (hj : (ops[j]?).bind (·.dst) = some t) (hv : ev cx fr (.tmp t) = some (.bool (decide p)))
    (h1 : p → GL P cx ops (⟨d, op, ty, pos, af, some (j, want)⟩ :: rest) Q ((t, .bool true) :: fr) Γ) (h2 : ¬ p → GL P cx ops (⟨d, op, ty, pos, af, some (j, want)⟩ :: rest) Q ((t, .bool false) :: fr) Γ) :
    GL P cx ops (⟨d, op, ty, pos, af, some (j, want)⟩ :: rest) Q fr Γ := GK.split t _ hv (fun e => h1 (of_decide_eq_true e)) (fun e => h2 (of_decide_eq_false e))
theorem GL.forkN {p : Prop} [Decidable p] (hj : (ops[j]?).bind (·.dst) = some t) (hv : ev cx fr (.tmp t) = some (.bool (!decide p)))
    (h1 : ¬ p → GL P cx ops (⟨d, op, ty, pos, af, some (j, want)⟩ :: rest) Q ((t, .bool true) :: fr) Γ) (h2 : p → GL P cx ops (⟨d, op, ty, pos, af, some (j, want)⟩ :: rest) Q ((t, .bool false) :: fr) Γ) :
    GL P cx ops (⟨d, op, ty, pos, af, some (j, want)⟩ :: rest) Q fr Γ := GK.split t _ hv (fun e => h1 (by simpa using e)) (fun e => h2 (by simpa using e))
end
/-- As G.loop; the measure at the head is a number. -/
theorem G.loopN {X : Type} (m : X → Nat) (F : X → Fr) (M : X → List HProp) (I : X → Prop) {c : Code}
    (h : ∀ x, I x → ∀ n, n = m x → G P cx c (Exit.then (fun a w => ∃ y, I y ∧ m y < n ∧ St cx (F y) (M y) a w) Q) (F x) (M x)) (x : X) (hx : I x) : G P cx (.loop c) Q (F x) (M x) :=
  G.loop m F M I (fun x hx => h x hx _ rfl) x hx
theorem GQ.againN {X : Type} {m : X → Nat} {F : X → Fr} {M : X → List HProp} {I : X → Prop} {n : Nat} (y : X) (hI : I y) (hm : m y < n) (hf : Sub (F y) fr) (hg : ∀ w, Sat Γ cx.hF w → Sat (M y) cx.hF w) :
    GQ cx (Exit.then (fun a w => ∃ y, I y ∧ m y < n ∧ St cx (F y) (M y) a w) Q) .normal fr Γ := fun _ _ s => ⟨y, hI, hm, s.weak hf hg⟩
/-! ### a law over its memory as a pool -/
theorem sat_pool (W : World) : Sat [poolOf (mem W)] emp W :=
  ⟨[mem W], ⟨rfl, trivial⟩, Apart_iff.2 ⟨fun k _ => apart_emp _, by simp⟩, fun b o h => by simp [emp] at h, fun k hk => by simp at hk; subst hk; exact le.refl _⟩
/-- What a law leaves: true, and all that was there. -/
def LawR (W : World) : Value → List HProp → Prop := fun v Γ => v = .bool true ∧ ∃ H' Γ2, le (mem W) H' ∧ Γ = poolOf H' :: Γ2
theorem law_calls_pool {f : FuncId} {args : List Value} {W : World} (h : FnOk P f args [poolOf (mem W)] emp (LawR W)) :
    Calls P f args.toArray W (fun e W' => e = .returned (.bool true) ∧ Below W.heap.size W W') :=
  (h W (sat_pool W)).mono fun e W' ⟨v, Γ', he, ⟨hv, H', Γ2, hl, hΓ⟩, hs, hm⟩ => by
    subst hv hΓ
    have hle : le (mem W) (mem W') := hl.trans hs.pool_le
    exact ⟨he, below_of (Γ := []) ⟨[], trivial, trivial, hle, by simp⟩ hm⟩
end Go.Sl
