/- The engine, part V: roads that meet behind a block. -/
import Derived.Test.YtnealcbmgflaaaaEnO
set_option linter.unusedSimpArgs false
set_option linter.unusedVariables false
namespace Go.Sl
variable {P : Program} {cx : Cx} {fr : Fr} {Γ : List HProp} {Q : Exit → Act → World → Prop}
theorem inBlock_mono {id : Nat} {Q Q' : Exit → Act → World → Prop} (h : ∀ e a w, Q e a w → Q' e a w) (e : Exit) (a : Act) (w : World) (hh : Exit.inBlock id Q e a w) : Exit.inBlock id Q' e a w := by
  cases e with
  | exit id' =>
    by_cases q : id' = id
    · subst q; simp only [Exit.inBlock, if_true] at hh ⊢; exact h _ _ _ hh
    · simp only [Exit.inBlock, if_neg q] at hh ⊢; exact h _ _ _ hh
  | _ => exact h _ _ _ hh
/-- As G.cut, from within a block. -/
theorem G.cutB {X : Type} {id : Nat} (F : X → Fr) (M : X → List HProp) (I : X → Prop) {c : Code} {K : Act → World → Prop} (h2 : ∀ y, I y → GK cx K (F y) (M y))
    (h1 : G P cx c (Exit.inBlock id (Exit.then (fun a w => ∃ y, I y ∧ St cx (F y) (M y) a w) Q)) fr Γ) : G P cx c (Exit.inBlock id (Exit.then K Q)) fr Γ := fun a w s =>
  wpIn_mono (h1 a w s) fun e a w h => inBlock_mono (fun e a w h => by
    cases e with
    | normal => obtain ⟨y, hy, st⟩ := h; exact h2 y hy a w st
    | _ => exact h) e a w h
/-- As G.cutD, from within a block. -/
theorem G.cutDB {X : Type} {id : Nat} (C : X → List Deferred) (F : X → Fr) (M : X → List HProp) (I : X → Prop) {c : Code} {K : Act → World → Prop} (h2 : ∀ y, I y → GK { cx with ds := C y } K (F y) (M y))
    (h1 : G P cx c (Exit.inBlock id (Exit.then (fun a w => ∃ y, I y ∧ St { cx with ds := C y } (F y) (M y) a w) Q)) fr Γ) : G P cx c (Exit.inBlock id (Exit.then K Q)) fr Γ := fun a w s =>
  wpIn_mono (h1 a w s) fun e a w h => inBlock_mono (fun e a w h => by
    cases e with
    | normal => obtain ⟨y, hy, st⟩ := h; exact h2 y hy a w st
    | _ => exact h) e a w h
section
variable {ops : Array Oper} {fs : List Nat} {Δ Γ' : List HProp} {n : Nat} {done : Array Bool}
theorem GH.heap (hg : ∀ w, Sat Γ cx.hF w → Sat Γ' cx.hF w) (h : GH P cx ops Q fs Δ n done fr Γ') : GH P cx ops Q fs Δ n done fr Γ := fun hcl => GK.heap hg (h hcl)
end
end Go.Sl
