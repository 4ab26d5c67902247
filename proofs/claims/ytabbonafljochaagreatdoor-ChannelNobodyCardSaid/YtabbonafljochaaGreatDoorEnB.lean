/- The engine, part B: frames, code (an activation's, or a round's of a range over a function), the ends. -/
import Derived.Test.YtabbonafljochaaGreatDoorEnA
import Derived.TacticsIn
import Derived.RangeFuncRecord
namespace Go.Sl

structure Same (w0 w : World) : Prop where
  os : w.os = w0.os
  tape : w.tape = w0.tape
  output : w.output = w0.output
  size : w0.heap.size ≤ w.heap.size
theorem Same.refl (w : World) : Same w w := ⟨rfl, rfl, rfl, Nat.le_refl _⟩
theorem Same.trans {a b c : World} (h : Same a b) (k : Same b c) : Same a c := ⟨k.os.trans h.os, k.tape.trans h.tape, k.output.trans h.output, Nat.le_trans h.size k.size⟩

abbrev Fr := List (Nat × Value)
def get : Fr → Nat → Option Value
  | [], _ => none
  | (k, v) :: r, n => bif Nat.beq k n then some v else get r n
def upd : Option Tmp → Value → Fr → Fr
  | some d, v, fr => (d, v) :: fr
  | none, _, fr => fr

/-- No fence, whatever round the code is of. -/
def FW (ro : Option Nat) : Fence := { Fence.wide with round := ro }
/-- What stays the same through a function's body: slots, deferred calls, the frame, the first world, the round. -/
structure Cx where
  N : Nat
  ds : List Deferred
  hF : Hp
  w0 : World
  ro : Option Nat

def ev (cx : Cx) (fr : Fr) : Operand → Option Value
  | .tmp t => bif Nat.blt t cx.N then get fr t else none
  | .const v => some v
  | .global g => some (.pointer (some ⟨g, 0, none⟩))
  | .func f => some (.func (.func f) #[] #[])

def Slots (N : Nat) (fr : Fr) (a : Act) : Prop := ∀ t v, get fr t = some v → t < N → a.tmps[t]? = some v

structure St (cx : Cx) (fr : Fr) (Γ : List HProp) (a : Act) (w : World) : Prop where
  size : a.tmps.size = cx.N
  defers : a.defers = cx.ds
  slots : Slots cx.N fr a
  heap : Sat Γ cx.hF w
  same : Same cx.w0 w

variable {P : Program} {cx : Cx} {fr fr' : Fr} {Γ Γ' : List HProp} {Q : Exit → Act → World → Prop}

theorem St.eval {a : Act} {w : World} (h : St cx fr Γ a w) {x : Operand} {v : Value} (e : Sl.ev cx fr x = some v) : a.eval x = v := by
  cases x with
  | tmp t =>
    simp only [Sl.ev, cond_eq_ite] at e
    split at e
    · rename_i hlt
      have hlt : t < cx.N := by simpa [Nat.blt_eq] using hlt
      simp [Act.eval, h.slots t v e hlt]
    · cases e
  | const u => simp only [Sl.ev, Option.some.injEq] at e; exact e
  | global g => simp only [Sl.ev, Option.some.injEq] at e; exact e
  | func f => simp only [Sl.ev, Option.some.injEq] at e; exact e

theorem St.put {a : Act} {w w' : World} (h : St cx fr Γ a w) (d : Option Tmp) (v : Value) (hs : Sat Γ' cx.hF w') (hw : Same w w') : St cx (upd d v fr) Γ' (a.put d v) w' := by
  refine ⟨?_, ?_, ?_, hs, h.same.trans hw⟩
  · cases d <;> simp [Act.put, h.size]
  · cases d <;> simp [Act.put, h.defers]
  · cases d with
    | none => exact h.slots
    | some d =>
      intro t u e hlt
      simp only [upd, get, cond_eq_ite] at e
      simp only [Act.put]
      split at e
      · rename_i he
        have he : d = t := by simpa using he
        subst he
        cases e
        simp [h.size, hlt]
      · rename_i he
        have he : d ≠ t := by simpa using he
        rw [Array.getElem?_setIfInBounds_ne he]
        exact h.slots t u e hlt

/-- The one judgement: in every such state K holds. -/
def GK (cx : Cx) (K : Act → World → Prop) (fr : Fr) (Γ : List HProp) : Prop := ∀ a w, St cx fr Γ a w → K a w
abbrev G (P : Program) (cx : Cx) (c : Code) (Q : Exit → Act → World → Prop) (fr : Fr) (Γ : List HProp) : Prop := GK cx (c.wpIn (FW cx.ro) 0 P Q) fr Γ
abbrev GL (P : Program) (cx : Cx) (ops : Array Oper) (l : List Oper) (Q : Exit → Act → World → Prop) (fr : Fr) (Γ : List HProp) : Prop := GK cx (wpListIn (FW cx.ro) 0 P ops Q l) fr Γ
abbrev GQ (cx : Cx) (Q : Exit → Act → World → Prop) (e : Exit) (fr : Fr) (Γ : List HProp) : Prop := GK cx (Q e) fr Γ

theorem G.skip (h : GQ cx Q .normal fr Γ) : G P cx .skip Q fr Γ := fun a w s => wpIn_skip (h a w s)
theorem G.ret (h : GQ cx Q .ret fr Γ) : G P cx .ret Q fr Γ := fun a w s => wpIn_ret (h a w s)
theorem G.exit {id : Nat} (h : GQ cx Q (.exit id) fr Γ) : G P cx (.exit id) Q fr Γ := fun a w s => wpIn_exit (h a w s)
theorem G.goto {id : Nat} (h : GQ cx Q (.goto id) fr Γ) : G P cx (.goto id) Q fr Γ := fun a w s => wpIn_goto (h a w s)
theorem G.label {id : Nat} (h : GQ cx Q .normal fr Γ) : G P cx (.label id) Q fr Γ := fun a w s => wpIn_label (h a w s)
theorem G.seq {x y : Code} (h : G P cx x (Exit.then (y.wpIn (FW cx.ro) 0 P Q) Q) fr Γ) : G P cx (.seq x y) Q fr Γ := fun a w s => wpIn_seq (h a w s)
theorem G.block {id : Nat} {c : Code} (h : G P cx c (Exit.inBlock id Q) fr Γ) : G P cx (.block id c) Q fr Γ := fun a w s => wpIn_block (h a w s)
theorem G.region {id : Nat} {l : List Oper} (h : GL P cx l.toArray l Q fr Γ) : G P cx (.region id l.toArray false) Q fr Γ := fun a w s => wpIn_region_lit (h a w s)
theorem G.cond {c : Operand} {x y : Code} {b : Bool} (hc : ev cx fr c = some (.bool b)) (h1 : b = true → G P cx x Q fr Γ) (h2 : b = false → G P cx y Q fr Γ) : G P cx (.cond c x y) Q fr Γ :=
  fun a w s => wpIn_cond_split (t := b) (by rw [s.eval hc]) (fun e => h1 e a w s) (fun e => h2 e a w s)
theorem G.cond_true {c : Operand} {x y : Code} (hc : ev cx fr c = some (.bool true)) (h1 : G P cx x Q fr Γ) : G P cx (.cond c x y) Q fr Γ :=
  G.cond hc (fun _ => h1) (fun e => by cases e)
theorem G.cond_false {c : Operand} {x y : Code} (hc : ev cx fr c = some (.bool false)) (h2 : G P cx y Q fr Γ) : G P cx (.cond c x y) Q fr Γ :=
  G.cond hc (fun e => by cases e) (fun _ => h2)

theorem GQ.next {y : Code} (h : G P cx y Q fr Γ) : GQ cx (Exit.then (y.wpIn (FW cx.ro) 0 P Q) Q) .normal fr Γ := fun a w s => h a w s
theorem GQ.then_ret {K : Act → World → Prop} (h : GQ cx Q .ret fr Γ) : GQ cx (Exit.then K Q) .ret fr Γ := fun a w s => h a w s
theorem GQ.then_exit {K : Act → World → Prop} {id : Nat} (h : GQ cx Q (.exit id) fr Γ) : GQ cx (Exit.then K Q) (.exit id) fr Γ := fun a w s => h a w s
theorem GQ.then_goto {K : Act → World → Prop} {id : Nat} (h : GQ cx Q (.goto id) fr Γ) : GQ cx (Exit.then K Q) (.goto id) fr Γ := fun a w s => h a w s
theorem GQ.block_normal {id : Nat} (h : GQ cx Q .normal fr Γ) : GQ cx (Exit.inBlock id Q) .normal fr Γ := fun a w s => h a w s
theorem GQ.block_ret {id : Nat} (h : GQ cx Q .ret fr Γ) : GQ cx (Exit.inBlock id Q) .ret fr Γ := fun a w s => h a w s
theorem GQ.block_exit {id : Nat} (h : GQ cx Q .normal fr Γ) : GQ cx (Exit.inBlock id Q) (.exit id) fr Γ := fun a w s => by simpa [Exit.inBlock] using h a w s
theorem GQ.block_other {id id' : Nat} (hne : Nat.beq id' id = false) (h : GQ cx Q (.exit id') fr Γ) : GQ cx (Exit.inBlock id Q) (.exit id') fr Γ := fun a w s => by
  have : id' ≠ id := by intro e; subst e; simp at hne
  simpa [Exit.inBlock, this] using h a w s
theorem GL.nil {ops : Array Oper} (h : GQ cx Q .normal fr Γ) : GL P cx ops [] Q fr Γ := fun a w s => wpListIn_nil (h a w s)

/-! ### Weakening -/
def Sub : Fr → Fr → Prop
  | [], _ => True
  | (t, v) :: r, fr => get fr t = some v ∧ Sub r fr
theorem Sub.get : ∀ {r fr : Fr}, Sub r fr → ∀ t v, get r t = some v → get fr t = some v
  | [], _, _, t, v, e => by simp [Sl.get] at e
  | (k, u) :: r, fr, h, t, v, e => by
    simp only [Sl.get, cond_eq_ite] at e
    split at e
    · rename_i he; have he : k = t := by simpa using he
      subst he; cases e; exact h.1
    · exact h.2.get t v e
theorem St.weak {a : Act} {w : World} (hf : Sub fr' fr) (hg : ∀ w, Sat Γ cx.hF w → Sat Γ' cx.hF w) (h : St cx fr Γ a w) : St cx fr' Γ' a w :=
  ⟨h.size, h.defers, fun t v e => h.slots t v (hf.get t v e), hg w h.heap, h.same⟩
theorem GK.weak {K : Act → World → Prop} (hf : Sub fr' fr) (hg : ∀ w, Sat Γ cx.hF w → Sat Γ' cx.hF w) (h : GK cx K fr' Γ') : GK cx K fr Γ := fun a w s => h a w (s.weak hf hg)
/-- Only the memory is turned. -/
theorem GK.heap {K : Act → World → Prop} (hg : ∀ w, Sat Γ cx.hF w → Sat Γ' cx.hF w) (h : GK cx K fr Γ') : GK cx K fr Γ := fun a w s => h a w ⟨s.size, s.defers, s.slots, hg w s.heap, s.same⟩
theorem GK.perm {K : Act → World → Prop} (p : Γ.Perm Γ') (h : GK cx K fr Γ') : GK cx K fr Γ := GK.heap (fun _ s => s.perm p) h
/-- A chunk is opened. -/
theorem GK.opens {K : Act → World → Prop} {X : Type} {φ : X → Prop} {Λ : X → List HProp} (i : Nat) (hi : Γ[i]? = some (exs φ Λ)) (h : ∀ x, φ x → GK cx K fr (Λ x ++ Γ.eraseIdx i)) : GK cx K fr Γ := fun a w s => by
  obtain ⟨x, hx, hs⟩ := (s.heap.perm (perm_eraseIdx hi)).opens
  exact h x hx a w ⟨s.size, s.defers, s.slots, hs, s.same⟩
/-- Whatever holds of memory in such a state. -/
theorem GK.fact {K : Act → World → Prop} {p : Prop} (hp : ∀ w, Sat Γ cx.hF w → p) (h : p → GK cx K fr Γ) : GK cx K fr Γ := fun a w s => h (hp w s.heap) a w s

/-! ### A loop -/
/-- A loop's head: states x, each with a frame and memory; 'm' goes down. -/
theorem G.loop {X : Type} (m : X → Nat) (F : X → Fr) (M : X → List HProp) (I : X → Prop) {c : Code}
    (h : ∀ x, I x → G P cx c (Exit.then (fun a w => ∃ y, I y ∧ m y < m x ∧ St cx (F y) (M y) a w) Q) (F x) (M x)) (x : X) (hx : I x) : G P cx (.loop c) Q (F x) (M x) := fun a w s => by
  intro b k cs hro hb hr
  have key : ∀ n x a w, m x = n → I x → St cx (F x) (M x) a w →
      ∃ e a' w', Q e a' w' ∧ ArrivesIn (Machine.fenced P (FW cx.ro)) P (lone (b.atR a (.code c :: .inLoop c :: k)) cs w) b k cs e a' w' := by
    intro n
    induction n using Nat.strongRecOn with
    | _ n ih =>
      intro x a w hn hI hs
      obtain ⟨e, a₁, w₁, hq, harr⟩ := h x hI a w hs b (.inLoop c :: k) cs hro hb hr
      cases e with
      | normal =>
        obtain ⟨y, hI₁, hlt, hs₁⟩ := hq
        obtain ⟨e₂, a₂, w₂, hq₂, harr₂⟩ := ih (m y) (hn ▸ hlt) y a₁ w₁ rfl hI₁ hs₁
        exact ⟨e₂, a₂, w₂, hq₂, .of_steps (StepsIn.trans harr (.one (fenced_calm hb hr rfl) stepR_inLoop)) harr₂⟩
      | exit id => exact ⟨_, a₁, w₁, hq, .pass (x := .inLoop c) rfl (fun _ _ => .inl (by simp)) harr⟩
      | goto l => exact ⟨_, a₁, w₁, hq, .pass (x := .inLoop c) rfl (fun _ _ => .inl (by simp)) harr⟩
      | ret => exact ⟨_, a₁, w₁, hq, .pass (x := .inLoop c) rfl (fun _ _ => .inl (by simp)) harr⟩
      | panic ch => exact ⟨_, a₁, w₁, hq, .pass (x := .inLoop c) rfl (fun _ _ => .inl (by simp)) harr⟩
      | outgrown => exact ⟨_, a₁, w₁, hq, .pass (x := .inLoop c) rfl (fun _ _ => .inl (by simp)) harr⟩
  obtain ⟨e, a', w', hq, harr⟩ := key _ x a w rfl hx s
  exact ⟨e, a', w', hq, .of_steps (.one (fenced_calm hb hr rfl) stepR_loop) harr⟩
theorem GQ.again {X : Type} {m : X → Nat} {F : X → Fr} {M : X → List HProp} {I : X → Prop} {x : X} (y : X) (hI : I y) (hm : m y < m x) (hf : Sub (F y) fr) (hg : ∀ w, Sat Γ cx.hF w → Sat (M y) cx.hF w) :
    GQ cx (Exit.then (fun a w => ∃ y, I y ∧ m y < m x ∧ St cx (F y) (M y) a w) Q) .normal fr Γ := fun _ _ s => ⟨y, hI, hm, s.weak hf hg⟩

/-! ### A function -/
/-- What a call leaves: a value and chunks; the frame is as it was. -/
def Ret (hF : Hp) (w0 : World) (R : Value → List HProp → Prop) : Ending → World → Prop := fun e w' => ∃ v Γ', e = .returned v ∧ R v Γ' ∧ Sat Γ' hF w' ∧ Same w0 w'
def FnOk (P : Program) (f : FuncId) (args : List Value) (Γ : List HProp) (hF : Hp) (R : Value → List HProp → Prop) : Prop := ∀ w, Sat Γ hF w → Calls P f args.toArray w (Ret hF w R)

def argFr : Nat → List Value → Fr
  | _, [] => []
  | k, v :: r => (k, v) :: argFr (k + 1) r
theorem get_argFr : ∀ {l : List Value} {k t : Nat} {v : Value}, get (argFr k l) t = some v → k ≤ t ∧ l[t - k]? = some v
  | [], _, _, _, e => by simp [argFr, Sl.get] at e
  | u :: r, k, t, v, e => by
    simp only [argFr, Sl.get, cond_eq_ite] at e
    split at e
    · rename_i he; have he : k = t := by simpa using he
      subst he; cases e; simp
    · obtain ⟨h1, h2⟩ := get_argFr e
      refine ⟨by omega, ?_⟩
      rw [show t - k = (t - (k + 1)) + 1 by omega]; simpa using h2

theorem FnOk.intro {f : FuncId} {fn : Func} {c : Code} {args : List Value} {hF : Hp} {R : Value → List HProp → Prop} (N : Nat) (hf : P.funcs[f]? = some fn) (hb : fn.body = some c) (hN : args.length + (fn.ntmps - args.length) = N)
    (h : ∀ w0, G P ⟨N, [], hF, w0, none⟩ c (bodyPost P fn (Ret hF w0 R)) (argFr 0 args) Γ) : FnOk P f args Γ hF R := fun w hs => by
  refine callsIn_wide.1 (callsIn_of_wp (n := 0) hf hb trivial (h w _ _ ⟨by simpa using hN, rfl, ?_, hs, .refl w⟩))
  intro t v e _
  obtain ⟨_, h2⟩ := get_argFr e
  simp only [Nat.sub_zero] at h2
  have : t < args.length := (List.getElem?_eq_some_iff.1 h2).1
  rw [Array.getElem?_append_left (by simpa using this)]
  simpa using h2

section ends
variable {fn : Func} {R : Value → List HProp → Prop} {hF : Hp} {w0 : World} {N : Nat}
theorem end_of (v : Value) (hres : ∀ a w, St ⟨N, [], hF, w0, none⟩ fr Γ a w → (results fn a.tmps).run P w = .ok v w) (hR : R v Γ) :
    GQ ⟨N, [], hF, w0, none⟩ (bodyPost P fn (Ret hF w0 R)) .ret fr Γ := fun a w s => ⟨s.defers, v, hres a w s, v, Γ, rfl, hR, s.heap, s.same⟩
theorem end_of' (v : Value) (hres : ∀ a w, St ⟨N, [], hF, w0, none⟩ fr Γ a w → (results fn a.tmps).run P w = .ok v w) (hR : R v Γ) :
    GQ ⟨N, [], hF, w0, none⟩ (bodyPost P fn (Ret hF w0 R)) .normal fr Γ := fun a w s => ⟨s.defers, v, hres a w s, v, Γ, rfl, hR, s.heap, s.same⟩
theorem GQ.end0 (h : fn.results = #[]) (hR : R (.tuple #[]) Γ) : GQ ⟨N, [], hF, w0, none⟩ (bodyPost P fn (Ret hF w0 R)) .ret fr Γ := end_of _ (fun a w _ => results_none h a.tmps P w) hR
theorem GQ.end0' (h : fn.results = #[]) (hR : R (.tuple #[]) Γ) : GQ ⟨N, [], hF, w0, none⟩ (bodyPost P fn (Ret hF w0 R)) .normal fr Γ := end_of' _ (fun a w _ => results_none h a.tmps P w) hR
theorem St.tmp {a : Act} {w : World} (s : St cx fr Γ a w) {t : Nat} {v : Value} (e : Sl.ev cx fr (.tmp t) = some v) : a.tmps.getD t undef = v := s.eval e
theorem GQ.end1 {t : Nat} {v : Value} (h : fn.results = #[.tmp t]) (hv : ev ⟨N, [], hF, w0, none⟩ fr (.tmp t) = some v) (hR : R v Γ) : GQ ⟨N, [], hF, w0, none⟩ (bodyPost P fn (Ret hF w0 R)) .ret fr Γ :=
  end_of v (fun a w s => by rw [results_tmp h, s.tmp hv]) hR
theorem GQ.end2 {t u : Nat} {v x : Value} (h : fn.results = #[.tmp t, .tmp u]) (hv : ev ⟨N, [], hF, w0, none⟩ fr (.tmp t) = some v) (hx : ev ⟨N, [], hF, w0, none⟩ fr (.tmp u) = some x) (hR : R (.tuple #[v, x]) Γ) :
    GQ ⟨N, [], hF, w0, none⟩ (bodyPost P fn (Ret hF w0 R)) .ret fr Γ :=
  end_of _ (fun a w s => by rw [results_tmp2 h, s.tmp hv, s.tmp hx]) hR
theorem GQ.end3 {t u q : Nat} {v x y : Value} (h : fn.results = #[.tmp t, .tmp u, .tmp q]) (hv : ev ⟨N, [], hF, w0, none⟩ fr (.tmp t) = some v) (hx : ev ⟨N, [], hF, w0, none⟩ fr (.tmp u) = some x) (hy : ev ⟨N, [], hF, w0, none⟩ fr (.tmp q) = some y) (hR : R (.tuple #[v, x, y]) Γ) :
    GQ ⟨N, [], hF, w0, none⟩ (bodyPost P fn (Ret hF w0 R)) .ret fr Γ :=
  end_of _ (fun a w s => by
    have h1 := s.tmp hv
    have h2 := s.tmp hx
    have h3 := s.tmp hy
    simp [results, h] at *; simp [h1, h2, h3]) hR
end ends
end Go.Sl
