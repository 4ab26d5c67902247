/- The evaluator, part W: operations that leave the world as it is, by class. -/
import Derived.Test.YtppdclebbcmcaaaEvVa
set_option linter.unusedSimpArgs false
set_option linter.unusedVariables false
namespace Go.Ev
open Go.Sl
noncomputable section
variable {P : Program}
/-- Those that ask nothing of the world. -/
def opA (P : Program) (T : Tabs P) (fr : Tr AV) (op : Op) (k : AV → Bool) : Bool := match op with
  | .move x => argK T fr x k
  | .assign x => argK T fr x k
  | .pick c x y => pickK T fr c x y k
  | .build t parts => buildK P T fr t parts k
  | .nilCheck x => nilCheckK T fr x k
  | .sliceToArrayPointer t x => arrPtrK T fr t x k
  | .binOp op tx x y _ => binXK P T fr op tx x y k
  | .unOp op _ x => unK P T fr op x k
  | .makeInterface t x => mkIfcK T fr t x k
  | .makeFunc f xs ys => mkFnK T fr f xs ys k
  | .slice t x lo hi mx => sliceK P T fr t x lo hi mx k
  | .fieldAddr t x f => fieldAddrK T fr t x f k
  | .field t x f => fieldK T fr t x f k
  | .indexAddr t x y => indexAddrK T fr t x y k
  | .index t x y => indexK T fr t x y k
  | .typeAssert x _ t ok => assertK P T fr x t ok k
  | .extract x i => extractK T fr x i k
  | .call c => (match c with
    | ⟨.builtin .min, xs, _⟩ => minK P T fr xs k
    | ⟨.builtin .max, xs, _⟩ => maxK P T fr xs k
    | _ => false)
  | _ => false
/-- Those that look at it. -/
def opB (P : Program) (T : Tabs P) (fr : Tr AV) (M : Mem) (op : Op) (k : AV → Bool) : Bool := match op with
  | .load t x => loadK T fr M t x k
  | .lookup t x y ok => lookupK P T fr M t x y ok k
  | .entry it => entryK T fr M it k
  | .convert ts td x => convK P T fr M ts td x k
  | .call c => (match c with
    | ⟨.builtin .len, xs, ts⟩ => (match xs, ts with
      | ⟨[x]⟩, ⟨[t]⟩ => lenK T fr M t x k
      | _, _ => false)
    | _ => false)
  | _ => false
section
variable {T : Tabs P} {c : Cn} {ρ : Env} {fr : Tr AV} {ds : List AD} {M : Mem} {nx : Nat} {a : Act} {w : World}
theorem opA_spec {op : Op} {k : AV → Bool} (h : opA P T fr op k = true) (s : Rel T c ρ fr ds M nx a w) : Yes P ρ a (fun _ => True) op k := by
  cases op with
  | move x => exact moveK h s
  | assign x => exact assignK h s
  | pick => exact pickK_spec h s
  | build => exact buildK_spec h s
  | sliceToArrayPointer => exact arrPtrK_spec h s
  | nilCheck => exact nilCheckK_spec h s
  | binOp => exact binXK_spec h s
  | unOp => exact unK_spec h s
  | makeInterface => exact mkIfcK_spec h s
  | makeFunc => exact mkFnK_spec h s
  | slice => exact sliceK_spec h s
  | fieldAddr => exact fieldAddrK_spec h s
  | field => exact fieldK_spec h s
  | indexAddr => exact indexAddrK_spec h s
  | index => exact indexK_spec h s
  | typeAssert => exact assertK_spec h s
  | extract => exact extractK_spec h s
  | call cl =>
    obtain ⟨cal, xs, ts⟩ := cl
    cases cal with
    | builtin b => cases b <;> first | cases h | exact minK_spec h s | exact maxK_spec h s
    | value f => cases h
    | invoke r m => cases h
  | _ => cases h
theorem opB_spec {op : Op} {k : AV → Bool} (h : opB P T fr M op k = true) (s : Rel T c ρ fr ds M nx a w) : Yes P ρ a (· = w) op k := by
  cases op with
  | load => exact loadK_spec h s
  | lookup => exact lookupK_spec h s
  | entry => exact entryK_spec h s
  | convert => exact convK_spec h s
  | call cl =>
    obtain ⟨cal, xs, ts⟩ := cl
    cases cal with
    | builtin b =>
      cases b <;> try (cases h; done)
      obtain ⟨xs⟩ := xs
      obtain ⟨ts⟩ := ts
      match xs, ts, h with
      | [x], [t], h => exact lenK_spec h s
    | value f => cases h
    | invoke r m => cases h
  | _ => cases h
end

/-! ### what is held -/
/-- Held: its number, the frame and the deferred calls of its time, what it was. -/
inductive Hl where
  | mk (i : Nat) (fr : Tr AV) (ds : List AD) (op : Op) (v : AV)
structure HEnt where
  i : Nat
  a : Act
  o : Oper
  r : Value
def HEnt.R (P : Program) (h : HEnt) (w : World) : Prop := (execOp h.a.eval h.o).run P w = .ok (.value h.r) w
def Sof (P : Program) (ops : List Oper) (HL : List HEnt) (j : Nat) (w w' : World) : Prop := ∀ h ∈ HL, anc ops.toArray ops.toArray.size j h.i = false → h.R P w → h.R P w'
def HlOk (c : Cn) (ρ : Env) : Hl → HEnt → Prop
  | .mk i fr ds op v, h => h.i = i ∧ h.o.op = op ∧ h.a.tmps.size = c.N ∧ Fk ρ fr h.a.tmps ∧ renD ρ ds = some h.a.defers ∧ ren ρ v = some h.r
theorem HlOk.ext {c : Cn} {ρ ρ' : Env} (x : Ext ρ ρ') : ∀ {e : Hl} {h : HEnt}, HlOk c ρ e h → HlOk c ρ' e h
  | .mk i fr ds op v, h, ⟨h1, h2, h3, h4, h5, h6⟩ => ⟨h1, h2, h3, h4.ext x, renD_ext x h5, ren_ext x h6⟩
theorem HlOk.more {c : Cn} {ρ ρ' : Env} (x : Le ρ ρ') : ∀ {e : Hl} {h : HEnt}, HlOk c ρ e h → HlOk c ρ' e h
  | .mk i fr ds op v, h, ⟨h1, h2, h3, h4, h5, h6⟩ => ⟨h1, h2, h3, h4.more x, renD_le x h5, ren_le x h6⟩
theorem all2_more {c : Cn} {ρ ρ' : Env} (x : Le ρ ρ') : ∀ {hl : List Hl} {HL : List HEnt}, All2 (HlOk c ρ) hl HL → All2 (HlOk c ρ') hl HL
  | [], [], _ => trivial
  | e :: hl, h :: HL, p => ⟨p.1.more x, all2_more x p.2⟩
  | [], _ :: _, p => p.elim
  | _ :: _, [], p => p.elim
theorem all2_ext {c : Cn} {ρ ρ' : Env} (x : Ext ρ ρ') : ∀ {hl : List Hl} {HL : List HEnt}, All2 (HlOk c ρ) hl HL → All2 (HlOk c ρ') hl HL
  | [], [], _ => trivial
  | e :: hl, h :: HL, p => ⟨p.1.ext x, all2_ext x p.2⟩
  | [], _ :: _, p => p.elim
  | _ :: _, [], p => p.elim
def againK (P : Program) (T : Tabs P) (chk : List Nat) (hl : List Hl) (M : Mem) (k : Bool) : Bool := List.rec k (fun e _ ih => Hl.rec (fun i fr _ op v => Bool.rec ih (opB P T fr M op fun v' => both (eqA v' v) ih) (hasN chk i)) e) hl
theorem againK_spec {T : Tabs P} {chk : List Nat} {M : Mem} {k : Bool} {c : Cn} {ρ : Env} {w : World} (hr : Rep ρ M c.hF w) (hm : Same c.w0 w) (hg : ∀ g i, T.gl g = some i → ρ[i]? = some (g, 0, 0)) :
    ∀ {hl : List Hl} {HL : List HEnt}, againK P T chk hl M k = true → All2 (HlOk c ρ) hl HL → k = true ∧ ∀ h ∈ HL, hasN chk h.i = true → h.R P w
  | [], [], h, _ => ⟨h, by simp⟩
  | [], _ :: _, _, p => p.elim
  | _ :: _, [], _, p => p.elim
  | .mk i fr ds op v :: hl, h :: HL, g, p => by
    obtain ⟨⟨rfl, h2, h3, h4, h5, h6⟩, p⟩ := p
    have g : (Bool.rec (againK P T chk hl M k) (opB P T fr M op fun v' => both (eqA v' v) (againK P T chk hl M k)) (hasN chk h.i) : Bool) = true := g
    cases q : hasN chk h.i with
    | false =>
      rw [q] at g
      obtain ⟨g1, g2⟩ := againK_spec hr hm hg g p
      refine ⟨g1, fun h' hh hq => ?_⟩
      rcases List.mem_cons.1 hh with rfl | hh
      · rw [q] at hq; cases hq
      · exact g2 h' hh hq
    | true =>
      rw [q] at g
      obtain ⟨v', r', q1, q2, q3⟩ := opB_spec (c := c) (ρ := ρ) (ds := ds) (nx := ρ.length) (a := h.a) (w := w) (k := fun v' => both (eqA v' v) (againK P T chk hl M k)) g ⟨h3, h4, h5, hr, rfl, hm, hg⟩
      obtain ⟨q4, q5⟩ := both_eq.1 (show both (eqA v' v) (againK P T chk hl M k) = true from q2)
      obtain rfl := eqA_spec q4
      rw [h6] at q1; cases q1
      obtain ⟨g1, g2⟩ := againK_spec hr hm hg q5 p
      refine ⟨g1, fun h' hh hq => ?_⟩
      rcases List.mem_cons.1 hh with rfl | hh
      · obtain ⟨hi, ha, ho, hv⟩ := h'
        obtain ⟨d, op', ty, pos, af, gd⟩ := ho
        obtain rfl := h2
        exact yrun (q3 w rfl ty) d pos af gd
      · exact g2 h' hh hq
end
end Go.Ev
