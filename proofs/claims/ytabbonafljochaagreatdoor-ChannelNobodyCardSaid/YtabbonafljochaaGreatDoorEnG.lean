/- The engine, part G: a range over a function: a round, the statement, an iterator's word, the way out with marks. -/
import Derived.Test.YtabbonafljochaaGreatDoorEnJ
namespace Go.Sl
variable {P : Program} {cx : Cx} {fr : Fr} {Γ : List HProp} {Q : Exit → Act → World → Prop}

def yv (l : Nat) : Value := .func (.yield l) #[] #[]
def lp (l : Nat) (r : Loop) : HProp := pt l (.loop r)
def updsP : List Tmp → List Value → Fr → Fr
  | p :: ps, v :: vs, fr => updsP ps vs ((p, v) :: fr)
  | _, _, fr => fr
theorem putSlots {N : Nat} : ∀ (ps : List Tmp) (vs : List Value) (fr : Fr) (T : Array Value), T.size = N → Slots N fr ⟨T, []⟩ →
    ((ps.zip vs).foldl (fun (t : Array Value) (x : Tmp × Value) => t.setIfInBounds x.1 x.2) T).size = N ∧ Slots N (updsP ps vs fr) ⟨(ps.zip vs).foldl (fun (t : Array Value) (x : Tmp × Value) => t.setIfInBounds x.1 x.2) T, []⟩
  | [], _, _, _, hN, hs => ⟨by simpa using hN, by simpa [updsP] using hs⟩
  | _ :: _, [], _, _, hN, hs => ⟨by simpa using hN, by simpa [updsP] using hs⟩
  | p :: ps, v :: vs, fr, T, hN, hs => by
    simp only [List.zip_cons_cons, List.foldl_cons, updsP]
    refine putSlots ps vs ((p, v) :: fr) (T.setIfInBounds p v) (by simpa using hN) fun t u e hlt => ?_
    simp only [get, cond_eq_ite] at e
    split at e
    · rename_i he; have he : p = t := by simpa using he
      subst he; cases e; simp [hN, hlt]
    · rename_i he; have he : p ≠ t := by simpa using he
      show (T.setIfInBounds p v)[t]? = some u
      rw [Array.getElem?_setIfInBounds_ne he]; exact hs t u e hlt

/-- How a round's body may be left: on (C), or by a jump out of the loop (L). -/
def roundQ (cx : Cx) (C : List HProp → Prop) (L : Code → List HProp → Prop) : Exit → Act → World → Prop
  | .normal, _, w => ∃ Γ', C Γ' ∧ Sat Γ' cx.hF w ∧ Same cx.w0 w
  | .ret, _, w => ∃ Γ', L .ret Γ' ∧ Sat Γ' cx.hF w ∧ Same cx.w0 w
  | .exit id, _, w => ∃ Γ', L (.exit id) Γ' ∧ Sat Γ' cx.hF w ∧ Same cx.w0 w
  | _, _, _ => False
/-- Behind the assignments to the loop's left sides: the body is walked, over any part of memory that holds hF. -/
def toBody (P : Program) (N l : Nat) (hF : Hp) (body : Code) (C : List HProp → Prop) (L : Code → List HProp → Prop) (cx1 : Cx) : Act → World → Prop := fun a w =>
  ∃ fr Γ, St cx1 fr Γ a w ∧ ∀ hF2 w0, le hF hF2 → G P ⟨N, [], hF2, w0, some l⟩ body (roundQ ⟨N, [], hF2, w0, some l⟩ C L) fr Γ
section
variable {C : List HProp → Prop} {L : Code → List HProp → Prop} {N l : Nat} {hF : Hp} {body : Code}
theorem GQ.round_on (h : C Γ) : GQ cx (roundQ cx C L) .normal fr Γ := fun _ _ s => ⟨Γ, h, s.heap, s.same⟩
theorem GQ.round_ret (h : L .ret Γ) : GQ cx (roundQ cx C L) .ret fr Γ := fun _ _ s => ⟨Γ, h, s.heap, s.same⟩
theorem GQ.round_exit {id : Nat} (h : L (.exit id) Γ) : GQ cx (roundQ cx C L) (.exit id) fr Γ := fun _ _ s => ⟨Γ, h, s.heap, s.same⟩
theorem GQ.to_body (h : ∀ hF2 w0, le hF hF2 → G P ⟨N, [], hF2, w0, some l⟩ body (roundQ ⟨N, [], hF2, w0, some l⟩ C L) fr Γ) : GQ cx (Exit.then (toBody P N l hF body C L cx) (fun _ _ _ => False)) .normal fr Γ := fun _ _ s => ⟨fr, Γ, s, h⟩
theorem Same.putObj (w : World) (l : Nat) (o : Obj) : Same w (w.putObj l o) := ⟨rfl, rfl, rfl, by simp⟩
theorem Sat.lp_put {hF : Hp} {w : World} {r r' : Loop} (h : Sat (lp l r :: Γ) hF w) : Sat (lp l r' :: Γ) hF (w.putObj l (.loop r')) :=
  h.write_head (World.putObj_heap_same (mem_lt h.pt_head)) (fun _ hk => World.putObj_heap_other hk)
theorem VOk.round {r : Loop} {ps : List Tmp} {vs : List Value} {assign : Code} (hr : r.params = ps.toArray) (hlen : vs.length = ps.length) (hN : r.tmps.size = N) (hs : Slots N fr ⟨r.tmps, []⟩) (ha : r.assign = assign) (hb : r.body = body) (hst : r.state = .ready)
    (h : ∀ hF1 w0, le hF hF1 → G P ⟨N, [], hF1, w0, some l⟩ assign (Exit.then (toBody P N l hF body C L ⟨N, [], hF1, w0, some l⟩) (fun _ _ _ => False)) (updsP ps vs fr) Γ) :
    VOk P (yv l) vs (lp l r :: Γ) hF (fun v Γ' => (v = .bool true ∧ ∃ Γ2, C Γ2 ∧ Γ' = lp l { r with state := .ready, pending := none } :: Γ2) ∨ (v = .bool false ∧ ∃ c Γ2, L c Γ2 ∧ Γ' = lp l { r with state := .done, pending := some c } :: Γ2)) := fun w hS => by
  obtain ⟨k, _, _, hsat, hback⟩ := hS.freeze
  have hl : w.heap[l]? = some (.loop r) := hS.pt_head
  obtain ⟨q1, q2⟩ := putSlots ps vs fr r.tmps hN hs
  have hy := run_yield (P := P) (args := vs.toArray) hl (by simp [hr, hlen])
  have hz : (r.params.zip vs.toArray).foldl (fun (t : Array Value) (x : Tmp × Value) => t.setIfInBounds x.1 x.2) r.tmps = (ps.zip vs).foldl (fun (t : Array Value) (x : Tmp × Value) => t.setIfInBounds x.1 x.2) r.tmps := by
    rw [hr]; simp
  rw [hz] at hy
  refine ⟨{ target := .fn (.yield l) #[], args := #[] ++ vs.toArray }, _, rfl, by simpa [invoke] using hy, ?_⟩
  show RoundIn (FW none) 0 P l r.fn _ r.assign r.body w _
  subst ha hb
  refine roundIn_of_wpIn trivial ?_
  refine wpIn_mono (h (cup hF k) w (le_cup_left _ _) _ w ⟨q1, rfl, q2, hsat, .refl w⟩) ?_
  intro e a1 w1 q
  cases e with
  | normal =>
    obtain ⟨fr1, Γ1, st, hbody⟩ := q
    have s1 : Sat (lp l r :: Γ1) hF w1 := hback Γ1 w1 st.heap
    have s2 := s1.lp_put (r' := { r with state := .busy })
    refine ⟨_, run_beginRound s1.pt_head hst, ?_⟩
    obtain ⟨k2, _, _, hsat2, hback2⟩ := s2.freeze
    refine wpIn_mono (hbody (cup hF k2) _ (le_cup_left _ _) a1 _ ⟨st.size, st.defers, st.slots, hsat2, .refl _⟩) ?_
    have hsame : Same w (w1.putObj l (.loop { r with state := .busy })) := st.same.trans (.putObj _ _ _)
    intro e a3 w3 q
    cases e with
    | normal =>
      obtain ⟨Γ2, hC, hs3, hm⟩ := q
      have s3 : Sat (lp l { r with state := .busy } :: Γ2) hF w3 := hback2 Γ2 w3 hs3
      exact ⟨_, _, run_endRound none s3.pt_head, .bool true, _, rfl, .inl ⟨rfl, Γ2, hC, rfl⟩, s3.lp_put, (hsame.trans hm).trans (.putObj _ _ _)⟩
    | ret =>
      obtain ⟨Γ2, hL, hs3, hm⟩ := q
      have s3 : Sat (lp l { r with state := .busy } :: Γ2) hF w3 := hback2 Γ2 w3 hs3
      exact ⟨_, _, run_endRound (some .ret) s3.pt_head, .bool false, _, rfl, .inr ⟨rfl, .ret, Γ2, hL, rfl⟩, s3.lp_put, (hsame.trans hm).trans (.putObj _ _ _)⟩
    | exit id =>
      obtain ⟨Γ2, hL, hs3, hm⟩ := q
      have s3 : Sat (lp l { r with state := .busy } :: Γ2) hF w3 := hback2 Γ2 w3 hs3
      exact ⟨_, _, run_endRound (some (.exit id)) s3.pt_head, .bool false, _, rfl, .inr ⟨rfl, .exit id, Γ2, hL, rfl⟩, s3.lp_put, (hsame.trans hm).trans (.putObj _ _ _)⟩
    | _ => exact q.elim
  | _ => exact q.elim
end

def mark (D : Nat) : Deferred := { target := .collected D, args := #[] }
/-- Between two rounds. -/
def lrec (fn : FuncId) (T : Array Value) (ps : List Tmp) (assign body : Code) (D : Nat) (st : LoopState) (pd : Option Code) : Loop := ⟨st, pd, fn, T, ps.toArray, assign, body, D⟩
theorem G.rangeFunc {g : Operand} {f : FuncId} {first cap : Array Value} {ps : List Tmp} {assign body : Code} (A : Option Code → List HProp → Prop) (hro : cx.ro = none) (hg : ev cx fr g = some (.func (.func f) first cap)) (hc : callable P f = true)
    (hit : ∀ l D fn T hF', le cx.hF hF' → T.size = cx.N → Slots cx.N fr ⟨T, []⟩ → FnOk P f (first.toList ++ [yv l] ++ cap.toList) (lp l (lrec fn T ps assign body D .ready none) :: Γ) hF' (fun _ Γ' => ∃ st pd Γ2, st ≠ .busy ∧ A pd Γ2 ∧ Γ' = lp l (lrec fn T ps assign body D st pd) :: Γ2))
    (hnone : ∀ D Γ2, A none Γ2 → GQ { cx with ds := mark D :: cx.ds } Q .normal fr (pt D (.deferred (some [])) :: Γ2))
    (hsome : ∀ D c Γ2, A (some c) Γ2 → G P { cx with ds := mark D :: cx.ds } c Q fr (pt D (.deferred (some [])) :: Γ2)) : G P cx (.rangeFunc g ps.toArray assign body) Q fr Γ := fun a w s => by
  refine wpIn_rangeFunc fun fn _ => ?_
  obtain ⟨r, hrr⟩ : ∃ r, r = lrec fn a.tmps ps assign body w.heap.size .ready none := ⟨_, rfl⟩
  obtain ⟨w1, hw1⟩ : ∃ w1, w1 = (w.alloc (.deferred (some []))).alloc (.loop r) := ⟨_, rfl⟩
  have he := run_enterLoop_outer (P := P) (w := w) fn a.tmps ps.toArray assign body
  have s1 : Sat (lp (w.heap.size + 1) r :: pt w.heap.size (.deferred (some [])) :: Γ) cx.hF w1 := by
    have := (s.heap.alloc (.deferred (some []))).alloc (.loop r)
    rw [hw1]
    have e : (w.alloc (.deferred (some []))).heap.size = w.heap.size + 1 := by simp
    rw [e] at this
    exact this
  have hsame1 : Same w w1 := by rw [hw1]; exact (Same.alloc _ _).trans (Same.alloc _ _)
  have hp : (lp (w.heap.size + 1) r :: pt w.heap.size (.deferred (some [])) :: Γ).Perm ((lp (w.heap.size + 1) r :: Γ) ++ [pt w.heap.size (.deferred (some []))]) := by
    rw [List.cons_append]; exact (List.perm_append_comm (l₁ := [pt w.heap.size (.deferred (some []))])).cons _
  obtain ⟨hF', hle, _, hsat, hback⟩ := (s1.perm hp).call
  have hslots : Slots cx.N fr ⟨a.tmps, []⟩ := s.slots
  have hcall := hit (w.heap.size + 1) w.heap.size fn a.tmps hF' hle s.size hslots
  rw [← hrr] at hcall
  have hcf := run_callFunc (P := P) hc (first ++ #[yv (w.heap.size + 1)] ++ cap) w1
  have eargs : (first.toList ++ [yv (w.heap.size + 1)] ++ cap.toList).toArray = first ++ #[yv (w.heap.size + 1)] ++ cap := by
    apply Array.ext'; simp
  refine ⟨w.heap.size + 1, [mark w.heap.size], w1, { target := .fn (.func f) cap, args := first ++ #[yv (w.heap.size + 1)] }, w1, f, first ++ #[yv (w.heap.size + 1)] ++ cap, w1, ?_, ?_, (fun _ _ => trivial), ?_, (fun hd => by cases hd), ?_⟩
  · show (Instr.enterLoop fn a.tmps ps.toArray assign body cx.ro).run P w = _
    rw [hro, he, hw1, hrr]; rfl
  · simp only [resolve, s.eval hg, Deferred.ofValue, List.map_toArray, List.map_cons, List.map_nil]; rfl
  · exact hcf
  · rw [← eargs]
    refine (callsIn_wide (n := 0 - 1)).2 (Calls.mono (hcall w1 hsat) ?_)
    rintro e w3 ⟨v, Γ', rfl, ⟨st, pd, Γ2, hst, hA, rfl⟩, hs3, hm⟩
    have s3 := hback _ _ hs3
    rw [List.cons_append] at s3
    refine ⟨pd, _, run_endLoop s3.pt_head hst, ?_⟩
    have s4 := (s3.lp_put (r' := { lrec fn a.tmps ps assign body w.heap.size st pd with state := .exhausted })).drop
    have s5 := s4.perm List.perm_append_comm
    have hst5 : St { cx with ds := mark w.heap.size :: cx.ds } fr (pt w.heap.size (.deferred (some [])) :: Γ2) { a with defers := [mark w.heap.size] ++ a.defers } _ :=
      ⟨s.size, by show mark w.heap.size :: a.defers = mark w.heap.size :: cx.ds; rw [s.defers], s.slots, s5, s.same.trans (hsame1.trans (hm.trans (.putObj _ _ _)))⟩
    cases pd with
    | none => exact hnone _ _ hA _ _ hst5
    | some c => exact hsome _ _ _ hA _ _ hst5

/-! ### An iterator's word -/
section iter
variable {α : Type}
/-- A call of y with x, behind those of pre, does what a round does. -/
def YieldOk (P : Program) (y : Value) (enc : α → List Value) (J JB : List α → HProp) (hF : Hp) (all : List α) : Prop :=
  ∀ pre x hF', pre ++ [x] <+: all → le hF hF' → VOk P y (enc x) [J pre] hF' (fun v Γ => (v = .bool true ∧ Γ = [J (pre ++ [x])]) ∨ (v = .bool false ∧ Γ = [JB (pre ++ [x])]))
theorem YieldOk.mono {y : Value} {enc : α → List Value} {J JB : List α → HProp} {hF hF' : Hp} {all : List α} (h : YieldOk P y enc J JB hF all) (hl : le hF hF') : YieldOk P y enc J JB hF' all := fun pre x hF'' hp hle => h pre x hF'' hp (hl.trans hle)
/-- The function value f (with what it has captured) tells these, one behind the other, until a round says no. -/
def IterOk (P : Program) (f : FuncId) (first cap : Array Value) (enc : α → List Value) (all : List α) (Γc : List HProp) (Rc : List HProp → Prop) (hF : Hp) : Prop :=
  ∀ y J JB hF', le hF hF' → YieldOk P y enc J JB hF' all → FnOk P f (first.toList ++ [y] ++ cap.toList) (J [] :: Γc) hF' (fun _ Γ => ∃ Γc', Rc Γc' ∧ (Γ = J all :: Γc' ∨ ∃ pre, pre <+: all ∧ Γ = JB pre :: Γc'))
theorem G.forRange {g : Operand} {f : FuncId} {first cap : Array Value} {ps : List Tmp} {assign body : Code} {enc : α → List Value} {all : List α} {Γc : List HProp} {Rc : List HProp → Prop}
    (Inv : List α → List HProp) (L : Code → List α → List HProp → Prop) (hit : IterOk P f first cap enc all Γc Rc cx.hF)
    (hg : ev cx fr g = some (.func (.func f) first cap)) (hc : callable P f = true) (hlen : ∀ x, (enc x).length = ps.length) (hΓ : ∀ hF w, Sat Γ hF w → Sat (Inv [] ++ Γc) hF w)
    (hround : ∀ l pre x hF1 w0, pre ++ [x] <+: all → le cx.hF hF1 → G P ⟨cx.N, [], hF1, w0, some l⟩ assign (Exit.then (toBody P cx.N l cx.hF body (fun Γ2 => Γ2 = Inv (pre ++ [x])) (fun c Γ2 => L c (pre ++ [x]) Γ2) ⟨cx.N, [], hF1, w0, some l⟩) (fun _ _ _ => False)) (updsP ps (enc x) fr) (Inv pre))
    (hdone : ∀ D Γc', Rc Γc' → GQ { cx with ds := mark D :: cx.ds } Q .normal fr (pt D (.deferred (some [])) :: (Inv all ++ Γc')))
    (hleft : ∀ D Γc' c pre Γ2, Rc Γc' → pre <+: all → L c pre Γ2 → G P { cx with ds := mark D :: cx.ds } c Q fr (pt D (.deferred (some [])) :: (Γ2 ++ Γc')))
    (hro : cx.ro = none := by rfl) : G P cx (.rangeFunc g ps.toArray assign body) Q fr Γ := by
  refine G.rangeFunc (fun pd Γ2 => match pd with
    | none => ∃ Γc', Rc Γc' ∧ Γ2 = Inv all ++ Γc'
    | some c => ∃ Γc' pre Γ3, Rc Γc' ∧ pre <+: all ∧ L c pre Γ3 ∧ Γ2 = Γ3 ++ Γc') hro hg hc ?_ ?_ ?_
  · intro l D fn T hF' hle hT hS
    obtain ⟨rr, hrr⟩ : ∃ rr : LoopState → Option Code → Loop, rr = lrec fn T ps assign body D := ⟨_, rfl⟩
    have hy : YieldOk P (yv l) enc (fun pre => star (lp l (rr .ready none) :: Inv pre)) (fun pre => exs (fun x : Code × List HProp => L x.1 pre x.2) (fun x => lp l (rr .done (some x.1)) :: x.2)) hF' all := by
      intro pre x hF'' hpre hle2
      refine VOk.weak (Γ := lp l (rr .ready none) :: Inv pre) (fun w hs => by have := hs.unstar; rw [List.append_nil] at this; exact this) ?_ (VOk.round (N := cx.N) (fr := fr) (ps := ps) (assign := assign) (body := body) (r := rr .ready none) (C := fun Γ2 => Γ2 = Inv (pre ++ [x])) (L := fun c Γ2 => L c (pre ++ [x]) Γ2) (by rw [hrr]; rfl) (hlen x) (by rw [hrr]; exact hT) (by rw [hrr]; exact hS) (by rw [hrr]; rfl) (by rw [hrr]; rfl) (by rw [hrr]; rfl) ?_)
      · rintro v Γ' (⟨rfl, Γ2, rfl, rfl⟩ | ⟨rfl, c, Γ2, hL, rfl⟩) w hs
        · refine ⟨_, .inl ⟨rfl, rfl⟩, Sat.star_mk ?_⟩
          rw [List.append_nil]
          have e : ({ rr .ready none with state := .ready, pending := none } : Loop) = rr .ready none := by rw [hrr]; rfl
          rw [e] at hs; exact hs
        · refine ⟨_, .inr ⟨rfl, rfl⟩, Sat.shut (c, Γ2) hL ?_⟩
          rw [List.append_nil]
          have e : ({ rr .ready none with state := .done, pending := some c } : Loop) = rr .done (some c) := by rw [hrr]; rfl
          rw [e] at hs; exact hs
      · intro hF1 w0 hle3
        have h := hround l pre x hF1 w0 hpre (hle.trans (hle2.trans hle3))
        refine fun a w s => wpIn_mono (h a w s) fun e a w q => ?_
        cases e with
        | normal => obtain ⟨fr1, Γ1, h1, h2⟩ := q; exact ⟨fr1, Γ1, h1, fun hF2 w0 hl => h2 hF2 w0 (hle.trans (hle2.trans hl))⟩
        | _ => exact q.elim
    have h := hit (yv l) _ _ hF' hle hy
    refine FnOk.weak (fun w hs => ?_) ?_ h
    · have hs := (hs.perm (List.perm_append_comm (l₁ := [_]))).perm (List.Perm.refl _)
      obtain ⟨hF'', _, _, h2, hback⟩ := (hs : Sat (Γ ++ [lp l (lrec fn T ps assign body D .ready none)]) hF' w).call
      have h3 := hback _ _ (hΓ _ _ h2)
      have h4 : Sat ((lp l (rr .ready none) :: Inv []) ++ Γc) hF' w := by
        rw [hrr]
        refine h3.perm ?_
        rw [List.cons_append]
        exact List.perm_append_comm (l₁ := Inv [] ++ Γc)
      exact h4.star_mk
    · rintro v Γ' ⟨Γc', hRc, rfl | ⟨pre, hpre, rfl⟩⟩ w hs
      · exact ⟨_, ⟨.ready, none, Inv all ++ Γc', by simp, ⟨Γc', hRc, rfl⟩, rfl⟩, by have := hs.unstar; rw [hrr] at this; exact this⟩
      · obtain ⟨⟨c, Γ3⟩, hL, hs⟩ := hs.opens
        exact ⟨_, ⟨.done, some c, Γ3 ++ Γc', by simp, ⟨Γc', pre, Γ3, hRc, hpre, hL, rfl⟩, rfl⟩, by rw [hrr] at hs; exact hs⟩
  · rintro D Γ2 ⟨Γc', hRc, rfl⟩; exact hdone D Γc' hRc
  · rintro D c Γ2 ⟨Γc', pre, Γ3, hRc, hpre, hL, rfl⟩; exact hleft D Γc' c pre Γ3 hRc hpre hL
end iter

/-! ### The way out, with marks -/
section ends
variable {fn : Func} {R : Value → List HProp → Prop} {hF : Hp} {w0 : World} {N : Nat} {ds : List Deferred} {RE : Ending → World → Prop}
theorem FnOk.introM {f : FuncId} {fn : Func} {c : Code} {args : List Value} {hF : Hp} {R : Value → List HProp → Prop} (N : Nat) (hf : P.funcs[f]? = some fn) (hb : fn.body = some c) (hN : args.length + (fn.ntmps - args.length) = N)
    (h : ∀ w0, G P ⟨N, [], hF, w0, none⟩ c (bodyPostM (FW none) 0 P fn (Ret hF w0 R)) (argFr 0 args) Γ) : FnOk P f args Γ hF R := fun w hs => by
  refine callsIn_wide.1 (callsIn_of_wp_marks (n := 0) (F := FW none) hf hb trivial (h w _ _ ⟨by simpa using hN, rfl, ?_, hs, .refl w⟩))
  intro t v e _
  obtain ⟨_, h2⟩ := get_argFr e
  simp only [Nat.sub_zero] at h2
  have : t < args.length := (List.getElem?_eq_some_iff.1 h2).1
  rw [Array.getElem?_append_left (by simpa using this)]
  simpa using h2
/-- On its way out, ds still to be done. -/
def Lv (P : Program) (fn : Func) (R : Ending → World → Prop) (ds : List Deferred) : Act → World → Prop := fun a w => LeavesInM (FW none) 0 P fn a.tmps R ds .returning w
theorem GQ.leave (h : GK cx (Lv P fn RE cx.ds) fr Γ) : GQ cx (bodyPostM (FW none) 0 P fn RE) .ret fr Γ := fun a w s => by
  have := h a w s
  show LeavesInM (FW none) 0 P fn a.tmps RE a.defers .returning w
  rw [s.defers]; exact this
theorem GQ.leave' (h : GK cx (Lv P fn RE cx.ds) fr Γ) : GQ cx (bodyPostM (FW none) 0 P fn RE) .normal fr Γ := GQ.leave h
theorem GK.pop {r : Nat} (i : Nat) (hi : Γ[i]? = some (pt r (.deferred (some [])))) (h : GK cx (Lv P fn RE ds) fr (Γ.set i (pt r (.deferred none)))) : GK cx (Lv P fn RE (mark r :: ds)) fr Γ := fun a w s => by
  have hb := (Rd.own i hi) w s.heap
  refine ⟨by simp, .inl ⟨r, w.putObj r (.deferred none), rfl, run_takeDeferred hb, ?_⟩⟩
  refine h a _ ⟨s.size, s.defers, s.slots, s.heap.write i hi (World.putObj_heap_same (mem_lt hb)) (fun _ hk => World.putObj_heap_other hk), s.same.trans (.putObj _ _ _)⟩
theorem GK.out_of (v : Value) (hres : ∀ a w, St ⟨N, ds, hF, w0, none⟩ fr Γ a w → (results fn a.tmps).run P w = .ok v w) (hR : R v Γ) : GK ⟨N, ds, hF, w0, none⟩ (Lv P fn (Ret hF w0 R) []) fr Γ :=
  fun a w s => ⟨v, hres a w s, v, Γ, rfl, hR, s.heap, s.same⟩
theorem GK.out0 (h : fn.results = #[]) (hR : R (.tuple #[]) Γ) : GK ⟨N, ds, hF, w0, none⟩ (Lv P fn (Ret hF w0 R) []) fr Γ := GK.out_of _ (fun a w _ => results_none h a.tmps P w) hR
theorem GK.out1 {t : Nat} {v : Value} (h : fn.results = #[.tmp t]) (hv : ev ⟨N, ds, hF, w0, none⟩ fr (.tmp t) = some v) (hR : R v Γ) : GK ⟨N, ds, hF, w0, none⟩ (Lv P fn (Ret hF w0 R) []) fr Γ :=
  GK.out_of v (fun a w s => by rw [results_tmp h, s.tmp hv]) hR
theorem GK.out2 {t u : Nat} {v x : Value} (h : fn.results = #[.tmp t, .tmp u]) (hv : ev ⟨N, ds, hF, w0, none⟩ fr (.tmp t) = some v) (hx : ev ⟨N, ds, hF, w0, none⟩ fr (.tmp u) = some x) (hR : R (.tuple #[v, x]) Γ) :
    GK ⟨N, ds, hF, w0, none⟩ (Lv P fn (Ret hF w0 R) []) fr Γ := GK.out_of _ (fun a w s => by rw [results_tmp2 h, s.tmp hv, s.tmp hx]) hR
/-- A result that lies in memory. -/
theorem GK.out_cell {t b o : Nat} {tt e : TypeId} {v : Value} {l : List Value} {fz : Nat × Nat} (h : fn.results = #[.cell t tt]) (hv : ev ⟨N, ds, hF, w0, none⟩ fr (.tmp t) = some (.pointer (some ⟨b, o, none⟩))) (hs : isRow P tt = some false) (hr : Rd Γ hF b (.cells ⟨l⟩ e fz)) (hl : l[o]? = some v) (hR : R v Γ) :
    GK ⟨N, ds, hF, w0, none⟩ (Lv P fn (Ret hF w0 R) []) fr Γ :=
  GK.out_of v (fun a w s => by
    have h1 := s.tmp hv
    have hc : w.cell? ⟨b, o, none⟩ = some v := by rw [cell_of (hr w s.heap)]; exact hl
    simp at h1
    simp [results, h, h1, asAddr, loadVar, run_isAgg hs, hc]) hR
end ends
end Go.Sl
