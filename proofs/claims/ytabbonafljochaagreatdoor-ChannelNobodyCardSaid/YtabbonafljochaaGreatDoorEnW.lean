/- The engine, part W: iterators that read from a pool which the rounds hold; loops whose rounds leave marks. -/
import Derived.Test.YtabbonafljochaaGreatDoorEnQ
namespace Go.Sl
variable {P : Program} {cx : Cx} {fr : Fr} {Γ : List HProp} {Q : Exit → Act → World → Prop} {K : Act → World → Prop}
/-! ### a pool within a chunk -/
/-- Whoever holds these holds H. -/
def hasH (H : Hp) (Γ : List HProp) : Prop := ∀ hs, Holds Γ hs → hs.Pairwise apart → le H (hs.foldr cup emp)
theorem hasH.tail {H : Hp} {A : HProp} (h : hasH H Γ) : hasH H (A :: Γ) := fun hs a p => by
  cases hs with
  | nil => exact a.elim
  | cons x hs =>
    have p := List.pairwise_cons.1 p
    exact (h hs a.2 p.2).trans (le_cup_right ((apart_foldr fun k hk => p.1 k hk)))
theorem hasH.pool {H H' : Hp} (hl : le H H') : hasH H (poolOf H' :: Γ) := fun hs a p => by
  cases hs with
  | nil => exact a.elim
  | cons x hs =>
    obtain rfl : x = H' := a.1
    exact hl.trans (le_cup_left _ _)
theorem hasH.exs {H : Hp} {X : Type} {φ : X → Prop} {Λ : X → List HProp} (h : ∀ x, φ x → hasH H (Λ x)) : hasH H (Sl.exs φ Λ :: Γ) := fun hs a p => by
  cases hs with
  | nil => exact a.elim
  | cons y hs =>
    obtain ⟨⟨x, ks, hφ, hk, hp, he⟩, a2⟩ := a
    obtain rfl : y = ks.foldr cup emp := funext he
    exact (h x hφ ks hk hp).trans (le_cup_left _ _)
/-- What is left of A without H. -/
def less (H : Hp) (A : HProp) : HProp := fun h => apart H h ∧ A (cup H h)
theorem cup_sub {H h : Hp} (hl : le H h) : cup H (fun b => if (H b).isSome then none else h b) = h := by
  funext b
  unfold cup
  cases hb : H b with
  | none => simp [hb]
  | some o => simp [hl b o hb]
theorem Sat.part {H : Hp} {A : HProp} (hA : ∀ h, A h → le H h) {hF : Hp} {w : World} (s : Sat (A :: Γ) hF w) : Sat (poolOf H :: less H A :: Γ) hF w := by
  obtain ⟨hs, a, q, c, d⟩ := s
  cases hs with
  | nil => exact a.elim
  | cons x hs =>
    have hl := hA x a.1
    have hc := cup_sub hl
    have hle2 : le (fun b => if (H b).isSome then none else x b) x := fun b o e => by
      dsimp only at e
      split at e
      · cases e
      · exact e
    have hap : apart H (fun b => if (H b).isSome then none else x b) := fun b => by
      cases hb : H b with
      | none => exact .inl rfl
      | some o => right; simp [hb]
    rw [Apart_iff] at q
    obtain ⟨q1, q2⟩ := q
    obtain ⟨q3, q4⟩ := List.pairwise_cons.1 q2
    refine ⟨H :: (fun b => if (H b).isSome then none else x b) :: hs, ⟨rfl, ⟨hap, by rw [hc]; exact a.1⟩, a.2⟩, Apart_iff.2 ⟨?_, ?_⟩, c, ?_⟩
    · intro k hk
      rcases List.mem_cons.1 hk with rfl | hk
      · exact apart_of_le (q1 x (by simp)) hl
      · rcases List.mem_cons.1 hk with rfl | hk
        · exact apart_of_le (q1 x (by simp)) hle2
        · exact q1 k (by simp [hk])
    · refine List.pairwise_cons.2 ⟨fun k hk => ?_, List.pairwise_cons.2 ⟨fun k hk => ?_, q4⟩⟩
      · rcases List.mem_cons.1 hk with rfl | hk
        · exact hap
        · exact (apart_of_le (q3 k hk).symm hl).symm
      · exact (apart_of_le (q3 k hk).symm hle2).symm
    · intro k hk
      rcases List.mem_cons.1 hk with rfl | hk
      · exact hl.trans (d x (by simp))
      · rcases List.mem_cons.1 hk with rfl | hk
        · exact hle2.trans (d x (by simp))
        · exact d k (by simp [hk])
theorem Sat.join {H : Hp} {A : HProp} {hF : Hp} {w : World} (s : Sat (poolOf H :: less H A :: Γ) hF w) : Sat (A :: Γ) hF w := by
  obtain ⟨hs, a, q, c, d⟩ := s
  match hs, a with
  | x :: y :: hs, ⟨a1, ⟨a2, a3⟩, a4⟩ =>
    obtain rfl : x = H := a1
    rw [Apart_iff] at q
    obtain ⟨q1, q2⟩ := q
    obtain ⟨q3, q4⟩ := List.pairwise_cons.1 q2
    obtain ⟨q5, q6⟩ := List.pairwise_cons.1 q4
    refine ⟨cup x y :: hs, ⟨a3, a4⟩, Apart_iff.2 ⟨fun k hk => ?_, List.pairwise_cons.2 ⟨fun k hk => ?_, q6⟩⟩, c, fun k hk => ?_⟩
    · rcases List.mem_cons.1 hk with rfl | hk
      · exact apart_cup (q1 x (by simp)) (q1 y (by simp))
      · exact q1 k (by simp [hk])
    · exact (apart_cup (q3 k (by simp [hk])).symm (q5 k hk).symm).symm
    · rcases List.mem_cons.1 hk with rfl | hk
      · exact cup_le (d x (by simp)) (d y (by simp))
      · exact d k (by simp [hk])
theorem exs_has {H : Hp} {X : Type} {φ : X → Prop} {Λ : X → List HProp} (h : ∀ x, φ x → hasH H (Λ x)) : ∀ k, exs φ Λ k → le H k := by
  rintro k ⟨x, ks, hφ, hk, hp, he⟩
  obtain rfl : k = ks.foldr cup emp := funext he
  exact h x hφ ks hk hp
/-- Something known, and no memory. -/
def fact (p : Prop) : HProp := exs (fun _ : Unit => p) (fun _ => [])
theorem Sat.fact {p : Prop} {hF : Hp} {w : World} (hp : p) (s : Sat Γ hF w) : Sat (Sl.fact p :: Γ) hF w := Sat.shut () hp s
theorem GK.known {p : Prop} (h : p → GK cx K fr Γ) : GK cx K fr (Sl.fact p :: Γ) := fun a w s => by
  obtain ⟨_, hp, hs⟩ := s.heap.opens
  exact h hp a w ⟨s.size, s.defers, s.slots, hs, s.same⟩

/-! ### iterators over a pool -/
section iter
variable {α : Type}
/-- As IterOk; between any two rounds H is at hand. -/
def IterP (P : Program) (f : FuncId) (first cap : Array Value) (enc : α → List Value) (all : List α) (H : Hp) (Γc : List HProp) (Rc : List HProp → Prop) (hF : Hp) : Prop :=
  ∀ l (J JB : List α → HProp) hF', le hF hF' → YieldOk P (yv l) enc (fun pre => star [poolOf H, J pre]) (fun pre => star [poolOf H, JB pre]) hF' all →
    FnOk P f (first.toList ++ [yv l] ++ cap.toList) (poolOf H :: J [] :: Γc) hF' (fun _ Γ => ∃ Γc', Rc Γc' ∧ (Γ = poolOf H :: J all :: Γc' ∨ ∃ pre, pre <+: all ∧ Γ = poolOf H :: JB pre :: Γc'))
theorem IterP.mono {f : FuncId} {first cap : Array Value} {enc : α → List Value} {all : List α} {H : Hp} {Γc : List HProp} {Rc : List HProp → Prop} {hF hF' : Hp} (h : IterP P f first cap enc all H Γc Rc hF) (hl : le hF hF') : IterP P f first cap enc all H Γc Rc hF' := fun l J JB hF'' hle hy => h l J JB hF'' (hl.trans hle) hy
theorem G.forRangeP {g : Operand} {f : FuncId} {first cap : Array Value} {ps : List Tmp} {assign body : Code} {enc : α → List Value} {all : List α} {Γc : List HProp} {Rc : List HProp → Prop} {H : Hp}
    (Inv : List α → List HProp) (L : Code → List α → List HProp → Prop) (hI : ∀ pre, hasH H (Inv pre)) (hL : ∀ c pre Γ2, L c pre Γ2 → hasH H Γ2) (hit : IterP P f first cap enc all H Γc Rc cx.hF)
    (hg : ev cx fr g = some (.func (.func f) first cap)) (hc : callable P f = true) (hlen : ∀ x, (enc x).length = ps.length) (hΓ : ∀ hF w, Sat Γ hF w → Sat (Inv [] ++ Γc) hF w)
    (hround : ∀ l pre x hF1 w0, pre ++ [x] <+: all → le cx.hF hF1 → G P ⟨cx.N, [], hF1, w0, some l⟩ assign (Exit.then (toBody P cx.N l cx.hF body (fun Γ2 => Γ2 = Inv (pre ++ [x])) (fun c Γ2 => L c (pre ++ [x]) Γ2) ⟨cx.N, [], hF1, w0, some l⟩) (fun _ _ _ => False)) (updsP ps (enc x) fr) (Inv pre))
    (hdone : ∀ D Γc', Rc Γc' → GQ { cx with ds := mark D :: cx.ds } Q .normal fr (pt D (.deferred (some [])) :: (Inv all ++ Γc')))
    (hleft : ∀ D Γc' c pre Γ2, Rc Γc' → pre <+: all → L c pre Γ2 → G P { cx with ds := mark D :: cx.ds } c Q fr (pt D (.deferred (some [])) :: (Γ2 ++ Γc')))
    (hro : cx.ro = none := by rfl) : G P cx (.rangeFunc g ps.toArray assign body) Q fr Γ := by
  refine G.rangeFunc (fun pd Γ2 => match pd with
    | none => ∃ Γc', Rc Γc' ∧ Γ2 = Inv all ++ Γc'
    | some c => ∃ Γc' pre Γ3, Rc Γc' ∧ pre <+: all ∧ L c pre Γ3 ∧ Γ2 = Γ3 ++ Γc') hro hg hc ?_ ?_ ?_
  · intro l D fn T hF' hle hT hS
    obtain ⟨rr, hrr⟩ : ∃ rr : LoopState → Option Code → Loop, rr = lrec fn T ps assign body D := ⟨_, rfl⟩
    obtain ⟨A, hAd⟩ : ∃ A : List α → HProp, A = fun pre => star (lp l (rr .ready none) :: Inv pre) := ⟨_, rfl⟩
    obtain ⟨B, hBd⟩ : ∃ B : List α → HProp, B = fun pre => exs (fun x : Code × List HProp => L x.1 pre x.2) (fun x => lp l (rr .done (some x.1)) :: x.2) := ⟨_, rfl⟩
    have hA : ∀ pre h, A pre h → le H h := fun pre h => by rw [hAd]; exact exs_has (fun _ _ => (hI pre).tail) h
    have hB : ∀ pre h, B pre h → le H h := fun pre h => by rw [hBd]; exact exs_has (fun x hx => (hL x.1 pre x.2 hx).tail) h
    have hy : YieldOk P (yv l) enc (fun pre => star [poolOf H, less H (A pre)]) (fun pre => star [poolOf H, less H (B pre)]) hF' all := by
      intro pre x hF'' hpre hle2
      refine VOk.weak (Γ := lp l (rr .ready none) :: Inv pre) (fun w hs => by have := Sat.join (show Sat [poolOf H, less H (A pre)] hF'' w from hs.unstar); rw [hAd] at this; have := this.unstar; rw [List.append_nil] at this; exact this) ?_ (VOk.round (N := cx.N) (fr := fr) (ps := ps) (assign := assign) (body := body) (r := rr .ready none) (C := fun Γ2 => Γ2 = Inv (pre ++ [x])) (L := fun c Γ2 => L c (pre ++ [x]) Γ2) (by rw [hrr]; rfl) (hlen x) (by rw [hrr]; exact hT) (by rw [hrr]; exact hS) (by rw [hrr]; rfl) (by rw [hrr]; rfl) (by rw [hrr]; rfl) ?_)
      · rintro v Γ' (⟨rfl, Γ2, rfl, rfl⟩ | ⟨rfl, c, Γ2, hL', rfl⟩) w hs
        · refine ⟨_, .inl ⟨rfl, rfl⟩, Sat.star_mk (Sat.part (hA _) ?_)⟩
          have e : ({ rr .ready none with state := .ready, pending := none } : Loop) = rr .ready none := by rw [hrr]; rfl
          rw [e] at hs
          rw [hAd]
          refine Sat.star_mk ?_
          show Sat ((lp l (rr .ready none) :: Inv (pre ++ [x])) ++ []) hF'' w
          rw [List.append_nil]; exact hs
        · refine ⟨_, .inr ⟨rfl, rfl⟩, Sat.star_mk (Sat.part (hB _) ?_)⟩
          have e : ({ rr .ready none with state := .done, pending := some c } : Loop) = rr .done (some c) := by rw [hrr]; rfl
          rw [e] at hs
          rw [hBd]
          refine Sat.shut (c, Γ2) hL' ?_
          show Sat ((lp l (rr .done (some c)) :: Γ2) ++ []) hF'' w
          rw [List.append_nil]; exact hs
      · intro hF1 w0 hle3
        have h := hround l pre x hF1 w0 hpre (hle.trans (hle2.trans hle3))
        refine fun a w s => wpIn_mono (h a w s) fun e a w q => ?_
        cases e with
        | normal => obtain ⟨fr1, Γ1, h1, h2⟩ := q; exact ⟨fr1, Γ1, h1, fun hF2 w0 hl => h2 hF2 w0 (hle.trans (hle2.trans hl))⟩
        | _ => exact q.elim
    have h := hit l _ _ hF' hle hy
    refine FnOk.weak (fun w hs => ?_) ?_ h
    · have hs := (hs.perm (List.perm_append_comm (l₁ := [_]))).perm (List.Perm.refl _)
      obtain ⟨hF'', _, _, h2, hback⟩ := (hs : Sat (Γ ++ [lp l (lrec fn T ps assign body D .ready none)]) hF' w).call
      have h3 := hback _ _ (hΓ _ _ h2)
      have h4 : Sat ((lp l (rr .ready none) :: Inv []) ++ Γc) hF' w := by
        rw [hrr]
        refine h3.perm ?_
        rw [List.cons_append]
        exact List.perm_append_comm (l₁ := Inv [] ++ Γc)
      refine Sat.part (hA []) ?_
      rw [hAd]
      exact h4.star_mk
    · rintro v Γ' ⟨Γc', hRc, rfl | ⟨pre, hpre, rfl⟩⟩ w hs
      · have hs := hs.join
        rw [hAd] at hs
        exact ⟨_, ⟨.ready, none, Inv all ++ Γc', by simp, ⟨Γc', hRc, rfl⟩, rfl⟩, by have := hs.unstar; rw [hrr] at this; exact this⟩
      · have hs := hs.join
        rw [hBd] at hs
        obtain ⟨⟨c, Γ3⟩, hL', hs⟩ := hs.opens
        exact ⟨_, ⟨.done, some c, Γ3 ++ Γc', by simp, ⟨Γc', pre, Γ3, hRc, hpre, hL', rfl⟩, rfl⟩, by rw [hrr] at hs; exact hs⟩
  · rintro D Γ2 ⟨Γc', hRc, rfl⟩; exact hdone D Γc' hRc
  · rintro D c Γ2 ⟨Γc', pre, Γ3, hRc, hpre, hL', rfl⟩; exact hleft D Γc' c pre Γ3 hRc hpre hL'
end iter

/-! ### loops whose rounds leave marks -/
theorem G.loopD {X : Type} (m : X → Nat) (C : X → List Deferred) (F : X → Fr) (M : X → List HProp) (I : X → Prop) {c : Code}
    (h : ∀ x, I x → G P { cx with ds := C x } c (Exit.then (fun a w => ∃ y, I y ∧ m y < m x ∧ St { cx with ds := C y } (F y) (M y) a w) Q) (F x) (M x)) (x : X) (hx : I x) : G P { cx with ds := C x } (.loop c) Q (F x) (M x) := fun a w s => by
  intro b k cs hro hb hr
  have key : ∀ n x a w, m x = n → I x → St { cx with ds := C x } (F x) (M x) a w →
      ∃ e a' w', Q e a' w' ∧ ArrivesIn (Machine.fenced P (FW cx.ro)) P (lone (b.atR a (.code c :: .inLoop c :: k)) cs w) b k cs e a' w' := by
    intro n
    induction n using Nat.strongRecOn with
    | _ n ih =>
      intro x a w hn hI hs
      obtain ⟨e, a₁, w₁, hq, harr⟩ := h x hI a w hs b (.inLoop c :: k) cs hro hb hr
      cases e with
      | normal =>
        obtain ⟨y, hI₁, hlt, hs₁⟩ := hq
        obtain ⟨e₂, a₂, w₂, hq₂, harr₂⟩ := ih (m y) (hn ▸ hlt) y a₁ w₁ rfl hI₁ hs₁
        exact ⟨e₂, a₂, w₂, hq₂, .of_steps (StepsIn.trans harr (.one (fenced_calm hb hr rfl) stepR_inLoop)) harr₂⟩
      | exit id => exact ⟨_, a₁, w₁, hq, .pass (x := .inLoop c) rfl (fun _ _ => .inl (by simp)) harr⟩
      | goto l => exact ⟨_, a₁, w₁, hq, .pass (x := .inLoop c) rfl (fun _ _ => .inl (by simp)) harr⟩
      | ret => exact ⟨_, a₁, w₁, hq, .pass (x := .inLoop c) rfl (fun _ _ => .inl (by simp)) harr⟩
      | panic ch => exact ⟨_, a₁, w₁, hq, .pass (x := .inLoop c) rfl (fun _ _ => .inl (by simp)) harr⟩
      | outgrown => exact ⟨_, a₁, w₁, hq, .pass (x := .inLoop c) rfl (fun _ _ => .inl (by simp)) harr⟩
  obtain ⟨e, a', w', hq, harr⟩ := key _ x a w rfl hx s
  exact ⟨e, a', w', hq, .of_steps (.one (fenced_calm hb hr rfl) stepR_loop) harr⟩
theorem GQ.againD {X : Type} {m : X → Nat} {C : X → List Deferred} {F : X → Fr} {M : X → List HProp} {I : X → Prop} {x : X} (y : X) (hI : I y) (hm : m y < m x) (hd : cx.ds = C y) (hf : Sub (F y) fr) (hg : ∀ w, Sat Γ cx.hF w → Sat (M y) cx.hF w) :
    GQ cx (Exit.then (fun a w => ∃ y, I y ∧ m y < m x ∧ St { cx with ds := C y } (F y) (M y) a w) Q) .normal fr Γ := fun _ _ s => ⟨y, hI, hm, by
  have s' := s.weak hf hg
  exact ⟨s'.size, s'.defers.trans hd, s'.slots, s'.heap, s'.same⟩⟩
theorem G.cutD {X : Type} (C : X → List Deferred) (F : X → Fr) (M : X → List HProp) (I : X → Prop) {c : Code} {K : Act → World → Prop} (h2 : ∀ y, I y → GK { cx with ds := C y } K (F y) (M y))
    (h1 : G P cx c (Exit.then (fun a w => ∃ y, I y ∧ St { cx with ds := C y } (F y) (M y) a w) Q) fr Γ) : G P cx c (Exit.then K Q) fr Γ := fun a w s => by
  refine wpIn_mono (h1 a w s) fun e a w h => ?_
  cases e with
  | normal => obtain ⟨y, hy, st⟩ := h; exact h2 y hy a w st
  | _ => exact h
theorem GQ.reachD {X : Type} {C : X → List Deferred} {F : X → Fr} {M : X → List HProp} {I : X → Prop} (y : X) (hI : I y) (hd : cx.ds = C y) (hf : Sub (F y) fr) (hg : ∀ w, Sat Γ cx.hF w → Sat (M y) cx.hF w) :
    GQ cx (Exit.then (fun a w => ∃ y, I y ∧ St { cx with ds := C y } (F y) (M y) a w) Q) .normal fr Γ := fun _ _ s => ⟨y, hI, by
  have s' := s.weak hf hg
  exact ⟨s'.size, s'.defers.trans hd, s'.slots, s'.heap, s'.same⟩⟩
theorem YieldOk.pool {α : Type} {l : Nat} {enc : α → List Value} {H hF hF' : Hp} {J JB : List α → HProp} {all pre : List α} {x : α} (hy : YieldOk P (yv l) enc (fun pre => star [poolOf H, J pre]) (fun pre => star [poolOf H, JB pre]) hF all) (hp : pre ++ [x] <+: all) (hl : le hF hF') :
    VOk P (yv l) (enc x) [poolOf H, J pre] hF' (fun v Γ => (v = .bool true ∧ Γ = [poolOf H, J (pre ++ [x])]) ∨ (v = .bool false ∧ Γ = [poolOf H, JB (pre ++ [x])])) := by
  refine VOk.weak (fun w s => Sat.star_mk s) ?_ (hy pre x hF' hp hl)
  rintro v Γ' (⟨rfl, rfl⟩ | ⟨rfl, rfl⟩) w s
  · exact ⟨_, .inl ⟨rfl, rfl⟩, s.unstar⟩
  · exact ⟨_, .inr ⟨rfl, rfl⟩, s.unstar⟩
/-- What the marks stand for. -/
def dset (Ds : List Nat) : HProp := star (Ds.map fun D => pt D (.deferred (some [])))
theorem Sat.dset_nil {hF : Hp} {w : World} (s : Sat Γ hF w) : Sat (dset [] :: Γ) hF w := s.star_nil
theorem Sat.dset_push {D : Nat} {Ds : List Nat} {hF : Hp} {w : World} (s : Sat (pt D (.deferred (some [])) :: dset Ds :: Γ) hF w) : Sat (dset (D :: Ds) :: Γ) hF w := by
  have h := ((s.perm (.swap _ _ _)).unstar)
  refine Sat.star_mk (h.perm ?_)
  exact List.perm_middle
theorem Sat.dset_pop {D : Nat} {Ds : List Nat} {hF : Hp} {w : World} (s : Sat (dset (D :: Ds) :: Γ) hF w) : Sat (pt D (.deferred (some [])) :: dset Ds :: Γ) hF w := by
  have h : Sat ((pt D (.deferred (some [])) :: Ds.map fun D => pt D (.deferred (some []))) ++ Γ) hF w := s.unstar
  refine (Sat.star_mk (h.perm ?_)).perm (.swap _ _ _)
  exact List.perm_middle.symm
theorem GK.popAll {fn : Func} {RE : Ending → World → Prop} : ∀ {Ds : List Nat} {Γ : List HProp}, GK cx (Lv P fn RE []) fr Γ → GK cx (Lv P fn RE (Ds.map mark)) fr (dset Ds :: Γ)
  | [], Γ, h => fun a w s => h a w ⟨s.size, s.defers, s.slots, by have := s.heap.unstar; exact this, s.same⟩
  | D :: Ds, Γ, h => fun a w s => by
    refine (GK.pop 0 rfl (Γ := pt D (.deferred (some [])) :: dset Ds :: Γ) ?_) a w ⟨s.size, s.defers, s.slots, s.heap.dset_pop, s.same⟩
    exact fun a w s => (GK.popAll (Ds := Ds) h) a w ⟨s.size, s.defers, s.slots, s.heap.drop, s.same⟩
end Go.Sl
