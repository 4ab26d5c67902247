/- The engine, part N: loops and meetings that keep slots; short words; what is lent to a call. -/
import Derived.Test.YtnealcbmgflaaaaEnV
import Derived.Test.YtnealcbmgflaaaaEnU
set_option linter.unusedSimpArgs false
set_option linter.unusedVariables false
namespace Go.Sl
variable {P : Program} {cx : Cx} {fr : Fr} {Γ : List HProp} {Q : Exit → Act → World → Prop} {ops : Array Oper} {K : Act → World → Prop}
theorem Wt.o {g : Option (Nat × Bool)} (h : Wt cx ops fr g true := by first | exact Wt.none | exact wt_t rfl rfl (by first | exact rfl | decide +kernel | exact decide_eq_true (by omega) | exact decide_eq_false (by omega) | exact bnt (decide_eq_false (by omega)) | exact bnf (decide_eq_true (by omega)) | assumption)) : Wt cx ops fr g true := h
theorem SubR.o {A Γr : List HProp} (h : SubR A Γ Γr := by
    repeat (first | exact SubR.nil | apply SubR.cons 0 rfl | apply SubR.cons 1 rfl | apply SubR.cons 2 rfl | apply SubR.cons 3 rfl | apply SubR.cons 4 rfl | apply SubR.cons 5 rfl | apply SubR.cons 6 rfl | apply SubR.cons 7 rfl | apply SubR.cons 8 rfl | apply SubR.cons 9 rfl | apply SubR.cons 10 rfl | apply SubR.cons 11 rfl | apply SubR.cons 12 rfl | apply SubR.cons 13 rfl | apply SubR.cons 14 rfl | apply SubR.cons 15 rfl)) : SubR A Γ Γr := h
theorem Sub.o {a b : Fr} (h : Sub a b := by repeat (first | exact trivial | refine ⟨rfl, ?_⟩)) : Sub a b := h
/-- As G.loopN; slots that stay, and those that turn. -/
theorem G.loopK {X : Type} (keep : Fr) (chg : X → Fr) (m : X → Nat) (M : X → List HProp) (I : X → Prop) {c : Code} (x : X) (hI : I x) (hf : Sub (chg x ++ keep) fr) (hg : ∀ w, Sat Γ cx.hF w → Sat (M x) cx.hF w)
    (h : ∀ x, I x → ∀ n, n = m x → G P cx c (Exit.then (fun a w => ∃ y, I y ∧ m y < n ∧ St cx (chg y ++ keep) (M y) a w) Q) (chg x ++ keep) (M x)) : G P cx (.loop c) Q fr Γ :=
  GK.weak hf hg (G.loopN m (fun x => chg x ++ keep) M I h x hI)
theorem G.cutK {X : Type} (keep : Fr) (chg : X → Fr) (M : X → List HProp) (I : X → Prop) {c : Code} (_ : Sub keep fr) (h2 : ∀ y, I y → GK cx K (chg y ++ keep) (M y))
    (h1 : G P cx c (Exit.then (fun a w => ∃ y, I y ∧ St cx (chg y ++ keep) (M y) a w) Q) fr Γ) : G P cx c (Exit.then K Q) fr Γ := G.cut (fun y => chg y ++ keep) M I h2 h1
theorem G.cutBK {X : Type} {id : Nat} (keep : Fr) (chg : X → Fr) (M : X → List HProp) (I : X → Prop) {c : Code} (_ : Sub keep fr) (h2 : ∀ y, I y → GK cx K (chg y ++ keep) (M y))
    (h1 : G P cx c (Exit.inBlock id (Exit.then (fun a w => ∃ y, I y ∧ St cx (chg y ++ keep) (M y) a w) Q)) fr Γ) : G P cx c (Exit.inBlock id (Exit.then K Q)) fr Γ := G.cutB (fun y => chg y ++ keep) M I h2 h1
section
variable {fs : List Nat} {Δ : List HProp} {n : Nat} {done : Array Bool}
theorem GH.pure {φ : Prop} (h : ∀ w, Sat Γ cx.hF w → φ) (k : φ → GH P cx ops Q fs Δ n done fr Γ) : GH P cx ops Q fs Δ n done fr Γ := fun hcl => GK.pure h fun p => k p hcl
theorem GK.rowShape {v : Value} {e sz n : Nat} {xs : List Value} (i : Nat) (hi : Γ[i]? = some (row v e sz n xs)) (h : ∀ p c, v = .slice p n c → GK cx K fr Γ) : GK cx K fr Γ := fun a w s => by
  obtain ⟨⟨p, c, e⟩, _⟩ := row_len (s.heap.perm (perm_eraseIdx hi))
  exact h p c e a w s
theorem GH.rowShape {v : Value} {e sz k : Nat} {xs : List Value} (i : Nat) (hi : Γ[i]? = some (row v e sz k xs)) (h : ∀ p c, v = .slice p k c → GH P cx ops Q fs Δ n done fr Γ) : GH P cx ops Q fs Δ n done fr Γ := fun hcl => GK.rowShape i hi fun p c e => h p c e hcl
end
/-- What is only read by a call is lent to it as one piece. -/
theorem FnOk.lend {f : FuncId} {args : List Value} {hF : Hp} {φ : Value → Prop}
    (h : ∀ H2, (∃ hs, Holds Γ hs ∧ ∀ k ∈ hs, le k H2) → FnOk P f args [poolOf H2] hF (fun v Γ' => φ v ∧ Γ' = [poolOf H2])) : FnOk P f args Γ hF (fun v Γ' => φ v ∧ Γ' = Γ) := fun w hs0 => by
  obtain ⟨hs, a, q, c, d⟩ := hs0
  have hp := Apart_iff.1 q
  have hs2 : Sat [poolOf (hs.foldr cup emp)] hF w := ⟨[hs.foldr cup emp], ⟨rfl, trivial⟩, ⟨apart_foldr hp.1, by simp, trivial⟩, c, fun k hk => by rw [List.mem_singleton.1 hk]; exact le_of_foldr d⟩
  refine Calls.mono (h _ ⟨hs, a, foldr_cup_le hp.2⟩ w hs2) ?_
  rintro e w' ⟨v, Γ', rfl, ⟨hv, rfl⟩, s, hm⟩
  have hl := s.pool_le
  obtain ⟨_, _, _, c', _⟩ := s
  exact ⟨v, Γ, rfl, ⟨hv, rfl⟩, ⟨hs, a, q, c', fun k hk => (foldr_cup_le hp.2 k hk).trans hl⟩, hm⟩
/-! ### map literals; many alike -/
section maps
open Go.MapKept (bytes_beq run_findKey heap_set)
variable {α : Type} [Key α] {ty : TypeId} {es : List (α × Value)} {a : α} {b t kt e : Nat} {x y z : Operand} {u zv : Value} {d : Option Tmp} {pos : String} {af : Array Edge} {g : Option (Nat × Bool)}
theorem GO.insert (i : Nat) (hw : Wt cx ops fr g true) (hk : KeyT P α kt) (ht : P.underlying t = some (.map kt e)) (hx : ev cx fr x = some (.map (some b))) (hy : ev cx fr y = some (Key.val a)) (hz : ev cx fr z = some u) (hi : Γ[i]? = some (mp b es))
    (h : GK cx K (upd d undef fr) (Γ.set i (mp b (mset es a u)))) : GO P cx ops Q ⟨d, .insert t x y z, ty, pos, af, g⟩ K fr Γ := by
  refine GO.effect hw (Φ := fun q Γ' => q = undef ∧ Γ' = Γ.set i (mp b (mset es a u))) (fun A w d pos af g st => ?_) ?_
  · obtain ⟨X, hX, hs⟩ := (st.heap.perm (perm_eraseIdx hi)).opens
    have hb := hs.pt_head
    obtain ⟨d', hd, hnow, hck⟩ := hk.now
    have hc := hck false 9999 w a
    have hf := run_findKey (w := w) hd (find_spec hnow a X.1.toList es 0 hX.same)
    cases hm : mfind es a with
    | none =>
      rw [hm] at hf
      refine ⟨undef, { w with heap := w.heap.setIfInBounds b (.map (X.1.push { key := Key.val a, val := u, born := X.2 }) (X.2 + 1)) }, _, .inr ⟨?_, rfl⟩, ⟨rfl, rfl⟩, ?_, heap_put hb⟩
      · simp only [Option.map_none] at hf
        simp [execOp, st.eval hx, st.eval hy, st.eval hz, Instr.mapUpdate, run_underlying ht, MapKept.run_getObj_map hb, hc, hf, MapKept.run_setObj_map _ hb]
      · refine Sat.perm (perm_set hi) (Sat.shut (X.1.push { key := Key.val a, val := u, born := X.2 }, X.2 + 1) ⟨?_, ?_, ?_⟩ (hs.write_head (heap_set hb).1 (heap_set hb).2))
        · rw [mset_new a u es hm]; simp [hX.same, ent, pair]
        · have hn := hX.nodup
          simp only [Array.toList_push, List.map_append, List.map_cons, List.map_nil]
          rw [List.nodup_append]
          refine ⟨hn, by simp, ?_⟩
          intro p hp q hq
          obtain ⟨e1, he1, rfl⟩ := List.mem_map.1 hp
          have := hX.born e1 he1
          simp at hq; omega
        · intro e1 he1
          simp only [Array.toList_push, List.mem_append, List.mem_cons, List.not_mem_nil, or_false] at he1
          rcases he1 with h1 | rfl
          · have := hX.born e1 h1; show e1.born < X.2 + 1; omega
          · show X.2 < X.2 + 1; omega
    | some p =>
      obtain ⟨j, v⟩ := p
      rw [hm] at hf
      obtain ⟨m1, m2⟩ := modify_spec a u X.1.toList es j v hX.same hm
      have hj : j < X.1.size := by have h1 := mfind_lt a es j v hm; have h2 := congrArg List.length hX.same; simp at h2; omega
      have hkey : ((X.1[j]?).map (·.key)).getD (Key.val a) = Key.val a := by
        obtain ⟨L, hL⟩ : ∃ L, L = X.1.toList := ⟨_, rfl⟩
        have : ∀ (L : List MapEntry) (es : List (α × Value)) (j : Nat) (v : Value), L.map ent = es.map pair → mfind es a = some (j, v) → ((L[j]?).map (·.key)) = some (Key.val a) := by
          intro L
          induction L with
          | nil => intro es j v h hf; cases es with
            | nil => simp [mfind] at hf
            | cons => simp at h
          | cons e1 L ih =>
            intro es j v h hf
            cases es with
            | nil => simp at h
            | cons q es =>
              obtain ⟨k, x1⟩ := q
              simp only [List.map_cons, List.cons.injEq] at h
              simp only [mfind] at hf
              by_cases q1 : a = k
              · rw [if_pos q1] at hf; cases hf
                have := congrArg (·.1) h.1
                simp [ent, pair] at this
                simp [this, q1]
              · rw [if_neg q1] at hf
                obtain ⟨⟨j', v'⟩, hf', hp⟩ := Option.map_eq_some_iff.1 hf
                cases hp
                simpa using ih es j' v' h.2 hf'
        have := this X.1.toList es j v hX.same hm
        rw [Array.getElem?_toList] at this
        rw [this]; rfl
      have hstay : (Instr.keyThatStays (Key.val a) (Key.val a)).run P w = .ok (Key.val a) w := by simp [Instr.keyThatStays, hk.bits]
      refine ⟨undef, { w with heap := w.heap.setIfInBounds b (.map (X.1.modify j fun e => { e with key := Key.val a, val := u }) X.2) }, _, .inr ⟨?_, rfl⟩, ⟨rfl, rfl⟩, ?_, heap_put hb⟩
      · simp only [Option.map_some, Nat.zero_add] at hf
        simp [execOp, st.eval hx, st.eval hy, st.eval hz, Instr.mapUpdate, run_underlying ht, MapKept.run_getObj_map hb, hc, hf, hkey, hstay, MapKept.run_setObj_map _ hb]
      · refine Sat.perm (perm_set hi) (Sat.shut (X.1.modify j fun e => { e with key := Key.val a, val := u }, X.2) ⟨?_, ?_, ?_⟩ (hs.write_head (heap_set hb).1 (heap_set hb).2))
        · rw [Array.toList_modify]; exact m1
        · rw [Array.toList_modify, m2]; exact hX.nodup
        · intro e1 he1
          rw [Array.toList_modify] at he1
          have : e1.born ∈ (X.1.toList.map (·.born)) := by rw [← m2]; exact List.mem_map.2 ⟨e1, he1, rfl⟩
          obtain ⟨e2, he2, hb2⟩ := List.mem_map.1 this
          rw [← hb2]; exact hX.born e2 he2
  · rintro q Γ' ⟨rfl, rfl⟩; exact h
end maps
theorem Yl.heap {Γ' : List HProp} {op : Op} {ty : TypeId} {v : Value} (hg : ∀ w, Sat Γ cx.hF w → Sat Γ' cx.hF w) (h : Yl P cx fr Γ' op ty v) : Yl P cx fr Γ op ty v := fun a w d pos af g s => h a w d pos af g ⟨s.size, s.defers, s.slots, hg w s.heap, s.same⟩
theorem Sat.pullM {β : Type} {f : β → HProp} {l : List β} {i : Nat} {x : β} {hF : Hp} {w : World} (hx : l[i]? = some x) (h : Sat (star (l.map f) :: Γ) hF w) : Sat (f x :: star ((l.map f).eraseIdx i) :: Γ) hF w := Sat.star_pull (by simp [hx]) h
theorem Sat.putM {β : Type} {f : β → HProp} {l : List β} {i : Nat} {y : β} {hF : Hp} {w : World} (hi : i < l.length) (h : Sat (f y :: star ((l.map f).eraseIdx i) :: Γ) hF w) : Sat (star ((l.set i y).map f) :: Γ) hF w := by
  rw [List.map_set]; exact Sat.star_put (by simpa using hi) h
theorem Sat.pushM {β : Type} {f : β → HProp} {l : List β} {y : β} {hF : Hp} {w : World} (h : Sat (f y :: star (l.map f) :: Γ) hF w) : Sat (star ((l ++ [y]).map f) :: Γ) hF w := by
  rw [List.map_append]; exact Sat.star_push h
theorem set_same {β : Type} {l : List β} {i : Nat} {x : β} (h : l[i]? = some x) : l.set i x = l := by
  apply List.ext_getElem?
  intro j
  rw [List.getElem?_set]
  split
  · rename_i e; subst e; rw [if_pos (List.getElem?_eq_some_iff.1 h).1]; exact h.symm
  · rfl
/-! ### Iterators whose list is not known ahead -/
section iter
variable {α : Type} {f : FuncId} {Γ' : List HProp}
/-- A call of y with x, behind those of pre, does what a round does. -/
def YieldG (P : Program) (y : Value) (enc : α → List Value) (J JB : List α → HProp) (hF : Hp) (ok : List α → Prop) : Prop :=
  ∀ pre x hF', ok (pre ++ [x]) → le hF hF' → VOk P y (enc x) [J pre] hF' (fun v Γ => (v = .bool true ∧ Γ = [J (pre ++ [x])]) ∨ (v = .bool false ∧ Γ = [JB (pre ++ [x])]))
theorem YieldG.mono {y : Value} {enc : α → List Value} {J JB : List α → HProp} {hF hF' : Hp} {ok : List α → Prop} (h : YieldG P y enc J JB hF ok) (hl : le hF hF') : YieldG P y enc J JB hF' ok := fun pre x hF'' hp hle => h pre x hF'' hp (hl.trans hle)
/-- The function value f (with what it has captured) tells these, one behind the other, until a round says no. -/
def IterG (P : Program) (f : FuncId) (first cap : Array Value) (enc : α → List Value) (ok fin : List α → Prop) (Γc : List HProp) (Rc : List HProp → Prop) (hF : Hp) : Prop :=
  ∀ y J JB hF', le hF hF' → YieldG P y enc J JB hF' ok → FnOk P f (first.toList ++ [y] ++ cap.toList) (J [] :: Γc) hF' (fun _ Γ => ∃ Γc', Rc Γc' ∧ ((∃ all, fin all ∧ Γ = J all :: Γc') ∨ ∃ pre, ok pre ∧ Γ = JB pre :: Γc'))
theorem G.forRangeG {g : Operand} {f : FuncId} {first cap : Array Value} {ps : List Tmp} {assign body : Code} {enc : α → List Value} {ok fin : List α → Prop} {Γc : List HProp} {Rc : List HProp → Prop}
    (Inv : List α → List HProp) (L : Code → List α → List HProp → Prop) (hit : IterG P f first cap enc ok fin Γc Rc cx.hF)
    (hg : ev cx fr g = some (.func (.func f) first cap)) (hc : callable P f = true) (hlen : ∀ x, (enc x).length = ps.length) (hΓ : ∀ hF w, Sat Γ hF w → Sat (Inv [] ++ Γc) hF w)
    (hround : ∀ l pre x hF1 w0, ok (pre ++ [x]) → le cx.hF hF1 → G P ⟨cx.N, [], hF1, w0, some l⟩ assign (Exit.then (toBody P cx.N l cx.hF body (fun Γ2 => Γ2 = Inv (pre ++ [x])) (fun c Γ2 => L c (pre ++ [x]) Γ2) ⟨cx.N, [], hF1, w0, some l⟩) (fun _ _ _ => False)) (updsP ps (enc x) fr) (Inv pre))
    (hdone : ∀ D Γc' all, Rc Γc' → fin all → GQ { cx with ds := mark D :: cx.ds } Q .normal fr (pt D (.deferred (some [])) :: (Inv all ++ Γc')))
    (hleft : ∀ D Γc' c pre Γ2, Rc Γc' → ok pre → L c pre Γ2 → G P { cx with ds := mark D :: cx.ds } c Q fr (pt D (.deferred (some [])) :: (Γ2 ++ Γc')))
    (hro : cx.ro = none := by rfl) : G P cx (.rangeFunc g ps.toArray assign body) Q fr Γ := by
  refine G.rangeFunc (fun pd Γ2 => match pd with
    | none => ∃ Γc' all, Rc Γc' ∧ fin all ∧ Γ2 = Inv all ++ Γc'
    | some c => ∃ Γc' pre Γ3, Rc Γc' ∧ ok pre ∧ L c pre Γ3 ∧ Γ2 = Γ3 ++ Γc') hro hg hc ?_ ?_ ?_
  · intro l D fn T hF' hle hT hS
    obtain ⟨rr, hrr⟩ : ∃ rr : LoopState → Option Code → Loop, rr = lrec fn T ps assign body D := ⟨_, rfl⟩
    have hy : YieldG P (yv l) enc (fun pre => star (lp l (rr .ready none) :: Inv pre)) (fun pre => exs (fun x : Code × List HProp => L x.1 pre x.2) (fun x => lp l (rr .done (some x.1)) :: x.2)) hF' ok := by
      intro pre x hF'' hpre hle2
      refine VOk.weak (Γ := lp l (rr .ready none) :: Inv pre) (fun w hs => by have := hs.unstar; rw [List.append_nil] at this; exact this) ?_ (VOk.round (N := cx.N) (fr := fr) (ps := ps) (assign := assign) (body := body) (r := rr .ready none) (C := fun Γ2 => Γ2 = Inv (pre ++ [x])) (L := fun c Γ2 => L c (pre ++ [x]) Γ2) (by rw [hrr]; rfl) (hlen x) (by rw [hrr]; exact hT) (by rw [hrr]; exact hS) (by rw [hrr]; rfl) (by rw [hrr]; rfl) (by rw [hrr]; rfl) ?_)
      · rintro v Γ' (⟨rfl, Γ2, rfl, rfl⟩ | ⟨rfl, c, Γ2, hL, rfl⟩) w hs
        · refine ⟨_, .inl ⟨rfl, rfl⟩, Sat.star_mk ?_⟩
          rw [List.append_nil]
          have e : ({ rr .ready none with state := .ready, pending := none } : Loop) = rr .ready none := by rw [hrr]; rfl
          rw [e] at hs; exact hs
        · refine ⟨_, .inr ⟨rfl, rfl⟩, Sat.shut (c, Γ2) hL ?_⟩
          rw [List.append_nil]
          have e : ({ rr .ready none with state := .done, pending := some c } : Loop) = rr .done (some c) := by rw [hrr]; rfl
          rw [e] at hs; exact hs
      · intro hF1 w0 hle3
        have h := hround l pre x hF1 w0 hpre (hle.trans (hle2.trans hle3))
        refine fun a w s => wpIn_mono (h a w s) fun e a w q => ?_
        cases e with
        | normal => obtain ⟨fr1, Γ1, h1, h2⟩ := q; exact ⟨fr1, Γ1, h1, fun hF2 w0 hl => h2 hF2 w0 (hle.trans (hle2.trans hl))⟩
        | _ => exact q.elim
    have h := hit (yv l) _ _ hF' hle hy
    refine FnOk.weak (fun w hs => ?_) ?_ h
    · have hs := (hs.perm (List.perm_append_comm (l₁ := [_]))).perm (List.Perm.refl _)
      obtain ⟨hF'', _, _, h2, hback⟩ := (hs : Sat (Γ ++ [lp l (lrec fn T ps assign body D .ready none)]) hF' w).call
      have h3 := hback _ _ (hΓ _ _ h2)
      have h4 : Sat ((lp l (rr .ready none) :: Inv []) ++ Γc) hF' w := by
        rw [hrr]
        refine h3.perm ?_
        rw [List.cons_append]
        exact List.perm_append_comm (l₁ := Inv [] ++ Γc)
      exact h4.star_mk
    · rintro v Γ' ⟨Γc', hRc, ⟨all, hfin, rfl⟩ | ⟨pre, hpre, rfl⟩⟩ w hs
      · exact ⟨_, ⟨.ready, none, Inv all ++ Γc', by simp, ⟨Γc', all, hRc, hfin, rfl⟩, rfl⟩, by have := hs.unstar; rw [hrr] at this; exact this⟩
      · obtain ⟨⟨c, Γ3⟩, hL, hs⟩ := hs.opens
        exact ⟨_, ⟨.done, some c, Γ3 ++ Γc', by simp, ⟨Γc', pre, Γ3, hRc, hpre, hL, rfl⟩, rfl⟩, by rw [hrr] at hs; exact hs⟩
  · rintro D Γ2 ⟨Γc', all, hRc, hfin, rfl⟩; exact hdone D Γc' all hRc hfin
  · rintro D c Γ2 ⟨Γc', pre, Γ3, hRc, hpre, hL, rfl⟩; exact hleft D Γc' c pre Γ3 hRc hpre hL
end iter
end Go.Sl
