/- The engine, part Q: a function's results, in slots or in memory, one or more; the chunks are let go at the end. -/
import Derived.Test.YtabbonafljochaaGreatDoorEnP
namespace Go.Sl
variable {P : Program} {cx : Cx} {fr : Fr} {Γ Γ' : List HProp}
def RvAt (P : Program) (tmps : Array Value) (w : World) : ResultVar → Value → Prop
  | .tmp t, v => tmps.getD t undef = v
  | .cell a t, v => ∃ ad, tmps.getD a undef = .pointer (some ad) ∧ (loadVar t ad).run P w = .ok v w
def Rv (P : Program) (cx : Cx) (fr : Fr) (Γ : List HProp) (r : ResultVar) (v : Value) : Prop := ∀ a w, St cx fr Γ a w → RvAt P a.tmps w r v
theorem Rv.tmp {t : Nat} {v : Value} (hv : ev cx fr (.tmp t) = some v) : Rv P cx fr Γ (.tmp t) v := fun _ _ s => s.tmp hv
section
variable {t b o : Nat} {tt e : TypeId} {l A : List Value} {fz : Nat × Nat} {v : Value}
theorem Rv.cell (hv : ev cx fr (.tmp t) = some (.pointer (some ⟨b, o, none⟩))) (hs : isRow P tt = some false) (hr : Rd Γ cx.hF b (.cells ⟨l⟩ e fz)) (hl : l[o]? = some v) : Rv P cx fr Γ (.cell t tt) v := fun a w s => by
  have h1 := s.tmp hv
  have hc : w.cell? ⟨b, o, none⟩ = some v := by rw [cell_of (hr w s.heap)]; exact hl
  exact ⟨_, h1, by simp [loadVar, run_isAgg hs, hc]⟩
theorem Rv.row (hv : ev cx fr (.tmp t) = some (.pointer (some ⟨b, o, none⟩))) (hs : isRow P tt = some true) (hn : tsize P tt = some A.length) (hr : Rd Γ cx.hF b (.cells ⟨l⟩ e fz)) (hA : At l o A) : Rv P cx fr Γ (.cell t tt) (.agg ⟨A⟩) := fun a w s => by
  have h1 := s.tmp hv
  exact ⟨_, h1, run_loadVar_at hs hn (hr w s.heap) hA⟩
end
section
variable {fn : Func} {R : Value → List HProp → Prop} {hF : Hp} {w0 : World} {N : Nat} {ds : List Deferred} {r1 r2 r3 : ResultVar} {v1 v2 v3 : Value}
theorem res1 {tmps : Array Value} {w : World} (h : fn.results = #[r1]) (h1 : RvAt P tmps w r1 v1) : (results fn tmps).run P w = .ok v1 w := by
  cases r1 with
  | tmp t => cases h1; simp [results, h]
  | cell a t => obtain ⟨ad, q1, q2⟩ := h1; simp at q1; simp [results, h, q1, asAddr, q2]
theorem res2 {tmps : Array Value} {w : World} (h : fn.results = #[r1, r2]) (h1 : RvAt P tmps w r1 v1) (h2 : RvAt P tmps w r2 v2) : (results fn tmps).run P w = .ok (.tuple #[v1, v2]) w := by
  have key : ∀ r v, RvAt P tmps w r v → (∃ t, r = .tmp t ∧ tmps[t]?.getD undef = v) ∨ ∃ a t ad, r = .cell a t ∧ tmps[a]?.getD undef = .pointer (some ad) ∧ (loadVar t ad).run P w = .ok v w := fun r v hr => by
    cases r with
    | tmp t => exact .inl ⟨t, rfl, by simpa [RvAt] using hr⟩
    | cell a t => obtain ⟨ad, q1, q2⟩ := hr; exact .inr ⟨a, t, ad, rfl, by simpa using q1, q2⟩
  rcases key _ _ h1 with ⟨t, rfl, q1⟩ | ⟨a, t, ad, rfl, q1, q2⟩ <;> rcases key _ _ h2 with ⟨t', rfl, q3⟩ | ⟨a', t', ad', rfl, q3, q4⟩ <;> simp [results, asAddr, *]
theorem res3 {tmps : Array Value} {w : World} (h : fn.results = #[r1, r2, r3]) (h1 : RvAt P tmps w r1 v1) (h2 : RvAt P tmps w r2 v2) (h3 : RvAt P tmps w r3 v3) : (results fn tmps).run P w = .ok (.tuple #[v1, v2, v3]) w := by
  have key : ∀ r v, RvAt P tmps w r v → (∃ t, r = .tmp t ∧ tmps[t]?.getD undef = v) ∨ ∃ a t ad, r = .cell a t ∧ tmps[a]?.getD undef = .pointer (some ad) ∧ (loadVar t ad).run P w = .ok v w := fun r v hr => by
    cases r with
    | tmp t => exact .inl ⟨t, rfl, by simpa [RvAt] using hr⟩
    | cell a t => obtain ⟨ad, q1, q2⟩ := hr; exact .inr ⟨a, t, ad, rfl, by simpa using q1, q2⟩
  rcases key _ _ h1 with ⟨t, rfl, q1⟩ | ⟨a, t, ad, rfl, q1, q2⟩ <;> rcases key _ _ h2 with ⟨t', rfl, q3⟩ | ⟨a', t', ad', rfl, q3, q4⟩ <;> rcases key _ _ h3 with ⟨t'', rfl, q5⟩ | ⟨a'', t'', ad'', rfl, q5, q6⟩ <;> simp [results, asAddr, *]
theorem end_w (v : Value) (hres : ∀ a w, St ⟨N, [], hF, w0, none⟩ fr Γ a w → (results fn a.tmps).run P w = .ok v w) (hg : ∀ w, Sat Γ hF w → Sat Γ' hF w) (hR : R v Γ') :
    GQ ⟨N, [], hF, w0, none⟩ (bodyPost P fn (Ret hF w0 R)) .ret fr Γ := fun a w s => ⟨s.defers, v, hres a w s, v, Γ', rfl, hR, hg w s.heap, s.same⟩
theorem GQ.fin0 (h : fn.results = #[]) (hg : ∀ w, Sat Γ hF w → Sat Γ' hF w) (hR : R (.tuple #[]) Γ') : GQ ⟨N, [], hF, w0, none⟩ (bodyPost P fn (Ret hF w0 R)) .ret fr Γ := end_w _ (fun a w _ => results_none h a.tmps P w) hg hR
theorem GQ.fin0' (h : fn.results = #[]) (hg : ∀ w, Sat Γ hF w → Sat Γ' hF w) (hR : R (.tuple #[]) Γ') : GQ ⟨N, [], hF, w0, none⟩ (bodyPost P fn (Ret hF w0 R)) .normal fr Γ := GQ.fin0 h hg hR
theorem GQ.fin1 (h : fn.results = #[r1]) (h1 : Rv P ⟨N, [], hF, w0, none⟩ fr Γ r1 v1) (hg : ∀ w, Sat Γ hF w → Sat Γ' hF w) (hR : R v1 Γ') : GQ ⟨N, [], hF, w0, none⟩ (bodyPost P fn (Ret hF w0 R)) .ret fr Γ := end_w _ (fun a w s => res1 h (h1 a w s)) hg hR
theorem GQ.fin2 (h : fn.results = #[r1, r2]) (h1 : Rv P ⟨N, [], hF, w0, none⟩ fr Γ r1 v1) (h2 : Rv P ⟨N, [], hF, w0, none⟩ fr Γ r2 v2) (hg : ∀ w, Sat Γ hF w → Sat Γ' hF w) (hR : R (.tuple #[v1, v2]) Γ') : GQ ⟨N, [], hF, w0, none⟩ (bodyPost P fn (Ret hF w0 R)) .ret fr Γ := end_w _ (fun a w s => res2 h (h1 a w s) (h2 a w s)) hg hR
theorem GQ.fin3 (h : fn.results = #[r1, r2, r3]) (h1 : Rv P ⟨N, [], hF, w0, none⟩ fr Γ r1 v1) (h2 : Rv P ⟨N, [], hF, w0, none⟩ fr Γ r2 v2) (h3 : Rv P ⟨N, [], hF, w0, none⟩ fr Γ r3 v3) (hg : ∀ w, Sat Γ hF w → Sat Γ' hF w) (hR : R (.tuple #[v1, v2, v3]) Γ') : GQ ⟨N, [], hF, w0, none⟩ (bodyPost P fn (Ret hF w0 R)) .ret fr Γ := end_w _ (fun a w s => res3 h (h1 a w s) (h2 a w s) (h3 a w s)) hg hR
theorem out_w (v : Value) (hres : ∀ a w, St ⟨N, ds, hF, w0, none⟩ fr Γ a w → (results fn a.tmps).run P w = .ok v w) (hg : ∀ w, Sat Γ hF w → Sat Γ' hF w) (hR : R v Γ') : GK ⟨N, ds, hF, w0, none⟩ (Lv P fn (Ret hF w0 R) []) fr Γ :=
  fun a w s => ⟨v, hres a w s, v, Γ', rfl, hR, hg w s.heap, s.same⟩
theorem GK.fin1 (h : fn.results = #[r1]) (h1 : Rv P ⟨N, ds, hF, w0, none⟩ fr Γ r1 v1) (hg : ∀ w, Sat Γ hF w → Sat Γ' hF w) (hR : R v1 Γ') : GK ⟨N, ds, hF, w0, none⟩ (Lv P fn (Ret hF w0 R) []) fr Γ := out_w _ (fun a w s => res1 h (h1 a w s)) hg hR
theorem GK.fin2 (h : fn.results = #[r1, r2]) (h1 : Rv P ⟨N, ds, hF, w0, none⟩ fr Γ r1 v1) (h2 : Rv P ⟨N, ds, hF, w0, none⟩ fr Γ r2 v2) (hg : ∀ w, Sat Γ hF w → Sat Γ' hF w) (hR : R (.tuple #[v1, v2]) Γ') : GK ⟨N, ds, hF, w0, none⟩ (Lv P fn (Ret hF w0 R) []) fr Γ := out_w _ (fun a w s => res2 h (h1 a w s) (h2 a w s)) hg hR
end
/-! ### roads that meet within a statement -/
section
variable {Q Q' : Exit → Act → World → Prop} {ops : Array Oper} {K : Act → World → Prop}
theorem Oper.wpIn_monoQ {F : Fence} {n : Nat} {o : Oper} {a : Act} {w : World} (h : ∀ e a w, Q e a w → Q' e a w) (hh : o.wpIn F n P a w K Q) : o.wpIn F n P a w K Q' := by
  unfold Oper.wpIn at *
  refine ⟨hh.1, ?_⟩
  have hh := hh.2
  have hlets : LetsOut Q → LetsOut Q' := fun ⟨a, w, q⟩ => ⟨a, w, h _ _ _ q⟩
  generalize (o.semAt F.round a.eval).run P w = r at *
  cases r with
  | ok x w' =>
    cases x <;> simp only [Oper.uponIn] at hh ⊢ <;>
      first
        | exact hh
        | exact ⟨hh.1, CallsIn.mono hh.2 (fun e w'' he => by cases e <;> first | exact he | exact h _ _ _ he | exact hlets he)⟩
        | exact ⟨hh.1, RowsIn.mono hh.2 (fun _ _ he => he)⟩
        | exact ⟨hh.1, RoundIn.mono hh.2 (fun e w'' he => by cases e <;> first | exact he | exact h _ _ _ he | exact hlets he)⟩
  | halt x w' => cases x <;> simp only [Oper.uponIn] at hh ⊢ <;> exact h _ _ _ hh
theorem wpListIn_mono {F : Fence} {n : Nat} (h : ∀ e a w, Q e a w → Q' e a w) : ∀ (l : List Oper) (a : Act) (w : World), wpListIn F n P ops Q l a w → wpListIn F n P ops Q' l a w
  | [], a, w, hh => h _ _ _ hh
  | o :: l, a, w, hh => by
    simp only [wpListIn] at hh ⊢
    split
    · rename_i e; simp only [e, if_true] at hh
      exact Oper.wpIn_mono (fun a w q => wpListIn_mono h l a w q) (Oper.wpIn_monoQ h hh)
    · rename_i e; simp only [e] at hh
      exact ⟨hh.1, wpListIn_mono h l _ _ hh.2⟩
theorem GL.cut {X : Type} (F : X → Fr) (M : X → List HProp) (I : X → Prop) {l : List Oper} (h2 : ∀ y, I y → GK cx K (F y) (M y))
    (h1 : GL P cx ops l (Exit.then (fun a w => ∃ y, I y ∧ St cx (F y) (M y) a w) Q) fr Γ) : GL P cx ops l (Exit.then K Q) fr Γ := fun a w s => by
  refine wpListIn_mono (fun e a w h => ?_) l a w (h1 a w s)
  cases e with
  | normal => obtain ⟨y, hy, st⟩ := h; exact h2 y hy a w st
  | _ => exact h
end
end Go.Sl
