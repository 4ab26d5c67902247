/- The evaluator, parts Z S X1. -/
import Derived.Test.YtabbonafljochaaGreatDoorEvR
import Derived.RecoverIn
set_option linter.unusedSimpArgs false
set_option linter.unusedVariables false
namespace Go.Ev
open Go.Sl
noncomputable section
variable {P : Program}
/-- How the frame below goes on. -/
inductive Md where
  | ret
  | pan (v : AV)
  | rcd
def MdR (ρ : Env) : Md → FrameMode → Prop
  | .ret, u => u = .returning
  | .pan v, u => ∃ r, ren ρ v = some r ∧ u = .panicking [{ v := r, recovered := false }]
  | .rcd, u => ∃ r : Value, u = .panicking [{ v := r, recovered := true }]
theorem MdR.ext {ρ ρ' : Env} {m : Md} {u : FrameMode} (h : MdR ρ m u) (x : Ext ρ ρ') : MdR ρ' m u := by
  cases m with
  | ret => exact h
  | pan v => obtain ⟨r, h1, h2⟩ := h; exact ⟨r, ren_ext x h1, h2⟩
  | rcd => exact h
abbrev KtD := Ex → Tr AV → List AD → Mem → Nat → Md → Bool
def PostD (T : Tabs P) (c : Cn) (ρ : Env) (c₀ : Frame) (rest : List Frame) (K : KtD) : Exit → Act → List Frame → World → Prop := fun e a cs w =>
  ∃ ρ' x fr ds M md u, Ext ρ ρ' ∧ ExR ρ' x e ∧ K x fr ds M ρ'.length md = true ∧ Rl T c ρ' fr ds M ρ'.length a w ∧ cs = { c₀ with mode := u } :: rest ∧ MdR ρ' md u
theorem PostD.mono {T : Tabs P} {c : Cn} {ρ ρ' : Env} {c₀ : Frame} {rest : List Frame} {K : KtD} {e : Exit} {a : Act} {cs : List Frame} {w : World} (x : Ext ρ ρ') (h : PostD T c ρ' c₀ rest K e a cs w) : PostD T c ρ c₀ rest K e a cs w := by
  obtain ⟨ρ'', x', fr, ds, M, md, u, h1, h2⟩ := h
  exact ⟨ρ'', x', fr, ds, M, md, u, x.trans h1, h2⟩
def recOpK (P : Program) (T : Tabs P) (N : Nat) (fr : Tr AV) (ds : List AD) (M : Mem) (nx : Nat) (md : Md) (d : Option Tmp) (op : Op) (k : Tr AV → List AD → Mem → Nat → Md → Bool) : Bool := match op with
  | .call c => (match c with
    | ⟨.builtin .recover, _, _⟩ => (match md with
      | .pan v => putK N fr d v fun fr' => k fr' ds M nx .rcd
      | .ret => putK N fr d .nili fun fr' => k fr' ds M nx .ret
      | .rcd => false)
    | c => opK P T fr M nx (.call c) fun v M' nx' => putK N fr d v fun fr' => k fr' ds M' nx' md)
  | .defer _ => false
  | op => opK P T fr M nx op fun v M' nx' => putK N fr d v fun fr' => k fr' ds M' nx' md
def recListK (P : Program) (T : Tabs P) (N : Nat) (ops : List Oper) (K : KtD) (l : List Oper) : Tr AV → List AD → Mem → Nat → Md → Bool := List.rec (fun fr ds M nx md => K .normal fr ds M nx md)
  (fun o _ rec fr ds M nx md => Oper.rec (fun d op _ _ _ g => wantK ops fr g (recOpK P T N fr ds M nx md d op rec) (putK N fr d (.tup []) fun fr' => rec fr' ds M nx md)) o) l
section
variable {T : Tabs P} {c : Cn}
theorem recListK_spec {N : Nat} {ops : List Oper} {K : KtD} {c₀ : Frame} {rest : List Frame} (hN : c.N = N) :
    ∀ {l pre : List Oper} {ρ : Env} {fr : Tr AV} {ds : List AD} {M : Mem} {nx : Nat} {md : Md} {u : FrameMode} {a : Act} {w : World}, recListK P T N ops K l fr ds M nx md = true → ops = pre ++ l → Rl T c ρ fr ds M nx a w → MdR ρ md u →
      wpOpsSIn (FW none) 0 P ops.toArray (PostD T c ρ c₀ rest K) (List.range' pre.length l.length) a ({ c₀ with mode := u } :: rest) w
  | [], pre, ρ, fr, ds, M, nx, md, u, a, w, h, e, s, hm => by
    have s' := s.nx
    subst s'
    exact ⟨ρ, .normal, fr, ds, M, md, u, .refl ρ, rfl, h, s, rfl, hm⟩
  | ⟨d, op, ty, pos, af, g⟩ :: l, pre, ρ, fr, ds, M, nx, md, u, a, w, h, e, s, hm => by
    have s' := s.nx
    subst s'
    obtain ⟨b, h1, h2⟩ := wantK_spec (show wantK ops fr g (recOpK P T N fr ds M ρ.length md d op (recListK P T N ops K l)) (putK N fr d (.tup []) fun fr' => recListK P T N ops K l fr' ds M ρ.length md) = true from h) s.slots
    have ho : ops.toArray[pre.length]? = some ⟨d, op, ty, pos, af, g⟩ := by subst e; simp
    have e' : ops = (pre ++ [⟨d, op, ty, pos, af, g⟩]) ++ l := by rw [e]; simp
    have mono : ∀ {ρ' : Env} {js : List Nat} {a : Act} {cs : List Frame} {w : World}, Ext ρ ρ' → wpOpsSIn (FW none) 0 P ops.toArray (PostD T c ρ' c₀ rest K) js a cs w → wpOpsSIn (FW none) 0 P ops.toArray (PostD T c ρ c₀ rest K) js a cs w := by
      intro ρ' js
      induction js with
      | nil => intro a cs w x h; exact PostD.mono x h
      | cons j js ih =>
        intro a cs w x h
        simp only [wpOpsSIn] at h ⊢
        split at h
        · exact ih x h
        · refine ⟨h.1, ?_⟩
          have h := h.2
          split at h
          · rename_i hw
            rw [if_pos hw]
            split at h
            · split at h
              · exact ih x h
              · exact ih x h
            · exact ih x h
            · exact ih x h
            · exact PostD.mono x h
            · exact h.elim
          · rename_i hw
            rw [if_neg hw]
            exact ih x h
    have step : ∀ {ρ' : Env} {fr' : Tr AV} {ds' : List AD} {M' : Mem} {md' : Md} {u' : FrameMode} {a' : Act} {w' : World}, Ext ρ ρ' → recListK P T N ops K l fr' ds' M' ρ'.length md' = true → Rl T c ρ' fr' ds' M' ρ'.length a' w' → MdR ρ' md' u' →
        wpOpsSIn (FW none) 0 P ops.toArray (PostD T c ρ c₀ rest K) (List.range' (pre.length + 1) l.length) a' ({ c₀ with mode := u' } :: rest) w' := fun x h s m => mono x (by
      have := recListK_spec hN h e' s m (c₀ := c₀) (rest := rest)
      simpa using this)
    simp only [List.length_cons, List.range'_succ, wpOpsSIn, ho]
    refine ⟨fun _ _ => trivial, ?_⟩
    cases b with
    | false =>
      rw [if_neg (by rw [h2]; simp)]
      obtain ⟨fr', g1, g2⟩ := putK_spec (N := N) (show putK N fr d (.tup []) (fun fr' => recListK P T N ops K l fr' ds M ρ.length md) = true from h1) (by rw [s.size, hN]) s.slots (r := undef) rfl
      exact step (.refl ρ) g1 ⟨by rw [put_size]; exact s.size, g2, by rw [put_defers]; exact s.dfs, s.rep, rfl, s.same, s.glob⟩ hm
    | true =>
      rw [if_pos (h2 _ _ _ _ _)]
      have plain : opK P T fr M ρ.length op (fun v M' nx' => putK N fr d v fun fr' => recListK P T N ops K l fr' ds M' nx' md) = true → ∃ n r w', (n = Next.value r ∨ (n = .skip ∧ r = undef)) ∧ (execOp a.eval ⟨d, op, ty, pos, af, g⟩).run P w = .ok n w' ∧ wpOpsSIn (FW none) 0 P ops.toArray (PostD T c ρ c₀ rest K) (List.range' (pre.length + 1) l.length) (a.put d r) ({ c₀ with mode := u } :: rest) w' := fun h3 => by
        obtain ⟨v, r, ρ', M', w', n, p1, p2, p3, p4, p5, p6, p7⟩ := opK_spec h3 s
        have p7 := p7 ⟨d, op, ty, pos, af, g⟩ rfl
        obtain ⟨fr', g1, g2⟩ := putK_spec (N := N) p3 (by rw [s.size, hN]) (s.slots.ext p1) p2
        have hs : Rl T c ρ' fr' ds M' ρ'.length (a.put d r) w' := ⟨by rw [put_size]; exact s.size, g2, by rw [put_defers]; exact renD_ext p1 s.dfs, p4, rfl, s.same.trans p5, fun g i e => p1.get (s.glob g i e)⟩
        exact ⟨n, r, w', p6, p7, step p1 g1 hs (hm.ext p1)⟩
      cases op with
      | call cl =>
        obtain ⟨cal, xs, ts⟩ := cl
        cases cal with
        | builtin b =>
          by_cases hb : b = .recover
          · subst hb
            have hr : (execOp a.eval ⟨d, .call ⟨.builtin .recover, xs, ts⟩, ty, pos, af, g⟩).run P w = .ok .recover w := by
              rfl
            rw [hr]
            cases md with
            | rcd => cases h1
            | ret =>
              obtain rfl := hm
              obtain ⟨fr', g1, g2⟩ := putK_spec (N := N) (show putK N fr d .nili (fun fr' => recListK P T N ops K l fr' ds M ρ.length .ret) = true from h1) (by rw [s.size, hN]) s.slots (r := .nilIface) rfl
              exact step (md' := .ret) (.refl ρ) g1 ⟨by rw [put_size]; exact s.size, g2, by rw [put_defers]; exact s.dfs, s.rep, rfl, s.same, s.glob⟩ rfl
            | pan v =>
              obtain ⟨r, hv, rfl⟩ := hm
              obtain ⟨fr', g1, g2⟩ := putK_spec (N := N) (show putK N fr d v (fun fr' => recListK P T N ops K l fr' ds M ρ.length .rcd) = true from h1) (by rw [s.size, hN]) s.slots hv
              exact step (md' := .rcd) (u' := .panicking [{ v := r, recovered := true }]) (.refl ρ) g1 ⟨by rw [put_size]; exact s.size, g2, by rw [put_defers]; exact s.dfs, s.rep, rfl, s.same, s.glob⟩ ⟨r, rfl⟩
          · obtain ⟨n, r, w', hn, hr, hq⟩ := plain (by cases b <;> first | exact absurd rfl hb | exact h1)
            rw [hr]; rcases hn with rfl | ⟨rfl, rfl⟩ <;> exact hq
        | value f => cases h1
        | invoke r m => cases h1
      | defer cl => cases h1
      | _ =>
        obtain ⟨n, r, w', hn, hr, hq⟩ := plain h1
        rw [hr]; rcases hn with rfl | ⟨rfl, rfl⟩ <;> exact hq
end
def hasRec (ops : List Oper) : Bool := List.rec false (fun o _ ih => Oper.rec (fun _ op _ _ _ _ => match op with
  | .call ⟨.builtin .recover, _, _⟩ => true
  | _ => ih) o) ops
def recF (P : Program) (T : Tabs P) (ih : EvT) (N : Nat) (n : Nat) : Code → Tr AV → List AD → Mem → Nat → Md → KtD → Bool := Nat.rec (fun _ _ _ _ _ _ _ => false) (fun _ rec code fr ds M nx md K => match code with
  | .region _ ⟨ops⟩ false => Bool.rec (ih code N false fr ds M nx fun e fr ds M nx => K e fr ds M nx md) (recListK P T N ops K ops fr ds M nx md) (hasRec ops)
  | .seq x y => rec x fr ds M nx md fun e fr ds M nx md => match e with
    | .normal => rec y fr ds M nx md K
    | e => K e fr ds M nx md
  | .cond b x y => argK T fr b fun v => match v with
    | .bool b => Bool.rec (rec y fr ds M nx md K) (rec x fr ds M nx md K) b
    | _ => false
  | code => ih code N false fr ds M nx fun e fr ds M nx => K e fr ds M nx md) n
theorem recF_spec {T : Tabs P} {ih : EvT} (hih : Good T ih) {N : Nat} : ∀ {n : Nat} {code : Code} {fr : Tr AV} {ds : List AD} {M : Mem} {nx : Nat} {md : Md} {K : KtD}, recF P T ih N n code fr ds M nx md K = true →
    ∀ {c : Cn} {ρ : Env} {a : Act} {w : World} {u : FrameMode} (c₀ : Frame) (rest : List Frame), c.N = N → c.ro = none → Rl T c ρ fr ds M nx a w → MdR ρ md u → code.wpSIn (FW none) 0 P (PostD T c ρ c₀ rest K) a ({ c₀ with mode := u } :: rest) w
  | 0, code, fr, ds, M, nx, md, K, h, c, ρ, a, w, u, c₀, rest, hN, hro, s, hm => by cases h
  | n + 1, code, fr, ds, M, nx, md, K, h, c, ρ, a, w, u, c₀, rest, hN, hro, s, hm => by
    have plain : (ih code N false fr ds M nx fun e fr ds M nx => K e fr ds M nx md) = true → code.wpSIn (FW none) 0 P (PostD T c ρ c₀ rest K) a ({ c₀ with mode := u } :: rest) w := fun h => by
      refine wpSIn_of_wpIn rfl ?_
      have := hih _ _ _ _ _ _ _ _ h c ρ a w hN (fun _ => hro) s
      rw [hro] at this
      refine wpIn_mono this ?_
      rintro e a w ⟨ρ', x, fr', ds', M', p1, p2, p3, p4⟩
      exact ⟨ρ', x, fr', ds', M', md, u, p1, p2, p3, p4, rfl, hm.ext p1⟩
    cases code with
    | region id ops draw =>
      obtain ⟨ops⟩ := ops
      cases draw with
      | true => exact plain h
      | false =>
        have h : (Bool.rec (ih (.region id ⟨ops⟩ false) N false fr ds M nx fun e fr ds M nx => K e fr ds M nx md) (recListK P T N ops K ops fr ds M nx md) (hasRec ops) : Bool) = true := h
        cases q : hasRec ops with
        | false => rw [q] at h; exact plain h
        | true =>
          rw [q] at h
          refine wpSIn_region ?_
          have := recListK_spec (c₀ := c₀) (rest := rest) hN (pre := []) h rfl s hm
          rw [List.range_eq_range']
          exact this
    | seq x y =>
      refine wpSIn_seq ?_
      have h1 := recF_spec hih (show recF P T ih N n x fr ds M nx md (fun e fr ds M nx md => match e with
        | .normal => recF P T ih N n y fr ds M nx md K
        | e => K e fr ds M nx md) = true from h) c₀ rest hN hro s hm
      intro b k q1 q2 q3 q4
      obtain ⟨e, a', cs', w', z1, z2, z3⟩ := h1 b k q1 q2 q3 q4
      refine ⟨e, a', cs', w', z1, ?_, z3⟩
      obtain ⟨ρ', x', fr', ds', M', md', u', p1, p2, p3, p4, rfl, p5⟩ := z2
      cases x' with
      | normal =>
        obtain rfl := p2
        show (y.wpSIn _ _ _ _ _ _ _)
        have h2 := recF_spec hih p3 c₀ rest hN hro p4 p5
        intro b k q1 q2 q3 q4
        obtain ⟨e, a', cs', w', z1, z2, z3⟩ := h2 b k q1 q2 q3 q4
        exact ⟨e, a', cs', w', z1, z2.mono p1, z3⟩
      | exit id => obtain rfl := p2; exact ⟨ρ', .exit id, fr', ds', M', md', u', p1, rfl, p3, p4, rfl, p5⟩
      | ret => obtain rfl := p2; exact ⟨ρ', .ret, fr', ds', M', md', u', p1, rfl, p3, p4, rfl, p5⟩
      | pan v => obtain ⟨r, p6, rfl⟩ := p2; exact ⟨ρ', .pan v, fr', ds', M', md', u', p1, ⟨r, p6, rfl⟩, p3, p4, rfl, p5⟩
    | cond b x y =>
      obtain ⟨v, r, h1, h2⟩ := argK_spec (show argK T fr b (fun v => match v with
        | .bool b => Bool.rec (recF P T ih N n y fr ds M nx md K) (recF P T ih N n x fr ds M nx md K) b
        | _ => false) = true from h) s
      cases v <;> try (cases h2; done)
      rename_i b
      obtain rfl : r = .bool b := by simpa [ren] using h1.ren.symm
      cases b with
      | false => exact wpSIn_cond (t := false) h1.eval (recF_spec hih h2 c₀ rest hN hro s hm)
      | true => exact wpSIn_cond (t := true) h1.eval (recF_spec hih h2 c₀ rest hN hro s hm)
    | _ => exact plain h
end
end Go.Ev
set_option linter.unusedSimpArgs false
set_option linter.unusedVariables false
namespace Go.Ev
open Go.Sl
noncomputable section
variable {P : Program}

/-! ### a new frame -/
def slotsK (vs : List AV) : Nat → Tr AV → (Tr AV → Bool) → Bool := List.rec (fun _ fr k => k fr) (fun v _ ih i fr k => fr.set i v fun fr' => forceN (Nat.succ i) fun i' => ih i' fr' k) vs
theorem slotsK_spec : ∀ {vs : List AV} {i : Nat} {fr : Tr AV} {k : Tr AV → Bool}, slotsK vs i fr k = true → ∃ fr', k fr' = true ∧ ∀ t, fr'.get t = if i ≤ t ∧ t < i + vs.length then vs[t - i]? else fr.get t
  | [], i, fr, k, h => ⟨fr, h, fun t => by rw [if_neg (by simp)]⟩
  | v :: vs, i, fr, k, h => by
    obtain ⟨fr1, h1, h2⟩ := Tr.set_spec (show fr.set i v (fun fr' => forceN (Nat.succ i) fun i' => slotsK vs i' fr' k) = true from h)
    rw [forceN_eq] at h2
    obtain ⟨fr2, h3, h4⟩ := slotsK_spec h2
    refine ⟨fr2, h3, fun t => ?_⟩
    rw [h4, h1]
    simp only [List.length_cons, Nat.succ_eq_add_one]
    by_cases e : t = i
    · subst e; rw [if_neg (by omega), if_pos rfl, if_pos (by omega)]; simp
    · rw [if_neg e]
      by_cases q : i ≤ t ∧ t < i + (vs.length + 1)
      · rw [if_pos (by omega), if_pos q, show t - i = (t - (i + 1)) + 1 by omega]; simp
      · rw [if_neg (by omega), if_neg q]
theorem slots_enter {ρ : Env} {vs : List AV} {rs : List Value} {fr' : Tr AV} {n : Nat} (h : ∀ t, fr'.get t = if 0 ≤ t ∧ t < 0 + vs.length then vs[t - 0]? else (Tr.nil : Tr AV).get t) (hr : RL ρ vs rs) : Fk ρ fr' (rs.toArray ++ Array.replicate n undef) := fun t v e => by
  rw [h] at e
  split at e
  · simp only [Nat.sub_zero] at e
    obtain ⟨r, h1, h2⟩ := hr.get e
    refine ⟨r, ?_, h2⟩
    have hlt : t < rs.length := (List.getElem?_eq_some_iff.1 h1).1
    rw [Array.getElem?_append_left (by simpa using hlt)]
    simpa using h1
  · cases e

/-! ### results -/
def resOneK (T : Tabs P) (fr : Tr AV) (M : Mem) (r : ResultVar) (k : AV → Bool) : Bool := match r with
  | .tmp t => Option.rec false k (fr.get t)
  | .cell a t => Option.rec false (fun v => match v with
    | .ptr i o => Option.rec false (fun ck => Option.rec false (fun l => cutK T t l o k) ck.cells) (M.get i)
    | _ => false) (fr.get a)
def resK (T : Tabs P) (fr : Tr AV) (M : Mem) (rs : Array ResultVar) (k : AV → Bool) : Bool := match rs with
  | ⟨[]⟩ => k (.tup [])
  | ⟨[a]⟩ => resOneK T fr M a k
  | ⟨[a, b]⟩ => resOneK T fr M a fun x => resOneK T fr M b fun y => k (.tup [x, y])
  | ⟨[a, b, c]⟩ => resOneK T fr M a fun x => resOneK T fr M b fun y => resOneK T fr M c fun z => k (.tup [x, y, z])
  | _ => false
variable {T : Tabs P}
theorem resOneK_spec {ρ : Env} {fr : Tr AV} {M : Mem} {r : ResultVar} {k : AV → Bool} (h : resOneK T fr M r k = true) {tmps : Array Value} (hs : Fk ρ fr tmps) {hF : Hp} {w : World} (hr : Rep ρ M hF w) : ∃ v x, ren ρ v = some x ∧ k v = true ∧ RvAt P tmps w r x := by
  cases r with
  | tmp t =>
    obtain ⟨v, h1, h2⟩ := opt_rec h
    obtain ⟨x, h3, h4⟩ := hs t v h1
    exact ⟨v, x, h4, h2, by simp [RvAt, h3]⟩
  | cell a t =>
    obtain ⟨v, h1, h2⟩ := opt_rec h
    obtain ⟨x, h3, h4⟩ := hs a v h1
    cases v <;> try (cases h2; done)
    rename_i i o
    obtain ⟨ck, q1, h2⟩ := opt_rec (show (Option.rec false (fun ck : Ck => Option.rec false (fun l => cutK T t l o k) ck.cells) (M.get i) : Bool) = true from h2)
    obtain ⟨l, q2, h2⟩ := opt_rec h2
    obtain ⟨e, cs, t', fz, vs, he, hb, hl, hA⟩ := hr.cells q1 q2
    simp only [ren, he, Option.map_some, Option.some.injEq] at h4
    subst h4
    rcases cutK_spec h2 hl with ⟨v, r, p1, p2, p3, p4⟩ | ⟨A, B, p1, p2, p3, p4, p5, p6⟩
    · refine ⟨v, r, p3, p4, ⟨e.1, e.2.1 + o, none⟩, by simp [h3], ?_⟩
      have hc : w.cell? ⟨e.1, e.2.1 + o, none⟩ = some r := by
        rw [cell_of hb]; exact hA _ _ p2
      simp [loadVar, Sl.run_isAgg p1, hc]
    · refine ⟨.agg A, .agg ⟨B⟩, by simp [ren, show renL ρ A = some B from p5], p6, ⟨e.1, e.2.1 + o, none⟩, by simp [h3], ?_⟩
      exact run_loadVar_at p1 p2 hb (fun j u hj => by
        have := hA _ _ (p4 j u hj)
        rwa [← Nat.add_assoc] at this)
theorem resK_spec {ρ : Env} {fr : Tr AV} {M : Mem} {fn : Func} {k : AV → Bool} (h : resK T fr M fn.results k = true) {tmps : Array Value} (hs : Fk ρ fr tmps) {hF : Hp} {w : World} (hr : Rep ρ M hF w) : ∃ v x, ren ρ v = some x ∧ k v = true ∧ (results fn tmps).run P w = .ok x w := by
  obtain ⟨l, hl⟩ : ∃ l, fn.results = ⟨l⟩ := ⟨fn.results.toList, by simp⟩
  rw [hl] at h
  match l, hl, h with
  | [], hl, h => exact ⟨.tup [], .tuple #[], rfl, h, results_none hl tmps P w⟩
  | [a], hl, h =>
    obtain ⟨v, x, h1, h2, h3⟩ := resOneK_spec h hs hr
    exact ⟨v, x, h1, h2, res1 hl h3⟩
  | [a, b], hl, h =>
    obtain ⟨v, x, h1, h2, h3⟩ := resOneK_spec (show resOneK T fr M a (fun x => resOneK T fr M b fun y => k (.tup [x, y])) = true from h) hs hr
    obtain ⟨v', x', h4, h5, h6⟩ := resOneK_spec h2 hs hr
    exact ⟨_, .tuple #[x, x'], by simp [ren, renL, h1, h4], h5, res2 hl h3 h6⟩
  | [a, b, c], hl, h =>
    obtain ⟨v, x, h1, h2, h3⟩ := resOneK_spec (show resOneK T fr M a (fun x => resOneK T fr M b fun y => resOneK T fr M c fun z => k (.tup [x, y, z])) = true from h) hs hr
    obtain ⟨v', x', h4, h5, h6⟩ := resOneK_spec h2 hs hr
    obtain ⟨v'', x'', h7, h8, h9⟩ := resOneK_spec h5 hs hr
    exact ⟨_, .tuple #[x, x', x''], by simp [ren, renL, h1, h4, h7], h8, res3 hl h3 h6 h9⟩
  | _ :: _ :: _ :: _ :: _, hl, h => cases h

/-! ### the way out -/
/-- A deferred call, which may call recover, and defers nothing. -/
def callDK (T : Tabs P) (ih : EvT) (f : FuncId) (vs : List AV) (M : Mem) (nx : Nat) (md : Md) (k : Oc → Md → Mem → Nat → Bool) : Bool := Option.rec false (fun fn => Option.rec false (fun body => lenL vs 0 fun n => forceN (Nat.add n (Nat.sub fn.ntmps n)) fun N => slotsK vs 0 .nil fun fr =>
  recF P T ih N 40 body fr [] M nx md fun x fr ds M nx md => List.rec (match x with
    | .normal => resK T fr M fn.results fun v => k (.ret v) md M nx
    | .ret => resK T fr M fn.results fun v => k (.ret v) md M nx
    | .pan v => k (.pan v) md M nx
    | .exit _ => false) (fun _ _ _ => false) ds) fn.body) (T.F f)
def mdOf (mode : Option AV) : Md := Option.rec .ret (fun v => .pan v) mode
def leaveK (T : Tabs P) (ih : EvT) (fn : Func) (fr : Tr AV) (ds : List AD) : Option AV → Mem → Nat → (Oc → Mem → Nat → Bool) → Bool := List.rec
  (fun mode M nx k => Option.rec (resK T fr M fn.results fun v => k (.ret v) M nx) (fun v => k (.pan v) M nx) mode)
  (fun d _ rec mode M nx k => match d with
    | .mark i => Option.rec false (fun ck => match ck with
      | .dfr true => turnK M nx i (.dfr false) fun M' nx' => rec mode M' nx' k
      | _ => false) (M.get i)
    | .call f args caps => appL args caps fun all => callDK T ih f all M nx (mdOf mode) fun oc md M' nx' => match oc with
      | .ret _ => (match md with
        | .ret => rec none M' nx' k
        | .pan v => rec (some v) M' nx' k
        | .rcd => rec none M' nx' k)
      | .pan v => (match md with
        | .ret => rec (some v) M' nx' k
        | _ => false)) ds
def ModeR (ρ : Env) : Option AV → FrameMode → Prop
  | none, u => u = .returning
  | some v, u => ∃ r, ren ρ v = some r ∧ u = .panicking [{ v := r, recovered := false }]
theorem ModeR.ext {ρ ρ' : Env} {m : Option AV} {u : FrameMode} (h : ModeR ρ m u) (x : Ext ρ ρ') : ModeR ρ' m u := by
  cases m with
  | none => exact h
  | some v => obtain ⟨r, h1, h2⟩ := h; exact ⟨r, ren_ext x h1, h2⟩
theorem ModeR.settle {ρ : Env} {m : Option AV} {u : FrameMode} (h : ModeR ρ m u) : settle u = u := by
  cases m with
  | none => rw [show u = _ from h]; rfl
  | some v => obtain ⟨r, h1, rfl⟩ := h; rfl
theorem ModeR.run {ρ : Env} {m : Option AV} {u : FrameMode} (h : ModeR ρ m u) : u ≠ .run := by
  cases m with
  | none => rw [show u = _ from h]; simp
  | some v => obtain ⟨r, h1, rfl⟩ := h; simp
theorem glob_ext {ρ ρ' : Env} (h : ∀ g i, T.gl g = some i → ρ[i]? = some (g, 0, 0)) (x : Ext ρ ρ') : ∀ g i, T.gl g = some i → ρ'[i]? = some (g, 0, 0) := fun g i e => x.get (h g i e)
def DPost (T : Tabs P) (hF : Hp) (ρ : Env) (w : World) (k : Oc → Md → Mem → Nat → Bool) (e : Ending) (u' : FrameMode) (w' : World) : Prop :=
  ∃ ρ' oc md M, Ext ρ ρ' ∧ OcR ρ' oc e ∧ MdR ρ' md u' ∧ k oc md M ρ'.length = true ∧ Rep ρ' M hF w' ∧ Same w w'
theorem mdOf_ok {ρ : Env} {m : Option AV} {u : FrameMode} (h : ModeR ρ m u) : MdR ρ (mdOf m) u := by
  cases m with
  | none => exact h
  | some v => exact h
theorem callDK_spec {ih : EvT} (hih : Good T ih) {f : FuncId} {vs : List AV} {M : Mem} {nx : Nat} {md : Md} {k : Oc → Md → Mem → Nat → Bool} (h : callDK T ih f vs M nx md k = true) {ρ : Env} {rs : List Value} {hF : Hp} {w : World} (hr : Rep ρ M hF w) (hn : ρ.length = nx) (hg : ∀ g i, T.gl g = some i → ρ[i]? = some (g, 0, 0)) (hv : RL ρ vs rs) {u : FrameMode} (hm : MdR ρ md u) :
    callable P f = true ∧ CallsDIn (FW none) 0 P f rs.toArray u w (DPost T hF ρ w k) := by
  obtain ⟨fn, h1, h⟩ := opt_rec h
  obtain ⟨body, h2, h⟩ := opt_rec h
  rw [lenL_eq, forceN_eq] at h
  obtain ⟨fr, h3, h4⟩ := slotsK_spec h
  obtain ⟨hf, hname⟩ := T.okF _ _ h1
  refine ⟨by unfold callable; rw [hf]; simp [h2, hname], ?_⟩
  refine callsDIn_of_wpSIn hf h2 trivial fun c₀ cs hc₀ => ?_
  have hsz : (rs.toArray ++ Array.replicate (fn.ntmps - rs.toArray.size) undef).size = Nat.add vs.length (Nat.sub fn.ntmps vs.length) := by
    have := hv.length
    simp only [Array.size_append, List.size_toArray, Array.size_replicate, this]; rfl
  have hw := recF_spec hih h3 (c := ⟨_, hF, w, none⟩) (ρ := ρ) (a := { tmps := rs.toArray ++ Array.replicate (fn.ntmps - rs.toArray.size) undef, defers := [] }) (w := w) (u := u) c₀ cs rfl rfl ⟨hsz, slots_enter h4 hv, rfl, hr, hn, .refl w, hg⟩ hm
  have hcc : ({ c₀ with mode := u } : Frame) = c₀ := by subst hc₀; rfl
  rw [hcc] at hw
  intro b k' q1 q2 q3 q4
  obtain ⟨e, a, cs', w', z1, z2, z3⟩ := hw b k' q1 q2 q3 q4
  refine ⟨e, a, cs', w', z1, ?_, z3⟩
  obtain ⟨ρ', x, fr', ds, M', md', u', p1, p2, p3, p4, rfl, p5⟩ := z2
  cases ds with
  | cons _ _ => cases p3
  | nil =>
    have hd : a.defers = [] := by have := p4.dfs; simpa [renD] using this.symm
    have fin : (resK T fr' M' fn.results fun v => k (.ret v) md' M' ρ'.length) = true → ∃ v, (results fn a.tmps).run P w' = .ok v w' ∧ DPost T hF ρ w k (.returned v) u' w' := fun h => by
      obtain ⟨v, x, p1', p2', p3'⟩ := resK_spec h p4.slots p4.rep
      exact ⟨x, p3', ρ', .ret v, md', M', p1, ⟨x, p1', rfl⟩, p5, p2', p4.rep, p4.same⟩
    cases x with
    | normal => obtain rfl := p2; exact ⟨hd, u', rfl, fin p3⟩
    | ret => obtain rfl := p2; exact ⟨hd, u', rfl, fin p3⟩
    | exit id => cases p3
    | pan v =>
      obtain ⟨r, p6, rfl⟩ := p2
      exact ⟨hd, u', rfl, ρ', .pan v, md', M', p1, ⟨r, p6, rfl⟩, p5, p3, p4.rep, p4.same⟩
theorem leaveK_spec {ih : EvT} (hih : Good T ih) {fn : Func} {fr : Tr AV} {hF : Hp} {ρ0 : Env} {w0 : World} {k : Oc → Mem → Nat → Bool} {tmps : Array Value} :
    ∀ {ds : List AD} {mode : Option AV} {M : Mem} {nx : Nat} {ρ : Env} {w : World} {rds : List Deferred} {u : FrameMode}, leaveK T ih fn fr ds mode M nx k = true → Ext ρ0 ρ → Same w0 w → Fk ρ fr tmps → renD ρ ds = some rds → Rep ρ M hF w → ρ.length = nx → (∀ g i, T.gl g = some i → ρ[i]? = some (g, 0, 0)) → ModeR ρ mode u →
      LeavesInM (FW none) 0 P fn tmps (CallPost T hF ρ0 w0 k) rds u w
  | [], mode, M, nx, ρ, w, rds, u, h, x0, s0, hs, hd, hr, hn, hg, hm => by
    cases hd
    cases mode with
    | none =>
      obtain rfl := hm
      obtain ⟨v, x, p1, p2, p3⟩ := resK_spec (show resK T fr M fn.results (fun v => k (.ret v) M nx) = true from h) hs hr
      exact ⟨x, p3, ρ, .ret v, M, x0, ⟨x, p1, rfl⟩, by rw [hn]; exact p2, hr, s0⟩
    | some v =>
      obtain ⟨r, p1, rfl⟩ := hm
      exact ⟨ρ, .pan v, M, x0, ⟨r, p1, rfl⟩, by rw [hn]; exact h, hr, s0⟩
  | .mark i :: ds, mode, M, nx, ρ, w, rds, u, h, x0, s0, hs, hd, hr, hn, hg, hm => by
    simp only [renD, Option.bind_eq_some_iff, Option.map_eq_some_iff] at hd
    obtain ⟨e, he, rds', hd', rfl⟩ := hd
    obtain ⟨ck, h1, h⟩ := opt_rec (show (Option.rec false (fun ck : Ck => match ck with
      | .dfr true => turnK M nx i (.dfr false) fun M' nx' => leaveK T ih fn fr ds mode M' nx' k
      | _ => false) (M.get i) : Bool) = true from h)
    cases ck <;> try (cases h; done)
    rename_i b
    cases b
    · cases h
    obtain ⟨M', h2, h3⟩ := Tr.set_spec (show M.set i (.dfr false) (fun M' => leaveK T ih fn fr ds mode M' nx k) = true from h)
    obtain ⟨e', he', hb, hFe⟩ := hr.own _ _ h1
    rw [he] at he'; cases he'
    have hb : w.heap[e.1]? = some (.deferred (some [])) := hb
    have hrep := hr.turn (w' := w.putObj e.1 (.deferred none)) h1 rfl he h2 rfl (fun b o hb' => by
      unfold but at hb'
      split at hb'
      · cases hb'
      · rename_i hne; show (w.putObj e.1 _).heap[b]? = some o; rw [World.putObj_heap_other hne]; exact hb') (by
      rw [World.putObj_heap_same (mem_lt (w := w) hb)]; rfl)
    exact ⟨hm.run, .inl ⟨e.1, _, rfl, run_takeDeferred hb, leaveK_spec hih h3 x0 (s0.trans (.putObj _ _ _)) hs hd' hrep hn hg hm⟩⟩
  | .call f args caps :: ds, mode, M, nx, ρ, w, rds, u, h, x0, s0, hs, hd, hr, hn, hg, hm => by
    simp only [renD, Option.bind_eq_some_iff, Option.map_eq_some_iff] at hd
    obtain ⟨us, hus, cs, hcs, rds', hd', rfl⟩ := hd
    have h : appL args caps (fun all => callDK T ih f all M nx (mdOf mode) fun oc md M' nx' => match oc with
      | .ret _ => (match md with
        | .ret => leaveK T ih fn fr ds none M' nx' k
        | .pan v => leaveK T ih fn fr ds (some v) M' nx' k
        | .rcd => leaveK T ih fn fr ds none M' nx' k)
      | .pan v => (match md with
        | .ret => leaveK T ih fn fr ds (some v) M' nx' k
        | _ => false)) = true := h
    rw [appL_eq] at h
    have hall : RL ρ (args ++ caps) (us ++ cs) := RL.append (ρ := ρ) hus hcs
    obtain ⟨hc, hcall⟩ := callDK_spec hih h hr hn hg hall (mdOf_ok hm)
    refine ⟨hm.run, .inr ⟨(fun hd => by cases hd), .func f, ⟨cs⟩, f, (us ++ cs).toArray, rfl, ?_, (fun _ _ => trivial), ?_⟩⟩
    · have := run_callFunc (P := P) hc (us ++ cs).toArray w
      simpa [invoke] using this
    · refine CallsDIn.mono hcall ?_
      rintro e u' w' ⟨ρ', oc, md, M', q1, q2, qm, q3, q4, q5⟩
      have hg' := glob_ext (T := T) hg q1
      have go : ∀ {mode' : Option AV} {u'' : FrameMode}, leaveK T ih fn fr ds mode' M' ρ'.length k = true → ModeR ρ' mode' u'' → LeavesInM (FW none) 0 P fn tmps (CallPost T hF ρ0 w0 k) rds' u'' w' := fun h m => leaveK_spec hih h (x0.trans q1) (s0.trans q5) (hs.ext q1) (renD_ext q1 hd') q4 rfl hg' m
      cases oc with
      | ret v =>
        obtain ⟨r, p1, rfl⟩ := q2
        show LeavesInM _ _ _ _ _ _ _ (settle u') _
        cases md with
        | ret => obtain rfl := qm; exact go (mode' := none) q3 rfl
        | pan v' => obtain ⟨r', p2, rfl⟩ := qm; exact go (mode' := some v') q3 ⟨r', p2, rfl⟩
        | rcd => obtain ⟨r', rfl⟩ := qm; exact go (mode' := none) q3 rfl
      | pan v =>
        obtain ⟨r, p1, rfl⟩ := q2
        cases md with
        | ret =>
          obtain rfl := qm
          exact go (mode' := some v) q3 ⟨r, p1, rfl⟩
        | pan _ => cases q3
        | rcd => cases q3

/-! ### calls -/
def callFK (T : Tabs P) (ih : EvT) (f : FuncId) (vs : List AV) (M : Mem) (nx : Nat) (k : Oc → Mem → Nat → Bool) : Bool :=
  Option.rec (Option.rec false (fun fn => Option.rec (T.X f vs M nx fun v M' nx' => k (.ret v) M' nx') (fun body => lenL vs 0 fun n => forceN (Nat.add n (Nat.sub fn.ntmps n)) fun N => slotsK vs 0 .nil fun fr =>
    ih body N false fr [] M nx fun x fr ds M nx => match x with
      | .normal => leaveK T ih fn fr ds none M nx k
      | .ret => leaveK T ih fn fr ds none M nx k
      | .pan v => leaveK T ih fn fr ds (some v) M nx k
      | .exit _ => false) fn.body) (T.F f)) (fun g => g vs M nx fun v M' nx' => k (.ret v) M' nx') (T.I f)
/-- What a call's next step leads to. -/
def NxP (P : Program) (R : Ending → World → Prop) : Next → World → Prop
  | .enter f args, w => Calls P f args w R
  | .value v, w => R (.returned v) w
  | .round l f tmps assign body, w => RoundIn (FW none) 0 P l f tmps assign body w R
  | _, _ => False
theorem callFK_spec {ih : EvT} (hih : Good T ih) {f : FuncId} {vs : List AV} {M : Mem} {nx : Nat} {k : Oc → Mem → Nat → Bool} (h : callFK T ih f vs M nx k = true) {ρ : Env} {rs : List Value} {hF : Hp} {w : World} (hr : Rep ρ M hF w) (hn : ρ.length = nx) (hg : ∀ g i, T.gl g = some i → ρ[i]? = some (g, 0, 0)) (hv : RL ρ vs rs) :
    ∃ nx w1, (callFunc f rs.toArray).run P w = .ok nx w1 ∧ NxP P (CallPost T hF ρ w k) nx w1 := by
  unfold callFK at h
  cases hI : T.I f with
  | some g =>
    rw [hI] at h
    obtain ⟨hc, hspec⟩ := T.okI f g hI
    refine ⟨.enter f rs.toArray, w, run_callFunc hc _ w, Calls.mono (hspec vs M nx _ h ρ hF w rs hr hn hg hv) ?_⟩
    rintro e w' ⟨ρ', v, r, M', q1, q2, rfl, q3, q4, q5⟩
    exact ⟨ρ', .ret v, M', q1, ⟨r, q2, rfl⟩, q3, q4, q5⟩
  | none =>
    rw [hI] at h
    obtain ⟨fn, h1, h⟩ := opt_rec h
    obtain ⟨hf, hname⟩ := T.okF _ _ h1
    cases hb : fn.body with
    | none =>
      rw [hb] at h
      obtain ⟨ρ', v, r, M', w', q1, q2, q3, q4, q5, q6⟩ := T.okX f vs M nx _ h ρ hF w rs hr hn hv
      exact ⟨.value r, w', q6, ρ', .ret v, M', q1, ⟨r, q2, rfl⟩, q3, q4, q5⟩
    | some body =>
      rw [hb] at h
      have h : lenL vs 0 (fun n => forceN (Nat.add n (Nat.sub fn.ntmps n)) fun N => slotsK vs 0 .nil fun fr =>
        ih body N false fr [] M nx fun x fr ds M nx => match x with
          | .normal => leaveK T ih fn fr ds none M nx k
          | .ret => leaveK T ih fn fr ds none M nx k
          | .pan v => leaveK T ih fn fr ds (some v) M nx k
          | .exit _ => false) = true := h
      rw [lenL_eq, forceN_eq] at h
      obtain ⟨fr, h3, h4⟩ := slotsK_spec h
      have hc : callable P f = true := by unfold callable; rw [hf]; simp [hb, hname]
      refine ⟨.enter f rs.toArray, w, run_callFunc hc _ w, callsIn_wide.1 (callsIn_of_wp_marks (n := 0) (F := FW none) hf hb trivial ?_)⟩
      have hsz : (rs.toArray ++ Array.replicate (fn.ntmps - rs.toArray.size) undef).size = Nat.add vs.length (Nat.sub fn.ntmps vs.length) := by
        have := hv.length
        simp only [Array.size_append, List.size_toArray, Array.size_replicate, this]; rfl
      refine wpIn_mono (hih _ _ _ _ _ _ _ _ h3 ⟨_, hF, w, none⟩ ρ _ w rfl (fun _ => rfl) ⟨hsz, slots_enter h4 hv, rfl, hr, hn, .refl w, hg⟩) ?_
      rintro e a w' ⟨ρ', x, fr', ds, M', q1, q2, q3, q4⟩
      cases x with
      | normal => obtain rfl := q2; exact leaveK_spec hih q3 q1 q4.same q4.slots q4.dfs q4.rep rfl q4.glob rfl
      | ret => obtain rfl := q2; exact leaveK_spec hih q3 q1 q4.same q4.slots q4.dfs q4.rep rfl q4.glob rfl
      | exit id => cases q3
      | pan v =>
        obtain ⟨r, p1, rfl⟩ := q2
        exact leaveK_spec hih q3 q1 q4.same q4.slots q4.dfs q4.rep rfl q4.glob ⟨r, p1, rfl⟩
end
end Go.Ev
set_option linter.unusedSimpArgs false
set_option linter.unusedVariables false
namespace Go.Ev
open Go.Sl
noncomputable section
variable {P : Program}
abbrev Ky := List UInt8
def IsExt (P : Program) (f : Nat) (e : Array Value → Sem Value) : Prop := ∃ fn, P.funcs[f]? = some fn ∧ fn.body = none ∧ (fn.name == "runtime.NumGoroutine") = false ∧ (Extern.findNext fn).isNone = true ∧ Extern.find fn = some e
theorem isExt_run {f : Nat} {e : Array Value → Sem Value} (h : IsExt P f e) {rs : Array Value} {v : Value} {w w' : World} (hr : (e rs).run P w = .ok v w') : (callFunc f rs).run P w = .ok (.value v) w' := by
  obtain ⟨fn, hfn, hb, hn, hx, he⟩ := h
  have h1 : Extern.findNext fn = none := by simpa using hx
  have hn' : ¬ fn.name = "runtime.NumGoroutine" := by simpa using hn
  simp only [callFunc, hfn, hb, h1, he, mark]
  have hm : (Sem.mark (Mark.extern f) (Sem.pure ()) : Sem Unit).run P w = .ok () w := rfl
  simp [hn', hfn, hb, h1, he, hm, hr]
/-- What a function without a body leaves. -/
def XPost (P : Program) (ρ : Env) (hF : Hp) (w : World) (s : Sem Value) (k : AV → Mem → Nat → Bool) : Prop := ∃ ρ' v r M' w', Ext ρ ρ' ∧ ren ρ' v = some r ∧ k v M' ρ'.length = true ∧ Rep ρ' M' hF w' ∧ Same w w' ∧ s.run P w = .ok r w'
theorem XPost.pure {ρ : Env} {hF : Hp} {w : World} {s : Sem Value} {k : AV → Mem → Nat → Bool} {M : Mem} {v : AV} {r : Value} (hv : ren ρ v = some r) (hk : k v M ρ.length = true) (hr : Rep ρ M hF w) (h : s.run P w = .ok r w) : XPost P ρ hF w s k := ⟨ρ, v, r, M, w, .refl ρ, hv, hk, hr, .refl w, h⟩

/-! ### the bytes of a text or a slice -/
theorem ba_get? (s : Ky) (i : Nat) : (⟨⟨s⟩⟩ : ByteArray)[i]? = s[i]? := by
  by_cases h : i < s.length
  · have h' : i < (⟨⟨s⟩⟩ : ByteArray).size := h
    rw [List.getElem?_eq_getElem h, getElem?_pos (⟨⟨s⟩⟩ : ByteArray) i h']; rfl
  · have h' : ¬ i < (⟨⟨s⟩⟩ : ByteArray).size := h
    rw [List.getElem?_eq_none (by omega), getElem?_neg (⟨⟨s⟩⟩ : ByteArray) i h']
theorem ba_get! (s : Ky) (i : Nat) : (⟨⟨s⟩⟩ : ByteArray)[i]! = s[i]?.getD default := by
  rw [getElem!_def, ba_get?]
  cases s[i]? <;> rfl
theorem push_append (a : Ky) (c : UInt8) : (⟨⟨a⟩⟩ : ByteArray).push c = ⟨⟨a ++ [c]⟩⟩ := by
  show (⟨⟨List.concat a c⟩⟩ : ByteArray) = _
  rw [List.concat_eq_append]
theorem run_loadBytes {w : World} {b : Nat} {l : List Value} {e : TypeId} {fz : Nat × Nat} (h : w.heap[b]? = some (.cells ⟨l⟩ e fz)) : ∀ (x : Ky) (o : Nat) (acc : Ky), At l o (u8s x) →
    (Extern.Bytes.loadBytes ⟨b, o, none⟩ x.length ⟨⟨acc⟩⟩).run P w = .ok ⟨⟨acc ++ x⟩⟩ w
  | [], o, acc, _ => by simp [Extern.Bytes.loadBytes]
  | c :: x, o, acc, hA => by
    have h0 : l[o]? = some (.int .u8 c.toNat) := by have := hA 0 _ (show (u8s (c :: x))[0]? = some (.int .u8 c.toNat) from rfl); simpa using this
    have hc : w.cell? ⟨b, o, none⟩ = some (.int .u8 c.toNat) := by rw [cell_of h]; exact h0
    have hA' : At l (o + 1) (u8s x) := fun j v hj => by
      have := hA (j + 1) v (show (u8s (c :: x))[j + 1]? = some v from hj)
      rwa [show o + (j + 1) = o + 1 + j by omega] at this
    have ih := run_loadBytes h x (o + 1) (acc ++ [c]) hA'
    have e : ((c.toNat : Int).toNat).toUInt8 = c := by simp
    have hadd : (⟨b, o, none⟩ : Addr).add 1 = ⟨b, o + 1, none⟩ := Addr.add_mid ..
    have hl : (load ⟨b, o, none⟩ : Sem Value).run P w = .ok (.int .u8 c.toNat) w := by simp [load, Sem.run, hc]
    simp only [List.length_cons, Extern.Bytes.loadBytes, Sem.run_bind, hl, Result.andThen_ok]
    rw [hadd, e, push_append]
    rw [ih]; simp
def bytesA (M : Mem) (v : AV) (k : List Nat → Bool) : Bool := match v with
  | .str l => k l
  | .nils => k []
  | .sl i o n _ _ => bytesK M i o n k
  | .em _ _ _ _ => k []
  | _ => false
theorem bytesA_spec {M : Mem} {v : AV} {k : List Nat → Bool} (h : bytesA M v k = true) {ρ : Env} {hF : Hp} {w : World} {r : Value} (hr : Rep ρ M hF w) (hv : ren ρ v = some r) :
    ∃ l, k l = true ∧ small l = true ∧ (Extern.Bytes.bytesOf r).run P w = .ok ⟨⟨l.map UInt8.ofNat⟩⟩ w := by
  cases v <;> try (cases h; done)
  · obtain ⟨h1, rfl⟩ := ren_str hv
    exact ⟨_, h, h1, rfl⟩
  · obtain rfl : r = .slice none 0 0 := by simpa [ren] using hv.symm
    exact ⟨[], h, rfl, rfl⟩
  · rename_i i o n c s
    simp only [ren, Option.map_eq_some_iff] at hv
    obtain ⟨e, he, rfl⟩ := hv
    obtain ⟨bs, e', cs, t, fz, h1, h2, h3, h4, h5, h6⟩ := bytesK_spec (show bytesK M i o n k = true from h) hr
    rw [he] at h4; cases h4
    refine ⟨bs, h1, h2, ?_⟩
    have := run_loadBytes (P := P) h5 (bs.map UInt8.ofNat) (e.2.1 + o) [] h6
    rw [List.length_map, h3] at this
    exact this
  · simp only [ren, Option.map_eq_some_iff] at hv
    obtain ⟨e, he, rfl⟩ := hv
    exact ⟨[], h, rfl, rfl⟩

/-! ### the place of a byte -/
def idxN (b : Nat) (l : List Nat) : Nat → Option Nat := List.rec (fun _ => none) (fun x _ ih i => Bool.rec (ih (Nat.succ i)) (some i) (Nat.beq x b)) l
theorem idxN_spec {b : Nat} (hb : b < 256) : ∀ {l : List Nat} {i : Nat}, small l = true → idxN b l i = ((l.map UInt8.ofNat).findIdx? (· == UInt8.ofNat b)).map (· + i)
  | [], i, _ => rfl
  | x :: l, i, h => by
    obtain ⟨h1, h2⟩ := small_cons h
    show (Bool.rec (idxN b l (i + 1)) (some i) (Nat.beq x b) : Option Nat) = _
    rw [List.map_cons, List.findIdx?_cons]
    cases q : Nat.beq x b with
    | true =>
      have := Nat.eq_of_beq_eq_true q
      subst this
      simp
    | false =>
      have hne : (UInt8.ofNat x == UInt8.ofNat b) = false := by
        rw [beq_eq_false_iff_ne]
        intro e
        rw [(u8_inj h1 hb).1 e] at q
        simp at q
      rw [hne]
      show idxN b l (i + 1) = _
      rw [idxN_spec hb h2]
      simp only [Bool.false_eq_true, if_false, Option.map_map]
      congr 1
      funext y; simp; omega
theorem range_find (s : Ky) (c : UInt8) : ((List.range s.length).find? fun i => (⟨⟨s⟩⟩ : ByteArray)[i]! == c) = s.findIdx? (· == c) := by
  cases h : s.findIdx? (· == c) with
  | none =>
    rw [List.find?_eq_none]
    intro i hi
    have hi : i < s.length := by simpa using hi
    rw [ba_get!, List.getElem?_eq_getElem hi]
    have := List.findIdx?_eq_none_iff.1 h s[i] (List.getElem_mem hi)
    simpa using this
  | some i =>
    obtain ⟨hi, h1, h2⟩ := List.findIdx?_eq_some_iff_getElem.1 h
    rw [List.find?_range_eq_some]
    refine ⟨?_, by simpa using hi, fun j hj => ?_⟩
    · rw [ba_get!, List.getElem?_eq_getElem hi]; simpa using h1
    · rw [ba_get!, List.getElem?_eq_getElem (by omega)]
      have := h2 j hj
      simpa using this
def idxK (vs : List AV) (M : Mem) (nx : Nat) (k : AV → Mem → Nat → Bool) : Bool := match vs with
  | [x, .int .u8 (.ofNat b)] => both (Nat.blt b 256) (bytesA M x fun l => Option.rec (k (.int .i64 (.negSucc 0)) M nx) (fun i => forceN i fun i => k (.int .i64 (.ofNat i)) M nx) (idxN b l 0))
  | _ => false
theorem idxK_spec {vs : List AV} {M : Mem} {nx : Nat} {k : AV → Mem → Nat → Bool} (h : idxK vs M nx k = true) {ρ : Env} {hF : Hp} {w : World} {rs : List Value} (hr : Rep ρ M hF w) (hn : ρ.length = nx) (hv : RL ρ vs rs) : XPost P ρ hF w (Extern.BytealgIndexByte.indexByte rs.toArray) k := by
  unfold idxK at h
  split at h
  case h_2 => cases h
  rename_i x b
  obtain ⟨h1, h⟩ := both_eq.1 h
  rw [Nat.blt_eq] at h1
  obtain ⟨r, rs', rfl, hx, hv⟩ := hv.out
  obtain ⟨r2, rs'', rfl, hb, hv⟩ := hv.out
  obtain rfl := hv.outNil
  obtain rfl : r2 = .int .u8 (.ofNat b) := by simpa [ren] using hb.symm
  obtain ⟨l, h2, h3, h4⟩ := bytesA_spec (P := P) h hr hx
  have hi := idxN_spec h1 (i := 0) h3
  have hf := range_find (l.map UInt8.ofNat) (UInt8.ofNat b)
  have run : ∀ o, ((List.range (l.map UInt8.ofNat).length).find? fun i => (⟨⟨l.map UInt8.ofNat⟩⟩ : ByteArray)[i]! == UInt8.ofNat b) = o → (Extern.BytealgIndexByte.indexByte [r, .int .u8 (.ofNat b)].toArray).run P w = .ok (match o with | some i => goInt i | none => goInt (-1)) w := fun o ho => by
    have h0 : Extern.BytealgIndexByte.indexByte [r, .int .u8 (.ofNat b)].toArray = (do
      let z ← Extern.Bytes.bytesOf r
      let c ← Extern.Bytes.asByte (.int .u8 (.ofNat b))
      match (List.range z.size).find? fun i => z[i]! == c with
      | some i => pure (goInt i)
      | none => pure (goInt (-1))) := rfl
    have h1 : Extern.Bytes.asByte (.int .u8 (.ofNat b)) = pure (UInt8.ofNat b) := rfl
    rw [h0, Sem.run_bind, h4, h1]
    have ho' : ((List.range (⟨⟨l.map UInt8.ofNat⟩⟩ : ByteArray).size).find? fun i => (⟨⟨l.map UInt8.ofNat⟩⟩ : ByteArray)[i]! == UInt8.ofNat b) = o := ho
    simp only [Result.andThen_ok, pure_bind, ho']
    cases o <;> rfl
  have hrun := run _ rfl
  rw [hf] at hrun
  cases q : (l.map UInt8.ofNat).findIdx? (· == UInt8.ofNat b) with
  | none =>
    rw [q] at hrun hi
    rw [hi] at h2
    exact XPost.pure (v := .int .i64 (.negSucc 0)) rfl (by rw [hn]; exact h2) hr hrun
  | some i =>
    rw [q] at hrun hi
    rw [hi] at h2
    have h2 : (forceN i fun i => k (.int .i64 (.ofNat i)) M nx) = true := h2
    rw [forceN_eq] at h2
    exact XPost.pure (v := .int .i64 (.ofNat i)) rfl (by rw [hn]; exact h2) hr hrun

/-! ### bytes compared -/
def cmpI (x y : Ky) : Int := Extern.BytealgCompare.cmp ⟨⟨x⟩⟩ ⟨⟨y⟩⟩
theorem cmpI_nil (x : Ky) : cmpI x [] = if 0 < x.length then 1 else 0 := by
  cases x <;> rfl
theorem cmpI_nil' (y : Ky) : cmpI [] y = if 0 < y.length then -1 else 0 := by
  cases y <;> rfl
theorem cmpI_cons (c d : UInt8) (x y : Ky) : cmpI (c :: x) (d :: y) = if c = d then cmpI x y else if c < d then -1 else 1 := by
  unfold cmpI Extern.BytealgCompare.cmp
  have hs : min (⟨⟨c :: x⟩⟩ : ByteArray).size (⟨⟨d :: y⟩⟩ : ByteArray).size = min x.length y.length + 1 := by
    show min (x.length + 1) (y.length + 1) = _; omega
  have hs2 : min (⟨⟨x⟩⟩ : ByteArray).size (⟨⟨y⟩⟩ : ByteArray).size = min x.length y.length := rfl
  rw [hs, hs2, List.range_succ_eq_map, List.find?_cons]
  have e0 : ∀ (a : UInt8) (z : Ky), (⟨⟨a :: z⟩⟩ : ByteArray)[0]! = a := fun a z => by rw [ba_get!]; rfl
  have e1 : ∀ (a : UInt8) (z : Ky) (i : Nat), (⟨⟨a :: z⟩⟩ : ByteArray)[i + 1]! = (⟨⟨z⟩⟩ : ByteArray)[i]! := fun a z i => by rw [ba_get!, ba_get!]; rfl
  by_cases h : c = d
  · subst h
    rw [e0, e0]
    simp only [bne_self_eq_false, List.find?_map, Function.comp_def, Nat.succ_eq_add_one, e1, if_true]
    cases hf : (List.range (min x.length y.length)).find? fun i => (⟨⟨x⟩⟩ : ByteArray)[i]! != (⟨⟨y⟩⟩ : ByteArray)[i]! with
    | some i => simp only [Option.map_some, e1]
    | none =>
      simp only [Option.map_none]
      have : ∀ z : Ky, (⟨⟨c :: z⟩⟩ : ByteArray).size = (⟨⟨z⟩⟩ : ByteArray).size + 1 := fun z => rfl
      rw [this, this]
      simp
  · rw [e0, e0]
    simp only [show (c != d) = true by simpa using h, if_neg h]
    rw [e0, e0]
def cmpN (l : List Nat) : List Nat → Int := List.rec (fun m => List.rec (.ofNat 0) (fun _ _ _ => .negSucc 0) m) (fun x _ ih m => List.rec (.ofNat 1) (fun y t _ => Bool.rec (Bool.rec (.ofNat 1) (.negSucc 0) (Nat.blt x y)) (ih t) (Nat.beq x y)) m) l
theorem cmpN_spec : ∀ {l m : List Nat}, small l = true → small m = true → cmpI (l.map UInt8.ofNat) (m.map UInt8.ofNat) = cmpN l m
  | [], [], _, _ => rfl
  | [], y :: m, _, _ => rfl
  | x :: l, [], _, _ => rfl
  | x :: l, y :: m, h1, h2 => by
    obtain ⟨a1, a2⟩ := small_cons h1
    obtain ⟨b1, b2⟩ := small_cons h2
    rw [List.map_cons, List.map_cons, cmpI_cons]
    show _ = (Bool.rec (Bool.rec (.ofNat 1) (.negSucc 0) (Nat.blt x y)) (cmpN l m) (Nat.beq x y) : Int)
    cases q : Nat.beq x y with
    | true =>
      have := Nat.eq_of_beq_eq_true q
      subst this
      rw [if_pos rfl]; exact cmpN_spec a2 b2
    | false =>
      rw [if_neg (fun e => by rw [(u8_inj a1 b1).1 e] at q; simp at q)]
      have hlt : (UInt8.ofNat x < UInt8.ofNat y) ↔ x < y := by
        rw [UInt8.lt_iff_toNat_lt, u8_ofNat a1, u8_ofNat b1]
      cases q' : Nat.blt x y with
      | true => rw [Nat.blt_eq] at q'; rw [if_pos (hlt.2 q')]; rfl
      | false => rw [if_neg (fun e => by have := hlt.1 e; rw [← Nat.blt_eq, q'] at this; cases this)]; rfl
def cmpK (vs : List AV) (M : Mem) (nx : Nat) (k : AV → Mem → Nat → Bool) : Bool := match vs with
  | [x, y] => bytesA M x fun l => bytesA M y fun m => forceI (cmpN l m) fun c => k (.int .i64 c) M nx
  | _ => false
theorem cmpK_spec {vs : List AV} {M : Mem} {nx : Nat} {k : AV → Mem → Nat → Bool} (h : cmpK vs M nx k = true) {ρ : Env} {hF : Hp} {w : World} {rs : List Value} (hr : Rep ρ M hF w) (hn : ρ.length = nx) (hv : RL ρ vs rs) : XPost P ρ hF w (Extern.BytealgCompare.compare rs.toArray) k := by
  unfold cmpK at h
  split at h
  case h_2 => cases h
  obtain ⟨r, rs', rfl, hx, hv⟩ := hv.out
  obtain ⟨r2, rs'', rfl, hy, hv⟩ := hv.out
  obtain rfl := hv.outNil
  obtain ⟨l, h2, h3, h4⟩ := bytesA_spec (P := P) h hr hx
  obtain ⟨m, h5, h6, h7⟩ := bytesA_spec (P := P) h2 hr hy
  rw [forceI_eq] at h5
  refine XPost.pure (v := .int .i64 (cmpN l m)) rfl (by rw [hn]; exact h5) hr ?_
  have h0 : Extern.BytealgCompare.compare [r, r2].toArray = (do pure (goInt (Extern.BytealgCompare.cmp (← Extern.Bytes.bytesOf r) (← Extern.Bytes.bytesOf r2)))) := rfl
  rw [h0]
  simp only [Sem.run_bind, h4, Result.andThen_ok, h7]
  rw [← cmpN_spec h3 h6]
  rfl

/-! ### a map's clone -/
def cloneK (vs : List AV) (M : Mem) (nx : Nat) (k : AV → Mem → Nat → Bool) : Bool := match vs with
  | [.iface t (.map i)] => Option.rec false (fun ck => match ck with
    | .map es cl => M.set nx (.map es cl) fun M' => forceN (Nat.succ nx) fun nx' => k (.iface t (.map nx)) M' nx'
    | _ => false) (M.get i)
  | _ => false
theorem cloneK_spec {vs : List AV} {M : Mem} {nx : Nat} {k : AV → Mem → Nat → Bool} (h : cloneK vs M nx k = true) {ρ : Env} {hF : Hp} {w : World} {rs : List Value} (hr : Rep ρ M hF w) (hn : ρ.length = nx) (hv : RL ρ vs rs) : XPost P ρ hF w (Extern.MapsClone.clone rs.toArray) k := by
  unfold cloneK at h
  split at h
  case h_2 => cases h
  rename_i t i
  obtain ⟨r, rs', rfl, hx, hv⟩ := hv.out
  obtain rfl := hv.outNil
  obtain ⟨ck, h1, h⟩ := opt_rec h
  cases ck <;> try (cases h; done)
  rename_i es cl
  simp only [ren, Option.map_eq_some_iff] at hx
  obtain ⟨x, ⟨e, he, rfl⟩, rfl⟩ := hx
  obtain ⟨e', he', ⟨L, hL, hb⟩, _⟩ := hr.own _ _ h1
  rw [he] at he'; cases he'
  obtain ⟨M', h2, h3⟩ := Tr.set_spec h
  rw [forceN_eq] at h3
  subst hn
  have hle : le (mem w) (mem (w.alloc (.map ⟨L⟩ cl))) := le_alloc w _
  have hnew : (w.alloc (.map ⟨L⟩ cl)).heap[w.heap.size]? = some (.map ⟨L⟩ cl) := World.alloc_heap_new w _
  refine ⟨ρ ++ [(w.heap.size, 0, 0)], .iface t (.map ρ.length), .iface t (.map (some w.heap.size)), M', w.alloc (.map ⟨L⟩ cl), Ext.one _ _, by simp [ren], by rw [Env.length_app]; exact h3, hr.add h2 rfl (by simp) hle ⟨L, renM_ext (Ext.one _ _) hL, hnew⟩, .alloc w _, ?_⟩
  have hg : (getObj e.1).run P w = .ok (.map ⟨L⟩ cl) w := by simp [getObj, Sem.run, hb]
  have h0 : Extern.MapsClone.clone [Value.iface t (.map (some e.1))].toArray = (do
    let .map entries clock ← getObj e.1 | stuck "maps.clone: a map expected"
    pure (.iface t (.map (some (← newObj (.map entries clock)))))) := rfl
  rw [h0, Sem.run_bind, hg]
  rfl

/-! ### by number -/
def extOf (c : Nat) : Array Value → Sem Value := match c with
  | 0 => Extern.BytealgIndexByte.indexByte
  | 1 => Extern.BytealgCompare.compare
  | _ => Extern.MapsClone.clone
def kindK (c : Nat) (vs : List AV) (M : Mem) (nx : Nat) (k : AV → Mem → Nat → Bool) : Bool := Nat.rec (idxK vs M nx k) (fun c _ => Nat.rec (cmpK vs M nx k) (fun _ _ => cloneK vs M nx k) c) c
def xK (l : List (Nat × Nat)) (f : Nat) (vs : List AV) (M : Mem) (nx : Nat) (k : AV → Mem → Nat → Bool) : Bool := List.rec false (fun p _ ih => Prod.rec (fun g c => Bool.rec ih (kindK c vs M nx k) (Nat.beq g f)) p) l
theorem xK_ok {l : List (Nat × Nat)} (hl : ∀ p ∈ l, IsExt P p.1 (extOf p.2)) : ∀ f vs M nx k, xK l f vs M nx k = true → ∀ ρ hF w rs, Rep ρ M hF w → ρ.length = nx → RL ρ vs rs → ∃ ρ' v r M' w', Ext ρ ρ' ∧ ren ρ' v = some r ∧ k v M' ρ'.length = true ∧ Rep ρ' M' hF w' ∧ Same w w' ∧ (callFunc f rs.toArray).run P w = .ok (.value r) w' := by
  induction l with
  | nil => intro f vs M nx k h; cases h
  | cons p l ih =>
    obtain ⟨g, c⟩ := p
    intro f vs M nx k h ρ hF w rs hr hn hv
    have h : (Bool.rec (xK l f vs M nx k) (kindK c vs M nx k) (Nat.beq g f) : Bool) = true := h
    cases q : Nat.beq g f with
    | false => rw [q] at h; exact ih (fun p hp => hl p (List.mem_cons_of_mem _ hp)) f vs M nx k h ρ hF w rs hr hn hv
    | true =>
      rw [q] at h
      have := Nat.eq_of_beq_eq_true q
      subst this
      have hx := hl (g, c) List.mem_cons_self
      have key : XPost P ρ hF w (extOf c rs.toArray) k := by
        match c, h with
        | 0, h => exact idxK_spec h hr hn hv
        | 1, h => exact cmpK_spec h hr hn hv
        | _ + 2, h => exact cloneK_spec h hr hn hv
      obtain ⟨ρ', v, r, M', w', k1, k2, k3, k4, k5, k6⟩ := key
      exact ⟨ρ', v, r, M', w', k1, k2, k3, k4, k5, isExt_run hx k6⟩
end
end Go.Ev
