/- The evaluator, part Z: the body of a deferred call, which may recover. -/
import Derived.Test.YtppdclebbcmcaaaEvR
import Derived.RecoverIn
set_option linter.unusedSimpArgs false
set_option linter.unusedVariables false
namespace Go.Ev
open Go.Sl
noncomputable section
variable {P : Program}
/-- How the frame below goes on. -/
inductive Md where
  | ret
  | pan (v : AV)
  | rcd
def MdR (ρ : Env) : Md → FrameMode → Prop
  | .ret, u => u = .returning
  | .pan v, u => ∃ r, ren ρ v = some r ∧ u = .panicking [{ v := r, recovered := false }]
  | .rcd, u => ∃ r : Value, u = .panicking [{ v := r, recovered := true }]
theorem MdR.ext {ρ ρ' : Env} {m : Md} {u : FrameMode} (h : MdR ρ m u) (x : Ext ρ ρ') : MdR ρ' m u := by
  cases m with
  | ret => exact h
  | pan v => obtain ⟨r, h1, h2⟩ := h; exact ⟨r, ren_ext x h1, h2⟩
  | rcd => exact h
abbrev KtD := Ex → Tr AV → List AD → Mem → Nat → Md → Bool
def PostD (T : Tabs P) (c : Cn) (ρ : Env) (c₀ : Frame) (rest : List Frame) (K : KtD) : Exit → Act → List Frame → World → Prop := fun e a cs w =>
  ∃ ρ' x fr ds M md u, Ext ρ ρ' ∧ ExR ρ' x e ∧ K x fr ds M ρ'.length md = true ∧ Rl T c ρ' fr ds M ρ'.length a w ∧ cs = { c₀ with mode := u } :: rest ∧ MdR ρ' md u
theorem PostD.mono {T : Tabs P} {c : Cn} {ρ ρ' : Env} {c₀ : Frame} {rest : List Frame} {K : KtD} {e : Exit} {a : Act} {cs : List Frame} {w : World} (x : Ext ρ ρ') (h : PostD T c ρ' c₀ rest K e a cs w) : PostD T c ρ c₀ rest K e a cs w := by
  obtain ⟨ρ'', x', fr, ds, M, md, u, h1, h2⟩ := h
  exact ⟨ρ'', x', fr, ds, M, md, u, x.trans h1, h2⟩
def recOpK (P : Program) (T : Tabs P) (N : Nat) (fr : Tr AV) (ds : List AD) (M : Mem) (nx : Nat) (md : Md) (d : Option Tmp) (op : Op) (k : Tr AV → List AD → Mem → Nat → Md → Bool) : Bool := match op with
  | .call c => (match c with
    | ⟨.builtin .recover, _, _⟩ => (match md with
      | .pan v => putK N fr d v fun fr' => k fr' ds M nx .rcd
      | .ret => putK N fr d .nili fun fr' => k fr' ds M nx .ret
      | .rcd => false)
    | c => opK P T fr M nx (.call c) fun v M' nx' => putK N fr d v fun fr' => k fr' ds M' nx' md)
  | .defer _ => false
  | op => opK P T fr M nx op fun v M' nx' => putK N fr d v fun fr' => k fr' ds M' nx' md
def recListK (P : Program) (T : Tabs P) (N : Nat) (ops : List Oper) (K : KtD) (l : List Oper) : Tr AV → List AD → Mem → Nat → Md → Bool := List.rec (fun fr ds M nx md => K .normal fr ds M nx md)
  (fun o _ rec fr ds M nx md => Oper.rec (fun d op _ _ _ g => wantK ops fr g (recOpK P T N fr ds M nx md d op rec) (putK N fr d (.tup []) fun fr' => rec fr' ds M nx md)) o) l
section
variable {T : Tabs P} {c : Cn}
theorem recListK_spec {N : Nat} {ops : List Oper} {K : KtD} {c₀ : Frame} {rest : List Frame} (hN : c.N = N) :
    ∀ {l pre : List Oper} {ρ : Env} {fr : Tr AV} {ds : List AD} {M : Mem} {nx : Nat} {md : Md} {u : FrameMode} {a : Act} {w : World}, recListK P T N ops K l fr ds M nx md = true → ops = pre ++ l → Rl T c ρ fr ds M nx a w → MdR ρ md u →
      wpOpsSIn (FW none) 0 P ops.toArray (PostD T c ρ c₀ rest K) (List.range' pre.length l.length) a ({ c₀ with mode := u } :: rest) w
  | [], pre, ρ, fr, ds, M, nx, md, u, a, w, h, e, s, hm => by
    have s' := s.nx
    subst s'
    exact ⟨ρ, .normal, fr, ds, M, md, u, .refl ρ, rfl, h, s, rfl, hm⟩
  | ⟨d, op, ty, pos, af, g⟩ :: l, pre, ρ, fr, ds, M, nx, md, u, a, w, h, e, s, hm => by
    have s' := s.nx
    subst s'
    obtain ⟨b, h1, h2⟩ := wantK_spec (show wantK ops fr g (recOpK P T N fr ds M ρ.length md d op (recListK P T N ops K l)) (putK N fr d (.tup []) fun fr' => recListK P T N ops K l fr' ds M ρ.length md) = true from h) s.slots
    have ho : ops.toArray[pre.length]? = some ⟨d, op, ty, pos, af, g⟩ := by subst e; simp
    have e' : ops = (pre ++ [⟨d, op, ty, pos, af, g⟩]) ++ l := by rw [e]; simp
    have mono : ∀ {ρ' : Env} {js : List Nat} {a : Act} {cs : List Frame} {w : World}, Ext ρ ρ' → wpOpsSIn (FW none) 0 P ops.toArray (PostD T c ρ' c₀ rest K) js a cs w → wpOpsSIn (FW none) 0 P ops.toArray (PostD T c ρ c₀ rest K) js a cs w := by
      intro ρ' js
      induction js with
      | nil => intro a cs w x h; exact PostD.mono x h
      | cons j js ih =>
        intro a cs w x h
        simp only [wpOpsSIn] at h ⊢
        split at h
        · exact ih x h
        · refine ⟨h.1, ?_⟩
          have h := h.2
          split at h
          · rename_i hw
            rw [if_pos hw]
            split at h
            · split at h
              · exact ih x h
              · exact ih x h
            · exact ih x h
            · exact ih x h
            · exact PostD.mono x h
            · exact h.elim
          · rename_i hw
            rw [if_neg hw]
            exact ih x h
    have step : ∀ {ρ' : Env} {fr' : Tr AV} {ds' : List AD} {M' : Mem} {md' : Md} {u' : FrameMode} {a' : Act} {w' : World}, Ext ρ ρ' → recListK P T N ops K l fr' ds' M' ρ'.length md' = true → Rl T c ρ' fr' ds' M' ρ'.length a' w' → MdR ρ' md' u' →
        wpOpsSIn (FW none) 0 P ops.toArray (PostD T c ρ c₀ rest K) (List.range' (pre.length + 1) l.length) a' ({ c₀ with mode := u' } :: rest) w' := fun x h s m => mono x (by
      have := recListK_spec hN h e' s m (c₀ := c₀) (rest := rest)
      simpa using this)
    simp only [List.length_cons, List.range'_succ, wpOpsSIn, ho]
    refine ⟨fun _ _ => trivial, ?_⟩
    cases b with
    | false =>
      rw [if_neg (by rw [h2]; simp)]
      obtain ⟨fr', g1, g2⟩ := putK_spec (N := N) (show putK N fr d (.tup []) (fun fr' => recListK P T N ops K l fr' ds M ρ.length md) = true from h1) (by rw [s.size, hN]) s.slots (r := undef) rfl
      exact step (.refl ρ) g1 ⟨by rw [put_size]; exact s.size, g2, by rw [put_defers]; exact s.dfs, s.rep, rfl, s.same, s.glob⟩ hm
    | true =>
      rw [if_pos (h2 _ _ _ _ _)]
      have plain : opK P T fr M ρ.length op (fun v M' nx' => putK N fr d v fun fr' => recListK P T N ops K l fr' ds M' nx' md) = true → ∃ n r w', (n = Next.value r ∨ (n = .skip ∧ r = undef)) ∧ (execOp a.eval ⟨d, op, ty, pos, af, g⟩).run P w = .ok n w' ∧ wpOpsSIn (FW none) 0 P ops.toArray (PostD T c ρ c₀ rest K) (List.range' (pre.length + 1) l.length) (a.put d r) ({ c₀ with mode := u } :: rest) w' := fun h3 => by
        obtain ⟨v, r, ρ', M', w', n, p1, p2, p3, p4, p5, p6, p7⟩ := opK_spec h3 s
        have p7 := p7 ⟨d, op, ty, pos, af, g⟩ rfl
        obtain ⟨fr', g1, g2⟩ := putK_spec (N := N) p3 (by rw [s.size, hN]) (s.slots.ext p1) p2
        have hs : Rl T c ρ' fr' ds M' ρ'.length (a.put d r) w' := ⟨by rw [put_size]; exact s.size, g2, by rw [put_defers]; exact renD_ext p1 s.dfs, p4, rfl, s.same.trans p5, fun g i e => p1.get (s.glob g i e)⟩
        exact ⟨n, r, w', p6, p7, step p1 g1 hs (hm.ext p1)⟩
      cases op with
      | call cl =>
        obtain ⟨cal, xs, ts⟩ := cl
        cases cal with
        | builtin b =>
          by_cases hb : b = .recover
          · subst hb
            have hr : (execOp a.eval ⟨d, .call ⟨.builtin .recover, xs, ts⟩, ty, pos, af, g⟩).run P w = .ok .recover w := by
              rfl
            rw [hr]
            cases md with
            | rcd => cases h1
            | ret =>
              obtain rfl := hm
              obtain ⟨fr', g1, g2⟩ := putK_spec (N := N) (show putK N fr d .nili (fun fr' => recListK P T N ops K l fr' ds M ρ.length .ret) = true from h1) (by rw [s.size, hN]) s.slots (r := .nilIface) rfl
              exact step (md' := .ret) (.refl ρ) g1 ⟨by rw [put_size]; exact s.size, g2, by rw [put_defers]; exact s.dfs, s.rep, rfl, s.same, s.glob⟩ rfl
            | pan v =>
              obtain ⟨r, hv, rfl⟩ := hm
              obtain ⟨fr', g1, g2⟩ := putK_spec (N := N) (show putK N fr d v (fun fr' => recListK P T N ops K l fr' ds M ρ.length .rcd) = true from h1) (by rw [s.size, hN]) s.slots hv
              exact step (md' := .rcd) (u' := .panicking [{ v := r, recovered := true }]) (.refl ρ) g1 ⟨by rw [put_size]; exact s.size, g2, by rw [put_defers]; exact s.dfs, s.rep, rfl, s.same, s.glob⟩ ⟨r, rfl⟩
          · obtain ⟨n, r, w', hn, hr, hq⟩ := plain (by cases b <;> first | exact absurd rfl hb | exact h1)
            rw [hr]; rcases hn with rfl | ⟨rfl, rfl⟩ <;> exact hq
        | value f => cases h1
        | invoke r m => cases h1
      | defer cl => cases h1
      | _ =>
        obtain ⟨n, r, w', hn, hr, hq⟩ := plain h1
        rw [hr]; rcases hn with rfl | ⟨rfl, rfl⟩ <;> exact hq
end
def hasRec (ops : List Oper) : Bool := List.rec false (fun o _ ih => Oper.rec (fun _ op _ _ _ _ => match op with
  | .call ⟨.builtin .recover, _, _⟩ => true
  | _ => ih) o) ops
def recF (P : Program) (T : Tabs P) (ih : EvT) (N : Nat) (n : Nat) : Code → Tr AV → List AD → Mem → Nat → Md → KtD → Bool := Nat.rec (fun _ _ _ _ _ _ _ => false) (fun _ rec code fr ds M nx md K => match code with
  | .region _ ⟨ops⟩ false => Bool.rec (ih code N false fr ds M nx fun e fr ds M nx => K e fr ds M nx md) (recListK P T N ops K ops fr ds M nx md) (hasRec ops)
  | .seq x y => rec x fr ds M nx md fun e fr ds M nx md => match e with
    | .normal => rec y fr ds M nx md K
    | e => K e fr ds M nx md
  | .cond b x y => argK T fr b fun v => match v with
    | .bool b => Bool.rec (rec y fr ds M nx md K) (rec x fr ds M nx md K) b
    | _ => false
  | code => ih code N false fr ds M nx fun e fr ds M nx => K e fr ds M nx md) n
theorem recF_spec {T : Tabs P} {ih : EvT} (hih : Good T ih) {N : Nat} : ∀ {n : Nat} {code : Code} {fr : Tr AV} {ds : List AD} {M : Mem} {nx : Nat} {md : Md} {K : KtD}, recF P T ih N n code fr ds M nx md K = true →
    ∀ {c : Cn} {ρ : Env} {a : Act} {w : World} {u : FrameMode} (c₀ : Frame) (rest : List Frame), c.N = N → c.ro = none → Rl T c ρ fr ds M nx a w → MdR ρ md u → code.wpSIn (FW none) 0 P (PostD T c ρ c₀ rest K) a ({ c₀ with mode := u } :: rest) w
  | 0, code, fr, ds, M, nx, md, K, h, c, ρ, a, w, u, c₀, rest, hN, hro, s, hm => by cases h
  | n + 1, code, fr, ds, M, nx, md, K, h, c, ρ, a, w, u, c₀, rest, hN, hro, s, hm => by
    have plain : (ih code N false fr ds M nx fun e fr ds M nx => K e fr ds M nx md) = true → code.wpSIn (FW none) 0 P (PostD T c ρ c₀ rest K) a ({ c₀ with mode := u } :: rest) w := fun h => by
      refine wpSIn_of_wpIn rfl ?_
      have := hih _ _ _ _ _ _ _ _ h c ρ a w hN (fun _ => hro) s
      rw [hro] at this
      refine wpIn_mono this ?_
      rintro e a w ⟨ρ', x, fr', ds', M', p1, p2, p3, p4⟩
      exact ⟨ρ', x, fr', ds', M', md, u, p1, p2, p3, p4, rfl, hm.ext p1⟩
    cases code with
    | region id ops draw =>
      obtain ⟨ops⟩ := ops
      cases draw with
      | true => exact plain h
      | false =>
        have h : (Bool.rec (ih (.region id ⟨ops⟩ false) N false fr ds M nx fun e fr ds M nx => K e fr ds M nx md) (recListK P T N ops K ops fr ds M nx md) (hasRec ops) : Bool) = true := h
        cases q : hasRec ops with
        | false => rw [q] at h; exact plain h
        | true =>
          rw [q] at h
          refine wpSIn_region ?_
          have := recListK_spec (c₀ := c₀) (rest := rest) hN (pre := []) h rfl s hm
          rw [List.range_eq_range']
          exact this
    | seq x y =>
      refine wpSIn_seq ?_
      have h1 := recF_spec hih (show recF P T ih N n x fr ds M nx md (fun e fr ds M nx md => match e with
        | .normal => recF P T ih N n y fr ds M nx md K
        | e => K e fr ds M nx md) = true from h) c₀ rest hN hro s hm
      intro b k q1 q2 q3 q4
      obtain ⟨e, a', cs', w', z1, z2, z3⟩ := h1 b k q1 q2 q3 q4
      refine ⟨e, a', cs', w', z1, ?_, z3⟩
      obtain ⟨ρ', x', fr', ds', M', md', u', p1, p2, p3, p4, rfl, p5⟩ := z2
      cases x' with
      | normal =>
        obtain rfl := p2
        show (y.wpSIn _ _ _ _ _ _ _)
        have h2 := recF_spec hih p3 c₀ rest hN hro p4 p5
        intro b k q1 q2 q3 q4
        obtain ⟨e, a', cs', w', z1, z2, z3⟩ := h2 b k q1 q2 q3 q4
        exact ⟨e, a', cs', w', z1, z2.mono p1, z3⟩
      | exit id => obtain rfl := p2; exact ⟨ρ', .exit id, fr', ds', M', md', u', p1, rfl, p3, p4, rfl, p5⟩
      | ret => obtain rfl := p2; exact ⟨ρ', .ret, fr', ds', M', md', u', p1, rfl, p3, p4, rfl, p5⟩
      | pan v => obtain ⟨r, p6, rfl⟩ := p2; exact ⟨ρ', .pan v, fr', ds', M', md', u', p1, ⟨r, p6, rfl⟩, p3, p4, rfl, p5⟩
    | cond b x y =>
      obtain ⟨v, r, h1, h2⟩ := argK_spec (show argK T fr b (fun v => match v with
        | .bool b => Bool.rec (recF P T ih N n y fr ds M nx md K) (recF P T ih N n x fr ds M nx md K) b
        | _ => false) = true from h) s
      cases v <;> try (cases h2; done)
      rename_i b
      obtain rfl : r = .bool b := by simpa [ren] using h1.ren.symm
      cases b with
      | false => exact wpSIn_cond (t := false) h1.eval (recF_spec hih h2 c₀ rest hN hro s hm)
      | true => exact wpSIn_cond (t := true) h1.eval (recF_spec hih h2 c₀ rest hN hro s hm)
    | _ => exact plain h
end
end Go.Ev
