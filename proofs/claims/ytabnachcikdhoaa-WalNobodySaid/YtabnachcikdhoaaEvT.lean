/- The evaluator, part T: statements, and the whole. -/
import Derived.Test.YtabnachcikdhoaaEvW
import Derived.LoopNIn
set_option linter.unusedSimpArgs false
set_option linter.unusedVariables false
namespace Go.Ev
open Go.Sl
noncomputable section
variable {P : Program}

/-! ### one operation -/
def callVK (T : Tabs P) (ih : EvT) (fv : AV) (vs : List AV) (M : Mem) (nx : Nat) (k : Oc → Mem → Nat → Bool) : Bool := match fv with
  | .fn (.func f) xs ys => appL vs ys fun l => appL xs l fun all => callFK T ih f all M nx k
  | _ => false
variable {T : Tabs P}
theorem callVK_spec {ih : EvT} (hih : Good T ih) {fv : AV} {vs : List AV} {M : Mem} {nx : Nat} {k : Oc → Mem → Nat → Bool} (h : callVK T ih fv vs M nx k = true) {ρ : Env} {fr : Value} {rs : List Value} {hF : Hp} {w : World} (hf : ren ρ fv = some fr) (hr : Rep ρ M hF w) (hn : ρ.length = nx) (hg : ∀ g i, T.gl g = some i → ρ[i]? = some (g, 0, 0)) (hv : RL ρ vs rs) :
    ∃ d nx, (Deferred.ofValue fr rs.toArray).run P w = .ok d w ∧ (invoke d.target d.args).run P w = .ok nx w ∧ NxP P (CallPost T hF ρ w k) nx w := by
  cases fv with
  | fn f xs ys =>
    cases f with
    | func f =>
      have h : appL vs ys (fun l => appL xs l fun all => callFK T ih f all M nx k) = true := h
      rw [appL_eq, appL_eq] at h
      simp only [ren, Option.bind_eq_some_iff, Option.map_eq_some_iff] at hf
      obtain ⟨us, hus, cs, hcs, rfl⟩ := hf
      obtain ⟨nxt, h1, h2⟩ := callFK_spec hih h hr hn hg (RL.append (ρ := ρ) hus (RL.append hv hcs))
      refine ⟨{ target := .fn (.func f) ⟨cs⟩, args := ⟨us⟩ ++ rs.toArray }, nxt, rfl, ?_, h2⟩
      rw [← h1]
      simp only [invoke]
      congr 2
      apply Array.ext'; simp
    | _ => cases h
  | _ => cases h
def deferK (T : Tabs P) (inR : Bool) (fv : AV) (vs : List AV) (k : AD → Bool) : Bool := Bool.rec (match fv with
  | .fn (.func f) xs ys => appL xs vs fun l => k (.call f l ys)
  | _ => false) false inR
def operK (P : Program) (T : Tabs P) (ih : EvT) (N : Nat) (inR : Bool) (fr : Tr AV) (ds : List AD) (M : Mem) (nx : Nat) (d : Option Tmp) (op : Op) (k : Tr AV → List AD → Mem → Nat → Bool) (K : Kt) : Bool := match op with
  | .call c => (match c with
    | ⟨.value f, xs, _⟩ => argK T fr f fun fv => argsK T fr xs.toList fun vs => callVK T ih fv vs M nx fun oc M' nx' => match oc with
      | .ret v => putK N fr d v fun fr' => k fr' ds M' nx'
      | .pan v => K (.pan v) fr ds M' nx'
    | c => opK P T fr M nx (.call c) fun v M' nx' => putK N fr d v fun fr' => k fr' ds M' nx')
  | .defer c => (match c with
    | ⟨.value f, xs, _⟩ => argK T fr f fun fv => argsK T fr xs.toList fun vs => deferK T inR fv vs fun ad => putK N fr d (.tup []) fun fr' => k fr' (ad :: ds) M nx
    | _ => false)
  | .panic x => argK T fr x fun v => match v with
    | .iface t u => K (.pan (.iface t u)) fr ds M nx
    | _ => false
  | op => opK P T fr M nx op fun v M' nx' => putK N fr d v fun fr' => k fr' ds M' nx'
/-- Behind an operation. -/
def Next1 (T : Tabs P) (c : Cn) (ρ : Env) (k : Tr AV → List AD → Mem → Nat → Bool) : Act → World → Prop := fun a w => ∃ ρ' fr ds M, Ext ρ ρ' ∧ k fr ds M ρ'.length = true ∧ Rl T c ρ' fr ds M ρ'.length a w
theorem opK_wp {c : Cn} {ρ : Env} {fr : Tr AV} {ds : List AD} {M : Mem} {nx N : Nat} {a : Act} {w : World} {d : Option Tmp} {op : Op} {k : Tr AV → List AD → Mem → Nat → Bool} {K : Kt} (hN : c.N = N) (h : opK P T fr M nx op (fun v M' nx' => putK N fr d v fun fr' => k fr' ds M' nx') = true) (s : Rel T c ρ fr ds M nx a w) (hnd : ∀ cl, op ≠ .defer cl) (ty : TypeId) (pos : String) (af : Array Edge) (g : Option (Nat × Bool)) :
    (Oper.mk d op ty pos af g).wpIn (FW c.ro) 0 P a w (Next1 T c ρ k) (Post T c ρ K) := by
  obtain ⟨v, r, ρ', M', w', n, h1, h2, h3, h4, h5, h6, h7⟩ := opK_spec h s
  refine wpIn_of_run hnd ?_
  rw [h7 ⟨d, op, ty, pos, af, g⟩ rfl]
  obtain ⟨fr', g1, g2⟩ := putK_spec (N := N) h3 (by rw [s.size, hN]) (s.slots.ext h1) h2
  have hR : Rl T c ρ' fr' ds M' ρ'.length (a.put d r) w' := ⟨by rw [put_size]; exact s.size, g2, by rw [put_defers]; exact renD_ext h1 s.dfs, h4, rfl, s.same.trans h5, glob_ext s.glob h1⟩
  rcases h6 with rfl | ⟨rfl, rfl⟩
  · exact ⟨ρ', fr', ds, M', h1, g1, hR⟩
  · exact ⟨ρ', fr', ds, M', h1, g1, hR⟩
theorem operK_spec {ih : EvT} (hih : Good T ih) {c : Cn} {ρ : Env} {fr : Tr AV} {ds : List AD} {M : Mem} {nx N : Nat} {inR : Bool} {a : Act} {w : World} {d : Option Tmp} {op : Op} {k : Tr AV → List AD → Mem → Nat → Bool} {K : Kt} (hN : c.N = N) (hro : inR = false → c.ro = none) (h : operK P T ih N inR fr ds M nx d op k K = true) (s : Rel T c ρ fr ds M nx a w) (ty : TypeId) (pos : String) (af : Array Edge) (g : Option (Nat × Bool)) :
    (Oper.mk d op ty pos af g).wpIn (FW c.ro) 0 P a w (Next1 T c ρ k) (Post T c ρ K) := by
  cases op with
  | call cl =>
    obtain ⟨cal, xs, ts⟩ := cl
    cases cal with
    | value f =>
      obtain ⟨fv, fvr, h1, h2⟩ := argK_spec (show argK T fr f (fun fv => argsK T fr xs.toList fun vs => callVK T ih fv vs M nx fun oc M' nx' => match oc with
        | .ret v => putK N fr d v fun fr' => k fr' ds M' nx'
        | .pan v => K (.pan v) fr ds M' nx') = true from h) s
      obtain ⟨vs, rs, h3, h4⟩ := argsK_spec s h2
      obtain ⟨dd, nxt, q1, q2, q3⟩ := callVK_spec hih h4 h1.ren s.rep s.nx s.glob h3.1
      have hargs : xs.map a.eval = rs.toArray := by
        have := (st_full none a (sat_all w)).evals (h3.2 none w (mem w))
        apply Array.ext'; rw [Array.toList_map, this]
      have hr : (execOp a.eval ⟨d, .call ⟨.value f, xs, ts⟩, ty, pos, af, g⟩).run P w = .ok nxt w := by
        simp only [execOp, resolve, h1.eval, hargs, Sem.run_bind, q1, Result.andThen_ok, q2]
      refine wpIn_of_run (fun c hc => by cases hc) ?_
      rw [hr]
      have key : ∀ e w', CallPost T c.hF ρ w (fun oc M' nx' => match oc with
          | .ret v => putK N fr d v fun fr' => k fr' ds M' nx'
          | .pan v => K (.pan v) fr ds M' nx') e w' → (match e, w' with
          | .returned v, w'' => Next1 T c ρ k (a.put d v) w''
          | .panicked chain, w'' => Post T c ρ K (.panic chain) a w''
          | .outgrown, _ => LetsOut (Post T c ρ K)) := by
        rintro e w' ⟨ρ', oc, M', p1, p2, p3, p4, p5⟩
        cases oc with
        | ret v =>
          obtain ⟨r, p6, rfl⟩ := p2
          obtain ⟨fr', g1, g2⟩ := putK_spec (N := N) p3 (by rw [s.size, hN]) (s.slots.ext p1) p6
          exact ⟨ρ', fr', ds, M', p1, g1, ⟨by rw [put_size]; exact s.size, g2, by rw [put_defers]; exact renD_ext p1 s.dfs, p4, rfl, s.same.trans p5, glob_ext s.glob p1⟩⟩
        | pan v =>
          obtain ⟨r, p6, rfl⟩ := p2
          exact ⟨ρ', .pan v, fr, ds, M', p1, ⟨r, p6, rfl⟩, p3, ⟨s.size, s.slots.ext p1, renD_ext p1 s.dfs, p4, rfl, s.same.trans p5, glob_ext s.glob p1⟩⟩
      cases nxt with
      | enter f as => exact ⟨(fun hd => by cases hd), CallsIn.mono ((callsIn_wide (n := 0 - 1)).2 q3) (fun e w' hr => by have := key e w' hr; cases e <;> exact this)⟩
      | round l f tmps assign body => exact ⟨(fun hd => by cases hd), RoundIn.mono q3 (fun e w' hr => by have := key e w' hr; cases e <;> exact this)⟩
      | value v => exact key (.returned v) w q3
      | _ => exact q3.elim
    | builtin b => refine opK_wp (k := k) hN ?_ s (by simp) ty pos af g; exact h
    | invoke r m => refine opK_wp (k := k) hN ?_ s (by simp) ty pos af g; exact h
  | defer cl =>
    obtain ⟨cal, xs, ts⟩ := cl
    cases cal <;> try (cases h; done)
    rename_i f
    obtain ⟨fv, fvr, h1, h2⟩ := argK_spec (show argK T fr f (fun fv => argsK T fr xs.toList fun vs => deferK T inR fv vs fun ad => putK N fr d (.tup []) fun fr' => k fr' (ad :: ds) M nx) = true from h) s
    obtain ⟨vs, rs, h3, h4⟩ := argsK_spec s h2
    cases inR with
    | true => cases h4
    | false =>
      have hro := hro rfl
      cases fv <;> try (cases h4; done)
      rename_i fn us cs
      cases fn <;> try (cases h4; done)
      rename_i f'
      have h4 : appL us vs (fun l => putK N fr d (.tup []) fun fr' => k fr' (.call f' l cs :: ds) M nx) = true := h4
      rw [appL_eq] at h4
      have hargs : xs.map a.eval = rs.toArray := by
        have := (st_full none a (sat_all w)).evals (h3.2 none w (mem w))
        apply Array.ext'; rw [Array.toList_map, this]
      have e1 := h1.ren
      simp only [ren, Option.bind_eq_some_iff, Option.map_eq_some_iff] at e1
      obtain ⟨ur, hur, cr, hcr, rfl⟩ := e1
      obtain ⟨fr', g1, g2⟩ := putK_spec (N := N) h4 (by rw [s.size, hN]) s.slots (r := undef) rfl
      rw [hro]
      refine ⟨(fun _ _ => trivial), ?_⟩
      have hr : ((Oper.mk d (.defer ⟨.value f, xs, ts⟩) ty pos af g).semAt (FW none).round a.eval).run P w = .ok (.defer ⟨.fn (.func f') ⟨cr⟩, ⟨ur⟩ ++ rs.toArray⟩) w := by
        rw [show (FW none).round = none from rfl, Oper.semAt_none]
        simp [execOp, resolve, h1.eval, hargs, Deferred.ofValue]
      rw [hr]
      refine ⟨ρ, fr', .call f' (us ++ vs) cs :: ds, M, .refl ρ, by rw [s.nx]; exact g1, ?_, ?_, ?_, s.rep, rfl, s.same, s.glob⟩
      · rw [put_size]; exact s.size
      · have : ({ a with defers := ⟨.fn (.func f') ⟨cr⟩, ⟨ur⟩ ++ rs.toArray⟩ :: a.defers } : Act).tmps = a.tmps := rfl
        cases d <;> exact g2
      · rw [put_defers]
        have hall : renL ρ (us ++ vs) = some (ur ++ rs) := RL.append (ρ := ρ) hur h3.1
        simp only [renD, hall, hcr, s.dfs, Option.bind_some, Option.map_some]
        congr 3
        apply Array.ext'; simp
  | panic x =>
    obtain ⟨v, r, h1, h2⟩ := argK_spec (show argK T fr x (fun v => match v with
      | .iface t u => K (.pan (.iface t u)) fr ds M nx
      | _ => false) = true from h) s
    cases v <;> try (cases h2; done)
    rename_i t u
    have e1 := h1.ren
    simp only [ren, Option.map_eq_some_iff] at e1
    obtain ⟨ur, hur, rfl⟩ := e1
    refine wpIn_of_run (fun c hc => by cases hc) ?_
    have hr : (execOp a.eval ⟨d, .panic x, ty, pos, af, g⟩).run P w = .halt (.panic (.iface t ur)) w := by
      simp [execOp, h1.eval, Instr.panic, goPanic, Sem.run]
    rw [hr]
    exact ⟨ρ, .pan (.iface t u), fr, ds, M, .refl ρ, ⟨_, h1.ren, rfl⟩, by rw [s.nx]; exact h2, ⟨s.size, s.slots, s.dfs, s.rep, rfl, s.same, s.glob⟩⟩
  | _ => refine opK_wp (k := k) hN ?_ s (by simp) ty pos af g; exact h

/-! ### a statement's operations in their order -/
def listK (P : Program) (T : Tabs P) (ih : EvT) (N : Nat) (inR : Bool) (ops : List Oper) (K : Kt) (l : List Oper) : Tr AV → List AD → Mem → Nat → Bool := List.rec (fun fr ds M nx => K .normal fr ds M nx)
  (fun o _ rec fr ds M nx => Oper.rec (fun d op _ _ _ g => wantK ops fr g (operK P T ih N inR fr ds M nx d op rec K) (putK N fr d (.tup []) fun fr' => rec fr' ds M nx)) o) l
theorem listK_spec {ih : EvT} (hih : Good T ih) {N : Nat} {inR : Bool} {ops : List Oper} {K : Kt} {c : Cn} (hN : c.N = N) (hro : inR = false → c.ro = none) : ∀ {l : List Oper} {ρ : Env} {fr : Tr AV} {ds : List AD} {M : Mem} {nx : Nat} {a : Act} {w : World}, listK P T ih N inR ops K l fr ds M nx = true → Rl T c ρ fr ds M nx a w → wpListIn (FW c.ro) 0 P ops.toArray (Post T c ρ K) l a w
  | [], ρ, fr, ds, M, nx, a, w, h, s => wpListIn_nil ⟨ρ, .normal, fr, ds, M, .refl ρ, rfl, by rw [s.nx]; exact h, ⟨s.size, s.slots, s.dfs, s.rep, rfl, s.same, s.glob⟩⟩
  | ⟨d, op, ty, pos, af, g⟩ :: l, ρ, fr, ds, M, nx, a, w, h, s => wpListIn_step fun Kr hKr => by
    obtain ⟨b, h1, h2⟩ := wantK_spec (show wantK ops fr g (operK P T ih N inR fr ds M nx d op (listK P T ih N inR ops K l) K) (putK N fr d (.tup []) fun fr' => listK P T ih N inR ops K l fr' ds M nx) = true from h) s.slots
    rw [h2]
    have mono : ∀ {ρ' : Env} {a : Act} {w : World}, Ext ρ ρ' → wpListIn (FW c.ro) 0 P ops.toArray (Post T c ρ' K) l a w → wpListIn (FW c.ro) 0 P ops.toArray (Post T c ρ K) l a w := fun x h => wpListIn_mono (fun e a w q => q.mono x) l _ _ h
    cases b with
    | true =>
      refine Oper.wpIn_mono (fun a' w' hn => ?_) (operK_spec hih hN hro h1 s ty pos af g)
      obtain ⟨ρ', fr', ds', M', p1, p2, p3⟩ := hn
      exact hKr _ _ (mono p1 (listK_spec hih hN hro p2 p3))
    | false =>
      obtain ⟨fr', g1, g2⟩ := putK_spec (N := N) (show putK N fr d (.tup []) (fun fr' => listK P T ih N inR ops K l fr' ds M nx) = true from h1) (by rw [s.size, hN]) s.slots (r := undef) rfl
      exact ⟨(fun _ _ => trivial), hKr _ _ (listK_spec hih hN hro g1 ⟨by rw [put_size]; exact s.size, g2, by rw [put_defers]; exact s.dfs, s.rep, s.nx, s.same, s.glob⟩)⟩

/-! ### a statement whose order is open, by a plan -/
def drawK (P : Program) (T : Tabs P) (ih : EvT) (N : Nat) (inR : Bool) (ops : List Oper) (K : Kt) (p : Pl) : List Hl → Tr AV → List AD → Mem → Nat → Bool :=
  Pl.rec (fun _ fr ds M nx => K .normal fr ds M nx)
    (fun i _ rec hl fr ds M nx => Option.rec false (fun o => Oper.rec (fun d op _ _ _ g => wantK ops fr g (opA P T fr op fun v => putK N fr d v fun fr' => rec hl fr' ds M nx) (putK N fr d (.tup []) fun fr' => rec hl fr' ds M nx)) o) (nth ops i))
    (fun i _ rec hl fr ds M nx => Option.rec false (fun o => Oper.rec (fun d op _ _ _ g => wantK ops fr g (opB P T fr M op fun v => putK N fr d v fun fr' => rec (.mk i fr ds op v :: hl) fr' ds M nx) (putK N fr d (.tup []) fun fr' => rec hl fr' ds M nx)) o) (nth ops i))
    (fun i chk _ _ recp recq hl fr ds M nx => both (recq hl fr ds M nx) (Option.rec false (fun o => Oper.rec (fun d op _ _ _ g => wantK ops fr g (operK P T ih N inR fr ds M nx d op (fun fr' ds' M' nx' => againK P T chk hl M' (recp hl fr' ds' M' nx')) K) (putK N fr d (.tup []) fun fr' => recp hl fr' ds M nx)) o) (nth ops i)))
    (fun _ _ _ _ _ => true) p
def noPan (K : Kt) : Kt := fun x => match x with
  | .pan _ => fun _ _ _ _ => false
  | x => K x
theorem noPan_post {c : Cn} {ρ : Env} {K : Kt} {e : Exit} {a : Act} {w : World} (h : Post T c ρ (noPan K) e a w) : Post T c ρ K e a w := by
  obtain ⟨ρ', x, fr, ds, M, h1, h2, h3, h4⟩ := h
  refine ⟨ρ', x, fr, ds, M, h1, h2, ?_, h4⟩
  cases x <;> first | exact h3 | cases h3
theorem noPan_panic' {c : Cn} {ρ : Env} {K : Kt} {e : Exit} {a : Act} {w : World} (h : Post T c ρ (noPan K) e a w) : ∀ l, e ≠ .panic l := by
  obtain ⟨ρ', x, fr, ds, M, h1, h2, h3, h4⟩ := h
  rintro l rfl
  cases x with
  | pan v => cases h3
  | _ => cases h2
theorem drawK_spec {ih : EvT} (hih : Good T ih) {N : Nat} {inR : Bool} {ops : List Oper} {K : Kt} {c : Cn} (hN : c.N = N) (hro : inR = false → c.ro = none) (hsel : Region.noSelect ops.toArray = true) (hnd : noDefer ops.toArray = true) :
    ∀ {p : Pl} {hl : List Hl} {HL : List HEnt} {held seen : List Nat} {n : Nat} {done : Array Bool} {ρ : Env} {fr : Tr AV} {ds : List AD} {M : Mem} {nx : Nat} {a : Act} {w : World}, drawK P T ih N inR ops (noPan K) p hl fr ds M nx = true → okPl ops p n done held seen = true → All2 (HlOk c ρ) hl HL → (∀ h ∈ HL, h.i ∈ held) → Closed ops.toArray done → Rl T c ρ fr ds M nx a w →
      Owed c.ro P ops (Post T c ρ (noPan K)) (Sof P ops HL) seen n done a w
  | .fin, hl, HL, held, seen, n, done, ρ, fr, ds, M, nx, a, w, h, ok, hp, hh, hc, s => by
    have hr := isNilL_spec (show isNilL (readyL ops done) = true from ok)
    have hq : Post T c ρ (noPan K) .normal a w := ⟨ρ, .normal, fr, ds, M, .refl ρ, rfl, by rw [s.nx]; exact h, ⟨s.size, s.slots, s.dfs, s.rep, rfl, s.same, s.glob⟩⟩
    cases n with
    | zero => exact ⟨hr, hq⟩
    | succ n => exact ⟨fun _ => hq, by rw [show Region.ready .any ops.toArray done = [] from hr]; simp⟩
  | .take i p, hl, HL, held, seen, n, done, ρ, fr, ds, M, nx, a, w, h, ok, hp, hh, hc, s => by
    cases n with
    | zero => cases ok
    | succ n =>
    obtain ⟨ok1, ok⟩ := both_eq.1 (show both (hasN (readyL ops done) i) (both (Region.free .any ops.toArray done i) (okPl ops p n (done.setIfInBounds i true) held [])) = true from ok)
    obtain ⟨ok2, ok⟩ := both_eq.1 ok
    have hi : i ∈ Region.ready .any ops.toArray done := hasN_spec ok1
    obtain ⟨⟨d, op, ty, pos, af, g⟩, h1, h⟩ := opt_rec h
    rw [nth_eq] at h1
    have h1' : ops.toArray[i]? = some ⟨d, op, ty, pos, af, g⟩ := by simpa using h1
    obtain ⟨b, h2, h3⟩ := wantK_spec (show wantK ops fr g (opA P T fr op fun v => putK N fr d v fun fr' => drawK P T ih N inR ops (noPan K) p hl fr' ds M nx) (putK N fr d (.tup []) fun fr' => drawK P T ih N inR ops (noPan K) p hl fr' ds M nx) = true from h) s.slots
    have goal : ∀ v r, ren ρ v = some r → putK N fr d v (fun fr' => drawK P T ih N inR ops (noPan K) p hl fr' ds M nx) = true → YieldsIf P ops.toArray (fun _ => True) ⟨d, op, ty, pos, af, g⟩ r a → Owed c.ro P ops (Post T c ρ (noPan K)) (Sof P ops HL) seen (n + 1) done a w := fun v r hv hk hy => by
      obtain ⟨fr', g1, g2⟩ := putK_spec (N := N) hk (by rw [s.size, hN]) s.slots hv
      have s' : Rl T c ρ fr' ds M nx (a.put d r) w := ⟨by rw [put_size]; exact s.size, g2, by rw [put_defers]; exact s.dfs, s.rep, s.nx, s.same, s.glob⟩
      exact (Hs.take (R := fun _ => True) h1' hsel hnd (fun _ _ _ q => noPan_panic' q _ rfl |>.elim) (fun w h _ _ q => q) (fun _ _ _ _ _ _ => trivial) n done a w hc (Region.free_spec h1' ok2) hi hy trivial (drawK_spec hih hN hro hsel hnd g1 ok hp hh (hc.set hi) s').hs).owed
    cases b with
    | true =>
      obtain ⟨v, r, g1, g2, g3⟩ := opA_spec (show opA P T fr op (fun v => putK N fr d v fun fr' => drawK P T ih N inR ops (noPan K) p hl fr' ds M nx) = true from h2) s
      exact goal v r g1 g2 (.inl ⟨h3 d op ty pos af, fun w' _ => yrun (g3 w' trivial ty) d pos af g⟩)
    | false => exact goal (.tup []) undef rfl h2 (.inr ⟨h3 d op ty pos af, rfl⟩)
  | .hold i p, hl, HL, held, seen, n, done, ρ, fr, ds, M, nx, a, w, h, ok, hp, hh, hc, s => by
    cases n with
    | zero => cases ok
    | succ n =>
    obtain ⟨ok1, ok⟩ := both_eq.1 (show both (hasN (readyL ops done) i) (both (Region.free .any ops.toArray done i) (okPl ops p n (done.setIfInBounds i true) (i :: held) [])) = true from ok)
    obtain ⟨ok2, ok⟩ := both_eq.1 ok
    have hi : i ∈ Region.ready .any ops.toArray done := hasN_spec ok1
    obtain ⟨⟨d, op, ty, pos, af, g⟩, h1, h⟩ := opt_rec h
    rw [nth_eq] at h1
    have h1' : ops.toArray[i]? = some ⟨d, op, ty, pos, af, g⟩ := by simpa using h1
    obtain ⟨b, h2, h3⟩ := wantK_spec (show wantK ops fr g (opB P T fr M op fun v => putK N fr d v fun fr' => drawK P T ih N inR ops (noPan K) p (.mk i fr ds op v :: hl) fr' ds M nx) (putK N fr d (.tup []) fun fr' => drawK P T ih N inR ops (noPan K) p hl fr' ds M nx) = true from h) s.slots
    cases b with
    | true =>
      obtain ⟨v, r, g1, hk, g3⟩ := opB_spec (show opB P T fr M op (fun v => putK N fr d v fun fr' => drawK P T ih N inR ops (noPan K) p (.mk i fr ds op v :: hl) fr' ds M nx) = true from h2) s
      obtain ⟨fr', q1, q2⟩ := putK_spec (N := N) hk (by rw [s.size, hN]) s.slots g1
      have s' : Rl T c ρ fr' ds M nx (a.put d r) w := ⟨by rw [put_size]; exact s.size, q2, by rw [put_defers]; exact s.dfs, s.rep, s.nx, s.same, s.glob⟩
      let e : HEnt := ⟨i, a, ⟨d, op, ty, pos, af, g⟩, r⟩
      have hw : e.R P w := yrun (g3 w rfl ty) d pos af g
      have hrec := (drawK_spec hih hN hro hsel hnd (HL := e :: HL) (held := i :: held) (seen := []) q1 ok ⟨⟨rfl, rfl, s.size, s.slots, s.dfs, g1⟩, hp⟩ (fun h hm => by
        rcases List.mem_cons.1 hm with rfl | hm
        · simp [e]
        · exact List.mem_cons_of_mem _ (hh h hm)) (hc.set hi) s').hs
      refine (Hs.mono (S := Sof P ops (e :: HL)) (fun j w w' q x hx => q x (List.mem_cons_of_mem _ hx)) _ _ _ _ (Hs.take (R := e.R P) h1' hsel hnd (fun _ _ _ q => noPan_panic' q _ rfl |>.elim) (fun w h _ _ q => q) (fun j w w' ha hS hR => hS e (by simp) ha hR) n done a w hc (Region.free_spec h1' ok2) hi (.inl ⟨h3 d op ty pos af, fun w' q => q⟩) hw hrec)).owed
    | false =>
      obtain ⟨fr', q1, q2⟩ := putK_spec (N := N) (show putK N fr d (.tup []) (fun fr' => drawK P T ih N inR ops (noPan K) p hl fr' ds M nx) = true from h2) (by rw [s.size, hN]) s.slots (r := undef) rfl
      have s' : Rl T c ρ fr' ds M nx (a.put d undef) w := ⟨by rw [put_size]; exact s.size, q2, by rw [put_defers]; exact s.dfs, s.rep, s.nx, s.same, s.glob⟩
      exact (Hs.take (R := fun _ => True) h1' hsel hnd (fun _ _ _ q => noPan_panic' q _ rfl |>.elim) (fun w h _ _ q => q) (fun _ _ _ _ _ _ => trivial) n done a w hc (Region.free_spec h1' ok2) hi (.inr ⟨h3 d op ty pos af, rfl⟩) trivial (drawK_spec hih hN hro hsel hnd q1 ok hp (fun h hm => List.mem_cons_of_mem _ (hh h hm)) (hc.set hi) s').hs).owed
  | .alt i chk p q, hl, HL, held, seen, n, done, ρ, fr, ds, M, nx, a, w, h, ok, hp, hh, hc, s => by
    cases n with
    | zero => cases ok
    | succ n =>
    obtain ⟨ok1, ok⟩ := both_eq.1 (show both (hasN (readyL ops done) i) (both (allL (fun h => Bool.rec (anc ops.toArray ops.toArray.size i h) true (hasN chk h)) held) (both (okPl ops p n (done.setIfInBounds i true) held []) (okPl ops q (n + 1) done held (i :: seen)))) = true from ok)
    obtain ⟨ok2, ok⟩ := both_eq.1 ok
    obtain ⟨ok3, ok4⟩ := both_eq.1 ok
    have hi : i ∈ Region.ready .any ops.toArray done := hasN_spec ok1
    obtain ⟨hq, h⟩ := both_eq.1 (show both (drawK P T ih N inR ops (noPan K) q hl fr ds M nx) (Option.rec false (fun o => Oper.rec (fun d op _ _ _ g => wantK ops fr g (operK P T ih N inR fr ds M nx d op (fun fr' ds' M' nx' => againK P T chk hl M' (drawK P T ih N inR ops (noPan K) p hl fr' ds' M' nx')) (noPan K)) (putK N fr d (.tup []) fun fr' => drawK P T ih N inR ops (noPan K) p hl fr' ds M nx)) o) (nth ops i)) = true from h)
    have hrest := drawK_spec hih hN hro hsel hnd hq ok4 hp hh hc s
    refine ⟨hrest.1, fun j hj hs => ?_⟩
    by_cases e : Nat.beq i j = true
    · have e := Nat.eq_of_beq_eq_true e
      subst e
      obtain ⟨⟨d, op, ty, pos, af, g⟩, h1, h⟩ := opt_rec h
      rw [nth_eq] at h1
      have h1' : ops.toArray[i]? = some ⟨d, op, ty, pos, af, g⟩ := by simpa using h1
      obtain ⟨b, h2, h3⟩ := wantK_spec (show wantK ops fr g (operK P T ih N inR fr ds M nx d op (fun fr' ds' M' nx' => againK P T chk hl M' (drawK P T ih N inR ops (noPan K) p hl fr' ds' M' nx')) (noPan K)) (putK N fr d (.tup []) fun fr' => drawK P T ih N inR ops (noPan K) p hl fr' ds M nx) = true from h) s.slots
      unfold Go.wpOpIn
      simp only [h1']
      rw [h3]
      cases b with
      | true =>
        simp only [if_true]
        refine Oper.wpIn_mono (fun a' w' hn => ?_) (operK_spec (k := fun fr' ds' M' nx' => againK P T chk hl M' (drawK P T ih N inR ops (noPan K) p hl fr' ds' M' nx')) hih hN hro (by simpa using h2) s ty pos af g)
        obtain ⟨ρ', fr', ds', M', p1, p2, p3⟩ := hn
        obtain ⟨p4, p5⟩ := againK_spec (c := c) p3.rep p3.same p3.glob p2 (all2_ext p1 hp)
        refine ⟨fun x hx ha _ => p5 x hx ?_, Hs.monoQ (fun e a w q => q.mono p1) _ _ _ _ (drawK_spec hih hN hro hsel hnd p4 ok3 (all2_ext p1 hp) hh (hc.set hi) p3).hs⟩
        have := allL_spec ok2 x.i (hh x hx)
        cases hx' : hasN chk x.i with
        | true => rfl
        | false => rw [hx'] at this; rw [ha] at this; cases this
      | false =>
        obtain ⟨fr', q1, q2⟩ := putK_spec (N := N) (show putK N fr d (.tup []) (fun fr' => drawK P T ih N inR ops (noPan K) p hl fr' ds M nx) = true from h2) (by rw [s.size, hN]) s.slots (r := undef) rfl
        refine ⟨(fun _ _ => trivial), fun _ _ _ q => q, (drawK_spec hih hN hro hsel hnd q1 ok3 hp hh (hc.set hi) ⟨by rw [put_size]; exact s.size, q2, by rw [put_defers]; exact s.dfs, s.rep, s.nx, s.same, s.glob⟩).hs⟩
    · refine hrest.2 j hj ?_
      show (Bool.rec (hasN seen j) true (Nat.beq i j) : Bool) = false
      rw [Bool.eq_false_iff.2 e]; exact hs
  | .stop, hl, HL, held, seen, n, done, ρ, fr, ds, M, nx, a, w, h, ok, hp, hh, hc, s => by
    cases n with
    | zero => cases ok
    | succ n =>
    obtain ⟨ok1, ok2⟩ := both_eq.1 (show both (notB (isNilL (readyL ops done))) (allL (hasN seen) (readyL ops done)) = true from ok)
    refine ⟨fun e => ?_, fun j hj hs => ?_⟩
    · rw [show readyL ops done = [] from e] at ok1; cases ok1
    · have := allL_spec ok2 j hj
      rw [hs] at this; cases this

/-! ### code -/
def loopK (ih : EvT) (c : Code) (N : Nat) (inR : Bool) (K : Kt) (L : Nat) : Tr AV → List AD → Mem → Nat → Bool := Nat.rec (fun _ _ _ _ => false) (fun _ rec fr ds M nx => ih c N inR fr ds M nx fun x fr ds M nx => match x with
  | .normal => rec fr ds M nx
  | x => K x fr ds M nx) L
def codeK (P : Program) (T : Tabs P) (ih : EvT) : EvT := fun c N inR fr ds M nx K => match c with
  | .skip => K .normal fr ds M nx
  | .region _ ⟨ops⟩ draw => Bool.rec (listK P T ih N inR ops K ops fr ds M nx) (both (P.follows .mixedOrders) (both (okPlan ops (planOf T ops)) (drawK P T ih N inR ops (noPan K) (planOf T ops) [] fr ds M nx))) draw
  | .seq x y => ih x N inR fr ds M nx fun e fr ds M nx => match e with
    | .normal => ih y N inR fr ds M nx K
    | e => K e fr ds M nx
  | .cond b x y => argK T fr b fun v => match v with
    | .bool b => Bool.rec (ih y N inR fr ds M nx K) (ih x N inR fr ds M nx K) b
    | _ => false
  | .block id x => ih x N inR fr ds M nx fun e fr ds M nx => match e with
    | .exit id' => Bool.rec (K (.exit id') fr ds M nx) (K .normal fr ds M nx) (Nat.beq id' id)
    | e => K e fr ds M nx
  | .loop x => loopK ih x N inR K 1000000 fr ds M nx
  | .exit id => K (.exit id) fr ds M nx
  | .scope x => Bool.rec (ih x N inR fr ds M nx K) false inR
  | .label _ => K .normal fr ds M nx
  | .ret => K .ret fr ds M nx
  | _ => false
theorem rounds_of {ih : EvT} (hih : Good T ih) {x : Code} {N : Nat} {inR : Bool} {K : Kt} {c : Cn} (hN : c.N = N) (hro : inR = false → c.ro = none) : ∀ {L : Nat} {ρ : Env} {fr : Tr AV} {ds : List AD} {M : Mem} {nx : Nat} {a : Act} {w : World}, loopK ih x N inR K L fr ds M nx = true → Rl T c ρ fr ds M nx a w → Code.roundsIn (FW c.ro) 0 P x (Post T c ρ K) L a w
  | 0, ρ, fr, ds, M, nx, a, w, h, s => by cases h
  | L + 1, ρ, fr, ds, M, nx, a, w, h, s => by
    refine wpIn_mono (hih _ _ _ _ _ _ _ _ (show ih x N inR fr ds M nx (fun x' fr ds M nx => match x' with
      | .normal => loopK ih x N inR K L fr ds M nx
      | x' => K x' fr ds M nx) = true from h) c ρ a w hN hro s) ?_
    rintro e a w ⟨ρ', x', fr', ds', M', p1, p2, p3, p4⟩
    cases x' with
    | normal =>
      obtain rfl := p2
      show Code.roundsIn _ _ _ _ _ _ _ _
      have mono : ∀ {L : Nat} {a : Act} {w : World}, Code.roundsIn (FW c.ro) 0 P x (Post T c ρ' K) L a w → Code.roundsIn (FW c.ro) 0 P x (Post T c ρ K) L a w := by
        intro L
        induction L with
        | zero => intro a w h; exact h
        | succ L ih' =>
          intro a w h
          refine wpIn_mono h fun e a w q => ?_
          cases e with
          | normal => exact ih' q
          | _ => exact Post.mono p1 q
      exact mono (rounds_of hih hN hro p3 p4)
    | exit id => obtain rfl := p2; exact ⟨ρ', .exit id, fr', ds', M', p1, rfl, p3, p4⟩
    | ret => obtain rfl := p2; exact ⟨ρ', .ret, fr', ds', M', p1, rfl, p3, p4⟩
    | pan v => obtain ⟨r, p5, rfl⟩ := p2; exact ⟨ρ', .pan v, fr', ds', M', p1, ⟨r, p5, rfl⟩, p3, p4⟩
theorem codeK_good {ih : EvT} (hih : Good T ih) : Good T (codeK P T ih) := fun code N inR fr ds M nx K h c ρ a w hN hro s => by
  have here : ∀ {x : Ex} {e : Exit}, ExR ρ x e → K x fr ds M nx = true → Post T c ρ K e a w := fun h1 h2 => ⟨ρ, _, fr, ds, M, .refl ρ, h1, by rw [s.nx]; exact h2, ⟨s.size, s.slots, s.dfs, s.rep, rfl, s.same, s.glob⟩⟩
  cases code with
  | skip => exact wpIn_skip (here (x := .normal) rfl h)
  | region id ops draw =>
    obtain ⟨ops⟩ := ops
    cases draw with
    | true =>
      obtain ⟨hm, h⟩ := both_eq.1 (show both (P.follows .mixedOrders) (both (okPlan ops (planOf T ops)) (drawK P T ih N inR ops (noPan K) (planOf T ops) [] fr ds M nx)) = true from h)
      obtain ⟨h1, h⟩ := both_eq.1 h
      obtain ⟨h2, h1⟩ := both_eq.1 h1
      obtain ⟨h3, h1⟩ := both_eq.1 h1
      have s' : Rl T c ρ fr ds M nx a { w with drawn := w.drawn + 1 } := ⟨s.size, s.slots, s.dfs, ⟨s.rep.own, s.rep.inj, s.rep.frame⟩, s.nx, s.same.trans ⟨rfl, rfl, rfl, Nat.le_refl _⟩, s.glob⟩
      have hc : Closed ops.toArray (Array.replicate ops.length false) := by have := Closed.none (ops := ops.toArray); simpa using this
      have hd := (drawK_spec hih hN hro h2 h3 (HL := []) h h1 trivial (by simp) hc s').hs
      refine wpIn_mono (Q := Post T c ρ (noPan K)) (wpIn_region_any hm (Hs.any (S := Sof P ops []) _ _ _ _ ?_)) fun e a w q => noPan_post q
      simpa using hd
    | false => exact wpIn_region_lit (listK_spec hih hN hro h s)
  | seq x y =>
    refine wpIn_seq (wpIn_mono (hih _ _ _ _ _ _ _ _ (show ih x N inR fr ds M nx (fun e fr ds M nx => match e with
      | .normal => ih y N inR fr ds M nx K
      | e => K e fr ds M nx) = true from h) c ρ a w hN hro s) ?_)
    rintro e a w ⟨ρ', x', fr', ds', M', p1, p2, p3, p4⟩
    cases x' with
    | normal =>
      obtain rfl := p2
      exact wpIn_mono (hih _ _ _ _ _ _ _ _ p3 c ρ' a w hN hro p4) fun e a w q => q.mono p1
    | exit id => obtain rfl := p2; exact ⟨ρ', .exit id, fr', ds', M', p1, rfl, p3, p4⟩
    | ret => obtain rfl := p2; exact ⟨ρ', .ret, fr', ds', M', p1, rfl, p3, p4⟩
    | pan v => obtain ⟨r, p5, rfl⟩ := p2; exact ⟨ρ', .pan v, fr', ds', M', p1, ⟨r, p5, rfl⟩, p3, p4⟩
  | cond b x y =>
    obtain ⟨v, r, h1, h2⟩ := argK_spec (show argK T fr b (fun v => match v with
      | .bool b => Bool.rec (ih y N inR fr ds M nx K) (ih x N inR fr ds M nx K) b
      | _ => false) = true from h) s
    cases v <;> try (cases h2; done)
    rename_i b
    obtain rfl : r = .bool b := by simpa [ren] using h1.ren.symm
    cases b with
    | false => exact wpIn_cond_false h1.eval (hih _ _ _ _ _ _ _ _ h2 c ρ a w hN hro s)
    | true => exact wpIn_cond_true h1.eval (hih _ _ _ _ _ _ _ _ h2 c ρ a w hN hro s)
  | block id x =>
    refine wpIn_block (wpIn_mono (hih _ _ _ _ _ _ _ _ (show ih x N inR fr ds M nx (fun e fr ds M nx => match e with
      | .exit id' => Bool.rec (K (.exit id') fr ds M nx) (K .normal fr ds M nx) (Nat.beq id' id)
      | e => K e fr ds M nx) = true from h) c ρ a w hN hro s) ?_)
    rintro e a w ⟨ρ', x', fr', ds', M', p1, p2, p3, p4⟩
    cases x' with
    | normal => obtain rfl := p2; exact ⟨ρ', .normal, fr', ds', M', p1, rfl, p3, p4⟩
    | exit id' =>
      obtain rfl := p2
      have p3 : (Bool.rec (K (.exit id') fr' ds' M' ρ'.length) (K .normal fr' ds' M' ρ'.length) (Nat.beq id' id) : Bool) = true := p3
      cases q : Nat.beq id' id with
      | true =>
        rw [q] at p3
        have := Nat.eq_of_beq_eq_true q
        show Exit.inBlock id _ _ _ _
        simp only [Exit.inBlock, this, if_true]
        exact ⟨ρ', .normal, fr', ds', M', p1, rfl, p3, p4⟩
      | false =>
        rw [q] at p3
        have : id' ≠ id := fun e => by subst e; simp at q
        show Exit.inBlock id _ _ _ _
        simp only [Exit.inBlock, if_neg this]
        exact ⟨ρ', .exit id', fr', ds', M', p1, rfl, p3, p4⟩
    | ret => obtain rfl := p2; exact ⟨ρ', .ret, fr', ds', M', p1, rfl, p3, p4⟩
    | pan v => obtain ⟨r, p5, rfl⟩ := p2; exact ⟨ρ', .pan v, fr', ds', M', p1, ⟨r, p5, rfl⟩, p3, p4⟩
  | loop x => exact wpIn_loop_rounds 1000000 (rounds_of hih hN hro h s)
  | exit id => exact wpIn_exit (here (x := .exit id) rfl h)
  | scope x =>
    cases inR with
    | true => cases h
    | false =>
      have h1 := hih _ _ _ _ _ _ _ _ (show ih x N false fr ds M nx K = true from h) c ρ a w hN hro s
      have hro := hro rfl
      rw [hro] at h1 ⊢
      have h2 : x.wpIn (FW none) 0 P (Exit.noGoto (Post T c ρ K)) a w := wpIn_mono h1 fun e a w q => by
        cases e with
        | goto l =>
          obtain ⟨ρ', x', fr', ds', M', p1, p2, p3, p4⟩ := q
          cases x' with
          | pan v => obtain ⟨r, p5, p6⟩ := p2; cases p6
          | _ => cases p2
        | _ => exact q
      exact (wpIn_wide (n := 0)).2 (wp_scope_straight ((wpIn_wide (n := 0)).1 h2))
  | label l => exact wpIn_label (here (x := .normal) rfl h)
  | ret => exact wpIn_ret (here (x := .ret) rfl h)
  | _ => cases h
/-- The evaluator: so many levels deep. -/
def ev (P : Program) (T : Tabs P) (n : Nat) : EvT := Nat.rec (fun _ _ _ _ _ _ _ _ => false) (fun _ ih => codeK P T ih) n
theorem ev_good : ∀ n, Good T (ev P T n)
  | 0 => fun code N inR fr ds M nx K h => by cases h
  | n + 1 => codeK_good (ev_good n)
end
end Go.Ev
