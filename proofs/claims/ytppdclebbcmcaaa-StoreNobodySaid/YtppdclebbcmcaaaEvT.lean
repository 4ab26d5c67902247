/- The evaluator, part T: statements, and the whole. -/
import Derived.Test.YtppdclebbcmcaaaEvY
import Derived.LoopNIn
set_option linter.unusedSimpArgs false
set_option linter.unusedVariables false
namespace Go.Ev
open Go.Sl
noncomputable section
variable {P : Program}

/-! ### one operation -/
def callVK (T : Tabs P) (ih : EvT) (fv : AV) (vs : List AV) (M : Mem) (nx : Nat) (k : Oc → Mem → Nat → Bool) : Bool := match fv with
  | .fn (.func f) xs ys => appL vs ys fun l => appL xs l fun all => callFK T ih f all M nx k
  | .yl i => roundK ih i vs M nx k
  | _ => false
variable {T : Tabs P}
theorem callVK_spec {ih : EvT} (hih : Good T ih) {fv : AV} {vs : List AV} {M : Mem} {nx : Nat} {k : Oc → Mem → Nat → Bool} (h : callVK T ih fv vs M nx k = true) {ρ : Env} {fr : Value} {rs : List Value} {hF : Hp} {w : World} (hf : ren ρ fv = some fr) (hr : Rep ρ M hF w) (hn : ρ.length = nx) (hg : ∀ g i, T.gl g = some i → ρ[i]? = some (g, 0, 0)) (hv : RL ρ vs rs) :
    ∃ d nx w1, (Deferred.ofValue fr rs.toArray).run P w = .ok d w ∧ (invoke d.target d.args).run P w = .ok nx w1 ∧ NxP P (CallPost T hF ρ w k) nx w1 := by
  cases fv with
  | fn f xs ys =>
    cases f with
    | func f =>
      have h : appL vs ys (fun l => appL xs l fun all => callFK T ih f all M nx k) = true := h
      rw [appL_eq, appL_eq] at h
      simp only [ren, Option.bind_eq_some_iff, Option.map_eq_some_iff] at hf
      obtain ⟨us, hus, cs, hcs, rfl⟩ := hf
      obtain ⟨nxt, w1, h1, h2⟩ := callFK_spec hih h hr hn hg (RL.append (ρ := ρ) hus (RL.append hv hcs))
      refine ⟨{ target := .fn (.func f) ⟨cs⟩, args := ⟨us⟩ ++ rs.toArray }, nxt, w1, rfl, ?_, h2⟩
      rw [← h1]
      simp only [invoke]
      congr 2
      apply Array.ext'; simp
    | _ => cases h
  | yl i =>
    simp only [ren, Option.map_eq_some_iff] at hf
    obtain ⟨e, he, rfl⟩ := hf
    obtain ⟨nxt, h1, h2⟩ := roundK_spec hih (show roundK ih i vs M nx k = true from h) he hr hn hg hv
    refine ⟨{ target := .fn (.yield e.1) #[], args := #[] ++ rs.toArray }, nxt, w, rfl, by simpa [invoke] using h1, h2⟩
  | _ => cases h
def deferK (T : Tabs P) (inR : Bool) (fv : AV) (vs : List AV) (k : AD → Bool) : Bool := Bool.rec (match fv with
  | .fn (.func f) xs ys => appL xs vs fun l => k (.call f l ys)
  | _ => false) false inR
def callOpK (P : Program) (T : Tabs P) (ih : EvT) (N : Nat) (fr : Tr AV) (ds : List AD) (M : Mem) (nx : Nat) (d : Option Tmp) (k : Tr AV → List AD → Mem → Nat → Bool) (K : Kt) (c : Call) : Bool := match c with
  | ⟨.value f, xs, _⟩ => argK T fr f fun fv => argsK T fr xs.toList fun vs => callVK T ih fv vs M nx fun oc M' nx' => match oc with
    | .ret v => putK N fr d v fun fr' => k fr' ds M' nx'
    | .pan v => K (.pan v) fr ds M' nx'
  | c => builtCK P T fr M nx (fun v M' nx' => putK N fr d v fun fr' => k fr' ds M' nx') c
def deferOpK (T : Tabs P) (N : Nat) (inR : Bool) (fr : Tr AV) (ds : List AD) (M : Mem) (nx : Nat) (d : Option Tmp) (k : Tr AV → List AD → Mem → Nat → Bool) (c : Call) : Bool := match c with
  | ⟨.value f, xs, _⟩ => argK T fr f fun fv => argsK T fr xs.toList fun vs => deferK T inR fv vs fun ad => putK N fr d (.tup []) fun fr' => k fr' (ad :: ds) M nx
  | _ => false
def panicOpK (T : Tabs P) (fr : Tr AV) (ds : List AD) (M : Mem) (nx : Nat) (K : Kt) (x : Operand) : Bool := argK T fr x fun v => match v with
  | .iface t u => K (.pan (.iface t u)) fr ds M nx
  | _ => false
def operK (P : Program) (T : Tabs P) (ih : EvT) (N : Nat) (inR : Bool) (fr : Tr AV) (ds : List AD) (M : Mem) (nx : Nat) (d : Option Tmp) (op : Op) (k : Tr AV → List AD → Mem → Nat → Bool) (K : Kt) : Bool :=
  opXK P T op (callOpK P T ih N fr ds M nx d k K) (deferOpK T N inR fr ds M nx d k) (panicOpK T fr ds M nx K) fr M nx fun v M' nx' => putK N fr d v fun fr' => k fr' ds M' nx'
/-- Behind an operation. -/
def Next1 (T : Tabs P) (c : Cn) (ρ : Env) (k : Tr AV → List AD → Mem → Nat → Bool) : Act → World → Prop := fun a w => ∃ ρ' fr ds M, Ext ρ ρ' ∧ k fr ds M ρ'.length = true ∧ Rl T c ρ' fr ds M ρ'.length a w
theorem opK_wp {c : Cn} {ρ : Env} {fr : Tr AV} {ds : List AD} {M : Mem} {nx N : Nat} {a : Act} {w : World} {d : Option Tmp} {op : Op} {k : Tr AV → List AD → Mem → Nat → Bool} {K : Kt} (hN : c.N = N) (h : opK P T fr M nx op (fun v M' nx' => putK N fr d v fun fr' => k fr' ds M' nx') = true) (s : Rel T c ρ fr ds M nx a w) (hnd : ∀ cl, op ≠ .defer cl) (ty : TypeId) (pos : String) (af : Array Edge) (g : Option (Nat × Bool)) :
    (Oper.mk d op ty pos af g).wpIn (FW c.ro) 0 P a w (Next1 T c ρ k) (Post T c ρ K) := by
  obtain ⟨v, r, ρ', M', w', n, h1, h2, h3, h4, h5, h6, h7⟩ := opK_spec h s
  refine wpIn_of_run hnd ?_
  rw [h7 ⟨d, op, ty, pos, af, g⟩ rfl]
  obtain ⟨fr', g1, g2⟩ := putK_spec (N := N) h3 (by rw [s.size, hN]) (s.slots.ext h1) h2
  have hR : Rl T c ρ' fr' ds M' ρ'.length (a.put d r) w' := ⟨by rw [put_size]; exact s.size, g2, by rw [put_defers]; exact renD_ext h1 s.dfs, h4, rfl, s.same.trans h5, glob_ext s.glob h1⟩
  rcases h6 with rfl | ⟨rfl, rfl⟩
  · exact ⟨ρ', fr', ds, M', h1, g1, hR⟩
  · exact ⟨ρ', fr', ds, M', h1, g1, hR⟩
theorem operK_spec {ih : EvT} (hih : Good T ih) {c : Cn} {ρ : Env} {fr : Tr AV} {ds : List AD} {M : Mem} {nx N : Nat} {inR : Bool} {a : Act} {w : World} {d : Option Tmp} {op : Op} {k : Tr AV → List AD → Mem → Nat → Bool} {K : Kt} (hN : c.N = N) (hro : inR = false → c.ro = none) (h : operK P T ih N inR fr ds M nx d op k K = true) (s : Rel T c ρ fr ds M nx a w) (ty : TypeId) (pos : String) (af : Array Edge) (g : Option (Nat × Bool)) :
    (Oper.mk d op ty pos af g).wpIn (FW c.ro) 0 P a w (Next1 T c ρ k) (Post T c ρ K) := by
  cases op with
  | call cl =>
    obtain ⟨cal, xs, ts⟩ := cl
    cases cal with
    | value f =>
      obtain ⟨fv, fvr, h1, h2⟩ := argK_spec (show argK T fr f (fun fv => argsK T fr xs.toList fun vs => callVK T ih fv vs M nx fun oc M' nx' => match oc with
        | .ret v => putK N fr d v fun fr' => k fr' ds M' nx'
        | .pan v => K (.pan v) fr ds M' nx') = true from h) s
      obtain ⟨vs, rs, h3, h4⟩ := argsK_spec s h2
      obtain ⟨dd, nxt, w1, q1, q2, q3⟩ := callVK_spec hih h4 h1.ren s.rep s.nx s.glob h3.1
      have hargs : xs.map a.eval = rs.toArray := by
        have := (st_full none a (sat_all w)).evals (h3.2 none w (mem w))
        apply Array.ext'; rw [Array.toList_map, this]
      have hr : (execOp a.eval ⟨d, .call ⟨.value f, xs, ts⟩, ty, pos, af, g⟩).run P w = .ok nxt w1 := by
        simp only [execOp, resolve, h1.eval, hargs, Sem.run_bind, q1, Result.andThen_ok, q2]
      refine wpIn_of_run (fun c hc => by cases hc) ?_
      rw [hr]
      have key : ∀ e w', CallPost T c.hF ρ w (fun oc M' nx' => match oc with
          | .ret v => putK N fr d v fun fr' => k fr' ds M' nx'
          | .pan v => K (.pan v) fr ds M' nx') e w' → (match e, w' with
          | .returned v, w'' => Next1 T c ρ k (a.put d v) w''
          | .panicked chain, w'' => Post T c ρ K (.panic chain) a w''
          | .outgrown, _ => LetsOut (Post T c ρ K)) := by
        rintro e w' ⟨ρ', oc, M', p1, p2, p3, p4, p5⟩
        cases oc with
        | ret v =>
          obtain ⟨r, p6, rfl⟩ := p2
          obtain ⟨fr', g1, g2⟩ := putK_spec (N := N) p3 (by rw [s.size, hN]) (s.slots.ext p1) p6
          exact ⟨ρ', fr', ds, M', p1, g1, ⟨by rw [put_size]; exact s.size, g2, by rw [put_defers]; exact renD_ext p1 s.dfs, p4, rfl, s.same.trans p5, glob_ext s.glob p1⟩⟩
        | pan v =>
          obtain ⟨r, p6, rfl⟩ := p2
          exact ⟨ρ', .pan v, fr, ds, M', p1, ⟨r, p6, rfl⟩, p3, ⟨s.size, s.slots.ext p1, renD_ext p1 s.dfs, p4, rfl, s.same.trans p5, glob_ext s.glob p1⟩⟩
      cases nxt with
      | enter f as => exact ⟨(fun hd => by cases hd), CallsIn.mono ((callsIn_wide (n := 0 - 1)).2 q3) (fun e w' hr => by have := key e w' hr; cases e <;> exact this)⟩
      | round l f tmps assign body => exact ⟨(fun hd => by cases hd), RoundIn.mono q3 (fun e w' hr => by have := key e w' hr; cases e <;> exact this)⟩
      | value v => exact key (.returned v) w1 q3
      | _ => exact q3.elim
    | builtin b => refine opK_wp (k := k) hN ?_ s (by simp) ty pos af g; exact h
    | invoke r m => refine opK_wp (k := k) hN ?_ s (by simp) ty pos af g; exact h
  | defer cl =>
    obtain ⟨cal, xs, ts⟩ := cl
    cases cal <;> try (cases h; done)
    rename_i f
    obtain ⟨fv, fvr, h1, h2⟩ := argK_spec (show argK T fr f (fun fv => argsK T fr xs.toList fun vs => deferK T inR fv vs fun ad => putK N fr d (.tup []) fun fr' => k fr' (ad :: ds) M nx) = true from h) s
    obtain ⟨vs, rs, h3, h4⟩ := argsK_spec s h2
    cases inR with
    | true => cases h4
    | false =>
      have hro := hro rfl
      cases fv <;> try (cases h4; done)
      rename_i fn us cs
      cases fn <;> try (cases h4; done)
      rename_i f'
      have h4 : appL us vs (fun l => putK N fr d (.tup []) fun fr' => k fr' (.call f' l cs :: ds) M nx) = true := h4
      rw [appL_eq] at h4
      have hargs : xs.map a.eval = rs.toArray := by
        have := (st_full none a (sat_all w)).evals (h3.2 none w (mem w))
        apply Array.ext'; rw [Array.toList_map, this]
      have e1 := h1.ren
      simp only [ren, Option.bind_eq_some_iff, Option.map_eq_some_iff] at e1
      obtain ⟨ur, hur, cr, hcr, rfl⟩ := e1
      obtain ⟨fr', g1, g2⟩ := putK_spec (N := N) h4 (by rw [s.size, hN]) s.slots (r := undef) rfl
      rw [hro]
      refine ⟨(fun _ _ => trivial), ?_⟩
      have hr : ((Oper.mk d (.defer ⟨.value f, xs, ts⟩) ty pos af g).semAt (FW none).round a.eval).run P w = .ok (.defer ⟨.fn (.func f') ⟨cr⟩, ⟨ur⟩ ++ rs.toArray⟩) w := by
        rw [show (FW none).round = none from rfl, Oper.semAt_none]
        simp [execOp, resolve, h1.eval, hargs, Deferred.ofValue]
      rw [hr]
      refine ⟨ρ, fr', .call f' (us ++ vs) cs :: ds, M, .refl ρ, by rw [s.nx]; exact g1, ?_, ?_, ?_, s.rep, rfl, s.same, s.glob⟩
      · rw [put_size]; exact s.size
      · have : ({ a with defers := ⟨.fn (.func f') ⟨cr⟩, ⟨ur⟩ ++ rs.toArray⟩ :: a.defers } : Act).tmps = a.tmps := rfl
        cases d <;> exact g2
      · rw [put_defers]
        have hall : renL ρ (us ++ vs) = some (ur ++ rs) := RL.append (ρ := ρ) hur h3.1
        simp only [renD, hall, hcr, s.dfs, Option.bind_some, Option.map_some]
        congr 3
        apply Array.ext'; simp
  | panic x =>
    obtain ⟨v, r, h1, h2⟩ := argK_spec (show argK T fr x (fun v => match v with
      | .iface t u => K (.pan (.iface t u)) fr ds M nx
      | _ => false) = true from h) s
    cases v <;> try (cases h2; done)
    rename_i t u
    have e1 := h1.ren
    simp only [ren, Option.map_eq_some_iff] at e1
    obtain ⟨ur, hur, rfl⟩ := e1
    refine wpIn_of_run (fun c hc => by cases hc) ?_
    have hr : (execOp a.eval ⟨d, .panic x, ty, pos, af, g⟩).run P w = .halt (.panic (.iface t ur)) w := by
      simp [execOp, h1.eval, Instr.panic, goPanic, Sem.run]
    rw [hr]
    exact ⟨ρ, .pan (.iface t u), fr, ds, M, .refl ρ, ⟨_, h1.ren, rfl⟩, by rw [s.nx]; exact h2, ⟨s.size, s.slots, s.dfs, s.rep, rfl, s.same, s.glob⟩⟩
  | _ => refine opK_wp (k := k) hN ?_ s (by simp) ty pos af g; exact h

/-! ### a statement's operations in their order -/
def listK (P : Program) (T : Tabs P) (ih : EvT) (N : Nat) (inR : Bool) (ops : List Oper) (K : Kt) (l : List Oper) : Tr AV → List AD → Mem → Nat → Bool := List.rec (fun fr ds M nx => K .normal fr ds M nx)
  (fun o _ rec fr ds M nx => Oper.rec (fun d op _ _ _ g => wantK ops fr g (operK P T ih N inR fr ds M nx d op rec K) (putK N fr d (.tup []) fun fr' => rec fr' ds M nx)) o) l
theorem listK_spec {ih : EvT} (hih : Good T ih) {N : Nat} {inR : Bool} {ops : List Oper} {K : Kt} {c : Cn} (hN : c.N = N) (hro : inR = false → c.ro = none) : ∀ {l : List Oper} {ρ : Env} {fr : Tr AV} {ds : List AD} {M : Mem} {nx : Nat} {a : Act} {w : World}, listK P T ih N inR ops K l fr ds M nx = true → Rl T c ρ fr ds M nx a w → wpListIn (FW c.ro) 0 P ops.toArray (Post T c ρ K) l a w
  | [], ρ, fr, ds, M, nx, a, w, h, s => wpListIn_nil ⟨ρ, .normal, fr, ds, M, .refl ρ, rfl, by rw [s.nx]; exact h, ⟨s.size, s.slots, s.dfs, s.rep, rfl, s.same, s.glob⟩⟩
  | ⟨d, op, ty, pos, af, g⟩ :: l, ρ, fr, ds, M, nx, a, w, h, s => wpListIn_step fun Kr hKr => by
    obtain ⟨b, h1, h2⟩ := wantK_spec (show wantK ops fr g (operK P T ih N inR fr ds M nx d op (listK P T ih N inR ops K l) K) (putK N fr d (.tup []) fun fr' => listK P T ih N inR ops K l fr' ds M nx) = true from h) s.slots
    rw [h2]
    have mono : ∀ {ρ' : Env} {a : Act} {w : World}, Ext ρ ρ' → wpListIn (FW c.ro) 0 P ops.toArray (Post T c ρ' K) l a w → wpListIn (FW c.ro) 0 P ops.toArray (Post T c ρ K) l a w := fun x h => wpListIn_mono (fun e a w q => q.mono x) l _ _ h
    cases b with
    | true =>
      refine Oper.wpIn_mono (fun a' w' hn => ?_) (operK_spec hih hN hro h1 s ty pos af g)
      obtain ⟨ρ', fr', ds', M', p1, p2, p3⟩ := hn
      exact hKr _ _ (mono p1 (listK_spec hih hN hro p2 p3))
    | false =>
      obtain ⟨fr', g1, g2⟩ := putK_spec (N := N) (show putK N fr d (.tup []) (fun fr' => listK P T ih N inR ops K l fr' ds M nx) = true from h1) (by rw [s.size, hN]) s.slots (r := undef) rfl
      exact ⟨(fun _ _ => trivial), hKr _ _ (listK_spec hih hN hro g1 ⟨by rw [put_size]; exact s.size, g2, by rw [put_defers]; exact s.dfs, s.rep, s.nx, s.same, s.glob⟩)⟩

/-! ### new blocks with numbers that were kept for them -/
def resAK (P : Program) (T : Tabs P) (fr : Tr AV) (M : Mem) (r : Nat) (op : Op) (k : AV → Mem → Bool) (other : Bool) : Bool := match op with
  | .makeMap _ none => forceN r fun r => M.set r (.map [] 0) fun M' => k (.map r) M'
  | .alloc t => forceN r fun r => zeroK P t fun z => both (allL one (cellsA z)) (M.set r (.row t 0 (cellsA z) 0) fun M' => k (.ptr r 0) M')
  | .box t x => forceN r fun r => argK T fr x fun z => both (allL one (cellsA z)) (M.set r (.row t 0 (cellsA z) 0) fun M' => k (.ptr r 0) M')
  | _ => other
theorem resAK_spec {fr : Tr AV} {M : Mem} {r : Nat} {op : Op} {k : AV → Mem → Bool} {other : Bool} (h : resAK P T fr M r op k other = true) {c : Cn} {ρ : Env} {ds : List AD} {nx : Nat} {a : Act} {w : World} (s : Rl T c ρ fr ds M nx a w) (hlt : r < ρ.length) (hno : ρ[r]? = none) :
    other = true ∨ ∃ v rv e M' w', ren (ρ.fill r e) v = some rv ∧ k v M' = true ∧ Rep (ρ.fill r e) M' c.hF w' ∧ Same w w' ∧ ∀ o : Oper, o.op = op → (execOp a.eval o).run P w = .ok (.value rv) w' := by
  have key : ∀ {ck : Ck} {o : Obj} {v : AV} {k' : Mem → Bool}, M.set r ck k' = true → ck.own = true → Sh (ρ.fill r (w.heap.size, 0, 0)) c.hF (w.heap.size, 0, 0) (some o) ck → ∃ M', k' M' = true ∧ Rep (ρ.fill r (w.heap.size, 0, 0)) M' c.hF (w.alloc o) := fun hs ho hsh => by
    obtain ⟨M', h1, h2⟩ := Tr.set_spec hs
    refine ⟨M', h2, s.rep.addAt (Le.fill ρ hlt hno _) (by rw [Env.get_fill ρ hlt, if_pos rfl]) h1 ho (by simp) (le_alloc w _) ?_⟩
    rw [World.alloc_heap_new]; exact hsh
  have rowS : ∀ {t : TypeId} {z : AV} {z' : Value}, ren ρ z = some z' → allL one (cellsA z) = true → Sh (ρ.fill r (w.heap.size, 0, 0)) c.hF (w.heap.size, 0, 0) (some (.cells z'.cells t)) (.row t 0 (cellsA z) 0) := fun {t z z'} hz h1 => by
    have hl := renL_le (Le.fill ρ hlt hno (w.heap.size, 0, 0)) (cellsA_spec hz)
    exact ⟨[], z'.cells.toList, [], (0, 0), hl, by simp, rfl, by simp, .inr (.inl (Nat.le_refl _)), h1⟩
  have gp : ren (ρ.fill r (w.heap.size, 0, 0)) (.ptr r 0) = some (.pointer (some ⟨w.heap.size, 0, none⟩)) := by
    simp [ren, Env.get_fill ρ hlt]
  unfold resAK at h
  split at h
  · rw [forceN_eq] at h
    obtain ⟨M', h1, h2⟩ := key (o := .map #[] 0) (v := .map r) h rfl ⟨[], rfl, rfl⟩
    refine .inr ⟨.map r, .map (some w.heap.size), (w.heap.size, 0, 0), M', _, by simp [ren, Env.get_fill ρ hlt], h1, h2, .alloc w _, ?_⟩
    rintro ⟨d, op', ty, pos, af, g⟩ rfl
    rfl
  · rename_i t
    rw [forceN_eq] at h
    obtain ⟨z, h1, h2⟩ := opt_rec h
    obtain ⟨z', z1, z2, _⟩ := zeroA_spec h1 ρ
    obtain ⟨h3, h2⟩ := both_eq.1 h2
    obtain ⟨M', g1, g2⟩ := key (v := .ptr r 0) h2 rfl (rowS z2 h3)
    refine .inr ⟨.ptr r 0, _, (w.heap.size, 0, 0), M', _, gp, g1, g2, .alloc w _, ?_⟩
    rintro ⟨d, op', ty, pos, af, g⟩ rfl
    simp [execOp, Instr.alloc, run_zeroV z1, run_newVar]
  · rename_i t x
    rw [forceN_eq] at h
    obtain ⟨z, z', h1, h2⟩ := argK_spec h s
    obtain ⟨h3, h2⟩ := both_eq.1 h2
    obtain ⟨M', g1, g2⟩ := key (v := .ptr r 0) h2 rfl (rowS h1.ren h3)
    refine .inr ⟨.ptr r 0, _, (w.heap.size, 0, 0), M', _, gp, g1, g2, .alloc w _, ?_⟩
    rintro ⟨d, op', ty, pos, af, g⟩ rfl
    simp [execOp, Instr.box, h1.eval, run_newVar]
  · exact .inl h

/-! ### a statement whose order is open, by a plan -/
def finK (br : Bool) (x : Bool) : Bool := Bool.rec x (both x true) br
theorem finK_spec {br x : Bool} (h : finK br x = true) : x = true := by
  cases br with
  | false => exact h
  | true => exact (both_eq.1 h).1
def drawK (P : Program) (T : Tabs P) (ih : EvT) (N : Nat) (inR : Bool) (ops : List Oper) (K : Kt) (br : Bool) (base : Nat) (p : Pl) : List Hl → Tr AV → List AD → Mem → Nat → Bool :=
  Pl.rec (fun _ fr ds M nx => finK br (K .normal fr ds M nx))
    (fun i _ rec hl fr ds M nx => Option.rec false (fun o => Oper.rec (fun d op _ _ _ g => wantK ops fr g (opA P T fr op fun v => putK N fr d v fun fr' => rec hl fr' ds M nx) (putK N fr d (.tup []) fun fr' => rec hl fr' ds M nx)) o) (nth ops i))
    (fun i _ rec hl fr ds M nx => Option.rec false (fun o => Oper.rec (fun d op _ _ _ g => wantK ops fr g (opB P T fr M op fun v => putK N fr d v fun fr' => rec (.mk i fr ds op v :: hl) fr' ds M nx) (putK N fr d (.tup []) fun fr' => rec hl fr' ds M nx)) o) (nth ops i))
    (fun i chk _ _ recp recq hl fr ds M nx => both (recq hl fr ds M nx) (Option.rec false (fun o => Oper.rec (fun d op _ _ _ g => wantK ops fr g (Bool.rec (operK P T ih N inR fr ds M nx d op (fun fr' ds' M' nx' => againK P T chk hl M' (recp hl fr' ds' M' nx')) K) (resAK P T fr M (Nat.add base i) op (fun v M' => putK N fr d v fun fr' => againK P T chk hl M' (recp hl fr' ds M' nx)) (operK P T ih N inR fr ds M nx d op (fun fr' ds' M' nx' => againK P T chk hl M' (recp hl fr' ds' M' nx')) K)) br) (putK N fr d (.tup []) fun fr' => recp hl fr' ds M nx)) o) (nth ops i)))
    (fun _ _ _ _ _ => true) p
def noPan (K : Kt) : Kt := fun x => match x with
  | .pan _ => fun _ _ _ _ => false
  | x => K x
theorem noPan_post {c : Cn} {ρ : Env} {K : Kt} {e : Exit} {a : Act} {w : World} (h : Post T c ρ (noPan K) e a w) : Post T c ρ K e a w := by
  obtain ⟨ρ', x, fr, ds, M, h1, h2, h3, h4⟩ := h
  refine ⟨ρ', x, fr, ds, M, h1, h2, ?_, h4⟩
  cases x <;> first | exact h3 | cases h3
theorem noPan_panic' {c : Cn} {ρ : Env} {K : Kt} {e : Exit} {a : Act} {w : World} (h : Post T c ρ (noPan K) e a w) : ∀ l, e ≠ .panic l := by
  obtain ⟨ρ', x, fr, ds, M, h1, h2, h3, h4⟩ := h
  rintro l rfl
  cases x with
  | pan v => cases h3
  | _ => cases h2
/-- Numbers base, base + 1, .. are kept for the operations that are not done. -/
def Hol (br : Bool) (base : Nat) (ρ0 ρ : Env) (ops : List Oper) (done : Array Bool) : Prop := br = true → base = ρ0.length ∧ base + ops.length ≤ ρ.length ∧ ∀ i, i < ops.length → done.getD i true = false → ρ[base + i]? = none
theorem Hol.set {br : Bool} {base : Nat} {ρ0 ρ : Env} {ops : List Oper} {done : Array Bool} {i : Nat} (h : Hol br base ρ0 ρ ops done) : Hol br base ρ0 ρ ops (done.setIfInBounds i true) := fun hb => by
  obtain ⟨h1, h2, h3⟩ := h hb
  refine ⟨h1, h2, fun j hj hd => h3 j hj ?_⟩
  by_cases e : i = j
  · subst e
    by_cases q : i < done.size
    · simp [Array.getD_eq_getD_getElem?, q] at hd
    · simp [Array.getD_eq_getD_getElem?, q] at hd
  · rwa [getD_set_ne true e] at hd
theorem Hol.ext {br : Bool} {base : Nat} {ρ0 ρ ρ' : Env} {ops : List Oper} {done : Array Bool} (h : Hol br base ρ0 ρ ops done) (x : Ext ρ ρ') : Hol br base ρ0 ρ' ops done := fun hb => by
  obtain ⟨h1, h2, h3⟩ := h hb
  exact ⟨h1, Nat.le_trans h2 x.len, fun i hi hd => by rw [x.same (by omega)]; exact h3 i hi hd⟩
theorem Hol.fill {br : Bool} {base : Nat} {ρ0 ρ : Env} {ops : List Oper} {done : Array Bool} {i : Nat} (h : Hol br base ρ0 ρ ops done) (hb : br = true) (hi : i < ops.length) (e : Nat × Nat × Nat) : Hol br base ρ0 (ρ.fill (base + i) e) ops (done.setIfInBounds i true) := fun _ => by
  obtain ⟨h1, h2, h3⟩ := h hb
  refine ⟨h1, by rw [Env.length_fill]; exact h2, fun j hj hd => ?_⟩
  by_cases q : i = j
  · subst q
    by_cases q : i < done.size
    · simp [Array.getD_eq_getD_getElem?, q] at hd
    · simp [Array.getD_eq_getD_getElem?, q] at hd
  · rw [Env.get_fill ρ (by omega), if_neg (by omega)]
    rw [getD_set_ne true q] at hd
    exact h3 j hj hd
theorem drawK_spec {ih : EvT} (hih : Good T ih) {N : Nat} {inR : Bool} {ops : List Oper} {K : Kt} {c : Cn} (hN : c.N = N) (hro : inR = false → c.ro = none) (hsel : Region.noSelect ops.toArray = true) (hnd : noDefer ops.toArray = true) {br : Bool} {base : Nat} {ρ0 : Env} :
    ∀ {p : Pl} {hl : List Hl} {HL : List HEnt} {held seen : List Nat} {n : Nat} {done : Array Bool} {ρ : Env} {fr : Tr AV} {ds : List AD} {M : Mem} {nx : Nat} {a : Act} {w : World}, drawK P T ih N inR ops (noPan K) br base p hl fr ds M nx = true → okPl ops p n done held seen = true → All2 (HlOk c ρ) hl HL → (∀ h ∈ HL, h.i ∈ held) → Closed ops.toArray done → Rl T c ρ fr ds M nx a w → Ext ρ0 ρ → Hol br base ρ0 ρ ops done →
      Owed c.ro P ops (Post T c ρ0 (noPan K)) (Sof P ops HL) seen n done a w
  | .fin, hl, HL, held, seen, n, done, ρ, fr, ds, M, nx, a, w, h, ok, hp, hh, hc, s, x0, hl0 => by
    have hr := isNilL_spec (show isNilL (readyL ops done) = true from ok)
    have hq : Post T c ρ0 (noPan K) .normal a w := ⟨ρ, .normal, fr, ds, M, x0, rfl, by rw [s.nx]; exact finK_spec h, ⟨s.size, s.slots, s.dfs, s.rep, rfl, s.same, s.glob⟩⟩
    cases n with
    | zero => exact ⟨hr, hq⟩
    | succ n => exact ⟨fun _ => hq, by rw [show Region.ready .any ops.toArray done = [] from hr]; simp⟩
  | .take i p, hl, HL, held, seen, n, done, ρ, fr, ds, M, nx, a, w, h, ok, hp, hh, hc, s, x0, hl0 => by
    cases n with
    | zero => cases ok
    | succ n =>
    obtain ⟨ok1, ok⟩ := both_eq.1 (show both (hasN (readyL ops done) i) (both (Region.free .any ops.toArray done i) (okPl ops p n (done.setIfInBounds i true) held [])) = true from ok)
    obtain ⟨ok2, ok⟩ := both_eq.1 ok
    have hi : i ∈ Region.ready .any ops.toArray done := hasN_spec ok1
    obtain ⟨⟨d, op, ty, pos, af, g⟩, h1, h⟩ := opt_rec h
    rw [nth_eq] at h1
    have h1' : ops.toArray[i]? = some ⟨d, op, ty, pos, af, g⟩ := by simpa using h1
    obtain ⟨b, h2, h3⟩ := wantK_spec (show wantK ops fr g (opA P T fr op fun v => putK N fr d v fun fr' => drawK P T ih N inR ops (noPan K) br base p hl fr' ds M nx) (putK N fr d (.tup []) fun fr' => drawK P T ih N inR ops (noPan K) br base p hl fr' ds M nx) = true from h) s.slots
    have goal : ∀ v r, ren ρ v = some r → putK N fr d v (fun fr' => drawK P T ih N inR ops (noPan K) br base p hl fr' ds M nx) = true → YieldsIf P ops.toArray (fun _ => True) ⟨d, op, ty, pos, af, g⟩ r a → Owed c.ro P ops (Post T c ρ0 (noPan K)) (Sof P ops HL) seen (n + 1) done a w := fun v r hv hk hy => by
      obtain ⟨fr', g1, g2⟩ := putK_spec (N := N) hk (by rw [s.size, hN]) s.slots hv
      have s' : Rl T c ρ fr' ds M nx (a.put d r) w := ⟨by rw [put_size]; exact s.size, g2, by rw [put_defers]; exact s.dfs, s.rep, s.nx, s.same, s.glob⟩
      exact (Hs.take (R := fun _ => True) h1' hsel hnd (fun _ _ _ q => noPan_panic' q _ rfl |>.elim) (fun w h _ _ q => q) (fun _ _ _ _ _ _ => trivial) n done a w hc (Region.free_spec h1' ok2) hi hy trivial (drawK_spec hih hN hro hsel hnd g1 ok hp hh (hc.set hi) s' x0 hl0.set).hs).owed
    cases b with
    | true =>
      obtain ⟨v, r, g1, g2, g3⟩ := opA_spec (show opA P T fr op (fun v => putK N fr d v fun fr' => drawK P T ih N inR ops (noPan K) br base p hl fr' ds M nx) = true from h2) s
      exact goal v r g1 g2 (.inl ⟨h3 d op ty pos af, fun w' _ => yrun (g3 w' trivial ty) d pos af g⟩)
    | false => exact goal (.tup []) undef rfl h2 (.inr ⟨h3 d op ty pos af, rfl⟩)
  | .hold i p, hl, HL, held, seen, n, done, ρ, fr, ds, M, nx, a, w, h, ok, hp, hh, hc, s, x0, hl0 => by
    cases n with
    | zero => cases ok
    | succ n =>
    obtain ⟨ok1, ok⟩ := both_eq.1 (show both (hasN (readyL ops done) i) (both (Region.free .any ops.toArray done i) (okPl ops p n (done.setIfInBounds i true) (i :: held) [])) = true from ok)
    obtain ⟨ok2, ok⟩ := both_eq.1 ok
    have hi : i ∈ Region.ready .any ops.toArray done := hasN_spec ok1
    obtain ⟨⟨d, op, ty, pos, af, g⟩, h1, h⟩ := opt_rec h
    rw [nth_eq] at h1
    have h1' : ops.toArray[i]? = some ⟨d, op, ty, pos, af, g⟩ := by simpa using h1
    obtain ⟨b, h2, h3⟩ := wantK_spec (show wantK ops fr g (opB P T fr M op fun v => putK N fr d v fun fr' => drawK P T ih N inR ops (noPan K) br base p (.mk i fr ds op v :: hl) fr' ds M nx) (putK N fr d (.tup []) fun fr' => drawK P T ih N inR ops (noPan K) br base p hl fr' ds M nx) = true from h) s.slots
    cases b with
    | true =>
      obtain ⟨v, r, g1, hk, g3⟩ := opB_spec (show opB P T fr M op (fun v => putK N fr d v fun fr' => drawK P T ih N inR ops (noPan K) br base p (.mk i fr ds op v :: hl) fr' ds M nx) = true from h2) s
      obtain ⟨fr', q1, q2⟩ := putK_spec (N := N) hk (by rw [s.size, hN]) s.slots g1
      have s' : Rl T c ρ fr' ds M nx (a.put d r) w := ⟨by rw [put_size]; exact s.size, q2, by rw [put_defers]; exact s.dfs, s.rep, s.nx, s.same, s.glob⟩
      let e : HEnt := ⟨i, a, ⟨d, op, ty, pos, af, g⟩, r⟩
      have hw : e.R P w := yrun (g3 w rfl ty) d pos af g
      have hrec := (drawK_spec hih hN hro hsel hnd (HL := e :: HL) (held := i :: held) (seen := []) q1 ok ⟨⟨rfl, rfl, s.size, s.slots, s.dfs, g1⟩, hp⟩ (fun h hm => by
        rcases List.mem_cons.1 hm with rfl | hm
        · simp [e]
        · exact List.mem_cons_of_mem _ (hh h hm)) (hc.set hi) s' x0 hl0.set).hs
      refine (Hs.mono (S := Sof P ops (e :: HL)) (fun j w w' q x hx => q x (List.mem_cons_of_mem _ hx)) _ _ _ _ (Hs.take (R := e.R P) h1' hsel hnd (fun _ _ _ q => noPan_panic' q _ rfl |>.elim) (fun w h _ _ q => q) (fun j w w' ha hS hR => hS e (by simp) ha hR) n done a w hc (Region.free_spec h1' ok2) hi (.inl ⟨h3 d op ty pos af, fun w' q => q⟩) hw hrec)).owed
    | false =>
      obtain ⟨fr', q1, q2⟩ := putK_spec (N := N) (show putK N fr d (.tup []) (fun fr' => drawK P T ih N inR ops (noPan K) br base p hl fr' ds M nx) = true from h2) (by rw [s.size, hN]) s.slots (r := undef) rfl
      have s' : Rl T c ρ fr' ds M nx (a.put d undef) w := ⟨by rw [put_size]; exact s.size, q2, by rw [put_defers]; exact s.dfs, s.rep, s.nx, s.same, s.glob⟩
      exact (Hs.take (R := fun _ => True) h1' hsel hnd (fun _ _ _ q => noPan_panic' q _ rfl |>.elim) (fun w h _ _ q => q) (fun _ _ _ _ _ _ => trivial) n done a w hc (Region.free_spec h1' ok2) hi (.inr ⟨h3 d op ty pos af, rfl⟩) trivial (drawK_spec hih hN hro hsel hnd q1 ok hp (fun h hm => List.mem_cons_of_mem _ (hh h hm)) (hc.set hi) s' x0 hl0.set).hs).owed
  | .alt i chk p q, hl, HL, held, seen, n, done, ρ, fr, ds, M, nx, a, w, h, ok, hp, hh, hc, s, x0, hl0 => by
    cases n with
    | zero => cases ok
    | succ n =>
    obtain ⟨ok1, ok⟩ := both_eq.1 (show both (hasN (readyL ops done) i) (both (allL (fun h => Bool.rec (anc ops.toArray ops.toArray.size i h) true (hasN chk h)) held) (both (okPl ops p n (done.setIfInBounds i true) held []) (okPl ops q (n + 1) done held (i :: seen)))) = true from ok)
    obtain ⟨ok2, ok⟩ := both_eq.1 ok
    obtain ⟨ok3, ok4⟩ := both_eq.1 ok
    have hi : i ∈ Region.ready .any ops.toArray done := hasN_spec ok1
    obtain ⟨hq, h⟩ := both_eq.1 (show both (drawK P T ih N inR ops (noPan K) br base q hl fr ds M nx) (Option.rec false (fun o => Oper.rec (fun d op _ _ _ g => wantK ops fr g (Bool.rec (operK P T ih N inR fr ds M nx d op (fun fr' ds' M' nx' => againK P T chk hl M' (drawK P T ih N inR ops (noPan K) br base p hl fr' ds' M' nx')) (noPan K)) (resAK P T fr M (Nat.add base i) op (fun v M' => putK N fr d v fun fr' => againK P T chk hl M' (drawK P T ih N inR ops (noPan K) br base p hl fr' ds M' nx)) (operK P T ih N inR fr ds M nx d op (fun fr' ds' M' nx' => againK P T chk hl M' (drawK P T ih N inR ops (noPan K) br base p hl fr' ds' M' nx')) (noPan K))) br) (putK N fr d (.tup []) fun fr' => drawK P T ih N inR ops (noPan K) br base p hl fr' ds M nx)) o) (nth ops i)) = true from h)
    have hrest := drawK_spec hih hN hro hsel hnd hq ok4 hp hh hc s x0 hl0
    refine ⟨hrest.1, fun j hj hs => ?_⟩
    by_cases e : Nat.beq i j = true
    · have e := Nat.eq_of_beq_eq_true e
      subst e
      obtain ⟨⟨d, op, ty, pos, af, g⟩, h1, h⟩ := opt_rec h
      rw [nth_eq] at h1
      have h1' : ops.toArray[i]? = some ⟨d, op, ty, pos, af, g⟩ := by simpa using h1
      obtain ⟨b, h2, h3⟩ := wantK_spec (show wantK ops fr g (Bool.rec (operK P T ih N inR fr ds M nx d op (fun fr' ds' M' nx' => againK P T chk hl M' (drawK P T ih N inR ops (noPan K) br base p hl fr' ds' M' nx')) (noPan K)) (resAK P T fr M (Nat.add base i) op (fun v M' => putK N fr d v fun fr' => againK P T chk hl M' (drawK P T ih N inR ops (noPan K) br base p hl fr' ds M' nx)) (operK P T ih N inR fr ds M nx d op (fun fr' ds' M' nx' => againK P T chk hl M' (drawK P T ih N inR ops (noPan K) br base p hl fr' ds' M' nx')) (noPan K))) br) (putK N fr d (.tup []) fun fr' => drawK P T ih N inR ops (noPan K) br base p hl fr' ds M nx) = true from h) s.slots
      unfold Go.wpOpIn
      simp only [h1']
      rw [h3]
      cases b with
      | true =>
        simp only [if_true]
        have hchk : ∀ x ∈ HL, anc ops.toArray ops.toArray.size i x.i = false → hasN chk x.i = true := fun x hx ha => by
          have := allL_spec ok2 x.i (hh x hx)
          cases hx' : hasN chk x.i with
          | true => rfl
          | false => rw [hx'] at this; rw [ha] at this; cases this
        have slow : operK P T ih N inR fr ds M nx d op (fun fr' ds' M' nx' => againK P T chk hl M' (drawK P T ih N inR ops (noPan K) br base p hl fr' ds' M' nx')) (noPan K) = true → (Oper.mk d op ty pos af g).wpIn (FW c.ro) 0 P a w (fun a' w' => Sof P ops HL i w w' ∧ Hs c.ro P ops.toArray (Post T c ρ0 (noPan K)) (Sof P ops HL) n (done.setIfInBounds i true) a' w') (Post T c ρ0 (noPan K)) := fun h2 => by
          refine Oper.wpIn_monoQ (fun e a w q => Post.mono x0 q) (Oper.wpIn_mono (fun a' w' hn => ?_) (operK_spec (k := fun fr' ds' M' nx' => againK P T chk hl M' (drawK P T ih N inR ops (noPan K) br base p hl fr' ds' M' nx')) hih hN hro h2 s ty pos af g))
          obtain ⟨ρ', fr', ds', M', p1, p2, p3⟩ := hn
          obtain ⟨p4, p5⟩ := againK_spec (c := c) p3.rep p3.same p3.glob p2 (all2_ext p1 hp)
          exact ⟨fun x hx ha _ => p5 x hx (hchk x hx ha), (drawK_spec hih hN hro hsel hnd p4 ok3 (all2_ext p1 hp) hh (hc.set hi) p3 (x0.trans p1) (hl0.ext p1).set).hs⟩
        cases hbr : br with
        | false => rw [hbr] at h2 slow; exact slow h2
        | true =>
          obtain ⟨hb1, hb2, hb3⟩ := hl0 hbr
          have hil : i < ops.length := (List.getElem?_eq_some_iff.1 h1).1
          have hno := hb3 i hil (mem_ready.1 hi).1
          have h2' : resAK P T fr M (Nat.add base i) op (fun v M' => putK N fr d v fun fr' => againK P T chk hl M' (drawK P T ih N inR ops (noPan K) br base p hl fr' ds M' nx)) (operK P T ih N inR fr ds M nx d op (fun fr' ds' M' nx' => againK P T chk hl M' (drawK P T ih N inR ops (noPan K) br base p hl fr' ds' M' nx')) (noPan K)) = true := by
            rw [hbr] at h2 ⊢; exact h2
          rcases resAK_spec h2' s (show base + i < ρ.length by omega) hno with h2' | ⟨v, rv, e, M', w', g1, g2, g3, g4, g5⟩
          · exact slow h2'
          · have x1 : Le ρ (ρ.fill (base + i) e) := Le.fill ρ (by omega) hno e
            obtain ⟨fr', q1, q2⟩ := putK_spec (N := N) g2 (by rw [s.size, hN]) (s.slots.more x1) g1
            have s' : Rl T c (ρ.fill (base + i) e) fr' ds M' nx (a.put d rv) w' := ⟨by rw [put_size]; exact s.size, q2, by rw [put_defers]; exact renD_le x1 s.dfs, g3, by rw [Env.length_fill]; exact s.nx, s.same.trans g4, fun g i e' => x1 _ _ (s.glob g i e')⟩
            obtain ⟨p4, p5⟩ := againK_spec (c := c) s'.rep s'.same s'.glob q1 (all2_more x1 hp)
            refine wpIn_of_run (fun cl hcl => by subst hcl; have := noDefer_spec hnd h1' cl; exact this rfl) ?_
            rw [g5 ⟨d, op, ty, pos, af, g⟩ rfl]
            exact ⟨fun x hx ha _ => p5 x hx (hchk x hx ha), (drawK_spec hih hN hro hsel hnd p4 ok3 (all2_more x1 hp) hh (hc.set hi) s' (x0.fill (by omega) e) (hl0.fill hbr hil e)).hs⟩
      | false =>
        obtain ⟨fr', q1, q2⟩ := putK_spec (N := N) (show putK N fr d (.tup []) (fun fr' => drawK P T ih N inR ops (noPan K) br base p hl fr' ds M nx) = true from h2) (by rw [s.size, hN]) s.slots (r := undef) rfl
        refine ⟨(fun _ _ => trivial), fun _ _ _ q => q, (drawK_spec hih hN hro hsel hnd q1 ok3 hp hh (hc.set hi) ⟨by rw [put_size]; exact s.size, q2, by rw [put_defers]; exact s.dfs, s.rep, s.nx, s.same, s.glob⟩ x0 hl0.set).hs⟩
    · refine hrest.2 j hj ?_
      show (Bool.rec (hasN seen j) true (Nat.beq i j) : Bool) = false
      rw [Bool.eq_false_iff.2 e]; exact hs
  | .stop, hl, HL, held, seen, n, done, ρ, fr, ds, M, nx, a, w, h, ok, hp, hh, hc, s, x0, hl0 => by
    cases n with
    | zero => cases ok
    | succ n =>
    obtain ⟨ok1, ok2⟩ := both_eq.1 (show both (notB (isNilL (readyL ops done))) (allL (hasN seen) (readyL ops done)) = true from ok)
    refine ⟨fun e => ?_, fun j hj hs => ?_⟩
    · rw [show readyL ops done = [] from e] at ok1; cases ok1
    · have := allL_spec ok2 j hj
      rw [hs] at this; cases this

/-! ### a range over a function -/
def overK (N : Nat) (ih : EvT) (fr : Tr AV) (ds : List AD) (K : Kt) (l D : Nat) (M : Mem) (nx : Nat) : Bool := Option.rec false (fun ck => match ck with
  | .loop st pd fn fr0 N0 ps as bd D0 => (match st with
    | .busy => false
    | st => turnK M nx l (.loop .exhausted pd fn fr0 N0 ps as bd D0) fun M' nx' => Option.rec (K .normal fr (.mark D :: ds) M' nx') (fun c => ih c N false fr (.mark D :: ds) M' nx' K) pd)
  | _ => false) (M.get l)
def bodyK (T : Tabs P) (f : FuncId) (k : Bool) : Bool := Option.rec false (fun fn => Option.rec false (fun _ => k) fn.body) (T.F f)
theorem bodyK_spec {f : FuncId} {k : Bool} (h : bodyK T f k = true) : callable P f = true ∧ k = true := by
  obtain ⟨fn, h1, h⟩ := opt_rec h
  obtain ⟨b, h2, h⟩ := opt_rec h
  obtain ⟨hf, hname⟩ := T.okF _ _ h1
  exact ⟨by unfold callable; rw [hf]; simp [h2, hname], h⟩
def rangeFK (T : Tabs P) (ih : EvT) (N : Nat) (g : Operand) (ps : Array Tmp) (as bd : Code) (fr : Tr AV) (ds : List AD) (M : Mem) (nx : Nat) (K : Kt) : Bool := argK T fr g fun gv => match gv with
  | .fn (.func f) xs ys => bodyK T f (newK M nx (.dfr true) fun M1 nx1 => newK M1 nx1 (.loop .ready none 0 fr N ps.toList as bd nx) fun M2 nx2 => appL xs (.yl nx1 :: ys) fun all => callFK T ih f all M2 nx2 fun oc M3 nx3 => match oc with
    | .ret _ => overK N ih fr ds K nx1 nx M3 nx3
    | .pan v => K (.pan v) fr (.mark nx :: ds) M3 nx3)
  | _ => false
theorem rangeFK_spec {ih : EvT} (hih : Good T ih) {N : Nat} {g : Operand} {ps : Array Tmp} {as bd : Code} {fr : Tr AV} {ds : List AD} {M : Mem} {nx : Nat} {K : Kt} (h : rangeFK T ih N g ps as bd fr ds M nx K = true) {c : Cn} {ρ : Env} {a : Act} {w : World} (hN : c.N = N) (hro : c.ro = none) (s : Rl T c ρ fr ds M nx a w) :
    (Code.rangeFunc g ps as bd).wpIn (FW c.ro) 0 P (Post T c ρ K) a w := by
  obtain ⟨gv, gr, h1, h2⟩ := argK_spec (show argK T fr g (fun gv => match gv with
    | .fn (.func f) xs ys => bodyK T f (newK M nx (.dfr true) fun M1 nx1 => newK M1 nx1 (.loop .ready none 0 fr N ps.toList as bd nx) fun M2 nx2 => appL xs (.yl nx1 :: ys) fun all => callFK T ih f all M2 nx2 fun oc M3 nx3 => match oc with
      | .ret _ => overK N ih fr ds K nx1 nx M3 nx3
      | .pan v => K (.pan v) fr (.mark nx :: ds) M3 nx3)
    | _ => false) = true from h) s
  clear h
  cases gv <;> try (cases h2; done)
  rename_i fn xs ys
  cases fn <;> try (cases h2; done)
  rename_i f
  have e1 := h1.ren
  simp only [ren, Option.bind_eq_some_iff, Option.map_eq_some_iff] at e1
  obtain ⟨ur, hur, cr, hcr, rfl⟩ := e1
  obtain ⟨hc, h2⟩ := bodyK_spec h2
  -- the block for the rounds' deferred calls
  obtain ⟨M1, g1, g2, g3⟩ := newK_spec (κ := 0) (o := .deferred (some [])) h2 s (.inl rfl) rfl (show Sh _ _ _ _ (.dfr true) from rfl)
  let ρ1 := ρ ++ [(w.heap.size, 0, 0)]
  have x1 : Ext ρ ρ1 := Ext.one _ _
  have s1 : Rl T c ρ1 fr ds M1 ρ1.length a (w.alloc (.deferred (some []))) := ⟨s.size, s.slots.ext x1, renD_ext x1 s.dfs, g2, rfl, s.same.trans g3, glob_ext s.glob x1⟩
  -- the record
  refine wpIn_rangeFunc fun fnn _ => ?_
  obtain ⟨M2, g4, g5, g6⟩ := newK_spec (κ := 0) (o := .loop { state := .ready, pending := none, fn := fnn, tmps := a.tmps, params := ps, assign := as, body := bd, defers := w.heap.size }) g1 s1 (.inl rfl) rfl
    (show loopIs (ρ1 ++ [((w.alloc (.deferred (some []))).heap.size, 0, 0)]) (some _) .ready none 0 fr N ps.toList as bd nx from ⟨a.tmps, (w.heap.size, 0, 0), fnn, by rw [s.size, hN], (s1.slots.ext (Ext.one _ _)), by rw [← s.nx]; exact (Ext.one ρ1 _).get (by simp [ρ1]), by simp⟩)
  let ρ2 := ρ1 ++ [((w.alloc (.deferred (some []))).heap.size, 0, 0)]
  have x2 : Ext ρ1 ρ2 := Ext.one _ _
  let w2 := (w.alloc (.deferred (some []))).alloc (.loop { state := .ready, pending := none, fn := fnn, tmps := a.tmps, params := ps, assign := as, body := bd, defers := w.heap.size })
  have hsz : (w.alloc (.deferred (some []))).heap.size = w.heap.size + 1 := by simp
  have hl2 : ρ2[ρ1.length]? = some (w.heap.size + 1, 0, 0) := by simp [ρ2, hsz]
  have g4 : appL xs (.yl ρ1.length :: ys) (fun all => callFK T ih f all M2 ρ2.length fun oc M3 nx3 => match oc with
    | .ret _ => overK N ih fr ds K ρ1.length nx M3 nx3
    | .pan v => K (.pan v) fr (.mark nx :: ds) M3 nx3) = true := g4
  rw [appL_eq] at g4
  have hall : RL ρ2 (xs ++ (.yl ρ1.length :: ys)) (ur ++ (yv (w.heap.size + 1) :: cr)) := RL.append (ρ := ρ2) (renL_ext (x1.trans x2) hur) (RL.cons (by simp [ren, hl2]) (renL_ext (x1.trans x2) hcr))
  have hg2 := glob_ext (T := T) s.glob (x1.trans x2)
  obtain ⟨nxt, w1, c1, c2⟩ := callFK_spec hih g4 g5 rfl hg2 hall
  have hen := run_enterLoop_outer (P := P) (w := w) fnn a.tmps ps as bd
  rw [run_callFunc hc] at c1
  cases c1
  have c2 : Calls P f (ur ++ (yv (w.heap.size + 1) :: cr)).toArray w2 (CallPost T c.hF ρ2 w2 fun oc M3 nx3 => match oc with
    | .ret _ => overK N ih fr ds K ρ1.length nx M3 nx3
    | .pan v => K (.pan v) fr (.mark nx :: ds) M3 nx3) := c2
  have eargs : (⟨ur⟩ : Array Value) ++ #[yv (w.heap.size + 1)] ++ (⟨cr⟩ : Array Value) = (ur ++ (yv (w.heap.size + 1) :: cr)).toArray := by
    apply Array.ext'; simp
  have hcf := run_callFunc (P := P) hc ((⟨ur⟩ : Array Value) ++ #[yv (w.heap.size + 1)] ++ (⟨cr⟩ : Array Value)) w2
  refine ⟨w.heap.size + 1, [Sl.mark w.heap.size], w2, { target := .fn (.func f) ⟨cr⟩, args := ⟨ur⟩ ++ #[yv (w.heap.size + 1)] }, w2, f, (⟨ur⟩ : Array Value) ++ #[yv (w.heap.size + 1)] ++ (⟨cr⟩ : Array Value), w2, ?_, ?_, ?_, ?_, (fun hd => by cases hd), ?_⟩
  · show (Instr.enterLoop fnn a.tmps ps as bd c.ro).run P w = _
    rw [hro, hen]; rfl
  · simp only [resolve, h1.eval, Deferred.ofValue, List.map_toArray, List.map_cons, List.map_nil]; rfl
  · rw [hro]; exact fun _ _ => trivial
  · exact hcf
  rw [eargs]
  have c3 := (callsIn_wide (n := 0 - 1)).2 c2
  rw [hro]
  refine CallsIn.mono c3 ?_
  rintro e w3 ⟨ρ3, oc, M3, x3, q2, q3, q4, q5⟩
  have x0 : Ext ρ ρ3 := (x1.trans x2).trans x3
  have hD : ρ3[nx]? = some (w.heap.size, 0, 0) := (x2.trans x3).get (by rw [← s.nx]; simp [ρ1])
  have hd3 : renD ρ3 (.mark nx :: ds) = some (Sl.mark w.heap.size :: a.defers) := by simp [renD, hD, renD_ext x0 s.dfs]
  have hsame : Same c.w0 w3 := s.same.trans (g3.trans (g6.trans q5))
  have hg3 := glob_ext (T := T) s.glob x0
  cases oc with
  | pan v =>
    obtain ⟨r, p1, rfl⟩ := q2
    exact ⟨ρ3, .pan v, fr, .mark nx :: ds, M3, x0, ⟨r, p1, rfl⟩, q3, ⟨s.size, s.slots.ext x0, hd3, q4, rfl, hsame, hg3⟩⟩
  | ret v =>
    obtain ⟨r, p1, rfl⟩ := q2
    obtain ⟨ck, z0, q3⟩ := opt_rec q3
    cases ck <;> try (cases q3; done)
    rename_i st pd fn0 fr0 N0 ps0 as0 bd0 D0
    have s3 : Rl T c ρ3 fr ds M3 ρ3.length a w3 := ⟨s.size, s.slots.ext x0, renD_ext x0 s.dfs, q4, rfl, hsame, hg3⟩
    have hst : st ≠ .busy := by rintro rfl; cases q3
    have q3 : turnK M3 ρ3.length ρ1.length (.loop .exhausted pd fn0 fr0 N0 ps0 as0 bd0 D0) (fun M' nx' => Option.rec (K .normal fr (.mark nx :: ds) M' nx') (fun c => ih c N false fr (.mark nx :: ds) M' nx' K) pd) = true := by
      cases st <;> first | exact q3 | exact absurd rfl hst
    obtain ⟨en, r3, M4, z1, z2, z3, z4, z5, z6⟩ := loop_turn q3 s3 z0
    rw [x3.get hl2] at z1; cases z1
    have hend := run_endLoop (P := P) z2 (by rw [z3]; exact hst)
    rw [z4] at hend
    refine ⟨pd, _, hend, ?_⟩
    have s4 : Rl T c ρ3 fr (.mark nx :: ds) M4 ρ3.length { a with defers := [Sl.mark w.heap.size] ++ a.defers } (w3.putObj (w.heap.size + 1) (.loop { r3 with state := .exhausted, pending := pd })) := ⟨s.size, s.slots.ext x0, hd3, z6, rfl, hsame.trans (.putObj _ _ _), hg3⟩
    cases pd with
    | none => exact ⟨ρ3, .normal, fr, .mark nx :: ds, M4, x0, rfl, z5, s4⟩
    | some cc =>
      have := hih _ _ _ _ _ _ _ _ z5 c ρ3 _ _ hN (fun _ => hro) s4
      rw [hro] at this
      exact wpIn_mono this fun e a w q => Post.mono x0 q

/-! ### code -/
def loopK (ih : EvT) (c : Code) (N : Nat) (inR : Bool) (K : Kt) (L : Nat) : Tr AV → List AD → Mem → Nat → Bool := Nat.rec (fun _ _ _ _ => false) (fun _ rec fr ds M nx => ih c N inR fr ds M nx fun x fr ds M nx => match x with
  | .normal => rec fr ds M nx
  | x => K x fr ds M nx) L
def hasAlt (p : Pl) : Bool := Pl.rec false (fun _ _ ih => ih) (fun _ _ ih => ih) (fun _ _ _ q ihp _ => Bool.rec true ihp (Pl.rec (motive := fun _ => Bool) false (fun _ _ _ => false) (fun _ _ _ => false) (fun _ _ _ _ _ _ => false) true q)) false p
def brK (T : Tabs P) (ops : List Oper) (nx : Nat) (k : Bool → Nat → Bool) : Bool := Bool.rec (k false nx) (lenL ops 0 fun n => forceN (Nat.add nx n) fun nx' => k true nx') (hasAlt (plan2 T ops))
abbrev CdT := EvT → Nat → Bool → Tr AV → List AD → Mem → Nat → Kt → Bool
def c_skip : CdT := fun ih N inR fr ds M nx K => K .normal fr ds M nx
def c_region (P : Program) (T : Tabs P) (_ : Nat) (ops : Array Oper) (draw : Bool) : CdT := fun ih N inR fr ds M nx K => Bool.rec (listK P T ih N inR ops.toList K ops.toList fr ds M nx) (both (P.follows .mixedOrders) (both (okPlan2 T ops.toList) (brK T ops.toList nx fun br nx' => drawK P T ih N inR ops.toList (noPan K) br nx (plan2 T ops.toList) [] fr ds M nx'))) draw
def c_seq (x y : Code) (_ _ : CdT) : CdT := fun ih N inR fr ds M nx K => ih x N inR fr ds M nx fun e fr ds M nx => match e with
  | .normal => ih y N inR fr ds M nx K
  | e => K e fr ds M nx
def c_cond (T : Tabs P) (b : Operand) (x y : Code) (_ _ : CdT) : CdT := fun ih N inR fr ds M nx K => argK T fr b fun v => match v with
  | .bool b => Bool.rec (ih y N inR fr ds M nx K) (ih x N inR fr ds M nx K) b
  | _ => false
def c_block (id : Nat) (x : Code) (_ : CdT) : CdT := fun ih N inR fr ds M nx K => ih x N inR fr ds M nx fun e fr ds M nx => match e with
  | .exit id' => Bool.rec (K (.exit id') fr ds M nx) (K .normal fr ds M nx) (Nat.beq id' id)
  | e => K e fr ds M nx
def c_loop (x : Code) (_ : CdT) : CdT := fun ih N inR fr ds M nx K => loopK ih x N inR K 1000000 fr ds M nx
def c_rangeFunc (T : Tabs P) (g : Operand) (ps : Array Tmp) (as bd : Code) (_ _ : CdT) : CdT := fun ih N inR fr ds M nx K => Bool.rec (rangeFK T ih N g ps as bd fr ds M nx K) false inR
def c_exit (id : Nat) : CdT := fun ih N inR fr ds M nx K => K (.exit id) fr ds M nx
def c_scope (x : Code) (_ : CdT) : CdT := fun ih N inR fr ds M nx K => Bool.rec (ih x N inR fr ds M nx K) false inR
def c_label (_ : Nat) : CdT := fun ih N inR fr ds M nx K => K .normal fr ds M nx
def c_goto (_ : Nat) : CdT := fun _ _ _ _ _ _ _ _ => false
def c_ret : CdT := fun ih N inR fr ds M nx K => K .ret fr ds M nx
def c_refuse (_ : String) : CdT := fun _ _ _ _ _ _ _ _ => false
def codeXK (P : Program) (T : Tabs P) (c : Code) : CdT := Code.rec (motive := fun _ => CdT) c_skip (c_region P T) c_seq (c_cond T) c_block c_loop (c_rangeFunc T) c_exit c_scope c_label c_goto c_ret c_refuse c
def codeK (P : Program) (T : Tabs P) (ih : EvT) : EvT := fun c => codeXK P T c ih
theorem rounds_of {ih : EvT} (hih : Good T ih) {x : Code} {N : Nat} {inR : Bool} {K : Kt} {c : Cn} (hN : c.N = N) (hro : inR = false → c.ro = none) : ∀ {L : Nat} {ρ : Env} {fr : Tr AV} {ds : List AD} {M : Mem} {nx : Nat} {a : Act} {w : World}, loopK ih x N inR K L fr ds M nx = true → Rl T c ρ fr ds M nx a w → Code.roundsIn (FW c.ro) 0 P x (Post T c ρ K) L a w
  | 0, ρ, fr, ds, M, nx, a, w, h, s => by cases h
  | L + 1, ρ, fr, ds, M, nx, a, w, h, s => by
    refine wpIn_mono (hih _ _ _ _ _ _ _ _ (show ih x N inR fr ds M nx (fun x' fr ds M nx => match x' with
      | .normal => loopK ih x N inR K L fr ds M nx
      | x' => K x' fr ds M nx) = true from h) c ρ a w hN hro s) ?_
    rintro e a w ⟨ρ', x', fr', ds', M', p1, p2, p3, p4⟩
    cases x' with
    | normal =>
      obtain rfl := p2
      show Code.roundsIn _ _ _ _ _ _ _ _
      have mono : ∀ {L : Nat} {a : Act} {w : World}, Code.roundsIn (FW c.ro) 0 P x (Post T c ρ' K) L a w → Code.roundsIn (FW c.ro) 0 P x (Post T c ρ K) L a w := by
        intro L
        induction L with
        | zero => intro a w h; exact h
        | succ L ih' =>
          intro a w h
          refine wpIn_mono h fun e a w q => ?_
          cases e with
          | normal => exact ih' q
          | _ => exact Post.mono p1 q
      exact mono (rounds_of hih hN hro p3 p4)
    | exit id => obtain rfl := p2; exact ⟨ρ', .exit id, fr', ds', M', p1, rfl, p3, p4⟩
    | ret => obtain rfl := p2; exact ⟨ρ', .ret, fr', ds', M', p1, rfl, p3, p4⟩
    | pan v => obtain ⟨r, p5, rfl⟩ := p2; exact ⟨ρ', .pan v, fr', ds', M', p1, ⟨r, p5, rfl⟩, p3, p4⟩
theorem codeK_good {ih : EvT} (hih : Good T ih) : Good T (codeK P T ih) := fun code N inR fr ds M nx K h c ρ a w hN hro s => by
  have here : ∀ {x : Ex} {e : Exit}, ExR ρ x e → K x fr ds M nx = true → Post T c ρ K e a w := fun h1 h2 => ⟨ρ, _, fr, ds, M, .refl ρ, h1, by rw [s.nx]; exact h2, ⟨s.size, s.slots, s.dfs, s.rep, rfl, s.same, s.glob⟩⟩
  cases code with
  | skip => exact wpIn_skip (here (x := .normal) rfl h)
  | region id ops draw =>
    obtain ⟨ops⟩ := ops
    cases draw with
    | true =>
      obtain ⟨hm, h⟩ := both_eq.1 (show both (P.follows .mixedOrders) (both (okPlan2 T ops) (brK T ops nx fun br nx' => drawK P T ih N inR ops (noPan K) br nx (plan2 T ops) [] fr ds M nx')) = true from h)
      obtain ⟨h1, h⟩ := both_eq.1 h
      have h1 := okPlan2_spec h1
      obtain ⟨h2, h1⟩ := both_eq.1 h1
      obtain ⟨h3, h1⟩ := both_eq.1 h1
      have s' : Rl T c ρ fr ds M nx a { w with drawn := w.drawn + 1 } := ⟨s.size, s.slots, s.dfs, ⟨s.rep.own, s.rep.inj, s.rep.frame⟩, s.nx, s.same.trans ⟨rfl, rfl, rfl, Nat.le_refl _⟩, s.glob⟩
      have hc : Closed ops.toArray (Array.replicate ops.length false) := by have := Closed.none (ops := ops.toArray); simpa using this
      have hd : Hs c.ro P ops.toArray (Post T c ρ (noPan K)) (Sof P ops []) ops.length (Array.replicate ops.length false) a { w with drawn := w.drawn + 1 } := by
        unfold brK at h
        cases hbr : hasAlt (plan2 T ops) with
        | false =>
          rw [hbr] at h
          exact (drawK_spec hih hN hro h2 h3 (HL := []) (ρ0 := ρ) h h1 trivial (by simp) hc s' (.refl ρ) (fun q => by cases q)).hs
        | true =>
          rw [hbr] at h
          have h : (lenL ops 0 fun n => forceN (Nat.add nx n) fun nx' => drawK P T ih N inR ops (noPan K) true nx (plan2 T ops) [] fr ds M nx') = true := h
          rw [lenL_eq, forceN_eq] at h
          have x1 : Ext ρ (ρ.pad ops.length) := Ext.pad ρ _
          have s2 : Rl T c (ρ.pad ops.length) fr ds M (nx + ops.length) a { w with drawn := w.drawn + 1 } := ⟨s'.size, s'.slots.ext x1, renD_ext x1 s'.dfs, s'.rep.ext x1, by rw [Env.length_pad, s'.nx], s'.same, glob_ext s'.glob x1⟩
          exact (drawK_spec hih hN hro h2 h3 (HL := []) (ρ0 := ρ) h h1 trivial (by simp) hc s2 x1 (fun _ => ⟨s'.nx.symm, by rw [Env.length_pad, s'.nx]; exact Nat.le_refl _, fun i hi _ => by
            rw [Env.get_pad]
            cases q : ρ[nx + i]? with
            | none => rfl
            | some e => have := Env.get_lt q; rw [s'.nx] at this; omega⟩)).hs
      refine wpIn_mono (Q := Post T c ρ (noPan K)) (wpIn_region_any hm (Hs.any (S := Sof P ops []) _ _ _ _ ?_)) fun e a w q => noPan_post q
      simpa using hd
    | false => exact wpIn_region_lit (listK_spec hih hN hro h s)
  | seq x y =>
    refine wpIn_seq (wpIn_mono (hih _ _ _ _ _ _ _ _ (show ih x N inR fr ds M nx (fun e fr ds M nx => match e with
      | .normal => ih y N inR fr ds M nx K
      | e => K e fr ds M nx) = true from h) c ρ a w hN hro s) ?_)
    rintro e a w ⟨ρ', x', fr', ds', M', p1, p2, p3, p4⟩
    cases x' with
    | normal =>
      obtain rfl := p2
      exact wpIn_mono (hih _ _ _ _ _ _ _ _ p3 c ρ' a w hN hro p4) fun e a w q => q.mono p1
    | exit id => obtain rfl := p2; exact ⟨ρ', .exit id, fr', ds', M', p1, rfl, p3, p4⟩
    | ret => obtain rfl := p2; exact ⟨ρ', .ret, fr', ds', M', p1, rfl, p3, p4⟩
    | pan v => obtain ⟨r, p5, rfl⟩ := p2; exact ⟨ρ', .pan v, fr', ds', M', p1, ⟨r, p5, rfl⟩, p3, p4⟩
  | cond b x y =>
    obtain ⟨v, r, h1, h2⟩ := argK_spec (show argK T fr b (fun v => match v with
      | .bool b => Bool.rec (ih y N inR fr ds M nx K) (ih x N inR fr ds M nx K) b
      | _ => false) = true from h) s
    cases v <;> try (cases h2; done)
    rename_i b
    obtain rfl : r = .bool b := by simpa [ren] using h1.ren.symm
    cases b with
    | false => exact wpIn_cond_false h1.eval (hih _ _ _ _ _ _ _ _ h2 c ρ a w hN hro s)
    | true => exact wpIn_cond_true h1.eval (hih _ _ _ _ _ _ _ _ h2 c ρ a w hN hro s)
  | block id x =>
    refine wpIn_block (wpIn_mono (hih _ _ _ _ _ _ _ _ (show ih x N inR fr ds M nx (fun e fr ds M nx => match e with
      | .exit id' => Bool.rec (K (.exit id') fr ds M nx) (K .normal fr ds M nx) (Nat.beq id' id)
      | e => K e fr ds M nx) = true from h) c ρ a w hN hro s) ?_)
    rintro e a w ⟨ρ', x', fr', ds', M', p1, p2, p3, p4⟩
    cases x' with
    | normal => obtain rfl := p2; exact ⟨ρ', .normal, fr', ds', M', p1, rfl, p3, p4⟩
    | exit id' =>
      obtain rfl := p2
      have p3 : (Bool.rec (K (.exit id') fr' ds' M' ρ'.length) (K .normal fr' ds' M' ρ'.length) (Nat.beq id' id) : Bool) = true := p3
      cases q : Nat.beq id' id with
      | true =>
        rw [q] at p3
        have := Nat.eq_of_beq_eq_true q
        show Exit.inBlock id _ _ _ _
        simp only [Exit.inBlock, this, if_true]
        exact ⟨ρ', .normal, fr', ds', M', p1, rfl, p3, p4⟩
      | false =>
        rw [q] at p3
        have : id' ≠ id := fun e => by subst e; simp at q
        show Exit.inBlock id _ _ _ _
        simp only [Exit.inBlock, if_neg this]
        exact ⟨ρ', .exit id', fr', ds', M', p1, rfl, p3, p4⟩
    | ret => obtain rfl := p2; exact ⟨ρ', .ret, fr', ds', M', p1, rfl, p3, p4⟩
    | pan v => obtain ⟨r, p5, rfl⟩ := p2; exact ⟨ρ', .pan v, fr', ds', M', p1, ⟨r, p5, rfl⟩, p3, p4⟩
  | loop x => exact wpIn_loop_rounds 1000000 (rounds_of hih hN hro h s)
  | rangeFunc g ps as bd =>
    cases inR with
    | true => cases h
    | false => exact rangeFK_spec hih h hN (hro rfl) s
  | exit id => exact wpIn_exit (here (x := .exit id) rfl h)
  | scope x =>
    cases inR with
    | true => cases h
    | false =>
      have h1 := hih _ _ _ _ _ _ _ _ (show ih x N false fr ds M nx K = true from h) c ρ a w hN hro s
      have hro := hro rfl
      rw [hro] at h1 ⊢
      have h2 : x.wpIn (FW none) 0 P (Exit.noGoto (Post T c ρ K)) a w := wpIn_mono h1 fun e a w q => by
        cases e with
        | goto l =>
          obtain ⟨ρ', x', fr', ds', M', p1, p2, p3, p4⟩ := q
          cases x' with
          | pan v => obtain ⟨r, p5, p6⟩ := p2; cases p6
          | _ => cases p2
        | _ => exact q
      exact (wpIn_wide (n := 0)).2 (wp_scope_straight ((wpIn_wide (n := 0)).1 h2))
  | label l => exact wpIn_label (here (x := .normal) rfl h)
  | ret => exact wpIn_ret (here (x := .ret) rfl h)
  | _ => cases h
/-- The evaluator: so many levels deep. -/
def ev (P : Program) (T : Tabs P) (n : Nat) : EvT := Nat.rec (fun _ _ _ _ _ _ _ _ => false) (fun _ ih => codeK P T ih) n
theorem ev_good : ∀ n, Good T (ev P T n)
  | 0 => fun code N inR fr ds M nx K h => by cases h
  | n + 1 => codeK_good (ev_good n)
end
end Go.Ev
