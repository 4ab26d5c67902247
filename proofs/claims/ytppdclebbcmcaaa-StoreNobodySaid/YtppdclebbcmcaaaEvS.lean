/- The evaluator, part S: calls, and how a function is left. -/
import Derived.Test.YtppdclebbcmcaaaEvZ
set_option linter.unusedSimpArgs false
set_option linter.unusedVariables false
namespace Go.Ev
open Go.Sl
noncomputable section
variable {P : Program}

/-! ### a new frame -/
def slotsK (vs : List AV) : Nat → Tr AV → (Tr AV → Bool) → Bool := List.rec (fun _ fr k => k fr) (fun v _ ih i fr k => fr.set i v fun fr' => forceN (Nat.succ i) fun i' => ih i' fr' k) vs
theorem slotsK_spec : ∀ {vs : List AV} {i : Nat} {fr : Tr AV} {k : Tr AV → Bool}, slotsK vs i fr k = true → ∃ fr', k fr' = true ∧ ∀ t, fr'.get t = if i ≤ t ∧ t < i + vs.length then vs[t - i]? else fr.get t
  | [], i, fr, k, h => ⟨fr, h, fun t => by rw [if_neg (by simp)]⟩
  | v :: vs, i, fr, k, h => by
    obtain ⟨fr1, h1, h2⟩ := Tr.set_spec (show fr.set i v (fun fr' => forceN (Nat.succ i) fun i' => slotsK vs i' fr' k) = true from h)
    rw [forceN_eq] at h2
    obtain ⟨fr2, h3, h4⟩ := slotsK_spec h2
    refine ⟨fr2, h3, fun t => ?_⟩
    rw [h4, h1]
    simp only [List.length_cons, Nat.succ_eq_add_one]
    by_cases e : t = i
    · subst e; rw [if_neg (by omega), if_pos rfl, if_pos (by omega)]; simp
    · rw [if_neg e]
      by_cases q : i ≤ t ∧ t < i + (vs.length + 1)
      · rw [if_pos (by omega), if_pos q, show t - i = (t - (i + 1)) + 1 by omega]; simp
      · rw [if_neg (by omega), if_neg q]
theorem slots_enter {ρ : Env} {vs : List AV} {rs : List Value} {fr' : Tr AV} {n : Nat} (h : ∀ t, fr'.get t = if 0 ≤ t ∧ t < 0 + vs.length then vs[t - 0]? else (Tr.nil : Tr AV).get t) (hr : RL ρ vs rs) : Fk ρ fr' (rs.toArray ++ Array.replicate n undef) := fun t v e => by
  rw [h] at e
  split at e
  · simp only [Nat.sub_zero] at e
    obtain ⟨r, h1, h2⟩ := hr.get e
    refine ⟨r, ?_, h2⟩
    have hlt : t < rs.length := (List.getElem?_eq_some_iff.1 h1).1
    rw [Array.getElem?_append_left (by simpa using hlt)]
    simpa using h1
  · cases e

/-! ### results -/
def resOneK (T : Tabs P) (fr : Tr AV) (M : Mem) (r : ResultVar) (k : AV → Bool) : Bool := match r with
  | .tmp t => Option.rec false k (fr.get t)
  | .cell a t => Option.rec false (fun v => match v with
    | .ptr i o => Option.rec false (fun ck => Option.rec false (fun l => cutK T t l o k) ck.cells) (M.get i)
    | _ => false) (fr.get a)
def resK (T : Tabs P) (fr : Tr AV) (M : Mem) (rs : Array ResultVar) (k : AV → Bool) : Bool := match rs with
  | ⟨[]⟩ => k (.tup [])
  | ⟨[a]⟩ => resOneK T fr M a k
  | ⟨[a, b]⟩ => resOneK T fr M a fun x => resOneK T fr M b fun y => k (.tup [x, y])
  | ⟨[a, b, c]⟩ => resOneK T fr M a fun x => resOneK T fr M b fun y => resOneK T fr M c fun z => k (.tup [x, y, z])
  | _ => false
variable {T : Tabs P}
theorem resOneK_spec {ρ : Env} {fr : Tr AV} {M : Mem} {r : ResultVar} {k : AV → Bool} (h : resOneK T fr M r k = true) {tmps : Array Value} (hs : Fk ρ fr tmps) {hF : Hp} {w : World} (hr : Rep ρ M hF w) : ∃ v x, ren ρ v = some x ∧ k v = true ∧ RvAt P tmps w r x := by
  cases r with
  | tmp t =>
    obtain ⟨v, h1, h2⟩ := opt_rec h
    obtain ⟨x, h3, h4⟩ := hs t v h1
    exact ⟨v, x, h4, h2, by simp [RvAt, h3]⟩
  | cell a t =>
    obtain ⟨v, h1, h2⟩ := opt_rec h
    obtain ⟨x, h3, h4⟩ := hs a v h1
    cases v <;> try (cases h2; done)
    rename_i i o
    obtain ⟨ck, q1, h2⟩ := opt_rec (show (Option.rec false (fun ck : Ck => Option.rec false (fun l => cutK T t l o k) ck.cells) (M.get i) : Bool) = true from h2)
    obtain ⟨l, q2, h2⟩ := opt_rec h2
    obtain ⟨e, cs, t', fz, vs, he, hb, hl, hA⟩ := hr.cells q1 q2
    simp only [ren, he, Option.map_some, Option.some.injEq] at h4
    subst h4
    rcases cutK_spec h2 hl with ⟨v, r, p1, p2, p3, p4⟩ | ⟨A, B, p1, p2, p3, p4, p5, p6⟩
    · refine ⟨v, r, p3, p4, ⟨e.1, e.2.1 + o, none⟩, by simp [h3], ?_⟩
      have hc : w.cell? ⟨e.1, e.2.1 + o, none⟩ = some r := by
        rw [cell_of hb]; exact hA _ _ p2
      simp [loadVar, Sl.run_isAgg p1, hc]
    · refine ⟨.agg A, .agg ⟨B⟩, by simp [ren, show renL ρ A = some B from p5], p6, ⟨e.1, e.2.1 + o, none⟩, by simp [h3], ?_⟩
      exact run_loadVar_at p1 p2 hb (fun j u hj => by
        have := hA _ _ (p4 j u hj)
        rwa [← Nat.add_assoc] at this)
theorem resK_spec {ρ : Env} {fr : Tr AV} {M : Mem} {fn : Func} {k : AV → Bool} (h : resK T fr M fn.results k = true) {tmps : Array Value} (hs : Fk ρ fr tmps) {hF : Hp} {w : World} (hr : Rep ρ M hF w) : ∃ v x, ren ρ v = some x ∧ k v = true ∧ (results fn tmps).run P w = .ok x w := by
  obtain ⟨l, hl⟩ : ∃ l, fn.results = ⟨l⟩ := ⟨fn.results.toList, by simp⟩
  rw [hl] at h
  match l, hl, h with
  | [], hl, h => exact ⟨.tup [], .tuple #[], rfl, h, results_none hl tmps P w⟩
  | [a], hl, h =>
    obtain ⟨v, x, h1, h2, h3⟩ := resOneK_spec h hs hr
    exact ⟨v, x, h1, h2, res1 hl h3⟩
  | [a, b], hl, h =>
    obtain ⟨v, x, h1, h2, h3⟩ := resOneK_spec (show resOneK T fr M a (fun x => resOneK T fr M b fun y => k (.tup [x, y])) = true from h) hs hr
    obtain ⟨v', x', h4, h5, h6⟩ := resOneK_spec h2 hs hr
    exact ⟨_, .tuple #[x, x'], by simp [ren, renL, h1, h4], h5, res2 hl h3 h6⟩
  | [a, b, c], hl, h =>
    obtain ⟨v, x, h1, h2, h3⟩ := resOneK_spec (show resOneK T fr M a (fun x => resOneK T fr M b fun y => resOneK T fr M c fun z => k (.tup [x, y, z])) = true from h) hs hr
    obtain ⟨v', x', h4, h5, h6⟩ := resOneK_spec h2 hs hr
    obtain ⟨v'', x'', h7, h8, h9⟩ := resOneK_spec h5 hs hr
    exact ⟨_, .tuple #[x, x', x''], by simp [ren, renL, h1, h4, h7], h8, res3 hl h3 h6 h9⟩
  | _ :: _ :: _ :: _ :: _, hl, h => cases h

/-! ### the way out -/
/-- A deferred call, which may call recover, and defers nothing. -/
def callDK (T : Tabs P) (ih : EvT) (f : FuncId) (vs : List AV) (M : Mem) (nx : Nat) (md : Md) (k : Oc → Md → Mem → Nat → Bool) : Bool := Option.rec false (fun fn => Option.rec false (fun body => lenL vs 0 fun n => forceN (Nat.add n (Nat.sub fn.ntmps n)) fun N => slotsK vs 0 .nil fun fr =>
  recF P T ih N 40 body fr [] M nx md fun x fr ds M nx md => List.rec (match x with
    | .normal => resK T fr M fn.results fun v => k (.ret v) md M nx
    | .ret => resK T fr M fn.results fun v => k (.ret v) md M nx
    | .pan v => k (.pan v) md M nx
    | .exit _ => false) (fun _ _ _ => false) ds) fn.body) (T.F f)
def mdOf (mode : Option AV) : Md := Option.rec .ret (fun v => .pan v) mode
def leaveK (T : Tabs P) (ih : EvT) (fn : Func) (fr : Tr AV) (ds : List AD) : Option AV → Mem → Nat → (Oc → Mem → Nat → Bool) → Bool := List.rec
  (fun mode M nx k => Option.rec (resK T fr M fn.results fun v => k (.ret v) M nx) (fun v => k (.pan v) M nx) mode)
  (fun d _ rec mode M nx k => match d with
    | .mark i => Option.rec false (fun ck => match ck with
      | .dfr true => turnK M nx i (.dfr false) fun M' nx' => rec mode M' nx' k
      | _ => false) (M.get i)
    | .call f args caps => appL args caps fun all => callDK T ih f all M nx (mdOf mode) fun oc md M' nx' => match oc with
      | .ret _ => (match md with
        | .ret => rec none M' nx' k
        | .pan v => rec (some v) M' nx' k
        | .rcd => rec none M' nx' k)
      | .pan v => (match md with
        | .ret => rec (some v) M' nx' k
        | _ => false)) ds
def ModeR (ρ : Env) : Option AV → FrameMode → Prop
  | none, u => u = .returning
  | some v, u => ∃ r, ren ρ v = some r ∧ u = .panicking [{ v := r, recovered := false }]
theorem ModeR.ext {ρ ρ' : Env} {m : Option AV} {u : FrameMode} (h : ModeR ρ m u) (x : Ext ρ ρ') : ModeR ρ' m u := by
  cases m with
  | none => exact h
  | some v => obtain ⟨r, h1, h2⟩ := h; exact ⟨r, ren_ext x h1, h2⟩
theorem ModeR.settle {ρ : Env} {m : Option AV} {u : FrameMode} (h : ModeR ρ m u) : settle u = u := by
  cases m with
  | none => rw [show u = _ from h]; rfl
  | some v => obtain ⟨r, h1, rfl⟩ := h; rfl
theorem ModeR.run {ρ : Env} {m : Option AV} {u : FrameMode} (h : ModeR ρ m u) : u ≠ .run := by
  cases m with
  | none => rw [show u = _ from h]; simp
  | some v => obtain ⟨r, h1, rfl⟩ := h; simp
theorem glob_ext {ρ ρ' : Env} (h : ∀ g i, T.gl g = some i → ρ[i]? = some (g, 0, 0)) (x : Ext ρ ρ') : ∀ g i, T.gl g = some i → ρ'[i]? = some (g, 0, 0) := fun g i e => x.get (h g i e)
def DPost (T : Tabs P) (hF : Hp) (ρ : Env) (w : World) (k : Oc → Md → Mem → Nat → Bool) (e : Ending) (u' : FrameMode) (w' : World) : Prop :=
  ∃ ρ' oc md M, Ext ρ ρ' ∧ OcR ρ' oc e ∧ MdR ρ' md u' ∧ k oc md M ρ'.length = true ∧ Rep ρ' M hF w' ∧ Same w w'
theorem mdOf_ok {ρ : Env} {m : Option AV} {u : FrameMode} (h : ModeR ρ m u) : MdR ρ (mdOf m) u := by
  cases m with
  | none => exact h
  | some v => exact h
theorem callDK_spec {ih : EvT} (hih : Good T ih) {f : FuncId} {vs : List AV} {M : Mem} {nx : Nat} {md : Md} {k : Oc → Md → Mem → Nat → Bool} (h : callDK T ih f vs M nx md k = true) {ρ : Env} {rs : List Value} {hF : Hp} {w : World} (hr : Rep ρ M hF w) (hn : ρ.length = nx) (hg : ∀ g i, T.gl g = some i → ρ[i]? = some (g, 0, 0)) (hv : RL ρ vs rs) {u : FrameMode} (hm : MdR ρ md u) :
    callable P f = true ∧ CallsDIn (FW none) 0 P f rs.toArray u w (DPost T hF ρ w k) := by
  obtain ⟨fn, h1, h⟩ := opt_rec h
  obtain ⟨body, h2, h⟩ := opt_rec h
  rw [lenL_eq, forceN_eq] at h
  obtain ⟨fr, h3, h4⟩ := slotsK_spec h
  obtain ⟨hf, hname⟩ := T.okF _ _ h1
  refine ⟨by unfold callable; rw [hf]; simp [h2, hname], ?_⟩
  refine callsDIn_of_wpSIn hf h2 trivial fun c₀ cs hc₀ => ?_
  have hsz : (rs.toArray ++ Array.replicate (fn.ntmps - rs.toArray.size) undef).size = Nat.add vs.length (Nat.sub fn.ntmps vs.length) := by
    have := hv.length
    simp only [Array.size_append, List.size_toArray, Array.size_replicate, this]; rfl
  have hw := recF_spec hih h3 (c := ⟨_, hF, w, none⟩) (ρ := ρ) (a := { tmps := rs.toArray ++ Array.replicate (fn.ntmps - rs.toArray.size) undef, defers := [] }) (w := w) (u := u) c₀ cs rfl rfl ⟨hsz, slots_enter h4 hv, rfl, hr, hn, .refl w, hg⟩ hm
  have hcc : ({ c₀ with mode := u } : Frame) = c₀ := by subst hc₀; rfl
  rw [hcc] at hw
  intro b k' q1 q2 q3 q4
  obtain ⟨e, a, cs', w', z1, z2, z3⟩ := hw b k' q1 q2 q3 q4
  refine ⟨e, a, cs', w', z1, ?_, z3⟩
  obtain ⟨ρ', x, fr', ds, M', md', u', p1, p2, p3, p4, rfl, p5⟩ := z2
  cases ds with
  | cons _ _ => cases p3
  | nil =>
    have hd : a.defers = [] := by have := p4.dfs; simpa [renD] using this.symm
    have fin : (resK T fr' M' fn.results fun v => k (.ret v) md' M' ρ'.length) = true → ∃ v, (results fn a.tmps).run P w' = .ok v w' ∧ DPost T hF ρ w k (.returned v) u' w' := fun h => by
      obtain ⟨v, x, p1', p2', p3'⟩ := resK_spec h p4.slots p4.rep
      exact ⟨x, p3', ρ', .ret v, md', M', p1, ⟨x, p1', rfl⟩, p5, p2', p4.rep, p4.same⟩
    cases x with
    | normal => obtain rfl := p2; exact ⟨hd, u', rfl, fin p3⟩
    | ret => obtain rfl := p2; exact ⟨hd, u', rfl, fin p3⟩
    | exit id => cases p3
    | pan v =>
      obtain ⟨r, p6, rfl⟩ := p2
      exact ⟨hd, u', rfl, ρ', .pan v, md', M', p1, ⟨r, p6, rfl⟩, p5, p3, p4.rep, p4.same⟩
theorem leaveK_spec {ih : EvT} (hih : Good T ih) {fn : Func} {fr : Tr AV} {hF : Hp} {ρ0 : Env} {w0 : World} {k : Oc → Mem → Nat → Bool} {tmps : Array Value} :
    ∀ {ds : List AD} {mode : Option AV} {M : Mem} {nx : Nat} {ρ : Env} {w : World} {rds : List Deferred} {u : FrameMode}, leaveK T ih fn fr ds mode M nx k = true → Ext ρ0 ρ → Same w0 w → Fk ρ fr tmps → renD ρ ds = some rds → Rep ρ M hF w → ρ.length = nx → (∀ g i, T.gl g = some i → ρ[i]? = some (g, 0, 0)) → ModeR ρ mode u →
      LeavesInM (FW none) 0 P fn tmps (CallPost T hF ρ0 w0 k) rds u w
  | [], mode, M, nx, ρ, w, rds, u, h, x0, s0, hs, hd, hr, hn, hg, hm => by
    cases hd
    cases mode with
    | none =>
      obtain rfl := hm
      obtain ⟨v, x, p1, p2, p3⟩ := resK_spec (show resK T fr M fn.results (fun v => k (.ret v) M nx) = true from h) hs hr
      exact ⟨x, p3, ρ, .ret v, M, x0, ⟨x, p1, rfl⟩, by rw [hn]; exact p2, hr, s0⟩
    | some v =>
      obtain ⟨r, p1, rfl⟩ := hm
      exact ⟨ρ, .pan v, M, x0, ⟨r, p1, rfl⟩, by rw [hn]; exact h, hr, s0⟩
  | .mark i :: ds, mode, M, nx, ρ, w, rds, u, h, x0, s0, hs, hd, hr, hn, hg, hm => by
    simp only [renD, Option.bind_eq_some_iff, Option.map_eq_some_iff] at hd
    obtain ⟨e, he, rds', hd', rfl⟩ := hd
    obtain ⟨ck, h1, h⟩ := opt_rec (show (Option.rec false (fun ck : Ck => match ck with
      | .dfr true => turnK M nx i (.dfr false) fun M' nx' => leaveK T ih fn fr ds mode M' nx' k
      | _ => false) (M.get i) : Bool) = true from h)
    cases ck <;> try (cases h; done)
    rename_i b
    cases b
    · cases h
    obtain ⟨M', h2, h3⟩ := Tr.set_spec (show M.set i (.dfr false) (fun M' => leaveK T ih fn fr ds mode M' nx k) = true from h)
    obtain ⟨e', he', hb, hFe⟩ := hr.own _ _ h1
    rw [he] at he'; cases he'
    have hb : w.heap[e.1]? = some (.deferred (some [])) := hb
    have hrep := hr.turn (w' := w.putObj e.1 (.deferred none)) h1 rfl he h2 rfl (fun b o hb' => by
      unfold but at hb'
      split at hb'
      · cases hb'
      · rename_i hne; show (w.putObj e.1 _).heap[b]? = some o; rw [World.putObj_heap_other hne]; exact hb') (by
      rw [World.putObj_heap_same (mem_lt (w := w) hb)]; rfl)
    exact ⟨hm.run, .inl ⟨e.1, _, rfl, run_takeDeferred hb, leaveK_spec hih h3 x0 (s0.trans (.putObj _ _ _)) hs hd' hrep hn hg hm⟩⟩
  | .call f args caps :: ds, mode, M, nx, ρ, w, rds, u, h, x0, s0, hs, hd, hr, hn, hg, hm => by
    simp only [renD, Option.bind_eq_some_iff, Option.map_eq_some_iff] at hd
    obtain ⟨us, hus, cs, hcs, rds', hd', rfl⟩ := hd
    have h : appL args caps (fun all => callDK T ih f all M nx (mdOf mode) fun oc md M' nx' => match oc with
      | .ret _ => (match md with
        | .ret => leaveK T ih fn fr ds none M' nx' k
        | .pan v => leaveK T ih fn fr ds (some v) M' nx' k
        | .rcd => leaveK T ih fn fr ds none M' nx' k)
      | .pan v => (match md with
        | .ret => leaveK T ih fn fr ds (some v) M' nx' k
        | _ => false)) = true := h
    rw [appL_eq] at h
    have hall : RL ρ (args ++ caps) (us ++ cs) := RL.append (ρ := ρ) hus hcs
    obtain ⟨hc, hcall⟩ := callDK_spec hih h hr hn hg hall (mdOf_ok hm)
    refine ⟨hm.run, .inr ⟨(fun hd => by cases hd), .func f, ⟨cs⟩, f, (us ++ cs).toArray, rfl, ?_, (fun _ _ => trivial), ?_⟩⟩
    · have := run_callFunc (P := P) hc (us ++ cs).toArray w
      simpa [invoke] using this
    · refine CallsDIn.mono hcall ?_
      rintro e u' w' ⟨ρ', oc, md, M', q1, q2, qm, q3, q4, q5⟩
      have hg' := glob_ext (T := T) hg q1
      have go : ∀ {mode' : Option AV} {u'' : FrameMode}, leaveK T ih fn fr ds mode' M' ρ'.length k = true → ModeR ρ' mode' u'' → LeavesInM (FW none) 0 P fn tmps (CallPost T hF ρ0 w0 k) rds' u'' w' := fun h m => leaveK_spec hih h (x0.trans q1) (s0.trans q5) (hs.ext q1) (renD_ext q1 hd') q4 rfl hg' m
      cases oc with
      | ret v =>
        obtain ⟨r, p1, rfl⟩ := q2
        show LeavesInM _ _ _ _ _ _ _ (settle u') _
        cases md with
        | ret => obtain rfl := qm; exact go (mode' := none) q3 rfl
        | pan v' => obtain ⟨r', p2, rfl⟩ := qm; exact go (mode' := some v') q3 ⟨r', p2, rfl⟩
        | rcd => obtain ⟨r', rfl⟩ := qm; exact go (mode' := none) q3 rfl
      | pan v =>
        obtain ⟨r, p1, rfl⟩ := q2
        cases md with
        | ret =>
          obtain rfl := qm
          exact go (mode' := some v) q3 ⟨r, p1, rfl⟩
        | pan _ => cases q3
        | rcd => cases q3

/-! ### calls -/
def callFK (T : Tabs P) (ih : EvT) (f : FuncId) (vs : List AV) (M : Mem) (nx : Nat) (k : Oc → Mem → Nat → Bool) : Bool :=
  Option.rec (Option.rec false (fun fn => Option.rec (T.X f vs M nx fun v M' nx' => k (.ret v) M' nx') (fun body => lenL vs 0 fun n => forceN (Nat.add n (Nat.sub fn.ntmps n)) fun N => slotsK vs 0 .nil fun fr =>
    ih body N false fr [] M nx fun x fr ds M nx => match x with
      | .normal => leaveK T ih fn fr ds none M nx k
      | .ret => leaveK T ih fn fr ds none M nx k
      | .pan v => leaveK T ih fn fr ds (some v) M nx k
      | .exit _ => false) fn.body) (T.F f)) (fun g => g vs M nx fun v M' nx' => k (.ret v) M' nx') (T.I f)
/-- What a call's next step leads to. -/
def NxP (P : Program) (R : Ending → World → Prop) : Next → World → Prop
  | .enter f args, w => Calls P f args w R
  | .value v, w => R (.returned v) w
  | .round l f tmps assign body, w => RoundIn (FW none) 0 P l f tmps assign body w R
  | _, _ => False
theorem callFK_spec {ih : EvT} (hih : Good T ih) {f : FuncId} {vs : List AV} {M : Mem} {nx : Nat} {k : Oc → Mem → Nat → Bool} (h : callFK T ih f vs M nx k = true) {ρ : Env} {rs : List Value} {hF : Hp} {w : World} (hr : Rep ρ M hF w) (hn : ρ.length = nx) (hg : ∀ g i, T.gl g = some i → ρ[i]? = some (g, 0, 0)) (hv : RL ρ vs rs) :
    ∃ nx w1, (callFunc f rs.toArray).run P w = .ok nx w1 ∧ NxP P (CallPost T hF ρ w k) nx w1 := by
  unfold callFK at h
  cases hI : T.I f with
  | some g =>
    rw [hI] at h
    obtain ⟨hc, hspec⟩ := T.okI f g hI
    refine ⟨.enter f rs.toArray, w, run_callFunc hc _ w, Calls.mono (hspec vs M nx _ h ρ hF w rs hr hn hv) ?_⟩
    rintro e w' ⟨ρ', v, r, M', q1, q2, rfl, q3, q4, q5⟩
    exact ⟨ρ', .ret v, M', q1, ⟨r, q2, rfl⟩, q3, q4, q5⟩
  | none =>
    rw [hI] at h
    obtain ⟨fn, h1, h⟩ := opt_rec h
    obtain ⟨hf, hname⟩ := T.okF _ _ h1
    cases hb : fn.body with
    | none =>
      rw [hb] at h
      obtain ⟨ρ', v, r, M', w', q1, q2, q3, q4, q5, q6⟩ := T.okX f vs M nx _ h ρ hF w rs hr hn hv
      exact ⟨.value r, w', q6, ρ', .ret v, M', q1, ⟨r, q2, rfl⟩, q3, q4, q5⟩
    | some body =>
      rw [hb] at h
      have h : lenL vs 0 (fun n => forceN (Nat.add n (Nat.sub fn.ntmps n)) fun N => slotsK vs 0 .nil fun fr =>
        ih body N false fr [] M nx fun x fr ds M nx => match x with
          | .normal => leaveK T ih fn fr ds none M nx k
          | .ret => leaveK T ih fn fr ds none M nx k
          | .pan v => leaveK T ih fn fr ds (some v) M nx k
          | .exit _ => false) = true := h
      rw [lenL_eq, forceN_eq] at h
      obtain ⟨fr, h3, h4⟩ := slotsK_spec h
      have hc : callable P f = true := by unfold callable; rw [hf]; simp [hb, hname]
      refine ⟨.enter f rs.toArray, w, run_callFunc hc _ w, callsIn_wide.1 (callsIn_of_wp_marks (n := 0) (F := FW none) hf hb trivial ?_)⟩
      have hsz : (rs.toArray ++ Array.replicate (fn.ntmps - rs.toArray.size) undef).size = Nat.add vs.length (Nat.sub fn.ntmps vs.length) := by
        have := hv.length
        simp only [Array.size_append, List.size_toArray, Array.size_replicate, this]; rfl
      refine wpIn_mono (hih _ _ _ _ _ _ _ _ h3 ⟨_, hF, w, none⟩ ρ _ w rfl (fun _ => rfl) ⟨hsz, slots_enter h4 hv, rfl, hr, hn, .refl w, hg⟩) ?_
      rintro e a w' ⟨ρ', x, fr', ds, M', q1, q2, q3, q4⟩
      cases x with
      | normal => obtain rfl := q2; exact leaveK_spec hih q3 q1 q4.same q4.slots q4.dfs q4.rep rfl q4.glob rfl
      | ret => obtain rfl := q2; exact leaveK_spec hih q3 q1 q4.same q4.slots q4.dfs q4.rep rfl q4.glob rfl
      | exit id => cases q3
      | pan v =>
        obtain ⟨r, p1, rfl⟩ := q2
        exact leaveK_spec hih q3 q1 q4.same q4.slots q4.dfs q4.rep rfl q4.glob ⟨r, p1, rfl⟩
end
end Go.Ev
