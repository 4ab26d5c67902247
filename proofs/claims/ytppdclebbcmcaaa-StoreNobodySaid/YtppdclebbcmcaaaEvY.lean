/- The evaluator, part Y: rounds of a range over a function. -/
import Derived.Test.YtppdclebbcmcaaaEvW
set_option linter.unusedSimpArgs false
set_option linter.unusedVariables false
namespace Go.Ev
open Go.Sl
noncomputable section
variable {P : Program}
abbrev putAll (ps : List Tmp) (rs : List Value) (T : Array Value) : Array Value := (ps.zip rs).foldl (fun (t : Array Value) (x : Tmp × Value) => t.setIfInBounds x.1 x.2) T
def setPsK (N : Nat) (ps : List Tmp) : List AV → Tr AV → (Tr AV → Bool) → Bool := List.rec (fun vs fr k => List.rec (k fr) (fun _ _ _ => false) vs) (fun p _ ih vs fr k => List.rec false (fun v vs' _ => both (Nat.blt p N) (fr.set p v fun fr' => ih vs' fr' k)) vs) ps
theorem setPsK_spec {ρ : Env} {N : Nat} : ∀ {ps : List Tmp} {vs : List AV} {rs : List Value} {fr : Tr AV} {k : Tr AV → Bool} {T : Array Value}, setPsK N ps vs fr k = true → RL ρ vs rs → T.size = N → Fk ρ fr T →
    ∃ fr', k fr' = true ∧ rs.length = ps.length ∧ (putAll ps rs T).size = N ∧ Fk ρ fr' (putAll ps rs T)
  | [], [], rs, fr, k, T, h, hv, hN, hs => by obtain rfl := hv.outNil; exact ⟨fr, h, rfl, hN, hs⟩
  | [], _ :: _, rs, fr, k, T, h, hv, hN, hs => by cases h
  | _ :: _, [], rs, fr, k, T, h, hv, hN, hs => by cases h
  | p :: ps, v :: vs, rs, fr, k, T, h, hv, hN, hs => by
    obtain ⟨r, rs', rfl, hr, hv'⟩ := hv.out
    obtain ⟨h1, h2⟩ := both_eq.1 (show both (Nat.blt p N) (fr.set p v fun fr' => setPsK N ps vs fr' k) = true from h)
    rw [Nat.blt_eq] at h1
    obtain ⟨fr1, h3, h4⟩ := Tr.set_spec h2
    obtain ⟨fr', g1, g2, g3, g4⟩ := setPsK_spec (T := T.setIfInBounds p r) h4 hv' (by simpa using hN) (hs.set h3 (by omega) hr)
    exact ⟨fr', g1, by simp [g2], g3, g4⟩
section
variable {T : Tabs P} {c : Cn} {ρ : Env} {fr : Tr AV} {ds : List AD} {M : Mem} {nx : Nat} {a : Act} {w : World}
theorem loop_turn {i : Nat} {st st' : LoopState} {pd pd' : Option Code} {fn : FuncId} {fr0 : Tr AV} {N0 : Nat} {ps : List Tmp} {as bd : Code} {D : Nat} {k : Mem → Nat → Bool} (h : turnK M nx i (.loop st' pd' fn fr0 N0 ps as bd D) k = true) (s : Rel T c ρ fr ds M nx a w) (hi : M.get i = some (.loop st pd fn fr0 N0 ps as bd D)) :
    ∃ (e : Nat × Nat × Nat) (r : Loop) (M' : Mem), ρ[i]? = some e ∧ w.heap[e.1]? = some (.loop r) ∧ r.state = st ∧ r.pending = pd ∧ k M' ρ.length = true ∧ Rep ρ M' c.hF (w.putObj e.1 (.loop { r with state := st', pending := pd' })) := by
  obtain ⟨e, he, ⟨T0, e', fn', q1, q2, q3, q4⟩, _⟩ := s.rep.own _ _ hi
  obtain ⟨M', k1, k2⟩ := turnK_spec (w' := w.putObj e.1 (.loop ⟨st', pd', fn', T0, ps.toArray, as, bd, e'.1⟩)) h s hi rfl rfl he (fun b hb => World.putObj_heap_other hb) (by
    rw [World.putObj_heap_same (mem_lt (w := w) q4)]
    exact ⟨T0, e', fn', q1, q2, q3, rfl⟩)
  exact ⟨e, _, M', he, q4, rfl, rfl, k1, k2⟩
end
def endK (M : Mem) (nx : Nat) (i : Nat) (st : LoopState) (pd : Option Code) (k : Mem → Nat → Bool) : Bool := Option.rec false (fun ck => match ck with
  | .loop _ _ fn fr N ps as bd D => turnK M nx i (.loop st pd fn fr N ps as bd D) k
  | _ => false) (M.get i)
theorem endK_spec {T : Tabs P} {c : Cn} {ρ : Env} {fr : Tr AV} {ds : List AD} {M : Mem} {nx : Nat} {a : Act} {w : World} {i : Nat} {st : LoopState} {pd : Option Code} {k : Mem → Nat → Bool} (h : endK M nx i st pd k = true) (s : Rel T c ρ fr ds M nx a w) :
    ∃ (e : Nat × Nat × Nat) (r : Loop) (M' : Mem), ρ[i]? = some e ∧ w.heap[e.1]? = some (.loop r) ∧ k M' ρ.length = true ∧ Rep ρ M' c.hF (w.putObj e.1 (.loop { r with state := st, pending := pd })) := by
  obtain ⟨ck, h1, h⟩ := opt_rec h
  cases ck <;> try (cases h; done)
  obtain ⟨e, r, M', g1, g2, _, _, g3, g4⟩ := loop_turn h s h1
  exact ⟨e, r, M', g1, g2, g3, g4⟩
/-- One round. -/
def roundK (ih : EvT) (i : Nat) (vs : List AV) (M : Mem) (nx : Nat) (k : Oc → Mem → Nat → Bool) : Bool := Option.rec false (fun ck => match ck with
  | .loop .ready pd fn fr0 N0 ps as bd D => setPsK N0 ps vs fr0 fun fr1 => ih as N0 true fr1 [] M nx fun x fr2 ds2 M2 nx2 => match x with
    | .normal => List.rec (Option.rec false (fun ck2 => match ck2 with
      | .loop .ready pd2 fn2 fr02 N02 ps2 as2 bd2 D2 => turnK M2 nx2 i (.loop .busy pd2 fn2 fr02 N02 ps2 as2 bd2 D2) fun M3 nx3 => ih bd N0 true fr2 [] M3 nx3 fun y _ _ M4 nx4 => match y with
        | .normal => endK M4 nx4 i .ready none (k (.ret (.bool true)))
        | .ret => endK M4 nx4 i .done (some .ret) (k (.ret (.bool false)))
        | .exit id => endK M4 nx4 i .done (some (.exit id)) (k (.ret (.bool false)))
        | .pan _ => false
      | _ => false) (M2.get i)) (fun _ _ _ => false) ds2
    | _ => false
  | _ => false) (M.get i)
theorem roundK_spec {T : Tabs P} {ih : EvT} (hih : Good T ih) {i : Nat} {vs : List AV} {M : Mem} {nx : Nat} {k : Oc → Mem → Nat → Bool} (h : roundK ih i vs M nx k = true) {ρ : Env} {rs : List Value} {hF : Hp} {w : World} {e : Nat × Nat × Nat} (he : ρ[i]? = some e) (hr : Rep ρ M hF w) (hn : ρ.length = nx) (hg : ∀ g i, T.gl g = some i → ρ[i]? = some (g, 0, 0)) (hv : RL ρ vs rs) :
    ∃ nx, (Instr.yield e.1 rs.toArray).run P w = .ok nx w ∧ NxP P (CallPost T hF ρ w k) nx w := by
  obtain ⟨ck, h1, h⟩ := opt_rec h
  cases ck <;> try (cases h; done)
  rename_i st pd fn fr0 N0 ps as bd D
  cases st <;> try (cases h; done)
  obtain ⟨e0, he0, ⟨T0, e', fn', q1, q2, q3, q4⟩, _⟩ := hr.own _ _ h1
  rw [he] at he0; cases he0
  obtain ⟨fr1, g1, g2, g3, g4⟩ := setPsK_spec (ρ := ρ) h hv q1 q2
  have hy := run_yield (P := P) (args := rs.toArray) q4 (by simp [g2])
  have hz : (ps.toArray.zip rs.toArray).foldl (fun (t : Array Value) (x : Tmp × Value) => t.setIfInBounds x.1 x.2) T0 = putAll ps rs T0 := by simp [putAll]
  refine ⟨_, hy, ?_⟩
  show RoundIn (FW none) 0 P e.1 fn' ((ps.toArray.zip rs.toArray).foldl (fun (t : Array Value) (x : Tmp × Value) => t.setIfInBounds x.1 x.2) T0) as bd w _
  rw [hz]
  refine roundIn_of_wpIn trivial ?_
  refine wpIn_mono (hih _ _ _ _ _ _ _ _ g1 ⟨N0, hF, w, some e.1⟩ ρ { tmps := putAll ps rs T0, defers := [] } w rfl (fun q => by cases q) ⟨g3, g4, rfl, hr, hn, .refl w, hg⟩) ?_
  rintro ex a1 w1 ⟨ρ1, x, fr2, ds2, M2, x1, p2, p3, p4⟩
  cases x <;> try (cases p3; done)
  obtain rfl := p2
  cases ds2 with
  | cons _ _ => cases p3
  | nil =>
  obtain ⟨ck2, h2, p3⟩ := opt_rec p3
  cases ck2 <;> try (cases p3; done)
  rename_i st2 pd2 fn2 fr02 N02 ps2 as2 bd2 D2
  cases st2 <;> try (cases p3; done)
  obtain ⟨e1, r1, M3, k1, k2, k3, k4, k5, k6⟩ := loop_turn p3 p4 h2
  have := x1.get he
  rw [this] at k1; cases k1
  have er : ({ r1 with state := .busy, pending := pd2 } : Loop) = { r1 with state := .busy } := by rw [← k4]
  rw [er] at k6
  refine ⟨_, run_beginRound k2 k3, ?_⟩
  have p4d := p4.dfs
  refine wpIn_mono (hih _ _ _ _ _ _ _ _ k5 ⟨N0, hF, w, some e.1⟩ ρ1 a1 _ rfl (fun q => by cases q) ⟨p4.size, p4.slots, p4d, k6, rfl, p4.same.trans (.putObj _ _ _), p4.glob⟩) ?_
  rintro ey a3 w3 ⟨ρ3, y, fr4, ds4, M4, y1, y2, y3, y4⟩
  have he3 := y1.get this
  cases y with
  | pan v => cases y3
  | normal =>
    obtain rfl := y2
    obtain ⟨e3, r3, M5, z1, z2, z3, z4⟩ := endK_spec y3 y4
    rw [he3] at z1; cases z1
    exact ⟨_, _, run_endRound none z2, ρ3, .ret (.bool true), M5, x1.trans y1, ⟨_, rfl, rfl⟩, z3, z4, y4.same.trans (.putObj _ _ _)⟩
  | ret =>
    obtain rfl := y2
    obtain ⟨e3, r3, M5, z1, z2, z3, z4⟩ := endK_spec y3 y4
    rw [he3] at z1; cases z1
    exact ⟨_, _, run_endRound (some .ret) z2, ρ3, .ret (.bool false), M5, x1.trans y1, ⟨_, rfl, rfl⟩, z3, z4, y4.same.trans (.putObj _ _ _)⟩
  | exit id =>
    obtain rfl := y2
    obtain ⟨e3, r3, M5, z1, z2, z3, z4⟩ := endK_spec y3 y4
    rw [he3] at z1; cases z1
    exact ⟨_, _, run_endRound (some (.exit id)) z2, ρ3, .ret (.bool false), M5, x1.trans y1, ⟨_, rfl, rfl⟩, z3, z4, y4.same.trans (.putObj _ _ _)⟩
end
end Go.Ev
