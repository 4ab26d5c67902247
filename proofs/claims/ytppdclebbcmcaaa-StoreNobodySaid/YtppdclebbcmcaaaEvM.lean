/- The evaluator, part M: more of maps; ranges over maps and texts; literals of slices; bytes of texts. -/
import Derived.Test.YtppdclebbcmcaaaEvL
set_option linter.unusedSimpArgs false
set_option linter.unusedVariables false
namespace Go.Ev
open Go.Sl
noncomputable section
variable {P : Program} {T : Tabs P} {c : Cn} {ρ : Env} {fr : Tr AV} {ds : List AD} {M : Mem} {nx : Nat} {a : Act} {w : World}

/-! ### an entry's value, by its stamp -/
def setBorn (b : Nat) (u : AV) (es : List (AV × AV × Nat)) : (List (AV × AV × Nat) → Bool) → Bool := List.rec (fun _ => false) (fun e t ih k => Prod.rec (fun key vb => Prod.rec (fun v b' => Bool.rec (ih fun t' => k ((key, v, b') :: t')) (k ((key, u, b') :: t)) (Nat.beq b' b)) vb) e) es
theorem setBorn_spec {b : Nat} {u : AV} {ur : Value} (hu : ren ρ u = some ur) : ∀ {es : List (AV × AV × Nat)} {L : List MapEntry} {k : List (AV × AV × Nat) → Bool}, setBorn b u es k = true → renM ρ es = some L →
    ∃ es' j e, k es' = true ∧ L.findIdx? (fun e => (e.born : Int) == (b : Int)) = some j ∧ L[j]? = some e ∧ renM ρ es' = some (L.set j { e with val := ur })
  | [], L, k, h, hL => by cases h
  | (key, v, b') :: es, L, k, h, hL => by
    simp only [renM, Option.bind_eq_some_iff, Option.map_eq_some_iff] at hL
    obtain ⟨kr, hkr, vr, hvr, L', hL', rfl⟩ := hL
    have h : (Bool.rec (setBorn b u es fun t' => k ((key, v, b') :: t')) (k ((key, u, b') :: es)) (Nat.beq b' b) : Bool) = true := h
    cases q : Nat.beq b' b with
    | true =>
      rw [q] at h
      have := Nat.eq_of_beq_eq_true q
      refine ⟨_, 0, ⟨kr, vr, b'⟩, h, by simp [List.findIdx?_cons, this], rfl, ?_⟩
      simp only [renM, List.set_cons_zero, Option.bind_eq_some_iff, Option.map_eq_some_iff]
      exact ⟨_, hkr, _, hu, _, hL', rfl⟩
    | false =>
      rw [q] at h
      have hne : ¬ ((b' : Int) = (b : Int)) := fun e => by
        have : b' = b := by omega
        subst this; simp at q
      obtain ⟨es', j, e, g1, g2, g3, g4⟩ := setBorn_spec hu h hL'
      refine ⟨_, j + 1, e, g1, by simp [List.findIdx?_cons, hne, g2], by simpa using g3, ?_⟩
      simp only [renM, List.set_cons_succ, Option.bind_eq_some_iff, Option.map_eq_some_iff]
      exact ⟨_, hkr, _, hvr, _, g4, rfl⟩
def entStK (T : Tabs P) (fr : Tr AV) (M : Mem) (nx : Nat) (m st x : Operand) (k : AV → Mem → Nat → Bool) : Bool := argK T fr m fun mv => argK T fr st fun sv => argK T fr x fun u => match mv with
  | .map i => (match sv with
    | .int _ (.ofNat b) => Option.rec false (fun ck => match ck with
      | .map es cl => setBorn b u es fun es' => turnK M nx i (.map es' cl) (k (.tup []))
      | _ => false) (M.get i)
    | _ => false)
  | _ => false
theorem entStK_spec {t : TypeId} {m st x : Operand} {k : AV → Mem → Nat → Bool} (h : entStK T fr M nx m st x k = true) (s : Rel T c ρ fr ds M nx a w) : Eff P c ρ a w (.entryStore t m st x) k := by
  obtain ⟨mv, mr, h1, g1⟩ := argK_spec h s
  obtain ⟨sv, sr, h2, g2⟩ := argK_spec g1 s
  obtain ⟨u, ur, h3, g3⟩ := argK_spec g2 s
  clear h g1 g2
  cases mv <;> try (cases g3; done)
  rename_i i
  cases sv <;> try (cases g3; done)
  rename_i kd n
  cases n <;> try (cases g3; done)
  rename_i b
  obtain rfl : sr = .int kd b := by simpa [ren] using h2.ren.symm
  obtain ⟨ck, h5, g6⟩ := opt_rec (show (Option.rec false (fun ck : Ck => match ck with
      | .map es cl => setBorn b u es fun es' => turnK M nx i (.map es' cl) (k (.tup []))
      | _ => false) (M.get i) : Bool) = true from g3)
  cases ck <;> try (cases g6; done)
  rename_i es cl
  obtain ⟨e, he, ⟨L, hL, hb⟩, _⟩ := s.rep.own _ _ h5
  obtain ⟨es', j, en, g7, g8, g9, g10⟩ := setBorn_spec h3.ren g6 hL
  have e1 := h1.ren
  simp only [ren, he, Option.map_some, Option.some.injEq] at e1
  subst e1
  obtain ⟨M', k1, k2⟩ := turnK_spec (w' := w.putObj e.1 (.map ⟨L.set j { en with val := ur }⟩ cl)) g7 s h5 rfl rfl he (fun b hne => World.putObj_heap_other hne) (by
    rw [World.putObj_heap_same (mem_lt (w := w) hb)]
    exact ⟨_, g10, rfl⟩)
  refine ⟨.tup [], undef, ρ, M', _, .skip, .refl ρ, rfl, k1, k2, .putObj _ _ _, .inr ⟨rfl, rfl⟩, ?_⟩
  rintro ⟨d, op', ty, pos, af, gg⟩ rfl
  have hfi : (⟨L⟩ : Array MapEntry).findIdx? (fun e => (e.born : Int) == (b : Int)) = some j := by rw [← g8]; simp
  have hm := modify_set g9 (fun e => { e with val := ur })
  simp [execOp, Instr.entryStore, h1.eval, h2.eval, h3.eval, run_getMap hb, asInt, asIntOf, hfi, hm, run_setMap hb]

/-! ### delete -/
def eraseK (es : List (AV × AV × Nat)) : Nat → (List (AV × AV × Nat) → Bool) → Bool := List.rec (fun _ k => k []) (fun e t ih n k => Nat.rec (k t) (fun m _ => ih m fun t' => k (e :: t')) n) es
theorem eraseK_eq : ∀ (es : List (AV × AV × Nat)) (n : Nat) (k : List (AV × AV × Nat) → Bool), eraseK es n k = k (es.eraseIdx n)
  | [], n, k => rfl
  | e :: es, 0, k => rfl
  | e :: es, n + 1, k => by
    show eraseK es n (fun t' => k (e :: t')) = _
    rw [eraseK_eq]; rfl
def deleteK (P : Program) (T : Tabs P) (fr : Tr AV) (M : Mem) (nx : Nat) (t : TypeId) (m x : Operand) (k : AV → Mem → Nat → Bool) : Bool := argK T fr m fun mv => argK T fr x fun key => Option.rec false (fun r => match r with
  | ⟨.map kt _, _, _⟩ => knownK T kt (match mv with
    | .nilm => chkK' P T kt true key (k (.tup []) M nx)
    | .map i => Option.rec false (fun ck => match ck with
      | .map es cl => chkK' P T kt (isEmp es) key (findK P T kt key es 0 fun x => Option.rec (turnK M nx i (.map es cl) (k (.tup []))) (fun p => eraseK es p.1 fun es' => turnK M nx i (.map es' cl) (k (.tup []))) x)
      | _ => false) (M.get i)
    | _ => false)
  | _ => false) (T.T t)
theorem deleteK_spec {t kt' : TypeId} {m x : Operand} {k : AV → Mem → Nat → Bool} (h : deleteK P T fr M nx t m x k = true) (s : Rel T c ρ fr ds M nx a w) : Eff P c ρ a w (.call ⟨.builtin .delete, #[m, x], #[t, kt']⟩) k := by
  obtain ⟨mv, mr, h1, g1⟩ := argK_spec h s
  obtain ⟨key, kr, h2, g3⟩ := argK_spec g1 s
  clear h g1
  obtain ⟨⟨d, sz, b⟩, h4, g4⟩ := opt_rec g3
  cases d <;> try (cases g4; done)
  rename_i kt e
  have ht := (T.okT _ _ h4).td
  obtain ⟨⟨kd, hkd⟩, g5⟩ := knownK_spec g4
  clear g3 g4
  cases mv with
  | nilm =>
    obtain ⟨g6, hc⟩ := chkK'_spec g5 h2.ren
    obtain rfl : mr = .map none := by simpa [ren] using h1.ren.symm
    refine ⟨.tup [], undef, ρ, M, w, .value undef, .refl ρ, rfl, by rw [s.nx]; exact g6, s.rep, .refl w, .inl rfl, ?_⟩
    rintro ⟨d, op', ty, pos, af, gg⟩ rfl
    simp [execOp, resolve, invoke, builtin, Builtin.delete_, h1.eval, h2.eval, run_underlying ht, hc, undef]
  | map i =>
    obtain ⟨ck, h5, g6⟩ := opt_rec (show (Option.rec false (fun ck : Ck => match ck with
      | .map es cl => chkK' P T kt (isEmp es) key (findK P T kt key es 0 fun x => Option.rec (turnK M nx i (.map es cl) (k (.tup []))) (fun p => eraseK es p.1 fun es' => turnK M nx i (.map es' cl) (k (.tup []))) x)
      | _ => false) (M.get i) : Bool) = true from g5)
    cases ck <;> try (cases g6; done)
    rename_i es cl
    obtain ⟨g7, hc⟩ := chkK'_spec g6 h2.ren
    obtain ⟨e', he, ⟨L, hL, hb⟩, _⟩ := s.rep.own _ _ h5
    have hemp : (⟨L⟩ : Array MapEntry).isEmpty = isEmp es := by
      rw [isEmp_eq]; have := renM_len hL
      show L.toArray.isEmpty = _
      rw [List.isEmpty_toArray]; cases L <;> cases es <;> simp at this ⊢
    rw [← hemp] at hc
    have hc : ∀ w, (Instr.checkKey L.isEmpty 10000 kt kr).run P w = .ok () w := by simpa using hc
    obtain ⟨y, y', q1, q2, q3⟩ := findK_spec (P := P) (T := T) h2.ren g7 hL [] rfl
    have hf := fun w => run_findKey_of hkd w (q3 w)
    have e1 := h1.ren
    simp only [ren, he, Option.map_some, Option.some.injEq] at e1
    subst e1
    cases y with
    | none =>
      cases y' with
      | some _ => exact q2.elim
      | none =>
        obtain ⟨M', k1, k2⟩ := turnK_spec (w' := w.putObj e'.1 (.map ⟨L⟩ cl)) q1 s h5 rfl rfl he (fun b hne => World.putObj_heap_other hne) (by
          rw [World.putObj_heap_same (mem_lt (w := w) hb)]; exact ⟨_, hL, rfl⟩)
        refine ⟨.tup [], undef, ρ, M', _, .value undef, .refl ρ, rfl, k1, k2, .putObj _ _ _, .inl rfl, ?_⟩
        rintro ⟨d, op', ty, pos, af, gg⟩ rfl
        simp [execOp, resolve, invoke, builtin, Builtin.delete_, h1.eval, h2.eval, run_underlying ht, run_getMap hb, hc, hf, run_setMap hb, undef]
    | some p =>
      obtain ⟨j, old, v⟩ := p
      cases y' with
      | none => exact q2.elim
      | some y' =>
        obtain ⟨j', r⟩ := y'
        obtain ⟨rfl, _, en, hen, _⟩ := q2
        rw [List.nil_append] at hen
        have q1 : eraseK es j (fun es' => turnK M nx i (.map es' cl) (k (.tup []))) = true := q1
        rw [eraseK_eq] at q1
        obtain ⟨M', k1, k2⟩ := turnK_spec (w' := w.putObj e'.1 (.map ⟨L.eraseIdx j⟩ cl)) q1 s h5 rfl rfl he (fun b hne => World.putObj_heap_other hne) (by
          rw [World.putObj_heap_same (mem_lt (w := w) hb)]; exact ⟨_, renM_erase j hL, rfl⟩)
        refine ⟨.tup [], undef, ρ, M', _, .value undef, .refl ρ, rfl, k1, k2, .putObj _ _ _, .inl rfl, ?_⟩
        rintro ⟨d, op', ty, pos, af, gg⟩ rfl
        have hlt := (List.getElem?_eq_some_iff.1 hen).1
        have her : (⟨L⟩ : Array MapEntry).eraseIdxIfInBounds j = ⟨L.eraseIdx j⟩ := by
          unfold Array.eraseIdxIfInBounds
          rw [dif_pos (by simpa using hlt)]
          apply Array.toList_inj.1; simp
        simp [execOp, resolve, invoke, builtin, Builtin.delete_, h1.eval, h2.eval, run_underlying ht, run_getMap hb, hc, hf, run_setMap hb, her, undef]
  | _ => cases g5

/-! ### ranges -/
def rangeK (T : Tabs P) (fr : Tr AV) (M : Mem) (nx : Nat) (t : TypeId) (x : Operand) (k : AV → Mem → Nat → Bool) : Bool := argK T fr x fun v => Option.rec false (fun r => match r with
  | ⟨.str, _, _⟩ => (match v with
    | .str l => newK M nx (.sit l 0) (k (.ptr nx 0))
    | _ => false)
  | ⟨.map _ _, _, _⟩ => (match v with
    | .nilm => newK M nx .mnil (k (.ptr nx 0))
    | .map i => Option.rec false (fun ck => match ck with
      | .map _ cl => newK M nx (.mit i cl [] cl) (k (.ptr nx 0))
      | _ => false) (M.get i)
    | _ => false)
  | _ => false) (T.T t)
theorem rangeK_spec {t : TypeId} {x : Operand} {k : AV → Mem → Nat → Bool} (h : rangeK T fr M nx t x k = true) (s : Rel T c ρ fr ds M nx a w) : Eff P c ρ a w (.range t x) k := by
  obtain ⟨v, r, h1, g1⟩ := argK_spec h s
  obtain ⟨⟨d, sz, b⟩, h4, g4⟩ := opt_rec g1
  have ht := (T.okT _ _ h4).td
  clear h g1
  have hn : ∀ o : Obj, (newObj o).run P w = .ok w.heap.size (w.alloc o) := fun _ => rfl
  cases d with
  | str =>
    cases v <;> try (cases g4; done)
    rename_i l
    obtain ⟨s1, rfl⟩ := ren_str h1.ren
    obtain ⟨M', k1, k2, k3⟩ := newK_spec (κ := 0) (o := .stringIter ⟨⟨l.map UInt8.ofNat⟩⟩ 0) g4 s (.inl rfl) rfl ⟨s1, rfl, rfl⟩
    refine ⟨.ptr nx 0, .pointer (some ⟨w.heap.size, 0, none⟩), _, M', _, _, Ext.one _ _, by rw [← s.nx]; exact ren_new, k1, k2, k3, .inl rfl, ?_⟩
    rintro ⟨d, op', ty, pos, af, gg⟩ rfl
    simp [execOp, Instr.range, h1.eval, run_underlying ht, strV, hn]
  | map kt e =>
    cases v with
    | nilm =>
      obtain rfl : r = .map none := by simpa [ren] using h1.ren.symm
      obtain ⟨M', k1, k2, k3⟩ := newK_spec (κ := 0) (o := .mapIter none 0 #[] 0) g4 s (.inl rfl) rfl ⟨rfl, rfl⟩
      refine ⟨.ptr nx 0, .pointer (some ⟨w.heap.size, 0, none⟩), _, M', _, _, Ext.one _ _, by rw [← s.nx]; exact ren_new, k1, k2, k3, .inl rfl, ?_⟩
      rintro ⟨d, op', ty, pos, af, gg⟩ rfl
      simp [execOp, Instr.range, h1.eval, run_underlying ht, hn]
    | map i =>
      obtain ⟨ck, h5, g6⟩ := opt_rec (show (Option.rec false (fun ck : Ck => match ck with
        | .map _ cl => newK M nx (.mit i cl [] cl) (k (.ptr nx 0))
        | _ => false) (M.get i) : Bool) = true from g4)
      cases ck <;> try (cases g6; done)
      rename_i es cl
      obtain ⟨e', he, ⟨L, hL, hb⟩, _⟩ := s.rep.own _ _ h5
      have e1 := h1.ren
      simp only [ren, he, Option.map_some, Option.some.injEq] at e1
      subst e1
      obtain ⟨M', k1, k2, k3⟩ := newK_spec (κ := 0) (o := .mapIter (some e'.1) cl #[] cl) g6 s (.inl rfl) rfl ⟨e', (Ext.one _ _).get he, rfl, rfl⟩
      refine ⟨.ptr nx 0, .pointer (some ⟨w.heap.size, 0, none⟩), _, M', _, _, Ext.one _ _, by rw [← s.nx]; exact ren_new, k1, k2, k3, .inl rfl, ?_⟩
      rintro ⟨d, op', ty, pos, af, gg⟩ rfl
      simp [execOp, Instr.range, h1.eval, run_underlying ht, run_getMap hb, hn]
    | _ => cases g4
  | _ => cases g4
end
end Go.Ev
