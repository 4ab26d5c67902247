/- The evaluator, part L: maps that turn; ranges over maps and texts. -/
import Derived.Test.YtppdclebbcmcaaaEvK
set_option linter.unusedSimpArgs false
set_option linter.unusedVariables false
namespace Go.Ev
open Go.Sl
noncomputable section
variable {P : Program} {T : Tabs P} {c : Cn} {ρ : Env} {fr : Tr AV} {ds : List AD} {M : Mem} {nx : Nat} {a : Act} {w : World}

/-! ### maps -/
theorem renM_get : ∀ {es : List (AV × AV × Nat)} {L : List MapEntry} {j : Nat} {e : MapEntry}, renM ρ es = some L → L[j]? = some e → ∃ k v, es[j]? = some (k, v, e.born) ∧ ren ρ k = some e.key ∧ ren ρ v = some e.val
  | [], L, j, e, h, hj => by cases h; simp at hj
  | (k, v, b) :: es, L, j, e, h, hj => by
    simp only [renM, Option.bind_eq_some_iff, Option.map_eq_some_iff] at h
    obtain ⟨kr, hkr, vr, hvr, L', hL', rfl⟩ := h
    cases j with
    | zero => simp at hj; subst hj; exact ⟨k, v, rfl, hkr, hvr⟩
    | succ j => simpa using renM_get hL' (by simpa using hj)
theorem renM_set : ∀ {es : List (AV × AV × Nat)} {L : List MapEntry} (j : Nat) {x : AV × AV × Nat} {e : MapEntry}, renM ρ es = some L → ren ρ x.1 = some e.key → ren ρ x.2.1 = some e.val → x.2.2 = e.born → renM ρ (es.set j x) = some (L.set j e)
  | [], L, j, x, e, h, _, _, _ => by cases h; rfl
  | (k, v, b) :: es, L, j, x, e, h, h1, h2, h3 => by
    simp only [renM, Option.bind_eq_some_iff, Option.map_eq_some_iff] at h
    obtain ⟨kr, hkr, vr, hvr, L', hL', rfl⟩ := h
    obtain ⟨x1, x2, x3⟩ := x
    cases j with
    | zero => simp only [List.set_cons_zero, renM, Option.bind_eq_some_iff, Option.map_eq_some_iff]; exact ⟨_, h1, _, h2, L', hL', by simp only at h3; rw [h3]⟩
    | succ j => simp only [List.set_cons_succ, renM, Option.bind_eq_some_iff, Option.map_eq_some_iff]; exact ⟨_, hkr, _, hvr, _, renM_set j hL' h1 h2 h3, rfl⟩
theorem renM_append : ∀ {es : List (AV × AV × Nat)} {L : List MapEntry} {x : AV × AV × Nat} {e : MapEntry}, renM ρ es = some L → ren ρ x.1 = some e.key → ren ρ x.2.1 = some e.val → x.2.2 = e.born → renM ρ (es ++ [x]) = some (L ++ [e])
  | [], L, (x1, x2, x3), e, h, h1, h2, h3 => by cases h; simp only [List.nil_append, renM, Option.bind_eq_some_iff, Option.map_eq_some_iff]; exact ⟨_, h1, _, h2, [], rfl, by simp only at h3; rw [h3]⟩
  | (k, v, b) :: es, L, x, e, h, h1, h2, h3 => by
    simp only [renM, Option.bind_eq_some_iff, Option.map_eq_some_iff] at h
    obtain ⟨kr, hkr, vr, hvr, L', hL', rfl⟩ := h
    simp only [List.cons_append, renM, Option.bind_eq_some_iff, Option.map_eq_some_iff]
    exact ⟨_, hkr, _, hvr, _, renM_append hL' h1 h2 h3, rfl⟩
theorem renM_erase : ∀ {es : List (AV × AV × Nat)} {L : List MapEntry} (j : Nat), renM ρ es = some L → renM ρ (es.eraseIdx j) = some (L.eraseIdx j)
  | [], L, j, h => by cases h; rfl
  | (k, v, b) :: es, L, j, h => by
    simp only [renM, Option.bind_eq_some_iff, Option.map_eq_some_iff] at h
    obtain ⟨kr, hkr, vr, hvr, L', hL', rfl⟩ := h
    cases j with
    | zero => simpa using hL'
    | succ j => simp only [List.eraseIdx_cons_succ, renM, Option.bind_eq_some_iff, Option.map_eq_some_iff]; exact ⟨_, hkr, _, hvr, _, renM_erase j hL', rfl⟩
theorem modify_set {L : List MapEntry} {j : Nat} {e : MapEntry} (h : L[j]? = some e) (f : MapEntry → MapEntry) : (⟨L⟩ : Array MapEntry).modify j f = ⟨L.set j (f e)⟩ := by
  apply Array.toList_inj.1
  apply List.ext_getElem?
  intro i
  rw [Array.getElem?_toList, Array.getElem?_modify]
  by_cases hi : j = i
  · subst hi
    have hlt := (List.getElem?_eq_some_iff.1 h).1
    have : L[j] = e := (List.getElem?_eq_some_iff.1 h).2
    simp [hlt, this]
  · rw [if_neg hi]; simp [hi]
/-- Is the key the one that stands there? (bit by bit) -/
def sameK (old new : AV) (k : Bool) : Bool := match old with
  | .str l => (match new with
    | .str m => both (eqN l m) k
    | _ => false)
  | old => Option.rec false (fun r => Option.rec false (fun q => both (Instr.sameBits 10000 r q) k) (toV new)) (toV old)
theorem bits_str (s : ByteArray) : ∀ n, Instr.sameBits n (.string s) (.string s) = true := fun n => by
  have : (s == s) = true := (MapKept.bytes_beq s s).2 rfl
  cases n <;> simpa [Instr.sameBits] using this
theorem sameK_spec {old new : AV} {k : Bool} (h : sameK old new k = true) {r q : Value} (h1 : ren ρ old = some r) (h2 : ren ρ new = some q) : k = true ∧ ∀ w, (Instr.keyThatStays r q).run P w = .ok q w := by
  have gen : (Option.rec false (fun r => Option.rec false (fun q => both (Instr.sameBits 10000 r q) k) (toV new)) (toV old) : Bool) = true → k = true ∧ ∀ w, (Instr.keyThatStays r q).run P w = .ok q w := fun h => by
    obtain ⟨r', g1, h⟩ := opt_rec h
    obtain ⟨q', g2, h⟩ := opt_rec h
    obtain ⟨g3, h⟩ := both_eq.1 h
    have e1 := toV_ren g1 ρ; rw [h1] at e1
    have e2 := toV_ren g2 ρ; rw [h2] at e2
    rw [Option.some.inj e1, Option.some.inj e2]
    exact ⟨h, fun w => by simp [Instr.keyThatStays, g3]⟩
  cases old with
  | str l =>
    cases new with
    | str m =>
      obtain ⟨g1, hk⟩ := both_eq.1 (show both (eqN l m) k = true from h)
      rw [eqN_spec, decide_eq_true_iff] at g1
      subst g1
      rw [h1] at h2; cases h2
      obtain ⟨_, rfl⟩ := ren_str h1
      exact ⟨hk, fun w => by simp [Instr.keyThatStays, strV, bits_str]⟩
    | _ => cases h
  | _ => exact gen h
/-- One entry more, or another value. -/
def updK (P : Program) (T : Tabs P) (M : Mem) (nx : Nat) (kt : TypeId) (i : Nat) (es : List (AV × AV × Nat)) (cl : Nat) (key : AV) (val : AV → AV) (fresh : (AV → Bool) → Bool) (k : AV → Nat → Mem → Nat → Bool) : Bool :=
  chkK' P T kt false key (findK P T kt key es 0 fun x => Option.rec (fresh fun z => appL es [(key, z, cl)] fun es' => forceN (Nat.succ cl) fun cl' => turnK M nx i (.map es' cl') (k z cl))
    (fun p => Prod.rec (fun j q => Prod.rec (fun old v => sameK old key (Option.rec false (fun e => Prod.rec (fun _ vb => Prod.rec (fun _ b => setL es (key, val v, b) j fun es' => turnK M nx i (.map es' cl) (k v b)) vb) e) (nth es j))) q) p) x)
/-- What updK does to the world. -/
theorem updK_spec {kt : TypeId} {i : Nat} {es : List (AV × AV × Nat)} {cl : Nat} {key : AV} {val : AV → AV} {fresh : (AV → Bool) → Bool} {k : AV → Nat → Mem → Nat → Bool}
    (h : updK P T M nx kt i es cl key val fresh k = true) (s : Rel T c ρ fr ds M nx a w) {kr : Value} (hk : ren ρ key = some kr) (hi : M.get i = some (.map es cl)) {d : TypeDesc} (hd : P.underlying kt = some d) {fv : Value}
    (hfresh : ∀ k : AV → Bool, fresh k = true → ∃ z, k z = true ∧ ren ρ z = some fv) {vr : Value → Value} (hval : ∀ v r, ren ρ v = some r → ren ρ (val v) = some (vr r)) :
    ∃ e L, ρ[i]? = some e ∧ renM ρ es = some L ∧ w.heap[e.1]? = some (.map ⟨L⟩ cl) ∧ (∀ w, (Instr.checkKey false 10000 kt kr).run P w = .ok () w) ∧
      ((∃ z M' w', (∀ w, (Instr.findKey kt kr L).run P w = .ok none w) ∧ ren ρ z = some fv ∧ k z cl M' ρ.length = true ∧ w' = w.putObj e.1 (.map ((⟨L⟩ : Array MapEntry).push ⟨kr, fv, cl⟩) (cl + 1)) ∧ Rep ρ M' c.hF w') ∨
       (∃ j v r b M' w', (∀ w, (Instr.findKey kt kr L).run P w = .ok (some (j, r)) w) ∧ ren ρ v = some r ∧ (∃ en, L[j]? = some en ∧ en.born = b ∧ en.val = r ∧ (∀ w, (Instr.keyThatStays en.key kr).run P w = .ok kr w) ∧ w' = w.putObj e.1 (.map ⟨L.set j ⟨kr, vr r, b⟩⟩ cl)) ∧ k v b M' ρ.length = true ∧ Rep ρ M' c.hF w')) := by
  obtain ⟨h, hc⟩ := chkK'_spec h hk
  obtain ⟨e, he, ⟨L, hL, hb⟩, _⟩ := s.rep.own _ _ hi
  obtain ⟨x, y, h1, h2, h3⟩ := findK_spec (P := P) (T := T) hk h hL [] rfl
  have hf := fun w => run_findKey_of hd w (h3 w)
  refine ⟨e, L, he, hL, hb, hc, ?_⟩
  have hput : ∀ o, ∀ b, b ≠ e.1 → (w.putObj e.1 o).heap[b]? = w.heap[b]? := fun o b hne => World.putObj_heap_other hne
  have hput' : ∀ o, (w.putObj e.1 o).heap[e.1]? = some o := fun o => World.putObj_heap_same (mem_lt (w := w) hb)
  cases x with
  | none =>
    cases y with
    | some _ => exact h2.elim
    | none =>
      obtain ⟨z, g1, g2⟩ := hfresh _ h1
      rw [appL_eq, forceN_eq] at g1
      obtain ⟨M', k1, k2⟩ := turnK_spec (w' := w.putObj e.1 (.map ((⟨L⟩ : Array MapEntry).push ⟨kr, fv, cl⟩) (cl + 1))) g1 s hi rfl rfl he (hput _) (by
        rw [hput']
        exact ⟨L ++ [⟨kr, fv, cl⟩], renM_append hL hk g2 rfl, by congr 1; congr 1; apply Array.ext'; simp⟩)
      exact .inl ⟨z, M', _, hf, g2, k1, rfl, k2⟩
  | some p =>
    obtain ⟨j, old, v⟩ := p
    cases y with
    | none => exact h2.elim
    | some q =>
      obtain ⟨j', r⟩ := q
      obtain ⟨rfl, hv, en, hen, hold, rfl⟩ := h2
      rw [List.nil_append] at hen
      obtain ⟨g1, g2⟩ := sameK_spec (P := P) h1 hold hk
      obtain ⟨⟨k0, v0, b⟩, g3, g4⟩ := opt_rec g1
      rw [nth_eq] at g3
      obtain ⟨g5, g6⟩ := setL_spec g4
      obtain ⟨_, _, g7, _, _⟩ := renM_get hL hen
      rw [g3] at g7
      have hbn : b = en.born := by cases g7; rfl
      obtain ⟨M', k1, k2⟩ := turnK_spec (w' := w.putObj e.1 (.map ⟨L.set j ⟨kr, vr en.val, b⟩⟩ cl)) g6 s hi rfl rfl he (hput _) (by
        rw [hput']
        exact ⟨_, renM_set j hL hk (hval _ _ hv) rfl, rfl⟩)
      exact .inr ⟨j, v, en.val, b, M', _, hf, hv, ⟨en, hen, hbn.symm, rfl, g2, rfl⟩, k1, k2⟩
def mapUpdK (P : Program) (T : Tabs P) (fr : Tr AV) (M : Mem) (nx : Nat) (t : TypeId) (m x y : Operand) (k : AV → Mem → Nat → Bool) : Bool := argK T fr m fun mv => argK T fr x fun key => argK T fr y fun u => match mv with
  | .map i => Option.rec false (fun r => match r with
    | ⟨.map kt _, _, _⟩ => knownK T kt (Option.rec false (fun ck => match ck with
      | .map es cl => updK P T M nx kt i es cl key (fun _ => u) (fun k => k u) fun _ _ M' n => k (.tup []) M' n
      | _ => false) (M.get i))
    | _ => false) (T.T t)
  | _ => false
theorem run_setMap {i : Nat} {L : Array MapEntry} {cl : Nat} {w : World} {o : Obj} (h : w.heap[i]? = some (.map L cl)) : (setObj i o).run P w = .ok () (w.putObj i o) := by simp [setObj, Sem.run, h, World.putObj]
theorem mapUpd_parts {t : TypeId} {m x y : Operand} {k : AV → Mem → Nat → Bool} (h : mapUpdK P T fr M nx t m x y k = true) (s : Rel T c ρ fr ds M nx a w) : ∃ i kr ur, a.eval m = .map (some i) ∧ a.eval x = kr ∧ a.eval y = ur ∧
    ∃ M' w', k (.tup []) M' ρ.length = true ∧ Rep ρ M' c.hF w' ∧ Same w w' ∧ (Instr.mapUpdate t (.map (some i)) kr ur).run P w = .ok () w' := by
  obtain ⟨mv, mr, h1, g1⟩ := argK_spec h s
  obtain ⟨key, kr, h2, g2⟩ := argK_spec g1 s
  obtain ⟨u, ur, h3, g3⟩ := argK_spec g2 s
  clear h g1 g2
  cases mv <;> try (cases g3; done)
  rename_i i
  obtain ⟨⟨d, sz, b⟩, h4, g4⟩ := opt_rec g3
  cases d <;> try (cases g4; done)
  rename_i kt e
  have ht := (T.okT _ _ h4).td
  obtain ⟨⟨kd, hkd⟩, g5⟩ := knownK_spec g4
  obtain ⟨ck, h5, g6⟩ := opt_rec (show (Option.rec false (fun ck : Ck => match ck with
      | .map es cl => updK P T M nx kt i es cl key (fun _ => u) (fun k => k u) fun _ _ M' n => k (.tup []) M' n
      | _ => false) (M.get i) : Bool) = true from g5)
  cases ck <;> try (cases g6; done)
  rename_i es cl
  obtain ⟨e', L, he, hL, hb, hc, hcase⟩ := updK_spec (vr := fun _ => ur) g6 s h2.ren h5 hkd (fv := ur) (fun k hk => ⟨u, hk, h3.ren⟩) (fun _ _ _ => h3.ren)
  have e1 := h1.ren
  simp only [ren, he, Option.map_some, Option.some.injEq] at e1
  subst e1
  refine ⟨e'.1, kr, ur, h1.eval, h2.eval, h3.eval, ?_⟩
  rcases hcase with ⟨z, M', w', hf, _, hk, rfl, hrep⟩ | ⟨j, v, r, b', M', w', hf, _, ⟨en, hen, hbn, hvl, hst, rfl⟩, hk, hrep⟩
  · refine ⟨M', _, hk, hrep, .putObj _ _ _, ?_⟩
    simp [Instr.mapUpdate, run_underlying ht, run_getMap hb, hc, hf, run_setMap hb]
  · refine ⟨M', _, hk, hrep, .putObj _ _ _, ?_⟩
    have hm : (⟨L⟩ : Array MapEntry).modify j (fun e => { e with key := kr, val := ur }) = ⟨L.set j ⟨kr, ur, b'⟩⟩ := by rw [modify_set hen, ← hbn]
    simp only [Instr.mapUpdate, Sem.run_bind, run_underlying ht, Result.andThen_ok, run_getMap hb, hc, hf]
    have hget : ((⟨L⟩ : Array MapEntry)[j]?.map (·.key)).getD kr = en.key := by simp [hen]
    rw [hget]
    simp only [hst, Result.andThen_ok, hm, run_setMap hb]
theorem mapUpdK_spec {t : TypeId} {m x y : Operand} {k : AV → Mem → Nat → Bool} (h : mapUpdK P T fr M nx t m x y k = true) (s : Rel T c ρ fr ds M nx a w) : Eff P c ρ a w (.mapUpdate t m x y) k := by
  obtain ⟨i, kr, ur, e1, e2, e3, M', w', hk, hrep, hs, hr⟩ := mapUpd_parts h s
  refine ⟨.tup [], undef, ρ, M', w', .skip, .refl ρ, rfl, hk, hrep, hs, .inr ⟨rfl, rfl⟩, ?_⟩
  rintro ⟨d, op', ty, pos, af, gg⟩ rfl
  simp [execOp, e1, e2, e3, hr]
theorem insertK_spec {t : TypeId} {m x y : Operand} {k : AV → Mem → Nat → Bool} (h : mapUpdK P T fr M nx t m x y k = true) (s : Rel T c ρ fr ds M nx a w) : Eff P c ρ a w (.insert t m x y) k := by
  obtain ⟨i, kr, ur, e1, e2, e3, M', w', hk, hrep, hs, hr⟩ := mapUpd_parts h s
  refine ⟨.tup [], undef, ρ, M', w', .skip, .refl ρ, rfl, hk, hrep, hs, .inr ⟨rfl, rfl⟩, ?_⟩
  rintro ⟨d, op', ty, pos, af, gg⟩ rfl
  simp [execOp, e1, e2, e3, hr]
def mapEntK (P : Program) (T : Tabs P) (fr : Tr AV) (M : Mem) (nx : Nat) (t : TypeId) (m x : Operand) (k : AV → Mem → Nat → Bool) : Bool := argK T fr m fun mv => argK T fr x fun key => match mv with
  | .map i => Option.rec false (fun r => match r with
    | ⟨.map kt e, _, _⟩ => knownK T kt (Option.rec false (fun ck => match ck with
      | .map es cl => zeroK P e fun z => updK P T M nx kt i es cl key (fun v => v) (fun k => k z) fun v b M' n => k (.tup [v, .int .i64 (.ofNat b)]) M' n
      | _ => false) (M.get i))
    | _ => false) (T.T t)
  | _ => false
theorem mapEntK_spec {t : TypeId} {m x : Operand} {k : AV → Mem → Nat → Bool} (h : mapEntK P T fr M nx t m x k = true) (s : Rel T c ρ fr ds M nx a w) : Eff P c ρ a w (.mapEntry t m x) k := by
  obtain ⟨mv, mr, h1, g1⟩ := argK_spec h s
  obtain ⟨key, kr, h2, g3⟩ := argK_spec g1 s
  clear h g1
  cases mv <;> try (cases g3; done)
  rename_i i
  obtain ⟨⟨d, sz, b⟩, h4, g4⟩ := opt_rec g3
  cases d <;> try (cases g4; done)
  rename_i kt e
  have ht := (T.okT _ _ h4).td
  obtain ⟨⟨kd, hkd⟩, g5⟩ := knownK_spec g4
  obtain ⟨ck, h5, g6⟩ := opt_rec (show (Option.rec false (fun ck : Ck => match ck with
      | .map es cl => zeroK P e fun z => updK P T M nx kt i es cl key (fun v => v) (fun k => k z) fun v b M' n => k (.tup [v, .int .i64 (.ofNat b)]) M' n
      | _ => false) (M.get i) : Bool) = true from g5)
  cases ck <;> try (cases g6; done)
  rename_i es cl
  obtain ⟨z0, hz0, g7⟩ := opt_rec g6
  obtain ⟨zr, z1, z2, _⟩ := zeroA_spec hz0 ρ
  obtain ⟨e', L, he, hL, hb, hc, hcase⟩ := updK_spec (vr := fun r => r) g7 s h2.ren h5 hkd (fv := zr) (fun k hk => ⟨z0, hk, z2⟩) (fun _ _ h => h)
  have e1 := h1.ren
  simp only [ren, he, Option.map_some, Option.some.injEq] at e1
  subst e1
  rcases hcase with ⟨z, M', w', hf, hz', hk, rfl, hrep⟩ | ⟨j, v, r, b', M', w', hf, hv, ⟨en, hen, hbn, hvl, hst, rfl⟩, hk, hrep⟩
  · refine ⟨_, .tuple #[zr, .int .i64 cl], ρ, M', _, .value _, .refl ρ, by simp [ren, renL, hz'], hk, hrep, .putObj _ _ _, .inl rfl, ?_⟩
    rintro ⟨d, op', ty, pos, af, gg⟩ rfl
    simp [execOp, Instr.mapEntry, h1.eval, h2.eval, run_underlying ht, run_getMap hb, hc, hf, run_setMap hb, run_zeroV z1, goInt]
  · refine ⟨_, .tuple #[r, .int .i64 b'], ρ, M', _, .value _, .refl ρ, by simp [ren, renL, hv], hk, hrep, .putObj _ _ _, .inl rfl, ?_⟩
    rintro ⟨d, op', ty, pos, af, gg⟩ rfl
    have hm : (⟨L⟩ : Array MapEntry).modify j (fun e => { e with key := kr }) = ⟨L.set j ⟨kr, r, b'⟩⟩ := by
      rw [modify_set hen, ← hbn]
      rw [hvl]
    simp only [execOp, Instr.mapEntry, h1.eval, h2.eval, Sem.run_bind, run_underlying ht, Result.andThen_ok, run_getMap hb, hc, hf]
    have hget : ((⟨L⟩ : Array MapEntry)[j]?.map (·.key)).getD kr = en.key := by simp [hen]
    rw [hget]
    simp only [hst, Result.andThen_ok, hm, run_setMap hb]
    simp [hen, hbn, goInt]
end
end Go.Ev
