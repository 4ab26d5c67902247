/- The evaluator, part N: a step of a range; bytes of a text; literals of slices. -/
import Derived.Test.YtppdclebbcmcaaaEvM
set_option linter.unusedSimpArgs false
set_option linter.unusedVariables false
namespace Go.Ev
open Go.Sl
noncomputable section
variable {P : Program} {T : Tabs P} {c : Cn} {ρ : Env} {fr : Tr AV} {ds : List AD} {M : Mem} {nx : Nat} {a : Act} {w : World}

/-! ### a step -/
def memN (b : Nat) (l : List Nat) : Bool := List.rec false (fun x _ ih => Bool.rec ih true (Nat.beq x b)) l
theorem memN_eq (b : Nat) : ∀ l : List Nat, memN b l = l.contains b
  | [] => rfl
  | x :: l => by
    show (Bool.rec (memN b l) true (Nat.beq x b) : Bool) = _
    rw [memN_eq b l, List.contains_cons]
    by_cases h : b = x
    · subst h; simp
    · have : Nat.beq x b = false := Bool.eq_false_iff.2 fun q => h (Nat.eq_of_beq_eq_true q).symm
      rw [this]; simp [h]
/-- Those that were not seen. -/
def leftA (seen : List Nat) (es : List (AV × AV × Nat)) (k : List (AV × AV × Nat) → Bool) : Bool := List.rec (fun k => k []) (fun e _ ih k => Prod.rec (fun _ vb => Prod.rec (fun _ b => Bool.rec (ih fun t => k (e :: t)) (ih k) (memN b seen)) vb) e) es k
theorem leftA_eq (seen : List Nat) : ∀ (es : List (AV × AV × Nat)) (k : List (AV × AV × Nat) → Bool), leftA seen es k = k (es.filter fun e => !seen.contains e.2.2)
  | [], k => rfl
  | (key, v, b) :: es, k => by
    show (Bool.rec (leftA seen es fun t => k ((key, v, b) :: t)) (leftA seen es k) (memN b seen) : Bool) = _
    rw [memN_eq, leftA_eq seen es, leftA_eq seen es]
    cases h : seen.contains b <;> simp only [List.filter_cons, h, Bool.not_false, Bool.not_true, if_true, Bool.false_eq_true, if_false]
theorem renM_filter (p : Nat → Bool) : ∀ {es : List (AV × AV × Nat)} {L : List MapEntry}, renM ρ es = some L → renM ρ (es.filter fun e => p e.2.2) = some (L.filter fun e => p e.born)
  | [], L, h => by cases h; rfl
  | (k, v, b) :: es, L, h => by
    simp only [renM, Option.bind_eq_some_iff, Option.map_eq_some_iff] at h
    obtain ⟨kr, hkr, vr, hvr, L', hL', rfl⟩ := h
    cases hp : p b with
    | true =>
      simp only [List.filter_cons, hp, if_true, renM, Option.bind_eq_some_iff, Option.map_eq_some_iff]
      exact ⟨_, hkr, _, hvr, _, renM_filter p hL', rfl⟩
    | false => simpa [List.filter_cons, hp] using renM_filter p hL'
theorem renM_all (p : Nat → Bool) : ∀ {es : List (AV × AV × Nat)} {L : List MapEntry}, renM ρ es = some L → L.all (fun e => p e.born) = es.all fun e => p e.2.2
  | [], L, h => by cases h; rfl
  | (k, v, b) :: es, L, h => by
    simp only [renM, Option.bind_eq_some_iff, Option.map_eq_some_iff] at h
    obtain ⟨kr, hkr, vr, hvr, L', hL', rfl⟩ := h
    simp [renM_all p hL']
theorem allL_eq {α : Type} (p : α → Bool) : ∀ l : List α, allL p l = l.all p
  | [] => rfl
  | x :: l => by
    show both (p x) (allL p l) = _
    rw [allL_eq p l, List.all_cons]
    cases p x <;> rfl
/-- One of those that are left. -/
def oneOf (M : Mem) (nx : Nat) (i m since : Nat) (seen : List Nat) (cl : Nat) (k : AV → Mem → Nat → Bool) (e : AV × AV × Nat) : Bool :=
  Prod.rec (fun key vb => Prod.rec (fun v b => both (Nat.blt b since) (appL seen [b] fun seen' => turnK M nx i (.mit m since seen' cl) (k (.tup [.bool true, key, v])))) vb) e
def stepMapK (M : Mem) (nx : Nat) (i m since : Nat) (seen : List Nat) (last : Nat) (es : List (AV × AV × Nat)) (cl : Nat) (k : AV → Mem → Nat → Bool) : Bool :=
  both (notB (both (notB (isEmp seen)) (both (notB (isEmp es)) (allL (fun e => Nat.ble last e.2.2) es)))) (leftA seen es fun left => List.rec (k (.tup [.bool false]) M nx) (fun x t _ => allL (oneOf M nx i m since seen cl k) (x :: t)) left)
def nextK (T : Tabs P) (fr : Tr AV) (M : Mem) (nx : Nat) (it : Operand) (isString : Bool) (k : AV → Mem → Nat → Bool) : Bool := argK T fr it fun v => match v with
  | .ptr i 0 => Option.rec false (fun ck => match ck with
    | .sit l pos => Bool.rec false (Option.rec (k (.tup [.bool false]) M nx) (fun b => both (Nat.blt b 128) (forceN (Nat.succ pos) fun pos' => turnK M nx i (.sit l pos') (k (.tup [.bool true, .int .i64 (.ofNat pos), .int .i32 (.ofNat b)])))) (nth l pos)) isString
    | .mnil => Bool.rec (k (.tup [.bool false]) M nx) false isString
    | .mit m since seen last => Bool.rec (Option.rec false (fun ck' => match ck' with
      | .map es cl => stepMapK M nx i m since seen last es cl k
      | _ => false) (M.get m)) false isString
    | _ => false) (M.get i)
  | _ => false
theorem decode_ascii {l : List Nat} {pos b : Nat} (hs : small l = true) (h : l[pos]? = some b) (hb : b < 128) : Utf8.decode ⟨⟨l.map UInt8.ofNat⟩⟩ pos = (b, 1) := by
  have hlt := (List.getElem?_eq_some_iff.1 h).1
  have hg : ((⟨⟨l.map UInt8.ofNat⟩⟩ : ByteArray).get! (pos + 0)).toNat = b := by
    have h1 : pos < (⟨⟨l.map UInt8.ofNat⟩⟩ : ByteArray).data.size := by simpa using hlt
    have : (⟨⟨l.map UInt8.ofNat⟩⟩ : ByteArray).get! (pos + 0) = (⟨⟨l.map UInt8.ofNat⟩⟩ : ByteArray).data[pos]! := rfl
    rw [this]
    have h2 : (l.map UInt8.ofNat)[pos]? = some (UInt8.ofNat b) := by simp [h]
    have h3 : (⟨⟨l.map UInt8.ofNat⟩⟩ : ByteArray).data[pos] = UInt8.ofNat b := by
      have := List.getElem?_eq_some_iff.1 h2
      obtain ⟨_, h4⟩ := this
      simpa using h4
    have h5 : (⟨⟨l.map UInt8.ofNat⟩⟩ : ByteArray).data[pos]! = UInt8.ofNat b := by simp [getElem!_def, h]
    rw [h5, u8_ofNat (by omega)]
  unfold Utf8.decode
  simp only [hg]
  rw [if_pos hb]
theorem run_choose {n : Nat} (hn : 0 < n) : ∃ idx w', (choose (.mapNext n)).run P w = .ok idx w' ∧ idx < n ∧ (w' = w ∨ w' = { w with drawn := w.drawn + 1 }) := by
  by_cases h : n ≤ 1
  · exact ⟨0, w, by simp [choose, Sem.run, Question.forced, h], hn, .inl rfl⟩
  · exact ⟨w.tape w.drawn (.mapNext n) % n, _, by simp [choose, Sem.run, Question.forced, h, Question.cut], Nat.mod_lt _ hn, .inr rfl⟩
theorem renM_at : ∀ {es : List (AV × AV × Nat)} {L : List MapEntry} {j : Nat} {e : MapEntry}, renM ρ es = some L → L[j]? = some e → ∃ k v, (k, v, e.born) ∈ es ∧ ren ρ k = some e.key ∧ ren ρ v = some e.val := fun h hj => by
  obtain ⟨k, v, h1, h2, h3⟩ := renM_get h hj
  exact ⟨k, v, List.mem_of_getElem? h1, h2, h3⟩
theorem nextK_spec {it : Operand} {isString : Bool} {k : AV → Mem → Nat → Bool} (h : nextK T fr M nx it isString k = true) (s : Rel T c ρ fr ds M nx a w) : Eff P c ρ a w (.next it isString) k := by
  obtain ⟨v, r, h1, h2⟩ := argK_spec h s
  clear h
  cases v <;> try (cases h2; done)
  rename_i i o
  cases o <;> try (cases h2; done)
  obtain ⟨ck, h3, g⟩ := opt_rec (show (Option.rec false (fun ck : Ck => match ck with
    | .sit l pos => Bool.rec false (Option.rec (k (.tup [.bool false]) M nx) (fun b => both (Nat.blt b 128) (forceN (Nat.succ pos) fun pos' => turnK M nx i (.sit l pos') (k (.tup [.bool true, .int .i64 (.ofNat pos), .int .i32 (.ofNat b)])))) (nth l pos)) isString
    | .mnil => Bool.rec (k (.tup [.bool false]) M nx) false isString
    | .mit m since seen last => Bool.rec (Option.rec false (fun ck' => match ck' with
      | .map es cl => stepMapK M nx i m since seen last es cl k
      | _ => false) (M.get m)) false isString
    | _ => false) (M.get i) : Bool) = true from h2)
  clear h2
  obtain ⟨e, he, hsh, _⟩ := s.rep.own _ _ h3
  have e1 := h1.ren
  simp only [ren, he, Option.map_some, Option.some.injEq] at e1
  have over : k (.tup [.bool false]) M nx = true → (∀ o : Oper, o.op = .next it isString → (execOp a.eval o).run P w = .ok (.value (.tuple #[.bool false])) w) → Eff P c ρ a w (.next it isString) k := fun hk hr =>
    ⟨.tup [.bool false], .tuple #[.bool false], ρ, M, w, _, .refl ρ, rfl, by rw [s.nx]; exact hk, s.rep, .refl w, .inl rfl, hr⟩
  cases ck with
  | sit l pos =>
    obtain ⟨hs, hb, h0⟩ := hsh
    rw [h0] at e1
    subst e1
    have hg : (getObj e.1).run P w = .ok (.stringIter ⟨⟨l.map UInt8.ofNat⟩⟩ pos) w := by simp [getObj, Sem.run, hb]
    cases isString with
    | false => cases g
    | true =>
      have g : (Option.rec (k (.tup [.bool false]) M nx) (fun b => both (Nat.blt b 128) (forceN (Nat.succ pos) fun pos' => turnK M nx i (.sit l pos') (k (.tup [.bool true, .int .i64 (.ofNat pos), .int .i32 (.ofNat b)])))) (nth l pos) : Bool) = true := g
      rw [nth_eq] at g
      cases hp : l[pos]? with
      | none =>
        rw [hp] at g
        refine over g ?_
        rintro ⟨d, op', ty, p, af, gg⟩ rfl
        have hle : ¬ pos < l.length := by simpa using hp
        have hsz : ¬ pos < (⟨⟨l.map UInt8.ofNat⟩⟩ : ByteArray).size := by simpa [ByteArray.size] using hle
        simp only [execOp, Instr.next, h1.eval, Sem.run_bind, hg, Result.andThen_ok, if_neg hsz, Sem.run_pure]
      | some b =>
        rw [hp] at g
        obtain ⟨hb128, g⟩ := both_eq.1 (show both (Nat.blt b 128) (forceN (Nat.succ pos) fun pos' => turnK M nx i (.sit l pos') (k (.tup [.bool true, .int .i64 (.ofNat pos), .int .i32 (.ofNat b)]))) = true from g)
        rw [Nat.blt_eq] at hb128
        rw [forceN_eq] at g
        obtain ⟨M', k1, k2⟩ := turnK_spec (w' := w.putObj e.1 (.stringIter ⟨⟨l.map UInt8.ofNat⟩⟩ (pos + 1))) g s h3 rfl rfl he (fun b hne => World.putObj_heap_other hne) (by
          rw [World.putObj_heap_same (mem_lt (w := w) hb)]; exact ⟨hs, rfl, h0⟩)
        refine ⟨_, .tuple #[.bool true, .int .i64 pos, .int .i32 b], ρ, M', _, _, .refl ρ, by simp [ren, renL], k1, k2, .putObj _ _ _, .inl rfl, ?_⟩
        rintro ⟨d, op', ty, p, af, gg⟩ rfl
        have hlt := (List.getElem?_eq_some_iff.1 hp).1
        have hset : ∀ o, (setObj e.1 o).run P w = .ok () (w.putObj e.1 o) := fun o => by simp [setObj, Sem.run, hb, World.putObj]
        have hsz : pos < (⟨⟨l.map UInt8.ofNat⟩⟩ : ByteArray).size := by simpa [ByteArray.size] using hlt
        simp only [execOp, Instr.next, h1.eval, Sem.run_bind, hg, Result.andThen_ok, if_pos hsz, decode_ascii hs hp hb128, hset, Sem.run_pure]
        rfl
  | mnil =>
    obtain ⟨hb, h0⟩ := hsh
    rw [h0] at e1
    subst e1
    have hg : (getObj e.1).run P w = .ok (.mapIter none 0 #[] 0) w := by simp [getObj, Sem.run, hb]
    cases isString with
    | true => cases g
    | false =>
      refine over g ?_
      rintro ⟨d, op', ty, p, af, gg⟩ rfl
      simp only [execOp, Instr.next, h1.eval, Sem.run_bind, hg, Result.andThen_ok, Sem.run_pure]
  | mit m since seen last =>
    obtain ⟨em, hem, hb, h0⟩ := hsh
    rw [h0] at e1
    subst e1
    have hg : (getObj e.1).run P w = .ok (.mapIter (some em.1) since ⟨seen⟩ last) w := by simp [getObj, Sem.run, hb]
    cases isString with
    | true => cases g
    | false =>
      obtain ⟨ck', h5, g6⟩ := opt_rec (show (Option.rec false (fun ck' : Ck => match ck' with
        | .map es cl => stepMapK M nx i m since seen last es cl k
        | _ => false) (M.get m) : Bool) = true from g)
      cases ck' <;> try (cases g6; done)
      rename_i es cl
      obtain ⟨em', hem', ⟨L, hL, hbm⟩, _⟩ := s.rep.own _ _ h5
      rw [hem] at hem'; cases hem'
      have hgm := run_getMap (P := P) hbm
      obtain ⟨g7, g8⟩ := both_eq.1 g6
      rw [leftA_eq] at g8
      have hbad : (!(⟨seen⟩ : Array Nat).isEmpty && !(⟨L⟩ : Array MapEntry).isEmpty && (⟨L⟩ : Array MapEntry).all fun x => decide (x.born ≥ last)) = false := by
        rw [notB_eq] at g7
        have e3 : (⟨L⟩ : Array MapEntry).all (fun x => decide (x.born ≥ last)) = es.all fun e => Nat.ble last e.2.2 := by
          have := renM_all (fun b => Nat.ble last b) hL
          rw [← this]
          show L.toArray.all _ = _
          rw [List.all_toArray]
          congr 1
          funext x
          rw [Bool.eq_iff_iff, decide_eq_true_iff, Nat.ble_eq]
        have e4 : (⟨L⟩ : Array MapEntry).isEmpty = isEmp es := by
          rw [isEmp_eq]; have := renM_len hL
          show L.toArray.isEmpty = _
          rw [List.isEmpty_toArray]; cases L <;> cases es <;> simp at this ⊢
        have e5 : (⟨seen⟩ : Array Nat).isEmpty = isEmp seen := by
          rw [isEmp_eq]
          show seen.toArray.isEmpty = _
          rw [List.isEmpty_toArray]
        rw [e3, e4, e5, ← allL_eq]
        rw [notB_eq, notB_eq] at g7
        cases hA : isEmp seen <;> cases hB : isEmp es <;> cases hC : allL (fun e : AV × AV × Nat => Nat.ble last e.2.2) es <;> simp [hA, hB, hC, both] at g7 ⊢
      have hleft := renM_filter (fun b => !seen.contains b) hL
      have eleft : (⟨L⟩ : Array MapEntry).filter (fun e => !(⟨seen⟩ : Array Nat).contains e.born) = ⟨L.filter fun e => !seen.contains e.born⟩ := by
        apply Array.toList_inj.1; simp
      cases hle : es.filter (fun e => !seen.contains e.2.2) with
      | nil =>
        rw [hle] at g8
        rw [hle] at hleft
        have hL0 : L.filter (fun e => !seen.contains e.born) = [] := List.length_eq_zero_iff.1 (renM_len hleft)
        refine over g8 ?_
        rintro ⟨d, op', ty, p, af, gg⟩ rfl
        have hc : (choose (.mapNext 1)).run P w = .ok 0 w := by simp [choose, Sem.run, Question.forced]
        have e6 : (⟨[]⟩ : Array MapEntry).filter (fun e => decide (e.born < since)) = #[] := by simp
        have e7 : (⟨[]⟩ : Array MapEntry).filter (fun e => decide (e.born ≥ since)) = #[] := by simp
        have e8 : ((if (#[] : Array MapEntry).isEmpty = true then (#[none] : Array (Option MapEntry)) else #[]) ++ ((#[] : Array MapEntry) ++ #[]).map some) = #[none] := by simp
        simp only [execOp, Instr.next, h1.eval, Sem.run_bind, hg, hgm, Result.andThen_ok, hbad, eleft, hL0, Bool.false_eq_true, if_false, Sem.run_pure, e6, e7, e8]
        have e9 : (#[none] : Array (Option MapEntry)).size = 1 := rfl
        have e10 : (#[none] : Array (Option MapEntry))[0]? = some none := rfl
        simp only [e9, hc, Result.andThen_ok, e10, Sem.run_pure]
      | cons x t =>
        rw [hle] at g8 hleft
        have g9 : allL (oneOf M nx i m since seen cl k) (x :: t) = true := g8
        obtain ⟨L', hL'⟩ : ∃ L', L' = L.filter fun e => !seen.contains e.born := ⟨_, rfl⟩
        rw [← hL'] at hleft eleft
        have hlen := renM_len hleft
        have hold : L'.toArray.filter (fun e => decide (e.born < since)) = L'.toArray := by
          apply Array.toList_inj.1
          simp only [List.filter_toArray]
          rw [List.filter_eq_self]
          intro en hen
          obtain ⟨j, hj, hje⟩ := List.mem_iff_getElem.1 hen
          obtain ⟨key, v, hm, _, _⟩ := renM_at hleft (j := j) (e := en) (by rw [List.getElem?_eq_getElem hj, hje])
          obtain ⟨q1, _⟩ := both_eq.1 (show both (Nat.blt en.born since) _ = true from allL_spec g9 _ hm)
          rw [Nat.blt_eq] at q1
          simpa using q1
        have hnew : L'.toArray.filter (fun e => decide (e.born ≥ since)) = #[] := by
          apply Array.toList_inj.1
          simp only [List.filter_toArray]
          show L'.filter _ = []
          rw [List.filter_eq_nil_iff]
          intro en hen
          obtain ⟨j, hj, hje⟩ := List.mem_iff_getElem.1 hen
          obtain ⟨key, v, hm, _, _⟩ := renM_at hleft (j := j) (e := en) (by rw [List.getElem?_eq_getElem hj, hje])
          obtain ⟨q1, _⟩ := both_eq.1 (show both (Nat.blt en.born since) _ = true from allL_spec g9 _ hm)
          rw [Nat.blt_eq] at q1
          simp; omega
        have hpos : 0 < L'.length := by rw [hlen]; simp
        have hne : L'.toArray.isEmpty = false := by rw [List.isEmpty_toArray]; cases L' <;> simp at hpos ⊢
        obtain ⟨idx, w1, hch, hidx, hw1⟩ := run_choose (P := P) (w := w) hpos
        obtain ⟨en, hen⟩ : ∃ en, L'[idx]? = some en := ⟨L'[idx], List.getElem?_eq_getElem hidx⟩
        obtain ⟨key, v, hm, hk1, hv1⟩ := renM_at hleft hen
        obtain ⟨_, q2⟩ := both_eq.1 (show both (Nat.blt en.born since) (appL seen [en.born] fun seen' => turnK M nx i (.mit m since seen' cl) (k (.tup [.bool true, key, v]))) = true from allL_spec g9 _ hm)
        rw [appL_eq] at q2
        have hheap : w1.heap = w.heap := by rcases hw1 with hw1 | hw1 <;> rw [hw1]
        have hsame1 : Same w w1 := by
          rcases hw1 with hw1 | hw1 <;> rw [hw1]
          · exact .refl w
          · exact ⟨rfl, rfl, rfl, Nat.le_refl _⟩
        have s1 : Rel T { c with w0 := w1 } ρ fr ds M nx a w1 := ⟨s.size, s.slots, s.dfs, s.rep.heap (by intro b o hb; show w1.heap[b]? = _; rw [hheap]; exact hb), s.nx, .refl w1, s.glob⟩
        have hb1 : w1.heap[e.1]? = some (.mapIter (some em.1) since ⟨seen⟩ last) := by rw [hheap]; exact hb
        obtain ⟨M', k1, k2⟩ := turnK_spec (w' := w1.putObj e.1 (.mapIter (some em.1) since ⟨seen ++ [en.born]⟩ cl)) q2 s1 h3 rfl rfl he (fun b hne => World.putObj_heap_other hne) (by
          rw [World.putObj_heap_same (mem_lt (w := w1) hb1)]; exact ⟨em, hem, rfl, h0⟩)
        refine ⟨_, .tuple #[.bool true, en.key, en.val], ρ, M', _, _, .refl ρ, by simp [ren, renL, hk1, hv1], k1, k2, hsame1.trans (.putObj _ _ _), .inl rfl, ?_⟩
        rintro ⟨d, op', ty, p, af, gg⟩ rfl
        have hset : ∀ o, (setObj e.1 o).run P w1 = .ok () (w1.putObj e.1 o) := fun o => by simp [setObj, Sem.run, hb1, World.putObj]
        have hcand : ((if (L'.toArray.filter fun e => decide (e.born < since)).isEmpty = true then (#[none] : Array (Option MapEntry)) else #[]) ++ ((L'.toArray.filter fun e => decide (e.born < since)) ++ (L'.toArray.filter fun e => decide (e.born ≥ since))).map some) = L'.toArray.map some := by
          rw [hold, hnew, hne]; simp
        simp only [execOp, Instr.next, h1.eval, Sem.run_bind, hg, hgm, Result.andThen_ok, hbad, eleft]
        have e9 : ((⟨L'⟩ : Array MapEntry).map some).size = L'.length := by simp
        have hcand' := hcand
        simp only [show L'.toArray = (⟨L'⟩ : Array MapEntry) from rfl] at hcand'
        simp only [Bool.false_eq_true, if_false, Sem.run_pure, Result.andThen_ok, hcand', e9]
        rw [Sem.run_bind, hch]
        simp only [Result.andThen_ok]
        have e10 : ((⟨L'⟩ : Array MapEntry).map some)[idx]? = some (some en) := by simp [hen]
        simp only [e10, Sem.run_bind]
        have e11 : (⟨seen⟩ : Array Nat).push en.born = ⟨seen ++ [en.born]⟩ := by apply Array.toList_inj.1; simp
        rw [e11]
        simp [hset]
  | _ => cases g
end
end Go.Ev
