/- The evaluator, parts K L M N O P Q R. -/
import Derived.Test.YtabbonafljochaaGreatDoorEvJ
set_option linter.unusedSimpArgs false
set_option linter.unusedVariables false
namespace Go.Ev
open Go.Sl
noncomputable section
variable {P : Program} {T : Tabs P} {c : Cn} {ρ : Env} {fr : Tr AV} {ds : List AD} {M : Mem} {nx : Nat} {a : Act} {w : World}

/-- The operation leaves one of these, and k is content. -/
def Eff (P : Program) (c : Cn) (ρ : Env) (a : Act) (w : World) (op : Op) (k : AV → Mem → Nat → Bool) : Prop :=
  ∃ v r ρ' M' w' n, Ext ρ ρ' ∧ ren ρ' v = some r ∧ k v M' ρ'.length = true ∧ Rep ρ' M' c.hF w' ∧ Same w w' ∧ (n = Next.value r ∨ (n = .skip ∧ r = undef)) ∧ ∀ o : Oper, o.op = op → (execOp a.eval o).run P w = .ok n w'
theorem Yes.eff {W : World → Prop} {op : Op} {k : AV → Mem → Nat → Bool} (s : Rel T c ρ fr ds M nx a w) (h : Yes P ρ a W op fun v => k v M nx) (hW : W w) : Eff P c ρ a w op k := by
  obtain ⟨v, r, h1, h2, h3⟩ := h
  refine ⟨v, r, ρ, M, w, .value r, .refl ρ, h1, by rw [s.nx]; exact h2, s.rep, .refl w, .inl rfl, ?_⟩
  rintro ⟨d, op', ty, pos, af, g⟩ rfl
  exact yrun (h3 w hW ty) d pos af g

/-! ### new blocks -/
def newK (M : Mem) (nx : Nat) (ck : Ck) (k : Mem → Nat → Bool) : Bool := M.set nx ck fun M' => forceN (Nat.succ nx) fun n => k M' n
theorem newK_spec {ck : Ck} {k : Mem → Nat → Bool} (h : newK M nx ck k = true) (s : Rel T c ρ fr ds M nx a w) {κ : Nat} {o : Obj} {w' : World} (hw' : w' = w.alloc o ∨ w' = w.drew.alloc o) (ho : ck.own = true) (hs : Sh (ρ ++ [(w.heap.size, 0, κ)]) c.hF (w.heap.size, 0, κ) (some o) ck) :
    ∃ M', k M' (ρ ++ [(w.heap.size, 0, κ)]).length = true ∧ Rep (ρ ++ [(w.heap.size, 0, κ)]) M' c.hF w' ∧ Same w w' := by
  obtain ⟨M', h1, h2⟩ := Tr.set_spec h
  rw [forceN_eq] at h2
  have hle : le (mem w) (mem w') := by
    rcases hw' with rfl | rfl
    · exact le_alloc w o
    · exact le_alloc w.drew o
  have hnew : w'.heap[w.heap.size]? = some o := by
    rcases hw' with rfl | rfl
    · exact World.alloc_heap_new w o
    · exact World.alloc_heap_new w.drew o
  have hsame : Same w w' := by
    rcases hw' with rfl | rfl
    · exact .alloc w o
    · exact ⟨rfl, rfl, rfl, by simp⟩
  refine ⟨M', by rw [Env.length_app, s.nx]; exact h2, ?_, hsame⟩
  rw [← s.nx] at h1
  exact s.rep.add h1 ho (by simp) hle (by rw [hnew]; exact hs)
theorem ren_new {κ : Nat} {b : Nat} : ren (ρ ++ [(b, 0, κ)]) (.ptr ρ.length 0) = some (.pointer (some ⟨b, 0, none⟩)) := by simp [ren]
theorem row_new {κ : Nat} {t s : TypeId} {l : List AV} {vs : List Value} {b : Nat} (hl : RL ρ l vs) (h1 : allL one l = true) {ex : List Value} (hx : κ * s ≤ ex.length) : rowIs (ρ ++ [(b, 0, κ)]) (b, 0, κ) (some (.cells ⟨vs ++ ex⟩ t (0, 0))) t s l 0 :=
  ⟨[], vs, ex, (0, 0), hl.ext (Ext.one _ _), by simp, rfl, hx, .inr (.inl (Nat.le_refl _)), h1⟩
theorem sh_new {hF : Hp} {b t sz : Nat} {l : List AV} {cs : Array Value} (hz : RL ρ l cs.toList) (h1 : allL one l = true) : Sh (ρ ++ [(b, 0, 0)]) hF (b, 0, 0) (some (.cells cs t)) (.row t sz l 0) := by
  have h := row_new (κ := 0) (t := t) (s := sz) (b := b) hz h1 (ex := []) (by simp)
  rw [List.append_nil] at h
  exact h
theorem run_newVar {t : TypeId} {v : Value} : (newVar t v).run P w = .ok ⟨w.heap.size, 0, none⟩ (w.alloc (.cells v.cells t)) := by simp [newVar, run_newRow]
def allocK (P : Program) (M : Mem) (nx : Nat) (t : TypeId) (k : AV → Mem → Nat → Bool) : Bool := zeroK P t fun z => both (allL one (cellsA z)) (newK M nx (.row t 0 (cellsA z) 0) (k (.ptr nx 0)))
theorem allocK_spec {t : TypeId} {k : AV → Mem → Nat → Bool} (h : allocK P M nx t k = true) (s : Rel T c ρ fr ds M nx a w) : Eff P c ρ a w (.alloc t) k := by
  obtain ⟨z, h1, h2⟩ := opt_rec h
  obtain ⟨z', z1, z2, _⟩ := zeroA_spec h1 ρ
  obtain ⟨h3, h2⟩ := both_eq.1 h2
  have hz := cellsA_spec z2
  obtain ⟨M', g1, g2, g3⟩ := newK_spec (κ := 0) (o := .cells z'.cells t) h2 s (.inl rfl) rfl (sh_new hz h3)
  refine ⟨.ptr nx 0, .pointer (some ⟨w.heap.size, 0, none⟩), _, M', _, _, Ext.one _ _, by rw [← s.nx]; exact ren_new, g1, g2, g3, .inl rfl, ?_⟩
  rintro ⟨d, op', ty, pos, af, g⟩ rfl
  simp [execOp, Instr.alloc, run_zeroV z1, run_newVar]
def boxK (T : Tabs P) (fr : Tr AV) (M : Mem) (nx : Nat) (t : TypeId) (x : Operand) (k : AV → Mem → Nat → Bool) : Bool := argK T fr x fun z => both (allL one (cellsA z)) (newK M nx (.row t 0 (cellsA z) 0) (k (.ptr nx 0)))
theorem boxK_spec {t : TypeId} {x : Operand} {k : AV → Mem → Nat → Bool} (h : boxK T fr M nx t x k = true) (s : Rel T c ρ fr ds M nx a w) : Eff P c ρ a w (.box t x) k := by
  obtain ⟨z, z', h1, h2⟩ := argK_spec h s
  obtain ⟨h3, h2⟩ := both_eq.1 h2
  have hz := cellsA_spec h1.ren
  obtain ⟨M', g1, g2, g3⟩ := newK_spec (κ := 0) (o := .cells z'.cells t) h2 s (.inl rfl) rfl (sh_new hz h3)
  refine ⟨.ptr nx 0, .pointer (some ⟨w.heap.size, 0, none⟩), _, M', _, _, Ext.one _ _, by rw [← s.nx]; exact ren_new, g1, g2, g3, .inl rfl, ?_⟩
  rintro ⟨d, op', ty, pos, af, g⟩ rfl
  simp [execOp, Instr.box, h1.eval, run_newVar]
theorem ren_newSl {κ : Nat} {b n cc : Nat} {sb : Bool} : ren (ρ ++ [(b, 0, κ)]) (.sl ρ.length 0 n cc sb) = some (.slice (some ⟨b, 0, none⟩) n (cc + cond sb κ 0)) := by simp [ren]
def makeMapK (T : Tabs P) (fr : Tr AV) (M : Mem) (nx : Nat) (t : TypeId) (r : Option Operand) (k : AV → Mem → Nat → Bool) : Bool := Option.rec (newK M nx (.map [] 0) (k (.map nx))) (fun x => argK T fr x fun v => match v with
  | .int _ _ => Option.rec false (fun r => match r with
    | ⟨.map _ _, _, _⟩ => newK M nx (.map [] 0) (k (.map nx))
    | _ => false) (T.T t)
  | _ => false) r
theorem makeMapK_spec {t : TypeId} {r : Option Operand} {k : AV → Mem → Nat → Bool} (h : makeMapK T fr M nx t r k = true) (s : Rel T c ρ fr ds M nx a w) : Eff P c ρ a w (.makeMap t r) k := by
  have key : newK M nx (.map [] 0) (k (.map nx)) = true → (∀ o : Oper, o.op = .makeMap t r → (execOp a.eval o).run P w = .ok (.value (.map (some w.heap.size))) (w.alloc (.map #[] 0))) → Eff P c ρ a w (.makeMap t r) k := fun h2 hr => by
    obtain ⟨M', g1, g2, g3⟩ := newK_spec (κ := 0) (o := .map #[] 0) h2 s (.inl rfl) rfl ⟨[], rfl, rfl⟩
    exact ⟨.map nx, .map (some w.heap.size), _, M', _, _, Ext.one _ _, by rw [← s.nx]; simp [ren], g1, g2, g3, .inl rfl, hr⟩
  have hn : (newObj (.map #[] 0)).run P w = .ok w.heap.size (w.alloc (.map #[] 0)) := rfl
  cases r with
  | none =>
    refine key h ?_
    rintro ⟨d, op', ty, pos, af, g⟩ rfl
    simp [execOp, Instr.makeMap, hn]
  | some x =>
    obtain ⟨v, r, h1, h2⟩ := argK_spec h s
    cases v <;> try (cases h2; done)
    rename_i kd n
    obtain rfl : r = .int kd n := by simpa [ren] using h1.ren.symm
    obtain ⟨⟨d, z, b⟩, h3, h2⟩ := opt_rec h2
    cases d <;> try (cases h2; done)
    have ht := (T.okT _ _ h3).td
    refine key h2 ?_
    rintro ⟨d, op', ty, pos, af, g⟩ rfl
    simp [execOp, Instr.makeMap, hn, h1.eval, run_underlying ht, asInt, asIntOf]
/-- So many rows of these cells, and these behind them. -/
def repApp (zl : List AV) (n : Nat) : List AV → (List AV → Bool) → Bool := Nat.rec (fun l k => k l) (fun _ ih l k => appL zl l fun l' => ih l' k) n
theorem repApp_eq (zl : List AV) : ∀ (n : Nat) (l : List AV) (k : List AV → Bool), repApp zl n l k = k ((List.replicate n zl).flatten ++ l)
  | 0, l, k => rfl
  | n + 1, l, k => by
    show appL zl l (fun l' => repApp zl n l' k) = _
    rw [appL_eq, repApp_eq zl n, List.replicate_succ']
    simp
theorem all_rep {zl : List AV} (h : allL one zl = true) (n : Nat) : allL one (List.replicate n zl).flatten = true := by
  have key : ∀ {l : List AV}, (∀ x ∈ l, one x = true) → allL one l = true := by
    intro l
    induction l with
    | nil => intro _; rfl
    | cons x l ih =>
      intro hx
      show both (one x) (allL one l) = true
      exact both_eq.2 ⟨hx x (by simp), ih fun y hy => hx y (by simp [hy])⟩
  refine key fun x hx => ?_
  obtain ⟨l, hl, hx'⟩ := List.mem_flatten.1 hx
  obtain ⟨_, rfl⟩ := List.mem_replicate.1 hl
  exact allL_spec h x hx'
def makeSlK (P : Program) (T : Tabs P) (fr : Tr AV) (M : Mem) (nx : Nat) (t : TypeId) (l cp : Operand) (k : AV → Mem → Nat → Bool) : Bool := argK T fr l fun v => argK T fr cp fun u => match v with
  | .int _ (.ofNat n) => (match u with
    | .int _ (.ofNat m) => Option.rec false (fun r => match r with
      | ⟨.sl e, _, _⟩ => Option.rec false (fun q => zeroK P e fun z => both (allL one (cellsA z)) (both (Nat.ble n m) (both (Nat.ble (Nat.mul q.bytes m) 281474976710656) (both (Nat.ble m 9223372036854775807) (lenL (cellsA z) 0 fun j => both (Nat.beq j q.size)
          (repApp (cellsA z) m [] fun cells => newK M nx (.row e q.size cells 0) (k (.sl nx 0 n m false)))))))) (T.T e)
      | _ => false) (T.T t)
    | _ => false)
  | _ => false
theorem makeSlK_spec {t : TypeId} {l cp : Operand} {k : AV → Mem → Nat → Bool} (h : makeSlK P T fr M nx t l cp k = true) (s : Rel T c ρ fr ds M nx a w) : Eff P c ρ a w (.makeSlice t l cp) k := by
  obtain ⟨v, r1, h1, g0⟩ := argK_spec h s
  obtain ⟨u, r2, h2, g⟩ := argK_spec g0 s
  clear g0 h
  cases v <;> try (cases g; done)
  rename_i k1 n
  cases n <;> try (cases g; done)
  rename_i n
  cases u <;> try (cases g; done)
  rename_i k2 m
  cases m <;> try (cases g; done)
  rename_i m
  obtain rfl : r1 = .int k1 n := by simpa [ren] using h1.ren.symm
  obtain rfl : r2 = .int k2 m := by simpa [ren] using h2.ren.symm
  obtain ⟨⟨d, sz, b⟩, h3, g⟩ := opt_rec g
  cases d <;> try (cases g; done)
  rename_i e
  have ht := (T.okT _ _ h3).td
  obtain ⟨q, h4, g⟩ := opt_rec g
  obtain ⟨z, h5, g⟩ := opt_rec g
  obtain ⟨z', z1, z2, z3⟩ := zeroA_spec h5 ρ
  obtain ⟨c1, g⟩ := both_eq.1 g
  obtain ⟨c2, g⟩ := both_eq.1 g
  obtain ⟨c3, g⟩ := both_eq.1 g
  obtain ⟨c4, g⟩ := both_eq.1 g
  rw [lenL_eq] at g
  obtain ⟨c5, g⟩ := both_eq.1 g
  rw [repApp_eq] at g
  have c2 := Nat.le_of_ble_eq_true c2
  have c3 : q.bytes * m ≤ 281474976710656 := Nat.le_of_ble_eq_true c3
  have c4 := Nat.le_of_ble_eq_true c4
  have c5 := Nat.eq_of_beq_eq_true c5
  have hz := cellsA_spec z2
  have hzl : z'.cells.toList.length = q.size := by rw [hz.length]; exact c5
  obtain ⟨i, hi, hsz⟩ := Option.map_eq_some_iff.1 (T.okT _ _ h4).size
  obtain ⟨i', hi', hby⟩ := Option.map_eq_some_iff.1 (T.okT _ _ h4).bytes
  rw [hi] at hi'; cases hi'
  have hiz : i.zero = some z' := by unfold zeroV at z1; rw [hi] at z1; exact z1
  have hbi : (i.bytes : Int) * (m : Int) ≤ 281474976710656 := by rw [hby, ← Int.natCast_mul]; omega
  have hrun := run_make (P := P) w t e i z' ht hi hiz k1 k2 n m (by omega) (by omega) hbi (by omega)
  have hcells : madeCells z'.cells (m * i.size) = ⟨(List.replicate m z'.cells.toList).flatten⟩ := by
    rw [hsz, ← hzl]
    by_cases h0 : 0 < z'.cells.toList.length
    · exact Array.toList_inj.1 (made_flat z'.cells.toList h0 m)
    · have : z'.cells.toList = [] := List.length_eq_zero_iff.1 (by omega)
      rw [this]; simp [madeCells]
  rw [List.append_nil] at g
  obtain ⟨M', g1, g2, g3⟩ := newK_spec (κ := 0) (o := .cells (madeCells z'.cells (m * i.size)) e) g s (.inl rfl) rfl (by
    rw [hcells]
    exact sh_new (hz.flat m) (all_rep c1 m))
  refine ⟨.sl nx 0 n m false, .slice (some ⟨w.heap.size, 0, none⟩) n m, _, M', _, _, Ext.one _ _, by rw [← s.nx]; exact ren_newSl, g1, g2, g3, .inl rfl, ?_⟩
  rintro ⟨d, op', ty, pos, af, gg⟩ rfl
  simp only [execOp, h1.eval, h2.eval, Sem.run_bind]
  rw [hrun]; rfl

/-! ### a block that turns -/
def turnK (M : Mem) (nx : Nat) (i : Nat) (ck : Ck) (k : Mem → Nat → Bool) : Bool := M.set i ck fun M' => k M' nx
theorem turnK_spec {i : Nat} {ck ck' : Ck} {k : Mem → Nat → Bool} {e : Nat × Nat × Nat} (h : turnK M nx i ck' k = true) (s : Rel T c ρ fr ds M nx a w) (hi : M.get i = some ck) (ho : ck.own = true) (ho' : ck'.own = true) (he : ρ[i]? = some e) {w' : World}
    (hw : ∀ b, b ≠ e.1 → w'.heap[b]? = w.heap[b]?) (hs : Sh ρ c.hF e (w'.heap[e.1]?) ck') : ∃ M', k M' ρ.length = true ∧ Rep ρ M' c.hF w' := by
  obtain ⟨M', h1, h2⟩ := Tr.set_spec h
  refine ⟨M', by rw [s.nx]; exact h2, s.rep.turn hi ho he h1 ho' (fun b o hb => ?_) hs⟩
  unfold but at hb
  split at hb
  · cases hb
  · rename_i hne
    show w'.heap[b]? = some o
    rw [hw b hne]; exact hb

/-! ### stores -/
def spliceK (l : List AV) (o : Nat) (cells : List AV) (size : Nat) (k : List AV → Bool) : Bool :=
  List.rec (lenL cells 0 fun n => both (Nat.beq n size) (splitL l o fun A B => splitL B size fun _ C => appL cells C fun D => appL A D k))
    (fun x t _ => List.rec (both (Nat.beq size 1) (setL l x o k)) (fun _ _ _ => lenL cells 0 fun n => both (Nat.beq n size) (splitL l o fun A B => splitL B size fun _ C => appL cells C fun D => appL A D k)) t) cells
theorem spliceK_spec {l cells : List AV} {o size : Nat} {k : List AV → Bool} (h : spliceK l o cells size k = true) : cells.length = size ∧ o + cells.length ≤ l.length ∧ k (l.take o ++ (cells ++ l.drop (o + cells.length))) = true := by
  have big : (lenL cells 0 fun n => both (Nat.beq n size) (splitL l o fun A B => splitL B size fun _ C => appL cells C fun D => appL A D k)) = true → cells.length = size ∧ o + cells.length ≤ l.length ∧ k (l.take o ++ (cells ++ l.drop (o + cells.length))) = true := fun h => by
    rw [lenL_eq] at h
    obtain ⟨h1, h⟩ := both_eq.1 h
    obtain ⟨h2, h⟩ := splitL_spec h
    obtain ⟨h3, h⟩ := splitL_spec h
    rw [appL_eq, appL_eq] at h
    have h1 := Nat.eq_of_beq_eq_true h1
    rw [List.length_drop] at h3
    refine ⟨h1, by omega, ?_⟩
    rw [h1, ← List.drop_drop]; exact h
  match cells, h with
  | [], h => exact big h
  | [x], h =>
    obtain ⟨h1, h⟩ := both_eq.1 (show both (Nat.beq size 1) (setL l x o k) = true from h)
    obtain ⟨h2, h⟩ := setL_spec h
    have h1 := Nat.eq_of_beq_eq_true h1
    refine ⟨by simp [h1], by simp; omega, ?_⟩
    have : l.take o ++ ([x] ++ l.drop (o + 1)) = l.set o x := by rw [List.set_eq_take_append_cons_drop, if_pos h2]; simp
    show k (l.take o ++ ([x] ++ l.drop (o + 1))) = true
    rw [this]; exact h
  | x :: y :: t, h => exact big h
def storeK (T : Tabs P) (fr : Tr AV) (M : Mem) (nx : Nat) (t : TypeId) (x y : Operand) (k : AV → Mem → Nat → Bool) : Bool := argK T fr x fun v => argK T fr y fun u => match v with
  | .ptr i o => Option.rec false (fun ck => match ck with
    | .row t' sz l fz => Option.rec false (fun r => both (Nat.ble fz o) (both (allL one (cellsA u)) (spliceK l o (cellsA u) r.size fun l' => turnK M nx i (.row t' sz l' fz) (k (.tup []))))) (T.T t)
    | _ => false) (M.get i)
  | _ => false
theorem frz_free {fz : Nat × Nat} {n o m z : Nat} (h : frz fz n z) (ho : n ≤ o) (hm : o + m ≤ z) : free fz o m = true := by
  unfold frz at h
  simp only [free, Bool.or_eq_true, Nat.ble_eq]
  omega
theorem allL_mk {p : AV → Bool} : ∀ {l : List AV}, (∀ x ∈ l, p x = true) → allL p l = true
  | [], _ => rfl
  | x :: l, h => both_eq.2 ⟨h x (by simp), allL_mk fun y hy => h y (by simp [hy])⟩
theorem one_all : ∀ {l : List AV} {vs : List Value}, RL ρ l vs → allL one l = true → ∀ u ∈ vs, u.oneCell' = true
  | [], vs, h, h1 => by rw [h.outNil]; simp
  | v :: l, vs, h, h1 => by
    obtain ⟨r, rs, rfl, h2, h3⟩ := h.out
    obtain ⟨g1, g2⟩ := both_eq.1 (show both (one v) (allL one l) = true from h1)
    intro u hu
    rcases List.mem_cons.1 hu with rfl | hu
    · exact one_spec h2 g1
    · exact one_all h3 g2 u hu
/-- A row's cells from o on are written over. -/
theorem row_write {e : Nat × Nat × Nat} {t s : Nat} {l cells : List AV} {fz o : Nat} {us : List Value} (h : rowIs ρ e (w.heap[e.1]?) t s l fz) (hu : RL ρ cells us) (h1 : allL one cells = true) (hle : o + cells.length ≤ l.length) (hfz : fz ≤ o) :
    ∃ w', (storeCells ⟨e.1, e.2.1 + o, none⟩ us).run P w = .ok () w' ∧ Same w w' ∧ (∀ b, b ≠ e.1 → w'.heap[b]? = w.heap[b]?) ∧ rowIs ρ e (w'.heap[e.1]?) t s (l.take o ++ (cells ++ l.drop (o + cells.length))) fz := by
  obtain ⟨pre, vs, ex, fzr, a1, a2, a3, a4, a5, a6⟩ := h
  replace a5 := a5.resolve_left (by omega)
  have hul := hu.length
  have hvl := a1.length
  obtain ⟨w', r, r1, r2, r3⟩ := run_store_list (P := P) (o := e.2.1 + o) us 0 (pre ++ (vs ++ ex)) w a2 (by simp; omega) (frz_free a5 (by omega) (by simp; omega)) (one_all hu h1)
  refine ⟨w', r, r3, r2, pre, vs.take o ++ (us ++ vs.drop (o + us.length)), ex, fzr, (a1.take o).append (hu.append (by rw [hul]; exact a1.drop _)), ?_, a3, a4, ?_, ?_⟩
  · rw [r1]
    congr 2
    apply Array.toList_inj.1
    simp only [splice, Nat.add_zero]
    rw [← a3]
    rw [List.take_append, List.drop_append]
    rw [List.take_of_length_le (by omega), List.drop_of_length_le (by omega)]
    have e1 : pre.length + o - pre.length = o := by omega
    have e2 : pre.length + o + us.length - pre.length = o + us.length := by omega
    rw [e1, e2, List.take_append_of_le_length (by omega), List.drop_append_of_le_length (by omega)]
    simp
  · have : (pre ++ (vs.take o ++ (us ++ vs.drop (o + us.length)) ++ ex)).length = (pre ++ (vs ++ ex)).length := by
      simp only [List.length_append, List.length_take, List.length_drop]; omega
    rw [this]; exact .inr a5
  · refine allL_mk fun x hx => ?_
    rcases List.mem_append.1 hx with hx | hx
    · exact allL_spec a6 x (List.mem_of_mem_take hx)
    · rcases List.mem_append.1 hx with hx | hx
      · exact allL_spec h1 x hx
      · exact allL_spec a6 x (List.mem_of_mem_drop hx)
theorem storeK_spec {t : TypeId} {x y : Operand} {k : AV → Mem → Nat → Bool} (h : storeK T fr M nx t x y k = true) (s : Rel T c ρ fr ds M nx a w) : Eff P c ρ a w (.store t x y) k := by
  obtain ⟨v, r1, h1, g0⟩ := argK_spec h s
  obtain ⟨u, r2, h2, g⟩ := argK_spec g0 s
  clear g0 h
  cases v <;> try (cases g; done)
  rename_i i o
  obtain ⟨ck, h3, g⟩ := opt_rec (show (Option.rec false (fun ck : Ck => match ck with
    | .row t' sz l fz => Option.rec false (fun r => both (Nat.ble fz o) (both (allL one (cellsA u)) (spliceK l o (cellsA u) r.size fun l' => turnK M nx i (.row t' sz l' fz) (k (.tup []))))) (T.T t)
    | _ => false) (M.get i) : Bool) = true from g)
  cases ck <;> try (cases g; done)
  rename_i t' sz l fz
  obtain ⟨q, h4, g⟩ := opt_rec g
  obtain ⟨c1, g⟩ := both_eq.1 g
  obtain ⟨c2, g⟩ := both_eq.1 g
  obtain ⟨c3, c4, g⟩ := spliceK_spec g
  obtain ⟨e, he, hsh, _⟩ := s.rep.own _ _ h3
  have e1 := h1.ren
  simp only [ren, he, Option.map_some, Option.some.injEq] at e1
  subst e1
  have hc := cellsA_spec h2.ren
  obtain ⟨w', r0, r3, r2', r4⟩ := row_write (P := P) hsh hc c2 c4 (Nat.le_of_ble_eq_true c1)
  obtain ⟨M', k1, k2⟩ := turnK_spec g s h3 rfl rfl he r2' r4
  refine ⟨.tup [], undef, ρ, M', w', .skip, .refl ρ, rfl, k1, k2, r3, .inr ⟨rfl, rfl⟩, ?_⟩
  rintro ⟨d, op', ty, pos, af, gg⟩ rfl
  have hsz : tsize P t = some r2.cells.size := by
    rw [(T.okT _ _ h4).size, ← c3, ← hc.length]; simp
  simp [execOp, Instr.storeAt, h1.eval, h2.eval, Instr.sureAddr, storeVar, Sl.run_sizeOf hsz, r0]
end
end Go.Ev
set_option linter.unusedSimpArgs false
set_option linter.unusedVariables false
namespace Go.Ev
open Go.Sl
noncomputable section
variable {P : Program} {T : Tabs P} {c : Cn} {ρ : Env} {fr : Tr AV} {ds : List AD} {M : Mem} {nx : Nat} {a : Act} {w : World}

/-! ### maps -/
theorem renM_get : ∀ {es : List (AV × AV × Nat)} {L : List MapEntry} {j : Nat} {e : MapEntry}, renM ρ es = some L → L[j]? = some e → ∃ k v, es[j]? = some (k, v, e.born) ∧ ren ρ k = some e.key ∧ ren ρ v = some e.val
  | [], L, j, e, h, hj => by cases h; simp at hj
  | (k, v, b) :: es, L, j, e, h, hj => by
    simp only [renM, Option.bind_eq_some_iff, Option.map_eq_some_iff] at h
    obtain ⟨kr, hkr, vr, hvr, L', hL', rfl⟩ := h
    cases j with
    | zero => simp at hj; subst hj; exact ⟨k, v, rfl, hkr, hvr⟩
    | succ j => simpa using renM_get hL' (by simpa using hj)
theorem renM_set : ∀ {es : List (AV × AV × Nat)} {L : List MapEntry} (j : Nat) {x : AV × AV × Nat} {e : MapEntry}, renM ρ es = some L → ren ρ x.1 = some e.key → ren ρ x.2.1 = some e.val → x.2.2 = e.born → renM ρ (es.set j x) = some (L.set j e)
  | [], L, j, x, e, h, _, _, _ => by cases h; rfl
  | (k, v, b) :: es, L, j, x, e, h, h1, h2, h3 => by
    simp only [renM, Option.bind_eq_some_iff, Option.map_eq_some_iff] at h
    obtain ⟨kr, hkr, vr, hvr, L', hL', rfl⟩ := h
    obtain ⟨x1, x2, x3⟩ := x
    cases j with
    | zero => simp only [List.set_cons_zero, renM, Option.bind_eq_some_iff, Option.map_eq_some_iff]; exact ⟨_, h1, _, h2, L', hL', by simp only at h3; rw [h3]⟩
    | succ j => simp only [List.set_cons_succ, renM, Option.bind_eq_some_iff, Option.map_eq_some_iff]; exact ⟨_, hkr, _, hvr, _, renM_set j hL' h1 h2 h3, rfl⟩
theorem renM_append : ∀ {es : List (AV × AV × Nat)} {L : List MapEntry} {x : AV × AV × Nat} {e : MapEntry}, renM ρ es = some L → ren ρ x.1 = some e.key → ren ρ x.2.1 = some e.val → x.2.2 = e.born → renM ρ (es ++ [x]) = some (L ++ [e])
  | [], L, (x1, x2, x3), e, h, h1, h2, h3 => by cases h; simp only [List.nil_append, renM, Option.bind_eq_some_iff, Option.map_eq_some_iff]; exact ⟨_, h1, _, h2, [], rfl, by simp only at h3; rw [h3]⟩
  | (k, v, b) :: es, L, x, e, h, h1, h2, h3 => by
    simp only [renM, Option.bind_eq_some_iff, Option.map_eq_some_iff] at h
    obtain ⟨kr, hkr, vr, hvr, L', hL', rfl⟩ := h
    simp only [List.cons_append, renM, Option.bind_eq_some_iff, Option.map_eq_some_iff]
    exact ⟨_, hkr, _, hvr, _, renM_append hL' h1 h2 h3, rfl⟩
theorem renM_erase : ∀ {es : List (AV × AV × Nat)} {L : List MapEntry} (j : Nat), renM ρ es = some L → renM ρ (es.eraseIdx j) = some (L.eraseIdx j)
  | [], L, j, h => by cases h; rfl
  | (k, v, b) :: es, L, j, h => by
    simp only [renM, Option.bind_eq_some_iff, Option.map_eq_some_iff] at h
    obtain ⟨kr, hkr, vr, hvr, L', hL', rfl⟩ := h
    cases j with
    | zero => simpa using hL'
    | succ j => simp only [List.eraseIdx_cons_succ, renM, Option.bind_eq_some_iff, Option.map_eq_some_iff]; exact ⟨_, hkr, _, hvr, _, renM_erase j hL', rfl⟩
theorem modify_set {L : List MapEntry} {j : Nat} {e : MapEntry} (h : L[j]? = some e) (f : MapEntry → MapEntry) : (⟨L⟩ : Array MapEntry).modify j f = ⟨L.set j (f e)⟩ := by
  apply Array.toList_inj.1
  apply List.ext_getElem?
  intro i
  rw [Array.getElem?_toList, Array.getElem?_modify]
  by_cases hi : j = i
  · subst hi
    have hlt := (List.getElem?_eq_some_iff.1 h).1
    have : L[j] = e := (List.getElem?_eq_some_iff.1 h).2
    simp [hlt, this]
  · rw [if_neg hi]; simp [hi]
/-- Is the key the one that stands there? (bit by bit) -/
def sameK (old new : AV) (k : Bool) : Bool := match old with
  | .str l => (match new with
    | .str m => both (eqN l m) k
    | _ => false)
  | old => Option.rec false (fun r => Option.rec false (fun q => both (Instr.sameBits 10000 r q) k) (toV new)) (toV old)
theorem bits_str (s : ByteArray) : ∀ n, Instr.sameBits n (.string s) (.string s) = true := fun n => by
  have : (s == s) = true := (MapKept.bytes_beq s s).2 rfl
  cases n <;> simpa [Instr.sameBits] using this
theorem sameK_spec {old new : AV} {k : Bool} (h : sameK old new k = true) {r q : Value} (h1 : ren ρ old = some r) (h2 : ren ρ new = some q) : k = true ∧ ∀ w, (Instr.keyThatStays r q).run P w = .ok q w := by
  have gen : (Option.rec false (fun r => Option.rec false (fun q => both (Instr.sameBits 10000 r q) k) (toV new)) (toV old) : Bool) = true → k = true ∧ ∀ w, (Instr.keyThatStays r q).run P w = .ok q w := fun h => by
    obtain ⟨r', g1, h⟩ := opt_rec h
    obtain ⟨q', g2, h⟩ := opt_rec h
    obtain ⟨g3, h⟩ := both_eq.1 h
    have e1 := toV_ren g1 ρ; rw [h1] at e1
    have e2 := toV_ren g2 ρ; rw [h2] at e2
    rw [Option.some.inj e1, Option.some.inj e2]
    exact ⟨h, fun w => by simp [Instr.keyThatStays, g3]⟩
  cases old with
  | str l =>
    cases new with
    | str m =>
      obtain ⟨g1, hk⟩ := both_eq.1 (show both (eqN l m) k = true from h)
      rw [eqN_spec, decide_eq_true_iff] at g1
      subst g1
      rw [h1] at h2; cases h2
      obtain ⟨_, rfl⟩ := ren_str h1
      exact ⟨hk, fun w => by simp [Instr.keyThatStays, strV, bits_str]⟩
    | _ => cases h
  | _ => exact gen h
/-- One entry more, or another value. -/
def updK (P : Program) (T : Tabs P) (M : Mem) (nx : Nat) (kt : TypeId) (i : Nat) (es : List (AV × AV × Nat)) (cl : Nat) (key : AV) (val : AV → AV) (fresh : (AV → Bool) → Bool) (k : AV → Nat → Mem → Nat → Bool) : Bool :=
  chkK' P T kt false key (findK P T kt key es 0 fun x => Option.rec (fresh fun z => appL es [(key, z, cl)] fun es' => forceN (Nat.succ cl) fun cl' => turnK M nx i (.map es' cl') (k z cl))
    (fun p => Prod.rec (fun j q => Prod.rec (fun old v => sameK old key (Option.rec false (fun e => Prod.rec (fun _ vb => Prod.rec (fun _ b => setL es (key, val v, b) j fun es' => turnK M nx i (.map es' cl) (k v b)) vb) e) (nth es j))) q) p) x)
/-- What updK does to the world. -/
theorem updK_spec {kt : TypeId} {i : Nat} {es : List (AV × AV × Nat)} {cl : Nat} {key : AV} {val : AV → AV} {fresh : (AV → Bool) → Bool} {k : AV → Nat → Mem → Nat → Bool}
    (h : updK P T M nx kt i es cl key val fresh k = true) (s : Rel T c ρ fr ds M nx a w) {kr : Value} (hk : ren ρ key = some kr) (hi : M.get i = some (.map es cl)) {d : TypeDesc} (hd : P.underlying kt = some d) {fv : Value}
    (hfresh : ∀ k : AV → Bool, fresh k = true → ∃ z, k z = true ∧ ren ρ z = some fv) {vr : Value → Value} (hval : ∀ v r, ren ρ v = some r → ren ρ (val v) = some (vr r)) :
    ∃ e L, ρ[i]? = some e ∧ renM ρ es = some L ∧ w.heap[e.1]? = some (.map ⟨L⟩ cl) ∧ (∀ w, (Instr.checkKey false 10000 kt kr).run P w = .ok () w) ∧
      ((∃ z M' w', (∀ w, (Instr.findKey kt kr L).run P w = .ok none w) ∧ ren ρ z = some fv ∧ k z cl M' ρ.length = true ∧ w' = w.putObj e.1 (.map ((⟨L⟩ : Array MapEntry).push ⟨kr, fv, cl⟩) (cl + 1)) ∧ Rep ρ M' c.hF w') ∨
       (∃ j v r b M' w', (∀ w, (Instr.findKey kt kr L).run P w = .ok (some (j, r)) w) ∧ ren ρ v = some r ∧ (∃ en, L[j]? = some en ∧ en.born = b ∧ en.val = r ∧ (∀ w, (Instr.keyThatStays en.key kr).run P w = .ok kr w) ∧ w' = w.putObj e.1 (.map ⟨L.set j ⟨kr, vr r, b⟩⟩ cl)) ∧ k v b M' ρ.length = true ∧ Rep ρ M' c.hF w')) := by
  obtain ⟨h, hc⟩ := chkK'_spec h hk
  obtain ⟨e, he, ⟨L, hL, hb⟩, _⟩ := s.rep.own _ _ hi
  obtain ⟨x, y, h1, h2, h3⟩ := findK_spec (P := P) (T := T) hk h hL [] rfl
  have hf := fun w => run_findKey_of hd w (h3 w)
  refine ⟨e, L, he, hL, hb, hc, ?_⟩
  have hput : ∀ o, ∀ b, b ≠ e.1 → (w.putObj e.1 o).heap[b]? = w.heap[b]? := fun o b hne => World.putObj_heap_other hne
  have hput' : ∀ o, (w.putObj e.1 o).heap[e.1]? = some o := fun o => World.putObj_heap_same (mem_lt (w := w) hb)
  cases x with
  | none =>
    cases y with
    | some _ => exact h2.elim
    | none =>
      obtain ⟨z, g1, g2⟩ := hfresh _ h1
      rw [appL_eq, forceN_eq] at g1
      obtain ⟨M', k1, k2⟩ := turnK_spec (w' := w.putObj e.1 (.map ((⟨L⟩ : Array MapEntry).push ⟨kr, fv, cl⟩) (cl + 1))) g1 s hi rfl rfl he (hput _) (by
        rw [hput']
        exact ⟨L ++ [⟨kr, fv, cl⟩], renM_append hL hk g2 rfl, by congr 1; congr 1; apply Array.ext'; simp⟩)
      exact .inl ⟨z, M', _, hf, g2, k1, rfl, k2⟩
  | some p =>
    obtain ⟨j, old, v⟩ := p
    cases y with
    | none => exact h2.elim
    | some q =>
      obtain ⟨j', r⟩ := q
      obtain ⟨rfl, hv, en, hen, hold, rfl⟩ := h2
      rw [List.nil_append] at hen
      obtain ⟨g1, g2⟩ := sameK_spec (P := P) h1 hold hk
      obtain ⟨⟨k0, v0, b⟩, g3, g4⟩ := opt_rec g1
      rw [nth_eq] at g3
      obtain ⟨g5, g6⟩ := setL_spec g4
      obtain ⟨_, _, g7, _, _⟩ := renM_get hL hen
      rw [g3] at g7
      have hbn : b = en.born := by cases g7; rfl
      obtain ⟨M', k1, k2⟩ := turnK_spec (w' := w.putObj e.1 (.map ⟨L.set j ⟨kr, vr en.val, b⟩⟩ cl)) g6 s hi rfl rfl he (hput _) (by
        rw [hput']
        exact ⟨_, renM_set j hL hk (hval _ _ hv) rfl, rfl⟩)
      exact .inr ⟨j, v, en.val, b, M', _, hf, hv, ⟨en, hen, hbn.symm, rfl, g2, rfl⟩, k1, k2⟩
def mapUpdK (P : Program) (T : Tabs P) (fr : Tr AV) (M : Mem) (nx : Nat) (t : TypeId) (m x y : Operand) (k : AV → Mem → Nat → Bool) : Bool := argK T fr m fun mv => argK T fr x fun key => argK T fr y fun u => match mv with
  | .map i => Option.rec false (fun r => match r with
    | ⟨.map kt _, _, _⟩ => knownK T kt (Option.rec false (fun ck => match ck with
      | .map es cl => updK P T M nx kt i es cl key (fun _ => u) (fun k => k u) fun _ _ M' n => k (.tup []) M' n
      | _ => false) (M.get i))
    | _ => false) (T.T t)
  | _ => false
theorem run_setMap {i : Nat} {L : Array MapEntry} {cl : Nat} {w : World} {o : Obj} (h : w.heap[i]? = some (.map L cl)) : (setObj i o).run P w = .ok () (w.putObj i o) := by simp [setObj, Sem.run, h, World.putObj]
theorem mapUpd_parts {t : TypeId} {m x y : Operand} {k : AV → Mem → Nat → Bool} (h : mapUpdK P T fr M nx t m x y k = true) (s : Rel T c ρ fr ds M nx a w) : ∃ i kr ur, a.eval m = .map (some i) ∧ a.eval x = kr ∧ a.eval y = ur ∧
    ∃ M' w', k (.tup []) M' ρ.length = true ∧ Rep ρ M' c.hF w' ∧ Same w w' ∧ (Instr.mapUpdate t (.map (some i)) kr ur).run P w = .ok () w' := by
  obtain ⟨mv, mr, h1, g1⟩ := argK_spec h s
  obtain ⟨key, kr, h2, g2⟩ := argK_spec g1 s
  obtain ⟨u, ur, h3, g3⟩ := argK_spec g2 s
  clear h g1 g2
  cases mv <;> try (cases g3; done)
  rename_i i
  obtain ⟨⟨d, sz, b⟩, h4, g4⟩ := opt_rec g3
  cases d <;> try (cases g4; done)
  rename_i kt e
  have ht := (T.okT _ _ h4).td
  obtain ⟨⟨kd, hkd⟩, g5⟩ := knownK_spec g4
  obtain ⟨ck, h5, g6⟩ := opt_rec (show (Option.rec false (fun ck : Ck => match ck with
      | .map es cl => updK P T M nx kt i es cl key (fun _ => u) (fun k => k u) fun _ _ M' n => k (.tup []) M' n
      | _ => false) (M.get i) : Bool) = true from g5)
  cases ck <;> try (cases g6; done)
  rename_i es cl
  obtain ⟨e', L, he, hL, hb, hc, hcase⟩ := updK_spec (vr := fun _ => ur) g6 s h2.ren h5 hkd (fv := ur) (fun k hk => ⟨u, hk, h3.ren⟩) (fun _ _ _ => h3.ren)
  have e1 := h1.ren
  simp only [ren, he, Option.map_some, Option.some.injEq] at e1
  subst e1
  refine ⟨e'.1, kr, ur, h1.eval, h2.eval, h3.eval, ?_⟩
  rcases hcase with ⟨z, M', w', hf, _, hk, rfl, hrep⟩ | ⟨j, v, r, b', M', w', hf, _, ⟨en, hen, hbn, hvl, hst, rfl⟩, hk, hrep⟩
  · refine ⟨M', _, hk, hrep, .putObj _ _ _, ?_⟩
    simp [Instr.mapUpdate, run_underlying ht, run_getMap hb, hc, hf, run_setMap hb]
  · refine ⟨M', _, hk, hrep, .putObj _ _ _, ?_⟩
    have hm : (⟨L⟩ : Array MapEntry).modify j (fun e => { e with key := kr, val := ur }) = ⟨L.set j ⟨kr, ur, b'⟩⟩ := by rw [modify_set hen, ← hbn]
    simp only [Instr.mapUpdate, Sem.run_bind, run_underlying ht, Result.andThen_ok, run_getMap hb, hc, hf]
    have hget : ((⟨L⟩ : Array MapEntry)[j]?.map (·.key)).getD kr = en.key := by simp [hen]
    rw [hget]
    simp only [hst, Result.andThen_ok, hm, run_setMap hb]
theorem mapUpdK_spec {t : TypeId} {m x y : Operand} {k : AV → Mem → Nat → Bool} (h : mapUpdK P T fr M nx t m x y k = true) (s : Rel T c ρ fr ds M nx a w) : Eff P c ρ a w (.mapUpdate t m x y) k := by
  obtain ⟨i, kr, ur, e1, e2, e3, M', w', hk, hrep, hs, hr⟩ := mapUpd_parts h s
  refine ⟨.tup [], undef, ρ, M', w', .skip, .refl ρ, rfl, hk, hrep, hs, .inr ⟨rfl, rfl⟩, ?_⟩
  rintro ⟨d, op', ty, pos, af, gg⟩ rfl
  simp [execOp, e1, e2, e3, hr]
theorem insertK_spec {t : TypeId} {m x y : Operand} {k : AV → Mem → Nat → Bool} (h : mapUpdK P T fr M nx t m x y k = true) (s : Rel T c ρ fr ds M nx a w) : Eff P c ρ a w (.insert t m x y) k := by
  obtain ⟨i, kr, ur, e1, e2, e3, M', w', hk, hrep, hs, hr⟩ := mapUpd_parts h s
  refine ⟨.tup [], undef, ρ, M', w', .skip, .refl ρ, rfl, hk, hrep, hs, .inr ⟨rfl, rfl⟩, ?_⟩
  rintro ⟨d, op', ty, pos, af, gg⟩ rfl
  simp [execOp, e1, e2, e3, hr]
def mapEntK (P : Program) (T : Tabs P) (fr : Tr AV) (M : Mem) (nx : Nat) (t : TypeId) (m x : Operand) (k : AV → Mem → Nat → Bool) : Bool := argK T fr m fun mv => argK T fr x fun key => match mv with
  | .map i => Option.rec false (fun r => match r with
    | ⟨.map kt e, _, _⟩ => knownK T kt (Option.rec false (fun ck => match ck with
      | .map es cl => zeroK P e fun z => updK P T M nx kt i es cl key (fun v => v) (fun k => k z) fun v b M' n => k (.tup [v, .int .i64 (.ofNat b)]) M' n
      | _ => false) (M.get i))
    | _ => false) (T.T t)
  | _ => false
theorem mapEntK_spec {t : TypeId} {m x : Operand} {k : AV → Mem → Nat → Bool} (h : mapEntK P T fr M nx t m x k = true) (s : Rel T c ρ fr ds M nx a w) : Eff P c ρ a w (.mapEntry t m x) k := by
  obtain ⟨mv, mr, h1, g1⟩ := argK_spec h s
  obtain ⟨key, kr, h2, g3⟩ := argK_spec g1 s
  clear h g1
  cases mv <;> try (cases g3; done)
  rename_i i
  obtain ⟨⟨d, sz, b⟩, h4, g4⟩ := opt_rec g3
  cases d <;> try (cases g4; done)
  rename_i kt e
  have ht := (T.okT _ _ h4).td
  obtain ⟨⟨kd, hkd⟩, g5⟩ := knownK_spec g4
  obtain ⟨ck, h5, g6⟩ := opt_rec (show (Option.rec false (fun ck : Ck => match ck with
      | .map es cl => zeroK P e fun z => updK P T M nx kt i es cl key (fun v => v) (fun k => k z) fun v b M' n => k (.tup [v, .int .i64 (.ofNat b)]) M' n
      | _ => false) (M.get i) : Bool) = true from g5)
  cases ck <;> try (cases g6; done)
  rename_i es cl
  obtain ⟨z0, hz0, g7⟩ := opt_rec g6
  obtain ⟨zr, z1, z2, _⟩ := zeroA_spec hz0 ρ
  obtain ⟨e', L, he, hL, hb, hc, hcase⟩ := updK_spec (vr := fun r => r) g7 s h2.ren h5 hkd (fv := zr) (fun k hk => ⟨z0, hk, z2⟩) (fun _ _ h => h)
  have e1 := h1.ren
  simp only [ren, he, Option.map_some, Option.some.injEq] at e1
  subst e1
  rcases hcase with ⟨z, M', w', hf, hz', hk, rfl, hrep⟩ | ⟨j, v, r, b', M', w', hf, hv, ⟨en, hen, hbn, hvl, hst, rfl⟩, hk, hrep⟩
  · refine ⟨_, .tuple #[zr, .int .i64 cl], ρ, M', _, .value _, .refl ρ, by simp [ren, renL, hz'], hk, hrep, .putObj _ _ _, .inl rfl, ?_⟩
    rintro ⟨d, op', ty, pos, af, gg⟩ rfl
    simp [execOp, Instr.mapEntry, h1.eval, h2.eval, run_underlying ht, run_getMap hb, hc, hf, run_setMap hb, run_zeroV z1, goInt]
  · refine ⟨_, .tuple #[r, .int .i64 b'], ρ, M', _, .value _, .refl ρ, by simp [ren, renL, hv], hk, hrep, .putObj _ _ _, .inl rfl, ?_⟩
    rintro ⟨d, op', ty, pos, af, gg⟩ rfl
    have hm : (⟨L⟩ : Array MapEntry).modify j (fun e => { e with key := kr }) = ⟨L.set j ⟨kr, r, b'⟩⟩ := by
      rw [modify_set hen, ← hbn]
      rw [hvl]
    simp only [execOp, Instr.mapEntry, h1.eval, h2.eval, Sem.run_bind, run_underlying ht, Result.andThen_ok, run_getMap hb, hc, hf]
    have hget : ((⟨L⟩ : Array MapEntry)[j]?.map (·.key)).getD kr = en.key := by simp [hen]
    rw [hget]
    simp only [hst, Result.andThen_ok, hm, run_setMap hb]
    simp [hen, hbn, goInt]
end
end Go.Ev
set_option linter.unusedSimpArgs false
set_option linter.unusedVariables false
namespace Go.Ev
open Go.Sl
noncomputable section
variable {P : Program} {T : Tabs P} {c : Cn} {ρ : Env} {fr : Tr AV} {ds : List AD} {M : Mem} {nx : Nat} {a : Act} {w : World}

/-! ### an entry's value, by its stamp -/
def setBorn (b : Nat) (u : AV) (es : List (AV × AV × Nat)) : (List (AV × AV × Nat) → Bool) → Bool := List.rec (fun _ => false) (fun e t ih k => Prod.rec (fun key vb => Prod.rec (fun v b' => Bool.rec (ih fun t' => k ((key, v, b') :: t')) (k ((key, u, b') :: t)) (Nat.beq b' b)) vb) e) es
theorem setBorn_spec {b : Nat} {u : AV} {ur : Value} (hu : ren ρ u = some ur) : ∀ {es : List (AV × AV × Nat)} {L : List MapEntry} {k : List (AV × AV × Nat) → Bool}, setBorn b u es k = true → renM ρ es = some L →
    ∃ es' j e, k es' = true ∧ L.findIdx? (fun e => (e.born : Int) == (b : Int)) = some j ∧ L[j]? = some e ∧ renM ρ es' = some (L.set j { e with val := ur })
  | [], L, k, h, hL => by cases h
  | (key, v, b') :: es, L, k, h, hL => by
    simp only [renM, Option.bind_eq_some_iff, Option.map_eq_some_iff] at hL
    obtain ⟨kr, hkr, vr, hvr, L', hL', rfl⟩ := hL
    have h : (Bool.rec (setBorn b u es fun t' => k ((key, v, b') :: t')) (k ((key, u, b') :: es)) (Nat.beq b' b) : Bool) = true := h
    cases q : Nat.beq b' b with
    | true =>
      rw [q] at h
      have := Nat.eq_of_beq_eq_true q
      refine ⟨_, 0, ⟨kr, vr, b'⟩, h, by simp [List.findIdx?_cons, this], rfl, ?_⟩
      simp only [renM, List.set_cons_zero, Option.bind_eq_some_iff, Option.map_eq_some_iff]
      exact ⟨_, hkr, _, hu, _, hL', rfl⟩
    | false =>
      rw [q] at h
      have hne : ¬ ((b' : Int) = (b : Int)) := fun e => by
        have : b' = b := by omega
        subst this; simp at q
      obtain ⟨es', j, e, g1, g2, g3, g4⟩ := setBorn_spec hu h hL'
      refine ⟨_, j + 1, e, g1, by simp [List.findIdx?_cons, hne, g2], by simpa using g3, ?_⟩
      simp only [renM, List.set_cons_succ, Option.bind_eq_some_iff, Option.map_eq_some_iff]
      exact ⟨_, hkr, _, hvr, _, g4, rfl⟩
def entStK (T : Tabs P) (fr : Tr AV) (M : Mem) (nx : Nat) (m st x : Operand) (k : AV → Mem → Nat → Bool) : Bool := argK T fr m fun mv => argK T fr st fun sv => argK T fr x fun u => match mv with
  | .map i => (match sv with
    | .int _ (.ofNat b) => Option.rec false (fun ck => match ck with
      | .map es cl => setBorn b u es fun es' => turnK M nx i (.map es' cl) (k (.tup []))
      | _ => false) (M.get i)
    | _ => false)
  | _ => false
theorem entStK_spec {t : TypeId} {m st x : Operand} {k : AV → Mem → Nat → Bool} (h : entStK T fr M nx m st x k = true) (s : Rel T c ρ fr ds M nx a w) : Eff P c ρ a w (.entryStore t m st x) k := by
  obtain ⟨mv, mr, h1, g1⟩ := argK_spec h s
  obtain ⟨sv, sr, h2, g2⟩ := argK_spec g1 s
  obtain ⟨u, ur, h3, g3⟩ := argK_spec g2 s
  clear h g1 g2
  cases mv <;> try (cases g3; done)
  rename_i i
  cases sv <;> try (cases g3; done)
  rename_i kd n
  cases n <;> try (cases g3; done)
  rename_i b
  obtain rfl : sr = .int kd b := by simpa [ren] using h2.ren.symm
  obtain ⟨ck, h5, g6⟩ := opt_rec (show (Option.rec false (fun ck : Ck => match ck with
      | .map es cl => setBorn b u es fun es' => turnK M nx i (.map es' cl) (k (.tup []))
      | _ => false) (M.get i) : Bool) = true from g3)
  cases ck <;> try (cases g6; done)
  rename_i es cl
  obtain ⟨e, he, ⟨L, hL, hb⟩, _⟩ := s.rep.own _ _ h5
  obtain ⟨es', j, en, g7, g8, g9, g10⟩ := setBorn_spec h3.ren g6 hL
  have e1 := h1.ren
  simp only [ren, he, Option.map_some, Option.some.injEq] at e1
  subst e1
  obtain ⟨M', k1, k2⟩ := turnK_spec (w' := w.putObj e.1 (.map ⟨L.set j { en with val := ur }⟩ cl)) g7 s h5 rfl rfl he (fun b hne => World.putObj_heap_other hne) (by
    rw [World.putObj_heap_same (mem_lt (w := w) hb)]
    exact ⟨_, g10, rfl⟩)
  refine ⟨.tup [], undef, ρ, M', _, .skip, .refl ρ, rfl, k1, k2, .putObj _ _ _, .inr ⟨rfl, rfl⟩, ?_⟩
  rintro ⟨d, op', ty, pos, af, gg⟩ rfl
  have hfi : (⟨L⟩ : Array MapEntry).findIdx? (fun e => (e.born : Int) == (b : Int)) = some j := by rw [← g8]; simp
  have hm := modify_set g9 (fun e => { e with val := ur })
  simp [execOp, Instr.entryStore, h1.eval, h2.eval, h3.eval, run_getMap hb, asInt, asIntOf, hfi, hm, run_setMap hb]

/-! ### delete -/
def eraseK (es : List (AV × AV × Nat)) : Nat → (List (AV × AV × Nat) → Bool) → Bool := List.rec (fun _ k => k []) (fun e t ih n k => Nat.rec (k t) (fun m _ => ih m fun t' => k (e :: t')) n) es
theorem eraseK_eq : ∀ (es : List (AV × AV × Nat)) (n : Nat) (k : List (AV × AV × Nat) → Bool), eraseK es n k = k (es.eraseIdx n)
  | [], n, k => rfl
  | e :: es, 0, k => rfl
  | e :: es, n + 1, k => by
    show eraseK es n (fun t' => k (e :: t')) = _
    rw [eraseK_eq]; rfl
def deleteK (P : Program) (T : Tabs P) (fr : Tr AV) (M : Mem) (nx : Nat) (t : TypeId) (m x : Operand) (k : AV → Mem → Nat → Bool) : Bool := argK T fr m fun mv => argK T fr x fun key => Option.rec false (fun r => match r with
  | ⟨.map kt _, _, _⟩ => knownK T kt (match mv with
    | .nilm => chkK' P T kt true key (k (.tup []) M nx)
    | .map i => Option.rec false (fun ck => match ck with
      | .map es cl => chkK' P T kt (isEmp es) key (findK P T kt key es 0 fun x => Option.rec (turnK M nx i (.map es cl) (k (.tup []))) (fun p => eraseK es p.1 fun es' => turnK M nx i (.map es' cl) (k (.tup []))) x)
      | _ => false) (M.get i)
    | _ => false)
  | _ => false) (T.T t)
theorem deleteK_spec {t kt' : TypeId} {m x : Operand} {k : AV → Mem → Nat → Bool} (h : deleteK P T fr M nx t m x k = true) (s : Rel T c ρ fr ds M nx a w) : Eff P c ρ a w (.call ⟨.builtin .delete, #[m, x], #[t, kt']⟩) k := by
  obtain ⟨mv, mr, h1, g1⟩ := argK_spec h s
  obtain ⟨key, kr, h2, g3⟩ := argK_spec g1 s
  clear h g1
  obtain ⟨⟨d, sz, b⟩, h4, g4⟩ := opt_rec g3
  cases d <;> try (cases g4; done)
  rename_i kt e
  have ht := (T.okT _ _ h4).td
  obtain ⟨⟨kd, hkd⟩, g5⟩ := knownK_spec g4
  clear g3 g4
  cases mv with
  | nilm =>
    obtain ⟨g6, hc⟩ := chkK'_spec g5 h2.ren
    obtain rfl : mr = .map none := by simpa [ren] using h1.ren.symm
    refine ⟨.tup [], undef, ρ, M, w, .value undef, .refl ρ, rfl, by rw [s.nx]; exact g6, s.rep, .refl w, .inl rfl, ?_⟩
    rintro ⟨d, op', ty, pos, af, gg⟩ rfl
    simp [execOp, resolve, invoke, builtin, Builtin.delete_, h1.eval, h2.eval, run_underlying ht, hc, undef]
  | map i =>
    obtain ⟨ck, h5, g6⟩ := opt_rec (show (Option.rec false (fun ck : Ck => match ck with
      | .map es cl => chkK' P T kt (isEmp es) key (findK P T kt key es 0 fun x => Option.rec (turnK M nx i (.map es cl) (k (.tup []))) (fun p => eraseK es p.1 fun es' => turnK M nx i (.map es' cl) (k (.tup []))) x)
      | _ => false) (M.get i) : Bool) = true from g5)
    cases ck <;> try (cases g6; done)
    rename_i es cl
    obtain ⟨g7, hc⟩ := chkK'_spec g6 h2.ren
    obtain ⟨e', he, ⟨L, hL, hb⟩, _⟩ := s.rep.own _ _ h5
    have hemp : (⟨L⟩ : Array MapEntry).isEmpty = isEmp es := by
      rw [isEmp_eq]; have := renM_len hL
      show L.toArray.isEmpty = _
      rw [List.isEmpty_toArray]; cases L <;> cases es <;> simp at this ⊢
    rw [← hemp] at hc
    have hc : ∀ w, (Instr.checkKey L.isEmpty 10000 kt kr).run P w = .ok () w := by simpa using hc
    obtain ⟨y, y', q1, q2, q3⟩ := findK_spec (P := P) (T := T) h2.ren g7 hL [] rfl
    have hf := fun w => run_findKey_of hkd w (q3 w)
    have e1 := h1.ren
    simp only [ren, he, Option.map_some, Option.some.injEq] at e1
    subst e1
    cases y with
    | none =>
      cases y' with
      | some _ => exact q2.elim
      | none =>
        obtain ⟨M', k1, k2⟩ := turnK_spec (w' := w.putObj e'.1 (.map ⟨L⟩ cl)) q1 s h5 rfl rfl he (fun b hne => World.putObj_heap_other hne) (by
          rw [World.putObj_heap_same (mem_lt (w := w) hb)]; exact ⟨_, hL, rfl⟩)
        refine ⟨.tup [], undef, ρ, M', _, .value undef, .refl ρ, rfl, k1, k2, .putObj _ _ _, .inl rfl, ?_⟩
        rintro ⟨d, op', ty, pos, af, gg⟩ rfl
        simp [execOp, resolve, invoke, builtin, Builtin.delete_, h1.eval, h2.eval, run_underlying ht, run_getMap hb, hc, hf, run_setMap hb, undef]
    | some p =>
      obtain ⟨j, old, v⟩ := p
      cases y' with
      | none => exact q2.elim
      | some y' =>
        obtain ⟨j', r⟩ := y'
        obtain ⟨rfl, _, en, hen, _⟩ := q2
        rw [List.nil_append] at hen
        have q1 : eraseK es j (fun es' => turnK M nx i (.map es' cl) (k (.tup []))) = true := q1
        rw [eraseK_eq] at q1
        obtain ⟨M', k1, k2⟩ := turnK_spec (w' := w.putObj e'.1 (.map ⟨L.eraseIdx j⟩ cl)) q1 s h5 rfl rfl he (fun b hne => World.putObj_heap_other hne) (by
          rw [World.putObj_heap_same (mem_lt (w := w) hb)]; exact ⟨_, renM_erase j hL, rfl⟩)
        refine ⟨.tup [], undef, ρ, M', _, .value undef, .refl ρ, rfl, k1, k2, .putObj _ _ _, .inl rfl, ?_⟩
        rintro ⟨d, op', ty, pos, af, gg⟩ rfl
        have hlt := (List.getElem?_eq_some_iff.1 hen).1
        have her : (⟨L⟩ : Array MapEntry).eraseIdxIfInBounds j = ⟨L.eraseIdx j⟩ := by
          unfold Array.eraseIdxIfInBounds
          rw [dif_pos (by simpa using hlt)]
          apply Array.toList_inj.1; simp
        simp [execOp, resolve, invoke, builtin, Builtin.delete_, h1.eval, h2.eval, run_underlying ht, run_getMap hb, hc, hf, run_setMap hb, her, undef]
  | _ => cases g5

/-! ### ranges -/
def rangeK (T : Tabs P) (fr : Tr AV) (M : Mem) (nx : Nat) (t : TypeId) (x : Operand) (k : AV → Mem → Nat → Bool) : Bool := argK T fr x fun v => Option.rec false (fun r => match r with
  | ⟨.str, _, _⟩ => (match v with
    | .str l => newK M nx (.sit l 0) (k (.ptr nx 0))
    | _ => false)
  | ⟨.map _ _, _, _⟩ => (match v with
    | .nilm => newK M nx .mnil (k (.ptr nx 0))
    | .map i => Option.rec false (fun ck => match ck with
      | .map _ cl => newK M nx (.mit i cl [] cl) (k (.ptr nx 0))
      | _ => false) (M.get i)
    | _ => false)
  | _ => false) (T.T t)
theorem rangeK_spec {t : TypeId} {x : Operand} {k : AV → Mem → Nat → Bool} (h : rangeK T fr M nx t x k = true) (s : Rel T c ρ fr ds M nx a w) : Eff P c ρ a w (.range t x) k := by
  obtain ⟨v, r, h1, g1⟩ := argK_spec h s
  obtain ⟨⟨d, sz, b⟩, h4, g4⟩ := opt_rec g1
  have ht := (T.okT _ _ h4).td
  clear h g1
  have hn : ∀ o : Obj, (newObj o).run P w = .ok w.heap.size (w.alloc o) := fun _ => rfl
  cases d with
  | str =>
    cases v <;> try (cases g4; done)
    rename_i l
    obtain ⟨s1, rfl⟩ := ren_str h1.ren
    obtain ⟨M', k1, k2, k3⟩ := newK_spec (κ := 0) (o := .stringIter ⟨⟨l.map UInt8.ofNat⟩⟩ 0) g4 s (.inl rfl) rfl ⟨s1, rfl, rfl⟩
    refine ⟨.ptr nx 0, .pointer (some ⟨w.heap.size, 0, none⟩), _, M', _, _, Ext.one _ _, by rw [← s.nx]; exact ren_new, k1, k2, k3, .inl rfl, ?_⟩
    rintro ⟨d, op', ty, pos, af, gg⟩ rfl
    simp [execOp, Instr.range, h1.eval, run_underlying ht, strV, hn]
  | map kt e =>
    cases v with
    | nilm =>
      obtain rfl : r = .map none := by simpa [ren] using h1.ren.symm
      obtain ⟨M', k1, k2, k3⟩ := newK_spec (κ := 0) (o := .mapIter none 0 #[] 0) g4 s (.inl rfl) rfl ⟨rfl, rfl⟩
      refine ⟨.ptr nx 0, .pointer (some ⟨w.heap.size, 0, none⟩), _, M', _, _, Ext.one _ _, by rw [← s.nx]; exact ren_new, k1, k2, k3, .inl rfl, ?_⟩
      rintro ⟨d, op', ty, pos, af, gg⟩ rfl
      simp [execOp, Instr.range, h1.eval, run_underlying ht, hn]
    | map i =>
      obtain ⟨ck, h5, g6⟩ := opt_rec (show (Option.rec false (fun ck : Ck => match ck with
        | .map _ cl => newK M nx (.mit i cl [] cl) (k (.ptr nx 0))
        | _ => false) (M.get i) : Bool) = true from g4)
      cases ck <;> try (cases g6; done)
      rename_i es cl
      obtain ⟨e', he, ⟨L, hL, hb⟩, _⟩ := s.rep.own _ _ h5
      have e1 := h1.ren
      simp only [ren, he, Option.map_some, Option.some.injEq] at e1
      subst e1
      obtain ⟨M', k1, k2, k3⟩ := newK_spec (κ := 0) (o := .mapIter (some e'.1) cl #[] cl) g6 s (.inl rfl) rfl ⟨e', (Ext.one _ _).get he, rfl, rfl⟩
      refine ⟨.ptr nx 0, .pointer (some ⟨w.heap.size, 0, none⟩), _, M', _, _, Ext.one _ _, by rw [← s.nx]; exact ren_new, k1, k2, k3, .inl rfl, ?_⟩
      rintro ⟨d, op', ty, pos, af, gg⟩ rfl
      simp [execOp, Instr.range, h1.eval, run_underlying ht, run_getMap hb, hn]
    | _ => cases g4
  | _ => cases g4
end
end Go.Ev
set_option linter.unusedSimpArgs false
set_option linter.unusedVariables false
namespace Go.Ev
open Go.Sl
noncomputable section
variable {P : Program} {T : Tabs P} {c : Cn} {ρ : Env} {fr : Tr AV} {ds : List AD} {M : Mem} {nx : Nat} {a : Act} {w : World}

/-! ### a step -/
def memN (b : Nat) (l : List Nat) : Bool := List.rec false (fun x _ ih => Bool.rec ih true (Nat.beq x b)) l
theorem memN_eq (b : Nat) : ∀ l : List Nat, memN b l = l.contains b
  | [] => rfl
  | x :: l => by
    show (Bool.rec (memN b l) true (Nat.beq x b) : Bool) = _
    rw [memN_eq b l, List.contains_cons]
    by_cases h : b = x
    · subst h; simp
    · have : Nat.beq x b = false := Bool.eq_false_iff.2 fun q => h (Nat.eq_of_beq_eq_true q).symm
      rw [this]; simp [h]
/-- Those that were not seen. -/
def leftA (seen : List Nat) (es : List (AV × AV × Nat)) (k : List (AV × AV × Nat) → Bool) : Bool := List.rec (fun k => k []) (fun e _ ih k => Prod.rec (fun _ vb => Prod.rec (fun _ b => Bool.rec (ih fun t => k (e :: t)) (ih k) (memN b seen)) vb) e) es k
theorem leftA_eq (seen : List Nat) : ∀ (es : List (AV × AV × Nat)) (k : List (AV × AV × Nat) → Bool), leftA seen es k = k (es.filter fun e => !seen.contains e.2.2)
  | [], k => rfl
  | (key, v, b) :: es, k => by
    show (Bool.rec (leftA seen es fun t => k ((key, v, b) :: t)) (leftA seen es k) (memN b seen) : Bool) = _
    rw [memN_eq, leftA_eq seen es, leftA_eq seen es]
    cases h : seen.contains b <;> simp only [List.filter_cons, h, Bool.not_false, Bool.not_true, if_true, Bool.false_eq_true, if_false]
theorem renM_filter (p : Nat → Bool) : ∀ {es : List (AV × AV × Nat)} {L : List MapEntry}, renM ρ es = some L → renM ρ (es.filter fun e => p e.2.2) = some (L.filter fun e => p e.born)
  | [], L, h => by cases h; rfl
  | (k, v, b) :: es, L, h => by
    simp only [renM, Option.bind_eq_some_iff, Option.map_eq_some_iff] at h
    obtain ⟨kr, hkr, vr, hvr, L', hL', rfl⟩ := h
    cases hp : p b with
    | true =>
      simp only [List.filter_cons, hp, if_true, renM, Option.bind_eq_some_iff, Option.map_eq_some_iff]
      exact ⟨_, hkr, _, hvr, _, renM_filter p hL', rfl⟩
    | false => simpa [List.filter_cons, hp] using renM_filter p hL'
theorem renM_all (p : Nat → Bool) : ∀ {es : List (AV × AV × Nat)} {L : List MapEntry}, renM ρ es = some L → L.all (fun e => p e.born) = es.all fun e => p e.2.2
  | [], L, h => by cases h; rfl
  | (k, v, b) :: es, L, h => by
    simp only [renM, Option.bind_eq_some_iff, Option.map_eq_some_iff] at h
    obtain ⟨kr, hkr, vr, hvr, L', hL', rfl⟩ := h
    simp [renM_all p hL']
theorem allL_eq {α : Type} (p : α → Bool) : ∀ l : List α, allL p l = l.all p
  | [] => rfl
  | x :: l => by
    show both (p x) (allL p l) = _
    rw [allL_eq p l, List.all_cons]
    cases p x <;> rfl
/-- One of those that are left. -/
def oneOf (M : Mem) (nx : Nat) (i m since : Nat) (seen : List Nat) (cl : Nat) (k : AV → Mem → Nat → Bool) (e : AV × AV × Nat) : Bool :=
  Prod.rec (fun key vb => Prod.rec (fun v b => both (Nat.blt b since) (appL seen [b] fun seen' => turnK M nx i (.mit m since seen' cl) (k (.tup [.bool true, key, v])))) vb) e
def stepMapK (M : Mem) (nx : Nat) (i m since : Nat) (seen : List Nat) (last : Nat) (es : List (AV × AV × Nat)) (cl : Nat) (k : AV → Mem → Nat → Bool) : Bool :=
  both (notB (both (notB (isEmp seen)) (both (notB (isEmp es)) (allL (fun e => Nat.ble last e.2.2) es)))) (leftA seen es fun left => List.rec (k (.tup [.bool false]) M nx) (fun x t _ => allL (oneOf M nx i m since seen cl k) (x :: t)) left)
def nextK (T : Tabs P) (fr : Tr AV) (M : Mem) (nx : Nat) (it : Operand) (isString : Bool) (k : AV → Mem → Nat → Bool) : Bool := argK T fr it fun v => match v with
  | .ptr i 0 => Option.rec false (fun ck => match ck with
    | .sit l pos => Bool.rec false (Option.rec (k (.tup [.bool false]) M nx) (fun b => both (Nat.blt b 128) (forceN (Nat.succ pos) fun pos' => turnK M nx i (.sit l pos') (k (.tup [.bool true, .int .i64 (.ofNat pos), .int .i32 (.ofNat b)])))) (nth l pos)) isString
    | .mnil => Bool.rec (k (.tup [.bool false]) M nx) false isString
    | .mit m since seen last => Bool.rec (Option.rec false (fun ck' => match ck' with
      | .map es cl => stepMapK M nx i m since seen last es cl k
      | _ => false) (M.get m)) false isString
    | _ => false) (M.get i)
  | _ => false
theorem decode_ascii {l : List Nat} {pos b : Nat} (hs : small l = true) (h : l[pos]? = some b) (hb : b < 128) : Utf8.decode ⟨⟨l.map UInt8.ofNat⟩⟩ pos = (b, 1) := by
  have hlt := (List.getElem?_eq_some_iff.1 h).1
  have hg : ((⟨⟨l.map UInt8.ofNat⟩⟩ : ByteArray).get! (pos + 0)).toNat = b := by
    have h1 : pos < (⟨⟨l.map UInt8.ofNat⟩⟩ : ByteArray).data.size := by simpa using hlt
    have : (⟨⟨l.map UInt8.ofNat⟩⟩ : ByteArray).get! (pos + 0) = (⟨⟨l.map UInt8.ofNat⟩⟩ : ByteArray).data[pos]! := rfl
    rw [this]
    have h2 : (l.map UInt8.ofNat)[pos]? = some (UInt8.ofNat b) := by simp [h]
    have h3 : (⟨⟨l.map UInt8.ofNat⟩⟩ : ByteArray).data[pos] = UInt8.ofNat b := by
      have := List.getElem?_eq_some_iff.1 h2
      obtain ⟨_, h4⟩ := this
      simpa using h4
    have h5 : (⟨⟨l.map UInt8.ofNat⟩⟩ : ByteArray).data[pos]! = UInt8.ofNat b := by simp [getElem!_def, h]
    rw [h5, u8_ofNat (by omega)]
  unfold Utf8.decode
  simp only [hg]
  rw [if_pos hb]
theorem run_choose {n : Nat} (hn : 0 < n) : ∃ idx w', (choose (.mapNext n)).run P w = .ok idx w' ∧ idx < n ∧ (w' = w ∨ w' = { w with drawn := w.drawn + 1 }) := by
  by_cases h : n ≤ 1
  · exact ⟨0, w, by simp [choose, Sem.run, Question.forced, h], hn, .inl rfl⟩
  · exact ⟨w.tape w.drawn (.mapNext n) % n, _, by simp [choose, Sem.run, Question.forced, h, Question.cut], Nat.mod_lt _ hn, .inr rfl⟩
theorem renM_at : ∀ {es : List (AV × AV × Nat)} {L : List MapEntry} {j : Nat} {e : MapEntry}, renM ρ es = some L → L[j]? = some e → ∃ k v, (k, v, e.born) ∈ es ∧ ren ρ k = some e.key ∧ ren ρ v = some e.val := fun h hj => by
  obtain ⟨k, v, h1, h2, h3⟩ := renM_get h hj
  exact ⟨k, v, List.mem_of_getElem? h1, h2, h3⟩
theorem nextK_spec {it : Operand} {isString : Bool} {k : AV → Mem → Nat → Bool} (h : nextK T fr M nx it isString k = true) (s : Rel T c ρ fr ds M nx a w) : Eff P c ρ a w (.next it isString) k := by
  obtain ⟨v, r, h1, h2⟩ := argK_spec h s
  clear h
  cases v <;> try (cases h2; done)
  rename_i i o
  cases o <;> try (cases h2; done)
  obtain ⟨ck, h3, g⟩ := opt_rec (show (Option.rec false (fun ck : Ck => match ck with
    | .sit l pos => Bool.rec false (Option.rec (k (.tup [.bool false]) M nx) (fun b => both (Nat.blt b 128) (forceN (Nat.succ pos) fun pos' => turnK M nx i (.sit l pos') (k (.tup [.bool true, .int .i64 (.ofNat pos), .int .i32 (.ofNat b)])))) (nth l pos)) isString
    | .mnil => Bool.rec (k (.tup [.bool false]) M nx) false isString
    | .mit m since seen last => Bool.rec (Option.rec false (fun ck' => match ck' with
      | .map es cl => stepMapK M nx i m since seen last es cl k
      | _ => false) (M.get m)) false isString
    | _ => false) (M.get i) : Bool) = true from h2)
  clear h2
  obtain ⟨e, he, hsh, _⟩ := s.rep.own _ _ h3
  have e1 := h1.ren
  simp only [ren, he, Option.map_some, Option.some.injEq] at e1
  have over : k (.tup [.bool false]) M nx = true → (∀ o : Oper, o.op = .next it isString → (execOp a.eval o).run P w = .ok (.value (.tuple #[.bool false])) w) → Eff P c ρ a w (.next it isString) k := fun hk hr =>
    ⟨.tup [.bool false], .tuple #[.bool false], ρ, M, w, _, .refl ρ, rfl, by rw [s.nx]; exact hk, s.rep, .refl w, .inl rfl, hr⟩
  cases ck with
  | sit l pos =>
    obtain ⟨hs, hb, h0⟩ := hsh
    rw [h0] at e1
    subst e1
    have hg : (getObj e.1).run P w = .ok (.stringIter ⟨⟨l.map UInt8.ofNat⟩⟩ pos) w := by simp [getObj, Sem.run, hb]
    cases isString with
    | false => cases g
    | true =>
      have g : (Option.rec (k (.tup [.bool false]) M nx) (fun b => both (Nat.blt b 128) (forceN (Nat.succ pos) fun pos' => turnK M nx i (.sit l pos') (k (.tup [.bool true, .int .i64 (.ofNat pos), .int .i32 (.ofNat b)])))) (nth l pos) : Bool) = true := g
      rw [nth_eq] at g
      cases hp : l[pos]? with
      | none =>
        rw [hp] at g
        refine over g ?_
        rintro ⟨d, op', ty, p, af, gg⟩ rfl
        have hle : ¬ pos < l.length := by simpa using hp
        have hsz : ¬ pos < (⟨⟨l.map UInt8.ofNat⟩⟩ : ByteArray).size := by simpa [ByteArray.size] using hle
        simp only [execOp, Instr.next, h1.eval, Sem.run_bind, hg, Result.andThen_ok, if_neg hsz, Sem.run_pure]
      | some b =>
        rw [hp] at g
        obtain ⟨hb128, g⟩ := both_eq.1 (show both (Nat.blt b 128) (forceN (Nat.succ pos) fun pos' => turnK M nx i (.sit l pos') (k (.tup [.bool true, .int .i64 (.ofNat pos), .int .i32 (.ofNat b)]))) = true from g)
        rw [Nat.blt_eq] at hb128
        rw [forceN_eq] at g
        obtain ⟨M', k1, k2⟩ := turnK_spec (w' := w.putObj e.1 (.stringIter ⟨⟨l.map UInt8.ofNat⟩⟩ (pos + 1))) g s h3 rfl rfl he (fun b hne => World.putObj_heap_other hne) (by
          rw [World.putObj_heap_same (mem_lt (w := w) hb)]; exact ⟨hs, rfl, h0⟩)
        refine ⟨_, .tuple #[.bool true, .int .i64 pos, .int .i32 b], ρ, M', _, _, .refl ρ, by simp [ren, renL], k1, k2, .putObj _ _ _, .inl rfl, ?_⟩
        rintro ⟨d, op', ty, p, af, gg⟩ rfl
        have hlt := (List.getElem?_eq_some_iff.1 hp).1
        have hset : ∀ o, (setObj e.1 o).run P w = .ok () (w.putObj e.1 o) := fun o => by simp [setObj, Sem.run, hb, World.putObj]
        have hsz : pos < (⟨⟨l.map UInt8.ofNat⟩⟩ : ByteArray).size := by simpa [ByteArray.size] using hlt
        simp only [execOp, Instr.next, h1.eval, Sem.run_bind, hg, Result.andThen_ok, if_pos hsz, decode_ascii hs hp hb128, hset, Sem.run_pure]
        rfl
  | mnil =>
    obtain ⟨hb, h0⟩ := hsh
    rw [h0] at e1
    subst e1
    have hg : (getObj e.1).run P w = .ok (.mapIter none 0 #[] 0) w := by simp [getObj, Sem.run, hb]
    cases isString with
    | true => cases g
    | false =>
      refine over g ?_
      rintro ⟨d, op', ty, p, af, gg⟩ rfl
      simp only [execOp, Instr.next, h1.eval, Sem.run_bind, hg, Result.andThen_ok, Sem.run_pure]
  | mit m since seen last =>
    obtain ⟨em, hem, hb, h0⟩ := hsh
    rw [h0] at e1
    subst e1
    have hg : (getObj e.1).run P w = .ok (.mapIter (some em.1) since ⟨seen⟩ last) w := by simp [getObj, Sem.run, hb]
    cases isString with
    | true => cases g
    | false =>
      obtain ⟨ck', h5, g6⟩ := opt_rec (show (Option.rec false (fun ck' : Ck => match ck' with
        | .map es cl => stepMapK M nx i m since seen last es cl k
        | _ => false) (M.get m) : Bool) = true from g)
      cases ck' <;> try (cases g6; done)
      rename_i es cl
      obtain ⟨em', hem', ⟨L, hL, hbm⟩, _⟩ := s.rep.own _ _ h5
      rw [hem] at hem'; cases hem'
      have hgm := run_getMap (P := P) hbm
      obtain ⟨g7, g8⟩ := both_eq.1 g6
      rw [leftA_eq] at g8
      have hbad : (!(⟨seen⟩ : Array Nat).isEmpty && !(⟨L⟩ : Array MapEntry).isEmpty && (⟨L⟩ : Array MapEntry).all fun x => decide (x.born ≥ last)) = false := by
        rw [notB_eq] at g7
        have e3 : (⟨L⟩ : Array MapEntry).all (fun x => decide (x.born ≥ last)) = es.all fun e => Nat.ble last e.2.2 := by
          have := renM_all (fun b => Nat.ble last b) hL
          rw [← this]
          show L.toArray.all _ = _
          rw [List.all_toArray]
          congr 1
          funext x
          rw [Bool.eq_iff_iff, decide_eq_true_iff, Nat.ble_eq]
        have e4 : (⟨L⟩ : Array MapEntry).isEmpty = isEmp es := by
          rw [isEmp_eq]; have := renM_len hL
          show L.toArray.isEmpty = _
          rw [List.isEmpty_toArray]; cases L <;> cases es <;> simp at this ⊢
        have e5 : (⟨seen⟩ : Array Nat).isEmpty = isEmp seen := by
          rw [isEmp_eq]
          show seen.toArray.isEmpty = _
          rw [List.isEmpty_toArray]
        rw [e3, e4, e5, ← allL_eq]
        rw [notB_eq, notB_eq] at g7
        cases hA : isEmp seen <;> cases hB : isEmp es <;> cases hC : allL (fun e : AV × AV × Nat => Nat.ble last e.2.2) es <;> simp [hA, hB, hC, both] at g7 ⊢
      have hleft := renM_filter (fun b => !seen.contains b) hL
      have eleft : (⟨L⟩ : Array MapEntry).filter (fun e => !(⟨seen⟩ : Array Nat).contains e.born) = ⟨L.filter fun e => !seen.contains e.born⟩ := by
        apply Array.toList_inj.1; simp
      cases hle : es.filter (fun e => !seen.contains e.2.2) with
      | nil =>
        rw [hle] at g8
        rw [hle] at hleft
        have hL0 : L.filter (fun e => !seen.contains e.born) = [] := List.length_eq_zero_iff.1 (renM_len hleft)
        refine over g8 ?_
        rintro ⟨d, op', ty, p, af, gg⟩ rfl
        have hc : (choose (.mapNext 1)).run P w = .ok 0 w := by simp [choose, Sem.run, Question.forced]
        have e6 : (⟨[]⟩ : Array MapEntry).filter (fun e => decide (e.born < since)) = #[] := by simp
        have e7 : (⟨[]⟩ : Array MapEntry).filter (fun e => decide (e.born ≥ since)) = #[] := by simp
        have e8 : ((if (#[] : Array MapEntry).isEmpty = true then (#[none] : Array (Option MapEntry)) else #[]) ++ ((#[] : Array MapEntry) ++ #[]).map some) = #[none] := by simp
        simp only [execOp, Instr.next, h1.eval, Sem.run_bind, hg, hgm, Result.andThen_ok, hbad, eleft, hL0, Bool.false_eq_true, if_false, Sem.run_pure, e6, e7, e8]
        have e9 : (#[none] : Array (Option MapEntry)).size = 1 := rfl
        have e10 : (#[none] : Array (Option MapEntry))[0]? = some none := rfl
        simp only [e9, hc, Result.andThen_ok, e10, Sem.run_pure]
      | cons x t =>
        rw [hle] at g8 hleft
        have g9 : allL (oneOf M nx i m since seen cl k) (x :: t) = true := g8
        obtain ⟨L', hL'⟩ : ∃ L', L' = L.filter fun e => !seen.contains e.born := ⟨_, rfl⟩
        rw [← hL'] at hleft eleft
        have hlen := renM_len hleft
        have hold : L'.toArray.filter (fun e => decide (e.born < since)) = L'.toArray := by
          apply Array.toList_inj.1
          simp only [List.filter_toArray]
          rw [List.filter_eq_self]
          intro en hen
          obtain ⟨j, hj, hje⟩ := List.mem_iff_getElem.1 hen
          obtain ⟨key, v, hm, _, _⟩ := renM_at hleft (j := j) (e := en) (by rw [List.getElem?_eq_getElem hj, hje])
          obtain ⟨q1, _⟩ := both_eq.1 (show both (Nat.blt en.born since) _ = true from allL_spec g9 _ hm)
          rw [Nat.blt_eq] at q1
          simpa using q1
        have hnew : L'.toArray.filter (fun e => decide (e.born ≥ since)) = #[] := by
          apply Array.toList_inj.1
          simp only [List.filter_toArray]
          show L'.filter _ = []
          rw [List.filter_eq_nil_iff]
          intro en hen
          obtain ⟨j, hj, hje⟩ := List.mem_iff_getElem.1 hen
          obtain ⟨key, v, hm, _, _⟩ := renM_at hleft (j := j) (e := en) (by rw [List.getElem?_eq_getElem hj, hje])
          obtain ⟨q1, _⟩ := both_eq.1 (show both (Nat.blt en.born since) _ = true from allL_spec g9 _ hm)
          rw [Nat.blt_eq] at q1
          simp; omega
        have hpos : 0 < L'.length := by rw [hlen]; simp
        have hne : L'.toArray.isEmpty = false := by rw [List.isEmpty_toArray]; cases L' <;> simp at hpos ⊢
        obtain ⟨idx, w1, hch, hidx, hw1⟩ := run_choose (P := P) (w := w) hpos
        obtain ⟨en, hen⟩ : ∃ en, L'[idx]? = some en := ⟨L'[idx], List.getElem?_eq_getElem hidx⟩
        obtain ⟨key, v, hm, hk1, hv1⟩ := renM_at hleft hen
        obtain ⟨_, q2⟩ := both_eq.1 (show both (Nat.blt en.born since) (appL seen [en.born] fun seen' => turnK M nx i (.mit m since seen' cl) (k (.tup [.bool true, key, v]))) = true from allL_spec g9 _ hm)
        rw [appL_eq] at q2
        have hheap : w1.heap = w.heap := by rcases hw1 with hw1 | hw1 <;> rw [hw1]
        have hsame1 : Same w w1 := by
          rcases hw1 with hw1 | hw1 <;> rw [hw1]
          · exact .refl w
          · exact ⟨rfl, rfl, rfl, Nat.le_refl _⟩
        have s1 : Rel T { c with w0 := w1 } ρ fr ds M nx a w1 := ⟨s.size, s.slots, s.dfs, s.rep.heap (by intro b o hb; show w1.heap[b]? = _; rw [hheap]; exact hb), s.nx, .refl w1, s.glob⟩
        have hb1 : w1.heap[e.1]? = some (.mapIter (some em.1) since ⟨seen⟩ last) := by rw [hheap]; exact hb
        obtain ⟨M', k1, k2⟩ := turnK_spec (w' := w1.putObj e.1 (.mapIter (some em.1) since ⟨seen ++ [en.born]⟩ cl)) q2 s1 h3 rfl rfl he (fun b hne => World.putObj_heap_other hne) (by
          rw [World.putObj_heap_same (mem_lt (w := w1) hb1)]; exact ⟨em, hem, rfl, h0⟩)
        refine ⟨_, .tuple #[.bool true, en.key, en.val], ρ, M', _, _, .refl ρ, by simp [ren, renL, hk1, hv1], k1, k2, hsame1.trans (.putObj _ _ _), .inl rfl, ?_⟩
        rintro ⟨d, op', ty, p, af, gg⟩ rfl
        have hset : ∀ o, (setObj e.1 o).run P w1 = .ok () (w1.putObj e.1 o) := fun o => by simp [setObj, Sem.run, hb1, World.putObj]
        have hcand : ((if (L'.toArray.filter fun e => decide (e.born < since)).isEmpty = true then (#[none] : Array (Option MapEntry)) else #[]) ++ ((L'.toArray.filter fun e => decide (e.born < since)) ++ (L'.toArray.filter fun e => decide (e.born ≥ since))).map some) = L'.toArray.map some := by
          rw [hold, hnew, hne]; simp
        simp only [execOp, Instr.next, h1.eval, Sem.run_bind, hg, hgm, Result.andThen_ok, hbad, eleft]
        have e9 : ((⟨L'⟩ : Array MapEntry).map some).size = L'.length := by simp
        have hcand' := hcand
        simp only [show L'.toArray = (⟨L'⟩ : Array MapEntry) from rfl] at hcand'
        simp only [Bool.false_eq_true, if_false, Sem.run_pure, Result.andThen_ok, hcand', e9]
        rw [Sem.run_bind, hch]
        simp only [Result.andThen_ok]
        have e10 : ((⟨L'⟩ : Array MapEntry).map some)[idx]? = some (some en) := by simp [hen]
        simp only [e10, Sem.run_bind]
        have e11 : (⟨seen⟩ : Array Nat).push en.born = ⟨seen ++ [en.born]⟩ := by apply Array.toList_inj.1; simp
        rw [e11]
        simp [hset]
  | _ => cases g
end
end Go.Ev
set_option linter.unusedSimpArgs false
set_option linter.unusedVariables false
namespace Go.Ev
open Go.Sl
noncomputable section
variable {P : Program} {T : Tabs P} {c : Cn} {ρ : Env} {fr : Tr AV} {ds : List AD} {M : Mem} {nx : Nat} {a : Act} {w : World}

/-! ### bytes of a text -/
def u8A (l : List Nat) (k : List AV → Bool) : Bool := mapL (fun (b : Nat) (k : AV → Bool) => k (.int .u8 (.ofNat b))) l k
theorem u8A_spec {l : List Nat} {k : List AV → Bool} (h : u8A l k = true) : k (l.map fun b => .int .u8 (.ofNat b)) = true := by
  obtain ⟨ys, h1, h2⟩ := mapL_spec (p := fun b v => v = AV.int .u8 (.ofNat b)) (fun x k h => ⟨_, rfl, h⟩) h
  rw [all2_map h1] at h2; exact h2
theorem u8A_ren (ρ : Env) : ∀ {l : List Nat}, small l = true → RL ρ (l.map fun b => .int .u8 (.ofNat b)) (u8s (l.map UInt8.ofNat))
  | [], _ => RL.nil
  | x :: l, h => by
    obtain ⟨h1, h2⟩ := small_cons h
    have : u8s ((x :: l).map UInt8.ofNat) = .int .u8 (x : Nat) :: u8s (l.map UInt8.ofNat) := by simp only [u8s, List.map_cons, u8_ofNat h1]
    rw [this]
    exact RL.cons rfl (u8A_ren ρ h2)
theorem u8A_one (l : List Nat) : allL one (l.map fun b => AV.int .u8 (.ofNat b)) = true := allL_mk fun x hx => by
  obtain ⟨b, _, rfl⟩ := List.mem_map.1 hx; rfl
def bytesOfK (T : Tabs P) (fr : Tr AV) (M : Mem) (nx : Nat) (ts td : TypeId) (x : Operand) (k : AV → Mem → Nat → Bool) : Bool := argK T fr x fun v => match v with
  | .str l => knownK T ts (Option.rec false (fun r => match r with
    | ⟨.sl e, _, _⟩ => Option.rec false (fun q => match q with
      | ⟨.int .u8, _, _⟩ => lenL l 0 fun n => u8A l fun cells => newK M nx (.row e 1 cells 0) (k (.sl nx 0 n n true))
      | _ => false) (T.T e)
    | _ => false) (T.T td))
  | _ => false
theorem bytesOfK_spec {ts td : TypeId} {x : Operand} {k : AV → Mem → Nat → Bool} (h : bytesOfK T fr M nx ts td x k = true) (s : Rel T c ρ fr ds M nx a w) : Eff P c ρ a w (.convert ts td x) k := by
  obtain ⟨v, r, h1, g⟩ := argK_spec h s
  clear h
  cases v <;> try (cases g; done)
  rename_i l
  obtain ⟨⟨dsc, hs⟩, g⟩ := knownK_spec g
  obtain ⟨⟨d, _, _⟩, h2, g⟩ := opt_rec g
  cases d <;> try (cases g; done)
  rename_i e
  obtain ⟨⟨d', _, _⟩, h3, g⟩ := opt_rec g
  cases d' <;> try (cases g; done)
  rename_i kd
  cases kd <;> try (cases g; done)
  have hd := (T.okT _ _ h2).td
  have he := (T.okT _ _ h3).td
  obtain ⟨s1, rfl⟩ := ren_str h1.ren
  have g : lenL l 0 (fun n => u8A l fun cells => newK M nx (.row e 1 cells 0) (k (.sl nx 0 n n true))) = true := g
  rw [lenL_eq] at g
  have g := u8A_spec g
  have hr := Lib.run_convert_string_bytes (P := P) w ts td e ⟨⟨l.map UInt8.ofNat⟩⟩ hs hd he
  have hge := grownCap_ge w l.length 0 e
  have hnew := Lib.bytesWorld_at_new w e ⟨⟨l.map UInt8.ofNat⟩⟩
  have hcells : Lib.bytesCells w e ⟨⟨l.map UInt8.ofNat⟩⟩ = ⟨u8s (l.map UInt8.ofNat) ++ List.replicate (grownCap w l.length 0 e - l.length) (.int .u8 0)⟩ := by
    apply Array.ext'; simp [Lib.bytesCells, u8s, ByteArray.size]
  rw [hcells] at hnew
  have hold : le (mem w) (mem (Lib.bytesWorld w e ⟨⟨l.map UInt8.ofNat⟩⟩)) := fun k u hk => by
    show (Lib.bytesWorld w e ⟨⟨l.map UInt8.ofNat⟩⟩).heap[k]? = some u
    rw [Lib.bytesWorld_at_old w e _ k (mem_lt hk)]; exact hk
  obtain ⟨M', g1, g2⟩ := Tr.set_spec g
  rw [forceN_eq] at g2
  rw [← s.nx] at g1
  have hrep := s.rep.add (w' := Lib.bytesWorld w e ⟨⟨l.map UInt8.ofNat⟩⟩) (e := (w.heap.size, 0, grownCap w l.length 0 e - l.length)) g1 rfl (by simp) hold (by
    rw [hnew]
    refine ⟨[], _, _, _, (u8A_ren ρ s1).ext (Ext.one _ _), rfl, rfl, ?_, ?_, u8A_one l⟩
    · simp
    · right; right; simp [u8s_length])
  have hsame : Same w (Lib.bytesWorld w e ⟨⟨l.map UInt8.ofNat⟩⟩) := ⟨rfl, rfl, rfl, by rw [Lib.bytesWorld_size]; omega⟩
  refine ⟨.sl nx 0 l.length l.length true, .slice (some ⟨w.heap.size, 0, none⟩) l.length (grownCap w l.length 0 e), _, M', _, _, Ext.one _ _, ?_, by rw [Env.length_app, s.nx]; exact g2, hrep, hsame, .inl rfl, ?_⟩
  · rw [← s.nx, ren_newSl]; simp only [cond_true]; rw [show l.length + (grownCap w l.length 0 e - l.length) = grownCap w l.length 0 e by omega]
  · rintro ⟨d, op', ty, pos, af, gg⟩ rfl
    simp only [execOp, h1.eval, Sem.run_bind, strV]
    rw [hr]
    simp [ByteArray.size]

/-! ### a byte literal's mark -/
def markK (T : Tabs P) (fr : Tr AV) (M : Mem) (nx : Nat) (ts td : TypeId) (x : Operand) (k : AV → Mem → Nat → Bool) : Bool := argK T fr x fun v => match v with
  | .sl i o n cc sb => both (Nat.beq ts td) (Option.rec false (fun r => match r with
    | ⟨.sl e, _, _⟩ => Option.rec false (fun q => match q with
      | ⟨.int .u8, _, _⟩ => Option.rec false (fun ck => match ck with
        | .row t' sz l _ => lenL l 0 fun m => forceN (Nat.succ m) fun m' => turnK M nx i (.row t' sz l m') (k (.sl i o n cc sb))
        | _ => false) (M.get i)
      | _ => false) (T.T e)
    | _ => false) (T.T td))
  | _ => false
theorem markK_spec {ts td : TypeId} {x : Operand} {k : AV → Mem → Nat → Bool} (h : markK T fr M nx ts td x k = true) (s : Rel T c ρ fr ds M nx a w) : Eff P c ρ a w (.convert ts td x) k := by
  obtain ⟨v, r, h1, g⟩ := argK_spec h s
  clear h
  cases v <;> try (cases g; done)
  rename_i i o n cc sb
  obtain ⟨g0, g⟩ := both_eq.1 g
  obtain rfl := Nat.eq_of_beq_eq_true g0
  obtain ⟨⟨d, _, _⟩, h2, g⟩ := opt_rec g
  cases d <;> try (cases g; done)
  rename_i e
  obtain ⟨⟨d', _, _⟩, h3, g⟩ := opt_rec g
  cases d' <;> try (cases g; done)
  rename_i kd
  cases kd <;> try (cases g; done)
  obtain ⟨ck, h4, g⟩ := opt_rec g
  cases ck <;> try (cases g; done)
  rename_i t' sz l fz
  have g : lenL l 0 (fun m => forceN (Nat.succ m) fun m' => turnK M nx i (.row t' sz l m') (k (.sl i o n cc sb))) = true := g
  rw [lenL_eq, forceN_eq] at g
  have hd := (T.okT _ _ h2).td
  have he := (T.okT _ _ h3).td
  obtain ⟨en, q1, ⟨pre, vs, ex, fzr, a1, a2, a3, a4, a5, a6⟩, _⟩ := s.rep.own _ _ h4
  have e1 := h1.ren
  simp only [ren, q1, Option.map_some, Option.some.injEq] at e1
  subst e1
  have hsh : w.shape? en.1 = some (t', (pre ++ (vs ++ ex)).length) := by simp [World.shape?, a2]
  have hnew : ∃ fz', (w.freeze ⟨en.1, (pre ++ (vs ++ ex)).length, none⟩ 1).heap[en.1]? = some (.cells ⟨pre ++ (vs ++ ex)⟩ t' fz') := by
    obtain ⟨lo, hi⟩ := fzr
    refine ⟨if (lo == hi) = true then ((pre ++ (vs ++ ex)).length, (pre ++ (vs ++ ex)).length + 1) else (min lo (pre ++ (vs ++ ex)).length, max hi ((pre ++ (vs ++ ex)).length + 1)), ?_⟩
    simp only [World.freeze, Nat.one_ne_zero, if_false, Array.getElem?_modify, if_true, a2, Option.map_some]
  obtain ⟨fz', hnew⟩ := hnew
  have hold : ∀ b, b ≠ en.1 → (w.freeze ⟨en.1, (pre ++ (vs ++ ex)).length, none⟩ 1).heap[b]? = w.heap[b]? := fun b hb => by
    simp [World.freeze, Array.getElem?_modify, Ne.symm hb]
  obtain ⟨M', k1, k2⟩ := turnK_spec g s h4 rfl rfl q1 hold (show rowIs ρ en _ t' sz l (l.length + 1) from ⟨pre, vs, ex, fz', a1, hnew, a3, a4, .inl (Nat.lt_succ_self _), a6⟩)
  refine ⟨_, _, ρ, M', _, _, .refl ρ, h1.ren, k1, k2, ⟨rfl, rfl, rfl, by simp [World.freeze]⟩, .inl rfl, ?_⟩
  rintro ⟨d, op', ty, pos, af, gd⟩ rfl
  simp only [execOp, h1.eval]
  simp [convert, run_underlying hd, run_underlying he, markStringish, hsh]
def toSlK (T : Tabs P) (fr : Tr AV) (M : Mem) (nx : Nat) (ts td : TypeId) (x : Operand) (k : AV → Mem → Nat → Bool) : Bool := argK T fr x fun v => match v with
  | .str _ => bytesOfK T fr M nx ts td x k
  | _ => markK T fr M nx ts td x k
theorem toSlK_spec {ts td : TypeId} {x : Operand} {k : AV → Mem → Nat → Bool} (h : toSlK T fr M nx ts td x k = true) (s : Rel T c ρ fr ds M nx a w) : Eff P c ρ a w (.convert ts td x) k := by
  obtain ⟨v, r, h1, g⟩ := argK_spec h s
  cases v <;> first | exact bytesOfK_spec g s | exact markK_spec g s

/-! ### literals of slices -/
def sliceCellsK (P : Program) (T : Tabs P) (fr : Tr AV) (t : TypeId) (len : Nat) (parts : Array (Nat × Operand)) (k : Nat → Nat → List AV → Bool) : Bool := Option.rec false (fun r => match r with
  | ⟨.sl e, _, _⟩ => Option.rec false (fun q => argsK T fr (parts.toList.map (·.2)) fun vs => zeroK P e fun z => lenL (cellsA z) 0 fun j => both (Nat.beq j q.size) (both (Nat.blt 0 (Nat.mul len q.size)) (both (Nat.ble (Nat.mul len q.size) 16777216)
      (repApp (cellsA z) len [] fun base => fillK (fun i => some (Nat.mul i q.size, q.size)) (parts.toList.map (·.1)) vs base fun cells => both (allL one cells) (k e q.size cells))))) (T.T e)
  | _ => false) (T.T t)
def sliceLitK (P : Program) (T : Tabs P) (fr : Tr AV) (M : Mem) (nx : Nat) (t : TypeId) (len : Nat) (parts : Array (Nat × Operand)) (k : AV → Mem → Nat → Bool) : Bool := sliceCellsK P T fr t len parts fun e sz cells => newK M nx (.row e sz cells 0) (k (.sl nx 0 len len false))
def sliceLit0K (T : Tabs P) (M : Mem) (nx : Nat) (t : TypeId) (k : AV → Mem → Nat → Bool) : Bool := Option.rec false (fun r => match r with
  | ⟨.sl e, _, _⟩ => Option.rec false (fun q => newK M nx (.row e q.size [] 0) (k (.sl nx 0 0 0 false))) (T.T e)
  | _ => false) (T.T t)
theorem sliceCellsK_spec {t : TypeId} {len : Nat} {parts : Array (Nat × Operand)} {k : Nat → Nat → List AV → Bool} (h : sliceCellsK P T fr t len parts k = true) (s : Rel T c ρ fr ds M nx a w) :
    ∃ e sz cells cv, RL ρ cells cv ∧ allL one cells = true ∧ k e sz cells = true ∧ ∀ o : Oper, o.op = .buildSlice t len parts → (execOp a.eval o).run P w = .ok (.value (.slice (some ⟨w.heap.size, 0, none⟩) len len)) (w.alloc (.cells ⟨cv⟩ e)) := by
  obtain ⟨⟨d, _, _⟩, h1, g⟩ := opt_rec h
  clear h
  cases d <;> try (cases g; done)
  rename_i e
  have ht := (T.okT _ _ h1).td
  obtain ⟨q, h2, g⟩ := opt_rec g
  obtain ⟨vs, rs, h3, g⟩ := argsK_spec s g
  obtain ⟨z, h4, g⟩ := opt_rec g
  obtain ⟨z', z1, z2, z3⟩ := zeroA_spec h4 ρ
  rw [lenL_eq] at g
  obtain ⟨c1, g⟩ := both_eq.1 g
  obtain ⟨c2, g⟩ := both_eq.1 g
  obtain ⟨c3, g⟩ := both_eq.1 g
  rw [repApp_eq, List.append_nil] at g
  have c1 := Nat.eq_of_beq_eq_true c1
  rw [Nat.blt_eq] at c2
  have c2 : 0 < len * q.size := c2
  have c3 : len * q.size ≤ 16777216 := Nat.le_of_ble_eq_true c3
  have hz := cellsA_spec z2
  have hzl : z'.cells.toList.length = q.size := by rw [hz.length]; exact c1
  obtain ⟨cells, cv, g1, g2, g3⟩ := fillK_spec g h3.1 (hz.flat len)
  obtain ⟨g4, g5⟩ := both_eq.1 g1
  obtain ⟨i, hi, hsz⟩ := Option.map_eq_some_iff.1 (T.okT _ _ h2).size
  have hiz : i.zero = some z' := by unfold zeroV at z1; rw [hi] at z1; exact z1
  have hbase : (Array.range (len * i.size)).map (z'.cells[· % z'.cells.size]!) = ⟨(List.replicate len z'.cells.toList).flatten⟩ := by
    have h0 : 0 < z'.cells.toList.length := by
      rcases Nat.eq_zero_or_pos q.size with h | h
      · rw [h] at c2; simp at c2
      · omega
    have := made_flat z'.cells.toList h0 len
    rw [hzl] at this
    rw [hsz]
    exact Array.toList_inj.1 this
  have hfill := fill_list g3
  have hpart := parts_map a.eval parts.toList
  have hev : (parts.toList.map (·.2)).map a.eval = rs := (st_full none a (sat_all w)).evals (h3.2 none w (mem w))
  rw [hev] at hpart
  have hrun := run_buildSlice w t e len (parts.map fun x => (x.1, a.eval x.2)) ⟨cv⟩ i z' ht hi hiz (by rw [hsz]; omega) (by rw [hsz]; omega) (by rw [hbase, hsz, Array.toList_map, hpart]; exact hfill)
  refine ⟨e, q.size, cells, cv, g2, g4, g5, ?_⟩
  rintro ⟨d, op', ty, pos, af, gg⟩ rfl
  simp [execOp, hrun]
theorem sliceLitK_spec {t : TypeId} {len : Nat} {parts : Array (Nat × Operand)} {k : AV → Mem → Nat → Bool} (h : sliceLitK P T fr M nx t len parts k = true) (s : Rel T c ρ fr ds M nx a w) : Eff P c ρ a w (.buildSlice t len parts) k := by
  obtain ⟨e, sz, cells, cv, g2, g4, g5, hr⟩ := sliceCellsK_spec h s
  obtain ⟨M', k1, k2, k3⟩ := newK_spec (κ := 0) (o := .cells ⟨cv⟩ e) g5 s (.inl rfl) rfl (sh_new g2 g4)
  exact ⟨.sl nx 0 len len false, .slice (some ⟨w.heap.size, 0, none⟩) len len, _, M', _, _, Ext.one _ _, by rw [← s.nx]; exact ren_newSl, k1, k2, k3, .inl rfl, hr⟩
theorem sliceLit0K_spec {t : TypeId} {k : AV → Mem → Nat → Bool} (h : sliceLit0K T M nx t k = true) (s : Rel T c ρ fr ds M nx a w) : Eff P c ρ a w (.buildSlice t 0 #[]) k := by
  obtain ⟨⟨d, _, _⟩, h1, g⟩ := opt_rec h
  clear h
  cases d <;> try (cases g; done)
  rename_i e
  have ht := (T.okT _ _ h1).td
  obtain ⟨q, h2, g⟩ := opt_rec g
  obtain ⟨M', k1, k2, k3⟩ := newK_spec (κ := 0) (o := .cells ⟨[]⟩ e) g s (.inl rfl) rfl (sh_new RL.nil rfl)
  refine ⟨.sl nx 0 0 0 false, .slice (some ⟨w.heap.size, 0, none⟩) 0 0, _, M', _, _, Ext.one _ _, by rw [← s.nx]; exact ren_newSl, k1, k2, k3, .inl rfl, ?_⟩
  rintro ⟨d, op', ty, pos, af, gg⟩ rfl
  have hsz := Sl.run_sizeOf (T.okT _ _ h2).size
  simp [execOp, Instr.buildSlice, run_underlying ht, hsz, Instr.fill, run_newRow]
  congr 2; apply Array.ext'; simp

/-! ### what is appended or copied -/
def srcK (M : Mem) (sz : Nat) (v : AV) (k : Nat → List AV → Bool) : Bool := match v with
  | .nils => k 0 []
  | .em _ _ _ _ => k 0 []
  | .sl i o n _ _ => Option.rec false (fun ck => Option.rec false (fun l => splitL l o fun _ y => splitL y (Nat.mul n sz) fun A _ => both (allL one A) (k n A)) ck.cells) (M.get i)
  | .str l => both (Nat.beq sz 1) (lenL l 0 fun n => u8A l fun A => k n A)
  | _ => false
structure SrcOk (P : Program) (ρ : Env) (w : World) (sz : Nat) (r : Value) (n : Nat) (A : List AV) (us : List Value) : Prop where
  rl : RL ρ A us
  ones : allL (α := AV) Go.Ev.one A = true
  len : us.length = n * sz
  run : ∀ w' : World, (∀ (b : Nat) (o : Obj), w.heap[b]? = some o → w'.heap[b]? = some o) → (Builtin.lenOf r).run P w' = .ok n w' ∧ (Builtin.firstCells sz n r).run P w' = .ok ⟨us⟩ w'
theorem srcK_spec {sz : Nat} {v : AV} {r : Value} {k : Nat → List AV → Bool} (h : srcK M sz v k = true) (hr : ren ρ v = some r) {hF : Hp} (s : Rep ρ M hF w) : ∃ n A us, k n A = true ∧ SrcOk P ρ w sz r n A us := by
  cases v with
  | nils =>
    obtain rfl : r = .slice none 0 0 := by simpa [ren] using hr.symm
    exact ⟨0, [], [], h, ⟨RL.nil, rfl, by simp, fun w' _ => ⟨by simp [Builtin.lenOf], by simp [Builtin.firstCells]⟩⟩⟩
  | em i o o' sb =>
    simp only [ren, Option.map_eq_some_iff] at hr
    obtain ⟨e, _, rfl⟩ := hr
    exact ⟨0, [], [], h, ⟨RL.nil, rfl, by simp, fun w' _ => ⟨by simp [Builtin.lenOf], by simp [Builtin.firstCells, loadCells, loadCellsFrom]⟩⟩⟩
  | sl i o n cc sb =>
    obtain ⟨ck, h1, g⟩ := opt_rec h
    obtain ⟨l, h2, g⟩ := opt_rec g
    obtain ⟨e, cs, t, fz, vs, he, hb, hl, hA⟩ := s.cells h1 h2
    obtain ⟨g1, g⟩ := splitL_spec g
    obtain ⟨g2, g⟩ := splitL_spec g
    obtain ⟨g3, g⟩ := both_eq.1 g
    have hsub := (hl.drop o).take (n * sz)
    have hn : ((vs.drop o).take (n * sz)).length = n * sz := by rw [hsub.length]; exact List.length_take_of_le g2
    simp only [ren, he, Option.map_some, Option.some.injEq] at hr
    subst hr
    refine ⟨n, _, _, g, ⟨hsub, g3, hn, fun w' hw' => ⟨by simp [Builtin.lenOf], ?_⟩⟩⟩
    have hAt := hA.sub (i := o) (n := n * sz)
    have := run_loadCells_at (P := P) (hw' _ _ hb) hAt
    rw [hn] at this
    simp only [Builtin.firstCells]
    exact this
  | str l =>
    obtain ⟨g1, g⟩ := both_eq.1 h
    obtain rfl := Nat.eq_of_beq_eq_true g1
    rw [lenL_eq] at g
    have g := u8A_spec g
    obtain ⟨s1, rfl⟩ := ren_str hr
    refine ⟨l.length, _, _, g, ⟨u8A_ren ρ s1, u8A_one l, by simp, fun w' _ => ?_⟩⟩
    have hS := Src.str (P := P) (cx := ⟨0, [], mem w', w', none⟩) (Γ := []) (l := l.map UInt8.ofNat)
    have h1 := hS.len w'
    have h2 := hS.cells w' (sat_all w')
    rw [List.length_map] at h1 h2
    exact ⟨h1, h2⟩
  | _ => cases h
end
end Go.Ev
set_option linter.unusedSimpArgs false
set_option linter.unusedVariables false
namespace Go.Ev
open Go.Sl
noncomputable section
variable {P : Program} {T : Tabs P} {c : Cn} {ρ : Env} {fr : Tr AV} {ds : List AD} {M : Mem} {nx : Nat} {a : Act} {w : World}

/-- Fresh: these elements, and those behind them. -/
def freshK (q : TRow) (e : TypeId) (nx need : Nat) (M : Mem) (fz : Nat) (olds news : List AV) (k : AV → Mem → Nat → Bool) : Bool :=
  both (Nat.ble (Nat.mul need q.bytes) 140737488355328) (both (Nat.ble need 9223372036854775807) (appL olds news fun cells => newK M nx (.row e q.size cells fz) (k (.sl nx 0 need need true))))
/-- The cells of a slice's elements, and of what stands behind them. -/
def appendK (P : Program) (T : Tabs P) (fr : Tr AV) (M : Mem) (nx : Nat) (t tx : TypeId) (x y : Operand) (k : AV → Mem → Nat → Bool) : Bool := argK T fr x fun v => argK T fr y fun u => Option.rec false (fun r => match r with
  | ⟨.sl e, _, _⟩ => Option.rec false (fun q => Option.rec false (fun r' => both (match r'.td with | .sl _ => true | .str => true | _ => false) (zeroK P e fun z => lenL (cellsA z) 0 fun zn => both (Nat.beq zn q.size) (srcK M q.size u fun m news => match v with
    | .nils => Nat.rec (k .nils M nx) (fun _ _ => freshK q e nx m M 0 [] news k) m
    | .em i o o' sb => Nat.rec (k (.em i o o' sb) M nx) (fun _ _ => Bool.rec (freshK q e nx m M 0 [] news k) (Option.rec false (fun ck => match ck with
      | .row e' s' l fz => both (Nat.beq e' e) (both (Nat.beq s' q.size) (lenL l 0 fun n => both (Nat.beq n o') (both (Nat.ble fz o') (M.del i fun M1 => freshK q e nx m M1 0 [] news k))))
      | _ => false) (M.get i)) sb) m
    | .sl i o n c sb => both (Nat.ble n c) (Nat.rec (k (.sl i o n c sb) M nx) (fun _ _ => forceN (Nat.add n m) fun need => Option.rec false (fun ck => match ck with
      | .row e' s' l fz => both (Nat.beq e' e) (both (Nat.beq s' q.size) (Bool.rec
          (Bool.rec (splitL l o fun _ B => splitL B (Nat.mul n q.size) fun olds _ => both (allL one olds) (freshK q e nx need M 0 olds news k))
            (both (Nat.beq n c) (lenL l 0 fun len => both (Nat.beq len (Nat.add o (Nat.mul n q.size))) (both (Nat.ble fz len) (splitL l o fun _ olds => M.del i fun M1 => freshK q e nx need M1 (Nat.mul n q.size) olds news k)))) sb)
          (forceN (Nat.add o (Nat.mul n q.size)) fun at' => both (Nat.ble fz at') (splitL l at' fun A B => splitL B (Nat.mul m q.size) fun _ C => appL news C fun D => appL A D fun l' => turnK M nx i (.row e' s' l' fz) (k (.sl i o need c sb))))
          (Nat.ble need c)))
      | .ro _ l => Bool.rec (Bool.rec (splitL l o fun _ B => splitL B (Nat.mul n q.size) fun olds _ => both (allL one olds) (freshK q e nx need M 0 olds news k)) false sb) false (Nat.ble need c)
      | _ => false) (M.get i)) m)
    | _ => false))) (T.T tx)) (T.T e)
  | _ => false) (T.T t)
/-- A fresh row, in the world where a new block stands. -/
theorem freshK_new {q : TRow} {e : TypeId} {need fz : Nat} {olds news : List AV} {k : AV → Mem → Nat → Bool} (h : freshK q e nx need M fz olds news k = true) (s : Rel T c ρ fr ds M nx a w) {ov nv : List Value} (ho : RL ρ olds ov) (hn : RL ρ news nv) (ho1 : allL one olds = true) (hn1 : allL one news = true) {cap : Nat} (hcap : need ≤ cap) {tail : List Value} (ht : tail.length = (cap - need) * q.size) {w' : World} (hw' : w' = w.drew.alloc (.cells ⟨ov ++ nv ++ tail⟩ e)) :
    ∃ M' ρ', Ext ρ ρ' ∧ ren ρ' (.sl nx 0 need need true) = some (.slice (some ⟨w.heap.size, 0, none⟩) need cap) ∧ k (.sl nx 0 need need true) M' ρ'.length = true ∧ Rep ρ' M' c.hF w' ∧ Same w w' := by
  obtain ⟨_, g⟩ := both_eq.1 h
  obtain ⟨_, g⟩ := both_eq.1 g
  rw [appL_eq] at g
  have hall : allL one (olds ++ news) = true := allL_mk fun x hx => by
    rcases List.mem_append.1 hx with hx | hx
    · exact allL_spec ho1 x hx
    · exact allL_spec hn1 x hx
  obtain ⟨pre, vs, ex, fzr, q1, q2, q3, q4, q5, q6⟩ := row_new (κ := cap - need) (t := e) (s := q.size) (b := w.heap.size) (ho.append hn) hall (ex := tail) (by rw [ht]; exact Nat.le_refl _)
  obtain ⟨M', k1, k2, k3⟩ := newK_spec (κ := cap - need) (o := .cells ⟨ov ++ nv ++ tail⟩ e) g s (.inr hw') rfl ⟨pre, vs, ex, fzr, q1, q2, q3, q4, by unfold frz at q5 ⊢; omega, q6⟩
  refine ⟨M', _, Ext.one _ _, ?_, k1, k2, k3⟩
  rw [← s.nx, ren_newSl]; simp only [cond_true]; rw [show need + (cap - need) = cap by omega]
theorem freshK_bounds {q : TRow} {e : TypeId} {need fz : Nat} {olds news : List AV} {k : AV → Mem → Nat → Bool} (h : freshK q e nx need M fz olds news k = true) : need * q.bytes ≤ 140737488355328 ∧ need ≤ 9223372036854775807 := by
  obtain ⟨h1, g⟩ := both_eq.1 h
  obtain ⟨h2, g⟩ := both_eq.1 g
  exact ⟨Nat.le_of_ble_eq_true h1, Nat.le_of_ble_eq_true h2⟩
/-- The block of a row goes over to a new number. -/
theorem freshK_move {q : TRow} {e i : Nat} {need o fz0 : Nat} {l olds news : List AV} {k : AV → Mem → Nat → Bool} {M1 : Mem} {fz : Nat} (h : freshK q e nx need M1 fz olds news k = true) (s : Rel T c ρ fr ds M nx a w) (hi : M.get i = some (.row e q.size l fz0)) (hd : ∀ m, M1.get m = if m = i then none else M.get m)
    {nv : List Value} {en : Nat × Nat × Nat} (hen : ρ[i]? = some en) (hol : olds = (l.drop o)) (hn : RL ρ news nv) (hn1 : allL one news = true) (hlen : nv.length = (need * q.size) - olds.length) (hle : olds.length ≤ need * q.size) (hol2 : o ≤ l.length) (hfz : fz0 ≤ o + olds.length ∧ olds.length ≤ fz)
    {cap : Nat} (hcap : need ≤ cap) (hκ : (cap * q.size) ≤ olds.length + en.2.2 * q.size) :
    ∃ w' M' ρ', (storeCells ⟨en.1, en.2.1 + l.length, none⟩ nv).run P w = .ok () w' ∧ Ext ρ ρ' ∧ ren ρ' (.sl nx 0 need need true) = some (.slice (some ⟨en.1, en.2.1 + o, none⟩) need cap) ∧ k (.sl nx 0 need need true) M' ρ'.length = true ∧ Rep ρ' M' c.hF w' ∧ Same w w' := by
  obtain ⟨_, g⟩ := both_eq.1 h
  obtain ⟨_, g⟩ := both_eq.1 g
  rw [appL_eq] at g
  obtain ⟨e0, he0, ⟨pre, vs, ex, fzr, a1, a2, a3, a4, a5, a6⟩, hF0⟩ := s.rep.own _ _ hi
  rw [hen] at he0; cases he0
  replace a5 := a5.resolve_left (by rw [hol] at hfz; simp at hfz; omega)
  have hvl := a1.length
  have hlo : olds.length = l.length - o := by rw [hol]; simp
  have hroom : nv.length ≤ ex.length := by
    have : need * q.size ≤ cap * q.size := Nat.mul_le_mul_right _ hcap
    omega
  obtain ⟨w', r, r1, r2, r3⟩ := run_store_list (P := P) (o := en.2.1 + l.length) nv 0 (pre ++ (vs ++ ex)) w a2 (by simp; omega) (frz_free a5 (by omega) (by simp; omega)) (one_all hn hn1)
  have hnew : splice (pre ++ (vs ++ ex)) (en.2.1 + l.length + 0) nv = (pre ++ vs.take o) ++ ((vs.drop o ++ nv) ++ ex.drop nv.length) := by
    simp only [splice, Nat.add_zero]
    have e1 : pre ++ (vs ++ ex) = (pre ++ vs) ++ ex := by simp
    have e2 : en.2.1 + l.length = (pre ++ vs).length := by simp [a3, hvl]
    rw [e1, e2, List.take_left, ← List.drop_drop, List.drop_left]
    simp only [List.append_assoc]
    congr 1
    rw [← List.append_assoc (vs.take o), List.take_append_drop]
  rw [hnew] at r1
  obtain ⟨M', h1, h2⟩ := Tr.set_spec g
  rw [forceN_eq] at h2
  rw [← s.nx] at h1
  have hdrop := s.rep.drop (i := i) hd
  have hrep := hdrop.put (w' := w') (e := (en.1, en.2.1 + o, cap - need)) h1 (fun j cj ej hj hej hoj q' => by
      rw [hd] at hj
      split at hj
      · cases hj
      · rename_i hne
        exact hne (s.rep.inj j i cj _ ej en hj hi hoj rfl hej hen q')) (hF0 rfl) (fun b ob hb => by
      unfold but at hb
      split at hb
      · cases hb
      · rename_i hne; show w'.heap[b]? = some ob; rw [r2 b hne]; exact hb) (by
      rw [r1]
      refine ⟨pre ++ vs.take o, vs.drop o ++ nv, ex.drop nv.length, fzr, ?_, rfl, ?_, ?_, ?_, ?_⟩
      · rw [hol]; exact ((a1.drop o).append hn).ext (Ext.one _ _)
      · simp; omega
      · simp only [List.length_drop]
        show (cap - need) * q.size ≤ _
        rw [Nat.sub_mul]; omega
      · refine .inr ?_
        unfold frz at a5 ⊢
        simp only [List.length_append, List.length_take, List.length_drop] at a5 ⊢
        show _ ∨ fzr.2 ≤ en.2.1 + o + fz ∨ _
        omega
      · refine allL_mk fun x hx => ?_
        rcases List.mem_append.1 hx with hx | hx
        · rw [hol] at hx; exact allL_spec a6 x (List.mem_of_mem_drop hx)
        · exact allL_spec hn1 x hx)
  refine ⟨w', M', _, r, Ext.one _ _, ?_, by rw [Env.length_app, s.nx]; exact h2, hrep, r3⟩
  rw [← s.nx]
  simp [ren]
  omega

section runs
variable {t tx e : TypeId} {tt : TypeId} {i : TypeInfo} {z : Value}
theorem run_app0 {p : Option Addr} {n cc : Nat} {x : Value} (ht : P.underlying t = some (.slice e)) (htx : appT P tx) (hi : P.info? e = some i) (hlen : (Builtin.lenOf x).run P w = .ok 0 w) (hcells : (Builtin.firstCells i.size 0 x).run P w = .ok ⟨[]⟩ w) (h : n ≤ cc) :
    (Builtin.append_ #[t, tx] tt #[.slice p n cc, x]).run P w = .ok (.slice p n cc) w := by
  have := run_append_stays (p := p) (n := n) (c := cc) (tt := tt) ht htx hi hlen hcells (by omega)
  rw [this]
  cases p <;> simp [storeCells]
theorem run_appIn {b o n cc m : Nat} {x : Value} {us : List Value} {w' : World} (ht : P.underlying t = some (.slice e)) (htx : appT P tx) (hi : P.info? e = some i) (hlen : (Builtin.lenOf x).run P w = .ok m w) (hcells : (Builtin.firstCells i.size m x).run P w = .ok ⟨us⟩ w) (h : n + m ≤ cc)
    (hst : (storeCells ⟨b, o + n * i.size, none⟩ us).run P w = .ok () w') : (Builtin.append_ #[t, tx] tt #[.slice (some ⟨b, o, none⟩) n cc, x]).run P w = .ok (.slice (some ⟨b, o, none⟩) (n + m) cc) w' := by
  have := run_append_stays (p := some ⟨b, o, none⟩) (n := n) (c := cc) (tt := tt) ht htx hi hlen hcells h
  rw [this]
  simp only [Addr.add_mid, hst, Result.andThen_ok]
end runs
theorem tail_len {z : Value} {n sz : Nat} (h : z.cells.size = sz) : (Builtin.zeroCells z.cells n).toList.length = n * sz := by rw [Array.length_toList, size_zeroCells, h]
theorem drew_heap {b : Nat} {o : Obj} (h : w.heap[b]? = some o) : w.drew.heap[b]? = some o := h
theorem appendK_spec {t tx : TypeId} {x y : Operand} {k : AV → Mem → Nat → Bool} (h : appendK P T fr M nx t tx x y k = true) (s : Rel T c ρ fr ds M nx a w) : Eff P c ρ a w (.call ⟨.builtin .append, #[x, y], #[t, tx]⟩) k := by
  obtain ⟨v, vr, h1, g1⟩ := argK_spec h s
  obtain ⟨u, ur, h2, g2⟩ := argK_spec g1 s
  obtain ⟨⟨d, _, _⟩, h3, g3⟩ := opt_rec g2
  clear h g1 g2
  cases d <;> try (cases g3; done)
  rename_i e
  have ht := (T.okT _ _ h3).td
  obtain ⟨q, h4, g4⟩ := opt_rec g3
  obtain ⟨⟨d', _, _⟩, h5, g5⟩ := opt_rec g4
  obtain ⟨hd', g6⟩ := both_eq.1 g5
  have htx : appT P tx := by
    have hx := (T.okT _ _ h5).td
    cases d' <;> try (cases hd'; done)
    · exact .inr hx
    · exact .inl ⟨_, hx⟩
  obtain ⟨z, h6, g7⟩ := opt_rec g6
  obtain ⟨z', z1, z2, z3⟩ := zeroA_spec h6 ρ
  rw [lenL_eq] at g7
  obtain ⟨c1, g8⟩ := both_eq.1 g7
  clear g3 g4 g5 g6 g7
  have hz := cellsA_spec z2
  have hzs : z'.cells.size = q.size := by rw [← Array.length_toList, hz.length]; exact Nat.eq_of_beq_eq_true c1
  obtain ⟨i, hi, hsz⟩ := Option.map_eq_some_iff.1 (T.okT _ _ h4).size
  obtain ⟨i', hi', hby⟩ := Option.map_eq_some_iff.1 (T.okT _ _ h4).bytes
  rw [hi] at hi'; cases hi'
  have hiz : i.zero = some z' := by unfold zeroV at z1; rw [hi] at z1; exact z1
  obtain ⟨m, news, nv, g9, src⟩ := srcK_spec (P := P) g8 h2.ren s.rep
  clear g8
  have hlen := (src.run w (fun _ _ h => h)).1
  have hcells := (src.run w (fun _ _ h => h)).2
  have hcells' := (src.run w.drew (fun _ _ h => drew_heap h)).2
  rw [← hsz] at hcells hcells'
  have hnl : nv.length = m * q.size := src.len
  have fin : ∀ {v r ρ' M' w'}, Ext ρ ρ' → ren ρ' v = some r → k v M' ρ'.length = true → Rep ρ' M' c.hF w' → Same w w' → (∀ tt, (Builtin.append_ #[t, tx] tt #[vr, ur]).run P w = .ok r w') → Eff P c ρ a w (.call ⟨.builtin .append, #[x, y], #[t, tx]⟩) k :=
    fun {v r ρ' M' w'} q1 q2 q3 q4 q5 q6 => ⟨v, r, ρ', M', w', .value r, q1, q2, q3, q4, q5, .inl rfl, by
      rintro ⟨d, op', ty, pos, af, gg⟩ rfl
      simp [execOp, resolve, invoke, builtin, h1.eval, h2.eval, q6 ty]⟩
  have same0 : ∀ {p n cc}, vr = .slice p n cc → n ≤ cc → m = 0 → k v M nx = true → Eff P c ρ a w (.call ⟨.builtin .append, #[x, y], #[t, tx]⟩) k := fun {p n cc} ev hle hm hk => by
    subst ev hm
    have hn0 : nv = [] := List.length_eq_zero_iff.1 (by simpa using hnl)
    subst hn0
    exact fin (.refl ρ) h1.ren (by rw [s.nx]; exact hk) s.rep (.refl w) fun tt => run_app0 ht htx hi hlen hcells hle
  have grow : ∀ {p n cc need olds ov}, vr = .slice p n cc → need = n + m → ¬ n + m ≤ cc → RL ρ olds ov → allL one olds = true → (Builtin.firstCells i.size n (.slice p n cc)).run P w.drew = .ok ⟨ov⟩ w.drew → freshK q e nx need M 0 olds news k = true → Eff P c ρ a w (.call ⟨.builtin .append, #[x, y], #[t, tx]⟩) k :=
    fun {p n cc need olds ov} ev en hng ho ho1 hold hk => by
      subst ev en
      obtain ⟨b1, b2⟩ := freshK_bounds hk
      have hr : ∀ tt, _ := fun tt => run_append_grows (P := P) (w := w) (tt := tt) (p := p) (n := n) (c := cc) ht htx hi hiz hlen hcells' hold hng b2 (growslice_fits (by omega) (by rw [hby]; exact b1))
      have hge := grownCap_ge w (n + m) cc e
      obtain ⟨M', ρ', q1, q2, q3, q4, q5⟩ := freshK_new hk s ho src.rl ho1 src.ones hge (tail := (Builtin.zeroCells z'.cells (grownCap w (n + m) cc e - (n + m))).toList) (tail_len hzs) rfl
      exact fin q1 q2 q3 q4 q5 hr
  have ols0 : ∀ {p cc}, (Builtin.firstCells i.size 0 (.slice p 0 cc)).run P w.drew = .ok ⟨[]⟩ w.drew := fun {p cc} => by cases p <;> simp [Builtin.firstCells, loadCells, loadCellsFrom]
  cases v <;> try (cases g9; done)
  case nils =>
    obtain rfl : vr = .slice none 0 0 := by simpa [ren] using h1.ren.symm
    cases m with
    | zero => exact same0 rfl (Nat.le_refl _) rfl g9
    | succ m => exact grow rfl (by simp) (by omega) RL.nil rfl ols0 g9
  case em i0 o o' sb =>
    have e1 := h1.ren
    simp only [ren, Option.map_eq_some_iff] at e1
    obtain ⟨en, hen, hvr⟩ := e1
    cases m with
    | zero => exact same0 hvr.symm (Nat.zero_le _) rfl g9
    | succ m =>
      cases sb with
      | false =>
        exact grow hvr.symm (by simp) (by simp) RL.nil rfl ols0 g9
      | true =>
        obtain ⟨ck, q1, g10⟩ := opt_rec (show (Option.rec false (fun ck : Ck => match ck with
          | .row e' s' l fz => both (Nat.beq e' e) (both (Nat.beq s' q.size) (lenL l 0 fun n => both (Nat.beq n o') (both (Nat.ble fz o') (M.del i0 fun M1 => freshK q e nx (m + 1) M1 0 [] news k))))
          | _ => false) (M.get i0) : Bool) = true from g9)
        cases ck <;> try (cases g10; done)
        rename_i e' s' l fz
        obtain ⟨c2, p1⟩ := both_eq.1 g10
        obtain ⟨c3, p2⟩ := both_eq.1 p1
        rw [lenL_eq] at p2
        obtain ⟨c4, p3⟩ := both_eq.1 p2
        obtain ⟨c5, p4⟩ := both_eq.1 p3
        clear g10 p1 p2 p3
        obtain rfl := Nat.eq_of_beq_eq_true c2
        obtain rfl := Nat.eq_of_beq_eq_true c3
        have c4 := Nat.eq_of_beq_eq_true c4
        have c5 := Nat.le_of_ble_eq_true c5
        obtain ⟨M1, hM1, g11⟩ := Tr.del_spec p4
        simp only [cond_true] at hvr
        by_cases hfit : m + 1 ≤ en.2.2
        · have hne : Nat.beq en.2.2 0 = false := Bool.eq_false_iff.2 fun z => by have := Nat.eq_of_beq_eq_true z; omega
          rw [hne] at hvr
          simp only [cond_false] at hvr
          obtain ⟨w', M', ρ', r0, r1, r2, r3, r4, r5⟩ := freshK_move (o := o') (olds := []) (nv := nv) g11 s q1 hM1 hen (by rw [← c4]; simp) src.rl src.ones (by simp [hnl]) (by simp) (by omega) ⟨by simpa using c5, Nat.le_refl _⟩ (cap := en.2.2) hfit (by simp)
          refine fin r1 r2 r3 r4 r5 fun tt => ?_
          rw [← hvr]
          have := run_appIn (w' := w') (tt := tt) (b := en.1) (o := en.2.1 + o') (n := 0) (cc := en.2.2) ht htx hi hlen hcells (by omega) (by rw [Nat.zero_mul, Nat.add_zero, ← c4]; exact r0)
          simpa using this
        · -- no room: a fresh block; the old one is let go
          obtain ⟨b1, b2⟩ := freshK_bounds g11
          have hr : ∀ tt, _ := fun tt => run_append_grows (P := P) (w := w) (tt := tt) (p := some ⟨en.1, en.2.1 + cond (Nat.beq en.2.2 0) o o', none⟩) (n := 0) (c := en.2.2) ht htx hi hiz hlen hcells' ols0 (by omega) (by omega) (growslice_fits (by omega) (by rw [hby, Nat.zero_add]; exact b1))
          have hge := grownCap_ge w (0 + (m + 1)) en.2.2 e'
          have s1 : Rel T c ρ fr ds M1 nx a w := ⟨s.size, s.slots, s.dfs, s.rep.drop hM1, s.nx, s.same, s.glob⟩
          obtain ⟨M', ρ', r1, r2, r3, r4, r5⟩ := freshK_new g11 s1 RL.nil src.rl rfl src.ones (cap := grownCap w (0 + (m + 1)) en.2.2 e') (by simpa using hge) (tail := (Builtin.zeroCells z'.cells (grownCap w (0 + (m + 1)) en.2.2 e' - (m + 1))).toList) (tail_len hzs) rfl
          refine fin r1 r2 r3 r4 r5 fun tt => ?_
          rw [← hvr]
          have := hr tt
          simp only [Nat.zero_add] at this ⊢
          exact this
  case sl i0 o n cc sb =>
    obtain ⟨hnc, g10⟩ := both_eq.1 g9
    have hnc := Nat.le_of_ble_eq_true hnc
    clear g9
    have e1 := h1.ren
    simp only [ren, Option.map_eq_some_iff] at e1
    obtain ⟨en, hen, hvr⟩ := e1
    cases m with
    | zero => exact same0 hvr.symm (by omega) rfl g10
    | succ m =>
      have g10 : forceN (Nat.add n (m + 1)) (fun need => Option.rec false (fun ck : Ck => match ck with
        | .row e' s' l fz => both (Nat.beq e' e) (both (Nat.beq s' q.size) (Bool.rec
            (Bool.rec (splitL l o fun _ B => splitL B (Nat.mul n q.size) fun olds _ => both (allL one olds) (freshK q e nx need M 0 olds news k))
              (both (Nat.beq n cc) (lenL l 0 fun len => both (Nat.beq len (Nat.add o (Nat.mul n q.size))) (both (Nat.ble fz len) (splitL l o fun _ olds => M.del i0 fun M1 => freshK q e nx need M1 (Nat.mul n q.size) olds news k)))) sb)
            (forceN (Nat.add o (Nat.mul n q.size)) fun at' => both (Nat.ble fz at') (splitL l at' fun A B => splitL B (Nat.mul (m + 1) q.size) fun _ C => appL news C fun D => appL A D fun l' => turnK M nx i0 (.row e' s' l' fz) (k (.sl i0 o need cc sb))))
            (Nat.ble need cc)))
        | .ro _ l => Bool.rec (Bool.rec (splitL l o fun _ B => splitL B (Nat.mul n q.size) fun olds _ => both (allL one olds) (freshK q e nx need M 0 olds news k)) false sb) false (Nat.ble need cc)
        | _ => false) (M.get i0)) = true := g10
      rw [forceN_eq] at g10
      obtain ⟨ck, q1, g11⟩ := opt_rec g10
      clear g10
      have plain : ∀ {l : List AV}, ck.cells = some l → sb = false → Nat.ble (Nat.add n (m + 1)) cc = false → (splitL l o fun _ B => splitL B (Nat.mul n q.size) fun olds _ => both (allL one olds) (freshK q e nx (Nat.add n (m + 1)) M 0 olds news k)) = true → Eff P c ρ a w (.call ⟨.builtin .append, #[x, y], #[t, tx]⟩) k := fun {l} hl hsb hng g => by
        obtain ⟨en', cs, t', fz', vs, he', hb, hrl, hA⟩ := s.rep.cells q1 hl
        rw [hen] at he'; cases he'
        obtain ⟨c2, g⟩ := splitL_spec g
        obtain ⟨c3, g⟩ := splitL_spec g
        obtain ⟨c4, g⟩ := both_eq.1 g
        have hsub := (hrl.drop o).take (n * q.size)
        have hon : ((vs.drop o).take (n * q.size)).length = n * q.size := by rw [hsub.length]; exact List.length_take_of_le c3
        subst hsb
        refine grow hvr.symm rfl (fun hh => ?_) hsub c4 ?_ g
        · have : Nat.ble (Nat.add n (m + 1)) cc = true := by rw [Nat.ble_eq]; simpa using hh
          rw [this] at hng; cases hng
        · have hAt := hA.sub (i := o) (n := n * q.size)
          have := run_loadCells_at (P := P) (w := w.drew) (drew_heap hb) hAt
          rw [hon] at this
          simp only [Builtin.firstCells]
          rw [hsz]; exact this
      cases ck <;> try (cases g11; done)
      case ro t0 l =>
        cases hng : Nat.ble (Nat.add n (m + 1)) cc with
        | true => simp only [hng] at g11; cases g11
        | false =>
          simp only [hng] at g11
          cases sb with
          | true => cases g11
          | false => exact plain rfl rfl hng g11
      case row e' s' l fz =>
        obtain ⟨c2, g12⟩ := both_eq.1 g11
        obtain ⟨c3, g13⟩ := both_eq.1 g12
        clear g11 g12
        obtain rfl := Nat.eq_of_beq_eq_true c2
        obtain rfl := Nat.eq_of_beq_eq_true c3
        cases hng : Nat.ble (Nat.add n (m + 1)) cc with
        | true =>
          rw [hng] at g13
          have hroom : n + (m + 1) ≤ cc := Nat.le_of_ble_eq_true hng
          have g13 : forceN (Nat.add o (Nat.mul n q.size)) (fun at' => both (Nat.ble fz at') (splitL l at' fun A B => splitL B (Nat.mul (m + 1) q.size) fun _ C => appL news C fun D => appL A D fun l' => turnK M nx i0 (.row e' q.size l' fz) (k (.sl i0 o (Nat.add n (m + 1)) cc sb)))) = true := g13
          rw [forceN_eq] at g13
          obtain ⟨c4, g14⟩ := both_eq.1 g13
          obtain ⟨c5, g15⟩ := splitL_spec g14
          obtain ⟨c6, g16⟩ := splitL_spec g15
          rw [appL_eq, appL_eq] at g16
          obtain ⟨e0, he0, hsh, _⟩ := s.rep.own _ _ q1
          rw [hen] at he0; cases he0
          have hnl' : news.length = (m + 1) * q.size := by rw [← src.rl.length]; exact hnl
          have c6 : (m + 1) * q.size ≤ (l.drop (o + n * q.size)).length := c6
          obtain ⟨w', r0, r3, r2, r4⟩ := row_write (P := P) (o := o + n * q.size) hsh src.rl src.ones (by rw [hnl']; rw [List.length_drop] at c6; have c5 : o + n * q.size ≤ l.length := c5; omega) (Nat.le_of_ble_eq_true c4)
          obtain ⟨M', k1, k2⟩ := turnK_spec (ck' := .row e' q.size (l.take (o + n * q.size) ++ (news ++ l.drop (o + n * q.size + news.length))) fz) (by rw [hnl', ← List.drop_drop]; exact g16) s q1 rfl rfl hen r2 r4
          refine fin (.refl ρ) (r := .slice (some ⟨en.1, en.2.1 + o, none⟩) (n + (m + 1)) (cc + cond sb en.2.2 0)) (by simp [ren, hen]) k1 k2 r3 fun tt => ?_
          rw [← hvr]
          exact run_appIn (w' := w') ht htx hi hlen hcells (by omega) (by rw [hsz, Nat.add_assoc]; exact r0)
        | false =>
          rw [hng] at g13
          have hnroom : ¬ n + (m + 1) ≤ cc := fun hh => by
            have : Nat.ble (Nat.add n (m + 1)) cc = true := by rw [Nat.ble_eq]; exact hh
            rw [this] at hng; cases hng
          cases sb with
          | false => exact plain rfl rfl hng g13
          | true =>
            obtain ⟨c4, g14⟩ := both_eq.1 (show both (Nat.beq n cc) (lenL l 0 fun len => both (Nat.beq len (Nat.add o (Nat.mul n q.size))) (both (Nat.ble fz len) (splitL l o fun _ olds => M.del i0 fun M1 => freshK q e' nx (Nat.add n (m + 1)) M1 (Nat.mul n q.size) olds news k))) = true from g13)
            rw [lenL_eq] at g14
            obtain ⟨c5, g15⟩ := both_eq.1 g14
            obtain ⟨c6, g16⟩ := both_eq.1 g15
            obtain ⟨c7, g17⟩ := splitL_spec g16
            obtain ⟨M1, hM1, g18⟩ := Tr.del_spec g17
            obtain rfl := Nat.eq_of_beq_eq_true c4
            have c5 : l.length = o + n * q.size := Nat.eq_of_beq_eq_true c5
            have c6 := Nat.le_of_ble_eq_true c6
            simp only [cond_true] at hvr
            have hol : (l.drop o).length = n * q.size := by rw [List.length_drop]; omega
            obtain ⟨b1, b2⟩ := freshK_bounds g18
            have b1 : (n + (m + 1)) * q.bytes ≤ _ := b1
            have b2 : n + (m + 1) ≤ _ := b2
            by_cases hfit : n + (m + 1) ≤ n + en.2.2
            · obtain ⟨w', M', ρ', r0, r1, r2, r3, r4, r5⟩ := freshK_move (o := o) (olds := l.drop o) (nv := nv) g18 s q1 hM1 hen rfl src.rl src.ones (by rw [hnl, hol]; show _ = (n + (m + 1)) * q.size - _; rw [Nat.add_mul n, Nat.add_sub_cancel_left]) (by rw [hol]; exact Nat.mul_le_mul_right _ (Nat.le_add_right _ _)) c7 ⟨by rw [hol]; omega, by rw [hol]; exact Nat.le_refl _⟩ (cap := n + en.2.2) hfit (by rw [hol, Nat.add_mul]; exact Nat.le_refl _)
              refine fin r1 r2 r3 r4 r5 fun tt => ?_
              rw [← hvr]
              exact run_appIn (w' := w') ht htx hi hlen hcells hfit (by rw [hsz, Nat.add_assoc, ← c5]; exact r0)
            · obtain ⟨en', cs, t', fz', vs, he', hb, hrl, hA⟩ := s.rep.cells q1 rfl
              rw [hen] at he'; cases he'
              have hsub := hrl.drop o
              have hon : (vs.drop o).length = n * q.size := by rw [hsub.length]; exact hol
              have hold : (Builtin.firstCells i.size n (.slice (some ⟨en.1, en.2.1 + o, none⟩) n (n + en.2.2))).run P w.drew = .ok ⟨vs.drop o⟩ w.drew := by
                have hAt := hA.drop (i := o)
                have := run_loadCells_at (P := P) (w := w.drew) (drew_heap hb) hAt
                rw [hon] at this
                simp only [Builtin.firstCells]
                rw [hsz]; exact this
              have hr : ∀ tt, _ := fun tt => run_append_grows (P := P) (w := w) (tt := tt) (p := some ⟨en.1, en.2.1 + o, none⟩) (n := n) (c := n + en.2.2) ht htx hi hiz hlen hcells' hold hfit b2 (growslice_fits (by omega) (by rw [hby]; exact b1))
              have hge := grownCap_ge w (n + (m + 1)) (n + en.2.2) e'
              have s1 : Rel T c ρ fr ds M1 nx a w := ⟨s.size, s.slots, s.dfs, s.rep.drop hM1, s.nx, s.same, s.glob⟩
              obtain ⟨e0, he0, hsh, _⟩ := s.rep.own _ _ q1
              obtain ⟨_, _, _, _, _, _, _, _, _, hones⟩ := hsh
              have hones' : allL one (l.drop o) = true := allL_mk fun x hx => allL_spec hones x (List.mem_of_mem_drop hx)
              obtain ⟨M', ρ', r1, r2, r3, r4, r5⟩ := freshK_new g18 s1 hsub src.rl hones' src.ones hge (tail := (Builtin.zeroCells z'.cells (grownCap w (n + (m + 1)) (n + en.2.2) e' - (n + (m + 1)))).toList) (tail_len hzs) rfl
              refine fin r1 r2 r3 r4 r5 fun tt => ?_
              rw [← hvr]
              exact hr tt
end
end Go.Ev
set_option linter.unusedSimpArgs false
set_option linter.unusedVariables false
namespace Go.Ev
open Go.Sl
noncomputable section
variable {P : Program} {T : Tabs P} {c : Cn} {ρ : Env} {fr : Tr AV} {ds : List AD} {M : Mem} {nx : Nat} {a : Act} {w : World}

/-! ### copy -/
def putRowK (T : Tabs P) (M : Mem) (nx : Nat) (sz : Nat) (i o : Nat) (n : Nat) (news : List AV) (k : AV → Mem → Nat → Bool) : Bool := Option.rec false (fun ck => match ck with
  | .row t' s' l fz => both (Nat.ble fz o) (splitL l o fun A B => splitL B (Nat.mul n sz) fun _ C => appL news C fun D => appL A D fun l' => turnK M nx i (.row t' s' l' fz) (k (.int .i64 (.ofNat n))))
  | _ => false) (M.get i)
def copyK (T : Tabs P) (fr : Tr AV) (M : Mem) (nx : Nat) (t : TypeId) (x y : Operand) (k : AV → Mem → Nat → Bool) : Bool := argK T fr x fun v => argK T fr y fun u => Option.rec false (fun r => match r with
  | ⟨.sl e, _, _⟩ => Option.rec false (fun q => match v with
    | .sl i o n _ _ => (match u with
      | .sl j o2 m c2 s2 => forceN (Bool.rec n m (Nat.ble m n)) fun cnt => srcK M q.size (.sl j o2 cnt c2 s2) fun _ news => putRowK T M nx q.size i o cnt news k
      | .nils => k (.int .i64 (.ofNat 0)) M nx
      | .em _ _ _ _ => k (.int .i64 (.ofNat 0)) M nx
      | .str l => srcK M q.size (.str l) fun m news => both (Nat.ble m n) (putRowK T M nx q.size i o m news k)
      | _ => false)
    | _ => false) (T.T e)
  | _ => false) (T.T t)
theorem putRowK_spec {sz i o n : Nat} {news : List AV} {us : List Value} {k : AV → Mem → Nat → Bool} (h : putRowK T M nx sz i o n news k = true) (s : Rel T c ρ fr ds M nx a w) (hu : RL ρ news us) (h1 : allL one news = true) (hl : us.length = n * sz) {e : Nat × Nat × Nat} (he : ρ[i]? = some e) :
    ∃ w' M', (storeCells ⟨e.1, e.2.1 + o, none⟩ us).run P w = .ok () w' ∧ Same w w' ∧ k (.int .i64 (.ofNat n)) M' ρ.length = true ∧ Rep ρ M' c.hF w' := by
  obtain ⟨ck, q1, g⟩ := opt_rec h
  cases ck <;> try (cases g; done)
  rename_i t' s' l fz
  obtain ⟨c4, g14⟩ := both_eq.1 g
  obtain ⟨c5, g15⟩ := splitL_spec g14
  obtain ⟨c6, g16⟩ := splitL_spec g15
  rw [appL_eq, appL_eq] at g16
  obtain ⟨e0, he0, hsh, _⟩ := s.rep.own _ _ q1
  rw [he] at he0; cases he0
  have hnl' : news.length = n * sz := by rw [← hu.length]; exact hl
  have c6 : n * sz ≤ (l.drop o).length := c6
  obtain ⟨w', r0, r3, r2, r4⟩ := row_write (P := P) (o := o) hsh hu h1 (by rw [hnl']; rw [List.length_drop] at c6; omega) (Nat.le_of_ble_eq_true c4)
  obtain ⟨M', k1, k2⟩ := turnK_spec (ck' := .row t' s' (l.take o ++ (news ++ l.drop (o + news.length))) fz) (by rw [hnl', ← List.drop_drop]; exact g16) s q1 rfl rfl he r2 r4
  exact ⟨w', M', r0, r3, k1, k2⟩
theorem copyK_spec {t tx : TypeId} {x y : Operand} {k : AV → Mem → Nat → Bool} (h : copyK T fr M nx t x y k = true) (s : Rel T c ρ fr ds M nx a w) : Eff P c ρ a w (.call ⟨.builtin .copy, #[x, y], #[t, tx]⟩) k := by
  obtain ⟨v, vr, h1, g1⟩ := argK_spec h s
  obtain ⟨u, ur, h2, g2⟩ := argK_spec g1 s
  obtain ⟨⟨d, _, _⟩, h3, g3⟩ := opt_rec g2
  clear h g1 g2
  cases d <;> try (cases g3; done)
  rename_i e
  have ht := (T.okT _ _ h3).td
  obtain ⟨q, h4, g4⟩ := opt_rec g3
  have hse := Sl.run_sizeOf (T.okT _ _ h4).size
  clear g3
  cases v <;> try (cases g4; done)
  rename_i i o n cc sb
  have e1 := h1.ren
  simp only [ren, Option.map_eq_some_iff] at e1
  obtain ⟨en, hen, rfl⟩ := e1
  have fin : ∀ {m : Nat} {M' w' us}, k (.int .i64 (.ofNat m)) M' ρ.length = true → Rep ρ M' c.hF w' → Same w w' → (∃ j, (Builtin.lenOf ur).run P w = .ok j w ∧ Nat.min j n = m) → (Builtin.firstCells q.size m ur).run P w = .ok ⟨us⟩ w → (storeCells ⟨en.1, en.2.1 + o, none⟩ us).run P w = .ok () w' → Eff P c ρ a w (.call ⟨.builtin .copy, #[x, y], #[t, tx]⟩) k :=
    fun {m M' w' us} q3 q4 q5 hj hc hst => ⟨_, .int .i64 m, ρ, M', w', _, .refl ρ, rfl, q3, q4, q5, .inl rfl, by
      rintro ⟨d, op', ty, pos, af, gg⟩ rfl
      obtain ⟨j, hj1, hj2⟩ := hj
      simp [execOp, resolve, invoke, builtin, Builtin.copy_, h1.eval, h2.eval, run_underlying ht, hj1, hse, hj2, hc, hst, goInt]⟩
  have zero : k (.int .i64 (.ofNat 0)) M nx = true → (Builtin.lenOf ur).run P w = .ok 0 w → (Builtin.firstCells q.size 0 ur).run P w = .ok ⟨[]⟩ w → Eff P c ρ a w (.call ⟨.builtin .copy, #[x, y], #[t, tx]⟩) k := fun hk hl hc =>
    fin (m := 0) (w' := w) (us := []) (by rw [s.nx]; exact hk) s.rep (.refl w) ⟨0, hl, by simp⟩ hc (by simp [storeCells])
  cases u <;> try (cases g4; done)
  case nils =>
    obtain rfl : ur = .slice none 0 0 := by simpa [ren] using h2.ren.symm
    exact zero g4 (by simp [Builtin.lenOf]) (by simp [Builtin.firstCells])
  case em i' o1 o2 sb' =>
    have e2 := h2.ren
    simp only [ren, Option.map_eq_some_iff] at e2
    obtain ⟨en', _, rfl⟩ := e2
    exact zero g4 (by simp [Builtin.lenOf]) (by simp [Builtin.firstCells, loadCells, loadCellsFrom])
  case str l =>
    obtain ⟨m, news, us, g5, src⟩ := srcK_spec (P := P) (show srcK M q.size (.str l) (fun m news => both (Nat.ble m n) (putRowK T M nx q.size i o m news k)) = true from g4) h2.ren s.rep
    obtain ⟨c1, g6⟩ := both_eq.1 g5
    have c1 := Nat.le_of_ble_eq_true c1
    obtain ⟨hlen, hc⟩ := src.run w (fun _ _ h => h)
    obtain ⟨w', M', r0, r1, r2, r3⟩ := putRowK_spec g6 s src.rl src.ones src.len hen
    exact fin r2 r3 r1 ⟨m, hlen, Nat.min_eq_left c1⟩ hc r0
  case sl j o2 m c2 s2 =>
    have g5 : forceN (Bool.rec n m (Nat.ble m n)) (fun cnt => srcK M q.size (.sl j o2 cnt c2 s2) fun _ news => putRowK T M nx q.size i o cnt news k) = true := g4
    rw [forceN_eq] at g5
    have e2 := h2.ren
    simp only [ren, Option.map_eq_some_iff] at e2
    obtain ⟨en', hen', rfl⟩ := e2
    obtain ⟨cnt, hcnt⟩ : ∃ cnt, cnt = (Bool.rec n m (Nat.ble m n) : Nat) := ⟨_, rfl⟩
    rw [← hcnt] at g5
    have hmin : Nat.min m n = cnt := by
      rw [hcnt]
      cases hb : Nat.ble m n with
      | true => exact Nat.min_eq_left (Nat.le_of_ble_eq_true hb)
      | false => exact Nat.min_eq_right (by
          have : ¬ m ≤ n := fun hh => by rw [← Nat.ble_eq, hb] at hh; cases hh
          omega)
    obtain ⟨m', news, us, g6, src⟩ := srcK_spec (P := P) (r := .slice (some ⟨en'.1, en'.2.1 + o2, none⟩) cnt (c2 + cond s2 en'.2.2 0)) g5 (by simp [ren, hen']) s.rep
    obtain ⟨hlen, hc⟩ := src.run w (fun _ _ h => h)
    have hm' : m' = cnt := by simp [Builtin.lenOf] at hlen; exact hlen.symm
    subst hm'
    obtain ⟨w', M', r0, r1, r2, r3⟩ := putRowK_spec g6 s src.rl src.ones src.len hen
    exact fin r2 r3 r1 ⟨m, by simp [Builtin.lenOf], hmin⟩ (by simpa [Builtin.firstCells] using hc) r0
/-! ### clear -/
def clearK (P : Program) (T : Tabs P) (fr : Tr AV) (M : Mem) (nx : Nat) (t : TypeId) (x : Operand) (k : AV → Mem → Nat → Bool) : Bool := argK T fr x fun v => Option.rec false (fun r => both r.td.known (match v with
  | .nils => k (.tup []) M nx
  | .nilm => k (.tup []) M nx
  | .em _ _ _ _ => k (.tup []) M nx
  | .sl i o n _ _ => Nat.rec (k (.tup []) M nx) (fun _ _ => match r with
    | ⟨.sl e, _, _⟩ => Option.rec false (fun q => zeroK P e fun z => both (allL one (cellsA z)) (lenL (cellsA z) 0 fun j => both (Nat.beq j q.size) (repApp (cellsA z) n [] fun cells => putRowK T M nx q.size i o n cells fun _ M' nx' => k (.tup []) M' nx'))) (T.T e)
    | _ => false) n
  | .map i => Option.rec false (fun ck => match ck with
    | .map _ cl => turnK M nx i (.map [] cl) (k (.tup []))
    | _ => false) (M.get i)
  | _ => false)) (T.T t)
theorem clearK_spec {t : TypeId} {x : Operand} {k : AV → Mem → Nat → Bool} (h : clearK P T fr M nx t x k = true) (s : Rel T c ρ fr ds M nx a w) : Eff P c ρ a w (.call ⟨.builtin .clear, #[x], #[t]⟩) k := by
  obtain ⟨v, vr, h1, g0⟩ := argK_spec h s
  obtain ⟨⟨d, sz, b⟩, h3, g1⟩ := opt_rec g0
  obtain ⟨hk, g⟩ := both_eq.1 g1
  clear h g0 g1
  have hrow := (T.okT _ _ h3).td
  obtain ⟨dsc, hd⟩ := hrow.known hk
  have fin : ∀ {M' w'}, k (.tup []) M' ρ.length = true → Rep ρ M' c.hF w' → Same w w' → (∀ tt, (Builtin.clear_ #[t] tt #[vr]).run P w = .ok (.tuple #[]) w') → Eff P c ρ a w (.call ⟨.builtin .clear, #[x], #[t]⟩) k :=
    fun {M' w'} q1 q2 q3 q4 => ⟨.tup [], .tuple #[], ρ, M', w', _, .refl ρ, rfl, q1, q2, q3, .inl rfl, by
      rintro ⟨d, op', ty, pos, af, gg⟩ rfl
      simp [execOp, resolve, invoke, builtin, h1.eval, q4]⟩
  have same : k (.tup []) M nx = true → (∀ tt, (Builtin.clear_ #[t] tt #[vr]).run P w = .ok (.tuple #[]) w) → Eff P c ρ a w (.call ⟨.builtin .clear, #[x], #[t]⟩) k := fun q1 q2 => fin (by rw [s.nx]; exact q1) s.rep (.refl w) q2
  cases v <;> try (cases g; done)
  case nils =>
    obtain rfl : vr = .slice none 0 0 := by simpa [ren] using h1.ren.symm
    exact same g fun tt => by cases dsc <;> simp [Builtin.clear_, run_underlying hd]
  case nilm =>
    obtain rfl : vr = .map none := by simpa [ren] using h1.ren.symm
    exact same g fun tt => by cases dsc <;> simp [Builtin.clear_, run_underlying hd]
  case em i o o' sb =>
    have e1 := h1.ren
    simp only [ren, Option.map_eq_some_iff] at e1
    obtain ⟨en, _, rfl⟩ := e1
    exact same g fun tt => by cases dsc <;> simp [Builtin.clear_, run_underlying hd]
  case map i =>
    have e1 := h1.ren
    simp only [ren, Option.map_eq_some_iff] at e1
    obtain ⟨en, hen, rfl⟩ := e1
    obtain ⟨ck, q1, g⟩ := opt_rec (show (Option.rec false (fun ck : Ck => match ck with
      | .map _ cl => turnK M nx i (.map [] cl) (k (.tup []))
      | _ => false) (M.get i) : Bool) = true from g)
    cases ck <;> try (cases g; done)
    rename_i es cl
    obtain ⟨e', he', ⟨L, hL, hb⟩, _⟩ := s.rep.own _ _ q1
    rw [hen] at he'; cases he'
    obtain ⟨M', k1, k2⟩ := turnK_spec (ck' := .map [] cl) (w' := w.putObj en.1 (.map #[] cl)) g s q1 rfl rfl hen (fun b hne => World.putObj_heap_other hne) (by
      rw [World.putObj_heap_same (mem_lt (w := w) hb)]; exact ⟨[], rfl, rfl⟩)
    have hg : (getObj en.1).run P w = .ok (.map ⟨L⟩ cl) w := by simp [getObj, Sem.run, hb]
    have hset : ∀ o, (setObj en.1 o).run P w = .ok () (w.putObj en.1 o) := fun o => by simp [setObj, Sem.run, hb, World.putObj]
    exact fin k1 k2 (.putObj _ _ _) fun tt => by cases dsc <;> simp [Builtin.clear_, run_underlying hd, hg, hset]
  case sl i o n cc sb =>
    have e1 := h1.ren
    simp only [ren, Option.map_eq_some_iff] at e1
    obtain ⟨en, hen, rfl⟩ := e1
    cases n with
    | zero => exact same g fun tt => by cases dsc <;> simp [Builtin.clear_, run_underlying hd]
    | succ n =>
      cases d <;> try (cases g; done)
      rename_i e
      have ht : P.underlying t = some (.slice e) := hrow
      obtain ⟨q, h4, g⟩ := opt_rec (show (Option.rec false (fun q : TRow => zeroK P e fun z => both (allL one (cellsA z)) (lenL (cellsA z) 0 fun j => both (Nat.beq j q.size) (repApp (cellsA z) (n + 1) [] fun cells => putRowK T M nx q.size i o (n + 1) cells fun _ M' nx' => k (.tup []) M' nx'))) (T.T e) : Bool) = true from g)
      obtain ⟨z, h5, g⟩ := opt_rec g
      obtain ⟨z', z1, z2, z3⟩ := zeroA_spec h5 ρ
      obtain ⟨c1, g⟩ := both_eq.1 g
      rw [lenL_eq] at g
      obtain ⟨c5, g⟩ := both_eq.1 g
      rw [repApp_eq, List.append_nil] at g
      have c5 := Nat.eq_of_beq_eq_true c5
      have hz := cellsA_spec z2
      have hzl : z'.cells.toList.length = q.size := by rw [hz.length]; exact c5
      have hcells : (Builtin.zeroCells z'.cells (n + 1)).toList = (List.replicate (n + 1) z'.cells.toList).flatten := by
        by_cases h0 : 0 < z'.cells.toList.length
        · have := made_flat z'.cells.toList h0 (n + 1)
          exact this
        · have : z'.cells.toList = [] := List.length_eq_zero_iff.1 (by omega)
          have h0' : z'.cells.size = 0 := by simpa using congrArg List.length this
          rw [this]; simp [Builtin.zeroCells, h0']
      have hfl := hz.flat (n + 1)
      obtain ⟨w', M', r0, r1, r2, r3⟩ := putRowK_spec g s hfl (all_rep c1 (n + 1)) (by simp [hzl]) hen
      refine fin r2 r3 r1 fun tt => ?_
      simp [Builtin.clear_, run_underlying ht, run_zeroV z1, hcells, r0]
end
end Go.Ev
set_option linter.unusedSimpArgs false
set_option linter.unusedVariables false
namespace Go.Ev
open Go.Sl
noncomputable section
variable {P : Program}

/-! ### operations but calls -/
def litK (P : Program) (T : Tabs P) (fr : Tr AV) (M : Mem) (nx : Nat) (t : TypeId) (len : Nat) (parts : Array (Nat × Operand)) (k : AV → Mem → Nat → Bool) : Bool := match parts with
  | ⟨[]⟩ => (match len with
    | 0 => sliceLit0K T M nx t k
    | n + 1 => sliceLitK P T fr M nx t (n + 1) #[] k)
  | ⟨p :: ps⟩ => sliceLitK P T fr M nx t len ⟨p :: ps⟩ k
def conv2K (P : Program) (T : Tabs P) (fr : Tr AV) (M : Mem) (nx : Nat) (ts td : TypeId) (x : Operand) (k : AV → Mem → Nat → Bool) : Bool := Option.rec false (fun r => match r with
  | ⟨.sl _, _, _⟩ => toSlK T fr M nx ts td x k
  | _ => convK P T fr M ts td x fun v => k v M nx) (T.T td)
def builtK (P : Program) (T : Tabs P) (fr : Tr AV) (M : Mem) (nx : Nat) (b : Builtin) (xs : Array Operand) (ts : Array TypeId) (k : AV → Mem → Nat → Bool) : Bool := match b with
  | .len => (match xs, ts with
    | ⟨[x]⟩, ⟨[t]⟩ => lenK T fr M t x fun v => k v M nx
    | _, _ => false)
  | .append => (match xs, ts with
    | ⟨[x, y]⟩, ⟨[t, tx]⟩ => appendK P T fr M nx t tx x y k
    | _, _ => false)
  | .copy => (match xs, ts with
    | ⟨[x, y]⟩, ⟨[t, _]⟩ => copyK T fr M nx t x y k
    | _, _ => false)
  | .delete => (match xs, ts with
    | ⟨[x, y]⟩, ⟨[t, _]⟩ => deleteK P T fr M nx t x y k
    | _, _ => false)
  | .clear => (match xs, ts with
    | ⟨[x]⟩, ⟨[t]⟩ => clearK P T fr M nx t x k
    | _, _ => false)
  | .min => minK P T fr xs fun v => k v M nx
  | .max => maxK P T fr xs fun v => k v M nx
  | _ => false
/-- An operation: one constant for each kind (the kernel copies nothing but what it runs). -/
abbrev OpT := (Call → Bool) → (Call → Bool) → (Operand → Bool) → Tr AV → Mem → Nat → (AV → Mem → Nat → Bool) → Bool
def o_move (P : Program) (T : Tabs P) (x : Operand) : OpT := fun hc hd hp fr M nx k => argK T fr x fun v => k v M nx
def o_assign (P : Program) (T : Tabs P) (x : Operand) : OpT := fun hc hd hp fr M nx k => argK T fr x fun v => k v M nx
def o_pick (P : Program) (T : Tabs P) (c x y : Operand) : OpT := fun hc hd hp fr M nx k => pickK T fr c x y fun v => k v M nx
def o_alloc (P : Program) (T : Tabs P) (t : TypeId) : OpT := fun hc hd hp fr M nx k => allocK P M nx t k
def o_box (P : Program) (T : Tabs P) (t : TypeId) (x : Operand) : OpT := fun hc hd hp fr M nx k => boxK T fr M nx t x k
def o_build (P : Program) (T : Tabs P) (t : TypeId) (parts : Array (Nat × Operand)) : OpT := fun hc hd hp fr M nx k => buildK P T fr t parts fun v => k v M nx
def o_buildSlice (P : Program) (T : Tabs P) (t : TypeId) (len : Nat) (parts : Array (Nat × Operand)) : OpT := fun hc hd hp fr M nx k => litK P T fr M nx t len parts k
def o_insert (P : Program) (T : Tabs P) (t : TypeId) (m x y : Operand) : OpT := fun hc hd hp fr M nx k => mapUpdK P T fr M nx t m x y k
def o_load (P : Program) (T : Tabs P) (t : TypeId) (x : Operand) : OpT := fun hc hd hp fr M nx k => loadK T fr M t x fun v => k v M nx
def o_store (P : Program) (T : Tabs P) (t : TypeId) (x y : Operand) : OpT := fun hc hd hp fr M nx k => storeK T fr M nx t x y k
def o_ready (P : Program) (T : Tabs P) (g : Nat) : OpT := fun hc hd hp fr M nx k => false
def o_waits (P : Program) (T : Tabs P) (g : Nat) : OpT := fun hc hd hp fr M nx k => false
def o_nilCheck (P : Program) (T : Tabs P) (x : Operand) : OpT := fun hc hd hp fr M nx k => nilCheckK T fr x fun v => k v M nx
def o_binOp (P : Program) (T : Tabs P) (op : BinOp) (tx : TypeId) (x y : Operand) (ty : TypeId) : OpT := fun hc hd hp fr M nx k => binXK P T fr op tx x y fun v => k v M nx
def o_unOp (P : Program) (T : Tabs P) (op : UnOp) (tx : TypeId) (x : Operand) : OpT := fun hc hd hp fr M nx k => unK P T fr op x fun v => k v M nx
def o_convert (P : Program) (T : Tabs P) (ts td : TypeId) (x : Operand) : OpT := fun hc hd hp fr M nx k => conv2K P T fr M nx ts td x k
def o_sliceToArrayPointer (P : Program) (T : Tabs P) (t : TypeId) (x : Operand) : OpT := fun hc hd hp fr M nx k => arrPtrK T fr t x fun v => k v M nx
def o_makeInterface (P : Program) (T : Tabs P) (t : TypeId) (x : Operand) : OpT := fun hc hd hp fr M nx k => mkIfcK T fr t x fun v => k v M nx
def o_makeFunc (P : Program) (T : Tabs P) (f : Fn) (xs ys : Array Operand) : OpT := fun hc hd hp fr M nx k => mkFnK T fr f xs ys fun v => k v M nx
def o_makeMap (P : Program) (T : Tabs P) (t : TypeId) (r : Option Operand) : OpT := fun hc hd hp fr M nx k => makeMapK T fr M nx t r k
def o_makeChan (P : Program) (T : Tabs P) (t : TypeId) (size : Operand) : OpT := fun hc hd hp fr M nx k => false
def o_makeSlice (P : Program) (T : Tabs P) (t : TypeId) (l c : Operand) : OpT := fun hc hd hp fr M nx k => makeSlK P T fr M nx t l c k
def o_slice (P : Program) (T : Tabs P) (t : TypeId) (x : Operand) (lo hi mx : Option Operand) : OpT := fun hc hd hp fr M nx k => sliceK P T fr t x lo hi mx fun v => k v M nx
def o_fieldAddr (P : Program) (T : Tabs P) (t : TypeId) (x : Operand) (f : Nat) : OpT := fun hc hd hp fr M nx k => fieldAddrK T fr t x f fun v => k v M nx
def o_field (P : Program) (T : Tabs P) (t : TypeId) (x : Operand) (f : Nat) : OpT := fun hc hd hp fr M nx k => fieldK T fr t x f fun v => k v M nx
def o_indexAddr (P : Program) (T : Tabs P) (t : TypeId) (x y : Operand) : OpT := fun hc hd hp fr M nx k => indexAddrK T fr t x y fun v => k v M nx
def o_index (P : Program) (T : Tabs P) (t : TypeId) (x y : Operand) : OpT := fun hc hd hp fr M nx k => indexK T fr t x y fun v => k v M nx
def o_lookup (P : Program) (T : Tabs P) (t : TypeId) (x y : Operand) (ok : Bool) : OpT := fun hc hd hp fr M nx k => lookupK P T fr M t x y ok fun v => k v M nx
def o_mapUpdate (P : Program) (T : Tabs P) (t : TypeId) (m x y : Operand) : OpT := fun hc hd hp fr M nx k => mapUpdK P T fr M nx t m x y k
def o_mapEntry (P : Program) (T : Tabs P) (t : TypeId) (m x : Operand) : OpT := fun hc hd hp fr M nx k => mapEntK P T fr M nx t m x k
def o_entryStore (P : Program) (T : Tabs P) (t : TypeId) (m s x : Operand) : OpT := fun hc hd hp fr M nx k => entStK T fr M nx m s x k
def o_range (P : Program) (T : Tabs P) (t : TypeId) (x : Operand) : OpT := fun hc hd hp fr M nx k => rangeK T fr M nx t x k
def o_next (P : Program) (T : Tabs P) (it : Operand) (s : Bool) : OpT := fun hc hd hp fr M nx k => nextK T fr M nx it s k
def o_entry (P : Program) (T : Tabs P) (it : Operand) : OpT := fun hc hd hp fr M nx k => entryK T fr M it fun v => k v M nx
def o_typeAssert (P : Program) (T : Tabs P) (x : Operand) (tx t : TypeId) (ok : Bool) : OpT := fun hc hd hp fr M nx k => assertK P T fr x t ok fun v => k v M nx
def o_extract (P : Program) (T : Tabs P) (x : Operand) (i : Nat) : OpT := fun hc hd hp fr M nx k => extractK T fr x i fun v => k v M nx
def o_call (P : Program) (T : Tabs P) (c : Call) : OpT := fun hc hd hp fr M nx k => hc c
def o_go (P : Program) (T : Tabs P) (c : Call) : OpT := fun hc hd hp fr M nx k => false
def o_defer (P : Program) (T : Tabs P) (c : Call) : OpT := fun hc hd hp fr M nx k => hd c
def o_panic (P : Program) (T : Tabs P) (x : Operand) : OpT := fun hc hd hp fr M nx k => hp x
def o_send (P : Program) (T : Tabs P) (c x : Operand) : OpT := fun hc hd hp fr M nx k => false
def o_recv (P : Program) (T : Tabs P) (t : TypeId) (c : Operand) (ok : Bool) : OpT := fun hc hd hp fr M nx k => false
def o_select (P : Program) (T : Tabs P) (cs : Array SelectCase) (b : Bool) : OpT := fun hc hd hp fr M nx k => false
def opXK (P : Program) (T : Tabs P) (op : Op) : OpT := Op.rec (motive := fun _ => OpT) (o_move P T) (o_assign P T) (o_pick P T) (o_alloc P T) (o_box P T) (o_build P T) (o_buildSlice P T) (o_insert P T) (o_load P T) (o_store P T) (o_ready P T) (o_waits P T) (o_nilCheck P T) (o_binOp P T) (o_unOp P T) (o_convert P T) (o_sliceToArrayPointer P T) (o_makeInterface P T) (o_makeFunc P T) (o_makeMap P T) (o_makeChan P T) (o_makeSlice P T) (o_slice P T) (o_fieldAddr P T) (o_field P T) (o_indexAddr P T) (o_index P T) (o_lookup P T) (o_mapUpdate P T) (o_mapEntry P T) (o_entryStore P T) (o_range P T) (o_next P T) (o_entry P T) (o_typeAssert P T) (o_extract P T) (o_call P T) (o_go P T) (o_defer P T) (o_panic P T) (o_send P T) (o_recv P T) (o_select P T) op
def builtCK (P : Program) (T : Tabs P) (fr : Tr AV) (M : Mem) (nx : Nat) (k : AV → Mem → Nat → Bool) (c : Call) : Bool := match c with
  | ⟨.builtin b, xs, ts⟩ => builtK P T fr M nx b xs ts k
  | _ => false
def opK (P : Program) (T : Tabs P) (fr : Tr AV) (M : Mem) (nx : Nat) (op : Op) (k : AV → Mem → Nat → Bool) : Bool := opXK P T op (builtCK P T fr M nx k) (fun _ => false) (fun _ => false) fr M nx k
section
variable {T : Tabs P} {c : Cn} {ρ : Env} {fr : Tr AV} {ds : List AD} {M : Mem} {nx : Nat} {a : Act} {w : World}
theorem litK_spec {t : TypeId} {len : Nat} {parts : Array (Nat × Operand)} {k : AV → Mem → Nat → Bool} (h : litK P T fr M nx t len parts k = true) (s : Rel T c ρ fr ds M nx a w) : Eff P c ρ a w (.buildSlice t len parts) k := by
  obtain ⟨l⟩ := parts
  cases l with
  | nil => cases len with
    | zero => exact sliceLit0K_spec h s
    | succ n => exact sliceLitK_spec h s
  | cons p ps => exact sliceLitK_spec h s
theorem conv2K_spec {ts td : TypeId} {x : Operand} {k : AV → Mem → Nat → Bool} (h : conv2K P T fr M nx ts td x k = true) (s : Rel T c ρ fr ds M nx a w) : Eff P c ρ a w (.convert ts td x) k := by
  obtain ⟨⟨d, _, _⟩, h1, g⟩ := opt_rec h
  cases d <;> first | exact toSlK_spec g s | exact (convK_spec (k := fun v => k v M nx) g s).eff s rfl
theorem builtK_spec {b : Builtin} {xs : Array Operand} {ts : Array TypeId} {k : AV → Mem → Nat → Bool} (h : builtK P T fr M nx b xs ts k = true) (s : Rel T c ρ fr ds M nx a w) : Eff P c ρ a w (.call ⟨.builtin b, xs, ts⟩) k := by
  obtain ⟨xs⟩ := xs
  obtain ⟨ts⟩ := ts
  cases b <;> first
    | cases h
    | exact (minK_spec (k := fun v => k v M nx) h s).eff s trivial
    | exact (maxK_spec (k := fun v => k v M nx) h s).eff s trivial
    | skip
  · match xs, ts, h with
    | [x, y], [t, tx], h => exact appendK_spec h s
  · match xs, ts, h with
    | [x], [t], h => exact clearK_spec h s
  · match xs, ts, h with
    | [x, y], [t, _], h => exact copyK_spec h s
  · match xs, ts, h with
    | [x, y], [t, _], h => exact deleteK_spec h s
  · match xs, ts, h with
    | [x], [t], h => exact (lenK_spec (k := fun v => k v M nx) h s).eff s rfl
theorem opK_spec {op : Op} {k : AV → Mem → Nat → Bool} (h : opK P T fr M nx op k = true) (s : Rel T c ρ fr ds M nx a w) : Eff P c ρ a w op k := by
  cases op with
  | move x => exact (moveK (k := fun v => k v M nx) h s).eff s trivial
  | assign x => exact (assignK (k := fun v => k v M nx) h s).eff s trivial
  | pick => exact (pickK_spec (k := fun v => k v M nx) h s).eff s trivial
  | alloc => exact allocK_spec h s
  | box => exact boxK_spec h s
  | build => exact (buildK_spec (k := fun v => k v M nx) h s).eff s trivial
  | buildSlice => exact litK_spec h s
  | insert => exact insertK_spec h s
  | load => exact (loadK_spec (k := fun v => k v M nx) h s).eff s rfl
  | store => exact storeK_spec h s
  | sliceToArrayPointer => exact (arrPtrK_spec (k := fun v => k v M nx) h s).eff s trivial
  | nilCheck => exact (nilCheckK_spec (k := fun v => k v M nx) h s).eff s trivial
  | binOp => exact (binXK_spec (k := fun v => k v M nx) h s).eff s trivial
  | unOp => exact (unK_spec (k := fun v => k v M nx) h s).eff s trivial
  | convert => exact conv2K_spec h s
  | makeInterface => exact (mkIfcK_spec (k := fun v => k v M nx) h s).eff s trivial
  | makeFunc => exact (mkFnK_spec (k := fun v => k v M nx) h s).eff s trivial
  | makeMap => exact makeMapK_spec h s
  | makeSlice => exact makeSlK_spec h s
  | slice => exact (sliceK_spec (k := fun v => k v M nx) h s).eff s trivial
  | fieldAddr => exact (fieldAddrK_spec (k := fun v => k v M nx) h s).eff s trivial
  | field => exact (fieldK_spec (k := fun v => k v M nx) h s).eff s trivial
  | indexAddr => exact (indexAddrK_spec (k := fun v => k v M nx) h s).eff s trivial
  | index => exact (indexK_spec (k := fun v => k v M nx) h s).eff s trivial
  | lookup => exact (lookupK_spec (k := fun v => k v M nx) h s).eff s rfl
  | mapUpdate => exact mapUpdK_spec h s
  | mapEntry => exact mapEntK_spec h s
  | entryStore => exact entStK_spec h s
  | range => exact rangeK_spec h s
  | next => exact nextK_spec h s
  | entry => exact (entryK_spec (k := fun v => k v M nx) h s).eff s rfl
  | typeAssert => exact (assertK_spec (k := fun v => k v M nx) h s).eff s trivial
  | extract => exact (extractK_spec (k := fun v => k v M nx) h s).eff s trivial
  | call cl =>
    obtain ⟨cal, xs, ts⟩ := cl
    cases cal with
    | builtin b => exact builtK_spec h s
    | value f => cases h
    | invoke r m => cases h
  | _ => cases h
end

/-! ### outcomes, exits -/
inductive Oc where
  | ret (v : AV)
  | pan (v : AV)
inductive Ex where
  | normal
  | exit (id : Nat)
  | ret
  | pan (v : AV)
abbrev Kt := Ex → Tr AV → List AD → Mem → Nat → Bool
abbrev EvT := Code → Nat → Bool → Tr AV → List AD → Mem → Nat → Kt → Bool
def ExR (ρ : Env) : Ex → Exit → Prop
  | .normal, e => e = .normal
  | .exit id, e => e = .exit id
  | .ret, e => e = .ret
  | .pan v, e => ∃ r, ren ρ v = some r ∧ e = .panic [{ v := r, recovered := false }]
def OcR (ρ : Env) : Oc → Ending → Prop
  | .ret v, e => ∃ r, ren ρ v = some r ∧ e = .returned r
  | .pan v, e => ∃ r, ren ρ v = some r ∧ e = .panicked [{ v := r, recovered := false }]
def Post (T : Tabs P) (c : Cn) (ρ : Env) (K : Kt) : Exit → Act → World → Prop := fun e a w => ∃ ρ' x fr ds M, Ext ρ ρ' ∧ ExR ρ' x e ∧ K x fr ds M ρ'.length = true ∧ Rl T c ρ' fr ds M ρ'.length a w
def Good (T : Tabs P) (ih : EvT) : Prop := ∀ code N inR fr ds M nx K, ih code N inR fr ds M nx K = true → ∀ (c : Cn) ρ a w, c.N = N → (inR = false → c.ro = none) → Rl T c ρ fr ds M nx a w → code.wpIn (FW c.ro) 0 P (Post T c ρ K) a w
/-- What a call leaves. -/
def CallPost (T : Tabs P) (hF : Hp) (ρ : Env) (w : World) (Kc : Oc → Mem → Nat → Bool) : Ending → World → Prop := fun e w' => ∃ ρ' oc M, Ext ρ ρ' ∧ OcR ρ' oc e ∧ Kc oc M ρ'.length = true ∧ Rep ρ' M hF w' ∧ Same w w'
theorem Post.mono {T : Tabs P} {c : Cn} {ρ ρ' : Env} {K : Kt} {e : Exit} {a : Act} {w : World} (x : Ext ρ ρ') (h : Post T c ρ' K e a w) : Post T c ρ K e a w := by
  obtain ⟨ρ'', x', fr, ds, M, h1, h2⟩ := h
  exact ⟨ρ'', x', fr, ds, M, x.trans h1, h2⟩

/-! ### slots -/
def putK (N : Nat) (fr : Tr AV) (d : Option Tmp) (v : AV) (k : Tr AV → Bool) : Bool := Option.rec (k fr) (fun d => both (Nat.blt d N) (fr.set d v k)) d
theorem putK_spec {N : Nat} {fr : Tr AV} {d : Option Tmp} {v : AV} {k : Tr AV → Bool} (h : putK N fr d v k = true) {ρ : Env} {a : Act} {r : Value} (ha : a.tmps.size = N) (hs : Fk ρ fr a.tmps) (hr : ren ρ v = some r) : ∃ fr', k fr' = true ∧ Fk ρ fr' (a.put d r).tmps := by
  cases d with
  | none => exact ⟨fr, h, hs⟩
  | some d =>
    obtain ⟨h1, h2⟩ := both_eq.1 (show both (Nat.blt d N) (fr.set d v k) = true from h)
    rw [Nat.blt_eq] at h1
    obtain ⟨fr', h3, h4⟩ := Tr.set_spec h2
    exact ⟨fr', h4, hs.set h3 (by omega) hr⟩
theorem put_size (a : Act) (d : Option Tmp) (v : Value) : (a.put d v).tmps.size = a.tmps.size := by cases d <;> simp [Act.put]
theorem put_defers (a : Act) (d : Option Tmp) (v : Value) : (a.put d v).defers = a.defers := by cases d <;> rfl
/-- Is the operation wanted? -/
def wantK (ops : List Oper) (fr : Tr AV) (g : Option (Nat × Bool)) (yes no : Bool) : Bool := Option.rec yes (fun p => Prod.rec (fun j want => Option.rec false (fun o => Option.rec false (fun t => Option.rec false (fun v => match v with
  | .bool b => Bool.rec (Bool.rec yes no want) (Bool.rec no yes want) b
  | .tup [] => no
  | _ => false) (fr.get t)) (Oper.rec (fun d _ _ _ _ _ => d) o)) (nth ops j)) p) g
theorem oper_dst (o : Oper) : (Oper.rec (fun d _ _ _ _ _ => d) o : Option Tmp) = o.dst := by cases o; rfl
theorem wantK_spec {ops : List Oper} {fr : Tr AV} {g : Option (Nat × Bool)} {yes no : Bool} (h : wantK ops fr g yes no = true) {ρ : Env} {a : Act} (hs : Fk ρ fr a.tmps) : ∃ b, cond b yes no = true ∧ ∀ d op ty pos af, Region.wanted ⟨d, op, ty, pos, af, g⟩ (yielded ops.toArray a.tmps) = b := by
  cases g with
  | none => exact ⟨true, h, fun d op ty pos af => by simp [Region.wanted]⟩
  | some p =>
    obtain ⟨j, want⟩ := p
    obtain ⟨o, h1, h⟩ := opt_rec (show (Option.rec false (fun o => Option.rec false (fun t => Option.rec false (fun v => match v with
      | .bool b => Bool.rec (Bool.rec yes no want) (Bool.rec no yes want) b
      | .tup [] => no
      | _ => false) (fr.get t)) (Oper.rec (fun d _ _ _ _ _ => d) o)) (nth ops j) : Bool) = true from h)
    obtain ⟨t, h2, h⟩ := opt_rec h
    obtain ⟨v, h3, h⟩ := opt_rec h
    rw [oper_dst] at h2
    rw [nth_eq] at h1
    obtain ⟨r, h4, h5⟩ := hs t v h3
    have hj : (ops[j]?.bind fun x => x.dst) = some t := by simp [h1, h2]
    have hy : ∀ d op ty pos af, Region.wanted ⟨d, op, ty, pos, af, some (j, want)⟩ (yielded ops.toArray a.tmps) = (yielded ops.toArray a.tmps j == some want) := fun d op ty pos af => rfl
    split at h
    · rename_i b
      obtain rfl : r = .bool b := by simpa [ren] using h5.symm
      refine ⟨b == want, by cases b <;> cases want <;> exact h, fun d op ty pos af => ?_⟩
      rw [hy]
      simp [yielded, hj, h4]
    · obtain rfl : r = .tuple #[] := by simpa [ren, renL] using h5.symm
      refine ⟨false, h, fun d op ty pos af => ?_⟩
      rw [hy]
      simp [yielded, hj, h4]
    · cases h
end
end Go.Ev
