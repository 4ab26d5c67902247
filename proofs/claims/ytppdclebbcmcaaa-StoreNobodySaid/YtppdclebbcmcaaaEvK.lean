/- The evaluator, part K: operations that change memory: new blocks, stores, maps. -/
import Derived.Test.YtppdclebbcmcaaaEvJ
set_option linter.unusedSimpArgs false
set_option linter.unusedVariables false
namespace Go.Ev
open Go.Sl
noncomputable section
variable {P : Program} {T : Tabs P} {c : Cn} {ρ : Env} {fr : Tr AV} {ds : List AD} {M : Mem} {nx : Nat} {a : Act} {w : World}

/-- The operation leaves one of these, and k is content. -/
def Eff (P : Program) (c : Cn) (ρ : Env) (a : Act) (w : World) (op : Op) (k : AV → Mem → Nat → Bool) : Prop :=
  ∃ v r ρ' M' w' n, Ext ρ ρ' ∧ ren ρ' v = some r ∧ k v M' ρ'.length = true ∧ Rep ρ' M' c.hF w' ∧ Same w w' ∧ (n = Next.value r ∨ (n = .skip ∧ r = undef)) ∧ ∀ o : Oper, o.op = op → (execOp a.eval o).run P w = .ok n w'
theorem Yes.eff {W : World → Prop} {op : Op} {k : AV → Mem → Nat → Bool} (s : Rel T c ρ fr ds M nx a w) (h : Yes P ρ a W op fun v => k v M nx) (hW : W w) : Eff P c ρ a w op k := by
  obtain ⟨v, r, h1, h2, h3⟩ := h
  refine ⟨v, r, ρ, M, w, .value r, .refl ρ, h1, by rw [s.nx]; exact h2, s.rep, .refl w, .inl rfl, ?_⟩
  rintro ⟨d, op', ty, pos, af, g⟩ rfl
  exact yrun (h3 w hW ty) d pos af g

/-! ### new blocks -/
def newK (M : Mem) (nx : Nat) (ck : Ck) (k : Mem → Nat → Bool) : Bool := M.set nx ck fun M' => forceN (Nat.succ nx) fun n => k M' n
theorem newK_spec {ck : Ck} {k : Mem → Nat → Bool} (h : newK M nx ck k = true) (s : Rel T c ρ fr ds M nx a w) {κ : Nat} {o : Obj} {w' : World} (hw' : w' = w.alloc o ∨ w' = w.drew.alloc o) (ho : ck.own = true) (hs : Sh (ρ ++ [(w.heap.size, 0, κ)]) c.hF (w.heap.size, 0, κ) (some o) ck) :
    ∃ M', k M' (ρ ++ [(w.heap.size, 0, κ)]).length = true ∧ Rep (ρ ++ [(w.heap.size, 0, κ)]) M' c.hF w' ∧ Same w w' := by
  obtain ⟨M', h1, h2⟩ := Tr.set_spec h
  rw [forceN_eq] at h2
  have hle : le (mem w) (mem w') := by
    rcases hw' with rfl | rfl
    · exact le_alloc w o
    · exact le_alloc w.drew o
  have hnew : w'.heap[w.heap.size]? = some o := by
    rcases hw' with rfl | rfl
    · exact World.alloc_heap_new w o
    · exact World.alloc_heap_new w.drew o
  have hsame : Same w w' := by
    rcases hw' with rfl | rfl
    · exact .alloc w o
    · exact ⟨rfl, rfl, rfl, by simp⟩
  refine ⟨M', by rw [Env.length_app, s.nx]; exact h2, ?_, hsame⟩
  rw [← s.nx] at h1
  exact s.rep.add h1 ho (by simp) hle (by rw [hnew]; exact hs)
theorem ren_new {κ : Nat} {b : Nat} : ren (ρ ++ [(b, 0, κ)]) (.ptr ρ.length 0) = some (.pointer (some ⟨b, 0, none⟩)) := by simp [ren]
theorem row_new {κ : Nat} {t s : TypeId} {l : List AV} {vs : List Value} {b : Nat} (hl : RL ρ l vs) (h1 : allL one l = true) {ex : List Value} (hx : κ * s ≤ ex.length) : rowIs (ρ ++ [(b, 0, κ)]) (b, 0, κ) (some (.cells ⟨vs ++ ex⟩ t (0, 0))) t s l 0 :=
  ⟨[], vs, ex, (0, 0), hl.ext (Ext.one _ _), by simp, rfl, hx, .inr (.inl (Nat.le_refl _)), h1⟩
theorem sh_new {hF : Hp} {b t sz : Nat} {l : List AV} {cs : Array Value} (hz : RL ρ l cs.toList) (h1 : allL one l = true) : Sh (ρ ++ [(b, 0, 0)]) hF (b, 0, 0) (some (.cells cs t)) (.row t sz l 0) := by
  have h := row_new (κ := 0) (t := t) (s := sz) (b := b) hz h1 (ex := []) (by simp)
  rw [List.append_nil] at h
  exact h
theorem run_newVar {t : TypeId} {v : Value} : (newVar t v).run P w = .ok ⟨w.heap.size, 0, none⟩ (w.alloc (.cells v.cells t)) := by simp [newVar, run_newRow]
def allocK (P : Program) (M : Mem) (nx : Nat) (t : TypeId) (k : AV → Mem → Nat → Bool) : Bool := zeroK P t fun z => both (allL one (cellsA z)) (newK M nx (.row t 0 (cellsA z) 0) (k (.ptr nx 0)))
theorem allocK_spec {t : TypeId} {k : AV → Mem → Nat → Bool} (h : allocK P M nx t k = true) (s : Rel T c ρ fr ds M nx a w) : Eff P c ρ a w (.alloc t) k := by
  obtain ⟨z, h1, h2⟩ := opt_rec h
  obtain ⟨z', z1, z2, _⟩ := zeroA_spec h1 ρ
  obtain ⟨h3, h2⟩ := both_eq.1 h2
  have hz := cellsA_spec z2
  obtain ⟨M', g1, g2, g3⟩ := newK_spec (κ := 0) (o := .cells z'.cells t) h2 s (.inl rfl) rfl (sh_new hz h3)
  refine ⟨.ptr nx 0, .pointer (some ⟨w.heap.size, 0, none⟩), _, M', _, _, Ext.one _ _, by rw [← s.nx]; exact ren_new, g1, g2, g3, .inl rfl, ?_⟩
  rintro ⟨d, op', ty, pos, af, g⟩ rfl
  simp [execOp, Instr.alloc, run_zeroV z1, run_newVar]
def boxK (T : Tabs P) (fr : Tr AV) (M : Mem) (nx : Nat) (t : TypeId) (x : Operand) (k : AV → Mem → Nat → Bool) : Bool := argK T fr x fun z => both (allL one (cellsA z)) (newK M nx (.row t 0 (cellsA z) 0) (k (.ptr nx 0)))
theorem boxK_spec {t : TypeId} {x : Operand} {k : AV → Mem → Nat → Bool} (h : boxK T fr M nx t x k = true) (s : Rel T c ρ fr ds M nx a w) : Eff P c ρ a w (.box t x) k := by
  obtain ⟨z, z', h1, h2⟩ := argK_spec h s
  obtain ⟨h3, h2⟩ := both_eq.1 h2
  have hz := cellsA_spec h1.ren
  obtain ⟨M', g1, g2, g3⟩ := newK_spec (κ := 0) (o := .cells z'.cells t) h2 s (.inl rfl) rfl (sh_new hz h3)
  refine ⟨.ptr nx 0, .pointer (some ⟨w.heap.size, 0, none⟩), _, M', _, _, Ext.one _ _, by rw [← s.nx]; exact ren_new, g1, g2, g3, .inl rfl, ?_⟩
  rintro ⟨d, op', ty, pos, af, g⟩ rfl
  simp [execOp, Instr.box, h1.eval, run_newVar]
theorem ren_newSl {κ : Nat} {b n cc : Nat} {sb : Bool} : ren (ρ ++ [(b, 0, κ)]) (.sl ρ.length 0 n cc sb) = some (.slice (some ⟨b, 0, none⟩) n (cc + cond sb κ 0)) := by simp [ren]
def makeMapK (T : Tabs P) (fr : Tr AV) (M : Mem) (nx : Nat) (t : TypeId) (r : Option Operand) (k : AV → Mem → Nat → Bool) : Bool := Option.rec (newK M nx (.map [] 0) (k (.map nx))) (fun x => argK T fr x fun v => match v with
  | .int _ _ => Option.rec false (fun r => match r with
    | ⟨.map _ _, _, _⟩ => newK M nx (.map [] 0) (k (.map nx))
    | _ => false) (T.T t)
  | _ => false) r
theorem makeMapK_spec {t : TypeId} {r : Option Operand} {k : AV → Mem → Nat → Bool} (h : makeMapK T fr M nx t r k = true) (s : Rel T c ρ fr ds M nx a w) : Eff P c ρ a w (.makeMap t r) k := by
  have key : newK M nx (.map [] 0) (k (.map nx)) = true → (∀ o : Oper, o.op = .makeMap t r → (execOp a.eval o).run P w = .ok (.value (.map (some w.heap.size))) (w.alloc (.map #[] 0))) → Eff P c ρ a w (.makeMap t r) k := fun h2 hr => by
    obtain ⟨M', g1, g2, g3⟩ := newK_spec (κ := 0) (o := .map #[] 0) h2 s (.inl rfl) rfl ⟨[], rfl, rfl⟩
    exact ⟨.map nx, .map (some w.heap.size), _, M', _, _, Ext.one _ _, by rw [← s.nx]; simp [ren], g1, g2, g3, .inl rfl, hr⟩
  have hn : (newObj (.map #[] 0)).run P w = .ok w.heap.size (w.alloc (.map #[] 0)) := rfl
  cases r with
  | none =>
    refine key h ?_
    rintro ⟨d, op', ty, pos, af, g⟩ rfl
    simp [execOp, Instr.makeMap, hn]
  | some x =>
    obtain ⟨v, r, h1, h2⟩ := argK_spec h s
    cases v <;> try (cases h2; done)
    rename_i kd n
    obtain rfl : r = .int kd n := by simpa [ren] using h1.ren.symm
    obtain ⟨⟨d, z, b⟩, h3, h2⟩ := opt_rec h2
    cases d <;> try (cases h2; done)
    have ht := (T.okT _ _ h3).td
    refine key h2 ?_
    rintro ⟨d, op', ty, pos, af, g⟩ rfl
    simp [execOp, Instr.makeMap, hn, h1.eval, run_underlying ht, asInt, asIntOf]
/-- So many rows of these cells, and these behind them. -/
def repApp (zl : List AV) (n : Nat) : List AV → (List AV → Bool) → Bool := Nat.rec (fun l k => k l) (fun _ ih l k => appL zl l fun l' => ih l' k) n
theorem repApp_eq (zl : List AV) : ∀ (n : Nat) (l : List AV) (k : List AV → Bool), repApp zl n l k = k ((List.replicate n zl).flatten ++ l)
  | 0, l, k => rfl
  | n + 1, l, k => by
    show appL zl l (fun l' => repApp zl n l' k) = _
    rw [appL_eq, repApp_eq zl n, List.replicate_succ']
    simp
theorem all_rep {zl : List AV} (h : allL one zl = true) (n : Nat) : allL one (List.replicate n zl).flatten = true := by
  have key : ∀ {l : List AV}, (∀ x ∈ l, one x = true) → allL one l = true := by
    intro l
    induction l with
    | nil => intro _; rfl
    | cons x l ih =>
      intro hx
      show both (one x) (allL one l) = true
      exact both_eq.2 ⟨hx x (by simp), ih fun y hy => hx y (by simp [hy])⟩
  refine key fun x hx => ?_
  obtain ⟨l, hl, hx'⟩ := List.mem_flatten.1 hx
  obtain ⟨_, rfl⟩ := List.mem_replicate.1 hl
  exact allL_spec h x hx'
def makeSlK (P : Program) (T : Tabs P) (fr : Tr AV) (M : Mem) (nx : Nat) (t : TypeId) (l cp : Operand) (k : AV → Mem → Nat → Bool) : Bool := argK T fr l fun v => argK T fr cp fun u => match v with
  | .int _ (.ofNat n) => (match u with
    | .int _ (.ofNat m) => Option.rec false (fun r => match r with
      | ⟨.sl e, _, _⟩ => Option.rec false (fun q => zeroK P e fun z => both (allL one (cellsA z)) (both (Nat.ble n m) (both (Nat.ble (Nat.mul q.bytes m) 281474976710656) (both (Nat.ble m 9223372036854775807) (lenL (cellsA z) 0 fun j => both (Nat.beq j q.size)
          (repApp (cellsA z) m [] fun cells => newK M nx (.row e q.size cells 0) (k (.sl nx 0 n m false)))))))) (T.T e)
      | _ => false) (T.T t)
    | _ => false)
  | _ => false
theorem makeSlK_spec {t : TypeId} {l cp : Operand} {k : AV → Mem → Nat → Bool} (h : makeSlK P T fr M nx t l cp k = true) (s : Rel T c ρ fr ds M nx a w) : Eff P c ρ a w (.makeSlice t l cp) k := by
  obtain ⟨v, r1, h1, g0⟩ := argK_spec h s
  obtain ⟨u, r2, h2, g⟩ := argK_spec g0 s
  clear g0 h
  cases v <;> try (cases g; done)
  rename_i k1 n
  cases n <;> try (cases g; done)
  rename_i n
  cases u <;> try (cases g; done)
  rename_i k2 m
  cases m <;> try (cases g; done)
  rename_i m
  obtain rfl : r1 = .int k1 n := by simpa [ren] using h1.ren.symm
  obtain rfl : r2 = .int k2 m := by simpa [ren] using h2.ren.symm
  obtain ⟨⟨d, sz, b⟩, h3, g⟩ := opt_rec g
  cases d <;> try (cases g; done)
  rename_i e
  have ht := (T.okT _ _ h3).td
  obtain ⟨q, h4, g⟩ := opt_rec g
  obtain ⟨z, h5, g⟩ := opt_rec g
  obtain ⟨z', z1, z2, z3⟩ := zeroA_spec h5 ρ
  obtain ⟨c1, g⟩ := both_eq.1 g
  obtain ⟨c2, g⟩ := both_eq.1 g
  obtain ⟨c3, g⟩ := both_eq.1 g
  obtain ⟨c4, g⟩ := both_eq.1 g
  rw [lenL_eq] at g
  obtain ⟨c5, g⟩ := both_eq.1 g
  rw [repApp_eq] at g
  have c2 := Nat.le_of_ble_eq_true c2
  have c3 : q.bytes * m ≤ 281474976710656 := Nat.le_of_ble_eq_true c3
  have c4 := Nat.le_of_ble_eq_true c4
  have c5 := Nat.eq_of_beq_eq_true c5
  have hz := cellsA_spec z2
  have hzl : z'.cells.toList.length = q.size := by rw [hz.length]; exact c5
  obtain ⟨i, hi, hsz⟩ := Option.map_eq_some_iff.1 (T.okT _ _ h4).size
  obtain ⟨i', hi', hby⟩ := Option.map_eq_some_iff.1 (T.okT _ _ h4).bytes
  rw [hi] at hi'; cases hi'
  have hiz : i.zero = some z' := by unfold zeroV at z1; rw [hi] at z1; exact z1
  have hbi : (i.bytes : Int) * (m : Int) ≤ 281474976710656 := by rw [hby, ← Int.natCast_mul]; omega
  have hrun := run_make (P := P) w t e i z' ht hi hiz k1 k2 n m (by omega) (by omega) hbi (by omega)
  have hcells : madeCells z'.cells (m * i.size) = ⟨(List.replicate m z'.cells.toList).flatten⟩ := by
    rw [hsz, ← hzl]
    by_cases h0 : 0 < z'.cells.toList.length
    · exact Array.toList_inj.1 (made_flat z'.cells.toList h0 m)
    · have : z'.cells.toList = [] := List.length_eq_zero_iff.1 (by omega)
      rw [this]; simp [madeCells]
  rw [List.append_nil] at g
  obtain ⟨M', g1, g2, g3⟩ := newK_spec (κ := 0) (o := .cells (madeCells z'.cells (m * i.size)) e) g s (.inl rfl) rfl (by
    rw [hcells]
    exact sh_new (hz.flat m) (all_rep c1 m))
  refine ⟨.sl nx 0 n m false, .slice (some ⟨w.heap.size, 0, none⟩) n m, _, M', _, _, Ext.one _ _, by rw [← s.nx]; exact ren_newSl, g1, g2, g3, .inl rfl, ?_⟩
  rintro ⟨d, op', ty, pos, af, gg⟩ rfl
  simp only [execOp, h1.eval, h2.eval, Sem.run_bind]
  rw [hrun]; rfl

/-! ### a block that turns -/
def turnK (M : Mem) (nx : Nat) (i : Nat) (ck : Ck) (k : Mem → Nat → Bool) : Bool := M.set i ck fun M' => k M' nx
theorem turnK_spec {i : Nat} {ck ck' : Ck} {k : Mem → Nat → Bool} {e : Nat × Nat × Nat} (h : turnK M nx i ck' k = true) (s : Rel T c ρ fr ds M nx a w) (hi : M.get i = some ck) (ho : ck.own = true) (ho' : ck'.own = true) (he : ρ[i]? = some e) {w' : World}
    (hw : ∀ b, b ≠ e.1 → w'.heap[b]? = w.heap[b]?) (hs : Sh ρ c.hF e (w'.heap[e.1]?) ck') : ∃ M', k M' ρ.length = true ∧ Rep ρ M' c.hF w' := by
  obtain ⟨M', h1, h2⟩ := Tr.set_spec h
  refine ⟨M', by rw [s.nx]; exact h2, s.rep.turn hi ho he h1 ho' (fun b o hb => ?_) hs⟩
  unfold but at hb
  split at hb
  · cases hb
  · rename_i hne
    show w'.heap[b]? = some o
    rw [hw b hne]; exact hb

/-! ### stores -/
def spliceK (l : List AV) (o : Nat) (cells : List AV) (size : Nat) (k : List AV → Bool) : Bool :=
  List.rec (lenL cells 0 fun n => both (Nat.beq n size) (splitL l o fun A B => splitL B size fun _ C => appL cells C fun D => appL A D k))
    (fun x t _ => List.rec (both (Nat.beq size 1) (setL l x o k)) (fun _ _ _ => lenL cells 0 fun n => both (Nat.beq n size) (splitL l o fun A B => splitL B size fun _ C => appL cells C fun D => appL A D k)) t) cells
theorem spliceK_spec {l cells : List AV} {o size : Nat} {k : List AV → Bool} (h : spliceK l o cells size k = true) : cells.length = size ∧ o + cells.length ≤ l.length ∧ k (l.take o ++ (cells ++ l.drop (o + cells.length))) = true := by
  have big : (lenL cells 0 fun n => both (Nat.beq n size) (splitL l o fun A B => splitL B size fun _ C => appL cells C fun D => appL A D k)) = true → cells.length = size ∧ o + cells.length ≤ l.length ∧ k (l.take o ++ (cells ++ l.drop (o + cells.length))) = true := fun h => by
    rw [lenL_eq] at h
    obtain ⟨h1, h⟩ := both_eq.1 h
    obtain ⟨h2, h⟩ := splitL_spec h
    obtain ⟨h3, h⟩ := splitL_spec h
    rw [appL_eq, appL_eq] at h
    have h1 := Nat.eq_of_beq_eq_true h1
    rw [List.length_drop] at h3
    refine ⟨h1, by omega, ?_⟩
    rw [h1, ← List.drop_drop]; exact h
  match cells, h with
  | [], h => exact big h
  | [x], h =>
    obtain ⟨h1, h⟩ := both_eq.1 (show both (Nat.beq size 1) (setL l x o k) = true from h)
    obtain ⟨h2, h⟩ := setL_spec h
    have h1 := Nat.eq_of_beq_eq_true h1
    refine ⟨by simp [h1], by simp; omega, ?_⟩
    have : l.take o ++ ([x] ++ l.drop (o + 1)) = l.set o x := by rw [List.set_eq_take_append_cons_drop, if_pos h2]; simp
    show k (l.take o ++ ([x] ++ l.drop (o + 1))) = true
    rw [this]; exact h
  | x :: y :: t, h => exact big h
def storeK (T : Tabs P) (fr : Tr AV) (M : Mem) (nx : Nat) (t : TypeId) (x y : Operand) (k : AV → Mem → Nat → Bool) : Bool := argK T fr x fun v => argK T fr y fun u => match v with
  | .ptr i o => Option.rec false (fun ck => match ck with
    | .row t' sz l fz => Option.rec false (fun r => both (Nat.ble fz o) (both (allL one (cellsA u)) (spliceK l o (cellsA u) r.size fun l' => turnK M nx i (.row t' sz l' fz) (k (.tup []))))) (T.T t)
    | _ => false) (M.get i)
  | _ => false
theorem frz_free {fz : Nat × Nat} {n o m z : Nat} (h : frz fz n z) (ho : n ≤ o) (hm : o + m ≤ z) : free fz o m = true := by
  unfold frz at h
  simp only [free, Bool.or_eq_true, Nat.ble_eq]
  omega
theorem allL_mk {p : AV → Bool} : ∀ {l : List AV}, (∀ x ∈ l, p x = true) → allL p l = true
  | [], _ => rfl
  | x :: l, h => both_eq.2 ⟨h x (by simp), allL_mk fun y hy => h y (by simp [hy])⟩
theorem one_all : ∀ {l : List AV} {vs : List Value}, RL ρ l vs → allL one l = true → ∀ u ∈ vs, u.oneCell' = true
  | [], vs, h, h1 => by rw [h.outNil]; simp
  | v :: l, vs, h, h1 => by
    obtain ⟨r, rs, rfl, h2, h3⟩ := h.out
    obtain ⟨g1, g2⟩ := both_eq.1 (show both (one v) (allL one l) = true from h1)
    intro u hu
    rcases List.mem_cons.1 hu with rfl | hu
    · exact one_spec h2 g1
    · exact one_all h3 g2 u hu
/-- A row's cells from o on are written over. -/
theorem row_write {e : Nat × Nat × Nat} {t s : Nat} {l cells : List AV} {fz o : Nat} {us : List Value} (h : rowIs ρ e (w.heap[e.1]?) t s l fz) (hu : RL ρ cells us) (h1 : allL one cells = true) (hle : o + cells.length ≤ l.length) (hfz : fz ≤ o) :
    ∃ w', (storeCells ⟨e.1, e.2.1 + o, none⟩ us).run P w = .ok () w' ∧ Same w w' ∧ (∀ b, b ≠ e.1 → w'.heap[b]? = w.heap[b]?) ∧ rowIs ρ e (w'.heap[e.1]?) t s (l.take o ++ (cells ++ l.drop (o + cells.length))) fz := by
  obtain ⟨pre, vs, ex, fzr, a1, a2, a3, a4, a5, a6⟩ := h
  replace a5 := a5.resolve_left (by omega)
  have hul := hu.length
  have hvl := a1.length
  obtain ⟨w', r, r1, r2, r3⟩ := run_store_list (P := P) (o := e.2.1 + o) us 0 (pre ++ (vs ++ ex)) w a2 (by simp; omega) (frz_free a5 (by omega) (by simp; omega)) (one_all hu h1)
  refine ⟨w', r, r3, r2, pre, vs.take o ++ (us ++ vs.drop (o + us.length)), ex, fzr, (a1.take o).append (hu.append (by rw [hul]; exact a1.drop _)), ?_, a3, a4, ?_, ?_⟩
  · rw [r1]
    congr 2
    apply Array.toList_inj.1
    simp only [splice, Nat.add_zero]
    rw [← a3]
    rw [List.take_append, List.drop_append]
    rw [List.take_of_length_le (by omega), List.drop_of_length_le (by omega)]
    have e1 : pre.length + o - pre.length = o := by omega
    have e2 : pre.length + o + us.length - pre.length = o + us.length := by omega
    rw [e1, e2, List.take_append_of_le_length (by omega), List.drop_append_of_le_length (by omega)]
    simp
  · have : (pre ++ (vs.take o ++ (us ++ vs.drop (o + us.length)) ++ ex)).length = (pre ++ (vs ++ ex)).length := by
      simp only [List.length_append, List.length_take, List.length_drop]; omega
    rw [this]; exact .inr a5
  · refine allL_mk fun x hx => ?_
    rcases List.mem_append.1 hx with hx | hx
    · exact allL_spec a6 x (List.mem_of_mem_take hx)
    · rcases List.mem_append.1 hx with hx | hx
      · exact allL_spec h1 x hx
      · exact allL_spec a6 x (List.mem_of_mem_drop hx)
theorem storeK_spec {t : TypeId} {x y : Operand} {k : AV → Mem → Nat → Bool} (h : storeK T fr M nx t x y k = true) (s : Rel T c ρ fr ds M nx a w) : Eff P c ρ a w (.store t x y) k := by
  obtain ⟨v, r1, h1, g0⟩ := argK_spec h s
  obtain ⟨u, r2, h2, g⟩ := argK_spec g0 s
  clear g0 h
  cases v <;> try (cases g; done)
  rename_i i o
  obtain ⟨ck, h3, g⟩ := opt_rec (show (Option.rec false (fun ck : Ck => match ck with
    | .row t' sz l fz => Option.rec false (fun r => both (Nat.ble fz o) (both (allL one (cellsA u)) (spliceK l o (cellsA u) r.size fun l' => turnK M nx i (.row t' sz l' fz) (k (.tup []))))) (T.T t)
    | _ => false) (M.get i) : Bool) = true from g)
  cases ck <;> try (cases g; done)
  rename_i t' sz l fz
  obtain ⟨q, h4, g⟩ := opt_rec g
  obtain ⟨c1, g⟩ := both_eq.1 g
  obtain ⟨c2, g⟩ := both_eq.1 g
  obtain ⟨c3, c4, g⟩ := spliceK_spec g
  obtain ⟨e, he, hsh, _⟩ := s.rep.own _ _ h3
  have e1 := h1.ren
  simp only [ren, he, Option.map_some, Option.some.injEq] at e1
  subst e1
  have hc := cellsA_spec h2.ren
  obtain ⟨w', r0, r3, r2', r4⟩ := row_write (P := P) hsh hc c2 c4 (Nat.le_of_ble_eq_true c1)
  obtain ⟨M', k1, k2⟩ := turnK_spec g s h3 rfl rfl he r2' r4
  refine ⟨.tup [], undef, ρ, M', w', .skip, .refl ρ, rfl, k1, k2, r3, .inr ⟨rfl, rfl⟩, ?_⟩
  rintro ⟨d, op', ty, pos, af, gg⟩ rfl
  have hsz : tsize P t = some r2.cells.size := by
    rw [(T.okT _ _ h4).size, ← c3, ← hc.length]; simp
  simp [execOp, Instr.storeAt, h1.eval, h2.eval, Instr.sureAddr, storeVar, Sl.run_sizeOf hsz, r0]
end
end Go.Ev
