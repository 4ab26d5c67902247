/- The engine, part D: operations on memory. -/
import Derived.Test.YtabbonafljochaaGreatDoorEnC
namespace Go.Sl
variable {P : Program} {cx : Cx} {fr : Fr} {Γ : List HProp} {Q : Exit → Act → World → Prop} {ops : Array Oper} {rest : List Oper} {ty : TypeId}

/-! ### the program's tables, as one asks them -/
def tsize (P : Program) (t : TypeId) : Option Nat := (P.info? t).map (·.size)
def tbytes (P : Program) (t : TypeId) : Option Nat := (P.info? t).map (·.bytes)
def zeroL (P : Program) (t : TypeId) : Option (List Value) := ((P.info? t).bind (·.zero)).map (·.cells.toList)
def isRow (P : Program) (t : TypeId) : Option Bool := (P.underlying t).map fun | .struct _ | .array _ _ => true | _ => false
def fieldInfo (P : Program) (s : TypeId) (f : Nat) : Option (Nat × TypeId) := match P.underlying s with
  | some (.struct fs) => (fs[f]?).map fun d => (d.offset, d.type)
  | _ => none

theorem run_sizeOf {t : TypeId} {n : Nat} (h : tsize P t = some n) (w : World) : (sizeOf t).run P w = .ok n w := by
  obtain ⟨i, hi, rfl⟩ := Option.map_eq_some_iff.1 h
  simp [sizeOf, typeInfo, hi]
theorem run_isAgg {t : TypeId} {b : Bool} (h : isRow P t = some b) (w : World) : (isAgg t).run P w = .ok b w := by
  obtain ⟨d, hd, rfl⟩ := Option.map_eq_some_iff.1 h
  simp only [isAgg, Sem.run_bind, run_underlying hd, Result.andThen_ok]
  cases d <;> rfl
theorem run_zero {t : TypeId} {l : List Value} (h : zeroL P t = some l) (w : World) : ∃ z, (zeroValue t).run P w = .ok z w ∧ z.cells = ⟨l⟩ := by
  obtain ⟨z, hz, rfl⟩ := Option.map_eq_some_iff.1 h
  obtain ⟨i, hi, hz⟩ := Option.bind_eq_some_iff.1 hz
  exact ⟨z, by simp [zeroValue, typeInfo, hi, hz], by simp⟩

/-! ### reading -/
theorem cell_of {w : World} {b o : Nat} {l : List Value} {e : TypeId} {fz : Nat × Nat} (h : w.heap[b]? = some (.cells ⟨l⟩ e fz)) : w.cell? ⟨b, o, none⟩ = l[o]? := by
  simp [World.cell?, h]
theorem frozen_of {w : World} {b o : Nat} {l : List Value} {e : TypeId} {fz : Nat × Nat} (h : w.heap[b]? = some (.cells ⟨l⟩ e fz)) : w.frozen? ⟨b, o, none⟩ = (decide (fz.1 ≤ o) && decide (o < fz.2)) := by
  simp [World.frozen?, h]
/-- 'A' lies at o in l. -/
def At (l : List Value) (o : Nat) (A : List Value) : Prop := ∀ j v, A[j]? = some v → l[o + j]? = some v
theorem At.of_take {l A : List Value} {o n : Nat} (h : (l.drop o).take n = A) : At l o A := fun j v e => by
  subst h
  rw [List.getElem?_take] at e
  split at e
  · simpa [List.getElem?_drop] using e
  · cases e
theorem At.mid (x A y : List Value) : At (x ++ A ++ y) x.length A := fun j v e => by
  have hj : j < A.length := (List.getElem?_eq_some_iff.1 e).1
  rw [List.append_assoc, List.getElem?_append_right (by omega), Nat.add_sub_cancel_left, List.getElem?_append_left hj]; exact e
theorem At.front (A y : List Value) : At (A ++ y) 0 A := by simpa using At.mid [] A y
theorem At.all (A : List Value) : At A 0 A := by simpa using At.mid [] A []
theorem At.append {l A B : List Value} {o : Nat} (h : At l o A) (h' : At l (o + A.length) B) : At l o (A ++ B) := fun j v e => by
  by_cases hj : j < A.length
  · rw [List.getElem?_append_left hj] at e; exact h j v e
  · rw [List.getElem?_append_right (by omega)] at e
    have := h' _ v e
    rwa [show o + A.length + (j - A.length) = o + j by omega] at this
theorem At.nil (l : List Value) (o : Nat) : At l o [] := fun j v e => by simp at e
theorem At.le {l A : List Value} {o : Nat} (h : At l o A) (hp : 0 < A.length) : o + A.length ≤ l.length := by
  have := h (A.length - 1) A[A.length - 1] (by simp)
  have := (List.getElem?_eq_some_iff.1 this).1
  omega
theorem At.sub {l A : List Value} {o i n : Nat} (h : At l o A) : At l (o + i) ((A.drop i).take n) := fun j v e => by
  rw [List.getElem?_take] at e
  split at e
  · rw [List.getElem?_drop] at e
    have := h _ v e
    rwa [← Nat.add_assoc] at this
  · cases e
theorem At.drop {l A : List Value} {o i : Nat} (h : At l o A) : At l (o + i) (A.drop i) := fun j v e => by
  rw [List.getElem?_drop] at e
  have := h _ v e
  rwa [← Nat.add_assoc] at this

theorem run_loadCells_at {w : World} {b o : Nat} {l A : List Value} {e : TypeId} {fz : Nat × Nat} (h : w.heap[b]? = some (.cells ⟨l⟩ e fz)) (hA : At l o A) : (loadCells ⟨b, o, none⟩ A.length).run P w = .ok ⟨A⟩ w :=
  run_loadCells_list (P := P) w ⟨b, o, none⟩ A (fun j v hv => by rw [Addr.add_mid, cell_of h]; exact hA j v hv)

section loads
variable {x y : Operand} {b o off : Nat} {l A : List Value} {e t s : TypeId} {fz : Nat × Nat} {v : Value}
theorem Yl.fieldAddr {f n : Nat} {u : TypeId} (hf : fieldInfo P s f = some (off, u)) (hn : tsize P u = some (n + 1)) (hx : ev cx fr x = some (.pointer (some ⟨b, o, none⟩))) : Yl P cx fr Γ (.fieldAddr s x f) ty (.pointer (some ⟨b, o + off, none⟩)) := fun a w d pos af g st => by
  unfold fieldInfo at hf
  split at hf
  · rename_i fs hs
    obtain ⟨d, hd, hp⟩ := Option.map_eq_some_iff.1 hf
    cases hp
    simp [execOp, Instr.fieldAt, st.eval hx, run_underlying hs, hd, Instr.sureAddr, fieldPlace, run_sizeOf hn, Addr.add_mid]
  · cases hf
theorem Yl.load (hs : isRow P t = some false) (hx : ev cx fr x = some (.pointer (some ⟨b, o, none⟩))) (hr : Rd Γ cx.hF b (.cells ⟨l⟩ e fz)) (hv : l[o]? = some v) : Yl P cx fr Γ (.load t x) ty v := fun a w d pos af g st => by
  have hc : w.cell? ⟨b, o, none⟩ = some v := by rw [cell_of (hr w st.heap)]; exact hv
  simp [execOp, Instr.loadAt, st.eval hx, Instr.sureAddr, loadVar, run_isAgg hs, hc]
theorem run_loadVar_at {w : World} (hs : isRow P t = some true) (hn : tsize P t = some A.length) (h : w.heap[b]? = some (.cells ⟨l⟩ e fz)) (hA : At l o A) : (loadVar t ⟨b, o, none⟩).run P w = .ok (.agg ⟨A⟩) w := by
  simp [loadVar, run_isAgg hs, run_sizeOf hn, run_loadCells_at h hA]
theorem Yl.loadRow (hs : isRow P t = some true) (hn : tsize P t = some A.length) (hx : ev cx fr x = some (.pointer (some ⟨b, o, none⟩))) (hr : Rd Γ cx.hF b (.cells ⟨l⟩ e fz)) (hA : At l o A) : Yl P cx fr Γ (.load t x) ty (.agg ⟨A⟩) := fun a w d pos af g st => by
  simp [execOp, Instr.loadAt, st.eval hx, Instr.sureAddr, run_loadVar_at hs hn (hr w st.heap) hA]
theorem Yl.field {f : Nat} {u : TypeId} (hf : fieldInfo P s f = some (off, u)) (hu : isRow P u = some false) (hx : ev cx fr x = some (.agg ⟨l⟩)) (hv : l[off]? = some v) : Yl P cx fr Γ (.field s x f) ty v := fun a w d pos af g st => by
  unfold fieldInfo at hf
  split at hf
  · rename_i fs hs
    obtain ⟨d, hd, hp⟩ := Option.map_eq_some_iff.1 hf
    cases hp
    simp [execOp, Instr.field, st.eval hx, run_underlying hs, hd, part, run_isAgg hu, asAgg, hv]
  · cases hf
theorem Yl.fieldRow {f n : Nat} {u : TypeId} (hf : fieldInfo P s f = some (off, u)) (hu : isRow P u = some true) (hn : tsize P u = some n) (hx : ev cx fr x = some (.agg ⟨l⟩)) (hA : (l.drop off).take n = A) : Yl P cx fr Γ (.field s x f) ty (.agg ⟨A⟩) := fun a w d pos af g st => by
  unfold fieldInfo at hf
  split at hf
  · rename_i fs hs
    obtain ⟨d, hd, hp⟩ := Option.map_eq_some_iff.1 hf
    cases hp
    subst hA
    simp [execOp, Instr.field, st.eval hx, run_underlying hs, hd, part, run_isAgg hu, run_sizeOf hn, asAgg, List.extract_eq_take_drop]
  · cases hf
theorem Yl.indexAddr {i : Int} {k : IntKind} {n c sz : Nat} (ht : P.underlying t = some (.slice e)) (hs : tsize P e = some sz) (hx : ev cx fr x = some (.slice (some ⟨b, o, none⟩) n c)) (hy : ev cx fr y = some (.int k i)) (h : 0 ≤ i ∧ i < n) :
    Yl P cx fr Γ (.indexAddr t x y) ty (.pointer (some ⟨b, o + i.toNat * sz, none⟩)) := fun a w d pos af g st => by
  simp [execOp, Instr.indexAt, st.eval hx, st.eval hy, asIntOf, run_underlying ht, h, run_sizeOf hs, Addr.add_mid]
theorem Yl.indexAddr_arr {i : Int} {k : IntKind} {n sz : Nat} (ht : P.underlying t = some (.array n e)) (hs : tsize P e = some sz) (hx : ev cx fr x = some (.pointer (some ⟨b, o, none⟩))) (hy : ev cx fr y = some (.int k i)) (h : 0 ≤ i ∧ i < n) :
    Yl P cx fr Γ (.indexAddr t x y) ty (.pointer (some ⟨b, o + i.toNat * sz, none⟩)) := fun a w d pos af g st => by
  simp [execOp, Instr.indexAt, Instr.sureAddr, st.eval hx, st.eval hy, asIntOf, run_underlying ht, h, run_sizeOf hs, Addr.add_mid]
theorem Yl.index_arr {i : Int} {k : IntKind} {n sz : Nat} (ht : P.underlying t = some (.array n e)) (hr : isRow P e = some false) (hs : tsize P e = some sz) (hx : ev cx fr x = some (.agg ⟨l⟩)) (hy : ev cx fr y = some (.int k i)) (h : 0 ≤ i ∧ i < n) (hv : l[i.toNat * sz]? = some v) :
    Yl P cx fr Γ (.index t x y) ty v := fun a w d pos af g st => by
  simp [execOp, Instr.index, part, st.eval hx, st.eval hy, asIntOf, run_underlying ht, h, run_sizeOf hs, run_isAgg hr, hv]
end loads

/-! ### writing -/
def splice (l : List Value) (o : Nat) (A : List Value) : List Value := l.take o ++ A ++ l.drop (o + A.length)
theorem splice_length {l A : List Value} {o : Nat} (h : o + A.length ≤ l.length) : (splice l o A).length = l.length := by simp [splice]; omega
theorem splice_nil (l : List Value) (o : Nat) : splice l o [] = l := by simp [splice]
theorem splice_one {l : List Value} {o : Nat} {v : Value} (h : o < l.length) : splice l o [v] = l.set o v := by
  simp only [splice, List.length_cons, List.length_nil]
  rw [List.set_eq_take_append_cons_drop, if_pos h]; simp
theorem splice_mid (x A A' y : List Value) (h : A'.length = A.length) : splice (x ++ A ++ y) x.length A' = x ++ A' ++ y := by
  have h1 : List.drop (x.length + A'.length) (x ++ A ++ y) = y := by rw [h, ← List.length_append]; exact List.drop_left
  rw [splice, h1]; simp
/-- Nothing that is laid in this row from o on bears a mark. -/
def free (fz : Nat × Nat) (o n : Nat) : Bool := Nat.ble fz.2 fz.1 || Nat.ble fz.2 o || Nat.ble (o + n) fz.1
theorem free_spec {fz : Nat × Nat} {o n : Nat} (h : free fz o n = true) : ∀ j, j < n → (decide (fz.1 ≤ o + j) && decide (o + j < fz.2)) = false := by
  intro j hj
  simp only [free, Bool.or_eq_true, Nat.ble_eq] at h
  simp only [Bool.and_eq_false_iff, decide_eq_false_iff_not]
  omega

theorem run_store_list {b o : Nat} {e : TypeId} {fz : Nat × Nat} : ∀ (vs : List Value) (i : Nat) (l : List Value) (w : World), w.heap[b]? = some (.cells ⟨l⟩ e fz) → o + i + vs.length ≤ l.length → free fz (o + i) vs.length = true → (∀ v ∈ vs, v.oneCell' = true) →
    ∃ w', (storeCells ⟨b, o, none⟩ vs i).run P w = .ok () w' ∧ w'.heap[b]? = some (.cells ⟨splice l (o + i) vs⟩ e fz) ∧ (∀ k, k ≠ b → w'.heap[k]? = w.heap[k]?) ∧ Same w w'
  | [], i, l, w, h, _, _, _ => ⟨w, by simp [storeCells], by rw [splice_nil]; exact h, fun _ _ => rfl, .refl w⟩
  | v :: vs, i, l, w, h, hl, hf, h1 => by
    simp only [List.length_cons] at hl
    have hc : ∃ u, w.cell? ⟨b, o + i, none⟩ = some u := ⟨l[o + i], by rw [cell_of h]; simp⟩
    obtain ⟨u, hc⟩ := hc
    have hfz : w.frozen? ⟨b, o + i, none⟩ = false := by
      rw [frozen_of h]; have := free_spec hf 0 (by simp); simpa using this
    have hb : (w.setCell ⟨b, o + i, none⟩ v).heap[b]? = some (.cells ⟨l.set (o + i) v⟩ e fz) := by
      simp only [World.setCell, Array.getElem?_modify, h]
      simp
    have hoth : ∀ k, k ≠ b → (w.setCell ⟨b, o + i, none⟩ v).heap[k]? = w.heap[k]? := fun k hk => RowKit.Below.heap_setCell _ _ _ _ hk
    have hf' : free fz (o + (i + 1)) vs.length = true := by
      simp only [free, Bool.or_eq_true, Nat.ble_eq, List.length_cons] at *; omega
    obtain ⟨w', r, r1, r2, r3⟩ := run_store_list vs (i + 1) (l.set (o + i) v) _ hb (by simp; omega) hf' (fun x hx => h1 x (List.mem_cons_of_mem _ hx))
    refine ⟨w', ?_, ?_, fun k hk => (r2 k hk).trans (hoth k hk), ⟨r3.os, r3.tape, r3.output, by have := r3.size; simpa [World.setCell] using this⟩⟩
    · have hone := h1 v (by simp)
      simp only [storeCells, Sem.run_bind, Addr.add_mid]
      have : (store ⟨b, o + i, none⟩ v).run P w = .ok () (w.setCell ⟨b, o + i, none⟩ v) := by
        simp only [store]
        cases v <;> first | (simp [Sem.run, hc, hfz]; done) | (simp [Value.oneCell'] at hone)
      rw [this]; exact r
    · rw [r1]
      congr 2
      have hlt : o + i < l.length := by omega
      simp only [splice, List.length_cons]
      rw [show o + (i + 1) = o + i + 1 by omega, List.take_set, List.drop_set]
      have e1 : (List.take (o + i + 1) l).set (o + i) v = List.take (o + i) l ++ [v] := by
        rw [List.take_succ_eq_append_getElem hlt, List.set_append_right _ _ (by simp; omega)]
        simp
        rw [show o + i - min (o + i) l.length = 0 by omega]; rfl
      rw [e1, if_pos (by omega)]
      simp [Nat.add_assoc, Nat.add_comm 1]

/-- It changes the world: what it leaves. -/
def Ef (P : Program) (cx : Cx) (fr : Fr) (Γ : List HProp) (op : Op) (ty : TypeId) (Φ : Value → List HProp → Prop) : Prop :=
  ∀ a w d pos af g, St cx fr Γ a w → ∃ v w' Γ', ((execOp a.eval ⟨d, op, ty, pos, af, g⟩).run P w = .ok (.value v) w' ∨ ((execOp a.eval ⟨d, op, ty, pos, af, g⟩).run P w = .ok .skip w' ∧ v = undef)) ∧ Φ v Γ' ∧ Sat Γ' cx.hF w' ∧ Same w w'
variable {K : Act → World → Prop}
theorem GO.effect {d : Option Tmp} {op : Op} {pos : String} {af : Array Edge} {g : Option (Nat × Bool)} {Φ : Value → List HProp → Prop}
    (hw : Wt cx ops fr g true) (hy : Ef P cx fr Γ op ty Φ) (h : ∀ v Γ', Φ v Γ' → GK cx K (upd d v fr) Γ') : GO P cx ops Q ⟨d, op, ty, pos, af, g⟩ K fr Γ := fun a w s => by
  simp only [hw a d op ty pos af s.slots, if_true]
  obtain ⟨v, w', Γ', hr, hΦ, hs, hsame⟩ := hy a w d pos af g s
  rcases hr with hr | ⟨hr, rfl⟩
  · refine wpIn_of_run (fun c hc => (exec_defer hc w w').1 v hr) ?_
    rw [hr]; exact h v Γ' hΦ _ _ (s.put d v hs hsame)
  · refine wpIn_of_run (fun c hc => (exec_defer hc w w').2 hr) ?_
    rw [hr]; exact h _ Γ' hΦ _ _ (s.put d _ hs hsame)

section effects
variable {x y : Operand} {b o : Nat} {l l' A : List Value} {e t : TypeId} {fz : Nat × Nat} {v : Value}
theorem Ef.storeL (i : Nat) (hs : tsize P t = some v.cells.size) (h1 : ∀ u ∈ v.cells.toList, u.oneCell' = true) (hx : ev cx fr x = some (.pointer (some ⟨b, o, none⟩))) (hy : ev cx fr y = some v)
    (hi : Γ[i]? = some (blk b e fz l)) (hlt : o + v.cells.size ≤ l.length) (hf : free fz o v.cells.size = true) :
    Ef P cx fr Γ (.store t x y) ty (fun u Γ' => u = undef ∧ Γ' = Γ.set i (blk b e fz (splice l o v.cells.toList))) := fun a w d pos af g st => by
  obtain ⟨w', r, r1, r2, r3⟩ := run_store_list (P := P) v.cells.toList 0 l w (Rd.own i hi w st.heap) (by simpa using hlt) (by simpa using hf) h1
  refine ⟨undef, w', _, .inr ⟨?_, rfl⟩, ⟨rfl, rfl⟩, st.heap.write i hi (by simpa using r1) r2, r3⟩
  simp [execOp, Instr.storeAt, st.eval hx, st.eval hy, Instr.sureAddr, storeVar, run_sizeOf hs, r]
theorem GO.store {d : Option Tmp} {pos : String} {af : Array Edge} {g : Option (Nat × Bool)} (i : Nat) (hw : Wt cx ops fr g true) (hs : tsize P t = some 1) (hx : ev cx fr x = some (.pointer (some ⟨b, o, none⟩))) (hy : ev cx fr y = some v)
    (h1 : v.oneCell' = true) (hi : Γ[i]? = some (blk b e fz l)) (hlt : Nat.blt o l.length = true) (hf : free fz o 1 = true) (hl : l.set o v = l')
    (h : GK cx K (upd d undef fr) (Γ.set i (blk b e fz l'))) : GO P cx ops Q ⟨d, .store t x y, ty, pos, af, g⟩ K fr Γ := by
  have hc : v.cells = #[v] := by cases v <;> first | rfl | (simp [Value.oneCell'] at h1)
  have hlt : o < l.length := by simpa [Nat.blt_eq] using hlt
  refine GO.effect hw (Ef.storeL i (v := v) (by rw [hc]; exact hs) (by rw [hc]; simpa using h1) hx hy hi (by rw [hc]; simp; omega) (by rw [hc]; exact hf)) ?_
  rintro u Γ' ⟨rfl, rfl⟩
  rw [hc, show (#[v] : Array Value).toList = [v] from rfl, splice_one hlt, hl]; exact h
theorem GO.storeRow {d : Option Tmp} {pos : String} {af : Array Edge} {g : Option (Nat × Bool)} (i : Nat) (hw : Wt cx ops fr g true) (hs : tsize P t = some A.length) (hx : ev cx fr x = some (.pointer (some ⟨b, o, none⟩))) (hy : ev cx fr y = some (.agg ⟨A⟩))
    (h1 : ∀ u ∈ A, u.oneCell' = true) (hi : Γ[i]? = some (blk b e fz l)) (hlt : o + A.length ≤ l.length) (hf : free fz o A.length = true) (hl : splice l o A = l')
    (h : GK cx K (upd d undef fr) (Γ.set i (blk b e fz l'))) : GO P cx ops Q ⟨d, .store t x y, ty, pos, af, g⟩ K fr Γ := by
  refine GO.effect hw (Ef.storeL i (v := .agg ⟨A⟩) hs h1 hx hy hi hlt hf) ?_
  rintro u Γ' ⟨rfl, rfl⟩
  rw [show (Value.agg ⟨A⟩).cells.toList = A from rfl, hl]; exact h

theorem Same.alloc (w : World) (ob : Obj) : Same w (w.alloc ob) := ⟨rfl, rfl, rfl, by simp⟩
theorem run_newRow {w : World} {cs : Array Value} : (newRow e cs).run P w = .ok ⟨w.heap.size, 0, none⟩ (w.alloc (.cells cs e)) := rfl
theorem GO.alloc {d : Option Tmp} {pos : String} {af : Array Edge} {g : Option (Nat × Bool)} (hw : Wt cx ops fr g true) (hz : zeroL P t = some l)
    (h : ∀ b, GK cx K (upd d (.pointer (some ⟨b, 0, none⟩)) fr) (blk b t (0, 0) l :: Γ)) : GO P cx ops Q ⟨d, .alloc t, ty, pos, af, g⟩ K fr Γ := by
  refine GO.effect hw (Φ := fun v Γ' => ∃ b, v = .pointer (some ⟨b, 0, none⟩) ∧ Γ' = blk b t (0, 0) l :: Γ) (fun a w d pos af g st => ?_) ?_
  · obtain ⟨z, hz, hc⟩ := run_zero hz w
    refine ⟨_, _, _, .inl ?_, ⟨w.heap.size, rfl, rfl⟩, st.heap.alloc _, .alloc _ _⟩
    simp [execOp, Instr.alloc, hz, newVar, run_newRow, hc]
  · rintro v Γ' ⟨b, rfl, rfl⟩; exact h b
theorem GO.box {d : Option Tmp} {pos : String} {af : Array Edge} {g : Option (Nat × Bool)} (hw : Wt cx ops fr g true) (hx : ev cx fr x = some v) (hl : v.cells.toList = l)
    (h : ∀ b, GK cx K (upd d (.pointer (some ⟨b, 0, none⟩)) fr) (blk b t (0, 0) l :: Γ)) : GO P cx ops Q ⟨d, .box t x, ty, pos, af, g⟩ K fr Γ := by
  subst hl
  refine GO.effect hw (Φ := fun u Γ' => ∃ b, u = .pointer (some ⟨b, 0, none⟩) ∧ Γ' = blk b t (0, 0) v.cells.toList :: Γ) (fun a w d pos af g st => ?_) ?_
  · refine ⟨_, _, _, .inl ?_, ⟨w.heap.size, rfl, rfl⟩, st.heap.alloc _, .alloc _ _⟩
    simp [execOp, Instr.box, st.eval hx, newVar, run_newRow]
  · rintro v Γ' ⟨b, rfl, rfl⟩; exact h b
theorem GO.makeMap {d : Option Tmp} {pos : String} {af : Array Edge} {g : Option (Nat × Bool)} (hw : Wt cx ops fr g true)
    (h : ∀ b, GK cx K (upd d (.map (some b)) fr) (pt b (.map #[] 0) :: Γ)) : GO P cx ops Q ⟨d, .makeMap t none, ty, pos, af, g⟩ K fr Γ := by
  refine GO.effect hw (Φ := fun u Γ' => ∃ b, u = .map (some b) ∧ Γ' = pt b (.map #[] 0) :: Γ) (fun a w d pos af g st => ?_) ?_
  · refine ⟨_, _, _, .inl ?_, ⟨w.heap.size, rfl, rfl⟩, st.heap.alloc _, .alloc _ _⟩
    rfl
  · rintro v Γ' ⟨b, rfl, rfl⟩; exact h b
end effects
end Go.Sl
