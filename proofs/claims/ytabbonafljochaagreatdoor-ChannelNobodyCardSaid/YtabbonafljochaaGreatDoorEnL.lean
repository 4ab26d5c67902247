/- The engine, part L: function values; loads from and stores into rows that are owned, as they stand. -/
import Derived.Test.YtabbonafljochaaGreatDoorEnG
import Derived.Test.YtabbonafljochaaGreatDoorEnK
import Derived.Test.YtabbonafljochaaGreatDoorEnM
namespace Go.Sl
variable {P : Program} {cx : Cx} {fr : Fr} {Γ : List HProp} {Q : Exit → Act → World → Prop} {ops : Array Oper} {ty : TypeId} {K : Act → World → Prop}
section
variable {x y : Operand} {tx tz t : TypeId}
theorem Yl.makeFunc {f : Fn} {first cap : List Operand} {vf vc : List Value} (hf : evs cx fr first = some vf) (hc : evs cx fr cap = some vc) : Yl P cx fr Γ (.makeFunc f first.toArray cap.toArray) ty (.func f vf.toArray vc.toArray) := fun a w d pos af g s => by
  have h1 := s.evals hf
  have h2 := s.evals hc
  have e1 : first.toArray.map a.eval = vf.toArray := by rw [List.map_toArray, h1]
  have e2 : cap.toArray.map a.eval = vc.toArray := by rw [List.map_toArray, h2]
  simp only [execOp, e1, e2]
  rfl
theorem run_equal_nilFunc {f : Fn} {u v : Array Value} {ps rs : Array TypeId} {b : Bool} {w : World} (ht : P.underlying t = some (.func ps rs b)) : (Op.equal t (.func f u v) .nilFunc).run P w = .ok false w := by
  have h : ∀ d, (Op.equalIn (d + 1) t (.func f u v) .nilFunc).run P w = .ok false w := fun d => by simp [Op.equalIn, run_underlying ht]
  exact h 9999
theorem run_equal_nilFunc2 {ps rs : Array TypeId} {b : Bool} {w : World} (ht : P.underlying t = some (.func ps rs b)) : (Op.equal t .nilFunc .nilFunc).run P w = .ok true w := by
  have h : ∀ d, (Op.equalIn (d + 1) t .nilFunc .nilFunc).run P w = .ok true w := fun d => by simp [Op.equalIn, run_underlying ht]
  exact h 9999
theorem Yl.eql_nilFunc {f : Fn} {u v : Array Value} {ps rs : Array TypeId} {b : Bool} (ht : P.underlying tx = some (.func ps rs b)) (hx : ev cx fr x = some (.func f u v)) (hy : ev cx fr y = some .nilFunc) : Yl P cx fr Γ (.binOp .eql tx x y tz) ty (.bool false) := fun a w d pos af g s => by
  simp [execOp, s.eval hx, s.eval hy, eqGuard, binOp, run_equal_nilFunc ht]
theorem Yl.neq_nilFunc {f : Fn} {u v : Array Value} {ps rs : Array TypeId} {b : Bool} (ht : P.underlying tx = some (.func ps rs b)) (hx : ev cx fr x = some (.func f u v)) (hy : ev cx fr y = some .nilFunc) : Yl P cx fr Γ (.binOp .neq tx x y tz) ty (.bool true) := fun a w d pos af g s => by
  simp [execOp, s.eval hx, s.eval hy, eqGuard, binOp, run_equal_nilFunc ht]
end

/-! ### rows as they stand -/
section
variable {x y : Operand} {b o n c sz z by' : Nat} {xs A : List Value} {e t : TypeId} {v : Value} {r : Bool}
theorem row_rd {hF : Hp} (i : Nat) (hi : Γ[i]? = some (row (.slice (some ⟨b, 0, none⟩) n c) e sz n xs)) {w : World} (h : Sat Γ hF w) (hn : xs ≠ []) : ∃ tail fz, w.heap[b]? = some (.cells ⟨xs ++ tail⟩ e fz) := by
  obtain ⟨q, hq, hs⟩ := (h.perm (perm_eraseIdx hi)).opens
  cases q with
  | none => exact absurd hq.2.2 hn
  | some q =>
    obtain ⟨b', c', tail, fz⟩ := q
    obtain ⟨h1, h2, h3, h4, h5⟩ := hq
    cases h1
    exact ⟨tail, fz, hs.pt_head⟩
theorem Yt.loadW (tb : Tbl P) (i : Nat) (ht : lookT tb.T t = some (z, by', false)) (hx : ev cx fr x = some (.pointer (some ⟨b, o, none⟩))) (hi : Γ[i]? = some (row (.slice (some ⟨b, 0, none⟩) n c) e sz n xs)) (hv : xs[o]? = some v) : Yl P cx fr Γ (.load t x) ty v := fun a w d pos af g st => by
  have hlt : o < xs.length := (List.getElem?_eq_some_iff.1 hv).1
  obtain ⟨tail, fz, hb⟩ := row_rd i hi st.heap (by intro e; subst e; simp at hlt)
  have hc : w.cell? ⟨b, o, none⟩ = some v := by rw [cell_of hb, List.getElem?_append_left hlt]; exact hv
  simp [execOp, Instr.loadAt, st.eval hx, Instr.sureAddr, loadVar, run_isAgg (tb.t ht).2.2, hc]
theorem Yt.loadWRow (tb : Tbl P) (i : Nat) (ht : lookT tb.T t = some (z, by', true)) (hx : ev cx fr x = some (.pointer (some ⟨b, o, none⟩))) (hi : Γ[i]? = some (row (.slice (some ⟨b, 0, none⟩) n c) e sz n xs)) (hA : At xs o A) (hz : A.length = z) (h0 : 0 < z) : Yl P cx fr Γ (.load t x) ty (.agg ⟨A⟩) := fun a w d pos af g st => by
  have hle := hA.le (by omega)
  obtain ⟨tail, fz, hb⟩ := row_rd i hi st.heap (by intro e; subst e; simp only [List.length_nil] at hle; omega)
  have hA' : At (xs ++ tail) o A := fun j u hj => by
    have := hA j u hj
    rw [List.getElem?_append_left (List.getElem?_eq_some_iff.1 this).1]; exact this
  simp [execOp, Instr.loadAt, st.eval hx, Instr.sureAddr, run_loadVar_at (tb.t ht).2.2 (by rw [hz]; exact (tb.t ht).1) hb hA']
variable {d : Option Tmp} {pos : String} {af : Array Edge} {g : Option (Nat × Bool)}
theorem GK.openW (i : Nat) (hi : Γ[i]? = some (row (.slice (some ⟨b, 0, none⟩) n c) e sz n xs)) (hn : xs ≠ [])
    (h : ∀ tail fz, n ≤ c → (c - n) * sz ≤ tail.length → xs.length = n * sz → free fz 0 (xs ++ tail).length = true → GK cx K fr (blk b e fz (xs ++ tail) :: Γ.eraseIdx i)) : GK cx K fr Γ := by
  refine GK.opens i hi fun q hq => ?_
  cases q with
  | none => exact absurd hq.2.2 hn
  | some q =>
    obtain ⟨b', c', tail, fz⟩ := q
    obtain ⟨h1, h2, h3, h4, h5⟩ := hq
    cases h1
    exact h tail fz h2 h3 h4 h5
theorem splice_append {l t : List Value} {o : Nat} {A : List Value} (h : o + A.length ≤ l.length) : splice (l ++ t) o A = splice l o A ++ t := by
  simp only [splice]
  rw [List.take_append_of_le_length (by omega), List.drop_append_of_le_length h]
  simp
/-- Cells stored into a row that is owned. -/
theorem Gt.storeWRow (tb : Tbl P) (i : Nat) (hw : Wt cx ops fr g true) (hs : lookT tb.T t = some (z, by', r)) (hx : ev cx fr x = some (.pointer (some ⟨b, o, none⟩))) (hy : ev cx fr y = some (.agg ⟨A⟩)) (hz : A.length = z)
    (h1 : ∀ u ∈ A, u.oneCell' = true) (hi : Γ[i]? = some (row (.slice (some ⟨b, 0, none⟩) n c) e sz n xs)) (hlt : o + A.length ≤ xs.length) (h0 : 0 < xs.length)
    (h : GK cx K (upd d undef fr) (row (.slice (some ⟨b, 0, none⟩) n c) e sz n (splice xs o A) :: Γ.eraseIdx i)) : GO P cx ops Q ⟨d, .store t x y, ty, pos, af, g⟩ K fr Γ := by
  refine GK.openW i hi (by intro e; subst e; simp at h0) fun tail fz h2 h3 h4 h5 => ?_
  refine Gt.storeRow tb 0 hw hs hx hy hz h1 rfl (by rw [List.length_append]; omega) (free_sub h5 (Nat.zero_le _) (by simp; omega)) (splice_append hlt) ?_
  exact GK.heap (fun w s => Sat.row_blk h2 h3 (by rw [splice_length hlt]; exact h4) (by rw [List.length_append, splice_length hlt, ← List.length_append]; exact h5) s) h
/-- One cell stored into a row that is owned. -/
theorem Gt.storeW (tb : Tbl P) (i : Nat) (hw : Wt cx ops fr g true) (hs : lookT tb.T t = some (1, by', r)) (hx : ev cx fr x = some (.pointer (some ⟨b, o, none⟩))) (hy : ev cx fr y = some v) (h1 : v.oneCell' = true)
    (hi : Γ[i]? = some (row (.slice (some ⟨b, 0, none⟩) n c) e sz n xs)) (hlt : o < xs.length)
    (h : GK cx K (upd d undef fr) (row (.slice (some ⟨b, 0, none⟩) n c) e sz n (xs.set o v) :: Γ.eraseIdx i)) : GO P cx ops Q ⟨d, .store t x y, ty, pos, af, g⟩ K fr Γ := by
  refine GK.openW i hi (by intro e; subst e; simp at hlt) fun tail fz h2 h3 h4 h5 => ?_
  refine Gt.storeAt tb 0 hw hs hx hy h1 rfl (by rw [List.length_append]; omega) (free_row h5 (by rw [List.length_append]; omega)) ?_
  rw [List.set_append_left _ _ hlt]
  exact GK.heap (fun w s => Sat.row_blk h2 h3 (by rw [List.length_set]; exact h4) (by rw [List.length_append, List.length_set, ← List.length_append]; exact h5) s) h
/-- A row of some length has an address. -/
theorem GK.rowPtr {p : Option Addr} (i : Nat) (hi : Γ[i]? = some (row (.slice p n c) e sz n xs)) (hn : 0 < n) (h : ∀ b, p = some ⟨b, 0, none⟩ → GK cx K fr Γ) : GK cx K fr Γ := fun a w s => by
  obtain ⟨q, hq, _⟩ := (s.heap.perm (perm_eraseIdx hi)).opens
  cases q with
  | none => have := hq.2.1; omega
  | some q => obtain ⟨b', c', tail, fz⟩ := q; have := hq.1; injection this with h1; exact h b' h1 a w s
theorem GK.rowLen {u : Value} (i : Nat) (hi : Γ[i]? = some (row u e sz n xs)) (h : xs.length = n * sz → GK cx K fr Γ) : GK cx K fr Γ := fun a w s => h (row_len (s.heap.perm (perm_eraseIdx hi))).2 a w s
end

/-! ### cells of elements -/
section
variable {α : Type} {f : α → List Value} {sz : Nat}
theorem flatMap_len {l : List α} (h : ∀ a, (f a).length = sz) : (l.flatMap f).length = l.length * sz := by
  induction l with
  | nil => simp
  | cons a l ih => simp only [List.flatMap_cons, List.length_append, h, ih, List.length_cons, Nat.add_mul]; omega
theorem flatMap_at {l : List α} (h : ∀ a, (f a).length = sz) {i : Nat} {a : α} (hi : l[i]? = some a) : At (l.flatMap f) (i * sz) (f a) := by
  induction l generalizing i with
  | nil => simp at hi
  | cons x l ih =>
    cases i with
    | zero => simp at hi; subst hi; rw [List.flatMap_cons, Nat.zero_mul]; exact At.front _ _
    | succ i =>
      have := ih (i := i) (by simpa using hi)
      intro j v hv
      have h1 := this j v hv
      rw [List.flatMap_cons, List.getElem?_append_right (by rw [h, Nat.add_mul]; omega), h]
      rw [show (i + 1) * sz + j - sz = i * sz + j by rw [Nat.add_mul]; omega]; exact h1
theorem flatMap_get {l : List α} (h : ∀ a, (f a).length = sz) {i j : Nat} {a : α} {v : Value} (hi : l[i]? = some a) (hj : (f a)[j]? = some v) : (l.flatMap f)[i * sz + j]? = some v := flatMap_at h hi j v hj
theorem flatMap_splice {l : List α} (h : ∀ a, (f a).length = sz) {i : Nat} {a : α} (hi : i < l.length) : splice (l.flatMap f) (i * sz) (f a) = (l.set i a).flatMap f := by
  induction l generalizing i with
  | nil => simp at hi
  | cons x l ih =>
    cases i with
    | zero =>
      rw [List.flatMap_cons, List.set_cons_zero, List.flatMap_cons, Nat.zero_mul]
      simp only [splice, h, List.take_zero, List.nil_append, Nat.zero_add]
      rw [show sz = (f x).length from (h x).symm, List.drop_left]
    | succ i =>
      have h1 := ih (i := i) (by simpa using hi)
      rw [List.flatMap_cons, List.set_cons_succ, List.flatMap_cons, ← h1]
      simp only [splice, h]
      have e1 : (i + 1) * sz = (f x).length + i * sz := by rw [Nat.add_mul, h]; omega
      rw [e1, Nat.add_assoc, List.take_length_add_append, List.drop_length_add_append]
      simp
end
theorem flatMap_take {α : Type} {f : α → List Value} {sz : Nat} (h : ∀ a, (f a).length = sz) (l : List α) (i : Nat) : (l.flatMap f).take (i * sz) = (l.take i).flatMap f := by
  induction l generalizing i with
  | nil => simp
  | cons x l ih =>
    cases i with
    | zero => simp
    | succ i =>
      rw [List.flatMap_cons, List.take_succ_cons, List.flatMap_cons, ← ih i, show (i + 1) * sz = (f x).length + i * sz by rw [h, Nat.add_mul]; omega, List.take_length_add_append]
theorem flatMap_drop {α : Type} {f : α → List Value} {sz : Nat} (h : ∀ a, (f a).length = sz) (l : List α) (i : Nat) : (l.flatMap f).drop (i * sz) = (l.drop i).flatMap f := by
  induction l generalizing i with
  | nil => simp
  | cons x l ih =>
    cases i with
    | zero => simp
    | succ i =>
      rw [List.flatMap_cons, List.drop_succ_cons, ← ih i, show (i + 1) * sz = (f x).length + i * sz by rw [h, Nat.add_mul]; omega, List.drop_length_add_append]
/-- The front of a row that is owned, the rest let go. -/
theorem Sat.row_front {Γ : List HProp} {p : Option Addr} {e n c sz i : Nat} {xs : List Value} {hF : Hp} {w : World} (hi : i ≤ n) (h : Sat (row (.slice p n c) e sz n xs :: Γ) hF w) : Sat (row (.slice p i i) e sz i (xs.take (i * sz)) :: Γ) hF w := by
  obtain ⟨q, hq, hs⟩ := h.opens
  cases q with
  | none =>
    obtain ⟨h1, h2, h3⟩ := hq
    cases h1
    obtain rfl : i = 0 := by omega
    subst h3
    rw [List.take_nil]
    exact Sat.row_nil (Γ := Γ) hs
  | some q =>
    obtain ⟨b, c', tail, fz⟩ := q
    obtain ⟨h1, h2, h3, h4, h5⟩ := hq
    cases h1
    have hm := Nat.mul_le_mul_right sz hi
    have hs : Sat (blk b e fz (xs.take (i * sz) ++ (xs.drop (i * sz) ++ tail)) :: Γ) hF w := by rw [← List.append_assoc, List.take_append_drop]; exact hs
    exact Sat.row_blk (Nat.le_refl _) (by simp) (by rw [List.length_take]; omega) (by rw [← List.append_assoc, List.take_append_drop]; exact h5) hs
end Go.Sl
