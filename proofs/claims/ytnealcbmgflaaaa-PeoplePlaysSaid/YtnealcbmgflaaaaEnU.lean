/- The engine, part U: a map's length, striking a key, and running through a map in whatever order. -/
import Derived.Test.YtnealcbmgflaaaaEnV
import Derived.Maps.RangeRun
set_option linter.unusedSimpArgs false
set_option linter.unusedVariables false
namespace Go.Sl
open Go.MapKept (run_findKey heap_set)
open Go.ChangeMaps (setBlock)
variable {P : Program} {cx : Cx} {fr : Fr} {Γ : List HProp} {Q : Exit → Act → World → Prop} {ops : Array Oper} {ty : TypeId} {K : Act → World → Prop}
section pure
variable {α : Type} [Key α]
theorem mp_len {es : List (α × Value)} {X : Array MapEntry × Nat} (h : Mp es X) : X.1.size = es.length := by
  have := congrArg List.length h.same; simpa using this
/-- A map that is run through: what is left of it. -/
structure Rg (es left : List (α × Value)) (x : (Array MapEntry × Nat) × (Nat × Array Nat × Nat)) : Prop where
  map : Mp es x.1
  hold : ∀ e ∈ x.1.1.toList, e.born < x.2.1
  sc : x.2.1 ≤ x.2.2.2
  sc2 : x.2.1 ≤ x.1.2
  left : (leftOf x.1.1 x.2.2.1).toList.map ent = left.map pair
def rng (b r : Nat) (es left : List (α × Value)) : HProp := exs (Rg es left) fun x => [pt b (.map x.1.1 x.1.2), pt r (.mapIter (some b) x.2.1 x.2.2.1 x.2.2.2)]
/-- The same behind a step: the round's key and value. -/
structure RgAt (es left : List (α × Value)) (k : α) (v : Value) (x : (Array MapEntry × Nat) × (Nat × Array Nat × Nat)) : Prop where
  rg : Rg es left x
  now : ∃ e ∈ x.1.1.toList, ∃ s : Array Nat, x.2.2.1 = s.push e.born ∧ x.2.2.2 = x.1.2 ∧ e.key = Key.val k ∧ e.val = v
def rngAt (b r : Nat) (es left : List (α × Value)) (k : α) (v : Value) : HProp := exs (RgAt es left k v) fun x => [pt b (.map x.1.1 x.1.2), pt r (.mapIter (some b) x.2.1 x.2.2.1 x.2.2.2)]
theorem Sat.rngAt_rng {b r : Nat} {es left : List (α × Value)} {k : α} {v : Value} {hF : Hp} {w : World} (h : Sat (rngAt b r es left k v :: Γ) hF w) : Sat (rng b r es left :: Γ) hF w := by
  obtain ⟨x, hx, hs⟩ := h.opens
  exact Sat.shut x hx.rg hs
theorem Sat.rng_mp {b r : Nat} {es left : List (α × Value)} {hF : Hp} {w : World} (h : Sat (rng b r es left :: Γ) hF w) : Sat (mp b es :: Γ) hF w := by
  obtain ⟨x, hx, hs⟩ := h.opens
  exact Sat.shut x.1 hx.map (hs.perm (.swap _ _ _)).drop
theorem filter_erase {L : List MapEntry} (hn : (L.map (·.born)).Nodup) {j : Nat} {e : MapEntry} (hj : L[j]? = some e) : L.filter (fun x => !(x.born == e.born)) = L.eraseIdx j := by
  induction L generalizing j with
  | nil => simp at hj
  | cons x L ih =>
    simp only [List.map_cons, List.nodup_cons] at hn
    cases j with
    | zero =>
      simp only [List.getElem?_cons_zero, Option.some.injEq] at hj; subst hj
      simp only [List.filter_cons, beq_self_eq_true, Bool.not_true, Bool.false_eq_true, if_false, List.eraseIdx_cons_zero]
      rw [List.filter_eq_self]
      intro y hy
      have : y.born ≠ x.born := fun h => hn.1 (h ▸ List.mem_map.2 ⟨y, hy, rfl⟩)
      simpa using this
    | succ j =>
      simp only [List.getElem?_cons_succ] at hj
      have hne : x.born ≠ e.born := fun h => hn.1 (h ▸ List.mem_map.2 ⟨e, List.mem_of_getElem? hj, rfl⟩)
      simp only [List.filter_cons, List.eraseIdx_cons_succ]
      rw [if_pos (by simpa using hne), ih hn.2 hj]
theorem map_eraseIdx {β γ : Type} (f : β → γ) : ∀ (l : List β) (j : Nat), (l.eraseIdx j).map f = (l.map f).eraseIdx j
  | [], j => by simp
  | x :: l, 0 => by simp
  | x :: l, j + 1 => by simp [map_eraseIdx f l j]
theorem leftOf_push {es : Array MapEntry} {seen : Array Nat} (hn : (es.toList.map (·.born)).Nodup) {j : Nat} {e : MapEntry} (hj : (leftOf es seen).toList[j]? = some e) :
    (leftOf es (seen.push e.born)).toList = (leftOf es seen).toList.eraseIdx j := by
  have h1 : (leftOf es seen).toList = es.toList.filter fun x => !seen.contains x.born := by simp [leftOf]
  have h2 : (leftOf es (seen.push e.born)).toList = (leftOf es seen).toList.filter fun x => !(x.born == e.born) := by
    simp only [leftOf, Array.toList_filter, List.filter_filter]
    congr 1; funext x
    simp only [Array.contains_push]
    cases h : seen.contains x.born <;> cases h' : (x.born == e.born) <;> simp_all
  rw [h2]
  refine filter_erase ?_ hj
  rw [h1]
  exact (List.filter_sublist.map _).nodup hn
end pure
section ops
variable {α : Type} [Key α] {d : Option Tmp} {pos : String} {af : Array Edge} {g : Option (Nat × Bool)} {x y z : Operand} {t kt e : TypeId} {b r : Nat} {es left : List (α × Value)} {a : α} {u zv : Value}
theorem Yl.len_map (i : Nat) (ht : P.underlying t = some (.map kt e)) (hx : ev cx fr x = some (.map (some b))) (hi : Γ[i]? = some (mp b es)) : Yl P cx fr Γ (.call ⟨.builtin .len, #[x], #[t]⟩) ty (.int .i64 es.length) := fun A w d pos af g st => by
  obtain ⟨X, hX, hs⟩ := (st.heap.perm (perm_eraseIdx hi)).opens
  have hb := hs.pt_head
  simp [execOp, resolve, invoke, builtin, Builtin.len_, st.eval hx, run_underlying ht, goInt, MapKept.run_getObj_map hb, mp_len hX]
theorem Yl.len_nilMap (ht : P.underlying t = some (.map kt e)) (hx : ev cx fr x = some (.map none)) : Yl P cx fr Γ (.call ⟨.builtin .len, #[x], #[t]⟩) ty (.int .i64 0) := fun A w d pos af g st => by
  simp [execOp, resolve, invoke, builtin, Builtin.len_, st.eval hx, run_underlying ht, goInt]
theorem GO.range (i : Nat) (hw : Wt cx ops fr g true) (ht : P.underlying t = some (.map kt e)) (hx : ev cx fr x = some (.map (some b))) (hi : Γ[i]? = some (mp b es))
    (h : ∀ r, GK cx K (upd d (.pointer (some ⟨r, 0, none⟩)) fr) (rng b r es es :: Γ.eraseIdx i)) : GO P cx ops Q ⟨d, .range t x, ty, pos, af, g⟩ K fr Γ := by
  refine GO.effect hw (Φ := fun q Γ' => ∃ r, q = .pointer (some ⟨r, 0, none⟩) ∧ Γ' = rng b r es es :: Γ.eraseIdx i) (fun A w d pos af g st => ?_) ?_
  · obtain ⟨X, hX, hs⟩ := (st.heap.perm (perm_eraseIdx hi)).opens
    have hb := hs.pt_head
    refine ⟨_, w.alloc (.mapIter (some b) X.2 #[] X.2), _, .inl ?_, ⟨w.heap.size, rfl, rfl⟩, ?_, .alloc _ _⟩
    · simp [execOp, st.eval hx, Instr.range, run_underlying ht, MapKept.run_getObj_map hb, run_newObj]
    · refine Sat.shut (X, X.2, #[], X.2) ⟨hX, hX.born, Nat.le_refl _, Nat.le_refl _, ?_⟩ ((hs.alloc (.mapIter (some b) X.2 #[] X.2)).perm (.swap _ _ _))
      simp only [leftOf, Array.toList_filter]
      rw [List.filter_eq_self.2 (by simp)]; exact hX.same
  · rintro q Γ' ⟨r, rfl, rfl⟩; exact h r
theorem GO.next (i : Nat) (hw : Wt cx ops fr g true) (hx : ev cx fr x = some (.pointer (some ⟨r, 0, none⟩))) (hi : Γ[i]? = some (rng b r es left))
    (h0 : left = [] → GK cx K (upd d (.tuple #[.bool false]) fr) (rng b r es ([] : List (α × Value)) :: Γ.eraseIdx i))
    (h1 : ∀ j k v, left[j]? = some (k, v) → GK cx K (upd d (.tuple #[.bool true, Key.val k, v]) fr) (rngAt b r es (left.eraseIdx j) k v :: Γ.eraseIdx i)) :
    GO P cx ops Q ⟨d, .next x false, ty, pos, af, g⟩ K fr Γ := by
  refine GO.effect hw (Φ := fun q Γ' => (left = [] ∧ q = .tuple #[.bool false] ∧ Γ' = rng b r es ([] : List (α × Value)) :: Γ.eraseIdx i) ∨ ∃ j k v, left[j]? = some (k, v) ∧ q = .tuple #[.bool true, Key.val k, v] ∧ Γ' = rngAt b r es (left.eraseIdx j) k v :: Γ.eraseIdx i) (fun A w d pos af g st => ?_) ?_
  · obtain ⟨X, hX, hs⟩ := (st.heap.perm (perm_eraseIdx hi)).opens
    have hb := hs.pt_head
    have hs' := hs.perm (.swap _ _ _)
    have hr := hs'.pt_head
    rcases run_next_at (P := P) w ty r b X.2.1 X.2.2.2 X.2.2.1 X.1.1 X.1.2 hr hb hX.hold hX.sc with ⟨h1, h2⟩ | ⟨e, he, w1, hw1, h2⟩
    · have hl : left = [] := by
        have := congrArg List.length hX.left
        simp only [List.length_map, Array.length_toList, h1] at this
        exact List.length_eq_zero_iff.1 this.symm
      refine ⟨_, w, _, .inl ?_, .inl ⟨hl, rfl, rfl⟩, hl ▸ Sat.shut X hX hs, Same.refl w⟩
      simp [execOp, st.eval hx, h2]
    · obtain ⟨j, hj, hje⟩ := List.mem_iff_getElem.1 he
      have hj' : (leftOf X.1.1 X.2.2.1).toList[j]? = some e := by rw [List.getElem?_eq_getElem hj, hje]
      have hl : (left.map pair)[j]? = some (ent e) := by rw [← hX.left, List.getElem?_map, hj']; rfl
      obtain ⟨⟨k, v⟩, hkv, hp⟩ : ∃ p, left[j]? = some p ∧ pair p = ent e := by
        rw [List.getElem?_map] at hl
        exact Option.map_eq_some_iff.1 hl
      have hk : e.key = Key.val k := (congrArg (·.1) hp).symm
      have hv : e.val = v := (congrArg (·.2) hp).symm
      rw [hk, hv] at h2
      have hs1 : Sat (pt r (.mapIter (some b) X.2.1 X.2.2.1 X.2.2.2) :: pt b (.map X.1.1 X.1.2) :: Γ.eraseIdx i) cx.hF w1 := by
        rcases hw1 with rfl | rfl
        · exact hs'
        · exact hs'
      refine ⟨_, setBlock w1 r (.mapIter (some b) X.2.1 (X.2.2.1.push e.born) X.1.2), _, .inl ?_, .inr ⟨j, k, v, hkv, rfl, rfl⟩, ?_, ?_⟩
      · simp [execOp, st.eval hx, h2]
      · have hr1 := hs1.pt_head
        have hs2 := hs1.write_head (w' := setBlock w1 r (.mapIter (some b) X.2.1 (X.2.2.1.push e.born) X.1.2)) (o' := .mapIter (some b) X.2.1 (X.2.2.1.push e.born) X.1.2) (heap_set hr1).1 (heap_set hr1).2
        refine Sat.shut (X.1, X.2.1, X.2.2.1.push e.born, X.1.2) ⟨⟨hX.map, hX.hold, hX.sc2, hX.sc2, ?_⟩, e, ?_, _, rfl, rfl, hk, hv⟩ (hs2.perm (.swap _ _ _))
        · show (leftOf X.1.1 (X.2.2.1.push e.born)).toList.map ent = _
          rw [leftOf_push hX.map.nodup hj']
          have := hX.left
          rw [map_eraseIdx, this, map_eraseIdx]
        · have := he; simp only [leftOf, Array.toList_filter, List.mem_filter] at this; exact this.1
      · rcases hw1 with rfl | rfl
        · exact ⟨rfl, rfl, rfl, by simp [setBlock]⟩
        · exact ⟨rfl, rfl, rfl, by simp [setBlock]⟩
  · rintro q Γ' (⟨rfl, rfl, rfl⟩ | ⟨j, k, v, hkv, rfl, rfl⟩)
    · exact h0 rfl
    · exact h1 j k v hkv
theorem Yl.entry (i : Nat) {k : α} {v : Value} (hx : ev cx fr x = some (.pointer (some ⟨r, 0, none⟩))) (hi : Γ[i]? = some (rngAt b r es left k v)) : Yl P cx fr Γ (.entry x) ty (.tuple #[Key.val k, v]) := fun A w d pos af g st => by
  obtain ⟨X, ⟨hX, e, he, s, h1, h2, h3, h4⟩, hs⟩ := (st.heap.perm (perm_eraseIdx hi)).opens
  have hb := hs.pt_head
  have hr := (hs.perm (.swap _ _ _)).pt_head
  rw [h1, h2] at hr
  have := run_entry_at (P := P) w r b X.2.1 s X.1.1 X.1.2 e hr hb he hX.map.nodup
  rw [h3, h4] at this
  simp [execOp, st.eval hx, this]
theorem GO.mapDelete (i : Nat) (hw : Wt cx ops fr g true) (hk : KeyT P α kt) (ht : P.underlying t = some (.map kt e)) (hx : ev cx fr x = some (.map (some b))) (hy : ev cx fr y = some (Key.val a)) (hi : Γ[i]? = some (mp b es))
    (h : GK cx K (upd d (.tuple #[]) fr) (Γ.set i (mp b (mdel es a)))) : GO P cx ops Q ⟨d, .call ⟨.builtin .delete, #[x, y], #[t, kt]⟩, ty, pos, af, g⟩ K fr Γ := by
  refine GO.effect hw (Φ := fun q Γ' => q = .tuple #[] ∧ Γ' = Γ.set i (mp b (mdel es a))) (fun A w d pos af g st => ?_) ?_
  · obtain ⟨X, hX, hs⟩ := (st.heap.perm (perm_eraseIdx hi)).opens
    have hb := hs.pt_head
    obtain ⟨d', hd, hnow, hck⟩ := hk.now
    have hc := hck X.1.isEmpty 9999 w a
    have hf := run_findKey (w := w) hd (find_spec hnow a X.1.toList es 0 hX.same)
    cases hm : mfind es a with
    | none =>
      rw [hm] at hf
      simp only [Option.map_none] at hf
      refine ⟨_, { w with heap := w.heap.setIfInBounds b (.map X.1 X.2) }, _, .inl ?_, ⟨rfl, rfl⟩, ?_, heap_put hb⟩
      · simp [execOp, resolve, invoke, builtin, Builtin.delete_, st.eval hx, st.eval hy, run_underlying ht, MapKept.run_getObj_map hb, hc, hf, MapKept.run_setObj_map _ hb]
      · refine Sat.perm (perm_set hi) (Sat.shut (X.1, X.2) ⟨?_, hX.nodup, hX.born⟩ (hs.write_head (heap_set hb).1 (heap_set hb).2))
        rw [mdel_none a es hm]; exact hX.same
    | some p =>
      obtain ⟨j, v⟩ := p
      rw [hm] at hf
      simp only [Option.map_some, Nat.zero_add] at hf
      have hj : j < X.1.size := by rw [mp_len hX]; exact mfind_lt a es j v hm
      have hL : (X.1.eraseIdxIfInBounds j).toList = X.1.toList.eraseIdx j := by
        rw [Array.eraseIdxIfInBounds, dif_pos hj, Array.toList_eraseIdx]
      refine ⟨_, { w with heap := w.heap.setIfInBounds b (.map (X.1.eraseIdxIfInBounds j) X.2) }, _, .inl ?_, ⟨rfl, rfl⟩, ?_, heap_put hb⟩
      · simp [execOp, resolve, invoke, builtin, Builtin.delete_, st.eval hx, st.eval hy, run_underlying ht, MapKept.run_getObj_map hb, hc, hf, MapKept.run_setObj_map _ hb]
      · refine Sat.perm (perm_set hi) (Sat.shut (X.1.eraseIdxIfInBounds j, X.2) ⟨?_, ?_, ?_⟩ (hs.write_head (heap_set hb).1 (heap_set hb).2))
        · show ((X.1.eraseIdxIfInBounds j).toList).map ent = _
          rw [hL]; exact erase_spec a _ _ _ _ hX.same hm
        · show ((X.1.eraseIdxIfInBounds j).toList.map (·.born)).Nodup
          rw [hL]; exact ((List.eraseIdx_sublist _ _).map _).nodup hX.nodup
        · show ∀ e ∈ (X.1.eraseIdxIfInBounds j).toList, e.born < X.2
          rw [hL]; exact fun e he => hX.born e ((List.eraseIdx_sublist _ _).subset he)
  · rintro q Γ' ⟨rfl, rfl⟩; exact h
theorem GO.clear (i : Nat) {e : TypeId} {sz o m c cc : Nat} {zl l : List Value} {fz : Nat × Nat} (hw : Wt cx ops fr g true) (ht : P.underlying t = some (.slice e)) (hz : zeroL P e = some zl) (hzl : zl.length = sz) (h0 : 0 < sz)
    (hx : ev cx fr x = some (.slice (slAddr (some ⟨b, 0, none⟩) c o sz) m cc)) (hoc : o + m ≤ c) (hi : Γ[i]? = some (blk b e fz l)) (hl : o * sz + m * sz ≤ l.length) (hf : free fz 0 l.length = true) (h1 : ∀ u ∈ zl, u.oneCell' = true)
    (h : GK cx K (upd d (.tuple #[]) fr) (Γ.set i (blk b e fz (splice l (o * sz) (List.replicate m zl).flatten)))) : GO P cx ops Q ⟨d, .call ⟨.builtin .clear, #[x], #[t]⟩, ty, pos, af, g⟩ K fr Γ := by
  refine GO.effect hw (Φ := fun q Γ' => q = .tuple #[] ∧ Γ' = Γ.set i (blk b e fz (splice l (o * sz) (List.replicate m zl).flatten))) (fun A w d pos af g st => ?_) ?_
  · have hs := st.heap.perm (perm_eraseIdx hi)
    by_cases hm : m = 0
    · subst hm
      refine ⟨_, w, _, .inl ?_, ⟨rfl, rfl⟩, ?_, .refl w⟩
      · cases hq : slAddr (some ⟨b, 0, none⟩) c o sz <;> (rw [hq] at hx; simp [execOp, resolve, invoke, builtin, Builtin.clear_, st.eval hx, run_underlying ht])
      · simp only [List.replicate_zero, List.flatten_nil, splice_nil]
        exact hs.perm (perm_set hi)
    · obtain ⟨z, hzz, hzc⟩ := run_zero (P := P) hz w
      have ha : slAddr (some ⟨b, 0, none⟩) c o sz = some ⟨b, o * sz, none⟩ := by
        unfold slAddr
        rw [if_neg (by omega)]; simp [Addr.add]; exact Eq.symm
      have hfl : (Builtin.zeroCells z.cells m).toList = (List.replicate m zl).flatten := by
        rw [hzc, ← made_flat zl (by omega) m]
        simp [Builtin.zeroCells, madeCells]
      have hlen : (List.replicate m zl).flatten.length = m * sz := by simp [hzl]
      obtain ⟨w', r0, r1, r2, r3⟩ := run_store_list (P := P) (o := o * sz) (List.replicate m zl).flatten 0 l w hs.pt_head (by omega) (free_sub hf (Nat.zero_le _) (by omega)) (by
        intro u hu
        obtain ⟨q, hq, hu⟩ := List.mem_flatten.1 hu
        rw [List.eq_of_mem_replicate hq] at hu
        exact h1 u hu)
      refine ⟨_, w', _, .inl ?_, ⟨rfl, rfl⟩, (hs.write_head r1 r2).perm (perm_set hi), r3⟩
      rw [ha] at hx
      rw [← hfl] at r0
      have : m ≠ 0 := hm
      simp [execOp, resolve, invoke, builtin, Builtin.clear_, st.eval hx, run_underlying ht, hzz, r0]
  · rintro q Γ' ⟨rfl, rfl⟩; exact h
end ops
end Go.Sl
