/- The engine, part I: structs and literals; cuts of slices and strings; bytes and strings; copy, make. -/
import Derived.Test.YtabbonafljochaaGreatDoorEnH
import Derived.Great.BuildSlice
import Derived.Lib.ConvBytes
import Derived.Laws.BytesArg
namespace Go.Sl
variable {P : Program} {cx : Cx} {fr : Fr} {Γ : List HProp} {Q : Exit → Act → World → Prop} {ops : Array Oper} {ty : TypeId} {K : Act → World → Prop}

/-! ### building -/
def fillL (place : Nat → Option (Nat × Nat)) : List Value → List (Nat × Value) → Option (List Value)
  | l, [] => some l
  | l, (i, v) :: r => match place i with
    | some (off, size) => bif Nat.beq v.cells.toList.length size && Nat.ble (off + v.cells.toList.length) l.length then fillL place (splice l off v.cells.toList) r else none
    | none => none
theorem foldl_splice : ∀ (vs : List Value) (k off : Nat) (l : List Value), off + k + vs.length ≤ l.length → (vs.zipIdx k).foldl (fun (cs : Array Value) (x : Value × Nat) => cs.setIfInBounds (off + x.2) x.1) ⟨l⟩ = ⟨splice l (off + k) vs⟩
  | [], k, off, l, _ => by simp [splice_nil]
  | v :: vs, k, off, l, h => by
    simp only [List.length_cons] at h
    simp only [List.zipIdx_cons, List.foldl_cons, List.setIfInBounds_toArray]
    have := foldl_splice vs (k + 1) off (l.set (off + k) v) (by simp; omega)
    rw [this]
    congr 1
    have hlt : off + k < l.length := by omega
    simp only [splice, List.length_cons]
    rw [show off + (k + 1) = off + k + 1 by omega, List.take_set, List.drop_set]
    have e1 : (List.take (off + k + 1) l).set (off + k) v = List.take (off + k) l ++ [v] := by
      rw [List.take_succ_eq_append_getElem hlt, List.set_append_right _ _ (by simp; omega)]
      simp
      rw [show off + k - min (off + k) l.length = 0 by omega]; rfl
    rw [e1, if_pos (by omega)]
    simp [Nat.add_assoc, Nat.add_comm 1]
theorem fill_list {place : Nat → Option (Nat × Nat)} : ∀ {parts : List (Nat × Value)} {l l' : List Value}, fillL place l parts = some l' → Instr.fill place ⟨l⟩ parts = some ⟨l'⟩
  | [], l, l', h => by simp [fillL] at h; simp [Instr.fill, h]
  | (i, v) :: r, l, l', h => by
    simp only [fillL] at h
    cases hp : place i with
    | none => simp [hp] at h
    | some q =>
      obtain ⟨off, size⟩ := q
      simp only [hp, cond_eq_ite] at h
      split at h
      · rename_i e
        simp only [Bool.and_eq_true, Nat.ble_eq] at e
        have e1 := Nat.eq_of_beq_eq_true e.1
        have e2 := e.2
        simp only [Instr.fill, hp]
        rw [if_neg (by simp at e1 e2 ⊢; omega)]
        have := foldl_splice v.cells.toList 0 off l (by simpa using e2)
        have hz : (Array.foldl (fun (cs : Array Value) (x : Value × Nat) => cs.setIfInBounds (off + x.2) x.1) ⟨l⟩ v.cells.zipIdx) = ⟨splice l off v.cells.toList⟩ := by
          rw [← Array.foldl_toList, Array.toList_zipIdx]; exact this
        rw [hz]; exact fill_list h
      · cases h
/-- The parts lie one behind the other, from o to n. -/
def SeqL (place : Nat → Option (Nat × Nat)) : Nat → List (Nat × Value) → Nat → Prop
  | o, [], n => o = n
  | o, (i, v) :: r, n => place i = some (o, v.cells.toList.length) ∧ SeqL place (o + v.cells.toList.length) r n
theorem fill_seq {place : Nat → Option (Nat × Nat)} : ∀ (parts : List (Nat × Value)) (pre l : List Value), pre = l.take pre.length → SeqL place pre.length parts l.length → fillL place l parts = some (pre ++ parts.flatMap fun p => p.2.cells.toList)
  | [], pre, l, hp, hs => by
    simp only [SeqL] at hs
    rw [hs, List.take_length] at hp
    simp [fillL, hp]
  | (i, v) :: r, pre, l, hp, hs => by
    obtain ⟨h1, h2⟩ := hs
    have hle : ∀ (r : List (Nat × Value)) (o n : Nat), SeqL place o r n → o ≤ n := by
      intro r
      induction r with
      | nil => intro o n h; simp only [SeqL] at h; omega
      | cons p r ih => intro o n h; have := ih _ _ h.2; omega
    have hb := hle _ _ _ h2
    simp only [fillL, h1, cond_eq_ite]
    rw [if_pos (by simp only [Nat.beq_refl, Bool.true_and, Nat.ble_eq]; exact hb)]
    have hsl : (splice l pre.length v.cells.toList).length = l.length := splice_length hb
    have := fill_seq r (pre ++ v.cells.toList) (splice l pre.length v.cells.toList) (by
      simp only [splice, ← hp]
      exact (List.take_left).symm) (by rw [List.length_append, hsl]; exact h2)
    rw [this]; simp
def placesOf (P : Program) (t : TypeId) : Option (List (Nat × Nat)) := match P.underlying t with
  | some (.struct fs) => fs.toList.mapM fun f => (P.info? f.type).map fun i => (f.offset, i.size)
  | _ => none
theorem parts_map (f : Operand → Value) : ∀ parts : List (Nat × Operand), parts.map (fun x => (x.1, f x.2)) = (parts.map (·.1)).zip ((parts.map (·.2)).map f)
  | [] => rfl
  | p :: r => by simp [parts_map f r]
theorem Yl.buildStruct {t : TypeId} {parts : List (Nat × Operand)} {ps : List (Nat × Nat)} {zl l : List Value} {vs : List Value} (hp : placesOf P t = some ps) (hz : zeroL P t = some zl) (hv : evs cx fr (parts.map (·.2)) = some vs)
    (hl : fillL (ps[·]?) zl ((parts.map (·.1)).zip vs) = some l) : Yl P cx fr Γ (.build t parts.toArray) ty (.agg ⟨l⟩) := fun a w d pos af g st => by
  have hpart := parts_map a.eval parts
  rw [st.evals hv] at hpart
  have hb : P.built t (parts.map fun x => (x.1, a.eval x.2)) = some ⟨l⟩ := by
    rw [hpart]
    obtain ⟨z, hz1, rfl⟩ := Option.map_eq_some_iff.1 hz
    obtain ⟨i, hi, hz2⟩ := Option.bind_eq_some_iff.1 hz1
    unfold placesOf at hp
    split at hp
    · rename_i fs hu
      have := fill_list hl
      simp only [Program.built, hi, hu, hz2, hp]
      simpa using this
    · cases hp
  have hr := run_build w t (parts.map fun x => (x.1, a.eval x.2)).toArray _ hb
  simp [execOp, hr]

theorem Yt.buildSeq (tb : Tbl P) {t z by' : Nat} {r : Bool} {parts : List (Nat × Operand)} {ps : List (Nat × Nat)} {l : List Value} {vs : List Value} (hp : placesOf P t = some ps) (ht : lookT tb.T t = some (z, by', r)) (hz : inZ tb.Z t = true)
    (hv : evs cx fr (parts.map (·.2)) = some vs) (hs : SeqL (ps[·]?) 0 ((parts.map (·.1)).zip vs) z) (hl : ((parts.map (·.1)).zip vs).flatMap (fun p => p.2.cells.toList) = l) : Yl P cx fr Γ (.build t parts.toArray) ty (.agg ⟨l⟩) := by
  obtain ⟨zl, hzl, hn⟩ := tb.z ht hz
  have := fill_seq (place := (ps[·]?)) ((parts.map (·.1)).zip vs) [] zl (by simp) (by rw [hn]; exact hs)
  rw [List.nil_append, hl] at this
  exact Yl.buildStruct hp hzl hv this
def arrPlace (sz : Nat) (i : Nat) : Option (Nat × Nat) := some (i * sz, sz)
theorem Yl.buildArr {t e n : Nat} {parts : List (Nat × Operand)} {sz : Nat} {zl l : List Value} {vs : List Value} (hu : P.underlying t = some (.array n e)) (hs : tsize P e = some sz) (hz : zeroL P t = some zl) (hv : evs cx fr (parts.map (·.2)) = some vs)
    (hl : fillL (arrPlace sz) zl ((parts.map (·.1)).zip vs) = some l) : Yl P cx fr Γ (.build t parts.toArray) ty (.agg ⟨l⟩) := fun a w d pos af g st => by
  have hpart := parts_map a.eval parts
  rw [st.evals hv] at hpart
  have hb : P.built t (parts.map fun x => (x.1, a.eval x.2)) = some ⟨l⟩ := by
    rw [hpart]
    obtain ⟨z, hz1, rfl⟩ := Option.map_eq_some_iff.1 hz
    obtain ⟨i, hi, hz2⟩ := Option.bind_eq_some_iff.1 hz1
    obtain ⟨ie, hie, rfl⟩ := Option.map_eq_some_iff.1 hs
    have := fill_list hl
    simp only [Program.built, hi, hu, hz2, hie]
    exact this
  have hr := run_build w t (parts.map fun x => (x.1, a.eval x.2)).toArray _ hb
  simp [execOp, hr]

section
variable {d : Option Tmp} {pos : String} {af : Array Edge} {g : Option (Nat × Bool)} {t e : TypeId} {sz : Nat} {r : Bool} {by' : Nat}
/-- A slice literal without elements. -/
theorem Gt.build0 (tb : Tbl P) (hw : Wt cx ops fr g true) (ht : P.underlying t = some (.slice e)) (he : lookT tb.T e = some (sz, by', r))
    (h : ∀ b, GK cx K (upd d (.slice (some ⟨b, 0, none⟩) 0 0) fr) (row (.slice (some ⟨b, 0, none⟩) 0 0) e sz 0 [] :: Γ)) : GO P cx ops Q ⟨d, .buildSlice t 0 #[], ty, pos, af, g⟩ K fr Γ := by
  refine GO.effect hw (Φ := fun u Γ' => ∃ b, u = .slice (some ⟨b, 0, none⟩) 0 0 ∧ Γ' = row (.slice (some ⟨b, 0, none⟩) 0 0) e sz 0 [] :: Γ) (fun a w d pos af g st => ?_) ?_
  · refine ⟨.slice (some ⟨w.heap.size, 0, none⟩) 0 0, w.alloc (.cells ⟨[]⟩ e), _, .inl ?_, ⟨w.heap.size, rfl, rfl⟩, Sat.row_blk (tail := []) (fz := (0, 0)) (Nat.le_refl _) (by simp) (by simp) (by simp [free]) (st.heap.alloc _), .alloc _ _⟩
    simp [execOp, Instr.buildSlice, run_underlying ht, run_sizeOf (tb.t he).1, Instr.fill, run_newRow]
    rw [show (Array.range 0).map (fun _ => (default : Value)) = ⟨[]⟩ from by simp]
  · rintro v Γ' ⟨b, rfl, rfl⟩; exact h b
/-- A slice literal, all its elements given: 'cells' are theirs, one behind the other. -/
theorem run_fill_all {sz : Nat} : ∀ (vs : List Value) (k : Nat) (pre l : List Value), pre.length = k * sz → l.length = (k + vs.length) * sz → (∀ v ∈ vs, v.cells.size = sz) → pre = l.take (k * sz) →
    fillL (arrPlace sz) l ((List.range' k vs.length).zip vs) = some (pre ++ vs.flatMap (fun v => v.cells.toList))
  | [], k, pre, l, hp, hl, _, hpre => by
    simp only [List.length_nil, Nat.add_zero] at hl
    simp [fillL, hpre, ← hl]
  | v :: vs, k, pre, l, hp, hl, hv, hpre => by
    have hv0 := hv v (by simp)
    simp only [List.length_cons] at hl ⊢
    have hmul : (k + (vs.length + 1)) * sz = k * sz + sz + vs.length * sz := by rw [Nat.add_mul, Nat.add_mul]; omega
    simp only [List.range'_succ, List.zip_cons_cons, fillL, arrPlace, cond_eq_ite]
    rw [if_pos (by simp [hv0]; omega)]
    have hsl : (splice l (k * sz) v.cells.toList).length = l.length := splice_length (by simp [hv0]; omega)
    have := run_fill_all vs (k + 1) (pre ++ v.cells.toList) (splice l (k * sz) v.cells.toList) (by simp [hp, hv0, Nat.add_mul]) (by rw [hsl, hl]; congr 1; omega) (fun u hu => hv u (by simp [hu])) (by
      simp only [splice]
      rw [← hpre, List.take_append_of_le_length (by simp [hp, hv0, Nat.add_mul])]
      rw [List.take_of_length_le (by simp [hp, hv0, Nat.add_mul])])
    simpa using this
theorem Gt.buildAll (tb : Tbl P) {parts : List (Nat × Operand)} {vs cells : List Value} {n : Nat} (hw : Wt cx ops fr g true) (ht : P.underlying t = some (.slice e)) (he : lookT tb.T e = some (sz + 1, by', r)) (hz : (zeroL P e).isSome = true) (hv : evs cx fr (parts.map (·.2)) = some vs)
    (hn : vs.length = n + 1) (hi : parts.map (·.1) = List.range' 0 (n + 1)) (hs : ∀ v ∈ vs, v.cells.size = sz + 1) (hsmall : (n + 1) * (sz + 1) ≤ 16777216) (hcells : vs.flatMap (fun v => v.cells.toList) = cells)
    (h : ∀ b, GK cx K (upd d (.slice (some ⟨b, 0, none⟩) (n + 1) (n + 1)) fr) (blk b e (0, 0) cells :: Γ)) : GO P cx ops Q ⟨d, .buildSlice t (n + 1) parts.toArray, ty, pos, af, g⟩ K fr Γ := by
  subst hcells
  refine GO.effect hw (Φ := fun u Γ' => ∃ b, u = .slice (some ⟨b, 0, none⟩) (n + 1) (n + 1) ∧ Γ' = blk b e (0, 0) (vs.flatMap (fun v => v.cells.toList)) :: Γ) (fun a w d pos af g st => ?_) ?_
  · refine ⟨_, _, _, .inl ?_, ⟨w.heap.size, rfl, rfl⟩, st.heap.alloc _, .alloc _ _⟩
    have hpart := parts_map a.eval parts
    rw [st.evals hv, hi, ← hn] at hpart
    obtain ⟨ie, hie, hsz⟩ := Option.map_eq_some_iff.1 (tb.t he).1
    obtain ⟨zl, hzl⟩ := Option.isSome_iff_exists.1 hz
    obtain ⟨z, hz, rfl⟩ := Option.map_eq_some_iff.1 hzl
    rw [hie] at hz
    simp only [Option.bind_some] at hz
    have hf := run_fill_all (sz := sz + 1) vs 0 [] ((Array.range ((n + 1) * ie.size)).map (z.cells[· % z.cells.size]!)).toList (by simp) (by simp [hn, hsz]) hs (by simp)
    have hf := fill_list hf
    rw [List.nil_append] at hf
    have hrun := run_buildSlice w t e (n + 1) (parts.map fun x => (x.1, a.eval x.2)).toArray _ ie z ht hie hz (by rw [hsz]; omega) (by rw [hsz]; simp) (by show Instr.fill _ _ (parts.map fun x => (x.1, a.eval x.2)) = _; rw [hpart, hsz]; rw [hsz] at hf; exact hf)
    simp [execOp, hrun]
  · rintro v Γ' ⟨b, rfl, rfl⟩; exact h b
end

/-! ### cuts -/
def slAddr (p : Option Addr) (c l sz : Nat) : Option Addr := if c = l then p else p.map (·.add (l * sz))
section cuts
variable {t e : TypeId} {x lo hi mx : Operand} {p : Option Addr} {n c sz by' : Nat} {l h m : Int} {kl kh km : IntKind} {r : Bool}
theorem Yt.slice_lh (tb : Tbl P) (ht : P.underlying t = some (.slice e)) (he : lookT tb.T e = some (sz, by', r)) (hx : ev cx fr x = some (.slice p n c)) (hl : ev cx fr lo = some (.int kl l)) (hh : ev cx fr hi = some (.int kh h)) (hb : 0 ≤ l ∧ l ≤ h ∧ h ≤ c) :
    Yl P cx fr Γ (.slice t x (some lo) (some hi) none) ty (.slice (slAddr p c l.toNat sz) (h.toNat - l.toNat) (c - l.toNat)) := fun a w d pos af g st => by
  have h1 : 0 ≤ h := by omega
  have h2 : l ≤ (h.toNat : Int) := by omega
  simp [execOp, Instr.sliceAt, Instr.slice, Instr.sliceBounds, Instr.sliceBound, asIntOf, st.eval hx, st.eval hl, st.eval hh, run_underlying ht, run_sizeOf (tb.t he).1, hb, h1, slAddr]
  intro hlt; omega
theorem Yt.slice_h (tb : Tbl P) (ht : P.underlying t = some (.slice e)) (he : lookT tb.T e = some (sz, by', r)) (hx : ev cx fr x = some (.slice p n c)) (hh : ev cx fr hi = some (.int kh h)) (hb : 0 ≤ h ∧ h ≤ c) :
    Yl P cx fr Γ (.slice t x none (some hi) none) ty (.slice p h.toNat c) := fun a w d pos af g st => by
  have h0 : ∀ q : Addr, q.add 0 = q := fun q => rfl
  cases p <;> simp [execOp, Instr.sliceAt, Instr.slice, Instr.sliceBounds, Instr.sliceBound, asIntOf, st.eval hx, st.eval hh, run_underlying ht, run_sizeOf (tb.t he).1, hb, h0]
theorem Yt.slice_l (tb : Tbl P) (ht : P.underlying t = some (.slice e)) (he : lookT tb.T e = some (sz, by', r)) (hx : ev cx fr x = some (.slice p n c)) (hl : ev cx fr lo = some (.int kl l)) (hb : 0 ≤ l ∧ l ≤ n) :
    Yl P cx fr Γ (.slice t x (some lo) none none) ty (.slice (slAddr p c l.toNat sz) (n - l.toNat) (c - l.toNat)) := fun a w d pos af g st => by
  simp [execOp, Instr.sliceAt, Instr.slice, Instr.sliceBounds, Instr.sliceBound, asIntOf, st.eval hx, st.eval hl, run_underlying ht, run_sizeOf (tb.t he).1, hb, slAddr]
theorem Yt.slice_arr (tb : Tbl P) {b o k : Nat} (ht : P.underlying t = some (.array k e)) (he : lookT tb.T e = some (sz, by', r)) (hx : ev cx fr x = some (.pointer (some ⟨b, o, none⟩))) :
    Yl P cx fr Γ (.slice t x none none none) ty (.slice (some ⟨b, o, none⟩) k k) := fun a w d pos af g st => by
  have h0 : ∀ q : Addr, q.add 0 = q := fun q => rfl
  simp [execOp, Instr.sliceAt, Instr.sureAddr, Instr.sliceBounds, st.eval hx, run_underlying ht, run_sizeOf (tb.t he).1, h0]
theorem Yl.str_lh {s : List UInt8} (ht : P.underlying t = some .string) (hx : ev cx fr x = some (str s)) (hl : ev cx fr lo = some (.int kl l)) (hh : ev cx fr hi = some (.int kh h)) (hb : 0 ≤ l ∧ l ≤ h ∧ h ≤ s.length) :
    Yl P cx fr Γ (.slice t x (some lo) (some hi) none) ty (str ((s.drop l.toNat).take (h.toNat - l.toNat))) := fun a w d pos af g st => by
  have h1 : 0 ≤ h := by omega
  have h2 : l ≤ (h.toNat : Int) := by omega
  have := ByteArray.extract_mk s l.toNat h.toNat
  simp [execOp, Instr.sliceAt, Instr.slice, Instr.sliceBounds, Instr.sliceBound, asIntOf, st.eval hx, st.eval hl, st.eval hh, run_underlying ht, ba_size, hb, h1, this]
  intro hlt; omega
theorem Yl.str_h {s : List UInt8} (ht : P.underlying t = some .string) (hx : ev cx fr x = some (str s)) (hh : ev cx fr hi = some (.int kh h)) (hb : 0 ≤ h ∧ h ≤ s.length) :
    Yl P cx fr Γ (.slice t x none (some hi) none) ty (str (s.take h.toNat)) := fun a w d pos af g st => by
  have := ByteArray.extract_mk s 0 h.toNat
  simp [execOp, Instr.sliceAt, Instr.slice, Instr.sliceBounds, Instr.sliceBound, asIntOf, st.eval hx, st.eval hh, run_underlying ht, ba_size, hb, this]
theorem Yl.str_l {s : List UInt8} (ht : P.underlying t = some .string) (hx : ev cx fr x = some (str s)) (hl : ev cx fr lo = some (.int kl l)) (hb : 0 ≤ l ∧ l ≤ s.length) :
    Yl P cx fr Γ (.slice t x (some lo) none none) ty (str (s.drop l.toNat)) := fun a w d pos af g st => by
  have := ByteArray.extract_mk s l.toNat s.length
  have h3 : List.take (s.length - l.toNat) (List.drop l.toNat s) = List.drop l.toNat s := List.take_of_length_le (by simp)
  simp [execOp, Instr.sliceAt, Instr.slice, Instr.sliceBounds, Instr.sliceBound, asIntOf, st.eval hx, st.eval hl, run_underlying ht, ba_size, hb, this, h3]
end cuts

/-! ### bytes and strings -/
theorem foldl_push (s : List UInt8) : ∀ r : List UInt8, (s.map (fun b => ((b.toNat : Nat) : Int))).foldl (fun (r : ByteArray) n => r.push (UInt8.ofNat n.toNat)) ⟨⟨r⟩⟩ = ⟨⟨r ++ s⟩⟩ := by
  induction s with
  | nil => intro r; simp
  | cons b s ih =>
    intro r
    simp only [List.map_cons, List.foldl_cons]
    have : (⟨⟨r⟩⟩ : ByteArray).push (UInt8.ofNat ((b.toNat : Nat) : Int).toNat) = ⟨⟨r ++ [b]⟩⟩ := by simp [ByteArray.push]
    rw [this, ih]; simp
section conv
variable {ts td e : TypeId} {x : Operand} {b o n c : Nat} {l : List Value} {e' : TypeId} {fz : Nat × Nat} {s : List UInt8}
theorem Yl.bytesStr (hs : P.underlying ts = some (.slice e)) (he : P.underlying e = some (.int .u8)) (hd : P.underlying td = some .string) (hx : ev cx fr x = some (.slice (some ⟨b, o, none⟩) n c)) (hr : Rd Γ cx.hF b (.cells ⟨l⟩ e' fz)) (hA : At l o (u8s s)) (hn : s.length = n) :
    Yl P cx fr Γ (.convert ts td x) ty (str s) := fun a w d pos af g st => by
  have hl := run_loadCells_at (P := P) (hr w st.heap) hA
  rw [u8s_length, hn] at hl
  have h1 := run_bytesToString (P := P) w ⟨b, o, none⟩ n c (s.map fun b => ((b.toNat : Nat) : Int)) (by rw [hl]; simp [u8s])
  have h2 := foldl_push s []
  simp only [List.nil_append] at h2
  have h3 : (⟨⟨[]⟩⟩ : ByteArray) = ByteArray.empty := rfl
  rw [h3] at h2
  rw [h2] at h1
  simp [execOp, st.eval hx, run_convert_bytes_string w ts td e _ _ _ hs he hd, h1]
theorem Yl.nilStr (hs : P.underlying ts = some (.slice e)) (he : P.underlying e = some (.int .u8)) (hd : P.underlying td = some .string) (hx : ev cx fr x = some (.slice none n c)) : Yl P cx fr Γ (.convert ts td x) ty (str []) := fun a w d pos af g st => by
  simp [execOp, st.eval hx, run_convert_bytes_string w ts td e _ _ _ hs he hd, Conv.bytesToString]
  rfl
variable {d : Option Tmp} {pos : String} {af : Array Edge} {g : Option (Nat × Bool)} {u : TypeDesc}
theorem GO.strBytes (hw : Wt cx ops fr g true) (hs : P.underlying ts = some u) (hd : P.underlying td = some (.slice e)) (he : P.underlying e = some (.int .u8)) (hx : ev cx fr x = some (str s))
    (h : ∀ p c, GK cx K (upd d (.slice p s.length c) fr) (row (.slice p s.length c) e 1 s.length (u8s s) :: Γ)) : GO P cx ops Q ⟨d, .convert ts td x, ty, pos, af, g⟩ K fr Γ := by
  refine GO.effect hw (Φ := fun q Γ' => ∃ p c, q = .slice p s.length c ∧ Γ' = row (.slice p s.length c) e 1 s.length (u8s s) :: Γ) (fun a w d pos af g st => ?_) ?_
  · have hr := Lib.run_convert_string_bytes (P := P) w ts td e ⟨⟨s⟩⟩ hs hd he
    have hge := grownCap_ge w s.length 0 e
    have hcells : Lib.bytesCells w e ⟨⟨s⟩⟩ = ⟨u8s s ++ List.replicate (grownCap w s.length 0 e - s.length) (.int .u8 0)⟩ := by
      apply Array.ext'; simp [Lib.bytesCells, u8s, ba_size]
    have hnew := Lib.bytesWorld_at_new w e ⟨⟨s⟩⟩
    rw [hcells] at hnew
    have hold : ∀ k u, mem w k = some u → mem (Lib.bytesWorld w e ⟨⟨s⟩⟩) k = some u := fun k u hk => by
      show (Lib.bytesWorld w e ⟨⟨s⟩⟩).heap[k]? = some u
      rw [Lib.bytesWorld_at_old w e _ k (mem_lt hk)]; exact hk
    refine ⟨.slice (some ⟨w.heap.size, 0, none⟩) s.length (grownCap w s.length 0 e), Lib.bytesWorld w e ⟨⟨s⟩⟩, _, .inl ?_, ⟨some ⟨w.heap.size, 0, none⟩, grownCap w s.length 0 e, rfl, rfl⟩, ?_, ?_⟩
    · simp only [execOp, st.eval hx]; simp [hr, ba_size]
    · refine Sat.row_blk hge (by simp) (by simp) ?_ (st.heap.new hold (by simp) hnew)
      simp [free]
    · exact ⟨rfl, rfl, rfl, by rw [Lib.bytesWorld_size]; omega⟩
  · rintro q Γ' ⟨p, c, rfl, rfl⟩; exact h p c
end conv
end Go.Sl
