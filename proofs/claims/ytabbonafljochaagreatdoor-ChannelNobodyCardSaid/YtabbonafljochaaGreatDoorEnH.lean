/- The engine, part H: rows that are owned; append; slices of slices; bytes and strings. -/
import Derived.Test.YtabbonafljochaaGreatDoorEnF
namespace Go.Sl
variable {P : Program} {cx : Cx} {fr : Fr} {Γ : List HProp} {Q : Exit → Act → World → Prop} {ops : Array Oper} {ty : TypeId} {K : Act → World → Prop}

/-! ### what is appended -/
/-- Of the value x there are m elements, whose cells are these. -/
structure Src (P : Program) (cx : Cx) (Γ : List HProp) (x : Value) (m sz : Nat) (news : List Value) : Prop where
  len : ∀ w, (Builtin.lenOf x).run P w = .ok m w
  cells : ∀ w, Sat Γ cx.hF w → (Builtin.firstCells sz m x).run P w = .ok ⟨news⟩ w
  size : news.length = m * sz
  one : ∀ u ∈ news, u.oneCell' = true
theorem Src.slice {b o m c sz : Nat} {l news : List Value} {e : TypeId} {fz : Nat × Nat} (hr : Rd Γ cx.hF b (.cells ⟨l⟩ e fz)) (hA : At l o news) (hl : news.length = m * sz) (h1 : ∀ u ∈ news, u.oneCell' = true) :
    Src P cx Γ (.slice (some ⟨b, o, none⟩) m c) m sz news :=
  ⟨fun w => by simp [Builtin.lenOf], fun w s => by simp only [Builtin.firstCells]; rw [← hl]; exact run_loadCells_at (hr w s) hA, hl, h1⟩
theorem Src.none {sz c : Nat} {p : Option Addr} : Src P cx Γ (.slice p 0 c) 0 sz [] :=
  ⟨fun w => by simp [Builtin.lenOf], fun w s => by cases p <;> simp [Builtin.firstCells, loadCells, loadCellsFrom], by simp, by simp⟩
/-- Bytes as cells. -/
def u8s (l : List UInt8) : List Value := l.map fun b => .int .u8 b.toNat
@[simp] theorem u8s_length (l : List UInt8) : (u8s l).length = l.length := by simp [u8s]
theorem u8s_append (a b : List UInt8) : u8s (a ++ b) = u8s a ++ u8s b := by simp [u8s]
theorem u8s_one (l : List UInt8) : ∀ u ∈ u8s l, u.oneCell' = true := by
  intro u hu
  obtain ⟨_, _, rfl⟩ := List.mem_map.1 hu
  rfl
theorem u8_eq {a b : UInt8} (h : Value.int .u8 a.toNat = Value.int .u8 b.toNat) : a = b := by
  injection h with _ h
  exact UInt8.toNat_inj.1 (by omega)
theorem u8s_inj {a b : List UInt8} (h : u8s a = u8s b) : a = b := by
  induction a generalizing b with
  | nil => cases b with
    | nil => rfl
    | cons => simp [u8s] at h
  | cons x a ih => cases b with
    | nil => simp [u8s] at h
    | cons y b =>
      have h0 : Value.int .u8 x.toNat :: u8s a = Value.int .u8 y.toNat :: u8s b := h
      injection h0 with h1 h2
      rw [u8_eq h1, ih h2]
theorem Src.str {l : List UInt8} : Src P cx Γ (str l) l.length 1 (u8s l) :=
  ⟨fun w => by simp [Builtin.lenOf, ba_size], fun w s => by
    have : ((⟨⟨l⟩⟩ : ByteArray).extract 0 l.length) = ⟨⟨l⟩⟩ := by
      have := ByteArray.extract_mk l 0 l.length
      simpa using this
    simp [Builtin.firstCells, this, u8s], by simp, u8s_one l⟩
theorem Src.weak {Γ' : List HProp} {x : Value} {m sz : Nat} {news : List Value} (h : Src P cx Γ x m sz news) (hg : ∀ w, Sat Γ' cx.hF w → Sat Γ cx.hF w) : Src P cx Γ' x m sz news :=
  ⟨h.len, fun w s => h.cells w (hg w s), h.size, h.one⟩

/-! ### rows that are owned -/
/-- The slice v has n elements of size sz, which are its owner's alone: their cells. -/
def row (v : Value) (e : TypeId) (sz n : Nat) (xs : List Value) : HProp :=
  exs (fun x : Option (Nat × Nat × List Value × (Nat × Nat)) => match x with
      | none => v = .slice none 0 0 ∧ n = 0 ∧ xs = []
      | some (b, c, tail, fz) => v = .slice (some ⟨b, 0, none⟩) n c ∧ n ≤ c ∧ (c - n) * sz ≤ tail.length ∧ xs.length = n * sz ∧ free fz 0 (xs ++ tail).length = true)
    (fun x => match x with
      | none => []
      | some (b, _, tail, fz) => [blk b e fz (xs ++ tail)])
theorem Sat.row_blk {b e n c sz : Nat} {fz : Nat × Nat} {xs tail : List Value} {hF : Hp} {w : World} (hc : n ≤ c) (ht : (c - n) * sz ≤ tail.length) (hx : xs.length = n * sz) (hf : free fz 0 (xs ++ tail).length = true)
    (h : Sat (blk b e fz (xs ++ tail) :: Γ) hF w) : Sat (row (.slice (some ⟨b, 0, none⟩) n c) e sz n xs :: Γ) hF w :=
  Sat.shut (some (b, c, tail, fz)) ⟨rfl, hc, ht, hx, hf⟩ h
theorem Sat.row_nil {e sz : Nat} {hF : Hp} {w : World} (h : Sat Γ hF w) : Sat (row (.slice none 0 0) e sz 0 [] :: Γ) hF w :=
  Sat.shut none ⟨rfl, rfl, rfl⟩ h
theorem row_len {v : Value} {e sz n : Nat} {xs : List Value} {hF : Hp} {w : World} (h : Sat (row v e sz n xs :: Γ) hF w) : (∃ p c, v = .slice p n c) ∧ xs.length = n * sz := by
  obtain ⟨x, hx, _⟩ := h.opens
  cases x with
  | none => obtain ⟨h1, h2, h3⟩ := hx; subst h2; subst h3; exact ⟨⟨_, _, h1⟩, by simp⟩
  | some q => obtain ⟨b, c, tail, fz⟩ := q; exact ⟨⟨_, _, hx.1⟩, hx.2.2.2.1⟩

theorem GK.openRow {p : Option Addr} {e sz n c : Nat} {xs : List Value} (i : Nat) (hi : Γ[i]? = some (row (.slice p n c) e sz n xs)) (hn : 0 < n)
    (h : ∀ b tail fz, p = some ⟨b, 0, none⟩ → n ≤ c → (c - n) * sz ≤ tail.length → xs.length = n * sz → free fz 0 (xs ++ tail).length = true → GK cx K fr (blk b e fz (xs ++ tail) :: Γ.eraseIdx i)) : GK cx K fr Γ := by
  refine GK.opens i hi fun x hx => ?_
  cases x with
  | none => obtain ⟨_, h2, _⟩ := hx; omega
  | some q =>
    obtain ⟨b, c', tail, fz⟩ := q
    obtain ⟨h1, h2, h3, h4, h5⟩ := hx
    injection h1 with h6 _ h7
    subst h7
    exact h b tail fz h6 h2 h3 h4 h5
theorem free_zero {o n : Nat} : free (0, 0) o n = true := by simp [free]
theorem free_sub {fz : Nat × Nat} {o n o' n' : Nat} (h : free fz o n = true) (h1 : o ≤ o') (h2 : o' + n' ≤ o + n) : free fz o' n' = true := by
  simp only [free, Bool.or_eq_true, Nat.ble_eq] at *; omega

/-- What may be appended: a slice's type, or string. -/
def appT (P : Program) (t : TypeId) : Prop := (∃ e, P.underlying t = some (.slice e)) ∨ P.underlying t = some .string

section runs
variable {t tx e : TypeId} {w : World} {n m c : Nat} {x : Value} {i : TypeInfo} {news : List Value} {tt : TypeId} {p : Option Addr}
theorem run_append_stays (ht : P.underlying t = some (.slice e)) (htx : appT P tx) (hi : P.info? e = some i) (hlen : (Builtin.lenOf x).run P w = .ok m w) (hcells : (Builtin.firstCells i.size m x).run P w = .ok ⟨news⟩ w) (hroom : n + m ≤ c) :
    (Builtin.append_ #[t, tx] tt #[.slice p n c, x]).run P w =
      ((match p with | some a => storeCells (a.add (n * i.size)) news | none => pure () : Sem Unit).run P w).andThen fun _ w' => .ok (.slice p (n + m) c) w' := by
  rcases htx with ⟨e', htx⟩ | htx <;> cases p <;> simp [Builtin.append_, run_underlying ht, run_underlying htx, sizeOf, typeInfo, hi, hlen, hcells, hroom]
theorem run_append_grows {z : Value} {olds : List Value} (ht : P.underlying t = some (.slice e)) (htx : appT P tx) (hi : P.info? e = some i) (hz : i.zero = some z) (hlen : (Builtin.lenOf x).run P w = .ok m w)
    (hcells : (Builtin.firstCells i.size m x).run P w.drew = .ok ⟨news⟩ w.drew) (holds : (Builtin.firstCells i.size n (.slice p n c)).run P w.drew = .ok ⟨olds⟩ w.drew) (hgrow : ¬ n + m ≤ c) (h63 : n + m ≤ 9223372036854775807) (hfit : Builtin.nextslicecap (n + m) c * i.bytes ≤ 281474976710656) :
    (Builtin.append_ #[t, tx] tt #[.slice p n c, x]).run P w = .ok (.slice (some ⟨w.heap.size, 0, none⟩) (n + m) (grownCap w (n + m) c e))
      (w.drew.alloc (.cells ⟨olds ++ news ++ (Builtin.zeroCells z.cells (grownCap w (n + m) c e - (n + m))).toList⟩ e)) := by
  have h63' : ¬ (9223372036854775807 < ((n : Int) + (m : Int))) := by omega
  have h48' : ¬ (281474976710656 < Builtin.nextslicecap (n + m) c * i.bytes) := by omega
  rcases htx with ⟨e', htx⟩ | htx <;>
    simp [Builtin.append_, run_underlying ht, run_underlying htx, sizeOf, typeInfo, zeroValue, hi, hz, hlen, hgrow, h63', h48', Question.forced, hcells, holds, newRow, grownCap] <;> (congr 2; apply Array.ext'; simp)
end runs

/-- append to a row that is owned. -/
theorem run_append_row {t tx e : TypeId} {w : World} {sz by' n m : Nat} {v x : Value} {xs news zl : List Value} {hF : Hp} {tt : TypeId}
    (ht : P.underlying t = some (.slice e)) (htx : appT P tx) (hs : tsize P e = some sz) (hb : tbytes P e = some by') (hzl : zeroL P e = some zl) (hzz : zl.length = sz)
    (hsrc : Src P ⟨0, [], hF, w, none⟩ (row v e sz n xs :: Γ) x m sz news) (hst : Sat (row v e sz n xs :: Γ) hF w) (hcap : (n + m) * by' ≤ 140737488355328) (h63 : n + m ≤ 9223372036854775807) :
    ∃ p c w', (Builtin.append_ #[t, tx] tt #[v, x]).run P w = .ok (.slice p (n + m) c) w' ∧ Sat (row (.slice p (n + m) c) e sz (n + m) (xs ++ news) :: Γ) hF w' ∧ Same w w' := by
  obtain ⟨y, hy, hop⟩ := hst.opens
  obtain ⟨i, hi, rfl⟩ := Option.map_eq_some_iff.1 hs
  obtain ⟨i', hi', rfl⟩ := Option.map_eq_some_iff.1 hb
  rw [hi] at hi'; cases hi'
  obtain ⟨z, hz, hzc⟩ := Option.map_eq_some_iff.1 hzl
  rw [hi] at hz
  simp only [Option.bind_some] at hz
  have hlen := hsrc.len w
  have hcells := hsrc.cells w hst
  have hcells' := hsrc.cells w.drew (hst.mono (le.refl _))
  have hzs : z.cells.size = i.size := by rw [← hzz, ← hzc]; simp
  have tailLen : ∀ k, (Builtin.zeroCells z.cells k).toList.length = k * i.size := fun k => by rw [Array.length_toList, size_zeroCells, hzs]
  have hsame : ∀ ob, Same w (w.drew.alloc ob) := fun ob => ⟨rfl, rfl, rfl, by simp⟩
  cases y with
  | none =>
    obtain ⟨rfl, rfl, rfl⟩ := hy
    simp only [Nat.zero_add, List.nil_append] at *
    by_cases hm : m = 0
    · subst hm
      have hn : news = [] := List.eq_nil_of_length_eq_zero (by simpa using hsrc.size)
      subst hn
      refine ⟨none, 0, w, ?_, hop.row_nil, .refl w⟩
      have := run_append_stays (p := none) (n := 0) (c := 0) (tt := tt) ht htx hi hlen hcells (by omega)
      simpa using this
    · have hr := run_append_grows (p := none) (n := 0) (c := 0) (tt := tt) (olds := []) ht htx hi hz hlen hcells' (by simp [Builtin.firstCells]) (by omega) (by omega) (growslice_fits (by omega) (by simpa using hcap))
      simp only [Nat.zero_add, List.nil_append] at hr
      have hge := grownCap_ge w m 0 e
      refine ⟨_, _, _, hr, ?_, hsame _⟩
      exact Sat.row_blk hge (Nat.le_of_eq (tailLen _).symm) hsrc.size free_zero ((hop.mono (le.refl _)).alloc _)
  | some q =>
    obtain ⟨b, c, tail, fz⟩ := q
    obtain ⟨rfl, hnc, htail, hxs, hfz⟩ := hy
    simp only [List.singleton_append] at hop
    have hrd := hop.pt_head
    by_cases hroom : n + m ≤ c
    · have hsplit : n * i.size + news.length ≤ (xs ++ tail).length := by
        have hq := Nat.mul_le_mul_right i.size (show m ≤ c - n by omega)
        rw [List.length_append, hxs, hsrc.size]; omega
      obtain ⟨w', r, r1, r2, r3⟩ := run_store_list (P := P) (o := n * i.size) news 0 (xs ++ tail) w hrd (by simpa using hsplit) (free_sub hfz (by omega) (by simpa using hsplit)) hsrc.one
      have hr := run_append_stays (p := some ⟨b, 0, none⟩) (n := n) (c := c) (tt := tt) ht htx hi hlen hcells hroom
      simp only [Addr.add_mid, Nat.zero_add, r, Result.andThen_ok] at hr
      refine ⟨_, _, _, hr, ?_, r3⟩
      have hsp : splice (xs ++ tail) (n * i.size + 0) news = (xs ++ news) ++ tail.drop news.length := by
        simp only [splice, Nat.add_zero, ← hxs, List.take_left, List.append_assoc]
        rw [List.drop_append]; simp
      rw [hsp] at r1
      refine Sat.row_blk (fz := fz) hroom ?_ (by rw [List.length_append, hxs, hsrc.size, Nat.add_mul]) (free_sub hfz (Nat.le_refl _) ?_) (hop.write_head r1 r2)
      · rw [List.length_drop, hsrc.size, show c - (n + m) = (c - n) - m by omega, Nat.sub_mul]; omega
      · simp only [List.length_append, List.length_drop]; simp only [List.length_append] at hsplit; omega
    · have holds : (Builtin.firstCells i.size n (.slice (some ⟨b, 0, none⟩) n c)).run P w.drew = .ok ⟨xs⟩ w.drew := by
        simp only [Builtin.firstCells]; rw [← hxs]; exact run_loadCells_at (w := w.drew) hrd (At.front xs tail)
      have hr := run_append_grows (p := some ⟨b, 0, none⟩) (n := n) (c := c) (tt := tt) ht htx hi hz hlen hcells' holds hroom h63 (growslice_fits (by omega) hcap)
      have hge := grownCap_ge w (n + m) c e
      refine ⟨_, _, _, hr, ?_, hsame _⟩
      exact Sat.row_blk hge (Nat.le_of_eq (tailLen _).symm) (by rw [List.length_append, hxs, hsrc.size, Nat.add_mul]) free_zero ((hop.drop.mono (le.refl _)).alloc _)

section ops
variable {d : Option Tmp} {pos : String} {af : Array Edge} {g : Option (Nat × Bool)} {x y : Operand} {t tx e : TypeId} {sz by' n m : Nat} {v u : Value} {xs news zl : List Value} {r : Bool}
theorem Gt.append (tb : Tbl P) (i : Nat) (hw : Wt cx ops fr g true) (ht : P.underlying t = some (.slice e)) (htx : appT P tx) (he : lookT tb.T e = some (sz, by', r)) (hz : inZ tb.Z e = true)
    (hx : ev cx fr x = some v) (hy : ev cx fr y = some u) (hi : Γ[i]? = some (row v e sz n xs)) (hsrc : Src P cx Γ u m sz news) (hcap : (n + m) * by' ≤ 140737488355328) (h63 : n + m ≤ 9223372036854775807)
    (h : ∀ p c, GK cx K (upd d (.slice p (n + m) c) fr) (row (.slice p (n + m) c) e sz (n + m) (xs ++ news) :: Γ.eraseIdx i)) : GO P cx ops Q ⟨d, .call ⟨.builtin .append, #[x, y], #[t, tx]⟩, ty, pos, af, g⟩ K fr Γ := by
  refine GO.effect hw (Φ := fun q Γ' => ∃ p c, q = .slice p (n + m) c ∧ Γ' = row (.slice p (n + m) c) e sz (n + m) (xs ++ news) :: Γ.eraseIdx i) (fun a w d pos af g st => ?_) ?_
  · have hp := perm_eraseIdx hi
    obtain ⟨zl, hzl, hzz⟩ := tb.z he hz
    obtain ⟨p, c, w', hr, hs', hsame⟩ := run_append_row (P := P) (tt := ty) ht htx (tb.t he).1 (tb.t he).2.1 hzl hzz (hF := cx.hF) (Γ := Γ.eraseIdx i) (w := w) (v := v) (x := u) (xs := xs)
      ⟨hsrc.len, fun w s => hsrc.cells w (s.perm hp.symm), hsrc.size, hsrc.one⟩ (st.heap.perm hp) hcap h63
    refine ⟨_, _, _, .inl ?_, ⟨p, c, rfl, rfl⟩, hs', hsame⟩
    simp [execOp, resolve, invoke, builtin, st.eval hx, st.eval hy, hr]
  · rintro q Γ' ⟨p, c, rfl, rfl⟩; exact h p c
end ops
end Go.Sl
