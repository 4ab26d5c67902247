/- The engine, part P: memory that is made once and then only read (a pool); slices that may be read; appends that make new memory; two that may come up. -/
import Derived.Test.YtabbonafljochaaGreatDoorEnL
namespace Go.Sl
variable {P : Program} {cx : Cx} {fr : Fr} {Γ : List HProp} {Q : Exit → Act → World → Prop} {ops : Array Oper} {ty : TypeId} {K : Act → World → Prop}

theorem Sat.drop1 {A B : HProp} {hF : Hp} {w : World} (h : Sat (A :: B :: Γ) hF w) : Sat (A :: Γ) hF w := (h.perm (.swap _ _ _)).drop
theorem Sat.drop2 {A B C : HProp} {hF : Hp} {w : World} (h : Sat (A :: B :: C :: Γ) hF w) : Sat (A :: B :: Γ) hF w := ((h.perm ((List.Perm.swap _ _ _).cons _)).perm (.swap _ _ _)).drop.perm (.refl _)
/-! ### a pool -/
/-- This part of memory, just as it is. -/
def poolOf (H : Hp) : HProp := fun h => h = H
theorem Sat.pool_le {H hF : Hp} {w : World} (h : Sat (poolOf H :: Γ) hF w) : le H (mem w) := by
  obtain ⟨k, a, d⟩ := h.head
  rw [show k = H from a] at d; exact d
theorem pool_le {H hF : Hp} (i : Nat) (hi : Γ[i]? = some (poolOf H)) {w : World} (h : Sat Γ hF w) : le H (mem w) := (h.perm (perm_eraseIdx hi)).pool_le
theorem Rd.pool {H hF : Hp} {b : Nat} {o : Obj} (i : Nat) (hi : Γ[i]? = some (poolOf H)) (hb : H b = some o) : Rd Γ hF b o := fun _ s => pool_le i hi s b o hb
/-- What is owned goes into the pool. -/
theorem Sat.absorb {A : HProp} {H hF : Hp} {w : World} (h : Sat (A :: poolOf H :: Γ) hF w) : ∃ H' k, le H H' ∧ A k ∧ le k H' ∧ Sat (poolOf H' :: Γ) hF w := by
  obtain ⟨hs, a, q, c, d⟩ := h
  match hs, a with
  | x :: y :: hs, ⟨a1, a2, a3⟩ =>
    obtain rfl : y = H := a2
    obtain ⟨q1, q2, q3, q4, q5⟩ := q
    have hxy : apart x y := q2 y (by simp)
    refine ⟨cup x y, x, le_cup_right hxy, a1, le_cup_left _ _, cup x y :: hs, ⟨rfl, a3⟩, ⟨apart_cup q1 q3, fun k hk => ?_, q5⟩, c, fun k hk => ?_⟩
    · exact (apart_cup (q2 k (by simp [hk])).symm (q4 k hk).symm).symm
    · rcases List.mem_cons.1 hk with rfl | hk
      · exact cup_le (d x (by simp)) (d y (by simp))
      · exact d k (by simp [hk])
/-- What stands behind the pool goes into it. -/
theorem GK.absorb {A : HProp} {H : Hp} (h : ∀ H' k, le H H' → A k → le k H' → GK cx K fr (poolOf H' :: Γ)) : GK cx K fr (poolOf H :: A :: Γ) := fun a w s => by
  obtain ⟨H', k, h1, h2, h3, h4⟩ := (s.heap.perm (.swap _ _ _)).absorb
  exact h H' k h1 h2 h3 a w ⟨s.size, s.defers, s.slots, h4, s.same⟩
theorem pt_in {b : Nat} {o : Obj} {k H : Hp} (h : pt b o k) (hl : le k H) : H b = some o := hl b o (by rw [show k = _ from h]; simp)

/-- A pool that holds H, whatever else it holds. -/
def poolGe (H : Hp) : HProp := exs (fun H' : Hp => le H H') (fun H' => [poolOf H'])
theorem Sat.poolGe {H H' hF : Hp} {w : World} (hl : le H H') (h : Sat (poolOf H' :: Γ) hF w) : Sat (Sl.poolGe H :: Γ) hF w := Sat.shut H' hl h
theorem Rd.poolGe {H hF : Hp} {b : Nat} {o : Obj} (i : Nat) (hi : Γ[i]? = some (Sl.poolGe H)) (hb : H b = some o) : Rd Γ hF b o := fun _ s => by
  obtain ⟨H', hl, hs⟩ := (s.perm (perm_eraseIdx hi)).opens
  exact hs.pool_le b o (hl b o hb)

/-! ### slices that may be read -/
/-- In this memory the slice v has n elements of sz cells: xs. -/
def rs (H : Hp) (v : Value) (n sz : Nat) (xs : List Value) : Prop := ∃ p c, v = .slice p n c ∧ n ≤ c ∧ xs.length = n * sz ∧ (0 < n → ∃ b o cs e fz, p = some ⟨b, o, none⟩ ∧ H b = some (.cells ⟨cs⟩ e fz) ∧ At cs o xs)
theorem rs.out {H : Hp} {v : Value} {n sz : Nat} {xs : List Value} (h : rs H v n sz xs) : ∃ p c, v = .slice p n c ∧ n ≤ c ∧ xs.length = n * sz ∧ (0 < n → ∃ b o cs e fz, p = some ⟨b, o, none⟩ ∧ H b = some (.cells ⟨cs⟩ e fz) ∧ At cs o xs) := h
theorem rs.mk {H : Hp} {p : Option Addr} {n c sz : Nat} {xs : List Value} (h1 : n ≤ c) (h2 : xs.length = n * sz) (h3 : 0 < n → ∃ b o cs e fz, p = some ⟨b, o, none⟩ ∧ H b = some (.cells ⟨cs⟩ e fz) ∧ At cs o xs) : rs H (.slice p n c) n sz xs := ⟨p, c, rfl, h1, h2, h3⟩
theorem rs.mono {H H' : Hp} {v : Value} {n sz : Nat} {xs : List Value} (h : rs H v n sz xs) (hl : le H H') : rs H' v n sz xs := by
  obtain ⟨p, c, h1, h2, h3, h4⟩ := h
  refine ⟨p, c, h1, h2, h3, fun h0 => ?_⟩
  obtain ⟨b, o, cs, e, fz, q1, q2, q3⟩ := h4 h0
  exact ⟨b, o, cs, e, fz, q1, hl _ _ q2, q3⟩
theorem rs.nil {H : Hp} {sz : Nat} : rs H (.slice none 0 0) 0 sz [] := ⟨none, 0, rfl, Nat.le_refl _, by simp, fun h => absurd h (by omega)⟩
theorem rs.zero {H : Hp} {sz c : Nat} {p : Option Addr} : rs H (.slice p 0 c) 0 sz [] := ⟨p, c, rfl, Nat.zero_le _, by simp, fun h => absurd h (by omega)⟩
theorem rs.len {H : Hp} {v : Value} {n sz : Nat} {xs : List Value} (h : rs H v n sz xs) : xs.length = n * sz := by obtain ⟨_, _, _, _, h, _⟩ := h; exact h
theorem rs.one {H : Hp} {v : Value} {n sz : Nat} {xs : List Value} (h : rs H v n sz xs) : v.oneCell' = true := by obtain ⟨_, _, rfl, _⟩ := h; rfl
theorem rs.cut {H : Hp} {p : Option Addr} {n c l sz : Nat} {xs : List Value} (h : rs H (.slice p n c) n sz xs) (hl : l ≤ n) : rs H (.slice (slAddr p c l sz) (n - l) (c - l)) (n - l) sz (xs.drop (l * sz)) := by
  obtain ⟨p', c', h1, h2, h3, h4⟩ := h
  cases h1
  refine ⟨_, _, rfl, by omega, by rw [List.length_drop, h3, Nat.sub_mul], fun h0 => ?_⟩
  obtain ⟨b, o, cs, e, fz, rfl, q2, q3⟩ := h4 (by omega)
  refine ⟨b, o + l * sz, cs, e, fz, ?_, q2, q3.drop⟩
  simp only [slAddr]
  rw [if_neg (by omega)]
  simp [Addr.add_mid]
theorem rs.take {H : Hp} {p : Option Addr} {n c m k sz : Nat} {xs : List Value} (h : rs H (.slice p n c) n sz xs) (hm : m ≤ n) (hk : m ≤ k) : rs H (.slice p m k) m sz (xs.take (m * sz)) := by
  obtain ⟨p', c', h1, h2, h3, h4⟩ := h
  cases h1
  refine ⟨_, _, rfl, hk, ?_, fun h0 => ?_⟩
  · rw [List.length_take, h3]; exact Nat.min_eq_left (Nat.mul_le_mul_right _ hm)
  · obtain ⟨b, o, cs, e, fz, rfl, q2, q3⟩ := h4 (by omega)
    refine ⟨b, o, cs, e, fz, rfl, q2, ?_⟩
    have := q3.sub (i := 0) (n := m * sz)
    simpa using this
theorem rs.ro {H : Hp} {v : Value} {n sz : Nat} {xs : List Value} (h : rs H v n sz xs) : Sl.ro H v n xs := by
  obtain ⟨p, c, h1, _, _, h4⟩ := h
  exact ⟨p, c, h1, h4⟩
/-- In every such memory. -/
def RS (Γ : List HProp) (hF : Hp) (v : Value) (n sz : Nat) (xs : List Value) : Prop := ∀ w, Sat Γ hF w → rs (mem w) v n sz xs
section RS
variable {hF H : Hp} {v : Value} {n sz : Nat} {xs : List Value}
theorem RS.pool (i : Nat) (hi : Γ[i]? = some (poolOf H)) (h : rs H v n sz xs) : RS Γ hF v n sz xs := fun _ s => h.mono (pool_le i hi s)
theorem RS.ro (h : rs hF v n sz xs) : RS Γ hF v n sz xs := fun _ ⟨_, _, _, c, _⟩ => h.mono c
theorem row_rs {k : Hp} {e : TypeId} (h : row v e sz n xs k) (hn : v = .slice none 0 0 → n = 0) : rs k v n sz xs := by
  obtain ⟨q, hs, hq, hh, hp, he⟩ := h
  cases q with
  | none =>
    obtain ⟨h1, h2, h3⟩ := hq
    subst h1 h2 h3
    exact rs.nil
  | some q =>
    obtain ⟨b, c, tail, fz⟩ := q
    obtain ⟨h1, h2, h3, h4, h5⟩ := hq
    subst h1
    match hs, hh with
    | [x], ⟨hx, _⟩ =>
      have hx : x = fun k => if k = b then some (.cells ⟨xs ++ tail⟩ e fz) else none := hx
      refine ⟨_, c, rfl, h2, h4, fun _ => ⟨b, 0, xs ++ tail, e, fz, rfl, ?_, At.front _ _⟩⟩
      rw [he b]
      simp [cup, hx]
theorem row_in {k H : Hp} {e : TypeId} {p : Option Addr} {c : Nat} (h : Sl.row (.slice p n c) e sz n xs k) (hl : le k H) : rs H (.slice p n c) n sz xs := (row_rs h (by intro e; cases e; rfl)).mono hl
theorem RS.row {e : TypeId} (i : Nat) (hi : Γ[i]? = some (row v e sz n xs)) : RS Γ hF v n sz xs := fun w s => by
  obtain ⟨k, hk, hle⟩ := (s.perm (perm_eraseIdx hi)).head
  refine (row_rs hk ?_).mono hle
  intro hv
  obtain ⟨q, hq, _⟩ := (s.perm (perm_eraseIdx hi)).opens
  cases q with
  | none => exact hq.2.1
  | some q => obtain ⟨b, c, tail, fz⟩ := q; rw [hq.1] at hv; cases hv
theorem RS.cut {p : Option Addr} {c l : Nat} (h : RS Γ hF (.slice p n c) n sz xs) (hl : l ≤ n) : RS Γ hF (.slice (slAddr p c l sz) (n - l) (c - l)) (n - l) sz (xs.drop (l * sz)) := fun w s => (h w s).cut hl
theorem RS.take {p : Option Addr} {c m k : Nat} (h : RS Γ hF (.slice p n c) n sz xs) (hm : m ≤ n) (hk : m ≤ k) : RS Γ hF (.slice p m k) m sz (xs.take (m * sz)) := fun w s => (h w s).take hm hk
theorem RS.src (h : RS Γ cx.hF v n sz xs) (h1 : ∀ u ∈ xs, u.oneCell' = true) (hl : xs.length = n * sz) (hv : ∃ p c, v = .slice p n c) : Src P cx Γ v n sz xs := by
  obtain ⟨p, c, rfl⟩ := hv
  refine ⟨fun w => by simp [Builtin.lenOf], fun w s => ?_, hl, h1⟩
  obtain ⟨p', c', e1, _, _, h4⟩ := h w s
  cases e1
  rcases Nat.eq_zero_or_pos n with h0 | h0
  · subst h0
    have : xs = [] := List.length_eq_zero_iff.1 (by omega)
    subst this
    exact (Src.none (P := P) (cx := cx) (Γ := Γ)).cells w s
  · obtain ⟨b, o, cs, e, fz, rfl, q2, q3⟩ := h4 h0
    simp only [Builtin.firstCells]
    rw [← hl]; exact run_loadCells_at q2 q3
theorem RS.weak {Γ' : List HProp} (h : RS Γ hF v n sz xs) (hg : ∀ w, Sat Γ' hF w → Sat Γ hF w) : RS Γ' hF v n sz xs := fun w s => h w (hg w s)
end RS

/-! ### cuts with a bound -/
section
variable {t e : TypeId} {x lo hi mx : Operand} {p : Option Addr} {n c sz by' : Nat} {l h m : Int} {kl kh km : IntKind} {r : Bool}
theorem Yt.slice_hm (tb : Tbl P) (ht : P.underlying t = some (.slice e)) (he : lookT tb.T e = some (sz, by', r)) (hx : ev cx fr x = some (.slice p n c)) (hh : ev cx fr hi = some (.int kh h)) (hm : ev cx fr mx = some (.int km m)) (hb : 0 ≤ h ∧ h ≤ m ∧ m ≤ c) :
    Yl P cx fr Γ (.slice t x none (some hi) (some mx)) ty (.slice p h.toNat m.toNat) := fun a w d pos af g st => by
  have h0 : ∀ q : Addr, q.add 0 = q := fun q => rfl
  have h1 : 0 ≤ m := by omega
  have h2 : h ≤ (m.toNat : Int) := by omega
  cases p <;> simp [execOp, Instr.sliceAt, Instr.slice, Instr.sliceBounds, Instr.sliceBound, asIntOf, st.eval hx, st.eval hh, st.eval hm, run_underlying ht, run_sizeOf (tb.t he).1, hb, h0, h1] <;> (intro hq; omega)

/-! ### an append that makes new memory -/
variable {d : Option Tmp} {pos : String} {af : Array Edge} {g : Option (Nat × Bool)} {y : Operand} {tx : TypeId} {k : Nat} {u : Value} {olds news zl : List Value}
theorem Gt.appendNew (tb : Tbl P) (hw : Wt cx ops fr g true) (ht : P.underlying t = some (.slice e)) (htx : appT P tx) (he : lookT tb.T e = some (sz, by', r)) (hz : inZ tb.Z e = true)
    (hx : ev cx fr x = some (.slice p n c)) (hy : ev cx fr y = some u) (hold : RS Γ cx.hF (.slice p n c) n sz olds) (hsrc : Src P cx Γ u k sz news) (hgrow : c < n + k) (hcap : (n + k) * by' ≤ 140737488355328) (h63 : n + k ≤ 9223372036854775807)
    (h : ∀ q cc, GK cx K (upd d (.slice q (n + k) cc) fr) (row (.slice q (n + k) cc) e sz (n + k) (olds ++ news) :: Γ)) : GO P cx ops Q ⟨d, .call ⟨.builtin .append, #[x, y], #[t, tx]⟩, ty, pos, af, g⟩ K fr Γ := by
  refine GO.effect hw (Φ := fun q Γ' => ∃ p' c', q = .slice p' (n + k) c' ∧ Γ' = row (.slice p' (n + k) c') e sz (n + k) (olds ++ news) :: Γ) (fun a w d pos af g st => ?_) ?_
  · obtain ⟨zl, hzl, hzz⟩ := tb.z he hz
    obtain ⟨i, hi, hsz⟩ := Option.map_eq_some_iff.1 (tb.t he).1
    obtain ⟨i', hi', hby⟩ := Option.map_eq_some_iff.1 (tb.t he).2.1
    rw [hi] at hi'; cases hi'
    obtain ⟨z, hzv, hzc⟩ := Option.map_eq_some_iff.1 hzl
    rw [hi] at hzv
    simp only [Option.bind_some] at hzv
    subst hsz hby
    have hol := (hold w st.heap).len
    have holds : (Builtin.firstCells i.size n (.slice p n c)).run P w.drew = .ok ⟨olds⟩ w.drew := by
      obtain ⟨p', c', e1, _, h3, h4⟩ := hold w st.heap
      cases e1
      rcases Nat.eq_zero_or_pos n with h0 | h0
      · subst h0
        have : olds = [] := List.length_eq_zero_iff.1 (by omega)
        subst this
        cases p <;> simp [Builtin.firstCells, loadCells, loadCellsFrom]
      · obtain ⟨b, o, cs, e', fz, rfl, q2, q3⟩ := h4 h0
        simp only [Builtin.firstCells]
        rw [← h3]; exact run_loadCells_at (w := w.drew) q2 q3
    have hcells' := hsrc.cells w.drew (st.heap.mono (le.refl _))
    have hzs : z.cells.size = i.size := by rw [← hzz, ← hzc]; simp
    have hr := run_append_grows (p := p) (n := n) (c := c) (tt := ty) ht htx hi hzv (hsrc.len w) hcells' holds (by omega) h63 (growslice_fits (by omega) hcap)
    have hge := grownCap_ge w (n + k) c e
    refine ⟨.slice (some ⟨w.heap.size, 0, none⟩) (n + k) (grownCap w (n + k) c e), w.drew.alloc (.cells ⟨olds ++ news ++ (Builtin.zeroCells z.cells (grownCap w (n + k) c e - (n + k))).toList⟩ e), _, .inl ?_, ⟨some ⟨w.heap.size, 0, none⟩, grownCap w (n + k) c e, rfl, rfl⟩, ?_, ⟨rfl, rfl, rfl, by simp⟩⟩
    · simp [execOp, resolve, invoke, builtin, st.eval hx, st.eval hy, hr]
    · exact Sat.row_blk hge (Nat.le_of_eq (by rw [Array.length_toList, size_zeroCells, hzs])) (by rw [List.length_append, hol, hsrc.size, Nat.add_mul]) free_zero ((st.heap.mono (le.refl _)).alloc _)
  · rintro q Γ' ⟨p', c', rfl, rfl⟩; exact h p' c'
end

/-! ### two that may come up -/
section
variable {fs : List Nat} {Δ : List HProp} {n : Nat} {done : Array Bool}
theorem GH.step2 (i j : Nat) {o o2 : Oper} (hi : ops[i]? = some o) (hj : ops[j]? = some o2) (hr : Region.ready .any ops done = [i, j])
    (h : GO P cx ops (NoPanic Q) o (KH P cx ops Q fs Δ n i (done.setIfInBounds i true)) fr Γ) (h2 : GO P cx ops (NoPanic Q) o2 (KH P cx ops Q fs Δ n j (done.setIfInBounds j true)) fr Γ) : GH P cx ops Q fs Δ (n + 1) done fr Γ := fun hcl a w s => by
  refine ⟨fun e => absurd (hr ▸ e) (by simp), fun k hk => ?_⟩
  have hc := hcl.set hk
  rw [hr] at hk
  simp at hk
  rcases hk with rfl | rfl
  · have := h a w s
    unfold Go.wpOpIn
    simp only [hi]
    split
    · rename_i e; simp only [e, if_true] at this
      exact Oper.wpIn_mono (fun a' w' k => k hc) this
    · rename_i e; simp only [e] at this; exact ⟨fun _ _ => trivial, this hc⟩
  · have := h2 a w s
    unfold Go.wpOpIn
    simp only [hj]
    split
    · rename_i e; simp only [e, if_true] at this
      exact Oper.wpIn_mono (fun a' w' k => k hc) this
    · rename_i e; simp only [e] at this; exact ⟨fun _ _ => trivial, this hc⟩
/-- Less is known. -/
theorem GH.weak {fr' : Fr} {Γ' : List HProp} (hf : Sub fr' fr) (hg : ∀ w, Sat Γ cx.hF w → Sat Γ' cx.hF w) (h : GH P cx ops Q fs Δ n done fr' Γ') : GH P cx ops Q fs Δ n done fr Γ := fun hcl => GK.weak hf hg (h hcl)
end
section
variable {p : Option Addr} {e n c sz : Nat} {xs : List Value}
theorem GK.rowCap (i : Nat) (hi : Γ[i]? = some (row (.slice p n c) e sz n xs)) (h : n ≤ c → xs.length = n * sz → GK cx K fr Γ) : GK cx K fr Γ := fun a w s => by
  obtain ⟨q, hq, _⟩ := (s.heap.perm (perm_eraseIdx hi)).opens
  cases q with
  | none => obtain ⟨h1, h2, h3⟩ := hq; cases h1; exact h (by omega) (by rw [h3]; simp) a w s
  | some q => obtain ⟨b', c', tail, fz⟩ := q; obtain ⟨h1, h2, h3, h4, h5⟩ := hq; cases h1; exact h h2 h4 a w s
end
end Go.Sl
