/- The engine, part J: arrays of bytes compared; rows that are made; what is copied. -/
import Derived.Test.YtabbonafljochaaGreatDoorEnI
import Derived.Stop.BytesEq
import Derived.Laws.MakeOwn
import Derived.Scope
namespace Go.Sl
variable {P : Program} {cx : Cx} {fr : Fr} {Γ : List HProp} {Q : Exit → Act → World → Prop} {ops : Array Oper} {ty : TypeId} {K : Act → World → Prop}

/-! ### a function with a label that is not jumped to -/
theorem G.scope {c : Code} (h : G P cx c (Exit.noGoto Q) fr Γ) (hro : cx.ro = none := by rfl) : G P cx (.scope c) Q fr Γ := fun a w s => by
  have h1 := h a w s
  rw [hro] at h1 ⊢
  exact (wpIn_wide (n := 0)).2 (wp_scope_straight ((wpIn_wide (n := 0)).1 h1))
theorem GQ.scope_normal (h : GQ cx Q .normal fr Γ) : GQ cx (Exit.noGoto Q) .normal fr Γ := fun a w s => h a w s
theorem GQ.scope_ret (h : GQ cx Q .ret fr Γ) : GQ cx (Exit.noGoto Q) .ret fr Γ := fun a w s => h a w s
theorem GQ.scope_exit {id : Nat} (h : GQ cx Q (.exit id) fr Γ) : GQ cx (Exit.noGoto Q) (.exit id) fr Γ := fun a w s => h a w s

/-! ### where a bool is known, but not by its form -/
theorem G.cond_t {c : Operand} {x y : Code} {b : Bool} (hc : ev cx fr c = some (.bool b)) (hb : b = true) (h : G P cx x Q fr Γ) : G P cx (.cond c x y) Q fr Γ := G.cond_true (by rw [hc, hb]) h
theorem G.cond_f {c : Operand} {x y : Code} {b : Bool} (hc : ev cx fr c = some (.bool b)) (hb : b = false) (h : G P cx y Q fr Γ) : G P cx (.cond c x y) Q fr Γ := G.cond_false (by rw [hc, hb]) h
theorem Yl.pick_t {c x y : Operand} {b : Bool} {v : Value} (hc : ev cx fr c = some (.bool b)) (hb : b = true) (h : ev cx fr x = some v) : Yl P cx fr Γ (.pick c x y) ty v := Yl.pick_true (by rw [hc, hb]) h
theorem Yl.pick_f {c x y : Operand} {b : Bool} {v : Value} (hc : ev cx fr c = some (.bool b)) (hb : b = false) (h : ev cx fr y = some v) : Yl P cx fr Γ (.pick c x y) ty v := Yl.pick_false (by rw [hc, hb]) h

/-! ### roads that meet -/
theorem G.cut {X : Type} (F : X → Fr) (M : X → List HProp) (I : X → Prop) {c : Code} {K : Act → World → Prop} (h2 : ∀ y, I y → GK cx K (F y) (M y))
    (h1 : G P cx c (Exit.then (fun a w => ∃ y, I y ∧ St cx (F y) (M y) a w) Q) fr Γ) : G P cx c (Exit.then K Q) fr Γ := fun a w s => by
  refine wpIn_mono (h1 a w s) fun e a w h => ?_
  cases e with
  | normal => obtain ⟨y, hy, st⟩ := h; exact h2 y hy a w st
  | _ => exact h
theorem GQ.reach {X : Type} {F : X → Fr} {M : X → List HProp} {I : X → Prop} (y : X) (hI : I y) (hf : Sub (F y) fr) (hg : ∀ w, Sat Γ cx.hF w → Sat (M y) cx.hF w) :
    GQ cx (Exit.then (fun a w => ∃ y, I y ∧ St cx (F y) (M y) a w) Q) .normal fr Γ := fun _ _ s => ⟨y, hI, s.weak hf hg⟩

/-! ### arrays of bytes -/
section eq
variable {x y : Operand} {tx tz e : TypeId} {n : Nat} {p q : List UInt8}
theorem run_equal_bytes {w : World} (ht : P.underlying tx = some (.array n e)) (he : P.underlying e = some (.int .u8)) (hs : tsize P e = some 1) (hp : p.length = n) (hq : q.length = n) :
    (Op.equal tx (.agg ⟨u8s p⟩) (.agg ⟨u8s q⟩)).run P w = .ok (p == q) w := by
  exact run_equalIn_bytes w 9998 tx e n ht he (fun w => run_sizeOf hs w) p q hp hq
theorem Yl.eql_bytes (ht : P.underlying tx = some (.array n e)) (he : P.underlying e = some (.int .u8)) (hs : tsize P e = some 1) (hm : P.eqGuardType P.depth tx = false)
    (hx : ev cx fr x = some (.agg ⟨u8s p⟩)) (hy : ev cx fr y = some (.agg ⟨u8s q⟩)) (hp : p.length = n) (hq : q.length = n) : Yl P cx fr Γ (.binOp .eql tx x y tz) ty (.bool (p == q)) := fun a w d pos af g s => by
  simp [execOp, s.eval hx, s.eval hy, run_eqGuard_agg w .eql tx x y ⟨u8s p⟩ ⟨u8s q⟩ hm, binOp, run_equal_bytes ht he hs hp hq]
theorem Yl.neq_bytes (ht : P.underlying tx = some (.array n e)) (he : P.underlying e = some (.int .u8)) (hs : tsize P e = some 1) (hm : P.eqGuardType P.depth tx = false)
    (hx : ev cx fr x = some (.agg ⟨u8s p⟩)) (hy : ev cx fr y = some (.agg ⟨u8s q⟩)) (hp : p.length = n) (hq : q.length = n) : Yl P cx fr Γ (.binOp .neq tx x y tz) ty (.bool (!(p == q))) := fun a w d pos af g s => by
  simp [execOp, s.eval hx, s.eval hy, run_eqGuard_agg w .neq tx x y ⟨u8s p⟩ ⟨u8s q⟩ hm, binOp, run_equal_bytes ht he hs hp hq]
end eq

theorem cons_one {v : Value} {l : List Value} (hv : v.oneCell' = true) (h : ∀ u ∈ l, u.oneCell' = true) : ∀ u ∈ v :: l, u.oneCell' = true := by
  intro u hu
  rcases List.mem_cons.1 hu with rfl | hu
  · exact hv
  · exact h u hu
/-! ### many chunks as one -/
def star (l : List HProp) : HProp := exs (fun _ : Unit => True) (fun _ => l)
section star
variable {A : HProp} {l : List HProp} {hF : Hp} {w : World} {i : Nat}
theorem Sat.star_mk (h : Sat (l ++ Γ) hF w) : Sat (star l :: Γ) hF w := Sat.shut () trivial h
theorem Sat.star_nil (h : Sat Γ hF w) : Sat (star [] :: Γ) hF w := Sat.star_mk h
theorem Sat.unstar (h : Sat (star l :: Γ) hF w) : Sat (l ++ Γ) hF w := by obtain ⟨_, _, h⟩ := h.opens; exact h
theorem Sat.star_push (h : Sat (A :: star l :: Γ) hF w) : Sat (star (l ++ [A]) :: Γ) hF w := by
  have h := (h.perm (.swap _ _ _)).unstar
  refine Sat.star_mk (h.perm ?_)
  rw [List.append_assoc]
  exact List.Perm.refl _
theorem Sat.star_pull (hi : l[i]? = some A) (h : Sat (star l :: Γ) hF w) : Sat (A :: star (l.eraseIdx i) :: Γ) hF w := by
  have h := h.unstar.perm ((perm_eraseIdx hi).append_right Γ)
  have h : Sat (l.eraseIdx i ++ A :: Γ) hF w := h.perm (by rw [List.cons_append]; exact List.perm_middle.symm)
  exact h.star_mk.perm (.swap _ _ _)
theorem Sat.star_put (hi : i < l.length) (h : Sat (A :: star (l.eraseIdx i) :: Γ) hF w) : Sat (star (l.set i A) :: Γ) hF w := by
  have h := (h.perm (.swap _ _ _)).unstar
  have hp := perm_eraseIdx (Γ := l.set i A) (i := i) (A := A) (by simp [hi])
  rw [List.eraseIdx_set_eq] at hp
  refine Sat.star_mk (h.perm ?_)
  have : (A :: l.eraseIdx i ++ Γ).Perm (l.set i A ++ Γ) := hp.symm.append_right Γ
  exact List.perm_middle.trans this
end star

/-! ### what is only read -/
/-- The slice v has n elements, which lie in what is only read: their cells. -/
def ro (hF : Hp) (v : Value) (n : Nat) (xs : List Value) : Prop := ∃ p c, v = .slice p n c ∧ (0 < n → ∃ b o cs e fz, p = some ⟨b, o, none⟩ ∧ hF b = some (.cells ⟨cs⟩ e fz) ∧ At cs o xs)
theorem ro.mono {hF hF' : Hp} {v : Value} {n : Nat} {xs : List Value} (h : ro hF v n xs) (hl : le hF hF') : ro hF' v n xs := by
  obtain ⟨p, c, h1, h2⟩ := h
  refine ⟨p, c, h1, fun hp => ?_⟩
  obtain ⟨b, o, cs, e, fz, q1, q2, q3⟩ := h2 hp
  exact ⟨b, o, cs, e, fz, q1, hl _ _ q2, q3⟩
def i64s (l : List Int) : List Value := l.map (.int .i64)
theorem At.i64 {cs : List Value} {o : Nat} {l : List Int} (h : At cs o (i64s l)) {i : Nat} {k : Int} (hk : l[i]? = some k) : cs[o + i * 1]? = some (.int .i64 k) := by
  rw [Nat.mul_one]; exact h i _ (by simp [i64s, hk])

theorem Has.opens {X : Type} {φ : X → Prop} {Λ : X → List HProp} {hF : Hp} (h : Has (exs φ Λ :: Γ) hF) : ∃ x, φ x ∧ Has (Λ x ++ Γ) hF := by
  obtain ⟨ls, h1, h2⟩ := h
  cases ls with
  | nil => exact h1.elim
  | cons y hs =>
    obtain ⟨⟨x, ks, hx, hk, hp, he⟩, h3⟩ := h1
    refine ⟨x, hx, ks ++ hs, hk.append h3, fun k hm => ?_⟩
    rcases List.mem_append.1 hm with hm | hm
    · intro b o hb
      refine h2 y (by simp) b o ?_
      rw [he]
      exact foldr_cup_le hp k hm b o hb
    · exact h2 k (by simp [hm])
theorem Has.perm {Γ' : List HProp} {hF : Hp} (p : Γ.Perm Γ') (h : Has Γ hF) : Has Γ' hF := by
  obtain ⟨ls, h1, h2⟩ := h
  obtain ⟨ms, h3, q⟩ := h1.perm p
  exact ⟨ms, h3, fun k hk => h2 k (q.mem_iff.2 hk)⟩
theorem Has.at {hF : Hp} {A : HProp} (i : Nat) (hi : Γ[i]? = some A) (h : Has Γ hF) : Has (A :: Γ.eraseIdx i) hF := h.perm (perm_eraseIdx hi)
theorem Has.ro {hF : Hp} {p : Option Addr} {n c sz : Nat} {e : TypeId} {xs : List Value} (i : Nat) (hi : Γ[i]? = some (row (.slice p n c) e sz n xs)) (h : Has Γ hF) : Sl.ro hF (.slice p n c) n xs := by
  obtain ⟨x, hx, h⟩ := (h.at i hi).opens
  cases x with
  | none => exact ⟨p, c, rfl, fun hp => by have := hx.2.1; omega⟩
  | some q =>
    obtain ⟨b, c', tail, fz⟩ := q
    obtain ⟨h2, h3, h4, h5, h6⟩ := hx
    cases h2
    exact ⟨_, c, rfl, fun _ => ⟨b, 0, _, e, fz, rfl, h.pt 0 rfl, At.front _ _⟩⟩
theorem Has.roBlk {hF : Hp} {b n c : Nat} {e : TypeId} {fz : Nat × Nat} {xs : List Value} (i : Nat) (hi : Γ[i]? = some (blk b e fz xs)) (h : Has Γ hF) : Sl.ro hF (.slice (some ⟨b, 0, none⟩) n c) n xs :=
  ⟨_, c, rfl, fun _ => ⟨b, 0, xs, e, fz, rfl, h.pt i hi, At.all _⟩⟩
/-- A row that is owned, as what is appended. -/
theorem Src.row {p : Option Addr} {n c sz : Nat} {e : TypeId} {xs : List Value} (i : Nat) (hi : Γ[i]? = some (row (.slice p n c) e sz n xs)) (hl : xs.length = n * sz) (h1 : ∀ u ∈ xs, u.oneCell' = true) : Src P cx Γ (.slice p n c) n sz xs := by
  refine ⟨fun w => by simp [Builtin.lenOf], fun w s => ?_, hl, h1⟩
  obtain ⟨x, hx, hs⟩ := (s.perm (perm_eraseIdx hi)).opens
  cases x with
  | none =>
    obtain ⟨h2, h3, h4⟩ := hx
    cases h2
    subst h4
    exact (Src.none (P := P) (cx := cx) (Γ := Γ)).cells w s
  | some q =>
    obtain ⟨b, c', tail, fz⟩ := q
    obtain ⟨h2, h3, h4, h5, h6⟩ := hx
    cases h2
    exact (Src.slice (P := P) (cx := cx) (Γ := blk b e fz (xs ++ tail) :: Γ.eraseIdx i) (Rd.blk 0 rfl) (At.front _ _) hl h1).cells w hs

theorem Yl.rowStr {ts td e : TypeId} {x : Operand} {p : Option Addr} {n c : Nat} {s : List UInt8} (i : Nat) (hs : P.underlying ts = some (.slice e)) (he : P.underlying e = some (.int .u8)) (hd : P.underlying td = some .string) (hx : ev cx fr x = some (.slice p n c))
    (hi : Γ[i]? = some (row (.slice p n c) e 1 n (u8s s))) : Yl P cx fr Γ (.convert ts td x) ty (str s) := fun a w d pos af g st => by
  obtain ⟨q, hq, h⟩ := (st.heap.perm (perm_eraseIdx hi)).opens
  cases q with
  | none =>
    obtain ⟨h2, h3, h4⟩ := hq
    cases h2
    have : s = [] := by cases s with
      | nil => rfl
      | cons => simp [u8s] at h4
    subst this
    exact Yl.nilStr hs he hd hx a w d pos af g st
  | some q =>
    obtain ⟨b, c', tail, fz⟩ := q
    obtain ⟨h2, h3, h4, h5, h6⟩ := hq
    cases h2
    exact Yl.bytesStr hs he hd hx (Rd.blk 0 rfl) (At.front _ _) (by rw [u8s_length] at h5; omega) a w d pos af g ⟨st.size, st.defers, st.slots, h, st.same⟩
theorem Yl.roStr {ts td e : TypeId} {x : Operand} {v : Value} {n : Nat} {s : List UInt8} (hs : P.underlying ts = some (.slice e)) (he : P.underlying e = some (.int .u8)) (hd : P.underlying td = some .string) (hx : ev cx fr x = some v)
    (hr : Sl.ro cx.hF v n (u8s s)) (hn : s.length = n) : Yl P cx fr Γ (.convert ts td x) ty (str s) := by
  obtain ⟨p, c, rfl, h⟩ := hr
  by_cases h0 : 0 < n
  · obtain ⟨b, o, cs, e', fz, rfl, h1, h2⟩ := h h0
    exact Yl.bytesStr hs he hd hx (Rd.ro h1) h2 hn
  · have hs0 : s = [] := List.length_eq_zero_iff.1 (by omega)
    have hn0 : n = 0 := by omega
    subst hs0; subst hn0
    cases p with
    | none => exact Yl.nilStr hs he hd hx
    | some a =>
      intro A w d pos af g st
      have h1 := run_bytesToString (P := P) w a 0 c [] (by simp [loadCells, loadCellsFrom])
      simp at h1
      simp [execOp, st.eval hx, run_convert_bytes_string w ts td e _ _ _ hs he hd, h1]
      rfl

/-! ### rows that are made -/
theorem made_flat (zl : List Value) (_ : 0 < zl.length) : ∀ n : Nat, (madeCells ⟨zl⟩ (n * zl.length)).toList = (List.replicate n zl).flatten := by
  intro n
  have key : ∀ n : Nat, (List.range (n * zl.length)).map (fun i => (⟨zl⟩ : Array Value)[i % zl.length]!) = (List.replicate n zl).flatten := by
    intro n
    induction n with
    | zero => simp
    | succ n ih =>
      rw [List.replicate_succ, List.flatten_cons, ← ih, show (n + 1) * zl.length = zl.length + n * zl.length from by rw [Nat.add_mul, Nat.one_mul, Nat.add_comm], List.range_add, List.map_append, List.map_map]
      congr 1
      · refine List.ext_getElem (by simp) fun i h1 h2 => ?_
        simp only [List.getElem_map, List.getElem_range]
        rw [Nat.mod_eq_of_lt h2]
        simp [h2]
      · refine List.map_congr_left fun i _ => ?_
        simp only [Function.comp_def, Nat.add_mod_left]
  rw [← key n]
  simp [madeCells, Array.toList_range]
section make
variable {d : Option Tmp} {pos : String} {af : Array Edge} {g : Option (Nat × Bool)} {x y : Operand} {t e : TypeId} {sz by' : Nat} {r : Bool} {zl : List Value} {kl kc : IntKind} {n c : Nat}
theorem Gt.makeSlice (tb : Tbl P) (hw : Wt cx ops fr g true) (ht : P.underlying t = some (.slice e)) (he : lookT tb.T e = some (sz, by', r)) (hz : zeroL P e = some zl) (hzl : zl.length = sz)
    (hx : ev cx fr x = some (.int kl n)) (hy : ev cx fr y = some (.int kc c)) (hnc : n ≤ c) (hb : by' * c ≤ 281474976710656) (h63 : c ≤ 9223372036854775807)
    (h : ∀ b, GK cx K (upd d (.slice (some ⟨b, 0, none⟩) n c) fr) (row (.slice (some ⟨b, 0, none⟩) n c) e sz n (List.replicate n zl).flatten :: Γ)) : GO P cx ops Q ⟨d, .makeSlice t x y, ty, pos, af, g⟩ K fr Γ := by
  refine GO.effect hw (Φ := fun u Γ' => ∃ b, u = .slice (some ⟨b, 0, none⟩) n c ∧ Γ' = row (.slice (some ⟨b, 0, none⟩) n c) e sz n (List.replicate n zl).flatten :: Γ) (fun a w d pos af g st => ?_) ?_
  · obtain ⟨i, hi, hsz, hby⟩ : ∃ i, P.info? e = some i ∧ i.size = sz ∧ i.bytes = by' := by
      obtain ⟨h1, h2, _⟩ := tb.t he
      obtain ⟨i, hi, h1⟩ := Option.map_eq_some_iff.1 h1
      obtain ⟨i', hi', h2⟩ := Option.map_eq_some_iff.1 h2
      rw [hi] at hi'; cases hi'
      exact ⟨i, hi, h1, h2⟩
    obtain ⟨z, hzz, hzc⟩ := Option.map_eq_some_iff.1 hz
    have hz2 : i.zero = some z := by simpa [hi] using hzz
    have hc : z.cells = ⟨zl⟩ := by simp [← hzc]
    have hbi : (i.bytes : Int) * (c : Int) ≤ 281474976710656 := by rw [hby, ← Int.natCast_mul]; omega
    have hrun := run_make (P := P) w t e i z ht hi hz2 kl kc n c (by omega) (by omega) hbi (by omega)
    refine ⟨.slice (some ⟨w.heap.size, 0, none⟩) n c, w.alloc (.cells (madeCells z.cells (c * i.size)) e), _, .inl ?_, ⟨w.heap.size, rfl, rfl⟩, ?_, .alloc _ _⟩
    · simp only [execOp, st.eval hx, st.eval hy]
      simp only [Sem.run_bind]
      rw [hrun]; rfl
    · have hcells : madeCells z.cells (c * i.size) = ⟨(List.replicate n zl).flatten ++ (List.replicate (c - n) zl).flatten⟩ := by
        rw [hc, hsz, ← hzl, ← List.flatten_append, List.replicate_append_replicate, show n + (c - n) = c from by omega]
        by_cases h0 : 0 < zl.length
        · exact Array.toList_inj.1 (made_flat zl h0 c)
        · have : zl = [] := List.length_eq_zero_iff.1 (by omega)
          subst this; simp [madeCells]
      rw [hcells]
      exact Sat.row_blk (fz := (0, 0)) hnc (by simp [hzl]) (by simp [hzl]) (by simp [free]) (st.heap.alloc _)
  · rintro v Γ' ⟨b, rfl, rfl⟩; exact h b
/-- A row stored over a whole block, whose length is known. -/
theorem Gt.storeAny (tb : Tbl P) (i : Nat) {ct : TypeId} {A l : List Value} {b : Nat} (hw : Wt cx ops fr g true) (hs : lookT tb.T t = some (sz, by', r)) (hx : ev cx fr x = some (.pointer (some ⟨b, 0, none⟩))) (hy : ev cx fr y = some (.agg ⟨A⟩)) (hz : A.length = sz)
    (h1 : ∀ u ∈ A, u.oneCell' = true) (hi : Γ[i]? = some (blk b ct (0, 0) l)) (hl : l.length = sz)
    (h : GK cx K (upd d undef fr) (Γ.set i (blk b ct (0, 0) A))) : GO P cx ops Q ⟨d, .store t x y, ty, pos, af, g⟩ K fr Γ := Gt.storeAll tb i hw hs hx hy hz h1 hi (hl.trans hz.symm) h
/-- A cell stored at a place that is known by its bounds alone. -/
theorem Gt.storeAt (tb : Tbl P) (i : Nat) {ct : TypeId} {l : List Value} {v : Value} {b o : Nat} {fz : Nat × Nat} (hw : Wt cx ops fr g true) (hs : lookT tb.T t = some (1, by', r)) (hx : ev cx fr x = some (.pointer (some ⟨b, o, none⟩))) (hy : ev cx fr y = some v)
    (h1 : v.oneCell' = true) (hi : Γ[i]? = some (blk b ct fz l)) (hlt : o < l.length) (hf : free fz o 1 = true)
    (h : GK cx K (upd d undef fr) (Γ.set i (blk b ct fz (l.set o v)))) : GO P cx ops Q ⟨d, .store t x y, ty, pos, af, g⟩ K fr Γ :=
  Gt.store tb i hw hs hx hy h1 hi (by simpa using hlt) hf rfl h
theorem free_row {fz : Nat × Nat} {n o : Nat} (h : free fz 0 n = true) (ho : o < n) : free fz o 1 = true := free_sub h (Nat.zero_le _) (by omega)

/-- Appended to an empty row. -/
theorem Gt.append0 (tb : Tbl P) {tx : TypeId} {v u : Value} {m : Nat} {news : List Value} (i : Nat) (hw : Wt cx ops fr g true) (ht : P.underlying t = some (.slice e)) (htx : appT P tx) (he : lookT tb.T e = some (sz, by', r)) (hz : inZ tb.Z e = true)
    (hx : ev cx fr x = some v) (hy : ev cx fr y = some u) (hi : Γ[i]? = some (row v e sz 0 [])) (hsrc : Src P cx Γ u m sz news) (hcap : m * by' ≤ 140737488355328) (h63 : m ≤ 9223372036854775807)
    (h : ∀ p c, GK cx K (upd d (.slice p m c) fr) (row (.slice p m c) e sz m news :: Γ.eraseIdx i)) : GO P cx ops Q ⟨d, .call ⟨.builtin .append, #[x, y], #[t, tx]⟩, ty, pos, af, g⟩ K fr Γ := by
  refine Gt.append tb i hw ht htx he hz hx hy hi hsrc (by rw [Nat.zero_add]; exact hcap) (by omega) fun p c => ?_
  rw [Nat.zero_add, List.nil_append]
  exact h p c
/-- What the memory's chunks say. -/
theorem GK.pure {φ : Prop} (h : ∀ w, Sat Γ cx.hF w → φ) (k : φ → GK cx K fr Γ) : GK cx K fr Γ := fun a w s => k (h w s.heap) a w s
/-- One of many byte slices, as a string. -/
theorem Yl.starStr {ts td e : TypeId} {x : Operand} {p : Option Addr} {n c : Nat} {s : List UInt8} {vs : List Value} {ls : List (List UInt8)} (i j : Nat) (hs : P.underlying ts = some (.slice e)) (he : P.underlying e = some (.int .u8)) (hd : P.underlying td = some .string) (hx : ev cx fr x = some (.slice p n c))
    (hi : Γ[i]? = some (star (List.zipWith (fun v l => row v e 1 l.length (u8s l)) vs ls))) (hv : vs[j]? = some (.slice p n c)) (hl : ls[j]? = some s) (hn : s.length = n) : Yl P cx fr Γ (.convert ts td x) ty (str s) := fun a w d pos af g st => by
  have h := Sat.star_pull (i := j) (A := row (.slice p n c) e 1 n (u8s s)) (by simp [List.getElem?_zipWith, hv, hl, hn]) (st.heap.perm (perm_eraseIdx hi))
  exact Yl.rowStr 0 hs he hd hx rfl a w d pos af g ⟨st.size, st.defers, st.slots, h, st.same⟩
theorem star_shape {e : TypeId} {vs : List Value} {ls : List (List UInt8)} {hF : Hp} {w : World} {i : Nat} (hi : Γ[i]? = some (star (List.zipWith (fun v l => row v e 1 l.length (u8s l)) vs ls))) (h : Sat Γ hF w) : ∀ (j : Nat) (v : Value) (s : List UInt8), vs[j]? = some v → ls[j]? = some s → ∃ p c, v = .slice p s.length c := fun j v s hv hl =>
  (row_len (Sat.star_pull (i := j) (A := row v e 1 s.length (u8s s)) (by simp [List.getElem?_zipWith, hv, hl]) (h.perm (perm_eraseIdx hi)))).1

/-- A literal of few cells. -/
theorem Gt.buildLit (tb : Tbl P) {parts : List (Nat × Operand)} {vs cells : List Value} {n : Nat} (hw : Wt cx ops fr g true) (ht : P.underlying t = some (.slice e)) (he : lookT tb.T e = some (sz + 1, by', r)) (hz : (zeroL P e).isSome = true) (hv : evs cx fr (parts.map (·.2)) = some vs)
    (hn : Nat.beq vs.length (n + 1) = true) (hi : parts.map (·.1) = List.range' 0 (n + 1)) (hs : (vs.all fun v => Nat.beq v.cells.size (sz + 1)) = true) (hsmall : Nat.ble ((n + 1) * (sz + 1)) 16777216 = true) (hcells : vs.flatMap (fun v => v.cells.toList) = cells)
    (h : ∀ b, GK cx K (upd d (.slice (some ⟨b, 0, none⟩) (n + 1) (n + 1)) fr) (blk b e (0, 0) cells :: Γ)) : GO P cx ops Q ⟨d, .buildSlice t (n + 1) parts.toArray, ty, pos, af, g⟩ K fr Γ :=
  Gt.buildAll tb hw ht he hz hv (Nat.eq_of_beq_eq_true hn) hi (fun v hv => Nat.eq_of_beq_eq_true (List.all_eq_true.1 hs v hv)) (Nat.le_of_ble_eq_true hsmall) hcells h
end make
theorem one_of_all {l : List Value} (h : l.all (·.oneCell') = true) : ∀ u ∈ l, u.oneCell' = true := List.all_eq_true.1 h
end Go.Sl
