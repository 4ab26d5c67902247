/- The evaluator, parts E Fa F G H I J. -/
import Derived.Test.YtabbonafljochaaGreatDoorEvD
set_option linter.unusedSimpArgs false
set_option linter.unusedVariables false
namespace Go.Ev
open Go.Sl
noncomputable section
variable {P : Program} {T : Tabs P} {c : Cn} {ρ : Env} {fr : Tr AV} {ds : List AD} {M : Mem} {nx : Nat} {a : Act} {w : World}

/-- The operation yields one of these, and k is content. -/
def Yes (P : Program) (ρ : Env) (a : Act) (W : World → Prop) (op : Op) (k : AV → Bool) : Prop := ∃ v r, ren ρ v = some r ∧ k v = true ∧ ∀ w, W w → ∀ ty, Yl P (cxA none a w (mem w)) (full a) [] op ty r
abbrev Rel (T : Tabs P) (c : Cn) (ρ : Env) (fr : Tr AV) (ds : List AD) (M : Mem) (nx : Nat) (a : Act) (w : World) : Prop := Rl T c ρ fr ds M nx a w

/-! ### a Sem that asks for nothing but the program -/
def prun (P : Program) {α : Type} (s : Sem α) : Option α :=
  Sem.rec (fun a => some a) (fun _ _ _ _ => none) (fun _ _ _ _ _ => none) (fun _ _ _ => none) (fun _ _ _ => none) (fun _ _ _ _ => none) (fun _ _ _ => none) (fun _ _ _ => none) (fun _ _ _ _ => none) (fun _ _ _ => none) (fun _ _ _ => none) (fun _ ih => ih P) (fun _ _ ih => ih) (fun _ => none) s
theorem prun_run {α : Type} : ∀ {s : Sem α} {x : α}, prun P s = some x → ∀ w, s.run P w = .ok x w
  | .pure a, x, h, w => by cases h; rfl
  | .load _ _ _, x, h, w => by cases h
  | .store _ _ _ _, x, h, w => by cases h
  | .new _ _, x, h, w => by cases h
  | .shape _ _, x, h, w => by cases h
  | .freeze _ _ _, x, h, w => by cases h
  | .frozen _ _, x, h, w => by cases h
  | .getObj _ _, x, h, w => by cases h
  | .setObj _ _ _, x, h, w => by cases h
  | .choose _ _, x, h, w => by cases h
  | .sys _ _, x, h, w => by cases h
  | .program k, x, h, w => prun_run (s := k P) h w
  | .mark _ k, x, h, w => prun_run (s := k) h w
  | .halt _, x, h, w => by cases h
/-- A plain result as one of ours, whole. -/
def plainK (v : Value) (k : AV → Bool) : Bool := constK v k

/-! ### moves -/
theorem moveK {x : Operand} {k : AV → Bool} (h : argK T fr x k = true) (s : Rel T c ρ fr ds M nx a w) : Yes P ρ a (fun _ => True) (.move x) k := by
  obtain ⟨v, r, h1, h2⟩ := argK_spec h s
  exact ⟨v, r, h1.ren, h2, fun _ _ _ => Yl.move (h1.ev _ _ _)⟩
theorem assignK {x : Operand} {k : AV → Bool} (h : argK T fr x k = true) (s : Rel T c ρ fr ds M nx a w) : Yes P ρ a (fun _ => True) (.assign x) k := by
  obtain ⟨v, r, h1, h2⟩ := argK_spec h s
  exact ⟨v, r, h1.ren, h2, fun _ _ _ => Yl.assign (h1.ev _ _ _)⟩
def pickK (T : Tabs P) (fr : Tr AV) (c x y : Operand) (k : AV → Bool) : Bool := argK T fr c fun v => match v with
  | .bool b => Bool.rec (argK T fr y k) (argK T fr x k) b
  | _ => false
theorem pickK_spec {q x y : Operand} {k : AV → Bool} (h : pickK T fr q x y k = true) (s : Rel T c ρ fr ds M nx a w) : Yes P ρ a (fun _ => True) (.pick q x y) k := by
  obtain ⟨v, r, h1, h2⟩ := argK_spec h s
  split at h2
  · rename_i b
    have e : r = .bool b := by simpa [ren] using h1.ren.symm
    subst e
    cases b with
    | false =>
      obtain ⟨v', r', h3, h4⟩ := argK_spec h2 s
      exact ⟨v', r', h3.ren, h4, fun _ _ _ => Yl.pick_false (h1.ev _ _ _) (h3.ev _ _ _)⟩
    | true =>
      obtain ⟨v', r', h3, h4⟩ := argK_spec h2 s
      exact ⟨v', r', h3.ren, h4, fun _ _ _ => Yl.pick_true (h1.ev _ _ _) (h3.ev _ _ _)⟩
  · cases h2
def nilCheckK (T : Tabs P) (fr : Tr AV) (x : Operand) (k : AV → Bool) : Bool := argK T fr x fun v => match v with
  | .ptr i o => k (.ptr i o)
  | .fn (.func f) xs ys => k (.fn (.func f) xs ys)
  | .fn (.via t p f b) xs ys => k (.fn (.via t p f b) xs ys)
  | .iface t v => k (.iface t v)
  | .yl i => k (.yl i)
  | _ => false
theorem nilCheckK_spec {x : Operand} {k : AV → Bool} (h : nilCheckK T fr x k = true) (s : Rel T c ρ fr ds M nx a w) : Yes P ρ a (fun _ => True) (.nilCheck x) k := by
  obtain ⟨v, r, h1, h2⟩ := argK_spec h s
  split at h2
  · have e := h1.ren
    simp only [ren, Option.map_eq_some_iff] at e
    obtain ⟨e', he, rfl⟩ := e
    exact ⟨_, _, h1.ren, h2, fun _ _ _ => Yl.nilCheck (h1.ev _ _ _)⟩
  · have e := h1.ren
    simp only [ren, Option.bind_eq_some_iff, Option.map_eq_some_iff] at e
    obtain ⟨u, _, v, _, rfl⟩ := e
    exact ⟨_, _, h1.ren, h2, fun _ _ _ => Yl.nilCheck_func (h1.ev _ _ _)⟩
  · have e := h1.ren
    simp only [ren, Option.bind_eq_some_iff, Option.map_eq_some_iff] at e
    obtain ⟨u, _, v, _, rfl⟩ := e
    exact ⟨_, _, h1.ren, h2, fun _ _ _ => fun a w d pos af g s => by simp [execOp, s.eval (h1.ev _ _ _)]⟩
  · have e := h1.ren
    simp only [ren, Option.map_eq_some_iff] at e
    obtain ⟨u, _, rfl⟩ := e
    exact ⟨_, _, h1.ren, h2, fun _ _ _ => fun a w d pos af g s => by simp [execOp, s.eval (h1.ev _ _ _)]⟩
  · have e := h1.ren
    simp only [ren, Option.map_eq_some_iff] at e
    obtain ⟨u, _, rfl⟩ := e
    exact ⟨_, _, h1.ren, h2, fun _ _ _ => fun a w d pos af g s => by simp [execOp, yv, s.eval (h1.ev _ _ _)]⟩
  · cases h2

/-! ### addresses -/
def fieldAddrK (T : Tabs P) (fr : Tr AV) (s : TypeId) (x : Operand) (f : Nat) (k : AV → Bool) : Bool := argK T fr x fun v => match v with
  | .ptr i o => Option.rec false (fun r => match r with
    | ⟨.st fs, _, _⟩ => Option.rec false (fun q => match q with
      | (off, _, z + 1) => forceN (Nat.add o off) fun o' => k (.ptr i o')
      | _ => false) (nth fs f)
    | _ => false) (T.T s)
  | _ => false
theorem fieldAddrK_spec {t : TypeId} {x : Operand} {f : Nat} {k : AV → Bool} (h : fieldAddrK T fr t x f k = true) (s : Rel T c ρ fr ds M nx a w) : Yes P ρ a (fun _ => True) (.fieldAddr t x f) k := by
  obtain ⟨v, r, h1, h2⟩ := argK_spec h s
  split at h2
  · rename_i i o
    obtain ⟨row, h3, h2⟩ := opt_rec h2
    split at h2
    · rename_i fs _ _
      obtain ⟨q, h4, h2⟩ := opt_rec h2
      split at h2
      · rename_i off u z
        rw [forceN_eq] at h2
        rw [nth_eq] at h4
        obtain ⟨_, _, _, h5⟩ := (T.okT _ _ h3).td
        obtain ⟨h6, h7⟩ := h5 f off u (z + 1) h4
        have e := h1.ren
        simp only [ren, Option.map_eq_some_iff] at e
        obtain ⟨e', he, rfl⟩ := e
        refine ⟨_, .pointer (some ⟨e'.1, e'.2.1 + (o + off), none⟩), by simp [ren, he], h2, fun w _ ty => ?_⟩
        have := Yl.fieldAddr (P := P) (ty := ty) h6 h7 (h1.ev none w (mem w)) (Γ := [])
        rw [Nat.add_assoc] at this
        exact this
      · cases h2
    · cases h2
  · cases h2
def indexAddrK (T : Tabs P) (fr : Tr AV) (t : TypeId) (x y : Operand) (k : AV → Bool) : Bool := argK T fr x fun v => argK T fr y fun u => match u with
  | .int _ (.ofNat j) => Option.rec false (fun r => match r with
    | ⟨.sl e, _, _⟩ => (match v with
      | .sl i o n _ _ => Option.rec false (fun q => both (Nat.blt j n) (forceN (Nat.add o (Nat.mul j q.size)) fun o' => k (.ptr i o'))) (T.T e)
      | _ => false)
    | ⟨.arr n e, _, _⟩ => (match v with
      | .ptr i o => Option.rec false (fun q => both (Nat.blt j n) (forceN (Nat.add o (Nat.mul j q.size)) fun o' => k (.ptr i o'))) (T.T e)
      | _ => false)
    | _ => false) (T.T t)
  | _ => false
theorem indexAddrK_spec {t : TypeId} {x y : Operand} {k : AV → Bool} (h : indexAddrK T fr t x y k = true) (s : Rel T c ρ fr ds M nx a w) : Yes P ρ a (fun _ => True) (.indexAddr t x y) k := by
  obtain ⟨v, r, h1, h2⟩ := argK_spec h s
  obtain ⟨u, r', h3, g2⟩ := argK_spec h2 s
  clear h2 h
  split at g2
  · rename_i kd j
    obtain rfl : r' = .int kd (.ofNat j) := by simpa [ren] using h3.ren.symm
    obtain ⟨row, h4, g3⟩ := opt_rec g2
    clear g2
    have hrow := (T.okT _ _ h4).td
    split at g3
    · rename_i e _ _
      split at g3
      case h_2 => cases g3
      rename_i i o n c' sb
      obtain ⟨q, h5, h2⟩ := opt_rec g3
      obtain ⟨hlt, h2⟩ := both_eq.1 h2
      rw [forceN_eq] at h2
      rw [Nat.blt_eq] at hlt
      have e := h1.ren
      simp only [ren, Option.map_eq_some_iff] at e
      obtain ⟨e', he, rfl⟩ := e
      refine ⟨_, .pointer (some ⟨e'.1, e'.2.1 + (o + j * q.size), none⟩), by simp [ren, he], h2, fun w _ ty => ?_⟩
      have := Yl.indexAddr (P := P) (ty := ty) hrow (T.okT _ _ h5).size (h1.ev none w (mem w)) (h3.ev none w (mem w)) (Γ := []) ⟨by simp, by simpa using hlt⟩
      rw [Nat.add_assoc] at this
      simpa using this
    · rename_i n e _ _
      split at g3
      case h_2 => cases g3
      rename_i i o
      obtain ⟨q, h5, h2⟩ := opt_rec g3
      obtain ⟨hlt, h2⟩ := both_eq.1 h2
      rw [forceN_eq] at h2
      rw [Nat.blt_eq] at hlt
      have e := h1.ren
      simp only [ren, Option.map_eq_some_iff] at e
      obtain ⟨e', he, rfl⟩ := e
      refine ⟨_, .pointer (some ⟨e'.1, e'.2.1 + (o + j * q.size), none⟩), by simp [ren, he], h2, fun w _ ty => ?_⟩
      have := Yl.indexAddr_arr (P := P) (ty := ty) hrow (T.okT _ _ h5).size (h1.ev none w (mem w)) (h3.ev none w (mem w)) (Γ := []) ⟨by simp, by simpa using hlt⟩
      rw [Nat.add_assoc] at this
      simpa using this
    · cases g3
  · cases g2

/-! ### reading -/
/-- Of cells: one, or a row. -/
def cutK (T : Tabs P) (t : TypeId) (l : List AV) (o : Nat) (k : AV → Bool) : Bool :=
  Option.rec false (fun r => Option.rec false (fun b => Bool.rec (Option.rec false k (nth l o)) (splitL l o fun _ y => splitL y r.size fun A _ => k (.agg A)) b) r.td.row) (T.T t)
theorem cutK_spec {t : TypeId} {l : List AV} {o : Nat} {k : AV → Bool} (h : cutK T t l o k = true) {vs : List Value} (hl : RL ρ l vs) :
    (∃ v r, isRow P t = some false ∧ vs[o]? = some r ∧ ren ρ v = some r ∧ k v = true) ∨ (∃ A B, isRow P t = some true ∧ tsize P t = some B.length ∧ (vs.drop o).take B.length = B ∧ At vs o B ∧ RL ρ A B ∧ k (.agg A) = true) := by
  obtain ⟨row, h1, h⟩ := opt_rec h
  obtain ⟨b, h2, h⟩ := opt_rec h
  have hr := (T.okT _ _ h1).td.row h2
  cases b with
  | false =>
    obtain ⟨v, h3, h⟩ := opt_rec h
    rw [nth_eq] at h3
    obtain ⟨r, h4, h5⟩ := hl.get h3
    exact .inl ⟨v, r, hr, h4, h5, h⟩
  | true =>
    obtain ⟨h3, h⟩ := splitL_spec h
    obtain ⟨h4, h⟩ := splitL_spec h
    have hA := (hl.drop o).take row.size
    have hlen := hA.length
    rw [List.length_take_of_le h4] at hlen
    refine .inr ⟨_, _, hr, ?_, ?_, ?_, hA, h⟩
    · rw [hlen]; exact (T.okT _ _ h1).size
    · rw [hlen]
    · exact At.of_take rfl
def loadK (T : Tabs P) (fr : Tr AV) (M : Mem) (t : TypeId) (x : Operand) (k : AV → Bool) : Bool := argK T fr x fun v => match v with
  | .ptr i o => Option.rec false (fun ck => Option.rec false (fun l => cutK T t l o k) ck.cells) (M.get i)
  | _ => false
theorem loadK_spec {t : TypeId} {x : Operand} {k : AV → Bool} (h : loadK T fr M t x k = true) (s : Rel T c ρ fr ds M nx a w) : Yes P ρ a (· = w) (.load t x) k := by
  obtain ⟨v, r, h1, h2⟩ := argK_spec h s
  split at h2
  · rename_i i o
    obtain ⟨ck, h3, h2⟩ := opt_rec h2
    obtain ⟨l, h4, h2⟩ := opt_rec h2
    obtain ⟨e, cs, t', fz, vs, he, hb, hl, hA⟩ := s.rep.cells h3 h4
    have e' := h1.ren
    simp only [ren, he, Option.map_some, Option.some.injEq] at e'
    subst e'
    have hrd : Rd [] (cxA none a w (mem w)).hF e.1 (.cells ⟨cs⟩ t' fz) := Rd.ro hb
    rcases cutK_spec h2 hl with ⟨v, r, q1, q2, q3, q4⟩ | ⟨A, B, q1, q2, q3, q4, q5, q6⟩
    · exact ⟨v, r, q3, q4, fun _ hw _ => by subst hw; exact Yl.load q1 (h1.ev _ _ _) hrd (hA _ _ q2)⟩
    · refine ⟨.agg A, .agg ⟨B⟩, by simp [ren, show renL ρ A = some B from q5], q6, fun w' hw _ => ?_⟩
      subst hw
      refine Yl.loadRow q1 q2 (h1.ev _ _ _) hrd ?_
      intro j u hj
      have := hA _ _ (q4 j u hj)
      rwa [← Nat.add_assoc] at this
  · cases h2
def fieldK (T : Tabs P) (fr : Tr AV) (t : TypeId) (x : Operand) (f : Nat) (k : AV → Bool) : Bool := argK T fr x fun v => match v with
  | .agg l => Option.rec false (fun r => match r with
    | ⟨.st fs, _, _⟩ => Option.rec false (fun q => match q with
      | (off, u, _) => cutK T u l off k) (nth fs f)
    | _ => false) (T.T t)
  | _ => false
theorem fieldK_spec {t : TypeId} {x : Operand} {f : Nat} {k : AV → Bool} (h : fieldK T fr t x f k = true) (s : Rel T c ρ fr ds M nx a w) : Yes P ρ a (fun _ => True) (.field t x f) k := by
  obtain ⟨v, r, h1, h2⟩ := argK_spec h s
  split at h2
  · rename_i l
    obtain ⟨row, h3, h2⟩ := opt_rec h2
    split at h2
    · rename_i fs _ _
      obtain ⟨q, h4, h2⟩ := opt_rec h2
      split at h2
      rename_i off u z
      rw [nth_eq] at h4
      obtain ⟨_, _, _, h5⟩ := (T.okT _ _ h3).td
      obtain ⟨h6, h7⟩ := h5 f off u z h4
      have e := h1.ren
      simp only [ren, Option.map_eq_some_iff] at e
      obtain ⟨vs, hl, rfl⟩ := e
      rcases cutK_spec (ρ := ρ) h2 (vs := vs) hl with ⟨v, r, q1, q2, q3, q4⟩ | ⟨A, B, q1, q2, q3, q4, q5, q6⟩
      · exact ⟨v, r, q3, q4, fun _ _ _ => Yl.field h6 q1 (h1.ev _ _ _) q2⟩
      · exact ⟨.agg A, .agg ⟨B⟩, by simp [ren, show renL ρ A = some B from q5], q6, fun _ _ _ => Yl.fieldRow h6 q1 q2 (h1.ev _ _ _) q3⟩
    · cases h2
  · cases h2
theorem Yl.index_arrRow {cx : Cx} {fr : Fr} {Γ : List HProp} {ty : TypeId} {t e : TypeId} {x y : Operand} {i : Int} {k : IntKind} {n sz : Nat} {l A : List Value} (ht : P.underlying t = some (.array n e)) (hr : isRow P e = some true) (hs : tsize P e = some sz) (hx : Sl.ev cx fr x = some (.agg ⟨l⟩)) (hy : Sl.ev cx fr y = some (.int k i)) (h : 0 ≤ i ∧ i < n) (hv : (l.drop (i.toNat * sz)).take sz = A) :
    Yl P cx fr Γ (.index t x y) ty (.agg ⟨A⟩) := fun a w d pos af g st => by
  subst hv
  simp [execOp, Instr.index, part, st.eval hx, st.eval hy, asIntOf, run_underlying ht, h, Sl.run_sizeOf hs, Sl.run_isAgg hr, List.extract_eq_take_drop]
def indexK (T : Tabs P) (fr : Tr AV) (t : TypeId) (x y : Operand) (k : AV → Bool) : Bool := argK T fr x fun v => argK T fr y fun u => match u with
  | .int _ (.ofNat j) => Option.rec false (fun r => match r with
    | ⟨.arr n e, _, _⟩ => (match v with
      | .agg l => Option.rec false (fun q => both (Nat.blt j n) (forceN (Nat.mul j q.size) fun o => cutK T e l o k)) (T.T e)
      | _ => false)
    | ⟨.str, _, _⟩ => (match v with
      | .str l => Option.rec false (fun b => k (.int .u8 (.ofNat b))) (nth l j)
      | _ => false)
    | _ => false) (T.T t)
  | _ => false
theorem u8_ofNat {n : Nat} (h : n < 256) : (UInt8.ofNat n).toNat = n := by simp; omega
theorem small_get {l : List Nat} (h : small l = true) {i n : Nat} (hi : l[i]? = some n) : n < 256 := by
  have := List.all_eq_true.1 h n (List.mem_of_getElem? hi)
  simpa [Nat.blt_eq] using this
theorem ren_str {l : List Nat} {r : Value} (h : ren ρ (.str l) = some r) : small l = true ∧ r = strV l := by
  unfold ren at h
  split at h
  · rename_i hs; cases h; exact ⟨hs, rfl⟩
  · cases h
theorem indexK_spec {t : TypeId} {x y : Operand} {k : AV → Bool} (h : indexK T fr t x y k = true) (s : Rel T c ρ fr ds M nx a w) : Yes P ρ a (fun _ => True) (.index t x y) k := by
  obtain ⟨v, r, h1, h2⟩ := argK_spec h s
  obtain ⟨u, r', h3, g2⟩ := argK_spec h2 s
  clear h2 h
  split at g2
  · rename_i kd j
    obtain rfl : r' = .int kd (.ofNat j) := by simpa [ren] using h3.ren.symm
    obtain ⟨row, h4, g3⟩ := opt_rec g2
    clear g2
    have hrow := (T.okT _ _ h4).td
    split at g3
    · rename_i n e _ _
      split at g3
      case h_2 => cases g3
      rename_i l
      obtain ⟨q, h5, h2⟩ := opt_rec g3
      obtain ⟨hlt, h2⟩ := both_eq.1 h2
      rw [forceN_eq] at h2
      rw [Nat.blt_eq] at hlt
      have e' := h1.ren
      simp only [ren, Option.map_eq_some_iff] at e'
      obtain ⟨vs, hl, rfl⟩ := e'
      have hq := (T.okT _ _ h5).size
      rcases cutK_spec (ρ := ρ) h2 (vs := vs) hl with ⟨v, r, q1, q2, q3, q4⟩ | ⟨A, B, q1, q2, q3, q4, q5, q6⟩
      · exact ⟨v, r, q3, q4, fun _ _ _ => Yl.index_arr hrow q1 hq (h1.ev _ _ _) (h3.ev _ _ _) ⟨by simp, by simpa using hlt⟩ (by simpa using q2)⟩
      · rw [hq] at q2
        obtain q2 : q.size = B.length := by simpa using q2
        exact ⟨.agg A, .agg ⟨B⟩, by simp [ren, show renL ρ A = some B from q5], q6, fun _ _ _ => Yl.index_arrRow hrow q1 hq (h1.ev _ _ _) (h3.ev _ _ _) ⟨by simp, by simpa using hlt⟩ (by rw [q2]; rw [q2] at q3; simpa using q3)⟩
    · split at g3
      case h_2 => cases g3
      rename_i l
      obtain ⟨b, h5, h2⟩ := opt_rec g3
      rw [nth_eq] at h5
      obtain ⟨hs, rfl⟩ := ren_str h1.ren
      refine ⟨_, _, rfl, h2, fun w _ ty => ?_⟩
      have := Yl.index_str (P := P) (ty := ty) (c := UInt8.ofNat b) hrow (h1.ev none w (mem w)) (h3.ev none w (mem w)) (Γ := []) (by simp) (by simp [h5])
      rw [u8_ofNat (small_get hs h5)] at this
      exact this
    · cases g3
  · cases g2
def extractK (T : Tabs P) (fr : Tr AV) (x : Operand) (i : Nat) (k : AV → Bool) : Bool := argK T fr x fun v => match v with
  | .tup l => Option.rec false k (nth l i)
  | _ => false
theorem extractK_spec {x : Operand} {i : Nat} {k : AV → Bool} (h : extractK T fr x i k = true) (s : Rel T c ρ fr ds M nx a w) : Yes P ρ a (fun _ => True) (.extract x i) k := by
  obtain ⟨v, r, h1, h2⟩ := argK_spec h s
  split at h2
  · rename_i l
    obtain ⟨u, h3, h2⟩ := opt_rec h2
    rw [nth_eq] at h3
    have e := h1.ren
    simp only [ren, Option.map_eq_some_iff] at e
    obtain ⟨vs, hl, rfl⟩ := e
    obtain ⟨r, h4, h5⟩ := RL.get (ρ := ρ) hl h3
    exact ⟨u, r, h5, h2, fun _ _ _ => Yl.extract (h1.ev _ _ _) (by simpa using h4)⟩
  · cases h2
def arrPtrK (T : Tabs P) (fr : Tr AV) (t : TypeId) (x : Operand) (k : AV → Bool) : Bool := argK T fr x fun v => match v with
  | .sl i o m _ _ => Option.rec false (fun r => match r with
    | ⟨.arr n _, _, _⟩ => both (Nat.ble n m) (k (.ptr i o))
    | _ => false) (T.T t)
  | _ => false
theorem arrPtrK_spec {t : TypeId} {x : Operand} {k : AV → Bool} (h : arrPtrK T fr t x k = true) (s : Rel T c ρ fr ds M nx a w) : Yes P ρ a (fun _ => True) (.sliceToArrayPointer t x) k := by
  obtain ⟨v, r, h1, h2⟩ := argK_spec h s
  split at h2
  · rename_i i o m cc sb
    obtain ⟨⟨d, z, b⟩, h3, h2⟩ := opt_rec h2
    have hrow := (T.okT _ _ h3).td
    cases d <;> try (cases h2; done)
    rename_i n e
    obtain ⟨h4, h2⟩ := both_eq.1 h2
    have e1 := h1.ren
    simp only [ren, Option.map_eq_some_iff] at e1
    obtain ⟨e', he, rfl⟩ := e1
    exact ⟨.ptr i o, .pointer (some ⟨e'.1, e'.2.1 + o, none⟩), by simp [ren, he], h2, fun _ _ _ => Yt.arrayPtr hrow (h1.ev _ _ _) (Nat.le_of_ble_eq_true h4)⟩
  · cases h2
end
end Go.Ev
set_option linter.unusedSimpArgs false
set_option linter.unusedVariables false
namespace Go.Ev
open Go.Sl
noncomputable section
/-- Numbers below this are kept by a kind. -/
def capN (k : IntKind) : Nat := IntKind.rec (motive := fun _ => Nat) 128 32768 2147483648 9223372036854775808 256 65536 4294967296 18446744073709551616 k
/-- What a kind without sign counts by; 0: it has one. -/
def modN (k : IntKind) : Nat := IntKind.rec (motive := fun _ => Nat) 0 0 0 0 256 65536 4294967296 18446744073709551616 k
def bitN (k : IntKind) : Nat := IntKind.rec (motive := fun _ => Nat) 8 16 32 64 8 16 32 64 k
def kindN (k : IntKind) : Nat := IntKind.rec (motive := fun _ => Nat) 0 1 2 3 4 5 6 7 k
theorem kindN_inj {j k : IntKind} (h : Nat.beq (kindN j) (kindN k) = true) : j = k := by cases j <;> cases k <;> first | rfl | cases h
theorem wrap_small {k : IntKind} {s : Nat} (h : s < capN k) : k.wrap (.ofNat s) = .ofNat s := by
  have e : (Int.ofNat s) = (s : Int) := rfl
  rw [e]
  cases k <;> simp only [capN] at h <;> unfold IntKind.wrap <;> simp only [IntKind.bits, IntKind.signed, Bool.true_and, Bool.false_and, decide_eq_true_eq, Bool.false_eq_true, if_false, Nat.reduceSub, Int.reducePow] <;> first | omega | (rw [if_neg (fun q => by have := of_decide_eq_true q; omega)]; omega)
theorem wrap_mod {k : IntKind} {s : Nat} (h : modN k ≠ 0) : k.wrap (.ofNat s) = .ofNat (Nat.mod s (modN k)) := by
  have e : (Int.ofNat s) = (s : Int) := rfl
  have e2 : ∀ n, (Int.ofNat n) = (n : Int) := fun _ => rfl
  rw [e, e2]
  cases k <;> simp only [modN] at h ⊢ <;> first | exact absurd rfl h | skip
  all_goals unfold IntKind.wrap; simp only [IntKind.bits, IntKind.signed, Bool.false_and, Bool.false_eq_true, if_false]; show _ = ((s % _ : Nat) : Int); omega
def wrapK (kd : IntKind) (s : Nat) (k : AV → Bool) (other : Bool) : Bool := forceN s fun s => Bool.rec (Nat.rec other (fun _ _ => forceN (Nat.mod s (modN kd)) fun r => k (.int kd (.ofNat r))) (modN kd)) (k (.int kd (.ofNat s))) (Nat.blt s (capN kd))
theorem wrapK_spec {kd : IntKind} {s : Nat} {k : AV → Bool} {other : Bool} (h : wrapK kd s k other = true) : other = true ∨ ∃ r, kd.wrap (.ofNat s) = .ofNat r ∧ k (.int kd (.ofNat r)) = true := by
  unfold wrapK at h
  rw [forceN_eq] at h
  cases q : Nat.blt s (capN kd) with
  | true => rw [q] at h; rw [Nat.blt_eq] at q; exact .inr ⟨s, wrap_small q, h⟩
  | false =>
    rw [q] at h
    have h : (Nat.rec other (fun _ _ => forceN (Nat.mod s (modN kd)) fun r => k (.int kd (.ofNat r))) (modN kd) : Bool) = true := h
    cases e : modN kd with
    | zero => rw [e] at h; exact .inl h
    | succ n =>
      rw [e] at h
      have h : (forceN (Nat.mod s (n + 1)) fun r => k (.int kd (.ofNat r))) = true := h
      rw [forceN_eq] at h
      exact .inr ⟨_, by rw [wrap_mod (by rw [e]; simp), e], h⟩
def inK (kd : IntKind) (a b : Nat) (k other : Bool) : Bool := Bool.rec other (Bool.rec other k (Nat.blt b (capN kd))) (Nat.blt a (capN kd))
theorem inK_spec {kd : IntKind} {a b : Nat} {k other : Bool} (h : inK kd a b k other = true) : other = true ∨ (a < capN kd ∧ b < capN kd ∧ k = true) := by
  unfold inK at h
  cases q : Nat.blt a (capN kd) <;> rw [q] at h
  · exact .inl h
  · have h : (Bool.rec other k (Nat.blt b (capN kd)) : Bool) = true := h
    cases q' : Nat.blt b (capN kd) <;> rw [q'] at h
    · exact .inl h
    · rw [Nat.blt_eq] at q q'; exact .inr ⟨q, q', h⟩
theorem capN_le (k : IntKind) : capN k ≤ 2 ^ bitN k := by cases k <;> decide
theorem bitN_eq (k : IntKind) : k.bits = bitN k := by cases k <;> rfl
theorem capN_pow (k : IntKind) : ∃ m, capN k = 2 ^ m ∧ m ≤ bitN k := by
  cases k
  · exact ⟨7, rfl, by decide⟩
  · exact ⟨15, rfl, by decide⟩
  · exact ⟨31, rfl, by decide⟩
  · exact ⟨63, rfl, by decide⟩
  · exact ⟨8, rfl, by decide⟩
  · exact ⟨16, rfl, by decide⟩
  · exact ⟨32, rfl, by decide⟩
  · exact ⟨64, rfl, by decide⟩
theorem ofInt_nat {kd : IntKind} {a : Nat} (h : a < capN kd) : (BitVec.ofInt kd.bits (.ofNat a)).toNat = a := by
  have h1 : a < 2 ^ kd.bits := by rw [bitN_eq]; exact Nat.lt_of_lt_of_le h (capN_le kd)
  rw [show (Int.ofNat a) = (a : Int) from rfl, BitVec.ofInt_natCast, BitVec.toNat_ofNat, Nat.mod_eq_of_lt h1]
/-- Numbers of one kind. -/
abbrev IOp := IntKind → Nat → Nat → (AV → Bool) → Bool → Bool
def i_add : IOp := fun kd a b k other => wrapK kd (Nat.add a b) k other
def i_sub : IOp := fun kd a b k other => Bool.rec (Nat.rec other (fun m _ => Bool.rec other (wrapK kd (Nat.sub (Nat.add a (Nat.succ m)) b) k other) (Nat.ble b (Nat.succ m))) (modN kd)) (forceN (Nat.sub a b) fun r => wrapK kd r k other) (Nat.ble b a)
def i_mul : IOp := fun kd a b k other => wrapK kd (Nat.mul a b) k other
def i_quo : IOp := fun kd a b k other => Nat.rec other (fun m _ => wrapK kd (Nat.div a (Nat.succ m)) k other) b
def i_rem : IOp := fun kd a b k other => Nat.rec other (fun m _ => forceN (Nat.mod a (Nat.succ m)) fun r => k (.int kd (.ofNat r))) b
def i_and : IOp := fun kd a b k other => inK kd a b (forceN (Nat.land a b) fun r => k (.int kd (.ofNat r))) other
def i_or : IOp := fun kd a b k other => inK kd a b (forceN (Nat.lor a b) fun r => k (.int kd (.ofNat r))) other
def i_xor : IOp := fun kd a b k other => inK kd a b (forceN (Nat.xor a b) fun r => k (.int kd (.ofNat r))) other
def i_no : IOp := fun _ _ _ _ other => other
def i_eql : IOp := fun _ a b k _ => forceB (Nat.beq a b) fun r => k (.bool r)
def notC (b : Bool) : Bool := Bool.rec true false b
def i_neq : IOp := fun _ a b k _ => forceB (notC (Nat.beq a b)) fun r => k (.bool r)
def i_lss : IOp := fun _ a b k _ => forceB (Nat.blt a b) fun r => k (.bool r)
def i_leq : IOp := fun _ a b k _ => forceB (Nat.ble a b) fun r => k (.bool r)
def i_gtr : IOp := fun _ a b k _ => forceB (Nat.blt b a) fun r => k (.bool r)
def i_geq : IOp := fun _ a b k _ => forceB (Nat.ble b a) fun r => k (.bool r)
def intOpK (op : BinOp) : IOp := BinOp.rec (motive := fun _ => IOp) i_add i_sub i_mul i_quo i_rem i_and i_or i_xor i_no i_no i_no i_eql i_neq i_lss i_leq i_gtr i_geq op
/-- What it must be. -/
def IOk (s : Sem Value) (k : AV → Bool) : Prop := ∃ x v, (∀ ρ, ren ρ x = some v) ∧ k x = true ∧ s = pure v
theorem iok_int {kd : IntKind} {n : Int} {r : Nat} {k : AV → Bool} {s : Sem Value} (hs : s = pure (.int kd n)) (hn : n = .ofNat r) (h : k (.int kd (.ofNat r)) = true) : IOk s k := ⟨_, _, fun _ => rfl, h, by rw [hs, hn]⟩
theorem iok_bool {b r : Bool} {k : AV → Bool} {s : Sem Value} (hs : s = pure (.bool b)) (hb : b = r) (h : k (.bool r) = true) : IOk s k := ⟨_, _, fun _ => rfl, h, by rw [hs, hb]⟩
theorem wrapK_ok {kd : IntKind} {n : Int} {s : Nat} {k : AV → Bool} {other : Bool} {sm : Sem Value} (hs : sm = pure (.int kd (kd.wrap n))) (hn : n = .ofNat s) (h : wrapK kd s k other = true) : other = true ∨ IOk sm k := by
  rcases wrapK_spec h with h | ⟨r, h1, h2⟩
  · exact .inl h
  · exact .inr (iok_int hs (by rw [hn]; exact h1) h2)
theorem back_small {kd : IntKind} {r : Nat} (h : r < capN kd) : kd.wrap (r : Int) = .ofNat r := wrap_small h
theorem intOpK_spec {op : BinOp} {kd : IntKind} {a b : Nat} {k : AV → Bool} {other : Bool} {t : TypeId} (h : intOpK op kd a b k other = true) : other = true ∨ IOk (binOp op t (.int kd (.ofNat a)) (.int kd (.ofNat b))) k := by
  have hk : ∀ {op : BinOp}, op ≠ .shl → op ≠ .shr → binOp op t (.int kd (.ofNat a)) (.int kd (.ofNat b)) = (match op with
    | .add | .sub | .mul => Op.intArith op kd (.ofNat a) (.ofNat b)
    | .quo | .rem => Op.intDiv op kd (.ofNat a) (.ofNat b)
    | .and | .or | .xor | .andNot => Op.intBits op kd (.ofNat a) (.ofNat b)
    | _ => Op.intCmp op (.ofNat a) (.ofNat b)) := by
    intro op h1 h2
    cases op <;> first | exact absurd rfl h1 | exact absurd rfl h2 | (simp [binOp])
  have ea : (Int.ofNat a) = (a : Int) := rfl
  have eb : (Int.ofNat b) = (b : Int) := rfl
  cases op with
  | add => exact wrapK_ok (by rw [hk (by simp) (by simp)]; rfl) rfl h
  | sub =>
    have hs : binOp .sub t (.int kd (.ofNat a)) (.int kd (.ofNat b)) = pure (.int kd (kd.wrap (.ofNat a - .ofNat b))) := by rw [hk (by simp) (by simp)]; rfl
    have h : i_sub kd a b k other = true := h
    unfold i_sub at h
    cases q : Nat.ble b a with
    | true =>
      rw [q] at h
      have h : (forceN (Nat.sub a b) fun r => wrapK kd r k other) = true := h
      rw [forceN_eq] at h
      have := Nat.le_of_ble_eq_true q
      exact wrapK_ok hs (by rw [ea, eb]; show _ = ((a - b : Nat) : Int); omega) h
    | false =>
      rw [q] at h
      have h : (Nat.rec other (fun m _ => Bool.rec other (wrapK kd (Nat.sub (Nat.add a (Nat.succ m)) b) k other) (Nat.ble b (Nat.succ m))) (modN kd) : Bool) = true := h
      cases e : modN kd with
      | zero => rw [e] at h; exact .inl h
      | succ m =>
        rw [e] at h
        have h : (Bool.rec other (wrapK kd (Nat.sub (Nat.add a (Nat.succ m)) b) k other) (Nat.ble b (Nat.succ m)) : Bool) = true := h
        cases q' : Nat.ble b (Nat.succ m) with
        | false => rw [q'] at h; exact .inl h
        | true =>
          rw [q'] at h
          have hle := Nat.le_of_ble_eq_true q'
          rcases wrapK_spec h with h | ⟨r, h1, h2⟩
          · exact .inl h
          · refine .inr (iok_int hs ?_ h2)
            rw [← h1, ea, eb]
            show kd.wrap _ = kd.wrap ((a + (m + 1) - b : Nat) : Int)
            have hmod : ∀ x y : Int, x % (2 ^ kd.bits : Int) = y % (2 ^ kd.bits : Int) → kd.wrap x = kd.wrap y := fun x y hxy => by unfold IntKind.wrap; rw [hxy]
            apply hmod
            have hm1 : ((2 : Int) ^ kd.bits) = ((m + 1 : Nat) : Int) := by rw [← e]; cases kd <;> first | rfl | (simp [modN] at e)
            rw [hm1]
            have hle' : b ≤ m + 1 := hle
            rw [show ((a + (m + 1) - b : Nat) : Int) = ((a : Int) - b) + ((m + 1 : Nat) : Int) by omega, Int.add_emod_right]
  | mul => exact wrapK_ok (by rw [hk (by simp) (by simp)]; rfl) rfl h
  | quo =>
    cases b with
    | zero => exact .inl h
    | succ m =>
      refine wrapK_ok (n := (Int.ofNat a).tdiv (Int.ofNat (m + 1))) ?_ rfl (show wrapK kd (Nat.div a (Nat.succ m)) k other = true from h)
      rw [hk (by simp) (by simp)]
      show Op.intDiv .quo kd _ _ = _
      unfold Op.intDiv
      exact if_neg (show ¬ ((m + 1 : Nat) : Int) = 0 by omega)
  | rem =>
    cases b with
    | zero => exact .inl h
    | succ m =>
      have h : (forceN (Nat.mod a (Nat.succ m)) fun r => k (.int kd (.ofNat r))) = true := h
      rw [forceN_eq] at h
      refine .inr (iok_int (n := (Int.ofNat a).tmod (Int.ofNat (m + 1))) ?_ rfl h)
      rw [hk (by simp) (by simp)]
      show Op.intDiv .rem kd _ _ = _
      unfold Op.intDiv
      exact if_neg (show ¬ ((m + 1 : Nat) : Int) = 0 by omega)
  | and =>
    rcases inK_spec h with h | ⟨h1, h2, h3⟩
    · exact .inl h
    · rw [forceN_eq] at h3
      have hr : a &&& b < capN kd := Nat.lt_of_le_of_lt Nat.and_le_left h1
      refine .inr (iok_int (n := kd.wrap ((a &&& b : Nat) : Int)) ?_ (back_small hr) h3)
      rw [hk (by simp) (by simp)]
      show Op.intBits .and kd _ _ = _
      simp only [Op.intBits, BitVec.toNat_and, ofInt_nat h1, ofInt_nat h2]
  | or =>
    rcases inK_spec h with h | ⟨h1, h2, h3⟩
    · exact .inl h
    · rw [forceN_eq] at h3
      obtain ⟨m, hm, _⟩ := capN_pow kd
      have hr : a ||| b < capN kd := by rw [hm] at h1 h2 ⊢; exact Nat.or_lt_two_pow h1 h2
      refine .inr (iok_int (n := kd.wrap ((a ||| b : Nat) : Int)) ?_ (back_small hr) h3)
      rw [hk (by simp) (by simp)]
      show Op.intBits .or kd _ _ = _
      simp only [Op.intBits, BitVec.toNat_or, ofInt_nat h1, ofInt_nat h2]
  | xor =>
    rcases inK_spec h with h | ⟨h1, h2, h3⟩
    · exact .inl h
    · rw [forceN_eq] at h3
      obtain ⟨m, hm, _⟩ := capN_pow kd
      have hr : a ^^^ b < capN kd := by rw [hm] at h1 h2 ⊢; exact Nat.xor_lt_two_pow h1 h2
      refine .inr (iok_int (n := kd.wrap ((a ^^^ b : Nat) : Int)) ?_ (back_small hr) h3)
      rw [hk (by simp) (by simp)]
      show Op.intBits .xor kd _ _ = _
      simp only [Op.intBits, BitVec.toNat_xor, ofInt_nat h1, ofInt_nat h2]
  | shl => exact .inl h
  | shr => exact .inl h
  | andNot => exact .inl h
  | eql =>
    have h : (forceB (Nat.beq a b) fun r => k (.bool r)) = true := h
    rw [forceB_eq] at h
    refine .inr (iok_bool (b := (Int.ofNat a == Int.ofNat b)) (by rw [hk (by simp) (by simp)]; rfl) ?_ h)
    cases q : Nat.beq a b with
    | true => rw [Nat.eq_of_beq_eq_true q]; simp
    | false =>
      have hne : a ≠ b := fun e => by subst e; simp at q
      rw [ea, eb]; exact beq_eq_false_iff_ne.2 fun e => hne (by omega)
  | neq =>
    have h : (forceB (notC (Nat.beq a b)) fun r => k (.bool r)) = true := h
    rw [forceB_eq] at h
    refine .inr (iok_bool (b := (Int.ofNat a != Int.ofNat b)) (by rw [hk (by simp) (by simp)]; rfl) ?_ h)
    cases q : Nat.beq a b with
    | true => rw [Nat.eq_of_beq_eq_true q]; simp [notC]
    | false =>
      show _ = true
      have hne : a ≠ b := fun e => by subst e; simp at q
      rw [ea, eb]; exact bne_iff_ne.2 fun e => hne (by omega)
  | lss =>
    have h : (forceB (Nat.blt a b) fun r => k (.bool r)) = true := h
    rw [forceB_eq] at h
    refine .inr (iok_bool (b := decide (Int.ofNat a < Int.ofNat b)) (by rw [hk (by simp) (by simp)]; rfl) ?_ h)
    rw [Bool.eq_iff_iff, Nat.blt_eq, decide_eq_true_eq, ea, eb]; omega
  | leq =>
    have h : (forceB (Nat.ble a b) fun r => k (.bool r)) = true := h
    rw [forceB_eq] at h
    refine .inr (iok_bool (b := decide (Int.ofNat a ≤ Int.ofNat b)) (by rw [hk (by simp) (by simp)]; rfl) ?_ h)
    rw [Bool.eq_iff_iff, Nat.ble_eq, decide_eq_true_eq, ea, eb]; omega
  | gtr =>
    have h : (forceB (Nat.blt b a) fun r => k (.bool r)) = true := h
    rw [forceB_eq] at h
    refine .inr (iok_bool (b := decide (Int.ofNat a > Int.ofNat b)) (by rw [hk (by simp) (by simp)]; rfl) ?_ h)
    rw [Bool.eq_iff_iff, Nat.blt_eq, decide_eq_true_eq, ea, eb]; omega
  | geq =>
    have h : (forceB (Nat.ble b a) fun r => k (.bool r)) = true := h
    rw [forceB_eq] at h
    refine .inr (iok_bool (b := decide (Int.ofNat a ≥ Int.ofNat b)) (by rw [hk (by simp) (by simp)]; rfl) ?_ h)
    rw [Bool.eq_iff_iff, Nat.ble_eq, decide_eq_true_eq, ea, eb]; omega
/-- Shifts to the right and to the left. -/
def shK (op : BinOp) (kd : IntKind) (a n : Nat) (k : AV → Bool) (other : Bool) : Bool := Bool.rec other (BinOp.rec (motive := fun _ => Bool) other other other other other other other other (wrapK kd (Nat.mul a (Nat.pow 2 n)) k other) (forceN (Nat.div a (Nat.pow 2 n)) fun r => k (.int kd (.ofNat r))) other other other other other other other op) (Nat.ble n (bitN kd))
theorem shK_spec {op : BinOp} {kd kd' : IntKind} {a n : Nat} {k : AV → Bool} {other : Bool} {t : TypeId} (h : shK op kd a n k other = true) : other = true ∨ IOk (binOp op t (.int kd (.ofNat a)) (.int kd' (.ofNat n))) k := by
  unfold shK at h
  cases q : Nat.ble n (bitN kd) with
  | false => rw [q] at h; exact .inl h
  | true =>
    rw [q] at h
    have hle := Nat.le_of_ble_eq_true q
    have hn : min (Int.ofNat n).toNat kd.bits = n := by rw [bitN_eq]; show min n _ = n; omega
    cases op with
    | shl =>
      refine wrapK_ok (n := Int.ofNat a * 2 ^ n) ?_ ?_ (show wrapK kd (Nat.mul a (Nat.pow 2 n)) k other = true from h)
      · show Op.shift .shl kd (.ofNat a) kd' (.ofNat n) = _
        unfold Op.shift
        rw [if_neg (by simp)]
        simp only [hn]
      · show (a : Int) * 2 ^ n = ((a * 2 ^ n : Nat) : Int)
        simp
    | shr =>
      have h : (forceN (Nat.div a (Nat.pow 2 n)) fun r => k (.int kd (.ofNat r))) = true := h
      rw [forceN_eq] at h
      refine .inr (iok_int (n := (Int.ofNat a).fdiv (2 ^ n)) ?_ ?_ h)
      · show Op.shift .shr kd (.ofNat a) kd' (.ofNat n) = _
        unfold Op.shift
        rw [if_neg (by simp)]
        simp only [hn]
      · show (a : Int).fdiv (2 ^ n) = ((a / 2 ^ n : Nat) : Int)
        rw [Int.fdiv_eq_ediv_of_nonneg _ (Int.le_of_lt (Int.pow_pos (by decide)))]
        simp
    | _ => exact .inl h
end
end Go.Ev
set_option linter.unusedSimpArgs false
set_option linter.unusedVariables false
namespace Go.Ev
open Go.Sl
noncomputable section
variable {P : Program} {T : Tabs P} {c : Cn} {ρ : Env} {fr : Tr AV} {ds : List AD} {M : Mem} {nx : Nat} {a : Act} {w : World}

/-- What the model's own word says of plain values. -/
def semK (P : Program) (s : Sem Value) (k : AV → Bool) : Bool := Option.rec false (fun v => constK v k) (prun P s)
theorem semK_spec {s : Sem Value} {k : AV → Bool} (h : semK P s k = true) (ρ : Env) : ∃ x v, ren ρ x = some v ∧ k x = true ∧ ∀ w, s.run P w = .ok v w := by
  obtain ⟨v, h1, h2⟩ := opt_rec h
  obtain ⟨x, h3, h4⟩ := constK_spec h2 ρ
  exact ⟨x, v, h3, h4, prun_run h1⟩

/-! ### numbers, bools -/
def unK (P : Program) (T : Tabs P) (fr : Tr AV) (op : UnOp) (x : Operand) (k : AV → Bool) : Bool := argK T fr x fun v => match v with
  | .int kd n => semK P (Op.unary op (.int kd n)) k
  | .bool b => semK P (Op.unary op (.bool b)) k
  | _ => false
theorem unK_spec {op : UnOp} {tx : TypeId} {x : Operand} {k : AV → Bool} (h : unK P T fr op x k = true) (s : Rel T c ρ fr ds M nx a w) : Yes P ρ a (fun _ => True) (.unOp op tx x) k := by
  obtain ⟨v, r, h1, h2⟩ := argK_spec h s
  split at h2
  · rename_i kd n
    obtain rfl : r = .int kd n := by simpa [ren] using h1.ren.symm
    obtain ⟨x', v, h3, h4, h5⟩ := semK_spec h2 ρ
    exact ⟨x', v, h3, h4, fun _ _ _ => fun a w d pos af g st => by simp [execOp, st.eval (h1.ev _ _ _), h5]⟩
  · rename_i b
    obtain rfl : r = .bool b := by simpa [ren] using h1.ren.symm
    obtain ⟨x', v, h3, h4, h5⟩ := semK_spec h2 ρ
    exact ⟨x', v, h3, h4, fun _ _ _ => fun a w d pos af g st => by simp [execOp, st.eval (h1.ev _ _ _), h5]⟩
  · cases h2

/-! ### texts -/
def eqN (l : List Nat) : List Nat → Bool := List.rec (fun m => List.rec true (fun _ _ _ => false) m) (fun x _ ih m => List.rec false (fun y t _ => both (Nat.beq x y) (ih t)) m) l
theorem eqN_spec : ∀ l m : List Nat, eqN l m = decide (l = m)
  | [], [] => rfl
  | [], _ :: _ => rfl
  | _ :: _, [] => rfl
  | x :: l, y :: m => by
    show both (Nat.beq x y) (eqN l m) = _
    rw [eqN_spec l m]
    by_cases h : x = y
    · subst h
      have : Nat.beq x x = true := by simp
      rw [this]; simp [both]
    · have : Nat.beq x y = false := Bool.eq_false_iff.2 fun q => h (Nat.eq_of_beq_eq_true q)
      rw [this]; simp [both, h]
def ltN (l : List Nat) : List Nat → Bool := List.rec (fun m => List.rec false (fun _ _ _ => true) m) (fun x _ ih m => List.rec false (fun y t _ => Bool.rec (both (Nat.beq x y) (ih t)) true (Nat.blt x y)) m) l
theorem small_cons {x : Nat} {l : List Nat} (h : small (x :: l) = true) : x < 256 ∧ small l = true := by
  unfold small at *
  simp only [List.all_cons, Bool.and_eq_true, Nat.blt_eq] at h
  exact h
theorem u8_inj {x y : Nat} (hx : x < 256) (hy : y < 256) : (UInt8.ofNat x = UInt8.ofNat y) ↔ x = y := by
  constructor
  · intro h; have := congrArg UInt8.toNat h; rwa [u8_ofNat hx, u8_ofNat hy] at this
  · intro h; rw [h]
theorem map_inj : ∀ {l m : List Nat}, small l = true → small m = true → (l.map UInt8.ofNat = m.map UInt8.ofNat ↔ l = m)
  | [], [], _, _ => by simp
  | [], _ :: _, _, _ => by simp
  | _ :: _, [], _, _ => by simp
  | x :: l, y :: m, h, h' => by
    obtain ⟨h1, h2⟩ := small_cons h
    obtain ⟨h3, h4⟩ := small_cons h'
    simp only [List.map_cons, List.cons.injEq, u8_inj h1 h3, map_inj h2 h4]
theorem ltN_spec : ∀ {l m : List Nat}, small l = true → small m = true → Op.bytesLess (l.map UInt8.ofNat) (m.map UInt8.ofNat) = ltN l m
  | [], [], _, _ => rfl
  | [], _ :: _, _, _ => rfl
  | _ :: _, [], _, _ => rfl
  | x :: l, y :: m, h, h' => by
    obtain ⟨h1, h2⟩ := small_cons h
    obtain ⟨h3, h4⟩ := small_cons h'
    simp only [List.map_cons, Op.bytesLess]
    rw [ltN_spec h2 h4]
    show _ = (Bool.rec (both (Nat.beq x y) (ltN l m)) true (Nat.blt x y) : Bool)
    have e1 : decide (UInt8.ofNat x < UInt8.ofNat y) = Nat.blt x y := by
      rw [Bool.eq_iff_iff, decide_eq_true_iff, UInt8.lt_iff_toNat_lt, u8_ofNat h1, u8_ofNat h3, Nat.blt_eq]
    have e2 : (UInt8.ofNat x == UInt8.ofNat y) = Nat.beq x y := by
      rw [Bool.eq_iff_iff, beq_iff_eq, u8_inj h1 h3]
      exact ⟨fun h => by subst h; simp, fun h => Nat.eq_of_beq_eq_true h⟩
    rw [e1, e2]
    cases Nat.blt x y <;> cases Nat.beq x y <;> cases ltN l m <;> rfl
theorem small_append {l m : List Nat} (h : small l = true) (h' : small m = true) : small (l ++ m) = true := by unfold small at *; simp [h, h']
theorem ren_strV {l : List Nat} (h : small l = true) : ren ρ (.str l) = some (strV l) := by unfold ren; rw [if_pos h]
def notB (b : Bool) : Bool := Bool.rec true false b
theorem notB_eq (b : Bool) : notB b = !b := by cases b <;> rfl
def strOpK (op : BinOp) (l m : List Nat) (k : AV → Bool) : Bool := match op with
  | .eql => forceB (eqN l m) fun b => k (.bool b)
  | .neq => forceB (eqN l m) fun b => k (.bool (notB b))
  | .lss => forceB (ltN l m) fun b => k (.bool b)
  | .geq => forceB (ltN l m) fun b => k (.bool (notB b))
  | .gtr => forceB (ltN m l) fun b => k (.bool b)
  | .leq => forceB (ltN m l) fun b => k (.bool (notB b))
  | .add => lenL l 0 fun n => lenL m 0 fun n' => both (Nat.ble (Nat.add n n') 9223372036854775807) (appL l m fun z => k (.str z))
  | _ => false
theorem less_asymm : ∀ l m : List UInt8, Op.bytesLess m l = !(Op.bytesLess l m || l == m)
  | [], [] => rfl
  | [], _ :: _ => rfl
  | _ :: _, [] => rfl
  | x :: l, y :: m => by
    simp only [Op.bytesLess, less_asymm l m]
    rw [Bool.eq_iff_iff]
    simp only [Bool.or_eq_true, decide_eq_true_eq, Bool.and_eq_true, beq_iff_eq, Bool.not_eq_true', Bool.or_eq_false_iff, decide_eq_false_iff_not, Bool.and_eq_false_iff, beq_eq_false_iff_ne, List.cons.injEq, ne_eq, not_and, UInt8.lt_iff_toNat_lt, ← UInt8.toNat_inj]
    constructor
    · rintro (h | ⟨h1, h2, h3⟩)
      · exact ⟨⟨by omega, .inl (by omega)⟩, by omega⟩
      · exact ⟨⟨by omega, .inr h2⟩, fun _ => h3⟩
    · rintro ⟨⟨h1, h2⟩, h3⟩
      by_cases q : y.toNat < x.toNat
      · exact .inl q
      · have : x.toNat = y.toNat := by omega
        exact .inr ⟨this.symm, h2.resolve_left (by omega), h3 this⟩
theorem strOpK_spec {op : BinOp} {l m : List Nat} {k : AV → Bool} {x y : Operand} {tx tz : TypeId} (h : strOpK op l m k = true) (hl : small l = true) (hm : small m = true) :
    ∃ v r, ren ρ v = some r ∧ k v = true ∧ ∀ (cx : Cx) (fe : Fr) (Γ : List HProp) (ty : TypeId), Sl.ev cx fe x = some (strV l) → Sl.ev cx fe y = some (strV m) → Yl P cx fe Γ (.binOp op tx x y tz) ty r := by
  have eq : (l.map UInt8.ofNat == m.map UInt8.ofNat) = eqN l m := by
    rw [eqN_spec, Bool.eq_iff_iff, beq_iff_eq, map_inj hl hm, decide_eq_true_iff]
  unfold strOpK at h
  split at h
  · rw [forceB_eq] at h; exact ⟨_, _, rfl, h, fun cx fe Γ ty hx hy => by rw [← eq]; exact Yl.eql_str hx hy⟩
  · rw [forceB_eq] at h; exact ⟨_, _, rfl, h, fun cx fe Γ ty hx hy => by rw [notB_eq, ← eq]; exact Yl.neq_str hx hy⟩
  · rw [forceB_eq] at h; exact ⟨_, _, rfl, h, fun cx fe Γ ty hx hy => by rw [← ltN_spec hl hm]; exact Yl.lss_str hx hy⟩
  · rw [forceB_eq] at h; exact ⟨_, _, rfl, h, fun cx fe Γ ty hx hy => by rw [notB_eq, ← ltN_spec hl hm]; exact Yl.geq_str hx hy⟩
  · rw [forceB_eq] at h; exact ⟨_, _, rfl, h, fun cx fe Γ ty hx hy => by rw [← ltN_spec hm hl, less_asymm]; exact Yl.gtr_str hx hy⟩
  · rw [forceB_eq] at h; exact ⟨_, _, rfl, h, fun cx fe Γ ty hx hy => by rw [notB_eq, ← ltN_spec hm hl, less_asymm, Bool.not_not]; exact Yl.leq_str hx hy⟩
  · rw [lenL_eq, lenL_eq] at h
    obtain ⟨h1, h⟩ := both_eq.1 h
    rw [appL_eq] at h
    refine ⟨_, _, ren_strV (small_append hl hm), h, fun cx fe Γ ty hx hy => ?_⟩
    have := Yl.cat (P := P) (Γ := Γ) (ty := ty) (tx := tx) (tz := tz) hx hy (by simpa using Nat.le_of_ble_eq_true h1)
    unfold strV; rw [List.map_append]; exact this
  · cases h

/-! ### comparisons with nil, and of plain data -/
/-- This as a plain value: it names no block. -/
def toV (v : AV) : Option Value := ren ⟨[]⟩ v
theorem toV_ren {v : AV} {r : Value} (h : toV v = some r) (ρ : Env) : ren ρ v = some r := ren_ext ⟨ρ.l, by simp⟩ h
/-- Is the value nil? (of a kind that may be) -/
def nilQ : AV → Option Bool
  | .nilp => some true
  | .ptr _ _ => some false
  | .nils => some true
  | .sl _ _ _ _ _ => some false
  | .em _ _ _ _ => some false
  | .nilm => some true
  | .map _ => some false
  | .nilf => some true
  | .fn _ _ _ => some false
  | .yl _ => some false
  | _ => none
def isNil : AV → Bool
  | .nilp => true
  | .nils => true
  | .nilm => true
  | .nilf => true
  | _ => false
theorem eqGuard_none {op : BinOp} {t : TypeId} {x y : Operand} {r q : Value} {w : World} (hr : ∀ u, r ≠ .agg u) (h0 : q ≠ .nilIface) : (eqGuard op t x y r q).run P w = .ok () w := by
  unfold eqGuard
  cases r <;> cases q <;> first | exact absurd rfl h0 | exact absurd rfl (hr _) | (cases op <;> simp)
theorem run_equal_ifaceNil {t u : TypeId} {ms : Array (String × TypeId)} {v : Value} {w : World} (ht : P.underlying t = some (.interface ms)) : (Op.equal t (.iface u v) .nilIface).run P w = .ok false w := by
  have h : ∀ d, (Op.equalIn (d + 1) t (.iface u v) .nilIface).run P w = .ok false w := fun d => by simp [Op.equalIn, run_underlying ht]
  exact h 9999
def nilFits (d : TD) (u v : AV) : Bool := match d, u with
  | .ptr, .nilp => (match v with | .nilp => true | .ptr _ _ => true | _ => false)
  | .sl _, .nils => (match v with | .nils => true | .sl _ _ _ _ _ => true | .em _ _ _ _ => true | _ => false)
  | .map _ _, .nilm => (match v with | .nilm => true | .map _ => true | _ => false)
  | .fn, .nilf => (match v with | .nilf => true | .fn _ _ _ => true | .yl _ => true | _ => false)
  | _, _ => false
theorem nilFits_eq {t : TypeId} {d : TD} {v u : AV} {r q : Value} {b : Bool} (hf : nilFits d u v = true) (ht : TDok P t d) (hv : ren ρ v = some r) (hu : ren ρ u = some q) (hb : nilQ v = some b) : (∀ w, (Op.equal t r q).run P w = .ok b w) ∧ (∀ x, r ≠ .agg x) ∧ q ≠ .nilIface ∧ (∀ k n, r ≠ .int k n) ∧ (∀ s, r ≠ .string s) ∧ (∀ f n, r ≠ .float f n) ∧ (∀ f n m, r ≠ .complex f n m) := by
  cases d with
  | ptr =>
    cases u <;> try (cases hf; done)
    obtain ⟨e, ht⟩ := ht
    cases v <;> try (cases hf; done)
    all_goals
      simp only [ren, Option.some.injEq, Option.map_eq_some_iff] at hv hu
      cases hb; subst hu
    · subst hv; exact ⟨fun w => run_equal_nil_ptr ht, by simp, by simp, by simp, by simp, by simp, by simp⟩
    · obtain ⟨_, _, rfl⟩ := hv; exact ⟨fun w => run_equal_nil_ptr ht, by simp, by simp, by simp, by simp, by simp, by simp⟩
  | sl e =>
    cases u <;> try (cases hf; done)
    cases v <;> try (cases hf; done)
    all_goals
      simp only [ren, Option.some.injEq, Option.map_eq_some_iff] at hv hu
      cases hb; subst hu
    · subst hv; exact ⟨fun w => run_equal_nil_slice ht, by simp, by simp, by simp, by simp, by simp, by simp⟩
    · obtain ⟨_, _, rfl⟩ := hv; exact ⟨fun w => run_equal_nil_slice ht, by simp, by simp, by simp, by simp, by simp, by simp⟩
    · obtain ⟨_, _, rfl⟩ := hv; exact ⟨fun w => run_equal_nil_slice ht, by simp, by simp, by simp, by simp, by simp, by simp⟩
  | map k e =>
    cases u <;> try (cases hf; done)
    cases v <;> try (cases hf; done)
    all_goals
      simp only [ren, Option.some.injEq, Option.map_eq_some_iff] at hv hu
      cases hb; subst hu
    · subst hv; exact ⟨fun w => run_equal_nil_map ht, by simp, by simp, by simp, by simp, by simp, by simp⟩
    · obtain ⟨_, _, rfl⟩ := hv; exact ⟨fun w => run_equal_nil_map ht, by simp, by simp, by simp, by simp, by simp, by simp⟩
  | fn =>
    cases u <;> try (cases hf; done)
    obtain ⟨_, _, _, ht⟩ := ht
    cases v <;> try (cases hf; done)
    all_goals
      simp only [ren, Option.some.injEq, Option.map_eq_some_iff, Option.bind_eq_some_iff] at hv hu
      cases hb; subst hu
    · obtain ⟨_, _, _, _, rfl⟩ := hv; exact ⟨fun w => run_equal_nilFunc ht, by simp, by simp, by simp, by simp, by simp, by simp⟩
    · obtain ⟨_, _, rfl⟩ := hv; exact ⟨fun w => run_equal_nilFunc ht, by simp [yv], by simp, by simp [yv], by simp [yv], by simp [yv], by simp [yv]⟩
    · subst hv; exact ⟨fun w => run_equal_nilFunc2 ht, by simp, by simp, by simp, by simp, by simp, by simp⟩
  | _ => cases hf
def nilK (T : Tabs P) (op : BinOp) (tx : TypeId) (v u : AV) (k : AV → Bool) : Bool := Option.rec false (fun r => both (nilFits r.td u v) (Option.rec false (fun b => match op with | .eql => k (.bool b) | .neq => k (.bool (notB b)) | _ => false) (nilQ v))) (T.T tx)
def plain2 (P : Program) (op : BinOp) (tx : TypeId) (x y : Operand) (v u : AV) (k : AV → Bool) : Bool := Option.rec false (fun r => Option.rec false (fun q => semK P (do eqGuard op tx x y r q; binOp op tx r q) k) (toV u)) (toV v)
def ifaceNilK (T : Tabs P) (op : BinOp) (tx : TypeId) (k : AV → Bool) : Bool := Option.rec false (fun r => match r with
  | ⟨.ifc, _, _⟩ => (match op with | .eql => k (.bool false) | .neq => k (.bool true) | _ => false)
  | _ => false) (T.T tx)
def dfltK (T : Tabs P) (op : BinOp) (tx : TypeId) (x y : Operand) (v u : AV) (k : AV → Bool) : Bool := Bool.rec (plain2 P op tx x y v u k) (nilK T op tx v u k) (isNil u)
def intSlowK (P : Program) (op : BinOp) (tx : TypeId) (k1 : IntKind) (m : Int) (k2 : IntKind) (n : Int) (k : AV → Bool) : Bool := semK P (binOp op tx (.int k1 m) (.int k2 n)) k
def intFK (P : Program) (op : BinOp) (tx : TypeId) (k1 : IntKind) (m : Int) (k2 : IntKind) (n : Int) (k : AV → Bool) : Bool := Int.rec (fun a => Int.rec (fun b => Bool.rec (shK op k1 a b k (intSlowK P op tx k1 m k2 n k)) (intOpK op k1 a b k (shK op k1 a b k (intSlowK P op tx k1 m k2 n k))) (Nat.beq (kindN k1) (kindN k2))) (fun _ => intSlowK P op tx k1 m k2 n k) n) (fun _ => intSlowK P op tx k1 m k2 n k) m
theorem intFK_spec {op : BinOp} {tx : TypeId} {k1 : IntKind} {m : Int} {k2 : IntKind} {n : Int} {k : AV → Bool} (h : intFK P op tx k1 m k2 n k = true) (ρ : Env) : ∃ x v, ren ρ x = some v ∧ k x = true ∧ ∀ w, (binOp op tx (.int k1 m) (.int k2 n)).run P w = .ok v w := by
  have slow : intSlowK P op tx k1 m k2 n k = true → ∃ x v, ren ρ x = some v ∧ k x = true ∧ ∀ w, (binOp op tx (.int k1 m) (.int k2 n)).run P w = .ok v w := fun h => semK_spec h ρ
  have fast : IOk (binOp op tx (.int k1 m) (.int k2 n)) k → ∃ x v, ren ρ x = some v ∧ k x = true ∧ ∀ w, (binOp op tx (.int k1 m) (.int k2 n)).run P w = .ok v w := fun ⟨x, v, h1, h2, h3⟩ => ⟨x, v, h1 ρ, h2, fun w => by rw [h3]; rfl⟩
  cases m with
  | negSucc a => exact slow h
  | ofNat a =>
    cases n with
    | negSucc b => exact slow h
    | ofNat b =>
      have h : (Bool.rec (shK op k1 a b k (intSlowK P op tx k1 (.ofNat a) k2 (.ofNat b) k)) (intOpK op k1 a b k (shK op k1 a b k (intSlowK P op tx k1 (.ofNat a) k2 (.ofNat b) k))) (Nat.beq (kindN k1) (kindN k2)) : Bool) = true := h
      have sh : shK op k1 a b k (intSlowK P op tx k1 (.ofNat a) k2 (.ofNat b) k) = true → ∃ x v, ren ρ x = some v ∧ k x = true ∧ ∀ w, (binOp op tx (.int k1 (.ofNat a)) (.int k2 (.ofNat b))).run P w = .ok v w := fun h => (shK_spec h).elim slow fast
      cases q : Nat.beq (kindN k1) (kindN k2) with
      | false => rw [q] at h; exact sh h
      | true =>
        rw [q] at h
        have hk := kindN_inj q
        subst hk
        exact (intOpK_spec h).elim sh fast
/-- Of two operands, by their kinds. -/
def bin2K (P : Program) (T : Tabs P) (op : BinOp) (tx : TypeId) (x y : Operand) (v u : AV) (k : AV → Bool) : Bool := match v with
  | .int k1 m => (match u with
    | .int k2 n => intFK P op tx k1 m k2 n k
    | _ => false)
  | .str l => (match u with
    | .str m => strOpK op l m k
    | _ => false)
  | .iface t v => (match u with
    | .nili => ifaceNilK T op tx k
    | u => plain2 P op tx x y (.iface t v) u k)
  | .nili => plain2 P op tx x y .nili u k
  | v => dfltK T op tx x y v u k
def binK (P : Program) (T : Tabs P) (fr : Tr AV) (op : BinOp) (tx : TypeId) (x y : Operand) (k : AV → Bool) : Bool := argK T fr x fun v => argK T fr y fun u => bin2K P T op tx x y v u k
theorem run_eq_of {op : BinOp} {t : TypeId} {x y : Operand} {r q : Value} {b : Bool} {w : World} (h : ∀ w, (Op.equal t r q).run P w = .ok b w) (hr : ∀ u, r ≠ .agg u) (h0 : q ≠ .nilIface ∨ ∃ t v, r = .iface t v)
    (h1 : ∀ k n, r ≠ .int k n) (h2 : ∀ s, r ≠ .string s) (h3 : ∀ f n, r ≠ .float f n) (h4 : ∀ f n m, r ≠ .complex f n m) :
    (op = .eql → (do eqGuard op t x y r q; binOp op t r q : Sem Value).run P w = .ok (.bool b) w) ∧ (op = .neq → (do eqGuard op t x y r q; binOp op t r q : Sem Value).run P w = .ok (.bool (!b)) w) := by
  have hg : (eqGuard op t x y r q).run P w = .ok () w := by
    rcases h0 with h0 | ⟨t', v, rfl⟩
    · exact eqGuard_none hr h0
    · unfold eqGuard
      cases q <;> cases op <;> simp
  constructor <;> rintro rfl <;> simp only [Sem.run_bind, hg, Result.andThen_ok]
  · cases r <;> first | exact absurd rfl (h1 _ _) | exact absurd rfl (h2 _) | exact absurd rfl (h3 _ _) | exact absurd rfl (h4 _ _ _) | (cases q <;> simp [binOp, h w])
  · cases r <;> first | exact absurd rfl (h1 _ _) | exact absurd rfl (h2 _) | exact absurd rfl (h3 _ _) | exact absurd rfl (h4 _ _ _) | (cases q <;> simp [binOp, h w])
theorem bin2K_spec {op : BinOp} {tx tz : TypeId} {x y : Operand} {k : AV → Bool} {v u : AV} {r q : Value} (h1 : Val ρ a x v r) (h3 : Val ρ a y u q) (g : bin2K P T op tx x y v u k = true) : Yes P ρ a (fun _ => True) (.binOp op tx x y tz) k := by
  have of_sem : ∀ {x' : AV} {v' : Value}, ren ρ x' = some v' → k x' = true → (∀ w, (do eqGuard op tx x y r q; binOp op tx r q : Sem Value).run P w = .ok v' w) → Yes P ρ a (fun _ => True) (.binOp op tx x y tz) k :=
    fun a1 a2 a3 => ⟨_, _, a1, a2, fun _ _ _ => fun a w d pos af g st => by
      have h := a3 w
      show (((do eqGuard op tx x y (a.eval x) (a.eval y); binOp op tx (a.eval x) (a.eval y) : Sem Value) >>= fun v => pure (.value v) : Sem Next)).run P w = _
      rw [st.eval (h1.ev _ _ _), st.eval (h3.ev _ _ _), Sem.run_bind, h]; rfl⟩
  have plain : plain2 P op tx x y v u k = true → Yes P ρ a (fun _ => True) (.binOp op tx x y tz) k := fun g => by
    obtain ⟨r', g1, g⟩ := opt_rec g
    obtain ⟨q', g2, g⟩ := opt_rec g
    have e1 := toV_ren g1 ρ; rw [h1.ren] at e1; cases e1
    have e2 := toV_ren g2 ρ; rw [h3.ren] at e2; cases e2
    obtain ⟨x', v', a1, a2, a3⟩ := semK_spec g ρ
    exact of_sem a1 a2 a3
  have nils : nilK T op tx v u k = true → Yes P ρ a (fun _ => True) (.binOp op tx x y tz) k := fun g => by
    obtain ⟨row, g1, g⟩ := opt_rec g
    obtain ⟨g2, g⟩ := both_eq.1 g
    obtain ⟨b, g3, g⟩ := opt_rec g
    obtain ⟨e1, e2, e3, e4, e5, e6, e7⟩ := nilFits_eq g2 (T.okT _ _ g1).td h1.ren h3.ren g3
    clear plain
    cases op <;> first
      | exact of_sem rfl g fun w => (run_eq_of e1 e2 (.inl e3) e4 e5 e6 e7).1 rfl
      | exact of_sem rfl (show k (.bool (!b)) = true by rw [← notB_eq]; exact g) fun w => (run_eq_of e1 e2 (.inl e3) e4 e5 e6 e7).2 rfl
      | cases g
  have dflt : dfltK T op tx x y v u k = true → Yes P ρ a (fun _ => True) (.binOp op tx x y tz) k := fun g => by
    unfold dfltK at g
    cases hn : isNil u with
    | true => rw [hn] at g; exact nils g
    | false => rw [hn] at g; exact plain g
  have ifn : ∀ t v', v = .iface t v' → u = .nili → ifaceNilK T op tx k = true → Yes P ρ a (fun _ => True) (.binOp op tx x y tz) k := fun t v' ev eu g => by
    obtain ⟨row, g1, g⟩ := opt_rec g
    subst ev eu
    have e1 := h1.ren
    simp only [ren, Option.map_eq_some_iff] at e1
    obtain ⟨v', _, rfl⟩ := e1
    obtain rfl : q = .nilIface := by simpa [ren] using h3.ren.symm
    obtain ⟨td, z, b⟩ := row
    clear plain nils dflt
    cases td <;> try cases g
    obtain ⟨ms, hms⟩ := (T.okT _ _ g1).td
    have e := fun w => run_equal_ifaceNil (P := P) (w := w) (u := t) (v := v') hms
    cases op <;> first
      | exact of_sem rfl g fun w => (run_eq_of e (by simp) (.inr ⟨_, _, rfl⟩) (by simp) (by simp) (by simp) (by simp)).1 rfl
      | exact of_sem rfl g fun w => (run_eq_of e (by simp) (.inr ⟨_, _, rfl⟩) (by simp) (by simp) (by simp) (by simp)).2 rfl
      | cases g
  cases v with
  | int k1 m =>
    cases u with
    | int k2 n =>
      obtain rfl : r = .int k1 m := by simpa [ren] using h1.ren.symm
      obtain rfl : q = .int k2 n := by simpa [ren] using h3.ren.symm
      obtain ⟨x', v, a1, a2, a3⟩ := intFK_spec g ρ
      exact of_sem a1 a2 fun w => by
        have hg : (eqGuard op tx x y (.int k1 m) (.int k2 n)).run P w = .ok () w := eqGuard_none (by simp) (by simp)
        rw [Sem.run_bind, hg]; exact a3 w
    | _ => cases g
  | str l =>
    cases u with
    | str m =>
      obtain ⟨s1, rfl⟩ := ren_str h1.ren
      obtain ⟨s2, rfl⟩ := ren_str h3.ren
      obtain ⟨v, r, a1, a2, a3⟩ := strOpK_spec (P := P) (ρ := ρ) (x := x) (y := y) (tx := tx) (tz := tz) g s1 s2
      exact ⟨v, r, a1, a2, fun _ _ ty => a3 _ _ _ ty (h1.ev _ _ _) (h3.ev _ _ _)⟩
    | _ => cases g
  | iface t v' =>
    cases u with
    | nili => exact ifn t v' rfl rfl g
    | _ => exact plain g
  | nili => exact plain g
  | _ => exact dflt g
theorem binK_spec {op : BinOp} {tx tz : TypeId} {x y : Operand} {k : AV → Bool} (h : binK P T fr op tx x y k = true) (s : Rel T c ρ fr ds M nx a w) : Yes P ρ a (fun _ => True) (.binOp op tx x y tz) k := by
  obtain ⟨v, r, h1, h2⟩ := argK_spec h s
  obtain ⟨u, q, h3, g⟩ := argK_spec h2 s
  exact bin2K_spec h1 h3 g
end
end Go.Ev
set_option linter.unusedSimpArgs false
set_option linter.unusedVariables false
namespace Go.Ev
open Go.Sl
noncomputable section
variable {P : Program} {T : Tabs P} {c : Cn} {ρ : Env} {fr : Tr AV} {ds : List AD} {M : Mem} {nx : Nat} {a : Act} {w : World}

def TD.known : TD → Bool
  | .other => false
  | _ => true
theorem TDok.known {t : TypeId} {d : TD} (h : TDok P t d) (hk : d.known = true) : ∃ x, P.underlying t = some x := by
  cases d <;> simp only [TD.known, Bool.false_eq_true] at hk <;> simp only [TDok] at h
  case ptr => obtain ⟨e, h⟩ := h; exact ⟨_, h⟩
  case st => obtain ⟨e, h, _⟩ := h; exact ⟨_, h⟩
  case fn => obtain ⟨_, _, _, h⟩ := h; exact ⟨_, h⟩
  case ifc => obtain ⟨_, h⟩ := h; exact ⟨_, h⟩
  all_goals exact ⟨_, h⟩
def knownK (T : Tabs P) (t : TypeId) (k : Bool) : Bool := Option.rec false (fun r => both r.td.known k) (T.T t)
theorem knownK_spec {t : TypeId} {k : Bool} (h : knownK T t k = true) : (∃ x, P.underlying t = some x) ∧ k = true := by
  obtain ⟨r, h1, h⟩ := opt_rec h
  obtain ⟨h2, h⟩ := both_eq.1 h
  exact ⟨(T.okT _ _ h1).td.known h2, h⟩

/-! ### bytes -/
def byteK (v : AV) (k : Nat → Bool) : Bool := match v with
  | .int .u8 (.ofNat b) => both (Nat.blt b 256) (k b)
  | _ => false
def isByte (v : AV) (b : Nat) : Prop := v = .int .u8 (.ofNat b) ∧ b < 256
theorem byteK_spec (v : AV) (k : Nat → Bool) (h : byteK v k = true) : ∃ b, isByte v b ∧ k b = true := by
  unfold byteK at h
  split at h
  · obtain ⟨h1, h⟩ := both_eq.1 h
    rw [Nat.blt_eq] at h1
    exact ⟨_, ⟨rfl, h1⟩, h⟩
  · cases h
theorem bytes_of : ∀ {A : List AV} {bs : List Nat} {vs : List Value}, All2 isByte A bs → RL ρ A vs → small bs = true ∧ vs = u8s (bs.map UInt8.ofNat)
  | [], [], vs, _, h => ⟨rfl, by rw [h.outNil]; rfl⟩
  | [], _ :: _, vs, h, _ => h.elim
  | _ :: _, [], vs, h, _ => h.elim
  | v :: A, b :: bs, vs, h, k => by
    obtain ⟨r, rs, rfl, h1, h2⟩ := k.out
    obtain ⟨⟨rfl, hb⟩, h4⟩ := h
    obtain ⟨h5, rfl⟩ := bytes_of h4 h2
    have : r = .int .u8 b := by simpa [ren] using h1.symm
    refine ⟨?_, ?_⟩
    · unfold small at *; simp [h5, hb]
    · rw [this]
      simp only [u8s, List.map_cons, u8_ofNat hb]
/-- The bytes of a slice. -/
def bytesK (M : Mem) (i o n : Nat) (k : List Nat → Bool) : Bool := Option.rec false (fun ck => Option.rec false (fun l => splitL l o fun _ y => splitL y n fun A _ => mapL byteK A k) ck.cells) (M.get i)
theorem bytesK_spec {i o n : Nat} {k : List Nat → Bool} (h : bytesK M i o n k = true) {hF : Hp} (s : Rep ρ M hF w) :
    ∃ bs e cs t fz, k bs = true ∧ small bs = true ∧ bs.length = n ∧ ρ[i]? = some e ∧ w.heap[e.1]? = some (.cells ⟨cs⟩ t fz) ∧ At cs (e.2.1 + o) (u8s (bs.map UInt8.ofNat)) := by
  obtain ⟨ck, h3, h2⟩ := opt_rec h
  obtain ⟨l, h4, h2⟩ := opt_rec h2
  obtain ⟨e, cs, t', fz, vs, he, hb, hl, hA⟩ := s.cells h3 h4
  obtain ⟨g1, h2⟩ := splitL_spec h2
  obtain ⟨g2, h2⟩ := splitL_spec h2
  obtain ⟨bs, g3, h2⟩ := mapL_spec byteK_spec h2
  have hlen := (hl.drop o).take n
  obtain ⟨g4, g5⟩ := bytes_of g3 hlen
  have hn : bs.length = n := by
    have e1 := hlen.length
    rw [g5, u8s_length, List.length_map, List.length_take_of_le g2] at e1; exact e1
  refine ⟨bs, e, cs, t', fz, h2, g4, hn, he, hb, ?_⟩
  rw [← g5]
  have := hA.sub (i := o) (n := n)
  exact this

/-! ### conversions -/
def convK (P : Program) (T : Tabs P) (fr : Tr AV) (M : Mem) (ts td : TypeId) (x : Operand) (k : AV → Bool) : Bool := argK T fr x fun v => knownK T ts (Option.rec false (fun r => match r with
  | ⟨.int k', _, _⟩ => (match v with
    | .int _ m => forceI (k'.wrap m) fun n => k (.int k' n)
    | _ => false)
  | ⟨.str, _, _⟩ => (match v with
    | .str l => k (.str l)
    | .sl i o n _ _ => Option.rec false (fun q => match q with
      | ⟨.sl e, _, _⟩ => Option.rec false (fun p => match p with
        | ⟨.int .u8, _, _⟩ => bytesK M i o n fun l => k (.str l)
        | _ => false) (T.T e)
      | _ => false) (T.T ts)
    | .nils => Option.rec false (fun q => match q with
      | ⟨.sl e, _, _⟩ => Option.rec false (fun p => match p with
        | ⟨.int .u8, _, _⟩ => k (.str [])
        | _ => false) (T.T e)
      | _ => false) (T.T ts)
    | .em _ _ _ _ => Option.rec false (fun q => match q with
      | ⟨.sl e, _, _⟩ => Option.rec false (fun p => match p with
        | ⟨.int .u8, _, _⟩ => k (.str [])
        | _ => false) (T.T e)
      | _ => false) (T.T ts)
    | _ => false)
  | _ => false) (T.T td))
theorem Yl.emStr {cx : Cx} {fe : Fr} {Γ : List HProp} {ty ts td e : TypeId} {x : Operand} {p : Option Addr} {c : Nat} (hs : P.underlying ts = some (.slice e)) (he : P.underlying e = some (.int .u8)) (hd : P.underlying td = some .string) (hx : Sl.ev cx fe x = some (.slice p 0 c)) : Yl P cx fe Γ (.convert ts td x) ty (str []) := fun a w d pos af g st => by
  cases p <;> simp [execOp, st.eval hx, run_convert_bytes_string w ts td e _ _ _ hs he hd, Conv.bytesToString, loadCells] <;> rfl
theorem convK_spec {ts td : TypeId} {x : Operand} {k : AV → Bool} (h : convK P T fr M ts td x k = true) (s : Rel T c ρ fr ds M nx a w) : Yes P ρ a (· = w) (.convert ts td x) k := by
  obtain ⟨v, r, h1, h2⟩ := argK_spec h s
  obtain ⟨⟨dsc, hdsc⟩, h2⟩ := knownK_spec h2
  obtain ⟨row, h3, h2⟩ := opt_rec h2
  have hrow := (T.okT _ _ h3).td
  obtain ⟨d, z, b⟩ := row
  clear h
  have slc : ∀ {k' : Bool} {f : TypeId → Bool}, (Option.rec false (fun q : TRow => match q with
      | ⟨.sl e, _, _⟩ => Option.rec false (fun p : TRow => match p with
        | ⟨.int .u8, _, _⟩ => k'
        | _ => false) (T.T e)
      | _ => false) (T.T ts) : Bool) = true → ∃ e, P.underlying ts = some (.slice e) ∧ P.underlying e = some (.int .u8) ∧ k' = true := by
    intro k' f hh
    obtain ⟨⟨d1, _, _⟩, g1, hh⟩ := opt_rec hh
    cases d1 <;> try (cases hh; done)
    rename_i e
    obtain ⟨⟨d2, _, _⟩, g2, hh⟩ := opt_rec hh
    cases d2 <;> try (cases hh; done)
    rename_i kd
    cases kd <;> try (cases hh; done)
    exact ⟨e, (T.okT _ _ g1).td, (T.okT _ _ g2).td, hh⟩
  cases d with
  | int k' =>
    cases v with
    | int k1 m =>
      obtain rfl : r = .int k1 m := by simpa [ren] using h1.ren.symm
      have h2 : forceI (k'.wrap m) (fun n => k (.int k' n)) = true := h2
      rw [forceI_eq] at h2
      exact ⟨_, _, rfl, h2, fun _ hw _ => by subst hw; exact Yl.convInt hdsc hrow (h1.ev _ _ _)⟩
    | _ => cases h2
  | str =>
    cases v with
    | str l =>
      obtain ⟨s1, rfl⟩ := ren_str h1.ren
      exact ⟨_, _, h1.ren, h2, fun _ hw _ => by subst hw; exact Yl.convStr hdsc hrow (h1.ev _ _ _)⟩
    | sl i o n c' sb =>
      obtain ⟨e, g1, g2, h2⟩ := slc (f := fun _ => true) h2
      obtain ⟨bs, e', cs, t, fz, q1, q2, q3, q4, q5, q6⟩ := bytesK_spec h2 s.rep
      have e1 := h1.ren
      simp only [ren, q4, Option.map_some, Option.some.injEq] at e1
      subst e1
      have hrd : Rd [] (cxA none a w (mem w)).hF e'.1 (.cells ⟨cs⟩ t fz) := Rd.ro q5
      exact ⟨_, _, ren_strV q2, q1, fun _ hw _ => by subst hw; exact Yl.bytesStr g1 g2 hrow (h1.ev _ _ _) hrd q6 (by simpa using q3)⟩
    | nils =>
      obtain ⟨e, g1, g2, h2⟩ := slc (f := fun _ => true) h2
      obtain rfl : r = .slice none 0 0 := by simpa [ren] using h1.ren.symm
      exact ⟨_, _, ren_strV rfl, h2, fun _ hw _ => by subst hw; exact Yl.emStr g1 g2 hrow (h1.ev _ _ _)⟩
    | em i o o' sb =>
      obtain ⟨e, g1, g2, h2⟩ := slc (f := fun _ => true) h2
      have e1 := h1.ren
      simp only [ren, Option.map_eq_some_iff] at e1
      obtain ⟨e', _, rfl⟩ := e1
      exact ⟨_, _, ren_strV rfl, h2, fun _ hw _ => by subst hw; exact Yl.emStr g1 g2 hrow (h1.ev _ _ _)⟩
    | _ => cases h2
  | _ => cases h2

/-! ### interfaces, functions -/
def TD.plain : TD → Bool
  | .other => false
  | .ifc => false
  | _ => true
def mkIfcK (T : Tabs P) (fr : Tr AV) (t : TypeId) (x : Operand) (k : AV → Bool) : Bool := argK T fr x fun v => Option.rec false (fun r => both r.td.plain (k (.iface t v))) (T.T t)
theorem mkIfcK_spec {t : TypeId} {x : Operand} {k : AV → Bool} (h : mkIfcK T fr t x k = true) (s : Rel T c ρ fr ds M nx a w) : Yes P ρ a (fun _ => True) (.makeInterface t x) k := by
  obtain ⟨v, r, h1, h2⟩ := argK_spec h s
  obtain ⟨row, h3, h2⟩ := opt_rec h2
  obtain ⟨h4, h2⟩ := both_eq.1 h2
  have hrow := (T.okT _ _ h3).td
  refine ⟨.iface t v, .iface t r, by simp [ren, h1.ren], h2, fun _ _ ty => fun a w d pos af g st => ?_⟩
  obtain ⟨d, z, b⟩ := row
  cases d <;> simp only [TD.plain, Bool.false_eq_true] at h4 <;> simp only [TDok] at hrow
  case ptr => obtain ⟨e, hrow⟩ := hrow; simp [execOp, Instr.makeInterface, st.eval (h1.ev _ _ _), run_underlying hrow]
  case st => obtain ⟨e, hrow, _⟩ := hrow; simp [execOp, Instr.makeInterface, st.eval (h1.ev _ _ _), run_underlying hrow]
  case fn => obtain ⟨_, _, _, hrow⟩ := hrow; simp [execOp, Instr.makeInterface, st.eval (h1.ev _ _ _), run_underlying hrow]
  all_goals simp [execOp, Instr.makeInterface, st.eval (h1.ev _ _ _), run_underlying hrow]
def mkFnK (T : Tabs P) (fr : Tr AV) (f : Fn) (first cap : Array Operand) (k : AV → Bool) : Bool := argsK T fr first.toList fun xs => argsK T fr cap.toList fun ys => k (.fn f xs ys)
theorem mkFnK_spec {f : Fn} {first cap : Array Operand} {k : AV → Bool} (h : mkFnK T fr f first cap k = true) (s : Rel T c ρ fr ds M nx a w) : Yes P ρ a (fun _ => True) (.makeFunc f first cap) k := by
  obtain ⟨xs, us, h1, h2⟩ := argsK_spec s h
  obtain ⟨ys, vs, h3, h4⟩ := argsK_spec s h2
  refine ⟨.fn f xs ys, .func f ⟨us⟩ ⟨vs⟩, by simp [ren, show renL ρ xs = some us from h1.1, show renL ρ ys = some vs from h3.1], h4, fun w _ ty => ?_⟩
  have := Yl.makeFunc (P := P) (Γ := []) (ty := ty) (f := f) (h1.2 none w (mem w)) (h3.2 none w (mem w))
  simpa using this

/-! ### lengths -/
def lenK (T : Tabs P) (fr : Tr AV) (M : Mem) (t : TypeId) (x : Operand) (k : AV → Bool) : Bool := argK T fr x fun v => Option.rec false (fun r => match r with
  | ⟨.str, _, _⟩ => (match v with
    | .str l => lenL l 0 fun n => k (.int .i64 (.ofNat n))
    | _ => false)
  | ⟨.sl _, _, _⟩ => (match v with
    | .sl _ _ n _ _ => k (.int .i64 (.ofNat n))
    | .nils => k (.int .i64 (.ofNat 0))
    | .em _ _ _ _ => k (.int .i64 (.ofNat 0))
    | _ => false)
  | ⟨.map _ _, _, _⟩ => (match v with
    | .map i => Option.rec false (fun ck => match ck with
      | .map es _ => lenL es 0 fun n => k (.int .i64 (.ofNat n))
      | _ => false) (M.get i)
    | .nilm => k (.int .i64 (.ofNat 0))
    | _ => false)
  | _ => false) (T.T t)
theorem renM_len : ∀ {es : List (AV × AV × Nat)} {L : List MapEntry}, renM ρ es = some L → L.length = es.length
  | [], L, h => by cases h; rfl
  | (k, v, b) :: es, L, h => by
    simp only [renM, Option.bind_eq_some_iff, Option.map_eq_some_iff] at h
    obtain ⟨_, _, _, _, r, hr, rfl⟩ := h
    simp [renM_len hr]
theorem lenK_spec {t : TypeId} {x : Operand} {k : AV → Bool} (h : lenK T fr M t x k = true) (s : Rel T c ρ fr ds M nx a w) : Yes P ρ a (· = w) (.call ⟨.builtin .len, #[x], #[t]⟩) k := by
  obtain ⟨v, r, h1, h2⟩ := argK_spec h s
  obtain ⟨row, h3, h2⟩ := opt_rec h2
  have hrow := (T.okT _ _ h3).td
  obtain ⟨d, z, b⟩ := row
  clear h
  cases d with
  | str =>
    cases v with
    | str l =>
      obtain ⟨s1, rfl⟩ := ren_str h1.ren
      have h2 : lenL l 0 (fun n => k (.int .i64 (.ofNat n))) = true := h2
      rw [lenL_eq] at h2
      refine ⟨_, _, rfl, h2, fun w' _ ty => ?_⟩
      have := Yl.len_str (P := P) (Γ := []) (ty := ty) hrow (h1.ev none w' (mem w'))
      simpa using this
    | _ => cases h2
  | sl e =>
    cases v with
    | sl i o n c' sb =>
      have e1 := h1.ren
      simp only [ren, Option.map_eq_some_iff] at e1
      obtain ⟨e', _, rfl⟩ := e1
      exact ⟨_, _, rfl, h2, fun _ hw _ => by subst hw; exact Yl.len_slice hrow (h1.ev _ _ _)⟩
    | nils =>
      obtain rfl : r = .slice none 0 0 := by simpa [ren] using h1.ren.symm
      exact ⟨_, _, rfl, h2, fun _ hw _ => by subst hw; exact Yl.len_slice hrow (h1.ev _ _ _)⟩
    | em i o o' sb =>
      have e1 := h1.ren
      simp only [ren, Option.map_eq_some_iff] at e1
      obtain ⟨e', _, rfl⟩ := e1
      exact ⟨_, _, rfl, h2, fun _ hw _ => by subst hw; exact Yl.len_slice hrow (h1.ev _ _ _)⟩
    | _ => cases h2
  | map kt e =>
    cases v with
    | map i =>
      have h2 : (Option.rec false (fun ck : Ck => match ck with
        | .map es _ => lenL es 0 fun n => k (.int .i64 (.ofNat n))
        | _ => false) (M.get i) : Bool) = true := h2
      obtain ⟨ck, h4, h2⟩ := opt_rec h2
      cases ck <;> try (cases h2; done)
      rename_i es cl
      have h2 : lenL es 0 (fun n => k (.int .i64 (.ofNat n))) = true := h2
      rw [lenL_eq] at h2
      obtain ⟨e', q1, ⟨L, q2, q3⟩, _⟩ := s.rep.own _ _ h4
      have e1 := h1.ren
      simp only [ren, q1, Option.map_some, Option.some.injEq] at e1
      subst e1
      refine ⟨_, .int .i64 L.length, by rw [renM_len q2]; rfl, h2, fun w1 hw ty => ?_⟩
      subst hw
      intro a' w' d pos af g st
      have hb : w'.heap[e'.1]? = some (.map ⟨L⟩ cl) := (Rd.ro (Γ := []) (show (mem w1) e'.1 = some _ from q3)) w' st.heap
      have hg : (getObj e'.1).run P w' = .ok (.map ⟨L⟩ cl) w' := by simp [getObj, Sem.run, hb]
      simp [execOp, resolve, invoke, builtin, Builtin.len_, st.eval (h1.ev _ _ _), run_underlying hrow, hg, goInt]
    | nilm =>
      obtain rfl : r = .map none := by simpa [ren] using h1.ren.symm
      refine ⟨_, .int .i64 0, rfl, h2, fun w1 hw ty => ?_⟩
      subst hw
      intro a' w' d pos af g st
      simp [execOp, resolve, invoke, builtin, Builtin.len_, st.eval (h1.ev _ _ _), run_underlying hrow, goInt]
    | _ => cases h2
  | _ => cases h2
end
end Go.Ev
set_option linter.unusedSimpArgs false
set_option linter.unusedVariables false
namespace Go.Ev
open Go.Sl
noncomputable section
variable {P : Program} {T : Tabs P} {c : Cn} {ρ : Env} {fr : Tr AV} {ds : List AD} {M : Mem} {nx : Nat} {a : Act} {w : World}

/-! ### zero values -/
def zeroA (P : Program) (t : TypeId) : Option AV := (zeroV P t).bind (ofV 9)
theorem zeroA_spec {t : TypeId} {v : AV} (h : zeroA P t = some v) (ρ : Env) : ∃ z, zeroV P t = some z ∧ ren ρ v = some z ∧ zeroL P t = some z.cells.toList := by
  obtain ⟨z, h1, h2⟩ := Option.bind_eq_some_iff.1 h
  refine ⟨z, h1, ofV_spec _ _ _ h2, ?_⟩
  unfold zeroV at h1; unfold zeroL; rw [h1]; rfl
/-- The zero value, whole. -/
def zeroK (P : Program) (t : TypeId) (k : AV → Bool) : Bool := Option.rec false k (zeroA P t)

/-! ### cuts -/
def optN (T : Tabs P) (fr : Tr AV) (x : Option Operand) (d : Nat) (k : Nat → Bool) : Bool := match x with
  | none => k d
  | some y => argK T fr y fun v => match v with
    | .int _ (.ofNat n) => k n
    | _ => false
def Opt (ρ : Env) (a : Act) (x : Option Operand) (d n : Nat) : Prop := (x = none ∧ n = d) ∨ ∃ y kd, x = some y ∧ Val ρ a y (.int kd (.ofNat n)) (.int kd (.ofNat n))
theorem optN_spec {x : Option Operand} {d : Nat} {k : Nat → Bool} (h : optN T fr x d k = true) (s : Rel T c ρ fr ds M nx a w) : ∃ n, Opt ρ a x d n ∧ k n = true := by
  unfold optN at h
  split at h
  · exact ⟨d, .inl ⟨rfl, rfl⟩, h⟩
  · rename_i y
    obtain ⟨v, r, h1, h2⟩ := argK_spec h s
    cases v <;> try (cases h2; done)
    rename_i kd i
    cases i with
    | ofNat n =>
      obtain rfl : r = .int kd (.ofNat n) := by simpa [ren] using h1.ren.symm
      exact ⟨n, .inr ⟨y, kd, rfl, h1⟩, h2⟩
    | negSucc n => cases h2
theorem bounds_run {b : Bool} {len cap l h m : Nat} {lo hi mx : Option Operand} {dl dh dm : Nat} (h1 : Opt ρ a lo dl l) (h2 : Opt ρ a hi dh h) (h3 : Opt ρ a mx dm m) (hl : lo = none → l = 0) (hh : hi = none → h = len ∧ mx = none) (hm : mx = none → m = cap) (hm' : m ≤ cap) (hh' : hi = none ∨ h ≤ m) (hlh : l ≤ h) :
    (Instr.sliceBounds b len cap (lo.map a.eval) (hi.map a.eval) (mx.map a.eval)).run P w = .ok (l, h, m) w := by
  have e1 : ∀ {x : Option Operand} {d n : Nat}, Opt ρ a x d n → x = none ∨ ∃ y kd, x = some y ∧ a.eval y = .int kd (n : Int) := fun h => by
    rcases h with ⟨h, _⟩ | ⟨y, kd, rfl, h⟩
    · exact .inl h
    · exact .inr ⟨y, kd, rfl, h.eval⟩
  rcases e1 h3 with rfl | ⟨y3, k3, rfl, v3⟩
  · obtain rfl := hm rfl
    rcases e1 h2 with rfl | ⟨y2, k2, rfl, v2⟩
    · obtain ⟨rfl, _⟩ := hh rfl
      rcases e1 h1 with rfl | ⟨y1, k1, rfl, v1⟩
      · obtain rfl := hl rfl
        simp [Instr.sliceBounds]
      · simp [Instr.sliceBounds, Instr.sliceBound, asIntOf, v1, hlh]
    · have hh' : h ≤ m := hh'.resolve_left (by simp)
      rcases e1 h1 with rfl | ⟨y1, k1, rfl, v1⟩
      · obtain rfl := hl rfl
        simp [Instr.sliceBounds, Instr.sliceBound, asIntOf, v2, hh']
      · simp [Instr.sliceBounds, Instr.sliceBound, asIntOf, v1, v2, hlh, hh']
  · rcases e1 h2 with rfl | ⟨y2, k2, rfl, v2⟩
    · obtain ⟨_, h⟩ := hh rfl; cases h
    · have hh' : h ≤ m := hh'.resolve_left (by simp)
      rcases e1 h1 with rfl | ⟨y1, k1, rfl, v1⟩
      · obtain rfl := hl rfl
        simp [Instr.sliceBounds, Instr.sliceBound, asIntOf, v2, v3, hh', hm']
      · simp [Instr.sliceBounds, Instr.sliceBound, asIntOf, v1, v2, v3, hlh, hh', hm']
theorem Yl.cut {t e : TypeId} {sz l h m n cap : Nat} {p : Option Addr} {x : Operand} {lo hi mx : Option Operand} (ht : P.underlying t = some (.slice e)) (hs : tsize P e = some sz) (hx : a.eval x = .slice p n cap)
    (hb : ∀ w, (Instr.sliceBounds true n cap (lo.map a.eval) (hi.map a.eval) (mx.map a.eval)).run P w = .ok (l, h, m) w) (d : Option Tmp) (ty : TypeId) (pos : String) (af : Array Edge) (g : Option (Nat × Bool)) (w : World) :
    (execOp a.eval ⟨d, .slice t x lo hi mx, ty, pos, af, g⟩).run P w = .ok (.value (.slice (if m = l then p else p.map (·.add (l * sz))) (h - l) (m - l))) w := by
  simp [execOp, Instr.sliceAt, Instr.slice, run_underlying ht, Sl.run_sizeOf hs, hx, hb]
theorem Yl.cutArr {t e : TypeId} {sz l h m n : Nat} {p : Addr} {x : Operand} {lo hi mx : Option Operand} (ht : P.underlying t = some (.array n e)) (hs : tsize P e = some sz) (hx : a.eval x = .pointer (some p))
    (hb : ∀ w, (Instr.sliceBounds false n n (lo.map a.eval) (hi.map a.eval) (mx.map a.eval)).run P w = .ok (l, h, m) w) (d : Option Tmp) (ty : TypeId) (pos : String) (af : Array Edge) (g : Option (Nat × Bool)) (w : World) :
    (execOp a.eval ⟨d, .slice t x lo hi mx, ty, pos, af, g⟩).run P w = .ok (.value (.slice (some (if m = l then p else p.add (l * sz))) (h - l) (m - l))) w := by
  simp [execOp, Instr.sliceAt, Instr.sureAddr, run_underlying ht, Sl.run_sizeOf hs, hx, hb]
/-- Of the activation's operands alone. -/
theorem yl_of {op : Op} {ty : TypeId} {r : Value} (h : ∀ d pos af g w, (execOp a.eval ⟨d, op, ty, pos, af, g⟩).run P w = .ok (.value r) w) : Yl P (cxA none a w (mem w)) (full a) [] op ty r := fun a' w' d pos af g st => by
  have : a'.eval = a.eval ∨ True := .inr trivial
  have ht : a'.tmps = a.tmps := by
    apply Array.ext (show a'.tmps.size = a.tmps.size from st.size)
    intro i h1 h2
    have := st.slots i (a.tmps.getD i undef) (by rw [get_full, if_pos h2]) h2
    rw [Array.getElem?_eq_getElem h1] at this
    simpa [h2] using this
  have he : a'.eval = a.eval := by funext x; cases x <;> simp [Act.eval, ht]
  rw [he]; exact h d pos af g w'
def noMax (mx hi : Option Operand) (b : Bool) : Bool := match mx with
  | some _ => (match hi with
    | none => false
    | some _ => b)
  | none => b
def anyS (lo hi : Option Operand) : Bool := match lo with
  | none => hi.isSome
  | some _ => true
/-- Where a cut begins. -/
def startK (o l sz : Nat) (moved : Bool) (k : Nat → Bool) : Bool := Bool.rec (k o) (forceN (Nat.add o (Nat.mul l sz)) k) moved
def cutSlK (sz : Nat) (i o n c : Nat) (sb : Bool) (l h : Nat) (k : AV → Bool) : Bool :=
  both (Nat.ble h c) (both (Nat.ble l h) (forceN (Nat.sub h l) fun n' => forceN (Nat.sub c l) fun c' =>
    Bool.rec (startK o l sz true fun o' => k (.sl i o' n' c' sb)) (Bool.rec (startK o l sz false fun o' => k (.sl i o' n' c' sb)) (Bool.rec (forceN (Nat.add o (Nat.mul l sz)) fun o' => k (.em i o o' true)) (k (.sl i o n' c' sb)) (Nat.beq l 0)) sb) (Nat.beq l c)))
def sliceK (P : Program) (T : Tabs P) (fr : Tr AV) (t : TypeId) (x : Operand) (lo hi mx : Option Operand) (k : AV → Bool) : Bool := argK T fr x fun v => Option.rec false (fun r => match r with
  | ⟨.sl e, _, _⟩ => Option.rec false (fun q => match v with
    | .sl i o n c sb => (match mx with
      | none => optN T fr hi n fun h => optN T fr lo 0 fun l => cutSlK q.size i o n c sb l h k
      | some _ => (match hi with
        | none => false
        | some _ => optN T fr mx 0 fun m => optN T fr hi 0 fun h => optN T fr lo 0 fun l => both (Nat.ble m c) (both (Nat.ble h m) (both (Nat.ble l h) (forceN (Nat.sub h l) fun n' => forceN (Nat.sub m l) fun c' =>
            startK o l q.size (notB (Nat.beq m l)) fun o' => k (.sl i o' n' c' false)))))) 
    | .nils => optN T fr mx 0 fun m => optN T fr hi 0 fun h => optN T fr lo 0 fun l => both (Nat.beq m 0) (both (Nat.beq h 0) (both (Nat.beq l 0) (noMax mx hi (k .nils))))
    | .em i o o' sb => (match mx with
      | none => optN T fr hi 0 fun h => optN T fr lo 0 fun l => both (Nat.beq h 0) (both (Nat.beq l 0) (k (.em i o o' sb)))
      | some _ => (match hi with
        | none => false
        | some _ => optN T fr mx 0 fun m => optN T fr hi 0 fun h => optN T fr lo 0 fun l => both (Nat.beq m 0) (both (Nat.beq h 0) (both (Nat.beq l 0) (k (.em i o o' false))))))
    | _ => false) (T.T e)
  | ⟨.arr n e, _, _⟩ => Option.rec false (fun q => match v with
    | .ptr i o => (match mx with
      | none => optN T fr hi n fun h => optN T fr lo 0 fun l => both (Nat.ble h n) (both (Nat.ble l h) (forceN (Nat.sub h l) fun n' => forceN (Nat.sub n l) fun c' => startK o l q.size (notB (Nat.beq n l)) fun o' => k (.sl i o' n' c' false)))
      | some _ => false)
    | _ => false) (T.T e)
  | ⟨.str, _, _⟩ => (match v with
    | .str s => (match mx with
      | none => both (anyS lo hi) (lenL s 0 fun n => optN T fr hi n fun h => optN T fr lo 0 fun l => both (Nat.ble h n) (both (Nat.ble l h) (splitL s h fun A _ => splitL A l fun _ B => k (.str B))))
      | some _ => false)
    | _ => false)
  | _ => false) (T.T t)
theorem startK_spec {o l sz : Nat} {mv : Bool} {k : Nat → Bool} (h : startK o l sz mv k = true) : k (cond mv (o + l * sz) o) = true := by
  unfold startK at h
  cases mv with
  | false => exact h
  | true => rw [forceN_eq] at h; exact h
theorem add_if {b o n : Nat} : (Addr.mk b o none).add n = ⟨b, o + n, none⟩ := Addr.add_mid b o n
theorem small_take {l : List Nat} (h : small l = true) (n : Nat) : small (l.take n) = true := by
  unfold small at *
  rw [List.all_eq_true] at *
  exact fun x hx => h x (List.mem_of_mem_take hx)
theorem small_drop {l : List Nat} (h : small l = true) (n : Nat) : small (l.drop n) = true := by
  unfold small at *
  rw [List.all_eq_true] at *
  exact fun x hx => h x (List.mem_of_mem_drop hx)
theorem cutSlK_spec {sz i o n cc l h : Nat} {sb : Bool} {k : AV → Bool} (g : cutSlK sz i o n cc sb l h k = true) {e : Nat × Nat × Nat} (he : ρ[i]? = some e) :
    h ≤ cc ∧ l ≤ h ∧ ∃ v, k v = true ∧ ren ρ v = some (.slice (if cc + cond sb e.2.2 0 = l then some ⟨e.1, e.2.1 + o, none⟩ else some ⟨e.1, e.2.1 + o + l * sz, none⟩) (h - l) (cc + cond sb e.2.2 0 - l)) := by
  unfold cutSlK at g
  obtain ⟨g1, g⟩ := both_eq.1 g
  obtain ⟨g2, g⟩ := both_eq.1 g
  rw [forceN_eq, forceN_eq] at g
  have g1 := Nat.le_of_ble_eq_true g1
  have g2 := Nat.le_of_ble_eq_true g2
  refine ⟨g1, g2, ?_⟩
  cases q : Nat.beq l cc with
  | false =>
    rw [q] at g
    have hne : l ≠ cc := fun e => by subst e; simp at q
    have g := startK_spec (show startK o l sz true (fun o' => k (.sl i o' (h - l) (cc - l) sb)) = true from g)
    refine ⟨_, g, ?_⟩
    simp only [ren, he, Option.map_some, cond_true]
    rw [if_neg (by omega)]
    cases sb
    · simp [Nat.add_assoc]
    · simp only [cond_true, Option.some.injEq, Value.slice.injEq, true_and]; exact ⟨by simp [Nat.add_assoc], by omega⟩
  | true =>
    have hq := Nat.eq_of_beq_eq_true q
    rw [q] at g
    subst hq
    cases sb with
    | false =>
      have g := startK_spec (show startK o l sz false (fun o' => k (.sl i o' (h - l) (l - l) false)) = true from g)
      refine ⟨_, g, ?_⟩
      simp [ren, he]
    | true =>
      cases q2 : Nat.beq l 0 with
      | true =>
        have e2 := Nat.eq_of_beq_eq_true q2
        subst e2
        refine ⟨_, g, ?_⟩
        simp only [ren, he, Option.map_some, cond_true, Nat.zero_mul, Nat.add_zero, ite_self, Nat.sub_zero]
        rfl
      | false =>
        rw [q2] at g
        have g : forceN (Nat.add o (Nat.mul l sz)) (fun o' => k (.em i o o' true)) = true := g
        rw [forceN_eq] at g
        refine ⟨_, g, ?_⟩
        simp only [ren, he, Option.map_some, cond_true]
        have hh : h = l := by omega
        subst hh
        cases q3 : Nat.beq e.2.2 0 with
        | true =>
          have := Nat.eq_of_beq_eq_true q3
          rw [this]; simp
        | false =>
          have : e.2.2 ≠ 0 := fun z => by rw [z] at q3; simp at q3
          rw [if_neg (by omega)]
          simp [Nat.add_assoc]
theorem sliceK_spec {t : TypeId} {x : Operand} {lo hi mx : Option Operand} {k : AV → Bool} (h : sliceK P T fr t x lo hi mx k = true) (s : Rel T c ρ fr ds M nx a w) : Yes P ρ a (fun _ => True) (.slice t x lo hi mx) k := by
  obtain ⟨v, r, h1, h2⟩ := argK_spec h s
  obtain ⟨row, h3, h2⟩ := opt_rec h2
  have hrow := (T.okT _ _ h3).td
  obtain ⟨d, z, b⟩ := row
  clear h
  cases d with
  | sl e =>
    obtain ⟨q, h4, h2⟩ := opt_rec h2
    have hq := (T.okT _ _ h4).size
    cases v with
    | sl i o n cc sb =>
      have e1 := h1.ren
      simp only [ren, Option.map_eq_some_iff] at e1
      obtain ⟨e', he, rfl⟩ := e1
      cases mx with
      | none =>
        obtain ⟨hh, o2, h2⟩ := optN_spec (k := fun h => optN T fr lo 0 fun l => cutSlK q.size i o n cc sb l h k) h2 s
        obtain ⟨l, o1, h2⟩ := optN_spec h2 s
        obtain ⟨c1, c2, v', c3, c4⟩ := cutSlK_spec h2 he
        refine ⟨v', _, c4, c3, fun _ _ ty => yl_of fun d pos af g w' => ?_⟩
        have := Yl.cut hrow hq h1.eval (fun w => bounds_run (b := true) (P := P) (w := w) o1 o2 (.inl ⟨rfl, rfl⟩ : Opt ρ a none (cc + cond sb e'.2.2 0) (cc + cond sb e'.2.2 0)) (fun q => by rcases o1 with ⟨_, q'⟩ | ⟨_, _, q', _⟩; exact q'; rw [q] at q'; cases q')
          (fun q => by rcases o2 with ⟨_, q'⟩ | ⟨_, _, q', _⟩; exact ⟨q', rfl⟩; rw [q] at q'; cases q') (fun _ => rfl) (Nat.le_refl _) (.inr (by omega)) c2) d ty pos af g w'
        rw [this]
        simp only [Option.map_some, add_if]
      | some m' =>
        cases hi with
        | none => cases h2
        | some h' =>
          obtain ⟨m, o3, h2⟩ := optN_spec (k := fun m => optN T fr (some h') 0 fun h => optN T fr lo 0 fun l => both (Nat.ble m cc) (both (Nat.ble h m) (both (Nat.ble l h) (forceN (Nat.sub h l) fun n' => forceN (Nat.sub m l) fun c' =>
            startK o l q.size (notB (Nat.beq m l)) fun o' => k (.sl i o' n' c' false))))) h2 s
          obtain ⟨hh, o2, h2⟩ := optN_spec h2 s
          obtain ⟨l, o1, h2⟩ := optN_spec h2 s
          obtain ⟨c1, h2⟩ := both_eq.1 h2
          obtain ⟨c2, h2⟩ := both_eq.1 h2
          obtain ⟨c3, h2⟩ := both_eq.1 h2
          rw [forceN_eq, forceN_eq] at h2
          have h2 := startK_spec h2
          have c1 := Nat.le_of_ble_eq_true c1
          have c2 := Nat.le_of_ble_eq_true c2
          have c3 := Nat.le_of_ble_eq_true c3
          refine ⟨_, _, by simp only [ren, he, Option.map_some]; rfl, h2, fun _ _ ty => yl_of fun d pos af g w' => ?_⟩
          have := Yl.cut hrow hq h1.eval (fun w => bounds_run (b := true) (P := P) (w := w) o1 o2 o3 (fun q => by rcases o1 with ⟨_, q'⟩ | ⟨_, _, q', _⟩; exact q'; rw [q] at q'; cases q')
            (fun q => by cases q) (fun q => by cases q) (by omega) (.inr c2) c3) d ty pos af g w'
          rw [this, notB_eq]
          simp only [Option.map_some, add_if, cond_false, Nat.add_zero]
          cases q3 : Nat.beq m l with
          | true => rw [if_pos (Nat.eq_of_beq_eq_true q3)]; simp
          | false => rw [if_neg (fun z => by rw [z] at q3; simp at q3)]; simp [Nat.add_assoc]
    | nils =>
      obtain rfl : r = .slice none 0 0 := by simpa [ren] using h1.ren.symm
      obtain ⟨m, o3, h2⟩ := optN_spec (k := fun m => optN T fr hi 0 fun h => optN T fr lo 0 fun l => both (Nat.beq m 0) (both (Nat.beq h 0) (both (Nat.beq l 0) (noMax mx hi (k .nils))))) h2 s
      obtain ⟨hh, o2, h2⟩ := optN_spec h2 s
      obtain ⟨l, o1, h2⟩ := optN_spec h2 s
      obtain ⟨c1, h2⟩ := both_eq.1 h2
      obtain ⟨c2, h2⟩ := both_eq.1 h2
      obtain ⟨c3, h2⟩ := both_eq.1 h2
      obtain rfl := Nat.eq_of_beq_eq_true c1
      obtain rfl := Nat.eq_of_beq_eq_true c2
      obtain rfl := Nat.eq_of_beq_eq_true c3
      have hhi : hi = none → mx = none := by
        rintro rfl
        cases mx with
        | none => rfl
        | some _ => cases h2
      have hk : k .nils = true := by cases mx <;> cases hi <;> first | exact h2 | cases h2
      refine ⟨.nils, _, rfl, hk, fun _ _ ty => yl_of fun d pos af g w' => ?_⟩
      have := Yl.cut hrow hq h1.eval (fun w => bounds_run (b := true) (P := P) (w := w) o1 o2 o3 (fun _ => rfl) (fun q => ⟨rfl, hhi q⟩) (fun _ => rfl) (Nat.le_refl _) (.inr (Nat.le_refl _)) (Nat.le_refl _)) d ty pos af g w'
      rw [this]; simp
    | em i o o' sb =>
      have e1 := h1.ren
      simp only [ren, Option.map_eq_some_iff] at e1
      obtain ⟨e', he, rfl⟩ := e1
      have h0 : ∀ p : Addr, p.add 0 = p := fun p => rfl
      cases mx with
      | none =>
        obtain ⟨hh, o2, h2⟩ := optN_spec (k := fun h => optN T fr lo 0 fun l => both (Nat.beq h 0) (both (Nat.beq l 0) (k (.em i o o' sb)))) h2 s
        obtain ⟨l, o1, h2⟩ := optN_spec h2 s
        obtain ⟨c2, h2⟩ := both_eq.1 h2
        obtain ⟨c3, h2⟩ := both_eq.1 h2
        obtain rfl := Nat.eq_of_beq_eq_true c2
        obtain rfl := Nat.eq_of_beq_eq_true c3
        refine ⟨_, _, h1.ren, h2, fun _ _ ty => yl_of fun d pos af g w' => ?_⟩
        have := Yl.cut hrow hq h1.eval (fun w => bounds_run (b := true) (P := P) (w := w) o1 o2 (.inl ⟨rfl, rfl⟩ : Opt ρ a none (cond sb e'.2.2 0) (cond sb e'.2.2 0)) (fun _ => rfl) (fun _ => ⟨rfl, rfl⟩) (fun _ => rfl) (Nat.le_refl _) (.inr (Nat.zero_le _)) (Nat.le_refl _)) d ty pos af g w'
        rw [this]; simp [h0]
      | some m' =>
        cases hi with
        | none => cases h2
        | some h' =>
          obtain ⟨m, o3, h2⟩ := optN_spec (k := fun m => optN T fr (some h') 0 fun h => optN T fr lo 0 fun l => both (Nat.beq m 0) (both (Nat.beq h 0) (both (Nat.beq l 0) (k (.em i o o' false))))) h2 s
          obtain ⟨hh, o2, h2⟩ := optN_spec h2 s
          obtain ⟨l, o1, h2⟩ := optN_spec h2 s
          obtain ⟨c1, h2⟩ := both_eq.1 h2
          obtain ⟨c2, h2⟩ := both_eq.1 h2
          obtain ⟨c3, h2⟩ := both_eq.1 h2
          obtain rfl := Nat.eq_of_beq_eq_true c1
          obtain rfl := Nat.eq_of_beq_eq_true c2
          obtain rfl := Nat.eq_of_beq_eq_true c3
          refine ⟨_, .slice (some ⟨e'.1, e'.2.1 + cond (Nat.beq e'.2.2 0) o o', none⟩) 0 0, by simp only [ren, he, Option.map_some, cond_false], h2, fun _ _ ty => yl_of fun d pos af g w' => ?_⟩
          have := Yl.cut hrow hq h1.eval (fun w => bounds_run (b := true) (P := P) (w := w) o1 o2 o3 (fun _ => rfl) (fun q => by cases q) (fun q => by cases q) (Nat.zero_le _) (.inr (Nat.le_refl _)) (Nat.le_refl _)) d ty pos af g w'
          rw [this]; simp
    | _ => cases h2
  | arr n e =>
    obtain ⟨q, h4, h2⟩ := opt_rec h2
    have hq := (T.okT _ _ h4).size
    cases v with
    | ptr i o =>
      have e1 := h1.ren
      simp only [ren, Option.map_eq_some_iff] at e1
      obtain ⟨e', he, rfl⟩ := e1
      cases mx with
      | none =>
        obtain ⟨hh, o2, h2⟩ := optN_spec (k := fun h => optN T fr lo 0 fun l => both (Nat.ble h n) (both (Nat.ble l h) (forceN (Nat.sub h l) fun n' => forceN (Nat.sub n l) fun c' => startK o l q.size (notB (Nat.beq n l)) fun o' => k (.sl i o' n' c' false)))) h2 s
        obtain ⟨l, o1, h2⟩ := optN_spec h2 s
        obtain ⟨c1, h2⟩ := both_eq.1 h2
        obtain ⟨c2, h2⟩ := both_eq.1 h2
        rw [forceN_eq, forceN_eq] at h2
        have h2 := startK_spec h2
        have c1 := Nat.le_of_ble_eq_true c1
        have c2 := Nat.le_of_ble_eq_true c2
        refine ⟨_, _, by simp only [ren, he, Option.map_some]; rfl, h2, fun _ _ ty => yl_of fun d pos af g w' => ?_⟩
        have := Yl.cutArr hrow hq h1.eval (fun w => bounds_run (b := false) (P := P) (w := w) o1 o2 (.inl ⟨rfl, rfl⟩ : Opt ρ a none n n) (fun q => by rcases o1 with ⟨_, q'⟩ | ⟨_, _, q', _⟩; exact q'; rw [q] at q'; cases q')
          (fun q => by rcases o2 with ⟨_, q'⟩ | ⟨_, _, q', _⟩; exact ⟨q', rfl⟩; rw [q] at q'; cases q') (fun _ => rfl) (Nat.le_refl _) (.inr c1) c2) d ty pos af g w'
        rw [this, notB_eq]
        simp only [add_if, cond_false, Nat.add_zero]
        cases q3 : Nat.beq n l with
        | true => rw [if_pos (Nat.eq_of_beq_eq_true q3)]; simp
        | false => rw [if_neg (fun z => by rw [z] at q3; simp at q3)]; simp [Nat.add_assoc]
      | some m' => cases h2
    | _ => cases h2
  | str =>
    cases v with
    | str sl =>
      obtain ⟨s1, rfl⟩ := ren_str h1.ren
      cases mx with
      | none =>
        obtain ⟨hany, h2⟩ := both_eq.1 h2
        have h2 : lenL sl 0 (fun n => optN T fr hi n fun h => optN T fr lo 0 fun l => both (Nat.ble h n) (both (Nat.ble l h) (splitL sl h fun A _ => splitL A l fun _ B => k (.str B)))) = true := h2
        rw [lenL_eq] at h2
        obtain ⟨hh, o2, h2⟩ := optN_spec h2 s
        obtain ⟨l, o1, h2⟩ := optN_spec h2 s
        obtain ⟨c1, h2⟩ := both_eq.1 h2
        obtain ⟨c2, h2⟩ := both_eq.1 h2
        obtain ⟨_, h2⟩ := splitL_spec h2
        obtain ⟨_, h2⟩ := splitL_spec h2
        have c1 := Nat.le_of_ble_eq_true c1
        have c2 := Nat.le_of_ble_eq_true c2
        refine ⟨_, _, ren_strV (small_drop (small_take s1 hh) l), h2, fun w _ ty => ?_⟩
        have e2 : strV ((sl.take hh).drop l) = str (((sl.map UInt8.ofNat).take hh).drop l) := by unfold strV; rw [List.map_drop, List.map_take]
        rw [e2]
        rcases o1 with ⟨rfl, rfl⟩ | ⟨y1, k1, rfl, v1⟩ <;> rcases o2 with ⟨rfl, rfl⟩ | ⟨y2, k2, rfl, v2⟩
        · cases hany
        · have := Yl.str_h (P := P) (Γ := []) (ty := ty) (t := t) hrow (h1.ev none w (mem w)) (v2.ev none w (mem w)) ⟨by simp, by simpa using c1⟩
          simpa using this
        · have := Yl.str_l (P := P) (Γ := []) (ty := ty) (t := t) hrow (h1.ev none w (mem w)) (v1.ev none w (mem w)) ⟨by simp, by simpa using c2⟩
          rw [List.take_of_length_le (by simp)]
          simpa using this
        · have := Yl.str_lh (P := P) (Γ := []) (ty := ty) (t := t) hrow (h1.ev none w (mem w)) (v1.ev none w (mem w)) (v2.ev none w (mem w)) ⟨by simp, by simpa using c2, by simpa using c1⟩
          rw [List.drop_take]
          simpa using this
      | some m' => cases h2
    | _ => cases h2
  | _ => cases h2
end
end Go.Ev
set_option linter.unusedSimpArgs false
set_option linter.unusedVariables false
namespace Go.Ev
open Go.Sl
noncomputable section
variable {P : Program} {T : Tabs P} {c : Cn} {ρ : Env} {fr : Tr AV} {ds : List AD} {M : Mem} {nx : Nat} {a : Act} {w : World}

/-! ### keys -/
def genEqK (P : Program) (t : TypeId) (v u : AV) (k : Bool → Bool) : Bool := Option.rec false (fun r => Option.rec false (fun q => Option.rec false (fun b => forceB b k) (prun P (Op.equal t r q))) (toV u)) (toV v)
def keyEqK (P : Program) (T : Tabs P) (t : TypeId) (v u : AV) (k : Bool → Bool) : Bool := match v with
  | .str l => (match u with
    | .str m => Option.rec false (fun r => match r with
      | ⟨.str, _, _⟩ => forceB (eqN l m) k
      | _ => false) (T.T t)
    | _ => false)
  | .agg A => Option.rec false (fun r => match r with
    | ⟨.arr n e, _, _⟩ => Option.rec false (fun q => match q with
      | ⟨.int .u8, 1, _⟩ => (match u with
        | .agg B => mapL byteK A fun x => mapL byteK B fun y => lenL x 0 fun i => lenL y 0 fun j => both (Nat.beq i n) (both (Nat.beq j n) (forceB (eqN x y) k))
        | _ => false)
      | _ => genEqK P t (.agg A) u k) (T.T e)
    | _ => genEqK P t (.agg A) u k) (T.T t)
  | v => genEqK P t v u k
theorem genEqK_spec {t : TypeId} {v u : AV} {k : Bool → Bool} (h : genEqK P t v u k = true) {r q : Value} (hv : ren ρ v = some r) (hu : ren ρ u = some q) : ∃ b, k b = true ∧ ∀ w, (Op.equal t r q).run P w = .ok b w := by
  obtain ⟨r', h1, g1⟩ := opt_rec h
  obtain ⟨q', h2, g2⟩ := opt_rec g1
  obtain ⟨b, h3, g3⟩ := opt_rec g2
  rw [forceB_eq] at g3
  have e1 := toV_ren h1 ρ; rw [hv] at e1; cases e1
  have e2 := toV_ren h2 ρ; rw [hu] at e2; cases e2
  exact ⟨b, g3, prun_run h3⟩
theorem run_equal_str {t : TypeId} {p q : ByteArray} {w : World} (ht : P.underlying t = some .string) : (Op.equal t (.string p) (.string q)).run P w = .ok (p == q) w := by
  have h : ∀ d, (Op.equalIn (d + 1) t (.string p) (.string q)).run P w = .ok (p == q) w := fun d => by simp [Op.equalIn, run_underlying ht]
  exact h 9999
theorem ba_beq {l m : List Nat} (hl : small l = true) (hm : small m = true) : ((⟨⟨l.map UInt8.ofNat⟩⟩ : ByteArray) == ⟨⟨m.map UInt8.ofNat⟩⟩) = eqN l m := by
  rw [eqN_spec, Bool.eq_iff_iff, MapKept.bytes_beq, decide_eq_true_iff, ← map_inj hl hm]
  constructor
  · intro h; injection h with h; injection h
  · intro h; rw [h]
theorem keyEqK_spec {t : TypeId} {v u : AV} {k : Bool → Bool} (h : keyEqK P T t v u k = true) {r q : Value} (hv : ren ρ v = some r) (hu : ren ρ u = some q) : ∃ b, k b = true ∧ ∀ w, (Op.equal t r q).run P w = .ok b w := by
  cases v with
  | str l =>
    cases u with
    | str m =>
      obtain ⟨⟨d, z, b⟩, h1, h⟩ := opt_rec h
      cases d <;> try (cases h; done)
      have h : forceB (eqN l m) k = true := h
      rw [forceB_eq] at h
      obtain ⟨s1, rfl⟩ := ren_str hv
      obtain ⟨s2, rfl⟩ := ren_str hu
      exact ⟨_, h, fun w => by rw [← ba_beq s1 s2]; exact run_equal_str (T.okT _ _ h1).td⟩
    | _ => cases h
  | agg A =>
    obtain ⟨⟨d, z, b⟩, h1, h⟩ := opt_rec h
    cases d with
    | arr n e =>
      obtain ⟨⟨d', z', b'⟩, h2, h⟩ := opt_rec h
      by_cases hd : d' = .int .u8 ∧ z' = 1
      · obtain ⟨rfl, rfl⟩ := hd
        cases u with
        | agg B =>
          obtain ⟨x, g1, h⟩ := mapL_spec byteK_spec (show mapL byteK A (fun x => mapL byteK B fun y => lenL x 0 fun i => lenL y 0 fun j => both (Nat.beq i n) (both (Nat.beq j n) (forceB (eqN x y) k))) = true from h)
          obtain ⟨y, g2, h⟩ := mapL_spec byteK_spec h
          rw [lenL_eq, lenL_eq] at h
          obtain ⟨g3, h⟩ := both_eq.1 h
          obtain ⟨g4, h⟩ := both_eq.1 h
          rw [forceB_eq] at h
          simp only [ren, Option.map_eq_some_iff] at hv hu
          obtain ⟨us, hus, rfl⟩ := hv
          obtain ⟨vs, hvs, rfl⟩ := hu
          obtain ⟨g5, rfl⟩ := bytes_of (ρ := ρ) g1 hus
          obtain ⟨g6, rfl⟩ := bytes_of (ρ := ρ) g2 hvs
          refine ⟨_, h, fun w => ?_⟩
          have := run_equal_bytes (P := P) (w := w) (T.okT _ _ h1).td (T.okT _ _ h2).td (T.okT _ _ h2).size (p := x.map UInt8.ofNat) (q := y.map UInt8.ofNat) (by simpa using Nat.eq_of_beq_eq_true g3) (by simpa using Nat.eq_of_beq_eq_true g4)
          rw [this, eqN_spec]
          congr 1
          rw [Bool.eq_iff_iff, beq_iff_eq, decide_eq_true_iff, map_inj g5 g6]
        | _ => cases h
      · have : genEqK P t (.agg A) u k = true := by
          cases d' <;> try exact h
          rename_i kd
          cases kd <;> try exact h
          cases z' with
          | zero => exact h
          | succ z' => cases z' with
            | zero => exact absurd ⟨rfl, rfl⟩ hd
            | succ z' => exact h
        exact genEqK_spec this hv hu
    | _ => exact genEqK_spec h hv hu
  | _ => unfold keyEqK at h; exact genEqK_spec h hv hu
/-! ### arrays, structs, side by side -/
def aggEqK (P : Program) (T : Tabs P) (op : BinOp) (tx : TypeId) (v u : AV) (k : AV → Bool) : Bool := both (notB (P.eqGuardType P.depth tx)) (match op with
  | .eql => keyEqK P T tx v u fun b => k (.bool b)
  | .neq => keyEqK P T tx v u fun b => forceB (notB b) fun b => k (.bool b)
  | _ => false)
def binXK (P : Program) (T : Tabs P) (fr : Tr AV) (op : BinOp) (tx : TypeId) (x y : Operand) (k : AV → Bool) : Bool := argK T fr x fun v => match v with
  | .agg A => argK T fr y fun u => match u with
    | .agg B => aggEqK P T op tx (.agg A) (.agg B) k
    | _ => false
  | v => argK T fr y fun u => bin2K P T op tx x y v u k
theorem binXK_spec {op : BinOp} {tx tz : TypeId} {x y : Operand} {k : AV → Bool} (h : binXK P T fr op tx x y k = true) (s : Rel T c ρ fr ds M nx a w) : Yes P ρ a (fun _ => True) (.binOp op tx x y tz) k := by
  obtain ⟨v, r, h1, h2⟩ := argK_spec h s
  by_cases hv : ∃ A, v = .agg A
  · obtain ⟨A, rfl⟩ := hv
    obtain ⟨u, q, h3, g⟩ := argK_spec (show argK T fr y (fun u => match u with
      | .agg B => aggEqK P T op tx (.agg A) (.agg B) k
      | _ => false) = true from h2) s
    cases u <;> try (cases g; done)
    rename_i B
    obtain ⟨g1, g⟩ := both_eq.1 g
    rw [notB_eq, Bool.not_eq_true'] at g1
    have e1 := h1.ren
    have e3 := h3.ren
    simp only [ren, Option.map_eq_some_iff] at e1 e3
    obtain ⟨us, _, rfl⟩ := e1
    obtain ⟨vs, _, rfl⟩ := e3
    have hg : ∀ w, (eqGuard op tx x y (.agg ⟨us⟩) (.agg ⟨vs⟩)).run P w = .ok () w := fun w => by
      unfold eqGuard
      cases op <;> simp [g1]
    have of : ∀ {b : Bool} {v' : Value}, (∀ w, (binOp op tx (.agg ⟨us⟩) (.agg ⟨vs⟩)).run P w = .ok (.bool b) w) → k (.bool b) = true → Yes P ρ a (fun _ => True) (.binOp op tx x y tz) k := fun {b v'} a3 a2 =>
      ⟨.bool b, .bool b, rfl, a2, fun _ _ _ => fun a w d pos af g st => by
        have h := a3 w
        show (((do eqGuard op tx x y (a.eval x) (a.eval y); binOp op tx (a.eval x) (a.eval y) : Sem Value) >>= fun v => pure (.value v) : Sem Next)).run P w = _
        rw [st.eval (h1.ev _ _ _), st.eval (h3.ev _ _ _), Sem.run_bind, Sem.run_bind, hg, Result.andThen_ok, h]; rfl⟩
    cases op <;> try (cases g; done)
    · obtain ⟨b, g2, g3⟩ := keyEqK_spec (show keyEqK P T tx (.agg A) (.agg B) (fun b => k (.bool b)) = true from g) h1.ren h3.ren
      exact of (v' := undef) (fun w => by simp [binOp, g3 w]) g2
    · obtain ⟨b, g2, g3⟩ := keyEqK_spec (show keyEqK P T tx (.agg A) (.agg B) (fun b => forceB (notB b) fun b => k (.bool b)) = true from g) h1.ren h3.ren
      rw [forceB_eq, notB_eq] at g2
      exact of (v' := undef) (fun w => by simp [binOp, g3 w]) g2
  · obtain ⟨u, q, h3, g⟩ := argK_spec (show argK T fr y (fun u => bin2K P T op tx x y v u k) = true by cases v <;> first | exact h2 | exact absurd ⟨_, rfl⟩ hv) s
    exact bin2K_spec h1 h3 g
/-- The first entry with this key. -/
def findK (P : Program) (T : Tabs P) (t : TypeId) (key : AV) (es : List (AV × AV × Nat)) : Nat → (Option (Nat × AV × AV) → Bool) → Bool :=
  List.rec (fun _ k => k none) (fun e _ ih j k => Prod.rec (fun k' vb => Prod.rec (fun v _ => keyEqK P T t key k' fun b => Bool.rec (forceN (Nat.succ j) fun j => ih j k) (k (some (j, k', v))) b) vb) e) es
def Found (ρ : Env) (L : List MapEntry) : Option (Nat × AV × AV) → Option (Nat × Value) → Prop
  | none, none => True
  | some (j, k', v), some (j', r) => j = j' ∧ ren ρ v = some r ∧ ∃ e, L[j]? = some e ∧ ren ρ k' = some e.key ∧ e.val = r
  | _, _ => False
theorem sameNow_eq {d : TypeDesc} {t : TypeId} {r q : Value} {b : Bool} (hd : P.underlying t = some d) (h : Instr.sameNow d r q = some b) (w : World) : (Op.equal t r q).run P w = .ok b w := by
  have key : ∀ n, (Op.equalIn (n + 1) t r q).run P w = .ok b w := fun n => by
    unfold Instr.sameNow at h
    split at h
    · rename_i k1 x k2 y
      split at h
      · rename_i e; cases h; simp [Op.equalIn, run_underlying hd, e]
      · cases h
    · cases h; simp [Op.equalIn, run_underlying hd]
    · cases h; simp [Op.equalIn, run_underlying hd]
    · cases h
  exact key 9999
theorem findNow_asking {d : TypeDesc} {t : TypeId} {r : Value} (hd : P.underlying t = some d) (w : World) : ∀ (L : List MapEntry) (i : Nat) (x : Option (Nat × Value)), Instr.findNow d r L i = some x → (Instr.findAsking t r L i).run P w = .ok x w
  | [], i, x, h => by cases h; rfl
  | e :: L, i, x, h => by
    simp only [Instr.findNow] at h
    simp only [Instr.findAsking, Sem.run_bind]
    split at h
    · rename_i hs; cases h; rw [sameNow_eq hd hs w]; simp
    · rename_i hs; rw [sameNow_eq hd hs w]; simpa using findNow_asking hd w L (i + 1) x h
    · cases h
theorem run_findKey_of {d : TypeDesc} {t : TypeId} {r : Value} {L : List MapEntry} {x : Option (Nat × Value)} (hd : P.underlying t = some d) (w : World) (h : (Instr.findAsking t r L 0).run P w = .ok x w) : (Instr.findKey t r L).run P w = .ok x w := by
  unfold Instr.findKey
  simp only [Sem.run_bind, run_underlying hd, Result.andThen_ok]
  cases hn : Instr.findNow d r L 0 with
  | none => exact h
  | some y =>
    have := findNow_asking hd w L 0 y hn
    rw [h] at this; cases this
    rfl
theorem findK_spec {t : TypeId} {key : AV} {r : Value} (hk : ren ρ key = some r) : ∀ {es : List (AV × AV × Nat)} {j : Nat} {k : Option (Nat × AV × AV) → Bool} {L : List MapEntry}, findK P T t key es j k = true → renM ρ es = some L → ∀ pre, pre.length = j →
    ∃ x y, k x = true ∧ Found ρ (pre ++ L) x y ∧ ∀ w, (Instr.findAsking t r L j).run P w = .ok y w
  | [], j, k, L, h, hL, pre, hp => by cases hL; exact ⟨none, none, h, trivial, fun _ => rfl⟩
  | (k', v, b) :: es, j, k, L, h, hL, pre, hp => by
    simp only [renM, Option.bind_eq_some_iff, Option.map_eq_some_iff] at hL
    obtain ⟨kr, hkr, vr, hvr, L', hL', rfl⟩ := hL
    obtain ⟨q, h1, h2⟩ := keyEqK_spec (show keyEqK P T t key k' (fun b => Bool.rec (forceN (Nat.succ j) fun j => findK P T t key es j k) (k (some (j, k', v))) b) = true from h) hk hkr
    cases q with
    | true =>
      refine ⟨_, some (j, vr), h1, ⟨rfl, hvr, ⟨kr, vr, b⟩, by simp [← hp], hkr, rfl⟩, fun w => ?_⟩
      simp [Instr.findAsking, h2]
    | false =>
      have h1 : forceN (Nat.succ j) (fun j => findK P T t key es j k) = true := h1
      rw [forceN_eq] at h1
      obtain ⟨x, y, g1, g2, g3⟩ := findK_spec hk h1 hL' (pre ++ [⟨kr, vr, b⟩]) (by simp [hp])
      refine ⟨x, y, g1, by simpa using g2, fun w => ?_⟩
      simp only [Instr.findAsking, Sem.run_bind, h2, Result.andThen_ok]
      simpa using g3 w
/-- May this be a key? -/
def chkK (P : Program) (t : TypeId) (empty : Bool) (key : AV) (k : Bool) : Bool := Option.rec false (fun r => Option.rec false (fun _ => k) (prun P (Instr.checkKey empty 10000 t r))) (toV key)
theorem chkK_spec {t : TypeId} {e : Bool} {key : AV} {k : Bool} (h : chkK P t e key k = true) {r : Value} (hk : ren ρ key = some r) : k = true ∧ ∀ w, (Instr.checkKey e 10000 t r).run P w = .ok () w := by
  obtain ⟨r', h1, g1⟩ := opt_rec h
  obtain ⟨u, h2, g2⟩ := opt_rec g1
  have e1 := toV_ren h1 ρ; rw [hk] at e1; cases e1
  exact ⟨g2, prun_run h2⟩
/-- Strings and numbers always may. -/
def chkK' (P : Program) (T : Tabs P) (t : TypeId) (empty : Bool) (key : AV) (k : Bool) : Bool := match key with
  | .str _ => Option.rec false (fun r => match r with
    | ⟨.str, _, _⟩ => k
    | _ => false) (T.T t)
  | key => chkK P t empty key k
theorem chkK'_spec {t : TypeId} {e : Bool} {key : AV} {k : Bool} (h : chkK' P T t e key k = true) {r : Value} (hk : ren ρ key = some r) : k = true ∧ ∀ w, (Instr.checkKey e 10000 t r).run P w = .ok () w := by
  cases key with
  | str l =>
    obtain ⟨⟨d, z, b⟩, h1, h⟩ := opt_rec h
    cases d <;> try (cases h; done)
    refine ⟨h, fun w => ?_⟩
    have ht : P.underlying t = some .string := (T.okT _ _ h1).td
    have : ∀ n, (Instr.checkKey e (n + 1) t r).run P w = .ok () w := fun n => by simp [Instr.checkKey, run_underlying ht]
    exact this 9999
  | _ => unfold chkK' at h; exact chkK_spec h hk
def isEmp {α : Type} (l : List α) : Bool := List.rec true (fun _ _ _ => false) l
theorem isEmp_eq {α : Type} (l : List α) : isEmp l = l.isEmpty := by cases l <;> rfl
/-- What a map tells of a key. -/
def toldK (P : Program) (T : Tabs P) (kt e : TypeId) (es : List (AV × AV × Nat)) (key : AV) (ok : Bool) (k : AV → Bool) : Bool :=
  chkK' P T kt (isEmp es) key (findK P T kt key es 0 fun x => Option.rec (zeroK P e fun z => Bool.rec (k z) (k (.tup [z, .bool false])) ok) (fun p => Prod.rec (fun _ q => Prod.rec (fun _ v => Bool.rec (k v) (k (.tup [v, .bool true])) ok) q) p) x)
def lookupK (P : Program) (T : Tabs P) (fr : Tr AV) (M : Mem) (t : TypeId) (x y : Operand) (ok : Bool) (k : AV → Bool) : Bool := argK T fr x fun v => argK T fr y fun u => Option.rec false (fun r => match r with
  | ⟨.map kt e, _, _⟩ => knownK T kt (match v with
    | .nilm => toldK P T kt e [] u ok k
    | .map i => Option.rec false (fun ck => match ck with
      | .map es _ => toldK P T kt e es u ok k
      | _ => false) (M.get i)
    | _ => false)
  | _ => false) (T.T t)
theorem toldK_spec {kt e : TypeId} {es : List (AV × AV × Nat)} {key : AV} {ok : Bool} {k : AV → Bool} (h : toldK P T kt e es key ok k = true) {r : Value} (hk : ren ρ key = some r) {L : List MapEntry} (hL : renM ρ es = some L) {d : TypeDesc} (hd : P.underlying kt = some d) :
    ∃ v q, ren ρ v = some q ∧ k v = true ∧ (∀ w, (Instr.checkKey L.toArray.isEmpty 10000 kt r).run P w = .ok () w) ∧
      ((∃ j x, (∀ w, (Instr.findKey kt r L).run P w = .ok (some (j, x)) w) ∧ q = if ok then .tuple #[x, .bool true] else x) ∨ (∃ x, (∀ w, (Instr.findKey kt r L).run P w = .ok none w) ∧ zeroV P e = some x ∧ q = if ok then .tuple #[x, .bool false] else x)) := by
  obtain ⟨h, hc⟩ := chkK'_spec h hk
  have he : L.toArray.isEmpty = isEmp es := by rw [isEmp_eq, List.isEmpty_toArray]; have := renM_len hL; cases L <;> cases es <;> simp at this ⊢
  obtain ⟨x, y, h1, h2, h3⟩ := findK_spec (P := P) (T := T) hk h hL [] rfl
  have hf := fun w => run_findKey_of hd w (h3 w)
  cases x with
  | none =>
    cases y with
    | some _ => exact h2.elim
    | none =>
      obtain ⟨z, h4, h5⟩ := opt_rec (show (Option.rec false (fun z => Bool.rec (k z) (k (.tup [z, .bool false])) ok) (zeroA P e) : Bool) = true from h1)
      obtain ⟨zr, z1, z2, _⟩ := zeroA_spec h4 ρ
      cases ok with
      | false => exact ⟨z, zr, z2, h5, fun w => by rw [he]; exact hc w, .inr ⟨zr, hf, z1, rfl⟩⟩
      | true => exact ⟨_, .tuple #[zr, .bool false], by simp [ren, renL, z2], h5, fun w => by rw [he]; exact hc w, .inr ⟨zr, hf, z1, rfl⟩⟩
  | some p =>
    obtain ⟨j, k', v⟩ := p
    cases y with
    | none => exact h2.elim
    | some q =>
      obtain ⟨j', vr⟩ := q
      obtain ⟨rfl, hv, _⟩ := h2
      cases ok with
      | false => exact ⟨v, vr, hv, h1, fun w => by rw [he]; exact hc w, .inl ⟨j, vr, hf, rfl⟩⟩
      | true => exact ⟨_, .tuple #[vr, .bool true], by simp [ren, renL, hv], h1, fun w => by rw [he]; exact hc w, .inl ⟨j, vr, hf, rfl⟩⟩
theorem run_getMap {i : Nat} {L : List MapEntry} {cl : Nat} {w : World} (h : w.heap[i]? = some (.map ⟨L⟩ cl)) : (getObj i).run P w = .ok (.map ⟨L⟩ cl) w := by simp [getObj, Sem.run, h]
theorem lookupK_spec {t : TypeId} {x y : Operand} {ok : Bool} {k : AV → Bool} (h : lookupK P T fr M t x y ok k = true) (s : Rel T c ρ fr ds M nx a w) : Yes P ρ a (· = w) (.lookup t x y ok) k := by
  obtain ⟨v, r, h1, h2⟩ := argK_spec h s
  obtain ⟨u, q, h3, h2⟩ := argK_spec h2 s
  obtain ⟨⟨d, z, b⟩, h4, h2⟩ := opt_rec h2
  have hrow := (T.okT _ _ h4).td
  clear h
  cases d <;> try (cases h2; done)
  rename_i kt e
  obtain ⟨⟨kd, hkd⟩, h2⟩ := knownK_spec h2
  cases v with
  | nilm =>
    obtain ⟨v', q', g1, g2, g4, g5⟩ := toldK_spec (P := P) (T := T) h2 h3.ren (L := []) rfl hkd
    obtain rfl : r = .map none := by simpa [ren] using h1.ren.symm
    refine ⟨v', q', g1, g2, fun _ _ ty => yl_of fun d pos af g w' => ?_⟩
    have g4 := g4 w'
    simp only [List.isEmpty_toArray] at g4
    have e1 : (#[] : Array MapEntry).isEmpty = ([] : List MapEntry).isEmpty := rfl
    rcases g5 with ⟨j, x, g5, rfl⟩ | ⟨x, g5, g6, rfl⟩ <;> simp only [execOp, Instr.lookup, h1.eval, h3.eval, Sem.run_bind, run_underlying hrow, Result.andThen_ok, Sem.run_pure, e1, g4, g5, run_zeroV]
    rw [run_zeroV g6]; rfl
  | map i =>
    obtain ⟨ck, h5, h2⟩ := opt_rec (show (Option.rec false (fun ck : Ck => match ck with
      | .map es _ => toldK P T kt e es u ok k
      | _ => false) (M.get i) : Bool) = true from h2)
    cases ck <;> try (cases h2; done)
    rename_i es cl
    obtain ⟨e', q1, ⟨L, q2, q3⟩, _⟩ := s.rep.own _ _ h5
    have e1 := h1.ren
    simp only [ren, q1, Option.map_some, Option.some.injEq] at e1
    subst e1
    obtain ⟨v', q', g1, g2, g4, g5⟩ := toldK_spec (P := P) (T := T) h2 h3.ren q2 hkd
    refine ⟨v', q', g1, g2, fun w1 hw ty => ?_⟩
    subst hw
    intro a' w' d pos af g st
    have hb : w'.heap[e'.1]? = some (.map ⟨L⟩ cl) := (Rd.ro (Γ := []) (show (mem w1) e'.1 = some _ from q3)) w' st.heap
    have g4 := g4 w'
    have e1 : (⟨L⟩ : Array MapEntry).isEmpty = L.toArray.isEmpty := rfl
    rcases g5 with ⟨j, x, g5, rfl⟩ | ⟨x, g5, g6, rfl⟩ <;> simp only [execOp, Instr.lookup, st.eval (h1.ev _ _ _), st.eval (h3.ev _ _ _), Sem.run_bind, run_underlying hrow, Result.andThen_ok, Sem.run_pure, run_getMap hb, e1, g4, g5]
    rw [run_zeroV g6]; rfl
  | _ => cases h2
end
end Go.Ev
set_option linter.unusedSimpArgs false
set_option linter.unusedVariables false
namespace Go.Ev
open Go.Sl
noncomputable section
variable {P : Program} {T : Tabs P} {c : Cn} {ρ : Env} {fr : Tr AV} {ds : List AD} {M : Mem} {nx : Nat} {a : Act} {w : World}

/-! ### literals -/
def fillK (place : Nat → Option (Nat × Nat)) (is : List Nat) : List AV → List AV → (List AV → Bool) → Bool :=
  List.rec (fun vs l k => List.rec (k l) (fun _ _ _ => false) vs) (fun i _ ih vs l k => List.rec false (fun v vs _ => Option.rec false (fun q => Prod.rec (fun off size =>
    splitL l off fun A B => splitL B size fun _ C => lenL (cellsA v) 0 fun n => both (Nat.beq n size) (appL (cellsA v) C fun D => appL A D fun l' => ih vs l' k)) q) (place i)) vs) is
theorem fillK_spec {place : Nat → Option (Nat × Nat)} : ∀ {is : List Nat} {vs l : List AV} {k : List AV → Bool} {rs vl : List Value}, fillK place is vs l k = true → RL ρ vs rs → RL ρ l vl → ∃ l' vl', k l' = true ∧ RL ρ l' vl' ∧ fillL place vl (is.zip rs) = some vl'
  | [], [], l, k, rs, vl, h, h1, h2 => ⟨l, vl, h, h2, by rw [h1.outNil]; rfl⟩
  | [], _ :: _, l, k, rs, vl, h, h1, h2 => by cases h
  | i :: is, [], l, k, rs, vl, h, h1, h2 => by cases h
  | i :: is, v :: vs, l, k, rs, vl, h, h1, h2 => by
    obtain ⟨r, rs', rfl, hr, h1⟩ := h1.out
    obtain ⟨⟨off, size⟩, h3, h⟩ := opt_rec (show (Option.rec false (fun q : Nat × Nat => Prod.rec (fun off size =>
      splitL l off fun A B => splitL B size fun _ C => lenL (cellsA v) 0 fun n => both (Nat.beq n size) (appL (cellsA v) C fun D => appL A D fun l' => fillK place is vs l' k)) q) (place i) : Bool) = true from h)
    obtain ⟨g1, h⟩ := splitL_spec (show splitL l off (fun A B => splitL B size fun _ C => lenL (cellsA v) 0 fun n => both (Nat.beq n size) (appL (cellsA v) C fun D => appL A D fun l' => fillK place is vs l' k)) = true from h)
    obtain ⟨g2, h⟩ := splitL_spec h
    rw [lenL_eq] at h
    obtain ⟨g3, h⟩ := both_eq.1 h
    rw [appL_eq, appL_eq] at h
    have hc := cellsA_spec hr
    have hn : r.cells.toList.length = size := by rw [hc.length]; exact Nat.eq_of_beq_eq_true g3
    have hl := h2.length
    have hle : off + r.cells.toList.length ≤ vl.length := by
      rw [hn]; simp at g2; omega
    have hsp : RL ρ (l.take off ++ (cellsA v ++ (l.drop off).drop size)) (splice vl off r.cells.toList) := by
      unfold splice
      rw [List.append_assoc, hn, ← List.drop_drop]
      exact (h2.take off).append (hc.append ((h2.drop off).drop size))
    obtain ⟨l', vl', q1, q2, q3⟩ := fillK_spec h h1 hsp
    refine ⟨l', vl', q1, q2, ?_⟩
    simp only [List.zip_cons_cons, fillL, h3]
    have e1 : Nat.beq r.cells.toList.length size = true := by rw [hn]; simp
    have e2 : Nat.ble (off + r.cells.toList.length) vl.length = true := by rw [Nat.ble_eq]; exact hle
    rw [e1, e2]; exact q3
def placeOf (T : Tabs P) (t : TypeId) (k : (Nat → Option (Nat × Nat)) → Bool) : Bool := Option.rec false (fun r => match r with
  | ⟨.st fs, _, _⟩ => k fun i => Option.rec none (fun f => some (f.1, f.2.2)) (nth fs i)
  | ⟨.arr _ e, _, _⟩ => Option.rec false (fun q => k fun i => some (Nat.mul i q.size, q.size)) (T.T e)
  | _ => false) (T.T t)
def buildK (P : Program) (T : Tabs P) (fr : Tr AV) (t : TypeId) (parts : Array (Nat × Operand)) (k : AV → Bool) : Bool :=
  argsK T fr (parts.toList.map (·.2)) fun vs => zeroK P t fun z => placeOf T t fun place => fillK place (parts.toList.map (·.1)) vs (cellsA z) fun l => k (.agg l)
theorem fillL_congr {p q : Nat → Option (Nat × Nat)} (h : ∀ i, p i = q i) : fillL p = fillL q := by
  have : p = q := funext h
  rw [this]
theorem buildK_spec {t : TypeId} {parts : Array (Nat × Operand)} {k : AV → Bool} (h : buildK P T fr t parts k = true) (s : Rel T c ρ fr ds M nx a w) : Yes P ρ a (fun _ => True) (.build t parts) k := by
  obtain ⟨vs, rs, h1, h2⟩ := argsK_spec s h
  obtain ⟨z, h3, h2⟩ := opt_rec h2
  obtain ⟨zr, z1, z2, z3⟩ := zeroA_spec h3 ρ
  obtain ⟨⟨d, sz, b⟩, h4, h2⟩ := opt_rec h2
  have hz := cellsA_spec z2
  cases d with
  | st fs =>
    obtain ⟨_, hu, hp, _⟩ := (T.okT _ _ h4).td
    obtain ⟨l', vl', q1, q2, q3⟩ := fillK_spec (show fillK (fun i => Option.rec none (fun f => some (f.1, f.2.2)) (nth fs i)) (parts.toList.map (·.1)) vs (cellsA z) (fun l => k (.agg l)) = true from h2) h1.1 hz
    refine ⟨.agg l', .agg ⟨vl'⟩, by simp [ren, show renL ρ l' = some vl' from q2], q1, fun w _ ty => ?_⟩
    rw [fillL_congr (q := fun i => (fs.map fun f => (f.1, f.2.2))[i]?) (fun i => by rw [nth_eq, List.getElem?_map]; cases fs[i]? <;> rfl)] at q3
    have := Yl.buildStruct (P := P) (Γ := []) (ty := ty) (parts := parts.toList) hp z3 (h1.2 none w (mem w)) q3
    simpa using this
  | arr n e =>
    obtain ⟨q, h5, h2⟩ := opt_rec (show (Option.rec false (fun q : TRow => fillK (fun i => some (Nat.mul i q.size, q.size)) (parts.toList.map (·.1)) vs (cellsA z) fun l => k (.agg l)) (T.T e) : Bool) = true from h2)
    obtain ⟨l', vl', q1, q2, q3⟩ := fillK_spec h2 h1.1 hz
    refine ⟨.agg l', .agg ⟨vl'⟩, by simp [ren, show renL ρ l' = some vl' from q2], q1, fun w _ ty => ?_⟩
    have := Yl.buildArr (P := P) (Γ := []) (ty := ty) (parts := parts.toList) (T.okT _ _ h4).td (T.okT _ _ h5).size z3 (h1.2 none w (mem w)) q3
    simpa using this
  | _ => cases h2

/-! ### least and greatest -/
def plainsK (vs : List AV) (k : List Value → Bool) : Bool := Option.rec false k (optL toV vs)
theorem plainsK_spec : ∀ {vs : List AV} {rs q : List Value}, optL toV vs = some q → RL ρ vs rs → q = rs
  | [], rs, q, h, h1 => by cases h; rw [h1.outNil]
  | v :: vs, rs, q, h, h1 => by
    obtain ⟨y, ys, h2, h3, rfl⟩ := optL_cons h
    obtain ⟨r, rs', rfl, hr, g1⟩ := h1.out
    have e := toV_ren h2 ρ; rw [hr] at e
    have e := Option.some.inj e
    rw [plainsK_spec h3 g1, e]
def minK (P : Program) (T : Tabs P) (fr : Tr AV) (xs : Array Operand) (k : AV → Bool) : Bool := argsK T fr xs.toList fun vs => plainsK vs fun rs => semK P (Builtin.min_ #[] 0 ⟨rs⟩) k
def maxK (P : Program) (T : Tabs P) (fr : Tr AV) (xs : Array Operand) (k : AV → Bool) : Bool := argsK T fr xs.toList fun vs => plainsK vs fun rs => semK P (Builtin.max_ #[] 0 ⟨rs⟩) k
theorem minK_spec {xs : Array Operand} {ats : Array TypeId} {k : AV → Bool} (h : minK P T fr xs k = true) (s : Rel T c ρ fr ds M nx a w) : Yes P ρ a (fun _ => True) (.call ⟨.builtin .min, xs, ats⟩) k := by
  obtain ⟨vs, rs, h1, h2⟩ := argsK_spec s h
  obtain ⟨q, h3, h2⟩ := opt_rec h2
  obtain rfl := plainsK_spec (ρ := ρ) h3 h1.1
  obtain ⟨x, v, g1, g2, g3⟩ := semK_spec h2 ρ
  refine ⟨x, v, g1, g2, fun w1 _ ty => fun a' w' d pos af g st => ?_⟩
  have h0 : xs.map a'.eval = ⟨q⟩ := by apply Array.ext'; rw [Array.toList_map]; exact st.evals (h1.2 none w1 (mem w1))
  have h4 : ∀ t, Builtin.min_ ats t ⟨q⟩ = Builtin.min_ #[] 0 ⟨q⟩ := fun _ => rfl
  simp [execOp, resolve, invoke, builtin, h0, h4, g3]
theorem maxK_spec {xs : Array Operand} {ats : Array TypeId} {k : AV → Bool} (h : maxK P T fr xs k = true) (s : Rel T c ρ fr ds M nx a w) : Yes P ρ a (fun _ => True) (.call ⟨.builtin .max, xs, ats⟩) k := by
  obtain ⟨vs, rs, h1, h2⟩ := argsK_spec s h
  obtain ⟨q, h3, h2⟩ := opt_rec h2
  obtain rfl := plainsK_spec (ρ := ρ) h3 h1.1
  obtain ⟨x, v, g1, g2, g3⟩ := semK_spec h2 ρ
  refine ⟨x, v, g1, g2, fun w1 _ ty => fun a' w' d pos af g st => ?_⟩
  have h0 : xs.map a'.eval = ⟨q⟩ := by apply Array.ext'; rw [Array.toList_map]; exact st.evals (h1.2 none w1 (mem w1))
  have h4 : ∀ t, Builtin.max_ ats t ⟨q⟩ = Builtin.max_ #[] 0 ⟨q⟩ := fun _ => rfl
  simp [execOp, resolve, invoke, builtin, h0, h4, g3]

/-! ### type assertions -/
def holdsIfc (P : Program) (asserted t : TypeId) : Option Bool := match P.underlying asserted with
  | some (.interface want) => (P.info? t).map fun i => (Instr.missingMethod want i.methods).isNone
  | _ => none
def holdK (ok : Bool) (u : AV) (k : AV → Bool) : Bool := Bool.rec (k u) (k (.tup [u, .bool true])) ok
def failK (P : Program) (t : TypeId) (ok : Bool) (k : AV → Bool) : Bool := Bool.rec false (zeroK P t fun z => k (.tup [z, .bool false])) ok
def assertK (P : Program) (T : Tabs P) (fr : Tr AV) (x : Operand) (asserted : TypeId) (ok : Bool) (k : AV → Bool) : Bool := argK T fr x fun v => Option.rec false (fun r => both r.td.known (match v with
  | .nili => failK P asserted ok k
  | .iface t v => Bool.rec (Bool.rec (failK P asserted ok k) (holdK ok v k) (Nat.beq t asserted)) (Option.rec false (fun b => Bool.rec (failK P asserted ok k) (holdK ok (.iface t v) k) b) (holdsIfc P asserted t)) (match r.td with | .ifc => true | _ => false)
  | _ => false)) (T.T asserted)
theorem holdK_spec {ok : Bool} {u : AV} {r : Value} {k : AV → Bool} (h : holdK ok u k = true) (hr : ren ρ u = some r) : ∃ v, k v = true ∧ ren ρ v = some (if ok then .tuple #[r, .bool true] else r) := by
  cases ok with
  | false => exact ⟨u, h, hr⟩
  | true => exact ⟨_, h, by simp [ren, renL, hr]⟩
theorem failK_spec {ok : Bool} {t : TypeId} {k : AV → Bool} (h : failK P t ok k = true) (ρ : Env) : ok = true ∧ ∃ v z, k v = true ∧ zeroV P t = some z ∧ ren ρ v = some (.tuple #[z, .bool false]) := by
  cases ok with
  | false => cases h
  | true =>
    obtain ⟨z, h1, h2⟩ := opt_rec h
    obtain ⟨zr, z1, z2, _⟩ := zeroA_spec h1 ρ
    exact ⟨rfl, _, zr, h2, z1, by simp [ren, renL, z2]⟩
theorem assertK_spec {x : Operand} {xt asserted : TypeId} {ok : Bool} {k : AV → Bool} (h : assertK P T fr x asserted ok k = true) (s : Rel T c ρ fr ds M nx a w) : Yes P ρ a (fun _ => True) (.typeAssert x xt asserted ok) k := by
  obtain ⟨v, r, h1, h2⟩ := argK_spec h s
  obtain ⟨⟨d, sz, b⟩, h3, h2⟩ := opt_rec h2
  obtain ⟨hk, h2⟩ := both_eq.1 h2
  have hrow := (T.okT _ _ h3).td
  obtain ⟨dsc, hd⟩ := hrow.known hk
  have hi : d = .ifc ∨ ∀ ms, dsc ≠ .interface ms := by
    cases d <;> simp only [TD.known, Bool.false_eq_true] at hk <;> simp only [TDok] at hrow
    case ifc => exact .inl rfl
    case ptr => obtain ⟨e, hrow⟩ := hrow; rw [hd] at hrow; cases hrow; exact .inr (by simp)
    case st => obtain ⟨e, hrow, _⟩ := hrow; rw [hd] at hrow; cases hrow; exact .inr (by simp)
    case fn => obtain ⟨_, _, _, hrow⟩ := hrow; rw [hd] at hrow; cases hrow; exact .inr (by simp)
    all_goals (rw [hd] at hrow; cases hrow; exact .inr (by simp))
  cases v with
  | nili =>
    obtain rfl : r = .nilIface := by simpa [ren] using h1.ren.symm
    obtain ⟨rfl, v, z, g1, g2, g3⟩ := failK_spec h2 ρ
    refine ⟨v, _, g3, g1, fun _ _ ty => yl_of fun d pos af g w' => ?_⟩
    cases dsc <;> simp [execOp, Instr.typeAssert, h1.eval, run_underlying hd, run_zeroV g2]
  | iface t v' =>
    have e1 := h1.ren
    simp only [ren, Option.map_eq_some_iff] at e1
    obtain ⟨r', hr', rfl⟩ := e1
    by_cases hdi : d = .ifc
    · subst hdi
      obtain ⟨ms, hms⟩ := hrow
      have h2 : (Option.rec false (fun b : Bool => Bool.rec (failK P asserted ok k) (holdK ok (.iface t v') k) b) (holdsIfc P asserted t) : Bool) = true := h2
      obtain ⟨q, h4, h2⟩ := opt_rec h2
      unfold holdsIfc at h4
      rw [hms] at h4
      obtain ⟨i, h5, h6⟩ := Option.map_eq_some_iff.1 h4
      cases q with
      | false =>
        obtain ⟨rfl, v, z, g1, g2, g3⟩ := failK_spec h2 ρ
        refine ⟨v, _, g3, g1, fun _ _ ty => yl_of fun d pos af g w' => ?_⟩
        obtain ⟨m, hm⟩ : ∃ m, Instr.missingMethod ms i.methods = some m := by
          cases hq : Instr.missingMethod ms i.methods with
          | none => rw [hq] at h6; cases h6
          | some m => exact ⟨m, rfl⟩
        simp [execOp, Instr.typeAssert, h1.eval, run_underlying hms, typeInfo, h5, hm, run_zeroV g2]
      | true =>
        obtain ⟨v, g1, g2⟩ := holdK_spec h2 h1.ren
        refine ⟨v, _, g2, g1, fun _ _ ty => yl_of fun d pos af g w' => ?_⟩
        have hm : Instr.missingMethod ms i.methods = none := by simpa using h6
        simp [execOp, Instr.typeAssert, h1.eval, run_underlying hms, typeInfo, h5, hm]
    · have hni := hi.resolve_left hdi
      have h2 : (Bool.rec (failK P asserted ok k) (holdK ok v' k) (Nat.beq t asserted) : Bool) = true := by
        cases d <;> first | exact absurd rfl hdi | exact h2
      cases q : Nat.beq t asserted with
      | false =>
        rw [q] at h2
        obtain ⟨rfl, v, z, g1, g2, g3⟩ := failK_spec h2 ρ
        have hne : t ≠ asserted := fun e => by subst e; simp at q
        refine ⟨v, _, g3, g1, fun _ _ ty => yl_of fun d pos af g w' => ?_⟩
        cases dsc <;> first | exact absurd rfl (hni _) | simp [execOp, Instr.typeAssert, h1.eval, run_underlying hd, hne, run_zeroV g2]
      | true =>
        rw [q] at h2
        obtain rfl := Nat.eq_of_beq_eq_true q
        obtain ⟨v, g1, g2⟩ := holdK_spec h2 hr'
        refine ⟨v, _, g2, g1, fun _ _ ty => yl_of fun d pos af g w' => ?_⟩
        cases dsc <;> first | exact absurd rfl (hni _) | simp [execOp, Instr.typeAssert, h1.eval, run_underlying hd]
  | _ => cases h2

/-! ### the entry at which a range over a map stands -/
def lastL (l : List Nat) : Option Nat := List.rec none (fun x t ih => List.rec (some x) (fun _ _ _ => ih) t) l
theorem lastL_eq : ∀ l : List Nat, lastL l = l.getLast?
  | [] => rfl
  | [x] => rfl
  | x :: y :: l => by
    show lastL (y :: l) = _
    rw [lastL_eq (y :: l)]; simp
def bornL (b : Nat) (es : List (AV × AV × Nat)) : Option (AV × AV) := List.rec none (fun e _ ih => Prod.rec (fun k vb => Prod.rec (fun v b' => Bool.rec ih (some (k, v)) (Nat.beq b' b)) vb) e) es
theorem bornL_spec {b : Nat} : ∀ {es : List (AV × AV × Nat)} {L : List MapEntry} {p : AV × AV}, bornL b es = some p → renM ρ es = some L → ∃ e, L.find? (·.born == b) = some e ∧ ren ρ p.1 = some e.key ∧ ren ρ p.2 = some e.val
  | [], L, p, h, hL => by cases h
  | (k, v, b') :: es, L, p, h, hL => by
    simp only [renM, Option.bind_eq_some_iff, Option.map_eq_some_iff] at hL
    obtain ⟨kr, hkr, vr, hvr, L', hL', rfl⟩ := hL
    have h : (Bool.rec (bornL b es) (some (k, v)) (Nat.beq b' b) : Option (AV × AV)) = some p := h
    cases q : Nat.beq b' b with
    | true =>
      rw [q] at h; cases h
      exact ⟨⟨kr, vr, b'⟩, by simp [Nat.eq_of_beq_eq_true q], hkr, hvr⟩
    | false =>
      rw [q] at h
      obtain ⟨e, g1, g2, g3⟩ := bornL_spec h hL'
      have hne : b' ≠ b := fun e => by subst e; simp at q
      exact ⟨e, by simp [hne, g1], g2, g3⟩
def entryK (T : Tabs P) (fr : Tr AV) (M : Mem) (x : Operand) (k : AV → Bool) : Bool := argK T fr x fun v => match v with
  | .ptr i 0 => Option.rec false (fun ck => match ck with
    | .mit m _ seen last => Option.rec false (fun ck' => match ck' with
      | .map es cl => both (Nat.beq cl last) (Option.rec false (fun b => Option.rec false (fun p => Prod.rec (fun key v => k (.tup [key, v])) p) (bornL b es)) (lastL seen))
      | _ => false) (M.get m)
    | _ => false) (M.get i)
  | _ => false
theorem entryK_spec {x : Operand} {k : AV → Bool} (h : entryK T fr M x k = true) (s : Rel T c ρ fr ds M nx a w) : Yes P ρ a (· = w) (.entry x) k := by
  obtain ⟨v, r, h1, h2⟩ := argK_spec h s
  clear h
  split at h2
  · rename_i i
    obtain ⟨ck, h3, h2⟩ := opt_rec h2
    cases ck <;> try (cases h2; done)
    rename_i m since seen last
    obtain ⟨ck', h4, h2⟩ := opt_rec (show (Option.rec false (fun ck' : Ck => match ck' with
      | .map es cl => both (Nat.beq cl last) (Option.rec false (fun b => Option.rec false (fun p => Prod.rec (fun key v => k (.tup [key, v])) p) (bornL b es)) (lastL seen))
      | _ => false) (M.get m) : Bool) = true from h2)
    cases ck' <;> try (cases h2; done)
    rename_i es cl
    obtain ⟨h5, h2⟩ := both_eq.1 h2
    obtain ⟨b, h6, h2⟩ := opt_rec h2
    obtain ⟨p, h7, h2⟩ := opt_rec h2
    obtain rfl := Nat.eq_of_beq_eq_true h5
    obtain ⟨e, q1, ⟨e', q2, q3, h0⟩, _⟩ := s.rep.own _ _ h3
    obtain ⟨e'', q4, ⟨L, q5, q6⟩, _⟩ := s.rep.own _ _ h4
    rw [q2] at q4; cases q4
    have e1 := h1.ren
    simp only [ren, q1, Option.map_some, Option.some.injEq] at e1
    rw [h0] at e1
    subst e1
    obtain ⟨en, g1, g2, g3⟩ := bornL_spec h7 q5
    obtain ⟨p1, p2⟩ := p
    refine ⟨_, .tuple #[en.key, en.val], by simp [ren, renL, g2, g3], h2, fun w1 hw ty => ?_⟩
    subst hw
    intro a' w' d pos af g st
    have hb : w'.heap[e.1]? = _ := (Rd.ro (Γ := []) (show (mem w1) e.1 = some _ from q3)) w' st.heap
    have hb' : w'.heap[e'.1]? = _ := (Rd.ro (Γ := []) (show (mem w1) e'.1 = some _ from q6)) w' st.heap
    have hg : (getObj e.1).run P w' = .ok (.mapIter (some e'.1) since ⟨seen⟩ cl) w' := by simp [getObj, Sem.run, hb]
    have hg' : (getObj e'.1).run P w' = .ok (.map ⟨L⟩ cl) w' := run_getMap hb'
    rw [lastL_eq] at h6
    simp [execOp, Instr.entry, st.eval (h1.ev _ _ _), hg, hg', Array.back?, h6, g1, List.getLast?_eq_getElem?]
    have h6' := h6
    rw [List.getLast?_eq_getElem?] at h6'
    simp [h6', hg', g1]
  · cases h2
end
end Go.Ev
