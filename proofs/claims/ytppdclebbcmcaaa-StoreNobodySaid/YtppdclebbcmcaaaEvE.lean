/- The evaluator, part E: operations that leave the world as it is. -/
import Derived.Test.YtppdclebbcmcaaaEvD
set_option linter.unusedSimpArgs false
set_option linter.unusedVariables false
namespace Go.Ev
open Go.Sl
noncomputable section
variable {P : Program} {T : Tabs P} {c : Cn} {ρ : Env} {fr : Tr AV} {ds : List AD} {M : Mem} {nx : Nat} {a : Act} {w : World}

/-- The operation yields one of these, and k is content. -/
def Yes (P : Program) (ρ : Env) (a : Act) (W : World → Prop) (op : Op) (k : AV → Bool) : Prop := ∃ v r, ren ρ v = some r ∧ k v = true ∧ ∀ w, W w → ∀ ty, Yl P (cxA none a w (mem w)) (full a) [] op ty r
abbrev Rel (T : Tabs P) (c : Cn) (ρ : Env) (fr : Tr AV) (ds : List AD) (M : Mem) (nx : Nat) (a : Act) (w : World) : Prop := Rl T c ρ fr ds M nx a w

/-! ### a Sem that asks for nothing but the program -/
def prun (P : Program) {α : Type} (s : Sem α) : Option α :=
  Sem.rec (fun a => some a) (fun _ _ _ _ => none) (fun _ _ _ _ _ => none) (fun _ _ _ => none) (fun _ _ _ => none) (fun _ _ _ _ => none) (fun _ _ _ => none) (fun _ _ _ => none) (fun _ _ _ _ => none) (fun _ _ _ => none) (fun _ _ _ => none) (fun _ ih => ih P) (fun _ _ ih => ih) (fun _ => none) s
theorem prun_run {α : Type} : ∀ {s : Sem α} {x : α}, prun P s = some x → ∀ w, s.run P w = .ok x w
  | .pure a, x, h, w => by cases h; rfl
  | .load _ _ _, x, h, w => by cases h
  | .store _ _ _ _, x, h, w => by cases h
  | .new _ _, x, h, w => by cases h
  | .shape _ _, x, h, w => by cases h
  | .freeze _ _ _, x, h, w => by cases h
  | .frozen _ _, x, h, w => by cases h
  | .getObj _ _, x, h, w => by cases h
  | .setObj _ _ _, x, h, w => by cases h
  | .choose _ _, x, h, w => by cases h
  | .sys _ _, x, h, w => by cases h
  | .program k, x, h, w => prun_run (s := k P) h w
  | .mark _ k, x, h, w => prun_run (s := k) h w
  | .halt _, x, h, w => by cases h
/-- A plain result as one of ours, whole. -/
def plainK (v : Value) (k : AV → Bool) : Bool := constK v k

/-! ### moves -/
theorem moveK {x : Operand} {k : AV → Bool} (h : argK T fr x k = true) (s : Rel T c ρ fr ds M nx a w) : Yes P ρ a (fun _ => True) (.move x) k := by
  obtain ⟨v, r, h1, h2⟩ := argK_spec h s
  exact ⟨v, r, h1.ren, h2, fun _ _ _ => Yl.move (h1.ev _ _ _)⟩
theorem assignK {x : Operand} {k : AV → Bool} (h : argK T fr x k = true) (s : Rel T c ρ fr ds M nx a w) : Yes P ρ a (fun _ => True) (.assign x) k := by
  obtain ⟨v, r, h1, h2⟩ := argK_spec h s
  exact ⟨v, r, h1.ren, h2, fun _ _ _ => Yl.assign (h1.ev _ _ _)⟩
def pickK (T : Tabs P) (fr : Tr AV) (c x y : Operand) (k : AV → Bool) : Bool := argK T fr c fun v => match v with
  | .bool b => Bool.rec (argK T fr y k) (argK T fr x k) b
  | _ => false
theorem pickK_spec {q x y : Operand} {k : AV → Bool} (h : pickK T fr q x y k = true) (s : Rel T c ρ fr ds M nx a w) : Yes P ρ a (fun _ => True) (.pick q x y) k := by
  obtain ⟨v, r, h1, h2⟩ := argK_spec h s
  split at h2
  · rename_i b
    have e : r = .bool b := by simpa [ren] using h1.ren.symm
    subst e
    cases b with
    | false =>
      obtain ⟨v', r', h3, h4⟩ := argK_spec h2 s
      exact ⟨v', r', h3.ren, h4, fun _ _ _ => Yl.pick_false (h1.ev _ _ _) (h3.ev _ _ _)⟩
    | true =>
      obtain ⟨v', r', h3, h4⟩ := argK_spec h2 s
      exact ⟨v', r', h3.ren, h4, fun _ _ _ => Yl.pick_true (h1.ev _ _ _) (h3.ev _ _ _)⟩
  · cases h2
def nilCheckK (T : Tabs P) (fr : Tr AV) (x : Operand) (k : AV → Bool) : Bool := argK T fr x fun v => match v with
  | .ptr i o => k (.ptr i o)
  | .fn (.func f) xs ys => k (.fn (.func f) xs ys)
  | .fn (.via t p f b) xs ys => k (.fn (.via t p f b) xs ys)
  | .iface t v => k (.iface t v)
  | .yl i => k (.yl i)
  | _ => false
theorem nilCheckK_spec {x : Operand} {k : AV → Bool} (h : nilCheckK T fr x k = true) (s : Rel T c ρ fr ds M nx a w) : Yes P ρ a (fun _ => True) (.nilCheck x) k := by
  obtain ⟨v, r, h1, h2⟩ := argK_spec h s
  split at h2
  · have e := h1.ren
    simp only [ren, Option.map_eq_some_iff] at e
    obtain ⟨e', he, rfl⟩ := e
    exact ⟨_, _, h1.ren, h2, fun _ _ _ => Yl.nilCheck (h1.ev _ _ _)⟩
  · have e := h1.ren
    simp only [ren, Option.bind_eq_some_iff, Option.map_eq_some_iff] at e
    obtain ⟨u, _, v, _, rfl⟩ := e
    exact ⟨_, _, h1.ren, h2, fun _ _ _ => Yl.nilCheck_func (h1.ev _ _ _)⟩
  · have e := h1.ren
    simp only [ren, Option.bind_eq_some_iff, Option.map_eq_some_iff] at e
    obtain ⟨u, _, v, _, rfl⟩ := e
    exact ⟨_, _, h1.ren, h2, fun _ _ _ => fun a w d pos af g s => by simp [execOp, s.eval (h1.ev _ _ _)]⟩
  · have e := h1.ren
    simp only [ren, Option.map_eq_some_iff] at e
    obtain ⟨u, _, rfl⟩ := e
    exact ⟨_, _, h1.ren, h2, fun _ _ _ => fun a w d pos af g s => by simp [execOp, s.eval (h1.ev _ _ _)]⟩
  · have e := h1.ren
    simp only [ren, Option.map_eq_some_iff] at e
    obtain ⟨u, _, rfl⟩ := e
    exact ⟨_, _, h1.ren, h2, fun _ _ _ => fun a w d pos af g s => by simp [execOp, yv, s.eval (h1.ev _ _ _)]⟩
  · cases h2

/-! ### addresses -/
def fieldAddrK (T : Tabs P) (fr : Tr AV) (s : TypeId) (x : Operand) (f : Nat) (k : AV → Bool) : Bool := argK T fr x fun v => match v with
  | .ptr i o => Option.rec false (fun r => match r with
    | ⟨.st fs, _, _⟩ => Option.rec false (fun q => match q with
      | (off, _, z + 1) => forceN (Nat.add o off) fun o' => k (.ptr i o')
      | _ => false) (nth fs f)
    | _ => false) (T.T s)
  | _ => false
theorem fieldAddrK_spec {t : TypeId} {x : Operand} {f : Nat} {k : AV → Bool} (h : fieldAddrK T fr t x f k = true) (s : Rel T c ρ fr ds M nx a w) : Yes P ρ a (fun _ => True) (.fieldAddr t x f) k := by
  obtain ⟨v, r, h1, h2⟩ := argK_spec h s
  split at h2
  · rename_i i o
    obtain ⟨row, h3, h2⟩ := opt_rec h2
    split at h2
    · rename_i fs _ _
      obtain ⟨q, h4, h2⟩ := opt_rec h2
      split at h2
      · rename_i off u z
        rw [forceN_eq] at h2
        rw [nth_eq] at h4
        obtain ⟨_, _, _, h5⟩ := (T.okT _ _ h3).td
        obtain ⟨h6, h7⟩ := h5 f off u (z + 1) h4
        have e := h1.ren
        simp only [ren, Option.map_eq_some_iff] at e
        obtain ⟨e', he, rfl⟩ := e
        refine ⟨_, .pointer (some ⟨e'.1, e'.2.1 + (o + off), none⟩), by simp [ren, he], h2, fun w _ ty => ?_⟩
        have := Yl.fieldAddr (P := P) (ty := ty) h6 h7 (h1.ev none w (mem w)) (Γ := [])
        rw [Nat.add_assoc] at this
        exact this
      · cases h2
    · cases h2
  · cases h2
def indexAddrK (T : Tabs P) (fr : Tr AV) (t : TypeId) (x y : Operand) (k : AV → Bool) : Bool := argK T fr x fun v => argK T fr y fun u => match u with
  | .int _ (.ofNat j) => Option.rec false (fun r => match r with
    | ⟨.sl e, _, _⟩ => (match v with
      | .sl i o n _ _ => Option.rec false (fun q => both (Nat.blt j n) (forceN (Nat.add o (Nat.mul j q.size)) fun o' => k (.ptr i o'))) (T.T e)
      | _ => false)
    | ⟨.arr n e, _, _⟩ => (match v with
      | .ptr i o => Option.rec false (fun q => both (Nat.blt j n) (forceN (Nat.add o (Nat.mul j q.size)) fun o' => k (.ptr i o'))) (T.T e)
      | _ => false)
    | _ => false) (T.T t)
  | _ => false
theorem indexAddrK_spec {t : TypeId} {x y : Operand} {k : AV → Bool} (h : indexAddrK T fr t x y k = true) (s : Rel T c ρ fr ds M nx a w) : Yes P ρ a (fun _ => True) (.indexAddr t x y) k := by
  obtain ⟨v, r, h1, h2⟩ := argK_spec h s
  obtain ⟨u, r', h3, g2⟩ := argK_spec h2 s
  clear h2 h
  split at g2
  · rename_i kd j
    obtain rfl : r' = .int kd (.ofNat j) := by simpa [ren] using h3.ren.symm
    obtain ⟨row, h4, g3⟩ := opt_rec g2
    clear g2
    have hrow := (T.okT _ _ h4).td
    split at g3
    · rename_i e _ _
      split at g3
      case h_2 => cases g3
      rename_i i o n c' sb
      obtain ⟨q, h5, h2⟩ := opt_rec g3
      obtain ⟨hlt, h2⟩ := both_eq.1 h2
      rw [forceN_eq] at h2
      rw [Nat.blt_eq] at hlt
      have e := h1.ren
      simp only [ren, Option.map_eq_some_iff] at e
      obtain ⟨e', he, rfl⟩ := e
      refine ⟨_, .pointer (some ⟨e'.1, e'.2.1 + (o + j * q.size), none⟩), by simp [ren, he], h2, fun w _ ty => ?_⟩
      have := Yl.indexAddr (P := P) (ty := ty) hrow (T.okT _ _ h5).size (h1.ev none w (mem w)) (h3.ev none w (mem w)) (Γ := []) ⟨by simp, by simpa using hlt⟩
      rw [Nat.add_assoc] at this
      simpa using this
    · rename_i n e _ _
      split at g3
      case h_2 => cases g3
      rename_i i o
      obtain ⟨q, h5, h2⟩ := opt_rec g3
      obtain ⟨hlt, h2⟩ := both_eq.1 h2
      rw [forceN_eq] at h2
      rw [Nat.blt_eq] at hlt
      have e := h1.ren
      simp only [ren, Option.map_eq_some_iff] at e
      obtain ⟨e', he, rfl⟩ := e
      refine ⟨_, .pointer (some ⟨e'.1, e'.2.1 + (o + j * q.size), none⟩), by simp [ren, he], h2, fun w _ ty => ?_⟩
      have := Yl.indexAddr_arr (P := P) (ty := ty) hrow (T.okT _ _ h5).size (h1.ev none w (mem w)) (h3.ev none w (mem w)) (Γ := []) ⟨by simp, by simpa using hlt⟩
      rw [Nat.add_assoc] at this
      simpa using this
    · cases g3
  · cases g2

/-! ### reading -/
/-- Of cells: one, or a row. -/
def cutK (T : Tabs P) (t : TypeId) (l : List AV) (o : Nat) (k : AV → Bool) : Bool :=
  Option.rec false (fun r => Option.rec false (fun b => Bool.rec (Option.rec false k (nth l o)) (splitL l o fun _ y => splitL y r.size fun A _ => k (.agg A)) b) r.td.row) (T.T t)
theorem cutK_spec {t : TypeId} {l : List AV} {o : Nat} {k : AV → Bool} (h : cutK T t l o k = true) {vs : List Value} (hl : RL ρ l vs) :
    (∃ v r, isRow P t = some false ∧ vs[o]? = some r ∧ ren ρ v = some r ∧ k v = true) ∨ (∃ A B, isRow P t = some true ∧ tsize P t = some B.length ∧ (vs.drop o).take B.length = B ∧ At vs o B ∧ RL ρ A B ∧ k (.agg A) = true) := by
  obtain ⟨row, h1, h⟩ := opt_rec h
  obtain ⟨b, h2, h⟩ := opt_rec h
  have hr := (T.okT _ _ h1).td.row h2
  cases b with
  | false =>
    obtain ⟨v, h3, h⟩ := opt_rec h
    rw [nth_eq] at h3
    obtain ⟨r, h4, h5⟩ := hl.get h3
    exact .inl ⟨v, r, hr, h4, h5, h⟩
  | true =>
    obtain ⟨h3, h⟩ := splitL_spec h
    obtain ⟨h4, h⟩ := splitL_spec h
    have hA := (hl.drop o).take row.size
    have hlen := hA.length
    rw [List.length_take_of_le h4] at hlen
    refine .inr ⟨_, _, hr, ?_, ?_, ?_, hA, h⟩
    · rw [hlen]; exact (T.okT _ _ h1).size
    · rw [hlen]
    · exact At.of_take rfl
def loadK (T : Tabs P) (fr : Tr AV) (M : Mem) (t : TypeId) (x : Operand) (k : AV → Bool) : Bool := argK T fr x fun v => match v with
  | .ptr i o => Option.rec false (fun ck => Option.rec false (fun l => cutK T t l o k) ck.cells) (M.get i)
  | _ => false
theorem loadK_spec {t : TypeId} {x : Operand} {k : AV → Bool} (h : loadK T fr M t x k = true) (s : Rel T c ρ fr ds M nx a w) : Yes P ρ a (· = w) (.load t x) k := by
  obtain ⟨v, r, h1, h2⟩ := argK_spec h s
  split at h2
  · rename_i i o
    obtain ⟨ck, h3, h2⟩ := opt_rec h2
    obtain ⟨l, h4, h2⟩ := opt_rec h2
    obtain ⟨e, cs, t', fz, vs, he, hb, hl, hA⟩ := s.rep.cells h3 h4
    have e' := h1.ren
    simp only [ren, he, Option.map_some, Option.some.injEq] at e'
    subst e'
    have hrd : Rd [] (cxA none a w (mem w)).hF e.1 (.cells ⟨cs⟩ t' fz) := Rd.ro hb
    rcases cutK_spec h2 hl with ⟨v, r, q1, q2, q3, q4⟩ | ⟨A, B, q1, q2, q3, q4, q5, q6⟩
    · exact ⟨v, r, q3, q4, fun _ hw _ => by subst hw; exact Yl.load q1 (h1.ev _ _ _) hrd (hA _ _ q2)⟩
    · refine ⟨.agg A, .agg ⟨B⟩, by simp [ren, show renL ρ A = some B from q5], q6, fun w' hw _ => ?_⟩
      subst hw
      refine Yl.loadRow q1 q2 (h1.ev _ _ _) hrd ?_
      intro j u hj
      have := hA _ _ (q4 j u hj)
      rwa [← Nat.add_assoc] at this
  · cases h2
def fieldK (T : Tabs P) (fr : Tr AV) (t : TypeId) (x : Operand) (f : Nat) (k : AV → Bool) : Bool := argK T fr x fun v => match v with
  | .agg l => Option.rec false (fun r => match r with
    | ⟨.st fs, _, _⟩ => Option.rec false (fun q => match q with
      | (off, u, _) => cutK T u l off k) (nth fs f)
    | _ => false) (T.T t)
  | _ => false
theorem fieldK_spec {t : TypeId} {x : Operand} {f : Nat} {k : AV → Bool} (h : fieldK T fr t x f k = true) (s : Rel T c ρ fr ds M nx a w) : Yes P ρ a (fun _ => True) (.field t x f) k := by
  obtain ⟨v, r, h1, h2⟩ := argK_spec h s
  split at h2
  · rename_i l
    obtain ⟨row, h3, h2⟩ := opt_rec h2
    split at h2
    · rename_i fs _ _
      obtain ⟨q, h4, h2⟩ := opt_rec h2
      split at h2
      rename_i off u z
      rw [nth_eq] at h4
      obtain ⟨_, _, _, h5⟩ := (T.okT _ _ h3).td
      obtain ⟨h6, h7⟩ := h5 f off u z h4
      have e := h1.ren
      simp only [ren, Option.map_eq_some_iff] at e
      obtain ⟨vs, hl, rfl⟩ := e
      rcases cutK_spec (ρ := ρ) h2 (vs := vs) hl with ⟨v, r, q1, q2, q3, q4⟩ | ⟨A, B, q1, q2, q3, q4, q5, q6⟩
      · exact ⟨v, r, q3, q4, fun _ _ _ => Yl.field h6 q1 (h1.ev _ _ _) q2⟩
      · exact ⟨.agg A, .agg ⟨B⟩, by simp [ren, show renL ρ A = some B from q5], q6, fun _ _ _ => Yl.fieldRow h6 q1 q2 (h1.ev _ _ _) q3⟩
    · cases h2
  · cases h2
theorem Yl.index_arrRow {cx : Cx} {fr : Fr} {Γ : List HProp} {ty : TypeId} {t e : TypeId} {x y : Operand} {i : Int} {k : IntKind} {n sz : Nat} {l A : List Value} (ht : P.underlying t = some (.array n e)) (hr : isRow P e = some true) (hs : tsize P e = some sz) (hx : Sl.ev cx fr x = some (.agg ⟨l⟩)) (hy : Sl.ev cx fr y = some (.int k i)) (h : 0 ≤ i ∧ i < n) (hv : (l.drop (i.toNat * sz)).take sz = A) :
    Yl P cx fr Γ (.index t x y) ty (.agg ⟨A⟩) := fun a w d pos af g st => by
  subst hv
  simp [execOp, Instr.index, part, st.eval hx, st.eval hy, asIntOf, run_underlying ht, h, Sl.run_sizeOf hs, Sl.run_isAgg hr, List.extract_eq_take_drop]
def indexK (T : Tabs P) (fr : Tr AV) (t : TypeId) (x y : Operand) (k : AV → Bool) : Bool := argK T fr x fun v => argK T fr y fun u => match u with
  | .int _ (.ofNat j) => Option.rec false (fun r => match r with
    | ⟨.arr n e, _, _⟩ => (match v with
      | .agg l => Option.rec false (fun q => both (Nat.blt j n) (forceN (Nat.mul j q.size) fun o => cutK T e l o k)) (T.T e)
      | _ => false)
    | ⟨.str, _, _⟩ => (match v with
      | .str l => Option.rec false (fun b => k (.int .u8 (.ofNat b))) (nth l j)
      | _ => false)
    | _ => false) (T.T t)
  | _ => false
theorem u8_ofNat {n : Nat} (h : n < 256) : (UInt8.ofNat n).toNat = n := by simp; omega
theorem small_get {l : List Nat} (h : small l = true) {i n : Nat} (hi : l[i]? = some n) : n < 256 := by
  have := List.all_eq_true.1 h n (List.mem_of_getElem? hi)
  simpa [Nat.blt_eq] using this
theorem ren_str {l : List Nat} {r : Value} (h : ren ρ (.str l) = some r) : small l = true ∧ r = strV l := by
  unfold ren at h
  split at h
  · rename_i hs; cases h; exact ⟨hs, rfl⟩
  · cases h
theorem indexK_spec {t : TypeId} {x y : Operand} {k : AV → Bool} (h : indexK T fr t x y k = true) (s : Rel T c ρ fr ds M nx a w) : Yes P ρ a (fun _ => True) (.index t x y) k := by
  obtain ⟨v, r, h1, h2⟩ := argK_spec h s
  obtain ⟨u, r', h3, g2⟩ := argK_spec h2 s
  clear h2 h
  split at g2
  · rename_i kd j
    obtain rfl : r' = .int kd (.ofNat j) := by simpa [ren] using h3.ren.symm
    obtain ⟨row, h4, g3⟩ := opt_rec g2
    clear g2
    have hrow := (T.okT _ _ h4).td
    split at g3
    · rename_i n e _ _
      split at g3
      case h_2 => cases g3
      rename_i l
      obtain ⟨q, h5, h2⟩ := opt_rec g3
      obtain ⟨hlt, h2⟩ := both_eq.1 h2
      rw [forceN_eq] at h2
      rw [Nat.blt_eq] at hlt
      have e' := h1.ren
      simp only [ren, Option.map_eq_some_iff] at e'
      obtain ⟨vs, hl, rfl⟩ := e'
      have hq := (T.okT _ _ h5).size
      rcases cutK_spec (ρ := ρ) h2 (vs := vs) hl with ⟨v, r, q1, q2, q3, q4⟩ | ⟨A, B, q1, q2, q3, q4, q5, q6⟩
      · exact ⟨v, r, q3, q4, fun _ _ _ => Yl.index_arr hrow q1 hq (h1.ev _ _ _) (h3.ev _ _ _) ⟨by simp, by simpa using hlt⟩ (by simpa using q2)⟩
      · rw [hq] at q2
        obtain q2 : q.size = B.length := by simpa using q2
        exact ⟨.agg A, .agg ⟨B⟩, by simp [ren, show renL ρ A = some B from q5], q6, fun _ _ _ => Yl.index_arrRow hrow q1 hq (h1.ev _ _ _) (h3.ev _ _ _) ⟨by simp, by simpa using hlt⟩ (by rw [q2]; rw [q2] at q3; simpa using q3)⟩
    · split at g3
      case h_2 => cases g3
      rename_i l
      obtain ⟨b, h5, h2⟩ := opt_rec g3
      rw [nth_eq] at h5
      obtain ⟨hs, rfl⟩ := ren_str h1.ren
      refine ⟨_, _, rfl, h2, fun w _ ty => ?_⟩
      have := Yl.index_str (P := P) (ty := ty) (c := UInt8.ofNat b) hrow (h1.ev none w (mem w)) (h3.ev none w (mem w)) (Γ := []) (by simp) (by simp [h5])
      rw [u8_ofNat (small_get hs h5)] at this
      exact this
    · cases g3
  · cases g2
def extractK (T : Tabs P) (fr : Tr AV) (x : Operand) (i : Nat) (k : AV → Bool) : Bool := argK T fr x fun v => match v with
  | .tup l => Option.rec false k (nth l i)
  | _ => false
theorem extractK_spec {x : Operand} {i : Nat} {k : AV → Bool} (h : extractK T fr x i k = true) (s : Rel T c ρ fr ds M nx a w) : Yes P ρ a (fun _ => True) (.extract x i) k := by
  obtain ⟨v, r, h1, h2⟩ := argK_spec h s
  split at h2
  · rename_i l
    obtain ⟨u, h3, h2⟩ := opt_rec h2
    rw [nth_eq] at h3
    have e := h1.ren
    simp only [ren, Option.map_eq_some_iff] at e
    obtain ⟨vs, hl, rfl⟩ := e
    obtain ⟨r, h4, h5⟩ := RL.get (ρ := ρ) hl h3
    exact ⟨u, r, h5, h2, fun _ _ _ => Yl.extract (h1.ev _ _ _) (by simpa using h4)⟩
  · cases h2
def arrPtrK (T : Tabs P) (fr : Tr AV) (t : TypeId) (x : Operand) (k : AV → Bool) : Bool := argK T fr x fun v => match v with
  | .sl i o m _ _ => Option.rec false (fun r => match r with
    | ⟨.arr n _, _, _⟩ => both (Nat.ble n m) (k (.ptr i o))
    | _ => false) (T.T t)
  | _ => false
theorem arrPtrK_spec {t : TypeId} {x : Operand} {k : AV → Bool} (h : arrPtrK T fr t x k = true) (s : Rel T c ρ fr ds M nx a w) : Yes P ρ a (fun _ => True) (.sliceToArrayPointer t x) k := by
  obtain ⟨v, r, h1, h2⟩ := argK_spec h s
  split at h2
  · rename_i i o m cc sb
    obtain ⟨⟨d, z, b⟩, h3, h2⟩ := opt_rec h2
    have hrow := (T.okT _ _ h3).td
    cases d <;> try (cases h2; done)
    rename_i n e
    obtain ⟨h4, h2⟩ := both_eq.1 h2
    have e1 := h1.ren
    simp only [ren, Option.map_eq_some_iff] at e1
    obtain ⟨e', he, rfl⟩ := e1
    exact ⟨.ptr i o, .pointer (some ⟨e'.1, e'.2.1 + o, none⟩), by simp [ren, he], h2, fun _ _ _ => Yt.arrayPtr hrow (h1.ev _ _ _) (Nat.le_of_ble_eq_true h4)⟩
  · cases h2
end
end Go.Ev
