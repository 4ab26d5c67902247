/- The evaluator, part G: conversions, cuts, lengths, keys of maps, literals, type assertions. -/
import Derived.Test.YtppdclebbcmcaaaEvF
set_option linter.unusedSimpArgs false
set_option linter.unusedVariables false
namespace Go.Ev
open Go.Sl
noncomputable section
variable {P : Program} {T : Tabs P} {c : Cn} {ρ : Env} {fr : Tr AV} {ds : List AD} {M : Mem} {nx : Nat} {a : Act} {w : World}

def TD.known : TD → Bool
  | .other => false
  | _ => true
theorem TDok.known {t : TypeId} {d : TD} (h : TDok P t d) (hk : d.known = true) : ∃ x, P.underlying t = some x := by
  cases d <;> simp only [TD.known, Bool.false_eq_true] at hk <;> simp only [TDok] at h
  case ptr => obtain ⟨e, h⟩ := h; exact ⟨_, h⟩
  case st => obtain ⟨e, h, _⟩ := h; exact ⟨_, h⟩
  case fn => obtain ⟨_, _, _, h⟩ := h; exact ⟨_, h⟩
  case ifc => obtain ⟨_, h⟩ := h; exact ⟨_, h⟩
  all_goals exact ⟨_, h⟩
def knownK (T : Tabs P) (t : TypeId) (k : Bool) : Bool := Option.rec false (fun r => both r.td.known k) (T.T t)
theorem knownK_spec {t : TypeId} {k : Bool} (h : knownK T t k = true) : (∃ x, P.underlying t = some x) ∧ k = true := by
  obtain ⟨r, h1, h⟩ := opt_rec h
  obtain ⟨h2, h⟩ := both_eq.1 h
  exact ⟨(T.okT _ _ h1).td.known h2, h⟩

/-! ### bytes -/
def byteK (v : AV) (k : Nat → Bool) : Bool := match v with
  | .int .u8 (.ofNat b) => both (Nat.blt b 256) (k b)
  | _ => false
def isByte (v : AV) (b : Nat) : Prop := v = .int .u8 (.ofNat b) ∧ b < 256
theorem byteK_spec (v : AV) (k : Nat → Bool) (h : byteK v k = true) : ∃ b, isByte v b ∧ k b = true := by
  unfold byteK at h
  split at h
  · obtain ⟨h1, h⟩ := both_eq.1 h
    rw [Nat.blt_eq] at h1
    exact ⟨_, ⟨rfl, h1⟩, h⟩
  · cases h
theorem bytes_of : ∀ {A : List AV} {bs : List Nat} {vs : List Value}, All2 isByte A bs → RL ρ A vs → small bs = true ∧ vs = u8s (bs.map UInt8.ofNat)
  | [], [], vs, _, h => ⟨rfl, by rw [h.outNil]; rfl⟩
  | [], _ :: _, vs, h, _ => h.elim
  | _ :: _, [], vs, h, _ => h.elim
  | v :: A, b :: bs, vs, h, k => by
    obtain ⟨r, rs, rfl, h1, h2⟩ := k.out
    obtain ⟨⟨rfl, hb⟩, h4⟩ := h
    obtain ⟨h5, rfl⟩ := bytes_of h4 h2
    have : r = .int .u8 b := by simpa [ren] using h1.symm
    refine ⟨?_, ?_⟩
    · unfold small at *; simp [h5, hb]
    · rw [this]
      simp only [u8s, List.map_cons, u8_ofNat hb]
/-- The bytes of a slice. -/
def bytesK (M : Mem) (i o n : Nat) (k : List Nat → Bool) : Bool := Option.rec false (fun ck => Option.rec false (fun l => splitL l o fun _ y => splitL y n fun A _ => mapL byteK A k) ck.cells) (M.get i)
theorem bytesK_spec {i o n : Nat} {k : List Nat → Bool} (h : bytesK M i o n k = true) {hF : Hp} (s : Rep ρ M hF w) :
    ∃ bs e cs t fz, k bs = true ∧ small bs = true ∧ bs.length = n ∧ ρ[i]? = some e ∧ w.heap[e.1]? = some (.cells ⟨cs⟩ t fz) ∧ At cs (e.2.1 + o) (u8s (bs.map UInt8.ofNat)) := by
  obtain ⟨ck, h3, h2⟩ := opt_rec h
  obtain ⟨l, h4, h2⟩ := opt_rec h2
  obtain ⟨e, cs, t', fz, vs, he, hb, hl, hA⟩ := s.cells h3 h4
  obtain ⟨g1, h2⟩ := splitL_spec h2
  obtain ⟨g2, h2⟩ := splitL_spec h2
  obtain ⟨bs, g3, h2⟩ := mapL_spec byteK_spec h2
  have hlen := (hl.drop o).take n
  obtain ⟨g4, g5⟩ := bytes_of g3 hlen
  have hn : bs.length = n := by
    have e1 := hlen.length
    rw [g5, u8s_length, List.length_map, List.length_take_of_le g2] at e1; exact e1
  refine ⟨bs, e, cs, t', fz, h2, g4, hn, he, hb, ?_⟩
  rw [← g5]
  have := hA.sub (i := o) (n := n)
  exact this

/-! ### conversions -/
def convK (P : Program) (T : Tabs P) (fr : Tr AV) (M : Mem) (ts td : TypeId) (x : Operand) (k : AV → Bool) : Bool := argK T fr x fun v => knownK T ts (Option.rec false (fun r => match r with
  | ⟨.int k', _, _⟩ => (match v with
    | .int _ m => forceI (k'.wrap m) fun n => k (.int k' n)
    | _ => false)
  | ⟨.str, _, _⟩ => (match v with
    | .str l => k (.str l)
    | .sl i o n _ _ => Option.rec false (fun q => match q with
      | ⟨.sl e, _, _⟩ => Option.rec false (fun p => match p with
        | ⟨.int .u8, _, _⟩ => bytesK M i o n fun l => k (.str l)
        | _ => false) (T.T e)
      | _ => false) (T.T ts)
    | .nils => Option.rec false (fun q => match q with
      | ⟨.sl e, _, _⟩ => Option.rec false (fun p => match p with
        | ⟨.int .u8, _, _⟩ => k (.str [])
        | _ => false) (T.T e)
      | _ => false) (T.T ts)
    | .em _ _ _ _ => Option.rec false (fun q => match q with
      | ⟨.sl e, _, _⟩ => Option.rec false (fun p => match p with
        | ⟨.int .u8, _, _⟩ => k (.str [])
        | _ => false) (T.T e)
      | _ => false) (T.T ts)
    | _ => false)
  | _ => false) (T.T td))
theorem Yl.emStr {cx : Cx} {fe : Fr} {Γ : List HProp} {ty ts td e : TypeId} {x : Operand} {p : Option Addr} {c : Nat} (hs : P.underlying ts = some (.slice e)) (he : P.underlying e = some (.int .u8)) (hd : P.underlying td = some .string) (hx : Sl.ev cx fe x = some (.slice p 0 c)) : Yl P cx fe Γ (.convert ts td x) ty (str []) := fun a w d pos af g st => by
  cases p <;> simp [execOp, st.eval hx, run_convert_bytes_string w ts td e _ _ _ hs he hd, Conv.bytesToString, loadCells] <;> rfl
theorem convK_spec {ts td : TypeId} {x : Operand} {k : AV → Bool} (h : convK P T fr M ts td x k = true) (s : Rel T c ρ fr ds M nx a w) : Yes P ρ a (· = w) (.convert ts td x) k := by
  obtain ⟨v, r, h1, h2⟩ := argK_spec h s
  obtain ⟨⟨dsc, hdsc⟩, h2⟩ := knownK_spec h2
  obtain ⟨row, h3, h2⟩ := opt_rec h2
  have hrow := (T.okT _ _ h3).td
  obtain ⟨d, z, b⟩ := row
  clear h
  have slc : ∀ {k' : Bool} {f : TypeId → Bool}, (Option.rec false (fun q : TRow => match q with
      | ⟨.sl e, _, _⟩ => Option.rec false (fun p : TRow => match p with
        | ⟨.int .u8, _, _⟩ => k'
        | _ => false) (T.T e)
      | _ => false) (T.T ts) : Bool) = true → ∃ e, P.underlying ts = some (.slice e) ∧ P.underlying e = some (.int .u8) ∧ k' = true := by
    intro k' f hh
    obtain ⟨⟨d1, _, _⟩, g1, hh⟩ := opt_rec hh
    cases d1 <;> try (cases hh; done)
    rename_i e
    obtain ⟨⟨d2, _, _⟩, g2, hh⟩ := opt_rec hh
    cases d2 <;> try (cases hh; done)
    rename_i kd
    cases kd <;> try (cases hh; done)
    exact ⟨e, (T.okT _ _ g1).td, (T.okT _ _ g2).td, hh⟩
  cases d with
  | int k' =>
    cases v with
    | int k1 m =>
      obtain rfl : r = .int k1 m := by simpa [ren] using h1.ren.symm
      have h2 : forceI (k'.wrap m) (fun n => k (.int k' n)) = true := h2
      rw [forceI_eq] at h2
      exact ⟨_, _, rfl, h2, fun _ hw _ => by subst hw; exact Yl.convInt hdsc hrow (h1.ev _ _ _)⟩
    | _ => cases h2
  | str =>
    cases v with
    | str l =>
      obtain ⟨s1, rfl⟩ := ren_str h1.ren
      exact ⟨_, _, h1.ren, h2, fun _ hw _ => by subst hw; exact Yl.convStr hdsc hrow (h1.ev _ _ _)⟩
    | sl i o n c' sb =>
      obtain ⟨e, g1, g2, h2⟩ := slc (f := fun _ => true) h2
      obtain ⟨bs, e', cs, t, fz, q1, q2, q3, q4, q5, q6⟩ := bytesK_spec h2 s.rep
      have e1 := h1.ren
      simp only [ren, q4, Option.map_some, Option.some.injEq] at e1
      subst e1
      have hrd : Rd [] (cxA none a w (mem w)).hF e'.1 (.cells ⟨cs⟩ t fz) := Rd.ro q5
      exact ⟨_, _, ren_strV q2, q1, fun _ hw _ => by subst hw; exact Yl.bytesStr g1 g2 hrow (h1.ev _ _ _) hrd q6 (by simpa using q3)⟩
    | nils =>
      obtain ⟨e, g1, g2, h2⟩ := slc (f := fun _ => true) h2
      obtain rfl : r = .slice none 0 0 := by simpa [ren] using h1.ren.symm
      exact ⟨_, _, ren_strV rfl, h2, fun _ hw _ => by subst hw; exact Yl.emStr g1 g2 hrow (h1.ev _ _ _)⟩
    | em i o o' sb =>
      obtain ⟨e, g1, g2, h2⟩ := slc (f := fun _ => true) h2
      have e1 := h1.ren
      simp only [ren, Option.map_eq_some_iff] at e1
      obtain ⟨e', _, rfl⟩ := e1
      exact ⟨_, _, ren_strV rfl, h2, fun _ hw _ => by subst hw; exact Yl.emStr g1 g2 hrow (h1.ev _ _ _)⟩
    | _ => cases h2
  | _ => cases h2

/-! ### interfaces, functions -/
def TD.plain : TD → Bool
  | .other => false
  | .ifc => false
  | _ => true
def mkIfcK (T : Tabs P) (fr : Tr AV) (t : TypeId) (x : Operand) (k : AV → Bool) : Bool := argK T fr x fun v => Option.rec false (fun r => both r.td.plain (k (.iface t v))) (T.T t)
theorem mkIfcK_spec {t : TypeId} {x : Operand} {k : AV → Bool} (h : mkIfcK T fr t x k = true) (s : Rel T c ρ fr ds M nx a w) : Yes P ρ a (fun _ => True) (.makeInterface t x) k := by
  obtain ⟨v, r, h1, h2⟩ := argK_spec h s
  obtain ⟨row, h3, h2⟩ := opt_rec h2
  obtain ⟨h4, h2⟩ := both_eq.1 h2
  have hrow := (T.okT _ _ h3).td
  refine ⟨.iface t v, .iface t r, by simp [ren, h1.ren], h2, fun _ _ ty => fun a w d pos af g st => ?_⟩
  obtain ⟨d, z, b⟩ := row
  cases d <;> simp only [TD.plain, Bool.false_eq_true] at h4 <;> simp only [TDok] at hrow
  case ptr => obtain ⟨e, hrow⟩ := hrow; simp [execOp, Instr.makeInterface, st.eval (h1.ev _ _ _), run_underlying hrow]
  case st => obtain ⟨e, hrow, _⟩ := hrow; simp [execOp, Instr.makeInterface, st.eval (h1.ev _ _ _), run_underlying hrow]
  case fn => obtain ⟨_, _, _, hrow⟩ := hrow; simp [execOp, Instr.makeInterface, st.eval (h1.ev _ _ _), run_underlying hrow]
  all_goals simp [execOp, Instr.makeInterface, st.eval (h1.ev _ _ _), run_underlying hrow]
def mkFnK (T : Tabs P) (fr : Tr AV) (f : Fn) (first cap : Array Operand) (k : AV → Bool) : Bool := argsK T fr first.toList fun xs => argsK T fr cap.toList fun ys => k (.fn f xs ys)
theorem mkFnK_spec {f : Fn} {first cap : Array Operand} {k : AV → Bool} (h : mkFnK T fr f first cap k = true) (s : Rel T c ρ fr ds M nx a w) : Yes P ρ a (fun _ => True) (.makeFunc f first cap) k := by
  obtain ⟨xs, us, h1, h2⟩ := argsK_spec s h
  obtain ⟨ys, vs, h3, h4⟩ := argsK_spec s h2
  refine ⟨.fn f xs ys, .func f ⟨us⟩ ⟨vs⟩, by simp [ren, show renL ρ xs = some us from h1.1, show renL ρ ys = some vs from h3.1], h4, fun w _ ty => ?_⟩
  have := Yl.makeFunc (P := P) (Γ := []) (ty := ty) (f := f) (h1.2 none w (mem w)) (h3.2 none w (mem w))
  simpa using this

/-! ### lengths -/
def lenK (T : Tabs P) (fr : Tr AV) (M : Mem) (t : TypeId) (x : Operand) (k : AV → Bool) : Bool := argK T fr x fun v => Option.rec false (fun r => match r with
  | ⟨.str, _, _⟩ => (match v with
    | .str l => lenL l 0 fun n => k (.int .i64 (.ofNat n))
    | _ => false)
  | ⟨.sl _, _, _⟩ => (match v with
    | .sl _ _ n _ _ => k (.int .i64 (.ofNat n))
    | .nils => k (.int .i64 (.ofNat 0))
    | .em _ _ _ _ => k (.int .i64 (.ofNat 0))
    | _ => false)
  | ⟨.map _ _, _, _⟩ => (match v with
    | .map i => Option.rec false (fun ck => match ck with
      | .map es _ => lenL es 0 fun n => k (.int .i64 (.ofNat n))
      | _ => false) (M.get i)
    | .nilm => k (.int .i64 (.ofNat 0))
    | _ => false)
  | _ => false) (T.T t)
theorem renM_len : ∀ {es : List (AV × AV × Nat)} {L : List MapEntry}, renM ρ es = some L → L.length = es.length
  | [], L, h => by cases h; rfl
  | (k, v, b) :: es, L, h => by
    simp only [renM, Option.bind_eq_some_iff, Option.map_eq_some_iff] at h
    obtain ⟨_, _, _, _, r, hr, rfl⟩ := h
    simp [renM_len hr]
theorem lenK_spec {t : TypeId} {x : Operand} {k : AV → Bool} (h : lenK T fr M t x k = true) (s : Rel T c ρ fr ds M nx a w) : Yes P ρ a (· = w) (.call ⟨.builtin .len, #[x], #[t]⟩) k := by
  obtain ⟨v, r, h1, h2⟩ := argK_spec h s
  obtain ⟨row, h3, h2⟩ := opt_rec h2
  have hrow := (T.okT _ _ h3).td
  obtain ⟨d, z, b⟩ := row
  clear h
  cases d with
  | str =>
    cases v with
    | str l =>
      obtain ⟨s1, rfl⟩ := ren_str h1.ren
      have h2 : lenL l 0 (fun n => k (.int .i64 (.ofNat n))) = true := h2
      rw [lenL_eq] at h2
      refine ⟨_, _, rfl, h2, fun w' _ ty => ?_⟩
      have := Yl.len_str (P := P) (Γ := []) (ty := ty) hrow (h1.ev none w' (mem w'))
      simpa using this
    | _ => cases h2
  | sl e =>
    cases v with
    | sl i o n c' sb =>
      have e1 := h1.ren
      simp only [ren, Option.map_eq_some_iff] at e1
      obtain ⟨e', _, rfl⟩ := e1
      exact ⟨_, _, rfl, h2, fun _ hw _ => by subst hw; exact Yl.len_slice hrow (h1.ev _ _ _)⟩
    | nils =>
      obtain rfl : r = .slice none 0 0 := by simpa [ren] using h1.ren.symm
      exact ⟨_, _, rfl, h2, fun _ hw _ => by subst hw; exact Yl.len_slice hrow (h1.ev _ _ _)⟩
    | em i o o' sb =>
      have e1 := h1.ren
      simp only [ren, Option.map_eq_some_iff] at e1
      obtain ⟨e', _, rfl⟩ := e1
      exact ⟨_, _, rfl, h2, fun _ hw _ => by subst hw; exact Yl.len_slice hrow (h1.ev _ _ _)⟩
    | _ => cases h2
  | map kt e =>
    cases v with
    | map i =>
      have h2 : (Option.rec false (fun ck : Ck => match ck with
        | .map es _ => lenL es 0 fun n => k (.int .i64 (.ofNat n))
        | _ => false) (M.get i) : Bool) = true := h2
      obtain ⟨ck, h4, h2⟩ := opt_rec h2
      cases ck <;> try (cases h2; done)
      rename_i es cl
      have h2 : lenL es 0 (fun n => k (.int .i64 (.ofNat n))) = true := h2
      rw [lenL_eq] at h2
      obtain ⟨e', q1, ⟨L, q2, q3⟩, _⟩ := s.rep.own _ _ h4
      have e1 := h1.ren
      simp only [ren, q1, Option.map_some, Option.some.injEq] at e1
      subst e1
      refine ⟨_, .int .i64 L.length, by rw [renM_len q2]; rfl, h2, fun w1 hw ty => ?_⟩
      subst hw
      intro a' w' d pos af g st
      have hb : w'.heap[e'.1]? = some (.map ⟨L⟩ cl) := (Rd.ro (Γ := []) (show (mem w1) e'.1 = some _ from q3)) w' st.heap
      have hg : (getObj e'.1).run P w' = .ok (.map ⟨L⟩ cl) w' := by simp [getObj, Sem.run, hb]
      simp [execOp, resolve, invoke, builtin, Builtin.len_, st.eval (h1.ev _ _ _), run_underlying hrow, hg, goInt]
    | nilm =>
      obtain rfl : r = .map none := by simpa [ren] using h1.ren.symm
      refine ⟨_, .int .i64 0, rfl, h2, fun w1 hw ty => ?_⟩
      subst hw
      intro a' w' d pos af g st
      simp [execOp, resolve, invoke, builtin, Builtin.len_, st.eval (h1.ev _ _ _), run_underlying hrow, goInt]
    | _ => cases h2
  | _ => cases h2
end
end Go.Ev
