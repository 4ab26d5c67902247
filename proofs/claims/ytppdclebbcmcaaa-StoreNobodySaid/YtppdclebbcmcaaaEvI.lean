/- The evaluator, part I: keys of maps, literals, type assertions, least and greatest. -/
import Derived.Test.YtppdclebbcmcaaaEvH
set_option linter.unusedSimpArgs false
set_option linter.unusedVariables false
namespace Go.Ev
open Go.Sl
noncomputable section
variable {P : Program} {T : Tabs P} {c : Cn} {ρ : Env} {fr : Tr AV} {ds : List AD} {M : Mem} {nx : Nat} {a : Act} {w : World}

/-! ### keys -/
def genEqK (P : Program) (t : TypeId) (v u : AV) (k : Bool → Bool) : Bool := Option.rec false (fun r => Option.rec false (fun q => Option.rec false (fun b => forceB b k) (prun P (Op.equal t r q))) (toV u)) (toV v)
def keyEqK (P : Program) (T : Tabs P) (t : TypeId) (v u : AV) (k : Bool → Bool) : Bool := match v with
  | .str l => (match u with
    | .str m => Option.rec false (fun r => match r with
      | ⟨.str, _, _⟩ => forceB (eqN l m) k
      | _ => false) (T.T t)
    | _ => false)
  | .agg A => Option.rec false (fun r => match r with
    | ⟨.arr n e, _, _⟩ => Option.rec false (fun q => match q with
      | ⟨.int .u8, 1, _⟩ => (match u with
        | .agg B => mapL byteK A fun x => mapL byteK B fun y => lenL x 0 fun i => lenL y 0 fun j => both (Nat.beq i n) (both (Nat.beq j n) (forceB (eqN x y) k))
        | _ => false)
      | _ => genEqK P t (.agg A) u k) (T.T e)
    | _ => genEqK P t (.agg A) u k) (T.T t)
  | v => genEqK P t v u k
theorem genEqK_spec {t : TypeId} {v u : AV} {k : Bool → Bool} (h : genEqK P t v u k = true) {r q : Value} (hv : ren ρ v = some r) (hu : ren ρ u = some q) : ∃ b, k b = true ∧ ∀ w, (Op.equal t r q).run P w = .ok b w := by
  obtain ⟨r', h1, g1⟩ := opt_rec h
  obtain ⟨q', h2, g2⟩ := opt_rec g1
  obtain ⟨b, h3, g3⟩ := opt_rec g2
  rw [forceB_eq] at g3
  have e1 := toV_ren h1 ρ; rw [hv] at e1; cases e1
  have e2 := toV_ren h2 ρ; rw [hu] at e2; cases e2
  exact ⟨b, g3, prun_run h3⟩
theorem run_equal_str {t : TypeId} {p q : ByteArray} {w : World} (ht : P.underlying t = some .string) : (Op.equal t (.string p) (.string q)).run P w = .ok (p == q) w := by
  have h : ∀ d, (Op.equalIn (d + 1) t (.string p) (.string q)).run P w = .ok (p == q) w := fun d => by simp [Op.equalIn, run_underlying ht]
  exact h 9999
theorem ba_beq {l m : List Nat} (hl : small l = true) (hm : small m = true) : ((⟨⟨l.map UInt8.ofNat⟩⟩ : ByteArray) == ⟨⟨m.map UInt8.ofNat⟩⟩) = eqN l m := by
  rw [eqN_spec, Bool.eq_iff_iff, MapKept.bytes_beq, decide_eq_true_iff, ← map_inj hl hm]
  constructor
  · intro h; injection h with h; injection h
  · intro h; rw [h]
theorem keyEqK_spec {t : TypeId} {v u : AV} {k : Bool → Bool} (h : keyEqK P T t v u k = true) {r q : Value} (hv : ren ρ v = some r) (hu : ren ρ u = some q) : ∃ b, k b = true ∧ ∀ w, (Op.equal t r q).run P w = .ok b w := by
  cases v with
  | str l =>
    cases u with
    | str m =>
      obtain ⟨⟨d, z, b⟩, h1, h⟩ := opt_rec h
      cases d <;> try (cases h; done)
      have h : forceB (eqN l m) k = true := h
      rw [forceB_eq] at h
      obtain ⟨s1, rfl⟩ := ren_str hv
      obtain ⟨s2, rfl⟩ := ren_str hu
      exact ⟨_, h, fun w => by rw [← ba_beq s1 s2]; exact run_equal_str (T.okT _ _ h1).td⟩
    | _ => cases h
  | agg A =>
    obtain ⟨⟨d, z, b⟩, h1, h⟩ := opt_rec h
    cases d with
    | arr n e =>
      obtain ⟨⟨d', z', b'⟩, h2, h⟩ := opt_rec h
      by_cases hd : d' = .int .u8 ∧ z' = 1
      · obtain ⟨rfl, rfl⟩ := hd
        cases u with
        | agg B =>
          obtain ⟨x, g1, h⟩ := mapL_spec byteK_spec (show mapL byteK A (fun x => mapL byteK B fun y => lenL x 0 fun i => lenL y 0 fun j => both (Nat.beq i n) (both (Nat.beq j n) (forceB (eqN x y) k))) = true from h)
          obtain ⟨y, g2, h⟩ := mapL_spec byteK_spec h
          rw [lenL_eq, lenL_eq] at h
          obtain ⟨g3, h⟩ := both_eq.1 h
          obtain ⟨g4, h⟩ := both_eq.1 h
          rw [forceB_eq] at h
          simp only [ren, Option.map_eq_some_iff] at hv hu
          obtain ⟨us, hus, rfl⟩ := hv
          obtain ⟨vs, hvs, rfl⟩ := hu
          obtain ⟨g5, rfl⟩ := bytes_of (ρ := ρ) g1 hus
          obtain ⟨g6, rfl⟩ := bytes_of (ρ := ρ) g2 hvs
          refine ⟨_, h, fun w => ?_⟩
          have := run_equal_bytes (P := P) (w := w) (T.okT _ _ h1).td (T.okT _ _ h2).td (T.okT _ _ h2).size (p := x.map UInt8.ofNat) (q := y.map UInt8.ofNat) (by simpa using Nat.eq_of_beq_eq_true g3) (by simpa using Nat.eq_of_beq_eq_true g4)
          rw [this, eqN_spec]
          congr 1
          rw [Bool.eq_iff_iff, beq_iff_eq, decide_eq_true_iff, map_inj g5 g6]
        | _ => cases h
      · have : genEqK P t (.agg A) u k = true := by
          cases d' <;> try exact h
          rename_i kd
          cases kd <;> try exact h
          cases z' with
          | zero => exact h
          | succ z' => cases z' with
            | zero => exact absurd ⟨rfl, rfl⟩ hd
            | succ z' => exact h
        exact genEqK_spec this hv hu
    | _ => exact genEqK_spec h hv hu
  | _ => unfold keyEqK at h; exact genEqK_spec h hv hu
/-! ### arrays, structs, side by side -/
def aggEqK (P : Program) (T : Tabs P) (op : BinOp) (tx : TypeId) (v u : AV) (k : AV → Bool) : Bool := both (notB (P.eqGuardType P.depth tx)) (match op with
  | .eql => keyEqK P T tx v u fun b => k (.bool b)
  | .neq => keyEqK P T tx v u fun b => forceB (notB b) fun b => k (.bool b)
  | _ => false)
def binXK (P : Program) (T : Tabs P) (fr : Tr AV) (op : BinOp) (tx : TypeId) (x y : Operand) (k : AV → Bool) : Bool := argK T fr x fun v => match v with
  | .agg A => argK T fr y fun u => match u with
    | .agg B => aggEqK P T op tx (.agg A) (.agg B) k
    | _ => false
  | v => argK T fr y fun u => bin2K P T op tx x y v u k
theorem binXK_spec {op : BinOp} {tx tz : TypeId} {x y : Operand} {k : AV → Bool} (h : binXK P T fr op tx x y k = true) (s : Rel T c ρ fr ds M nx a w) : Yes P ρ a (fun _ => True) (.binOp op tx x y tz) k := by
  obtain ⟨v, r, h1, h2⟩ := argK_spec h s
  by_cases hv : ∃ A, v = .agg A
  · obtain ⟨A, rfl⟩ := hv
    obtain ⟨u, q, h3, g⟩ := argK_spec (show argK T fr y (fun u => match u with
      | .agg B => aggEqK P T op tx (.agg A) (.agg B) k
      | _ => false) = true from h2) s
    cases u <;> try (cases g; done)
    rename_i B
    obtain ⟨g1, g⟩ := both_eq.1 g
    rw [notB_eq, Bool.not_eq_true'] at g1
    have e1 := h1.ren
    have e3 := h3.ren
    simp only [ren, Option.map_eq_some_iff] at e1 e3
    obtain ⟨us, _, rfl⟩ := e1
    obtain ⟨vs, _, rfl⟩ := e3
    have hg : ∀ w, (eqGuard op tx x y (.agg ⟨us⟩) (.agg ⟨vs⟩)).run P w = .ok () w := fun w => by
      unfold eqGuard
      cases op <;> simp [g1]
    have of : ∀ {b : Bool} {v' : Value}, (∀ w, (binOp op tx (.agg ⟨us⟩) (.agg ⟨vs⟩)).run P w = .ok (.bool b) w) → k (.bool b) = true → Yes P ρ a (fun _ => True) (.binOp op tx x y tz) k := fun {b v'} a3 a2 =>
      ⟨.bool b, .bool b, rfl, a2, fun _ _ _ => fun a w d pos af g st => by
        have h := a3 w
        show (((do eqGuard op tx x y (a.eval x) (a.eval y); binOp op tx (a.eval x) (a.eval y) : Sem Value) >>= fun v => pure (.value v) : Sem Next)).run P w = _
        rw [st.eval (h1.ev _ _ _), st.eval (h3.ev _ _ _), Sem.run_bind, Sem.run_bind, hg, Result.andThen_ok, h]; rfl⟩
    cases op <;> try (cases g; done)
    · obtain ⟨b, g2, g3⟩ := keyEqK_spec (show keyEqK P T tx (.agg A) (.agg B) (fun b => k (.bool b)) = true from g) h1.ren h3.ren
      exact of (v' := undef) (fun w => by simp [binOp, g3 w]) g2
    · obtain ⟨b, g2, g3⟩ := keyEqK_spec (show keyEqK P T tx (.agg A) (.agg B) (fun b => forceB (notB b) fun b => k (.bool b)) = true from g) h1.ren h3.ren
      rw [forceB_eq, notB_eq] at g2
      exact of (v' := undef) (fun w => by simp [binOp, g3 w]) g2
  · obtain ⟨u, q, h3, g⟩ := argK_spec (show argK T fr y (fun u => bin2K P T op tx x y v u k) = true by cases v <;> first | exact h2 | exact absurd ⟨_, rfl⟩ hv) s
    exact bin2K_spec h1 h3 g
/-- The first entry with this key. -/
def findK (P : Program) (T : Tabs P) (t : TypeId) (key : AV) (es : List (AV × AV × Nat)) : Nat → (Option (Nat × AV × AV) → Bool) → Bool :=
  List.rec (fun _ k => k none) (fun e _ ih j k => Prod.rec (fun k' vb => Prod.rec (fun v _ => keyEqK P T t key k' fun b => Bool.rec (forceN (Nat.succ j) fun j => ih j k) (k (some (j, k', v))) b) vb) e) es
def Found (ρ : Env) (L : List MapEntry) : Option (Nat × AV × AV) → Option (Nat × Value) → Prop
  | none, none => True
  | some (j, k', v), some (j', r) => j = j' ∧ ren ρ v = some r ∧ ∃ e, L[j]? = some e ∧ ren ρ k' = some e.key ∧ e.val = r
  | _, _ => False
theorem sameNow_eq {d : TypeDesc} {t : TypeId} {r q : Value} {b : Bool} (hd : P.underlying t = some d) (h : Instr.sameNow d r q = some b) (w : World) : (Op.equal t r q).run P w = .ok b w := by
  have key : ∀ n, (Op.equalIn (n + 1) t r q).run P w = .ok b w := fun n => by
    unfold Instr.sameNow at h
    split at h
    · rename_i k1 x k2 y
      split at h
      · rename_i e; cases h; simp [Op.equalIn, run_underlying hd, e]
      · cases h
    · cases h; simp [Op.equalIn, run_underlying hd]
    · cases h; simp [Op.equalIn, run_underlying hd]
    · cases h
  exact key 9999
theorem findNow_asking {d : TypeDesc} {t : TypeId} {r : Value} (hd : P.underlying t = some d) (w : World) : ∀ (L : List MapEntry) (i : Nat) (x : Option (Nat × Value)), Instr.findNow d r L i = some x → (Instr.findAsking t r L i).run P w = .ok x w
  | [], i, x, h => by cases h; rfl
  | e :: L, i, x, h => by
    simp only [Instr.findNow] at h
    simp only [Instr.findAsking, Sem.run_bind]
    split at h
    · rename_i hs; cases h; rw [sameNow_eq hd hs w]; simp
    · rename_i hs; rw [sameNow_eq hd hs w]; simpa using findNow_asking hd w L (i + 1) x h
    · cases h
theorem run_findKey_of {d : TypeDesc} {t : TypeId} {r : Value} {L : List MapEntry} {x : Option (Nat × Value)} (hd : P.underlying t = some d) (w : World) (h : (Instr.findAsking t r L 0).run P w = .ok x w) : (Instr.findKey t r L).run P w = .ok x w := by
  unfold Instr.findKey
  simp only [Sem.run_bind, run_underlying hd, Result.andThen_ok]
  cases hn : Instr.findNow d r L 0 with
  | none => exact h
  | some y =>
    have := findNow_asking hd w L 0 y hn
    rw [h] at this; cases this
    rfl
theorem findK_spec {t : TypeId} {key : AV} {r : Value} (hk : ren ρ key = some r) : ∀ {es : List (AV × AV × Nat)} {j : Nat} {k : Option (Nat × AV × AV) → Bool} {L : List MapEntry}, findK P T t key es j k = true → renM ρ es = some L → ∀ pre, pre.length = j →
    ∃ x y, k x = true ∧ Found ρ (pre ++ L) x y ∧ ∀ w, (Instr.findAsking t r L j).run P w = .ok y w
  | [], j, k, L, h, hL, pre, hp => by cases hL; exact ⟨none, none, h, trivial, fun _ => rfl⟩
  | (k', v, b) :: es, j, k, L, h, hL, pre, hp => by
    simp only [renM, Option.bind_eq_some_iff, Option.map_eq_some_iff] at hL
    obtain ⟨kr, hkr, vr, hvr, L', hL', rfl⟩ := hL
    obtain ⟨q, h1, h2⟩ := keyEqK_spec (show keyEqK P T t key k' (fun b => Bool.rec (forceN (Nat.succ j) fun j => findK P T t key es j k) (k (some (j, k', v))) b) = true from h) hk hkr
    cases q with
    | true =>
      refine ⟨_, some (j, vr), h1, ⟨rfl, hvr, ⟨kr, vr, b⟩, by simp [← hp], hkr, rfl⟩, fun w => ?_⟩
      simp [Instr.findAsking, h2]
    | false =>
      have h1 : forceN (Nat.succ j) (fun j => findK P T t key es j k) = true := h1
      rw [forceN_eq] at h1
      obtain ⟨x, y, g1, g2, g3⟩ := findK_spec hk h1 hL' (pre ++ [⟨kr, vr, b⟩]) (by simp [hp])
      refine ⟨x, y, g1, by simpa using g2, fun w => ?_⟩
      simp only [Instr.findAsking, Sem.run_bind, h2, Result.andThen_ok]
      simpa using g3 w
/-- May this be a key? -/
def chkK (P : Program) (t : TypeId) (empty : Bool) (key : AV) (k : Bool) : Bool := Option.rec false (fun r => Option.rec false (fun _ => k) (prun P (Instr.checkKey empty 10000 t r))) (toV key)
theorem chkK_spec {t : TypeId} {e : Bool} {key : AV} {k : Bool} (h : chkK P t e key k = true) {r : Value} (hk : ren ρ key = some r) : k = true ∧ ∀ w, (Instr.checkKey e 10000 t r).run P w = .ok () w := by
  obtain ⟨r', h1, g1⟩ := opt_rec h
  obtain ⟨u, h2, g2⟩ := opt_rec g1
  have e1 := toV_ren h1 ρ; rw [hk] at e1; cases e1
  exact ⟨g2, prun_run h2⟩
/-- Strings and numbers always may. -/
def chkK' (P : Program) (T : Tabs P) (t : TypeId) (empty : Bool) (key : AV) (k : Bool) : Bool := match key with
  | .str _ => Option.rec false (fun r => match r with
    | ⟨.str, _, _⟩ => k
    | _ => false) (T.T t)
  | key => chkK P t empty key k
theorem chkK'_spec {t : TypeId} {e : Bool} {key : AV} {k : Bool} (h : chkK' P T t e key k = true) {r : Value} (hk : ren ρ key = some r) : k = true ∧ ∀ w, (Instr.checkKey e 10000 t r).run P w = .ok () w := by
  cases key with
  | str l =>
    obtain ⟨⟨d, z, b⟩, h1, h⟩ := opt_rec h
    cases d <;> try (cases h; done)
    refine ⟨h, fun w => ?_⟩
    have ht : P.underlying t = some .string := (T.okT _ _ h1).td
    have : ∀ n, (Instr.checkKey e (n + 1) t r).run P w = .ok () w := fun n => by simp [Instr.checkKey, run_underlying ht]
    exact this 9999
  | _ => unfold chkK' at h; exact chkK_spec h hk
def isEmp {α : Type} (l : List α) : Bool := List.rec true (fun _ _ _ => false) l
theorem isEmp_eq {α : Type} (l : List α) : isEmp l = l.isEmpty := by cases l <;> rfl
/-- What a map tells of a key. -/
def toldK (P : Program) (T : Tabs P) (kt e : TypeId) (es : List (AV × AV × Nat)) (key : AV) (ok : Bool) (k : AV → Bool) : Bool :=
  chkK' P T kt (isEmp es) key (findK P T kt key es 0 fun x => Option.rec (zeroK P e fun z => Bool.rec (k z) (k (.tup [z, .bool false])) ok) (fun p => Prod.rec (fun _ q => Prod.rec (fun _ v => Bool.rec (k v) (k (.tup [v, .bool true])) ok) q) p) x)
def lookupK (P : Program) (T : Tabs P) (fr : Tr AV) (M : Mem) (t : TypeId) (x y : Operand) (ok : Bool) (k : AV → Bool) : Bool := argK T fr x fun v => argK T fr y fun u => Option.rec false (fun r => match r with
  | ⟨.map kt e, _, _⟩ => knownK T kt (match v with
    | .nilm => toldK P T kt e [] u ok k
    | .map i => Option.rec false (fun ck => match ck with
      | .map es _ => toldK P T kt e es u ok k
      | _ => false) (M.get i)
    | _ => false)
  | _ => false) (T.T t)
theorem toldK_spec {kt e : TypeId} {es : List (AV × AV × Nat)} {key : AV} {ok : Bool} {k : AV → Bool} (h : toldK P T kt e es key ok k = true) {r : Value} (hk : ren ρ key = some r) {L : List MapEntry} (hL : renM ρ es = some L) {d : TypeDesc} (hd : P.underlying kt = some d) :
    ∃ v q, ren ρ v = some q ∧ k v = true ∧ (∀ w, (Instr.checkKey L.toArray.isEmpty 10000 kt r).run P w = .ok () w) ∧
      ((∃ j x, (∀ w, (Instr.findKey kt r L).run P w = .ok (some (j, x)) w) ∧ q = if ok then .tuple #[x, .bool true] else x) ∨ (∃ x, (∀ w, (Instr.findKey kt r L).run P w = .ok none w) ∧ zeroV P e = some x ∧ q = if ok then .tuple #[x, .bool false] else x)) := by
  obtain ⟨h, hc⟩ := chkK'_spec h hk
  have he : L.toArray.isEmpty = isEmp es := by rw [isEmp_eq, List.isEmpty_toArray]; have := renM_len hL; cases L <;> cases es <;> simp at this ⊢
  obtain ⟨x, y, h1, h2, h3⟩ := findK_spec (P := P) (T := T) hk h hL [] rfl
  have hf := fun w => run_findKey_of hd w (h3 w)
  cases x with
  | none =>
    cases y with
    | some _ => exact h2.elim
    | none =>
      obtain ⟨z, h4, h5⟩ := opt_rec (show (Option.rec false (fun z => Bool.rec (k z) (k (.tup [z, .bool false])) ok) (zeroA P e) : Bool) = true from h1)
      obtain ⟨zr, z1, z2, _⟩ := zeroA_spec h4 ρ
      cases ok with
      | false => exact ⟨z, zr, z2, h5, fun w => by rw [he]; exact hc w, .inr ⟨zr, hf, z1, rfl⟩⟩
      | true => exact ⟨_, .tuple #[zr, .bool false], by simp [ren, renL, z2], h5, fun w => by rw [he]; exact hc w, .inr ⟨zr, hf, z1, rfl⟩⟩
  | some p =>
    obtain ⟨j, k', v⟩ := p
    cases y with
    | none => exact h2.elim
    | some q =>
      obtain ⟨j', vr⟩ := q
      obtain ⟨rfl, hv, _⟩ := h2
      cases ok with
      | false => exact ⟨v, vr, hv, h1, fun w => by rw [he]; exact hc w, .inl ⟨j, vr, hf, rfl⟩⟩
      | true => exact ⟨_, .tuple #[vr, .bool true], by simp [ren, renL, hv], h1, fun w => by rw [he]; exact hc w, .inl ⟨j, vr, hf, rfl⟩⟩
theorem run_getMap {i : Nat} {L : List MapEntry} {cl : Nat} {w : World} (h : w.heap[i]? = some (.map ⟨L⟩ cl)) : (getObj i).run P w = .ok (.map ⟨L⟩ cl) w := by simp [getObj, Sem.run, h]
theorem lookupK_spec {t : TypeId} {x y : Operand} {ok : Bool} {k : AV → Bool} (h : lookupK P T fr M t x y ok k = true) (s : Rel T c ρ fr ds M nx a w) : Yes P ρ a (· = w) (.lookup t x y ok) k := by
  obtain ⟨v, r, h1, h2⟩ := argK_spec h s
  obtain ⟨u, q, h3, h2⟩ := argK_spec h2 s
  obtain ⟨⟨d, z, b⟩, h4, h2⟩ := opt_rec h2
  have hrow := (T.okT _ _ h4).td
  clear h
  cases d <;> try (cases h2; done)
  rename_i kt e
  obtain ⟨⟨kd, hkd⟩, h2⟩ := knownK_spec h2
  cases v with
  | nilm =>
    obtain ⟨v', q', g1, g2, g4, g5⟩ := toldK_spec (P := P) (T := T) h2 h3.ren (L := []) rfl hkd
    obtain rfl : r = .map none := by simpa [ren] using h1.ren.symm
    refine ⟨v', q', g1, g2, fun _ _ ty => yl_of fun d pos af g w' => ?_⟩
    have g4 := g4 w'
    simp only [List.isEmpty_toArray] at g4
    have e1 : (#[] : Array MapEntry).isEmpty = ([] : List MapEntry).isEmpty := rfl
    rcases g5 with ⟨j, x, g5, rfl⟩ | ⟨x, g5, g6, rfl⟩ <;> simp only [execOp, Instr.lookup, h1.eval, h3.eval, Sem.run_bind, run_underlying hrow, Result.andThen_ok, Sem.run_pure, e1, g4, g5, run_zeroV]
    rw [run_zeroV g6]; rfl
  | map i =>
    obtain ⟨ck, h5, h2⟩ := opt_rec (show (Option.rec false (fun ck : Ck => match ck with
      | .map es _ => toldK P T kt e es u ok k
      | _ => false) (M.get i) : Bool) = true from h2)
    cases ck <;> try (cases h2; done)
    rename_i es cl
    obtain ⟨e', q1, ⟨L, q2, q3⟩, _⟩ := s.rep.own _ _ h5
    have e1 := h1.ren
    simp only [ren, q1, Option.map_some, Option.some.injEq] at e1
    subst e1
    obtain ⟨v', q', g1, g2, g4, g5⟩ := toldK_spec (P := P) (T := T) h2 h3.ren q2 hkd
    refine ⟨v', q', g1, g2, fun w1 hw ty => ?_⟩
    subst hw
    intro a' w' d pos af g st
    have hb : w'.heap[e'.1]? = some (.map ⟨L⟩ cl) := (Rd.ro (Γ := []) (show (mem w1) e'.1 = some _ from q3)) w' st.heap
    have g4 := g4 w'
    have e1 : (⟨L⟩ : Array MapEntry).isEmpty = L.toArray.isEmpty := rfl
    rcases g5 with ⟨j, x, g5, rfl⟩ | ⟨x, g5, g6, rfl⟩ <;> simp only [execOp, Instr.lookup, st.eval (h1.ev _ _ _), st.eval (h3.ev _ _ _), Sem.run_bind, run_underlying hrow, Result.andThen_ok, Sem.run_pure, run_getMap hb, e1, g4, g5]
    rw [run_zeroV g6]; rfl
  | _ => cases h2
end
end Go.Ev
