/- The evaluator, part J: literals, type assertions, least and greatest, a map's entry. -/
import Derived.Test.YtppdclebbcmcaaaEvI
set_option linter.unusedSimpArgs false
set_option linter.unusedVariables false
namespace Go.Ev
open Go.Sl
noncomputable section
variable {P : Program} {T : Tabs P} {c : Cn} {ρ : Env} {fr : Tr AV} {ds : List AD} {M : Mem} {nx : Nat} {a : Act} {w : World}

/-! ### literals -/
def fillK (place : Nat → Option (Nat × Nat)) (is : List Nat) : List AV → List AV → (List AV → Bool) → Bool :=
  List.rec (fun vs l k => List.rec (k l) (fun _ _ _ => false) vs) (fun i _ ih vs l k => List.rec false (fun v vs _ => Option.rec false (fun q => Prod.rec (fun off size =>
    splitL l off fun A B => splitL B size fun _ C => lenL (cellsA v) 0 fun n => both (Nat.beq n size) (appL (cellsA v) C fun D => appL A D fun l' => ih vs l' k)) q) (place i)) vs) is
theorem fillK_spec {place : Nat → Option (Nat × Nat)} : ∀ {is : List Nat} {vs l : List AV} {k : List AV → Bool} {rs vl : List Value}, fillK place is vs l k = true → RL ρ vs rs → RL ρ l vl → ∃ l' vl', k l' = true ∧ RL ρ l' vl' ∧ fillL place vl (is.zip rs) = some vl'
  | [], [], l, k, rs, vl, h, h1, h2 => ⟨l, vl, h, h2, by rw [h1.outNil]; rfl⟩
  | [], _ :: _, l, k, rs, vl, h, h1, h2 => by cases h
  | i :: is, [], l, k, rs, vl, h, h1, h2 => by cases h
  | i :: is, v :: vs, l, k, rs, vl, h, h1, h2 => by
    obtain ⟨r, rs', rfl, hr, h1⟩ := h1.out
    obtain ⟨⟨off, size⟩, h3, h⟩ := opt_rec (show (Option.rec false (fun q : Nat × Nat => Prod.rec (fun off size =>
      splitL l off fun A B => splitL B size fun _ C => lenL (cellsA v) 0 fun n => both (Nat.beq n size) (appL (cellsA v) C fun D => appL A D fun l' => fillK place is vs l' k)) q) (place i) : Bool) = true from h)
    obtain ⟨g1, h⟩ := splitL_spec (show splitL l off (fun A B => splitL B size fun _ C => lenL (cellsA v) 0 fun n => both (Nat.beq n size) (appL (cellsA v) C fun D => appL A D fun l' => fillK place is vs l' k)) = true from h)
    obtain ⟨g2, h⟩ := splitL_spec h
    rw [lenL_eq] at h
    obtain ⟨g3, h⟩ := both_eq.1 h
    rw [appL_eq, appL_eq] at h
    have hc := cellsA_spec hr
    have hn : r.cells.toList.length = size := by rw [hc.length]; exact Nat.eq_of_beq_eq_true g3
    have hl := h2.length
    have hle : off + r.cells.toList.length ≤ vl.length := by
      rw [hn]; simp at g2; omega
    have hsp : RL ρ (l.take off ++ (cellsA v ++ (l.drop off).drop size)) (splice vl off r.cells.toList) := by
      unfold splice
      rw [List.append_assoc, hn, ← List.drop_drop]
      exact (h2.take off).append (hc.append ((h2.drop off).drop size))
    obtain ⟨l', vl', q1, q2, q3⟩ := fillK_spec h h1 hsp
    refine ⟨l', vl', q1, q2, ?_⟩
    simp only [List.zip_cons_cons, fillL, h3]
    have e1 : Nat.beq r.cells.toList.length size = true := by rw [hn]; simp
    have e2 : Nat.ble (off + r.cells.toList.length) vl.length = true := by rw [Nat.ble_eq]; exact hle
    rw [e1, e2]; exact q3
def placeOf (T : Tabs P) (t : TypeId) (k : (Nat → Option (Nat × Nat)) → Bool) : Bool := Option.rec false (fun r => match r with
  | ⟨.st fs, _, _⟩ => k fun i => Option.rec none (fun f => some (f.1, f.2.2)) (nth fs i)
  | ⟨.arr _ e, _, _⟩ => Option.rec false (fun q => k fun i => some (Nat.mul i q.size, q.size)) (T.T e)
  | _ => false) (T.T t)
def buildK (P : Program) (T : Tabs P) (fr : Tr AV) (t : TypeId) (parts : Array (Nat × Operand)) (k : AV → Bool) : Bool :=
  argsK T fr (parts.toList.map (·.2)) fun vs => zeroK P t fun z => placeOf T t fun place => fillK place (parts.toList.map (·.1)) vs (cellsA z) fun l => k (.agg l)
theorem fillL_congr {p q : Nat → Option (Nat × Nat)} (h : ∀ i, p i = q i) : fillL p = fillL q := by
  have : p = q := funext h
  rw [this]
theorem buildK_spec {t : TypeId} {parts : Array (Nat × Operand)} {k : AV → Bool} (h : buildK P T fr t parts k = true) (s : Rel T c ρ fr ds M nx a w) : Yes P ρ a (fun _ => True) (.build t parts) k := by
  obtain ⟨vs, rs, h1, h2⟩ := argsK_spec s h
  obtain ⟨z, h3, h2⟩ := opt_rec h2
  obtain ⟨zr, z1, z2, z3⟩ := zeroA_spec h3 ρ
  obtain ⟨⟨d, sz, b⟩, h4, h2⟩ := opt_rec h2
  have hz := cellsA_spec z2
  cases d with
  | st fs =>
    obtain ⟨_, hu, hp, _⟩ := (T.okT _ _ h4).td
    obtain ⟨l', vl', q1, q2, q3⟩ := fillK_spec (show fillK (fun i => Option.rec none (fun f => some (f.1, f.2.2)) (nth fs i)) (parts.toList.map (·.1)) vs (cellsA z) (fun l => k (.agg l)) = true from h2) h1.1 hz
    refine ⟨.agg l', .agg ⟨vl'⟩, by simp [ren, show renL ρ l' = some vl' from q2], q1, fun w _ ty => ?_⟩
    rw [fillL_congr (q := fun i => (fs.map fun f => (f.1, f.2.2))[i]?) (fun i => by rw [nth_eq, List.getElem?_map]; cases fs[i]? <;> rfl)] at q3
    have := Yl.buildStruct (P := P) (Γ := []) (ty := ty) (parts := parts.toList) hp z3 (h1.2 none w (mem w)) q3
    simpa using this
  | arr n e =>
    obtain ⟨q, h5, h2⟩ := opt_rec (show (Option.rec false (fun q : TRow => fillK (fun i => some (Nat.mul i q.size, q.size)) (parts.toList.map (·.1)) vs (cellsA z) fun l => k (.agg l)) (T.T e) : Bool) = true from h2)
    obtain ⟨l', vl', q1, q2, q3⟩ := fillK_spec h2 h1.1 hz
    refine ⟨.agg l', .agg ⟨vl'⟩, by simp [ren, show renL ρ l' = some vl' from q2], q1, fun w _ ty => ?_⟩
    have := Yl.buildArr (P := P) (Γ := []) (ty := ty) (parts := parts.toList) (T.okT _ _ h4).td (T.okT _ _ h5).size z3 (h1.2 none w (mem w)) q3
    simpa using this
  | _ => cases h2

/-! ### least and greatest -/
def plainsK (vs : List AV) (k : List Value → Bool) : Bool := Option.rec false k (optL toV vs)
theorem plainsK_spec : ∀ {vs : List AV} {rs q : List Value}, optL toV vs = some q → RL ρ vs rs → q = rs
  | [], rs, q, h, h1 => by cases h; rw [h1.outNil]
  | v :: vs, rs, q, h, h1 => by
    obtain ⟨y, ys, h2, h3, rfl⟩ := optL_cons h
    obtain ⟨r, rs', rfl, hr, g1⟩ := h1.out
    have e := toV_ren h2 ρ; rw [hr] at e
    have e := Option.some.inj e
    rw [plainsK_spec h3 g1, e]
def minK (P : Program) (T : Tabs P) (fr : Tr AV) (xs : Array Operand) (k : AV → Bool) : Bool := argsK T fr xs.toList fun vs => plainsK vs fun rs => semK P (Builtin.min_ #[] 0 ⟨rs⟩) k
def maxK (P : Program) (T : Tabs P) (fr : Tr AV) (xs : Array Operand) (k : AV → Bool) : Bool := argsK T fr xs.toList fun vs => plainsK vs fun rs => semK P (Builtin.max_ #[] 0 ⟨rs⟩) k
theorem minK_spec {xs : Array Operand} {ats : Array TypeId} {k : AV → Bool} (h : minK P T fr xs k = true) (s : Rel T c ρ fr ds M nx a w) : Yes P ρ a (fun _ => True) (.call ⟨.builtin .min, xs, ats⟩) k := by
  obtain ⟨vs, rs, h1, h2⟩ := argsK_spec s h
  obtain ⟨q, h3, h2⟩ := opt_rec h2
  obtain rfl := plainsK_spec (ρ := ρ) h3 h1.1
  obtain ⟨x, v, g1, g2, g3⟩ := semK_spec h2 ρ
  refine ⟨x, v, g1, g2, fun w1 _ ty => fun a' w' d pos af g st => ?_⟩
  have h0 : xs.map a'.eval = ⟨q⟩ := by apply Array.ext'; rw [Array.toList_map]; exact st.evals (h1.2 none w1 (mem w1))
  have h4 : ∀ t, Builtin.min_ ats t ⟨q⟩ = Builtin.min_ #[] 0 ⟨q⟩ := fun _ => rfl
  simp [execOp, resolve, invoke, builtin, h0, h4, g3]
theorem maxK_spec {xs : Array Operand} {ats : Array TypeId} {k : AV → Bool} (h : maxK P T fr xs k = true) (s : Rel T c ρ fr ds M nx a w) : Yes P ρ a (fun _ => True) (.call ⟨.builtin .max, xs, ats⟩) k := by
  obtain ⟨vs, rs, h1, h2⟩ := argsK_spec s h
  obtain ⟨q, h3, h2⟩ := opt_rec h2
  obtain rfl := plainsK_spec (ρ := ρ) h3 h1.1
  obtain ⟨x, v, g1, g2, g3⟩ := semK_spec h2 ρ
  refine ⟨x, v, g1, g2, fun w1 _ ty => fun a' w' d pos af g st => ?_⟩
  have h0 : xs.map a'.eval = ⟨q⟩ := by apply Array.ext'; rw [Array.toList_map]; exact st.evals (h1.2 none w1 (mem w1))
  have h4 : ∀ t, Builtin.max_ ats t ⟨q⟩ = Builtin.max_ #[] 0 ⟨q⟩ := fun _ => rfl
  simp [execOp, resolve, invoke, builtin, h0, h4, g3]

/-! ### type assertions -/
def holdsIfc (P : Program) (asserted t : TypeId) : Option Bool := match P.underlying asserted with
  | some (.interface want) => (P.info? t).map fun i => (Instr.missingMethod want i.methods).isNone
  | _ => none
def holdK (ok : Bool) (u : AV) (k : AV → Bool) : Bool := Bool.rec (k u) (k (.tup [u, .bool true])) ok
def failK (P : Program) (t : TypeId) (ok : Bool) (k : AV → Bool) : Bool := Bool.rec false (zeroK P t fun z => k (.tup [z, .bool false])) ok
def assertK (P : Program) (T : Tabs P) (fr : Tr AV) (x : Operand) (asserted : TypeId) (ok : Bool) (k : AV → Bool) : Bool := argK T fr x fun v => Option.rec false (fun r => both r.td.known (match v with
  | .nili => failK P asserted ok k
  | .iface t v => Bool.rec (Bool.rec (failK P asserted ok k) (holdK ok v k) (Nat.beq t asserted)) (Option.rec false (fun b => Bool.rec (failK P asserted ok k) (holdK ok (.iface t v) k) b) (holdsIfc P asserted t)) (match r.td with | .ifc => true | _ => false)
  | _ => false)) (T.T asserted)
theorem holdK_spec {ok : Bool} {u : AV} {r : Value} {k : AV → Bool} (h : holdK ok u k = true) (hr : ren ρ u = some r) : ∃ v, k v = true ∧ ren ρ v = some (if ok then .tuple #[r, .bool true] else r) := by
  cases ok with
  | false => exact ⟨u, h, hr⟩
  | true => exact ⟨_, h, by simp [ren, renL, hr]⟩
theorem failK_spec {ok : Bool} {t : TypeId} {k : AV → Bool} (h : failK P t ok k = true) (ρ : Env) : ok = true ∧ ∃ v z, k v = true ∧ zeroV P t = some z ∧ ren ρ v = some (.tuple #[z, .bool false]) := by
  cases ok with
  | false => cases h
  | true =>
    obtain ⟨z, h1, h2⟩ := opt_rec h
    obtain ⟨zr, z1, z2, _⟩ := zeroA_spec h1 ρ
    exact ⟨rfl, _, zr, h2, z1, by simp [ren, renL, z2]⟩
theorem assertK_spec {x : Operand} {xt asserted : TypeId} {ok : Bool} {k : AV → Bool} (h : assertK P T fr x asserted ok k = true) (s : Rel T c ρ fr ds M nx a w) : Yes P ρ a (fun _ => True) (.typeAssert x xt asserted ok) k := by
  obtain ⟨v, r, h1, h2⟩ := argK_spec h s
  obtain ⟨⟨d, sz, b⟩, h3, h2⟩ := opt_rec h2
  obtain ⟨hk, h2⟩ := both_eq.1 h2
  have hrow := (T.okT _ _ h3).td
  obtain ⟨dsc, hd⟩ := hrow.known hk
  have hi : d = .ifc ∨ ∀ ms, dsc ≠ .interface ms := by
    cases d <;> simp only [TD.known, Bool.false_eq_true] at hk <;> simp only [TDok] at hrow
    case ifc => exact .inl rfl
    case ptr => obtain ⟨e, hrow⟩ := hrow; rw [hd] at hrow; cases hrow; exact .inr (by simp)
    case st => obtain ⟨e, hrow, _⟩ := hrow; rw [hd] at hrow; cases hrow; exact .inr (by simp)
    case fn => obtain ⟨_, _, _, hrow⟩ := hrow; rw [hd] at hrow; cases hrow; exact .inr (by simp)
    all_goals (rw [hd] at hrow; cases hrow; exact .inr (by simp))
  cases v with
  | nili =>
    obtain rfl : r = .nilIface := by simpa [ren] using h1.ren.symm
    obtain ⟨rfl, v, z, g1, g2, g3⟩ := failK_spec h2 ρ
    refine ⟨v, _, g3, g1, fun _ _ ty => yl_of fun d pos af g w' => ?_⟩
    cases dsc <;> simp [execOp, Instr.typeAssert, h1.eval, run_underlying hd, run_zeroV g2]
  | iface t v' =>
    have e1 := h1.ren
    simp only [ren, Option.map_eq_some_iff] at e1
    obtain ⟨r', hr', rfl⟩ := e1
    by_cases hdi : d = .ifc
    · subst hdi
      obtain ⟨ms, hms⟩ := hrow
      have h2 : (Option.rec false (fun b : Bool => Bool.rec (failK P asserted ok k) (holdK ok (.iface t v') k) b) (holdsIfc P asserted t) : Bool) = true := h2
      obtain ⟨q, h4, h2⟩ := opt_rec h2
      unfold holdsIfc at h4
      rw [hms] at h4
      obtain ⟨i, h5, h6⟩ := Option.map_eq_some_iff.1 h4
      cases q with
      | false =>
        obtain ⟨rfl, v, z, g1, g2, g3⟩ := failK_spec h2 ρ
        refine ⟨v, _, g3, g1, fun _ _ ty => yl_of fun d pos af g w' => ?_⟩
        obtain ⟨m, hm⟩ : ∃ m, Instr.missingMethod ms i.methods = some m := by
          cases hq : Instr.missingMethod ms i.methods with
          | none => rw [hq] at h6; cases h6
          | some m => exact ⟨m, rfl⟩
        simp [execOp, Instr.typeAssert, h1.eval, run_underlying hms, typeInfo, h5, hm, run_zeroV g2]
      | true =>
        obtain ⟨v, g1, g2⟩ := holdK_spec h2 h1.ren
        refine ⟨v, _, g2, g1, fun _ _ ty => yl_of fun d pos af g w' => ?_⟩
        have hm : Instr.missingMethod ms i.methods = none := by simpa using h6
        simp [execOp, Instr.typeAssert, h1.eval, run_underlying hms, typeInfo, h5, hm]
    · have hni := hi.resolve_left hdi
      have h2 : (Bool.rec (failK P asserted ok k) (holdK ok v' k) (Nat.beq t asserted) : Bool) = true := by
        cases d <;> first | exact absurd rfl hdi | exact h2
      cases q : Nat.beq t asserted with
      | false =>
        rw [q] at h2
        obtain ⟨rfl, v, z, g1, g2, g3⟩ := failK_spec h2 ρ
        have hne : t ≠ asserted := fun e => by subst e; simp at q
        refine ⟨v, _, g3, g1, fun _ _ ty => yl_of fun d pos af g w' => ?_⟩
        cases dsc <;> first | exact absurd rfl (hni _) | simp [execOp, Instr.typeAssert, h1.eval, run_underlying hd, hne, run_zeroV g2]
      | true =>
        rw [q] at h2
        obtain rfl := Nat.eq_of_beq_eq_true q
        obtain ⟨v, g1, g2⟩ := holdK_spec h2 hr'
        refine ⟨v, _, g2, g1, fun _ _ ty => yl_of fun d pos af g w' => ?_⟩
        cases dsc <;> first | exact absurd rfl (hni _) | simp [execOp, Instr.typeAssert, h1.eval, run_underlying hd]
  | _ => cases h2

/-! ### the entry at which a range over a map stands -/
def lastL (l : List Nat) : Option Nat := List.rec none (fun x t ih => List.rec (some x) (fun _ _ _ => ih) t) l
theorem lastL_eq : ∀ l : List Nat, lastL l = l.getLast?
  | [] => rfl
  | [x] => rfl
  | x :: y :: l => by
    show lastL (y :: l) = _
    rw [lastL_eq (y :: l)]; simp
def bornL (b : Nat) (es : List (AV × AV × Nat)) : Option (AV × AV) := List.rec none (fun e _ ih => Prod.rec (fun k vb => Prod.rec (fun v b' => Bool.rec ih (some (k, v)) (Nat.beq b' b)) vb) e) es
theorem bornL_spec {b : Nat} : ∀ {es : List (AV × AV × Nat)} {L : List MapEntry} {p : AV × AV}, bornL b es = some p → renM ρ es = some L → ∃ e, L.find? (·.born == b) = some e ∧ ren ρ p.1 = some e.key ∧ ren ρ p.2 = some e.val
  | [], L, p, h, hL => by cases h
  | (k, v, b') :: es, L, p, h, hL => by
    simp only [renM, Option.bind_eq_some_iff, Option.map_eq_some_iff] at hL
    obtain ⟨kr, hkr, vr, hvr, L', hL', rfl⟩ := hL
    have h : (Bool.rec (bornL b es) (some (k, v)) (Nat.beq b' b) : Option (AV × AV)) = some p := h
    cases q : Nat.beq b' b with
    | true =>
      rw [q] at h; cases h
      exact ⟨⟨kr, vr, b'⟩, by simp [Nat.eq_of_beq_eq_true q], hkr, hvr⟩
    | false =>
      rw [q] at h
      obtain ⟨e, g1, g2, g3⟩ := bornL_spec h hL'
      have hne : b' ≠ b := fun e => by subst e; simp at q
      exact ⟨e, by simp [hne, g1], g2, g3⟩
def entryK (T : Tabs P) (fr : Tr AV) (M : Mem) (x : Operand) (k : AV → Bool) : Bool := argK T fr x fun v => match v with
  | .ptr i 0 => Option.rec false (fun ck => match ck with
    | .mit m _ seen last => Option.rec false (fun ck' => match ck' with
      | .map es cl => both (Nat.beq cl last) (Option.rec false (fun b => Option.rec false (fun p => Prod.rec (fun key v => k (.tup [key, v])) p) (bornL b es)) (lastL seen))
      | _ => false) (M.get m)
    | _ => false) (M.get i)
  | _ => false
theorem entryK_spec {x : Operand} {k : AV → Bool} (h : entryK T fr M x k = true) (s : Rel T c ρ fr ds M nx a w) : Yes P ρ a (· = w) (.entry x) k := by
  obtain ⟨v, r, h1, h2⟩ := argK_spec h s
  clear h
  split at h2
  · rename_i i
    obtain ⟨ck, h3, h2⟩ := opt_rec h2
    cases ck <;> try (cases h2; done)
    rename_i m since seen last
    obtain ⟨ck', h4, h2⟩ := opt_rec (show (Option.rec false (fun ck' : Ck => match ck' with
      | .map es cl => both (Nat.beq cl last) (Option.rec false (fun b => Option.rec false (fun p => Prod.rec (fun key v => k (.tup [key, v])) p) (bornL b es)) (lastL seen))
      | _ => false) (M.get m) : Bool) = true from h2)
    cases ck' <;> try (cases h2; done)
    rename_i es cl
    obtain ⟨h5, h2⟩ := both_eq.1 h2
    obtain ⟨b, h6, h2⟩ := opt_rec h2
    obtain ⟨p, h7, h2⟩ := opt_rec h2
    obtain rfl := Nat.eq_of_beq_eq_true h5
    obtain ⟨e, q1, ⟨e', q2, q3, h0⟩, _⟩ := s.rep.own _ _ h3
    obtain ⟨e'', q4, ⟨L, q5, q6⟩, _⟩ := s.rep.own _ _ h4
    rw [q2] at q4; cases q4
    have e1 := h1.ren
    simp only [ren, q1, Option.map_some, Option.some.injEq] at e1
    rw [h0] at e1
    subst e1
    obtain ⟨en, g1, g2, g3⟩ := bornL_spec h7 q5
    obtain ⟨p1, p2⟩ := p
    refine ⟨_, .tuple #[en.key, en.val], by simp [ren, renL, g2, g3], h2, fun w1 hw ty => ?_⟩
    subst hw
    intro a' w' d pos af g st
    have hb : w'.heap[e.1]? = _ := (Rd.ro (Γ := []) (show (mem w1) e.1 = some _ from q3)) w' st.heap
    have hb' : w'.heap[e'.1]? = _ := (Rd.ro (Γ := []) (show (mem w1) e'.1 = some _ from q6)) w' st.heap
    have hg : (getObj e.1).run P w' = .ok (.mapIter (some e'.1) since ⟨seen⟩ cl) w' := by simp [getObj, Sem.run, hb]
    have hg' : (getObj e'.1).run P w' = .ok (.map ⟨L⟩ cl) w' := run_getMap hb'
    rw [lastL_eq] at h6
    simp [execOp, Instr.entry, st.eval (h1.ev _ _ _), hg, hg', Array.back?, h6, g1, List.getLast?_eq_getElem?]
    have h6' := h6
    rw [List.getLast?_eq_getElem?] at h6'
    simp [h6', hg', g1]
  · cases h2
end
end Go.Ev
