/- The evaluator, part U: a program's tables, checked; a law's end. -/
import Derived.Test.YtppdclebbcmcaaaEvT
import Derived.KernelRfl
set_option linter.unusedSimpArgs false
set_option linter.unusedVariables false
namespace Go.Ev
open Go.Sl
noncomputable section
variable {P : Program}
def look2 {α : Type} (ll : List (List (Option α))) (t : Nat) : Option α := Option.rec none (fun l => Option.rec none (fun x => x) (nth l (Nat.mod t 16))) (nth ll (Nat.div t 16))
theorem look2_eq {α : Type} (ll : List (List (Option α))) (t : Nat) : look2 ll t = (ll[t / 16]?).bind fun l => (l[t % 16]?).bind id := by
  unfold look2
  rw [nth_eq]
  show (Option.rec none (fun l => Option.rec none (fun x => x) (nth l (Nat.mod t 16))) (ll[t / 16]?) : Option α) = _
  cases ll[t / 16]? with
  | none => rfl
  | some l =>
    show (Option.rec none (fun x => x) (nth l (Nat.mod t 16)) : Option α) = _
    rw [nth_eq]
    show (Option.rec none (fun x => x) (l[t % 16]?) : Option α) = _
    show _ = (l[t % 16]?).bind id
    cases l[t % 16]? with
    | none => rfl
    | some x => rfl
/-- All rows but the last are of sixteen. -/
def full16 {α : Type} : List (List α) → Bool
  | [] => true
  | [_] => true
  | l :: m :: r => l.length == 16 && full16 (m :: r)
theorem look2_flat {α : Type} : ∀ {ll : List (List (Option α))} (h : full16 ll = true) (hl : ∀ l ∈ ll, l.length ≤ 16) {t : Nat} {x : α}, look2 ll t = some x → ll.flatten[t]? = some (some x)
  | [], _, _, t, x, e => by rw [look2_eq] at e; simp at e
  | [l], _, hl, t, x, e => by
    rw [look2_eq] at e
    obtain ⟨m, h1, h2⟩ := Option.bind_eq_some_iff.1 e
    obtain ⟨y, h3, h4⟩ := Option.bind_eq_some_iff.1 h2
    simp only [id] at h4; subst h4
    have h0 : t / 16 = 0 := by
      have := (List.getElem?_eq_some_iff.1 h1).1
      simp at this; omega
    rw [h0] at h1
    simp at h1
    subst h1
    have : t % 16 = t := by omega
    rw [this] at h3
    simpa using h3
  | l :: m :: r, h, hl, t, x, e => by
    simp only [full16, Bool.and_eq_true, beq_iff_eq] at h
    obtain ⟨h16, h⟩ := h
    by_cases ht : t < 16
    · rw [look2_eq] at e
      have h0 : t / 16 = 0 := by omega
      have h1 : t % 16 = t := by omega
      rw [h0, h1] at e
      simp only [List.getElem?_cons_zero, Option.bind_some] at e
      obtain ⟨y, h3, h4⟩ := Option.bind_eq_some_iff.1 e
      simp only [id] at h4; subst h4
      rw [List.flatten_cons, List.getElem?_append_left (by omega)]; exact h3
    · have e' : look2 (m :: r) (t - 16) = some x := by
        rw [look2_eq] at e ⊢
        have h0 : t / 16 = (t - 16) / 16 + 1 := by omega
        have h1 : t % 16 = (t - 16) % 16 := by omega
        rw [h0, h1] at e
        simpa using e
      have := look2_flat h (fun l hl' => hl l (by simp [hl'])) e'
      rw [List.flatten_cons, List.getElem?_append_right (by omega), h16]; exact this
def le16 {α : Type} (ll : List (List α)) : Bool := ll.all fun l => Nat.ble l.length 16

/-! ### types -/
def chkTD (P : Program) (t : TypeId) (d : TD) : Bool := match d, P.underlying t with
  | .bool, some .bool => true
  | .int k, some (.int k') => k == k'
  | .str, some .string => true
  | .ptr, some (.pointer _) => true
  | .sl e, some (.slice e') => e == e'
  | .arr n e, some (.array n' e') => n == n' && e == e'
  | .map k e, some (.map k' e') => k == k' && e == e'
  | .st fs, some (.struct _) => placesOf P t == some (fs.map fun f => (f.1, f.2.2)) && (List.range fs.length).all fun i => match fs[i]? with
    | some (o, u, z) => fieldInfo P t i == some (o, u) && tsize P u == some z
    | none => true
  | .fn, some (.func _ _ _) => true
  | .ifc, some (.interface _) => true
  | .other, _ => true
  | _, _ => false
def chkRow (P : Program) (t : TypeId) (r : TRow) : Bool := tsize P t == some r.size && tbytes P t == some r.bytes && chkTD P t r.td
theorem chkTD_ok {t : TypeId} {d : TD} (h : chkTD P t d = true) : TDok P t d := by
  unfold chkTD at h
  split at h <;> simp only [TDok] <;> rename_i hu
  all_goals first
    | exact hu
    | exact ⟨_, hu⟩
    | exact ⟨_, _, _, hu⟩
    | (simp only [beq_iff_eq] at h; subst h; exact hu)
    | (simp only [Bool.and_eq_true, beq_iff_eq] at h; obtain ⟨rfl, rfl⟩ := h; exact hu)
    | cases h
    | skip
  · rename_i fs a
    simp only [Bool.and_eq_true, beq_iff_eq] at h
    refine ⟨_, hu, h.1, fun i o u z hi => ?_⟩
    have hlt := (List.getElem?_eq_some_iff.1 hi).1
    have := List.all_eq_true.1 h.2 i (by simpa using hlt)
    rw [hi] at this
    simp only [Bool.and_eq_true, beq_iff_eq] at this
    exact this
theorem chkRow_ok {t : TypeId} {r : TRow} (h : chkRow P t r = true) : RowOk P t r := by
  unfold chkRow at h
  simp only [Bool.and_eq_true, beq_iff_eq] at h
  exact ⟨h.1.1, h.1.2, chkTD_ok h.2⟩
def chkT (P : Program) (ll : List (List (Option TRow))) : Bool := (List.range (ll.length * 16)).all fun t => match look2 ll t with
  | some r => chkRow P t r
  | none => true
theorem chkT_ok {ll : List (List (Option TRow))} (h : chkT P ll = true) : ∀ t r, look2 ll t = some r → RowOk P t r := fun t r e => by
  have hlt : t < ll.length * 16 := by
    rw [look2_eq] at e
    obtain ⟨l, h1, _⟩ := Option.bind_eq_some_iff.1 e
    have := (List.getElem?_eq_some_iff.1 h1).1
    omega
  have := List.all_eq_true.1 h t (by simpa using hlt)
  rw [e] at this
  exact chkRow_ok this
/-! ### functions -/
theorem chkF_ok {ll : List (List (Option Func))} {k : Nat} (h1 : full16 ll = true) (h2 : le16 ll = true) (h3 : ll.flatten = P.funcs.toList.map some) (h4 : P.funcs.toList.all (fun fn => !(fn.name == "runtime.NumGoroutine")) = true) :
    ∀ f fn, look2 ll f = some fn → P.funcs[f]? = some fn ∧ (fn.name == "runtime.NumGoroutine") = false := fun f fn e => by
  have hl : ∀ l ∈ ll, l.length ≤ 16 := fun l hl => by
    have := List.all_eq_true.1 h2 l hl
    simpa using this
  have := look2_flat h1 hl e
  rw [h3, List.getElem?_map] at this
  obtain ⟨x, hx, hx2⟩ := Option.map_eq_some_iff.1 this
  cases hx2
  refine ⟨by rw [← hx]; simp, ?_⟩
  have := List.all_eq_true.1 h4 fn (List.mem_of_getElem? hx)
  simpa using this

/-! ### a law's end -/
def isTrue : Oc → Mem → Nat → Bool := fun oc _ _ => match oc with
  | .ret (.bool b) => b
  | _ => false
/-- A function that yields true, by the evaluator's word. -/
theorem law_true {T : Tabs P} {n : Nat} {f : FuncId} {vs : List AV} {M : Mem} {ρ : Env} {rs : List Value} {hF : Hp} (hc : callable P f = true) (h : callFK T (ev P T n) f vs M ρ.length isTrue = true) (hM : ∀ w, Sat [] hF w → Rep ρ M hF w) (hg : ∀ g i, T.gl g = some i → ρ[i]? = some (g, 0, 0)) (hv : RL ρ vs rs) :
    FnOk P f rs [] hF (fun v Γ => v = .bool true ∧ Γ = []) := fun w hs => by
  obtain ⟨nx, w1, h1, h2⟩ := callFK_spec (ev_good n) h (hM w hs) rfl hg hv
  rw [run_callFunc hc] at h1
  cases h1
  refine Calls.mono h2 ?_
  rintro e w' ⟨ρ', oc, M', q1, q2, q3, q4, q5⟩
  cases oc with
  | pan v => cases q3
  | ret v =>
    obtain ⟨r, p1, rfl⟩ := q2
    cases v <;> try (cases q3; done)
    rename_i b
    have hb : b = true := q3
    subst hb
    obtain rfl : r = .bool true := by simpa [ren] using p1.symm
    exact ⟨.bool true, [], rfl, ⟨rfl, rfl⟩, ⟨[], trivial, by simp [Apart], q4.frame, by simp⟩, q5⟩
theorem rep_nil {hF : Hp} {w : World} (h : Sat [] hF w) : Rep ⟨[]⟩ (.nil : Mem) hF w := by
  obtain ⟨_, _, _, hl, _⟩ := h
  exact ⟨(fun i ck e => by cases e), (fun i j ck ck' e e' h => by cases h), hl⟩
end
end Go.Ev
