/- The evaluator, part B: values whose blocks are numbers; what they stand for; memory. -/
import Derived.Test.YtppdclebbcmcaaaEvA
set_option linter.unusedSimpArgs false
set_option linter.unusedVariables false
namespace Go.Ev
open Go.Sl
noncomputable section

inductive AV where
  | bool (b : Bool)
  | int (k : IntKind) (n : Int)
  | str (l : List Nat)
  | nilp
  | ptr (i o : Nat)
  | nils
  | sl (i o n c : Nat) (s : Bool)
  | em (i o o' : Nat) (s : Bool)
  | nilm
  | map (i : Nat)
  | fn (f : Fn) (xs ys : List AV)
  | yl (i : Nat)
  | nilf
  | iface (t : TypeId) (v : AV)
  | nili
  | agg (l : List AV)
  | tup (l : List AV)
  | sym (v : Value)

/-- By number: the real block, where the row begins in it, how many elements more it has; none: a number that is kept for a block to come. -/
structure Env where
  l : List (Option (Nat × Nat × Nat))
namespace Env
def length (ρ : Env) : Nat := ρ.l.length
instance : GetElem? Env Nat (Nat × Nat × Nat) (fun ρ i => (ρ.l[i]?.join).isSome) where
  getElem ρ i h := (ρ.l[i]?.join).get h
  getElem? ρ i := ρ.l[i]?.join
theorem get_def (ρ : Env) (i : Nat) : ρ[i]? = ρ.l[i]?.join := rfl
instance : HAppend Env (List (Nat × Nat × Nat)) Env := ⟨fun ρ δ => ⟨ρ.l ++ δ.map some⟩⟩
theorem app_def (ρ : Env) (δ : List (Nat × Nat × Nat)) : (ρ ++ δ).l = ρ.l ++ δ.map some := rfl
def of (l : List (Nat × Nat × Nat)) : Env := ⟨l.map some⟩
def pad (ρ : Env) (m : Nat) : Env := ⟨ρ.l ++ List.replicate m none⟩
def fill (ρ : Env) (i : Nat) (e : Nat × Nat × Nat) : Env := ⟨ρ.l.set i (some e)⟩
@[simp] theorem length_app (ρ : Env) (δ : List (Nat × Nat × Nat)) : (ρ ++ δ).length = ρ.length + δ.length := by simp [length, app_def]
@[simp] theorem get_new (ρ : Env) (e : Nat × Nat × Nat) : (ρ ++ [e])[ρ.length]? = some e := by simp [get_def, app_def, length]
@[simp] theorem length_pad (ρ : Env) (m : Nat) : (ρ.pad m).length = ρ.length + m := by simp [length, pad]
@[simp] theorem length_fill (ρ : Env) (i : Nat) (e : Nat × Nat × Nat) : (ρ.fill i e).length = ρ.length := by simp [length, fill]
theorem get_fill (ρ : Env) {i : Nat} (hi : i < ρ.length) (e : Nat × Nat × Nat) (j : Nat) : (ρ.fill i e)[j]? = if j = i then some e else ρ[j]? := by
  simp only [get_def, fill, List.getElem?_set]
  unfold length at hi
  by_cases h : i = j
  · subst h; simp [hi]
  · rw [if_neg h, if_neg (Ne.symm h)]
theorem get_pad (ρ : Env) (m j : Nat) : (ρ.pad m)[j]? = ρ[j]? := by
  simp only [get_def, pad, List.getElem?_append]
  split
  · rfl
  · rename_i h
    rw [List.getElem?_eq_none (show ρ.l.length ≤ j by omega), List.getElem?_replicate]
    split <;> rfl
theorem get_lt {ρ : Env} {i : Nat} {e : Nat × Nat × Nat} (h : ρ[i]? = some e) : i < ρ.length := by
  rw [get_def] at h
  unfold length
  cases q : ρ.l[i]? with
  | none => rw [q] at h; cases h
  | some x => exact (List.getElem?_eq_some_iff.1 q).1
end Env

def strV (l : List Nat) : Value := str (l.map UInt8.ofNat)
def small (l : List Nat) : Bool := l.all fun n => Nat.blt n 256
mutual
def ren (ρ : Env) : AV → Option Value
  | .bool b => some (.bool b)
  | .int k n => some (.int k n)
  | .str l => if small l then some (strV l) else none
  | .nilp => some (.pointer none)
  | .ptr i o => (ρ[i]?).map fun e => .pointer (some ⟨e.1, e.2.1 + o, none⟩)
  | .nils => some (.slice none 0 0)
  | .sl i o n c s => (ρ[i]?).map fun e => .slice (some ⟨e.1, e.2.1 + o, none⟩) n (c + cond s e.2.2 0)
  | .em i o o' s => (ρ[i]?).map fun e => .slice (some ⟨e.1, e.2.1 + cond (Nat.beq e.2.2 0) o o', none⟩) 0 (cond s e.2.2 0)
  | .nilm => some (.map none)
  | .map i => (ρ[i]?).map fun e => .map (some e.1)
  | .fn f xs ys => (renL ρ xs).bind fun u => (renL ρ ys).map fun v => .func f ⟨u⟩ ⟨v⟩
  | .yl i => (ρ[i]?).map fun e => yv e.1
  | .nilf => some .nilFunc
  | .iface t v => (ren ρ v).map fun r => .iface t r
  | .nili => some .nilIface
  | .agg l => (renL ρ l).map fun u => .agg ⟨u⟩
  | .tup l => (renL ρ l).map fun u => .tuple ⟨u⟩
  | .sym v => if v.oneCell' then some v else none
def renL (ρ : Env) : List AV → Option (List Value)
  | [] => some []
  | v :: l => (ren ρ v).bind fun r => (renL ρ l).map fun rs => r :: rs
end

/-- More blocks. -/
def Ext (ρ ρ' : Env) : Prop := ∃ δ, ρ'.l = ρ.l ++ δ
theorem Ext.refl (ρ : Env) : Ext ρ ρ := ⟨[], by simp⟩
theorem Ext.trans {a b c : Env} (h : Ext a b) (k : Ext b c) : Ext a c := by
  obtain ⟨x, hx⟩ := h; obtain ⟨y, hy⟩ := k; exact ⟨x ++ y, by rw [hy, hx]; simp⟩
theorem Ext.one (ρ : Env) (e : Nat × Nat × Nat) : Ext ρ (ρ ++ [e]) := ⟨[some e], rfl⟩
theorem Ext.pad (ρ : Env) (m : Nat) : Ext ρ (ρ.pad m) := ⟨_, rfl⟩
theorem Ext.len {ρ ρ' : Env} (h : Ext ρ ρ') : ρ.length ≤ ρ'.length := by
  obtain ⟨δ, hd⟩ := h; simp [Env.length, hd]
theorem Ext.same {ρ ρ' : Env} (h : Ext ρ ρ') {i : Nat} (hi : i < ρ.length) : ρ'[i]? = ρ[i]? := by
  obtain ⟨δ, hd⟩ := h
  unfold Env.length at hi
  rw [Env.get_def, Env.get_def, hd, List.getElem?_append_left hi]
theorem Ext.fill {ρ ρ' : Env} (h : Ext ρ ρ') {i : Nat} (hi : ρ.length ≤ i) (e : Nat × Nat × Nat) : Ext ρ (ρ'.fill i e) := by
  obtain ⟨δ, hd⟩ := h
  refine ⟨δ.set (i - ρ.l.length) (some e), ?_⟩
  unfold Env.length at hi
  simp only [Env.fill, hd]
  rw [List.set_append_right _ _ hi]
/-- Whatever is known stays. -/
def Le (ρ ρ' : Env) : Prop := ∀ (i : Nat) (e : Nat × Nat × Nat), ρ[i]? = some e → ρ'[i]? = some e
theorem Le.get {ρ ρ' : Env} (h : Le ρ ρ') {i : Nat} {e : Nat × Nat × Nat} (he : ρ[i]? = some e) : ρ'[i]? = some e := h i e he
theorem Ext.get {ρ ρ' : Env} (h : Ext ρ ρ') {i : Nat} {e : Nat × Nat × Nat} (he : ρ[i]? = some e) : ρ'[i]? = some e := by
  rw [h.same (Env.get_lt he)]; exact he
theorem Ext.le {ρ ρ' : Env} (h : Ext ρ ρ') : Le ρ ρ' := fun _ _ he => h.get he
theorem Le.fill (ρ : Env) {i : Nat} (hi : i < ρ.length) (hn : ρ[i]? = none) (e : Nat × Nat × Nat) : Le ρ (ρ.fill i e) := fun j x hj => by
  rw [Env.get_fill ρ hi]
  split
  · rename_i h; subst h; rw [hn] at hj; cases hj
  · exact hj

mutual
theorem ren_le {ρ ρ' : Env} (h : Le ρ ρ') : ∀ {v : AV} {r : Value}, ren ρ v = some r → ren ρ' v = some r
  | .bool b, r, e | .int k n, r, e | .str l, r, e | .nilp, r, e | .nils, r, e | .nilm, r, e | .nilf, r, e | .nili, r, e | .sym v, r, e => by simpa [ren] using e
  | .ptr i o, r, e | .sl i o n c s, r, e | .em i o o' s, r, e | .map i, r, e | .yl i, r, e => by
    simp only [ren, Option.map_eq_some_iff] at e ⊢
    obtain ⟨x, hx, rfl⟩ := e
    exact ⟨x, h.get hx, rfl⟩
  | .fn f xs ys, r, e => by
    simp only [ren, Option.bind_eq_some_iff, Option.map_eq_some_iff] at e ⊢
    obtain ⟨u, hu, v, hv, rfl⟩ := e
    exact ⟨u, renL_le h hu, v, renL_le h hv, rfl⟩
  | .iface t v, r, e => by
    simp only [ren, Option.map_eq_some_iff] at e ⊢
    obtain ⟨x, hx, rfl⟩ := e
    exact ⟨x, ren_le h hx, rfl⟩
  | .agg l, r, e | .tup l, r, e => by
    simp only [ren, Option.map_eq_some_iff] at e ⊢
    obtain ⟨x, hx, rfl⟩ := e
    exact ⟨x, renL_le h hx, rfl⟩
theorem renL_le {ρ ρ' : Env} (h : Le ρ ρ') : ∀ {l : List AV} {rs : List Value}, renL ρ l = some rs → renL ρ' l = some rs
  | [], rs, e => by simpa [renL] using e
  | v :: l, rs, e => by
    simp only [renL, Option.bind_eq_some_iff, Option.map_eq_some_iff] at e ⊢
    obtain ⟨r, hr, x, hx, rfl⟩ := e
    exact ⟨r, ren_le h hr, x, renL_le h hx, rfl⟩
end

theorem ren_ext {ρ ρ' : Env} (h : Ext ρ ρ') {v : AV} {r : Value} (e : ren ρ v = some r) : ren ρ' v = some r := ren_le h.le e
theorem renL_ext {ρ ρ' : Env} (h : Ext ρ ρ') {l : List AV} {rs : List Value} (e : renL ρ l = some rs) : renL ρ' l = some rs := renL_le h.le e

/-! ### lists of values -/
def RL (ρ : Env) (l : List AV) (vs : List Value) : Prop := renL ρ l = some vs
theorem RL.nil {ρ : Env} : RL ρ [] [] := rfl
theorem RL.cons {ρ : Env} {v : AV} {r : Value} {l : List AV} {rs : List Value} (h : ren ρ v = some r) (k : RL ρ l rs) : RL ρ (v :: l) (r :: rs) := by
  unfold RL at *; simp [renL, h, k]
theorem RL.out {ρ : Env} {v : AV} {l : List AV} {rs : List Value} (h : RL ρ (v :: l) rs) : ∃ r rs', rs = r :: rs' ∧ ren ρ v = some r ∧ RL ρ l rs' := by
  unfold RL at *
  simp only [renL, Option.bind_eq_some_iff, Option.map_eq_some_iff] at h
  obtain ⟨r, hr, x, hx, rfl⟩ := h
  exact ⟨r, x, rfl, hr, hx⟩
theorem RL.outNil {ρ : Env} {rs : List Value} (h : RL ρ [] rs) : rs = [] := by unfold RL at h; simpa [renL] using h.symm
theorem RL.length {ρ : Env} : ∀ {l : List AV} {rs : List Value}, RL ρ l rs → rs.length = l.length
  | [], rs, h => by rw [h.outNil]; rfl
  | v :: l, rs, h => by obtain ⟨r, rs', rfl, _, h⟩ := h.out; simp [h.length]
theorem RL.get {ρ : Env} : ∀ {l : List AV} {rs : List Value}, RL ρ l rs → ∀ {i : Nat} {v : AV}, l[i]? = some v → ∃ r, rs[i]? = some r ∧ ren ρ v = some r
  | [], rs, h, i, v, e => by simp at e
  | u :: l, rs, h, i, v, e => by
    obtain ⟨r, rs', rfl, hr, h⟩ := h.out
    cases i with
    | zero => simp at e; subst e; exact ⟨r, rfl, hr⟩
    | succ i => simp at e; simpa using h.get e
theorem RL.append {ρ : Env} : ∀ {a : List AV} {x : List Value} {b : List AV} {y : List Value}, RL ρ a x → RL ρ b y → RL ρ (a ++ b) (x ++ y)
  | [], x, b, y, h, k => by rw [h.outNil]; exact k
  | v :: a, x, b, y, h, k => by obtain ⟨r, rs', rfl, hr, h⟩ := h.out; exact RL.cons hr (h.append k)
theorem RL.take {ρ : Env} : ∀ {a : List AV} {x : List Value} (n : Nat), RL ρ a x → RL ρ (a.take n) (x.take n)
  | [], x, n, h => by rw [h.outNil]; simpa using RL.nil
  | v :: a, x, 0, h => by simpa using RL.nil
  | v :: a, x, n + 1, h => by obtain ⟨r, rs', rfl, hr, h⟩ := h.out; exact RL.cons hr (h.take n)
theorem RL.drop {ρ : Env} : ∀ {a : List AV} {x : List Value} (n : Nat), RL ρ a x → RL ρ (a.drop n) (x.drop n)
  | [], x, n, h => by rw [h.outNil]; simpa using RL.nil
  | v :: a, x, 0, h => h
  | v :: a, x, n + 1, h => by obtain ⟨r, rs', rfl, hr, h⟩ := h.out; exact h.drop n
theorem RL.set {ρ : Env} : ∀ {a : List AV} {x : List Value} (n : Nat) {v : AV} {r : Value}, RL ρ a x → ren ρ v = some r → RL ρ (a.set n v) (x.set n r)
  | [], x, n, v, r, h, k => by rw [h.outNil]; exact RL.nil
  | u :: a, x, 0, v, r, h, k => by obtain ⟨r', rs', rfl, hr, h⟩ := h.out; exact RL.cons k h
  | u :: a, x, n + 1, v, r, h, k => by obtain ⟨r', rs', rfl, hr, h⟩ := h.out; exact RL.cons hr (h.set n k)
theorem RL.rep {ρ : Env} {v : AV} {r : Value} (h : ren ρ v = some r) : ∀ n, RL ρ (List.replicate n v) (List.replicate n r)
  | 0 => RL.nil
  | n + 1 => RL.cons h (RL.rep h n)
theorem RL.ext {ρ ρ' : Env} (h : Ext ρ ρ') {l : List AV} {rs : List Value} (k : RL ρ l rs) : RL ρ' l rs := renL_ext h k
theorem RL.flat {ρ : Env} {l : List AV} {rs : List Value} (h : RL ρ l rs) : ∀ n, RL ρ (List.replicate n l).flatten (List.replicate n rs).flatten
  | 0 => RL.nil
  | n + 1 => by simpa [List.replicate_succ] using h.append (RL.flat h n)

/-- It fits in one cell. -/
def one : AV → Bool
  | .agg _ => false
  | .tup _ => false
  | _ => true
theorem one_spec {ρ : Env} {v : AV} {r : Value} (h : ren ρ v = some r) (h1 : one v = true) : r.oneCell' = true := by
  cases v <;> simp [ren, one, Option.bind_eq_some_iff] at h h1 <;> try (subst h; rfl)
  case str l => obtain ⟨_, rfl⟩ := h; rfl
  case ptr => obtain ⟨_, _, _, _, rfl⟩ := h; rfl
  case sl => obtain ⟨_, _, _, _, rfl⟩ := h; rfl
  case em => obtain ⟨_, _, _, _, rfl⟩ := h; rfl
  case map => obtain ⟨_, _, _, _, rfl⟩ := h; rfl
  case fn => obtain ⟨_, _, _, _, rfl⟩ := h; rfl
  case yl => obtain ⟨_, _, _, _, rfl⟩ := h; rfl
  case iface => obtain ⟨_, _, rfl⟩ := h; rfl
  case sym => obtain ⟨h, rfl⟩ := h; exact h
/-- The cells of a value. -/
def cellsA : AV → List AV
  | .agg l => l
  | v => [v]
theorem cellsA_spec {ρ : Env} {v : AV} {r : Value} (h : ren ρ v = some r) : RL ρ (cellsA v) r.cells.toList := by
  by_cases ha : ∃ l, v = .agg l
  · obtain ⟨l, rfl⟩ := ha
    simp only [ren, Option.map_eq_some_iff] at h
    obtain ⟨u, hu, rfl⟩ := h
    exact hu
  · have hr : ∀ a, r ≠ .agg a := by
      rintro a rfl
      cases v <;> simp [ren, strV, yv, Option.bind_eq_some_iff] at h <;> first | exact ha ⟨_, rfl⟩ | (obtain ⟨h1, h2⟩ := h; subst h2; simp [Value.oneCell'] at h1)
    have hc : cellsA v = [v] := by cases v <;> first | rfl | exact absurd ⟨_, rfl⟩ ha
    have hc' : r.cells = #[r] := by cases r <;> first | rfl | exact absurd rfl (hr _)
    rw [hc, hc']
    exact RL.cons h RL.nil

def optL {α β : Type} (f : α → Option β) (l : List α) : Option (List β) :=
  List.rec (some []) (fun x _ ih => Option.rec none (fun y => Option.rec none (fun ys => some (y :: ys)) ih) (f x)) l
theorem optL_cons {α β : Type} {f : α → Option β} {x : α} {l : List α} {r : List β} (h : optL f (x :: l) = some r) : ∃ y ys, f x = some y ∧ optL f l = some ys ∧ r = y :: ys := by
  have h : (Option.rec none (fun y => Option.rec none (fun ys => some (y :: ys)) (optL f l)) (f x) : Option (List β)) = some r := h
  cases h1 : f x with
  | none => rw [h1] at h; cases h
  | some y =>
    rw [h1] at h
    cases h2 : optL f l with
    | none => rw [h2] at h; cases h
    | some ys => rw [h2] at h; cases h; exact ⟨y, ys, rfl, rfl, rfl⟩
/-- A plain value as one of ours. -/
def ofV : Nat → Value → Option AV
  | 0, _ => none
  | n + 1, v => match v with
    | .bool b => some (.bool b)
    | .int k i => some (.int k i)
    | .string ⟨⟨l⟩⟩ => some (.str (l.map UInt8.toNat))
    | .pointer none => some .nilp
    | .slice none 0 0 => some .nils
    | .map none => some .nilm
    | .nilFunc => some .nilf
    | .nilIface => some .nili
    | .agg ⟨l⟩ => (optL (ofV n) l).map .agg
    | .tuple ⟨l⟩ => (optL (ofV n) l).map .tup
    | .func (.func f) ⟨[]⟩ ⟨[]⟩ => some (.fn (.func f) [] [])
    | .iface t v => (ofV n v).map (.iface t)
    | _ => none
theorem optL_ofV {ρ : Env} {n : Nat} (ih : ∀ v a, ofV n v = some a → ren ρ a = some v) : ∀ {l : List Value} {as : List AV}, optL (ofV n) l = some as → RL ρ as l
  | [], as, h => by cases h; exact RL.nil
  | v :: l, as, h => by
    obtain ⟨y, ys, h1, h2, rfl⟩ := optL_cons h
    exact RL.cons (ih _ _ h1) (optL_ofV ih h2)
theorem small_u8 (l : List UInt8) : small (l.map UInt8.toNat) = true := by
  unfold small
  rw [List.all_eq_true]
  intro x hx
  obtain ⟨y, _, rfl⟩ := List.mem_map.1 hx
  simpa [Nat.blt_eq] using UInt8.toNat_lt y
theorem u8_back (l : List UInt8) : (l.map UInt8.toNat).map UInt8.ofNat = l := by
  rw [List.map_map]
  conv => rhs; rw [← List.map_id l]
  apply List.map_congr_left
  intro x _
  simp
theorem ofV_spec {ρ : Env} : ∀ (n : Nat) (v : Value) (a : AV), ofV n v = some a → ren ρ a = some v
  | 0, v, a, h => by cases h
  | n + 1, v, a, h => by
    unfold ofV at h
    split at h <;> first
      | (cases h; rfl)
      | (cases h; unfold ren; rw [if_pos (small_u8 _), strV, u8_back]; done)
      | (obtain ⟨as, h1, rfl⟩ := Option.map_eq_some_iff.1 h
         have := optL_ofV (ρ := ρ) (ofV_spec n) h1
         unfold RL at this
         simp [ren, this]; done)
      | (obtain ⟨x, h1, rfl⟩ := Option.map_eq_some_iff.1 h
         simp [ren, ofV_spec n _ _ h1]; done)
      | cases h
end
end Go.Ev
