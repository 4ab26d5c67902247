/- The evaluator, parts A B C D. -/
import Derived.Test.YtabbonafljochaaGreatDoorEnW
import Derived.Test.YtabbonafljochaaGreatDoorEnR
import Derived.Test.YtabbonafljochaaGreatDoorEnM
set_option linter.unusedSimpArgs false
set_option linter.unusedVariables false
namespace Go.Ev
open Go.Sl
noncomputable section

/-! ### forcing -/
def forceN (n : Nat) (k : Nat → Bool) : Bool := Nat.rec (k 0) (fun m _ => k (Nat.succ m)) n
theorem forceN_eq (n : Nat) (k : Nat → Bool) : forceN n k = k n := by cases n <;> rfl
def forceI (n : Int) (k : Int → Bool) : Bool := Int.rec (fun m => forceN m fun m => k (.ofNat m)) (fun m => forceN m fun m => k (.negSucc m)) n
theorem forceI_eq (n : Int) (k : Int → Bool) : forceI n k = k n := by cases n <;> simp [forceI, forceN_eq]
def forceB (b : Bool) (k : Bool → Bool) : Bool := Bool.rec (k false) (k true) b
theorem forceB_eq (b : Bool) (k : Bool → Bool) : forceB b k = k b := by cases b <;> rfl
/-- Both. -/
def both (b c : Bool) : Bool := Bool.rec false c b
theorem both_eq {b c : Bool} : both b c = true ↔ b = true ∧ c = true := by cases b <;> simp [both]

/-! ### lists -/
section lists
variable {α β : Type}
def nth (l : List α) : Nat → Option α := List.rec (fun _ => none) (fun x _ ih n => Nat.rec (some x) (fun m _ => ih m) n) l
theorem nth_eq : ∀ (l : List α) (n : Nat), nth l n = l[n]?
  | [], n => rfl
  | x :: l, 0 => rfl
  | x :: l, n + 1 => by show nth l n = _; rw [nth_eq]; simp
def setL (l : List α) (x : α) : Nat → (List α → Bool) → Bool :=
  List.rec (fun _ _ => false) (fun y t ih n k => Nat.rec (k (x :: t)) (fun m _ => ih m fun t' => k (y :: t')) n) l
theorem setL_spec {x : α} : ∀ {l : List α} {n : Nat} {k : List α → Bool}, setL l x n k = true → n < l.length ∧ k (l.set n x) = true
  | [], n, k, h => by cases h
  | y :: l, 0, k, h => ⟨by simp, h⟩
  | y :: l, n + 1, k, h => by
    obtain ⟨h1, h2⟩ := setL_spec (l := l) (n := n) (k := fun t' => k (y :: t')) h
    exact ⟨by simpa using h1, by simpa using h2⟩
/-- The first n, and the others. -/
def splitL (l : List α) : Nat → (List α → List α → Bool) → Bool :=
  List.rec (fun n k => Nat.rec (k [] []) (fun _ _ => false) n) (fun y t ih n k => Nat.rec (k [] (y :: t)) (fun m _ => ih m fun a b => k (y :: a) b) n) l
theorem splitL_spec : ∀ {l : List α} {n : Nat} {k : List α → List α → Bool}, splitL l n k = true → n ≤ l.length ∧ k (l.take n) (l.drop n) = true
  | [], 0, k, h => ⟨by simp, h⟩
  | [], n + 1, k, h => by cases h
  | y :: l, 0, k, h => ⟨by simp, h⟩
  | y :: l, n + 1, k, h => by
    obtain ⟨h1, h2⟩ := splitL_spec (l := l) (n := n) (k := fun a b => k (y :: a) b) h
    exact ⟨by simpa using h1, by simpa using h2⟩
def appL (l r : List α) : (List α → Bool) → Bool := List.rec (fun k => k r) (fun y _ ih k => ih fun z => k (y :: z)) l
theorem appL_eq : ∀ (l r : List α) (k : List α → Bool), appL l r k = k (l ++ r)
  | [], r, k => rfl
  | y :: l, r, k => appL_eq l r _
def lenL (l : List α) : Nat → (Nat → Bool) → Bool := List.rec (fun n k => k n) (fun _ _ ih n k => forceN (Nat.succ n) fun n => ih n k) l
theorem lenL_add : ∀ (l : List α) (n : Nat) (k : Nat → Bool), lenL l n k = k (n + l.length)
  | [], n, k => rfl
  | y :: l, n, k => by
    show forceN (Nat.succ n) (fun n => lenL l n k) = _
    rw [forceN_eq, lenL_add]; simp only [List.length_cons]; congr 1; omega
theorem lenL_eq (l : List α) (k : Nat → Bool) : lenL l 0 k = k l.length := by rw [lenL_add, Nat.zero_add]
/-- Side by side. -/
def All2 (p : α → β → Prop) : List α → List β → Prop
  | [], [] => True
  | x :: l, y :: m => p x y ∧ All2 p l m
  | _, _ => False
/-- Each of these, by itself. -/
def mapL (f : α → (β → Bool) → Bool) (l : List α) : (List β → Bool) → Bool := List.rec (fun k => k []) (fun x _ ih k => f x fun y => ih fun ys => k (y :: ys)) l
theorem mapL_spec {f : α → (β → Bool) → Bool} {p : α → β → Prop} (hf : ∀ x k, f x k = true → ∃ y, p x y ∧ k y = true) :
    ∀ {l : List α} {k : List β → Bool}, mapL f l k = true → ∃ ys, All2 p l ys ∧ k ys = true
  | [], k, h => ⟨[], trivial, h⟩
  | x :: l, k, h => by
    obtain ⟨y, hy, h⟩ := hf x _ h
    obtain ⟨ys, hys, h⟩ := mapL_spec hf (l := l) (k := fun ys => k (y :: ys)) h
    exact ⟨y :: ys, ⟨hy, hys⟩, h⟩
def allL (p : α → Bool) (l : List α) : Bool := List.rec true (fun x _ ih => both (p x) ih) l
theorem allL_spec {p : α → Bool} : ∀ {l : List α}, allL p l = true → ∀ x ∈ l, p x = true
  | [], _ => by simp
  | x :: l, h => by
    obtain ⟨h1, h2⟩ := both_eq.1 (show both (p x) (allL p l) = true from h)
    intro y hy
    rcases List.mem_cons.1 hy with rfl | hy
    · exact h1
    · exact allL_spec h2 y hy
/-- So many of one. -/
def repL (x : α) (n : Nat) : List α → (List α → Bool) → Bool := Nat.rec (fun l k => k l) (fun _ ih l k => ih (x :: l) k) n
theorem repL_eq (x : α) : ∀ (n : Nat) (l : List α) (k : List α → Bool), repL x n l k = k (List.replicate n x ++ l)
  | 0, l, k => rfl
  | n + 1, l, k => by
    show repL x n (x :: l) k = _
    rw [repL_eq x n, show List.replicate n x ++ x :: l = (List.replicate n x ++ [x]) ++ l by simp, ← List.replicate_succ']
end lists

/-! ### tries -/
inductive Tr (α : Type) where
  | nil
  | node (l : Tr α) (v : Option α) (r : Tr α)
section tries
variable {α : Type}
def half (n : Nat) : Nat := Nat.sub (Nat.div n 2) 1
def Tr.get (t : Tr α) : Nat → Option α :=
  Tr.rec (fun _ => none) (fun _ v _ gl gr n => Bool.rec (Bool.rec (gr (half n)) (gl (Nat.div n 2)) (Nat.beq (Nat.mod n 2) 1)) v (Nat.beq n 0)) t
def Tr.new (f : Nat) : Nat → α → (Tr α → Bool) → Bool :=
  Nat.rec (fun _ _ _ => false) (fun _ ih n x k => Bool.rec (Bool.rec (ih (half n) x fun r => k (node nil none r)) (ih (Nat.div n 2) x fun l => k (node l none nil)) (Nat.beq (Nat.mod n 2) 1)) (k (node nil (some x) nil)) (Nat.beq n 0)) f
def Tr.set (t : Tr α) : Nat → α → (Tr α → Bool) → Bool :=
  Tr.rec (fun n x k => Tr.new 32 n x k) (fun l v r il ir n x k => Bool.rec (Bool.rec (ir (half n) x fun r => k (node l v r)) (il (Nat.div n 2) x fun l => k (node l v r)) (Nat.beq (Nat.mod n 2) 1)) (k (node l (some x) r)) (Nat.beq n 0)) t
theorem Tr.get_nil (n : Nat) : (Tr.nil : Tr α).get n = none := rfl
theorem Tr.get_node (l r : Tr α) (v : Option α) (n : Nat) : (Tr.node l v r).get n = if n = 0 then v else if n % 2 = 1 then l.get (n / 2) else r.get (n / 2 - 1) := by
  show (Bool.rec (Bool.rec (r.get (half n)) (l.get (Nat.div n 2)) (Nat.beq (Nat.mod n 2) 1)) v (Nat.beq n 0) : Option α) = _
  by_cases h : n = 0
  · subst h; rfl
  · have h1 : Nat.beq n 0 = false := by cases n <;> first | exact absurd rfl h | rfl
    rw [h1, if_neg h]
    by_cases h2 : n % 2 = 1
    · have : Nat.beq (Nat.mod n 2) 1 = true := by rw [show Nat.mod n 2 = n % 2 from rfl, h2]; rfl
      rw [this, if_pos h2]; rfl
    · have : Nat.beq (Nat.mod n 2) 1 = false := by
        have : n % 2 = 0 := by omega
        rw [show Nat.mod n 2 = n % 2 from rfl, this]; rfl
      rw [this, if_neg h2]; rfl
/-- The trie with n set. -/
def Tr.Is (t : Tr α) (n : Nat) (x : α) (t' : Tr α) : Prop := ∀ m, t'.get m = if m = n then some x else t.get m
theorem Tr.Is.zero (l r : Tr α) (v : Option α) (x : α) : (Tr.node l v r).Is 0 x (.node l (some x) r) := fun m => by
  rw [get_node, get_node]; split <;> rfl
theorem Tr.Is.left {l l' r : Tr α} {v : Option α} {x : α} {n : Nat} (h0 : n ≠ 0) (h1 : n % 2 = 1) (h : l.Is (n / 2) x l') : (Tr.node l v r).Is n x (.node l' v r) := fun m => by
  rw [get_node, get_node]
  by_cases e : m = n
  · subst e; rw [if_neg h0, if_pos h1, h, if_pos rfl, if_pos rfl]
  · rw [if_neg e]
    split
    · rfl
    · split
      · rw [h, if_neg (by omega)]
      · rfl
theorem Tr.Is.right {l r r' : Tr α} {v : Option α} {x : α} {n : Nat} (h0 : n ≠ 0) (h1 : n % 2 ≠ 1) (h : r.Is (n / 2 - 1) x r') : (Tr.node l v r).Is n x (.node l v r') := fun m => by
  rw [get_node, get_node]
  by_cases e : m = n
  · subst e; rw [if_neg h0, if_neg h1, h, if_pos rfl, if_pos rfl]
  · rw [if_neg e]
    split
    · rfl
    · split
      · rfl
      · rw [h, if_neg (by omega)]
theorem Tr.Is.ofNode {t : Tr α} {n : Nat} {x : α} (h : (Tr.node Tr.nil none Tr.nil).Is n x t) : (Tr.nil : Tr α).Is n x t := fun m => by
  rw [h m, get_node]
  split
  · rfl
  · split
    · rfl
    · split <;> rfl
theorem beq0 {n : Nat} : (Nat.beq n 0 = true ∧ n = 0) ∨ (Nat.beq n 0 = false ∧ n ≠ 0) := by
  cases n with
  | zero => exact .inl ⟨rfl, rfl⟩
  | succ n => exact .inr ⟨rfl, by omega⟩
theorem beq1 {n : Nat} : (Nat.beq (Nat.mod n 2) 1 = true ∧ n % 2 = 1) ∨ (Nat.beq (Nat.mod n 2) 1 = false ∧ n % 2 ≠ 1) := by
  have : n % 2 = 0 ∨ n % 2 = 1 := by omega
  rw [show Nat.mod n 2 = n % 2 from rfl]
  rcases this with h | h <;> rw [h] <;> first | exact .inl ⟨rfl, rfl⟩ | exact .inr ⟨rfl, by simp⟩
theorem Tr.new_spec : ∀ {f n : Nat} {x : α} {k : Tr α → Bool}, Tr.new f n x k = true → ∃ t, (Tr.nil : Tr α).Is n x t ∧ k t = true
  | 0, n, x, k, h => by cases h
  | f + 1, n, x, k, h => by
    have h : (Bool.rec (Bool.rec (Tr.new f (half n) x fun r => k (node nil none r)) (Tr.new f (Nat.div n 2) x fun l => k (node l none nil)) (Nat.beq (Nat.mod n 2) 1)) (k (node nil (some x) nil)) (Nat.beq n 0) : Bool) = true := h
    rcases beq0 (n := n) with ⟨h0, e0⟩ | ⟨h0, e0⟩ <;> rw [h0] at h
    · subst e0; exact ⟨_, (Tr.Is.zero _ _ _ _).ofNode, h⟩
    · rcases beq1 (n := n) with ⟨h1, e1⟩ | ⟨h1, e1⟩ <;> rw [h1] at h
      · obtain ⟨t, ht, h⟩ := Tr.new_spec (f := f) h
        exact ⟨_, (Tr.Is.left e0 e1 ht).ofNode, h⟩
      · obtain ⟨t, ht, h⟩ := Tr.new_spec (f := f) h
        exact ⟨_, (Tr.Is.right e0 e1 ht).ofNode, h⟩
theorem Tr.set_spec : ∀ {t : Tr α} {n : Nat} {x : α} {k : Tr α → Bool}, Tr.set t n x k = true → ∃ t', t.Is n x t' ∧ k t' = true
  | .nil, n, x, k, h => Tr.new_spec (f := 32) h
  | .node l v r, n, x, k, h => by
    have h : (Bool.rec (Bool.rec (Tr.set r (half n) x fun r => k (node l v r)) (Tr.set l (Nat.div n 2) x fun l => k (node l v r)) (Nat.beq (Nat.mod n 2) 1)) (k (node l (some x) r)) (Nat.beq n 0) : Bool) = true := h
    rcases beq0 (n := n) with ⟨h0, e0⟩ | ⟨h0, e0⟩ <;> rw [h0] at h
    · subst e0; exact ⟨_, Tr.Is.zero _ _ _ _, h⟩
    · rcases beq1 (n := n) with ⟨h1, e1⟩ | ⟨h1, e1⟩ <;> rw [h1] at h
      · obtain ⟨t, ht, h⟩ := Tr.set_spec (t := l) (n := n / 2) h
        exact ⟨_, Tr.Is.left e0 e1 ht, h⟩
      · obtain ⟨t, ht, h⟩ := Tr.set_spec (t := r) (n := n / 2 - 1) h
        exact ⟨_, Tr.Is.right e0 e1 ht, h⟩
/-- Without n. -/
def Tr.del (t : Tr α) : Nat → (Tr α → Bool) → Bool :=
  Tr.rec (fun _ k => k nil) (fun l v r il ir n k => Bool.rec (Bool.rec (ir (half n) fun r => k (node l v r)) (il (Nat.div n 2) fun l => k (node l v r)) (Nat.beq (Nat.mod n 2) 1)) (k (node l none r)) (Nat.beq n 0)) t
theorem Tr.del_spec : ∀ {t : Tr α} {n : Nat} {k : Tr α → Bool}, Tr.del t n k = true → ∃ t', (∀ m, t'.get m = if m = n then none else t.get m) ∧ k t' = true
  | .nil, n, k, h => ⟨.nil, fun m => by simp [Tr.get_nil], h⟩
  | .node l v r, n, k, h => by
    have h : (Bool.rec (Bool.rec (Tr.del r (half n) fun r => k (node l v r)) (Tr.del l (Nat.div n 2) fun l => k (node l v r)) (Nat.beq (Nat.mod n 2) 1)) (k (node l none r)) (Nat.beq n 0) : Bool) = true := h
    rcases beq0 (n := n) with ⟨h0, e0⟩ | ⟨h0, e0⟩ <;> rw [h0] at h
    · subst e0; exact ⟨_, fun m => by rw [get_node, get_node]; split <;> rfl, h⟩
    · rcases beq1 (n := n) with ⟨h1, e1⟩ | ⟨h1, e1⟩ <;> rw [h1] at h
      · obtain ⟨t, ht, h⟩ := Tr.del_spec (t := l) (n := n / 2) h
        refine ⟨_, fun m => ?_, h⟩
        rw [get_node, get_node]
        by_cases e : m = n
        · subst e; rw [if_neg e0, if_pos e1, ht, if_pos rfl, if_pos rfl]
        · rw [if_neg e]
          split
          · rfl
          · split
            · rw [ht, if_neg (by omega)]
            · rfl
      · obtain ⟨t, ht, h⟩ := Tr.del_spec (t := r) (n := n / 2 - 1) h
        refine ⟨_, fun m => ?_, h⟩
        rw [get_node, get_node]
        by_cases e : m = n
        · subst e; rw [if_neg e0, if_neg e1, ht, if_pos rfl, if_pos rfl]
        · rw [if_neg e]
          split
          · rfl
          · split
            · rfl
            · rw [ht, if_neg (by omega)]
end tries
end
end Go.Ev
set_option linter.unusedSimpArgs false
set_option linter.unusedVariables false
namespace Go.Ev
open Go.Sl
noncomputable section

inductive AV where
  | bool (b : Bool)
  | int (k : IntKind) (n : Int)
  | str (l : List Nat)
  | nilp
  | ptr (i o : Nat)
  | nils
  | sl (i o n c : Nat) (s : Bool)
  | em (i o o' : Nat) (s : Bool)
  | nilm
  | map (i : Nat)
  | fn (f : Fn) (xs ys : List AV)
  | yl (i : Nat)
  | nilf
  | iface (t : TypeId) (v : AV)
  | nili
  | agg (l : List AV)
  | tup (l : List AV)
  | sym (v : Value)

/-- By number: the real block, where the row begins in it, how many elements more it has; none: a number that is kept for a block to come. -/
structure Env where
  l : List (Option (Nat × Nat × Nat))
namespace Env
def length (ρ : Env) : Nat := ρ.l.length
instance : GetElem? Env Nat (Nat × Nat × Nat) (fun ρ i => (ρ.l[i]?.join).isSome) where
  getElem ρ i h := (ρ.l[i]?.join).get h
  getElem? ρ i := ρ.l[i]?.join
theorem get_def (ρ : Env) (i : Nat) : ρ[i]? = ρ.l[i]?.join := rfl
instance : HAppend Env (List (Nat × Nat × Nat)) Env := ⟨fun ρ δ => ⟨ρ.l ++ δ.map some⟩⟩
theorem app_def (ρ : Env) (δ : List (Nat × Nat × Nat)) : (ρ ++ δ).l = ρ.l ++ δ.map some := rfl
def of (l : List (Nat × Nat × Nat)) : Env := ⟨l.map some⟩
def pad (ρ : Env) (m : Nat) : Env := ⟨ρ.l ++ List.replicate m none⟩
def fill (ρ : Env) (i : Nat) (e : Nat × Nat × Nat) : Env := ⟨ρ.l.set i (some e)⟩
@[simp] theorem length_app (ρ : Env) (δ : List (Nat × Nat × Nat)) : (ρ ++ δ).length = ρ.length + δ.length := by simp [length, app_def]
@[simp] theorem get_new (ρ : Env) (e : Nat × Nat × Nat) : (ρ ++ [e])[ρ.length]? = some e := by simp [get_def, app_def, length]
@[simp] theorem length_pad (ρ : Env) (m : Nat) : (ρ.pad m).length = ρ.length + m := by simp [length, pad]
@[simp] theorem length_fill (ρ : Env) (i : Nat) (e : Nat × Nat × Nat) : (ρ.fill i e).length = ρ.length := by simp [length, fill]
theorem get_fill (ρ : Env) {i : Nat} (hi : i < ρ.length) (e : Nat × Nat × Nat) (j : Nat) : (ρ.fill i e)[j]? = if j = i then some e else ρ[j]? := by
  simp only [get_def, fill, List.getElem?_set]
  unfold length at hi
  by_cases h : i = j
  · subst h; simp [hi]
  · rw [if_neg h, if_neg (Ne.symm h)]
theorem get_pad (ρ : Env) (m j : Nat) : (ρ.pad m)[j]? = ρ[j]? := by
  simp only [get_def, pad, List.getElem?_append]
  split
  · rfl
  · rename_i h
    rw [List.getElem?_eq_none (show ρ.l.length ≤ j by omega), List.getElem?_replicate]
    split <;> rfl
theorem get_lt {ρ : Env} {i : Nat} {e : Nat × Nat × Nat} (h : ρ[i]? = some e) : i < ρ.length := by
  rw [get_def] at h
  unfold length
  cases q : ρ.l[i]? with
  | none => rw [q] at h; cases h
  | some x => exact (List.getElem?_eq_some_iff.1 q).1
end Env

def strV (l : List Nat) : Value := str (l.map UInt8.ofNat)
def small (l : List Nat) : Bool := l.all fun n => Nat.blt n 256
mutual
def ren (ρ : Env) : AV → Option Value
  | .bool b => some (.bool b)
  | .int k n => some (.int k n)
  | .str l => if small l then some (strV l) else none
  | .nilp => some (.pointer none)
  | .ptr i o => (ρ[i]?).map fun e => .pointer (some ⟨e.1, e.2.1 + o, none⟩)
  | .nils => some (.slice none 0 0)
  | .sl i o n c s => (ρ[i]?).map fun e => .slice (some ⟨e.1, e.2.1 + o, none⟩) n (c + cond s e.2.2 0)
  | .em i o o' s => (ρ[i]?).map fun e => .slice (some ⟨e.1, e.2.1 + cond (Nat.beq e.2.2 0) o o', none⟩) 0 (cond s e.2.2 0)
  | .nilm => some (.map none)
  | .map i => (ρ[i]?).map fun e => .map (some e.1)
  | .fn f xs ys => (renL ρ xs).bind fun u => (renL ρ ys).map fun v => .func f ⟨u⟩ ⟨v⟩
  | .yl i => (ρ[i]?).map fun e => yv e.1
  | .nilf => some .nilFunc
  | .iface t v => (ren ρ v).map fun r => .iface t r
  | .nili => some .nilIface
  | .agg l => (renL ρ l).map fun u => .agg ⟨u⟩
  | .tup l => (renL ρ l).map fun u => .tuple ⟨u⟩
  | .sym v => if v.oneCell' then some v else none
def renL (ρ : Env) : List AV → Option (List Value)
  | [] => some []
  | v :: l => (ren ρ v).bind fun r => (renL ρ l).map fun rs => r :: rs
end

/-- More blocks. -/
def Ext (ρ ρ' : Env) : Prop := ∃ δ, ρ'.l = ρ.l ++ δ
theorem Ext.refl (ρ : Env) : Ext ρ ρ := ⟨[], by simp⟩
theorem Ext.trans {a b c : Env} (h : Ext a b) (k : Ext b c) : Ext a c := by
  obtain ⟨x, hx⟩ := h; obtain ⟨y, hy⟩ := k; exact ⟨x ++ y, by rw [hy, hx]; simp⟩
theorem Ext.one (ρ : Env) (e : Nat × Nat × Nat) : Ext ρ (ρ ++ [e]) := ⟨[some e], rfl⟩
theorem Ext.pad (ρ : Env) (m : Nat) : Ext ρ (ρ.pad m) := ⟨_, rfl⟩
theorem Ext.len {ρ ρ' : Env} (h : Ext ρ ρ') : ρ.length ≤ ρ'.length := by
  obtain ⟨δ, hd⟩ := h; simp [Env.length, hd]
theorem Ext.same {ρ ρ' : Env} (h : Ext ρ ρ') {i : Nat} (hi : i < ρ.length) : ρ'[i]? = ρ[i]? := by
  obtain ⟨δ, hd⟩ := h
  unfold Env.length at hi
  rw [Env.get_def, Env.get_def, hd, List.getElem?_append_left hi]
theorem Ext.fill {ρ ρ' : Env} (h : Ext ρ ρ') {i : Nat} (hi : ρ.length ≤ i) (e : Nat × Nat × Nat) : Ext ρ (ρ'.fill i e) := by
  obtain ⟨δ, hd⟩ := h
  refine ⟨δ.set (i - ρ.l.length) (some e), ?_⟩
  unfold Env.length at hi
  simp only [Env.fill, hd]
  rw [List.set_append_right _ _ hi]
/-- Whatever is known stays. -/
def Le (ρ ρ' : Env) : Prop := ∀ (i : Nat) (e : Nat × Nat × Nat), ρ[i]? = some e → ρ'[i]? = some e
theorem Le.get {ρ ρ' : Env} (h : Le ρ ρ') {i : Nat} {e : Nat × Nat × Nat} (he : ρ[i]? = some e) : ρ'[i]? = some e := h i e he
theorem Ext.get {ρ ρ' : Env} (h : Ext ρ ρ') {i : Nat} {e : Nat × Nat × Nat} (he : ρ[i]? = some e) : ρ'[i]? = some e := by
  rw [h.same (Env.get_lt he)]; exact he
theorem Ext.le {ρ ρ' : Env} (h : Ext ρ ρ') : Le ρ ρ' := fun _ _ he => h.get he
theorem Le.fill (ρ : Env) {i : Nat} (hi : i < ρ.length) (hn : ρ[i]? = none) (e : Nat × Nat × Nat) : Le ρ (ρ.fill i e) := fun j x hj => by
  rw [Env.get_fill ρ hi]
  split
  · rename_i h; subst h; rw [hn] at hj; cases hj
  · exact hj

mutual
theorem ren_le {ρ ρ' : Env} (h : Le ρ ρ') : ∀ {v : AV} {r : Value}, ren ρ v = some r → ren ρ' v = some r
  | .bool b, r, e | .int k n, r, e | .str l, r, e | .nilp, r, e | .nils, r, e | .nilm, r, e | .nilf, r, e | .nili, r, e | .sym v, r, e => by simpa [ren] using e
  | .ptr i o, r, e | .sl i o n c s, r, e | .em i o o' s, r, e | .map i, r, e | .yl i, r, e => by
    simp only [ren, Option.map_eq_some_iff] at e ⊢
    obtain ⟨x, hx, rfl⟩ := e
    exact ⟨x, h.get hx, rfl⟩
  | .fn f xs ys, r, e => by
    simp only [ren, Option.bind_eq_some_iff, Option.map_eq_some_iff] at e ⊢
    obtain ⟨u, hu, v, hv, rfl⟩ := e
    exact ⟨u, renL_le h hu, v, renL_le h hv, rfl⟩
  | .iface t v, r, e => by
    simp only [ren, Option.map_eq_some_iff] at e ⊢
    obtain ⟨x, hx, rfl⟩ := e
    exact ⟨x, ren_le h hx, rfl⟩
  | .agg l, r, e | .tup l, r, e => by
    simp only [ren, Option.map_eq_some_iff] at e ⊢
    obtain ⟨x, hx, rfl⟩ := e
    exact ⟨x, renL_le h hx, rfl⟩
theorem renL_le {ρ ρ' : Env} (h : Le ρ ρ') : ∀ {l : List AV} {rs : List Value}, renL ρ l = some rs → renL ρ' l = some rs
  | [], rs, e => by simpa [renL] using e
  | v :: l, rs, e => by
    simp only [renL, Option.bind_eq_some_iff, Option.map_eq_some_iff] at e ⊢
    obtain ⟨r, hr, x, hx, rfl⟩ := e
    exact ⟨r, ren_le h hr, x, renL_le h hx, rfl⟩
end

theorem ren_ext {ρ ρ' : Env} (h : Ext ρ ρ') {v : AV} {r : Value} (e : ren ρ v = some r) : ren ρ' v = some r := ren_le h.le e
theorem renL_ext {ρ ρ' : Env} (h : Ext ρ ρ') {l : List AV} {rs : List Value} (e : renL ρ l = some rs) : renL ρ' l = some rs := renL_le h.le e

/-! ### lists of values -/
def RL (ρ : Env) (l : List AV) (vs : List Value) : Prop := renL ρ l = some vs
theorem RL.nil {ρ : Env} : RL ρ [] [] := rfl
theorem RL.cons {ρ : Env} {v : AV} {r : Value} {l : List AV} {rs : List Value} (h : ren ρ v = some r) (k : RL ρ l rs) : RL ρ (v :: l) (r :: rs) := by
  unfold RL at *; simp [renL, h, k]
theorem RL.out {ρ : Env} {v : AV} {l : List AV} {rs : List Value} (h : RL ρ (v :: l) rs) : ∃ r rs', rs = r :: rs' ∧ ren ρ v = some r ∧ RL ρ l rs' := by
  unfold RL at *
  simp only [renL, Option.bind_eq_some_iff, Option.map_eq_some_iff] at h
  obtain ⟨r, hr, x, hx, rfl⟩ := h
  exact ⟨r, x, rfl, hr, hx⟩
theorem RL.outNil {ρ : Env} {rs : List Value} (h : RL ρ [] rs) : rs = [] := by unfold RL at h; simpa [renL] using h.symm
theorem RL.length {ρ : Env} : ∀ {l : List AV} {rs : List Value}, RL ρ l rs → rs.length = l.length
  | [], rs, h => by rw [h.outNil]; rfl
  | v :: l, rs, h => by obtain ⟨r, rs', rfl, _, h⟩ := h.out; simp [h.length]
theorem RL.get {ρ : Env} : ∀ {l : List AV} {rs : List Value}, RL ρ l rs → ∀ {i : Nat} {v : AV}, l[i]? = some v → ∃ r, rs[i]? = some r ∧ ren ρ v = some r
  | [], rs, h, i, v, e => by simp at e
  | u :: l, rs, h, i, v, e => by
    obtain ⟨r, rs', rfl, hr, h⟩ := h.out
    cases i with
    | zero => simp at e; subst e; exact ⟨r, rfl, hr⟩
    | succ i => simp at e; simpa using h.get e
theorem RL.append {ρ : Env} : ∀ {a : List AV} {x : List Value} {b : List AV} {y : List Value}, RL ρ a x → RL ρ b y → RL ρ (a ++ b) (x ++ y)
  | [], x, b, y, h, k => by rw [h.outNil]; exact k
  | v :: a, x, b, y, h, k => by obtain ⟨r, rs', rfl, hr, h⟩ := h.out; exact RL.cons hr (h.append k)
theorem RL.take {ρ : Env} : ∀ {a : List AV} {x : List Value} (n : Nat), RL ρ a x → RL ρ (a.take n) (x.take n)
  | [], x, n, h => by rw [h.outNil]; simpa using RL.nil
  | v :: a, x, 0, h => by simpa using RL.nil
  | v :: a, x, n + 1, h => by obtain ⟨r, rs', rfl, hr, h⟩ := h.out; exact RL.cons hr (h.take n)
theorem RL.drop {ρ : Env} : ∀ {a : List AV} {x : List Value} (n : Nat), RL ρ a x → RL ρ (a.drop n) (x.drop n)
  | [], x, n, h => by rw [h.outNil]; simpa using RL.nil
  | v :: a, x, 0, h => h
  | v :: a, x, n + 1, h => by obtain ⟨r, rs', rfl, hr, h⟩ := h.out; exact h.drop n
theorem RL.set {ρ : Env} : ∀ {a : List AV} {x : List Value} (n : Nat) {v : AV} {r : Value}, RL ρ a x → ren ρ v = some r → RL ρ (a.set n v) (x.set n r)
  | [], x, n, v, r, h, k => by rw [h.outNil]; exact RL.nil
  | u :: a, x, 0, v, r, h, k => by obtain ⟨r', rs', rfl, hr, h⟩ := h.out; exact RL.cons k h
  | u :: a, x, n + 1, v, r, h, k => by obtain ⟨r', rs', rfl, hr, h⟩ := h.out; exact RL.cons hr (h.set n k)
theorem RL.rep {ρ : Env} {v : AV} {r : Value} (h : ren ρ v = some r) : ∀ n, RL ρ (List.replicate n v) (List.replicate n r)
  | 0 => RL.nil
  | n + 1 => RL.cons h (RL.rep h n)
theorem RL.ext {ρ ρ' : Env} (h : Ext ρ ρ') {l : List AV} {rs : List Value} (k : RL ρ l rs) : RL ρ' l rs := renL_ext h k
theorem RL.flat {ρ : Env} {l : List AV} {rs : List Value} (h : RL ρ l rs) : ∀ n, RL ρ (List.replicate n l).flatten (List.replicate n rs).flatten
  | 0 => RL.nil
  | n + 1 => by simpa [List.replicate_succ] using h.append (RL.flat h n)

/-- It fits in one cell. -/
def one : AV → Bool
  | .agg _ => false
  | .tup _ => false
  | _ => true
theorem one_spec {ρ : Env} {v : AV} {r : Value} (h : ren ρ v = some r) (h1 : one v = true) : r.oneCell' = true := by
  cases v <;> simp [ren, one, Option.bind_eq_some_iff] at h h1 <;> try (subst h; rfl)
  case str l => obtain ⟨_, rfl⟩ := h; rfl
  case ptr => obtain ⟨_, _, _, _, rfl⟩ := h; rfl
  case sl => obtain ⟨_, _, _, _, rfl⟩ := h; rfl
  case em => obtain ⟨_, _, _, _, rfl⟩ := h; rfl
  case map => obtain ⟨_, _, _, _, rfl⟩ := h; rfl
  case fn => obtain ⟨_, _, _, _, rfl⟩ := h; rfl
  case yl => obtain ⟨_, _, _, _, rfl⟩ := h; rfl
  case iface => obtain ⟨_, _, rfl⟩ := h; rfl
  case sym => obtain ⟨h, rfl⟩ := h; exact h
/-- The cells of a value. -/
def cellsA : AV → List AV
  | .agg l => l
  | v => [v]
theorem cellsA_spec {ρ : Env} {v : AV} {r : Value} (h : ren ρ v = some r) : RL ρ (cellsA v) r.cells.toList := by
  by_cases ha : ∃ l, v = .agg l
  · obtain ⟨l, rfl⟩ := ha
    simp only [ren, Option.map_eq_some_iff] at h
    obtain ⟨u, hu, rfl⟩ := h
    exact hu
  · have hr : ∀ a, r ≠ .agg a := by
      rintro a rfl
      cases v <;> simp [ren, strV, yv, Option.bind_eq_some_iff] at h <;> first | exact ha ⟨_, rfl⟩ | (obtain ⟨h1, h2⟩ := h; subst h2; simp [Value.oneCell'] at h1)
    have hc : cellsA v = [v] := by cases v <;> first | rfl | exact absurd ⟨_, rfl⟩ ha
    have hc' : r.cells = #[r] := by cases r <;> first | rfl | exact absurd rfl (hr _)
    rw [hc, hc']
    exact RL.cons h RL.nil

def optL {α β : Type} (f : α → Option β) (l : List α) : Option (List β) :=
  List.rec (some []) (fun x _ ih => Option.rec none (fun y => Option.rec none (fun ys => some (y :: ys)) ih) (f x)) l
theorem optL_cons {α β : Type} {f : α → Option β} {x : α} {l : List α} {r : List β} (h : optL f (x :: l) = some r) : ∃ y ys, f x = some y ∧ optL f l = some ys ∧ r = y :: ys := by
  have h : (Option.rec none (fun y => Option.rec none (fun ys => some (y :: ys)) (optL f l)) (f x) : Option (List β)) = some r := h
  cases h1 : f x with
  | none => rw [h1] at h; cases h
  | some y =>
    rw [h1] at h
    cases h2 : optL f l with
    | none => rw [h2] at h; cases h
    | some ys => rw [h2] at h; cases h; exact ⟨y, ys, rfl, rfl, rfl⟩
/-- A plain value as one of ours. -/
def ofV : Nat → Value → Option AV
  | 0, _ => none
  | n + 1, v => match v with
    | .bool b => some (.bool b)
    | .int k i => some (.int k i)
    | .string ⟨⟨l⟩⟩ => some (.str (l.map UInt8.toNat))
    | .pointer none => some .nilp
    | .slice none 0 0 => some .nils
    | .map none => some .nilm
    | .nilFunc => some .nilf
    | .nilIface => some .nili
    | .agg ⟨l⟩ => (optL (ofV n) l).map .agg
    | .tuple ⟨l⟩ => (optL (ofV n) l).map .tup
    | .func (.func f) ⟨[]⟩ ⟨[]⟩ => some (.fn (.func f) [] [])
    | .iface t v => (ofV n v).map (.iface t)
    | _ => none
theorem optL_ofV {ρ : Env} {n : Nat} (ih : ∀ v a, ofV n v = some a → ren ρ a = some v) : ∀ {l : List Value} {as : List AV}, optL (ofV n) l = some as → RL ρ as l
  | [], as, h => by cases h; exact RL.nil
  | v :: l, as, h => by
    obtain ⟨y, ys, h1, h2, rfl⟩ := optL_cons h
    exact RL.cons (ih _ _ h1) (optL_ofV ih h2)
theorem small_u8 (l : List UInt8) : small (l.map UInt8.toNat) = true := by
  unfold small
  rw [List.all_eq_true]
  intro x hx
  obtain ⟨y, _, rfl⟩ := List.mem_map.1 hx
  simpa [Nat.blt_eq] using UInt8.toNat_lt y
theorem u8_back (l : List UInt8) : (l.map UInt8.toNat).map UInt8.ofNat = l := by
  rw [List.map_map]
  conv => rhs; rw [← List.map_id l]
  apply List.map_congr_left
  intro x _
  simp
theorem ofV_spec {ρ : Env} : ∀ (n : Nat) (v : Value) (a : AV), ofV n v = some a → ren ρ a = some v
  | 0, v, a, h => by cases h
  | n + 1, v, a, h => by
    unfold ofV at h
    split at h <;> first
      | (cases h; rfl)
      | (cases h; unfold ren; rw [if_pos (small_u8 _), strV, u8_back]; done)
      | (obtain ⟨as, h1, rfl⟩ := Option.map_eq_some_iff.1 h
         have := optL_ofV (ρ := ρ) (ofV_spec n) h1
         unfold RL at this
         simp [ren, this]; done)
      | (obtain ⟨x, h1, rfl⟩ := Option.map_eq_some_iff.1 h
         simp [ren, ofV_spec n _ _ h1]; done)
      | cases h
end
end Go.Ev
set_option linter.unusedSimpArgs false
set_option linter.unusedVariables false
namespace Go.Ev
open Go.Sl
noncomputable section

inductive Ck where
  | row (t : TypeId) (s : Nat) (l : List AV) (fz : Nat)
  | ro (t : TypeId) (l : List AV)
  | map (es : List (AV × AV × Nat)) (clock : Nat)
  | mit (m : Nat) (since : Nat) (seen : List Nat) (last : Nat)
  | mnil
  | sit (l : List Nat) (pos : Nat)
  | loop (st : LoopState) (pd : Option Code) (fn : FuncId) (fr : Tr AV) (N : Nat) (ps : List Tmp) (assign body : Code) (D : Nat)
  | dfr (opened : Bool)
abbrev Mem := Tr Ck
def Ck.own : Ck → Bool
  | .ro _ _ => false
  | _ => true

/-- Slots. -/
def Fk (ρ : Env) (fr : Tr AV) (T : Array Value) : Prop := ∀ t v, fr.get t = some v → ∃ r, T[t]? = some r ∧ ren ρ v = some r
theorem Fk.more {ρ ρ' : Env} {fr : Tr AV} {T : Array Value} (h : Fk ρ fr T) (x : Le ρ ρ') : Fk ρ' fr T := fun t v e => by
  obtain ⟨r, h1, h2⟩ := h t v e; exact ⟨r, h1, ren_le x h2⟩
theorem Fk.ext {ρ ρ' : Env} {fr : Tr AV} {T : Array Value} (h : Fk ρ fr T) (x : Ext ρ ρ') : Fk ρ' fr T := h.more x.le
theorem Fk.set {ρ : Env} {fr fr' : Tr AV} {T : Array Value} {d : Nat} {v : AV} {r : Value} (h : Fk ρ fr T) (hs : fr.Is d v fr') (hd : d < T.size) (hr : ren ρ v = some r) : Fk ρ fr' (T.setIfInBounds d r) := fun t u e => by
  rw [hs] at e
  by_cases q : t = d
  · subst q; rw [if_pos rfl] at e; cases e; exact ⟨r, by simp [hd], hr⟩
  · rw [if_neg q] at e
    obtain ⟨x, h1, h2⟩ := h t u e
    exact ⟨x, by rw [Array.getElem?_setIfInBounds_ne (Ne.symm q)]; exact h1, h2⟩

def renM (ρ : Env) : List (AV × AV × Nat) → Option (List MapEntry)
  | [] => some []
  | (k, v, b) :: l => (ren ρ k).bind fun k' => (ren ρ v).bind fun v' => (renM ρ l).map fun r => ⟨k', v', b⟩ :: r
theorem renM_le {ρ ρ' : Env} (h : Le ρ ρ') : ∀ {l : List (AV × AV × Nat)} {r : List MapEntry}, renM ρ l = some r → renM ρ' l = some r
  | [], r, e => e
  | (k, v, b) :: l, r, e => by
    simp only [renM, Option.bind_eq_some_iff, Option.map_eq_some_iff] at e ⊢
    obtain ⟨x, hx, y, hy, z, hz, rfl⟩ := e
    exact ⟨x, ren_le h hx, y, ren_le h hy, z, renM_le h hz, rfl⟩
theorem renM_ext {ρ ρ' : Env} (h : Ext ρ ρ') {l : List (AV × AV × Nat)} {r : List MapEntry} (e : renM ρ l = some r) : renM ρ' l = some r := renM_le h.le e

/-- Nothing from n to m bears a mark. -/
def frz (fz : Nat × Nat) (n m : Nat) : Prop := fz.2 ≤ fz.1 ∨ fz.2 ≤ n ∨ m ≤ fz.1

def rowIs (ρ : Env) (e : Nat × Nat × Nat) (h : Option Obj) (t s : Nat) (l : List AV) (fz : Nat) : Prop :=
  ∃ pre vs ex fzr, RL ρ l vs ∧ h = some (.cells ⟨pre ++ (vs ++ ex)⟩ t fzr) ∧ pre.length = e.2.1 ∧ e.2.2 * s ≤ ex.length ∧ (l.length < fz ∨ frz fzr (e.2.1 + fz) (pre ++ (vs ++ ex)).length) ∧ allL one l = true
def loopIs (ρ : Env) (h : Option Obj) (st : LoopState) (pd : Option Code) (fn : FuncId) (fr : Tr AV) (N : Nat) (ps : List Tmp) (assign body : Code) (D : Nat) : Prop :=
  ∃ T e fn', T.size = N ∧ Fk ρ fr T ∧ ρ[D]? = some e ∧ h = some (.loop ⟨st, pd, fn', T, ps.toArray, assign, body, e.1⟩)
/-- What block e of the heap is. -/
def Sh (ρ : Env) (hF : Hp) (e : Nat × Nat × Nat) (h : Option Obj) : Ck → Prop
  | .row t s l fz => rowIs ρ e h t s l fz
  | .ro t l => ∃ vs fz, RL ρ l vs ∧ hF e.1 = some (.cells ⟨vs⟩ t fz) ∧ e.2.1 = 0
  | .map es c => ∃ L, renM ρ es = some L ∧ h = some (.map ⟨L⟩ c)
  | .mit m since seen last => ∃ e', ρ[m]? = some e' ∧ h = some (.mapIter (some e'.1) since ⟨seen⟩ last) ∧ e.2.1 = 0
  | .mnil => h = some (.mapIter none 0 #[] 0) ∧ e.2.1 = 0
  | .sit l pos => small l = true ∧ h = some (.stringIter ⟨⟨l.map UInt8.ofNat⟩⟩ pos) ∧ e.2.1 = 0
  | .loop st pd fn fr N ps assign body D => loopIs ρ h st pd fn fr N ps assign body D
  | .dfr b => h = some (.deferred (if b then some [] else none))
theorem Sh.more {ρ ρ' : Env} {hF : Hp} {e : Nat × Nat × Nat} {h : Option Obj} {ck : Ck} (k : Sh ρ hF e h ck) (x : Le ρ ρ') : Sh ρ' hF e h ck := by
  cases ck with
  | row t s l fz => obtain ⟨pre, vs, ex, fzr, h1, h2⟩ := k; exact ⟨pre, vs, ex, fzr, renL_le x h1, h2⟩
  | ro t l => obtain ⟨vs, fz, h1, h2⟩ := k; exact ⟨vs, fz, renL_le x h1, h2⟩
  | map es c => obtain ⟨L, h1, h2⟩ := k; exact ⟨L, renM_le x h1, h2⟩
  | mit m since seen last => obtain ⟨e', h1, h2⟩ := k; exact ⟨e', x.get h1, h2⟩
  | mnil => exact k
  | sit l pos => exact k
  | loop st pd fn fr N ps assign body D => obtain ⟨T, e, fn', h1, h2, h3, h4⟩ := k; exact ⟨T, e, fn', h1, h2.more x, x.get h3, h4⟩
  | dfr b => exact k
theorem Sh.ext {ρ ρ' : Env} {hF : Hp} {e : Nat × Nat × Nat} {h : Option Obj} {ck : Ck} (k : Sh ρ hF e h ck) (x : Ext ρ ρ') : Sh ρ' hF e h ck := k.more x.le

structure Rep (ρ : Env) (M : Mem) (hF : Hp) (w : World) : Prop where
  own : ∀ i ck, M.get i = some ck → ∃ e, ρ[i]? = some e ∧ Sh ρ hF e (w.heap[e.1]?) ck ∧ (ck.own = true → hF e.1 = none)
  inj : ∀ i j ck ck' e e', M.get i = some ck → M.get j = some ck' → ck.own = true → ck'.own = true → ρ[i]? = some e → ρ[j]? = some e' → e.1 = e'.1 → i = j
  frame : le hF (mem w)

theorem Rep.more {ρ ρ' : Env} {M : Mem} {hF : Hp} {w : World} (h : Rep ρ M hF w) (x : Le ρ ρ') : Rep ρ' M hF w where
  own i ck hi := by obtain ⟨e, h1, h2, h3⟩ := h.own i ck hi; exact ⟨e, x.get h1, h2.more x, h3⟩
  inj i j ck ck' e e' hi hj ho ho' he he' hee := by
    obtain ⟨a, h1, _⟩ := h.own i ck hi
    obtain ⟨b, h2, _⟩ := h.own j ck' hj
    have := x.get h1; rw [he] at this; cases this
    have := x.get h2; rw [he'] at this; cases this
    exact h.inj i j ck ck' _ _ hi hj ho ho' h1 h2 hee
  frame := h.frame
theorem Rep.ext {ρ ρ' : Env} {M : Mem} {hF : Hp} {w : World} (h : Rep ρ M hF w) (x : Ext ρ ρ') : Rep ρ' M hF w := h.more x.le
/-- The same memory in a world whose heap has it all. -/
theorem Rep.heap {ρ : Env} {M : Mem} {hF : Hp} {w w' : World} (h : Rep ρ M hF w) (hm : le (mem w) (mem w')) : Rep ρ M hF w' where
  own i ck hi := by
    obtain ⟨e, h1, h2, h3⟩ := h.own i ck hi
    refine ⟨e, h1, ?_, h3⟩
    have key : ∀ o, w.heap[e.1]? = some o → w'.heap[e.1]? = some o := fun o ho => hm e.1 o ho
    cases ck with
    | row t s l fz => obtain ⟨pre, vs, ex, fzr, a, b, c⟩ := h2; exact ⟨pre, vs, ex, fzr, a, key _ b, c⟩
    | ro t l => exact h2
    | map es c => obtain ⟨L, a, b⟩ := h2; exact ⟨L, a, key _ b⟩
    | mit m since seen last => obtain ⟨e', a, b, c⟩ := h2; exact ⟨e', a, key _ b, c⟩
    | mnil => exact ⟨key _ h2.1, h2.2⟩
    | sit l pos => exact ⟨h2.1, key _ h2.2.1, h2.2.2⟩
    | loop st pd fn fr N ps assign body D => obtain ⟨T, e, fn', a, b, c, d⟩ := h2; exact ⟨T, e, fn', a, b, c, key _ d⟩
    | dfr b => exact key _ h2
  inj := h.inj
  frame := h.frame.trans hm

/-- The world but block b. -/
def but (h : Hp) (b : Nat) : Hp := fun k => if k = b then none else h k
theorem sat_but {w : World} {b : Nat} {o : Obj} (h : w.heap[b]? = some o) : Sat [pt b o] (but (mem w) b) w := by
  refine ⟨[fun k => if k = b then some o else none], ⟨rfl, trivial⟩, ?_, ?_, ?_⟩
  · refine ⟨fun k => ?_, by simp, trivial⟩
    by_cases e : k = b
    · left; simp [but, e]
    · right; simp [e]
  · intro k u e
    unfold but at e
    split at e
    · cases e
    · exact e
  · intro k hk
    simp only [List.mem_singleton] at hk
    subst hk
    intro y u e
    by_cases f : y = b
    · subst f; simp at e; subst e; exact h
    · simp [f] at e
/-- Block i of memory turns. -/
theorem Rep.turn {ρ : Env} {M M' : Mem} {hF : Hp} {w w' : World} {i : Nat} {ck ck' : Ck} {e : Nat × Nat × Nat} (h : Rep ρ M hF w) (hi : M.get i = some ck) (ho : ck.own = true) (he : ρ[i]? = some e)
    (hs : M.Is i ck' M') (ho' : ck'.own = true) (hw : le (but (mem w) e.1) (mem w')) (hn : Sh ρ hF e (w'.heap[e.1]?) ck') : Rep ρ M' hF w' := by
  obtain ⟨e1, he1, _, hF1⟩ := h.own i ck hi
  rw [he] at he1; cases he1
  have key : ∀ j cj ej, M.get j = some cj → ρ[j]? = some ej → j ≠ i → cj.own = true → ∀ o, w.heap[ej.1]? = some o → w'.heap[ej.1]? = some o := by
    intro j cj ej hj hej hne hoj o hw1
    refine hw ej.1 o ?_
    unfold but
    rw [if_neg]
    · exact hw1
    · intro q; exact hne (h.inj j i cj ck ej e hj hi hoj ho hej he q)
  refine ⟨fun j cj hj => ?_, fun j k cj cj' ej ek hj hk hoj hok hej hek hee => ?_, fun b o hb => hw b o ?_⟩
  · rw [hs] at hj
    by_cases q : j = i
    · subst q; rw [if_pos rfl] at hj; cases hj; exact ⟨e, he, hn, fun _ => hF1 ho⟩
    · rw [if_neg q] at hj
      obtain ⟨ej, h1, h2, h3⟩ := h.own j cj hj
      refine ⟨ej, h1, ?_, h3⟩
      cases cj with
      | row t s l fz => obtain ⟨pre, vs, ex, fzr, a, b, c⟩ := h2; exact ⟨pre, vs, ex, fzr, a, key j _ ej hj h1 q rfl _ b, c⟩
      | ro t l => exact h2
      | map es c => obtain ⟨L, a, b⟩ := h2; exact ⟨L, a, key j _ ej hj h1 q rfl _ b⟩
      | mit m since seen last => obtain ⟨e', a, b, c⟩ := h2; exact ⟨e', a, key j _ ej hj h1 q rfl _ b, c⟩
      | mnil => exact ⟨key j _ ej hj h1 q rfl _ h2.1, h2.2⟩
      | sit l pos => exact ⟨h2.1, key j _ ej hj h1 q rfl _ h2.2.1, h2.2.2⟩
      | loop st pd fn fr N ps assign body D => obtain ⟨T, e, fn', a, b, c, d⟩ := h2; exact ⟨T, e, fn', a, b, c, key j _ ej hj h1 q rfl _ d⟩
      | dfr b => exact key j _ ej hj h1 q rfl _ h2
  · have old : ∀ j cj, M'.get j = some cj → cj.own = true → ∃ c, M.get j = some c ∧ c.own = true := by
      intro j cj hj hoj
      rw [hs] at hj
      by_cases q : j = i
      · subst q; exact ⟨ck, hi, ho⟩
      · rw [if_neg q] at hj; exact ⟨cj, hj, hoj⟩
    obtain ⟨c1, g1, g2⟩ := old j cj hj hoj
    obtain ⟨c2, g3, g4⟩ := old k cj' hk hok
    exact h.inj j k c1 c2 ej ek g1 g3 g2 g4 hej hek hee
  · unfold but
    rw [if_neg]
    · exact h.frame b o hb
    · intro q; rw [q, hF1 ho] at hb; cases hb
/-- A new block. -/
theorem Rep.addAt {ρ ρ' : Env} {M M' : Mem} {hF : Hp} {w w' : World} {ck : Ck} {e : Nat × Nat × Nat} {n : Nat} (h : Rep ρ M hF w) (x : Le ρ ρ') (he : ρ'[n]? = some e) (hs : M.Is n ck M') (ho : ck.own = true) (hb : w.heap[e.1]? = none)
    (hw : le (mem w) (mem w')) (hn : Sh ρ' hF e (w'.heap[e.1]?) ck) : Rep ρ' M' hF w' := by
  have hFe : hF e.1 = none := by
    cases q : hF e.1 with
    | none => rfl
    | some o => have := h.frame _ _ q; unfold mem at this; rw [hb] at this; cases this
  have live : ∀ j cj ej, M.get j = some cj → ρ[j]? = some ej → cj.own = true → ej.1 ≠ e.1 := by
    intro j cj ej hj hej hoj q
    obtain ⟨e', h1, h2, _⟩ := h.own j cj hj
    rw [hej] at h1; cases h1
    rw [q, hb] at h2
    cases cj with
    | row t s l fz => obtain ⟨pre, vs, ex, fzr, a, b, c⟩ := h2; cases b
    | ro t l => cases hoj
    | map es c => obtain ⟨L, a, b⟩ := h2; cases b
    | mit m since seen last => obtain ⟨e', a, b, c⟩ := h2; cases b
    | mnil => cases h2.1
    | sit l pos => cases h2.2.1
    | loop st pd fn fr N ps assign body D => obtain ⟨T, e, fn', a, b, c, d⟩ := h2; cases d
    | dfr b => cases h2
  have h' := (h.heap hw).more x
  refine ⟨fun j cj hj => ?_, fun j k cj cj' ej ek hj hk hoj hok hej hek hee => ?_, h'.frame⟩
  · rw [hs] at hj
    by_cases q : j = n
    · subst q; rw [if_pos rfl] at hj; cases hj; exact ⟨e, he, hn, fun _ => hFe⟩
    · rw [if_neg q] at hj; exact h'.own j cj hj
  · rw [hs] at hj hk
    by_cases q : j = n
    · subst q
      rw [he] at hej; cases hej
      by_cases q' : k = j
      · exact q'.symm
      · rw [if_neg q'] at hk
        obtain ⟨ek', h1, _⟩ := h.own k cj' hk
        have := x.get h1; rw [hek] at this; cases this
        exact absurd hee.symm (live k cj' ek hk h1 hok)
    · rw [if_neg q] at hj
      obtain ⟨ej', h1, _⟩ := h.own j cj hj
      have := x.get h1; rw [hej] at this; cases this
      by_cases q' : k = n
      · subst q'; rw [he] at hek; cases hek
        exact absurd hee (live j cj ej hj h1 hoj)
      · rw [if_neg q'] at hk
        exact h'.inj j k cj cj' ej ek hj hk hoj hok hej hek hee
theorem Rep.add {ρ : Env} {M M' : Mem} {hF : Hp} {w w' : World} {ck : Ck} {e : Nat × Nat × Nat} (h : Rep ρ M hF w) (hs : M.Is ρ.length ck M') (ho : ck.own = true) (hb : w.heap[e.1]? = none)
    (hw : le (mem w) (mem w')) (hn : Sh (ρ ++ [e]) hF e (w'.heap[e.1]?) ck) : Rep (ρ ++ [e]) M' hF w' := h.addAt (Ext.one ρ e).le (by simp) hs ho hb hw hn
/-- A block that nobody else has gets a number. -/
theorem Rep.put {ρ : Env} {M M' : Mem} {hF : Hp} {w w' : World} {ck : Ck} {e : Nat × Nat × Nat} (h : Rep ρ M hF w) (hs : M.Is ρ.length ck M') (hfree : ∀ j cj ej, M.get j = some cj → ρ[j]? = some ej → cj.own = true → ej.1 ≠ e.1) (hFe : hF e.1 = none)
    (hw : le (but (mem w) e.1) (mem w')) (hn : Sh (ρ ++ [e]) hF e (w'.heap[e.1]?) ck) : Rep (ρ ++ [e]) M' hF w' := by
  have x : Ext ρ (ρ ++ [e]) := Ext.one ρ e
  have he : (ρ ++ [e])[ρ.length]? = some e := by simp
  have hframe : le hF (mem w') := fun b o hb => hw b o (by
    unfold but
    rw [if_neg]
    · exact h.frame b o hb
    · intro q; rw [q, hFe] at hb; cases hb)
  have key : ∀ j cj ej, M.get j = some cj → ρ[j]? = some ej → cj.own = true → ∀ o, w.heap[ej.1]? = some o → w'.heap[ej.1]? = some o := by
    intro j cj ej hj hej hoj o hw1
    refine hw ej.1 o ?_
    unfold but
    rw [if_neg (hfree j cj ej hj hej hoj)]; exact hw1
  refine ⟨fun j cj hj => ?_, fun j k cj cj' ej ek hj hk hoj hok hej hek hee => ?_, hframe⟩
  · rw [hs] at hj
    by_cases q : j = ρ.length
    · subst q; rw [if_pos rfl] at hj; cases hj; exact ⟨e, he, hn, fun _ => hFe⟩
    · rw [if_neg q] at hj
      obtain ⟨ej, h1, h2, h3⟩ := h.own j cj hj
      refine ⟨ej, x.get h1, ?_, h3⟩
      refine Sh.ext ?_ x
      cases cj with
      | row t s l fz => obtain ⟨pre, vs, ex, fzr, a, b, c⟩ := h2; exact ⟨pre, vs, ex, fzr, a, key j _ ej hj h1 rfl _ b, c⟩
      | ro t l => exact h2
      | map es c => obtain ⟨L, a, b⟩ := h2; exact ⟨L, a, key j _ ej hj h1 rfl _ b⟩
      | mit m since seen last => obtain ⟨e', a, b, c⟩ := h2; exact ⟨e', a, key j _ ej hj h1 rfl _ b, c⟩
      | mnil => exact ⟨key j _ ej hj h1 rfl _ h2.1, h2.2⟩
      | sit l pos => exact ⟨h2.1, key j _ ej hj h1 rfl _ h2.2.1, h2.2.2⟩
      | loop st pd fn fr N ps assign body D => obtain ⟨T, e, fn', a, b, c, d⟩ := h2; exact ⟨T, e, fn', a, b, c, key j _ ej hj h1 rfl _ d⟩
      | dfr b => exact key j _ ej hj h1 rfl _ h2
  · rw [hs] at hj hk
    by_cases q : j = ρ.length
    · subst q
      rw [he] at hej; cases hej
      by_cases q' : k = ρ.length
      · exact q'.symm
      · rw [if_neg q'] at hk
        obtain ⟨ek', h1, _⟩ := h.own k cj' hk
        have := x.get h1; rw [hek] at this; cases this
        exact absurd hee.symm (hfree k cj' ek hk h1 hok)
    · rw [if_neg q] at hj
      obtain ⟨ej', h1, _⟩ := h.own j cj hj
      have := x.get h1; rw [hej] at this; cases this
      by_cases q' : k = ρ.length
      · subst q'; rw [he] at hek; cases hek
        exact absurd hee (hfree j cj ej hj h1 hoj)
      · rw [if_neg q'] at hk
        obtain ⟨ek', h2, _⟩ := h.own k cj' hk
        have := x.get h2; rw [hek] at this; cases this
        exact h.inj j k cj cj' ej ek hj hk hoj hok h1 h2 hee
/-- A block is forgotten. -/
theorem Rep.drop {ρ : Env} {M M' : Mem} {hF : Hp} {w : World} {i : Nat} (h : Rep ρ M hF w) (hs : ∀ m, M'.get m = if m = i then none else M.get m) : Rep ρ M' hF w := by
  have old : ∀ j cj, M'.get j = some cj → M.get j = some cj := fun j cj hj => by
    rw [hs] at hj
    split at hj
    · cases hj
    · exact hj
  exact ⟨fun j cj hj => h.own j cj (old j cj hj), fun j k cj cj' ej ek hj hk => h.inj j k cj cj' ej ek (old _ _ hj) (old _ _ hk), h.frame⟩

/-- Cells that may be read. -/
def Ck.cells : Ck → Option (List AV)
  | .row _ _ l _ => some l
  | .ro _ l => some l
  | _ => none
theorem Rep.cells {ρ : Env} {M : Mem} {hF : Hp} {w : World} {i : Nat} {ck : Ck} {l : List AV} (h : Rep ρ M hF w) (hi : M.get i = some ck) (hc : ck.cells = some l) :
    ∃ e cs t fz vs, ρ[i]? = some e ∧ w.heap[e.1]? = some (.cells ⟨cs⟩ t fz) ∧ RL ρ l vs ∧ At cs e.2.1 vs := by
  obtain ⟨e, h1, h2, h3⟩ := h.own i ck hi
  cases ck with
  | row t s l' fz =>
    cases hc
    obtain ⟨pre, vs, ex, fzr, a, b, c, _⟩ := h2
    refine ⟨e, _, t, fzr, vs, h1, b, a, ?_⟩
    rw [← c, ← List.append_assoc]; exact At.mid _ _ _
  | ro t l' =>
    cases hc
    obtain ⟨vs, fz, a, b, c⟩ := h2
    refine ⟨e, vs, t, fz, vs, h1, h.frame _ _ b, a, ?_⟩
    rw [c]; exact At.all _
  | _ => cases hc
end
end Go.Ev
set_option linter.unusedSimpArgs false
set_option linter.unusedVariables false
namespace Go.Ev
open Go.Sl
noncomputable section

inductive TD where
  | bool | int (k : IntKind) | str | ptr | sl (e : TypeId) | arr (n e : Nat) | map (k e : TypeId) | st (fs : List (Nat × Nat × Nat)) | fn | ifc | other
structure TRow where
  td : TD
  size : Nat
  bytes : Nat
def TDok (P : Program) (t : TypeId) : TD → Prop
  | .bool => P.underlying t = some .bool
  | .int k => P.underlying t = some (.int k)
  | .str => P.underlying t = some .string
  | .ptr => ∃ e, P.underlying t = some (.pointer e)
  | .sl e => P.underlying t = some (.slice e)
  | .arr n e => P.underlying t = some (.array n e)
  | .map k e => P.underlying t = some (.map k e)
  | .st fs => ∃ a, P.underlying t = some (.struct a) ∧ placesOf P t = some (fs.map fun f => (f.1, f.2.2)) ∧ ∀ (i o u z : Nat), fs[i]? = some (o, u, z) → fieldInfo P t i = some (o, u) ∧ tsize P u = some z
  | .fn => ∃ ps rs b, P.underlying t = some (.func ps rs b)
  | .ifc => ∃ ms, P.underlying t = some (.interface ms)
  | .other => True
structure RowOk (P : Program) (t : TypeId) (r : TRow) : Prop where
  size : tsize P t = some r.size
  bytes : tbytes P t = some r.bytes
  td : TDok P t r.td
structure Tabs (P : Program) where
  T : Nat → Option TRow
  F : Nat → Option Func
  gl : Nat → Option Nat
  okT : ∀ t r, T t = some r → RowOk P t r
  okF : ∀ f fn, F f = some fn → P.funcs[f]? = some fn ∧ (fn.name == "runtime.NumGoroutine") = false
  /-- functions without a body -/
  X : Nat → List AV → Mem → Nat → (AV → Mem → Nat → Bool) → Bool
  okX : ∀ f vs M nx k, X f vs M nx k = true → ∀ ρ hF w rs, Rep ρ M hF w → ρ.length = nx → RL ρ vs rs → ∃ ρ' v r M' w', Ext ρ ρ' ∧ ren ρ' v = some r ∧ k v M' ρ'.length = true ∧ Rep ρ' M' hF w' ∧ Same w w' ∧ (callFunc f rs.toArray).run P w = .ok (.value r) w'
  /-- functions whose contract is known -/
  I : Nat → Option (List AV → Mem → Nat → (AV → Mem → Nat → Bool) → Bool)
  okI : ∀ f g, I f = some g → callable P f = true ∧ ∀ vs M nx k, g vs M nx k = true → ∀ ρ hF w rs, Rep ρ M hF w → ρ.length = nx → (∀ g i, gl g = some i → ρ[i]? = some (g, 0, 0)) → RL ρ vs rs →
    Calls P f rs.toArray w (fun e w' => ∃ ρ' v r M', Ext ρ ρ' ∧ ren ρ' v = some r ∧ e = .returned r ∧ k v M' ρ'.length = true ∧ Rep ρ' M' hF w' ∧ Same w w')

variable {P : Program}
def TD.row : TD → Option Bool
  | .st _ => some true
  | .arr _ _ => some true
  | .other => none
  | _ => some false
theorem TDok.row {t : TypeId} {d : TD} {b : Bool} (h : TDok P t d) (hb : d.row = some b) : isRow P t = some b := by
  cases d <;> simp only [TD.row, Option.some.injEq, reduceCtorEq] at hb <;> subst hb <;> simp only [TDok] at h <;> unfold isRow
  case ptr => obtain ⟨e, h⟩ := h; rw [h]; rfl
  case st => obtain ⟨a, h, _⟩ := h; rw [h]; rfl
  case fn => obtain ⟨a, b, c, h⟩ := h; rw [h]; rfl
  case ifc => obtain ⟨a, h⟩ := h; rw [h]; rfl
  all_goals rw [h]; rfl

/-! ### what is deferred -/
inductive AD where
  | call (f : FuncId) (args caps : List AV)
  | mark (i : Nat)
def renD (ρ : Env) : List AD → Option (List Deferred)
  | [] => some []
  | .call f args caps :: l => (renL ρ args).bind fun u => (renL ρ caps).bind fun v => (renD ρ l).map fun r => ⟨.fn (.func f) ⟨v⟩, ⟨u⟩⟩ :: r
  | .mark i :: l => (ρ[i]?).bind fun e => (renD ρ l).map fun r => Sl.mark e.1 :: r
theorem renD_le {ρ ρ' : Env} (x : Le ρ ρ') : ∀ {l : List AD} {r : List Deferred}, renD ρ l = some r → renD ρ' l = some r
  | [], r, h => h
  | .call f args caps :: l, r, h => by
    simp only [renD, Option.bind_eq_some_iff, Option.map_eq_some_iff] at h ⊢
    obtain ⟨u, hu, v, hv, q, hq, rfl⟩ := h
    exact ⟨u, renL_le x hu, v, renL_le x hv, q, renD_le x hq, rfl⟩
  | .mark i :: l, r, h => by
    simp only [renD, Option.bind_eq_some_iff, Option.map_eq_some_iff] at h ⊢
    obtain ⟨u, hu, q, hq, rfl⟩ := h
    exact ⟨u, x.get hu, q, renD_le x hq, rfl⟩
theorem renD_ext {ρ ρ' : Env} (x : Ext ρ ρ') {l : List AD} {r : List Deferred} (h : renD ρ l = some r) : renD ρ' l = some r := renD_le x.le h

/-- What stays the same through an activation. -/
structure Cn where
  N : Nat
  hF : Hp
  w0 : World
  ro : Option Nat
structure Rl (T : Tabs P) (c : Cn) (ρ : Env) (fr : Tr AV) (ds : List AD) (M : Mem) (nx : Nat) (a : Act) (w : World) : Prop where
  size : a.tmps.size = c.N
  slots : Fk ρ fr a.tmps
  dfs : renD ρ ds = some a.defers
  rep : Rep ρ M c.hF w
  nx : ρ.length = nx
  same : Same c.w0 w
  glob : ∀ g i, T.gl g = some i → ρ[i]? = some (g, 0, 0)

/-! ### the frame as the engine has it -/
def full (a : Act) : Fr := (List.range a.tmps.size).map fun t => (t, a.tmps.getD t undef)
theorem get_map_range (f : Nat → Value) : ∀ (n k t : Nat), Sl.get ((List.range' k n).map fun t => (t, f t)) t = if k ≤ t ∧ t < k + n then some (f t) else none
  | 0, k, t => by
    rw [if_neg (by omega)]; rfl
  | n + 1, k, t => by
    simp only [List.range'_succ, List.map_cons, Sl.get, cond_eq_ite]
    by_cases e : k = t
    · subst e; simp
    · have : Nat.beq k t = false := Bool.eq_false_iff.2 fun q => e (Nat.eq_of_beq_eq_true q)
      rw [this, get_map_range f n (k + 1) t]
      simp only [Bool.false_eq_true, if_false]
      congr 1
      simp only [eq_iff_iff]; omega
theorem get_full (a : Act) (t : Nat) : Sl.get (full a) t = if t < a.tmps.size then some (a.tmps.getD t undef) else none := by
  unfold full
  rw [List.range_eq_range', get_map_range (fun t => a.tmps.getD t undef)]
  simp
def cxA (ro : Option Nat) (a : Act) (w : World) (hF : Hp) : Cx := ⟨a.tmps.size, a.defers, hF, w, ro⟩
theorem slots_full (a : Act) : Slots a.tmps.size (full a) a := fun t v e h => by
  rw [get_full, if_pos h] at e
  cases e
  simp [h]
theorem st_full (ro : Option Nat) {Γ : List HProp} {hF : Hp} (a : Act) {w : World} (h : Sat Γ hF w) : St (cxA ro a w hF) (full a) Γ a w := ⟨rfl, rfl, slots_full a, h, .refl w⟩
/-- Back from the engine's state. -/
theorem act_of {ro : Option Nat} {Γ : List HProp} {hF : Hp} {a a' : Act} {w w' : World} {d : Option Tmp} {v : Value} (h : St (cxA ro a w hF) (upd d v (full a)) Γ a' w') : a' = a.put d v := by
  have hs : a'.tmps.size = a.tmps.size := h.size
  have hd : a'.defers = a.defers := h.defers
  have ht : ∀ t, t < a.tmps.size → a'.tmps[t]? = (a.put d v).tmps[t]? := fun t ht => by
    cases d with
    | none =>
      have := h.slots t (a.tmps.getD t undef) (by simp only [upd, get_full, if_pos ht]) ht
      rw [this]; simp [Act.put, ht]
    | some d =>
      by_cases e : d = t
      · subst e
        have := h.slots d v (by simp [upd, Sl.get]) ht
        rw [this]; simp [Act.put, ht]
      · have hb : Nat.beq d t = false := Bool.eq_false_iff.2 fun q => e (Nat.eq_of_beq_eq_true q)
        have := h.slots t (a.tmps.getD t undef) (by simp [upd, Sl.get, hb, get_full, ht]) ht
        rw [this]; simp only [Act.put]; rw [Array.getElem?_setIfInBounds_ne e]; simp [ht]
  have hsz : (a.put d v).tmps.size = a.tmps.size := by cases d <;> simp [Act.put]
  have h1 : a'.tmps = (a.put d v).tmps := by
    apply Array.ext (by rw [hs, hsz])
    intro i h1 h2
    have := ht i (by omega)
    rw [Array.getElem?_eq_getElem h1, Array.getElem?_eq_getElem h2] at this
    exact Option.some.inj this
  have h2 : a'.defers = (a.put d v).defers := by cases d <;> simp [Act.put, hd]
  cases a'; cases hp : a.put d v; rw [hp] at h1 h2; simp only at h1 h2; rw [h1, h2]
theorem yrun {a : Act} {w : World} {op : Op} {ty : TypeId} {v : Value} (h : Yl P (cxA none a w (mem w)) (full a) [] op ty v) (d : Option Tmp) (pos : String) (af : Array Edge) (g : Option (Nat × Bool)) :
    (execOp a.eval ⟨d, op, ty, pos, af, g⟩).run P w = .ok (.value v) w := h a w d pos af g (st_full none a (sat_all w))

/-! ### operands -/
def constK (v : Value) (k : AV → Bool) : Bool :=
  match v with
  | .int kd n => forceI n fun n => k (.int kd n)
  | .string ⟨⟨l⟩⟩ => mapL (fun (c : UInt8) (k : Nat → Bool) => forceN c.toNat k) l fun l => k (.str l)
  | .bool b => forceB b fun b => k (.bool b)
  | v => Option.rec false k (ofV 8 v)
theorem all2_map {α β : Type} {f : α → β} : ∀ {l : List α} {ys : List β}, All2 (fun c n => n = f c) l ys → ys = l.map f
  | [], [], _ => rfl
  | x :: l, y :: ys, h => by rw [List.map_cons, h.1, all2_map h.2]
  | [], _ :: _, h => h.elim
  | _ :: _, [], h => h.elim
theorem opt_rec {α : Type} {o : Option α} {k : α → Bool} (h : (Option.rec false k o : Bool) = true) : ∃ x, o = some x ∧ k x = true := by
  cases o with
  | none => cases h
  | some x => exact ⟨x, rfl, h⟩
theorem constK_spec {v : Value} {k : AV → Bool} (h : constK v k = true) (ρ : Env) : ∃ x, ren ρ x = some v ∧ k x = true := by
  unfold constK at h
  split at h
  · rw [forceI_eq] at h; exact ⟨_, rfl, h⟩
  · rename_i l
    obtain ⟨ys, h1, h2⟩ := mapL_spec (p := fun c n => n = UInt8.toNat c) (fun x k h => ⟨_, rfl, by rw [forceN_eq] at h; exact h⟩) h
    refine ⟨_, ?_, h2⟩
    rw [all2_map h1]
    unfold ren; rw [if_pos (small_u8 _), strV, u8_back]
  · rw [forceB_eq] at h; exact ⟨_, rfl, h⟩
  · obtain ⟨x, h1, h2⟩ := opt_rec h
    exact ⟨x, ofV_spec _ _ _ h1, h2⟩
def argK (T : Tabs P) (fr : Tr AV) (x : Operand) (k : AV → Bool) : Bool :=
  match x with
  | .tmp t => Option.rec false k (fr.get t)
  | .const v => constK v k
  | .global g => Option.rec false (fun i => k (.ptr i 0)) (T.gl g)
  | .func f => k (.fn (.func f) [] [])
variable {T : Tabs P} {c : Cn} {ρ : Env} {fr : Tr AV} {ds : List AD} {M : Mem} {nx : Nat} {a : Act} {w : World}
/-- The operand x is v, which stands for r. -/
structure Val (ρ : Env) (a : Act) (x : Operand) (v : AV) (r : Value) : Prop where
  ren : ren ρ v = some r
  ev : ∀ ro w hF, Sl.ev (cxA ro a w hF) (full a) x = some r
theorem Val.eval {x : Operand} {v : AV} {r : Value} (h : Val ρ a x v r) : a.eval x = r := (st_full (Γ := []) none a (sat_all (default : World))).eval (h.ev none _ _)
theorem argK_spec {x : Operand} {k : AV → Bool} (h : argK T fr x k = true) (s : Rl T c ρ fr ds M nx a w) : ∃ v r, Val ρ a x v r ∧ k v = true := by
  unfold argK at h
  split at h
  · rename_i t
    obtain ⟨v, h1, h2⟩ := opt_rec h
    obtain ⟨r, h3, h4⟩ := s.slots t v h1
    refine ⟨v, r, ⟨h4, fun ro w hF => ?_⟩, h2⟩
    have hlt : t < a.tmps.size := (Array.getElem?_eq_some_iff.1 h3).1
    have hb : Nat.blt t a.tmps.size = true := by rw [Nat.blt_eq]; exact hlt
    simp only [Sl.ev, cxA, hb, cond_true, get_full, if_pos hlt]
    simp [h3]
  · obtain ⟨v, h1, h2⟩ := constK_spec h ρ
    exact ⟨v, _, ⟨h1, fun _ _ _ => rfl⟩, h2⟩
  · rename_i g
    obtain ⟨i, h1, h2⟩ := opt_rec h
    refine ⟨_, _, ⟨by simp [ren, s.glob g i h1], fun _ _ _ => rfl⟩, h2⟩
  · exact ⟨_, _, ⟨by simp [ren, renL], fun _ _ _ => rfl⟩, h⟩
/-- Several operands. -/
def argsK (T : Tabs P) (fr : Tr AV) (xs : List Operand) (k : List AV → Bool) : Bool := mapL (argK T fr) xs k
def Vals (ρ : Env) (a : Act) (xs : List Operand) (vs : List AV) (rs : List Value) : Prop := RL ρ vs rs ∧ ∀ ro w hF, evs (cxA ro a w hF) (full a) xs = some rs
theorem argsK_spec (s : Rl T c ρ fr ds M nx a w) : ∀ {xs : List Operand} {k : List AV → Bool}, argsK T fr xs k = true → ∃ vs rs, Vals ρ a xs vs rs ∧ k vs = true
  | [], k, h => ⟨[], [], ⟨RL.nil, fun _ _ _ => rfl⟩, h⟩
  | x :: xs, k, h => by
    obtain ⟨v, r, h1, h⟩ := argK_spec (k := fun v => argsK T fr xs fun vs => k (v :: vs)) h s
    obtain ⟨vs, rs, h2, h⟩ := argsK_spec s h
    exact ⟨v :: vs, r :: rs, ⟨RL.cons h1.ren h2.1, fun ro w hF => by simp [evs, h1.ev ro w hF, h2.2 ro w hF]⟩, h⟩
end
end Go.Ev
