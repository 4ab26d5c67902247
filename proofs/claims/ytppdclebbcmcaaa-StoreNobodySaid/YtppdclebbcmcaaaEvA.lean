/- The evaluator, part A: plain words: lists, tries, values whose blocks are numbers. All that the kernel runs is written with recursors, and hands on what it made as a whole. -/
import Derived.Test.YtppdclebbcmcaaaEnW
import Derived.Test.YtppdclebbcmcaaaEnR
set_option linter.unusedSimpArgs false
set_option linter.unusedVariables false
namespace Go.Ev
open Go.Sl
noncomputable section

/-! ### forcing -/
def forceN (n : Nat) (k : Nat → Bool) : Bool := Nat.rec (k 0) (fun m _ => k (Nat.succ m)) n
theorem forceN_eq (n : Nat) (k : Nat → Bool) : forceN n k = k n := by cases n <;> rfl
def forceI (n : Int) (k : Int → Bool) : Bool := Int.rec (fun m => forceN m fun m => k (.ofNat m)) (fun m => forceN m fun m => k (.negSucc m)) n
theorem forceI_eq (n : Int) (k : Int → Bool) : forceI n k = k n := by cases n <;> simp [forceI, forceN_eq]
def forceB (b : Bool) (k : Bool → Bool) : Bool := Bool.rec (k false) (k true) b
theorem forceB_eq (b : Bool) (k : Bool → Bool) : forceB b k = k b := by cases b <;> rfl
/-- Both. -/
def both (b c : Bool) : Bool := Bool.rec false c b
theorem both_eq {b c : Bool} : both b c = true ↔ b = true ∧ c = true := by cases b <;> simp [both]

/-! ### lists -/
section lists
variable {α β : Type}
def nth (l : List α) : Nat → Option α := List.rec (fun _ => none) (fun x _ ih n => Nat.rec (some x) (fun m _ => ih m) n) l
theorem nth_eq : ∀ (l : List α) (n : Nat), nth l n = l[n]?
  | [], n => rfl
  | x :: l, 0 => rfl
  | x :: l, n + 1 => by show nth l n = _; rw [nth_eq]; simp
def setL (l : List α) (x : α) : Nat → (List α → Bool) → Bool :=
  List.rec (fun _ _ => false) (fun y t ih n k => Nat.rec (k (x :: t)) (fun m _ => ih m fun t' => k (y :: t')) n) l
theorem setL_spec {x : α} : ∀ {l : List α} {n : Nat} {k : List α → Bool}, setL l x n k = true → n < l.length ∧ k (l.set n x) = true
  | [], n, k, h => by cases h
  | y :: l, 0, k, h => ⟨by simp, h⟩
  | y :: l, n + 1, k, h => by
    obtain ⟨h1, h2⟩ := setL_spec (l := l) (n := n) (k := fun t' => k (y :: t')) h
    exact ⟨by simpa using h1, by simpa using h2⟩
/-- The first n, and the others. -/
def splitL (l : List α) : Nat → (List α → List α → Bool) → Bool :=
  List.rec (fun n k => Nat.rec (k [] []) (fun _ _ => false) n) (fun y t ih n k => Nat.rec (k [] (y :: t)) (fun m _ => ih m fun a b => k (y :: a) b) n) l
theorem splitL_spec : ∀ {l : List α} {n : Nat} {k : List α → List α → Bool}, splitL l n k = true → n ≤ l.length ∧ k (l.take n) (l.drop n) = true
  | [], 0, k, h => ⟨by simp, h⟩
  | [], n + 1, k, h => by cases h
  | y :: l, 0, k, h => ⟨by simp, h⟩
  | y :: l, n + 1, k, h => by
    obtain ⟨h1, h2⟩ := splitL_spec (l := l) (n := n) (k := fun a b => k (y :: a) b) h
    exact ⟨by simpa using h1, by simpa using h2⟩
def appL (l r : List α) : (List α → Bool) → Bool := List.rec (fun k => k r) (fun y _ ih k => ih fun z => k (y :: z)) l
theorem appL_eq : ∀ (l r : List α) (k : List α → Bool), appL l r k = k (l ++ r)
  | [], r, k => rfl
  | y :: l, r, k => appL_eq l r _
def lenL (l : List α) : Nat → (Nat → Bool) → Bool := List.rec (fun n k => k n) (fun _ _ ih n k => forceN (Nat.succ n) fun n => ih n k) l
theorem lenL_add : ∀ (l : List α) (n : Nat) (k : Nat → Bool), lenL l n k = k (n + l.length)
  | [], n, k => rfl
  | y :: l, n, k => by
    show forceN (Nat.succ n) (fun n => lenL l n k) = _
    rw [forceN_eq, lenL_add]; simp only [List.length_cons]; congr 1; omega
theorem lenL_eq (l : List α) (k : Nat → Bool) : lenL l 0 k = k l.length := by rw [lenL_add, Nat.zero_add]
/-- Side by side. -/
def All2 (p : α → β → Prop) : List α → List β → Prop
  | [], [] => True
  | x :: l, y :: m => p x y ∧ All2 p l m
  | _, _ => False
/-- Each of these, by itself. -/
def mapL (f : α → (β → Bool) → Bool) (l : List α) : (List β → Bool) → Bool := List.rec (fun k => k []) (fun x _ ih k => f x fun y => ih fun ys => k (y :: ys)) l
theorem mapL_spec {f : α → (β → Bool) → Bool} {p : α → β → Prop} (hf : ∀ x k, f x k = true → ∃ y, p x y ∧ k y = true) :
    ∀ {l : List α} {k : List β → Bool}, mapL f l k = true → ∃ ys, All2 p l ys ∧ k ys = true
  | [], k, h => ⟨[], trivial, h⟩
  | x :: l, k, h => by
    obtain ⟨y, hy, h⟩ := hf x _ h
    obtain ⟨ys, hys, h⟩ := mapL_spec hf (l := l) (k := fun ys => k (y :: ys)) h
    exact ⟨y :: ys, ⟨hy, hys⟩, h⟩
def allL (p : α → Bool) (l : List α) : Bool := List.rec true (fun x _ ih => both (p x) ih) l
theorem allL_spec {p : α → Bool} : ∀ {l : List α}, allL p l = true → ∀ x ∈ l, p x = true
  | [], _ => by simp
  | x :: l, h => by
    obtain ⟨h1, h2⟩ := both_eq.1 (show both (p x) (allL p l) = true from h)
    intro y hy
    rcases List.mem_cons.1 hy with rfl | hy
    · exact h1
    · exact allL_spec h2 y hy
/-- So many of one. -/
def repL (x : α) (n : Nat) : List α → (List α → Bool) → Bool := Nat.rec (fun l k => k l) (fun _ ih l k => ih (x :: l) k) n
theorem repL_eq (x : α) : ∀ (n : Nat) (l : List α) (k : List α → Bool), repL x n l k = k (List.replicate n x ++ l)
  | 0, l, k => rfl
  | n + 1, l, k => by
    show repL x n (x :: l) k = _
    rw [repL_eq x n, show List.replicate n x ++ x :: l = (List.replicate n x ++ [x]) ++ l by simp, ← List.replicate_succ']
end lists

/-! ### tries -/
inductive Tr (α : Type) where
  | nil
  | node (l : Tr α) (v : Option α) (r : Tr α)
section tries
variable {α : Type}
def half (n : Nat) : Nat := Nat.sub (Nat.div n 2) 1
def Tr.get (t : Tr α) : Nat → Option α :=
  Tr.rec (fun _ => none) (fun _ v _ gl gr n => Bool.rec (Bool.rec (gr (half n)) (gl (Nat.div n 2)) (Nat.beq (Nat.mod n 2) 1)) v (Nat.beq n 0)) t
def Tr.new (f : Nat) : Nat → α → (Tr α → Bool) → Bool :=
  Nat.rec (fun _ _ _ => false) (fun _ ih n x k => Bool.rec (Bool.rec (ih (half n) x fun r => k (node nil none r)) (ih (Nat.div n 2) x fun l => k (node l none nil)) (Nat.beq (Nat.mod n 2) 1)) (k (node nil (some x) nil)) (Nat.beq n 0)) f
def Tr.set (t : Tr α) : Nat → α → (Tr α → Bool) → Bool :=
  Tr.rec (fun n x k => Tr.new 32 n x k) (fun l v r il ir n x k => Bool.rec (Bool.rec (ir (half n) x fun r => k (node l v r)) (il (Nat.div n 2) x fun l => k (node l v r)) (Nat.beq (Nat.mod n 2) 1)) (k (node l (some x) r)) (Nat.beq n 0)) t
theorem Tr.get_nil (n : Nat) : (Tr.nil : Tr α).get n = none := rfl
theorem Tr.get_node (l r : Tr α) (v : Option α) (n : Nat) : (Tr.node l v r).get n = if n = 0 then v else if n % 2 = 1 then l.get (n / 2) else r.get (n / 2 - 1) := by
  show (Bool.rec (Bool.rec (r.get (half n)) (l.get (Nat.div n 2)) (Nat.beq (Nat.mod n 2) 1)) v (Nat.beq n 0) : Option α) = _
  by_cases h : n = 0
  · subst h; rfl
  · have h1 : Nat.beq n 0 = false := by cases n <;> first | exact absurd rfl h | rfl
    rw [h1, if_neg h]
    by_cases h2 : n % 2 = 1
    · have : Nat.beq (Nat.mod n 2) 1 = true := by rw [show Nat.mod n 2 = n % 2 from rfl, h2]; rfl
      rw [this, if_pos h2]; rfl
    · have : Nat.beq (Nat.mod n 2) 1 = false := by
        have : n % 2 = 0 := by omega
        rw [show Nat.mod n 2 = n % 2 from rfl, this]; rfl
      rw [this, if_neg h2]; rfl
/-- The trie with n set. -/
def Tr.Is (t : Tr α) (n : Nat) (x : α) (t' : Tr α) : Prop := ∀ m, t'.get m = if m = n then some x else t.get m
theorem Tr.Is.zero (l r : Tr α) (v : Option α) (x : α) : (Tr.node l v r).Is 0 x (.node l (some x) r) := fun m => by
  rw [get_node, get_node]; split <;> rfl
theorem Tr.Is.left {l l' r : Tr α} {v : Option α} {x : α} {n : Nat} (h0 : n ≠ 0) (h1 : n % 2 = 1) (h : l.Is (n / 2) x l') : (Tr.node l v r).Is n x (.node l' v r) := fun m => by
  rw [get_node, get_node]
  by_cases e : m = n
  · subst e; rw [if_neg h0, if_pos h1, h, if_pos rfl, if_pos rfl]
  · rw [if_neg e]
    split
    · rfl
    · split
      · rw [h, if_neg (by omega)]
      · rfl
theorem Tr.Is.right {l r r' : Tr α} {v : Option α} {x : α} {n : Nat} (h0 : n ≠ 0) (h1 : n % 2 ≠ 1) (h : r.Is (n / 2 - 1) x r') : (Tr.node l v r).Is n x (.node l v r') := fun m => by
  rw [get_node, get_node]
  by_cases e : m = n
  · subst e; rw [if_neg h0, if_neg h1, h, if_pos rfl, if_pos rfl]
  · rw [if_neg e]
    split
    · rfl
    · split
      · rfl
      · rw [h, if_neg (by omega)]
theorem Tr.Is.ofNode {t : Tr α} {n : Nat} {x : α} (h : (Tr.node Tr.nil none Tr.nil).Is n x t) : (Tr.nil : Tr α).Is n x t := fun m => by
  rw [h m, get_node]
  split
  · rfl
  · split
    · rfl
    · split <;> rfl
theorem beq0 {n : Nat} : (Nat.beq n 0 = true ∧ n = 0) ∨ (Nat.beq n 0 = false ∧ n ≠ 0) := by
  cases n with
  | zero => exact .inl ⟨rfl, rfl⟩
  | succ n => exact .inr ⟨rfl, by omega⟩
theorem beq1 {n : Nat} : (Nat.beq (Nat.mod n 2) 1 = true ∧ n % 2 = 1) ∨ (Nat.beq (Nat.mod n 2) 1 = false ∧ n % 2 ≠ 1) := by
  have : n % 2 = 0 ∨ n % 2 = 1 := by omega
  rw [show Nat.mod n 2 = n % 2 from rfl]
  rcases this with h | h <;> rw [h] <;> first | exact .inl ⟨rfl, rfl⟩ | exact .inr ⟨rfl, by simp⟩
theorem Tr.new_spec : ∀ {f n : Nat} {x : α} {k : Tr α → Bool}, Tr.new f n x k = true → ∃ t, (Tr.nil : Tr α).Is n x t ∧ k t = true
  | 0, n, x, k, h => by cases h
  | f + 1, n, x, k, h => by
    have h : (Bool.rec (Bool.rec (Tr.new f (half n) x fun r => k (node nil none r)) (Tr.new f (Nat.div n 2) x fun l => k (node l none nil)) (Nat.beq (Nat.mod n 2) 1)) (k (node nil (some x) nil)) (Nat.beq n 0) : Bool) = true := h
    rcases beq0 (n := n) with ⟨h0, e0⟩ | ⟨h0, e0⟩ <;> rw [h0] at h
    · subst e0; exact ⟨_, (Tr.Is.zero _ _ _ _).ofNode, h⟩
    · rcases beq1 (n := n) with ⟨h1, e1⟩ | ⟨h1, e1⟩ <;> rw [h1] at h
      · obtain ⟨t, ht, h⟩ := Tr.new_spec (f := f) h
        exact ⟨_, (Tr.Is.left e0 e1 ht).ofNode, h⟩
      · obtain ⟨t, ht, h⟩ := Tr.new_spec (f := f) h
        exact ⟨_, (Tr.Is.right e0 e1 ht).ofNode, h⟩
theorem Tr.set_spec : ∀ {t : Tr α} {n : Nat} {x : α} {k : Tr α → Bool}, Tr.set t n x k = true → ∃ t', t.Is n x t' ∧ k t' = true
  | .nil, n, x, k, h => Tr.new_spec (f := 32) h
  | .node l v r, n, x, k, h => by
    have h : (Bool.rec (Bool.rec (Tr.set r (half n) x fun r => k (node l v r)) (Tr.set l (Nat.div n 2) x fun l => k (node l v r)) (Nat.beq (Nat.mod n 2) 1)) (k (node l (some x) r)) (Nat.beq n 0) : Bool) = true := h
    rcases beq0 (n := n) with ⟨h0, e0⟩ | ⟨h0, e0⟩ <;> rw [h0] at h
    · subst e0; exact ⟨_, Tr.Is.zero _ _ _ _, h⟩
    · rcases beq1 (n := n) with ⟨h1, e1⟩ | ⟨h1, e1⟩ <;> rw [h1] at h
      · obtain ⟨t, ht, h⟩ := Tr.set_spec (t := l) (n := n / 2) h
        exact ⟨_, Tr.Is.left e0 e1 ht, h⟩
      · obtain ⟨t, ht, h⟩ := Tr.set_spec (t := r) (n := n / 2 - 1) h
        exact ⟨_, Tr.Is.right e0 e1 ht, h⟩
/-- Without n. -/
def Tr.del (t : Tr α) : Nat → (Tr α → Bool) → Bool :=
  Tr.rec (fun _ k => k nil) (fun l v r il ir n k => Bool.rec (Bool.rec (ir (half n) fun r => k (node l v r)) (il (Nat.div n 2) fun l => k (node l v r)) (Nat.beq (Nat.mod n 2) 1)) (k (node l none r)) (Nat.beq n 0)) t
theorem Tr.del_spec : ∀ {t : Tr α} {n : Nat} {k : Tr α → Bool}, Tr.del t n k = true → ∃ t', (∀ m, t'.get m = if m = n then none else t.get m) ∧ k t' = true
  | .nil, n, k, h => ⟨.nil, fun m => by simp [Tr.get_nil], h⟩
  | .node l v r, n, k, h => by
    have h : (Bool.rec (Bool.rec (Tr.del r (half n) fun r => k (node l v r)) (Tr.del l (Nat.div n 2) fun l => k (node l v r)) (Nat.beq (Nat.mod n 2) 1)) (k (node l none r)) (Nat.beq n 0) : Bool) = true := h
    rcases beq0 (n := n) with ⟨h0, e0⟩ | ⟨h0, e0⟩ <;> rw [h0] at h
    · subst e0; exact ⟨_, fun m => by rw [get_node, get_node]; split <;> rfl, h⟩
    · rcases beq1 (n := n) with ⟨h1, e1⟩ | ⟨h1, e1⟩ <;> rw [h1] at h
      · obtain ⟨t, ht, h⟩ := Tr.del_spec (t := l) (n := n / 2) h
        refine ⟨_, fun m => ?_, h⟩
        rw [get_node, get_node]
        by_cases e : m = n
        · subst e; rw [if_neg e0, if_pos e1, ht, if_pos rfl, if_pos rfl]
        · rw [if_neg e]
          split
          · rfl
          · split
            · rw [ht, if_neg (by omega)]
            · rfl
      · obtain ⟨t, ht, h⟩ := Tr.del_spec (t := r) (n := n / 2 - 1) h
        refine ⟨_, fun m => ?_, h⟩
        rw [get_node, get_node]
        by_cases e : m = n
        · subst e; rw [if_neg e0, if_neg e1, ht, if_pos rfl, if_pos rfl]
        · rw [if_neg e]
          split
          · rfl
          · split
            · rfl
            · rw [ht, if_neg (by omega)]
end tries
end
end Go.Ev
