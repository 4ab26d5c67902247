/- SHA-256, plain: a block's words, its rounds. -/
import Derived.Test.YtabbonafljochaaGreatDoorShA
set_option linter.unusedSimpArgs false
set_option linter.unusedVariables false
namespace Go.Sh
open Go Go.Sl
set_option maxRecDepth 100000
abbrev By := List UInt8
abbrev u32s (w : List Nat) : List Value := w.map fun x : Nat => .int .u32 (x : Int)
theorem u32s_get {w : List Nat} {i x : Nat} (h : w[i]? = some x) : (u32s w)[i]? = some (.int .u32 (x : Int)) := by simp [u32s, h]
theorem u32s_set (w : List Nat) (i x : Nat) : (u32s w).set i (.int .u32 (x : Int)) = u32s (w.set i x) := by simp [u32s, List.map_set]
theorem u32s_len (w : List Nat) : (u32s w).length = w.length := by simp [u32s]
/-- All words are words, and there are so many. -/
def Ws (n : Nat) (w : List Nat) : Prop := w.length = n ∧ ∀ x ∈ w, x < 4294967296
theorem Ws.get {n : Nat} {w : List Nat} (h : Ws n w) {i : Nat} (hi : i < n) : ∃ x, w[i]? = some x ∧ x < 4294967296 := by
  have hi : i < w.length := by rw [h.1]; exact hi
  exact ⟨w[i], List.getElem?_eq_getElem hi, h.2 _ (List.getElem_mem hi)⟩
theorem Ws.at {n : Nat} {w : List Nat} (h : Ws n w) {i : Nat} (hi : i < n) : w[i]? = some (w.getD i 0) ∧ w.getD i 0 < 4294967296 := by
  obtain ⟨x, h1, h2⟩ := h.get hi
  rw [List.getD_eq_getElem?_getD, h1]; exact ⟨rfl, h2⟩
theorem Ws.set {n : Nat} {w : List Nat} (h : Ws n w) {i x : Nat} (hx : x < 4294967296) : Ws n (w.set i x) :=
  ⟨by rw [List.length_set]; exact h.1, fun y hy => by
    rcases List.mem_or_eq_of_mem_set hy with h1 | rfl
    · exact h.2 _ h1
    · exact hx⟩
/-- The word made of four bytes. -/
def wordAt (b : By) (t : Nat) : Nat := (b.getD (4 * t) 0).toNat * 16777216 + (b.getD (4 * t + 1) 0).toNat * 65536 + (b.getD (4 * t + 2) 0).toNat * 256 + (b.getD (4 * t + 3) 0).toNat
theorem wordAt_lt (b : By) (t : Nat) : wordAt b t < 4294967296 := by
  have h0 := (b.getD (4 * t) 0).toNat_lt
  have h1 := (b.getD (4 * t + 1) 0).toNat_lt
  have h2 := (b.getD (4 * t + 2) 0).toNat_lt
  have h3 := (b.getD (4 * t + 3) 0).toNat_lt
  unfold wordAt; omega
/-- Four bytes side by side: put together by 'or' as by 'plus'. -/
theorem or_plus {a b c d : Nat} (ha : a < 256) (hb : b < 256) (hc : c < 256) (hd : d < 256) :
    ((a * 16777216 % 4294967296 ||| b * 65536 % 4294967296) ||| c * 256 % 4294967296) ||| d = a * 16777216 + b * 65536 + c * 256 + d := by
  have q1 : (a * 256 + b) * 65536 = a * 16777216 + b * 65536 := by omega
  have q2 : ((a * 256 + b) * 256 + c) * 256 = a * 16777216 + b * 65536 + c * 256 := by omega
  rw [Nat.mod_eq_of_lt (by omega), Nat.mod_eq_of_lt (by omega), Nat.mod_eq_of_lt (by omega)]
  have e1 : a * 16777216 ||| b * 65536 = a * 16777216 + b * 65536 := by
    have := Nat.shiftLeft_add_eq_or_of_lt (a := a) (b := b * 65536) (i := 24) (by omega)
    simp only [Nat.shiftLeft_eq, Nat.reducePow] at this; exact this.symm
  have e2 : (a * 16777216 + b * 65536) ||| c * 256 = a * 16777216 + b * 65536 + c * 256 := by
    have := Nat.shiftLeft_add_eq_or_of_lt (a := a * 256 + b) (b := c * 256) (i := 16) (by omega)
    simp only [Nat.shiftLeft_eq, Nat.reducePow] at this; rw [q1] at this; exact this.symm
  have e3 : (a * 16777216 + b * 65536 + c * 256) ||| d = a * 16777216 + b * 65536 + c * 256 + d := by
    have := Nat.shiftLeft_add_eq_or_of_lt (a := (a * 256 + b) * 256 + c) (b := d) (i := 8) (by omega)
    simp only [Nat.shiftLeft_eq, Nat.reducePow] at this; rw [q2] at this; exact this.symm
  rw [e1, e2, e3]
def load16 (b : By) : Nat → List Nat
  | 0 => List.replicate 64 0
  | t + 1 => (load16 b t).set t (wordAt b t)
theorem load16_ws (b : By) : ∀ t, Ws 64 (load16 b t)
  | 0 => ⟨List.length_replicate, fun x hx => by rw [List.eq_of_mem_replicate hx]; decide⟩
  | t + 1 => (load16_ws b t).set (wordAt_lt b t)
def sig1 (x : Nat) : Nat := rotr x 17 ^^^ rotr x 19 ^^^ x / 2 ^ 10
def sig0 (x : Nat) : Nat := rotr x 7 ^^^ rotr x 18 ^^^ x / 2 ^ 3
def ext (w : List Nat) (t : Nat) : Nat := (((sig1 (w.getD (t - 2) 0) + w.getD (t - 7) 0) % 4294967296 + sig0 (w.getD (t - 15) 0)) % 4294967296 + w.getD (t - 16) 0) % 4294967296
def sched (b : By) : Nat → List Nat
  | 0 => load16 b 16
  | k + 1 => (sched b k).set (16 + k) (ext (sched b k) (16 + k))
theorem sched_ws (b : By) : ∀ k, Ws 64 (sched b k)
  | 0 => load16_ws b 16
  | k + 1 => (sched_ws b k).set (Nat.mod_lt _ (by decide))
/-- One round. -/
def step (s : List Nat) (k w : Nat) : List Nat :=
  let e := s.getD 4 0
  let x := ((((s.getD 7 0 + (rotr e 6 ^^^ rotr e 11 ^^^ rotr e 25)) % 4294967296 + (e &&& s.getD 5 0 ^^^ (4294967295 - e) &&& s.getD 6 0)) % 4294967296 + k) % 4294967296 + w) % 4294967296
  let a := s.getD 0 0
  let y := ((rotr a 2 ^^^ rotr a 13 ^^^ rotr a 22) + (a &&& s.getD 1 0 ^^^ a &&& s.getD 2 0 ^^^ s.getD 1 0 &&& s.getD 2 0)) % 4294967296
  [(x + y) % 4294967296, a, s.getD 1 0, s.getD 2 0, (s.getD 3 0 + x) % 4294967296, e, s.getD 5 0, s.getD 6 0]
def rnds (K w s : List Nat) : Nat → List Nat
  | 0 => s
  | t + 1 => step (rnds K w s t) (K.getD t 0) (w.getD t 0)
def addS (a s : List Nat) : List Nat := List.zipWith (fun x y => (x + y) % 4294967296) a s
def block (K s : List Nat) (b : By) : List Nat := addS (rnds K (sched b 48) s 64) s
theorem getD_lt {n : Nat} {s : List Nat} (h : Ws n s) (i : Nat) : s.getD i 0 < 4294967296 := by
  by_cases q : i < n
  · exact (h.at q).2
  · rw [List.getD_eq_getElem?_getD, List.getElem?_eq_none (by rw [h.1]; omega)]; decide
theorem step_ws {s : List Nat} (h : Ws 8 s) (k w : Nat) : Ws 8 (step s k w) := by
  refine ⟨rfl, fun x hx => ?_⟩
  have g := getD_lt h
  simp only [step, List.mem_cons, List.not_mem_nil, or_false] at hx
  rcases hx with rfl | rfl | rfl | rfl | rfl | rfl | rfl | rfl
  all_goals first | exact Nat.mod_lt _ (by decide) | exact g _
theorem rnds_ws {K w s : List Nat} (h : Ws 8 s) : ∀ t, Ws 8 (rnds K w s t)
  | 0 => h
  | t + 1 => step_ws (rnds_ws h t) _ _
theorem addS_ws {a s : List Nat} (ha : Ws 8 a) (hs : Ws 8 s) : Ws 8 (addS a s) :=
  ⟨by simp [addS, ha.1, hs.1], fun x hx => by
    obtain ⟨i, hi, rfl⟩ := List.mem_iff_getElem.1 hx
    simp only [addS, List.getElem_zipWith]
    exact Nat.mod_lt _ (by decide)⟩
theorem block_ws {K s : List Nat} (hs : Ws 8 s) (b : By) : Ws 8 (block K s b) := addS_ws (rnds_ws hs 64) hs
end Go.Sh
