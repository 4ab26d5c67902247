/- DiskAll's plain law, and its walk. -/
import Derived.Test.YtpbkbmdpmfclpaaDkU
namespace Go.Dk
open Go Go.Sl
def w3 : List (Nat × List UInt8) := [(1, rep 256 1), (2, rep 256 2), (3, rep 256 3)]
/-- The disk behind i of the three writes. -/
def at3 (D : DM) (i : Nat) : DM := { D with off := false, armed := true, plan := 1099511627776 - i, opn := D.opn + i, pend := D.pend ++ w3.take i }
theorem at3_write (D : DM) (h : D.sure.length = 4) {i : Nat} (hi : i < 3) : (at3 D i).write ((i : Int) + 1) (rep 256 (UInt8.ofNat (i + 1))) = (0, at3 D (i + 1)) := by
  have hl : ∀ c, (rep 256 c).length = 256 := fun c => rep_length _ _
  have hs : ∀ i, (at3 D i).sure.length = 4 := fun _ => h
  have h1 : (at3 D i).wrong ((i : Int) + 1) = 0 := by
    unfold DM.wrong
    rw [if_neg (by simp [at3]), if_neg (by rw [hs]; omega)]
  have h2 : (at3 D i).goes = (true, { at3 D i with plan := (at3 D i).plan - 1, opn := (at3 D i).opn + 1 }) := by
    unfold DM.goes
    rw [if_neg (by rintro ⟨_, h⟩; simp only [at3] at h; omega)]
    rfl
  unfold DM.write
  rw [h1, if_neg (by simp), if_neg (by simp [hl]), h2, if_neg (by simp)]
  have e1 : (1099511627776 : Int) - (i : Int) - 1 = 1099511627776 - ((i + 1 : Nat) : Int) := by omega
  have e2 : D.opn + (i : Int) + 1 = D.opn + ((i + 1 : Nat) : Int) := by omega
  have e3 : D.pend ++ w3.take i ++ [((((i : Int) + 1).toNat), rep 256 (UInt8.ofNat (i + 1)))] = D.pend ++ w3.take (i + 1) := by
    rcases (show i = 0 ∨ i = 1 ∨ i = 2 by omega) with rfl | rfl | rfl <;> simp [w3]
  simp only [at3, e1, e2, e3]
theorem at3_flush (D : DM) : (at3 D 3).flush = (0, { at3 D 3 with plan := 1099511627772, opn := D.opn + 4, sure := settles D.sure (D.pend ++ w3), pend := [] }) := by
  have h2 : (at3 D 3).goes = (true, { at3 D 3 with plan := (at3 D 3).plan - 1, opn := (at3 D 3).opn + 1 }) := by
    unfold DM.goes
    rw [if_neg (by rintro ⟨_, h⟩; simp only [at3] at h; omega)]
    rfl
  unfold DM.flush
  rw [if_neg (by simp [at3]), h2, if_neg (by simp)]
  have e2 : D.opn + 3 + 1 = D.opn + 4 := by omega
  simp [at3, w3, e2]
/-- All places. -/
def upTo (k : Nat) : List Int := (List.range k).map fun (i : Nat) => (i : Int)
theorem upTo_length (k : Nat) : (upTo k).length = k := by simp [upTo]
theorem upTo_succ (k : Nat) : upTo (k + 1) = upTo k ++ [(k : Int)] := by simp [upTo, List.range_succ]
theorem kept_all (l : List (Nat × List UInt8)) : kept (upTo l.length) l = l := by
  have : ∀ x ∈ l.zipIdx, (upTo l.length).contains (x.2 : Int) = true := fun x hx => by
    obtain ⟨a, i⟩ := x
    have hi := (List.mem_zipIdx_iff_getElem?.1 hx)
    have : i < l.length := (List.getElem?_eq_some_iff.1 hi).1
    simp only [List.contains_iff_mem, upTo, List.mem_map, List.mem_range]
    exact ⟨i, this, rfl⟩
  unfold kept
  rw [List.filter_eq_self.2 this]
  simp
theorem kept_none (l : List (Nat × List UInt8)) : kept [] l = [] := by
  unfold kept
  rw [List.filter_eq_nil_iff.2 (by simp)]; rfl
theorem restart_all (D : DM) : D.restart (upTo D.pend.length) = (0, { sure := settles D.sure D.pend, pend := [], off := false, armed := false, plan := 0, opn := D.opn }) := by
  unfold DM.restart
  rw [if_neg, kept_all]
  simp only [Bool.not_eq_true, List.any_eq_false, decide_eq_true_eq]
  intro k hk
  simp only [upTo, List.mem_map, List.mem_range] at hk
  obtain ⟨i, hi, rfl⟩ := hk
  omega
theorem restart_none (D : DM) : D.restart [] = (0, { sure := D.sure, pend := [], off := false, armed := false, plan := 0, opn := D.opn }) := by
  unfold DM.restart
  rw [if_neg (by simp), kept_none]
  rfl
theorem settles_append (s : List (List UInt8)) (a b : List (Nat × List UInt8)) : settles s (a ++ b) = settles (settles s a) b := by simp [settles, List.foldl_append]
theorem settled3 {s : List (List UInt8)} {a : List (Nat × List UInt8)} (h : s.length = 4) {i : Nat} (h0 : 0 < i) (hi : i < 4) : (settles s (a ++ w3))[i]? = some (rep 256 (UInt8.ofNat i)) := by
  rw [settles_append]
  have hl := settles_length s a
  rw [h] at hl
  generalize settles s a = S at hl
  rcases (show i = 1 ∨ i = 2 ∨ i = 3 by omega) with rfl | rfl | rfl <;> simp [w3, settles, List.getElem?_set, hl]
end Go.Dk
