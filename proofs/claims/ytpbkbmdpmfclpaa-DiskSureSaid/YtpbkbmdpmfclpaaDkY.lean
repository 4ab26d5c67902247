/- DiskSure: the plain law, and the walk. -/
import Derived.Test.YtpbkbmdpmfclpaaDkW
namespace Go.Dk
open Go Go.Sl
/-- A disk of sure sectors S with the writes ws, none of them sure. -/
def dS (S : List (List UInt8)) (o : Int) (ws : List (Nat × List UInt8)) : DM := ⟨S, ws, false, false, 0, o + ws.length⟩
theorem dS_write {S : List (List UInt8)} {o : Int} {ws : List (Nat × List UInt8)} (hS : S.length = 4) {c : Int} (hc : 0 ≤ c ∧ c < 4) {b : List UInt8} (hb : b.length = 256) : (dS S o ws).write c b = (0, dS S o (ws ++ [(c.toNat, b)])) := by
  have h1 : (dS S o ws).wrong c = 0 := by
    unfold DM.wrong
    rw [if_neg (by simp [dS]), if_neg (by simp only [dS, hS]; omega)]
  have h2 : (dS S o ws).goes = (true, { dS S o ws with opn := (dS S o ws).opn + 1 }) := by
    unfold DM.goes
    rw [if_neg (by simp [dS])]
    rfl
  unfold DM.write
  rw [h1, if_neg (by simp), if_neg (by simp [hb]), h2, if_neg (by simp)]
  have e : o + (ws.length : Int) + 1 = o + ((ws.length + 1 : Nat) : Int) := by omega
  simp [dS, e]
theorem restart_flush (D : DM) : (D.restart []).2.flush.2 = dS D.sure (D.opn + 1) [] := by
  rw [restart_none]
  simp [DM.flush, DM.goes, dS, settles]
/-- The writes that the calls make. -/
def wrs (l : List ActM) : List (Nat × List UInt8) := (l.take 20).map fun a => ((ix4 a.n).toNat, whole a.bytes)
theorem wrs_len (l : List ActM) : (wrs l).length ≤ 20 := by simp [wrs]; omega
theorem wrs_lt {l : List ActM} {i : Nat} {a : ActM} (ha : l[i]? = some a) (hi : i < 20) : (wrs l).take (i + 1) = (wrs l).take i ++ [((ix4 a.n).toNat, whole a.bytes)] := by
  rw [List.take_add_one]
  have : (wrs l)[i]? = some ((ix4 a.n).toNat, whole a.bytes) := by simp [wrs, List.getElem?_take, hi, ha]
  rw [this]; rfl
theorem wrs_ge {l : List ActM} {i : Nat} (hi : 20 ≤ i) : (wrs l).take (i + 1) = (wrs l).take i := by
  have := wrs_len l
  rw [List.take_of_length_le (by omega), List.take_of_length_le (by omega)]
theorem wrs_mem {l : List ActM} {w : Nat × List UInt8} (h : w ∈ wrs l) : w.1 < 4 ∧ w.2.length = 256 := by
  obtain ⟨a, _, rfl⟩ := List.mem_map.1 h
  have := ix4_lt a.n
  exact ⟨by show (ix4 a.n).toNat < 4; omega, whole_length _⟩
/-- Which sectors were written, as four cells. -/
def tch (ws : List (Nat × List UInt8)) : List Value := (List.range 4).map fun c => .bool (ws.any fun w => w.1 == c)
theorem tch_length (ws : List (Nat × List UInt8)) : (tch ws).length = 4 := by simp [tch]
theorem tch_get (ws : List (Nat × List UInt8)) {j : Nat} (hj : j < 4) : (tch ws)[j]? = some (.bool (ws.any fun w => w.1 == j)) := by
  simp [tch, List.getElem?_range hj]
theorem tch_snoc (ws : List (Nat × List UInt8)) (w : Nat × List UInt8) (h : w.1 < 4) : tch (ws ++ [w]) = (tch ws).set w.1 (.bool true) := by
  refine List.ext_getElem? fun j => ?_
  rw [List.getElem?_set]
  by_cases hj : j < 4
  · rw [tch_get _ hj]
    by_cases e : w.1 = j
    · rw [if_pos e, if_pos (by rw [tch_length]; omega)]
      simp [e]
    · rw [if_neg e, tch_get _ hj]
      simp [e]
  · rw [List.getElem?_eq_none (by rw [tch_length]; omega)]
    rw [if_neg (by omega), List.getElem?_eq_none (by rw [tch_length]; omega)]
/-- The places that are kept. -/
def ks (keep : List Bool) : Nat → List Int
  | 0 => []
  | i + 1 => if keep[i]? = some true then ks keep i ++ [(i : Int)] else ks keep i
theorem ks_lt (keep : List Bool) : ∀ (n : Nat), ∀ k ∈ ks keep n, 0 ≤ k ∧ k < n
  | 0, k, h => by simp [ks] at h
  | n + 1, k, h => by
    have ih := ks_lt keep n
    simp only [ks] at h
    split at h
    · rcases List.mem_append.1 h with h | h
      · have := ih k h; omega
      · simp at h; omega
    · have := ih k h; omega
theorem ks_len (keep : List Bool) : ∀ n : Nat, (ks keep n).length ≤ n
  | 0 => Nat.le_refl _
  | n + 1 => by
    have := ks_len keep n
    simp only [ks]
    split
    · simp; omega
    · omega
theorem settles_untouched {S : List (List UInt8)} {ws : List (Nat × List UInt8)} {j : Nat} (h : (ws.any fun w => w.1 == j) = false) : (settles S ws)[j]? = S[j]? := by
  induction ws generalizing S with
  | nil => rfl
  | cons w ws ih =>
    rw [List.any_cons, Bool.or_eq_false_iff] at h
    show (settles (S.set w.1 w.2) ws)[j]? = _
    rw [ih h.2, List.getElem?_set, if_neg (by simpa using h.1)]
theorem restart_ks {S : List (List UInt8)} {o : Int} {ws : List (Nat × List UInt8)} {l : List Int} (hl : ∀ k ∈ l, 0 ≤ k ∧ k < ws.length) : (dS S o ws).restart l = (0, ⟨settles S (kept l ws), [], false, false, 0, o + ws.length⟩) := by
  unfold DM.restart
  rw [if_neg]
  · rfl
  · simp only [Bool.not_eq_true, List.any_eq_false, decide_eq_true_eq]
    intro k hk
    have := hl k hk
    simp only [dS]
    omega
theorem any_kept {l : List Int} {ws : List (Nat × List UInt8)} {j : Nat} (h : (ws.any fun w => w.1 == j) = false) : ((kept l ws).any fun w => w.1 == j) = false := by
  rw [List.any_eq_false] at h ⊢
  exact fun w hw => h w (mem_kept hw)
theorem read_sure {S : List (List UInt8)} {o : Int} {j : Nat} {s : List UInt8} (hs : S[j]? = some s) : (⟨S, [], false, false, 0, o⟩ : DM).read j = (s, 0) := by
  have hj : j < S.length := (List.getElem?_eq_some_iff.1 hs).1
  have : (⟨S, [], false, false, 0, o⟩ : DM).wrong j = 0 := by
    unfold DM.wrong
    rw [if_neg (by simp), if_neg (by simp only []; omega)]
  unfold DM.read
  rw [if_pos this]
  simp [DM.get, lastIx_nil, hs]
end Go.Dk
