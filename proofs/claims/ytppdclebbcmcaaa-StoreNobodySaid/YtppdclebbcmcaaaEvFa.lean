/- The evaluator, part Fa: arithmetic of numbers at or above 0, on the kernel's own numbers. -/
import Derived.Test.YtppdclebbcmcaaaEvE
set_option linter.unusedSimpArgs false
set_option linter.unusedVariables false
namespace Go.Ev
open Go.Sl
noncomputable section
/-- Numbers below this are kept by a kind. -/
def capN (k : IntKind) : Nat := IntKind.rec (motive := fun _ => Nat) 128 32768 2147483648 9223372036854775808 256 65536 4294967296 18446744073709551616 k
/-- What a kind without sign counts by; 0: it has one. -/
def modN (k : IntKind) : Nat := IntKind.rec (motive := fun _ => Nat) 0 0 0 0 256 65536 4294967296 18446744073709551616 k
def bitN (k : IntKind) : Nat := IntKind.rec (motive := fun _ => Nat) 8 16 32 64 8 16 32 64 k
def kindN (k : IntKind) : Nat := IntKind.rec (motive := fun _ => Nat) 0 1 2 3 4 5 6 7 k
theorem kindN_inj {j k : IntKind} (h : Nat.beq (kindN j) (kindN k) = true) : j = k := by cases j <;> cases k <;> first | rfl | cases h
theorem wrap_small {k : IntKind} {s : Nat} (h : s < capN k) : k.wrap (.ofNat s) = .ofNat s := by
  have e : (Int.ofNat s) = (s : Int) := rfl
  rw [e]
  cases k <;> simp only [capN] at h <;> unfold IntKind.wrap <;> simp only [IntKind.bits, IntKind.signed, Bool.true_and, Bool.false_and, decide_eq_true_eq, Bool.false_eq_true, if_false, Nat.reduceSub, Int.reducePow] <;> first | omega | (rw [if_neg (fun q => by have := of_decide_eq_true q; omega)]; omega)
theorem wrap_mod {k : IntKind} {s : Nat} (h : modN k ≠ 0) : k.wrap (.ofNat s) = .ofNat (Nat.mod s (modN k)) := by
  have e : (Int.ofNat s) = (s : Int) := rfl
  have e2 : ∀ n, (Int.ofNat n) = (n : Int) := fun _ => rfl
  rw [e, e2]
  cases k <;> simp only [modN] at h ⊢ <;> first | exact absurd rfl h | skip
  all_goals unfold IntKind.wrap; simp only [IntKind.bits, IntKind.signed, Bool.false_and, Bool.false_eq_true, if_false]; show _ = ((s % _ : Nat) : Int); omega
def wrapK (kd : IntKind) (s : Nat) (k : AV → Bool) (other : Bool) : Bool := forceN s fun s => Bool.rec (Nat.rec other (fun _ _ => forceN (Nat.mod s (modN kd)) fun r => k (.int kd (.ofNat r))) (modN kd)) (k (.int kd (.ofNat s))) (Nat.blt s (capN kd))
theorem wrapK_spec {kd : IntKind} {s : Nat} {k : AV → Bool} {other : Bool} (h : wrapK kd s k other = true) : other = true ∨ ∃ r, kd.wrap (.ofNat s) = .ofNat r ∧ k (.int kd (.ofNat r)) = true := by
  unfold wrapK at h
  rw [forceN_eq] at h
  cases q : Nat.blt s (capN kd) with
  | true => rw [q] at h; rw [Nat.blt_eq] at q; exact .inr ⟨s, wrap_small q, h⟩
  | false =>
    rw [q] at h
    have h : (Nat.rec other (fun _ _ => forceN (Nat.mod s (modN kd)) fun r => k (.int kd (.ofNat r))) (modN kd) : Bool) = true := h
    cases e : modN kd with
    | zero => rw [e] at h; exact .inl h
    | succ n =>
      rw [e] at h
      have h : (forceN (Nat.mod s (n + 1)) fun r => k (.int kd (.ofNat r))) = true := h
      rw [forceN_eq] at h
      exact .inr ⟨_, by rw [wrap_mod (by rw [e]; simp), e], h⟩
def inK (kd : IntKind) (a b : Nat) (k other : Bool) : Bool := Bool.rec other (Bool.rec other k (Nat.blt b (capN kd))) (Nat.blt a (capN kd))
theorem inK_spec {kd : IntKind} {a b : Nat} {k other : Bool} (h : inK kd a b k other = true) : other = true ∨ (a < capN kd ∧ b < capN kd ∧ k = true) := by
  unfold inK at h
  cases q : Nat.blt a (capN kd) <;> rw [q] at h
  · exact .inl h
  · have h : (Bool.rec other k (Nat.blt b (capN kd)) : Bool) = true := h
    cases q' : Nat.blt b (capN kd) <;> rw [q'] at h
    · exact .inl h
    · rw [Nat.blt_eq] at q q'; exact .inr ⟨q, q', h⟩
theorem capN_le (k : IntKind) : capN k ≤ 2 ^ bitN k := by cases k <;> decide
theorem bitN_eq (k : IntKind) : k.bits = bitN k := by cases k <;> rfl
theorem capN_pow (k : IntKind) : ∃ m, capN k = 2 ^ m ∧ m ≤ bitN k := by
  cases k
  · exact ⟨7, rfl, by decide⟩
  · exact ⟨15, rfl, by decide⟩
  · exact ⟨31, rfl, by decide⟩
  · exact ⟨63, rfl, by decide⟩
  · exact ⟨8, rfl, by decide⟩
  · exact ⟨16, rfl, by decide⟩
  · exact ⟨32, rfl, by decide⟩
  · exact ⟨64, rfl, by decide⟩
theorem ofInt_nat {kd : IntKind} {a : Nat} (h : a < capN kd) : (BitVec.ofInt kd.bits (.ofNat a)).toNat = a := by
  have h1 : a < 2 ^ kd.bits := by rw [bitN_eq]; exact Nat.lt_of_lt_of_le h (capN_le kd)
  rw [show (Int.ofNat a) = (a : Int) from rfl, BitVec.ofInt_natCast, BitVec.toNat_ofNat, Nat.mod_eq_of_lt h1]
/-- Numbers of one kind. -/
abbrev IOp := IntKind → Nat → Nat → (AV → Bool) → Bool → Bool
def i_add : IOp := fun kd a b k other => wrapK kd (Nat.add a b) k other
def i_sub : IOp := fun kd a b k other => Bool.rec (Nat.rec other (fun m _ => Bool.rec other (wrapK kd (Nat.sub (Nat.add a (Nat.succ m)) b) k other) (Nat.ble b (Nat.succ m))) (modN kd)) (forceN (Nat.sub a b) fun r => wrapK kd r k other) (Nat.ble b a)
def i_mul : IOp := fun kd a b k other => wrapK kd (Nat.mul a b) k other
def i_quo : IOp := fun kd a b k other => Nat.rec other (fun m _ => wrapK kd (Nat.div a (Nat.succ m)) k other) b
def i_rem : IOp := fun kd a b k other => Nat.rec other (fun m _ => forceN (Nat.mod a (Nat.succ m)) fun r => k (.int kd (.ofNat r))) b
def i_and : IOp := fun kd a b k other => inK kd a b (forceN (Nat.land a b) fun r => k (.int kd (.ofNat r))) other
def i_or : IOp := fun kd a b k other => inK kd a b (forceN (Nat.lor a b) fun r => k (.int kd (.ofNat r))) other
def i_xor : IOp := fun kd a b k other => inK kd a b (forceN (Nat.xor a b) fun r => k (.int kd (.ofNat r))) other
def i_no : IOp := fun _ _ _ _ other => other
def i_eql : IOp := fun _ a b k _ => forceB (Nat.beq a b) fun r => k (.bool r)
def notC (b : Bool) : Bool := Bool.rec true false b
def i_neq : IOp := fun _ a b k _ => forceB (notC (Nat.beq a b)) fun r => k (.bool r)
def i_lss : IOp := fun _ a b k _ => forceB (Nat.blt a b) fun r => k (.bool r)
def i_leq : IOp := fun _ a b k _ => forceB (Nat.ble a b) fun r => k (.bool r)
def i_gtr : IOp := fun _ a b k _ => forceB (Nat.blt b a) fun r => k (.bool r)
def i_geq : IOp := fun _ a b k _ => forceB (Nat.ble b a) fun r => k (.bool r)
def intOpK (op : BinOp) : IOp := BinOp.rec (motive := fun _ => IOp) i_add i_sub i_mul i_quo i_rem i_and i_or i_xor i_no i_no i_no i_eql i_neq i_lss i_leq i_gtr i_geq op
/-- What it must be. -/
def IOk (s : Sem Value) (k : AV → Bool) : Prop := ∃ x v, (∀ ρ, ren ρ x = some v) ∧ k x = true ∧ s = pure v
theorem iok_int {kd : IntKind} {n : Int} {r : Nat} {k : AV → Bool} {s : Sem Value} (hs : s = pure (.int kd n)) (hn : n = .ofNat r) (h : k (.int kd (.ofNat r)) = true) : IOk s k := ⟨_, _, fun _ => rfl, h, by rw [hs, hn]⟩
theorem iok_bool {b r : Bool} {k : AV → Bool} {s : Sem Value} (hs : s = pure (.bool b)) (hb : b = r) (h : k (.bool r) = true) : IOk s k := ⟨_, _, fun _ => rfl, h, by rw [hs, hb]⟩
theorem wrapK_ok {kd : IntKind} {n : Int} {s : Nat} {k : AV → Bool} {other : Bool} {sm : Sem Value} (hs : sm = pure (.int kd (kd.wrap n))) (hn : n = .ofNat s) (h : wrapK kd s k other = true) : other = true ∨ IOk sm k := by
  rcases wrapK_spec h with h | ⟨r, h1, h2⟩
  · exact .inl h
  · exact .inr (iok_int hs (by rw [hn]; exact h1) h2)
theorem back_small {kd : IntKind} {r : Nat} (h : r < capN kd) : kd.wrap (r : Int) = .ofNat r := wrap_small h
theorem intOpK_spec {op : BinOp} {kd : IntKind} {a b : Nat} {k : AV → Bool} {other : Bool} {t : TypeId} (h : intOpK op kd a b k other = true) : other = true ∨ IOk (binOp op t (.int kd (.ofNat a)) (.int kd (.ofNat b))) k := by
  have hk : ∀ {op : BinOp}, op ≠ .shl → op ≠ .shr → binOp op t (.int kd (.ofNat a)) (.int kd (.ofNat b)) = (match op with
    | .add | .sub | .mul => Op.intArith op kd (.ofNat a) (.ofNat b)
    | .quo | .rem => Op.intDiv op kd (.ofNat a) (.ofNat b)
    | .and | .or | .xor | .andNot => Op.intBits op kd (.ofNat a) (.ofNat b)
    | _ => Op.intCmp op (.ofNat a) (.ofNat b)) := by
    intro op h1 h2
    cases op <;> first | exact absurd rfl h1 | exact absurd rfl h2 | (simp [binOp])
  have ea : (Int.ofNat a) = (a : Int) := rfl
  have eb : (Int.ofNat b) = (b : Int) := rfl
  cases op with
  | add => exact wrapK_ok (by rw [hk (by simp) (by simp)]; rfl) rfl h
  | sub =>
    have hs : binOp .sub t (.int kd (.ofNat a)) (.int kd (.ofNat b)) = pure (.int kd (kd.wrap (.ofNat a - .ofNat b))) := by rw [hk (by simp) (by simp)]; rfl
    have h : i_sub kd a b k other = true := h
    unfold i_sub at h
    cases q : Nat.ble b a with
    | true =>
      rw [q] at h
      have h : (forceN (Nat.sub a b) fun r => wrapK kd r k other) = true := h
      rw [forceN_eq] at h
      have := Nat.le_of_ble_eq_true q
      exact wrapK_ok hs (by rw [ea, eb]; show _ = ((a - b : Nat) : Int); omega) h
    | false =>
      rw [q] at h
      have h : (Nat.rec other (fun m _ => Bool.rec other (wrapK kd (Nat.sub (Nat.add a (Nat.succ m)) b) k other) (Nat.ble b (Nat.succ m))) (modN kd) : Bool) = true := h
      cases e : modN kd with
      | zero => rw [e] at h; exact .inl h
      | succ m =>
        rw [e] at h
        have h : (Bool.rec other (wrapK kd (Nat.sub (Nat.add a (Nat.succ m)) b) k other) (Nat.ble b (Nat.succ m)) : Bool) = true := h
        cases q' : Nat.ble b (Nat.succ m) with
        | false => rw [q'] at h; exact .inl h
        | true =>
          rw [q'] at h
          have hle := Nat.le_of_ble_eq_true q'
          rcases wrapK_spec h with h | ⟨r, h1, h2⟩
          · exact .inl h
          · refine .inr (iok_int hs ?_ h2)
            rw [← h1, ea, eb]
            show kd.wrap _ = kd.wrap ((a + (m + 1) - b : Nat) : Int)
            have hmod : ∀ x y : Int, x % (2 ^ kd.bits : Int) = y % (2 ^ kd.bits : Int) → kd.wrap x = kd.wrap y := fun x y hxy => by unfold IntKind.wrap; rw [hxy]
            apply hmod
            have hm1 : ((2 : Int) ^ kd.bits) = ((m + 1 : Nat) : Int) := by rw [← e]; cases kd <;> first | rfl | (simp [modN] at e)
            rw [hm1]
            have hle' : b ≤ m + 1 := hle
            rw [show ((a + (m + 1) - b : Nat) : Int) = ((a : Int) - b) + ((m + 1 : Nat) : Int) by omega, Int.add_emod_right]
  | mul => exact wrapK_ok (by rw [hk (by simp) (by simp)]; rfl) rfl h
  | quo =>
    cases b with
    | zero => exact .inl h
    | succ m =>
      refine wrapK_ok (n := (Int.ofNat a).tdiv (Int.ofNat (m + 1))) ?_ rfl (show wrapK kd (Nat.div a (Nat.succ m)) k other = true from h)
      rw [hk (by simp) (by simp)]
      show Op.intDiv .quo kd _ _ = _
      unfold Op.intDiv
      exact if_neg (show ¬ ((m + 1 : Nat) : Int) = 0 by omega)
  | rem =>
    cases b with
    | zero => exact .inl h
    | succ m =>
      have h : (forceN (Nat.mod a (Nat.succ m)) fun r => k (.int kd (.ofNat r))) = true := h
      rw [forceN_eq] at h
      refine .inr (iok_int (n := (Int.ofNat a).tmod (Int.ofNat (m + 1))) ?_ rfl h)
      rw [hk (by simp) (by simp)]
      show Op.intDiv .rem kd _ _ = _
      unfold Op.intDiv
      exact if_neg (show ¬ ((m + 1 : Nat) : Int) = 0 by omega)
  | and =>
    rcases inK_spec h with h | ⟨h1, h2, h3⟩
    · exact .inl h
    · rw [forceN_eq] at h3
      have hr : a &&& b < capN kd := Nat.lt_of_le_of_lt Nat.and_le_left h1
      refine .inr (iok_int (n := kd.wrap ((a &&& b : Nat) : Int)) ?_ (back_small hr) h3)
      rw [hk (by simp) (by simp)]
      show Op.intBits .and kd _ _ = _
      simp only [Op.intBits, BitVec.toNat_and, ofInt_nat h1, ofInt_nat h2]
  | or =>
    rcases inK_spec h with h | ⟨h1, h2, h3⟩
    · exact .inl h
    · rw [forceN_eq] at h3
      obtain ⟨m, hm, _⟩ := capN_pow kd
      have hr : a ||| b < capN kd := by rw [hm] at h1 h2 ⊢; exact Nat.or_lt_two_pow h1 h2
      refine .inr (iok_int (n := kd.wrap ((a ||| b : Nat) : Int)) ?_ (back_small hr) h3)
      rw [hk (by simp) (by simp)]
      show Op.intBits .or kd _ _ = _
      simp only [Op.intBits, BitVec.toNat_or, ofInt_nat h1, ofInt_nat h2]
  | xor =>
    rcases inK_spec h with h | ⟨h1, h2, h3⟩
    · exact .inl h
    · rw [forceN_eq] at h3
      obtain ⟨m, hm, _⟩ := capN_pow kd
      have hr : a ^^^ b < capN kd := by rw [hm] at h1 h2 ⊢; exact Nat.xor_lt_two_pow h1 h2
      refine .inr (iok_int (n := kd.wrap ((a ^^^ b : Nat) : Int)) ?_ (back_small hr) h3)
      rw [hk (by simp) (by simp)]
      show Op.intBits .xor kd _ _ = _
      simp only [Op.intBits, BitVec.toNat_xor, ofInt_nat h1, ofInt_nat h2]
  | shl => exact .inl h
  | shr => exact .inl h
  | andNot => exact .inl h
  | eql =>
    have h : (forceB (Nat.beq a b) fun r => k (.bool r)) = true := h
    rw [forceB_eq] at h
    refine .inr (iok_bool (b := (Int.ofNat a == Int.ofNat b)) (by rw [hk (by simp) (by simp)]; rfl) ?_ h)
    cases q : Nat.beq a b with
    | true => rw [Nat.eq_of_beq_eq_true q]; simp
    | false =>
      have hne : a ≠ b := fun e => by subst e; simp at q
      rw [ea, eb]; exact beq_eq_false_iff_ne.2 fun e => hne (by omega)
  | neq =>
    have h : (forceB (notC (Nat.beq a b)) fun r => k (.bool r)) = true := h
    rw [forceB_eq] at h
    refine .inr (iok_bool (b := (Int.ofNat a != Int.ofNat b)) (by rw [hk (by simp) (by simp)]; rfl) ?_ h)
    cases q : Nat.beq a b with
    | true => rw [Nat.eq_of_beq_eq_true q]; simp [notC]
    | false =>
      show _ = true
      have hne : a ≠ b := fun e => by subst e; simp at q
      rw [ea, eb]; exact bne_iff_ne.2 fun e => hne (by omega)
  | lss =>
    have h : (forceB (Nat.blt a b) fun r => k (.bool r)) = true := h
    rw [forceB_eq] at h
    refine .inr (iok_bool (b := decide (Int.ofNat a < Int.ofNat b)) (by rw [hk (by simp) (by simp)]; rfl) ?_ h)
    rw [Bool.eq_iff_iff, Nat.blt_eq, decide_eq_true_eq, ea, eb]; omega
  | leq =>
    have h : (forceB (Nat.ble a b) fun r => k (.bool r)) = true := h
    rw [forceB_eq] at h
    refine .inr (iok_bool (b := decide (Int.ofNat a ≤ Int.ofNat b)) (by rw [hk (by simp) (by simp)]; rfl) ?_ h)
    rw [Bool.eq_iff_iff, Nat.ble_eq, decide_eq_true_eq, ea, eb]; omega
  | gtr =>
    have h : (forceB (Nat.blt b a) fun r => k (.bool r)) = true := h
    rw [forceB_eq] at h
    refine .inr (iok_bool (b := decide (Int.ofNat a > Int.ofNat b)) (by rw [hk (by simp) (by simp)]; rfl) ?_ h)
    rw [Bool.eq_iff_iff, Nat.blt_eq, decide_eq_true_eq, ea, eb]; omega
  | geq =>
    have h : (forceB (Nat.ble b a) fun r => k (.bool r)) = true := h
    rw [forceB_eq] at h
    refine .inr (iok_bool (b := decide (Int.ofNat a ≥ Int.ofNat b)) (by rw [hk (by simp) (by simp)]; rfl) ?_ h)
    rw [Bool.eq_iff_iff, Nat.ble_eq, decide_eq_true_eq, ea, eb]; omega
/-- Shifts to the right and to the left. -/
def shK (op : BinOp) (kd : IntKind) (a n : Nat) (k : AV → Bool) (other : Bool) : Bool := Bool.rec other (BinOp.rec (motive := fun _ => Bool) other other other other other other other other (wrapK kd (Nat.mul a (Nat.pow 2 n)) k other) (forceN (Nat.div a (Nat.pow 2 n)) fun r => k (.int kd (.ofNat r))) other other other other other other other op) (Nat.ble n (bitN kd))
theorem shK_spec {op : BinOp} {kd kd' : IntKind} {a n : Nat} {k : AV → Bool} {other : Bool} {t : TypeId} (h : shK op kd a n k other = true) : other = true ∨ IOk (binOp op t (.int kd (.ofNat a)) (.int kd' (.ofNat n))) k := by
  unfold shK at h
  cases q : Nat.ble n (bitN kd) with
  | false => rw [q] at h; exact .inl h
  | true =>
    rw [q] at h
    have hle := Nat.le_of_ble_eq_true q
    have hn : min (Int.ofNat n).toNat kd.bits = n := by rw [bitN_eq]; show min n _ = n; omega
    cases op with
    | shl =>
      refine wrapK_ok (n := Int.ofNat a * 2 ^ n) ?_ ?_ (show wrapK kd (Nat.mul a (Nat.pow 2 n)) k other = true from h)
      · show Op.shift .shl kd (.ofNat a) kd' (.ofNat n) = _
        unfold Op.shift
        rw [if_neg (by simp)]
        simp only [hn]
      · show (a : Int) * 2 ^ n = ((a * 2 ^ n : Nat) : Int)
        simp
    | shr =>
      have h : (forceN (Nat.div a (Nat.pow 2 n)) fun r => k (.int kd (.ofNat r))) = true := h
      rw [forceN_eq] at h
      refine .inr (iok_int (n := (Int.ofNat a).fdiv (2 ^ n)) ?_ ?_ h)
      · show Op.shift .shr kd (.ofNat a) kd' (.ofNat n) = _
        unfold Op.shift
        rw [if_neg (by simp)]
        simp only [hn]
      · show (a : Int).fdiv (2 ^ n) = ((a / 2 ^ n : Nat) : Int)
        rw [Int.fdiv_eq_ediv_of_nonneg _ (Int.le_of_lt (Int.pow_pos (by decide)))]
        simp
    | _ => exact .inl h
end
end Go.Ev
