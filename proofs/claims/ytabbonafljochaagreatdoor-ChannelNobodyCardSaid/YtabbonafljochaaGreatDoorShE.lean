/- SHA-256 for the evaluator: a block reckoned on the kernel's own numbers; hash's block as a function whose contract is known. -/
import Derived.Test.YtabbonafljochaaGreatDoorShD
import Derived.Test.YtabbonafljochaaGreatDoorEvU
set_option linter.unusedSimpArgs false
set_option linter.unusedVariables false
namespace Go.Ev
open Go Go.Sl Go.Sh
noncomputable section
def getN (l : List Nat) (i : Nat) : Nat := Option.rec 0 (fun x => x) (nth l i)
theorem getN_eq (l : List Nat) (i : Nat) : getN l i = l.getD i 0 := by
  unfold getN
  rw [nth_eq, List.getD_eq_getElem?_getD]
  cases l[i]? <;> rfl
def rotF (x n : Nat) : Nat := Nat.lor (Nat.div x (Nat.pow 2 n)) (Nat.mod (Nat.mul x (Nat.pow 2 (Nat.sub 32 n))) 4294967296)
theorem rotF_eq (x n : Nat) : rotF x n = rotr x n := rfl
def m32 (x : Nat) : Nat := Nat.mod x 4294967296
/-- The word made of four bytes, which are numbers here. -/
def wordN (b : List Nat) (t : Nat) : Nat := Nat.add (Nat.add (Nat.add (Nat.mul (getN b (Nat.mul 4 t)) 16777216) (Nat.mul (getN b (Nat.add (Nat.mul 4 t) 1)) 65536)) (Nat.mul (getN b (Nat.add (Nat.mul 4 t) 2)) 256)) (getN b (Nat.add (Nat.mul 4 t) 3))
theorem byteN {b : List Nat} (h : small b = true) (i : Nat) : ((b.map UInt8.ofNat).getD i 0).toNat = getN b i := by
  rw [getN_eq, List.getD_eq_getElem?_getD, List.getD_eq_getElem?_getD, List.getElem?_map]
  cases q : b[i]? with
  | none => rfl
  | some x => exact u8_ofNat (small_get h q)
theorem wordN_eq {b : List Nat} (h : small b = true) (t : Nat) : wordN b t = wordAt (b.map UInt8.ofNat) t := by
  unfold wordAt
  rw [byteN h, byteN h, byteN h, byteN h]; rfl
def loadF (b : List Nat) (n : Nat) : Nat → List Nat → (List Nat → Bool) → Bool := Nat.rec (fun _ w k => k w) (fun _ ih t w k => forceN (wordN b t) fun x => setL w x t fun w' => forceN (Nat.succ t) fun t' => ih t' w' k) n
theorem loadF_spec {b : List Nat} (h : small b = true) : ∀ {n t : Nat} {k : List Nat → Bool}, loadF b n t (load16 (b.map UInt8.ofNat) t) k = true → k (load16 (b.map UInt8.ofNat) (t + n)) = true
  | 0, t, k, hh => hh
  | n + 1, t, k, hh => by
    have hh : (forceN (wordN b t) fun x => setL (load16 (b.map UInt8.ofNat) t) x t fun w' => forceN (Nat.succ t) fun t' => loadF b n t' w' k) = true := hh
    rw [forceN_eq] at hh
    obtain ⟨_, hh⟩ := setL_spec hh
    rw [forceN_eq, wordN_eq h] at hh
    have := loadF_spec h (n := n) (t := t + 1) (k := k) (by rw [load16]; exact hh)
    rw [show t + (n + 1) = t + 1 + n by omega]; exact this
def sigF1 (x : Nat) : Nat := Nat.xor (Nat.xor (rotF x 17) (rotF x 19)) (Nat.div x 1024)
def sigF0 (x : Nat) : Nat := Nat.xor (Nat.xor (rotF x 7) (rotF x 18)) (Nat.div x 8)
def extF (w : List Nat) (t : Nat) : Nat := m32 (Nat.add (m32 (Nat.add (m32 (Nat.add (sigF1 (getN w (Nat.sub t 2))) (getN w (Nat.sub t 7)))) (sigF0 (getN w (Nat.sub t 15))))) (getN w (Nat.sub t 16)))
theorem extF_eq (w : List Nat) (t : Nat) : extF w t = ext w t := by
  unfold extF
  rw [getN_eq, getN_eq, getN_eq, getN_eq]; rfl
def schedF (n : Nat) : Nat → List Nat → (List Nat → Bool) → Bool := Nat.rec (fun _ w k => k w) (fun _ ih t w k => forceN (extF w t) fun x => setL w x t fun w' => forceN (Nat.succ t) fun t' => ih t' w' k) n
theorem schedF_spec (b : By) : ∀ {n j : Nat} {k : List Nat → Bool}, schedF n (16 + j) (sched b j) k = true → k (sched b (j + n)) = true
  | 0, j, k, hh => hh
  | n + 1, j, k, hh => by
    have hh : (forceN (extF (sched b j) (16 + j)) fun x => setL (sched b j) x (16 + j) fun w' => forceN (Nat.succ (16 + j)) fun t' => schedF n t' w' k) = true := hh
    rw [forceN_eq] at hh
    obtain ⟨_, hh⟩ := setL_spec hh
    rw [forceN_eq, extF_eq] at hh
    have := schedF_spec b (n := n) (j := j + 1) (k := k) (by rw [sched]; exact hh)
    rw [show j + (n + 1) = j + 1 + n by omega]; exact this
def stepF (s : List Nat) (kt wt : Nat) (k : List Nat → Bool) : Bool :=
  forceN (getN s 0) fun a0 => forceN (getN s 1) fun a1 => forceN (getN s 2) fun a2 => forceN (getN s 3) fun a3 => forceN (getN s 4) fun a4 => forceN (getN s 5) fun a5 => forceN (getN s 6) fun a6 => forceN (getN s 7) fun a7 =>
  forceN (m32 (Nat.add (m32 (Nat.add (m32 (Nat.add (m32 (Nat.add a7 (Nat.xor (Nat.xor (rotF a4 6) (rotF a4 11)) (rotF a4 25)))) (Nat.xor (Nat.land a4 a5) (Nat.land (Nat.sub 4294967295 a4) a6)))) kt)) wt)) fun x =>
  forceN (m32 (Nat.add (Nat.xor (Nat.xor (rotF a0 2) (rotF a0 13)) (rotF a0 22)) (Nat.xor (Nat.xor (Nat.land a0 a1) (Nat.land a0 a2)) (Nat.land a1 a2)))) fun y =>
  forceN (m32 (Nat.add x y)) fun n0 => forceN (m32 (Nat.add a3 x)) fun n4 => k [n0, a0, a1, a2, n4, a4, a5, a6]
theorem stepF_eq (s : List Nat) (kt wt : Nat) (k : List Nat → Bool) : stepF s kt wt k = k (Sh.step s kt wt) := by
  unfold stepF
  simp only [forceN_eq, getN_eq]
  rfl
def rndsF (K w : List Nat) (n : Nat) : Nat → List Nat → (List Nat → Bool) → Bool := Nat.rec (fun _ s k => k s) (fun _ ih t s k => stepF s (getN K t) (getN w t) fun s' => forceN (Nat.succ t) fun t' => ih t' s' k) n
theorem rndsF_spec (K w s : List Nat) : ∀ {n t : Nat} {k : List Nat → Bool}, rndsF K w n t (rnds K w s t) k = true → k (rnds K w s (t + n)) = true
  | 0, t, k, hh => hh
  | n + 1, t, k, hh => by
    have hh : (stepF (rnds K w s t) (getN K t) (getN w t) fun s' => forceN (Nat.succ t) fun t' => rndsF K w n t' s' k) = true := hh
    rw [stepF_eq, forceN_eq, getN_eq, getN_eq] at hh
    have := rndsF_spec K w s (n := n) (t := t + 1) (k := k) (by rw [rnds]; exact hh)
    rw [show t + (n + 1) = t + 1 + n by omega]; exact this
def addF (a : List Nat) : List Nat → (List Nat → Bool) → Bool := List.rec (fun _ k => k []) (fun x _ ih s k => List.rec (k []) (fun y t _ => forceN (m32 (Nat.add x y)) fun z => ih t fun r => k (z :: r)) s) a
theorem addF_eq : ∀ (a s : List Nat) (k : List Nat → Bool), addF a s k = k (addS a s)
  | [], s, k => by cases s <;> rfl
  | x :: a, [], k => rfl
  | x :: a, y :: s, k => by
    show (forceN (m32 (Nat.add x y)) fun z => addF a s fun r => k (z :: r)) = _
    rw [forceN_eq, addF_eq a s]; rfl
def blockF (K s b : List Nat) (k : List Nat → Bool) : Bool := repL 0 64 [] fun z => loadF b 16 0 z fun w => schedF 48 16 w fun w => rndsF K w 64 0 s fun a => addF a s k
theorem blockF_spec {K s b : List Nat} {k : List Nat → Bool} (hb : small b = true) (h : blockF K s b k = true) : k (block K s (b.map UInt8.ofNat)) = true := by
  unfold blockF at h
  rw [repL_eq, List.append_nil] at h
  have h1 := loadF_spec hb (n := 16) (t := 0) (by rw [load16]; exact h)
  have h2 := schedF_spec (b.map UInt8.ofNat) (n := 48) (j := 0) (by rw [sched]; exact h1)
  have h3 := rndsF_spec K _ s (n := 64) (t := 0) (by rw [rnds]; exact h2)
  rw [addF_eq] at h3
  exact h3

/-! ### words -/
def wordK (v : AV) (k : Nat → Bool) : Bool := match v with
  | .int .u32 (.ofNat n) => both (Nat.blt n 4294967296) (k n)
  | _ => false
theorem wordK_spec (v : AV) (k : Nat → Bool) (h : wordK v k = true) : ∃ n, (v = .int .u32 (.ofNat n) ∧ n < 4294967296) ∧ k n = true := by
  unfold wordK at h
  split at h
  · obtain ⟨h1, h2⟩ := both_eq.1 h
    rw [Nat.blt_eq] at h1
    exact ⟨_, ⟨rfl, h1⟩, h2⟩
  · cases h
theorem words_of {ρ : Env} : ∀ {l : List AV} {w : List Nat} {vs : List Value}, All2 (fun v n => v = .int .u32 (.ofNat n) ∧ n < 4294967296) l w → RL ρ l vs → vs = u32s w ∧ w.length = l.length ∧ ∀ x ∈ w, x < 4294967296
  | [], [], vs, _, h => by rw [h.outNil]; exact ⟨rfl, rfl, by simp⟩
  | v :: l, n :: w, vs, ⟨⟨hv, hn⟩, p⟩, h => by
    subst hv
    obtain ⟨r, rs', rfl, h1, h2⟩ := h.out
    obtain ⟨q1, q2, q3⟩ := words_of p h2
    obtain rfl : r = .int .u32 (.ofNat n) := by simpa [ren] using h1.symm
    exact ⟨by rw [q1]; rfl, by simp [q2], fun x hx => by
      rcases List.mem_cons.1 hx with rfl | hx
      · exact hn
      · exact q3 x hx⟩
  | [], _ :: _, _, p, _ => p.elim
  | _ :: _, [], _, p, _ => p.elim
def av32 (w : List Nat) : List AV := w.map fun n => .int .u32 (.ofNat n)
theorem av32_ren (ρ : Env) : ∀ w : List Nat, RL ρ (av32 w) (u32s w)
  | [] => RL.nil
  | x :: w => RL.cons rfl (av32_ren ρ w)
def mapA (l : List Nat) (k : List AV → Bool) : Bool := List.rec (fun k => k []) (fun x _ ih k => ih fun r => k (.int .u32 (.ofNat x) :: r)) l k
theorem mapA_eq : ∀ (l : List Nat) (k : List AV → Bool), mapA l k = k (av32 l)
  | [], k => rfl
  | x :: l, k => mapA_eq l _
/-- hash's block; gi: the number of its table. -/
def blockI (gi : Nat) (vs : List AV) (M : Mem) (nx : Nat) (k : AV → Mem → Nat → Bool) : Bool := match vs with
  | [.agg l, .sl i o n c s] => both (Nat.ble 64 n) (both (Nat.ble n c) (Option.rec false (fun ck => match ck with
    | .ro _ t => lenL t 0 fun n1 => both (Nat.beq n1 64) (lenL l 0 fun n2 => both (Nat.beq n2 8) (mapL wordK t fun K => mapL wordK l fun st => bytesK M i o n fun b => blockF K st b fun r => mapA r fun a => k (.agg a) M nx))
    | _ => false) (M.get gi)))
  | _ => false
theorem blockI_spec {gi : Nat} {vs : List AV} {M : Mem} {nx : Nat} {k : AV → Mem → Nat → Bool} (h : blockI gi vs M nx k = true) {ρ : Env} {hF : Hp} {w : World} {rs : List Value} (hr : Rep ρ M hF w) (hn : ρ.length = nx) (hg : ρ[gi]? = some (1, 0, 0)) (hv : RL ρ vs rs) :
    Calls Go.Proofs.Tryz.prog 111 rs.toArray w (fun e w' => ∃ ρ' v r M', Ext ρ ρ' ∧ ren ρ' v = some r ∧ e = .returned r ∧ k v M' ρ'.length = true ∧ Rep ρ' M' hF w' ∧ Same w w') := by
  unfold blockI at h
  split at h
  case h_2 => cases h
  rename_i l i o n c s
  obtain ⟨c1, h⟩ := both_eq.1 h
  obtain ⟨c2, h⟩ := both_eq.1 h
  have c1 := Nat.le_of_ble_eq_true c1
  have c2 := Nat.le_of_ble_eq_true c2
  obtain ⟨ck, hck, h⟩ := opt_rec h
  cases ck <;> try (cases h; done)
  rename_i tt t
  have h : (lenL t 0 fun n1 => both (Nat.beq n1 64) (lenL l 0 fun n2 => both (Nat.beq n2 8) (mapL wordK t fun K => mapL wordK l fun st => bytesK M i o n fun b => blockF K st b fun r => mapA r fun a => k (.agg a) M nx))) = true := h
  rw [lenL_eq] at h
  obtain ⟨c3, h⟩ := both_eq.1 h
  rw [lenL_eq] at h
  obtain ⟨c4, h⟩ := both_eq.1 h
  have c3 := Nat.eq_of_beq_eq_true c3
  have c4 := Nat.eq_of_beq_eq_true c4
  obtain ⟨K, hK, h⟩ := mapL_spec wordK_spec h
  obtain ⟨st, hst, h⟩ := mapL_spec wordK_spec h
  obtain ⟨bs, e, cs, t', fz, h1, h2, h3, h4, h5, h6⟩ := bytesK_spec h hr
  have h7 := blockF_spec h2 h1
  rw [mapA_eq] at h7
  obtain ⟨r1, rs1, rfl, q1, hv⟩ := hv.out
  obtain ⟨r2, rs2, rfl, q2, hv⟩ := hv.out
  obtain rfl := hv.outNil
  simp only [ren, Option.map_eq_some_iff] at q1 q2
  obtain ⟨vl, hvl, rfl⟩ := q1
  obtain ⟨e', he', rfl⟩ := q2
  rw [h4] at he'; cases he'
  obtain ⟨rfl, p1, p2⟩ := words_of hst hvl
  obtain ⟨eg, heg, ⟨vK, fzK, hvK, hFK, hz0⟩, _⟩ := hr.own _ _ hck
  rw [hg] at heg; cases heg
  obtain ⟨rfl, p3, p4⟩ := words_of hK hvK
  have hKm : mem w 1 = some (.cells ⟨u32s K⟩ tt fzK) := hr.frame _ _ hFK
  have hlen : (bs.map UInt8.ofNat).length = n := by rw [List.length_map]; exact h3
  have hrs : rs (mem w) (.slice (some ⟨e.1, e.2.1 + o, none⟩) n (c + cond s e.2.2 0)) (bs.map UInt8.ofNat).length 1 (u8s (bs.map UInt8.ofNat)) := by
    rw [hlen]
    exact rs.mk (by omega) (by rw [u8s_length, hlen]; omega) fun _ => ⟨e.1, e.2.1 + o, cs, t', fz, rfl, h5, h6⟩
  have hblk := block_ok (hF := emp) (H := mem w) ⟨by rw [p1, c4], p2⟩ ⟨by rw [p3, c3], p4⟩ ⟨tt, fzK, hKm⟩ hrs (by rw [hlen]; exact c1)
  refine Calls.mono (hblk w (sat_pool w)) ?_
  rintro e0 w' ⟨v, Γ', rfl, ⟨rfl, rfl⟩, hs, hm⟩
  exact ⟨ρ, .agg (av32 (block K st (bs.map UInt8.ofNat))), _, M, .refl ρ, by simp [ren, show renL ρ (av32 (block K st (bs.map UInt8.ofNat))) = some _ from av32_ren ρ _], rfl, by rw [hn]; exact h7, hr.heap hs.pool_le, hm⟩
end
end Go.Ev
