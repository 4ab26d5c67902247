/- The engine, part Y: copy; bits and remainders of whole numbers that are not negative. -/
import Derived.Test.YtabbonafljochaaGreatDoorEnX
set_option linter.unusedSimpArgs false
set_option linter.unusedVariables false
namespace Go.Sl
variable {P : Program} {cx : Cx} {fr : Fr} {Γ : List HProp} {Q : Exit → Act → World → Prop} {ops : Array Oper} {ty : TypeId} {K : Act → World → Prop}
section
variable {d : Option Tmp} {pos : String} {af : Array Edge} {g : Option (Nat × Bool)} {x y : Operand} {t tx e : TypeId} {sz by' n c m : Nat} {r : Bool} {p : Option Addr} {u : Value} {xs news : List Value}
/-- copy into a row that is owned, of no more than it has. -/
theorem Gt.copy (tb : Tbl P) (i : Nat) (hw : Wt cx ops fr g true) (ht : P.underlying t = some (.slice e)) (he : lookT tb.T e = some (sz, by', r)) (hx : ev cx fr x = some (.slice p n c)) (hy : ev cx fr y = some u)
    (hi : Γ[i]? = some (row (.slice p n c) e sz n xs)) (hsrc : Src P cx Γ u m sz news) (hm : m ≤ n)
    (h : GK cx K (upd d (.int .i64 m) fr) (Γ.set i (row (.slice p n c) e sz n (news ++ xs.drop (m * sz))))) : GO P cx ops Q ⟨d, .call ⟨.builtin .copy, #[x, y], #[t, tx]⟩, ty, pos, af, g⟩ K fr Γ := by
  refine GO.effect hw (Φ := fun q Γ' => q = .int .i64 m ∧ Γ' = Γ.set i (row (.slice p n c) e sz n (news ++ xs.drop (m * sz)))) (fun a w d pos af g st => ?_) ?_
  · have hlen := hsrc.len w
    have hcells := hsrc.cells w st.heap
    have hsize := hsrc.size
    have hone := hsrc.one
    have hs := st.heap.perm (perm_eraseIdx hi)
    have hmin : Nat.min m n = m := Nat.min_eq_left hm
    have hse := run_sizeOf (P := P) (tb.t he).1
    obtain ⟨q, hq, hs1⟩ := hs.opens
    cases q with
    | none =>
      obtain ⟨hv, hn, hxs⟩ := hq
      cases hv
      subst hxs
      obtain rfl : m = 0 := by omega
      obtain rfl : news = [] := List.length_eq_zero_iff.1 (by rw [hsize]; simp)
      refine ⟨_, w, _, .inl ?_, ⟨rfl, rfl⟩, ?_, .refl w⟩
      · simp [execOp, resolve, invoke, builtin, Builtin.copy_, st.eval hx, st.eval hy, run_underlying ht, hlen, hse, hcells, goInt]
      · replace hs1 : Sat ([] ++ Γ.eraseIdx i) cx.hF w := hs1
        rw [List.nil_append] at hs1
        have h2 := (Sat.row_nil (e := e) (sz := sz) hs1).perm (perm_set hi)
        simpa using h2
    | some q =>
      obtain ⟨b, c', tail, fz⟩ := q
      obtain ⟨hv, hnc, htl, hxl, hfr⟩ := hq
      cases hv
      have hmn : m * sz ≤ n * sz := Nat.mul_le_mul_right _ hm
      obtain ⟨w', r0, r1, r2, r3⟩ := run_store_list (P := P) news 0 (xs ++ tail) w hs1.pt_head (by simp; omega) (free_sub hfr (Nat.le_refl _) (by simp; omega)) hone
      refine ⟨_, w', _, .inl ?_, ⟨rfl, rfl⟩, ?_, r3⟩
      · simp [execOp, resolve, invoke, builtin, Builtin.copy_, st.eval hx, st.eval hy, run_underlying ht, hlen, hse, hmin, hcells, goInt, r0]
      · have e1 : splice (xs ++ tail) (0 + 0) news = (news ++ xs.drop (m * sz)) ++ tail := by
          unfold splice
          rw [hsize, show 0 + 0 + m * sz = m * sz by omega, List.drop_append_of_le_length (by omega)]
          simp
        rw [e1] at r1
        have hs2 := hs1.write_head r1 r2
        refine (Sat.row_blk hnc htl ?_ ?_ hs2).perm (perm_set hi)
        · simp [hsize, hxl]; omega
        · have : (news ++ xs.drop (m * sz) ++ tail).length = (xs ++ tail).length := by simp; omega
          rw [this]; exact hfr
  · rintro q Γ' ⟨rfl, rfl⟩; exact h
end
/-! ### structs and arrays alike -/
/-- These cells, of this type, are alike just if r. -/
structure EqlAt (P : Program) (t : TypeId) (A B : List Value) (r : Bool) : Prop where
  guard : P.eqGuardType P.depth t = false
  run : ∀ w, (Op.equal t (.agg ⟨A⟩) (.agg ⟨B⟩)).run P w = .ok r w
section
variable {x y : Operand} {tx tz : TypeId} {A B : List Value} {r : Bool}
theorem Yl.eqlAt (hx : ev cx fr x = some (.agg ⟨A⟩)) (hy : ev cx fr y = some (.agg ⟨B⟩)) (h : EqlAt P tx A B r) : Yl P cx fr Γ (.binOp .eql tx x y tz) ty (.bool r) := fun a w d pos af g s => by
  simp [execOp, s.eval hx, s.eval hy, run_eqGuard_agg w .eql tx x y ⟨A⟩ ⟨B⟩ h.guard, binOp, h.run w]
theorem Yl.neqAt (hx : ev cx fr x = some (.agg ⟨A⟩)) (hy : ev cx fr y = some (.agg ⟨B⟩)) (h : EqlAt P tx A B r) : Yl P cx fr Γ (.binOp .neq tx x y tz) ty (.bool (!r)) := fun a w d pos af g s => by
  simp [execOp, s.eval hx, s.eval hy, run_eqGuard_agg w .neq tx x y ⟨A⟩ ⟨B⟩ h.guard, binOp, h.run w]
theorem EqlAt.bytes {t e n : Nat} {p q : List UInt8} (ht : P.underlying t = some (.array n e)) (he : P.underlying e = some (.int .u8)) (hs : tsize P e = some 1) (hm : P.eqGuardType P.depth t = false) (hp : p.length = n) (hq : q.length = n) : EqlAt P t (u8s p) (u8s q) (p == q) :=
  ⟨hm, fun _ => run_equal_bytes ht he hs hp hq⟩
end
/-! ### whole numbers that are not negative -/
def uns : IntKind → Bool
  | .u8 | .u16 | .u32 | .u64 => true
  | _ => false
theorem wrap_uns {k : IntKind} (hk : uns k = true) {n : Nat} : k.wrap (n : Int) = ((n % 2 ^ k.bits : Nat) : Int) := by
  cases k <;> simp only [uns, Bool.false_eq_true] at hk <;> simp only [IntKind.wrap_u8, IntKind.wrap_u16, IntKind.wrap_u32, IntKind.wrap_u64, IntKind.bits] <;> omega
theorem wrap_uns_in {k : IntKind} (hk : uns k = true) {n : Nat} (h : n < 2 ^ k.bits) : k.wrap (n : Int) = (n : Int) := by rw [wrap_uns hk, Nat.mod_eq_of_lt h]
theorem ofInt_nat {B : Nat} (n : Nat) : BitVec.ofInt B (n : Int) = BitVec.ofNat B n := by
  apply BitVec.eq_of_toNat_eq
  simp
section
variable {x y : Operand} {tx tz : TypeId} {k : IntKind} {m n : Nat}
theorem Yl.andN (hk : uns k = true) (hm : m < 2 ^ k.bits) (hn : n < 2 ^ k.bits) (hx : ev cx fr x = some (.int k m)) (hy : ev cx fr y = some (.int k n)) : Yl P cx fr Γ (.binOp .and tx x y tz) ty (.int k ((m &&& n : Nat) : Int)) := by
  refine Yl.bits (.inl rfl) hx hy ?_
  have h : (BitVec.ofNat k.bits m &&& BitVec.ofNat k.bits n).toNat = m &&& n := by simp [Nat.mod_eq_of_lt hm, Nat.mod_eq_of_lt hn]
  simp only [Op.intBits, ofInt_nat, h]
  rw [wrap_uns_in hk (Nat.lt_of_le_of_lt Nat.and_le_left hm)]
theorem Yl.orN (hk : uns k = true) (hm : m < 2 ^ k.bits) (hn : n < 2 ^ k.bits) (hx : ev cx fr x = some (.int k m)) (hy : ev cx fr y = some (.int k n)) : Yl P cx fr Γ (.binOp .or tx x y tz) ty (.int k ((m ||| n : Nat) : Int)) := by
  refine Yl.bits (.inr (.inl rfl)) hx hy ?_
  have h : (BitVec.ofNat k.bits m ||| BitVec.ofNat k.bits n).toNat = m ||| n := by simp [Nat.mod_eq_of_lt hm, Nat.mod_eq_of_lt hn]
  simp only [Op.intBits, ofInt_nat, h]
  rw [wrap_uns_in hk (Nat.or_lt_two_pow hm hn)]
theorem Yl.xorN (hk : uns k = true) (hm : m < 2 ^ k.bits) (hn : n < 2 ^ k.bits) (hx : ev cx fr x = some (.int k m)) (hy : ev cx fr y = some (.int k n)) : Yl P cx fr Γ (.binOp .xor tx x y tz) ty (.int k ((m ^^^ n : Nat) : Int)) := by
  refine Yl.bits (.inr (.inr (.inl rfl))) hx hy ?_
  have h : (BitVec.ofNat k.bits m ^^^ BitVec.ofNat k.bits n).toNat = m ^^^ n := by simp [Nat.mod_eq_of_lt hm, Nat.mod_eq_of_lt hn]
  simp only [Op.intBits, ofInt_nat, h]
  rw [wrap_uns_in hk (Nat.xor_lt_two_pow hm hn)]
theorem Yl.shrN {j : IntKind} (hx : ev cx fr x = some (.int k m)) (hy : ev cx fr y = some (.int j n)) (hn : n ≤ k.bits) : Yl P cx fr Γ (.binOp .shr tx x y tz) ty (.int k ((m / 2 ^ n : Nat) : Int)) := by
  have h := Yl.shr (P := P) (Γ := Γ) (ty := ty) (tx := tx) (tz := tz) hx hy (by omega)
  have e : (m : Int).fdiv (2 ^ min (n : Int).toNat k.bits) = ((m / 2 ^ n : Nat) : Int) := by
    rw [show min (n : Int).toNat k.bits = n by simp; omega, Int.fdiv_eq_ediv_of_nonneg _ (by exact_mod_cast Nat.zero_le _)]
    simp
  rwa [e] at h
theorem Yl.shlN {j : IntKind} (hk : uns k = true) (hx : ev cx fr x = some (.int k m)) (hy : ev cx fr y = some (.int j n)) (hn : n ≤ k.bits) : Yl P cx fr Γ (.binOp .shl tx x y tz) ty (.int k ((m * 2 ^ n % 2 ^ k.bits : Nat) : Int)) := by
  have h := Yl.shl (P := P) (Γ := Γ) (ty := ty) (tx := tx) (tz := tz) hx hy (by omega)
  have e : k.wrap ((m : Int) * 2 ^ min (n : Int).toNat k.bits) = ((m * 2 ^ n % 2 ^ k.bits : Nat) : Int) := by
    rw [show min (n : Int).toNat k.bits = n by simp; omega, ← wrap_uns hk]
    simp
  rwa [e] at h
theorem Yl.addN (hk : uns k = true) (hx : ev cx fr x = some (.int k m)) (hy : ev cx fr y = some (.int k n)) : Yl P cx fr Γ (.binOp .add tx x y tz) ty (.int k (((m + n) % 2 ^ k.bits : Nat) : Int)) := by
  have h := Yl.add (P := P) (Γ := Γ) (ty := ty) (tx := tx) (tz := tz) hx hy
  rwa [← Int.natCast_add, wrap_uns hk] at h
theorem Yl.mulN (hk : uns k = true) (hx : ev cx fr x = some (.int k m)) (hy : ev cx fr y = some (.int k n)) : Yl P cx fr Γ (.binOp .mul tx x y tz) ty (.int k (((m * n) % 2 ^ k.bits : Nat) : Int)) := by
  have h := Yl.mul (P := P) (Γ := Γ) (ty := ty) (tx := tx) (tz := tz) hx hy
  rwa [← Int.natCast_mul, wrap_uns hk] at h
theorem Yl.remN (hx : ev cx fr x = some (.int k m)) (hy : ev cx fr y = some (.int k n)) (h0 : 0 < n) : Yl P cx fr Γ (.binOp .rem tx x y tz) ty (.int k ((m % n : Nat) : Int)) := by
  have h := Yl.rem (P := P) (Γ := Γ) (ty := ty) (tx := tx) (tz := tz) hx hy (by omega)
  have e : (m : Int).tmod (n : Int) = ((m % n : Nat) : Int) := by
    rw [Int.tmod_eq_emod_of_nonneg (by omega)]; rfl
  rwa [e] at h
theorem Yl.quoN (hk : uns k = true) (hm : m < 2 ^ k.bits) (hx : ev cx fr x = some (.int k m)) (hy : ev cx fr y = some (.int k n)) (h0 : 0 < n) : Yl P cx fr Γ (.binOp .quo tx x y tz) ty (.int k ((m / n : Nat) : Int)) := by
  have h := Yl.quo (P := P) (Γ := Γ) (ty := ty) (tx := tx) (tz := tz) hx hy (by omega)
  have e : (m : Int).tdiv (n : Int) = ((m / n : Nat) : Int) := by
    rw [Int.tdiv_eq_ediv_of_nonneg (by omega)]; rfl
  rwa [e, wrap_uns_in hk (Nat.lt_of_le_of_lt (Nat.div_le_self _ _) hm)] at h
theorem Yl.quo64N {m n : Nat} (hx : ev cx fr x = some (.int .i64 m)) (hy : ev cx fr y = some (.int .i64 n)) (hm : m ≤ 9223372036854775807) (h0 : 0 < n) : Yl P cx fr Γ (.binOp .quo tx x y tz) ty (.int .i64 ((m / n : Nat) : Int)) := by
  have h := Yl.quo (P := P) (Γ := Γ) (ty := ty) (tx := tx) (tz := tz) hx hy (by omega)
  have e : (m : Int).tdiv (n : Int) = ((m / n : Nat) : Int) := by
    rw [Int.tdiv_eq_ediv_of_nonneg (by omega)]; rfl
  have hd := Nat.div_le_self m n
  rw [e] at h
  generalize m / n = q at h hd ⊢
  rwa [IntWalk.i64_in _ (by omega)] at h
theorem Yl.convN {ts td : TypeId} {ds : TypeDesc} {k' : IntKind} (hk : uns k' = true) (hs : P.underlying ts = some ds) (hd : P.underlying td = some (.int k')) (hx : ev cx fr x = some (.int k m)) :
    Yl P cx fr Γ (.convert ts td x) ty (.int k' ((m % 2 ^ k'.bits : Nat) : Int)) := by
  have h := Yl.convInt (P := P) (Γ := Γ) (ty := ty) hs hd hx
  rwa [wrap_uns hk] at h
theorem Yl.convI {ts td : TypeId} {ds : TypeDesc} {m : Nat} (hs : P.underlying ts = some ds) (hd : P.underlying td = some (.int .i64)) (hx : ev cx fr x = some (.int k m)) (hm : m ≤ 9223372036854775807) :
    Yl P cx fr Γ (.convert ts td x) ty (.int .i64 (m : Int)) := by
  have h := Yl.convInt (P := P) (Γ := Γ) (ty := ty) hs hd hx
  rwa [IntWalk.i64_in _ (by omega)] at h
end
section
variable {x y : Operand} {tx tz : TypeId} {m n : Nat}
theorem Yl.conv8 {k0 : IntKind} {ts td : TypeId} {ds : TypeDesc} (hs : P.underlying ts = some ds) (hd : P.underlying td = some (.int .u8)) (hx : ev cx fr x = some (.int k0 m)) : Yl P cx fr Γ (.convert ts td x) ty (.int .u8 ((m % 256 : Nat) : Int)) := Yl.convN rfl hs hd hx
theorem Yl.conv8i {k0 : IntKind} {ts td : TypeId} {ds : TypeDesc} (hs : P.underlying ts = some ds) (hd : P.underlying td = some (.int .u8)) (hx : ev cx fr x = some (.int k0 m)) (hm : m < 256) : Yl P cx fr Γ (.convert ts td x) ty (.int .u8 (m : Int)) := by
  have h := Yl.conv8 (P := P) (Γ := Γ) (ty := ty) hs hd hx
  rwa [Nat.mod_eq_of_lt hm] at h
theorem Yl.addM8 (hx : ev cx fr x = some (.int .u8 m)) (hy : ev cx fr y = some (.int .u8 n)) : Yl P cx fr Γ (.binOp .add tx x y tz) ty (.int .u8 (((m + n) % 256 : Nat) : Int)) := Yl.addN rfl hx hy
theorem Yl.add8i (hx : ev cx fr x = some (.int .u8 m)) (hy : ev cx fr y = some (.int .u8 n)) (h : m + n < 256) : Yl P cx fr Γ (.binOp .add tx x y tz) ty (.int .u8 ((m + n : Nat) : Int)) := by
  have q := Yl.addM8 (P := P) (Γ := Γ) (ty := ty) (tx := tx) (tz := tz) hx hy
  rwa [Nat.mod_eq_of_lt h] at q
theorem Yl.mulM8 (hx : ev cx fr x = some (.int .u8 m)) (hy : ev cx fr y = some (.int .u8 n)) : Yl P cx fr Γ (.binOp .mul tx x y tz) ty (.int .u8 (((m * n) % 256 : Nat) : Int)) := Yl.mulN rfl hx hy
theorem Yl.mul8i (hx : ev cx fr x = some (.int .u8 m)) (hy : ev cx fr y = some (.int .u8 n)) (h : m * n < 256) : Yl P cx fr Γ (.binOp .mul tx x y tz) ty (.int .u8 ((m * n : Nat) : Int)) := by
  have q := Yl.mulM8 (P := P) (Γ := Γ) (ty := ty) (tx := tx) (tz := tz) hx hy
  rwa [Nat.mod_eq_of_lt h] at q
theorem Yl.sub8i (hx : ev cx fr x = some (.int .u8 m)) (hy : ev cx fr y = some (.int .u8 n)) (hm : m < 256) (h : n ≤ m) : Yl P cx fr Γ (.binOp .sub tx x y tz) ty (.int .u8 ((m - n : Nat) : Int)) := by
  have q := Yl.sub (P := P) (Γ := Γ) (ty := ty) (tx := tx) (tz := tz) hx hy
  rwa [show (m : Int) - (n : Int) = ((m - n : Nat) : Int) by omega, wrap_uns_in rfl (show m - n < 2 ^ IntKind.u8.bits from Nat.lt_of_le_of_lt (Nat.sub_le _ _) hm)] at q
theorem Yl.and8 (hx : ev cx fr x = some (.int .u8 m)) (hy : ev cx fr y = some (.int .u8 n)) (hm : m < 256) (hn : n < 256) : Yl P cx fr Γ (.binOp .and tx x y tz) ty (.int .u8 ((m &&& n : Nat) : Int)) := Yl.andN rfl hm hn hx hy
theorem Yl.or8 (hx : ev cx fr x = some (.int .u8 m)) (hy : ev cx fr y = some (.int .u8 n)) (hm : m < 256) (hn : n < 256) : Yl P cx fr Γ (.binOp .or tx x y tz) ty (.int .u8 ((m ||| n : Nat) : Int)) := Yl.orN rfl hm hn hx hy
theorem Yl.xor8n (hx : ev cx fr x = some (.int .u8 m)) (hy : ev cx fr y = some (.int .u8 n)) (hm : m < 256) (hn : n < 256) : Yl P cx fr Γ (.binOp .xor tx x y tz) ty (.int .u8 ((m ^^^ n : Nat) : Int)) := Yl.xorN rfl hm hn hx hy
theorem Yl.shr8 {j : IntKind} (hx : ev cx fr x = some (.int .u8 m)) (hy : ev cx fr y = some (.int j n)) (hn : n ≤ 8) : Yl P cx fr Γ (.binOp .shr tx x y tz) ty (.int .u8 ((m / 2 ^ n : Nat) : Int)) := Yl.shrN hx hy hn
theorem Yl.shl8 {j : IntKind} (hx : ev cx fr x = some (.int .u8 m)) (hy : ev cx fr y = some (.int j n)) (hn : n ≤ 8) : Yl P cx fr Γ (.binOp .shl tx x y tz) ty (.int .u8 ((m * 2 ^ n % 256 : Nat) : Int)) := Yl.shlN rfl hx hy hn
theorem Yl.quo8 (hx : ev cx fr x = some (.int .u8 m)) (hy : ev cx fr y = some (.int .u8 n)) (hm : m < 256) (h0 : 0 < n) : Yl P cx fr Γ (.binOp .quo tx x y tz) ty (.int .u8 ((m / n : Nat) : Int)) := Yl.quoN rfl hm hx hy h0

theorem Yl.conv32 {k0 : IntKind} {ts td : TypeId} {ds : TypeDesc} (hs : P.underlying ts = some ds) (hd : P.underlying td = some (.int .u32)) (hx : ev cx fr x = some (.int k0 m)) : Yl P cx fr Γ (.convert ts td x) ty (.int .u32 ((m % 4294967296 : Nat) : Int)) := Yl.convN rfl hs hd hx
theorem Yl.conv32i {k0 : IntKind} {ts td : TypeId} {ds : TypeDesc} (hs : P.underlying ts = some ds) (hd : P.underlying td = some (.int .u32)) (hx : ev cx fr x = some (.int k0 m)) (hm : m < 4294967296) : Yl P cx fr Γ (.convert ts td x) ty (.int .u32 (m : Int)) := by
  have h := Yl.conv32 (P := P) (Γ := Γ) (ty := ty) hs hd hx
  rwa [Nat.mod_eq_of_lt hm] at h
theorem Yl.addM32 (hx : ev cx fr x = some (.int .u32 m)) (hy : ev cx fr y = some (.int .u32 n)) : Yl P cx fr Γ (.binOp .add tx x y tz) ty (.int .u32 (((m + n) % 4294967296 : Nat) : Int)) := Yl.addN rfl hx hy
theorem Yl.add32i (hx : ev cx fr x = some (.int .u32 m)) (hy : ev cx fr y = some (.int .u32 n)) (h : m + n < 4294967296) : Yl P cx fr Γ (.binOp .add tx x y tz) ty (.int .u32 ((m + n : Nat) : Int)) := by
  have q := Yl.addM32 (P := P) (Γ := Γ) (ty := ty) (tx := tx) (tz := tz) hx hy
  rwa [Nat.mod_eq_of_lt h] at q
theorem Yl.mulM32 (hx : ev cx fr x = some (.int .u32 m)) (hy : ev cx fr y = some (.int .u32 n)) : Yl P cx fr Γ (.binOp .mul tx x y tz) ty (.int .u32 (((m * n) % 4294967296 : Nat) : Int)) := Yl.mulN rfl hx hy
theorem Yl.mul32i (hx : ev cx fr x = some (.int .u32 m)) (hy : ev cx fr y = some (.int .u32 n)) (h : m * n < 4294967296) : Yl P cx fr Γ (.binOp .mul tx x y tz) ty (.int .u32 ((m * n : Nat) : Int)) := by
  have q := Yl.mulM32 (P := P) (Γ := Γ) (ty := ty) (tx := tx) (tz := tz) hx hy
  rwa [Nat.mod_eq_of_lt h] at q
theorem Yl.sub32i (hx : ev cx fr x = some (.int .u32 m)) (hy : ev cx fr y = some (.int .u32 n)) (hm : m < 4294967296) (h : n ≤ m) : Yl P cx fr Γ (.binOp .sub tx x y tz) ty (.int .u32 ((m - n : Nat) : Int)) := by
  have q := Yl.sub (P := P) (Γ := Γ) (ty := ty) (tx := tx) (tz := tz) hx hy
  rwa [show (m : Int) - (n : Int) = ((m - n : Nat) : Int) by omega, wrap_uns_in rfl (show m - n < 2 ^ IntKind.u32.bits from Nat.lt_of_le_of_lt (Nat.sub_le _ _) hm)] at q
theorem Yl.and32 (hx : ev cx fr x = some (.int .u32 m)) (hy : ev cx fr y = some (.int .u32 n)) (hm : m < 4294967296) (hn : n < 4294967296) : Yl P cx fr Γ (.binOp .and tx x y tz) ty (.int .u32 ((m &&& n : Nat) : Int)) := Yl.andN rfl hm hn hx hy
theorem Yl.or32 (hx : ev cx fr x = some (.int .u32 m)) (hy : ev cx fr y = some (.int .u32 n)) (hm : m < 4294967296) (hn : n < 4294967296) : Yl P cx fr Γ (.binOp .or tx x y tz) ty (.int .u32 ((m ||| n : Nat) : Int)) := Yl.orN rfl hm hn hx hy
theorem Yl.xor32n (hx : ev cx fr x = some (.int .u32 m)) (hy : ev cx fr y = some (.int .u32 n)) (hm : m < 4294967296) (hn : n < 4294967296) : Yl P cx fr Γ (.binOp .xor tx x y tz) ty (.int .u32 ((m ^^^ n : Nat) : Int)) := Yl.xorN rfl hm hn hx hy
theorem Yl.shr32 {j : IntKind} (hx : ev cx fr x = some (.int .u32 m)) (hy : ev cx fr y = some (.int j n)) (hn : n ≤ 32) : Yl P cx fr Γ (.binOp .shr tx x y tz) ty (.int .u32 ((m / 2 ^ n : Nat) : Int)) := Yl.shrN hx hy hn
theorem Yl.shl32 {j : IntKind} (hx : ev cx fr x = some (.int .u32 m)) (hy : ev cx fr y = some (.int j n)) (hn : n ≤ 32) : Yl P cx fr Γ (.binOp .shl tx x y tz) ty (.int .u32 ((m * 2 ^ n % 4294967296 : Nat) : Int)) := Yl.shlN rfl hx hy hn
theorem Yl.quo32 (hx : ev cx fr x = some (.int .u32 m)) (hy : ev cx fr y = some (.int .u32 n)) (hm : m < 4294967296) (h0 : 0 < n) : Yl P cx fr Γ (.binOp .quo tx x y tz) ty (.int .u32 ((m / n : Nat) : Int)) := Yl.quoN rfl hm hx hy h0

theorem Yl.conv64 {k0 : IntKind} {ts td : TypeId} {ds : TypeDesc} (hs : P.underlying ts = some ds) (hd : P.underlying td = some (.int .u64)) (hx : ev cx fr x = some (.int k0 m)) : Yl P cx fr Γ (.convert ts td x) ty (.int .u64 ((m % 18446744073709551616 : Nat) : Int)) := Yl.convN rfl hs hd hx
theorem Yl.conv64i {k0 : IntKind} {ts td : TypeId} {ds : TypeDesc} (hs : P.underlying ts = some ds) (hd : P.underlying td = some (.int .u64)) (hx : ev cx fr x = some (.int k0 m)) (hm : m < 18446744073709551616) : Yl P cx fr Γ (.convert ts td x) ty (.int .u64 (m : Int)) := by
  have h := Yl.conv64 (P := P) (Γ := Γ) (ty := ty) hs hd hx
  rwa [Nat.mod_eq_of_lt hm] at h
theorem Yl.addM64 (hx : ev cx fr x = some (.int .u64 m)) (hy : ev cx fr y = some (.int .u64 n)) : Yl P cx fr Γ (.binOp .add tx x y tz) ty (.int .u64 (((m + n) % 18446744073709551616 : Nat) : Int)) := Yl.addN rfl hx hy
theorem Yl.add64i (hx : ev cx fr x = some (.int .u64 m)) (hy : ev cx fr y = some (.int .u64 n)) (h : m + n < 18446744073709551616) : Yl P cx fr Γ (.binOp .add tx x y tz) ty (.int .u64 ((m + n : Nat) : Int)) := by
  have q := Yl.addM64 (P := P) (Γ := Γ) (ty := ty) (tx := tx) (tz := tz) hx hy
  rwa [Nat.mod_eq_of_lt h] at q
theorem Yl.mulM64 (hx : ev cx fr x = some (.int .u64 m)) (hy : ev cx fr y = some (.int .u64 n)) : Yl P cx fr Γ (.binOp .mul tx x y tz) ty (.int .u64 (((m * n) % 18446744073709551616 : Nat) : Int)) := Yl.mulN rfl hx hy
theorem Yl.mul64i (hx : ev cx fr x = some (.int .u64 m)) (hy : ev cx fr y = some (.int .u64 n)) (h : m * n < 18446744073709551616) : Yl P cx fr Γ (.binOp .mul tx x y tz) ty (.int .u64 ((m * n : Nat) : Int)) := by
  have q := Yl.mulM64 (P := P) (Γ := Γ) (ty := ty) (tx := tx) (tz := tz) hx hy
  rwa [Nat.mod_eq_of_lt h] at q
theorem Yl.sub64i (hx : ev cx fr x = some (.int .u64 m)) (hy : ev cx fr y = some (.int .u64 n)) (hm : m < 18446744073709551616) (h : n ≤ m) : Yl P cx fr Γ (.binOp .sub tx x y tz) ty (.int .u64 ((m - n : Nat) : Int)) := by
  have q := Yl.sub (P := P) (Γ := Γ) (ty := ty) (tx := tx) (tz := tz) hx hy
  rwa [show (m : Int) - (n : Int) = ((m - n : Nat) : Int) by omega, wrap_uns_in rfl (show m - n < 2 ^ IntKind.u64.bits from Nat.lt_of_le_of_lt (Nat.sub_le _ _) hm)] at q
theorem Yl.and64 (hx : ev cx fr x = some (.int .u64 m)) (hy : ev cx fr y = some (.int .u64 n)) (hm : m < 18446744073709551616) (hn : n < 18446744073709551616) : Yl P cx fr Γ (.binOp .and tx x y tz) ty (.int .u64 ((m &&& n : Nat) : Int)) := Yl.andN rfl hm hn hx hy
theorem Yl.or64 (hx : ev cx fr x = some (.int .u64 m)) (hy : ev cx fr y = some (.int .u64 n)) (hm : m < 18446744073709551616) (hn : n < 18446744073709551616) : Yl P cx fr Γ (.binOp .or tx x y tz) ty (.int .u64 ((m ||| n : Nat) : Int)) := Yl.orN rfl hm hn hx hy
theorem Yl.xor64n (hx : ev cx fr x = some (.int .u64 m)) (hy : ev cx fr y = some (.int .u64 n)) (hm : m < 18446744073709551616) (hn : n < 18446744073709551616) : Yl P cx fr Γ (.binOp .xor tx x y tz) ty (.int .u64 ((m ^^^ n : Nat) : Int)) := Yl.xorN rfl hm hn hx hy
theorem Yl.shr64 {j : IntKind} (hx : ev cx fr x = some (.int .u64 m)) (hy : ev cx fr y = some (.int j n)) (hn : n ≤ 64) : Yl P cx fr Γ (.binOp .shr tx x y tz) ty (.int .u64 ((m / 2 ^ n : Nat) : Int)) := Yl.shrN hx hy hn
theorem Yl.shl64 {j : IntKind} (hx : ev cx fr x = some (.int .u64 m)) (hy : ev cx fr y = some (.int j n)) (hn : n ≤ 64) : Yl P cx fr Γ (.binOp .shl tx x y tz) ty (.int .u64 ((m * 2 ^ n % 18446744073709551616 : Nat) : Int)) := Yl.shlN rfl hx hy hn
theorem Yl.quo64 (hx : ev cx fr x = some (.int .u64 m)) (hy : ev cx fr y = some (.int .u64 n)) (hm : m < 18446744073709551616) (h0 : 0 < n) : Yl P cx fr Γ (.binOp .quo tx x y tz) ty (.int .u64 ((m / n : Nat) : Int)) := Yl.quoN rfl hm hx hy h0

end
section
variable {x y : Operand} {tx tz : TypeId} {m n : Nat}
theorem Yl.and8c (hx : ev cx fr x = some (.int .u8 m)) (hy : ev cx fr y = some (.int .u8 (@OfNat.ofNat Int n (@instOfNat n)))) (hm : m < 256) (hn : (OfNat.ofNat n : Nat) < 256) : Yl P cx fr Γ (.binOp .and tx x y tz) ty (.int .u8 ((m &&& (OfNat.ofNat n : Nat) : Nat) : Int)) := Yl.and8 (n := OfNat.ofNat n) hx hy hm hn
theorem Yl.or8c (hx : ev cx fr x = some (.int .u8 m)) (hy : ev cx fr y = some (.int .u8 (@OfNat.ofNat Int n (@instOfNat n)))) (hm : m < 256) (hn : (OfNat.ofNat n : Nat) < 256) : Yl P cx fr Γ (.binOp .or tx x y tz) ty (.int .u8 ((m ||| (OfNat.ofNat n : Nat) : Nat) : Int)) := Yl.or8 (n := OfNat.ofNat n) hx hy hm hn
theorem Yl.xor8c (hx : ev cx fr x = some (.int .u8 m)) (hy : ev cx fr y = some (.int .u8 (@OfNat.ofNat Int n (@instOfNat n)))) (hm : m < 256) (hn : (OfNat.ofNat n : Nat) < 256) : Yl P cx fr Γ (.binOp .xor tx x y tz) ty (.int .u8 ((m ^^^ (OfNat.ofNat n : Nat) : Nat) : Int)) := Yl.xor8n (n := OfNat.ofNat n) hx hy hm hn
theorem Yl.shr8c {j : IntKind} (hx : ev cx fr x = some (.int .u8 m)) (hy : ev cx fr y = some (.int j (@OfNat.ofNat Int n (@instOfNat n)))) (hn : (OfNat.ofNat n : Nat) ≤ 8) : Yl P cx fr Γ (.binOp .shr tx x y tz) ty (.int .u8 ((m / 2 ^ (OfNat.ofNat n : Nat) : Nat) : Int)) := Yl.shr8 (n := OfNat.ofNat n) hx hy hn
theorem Yl.shl8c {j : IntKind} (hx : ev cx fr x = some (.int .u8 m)) (hy : ev cx fr y = some (.int j (@OfNat.ofNat Int n (@instOfNat n)))) (hn : (OfNat.ofNat n : Nat) ≤ 8) : Yl P cx fr Γ (.binOp .shl tx x y tz) ty (.int .u8 ((m * 2 ^ (OfNat.ofNat n : Nat) % 256 : Nat) : Int)) := Yl.shl8 (n := OfNat.ofNat n) hx hy hn
theorem Yl.quo8c (hx : ev cx fr x = some (.int .u8 m)) (hy : ev cx fr y = some (.int .u8 (@OfNat.ofNat Int n (@instOfNat n)))) (hm : m < 256) (h0 : 0 < (OfNat.ofNat n : Nat)) : Yl P cx fr Γ (.binOp .quo tx x y tz) ty (.int .u8 ((m / (OfNat.ofNat n : Nat) : Nat) : Int)) := Yl.quo8 (n := OfNat.ofNat n) hx hy hm h0
theorem Yl.sub8c (hx : ev cx fr x = some (.int .u8 m)) (hy : ev cx fr y = some (.int .u8 (@OfNat.ofNat Int n (@instOfNat n)))) (hm : m < 256) (h : (OfNat.ofNat n : Nat) ≤ m) : Yl P cx fr Γ (.binOp .sub tx x y tz) ty (.int .u8 ((m - (OfNat.ofNat n : Nat) : Nat) : Int)) := Yl.sub8i (n := OfNat.ofNat n) hx hy hm h
theorem Yl.add8ci (hx : ev cx fr x = some (.int .u8 m)) (hy : ev cx fr y = some (.int .u8 (@OfNat.ofNat Int n (@instOfNat n)))) (h : m + (OfNat.ofNat n : Nat) < 256) : Yl P cx fr Γ (.binOp .add tx x y tz) ty (.int .u8 ((m + (OfNat.ofNat n : Nat) : Nat) : Int)) := Yl.add8i (n := OfNat.ofNat n) hx hy h
theorem Yl.add8c (hx : ev cx fr x = some (.int .u8 m)) (hy : ev cx fr y = some (.int .u8 (@OfNat.ofNat Int n (@instOfNat n)))) : Yl P cx fr Γ (.binOp .add tx x y tz) ty (.int .u8 (((m + (OfNat.ofNat n : Nat)) % 256 : Nat) : Int)) := Yl.addM8 (n := OfNat.ofNat n) hx hy
theorem Yl.mul8ci (hx : ev cx fr x = some (.int .u8 m)) (hy : ev cx fr y = some (.int .u8 (@OfNat.ofNat Int n (@instOfNat n)))) (h : m * (OfNat.ofNat n : Nat) < 256) : Yl P cx fr Γ (.binOp .mul tx x y tz) ty (.int .u8 ((m * (OfNat.ofNat n : Nat) : Nat) : Int)) := Yl.mul8i (n := OfNat.ofNat n) hx hy h
theorem Yl.mul8c (hx : ev cx fr x = some (.int .u8 m)) (hy : ev cx fr y = some (.int .u8 (@OfNat.ofNat Int n (@instOfNat n)))) : Yl P cx fr Γ (.binOp .mul tx x y tz) ty (.int .u8 (((m * (OfNat.ofNat n : Nat)) % 256 : Nat) : Int)) := Yl.mulM8 (n := OfNat.ofNat n) hx hy
theorem Yl.and32c (hx : ev cx fr x = some (.int .u32 m)) (hy : ev cx fr y = some (.int .u32 (@OfNat.ofNat Int n (@instOfNat n)))) (hm : m < 4294967296) (hn : (OfNat.ofNat n : Nat) < 4294967296) : Yl P cx fr Γ (.binOp .and tx x y tz) ty (.int .u32 ((m &&& (OfNat.ofNat n : Nat) : Nat) : Int)) := Yl.and32 (n := OfNat.ofNat n) hx hy hm hn
theorem Yl.or32c (hx : ev cx fr x = some (.int .u32 m)) (hy : ev cx fr y = some (.int .u32 (@OfNat.ofNat Int n (@instOfNat n)))) (hm : m < 4294967296) (hn : (OfNat.ofNat n : Nat) < 4294967296) : Yl P cx fr Γ (.binOp .or tx x y tz) ty (.int .u32 ((m ||| (OfNat.ofNat n : Nat) : Nat) : Int)) := Yl.or32 (n := OfNat.ofNat n) hx hy hm hn
theorem Yl.xor32c (hx : ev cx fr x = some (.int .u32 m)) (hy : ev cx fr y = some (.int .u32 (@OfNat.ofNat Int n (@instOfNat n)))) (hm : m < 4294967296) (hn : (OfNat.ofNat n : Nat) < 4294967296) : Yl P cx fr Γ (.binOp .xor tx x y tz) ty (.int .u32 ((m ^^^ (OfNat.ofNat n : Nat) : Nat) : Int)) := Yl.xor32n (n := OfNat.ofNat n) hx hy hm hn
theorem Yl.shr32c {j : IntKind} (hx : ev cx fr x = some (.int .u32 m)) (hy : ev cx fr y = some (.int j (@OfNat.ofNat Int n (@instOfNat n)))) (hn : (OfNat.ofNat n : Nat) ≤ 32) : Yl P cx fr Γ (.binOp .shr tx x y tz) ty (.int .u32 ((m / 2 ^ (OfNat.ofNat n : Nat) : Nat) : Int)) := Yl.shr32 (n := OfNat.ofNat n) hx hy hn
theorem Yl.shl32c {j : IntKind} (hx : ev cx fr x = some (.int .u32 m)) (hy : ev cx fr y = some (.int j (@OfNat.ofNat Int n (@instOfNat n)))) (hn : (OfNat.ofNat n : Nat) ≤ 32) : Yl P cx fr Γ (.binOp .shl tx x y tz) ty (.int .u32 ((m * 2 ^ (OfNat.ofNat n : Nat) % 4294967296 : Nat) : Int)) := Yl.shl32 (n := OfNat.ofNat n) hx hy hn
theorem Yl.quo32c (hx : ev cx fr x = some (.int .u32 m)) (hy : ev cx fr y = some (.int .u32 (@OfNat.ofNat Int n (@instOfNat n)))) (hm : m < 4294967296) (h0 : 0 < (OfNat.ofNat n : Nat)) : Yl P cx fr Γ (.binOp .quo tx x y tz) ty (.int .u32 ((m / (OfNat.ofNat n : Nat) : Nat) : Int)) := Yl.quo32 (n := OfNat.ofNat n) hx hy hm h0
theorem Yl.sub32c (hx : ev cx fr x = some (.int .u32 m)) (hy : ev cx fr y = some (.int .u32 (@OfNat.ofNat Int n (@instOfNat n)))) (hm : m < 4294967296) (h : (OfNat.ofNat n : Nat) ≤ m) : Yl P cx fr Γ (.binOp .sub tx x y tz) ty (.int .u32 ((m - (OfNat.ofNat n : Nat) : Nat) : Int)) := Yl.sub32i (n := OfNat.ofNat n) hx hy hm h
theorem Yl.add32ci (hx : ev cx fr x = some (.int .u32 m)) (hy : ev cx fr y = some (.int .u32 (@OfNat.ofNat Int n (@instOfNat n)))) (h : m + (OfNat.ofNat n : Nat) < 4294967296) : Yl P cx fr Γ (.binOp .add tx x y tz) ty (.int .u32 ((m + (OfNat.ofNat n : Nat) : Nat) : Int)) := Yl.add32i (n := OfNat.ofNat n) hx hy h
theorem Yl.add32c (hx : ev cx fr x = some (.int .u32 m)) (hy : ev cx fr y = some (.int .u32 (@OfNat.ofNat Int n (@instOfNat n)))) : Yl P cx fr Γ (.binOp .add tx x y tz) ty (.int .u32 (((m + (OfNat.ofNat n : Nat)) % 4294967296 : Nat) : Int)) := Yl.addM32 (n := OfNat.ofNat n) hx hy
theorem Yl.mul32ci (hx : ev cx fr x = some (.int .u32 m)) (hy : ev cx fr y = some (.int .u32 (@OfNat.ofNat Int n (@instOfNat n)))) (h : m * (OfNat.ofNat n : Nat) < 4294967296) : Yl P cx fr Γ (.binOp .mul tx x y tz) ty (.int .u32 ((m * (OfNat.ofNat n : Nat) : Nat) : Int)) := Yl.mul32i (n := OfNat.ofNat n) hx hy h
theorem Yl.mul32c (hx : ev cx fr x = some (.int .u32 m)) (hy : ev cx fr y = some (.int .u32 (@OfNat.ofNat Int n (@instOfNat n)))) : Yl P cx fr Γ (.binOp .mul tx x y tz) ty (.int .u32 (((m * (OfNat.ofNat n : Nat)) % 4294967296 : Nat) : Int)) := Yl.mulM32 (n := OfNat.ofNat n) hx hy
theorem Yl.and64c (hx : ev cx fr x = some (.int .u64 m)) (hy : ev cx fr y = some (.int .u64 (@OfNat.ofNat Int n (@instOfNat n)))) (hm : m < 18446744073709551616) (hn : (OfNat.ofNat n : Nat) < 18446744073709551616) : Yl P cx fr Γ (.binOp .and tx x y tz) ty (.int .u64 ((m &&& (OfNat.ofNat n : Nat) : Nat) : Int)) := Yl.and64 (n := OfNat.ofNat n) hx hy hm hn
theorem Yl.or64c (hx : ev cx fr x = some (.int .u64 m)) (hy : ev cx fr y = some (.int .u64 (@OfNat.ofNat Int n (@instOfNat n)))) (hm : m < 18446744073709551616) (hn : (OfNat.ofNat n : Nat) < 18446744073709551616) : Yl P cx fr Γ (.binOp .or tx x y tz) ty (.int .u64 ((m ||| (OfNat.ofNat n : Nat) : Nat) : Int)) := Yl.or64 (n := OfNat.ofNat n) hx hy hm hn
theorem Yl.xor64c (hx : ev cx fr x = some (.int .u64 m)) (hy : ev cx fr y = some (.int .u64 (@OfNat.ofNat Int n (@instOfNat n)))) (hm : m < 18446744073709551616) (hn : (OfNat.ofNat n : Nat) < 18446744073709551616) : Yl P cx fr Γ (.binOp .xor tx x y tz) ty (.int .u64 ((m ^^^ (OfNat.ofNat n : Nat) : Nat) : Int)) := Yl.xor64n (n := OfNat.ofNat n) hx hy hm hn
theorem Yl.shr64c {j : IntKind} (hx : ev cx fr x = some (.int .u64 m)) (hy : ev cx fr y = some (.int j (@OfNat.ofNat Int n (@instOfNat n)))) (hn : (OfNat.ofNat n : Nat) ≤ 64) : Yl P cx fr Γ (.binOp .shr tx x y tz) ty (.int .u64 ((m / 2 ^ (OfNat.ofNat n : Nat) : Nat) : Int)) := Yl.shr64 (n := OfNat.ofNat n) hx hy hn
theorem Yl.shl64c {j : IntKind} (hx : ev cx fr x = some (.int .u64 m)) (hy : ev cx fr y = some (.int j (@OfNat.ofNat Int n (@instOfNat n)))) (hn : (OfNat.ofNat n : Nat) ≤ 64) : Yl P cx fr Γ (.binOp .shl tx x y tz) ty (.int .u64 ((m * 2 ^ (OfNat.ofNat n : Nat) % 18446744073709551616 : Nat) : Int)) := Yl.shl64 (n := OfNat.ofNat n) hx hy hn
theorem Yl.quou64c (hx : ev cx fr x = some (.int .u64 m)) (hy : ev cx fr y = some (.int .u64 (@OfNat.ofNat Int n (@instOfNat n)))) (hm : m < 18446744073709551616) (h0 : 0 < (OfNat.ofNat n : Nat)) : Yl P cx fr Γ (.binOp .quo tx x y tz) ty (.int .u64 ((m / (OfNat.ofNat n : Nat) : Nat) : Int)) := Yl.quo64 (n := OfNat.ofNat n) hx hy hm h0
theorem Yl.sub64c (hx : ev cx fr x = some (.int .u64 m)) (hy : ev cx fr y = some (.int .u64 (@OfNat.ofNat Int n (@instOfNat n)))) (hm : m < 18446744073709551616) (h : (OfNat.ofNat n : Nat) ≤ m) : Yl P cx fr Γ (.binOp .sub tx x y tz) ty (.int .u64 ((m - (OfNat.ofNat n : Nat) : Nat) : Int)) := Yl.sub64i (n := OfNat.ofNat n) hx hy hm h
theorem Yl.add64ci (hx : ev cx fr x = some (.int .u64 m)) (hy : ev cx fr y = some (.int .u64 (@OfNat.ofNat Int n (@instOfNat n)))) (h : m + (OfNat.ofNat n : Nat) < 18446744073709551616) : Yl P cx fr Γ (.binOp .add tx x y tz) ty (.int .u64 ((m + (OfNat.ofNat n : Nat) : Nat) : Int)) := Yl.add64i (n := OfNat.ofNat n) hx hy h
theorem Yl.add64c (hx : ev cx fr x = some (.int .u64 m)) (hy : ev cx fr y = some (.int .u64 (@OfNat.ofNat Int n (@instOfNat n)))) : Yl P cx fr Γ (.binOp .add tx x y tz) ty (.int .u64 (((m + (OfNat.ofNat n : Nat)) % 18446744073709551616 : Nat) : Int)) := Yl.addM64 (n := OfNat.ofNat n) hx hy
theorem Yl.mul64ci (hx : ev cx fr x = some (.int .u64 m)) (hy : ev cx fr y = some (.int .u64 (@OfNat.ofNat Int n (@instOfNat n)))) (h : m * (OfNat.ofNat n : Nat) < 18446744073709551616) : Yl P cx fr Γ (.binOp .mul tx x y tz) ty (.int .u64 ((m * (OfNat.ofNat n : Nat) : Nat) : Int)) := Yl.mul64i (n := OfNat.ofNat n) hx hy h
theorem Yl.mul64c (hx : ev cx fr x = some (.int .u64 m)) (hy : ev cx fr y = some (.int .u64 (@OfNat.ofNat Int n (@instOfNat n)))) : Yl P cx fr Γ (.binOp .mul tx x y tz) ty (.int .u64 (((m * (OfNat.ofNat n : Nat)) % 18446744073709551616 : Nat) : Int)) := Yl.mulM64 (n := OfNat.ofNat n) hx hy
theorem Yl.remc {k : IntKind} (hx : ev cx fr x = some (.int k m)) (hy : ev cx fr y = some (.int k (@OfNat.ofNat Int n (@instOfNat n)))) (h0 : 0 < (OfNat.ofNat n : Nat)) : Yl P cx fr Γ (.binOp .rem tx x y tz) ty (.int k ((m % (OfNat.ofNat n : Nat) : Nat) : Int)) := Yl.remN (n := OfNat.ofNat n) hx hy h0
theorem Yl.quo64c (hx : ev cx fr x = some (.int .i64 m)) (hy : ev cx fr y = some (.int .i64 (@OfNat.ofNat Int n (@instOfNat n)))) (hm : m ≤ 9223372036854775807) (h0 : 0 < (OfNat.ofNat n : Nat)) : Yl P cx fr Γ (.binOp .quo tx x y tz) ty (.int .i64 ((m / (OfNat.ofNat n : Nat) : Nat) : Int)) := Yl.quo64N (n := OfNat.ofNat n) hx hy hm h0
end
theorem u8v {x : Nat} (h : x < 256) : (Value.int .u8 (x : Int)) = .int .u8 ((UInt8.ofNat x).toNat : Int) := by
  have : (UInt8.ofNat x).toNat = x := by simp; omega
  rw [this]
end Go.Sl
