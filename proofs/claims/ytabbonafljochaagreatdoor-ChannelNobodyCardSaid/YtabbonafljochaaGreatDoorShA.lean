/- SHA-256: the plain words' rotation; the program's and the document's. -/
import Derived.Test.YtabbonafljochaaGreatDoorEnO
set_option linter.unusedSimpArgs false
set_option linter.unusedVariables false
namespace Go.Sh
open Go Go.Sl
/-- A word turned to the right. -/
def rotr (x n : Nat) : Nat := x / 2 ^ n ||| x * 2 ^ (32 - n) % 4294967296
theorem or_lt {x y : Nat} (hx : x < 4294967296) (hy : y < 4294967296) : x ||| y < 4294967296 := Nat.or_lt_two_pow (n := 32) hx hy
theorem xor_lt {x y : Nat} (hx : x < 4294967296) (hy : y < 4294967296) : x ^^^ y < 4294967296 := Nat.xor_lt_two_pow (n := 32) hx hy
theorem and_lt {x y : Nat} (hx : x < 4294967296) : x &&& y < 4294967296 := Nat.lt_of_le_of_lt Nat.and_le_left hx
theorem div_lt {x n : Nat} (hx : x < 4294967296) : x / n < 4294967296 := Nat.lt_of_le_of_lt (Nat.div_le_self _ _) hx
theorem rotr_lt {x n : Nat} (hx : x < 4294967296) : rotr x n < 4294967296 := or_lt (div_lt hx) (Nat.mod_lt _ (by decide))
theorem and31 (x : Nat) : x &&& 31 = x % 32 := Nat.and_two_pow_sub_one_eq_mod x 5
set_option maxRecDepth 100000
set_option maxHeartbeats 4000000
attribute [local irreducible] GK GO Yl Wt Ef Hd GH KH wpListIn Code.wpIn toBody roundQ poolOf rs RS YieldOk IterOk VOk row star exs mp lp Sat pt FnOk Rd bodyPost bodyPostM Lv Ret Exit.then Exit.inBlock Exit.noGoto Int.decLt Int.decLe Int.instDecidableEq
variable {hF : Hp}
theorem rot_ok {x n : Nat} (hx : x < 4294967296) (h1 : 0 < n) (hn : n < 32) :
    FnOk Go.Proofs.Tryz.prog 137 [.int .u32 x, .int .i64 n] [] hF (fun v Γ => v = .int .u32 (rotr x n) ∧ Γ = []) := by
  refine FnOk.intro 15 Go.Proofs.Tryz.func137 rfl rfl fun w0 => ?_
  have hw : IntKind.u64.wrap (32 - (n : Int)) = ((32 - n : Nat) : Int) := by rw [show (32 - (n : Int)) = ((32 - n : Nat) : Int) by omega]; exact wrap_uns_in rfl (by show 32 - n < 18446744073709551616; omega)
  have hd := div_lt (n := 2 ^ n) hx
  have hm := Nat.mod_lt (x * 2 ^ (32 - n)) (show 0 < 4294967296 by decide)
  (repeat (first | refine GK.ro ?_ | (refine GK.box ?_; intro bl) | (refine GK.mkMap ?_; intro bm) | (refine GK.build0 tb ?_; intro bs)))
  rw [hw]
  (repeat (first | refine GK.ro ?_ | (refine GK.box ?_; intro bl) | (refine GK.mkMap ?_; intro bm) | (refine GK.build0 tb ?_; intro bs)))
  exact GQ.fin1 rfl (Rv.tmp rfl) (fun _ s => Sat.sub (by repeat (first | exact SubR.nil | apply SubR.cons 0 rfl | apply SubR.cons 1 rfl | apply SubR.cons 2 rfl | apply SubR.cons 3 rfl | apply SubR.cons 4 rfl | apply SubR.cons 5 rfl | apply SubR.cons 6 rfl | apply SubR.cons 7 rfl | apply SubR.cons 8 rfl | apply SubR.cons 9 rfl | apply SubR.cons 10 rfl | apply SubR.cons 11 rfl | apply SubR.cons 12 rfl | apply SubR.cons 13 rfl | apply SubR.cons 14 rfl | apply SubR.cons 15 rfl)) s) ⟨rfl, rfl⟩
theorem rotl_ok {x n : Nat} (hx : x < 4294967296) (h1 : 0 < n) (hn : n < 32) :
    FnOk Go.Proofs.Tryz.prog 143 [.int .u32 x, .int .i64 (-(n : Int))] [] hF (fun v Γ => v = .int .u32 (rotr x n) ∧ Γ = []) := by
  refine FnOk.intro 17 Go.Proofs.Tryz.func143 rfl rfl fun w0 => ?_
  have hw : IntKind.u64.wrap (-(n : Int)) = ((18446744073709551616 - n : Nat) : Int) := by
    rw [IntKind.wrap_u64]; omega
  have hd := div_lt (n := 2 ^ n) hx
  have hm := Nat.mod_lt (x * 2 ^ (32 - n)) (show 0 < 4294967296 by decide)
  (repeat (first | refine GK.ro ?_ | (refine GK.box ?_; intro bl) | (refine GK.mkMap ?_; intro bm) | (refine GK.build0 tb ?_; intro bs)))
  rw [hw]
  (repeat (first | refine GK.ro ?_ | (refine GK.box ?_; intro bl) | (refine GK.mkMap ?_; intro bm) | (refine GK.build0 tb ?_; intro bs)))
  rw [and31, show (18446744073709551616 - n) % 32 = 32 - n by omega]
  (repeat (first | refine GK.ro ?_ | (refine GK.box ?_; intro bl) | (refine GK.mkMap ?_; intro bm) | (refine GK.build0 tb ?_; intro bs)))
  refine GL.cons ?_
  refine GO.yield (by first | exact Wt.none | exact Wt.some rfl rfl (by first | exact rfl | decide +kernel)) (Yl.sub64i (m := 32) rfl rfl (by omega) (by omega)) ?_
  rw [show 32 - (32 - n) = n by omega]
  (repeat (first | refine GK.ro ?_ | (refine GK.box ?_; intro bl) | (refine GK.mkMap ?_; intro bm) | (refine GK.build0 tb ?_; intro bs)))
  exact GQ.fin1 rfl (Rv.tmp rfl) (fun _ s => Sat.sub (by repeat (first | exact SubR.nil | apply SubR.cons 0 rfl | apply SubR.cons 1 rfl | apply SubR.cons 2 rfl | apply SubR.cons 3 rfl | apply SubR.cons 4 rfl | apply SubR.cons 5 rfl | apply SubR.cons 6 rfl | apply SubR.cons 7 rfl | apply SubR.cons 8 rfl | apply SubR.cons 9 rfl | apply SubR.cons 10 rfl | apply SubR.cons 11 rfl | apply SubR.cons 12 rfl | apply SubR.cons 13 rfl | apply SubR.cons 14 rfl | apply SubR.cons 15 rfl)) s) ⟨by rw [Nat.or_comm]; rfl, rfl⟩
end Go.Sh
