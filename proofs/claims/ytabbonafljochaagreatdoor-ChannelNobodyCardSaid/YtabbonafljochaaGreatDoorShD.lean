/- SHA-256: the program's block walked. -/
import Derived.Test.YtabbonafljochaaGreatDoorShC
set_option linter.unusedSimpArgs false
set_option linter.unusedVariables false
namespace Go.Sh
open Go Go.Sl
theorem Yl.cpl32 {P : Program} {cx : Cx} {fr : Fr} {Γ : List HProp} {ty tx : TypeId} {x : Operand} {m : Nat} (hx : ev cx fr x = some (.int .u32 (m : Int))) (hm : m < 4294967296) : Yl P cx fr Γ (.unOp .xor tx x) ty (.int .u32 ((4294967295 - m : Nat) : Int)) := fun a w d pos af g s => by
  have h1 : Op.unary .xor (.int .u32 (m : Int)) = pure (.int .u32 ((4294967295 - m : Nat) : Int)) := by
    show Op.intBits .xor .u32 4294967295 (m : Int) = _
    have e : ((BitVec.ofInt 32 4294967295 ^^^ BitVec.ofInt 32 (m : Int)).toNat : Nat) = 4294967295 - m := by
      have a1 : (BitVec.ofInt 32 4294967295) = BitVec.allOnes 32 := by decide
      rw [a1, BitVec.allOnes_xor, BitVec.toNat_not, BitVec.ofInt_natCast, BitVec.toNat_ofNat, Nat.mod_eq_of_lt (by omega)]
    show (pure (.int .u32 (IntKind.u32.wrap ((BitVec.ofInt 32 4294967295 ^^^ BitVec.ofInt 32 (m : Int)).toNat : Int))) : Sem Value) = _
    rw [e, IntKind.wrap_u32]
    try (congr 2; omega)
  simp [execOp, s.eval hx, h1]
set_option maxRecDepth 100000
set_option maxHeartbeats 4000000
attribute [local irreducible] GK GO Yl Wt Ef Hd GH KH wpListIn Code.wpIn toBody roundQ poolOf rs RS YieldOk IterOk VOk row star exs mp lp Sat pt FnOk Rd bodyPost bodyPostM Lv Ret Exit.then Exit.inBlock Exit.noGoto Int.decLt Int.decLe Int.instDecidableEq
attribute [local irreducible] load16 sched rotr rnds
set_option pp.deepTerms true
variable {hF H : Hp}
theorem eight {z : List Nat} (h : Ws 8 z) : ∃ a0 a1 a2 a3 a4 a5 a6 a7, z = [a0, a1, a2, a3, a4, a5, a6, a7] ∧ a0 < 4294967296 ∧ a1 < 4294967296 ∧ a2 < 4294967296 ∧ a3 < 4294967296 ∧ a4 < 4294967296 ∧ a5 < 4294967296 ∧ a6 < 4294967296 ∧ a7 < 4294967296 := by
  obtain ⟨h1, h2⟩ := h
  match z, h1 with
  | [a0, a1, a2, a3, a4, a5, a6, a7], _ => exact ⟨a0, a1, a2, a3, a4, a5, a6, a7, rfl, h2 _ (by simp), h2 _ (by simp), h2 _ (by simp), h2 _ (by simp), h2 _ (by simp), h2 _ (by simp), h2 _ (by simp), h2 _ (by simp)⟩
theorem rnds_zero (K w s : List Nat) : rnds K w s 0 = s := by rw [rnds]
theorem rnds_succ (K w s : List Nat) (t : Nat) : rnds K w s (t + 1) = step (rnds K w s t) (K.getD t 0) (w.getD t 0) := by rw [rnds]
def addN (a s : List Nat) : Nat → List Nat
  | 0 => a
  | i + 1 => (addN a s i).set i (((addN a s i).getD i 0 + s.getD i 0) % 4294967296)
theorem addN_zero (a s : List Nat) : addN a s 0 = a := rfl
theorem addN_succ (a s : List Nat) (i : Nat) : addN a s (i + 1) = (addN a s i).set i (((addN a s i).getD i 0 + s.getD i 0) % 4294967296) := rfl
theorem addN_ws {a s : List Nat} (h : Ws 8 a) : ∀ i, Ws 8 (addN a s i)
  | 0 => h
  | i + 1 => (addN_ws h i).set (Nat.mod_lt _ (by decide))
theorem addN_eq {a s : List Nat} (ha : Ws 8 a) (hs : Ws 8 s) : addN a s 8 = addS a s := by
  obtain ⟨a0, a1, a2, a3, a4, a5, a6, a7, rfl, _⟩ := eight ha
  obtain ⟨b0, b1, b2, b3, b4, b5, b6, b7, rfl, _⟩ := eight hs
  rfl
attribute [local irreducible] addN
theorem block_ok {v : Value} {b : By} {s K : List Nat} (hs : Ws 8 s) (hKw : Ws 64 K) (hK : ∃ e fz, H 1 = some (.cells ⟨u32s K⟩ e fz)) (hb : rs H v b.length 1 (u8s b)) (hl : 64 ≤ b.length) :
    FnOk Go.Proofs.Tryz.prog 111 [.agg ⟨u32s s⟩, v] [poolOf H] hF (fun u Γ => u = .agg ⟨u32s (block K s b)⟩ ∧ Γ = [poolOf H]) := by
  obtain ⟨eK, fK, hK⟩ := hK
  obtain ⟨w, hw⟩ : ∃ w, sched b 48 = w := ⟨_, rfl⟩
  have hww : Ws 64 w := hw ▸ sched_ws b 48
  have hsl : (u32s s).length = 8 := by rw [u32s_len, hs.1]
  have hwl : (u32s w).length = 64 := by rw [u32s_len, hww.1]
  refine FnOk.intro 112 Go.Proofs.Tryz.func111 rfl rfl fun w0 => ?_
  (repeat (first | refine GK.ro ?_ | (refine GK.box ?_; intro bl) | (refine GK.mkMap ?_; intro bm) | (refine GK.build0 tb ?_; intro bs)))
  refine GL.cons ?_; refine Gt.allocAny tb (by first | exact Wt.none | exact Wt.some rfl rfl (by first | exact rfl | decide +kernel)) (by exact rfl) (by exact rfl) ?_
  intro b2 l2 hl2
  (repeat (first | refine GK.ro ?_ | (refine GK.box ?_; intro bl) | (refine GK.mkMap ?_; intro bm) | (refine GK.build0 tb ?_; intro bs)))
  refine GL.cons ?_; refine GO.callA (fun hF' hle hH => spread_ok hb hl) (by first | exact Wt.none | exact Wt.some rfl rfl (by first | exact rfl | decide +kernel)) (by kernel_rfl) rfl rfl (by repeat (first | exact SubR.nil | apply SubR.cons 0 rfl | apply SubR.cons 1 rfl | apply SubR.cons 2 rfl | apply SubR.cons 3 rfl | apply SubR.cons 4 rfl | apply SubR.cons 5 rfl | apply SubR.cons 6 rfl | apply SubR.cons 7 rfl | apply SubR.cons 8 rfl | apply SubR.cons 9 rfl | apply SubR.cons 10 rfl | apply SubR.cons 11 rfl | apply SubR.cons 12 rfl | apply SubR.cons 13 rfl | apply SubR.cons 14 rfl | apply SubR.cons 15 rfl)) ?_
  rintro u Γ' ⟨rfl, rfl⟩
  rw [hw]
  (repeat (first | refine GK.ro ?_ | (refine GK.box ?_; intro bl) | (refine GK.mkMap ?_; intro bm) | (refine GK.build0 tb ?_; intro bs)))
  refine GL.cons ?_; refine Gt.allocAny tb (by first | exact Wt.none | exact Wt.some rfl rfl (by first | exact rfl | decide +kernel)) (by exact rfl) (by exact rfl) ?_
  intro b3 l3 hl3
  (repeat (first | refine GK.ro ?_ | (refine GK.box ?_; intro bl) | (refine GK.mkMap ?_; intro bm) | (refine GK.build0 tb ?_; intro bs)))
  refine GL.cons ?_
  refine Gt.storeAll tb 0 (by first | exact Wt.none | exact Wt.some rfl rfl (by first | exact rfl | decide +kernel)) rfl rfl rfl hwl (fun u hu => by obtain ⟨x, _, rfl⟩ := List.mem_map.1 hu; rfl) rfl (by omega) ?_
  (repeat (first | refine GK.ro ?_ | (refine GK.box ?_; intro bl) | (refine GK.mkMap ?_; intro bm) | (refine GK.build0 tb ?_; intro bs)))
  have hA : At (u32s s) 0 (u32s s) := At.all _
  (repeat (first | refine GK.ro ?_ | (refine GK.box ?_; intro bl) | (refine GK.mkMap ?_; intro bm) | (refine GK.build0 tb ?_; intro bs)))
  refine GL.cons ?_; refine Gt.allocAny tb (by first | exact Wt.none | exact Wt.some rfl rfl (by first | exact rfl | decide +kernel)) (by exact rfl) (by exact rfl) ?_
  intro b4 l4 hl4
  (repeat (first | refine GK.ro ?_ | (refine GK.box ?_; intro bl) | (refine GK.mkMap ?_; intro bm) | (refine GK.build0 tb ?_; intro bs)))
  refine GL.cons ?_
  refine Gt.storeAll tb 0 (by first | exact Wt.none | exact Wt.some rfl rfl (by first | exact rfl | decide +kernel)) rfl rfl rfl hsl (fun u hu => by obtain ⟨x, _, rfl⟩ := List.mem_map.1 hu; rfl) rfl (by omega) ?_
  (repeat (first | refine GK.ro ?_ | (refine GK.box ?_; intro bl) | (refine GK.mkMap ?_; intro bm) | (refine GK.build0 tb ?_; intro bs)))
  refine GK.weak (fr' := [(2, .pointer (some ⟨bl, 0, none⟩)), (4, .pointer (some ⟨b2, 0, none⟩)), (5, .pointer (some ⟨b3, 0, none⟩)), (6, .pointer (some ⟨b4, 0, none⟩)), (15, .int .i64 ((0 : Nat) : Int))]) (Γ' := [blk b4 162 (0, 0) (u32s (rnds K w s 0)), blk b3 149 (0, 0) (u32s w), blk b2 162 (0, 0) l2, blk bl 162 (0, 0) (u32s s), poolOf H]) (by repeat (first | exact trivial | refine ⟨rfl, ?_⟩)) (fun w0 st => by rw [rnds_zero]; exact st.sub (by repeat (first | exact SubR.nil | apply SubR.cons 0 rfl | apply SubR.cons 1 rfl | apply SubR.cons 2 rfl | apply SubR.cons 3 rfl | apply SubR.cons 4 rfl | apply SubR.cons 5 rfl | apply SubR.cons 6 rfl | apply SubR.cons 7 rfl | apply SubR.cons 8 rfl | apply SubR.cons 9 rfl | apply SubR.cons 10 rfl | apply SubR.cons 11 rfl | apply SubR.cons 12 rfl | apply SubR.cons 13 rfl | apply SubR.cons 14 rfl | apply SubR.cons 15 rfl))) (G.loopN (fun t : Nat => 64 - t) (fun t => [(2, .pointer (some ⟨bl, 0, none⟩)), (4, .pointer (some ⟨b2, 0, none⟩)), (5, .pointer (some ⟨b3, 0, none⟩)), (6, .pointer (some ⟨b4, 0, none⟩)), (15, .int .i64 (t : Int))]) (fun t => [blk b4 162 (0, 0) (u32s (rnds K w s t)), blk b3 149 (0, 0) (u32s w), blk b2 162 (0, 0) l2, blk bl 162 (0, 0) (u32s s), poolOf H])
    (fun t => t ≤ 64) (fun t ht k2 hk2 => ?_) 0 (Nat.zero_le _))
  clear hA
  obtain ⟨z, hz⟩ : ∃ z, rnds K w s t = z := ⟨_, rfl⟩
  have hzw : Ws 8 z := hz ▸ rnds_ws hs t
  rw [hz]
  (repeat (first | refine GK.ro ?_ | (refine GK.box ?_; intro bl) | (refine GK.mkMap ?_; intro bm) | (refine GK.build0 tb ?_; intro bs)))
  (first | refine G.condP rfl (fun hb => ?_) (fun hb => ?_) | refine G.condN rfl (fun hb => ?_) (fun hb => ?_) | refine G.cond rfl (fun hb => ?_) (fun hb => ?_))
  · obtain ⟨kt, hkt⟩ : ∃ x, K.getD t 0 = x := ⟨_, rfl⟩
    obtain ⟨wt, hwt⟩ : ∃ x, w.getD t 0 = x := ⟨_, rfl⟩
    have hkl : kt < 4294967296 := hkt ▸ getD_lt hKw t
    have hwl' : wt < 4294967296 := hwt ▸ getD_lt hww t
    have fK1 : (u32s K)[0 + (t : Int).toNat * 1]? = some (.int .u32 (kt : Int)) := by rw [show 0 + (t : Int).toNat * 1 = t by omega, ← hkt]; exact u32s_get (hKw.at (by omega)).1
    have fW1 : (u32s w)[0 + (t : Int).toNat * 1]? = some (.int .u32 (wt : Int)) := by rw [show 0 + (t : Int).toNat * 1 = t by omega, ← hwt]; exact u32s_get (hww.at (by omega)).1
    obtain ⟨a0, a1, a2, a3, a4, a5, a6, a7, rfl, q0, q1, q2, q3, q4, q5, q6, q7⟩ := eight hzw
    have hnext : rnds K w s (t + 1) = step [a0, a1, a2, a3, a4, a5, a6, a7] kt wt := by rw [rnds_succ, hz, hkt, hwt]
    rw [show u32s [a0, a1, a2, a3, a4, a5, a6, a7] = [.int .u32 (a0 : Int), .int .u32 (a1 : Int), .int .u32 (a2 : Int), .int .u32 (a3 : Int), .int .u32 (a4 : Int), .int .u32 (a5 : Int), .int .u32 (a6 : Int), .int .u32 (a7 : Int)] from rfl]
    (repeat (first | refine GK.ro ?_ | (refine GK.box ?_; intro bl) | (refine GK.mkMap ?_; intro bm) | (refine GK.build0 tb ?_; intro bs)))
    have g6 := rotr_lt (n := 6) q4
    have g11 := rotr_lt (n := 11) q4
    have g25 := rotr_lt (n := 25) q4
    have g7 := xor_lt g6 g11
    have g8 := xor_lt g7 g25
    have c1 : a4 &&& a5 < 4294967296 := and_lt q4
    have c2 : (4294967295 - a4) &&& a6 < 4294967296 := and_lt (by omega)
    have c3 := xor_lt c1 c2
    refine G.draw [] [blk b4 162 (0, 0) [.int .u32 (a0 : Int), .int .u32 (a1 : Int), .int .u32 (a2 : Int), .int .u32 (a3 : Int), .int .u32 (a4 : Int), .int .u32 (a5 : Int), .int .u32 (a6 : Int), .int .u32 (a7 : Int)], blk b3 149 (0, 0) (u32s w), poolOf H] (by kernel_rfl) ?_
    ((first | refine GH.to 0 ?_ | refine GH.tos 0 ?_); (first | refine GH.to 1 ?_ | refine GH.tos 1 ?_); (first | refine GH.to 2 ?_ | refine GH.tos 2 ?_); (first | refine GH.to 4 ?_ | refine GH.tos 4 ?_); (first | refine GH.to 7 ?_ | refine GH.tos 7 ?_); (first | refine GH.to 11 ?_ | refine GH.tos 11 ?_); (first | refine GH.to 12 ?_ | refine GH.tos 12 ?_); (first | refine GH.to 13 ?_ | refine GH.tos 13 ?_); (first | refine GH.to 14 ?_ | refine GH.tos 14 ?_); (first | refine GH.to 15 ?_ | refine GH.tos 15 ?_))
    refine GH.take 16 rfl (by kernel_rfl) (by first | exact Wt.none | exact Wt.some rfl rfl (by first | exact rfl | decide +kernel)) (fun _ st => st.sub (by repeat (first | exact SubR.nil | apply SubR.cons 0 rfl | apply SubR.cons 1 rfl | apply SubR.cons 2 rfl | apply SubR.cons 3 rfl | apply SubR.cons 4 rfl | apply SubR.cons 5 rfl | apply SubR.cons 6 rfl | apply SubR.cons 7 rfl | apply SubR.cons 8 rfl | apply SubR.cons 9 rfl | apply SubR.cons 10 rfl | apply SubR.cons 11 rfl | apply SubR.cons 12 rfl | apply SubR.cons 13 rfl | apply SubR.cons 14 rfl | apply SubR.cons 15 rfl))) (Yl.cpl32 rfl q4) ?_
    ((first | refine GH.to 17 ?_ | refine GH.tos 17 ?_); (first | refine GH.to 18 ?_ | refine GH.tos 18 ?_); (first | refine GH.to 19 ?_ | refine GH.tos 19 ?_); (first | refine GH.to 20 ?_ | refine GH.tos 20 ?_); (first | refine GH.to 22 ?_ | refine GH.tos 22 ?_); (first | refine GH.to 23 ?_ | refine GH.tos 23 ?_); (first | refine GH.to 24 ?_ | refine GH.tos 24 ?_); (first | refine GH.to 26 ?_ | refine GH.tos 26 ?_); (first | refine GH.to 27 ?_ | refine GH.tos 27 ?_); (first | refine GH.to 28 ?_ | refine GH.tos 28 ?_))
    refine GH.step 3 rfl (by kernel_rfl) ?_
    refine GO.callA (fun hF' hle hH => rotl_ok (x := a4) (n := 6) q4 (by omega) (by omega)) (by first | exact Wt.none | exact Wt.some rfl rfl (by first | exact rfl | decide +kernel)) (by kernel_rfl) rfl rfl (by repeat (first | exact SubR.nil | apply SubR.cons 0 rfl | apply SubR.cons 1 rfl | apply SubR.cons 2 rfl | apply SubR.cons 3 rfl | apply SubR.cons 4 rfl | apply SubR.cons 5 rfl | apply SubR.cons 6 rfl | apply SubR.cons 7 rfl | apply SubR.cons 8 rfl | apply SubR.cons 9 rfl | apply SubR.cons 10 rfl | apply SubR.cons 11 rfl | apply SubR.cons 12 rfl | apply SubR.cons 13 rfl | apply SubR.cons 14 rfl | apply SubR.cons 15 rfl)) ?_
    rintro v Γ' ⟨rfl, rfl⟩
    refine GH.keep (fun _ s => Sat.sub (by repeat (first | exact SubR.nil | apply SubR.cons 0 rfl | apply SubR.cons 1 rfl | apply SubR.cons 2 rfl | apply SubR.cons 3 rfl | apply SubR.cons 4 rfl | apply SubR.cons 5 rfl | apply SubR.cons 6 rfl | apply SubR.cons 7 rfl | apply SubR.cons 8 rfl | apply SubR.cons 9 rfl | apply SubR.cons 10 rfl | apply SubR.cons 11 rfl | apply SubR.cons 12 rfl | apply SubR.cons 13 rfl | apply SubR.cons 14 rfl | apply SubR.cons 15 rfl)) s) ?_
    refine GH.step 5 rfl (by kernel_rfl) ?_
    refine GO.callA (fun hF' hle hH => rotl_ok (x := a4) (n := 11) q4 (by omega) (by omega)) (by first | exact Wt.none | exact Wt.some rfl rfl (by first | exact rfl | decide +kernel)) (by kernel_rfl) rfl rfl (by repeat (first | exact SubR.nil | apply SubR.cons 0 rfl | apply SubR.cons 1 rfl | apply SubR.cons 2 rfl | apply SubR.cons 3 rfl | apply SubR.cons 4 rfl | apply SubR.cons 5 rfl | apply SubR.cons 6 rfl | apply SubR.cons 7 rfl | apply SubR.cons 8 rfl | apply SubR.cons 9 rfl | apply SubR.cons 10 rfl | apply SubR.cons 11 rfl | apply SubR.cons 12 rfl | apply SubR.cons 13 rfl | apply SubR.cons 14 rfl | apply SubR.cons 15 rfl)) ?_
    rintro v Γ' ⟨rfl, rfl⟩
    refine GH.keep (fun _ s => Sat.sub (by repeat (first | exact SubR.nil | apply SubR.cons 0 rfl | apply SubR.cons 1 rfl | apply SubR.cons 2 rfl | apply SubR.cons 3 rfl | apply SubR.cons 4 rfl | apply SubR.cons 5 rfl | apply SubR.cons 6 rfl | apply SubR.cons 7 rfl | apply SubR.cons 8 rfl | apply SubR.cons 9 rfl | apply SubR.cons 10 rfl | apply SubR.cons 11 rfl | apply SubR.cons 12 rfl | apply SubR.cons 13 rfl | apply SubR.cons 14 rfl | apply SubR.cons 15 rfl)) s) ?_
    ((first | refine GH.to 6 ?_ | refine GH.tos 6 ?_))
    refine GH.step 8 rfl (by kernel_rfl) ?_
    refine GO.callA (fun hF' hle hH => rotl_ok (x := a4) (n := 25) q4 (by omega) (by omega)) (by first | exact Wt.none | exact Wt.some rfl rfl (by first | exact rfl | decide +kernel)) (by kernel_rfl) rfl rfl (by repeat (first | exact SubR.nil | apply SubR.cons 0 rfl | apply SubR.cons 1 rfl | apply SubR.cons 2 rfl | apply SubR.cons 3 rfl | apply SubR.cons 4 rfl | apply SubR.cons 5 rfl | apply SubR.cons 6 rfl | apply SubR.cons 7 rfl | apply SubR.cons 8 rfl | apply SubR.cons 9 rfl | apply SubR.cons 10 rfl | apply SubR.cons 11 rfl | apply SubR.cons 12 rfl | apply SubR.cons 13 rfl | apply SubR.cons 14 rfl | apply SubR.cons 15 rfl)) ?_
    rintro v Γ' ⟨rfl, rfl⟩
    refine GH.keep (fun _ s => Sat.sub (by repeat (first | exact SubR.nil | apply SubR.cons 0 rfl | apply SubR.cons 1 rfl | apply SubR.cons 2 rfl | apply SubR.cons 3 rfl | apply SubR.cons 4 rfl | apply SubR.cons 5 rfl | apply SubR.cons 6 rfl | apply SubR.cons 7 rfl | apply SubR.cons 8 rfl | apply SubR.cons 9 rfl | apply SubR.cons 10 rfl | apply SubR.cons 11 rfl | apply SubR.cons 12 rfl | apply SubR.cons 13 rfl | apply SubR.cons 14 rfl | apply SubR.cons 15 rfl)) s) ?_
    ((first | refine GH.to 9 ?_ | refine GH.tos 9 ?_); (first | refine GH.to 10 ?_ | refine GH.tos 10 ?_); (first | refine GH.to 21 ?_ | refine GH.tos 21 ?_); (first | refine GH.to 25 ?_ | refine GH.tos 25 ?_); (first | refine GH.to 29 ?_ | refine GH.tos 29 ?_); (first | refine GH.to 30 ?_ | refine GH.tos 30 ?_))
    refine GH.fin (by kernel_rfl) ?_
    refine GK.weak (fr' := [(2, .pointer (some ⟨bl, 0, none⟩)), (4, .pointer (some ⟨b2, 0, none⟩)), (5, .pointer (some ⟨b3, 0, none⟩)), (6, .pointer (some ⟨b4, 0, none⟩)), (15, .int .i64 (t : Int)), (8, .int .u32 (a4 : Int)), (9, .int .u32 (((((((a7 + (rotr a4 6 ^^^ rotr a4 11 ^^^ rotr a4 25)) % 4294967296 + (a4 &&& a5 ^^^ (4294967295 - a4) &&& a6)) % 4294967296 + kt) % 4294967296 + wt) % 4294967296 : Nat)) : Int))]) (Γ' := [blk b4 162 (0, 0) [.int .u32 (a0 : Int), .int .u32 (a1 : Int), .int .u32 (a2 : Int), .int .u32 (a3 : Int), .int .u32 (a4 : Int), .int .u32 (a5 : Int), .int .u32 (a6 : Int), .int .u32 (a7 : Int)], blk b3 149 (0, 0) (u32s w), blk b2 162 (0, 0) l2, blk bl 162 (0, 0) (u32s s), poolOf H]) (by repeat (first | exact trivial | refine ⟨rfl, ?_⟩)) (fun _ s => Sat.sub (by repeat (first | exact SubR.nil | apply SubR.cons 0 rfl | apply SubR.cons 1 rfl | apply SubR.cons 2 rfl | apply SubR.cons 3 rfl | apply SubR.cons 4 rfl | apply SubR.cons 5 rfl | apply SubR.cons 6 rfl | apply SubR.cons 7 rfl | apply SubR.cons 8 rfl | apply SubR.cons 9 rfl | apply SubR.cons 10 rfl | apply SubR.cons 11 rfl | apply SubR.cons 12 rfl | apply SubR.cons 13 rfl | apply SubR.cons 14 rfl | apply SubR.cons 15 rfl)) s) ?_
    have hx0 : (((((a7 + (rotr a4 6 ^^^ rotr a4 11 ^^^ rotr a4 25)) % 4294967296 + (a4 &&& a5 ^^^ (4294967295 - a4) &&& a6)) % 4294967296 + kt) % 4294967296 + wt) % 4294967296) < 4294967296 := Nat.mod_lt _ (by decide)
    unfold step at hnext
    simp only [List.getD_cons_zero, List.getD_cons_succ] at hnext
    generalize (((((a7 + (rotr a4 6 ^^^ rotr a4 11 ^^^ rotr a4 25)) % 4294967296 + (a4 &&& a5 ^^^ (4294967295 - a4) &&& a6)) % 4294967296 + kt) % 4294967296 + wt) % 4294967296) = X at *
    have h2 := rotr_lt (n := 2) q0
    have h13 := rotr_lt (n := 13) q0
    have h22 := rotr_lt (n := 22) q0
    have h3 := xor_lt h2 h13
    have h4 := xor_lt h3 h22
    have d1 : a0 &&& a1 < 4294967296 := and_lt q0
    have d2 : a0 &&& a2 < 4294967296 := and_lt q0
    have d3 : a1 &&& a2 < 4294967296 := and_lt q1
    have d4 := xor_lt d1 d2
    have d5 := xor_lt d4 d3
    (repeat (first | refine GK.ro ?_ | (refine GK.box ?_; intro bl) | (refine GK.mkMap ?_; intro bm) | (refine GK.build0 tb ?_; intro bs)))
    refine G.draw [] [blk b4 162 (0, 0) [.int .u32 (a0 : Int), .int .u32 (a1 : Int), .int .u32 (a2 : Int), .int .u32 (a3 : Int), .int .u32 (a4 : Int), .int .u32 (a5 : Int), .int .u32 (a6 : Int), .int .u32 (a7 : Int)]] (by kernel_rfl) ?_
    ((first | refine GH.to 0 ?_ | refine GH.tos 0 ?_); (first | refine GH.to 1 ?_ | refine GH.tos 1 ?_); (first | refine GH.to 3 ?_ | refine GH.tos 3 ?_); (first | refine GH.to 4 ?_ | refine GH.tos 4 ?_); (first | refine GH.to 7 ?_ | refine GH.tos 7 ?_); (first | refine GH.to 8 ?_ | refine GH.tos 8 ?_); (first | refine GH.to 11 ?_ | refine GH.tos 11 ?_); (first | refine GH.to 12 ?_ | refine GH.tos 12 ?_); (first | refine GH.to 13 ?_ | refine GH.tos 13 ?_); (first | refine GH.to 14 ?_ | refine GH.tos 14 ?_); (first | refine GH.to 15 ?_ | refine GH.tos 15 ?_); (first | refine GH.to 16 ?_ | refine GH.tos 16 ?_); (first | refine GH.to 17 ?_ | refine GH.tos 17 ?_); (first | refine GH.to 18 ?_ | refine GH.tos 18 ?_); (first | refine GH.to 19 ?_ | refine GH.tos 19 ?_); (first | refine GH.to 20 ?_ | refine GH.tos 20 ?_); (first | refine GH.to 21 ?_ | refine GH.tos 21 ?_); (first | refine GH.to 22 ?_ | refine GH.tos 22 ?_); (first | refine GH.to 23 ?_ | refine GH.tos 23 ?_); (first | refine GH.to 24 ?_ | refine GH.tos 24 ?_); (first | refine GH.to 25 ?_ | refine GH.tos 25 ?_); (first | refine GH.to 26 ?_ | refine GH.tos 26 ?_); (first | refine GH.to 27 ?_ | refine GH.tos 27 ?_))
    refine GH.step 2 rfl (by kernel_rfl) ?_
    refine GO.callA (fun hF' hle hH => rotl_ok (x := a0) (n := 2) q0 (by omega) (by omega)) (by first | exact Wt.none | exact Wt.some rfl rfl (by first | exact rfl | decide +kernel)) (by kernel_rfl) rfl rfl (by repeat (first | exact SubR.nil | apply SubR.cons 0 rfl | apply SubR.cons 1 rfl | apply SubR.cons 2 rfl | apply SubR.cons 3 rfl | apply SubR.cons 4 rfl | apply SubR.cons 5 rfl | apply SubR.cons 6 rfl | apply SubR.cons 7 rfl | apply SubR.cons 8 rfl | apply SubR.cons 9 rfl | apply SubR.cons 10 rfl | apply SubR.cons 11 rfl | apply SubR.cons 12 rfl | apply SubR.cons 13 rfl | apply SubR.cons 14 rfl | apply SubR.cons 15 rfl)) ?_
    rintro v Γ' ⟨rfl, rfl⟩
    refine GH.keep (fun _ s => Sat.sub (by repeat (first | exact SubR.nil | apply SubR.cons 0 rfl | apply SubR.cons 1 rfl | apply SubR.cons 2 rfl | apply SubR.cons 3 rfl | apply SubR.cons 4 rfl | apply SubR.cons 5 rfl | apply SubR.cons 6 rfl | apply SubR.cons 7 rfl | apply SubR.cons 8 rfl | apply SubR.cons 9 rfl | apply SubR.cons 10 rfl | apply SubR.cons 11 rfl | apply SubR.cons 12 rfl | apply SubR.cons 13 rfl | apply SubR.cons 14 rfl | apply SubR.cons 15 rfl)) s) ?_
    refine GH.step 5 rfl (by kernel_rfl) ?_
    refine GO.callA (fun hF' hle hH => rotl_ok (x := a0) (n := 13) q0 (by omega) (by omega)) (by first | exact Wt.none | exact Wt.some rfl rfl (by first | exact rfl | decide +kernel)) (by kernel_rfl) rfl rfl (by repeat (first | exact SubR.nil | apply SubR.cons 0 rfl | apply SubR.cons 1 rfl | apply SubR.cons 2 rfl | apply SubR.cons 3 rfl | apply SubR.cons 4 rfl | apply SubR.cons 5 rfl | apply SubR.cons 6 rfl | apply SubR.cons 7 rfl | apply SubR.cons 8 rfl | apply SubR.cons 9 rfl | apply SubR.cons 10 rfl | apply SubR.cons 11 rfl | apply SubR.cons 12 rfl | apply SubR.cons 13 rfl | apply SubR.cons 14 rfl | apply SubR.cons 15 rfl)) ?_
    rintro v Γ' ⟨rfl, rfl⟩
    refine GH.keep (fun _ s => Sat.sub (by repeat (first | exact SubR.nil | apply SubR.cons 0 rfl | apply SubR.cons 1 rfl | apply SubR.cons 2 rfl | apply SubR.cons 3 rfl | apply SubR.cons 4 rfl | apply SubR.cons 5 rfl | apply SubR.cons 6 rfl | apply SubR.cons 7 rfl | apply SubR.cons 8 rfl | apply SubR.cons 9 rfl | apply SubR.cons 10 rfl | apply SubR.cons 11 rfl | apply SubR.cons 12 rfl | apply SubR.cons 13 rfl | apply SubR.cons 14 rfl | apply SubR.cons 15 rfl)) s) ?_
    ((first | refine GH.to 6 ?_ | refine GH.tos 6 ?_))
    refine GH.step 9 rfl (by kernel_rfl) ?_
    refine GO.callA (fun hF' hle hH => rotl_ok (x := a0) (n := 22) q0 (by omega) (by omega)) (by first | exact Wt.none | exact Wt.some rfl rfl (by first | exact rfl | decide +kernel)) (by kernel_rfl) rfl rfl (by repeat (first | exact SubR.nil | apply SubR.cons 0 rfl | apply SubR.cons 1 rfl | apply SubR.cons 2 rfl | apply SubR.cons 3 rfl | apply SubR.cons 4 rfl | apply SubR.cons 5 rfl | apply SubR.cons 6 rfl | apply SubR.cons 7 rfl | apply SubR.cons 8 rfl | apply SubR.cons 9 rfl | apply SubR.cons 10 rfl | apply SubR.cons 11 rfl | apply SubR.cons 12 rfl | apply SubR.cons 13 rfl | apply SubR.cons 14 rfl | apply SubR.cons 15 rfl)) ?_
    rintro v Γ' ⟨rfl, rfl⟩
    refine GH.keep (fun _ s => Sat.sub (by repeat (first | exact SubR.nil | apply SubR.cons 0 rfl | apply SubR.cons 1 rfl | apply SubR.cons 2 rfl | apply SubR.cons 3 rfl | apply SubR.cons 4 rfl | apply SubR.cons 5 rfl | apply SubR.cons 6 rfl | apply SubR.cons 7 rfl | apply SubR.cons 8 rfl | apply SubR.cons 9 rfl | apply SubR.cons 10 rfl | apply SubR.cons 11 rfl | apply SubR.cons 12 rfl | apply SubR.cons 13 rfl | apply SubR.cons 14 rfl | apply SubR.cons 15 rfl)) s) ?_
    ((first | refine GH.to 10 ?_ | refine GH.tos 10 ?_); (first | refine GH.to 28 ?_ | refine GH.tos 28 ?_); (first | refine GH.to 29 ?_ | refine GH.tos 29 ?_))
    refine GH.fin (by kernel_rfl) ?_
    refine GK.weak (fr' := [(2, .pointer (some ⟨bl, 0, none⟩)), (4, .pointer (some ⟨b2, 0, none⟩)), (5, .pointer (some ⟨b3, 0, none⟩)), (6, .pointer (some ⟨b4, 0, none⟩)), (15, .int .i64 (t : Int)), (8, .int .u32 (a4 : Int)), (9, .int .u32 (X : Int)), (10, .int .u32 ((((rotr a0 2 ^^^ rotr a0 13 ^^^ rotr a0 22) + (a0 &&& a1 ^^^ a0 &&& a2 ^^^ a1 &&& a2)) % 4294967296 : Nat) : Int))]) (Γ' := [blk b4 162 (0, 0) [.int .u32 (a0 : Int), .int .u32 (a1 : Int), .int .u32 (a2 : Int), .int .u32 (a3 : Int), .int .u32 (a4 : Int), .int .u32 (a5 : Int), .int .u32 (a6 : Int), .int .u32 (a7 : Int)], blk b3 149 (0, 0) (u32s w), blk b2 162 (0, 0) l2, blk bl 162 (0, 0) (u32s s), poolOf H]) (by repeat (first | exact trivial | refine ⟨rfl, ?_⟩)) (fun _ s => Sat.sub (by repeat (first | exact SubR.nil | apply SubR.cons 0 rfl | apply SubR.cons 1 rfl | apply SubR.cons 2 rfl | apply SubR.cons 3 rfl | apply SubR.cons 4 rfl | apply SubR.cons 5 rfl | apply SubR.cons 6 rfl | apply SubR.cons 7 rfl | apply SubR.cons 8 rfl | apply SubR.cons 9 rfl | apply SubR.cons 10 rfl | apply SubR.cons 11 rfl | apply SubR.cons 12 rfl | apply SubR.cons 13 rfl | apply SubR.cons 14 rfl | apply SubR.cons 15 rfl)) s) ?_
    have hy0 : ((rotr a0 2 ^^^ rotr a0 13 ^^^ rotr a0 22) + (a0 &&& a1 ^^^ a0 &&& a2 ^^^ a1 &&& a2)) % 4294967296 < 4294967296 := Nat.mod_lt _ (by decide)
    generalize ((rotr a0 2 ^^^ rotr a0 13 ^^^ rotr a0 22) + (a0 &&& a1 ^^^ a0 &&& a2 ^^^ a1 &&& a2)) % 4294967296 = Y at *
    (repeat (first | refine GK.ro ?_ | (refine GK.box ?_; intro bl) | (refine GK.mkMap ?_; intro bm) | (refine GK.build0 tb ?_; intro bs)))
    refine GL.cons ?_
    refine GO.yield (by first | exact Wt.none | exact Wt.some rfl rfl (by first | exact rfl | decide +kernel)) (Yl.buildArr (sz := 1) (zl := [.int .u32 0, .int .u32 0, .int .u32 0, .int .u32 0, .int .u32 0, .int .u32 0, .int .u32 0, .int .u32 0]) (l := [.int .u32 (((X + Y) % 4294967296 : Nat) : Int), .int .u32 (a0 : Int), .int .u32 (a1 : Int), .int .u32 (a2 : Int), .int .u32 (((a3 + X) % 4294967296 : Nat) : Int), .int .u32 (a4 : Int), .int .u32 (a5 : Int), .int .u32 (a6 : Int)]) rfl rfl rfl rfl rfl) ?_
    (repeat (first | refine GK.ro ?_ | (refine GK.box ?_; intro bl) | (refine GK.mkMap ?_; intro bm) | (refine GK.build0 tb ?_; intro bs)))
    refine GL.cons ?_
    refine Gt.storeAll tb 0 (by first | exact Wt.none | exact Wt.some rfl rfl (by first | exact rfl | decide +kernel)) rfl rfl rfl rfl (fun u hu => by simp only [List.mem_cons, List.not_mem_nil, or_false] at hu; rcases hu with rfl | rfl | rfl | rfl | rfl | rfl | rfl | rfl <;> rfl) rfl rfl ?_
    (repeat (first | refine GK.ro ?_ | (refine GK.box ?_; intro bl) | (refine GK.mkMap ?_; intro bm) | (refine GK.build0 tb ?_; intro bs)))
    refine GK.weak (fr' := [(2, .pointer (some ⟨bl, 0, none⟩)), (4, .pointer (some ⟨b2, 0, none⟩)), (5, .pointer (some ⟨b3, 0, none⟩)), (6, .pointer (some ⟨b4, 0, none⟩)), (15, .int .i64 ((t + 1 : Nat) : Int))]) (Γ' := [blk b4 162 (0, 0) (u32s (rnds K w s (t + 1))), blk b3 149 (0, 0) (u32s w), blk b2 162 (0, 0) l2, blk bl 162 (0, 0) (u32s s), poolOf H]) (by repeat (first | exact trivial | refine ⟨rfl, ?_⟩)) (fun _ st => by rw [hnext]; exact st.sub (by repeat (first | exact SubR.nil | apply SubR.cons 0 rfl | apply SubR.cons 1 rfl | apply SubR.cons 2 rfl | apply SubR.cons 3 rfl | apply SubR.cons 4 rfl | apply SubR.cons 5 rfl | apply SubR.cons 6 rfl | apply SubR.cons 7 rfl | apply SubR.cons 8 rfl | apply SubR.cons 9 rfl | apply SubR.cons 10 rfl | apply SubR.cons 11 rfl | apply SubR.cons 12 rfl | apply SubR.cons 13 rfl | apply SubR.cons 14 rfl | apply SubR.cons 15 rfl))) ?_
    (refine GQ.againN (t + 1) ?_ ?_ ?_ ?_; rotate_left; (first | omega | (dsimp only; omega)); exact (by repeat (first | exact trivial | refine ⟨rfl, ?_⟩)); exact (fun _ s => Sat.sub (by repeat (first | exact SubR.nil | apply SubR.cons 0 rfl | apply SubR.cons 1 rfl | apply SubR.cons 2 rfl | apply SubR.cons 3 rfl | apply SubR.cons 4 rfl | apply SubR.cons 5 rfl | apply SubR.cons 6 rfl | apply SubR.cons 7 rfl | apply SubR.cons 8 rfl | apply SubR.cons 9 rfl | apply SubR.cons 10 rfl | apply SubR.cons 11 rfl | apply SubR.cons 12 rfl | apply SubR.cons 13 rfl | apply SubR.cons 14 rfl | apply SubR.cons 15 rfl)) s))
    show t + 1 ≤ 64
    omega
  · obtain rfl : t = 64 := by omega
    (repeat (first | refine GK.ro ?_ | (refine GK.box ?_; intro bl) | (refine GK.mkMap ?_; intro bm) | (refine GK.build0 tb ?_; intro bs)))
    refine GK.weak (fr' := [(2, .pointer (some ⟨bl, 0, none⟩)), (4, .pointer (some ⟨b2, 0, none⟩)), (6, .pointer (some ⟨b4, 0, none⟩)), (99, .int .i64 ((0 : Nat) : Int))]) (Γ' := [blk b4 162 (0, 0) (u32s (addN z s 0)), blk b2 162 (0, 0) l2, blk bl 162 (0, 0) (u32s s), poolOf H]) (by repeat (first | exact trivial | refine ⟨rfl, ?_⟩)) (fun _ st => by rw [addN_zero]; exact st.sub (by repeat (first | exact SubR.nil | apply SubR.cons 0 rfl | apply SubR.cons 1 rfl | apply SubR.cons 2 rfl | apply SubR.cons 3 rfl | apply SubR.cons 4 rfl | apply SubR.cons 5 rfl | apply SubR.cons 6 rfl | apply SubR.cons 7 rfl | apply SubR.cons 8 rfl | apply SubR.cons 9 rfl | apply SubR.cons 10 rfl | apply SubR.cons 11 rfl | apply SubR.cons 12 rfl | apply SubR.cons 13 rfl | apply SubR.cons 14 rfl | apply SubR.cons 15 rfl))) (G.loopN (fun t : Nat => 8 - t) (fun t => [(2, .pointer (some ⟨bl, 0, none⟩)), (4, .pointer (some ⟨b2, 0, none⟩)), (6, .pointer (some ⟨b4, 0, none⟩)), (99, .int .i64 (t : Int))]) (fun t => [blk b4 162 (0, 0) (u32s (addN z s t)), blk b2 162 (0, 0) l2, blk bl 162 (0, 0) (u32s s), poolOf H])
      (fun t => t ≤ 8) (fun t ht k3 hk3 => ?_) 0 (Nat.zero_le _))
    obtain ⟨x, hx⟩ : ∃ x, addN z s t = x := ⟨_, rfl⟩
    have hxw : Ws 8 x := hx ▸ addN_ws hzw t
    have hnx : addN z s (t + 1) = x.set t ((x.getD t 0 + s.getD t 0) % 4294967296) := by rw [addN_succ, hx]
    rw [hx]
    (repeat (first | refine GK.ro ?_ | (refine GK.box ?_; intro bl) | (refine GK.mkMap ?_; intro bm) | (refine GK.build0 tb ?_; intro bs)))
    (first | refine G.condP rfl (fun hb => ?_) (fun hb => ?_) | refine G.condN rfl (fun hb => ?_) (fun hb => ?_) | refine G.cond rfl (fun hb => ?_) (fun hb => ?_))
    · obtain ⟨e1, r1⟩ := hxw.at (i := t) (by omega)
      obtain ⟨e2, r2⟩ := hs.at (i := t) (by omega)
      generalize x.getD t 0 = m1 at *
      generalize s.getD t 0 = m2 at *
      have f1 : (u32s x)[0 + (t : Int).toNat * 1]? = some (.int .u32 (m1 : Int)) := by rw [show 0 + (t : Int).toNat * 1 = t by omega]; exact u32s_get e1
      have f2 : (u32s s)[0 + (t : Int).toNat * 1]? = some (.int .u32 (m2 : Int)) := by rw [show 0 + (t : Int).toNat * 1 = t by omega]; exact u32s_get e2
      (repeat (first | refine GK.ro ?_ | (refine GK.box ?_; intro bl) | (refine GK.mkMap ?_; intro bm) | (refine GK.build0 tb ?_; intro bs)))
      refine G.draw [8] [blk b4 162 (0, 0) (u32s x), blk bl 162 (0, 0) (u32s s)] (by kernel_rfl) ?_
      ((first | refine GH.to 0 ?_ | refine GH.tos 0 ?_); (first | refine GH.to 1 ?_ | refine GH.tos 1 ?_); (first | refine GH.to 2 ?_ | refine GH.tos 2 ?_); (first | refine GH.to 3 ?_ | refine GH.tos 3 ?_); (first | refine GH.to 4 ?_ | refine GH.tos 4 ?_); (first | refine GH.to 5 ?_ | refine GH.tos 5 ?_); (first | refine GH.to 6 ?_ | refine GH.tos 6 ?_); (first | refine GH.to 7 ?_ | refine GH.tos 7 ?_))
      refine GH.step 8 rfl (by kernel_rfl) ?_
      refine Gt.store tb 0 (l' := u32s (addN z s (t + 1))) (by first | exact Wt.none | exact Wt.some rfl rfl (by first | exact rfl | decide +kernel)) rfl rfl rfl rfl rfl (by rw [Nat.blt_eq, u32s_len, hxw.1]; omega) (by simp [free]) (by rw [show 0 + (t : Int).toNat * 1 = t by omega, hnx, ← u32s_set]; rfl) ?_
      refine GH.on rfl ?_
      refine GH.fin (by kernel_rfl) ?_
      (repeat (first | refine GK.ro ?_ | (refine GK.box ?_; intro bl) | (refine GK.mkMap ?_; intro bm) | (refine GK.build0 tb ?_; intro bs)))
      (refine GQ.againN (t + 1) ?_ ?_ ?_ ?_; rotate_left; (first | omega | (dsimp only; omega)); exact (by repeat (first | exact trivial | refine ⟨rfl, ?_⟩)); exact (fun _ s => Sat.sub (by repeat (first | exact SubR.nil | apply SubR.cons 0 rfl | apply SubR.cons 1 rfl | apply SubR.cons 2 rfl | apply SubR.cons 3 rfl | apply SubR.cons 4 rfl | apply SubR.cons 5 rfl | apply SubR.cons 6 rfl | apply SubR.cons 7 rfl | apply SubR.cons 8 rfl | apply SubR.cons 9 rfl | apply SubR.cons 10 rfl | apply SubR.cons 11 rfl | apply SubR.cons 12 rfl | apply SubR.cons 13 rfl | apply SubR.cons 14 rfl | apply SubR.cons 15 rfl)) s))
      show t + 1 ≤ 8
      omega
    · obtain rfl : t = 8 := by omega
      have hl8 : (u32s x).length = 8 := by rw [u32s_len, hxw.1]
      have hA : At (u32s x) 0 (u32s x) := At.all _
      (repeat (first | refine GK.ro ?_ | (refine GK.box ?_; intro bl) | (refine GK.mkMap ?_; intro bm) | (refine GK.build0 tb ?_; intro bs)))
      refine GL.cons ?_
      refine Gt.storeAll tb 1 (by first | exact Wt.none | exact Wt.some rfl rfl (by first | exact rfl | decide +kernel)) rfl rfl rfl hl8 (fun u hu => by obtain ⟨x, _, rfl⟩ := List.mem_map.1 hu; rfl) rfl (by omega) ?_
      (repeat (first | refine GK.ro ?_ | (refine GK.box ?_; intro bl) | (refine GK.mkMap ?_; intro bm) | (refine GK.build0 tb ?_; intro bs)))
      exact GQ.fin1 (Γ' := [poolOf H]) rfl (Rv.row rfl (by kernel_rfl) (by rw [hl8]; kernel_rfl) (Rd.blk 1 rfl) (At.all _)) (fun _ s => Sat.sub (by repeat (first | exact SubR.nil | apply SubR.cons 0 rfl | apply SubR.cons 1 rfl | apply SubR.cons 2 rfl | apply SubR.cons 3 rfl | apply SubR.cons 4 rfl | apply SubR.cons 5 rfl | apply SubR.cons 6 rfl | apply SubR.cons 7 rfl | apply SubR.cons 8 rfl | apply SubR.cons 9 rfl | apply SubR.cons 10 rfl | apply SubR.cons 11 rfl | apply SubR.cons 12 rfl | apply SubR.cons 13 rfl | apply SubR.cons 14 rfl | apply SubR.cons 15 rfl)) s) ⟨by rw [← hx, addN_eq hzw hs, ← hz, ← hw]; rfl, rfl⟩

end Go.Sh
