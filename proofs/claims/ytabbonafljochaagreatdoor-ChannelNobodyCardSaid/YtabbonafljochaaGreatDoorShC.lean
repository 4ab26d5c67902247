/- SHA-256: the program's spread walked. -/
import Derived.Test.YtabbonafljochaaGreatDoorShB
set_option linter.unusedSimpArgs false
set_option linter.unusedVariables false
namespace Go.Sh
open Go Go.Sl
set_option maxRecDepth 100000
set_option maxHeartbeats 4000000
attribute [local irreducible] GK GO Yl Wt Ef Hd GH KH wpListIn Code.wpIn toBody roundQ poolOf rs RS YieldOk IterOk VOk row star exs mp lp Sat pt FnOk Rd bodyPost bodyPostM Lv Ret Exit.then Exit.inBlock Exit.noGoto Int.decLt Int.decLe Int.instDecidableEq
attribute [local irreducible] load16 sched rotr
set_option pp.deepTerms true
variable {hF H : Hp}
theorem load16_zero (b : By) : load16 b 0 = List.replicate 64 0 := by unfold load16; rfl
theorem load16_succ (b : By) (t : Nat) : load16 b (t + 1) = (load16 b t).set t (wordAt b t) := by rw [load16]
theorem sched_zero (b : By) : sched b 0 = load16 b 16 := by rw [sched]
theorem sched_succ (b : By) (k : Nat) : sched b (k + 1) = (sched b k).set (16 + k) (ext (sched b k) (16 + k)) := by rw [sched]
theorem byteAt {cs : List Value} {o : Nat} {b : By} (h : At cs o (u8s b)) {i : Nat} (hi : i < b.length) : cs[o + i]? = some (.int .u8 (((b.getD i 0).toNat : Nat) : Int)) := by
  refine h i _ ?_
  unfold u8s
  rw [List.getElem?_map, List.getD_eq_getElem?_getD, List.getElem?_eq_getElem hi]
  rfl
theorem spread_ok {v : Value} {b : By} (hb : rs H v b.length 1 (u8s b)) (hl : 64 ≤ b.length) :
    FnOk Go.Proofs.Tryz.prog 142 [v] [poolOf H] hF (fun u Γ => u = .agg ⟨u32s (sched b 48)⟩ ∧ Γ = [poolOf H]) := by
  obtain ⟨p, c, rfl, hc, hln, hr⟩ := rs.out hb
  obtain ⟨bb, o, cs, e, fz, rfl, hH, hAt⟩ := hr (by omega)
  refine FnOk.intro 93 Go.Proofs.Tryz.func142 rfl rfl fun w0 => ?_
  (repeat (first | refine GK.ro ?_ | (refine GK.box ?_; intro bl) | (refine GK.mkMap ?_; intro bm) | (refine GK.build0 tb ?_; intro bs)))
  refine GL.cons ?_; refine Gt.allocAny tb (by first | exact Wt.none | exact Wt.some rfl rfl (by first | exact rfl | decide +kernel)) (by exact rfl) (by exact rfl) ?_
  intro b2 l2 hl2
  (repeat (first | refine GK.ro ?_ | (refine GK.box ?_; intro bl) | (refine GK.mkMap ?_; intro bm) | (refine GK.build0 tb ?_; intro bs)))
  refine GL.cons ?_
  refine GO.alloc (l := u32s (List.replicate 64 0)) (by first | exact Wt.none | exact Wt.some rfl rfl (by first | exact rfl | decide +kernel)) (by kernel_rfl) ?_
  intro b3
  (repeat (first | refine GK.ro ?_ | (refine GK.box ?_; intro bl) | (refine GK.mkMap ?_; intro bm) | (refine GK.build0 tb ?_; intro bs)))
  rw [← load16_zero b]
  refine GK.weak (fr' := [(0, .slice (some ⟨bb, o, none⟩) b.length c), (2, .pointer (some ⟨b2, 0, none⟩)), (3, .pointer (some ⟨b3, 0, none⟩)), (10, .int .i64 ((0 : Nat) : Int))]) (Γ' := [blk b3 149 (0, 0) (u32s (load16 b 0)), blk b2 149 (0, 0) l2, poolOf H]) (by repeat (first | exact trivial | refine ⟨rfl, ?_⟩)) (fun _ s => Sat.sub (by repeat (first | exact SubR.nil | apply SubR.cons 0 rfl | apply SubR.cons 1 rfl | apply SubR.cons 2 rfl | apply SubR.cons 3 rfl | apply SubR.cons 4 rfl | apply SubR.cons 5 rfl | apply SubR.cons 6 rfl | apply SubR.cons 7 rfl | apply SubR.cons 8 rfl | apply SubR.cons 9 rfl | apply SubR.cons 10 rfl | apply SubR.cons 11 rfl | apply SubR.cons 12 rfl | apply SubR.cons 13 rfl | apply SubR.cons 14 rfl | apply SubR.cons 15 rfl)) s) (G.loopN (fun t : Nat => 16 - t) (fun t => [(0, .slice (some ⟨bb, o, none⟩) b.length c), (2, .pointer (some ⟨b2, 0, none⟩)), (3, .pointer (some ⟨b3, 0, none⟩)), (10, .int .i64 (t : Int))]) (fun t => [blk b3 149 (0, 0) (u32s (load16 b t)), blk b2 149 (0, 0) l2, poolOf H])
    (fun t => t ≤ 16) (fun t ht k2 hk2 => ?_) 0 (Nat.zero_le _))
  have hws := load16_ws b t
  (repeat (first | refine GK.ro ?_ | (refine GK.box ?_; intro bl) | (refine GK.mkMap ?_; intro bm) | (refine GK.build0 tb ?_; intro bs)))
  (first | refine G.condP rfl (fun hb => ?_) (fun hb => ?_) | refine G.condN rfl (fun hb => ?_) (fun hb => ?_) | refine G.cond rfl (fun hb => ?_) (fun hb => ?_))
  · obtain ⟨x0, e0⟩ : ∃ x, (b.getD (4 * t) 0).toNat = x := ⟨_, rfl⟩
    obtain ⟨x1, e1⟩ : ∃ x, (b.getD (4 * t + 1) 0).toNat = x := ⟨_, rfl⟩
    obtain ⟨x2, e2⟩ : ∃ x, (b.getD (4 * t + 2) 0).toNat = x := ⟨_, rfl⟩
    obtain ⟨x3, e3⟩ : ∃ x, (b.getD (4 * t + 3) 0).toNat = x := ⟨_, rfl⟩
    have y0 : x0 < 256 := e0 ▸ (b.getD (4 * t) 0).toNat_lt
    have y1 : x1 < 256 := e1 ▸ (b.getD (4 * t + 1) 0).toNat_lt
    have y2 : x2 < 256 := e2 ▸ (b.getD (4 * t + 2) 0).toNat_lt
    have y3 : x3 < 256 := e3 ▸ (b.getD (4 * t + 3) 0).toNat_lt
    have k0 : cs[o + (4 * (t : Int)).toNat * 1]? = some (.int .u8 (x0 : Int)) := by rw [← e0, show o + (4 * (t : Int)).toNat * 1 = o + 4 * t by omega]; exact byteAt hAt (by omega)
    have k1 : cs[o + (4 * (t : Int) + 1).toNat * 1]? = some (.int .u8 (x1 : Int)) := by rw [← e1, show o + (4 * (t : Int) + 1).toNat * 1 = o + (4 * t + 1) by omega]; exact byteAt hAt (by omega)
    have k2 : cs[o + (4 * (t : Int) + 2).toNat * 1]? = some (.int .u8 (x2 : Int)) := by rw [← e2, show o + (4 * (t : Int) + 2).toNat * 1 = o + (4 * t + 2) by omega]; exact byteAt hAt (by omega)
    have k3 : cs[o + (4 * (t : Int) + 3).toNat * 1]? = some (.int .u8 (x3 : Int)) := by rw [← e3, show o + (4 * (t : Int) + 3).toNat * 1 = o + (4 * t + 3) by omega]; exact byteAt hAt (by omega)
    have z1 : (x0 * 2 ^ 24 % 4294967296 ||| x1 * 2 ^ 16 % 4294967296) < 4294967296 := or_lt (Nat.mod_lt _ (by decide)) (Nat.mod_lt _ (by decide))
    have z2 : ((x0 * 2 ^ 24 % 4294967296 ||| x1 * 2 ^ 16 % 4294967296) ||| x2 * 2 ^ 8 % 4294967296) < 4294967296 := or_lt z1 (Nat.mod_lt _ (by decide))
    (repeat (first | refine GK.ro ?_ | (refine GK.box ?_; intro bl) | (refine GK.mkMap ?_; intro bm) | (refine GK.build0 tb ?_; intro bs)))
    refine G.draw [] [blk b2 149 (0, 0) l2, poolOf H] (by kernel_rfl) ?_
    ((first | refine GH.to 0 ?_ | refine GH.tos 0 ?_); (first | refine GH.to 1 ?_ | refine GH.tos 1 ?_); (first | refine GH.to 2 ?_ | refine GH.tos 2 ?_); (first | refine GH.to 3 ?_ | refine GH.tos 3 ?_); (first | refine GH.to 4 ?_ | refine GH.tos 4 ?_); (first | refine GH.to 5 ?_ | refine GH.tos 5 ?_); (first | refine GH.to 6 ?_ | refine GH.tos 6 ?_); (first | refine GH.to 7 ?_ | refine GH.tos 7 ?_); (first | refine GH.to 8 ?_ | refine GH.tos 8 ?_); (first | refine GH.to 9 ?_ | refine GH.tos 9 ?_); (first | refine GH.to 10 ?_ | refine GH.tos 10 ?_); (first | refine GH.to 11 ?_ | refine GH.tos 11 ?_); (first | refine GH.to 12 ?_ | refine GH.tos 12 ?_); (first | refine GH.to 13 ?_ | refine GH.tos 13 ?_); (first | refine GH.to 14 ?_ | refine GH.tos 14 ?_); (first | refine GH.to 15 ?_ | refine GH.tos 15 ?_); (first | refine GH.to 16 ?_ | refine GH.tos 16 ?_); (first | refine GH.to 17 ?_ | refine GH.tos 17 ?_); (first | refine GH.to 18 ?_ | refine GH.tos 18 ?_); (first | refine GH.to 19 ?_ | refine GH.tos 19 ?_); (first | refine GH.to 20 ?_ | refine GH.tos 20 ?_); (first | refine GH.to 21 ?_ | refine GH.tos 21 ?_); (first | refine GH.to 22 ?_ | refine GH.tos 22 ?_); (first | refine GH.to 23 ?_ | refine GH.tos 23 ?_); (first | refine GH.to 24 ?_ | refine GH.tos 24 ?_); (first | refine GH.to 25 ?_ | refine GH.tos 25 ?_); (first | refine GH.to 26 ?_ | refine GH.tos 26 ?_); (first | refine GH.to 27 ?_ | refine GH.tos 27 ?_); (first | refine GH.to 28 ?_ | refine GH.tos 28 ?_); (first | refine GH.to 29 ?_ | refine GH.tos 29 ?_); (first | refine GH.to 30 ?_ | refine GH.tos 30 ?_); (first | refine GH.to 31 ?_ | refine GH.tos 31 ?_); (first | refine GH.to 32 ?_ | refine GH.tos 32 ?_); (first | refine GH.to 33 ?_ | refine GH.tos 33 ?_); (first | refine GH.to 34 ?_ | refine GH.tos 34 ?_))
    rw [show x0 * 2 ^ 24 = x0 * 16777216 by omega, show x1 * 2 ^ 16 = x1 * 65536 by omega, show x2 * 2 ^ 8 = x2 * 256 by omega, or_plus y0 y1 y2 y3, show x0 * 16777216 + x1 * 65536 + x2 * 256 + x3 = wordAt b t by unfold wordAt; rw [e0, e1, e2, e3]]
    refine GH.step 35 rfl (by kernel_rfl) ?_
    refine Gt.store tb 0 (l' := u32s (load16 b (t + 1))) (by first | exact Wt.none | exact Wt.some rfl rfl (by first | exact rfl | decide +kernel)) rfl rfl rfl rfl rfl (by rw [Nat.blt_eq, u32s_len, hws.1]; omega) (by simp [free]) (by rw [show 0 + (t : Int).toNat * 1 = t by omega, u32s_set, load16_succ]) ?_
    refine GH.keep (fun _ s => Sat.sub (by repeat (first | exact SubR.nil | apply SubR.cons 0 rfl | apply SubR.cons 1 rfl | apply SubR.cons 2 rfl | apply SubR.cons 3 rfl | apply SubR.cons 4 rfl | apply SubR.cons 5 rfl | apply SubR.cons 6 rfl | apply SubR.cons 7 rfl | apply SubR.cons 8 rfl | apply SubR.cons 9 rfl | apply SubR.cons 10 rfl | apply SubR.cons 11 rfl | apply SubR.cons 12 rfl | apply SubR.cons 13 rfl | apply SubR.cons 14 rfl | apply SubR.cons 15 rfl)) s) ?_
    refine GH.fin (by kernel_rfl) ?_
    (repeat (first | refine GK.ro ?_ | (refine GK.box ?_; intro bl) | (refine GK.mkMap ?_; intro bm) | (refine GK.build0 tb ?_; intro bs)))
    (refine GQ.againN (t + 1) ?_ ?_ ?_ ?_; rotate_left; (first | omega | (dsimp only; omega)); exact (by repeat (first | exact trivial | refine ⟨rfl, ?_⟩)); exact (fun _ s => Sat.sub (by repeat (first | exact SubR.nil | apply SubR.cons 0 rfl | apply SubR.cons 1 rfl | apply SubR.cons 2 rfl | apply SubR.cons 3 rfl | apply SubR.cons 4 rfl | apply SubR.cons 5 rfl | apply SubR.cons 6 rfl | apply SubR.cons 7 rfl | apply SubR.cons 8 rfl | apply SubR.cons 9 rfl | apply SubR.cons 10 rfl | apply SubR.cons 11 rfl | apply SubR.cons 12 rfl | apply SubR.cons 13 rfl | apply SubR.cons 14 rfl | apply SubR.cons 15 rfl)) s))
    show t + 1 ≤ 16
    omega
  · (repeat (first | refine GK.ro ?_ | (refine GK.box ?_; intro bl) | (refine GK.mkMap ?_; intro bm) | (refine GK.build0 tb ?_; intro bs)))
    obtain rfl : t = 16 := by omega
    rw [show load16 b 16 = sched b (16 - 16) from (sched_zero b).symm]
    refine GK.weak (fr' := [(2, .pointer (some ⟨b2, 0, none⟩)), (3, .pointer (some ⟨b3, 0, none⟩)), (5, .int .i64 ((16 : Nat) : Int))]) (Γ' := [blk b3 149 (0, 0) (u32s (sched b (16 - 16))), blk b2 149 (0, 0) l2, poolOf H]) (by repeat (first | exact trivial | refine ⟨rfl, ?_⟩)) (fun _ s => Sat.sub (by repeat (first | exact SubR.nil | apply SubR.cons 0 rfl | apply SubR.cons 1 rfl | apply SubR.cons 2 rfl | apply SubR.cons 3 rfl | apply SubR.cons 4 rfl | apply SubR.cons 5 rfl | apply SubR.cons 6 rfl | apply SubR.cons 7 rfl | apply SubR.cons 8 rfl | apply SubR.cons 9 rfl | apply SubR.cons 10 rfl | apply SubR.cons 11 rfl | apply SubR.cons 12 rfl | apply SubR.cons 13 rfl | apply SubR.cons 14 rfl | apply SubR.cons 15 rfl)) s) (G.loopN (fun t : Nat => 64 - t) (fun t => [(2, .pointer (some ⟨b2, 0, none⟩)), (3, .pointer (some ⟨b3, 0, none⟩)), (5, .int .i64 (t : Int))]) (fun t => [blk b3 149 (0, 0) (u32s (sched b (t - 16))), blk b2 149 (0, 0) l2, poolOf H])
      (fun t => 16 ≤ t ∧ t ≤ 64) (fun t ht k2 hk2 => ?_) 16 ⟨Nat.le_refl _, by omega⟩)
    obtain ⟨ht1, ht2⟩ := ht
    obtain ⟨w, hw⟩ : ∃ w, sched b (t - 16) = w := ⟨_, rfl⟩
    have hww : Ws 64 w := hw ▸ sched_ws b (t - 16)
    rw [hw]
    (repeat (first | refine GK.ro ?_ | (refine GK.box ?_; intro bl) | (refine GK.mkMap ?_; intro bm) | (refine GK.build0 tb ?_; intro bs)))
    (first | refine G.condP rfl (fun hb => ?_) (fun hb => ?_) | refine G.condN rfl (fun hb => ?_) (fun hb => ?_) | refine G.cond rfl (fun hb => ?_) (fun hb => ?_))
    · obtain ⟨a2, r2⟩ := hww.at (i := t - 2) (by omega)
      obtain ⟨a15, r15⟩ := hww.at (i := t - 15) (by omega)
      obtain ⟨a7, r7⟩ := hww.at (i := t - 7) (by omega)
      obtain ⟨a16, r16⟩ := hww.at (i := t - 16) (by omega)
      have hs : sched b (t + 1 - 16) = w.set t (ext w t) := by
        rw [show t + 1 - 16 = t - 16 + 1 by omega, sched_succ, hw, show 16 + (t - 16) = t by omega]
      unfold ext at hs
      generalize w.getD (t - 2) 0 = x2 at *
      generalize w.getD (t - 15) 0 = x15 at *
      generalize w.getD (t - 7) 0 = x7 at *
      generalize w.getD (t - 16) 0 = x16 at *
      have k2 : (u32s w)[0 + ((t : Int) - 2).toNat * 1]? = some (.int .u32 (x2 : Int)) := by rw [show 0 + ((t : Int) - 2).toNat * 1 = t - 2 by omega]; exact u32s_get a2
      have k15 : (u32s w)[0 + ((t : Int) - 15).toNat * 1]? = some (.int .u32 (x15 : Int)) := by rw [show 0 + ((t : Int) - 15).toNat * 1 = t - 15 by omega]; exact u32s_get a15
      have k7 : (u32s w)[0 + ((t : Int) - 7).toNat * 1]? = some (.int .u32 (x7 : Int)) := by rw [show 0 + ((t : Int) - 7).toNat * 1 = t - 7 by omega]; exact u32s_get a7
      have k16 : (u32s w)[0 + ((t : Int) - 16).toNat * 1]? = some (.int .u32 (x16 : Int)) := by rw [show 0 + ((t : Int) - 16).toNat * 1 = t - 16 by omega]; exact u32s_get a16
      (repeat (first | refine GK.ro ?_ | (refine GK.box ?_; intro bl) | (refine GK.mkMap ?_; intro bm) | (refine GK.build0 tb ?_; intro bs)))
      refine G.draw [] [blk b3 149 (0, 0) (u32s w), blk b2 149 (0, 0) l2, poolOf H] (by kernel_rfl) ?_
      ((first | refine GH.to 0 ?_ | refine GH.tos 0 ?_); (first | refine GH.to 1 ?_ | refine GH.tos 1 ?_); (first | refine GH.to 2 ?_ | refine GH.tos 2 ?_); (first | refine GH.to 3 ?_ | refine GH.tos 3 ?_); (first | refine GH.to 4 ?_ | refine GH.tos 4 ?_); (first | refine GH.to 5 ?_ | refine GH.tos 5 ?_); (first | refine GH.to 6 ?_ | refine GH.tos 6 ?_); (first | refine GH.to 7 ?_ | refine GH.tos 7 ?_); (first | refine GH.to 8 ?_ | refine GH.tos 8 ?_); (first | refine GH.to 9 ?_ | refine GH.tos 9 ?_))
      refine GH.fin (by kernel_rfl) ?_
      (repeat (first | refine GK.ro ?_ | (refine GK.box ?_; intro bl) | (refine GK.mkMap ?_; intro bm) | (refine GK.build0 tb ?_; intro bs)))
      refine GL.cons ?_; refine GO.callA (fun hF' hle hH => rotl_ok (x := x2) (n := 17) r2 (by omega) (by omega)) (by first | exact Wt.none | exact Wt.some rfl rfl (by first | exact rfl | decide +kernel)) (by kernel_rfl) rfl rfl (by repeat (first | exact SubR.nil | apply SubR.cons 0 rfl | apply SubR.cons 1 rfl | apply SubR.cons 2 rfl | apply SubR.cons 3 rfl | apply SubR.cons 4 rfl | apply SubR.cons 5 rfl | apply SubR.cons 6 rfl | apply SubR.cons 7 rfl | apply SubR.cons 8 rfl | apply SubR.cons 9 rfl | apply SubR.cons 10 rfl | apply SubR.cons 11 rfl | apply SubR.cons 12 rfl | apply SubR.cons 13 rfl | apply SubR.cons 14 rfl | apply SubR.cons 15 rfl)) ?_
      rintro v Γ' ⟨rfl, rfl⟩
      (repeat (first | refine GK.ro ?_ | (refine GK.box ?_; intro bl) | (refine GK.mkMap ?_; intro bm) | (refine GK.build0 tb ?_; intro bs)))
      refine GL.cons ?_; refine GO.callA (fun hF' hle hH => rotl_ok (x := x2) (n := 19) r2 (by omega) (by omega)) (by first | exact Wt.none | exact Wt.some rfl rfl (by first | exact rfl | decide +kernel)) (by kernel_rfl) rfl rfl (by repeat (first | exact SubR.nil | apply SubR.cons 0 rfl | apply SubR.cons 1 rfl | apply SubR.cons 2 rfl | apply SubR.cons 3 rfl | apply SubR.cons 4 rfl | apply SubR.cons 5 rfl | apply SubR.cons 6 rfl | apply SubR.cons 7 rfl | apply SubR.cons 8 rfl | apply SubR.cons 9 rfl | apply SubR.cons 10 rfl | apply SubR.cons 11 rfl | apply SubR.cons 12 rfl | apply SubR.cons 13 rfl | apply SubR.cons 14 rfl | apply SubR.cons 15 rfl)) ?_
      rintro v Γ' ⟨rfl, rfl⟩
      have s1 : sig1 x2 < 4294967296 := xor_lt (xor_lt (rotr_lt r2) (rotr_lt r2)) (div_lt r2)
      have s0 : sig0 x15 < 4294967296 := xor_lt (xor_lt (rotr_lt r15) (rotr_lt r15)) (div_lt r15)
      have u1 := rotr_lt (n := 17) r2
      have u2 := rotr_lt (n := 19) r2
      have u3 := rotr_lt (n := 7) r15
      have u4 := rotr_lt (n := 18) r15
      have u5 := xor_lt u1 u2
      have u6 := xor_lt u3 u4
      (repeat (first | refine GK.ro ?_ | (refine GK.box ?_; intro bl) | (refine GK.mkMap ?_; intro bm) | (refine GK.build0 tb ?_; intro bs)))
      rw [show ((rotr x2 17 ^^^ OfNat.ofNat (rotr x2 19)) ^^^ x2 / 2 ^ 10 : Nat) = sig1 x2 from rfl]
      refine GL.cons ?_; refine GO.callA (fun hF' hle hH => rotl_ok (x := x15) (n := 7) r15 (by omega) (by omega)) (by first | exact Wt.none | exact Wt.some rfl rfl (by first | exact rfl | decide +kernel)) (by kernel_rfl) rfl rfl (by repeat (first | exact SubR.nil | apply SubR.cons 0 rfl | apply SubR.cons 1 rfl | apply SubR.cons 2 rfl | apply SubR.cons 3 rfl | apply SubR.cons 4 rfl | apply SubR.cons 5 rfl | apply SubR.cons 6 rfl | apply SubR.cons 7 rfl | apply SubR.cons 8 rfl | apply SubR.cons 9 rfl | apply SubR.cons 10 rfl | apply SubR.cons 11 rfl | apply SubR.cons 12 rfl | apply SubR.cons 13 rfl | apply SubR.cons 14 rfl | apply SubR.cons 15 rfl)) ?_
      rintro v Γ' ⟨rfl, rfl⟩
      (repeat (first | refine GK.ro ?_ | (refine GK.box ?_; intro bl) | (refine GK.mkMap ?_; intro bm) | (refine GK.build0 tb ?_; intro bs)))
      refine GL.cons ?_; refine GO.callA (fun hF' hle hH => rotl_ok (x := x15) (n := 18) r15 (by omega) (by omega)) (by first | exact Wt.none | exact Wt.some rfl rfl (by first | exact rfl | decide +kernel)) (by kernel_rfl) rfl rfl (by repeat (first | exact SubR.nil | apply SubR.cons 0 rfl | apply SubR.cons 1 rfl | apply SubR.cons 2 rfl | apply SubR.cons 3 rfl | apply SubR.cons 4 rfl | apply SubR.cons 5 rfl | apply SubR.cons 6 rfl | apply SubR.cons 7 rfl | apply SubR.cons 8 rfl | apply SubR.cons 9 rfl | apply SubR.cons 10 rfl | apply SubR.cons 11 rfl | apply SubR.cons 12 rfl | apply SubR.cons 13 rfl | apply SubR.cons 14 rfl | apply SubR.cons 15 rfl)) ?_
      rintro v Γ' ⟨rfl, rfl⟩
      (repeat (first | refine GK.ro ?_ | (refine GK.box ?_; intro bl) | (refine GK.mkMap ?_; intro bm) | (refine GK.build0 tb ?_; intro bs)))
      rw [show ((rotr x15 7 ^^^ OfNat.ofNat (rotr x15 18)) ^^^ x15 / 2 ^ 3 : Nat) = sig0 x15 from rfl]
      (repeat (first | refine GK.ro ?_ | (refine GK.box ?_; intro bl) | (refine GK.mkMap ?_; intro bm) | (refine GK.build0 tb ?_; intro bs)))
      refine GK.heap (Γ' := [blk b3 149 (0, 0) (u32s w), blk b2 149 (0, 0) l2, poolOf H]) (fun _ s => Sat.sub (by repeat (first | exact SubR.nil | apply SubR.cons 0 rfl | apply SubR.cons 1 rfl | apply SubR.cons 2 rfl | apply SubR.cons 3 rfl | apply SubR.cons 4 rfl | apply SubR.cons 5 rfl | apply SubR.cons 6 rfl | apply SubR.cons 7 rfl | apply SubR.cons 8 rfl | apply SubR.cons 9 rfl | apply SubR.cons 10 rfl | apply SubR.cons 11 rfl | apply SubR.cons 12 rfl | apply SubR.cons 13 rfl | apply SubR.cons 14 rfl | apply SubR.cons 15 rfl)) s) ?_
      refine G.draw [15] [blk b3 149 (0, 0) (u32s w), blk b2 149 (0, 0) l2, poolOf H] (by kernel_rfl) ?_
      ((first | refine GH.to 0 ?_ | refine GH.tos 0 ?_); (first | refine GH.to 1 ?_ | refine GH.tos 1 ?_); (first | refine GH.to 2 ?_ | refine GH.tos 2 ?_); (first | refine GH.to 3 ?_ | refine GH.tos 3 ?_); (first | refine GH.to 4 ?_ | refine GH.tos 4 ?_); (first | refine GH.to 5 ?_ | refine GH.tos 5 ?_); (first | refine GH.to 6 ?_ | refine GH.tos 6 ?_); (first | refine GH.to 7 ?_ | refine GH.tos 7 ?_); (first | refine GH.to 8 ?_ | refine GH.tos 8 ?_); (first | refine GH.to 9 ?_ | refine GH.tos 9 ?_); (first | refine GH.to 10 ?_ | refine GH.tos 10 ?_); (first | refine GH.to 11 ?_ | refine GH.tos 11 ?_); (first | refine GH.to 12 ?_ | refine GH.tos 12 ?_); (first | refine GH.to 13 ?_ | refine GH.tos 13 ?_); (first | refine GH.to 14 ?_ | refine GH.tos 14 ?_))
      refine GH.step 15 rfl (by kernel_rfl) ?_
      refine Gt.store tb 0 (l' := u32s (sched b (t + 1 - 16))) (by first | exact Wt.none | exact Wt.some rfl rfl (by first | exact rfl | decide +kernel)) rfl rfl rfl rfl rfl (by rw [Nat.blt_eq, u32s_len, hww.1]; omega) (by simp [free]) (by rw [show 0 + (t : Int).toNat * 1 = t by omega, u32s_set, hs]; rfl) ?_
      refine GH.on rfl ?_
      refine GH.fin (by kernel_rfl) ?_
      (repeat (first | refine GK.ro ?_ | (refine GK.box ?_; intro bl) | (refine GK.mkMap ?_; intro bm) | (refine GK.build0 tb ?_; intro bs)))
      (refine GQ.againN (t + 1) ?_ ?_ ?_ ?_; rotate_left; (first | omega | (dsimp only; omega)); exact (by repeat (first | exact trivial | refine ⟨rfl, ?_⟩)); exact (fun _ s => Sat.sub (by repeat (first | exact SubR.nil | apply SubR.cons 0 rfl | apply SubR.cons 1 rfl | apply SubR.cons 2 rfl | apply SubR.cons 3 rfl | apply SubR.cons 4 rfl | apply SubR.cons 5 rfl | apply SubR.cons 6 rfl | apply SubR.cons 7 rfl | apply SubR.cons 8 rfl | apply SubR.cons 9 rfl | apply SubR.cons 10 rfl | apply SubR.cons 11 rfl | apply SubR.cons 12 rfl | apply SubR.cons 13 rfl | apply SubR.cons 14 rfl | apply SubR.cons 15 rfl)) s))
      show 16 ≤ t + 1 ∧ t + 1 ≤ 64
      omega
    · obtain rfl : t = 64 := by omega
      have hl64 := hww.1
      have hA : At (u32s w) 0 (u32s w) := At.all _
      have hAl : (u32s w).length = 64 := by rw [u32s_len, hl64]
      (repeat (first | refine GK.ro ?_ | (refine GK.box ?_; intro bl) | (refine GK.mkMap ?_; intro bm) | (refine GK.build0 tb ?_; intro bs) | (refine GL.cons ?_; refine GO.alloc (by first | exact Wt.none | exact Wt.some rfl rfl (by first | exact rfl | decide +kernel)) (by exact rfl) ?_; intro ba) | (refine GL.cons ?_; refine Gt.storeAny tb 0 (by first | exact Wt.none | exact Wt.some rfl rfl (by first | exact rfl | decide +kernel)) (by exact rfl) (by exact rfl) (by exact rfl) (by assumption) (by assumption) (by exact rfl) (by first | exact rfl | assumption) ?_) | (refine GL.cons ?_; refine Gt.storeAny tb 1 (by first | exact Wt.none | exact Wt.some rfl rfl (by first | exact rfl | decide +kernel)) (by exact rfl) (by exact rfl) (by exact rfl) (by assumption) (by assumption) (by exact rfl) (by first | exact rfl | assumption) ?_) | (refine GL.cons ?_; refine Gt.storeAny tb 2 (by first | exact Wt.none | exact Wt.some rfl rfl (by first | exact rfl | decide +kernel)) (by exact rfl) (by exact rfl) (by exact rfl) (by assumption) (by assumption) (by exact rfl) (by first | exact rfl | assumption) ?_) | (refine GL.cons ?_; refine Gt.storeAny tb 3 (by first | exact Wt.none | exact Wt.some rfl rfl (by first | exact rfl | decide +kernel)) (by exact rfl) (by exact rfl) (by exact rfl) (by assumption) (by assumption) (by exact rfl) (by first | exact rfl | assumption) ?_) | (refine GL.cons ?_; refine Gt.storeAny tb 4 (by first | exact Wt.none | exact Wt.some rfl rfl (by first | exact rfl | decide +kernel)) (by exact rfl) (by exact rfl) (by exact rfl) (by assumption) (by assumption) (by exact rfl) (by first | exact rfl | assumption) ?_) | (refine GL.cons ?_; refine Gt.storeAny tb 5 (by first | exact Wt.none | exact Wt.some rfl rfl (by first | exact rfl | decide +kernel)) (by exact rfl) (by exact rfl) (by exact rfl) (by assumption) (by assumption) (by exact rfl) (by first | exact rfl | assumption) ?_) | (refine GL.cons ?_; refine Gt.storeAny tb 6 (by first | exact Wt.none | exact Wt.some rfl rfl (by first | exact rfl | decide +kernel)) (by exact rfl) (by exact rfl) (by exact rfl) (by assumption) (by assumption) (by exact rfl) (by first | exact rfl | assumption) ?_) | (refine GL.cons ?_; refine Gt.storeAny tb 7 (by first | exact Wt.none | exact Wt.some rfl rfl (by first | exact rfl | decide +kernel)) (by exact rfl) (by exact rfl) (by exact rfl) (by assumption) (by assumption) (by exact rfl) (by first | exact rfl | assumption) ?_) | (refine GL.cons ?_; refine Gt.storeAny tb 8 (by first | exact Wt.none | exact Wt.some rfl rfl (by first | exact rfl | decide +kernel)) (by exact rfl) (by exact rfl) (by exact rfl) (by assumption) (by assumption) (by exact rfl) (by first | exact rfl | assumption) ?_) | (refine GL.cons ?_; refine Gt.storeAny tb 9 (by first | exact Wt.none | exact Wt.some rfl rfl (by first | exact rfl | decide +kernel)) (by exact rfl) (by exact rfl) (by exact rfl) (by assumption) (by assumption) (by exact rfl) (by first | exact rfl | assumption) ?_)))
      refine GL.cons ?_
      refine Gt.storeAll tb 1 (by first | exact Wt.none | exact Wt.some rfl rfl (by first | exact rfl | decide +kernel)) rfl rfl rfl hAl (fun u hu => by obtain ⟨x, _, rfl⟩ := List.mem_map.1 hu; rfl) rfl (by omega) ?_
      (repeat (first | refine GK.ro ?_ | (refine GK.box ?_; intro bl) | (refine GK.mkMap ?_; intro bm) | (refine GK.build0 tb ?_; intro bs)))
      exact GQ.fin1 (Γ' := [poolOf H]) rfl (Rv.row rfl (by kernel_rfl) (by rw [hAl]; kernel_rfl) (Rd.blk 1 rfl) (At.all _)) (fun _ s => Sat.sub (by repeat (first | exact SubR.nil | apply SubR.cons 0 rfl | apply SubR.cons 1 rfl | apply SubR.cons 2 rfl | apply SubR.cons 3 rfl | apply SubR.cons 4 rfl | apply SubR.cons 5 rfl | apply SubR.cons 6 rfl | apply SubR.cons 7 rfl | apply SubR.cons 8 rfl | apply SubR.cons 9 rfl | apply SubR.cons 10 rfl | apply SubR.cons 11 rfl | apply SubR.cons 12 rfl | apply SubR.cons 13 rfl | apply SubR.cons 14 rfl | apply SubR.cons 15 rfl)) s) ⟨by rw [← hw], rfl⟩
end Go.Sh
