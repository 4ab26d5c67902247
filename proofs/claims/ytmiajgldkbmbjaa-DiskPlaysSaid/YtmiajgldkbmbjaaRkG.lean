/- A call of both disks. -/
import Derived.Test.YtmiajgldkbmbjaaRkF
import Derived.Test.YtmiajgldkbmbjaaSlK
namespace Go.Dk
open Go Go.Sl
def ActM.data (a : ActM) : List UInt8 := if a.short then a.bytes else whole a.bytes
def actM (D : DM) (a : ActM) : DM := if a.kind = 0 then (D.write a.n a.data).2 else if a.kind = 1 then D.flush.2 else if a.kind = 2 then (D.arm a.n).2 else if a.kind = 3 then (D.restart a.keep).2 else D
theorem same_dec (n : Int) : decide (n = n) = true := decide_eq_true rfl
attribute [local irreducible] GK GO Yl Wt Ef Hd GH KH wpList Code.wp Sat pt FnOk Rd bodyPost Ret Exit.then Exit.inBlock Exit.noGoto exs Int.decLt Int.decLe Int.instDecidableEq
attribute [local irreducible] rep whole blank DM.write DM.flush DM.arm DM.restart DM.read ActM.data
variable {d r : Nat} {D : DM} {hF : Hp}
set_option maxHeartbeats 8000000 in
theorem do_ok (row : List Value) (a : ActM) (ha : actAt hF row a) (hx : D.Ok) (hopn : D.opn < 1000000000000000000) (hpend : D.pend.length < 1000000000) :
    FnOk Go.Proofs.Try.prog 24 [dptr d, dptr r, .agg ⟨row⟩] [dk d D, rk r D] hF (fun v Γ => v = .bool true ∧ Γ = [dk d (actM D a), rk r (actM D a)]) := by
  refine FnOk.intro 132 Go.Proofs.Try.func24 rfl rfl fun w0 => ?_
  obtain ⟨bv, kv, rfl, hbv, hkv, haok⟩ := ha
  (repeat (first | refine GK.run ?_ | (refine GK.box ?_; intro bl) | (refine GK.mkMap ?_; intro bm) | (refine GK.build0 tb ?_; intro bs)))
  refine G.cond rfl (fun k0 => ?_) (fun k0 => ?_)
  · have k0 : a.kind = 0 := by simpa using k0
    have e : actM D a = (D.write a.n a.data).2 := by unfold actM; rw [if_pos k0]
    have hdl : a.data.length ≤ 140737488355328 := by
      have := haok.bytes
      unfold ActM.data
      split
      · omega
      · rw [whole_length]; omega
    (repeat (first | refine GK.run ?_ | (refine GK.box ?_; intro bl) | (refine GK.mkMap ?_; intro bm) | (refine GK.build0 tb ?_; intro bs)))
    refine GL.cons ?_; refine GO.call [] (fun hF' hle hH => whole_ok _ _ (hbv.mono hle) haok.bytes) (by first | exact Wt.none | exact Wt.some rfl rfl (by first | exact rfl | decide +kernel)) (by kernel_rfl) rfl rfl rfl ?_
    rintro v Γ' ⟨rfl, rfl⟩
    (repeat (first | refine GK.run ?_ | (refine GK.box ?_; intro bl) | (refine GK.mkMap ?_; intro bm) | (refine GK.build0 tb ?_; intro bs)))
    refine GL.cons ?_; refine GO.strBytes (by first | exact Wt.none | exact Wt.some rfl rfl (by first | exact rfl | decide +kernel)) rfl rfl rfl rfl ?_
    intro p c
    (repeat (first | refine GK.run ?_ | (refine GK.box ?_; intro bl) | (refine GK.mkMap ?_; intro bm) | (refine GK.build0 tb ?_; intro bs)))
    have hb1 := haok.bytes
    refine G.cut (fun x : Option Addr × Nat => [(0, dptr d), (1, dptr r), (5, .pointer (some ⟨bl, 0, none⟩)), (7, .slice x.1 a.data.length x.2)])
      (fun x => [row (.slice x.1 a.data.length x.2) 5 1 a.data.length (u8s a.data), blk bl 35 (0, 0) [.int .i64 a.kind, .int .i64 a.n, bv, .bool a.short, kv], dk d D, rk r D]) (fun _ => True) (fun x _ => ?_) ?_
    rotate_left
    · refine G.cond rfl (fun hsh => ?_) (fun hsh => ?_)
      · have hsh : a.short = true := hsh
        have hda : a.data = a.bytes := by unfold ActM.data; rw [if_pos hsh]
        have hbv' := hbv
        obtain ⟨bp, bc, rfl, hbo⟩ := hbv'
        have hsrc : ∀ Γ : List HProp, Src Go.Proofs.Try.prog ⟨132, [], hF, w0⟩ Γ (.slice bp a.bytes.length bc) a.bytes.length 1 (u8s a.bytes) := fun Γ => by
          by_cases h0 : 0 < a.bytes.length
          · obtain ⟨bb, bo, cs, e, fz, rfl, q1, q2⟩ := hbo h0
            exact Src.slice (Rd.ro q1) q2 (by simp) (u8s_one _)
          · have : a.bytes = [] := List.length_eq_zero_iff.1 (by omega)
            rw [this]
            exact Src.none
        (repeat (first | refine GK.run ?_ | (refine GK.box ?_; intro bl) | (refine GK.mkMap ?_; intro bm) | (refine GK.build0 tb ?_; intro bs)))
        refine GL.cons ?_
        refine Gt.append0 tb 0 (by first | exact Wt.none | exact Wt.some rfl rfl (by first | exact rfl | decide +kernel)) rfl (.inl ⟨_, rfl⟩) rfl rfl rfl rfl rfl (hsrc _) (by omega) (by omega) ?_
        intro p2 c2
        (repeat (first | refine GK.run ?_ | (refine GK.box ?_; intro bl) | (refine GK.mkMap ?_; intro bm) | (refine GK.build0 tb ?_; intro bs)))
        refine GQ.reach (p2, c2) trivial (by rw [hda]; exact (by repeat (first | exact trivial | refine ⟨rfl, ?_⟩))) (fun w s => ?_)
        show Sat [row (.slice p2 a.data.length c2) _ 1 a.data.length (u8s a.data), _, _, _] _ _
        rw [hda]; exact s.sel [0, 1, 1, 1] rfl
      · have hsh : a.short = false := hsh
        have hda : a.data = whole a.bytes := by unfold ActM.data; rw [if_neg (by rw [hsh]; simp)]
        (repeat (first | refine GK.run ?_ | (refine GK.box ?_; intro bl) | (refine GK.mkMap ?_; intro bm) | (refine GK.build0 tb ?_; intro bs)))
        refine GQ.reach (p, c) trivial (by rw [hda]; exact (by repeat (first | exact trivial | refine ⟨rfl, ?_⟩))) (fun w s => ?_)
        show Sat [row (.slice p a.data.length c) _ 1 a.data.length (u8s a.data), _, _, _] _ _
        rw [hda]; exact s.sel [0, 0, 0, 0] rfl
    obtain ⟨p, c⟩ := x
    (repeat (first | refine GK.run ?_ | (refine GK.box ?_; intro bl) | (refine GK.mkMap ?_; intro bm) | (refine GK.build0 tb ?_; intro bs)))
    refine GL.cons ?_
    refine GO.yield (by first | exact Wt.none | exact Wt.some rfl rfl (by first | exact rfl | decide +kernel)) (Yl.rowStr (s := a.data) 0 rfl rfl rfl rfl rfl) ?_
    (repeat (first | refine GK.run ?_ | (refine GK.box ?_; intro bl) | (refine GK.mkMap ?_; intro bm) | (refine GK.build0 tb ?_; intro bs)))
    obtain ⟨B, hB⟩ : ∃ B, a.data = B := ⟨_, rfl⟩
    rw [hB] at hdl e
    rw [hB]
    refine GL.cons ?_; refine GO.call [2] (fun hF' hle hH => write_ok a.n _ B (hH.ro 0 rfl) hpend hopn hdl) (by first | exact Wt.none | exact Wt.some rfl rfl (by first | exact rfl | decide +kernel)) (by kernel_rfl) rfl rfl rfl ?_
    rintro v Γ' ⟨rfl, rfl⟩
    (repeat (first | refine GK.run ?_ | (refine GK.box ?_; intro bl) | (refine GK.mkMap ?_; intro bm) | (refine GK.build0 tb ?_; intro bs)))
    refine GL.cons ?_
    refine GO.yield (by first | exact Wt.none | exact Wt.some rfl rfl (by first | exact rfl | decide +kernel)) (Yl.rowStr (s := B) 1 rfl rfl rfl rfl rfl) ?_
    (repeat (first | refine GK.run ?_ | (refine GK.box ?_; intro bl) | (refine GK.mkMap ?_; intro bm) | (refine GK.build0 tb ?_; intro bs)))
    rw [show (B == B) = true from beq_self_eq_true B]
    (repeat (first | refine GK.run ?_ | (refine GK.box ?_; intro bl) | (refine GK.mkMap ?_; intro bm) | (refine GK.build0 tb ?_; intro bs)))
    refine GK.weak (by repeat (first | exact trivial | refine ⟨rfl, ?_⟩)) (fun w s => s.sel [1, 1, 0, 0] rfl) (G.loop (fun x : Nat × List UInt8 => B.length - x.1)
      (fun x => [(1, dptr r), (5, .pointer (some ⟨bl, 0, none⟩)), (7, .slice p B.length c), (8, str B), (9, .int .i64 (D.write a.n B).1), (10, .bool true), (44, .int .i64 B.length), (45, .int .i64 x.1)])
      (fun x => [row (.slice p B.length c) 5 1 B.length (u8s x.2), blk bl 35 (0, 0) [.int .i64 a.kind, .int .i64 a.n, bv, .bool a.short, kv], dk d (D.write a.n B).2, rk r D])
      (fun x => x.1 ≤ B.length ∧ x.2.length = B.length) (fun x hi => ?_) (0, B) ⟨Nat.zero_le _, rfl⟩)
    obtain ⟨i, C⟩ := x
    obtain ⟨hi, hC⟩ := hi
    replace hi : i ≤ B.length := hi
    replace hC : C.length = B.length := hC
    (repeat (first | refine GK.run ?_ | (refine GK.box ?_; intro bl) | (refine GK.mkMap ?_; intro bm) | (refine GK.build0 tb ?_; intro bs)))
    refine G.cond rfl (fun h1 => ?_) (fun h1 => ?_)
    · have h1 : i < B.length := by simp at h1; omega
      obtain ⟨q, hq⟩ : ∃ q, C[i]? = some q := ⟨_, List.getElem?_eq_getElem (by omega)⟩
      refine GK.openRow 0 rfl (by omega) fun b tail fz hp' hc ht hxs hf => ?_
      subst hp'
      have a1 : (u8s C ++ tail)[0 + ((i : Nat) : Int).toNat * 1]? = some (.int .u8 q.toNat) := by
        rw [show 0 + ((i : Nat) : Int).toNat * 1 = i by show 0 + i * 1 = i; omega, List.getElem?_append_left (by simp; omega)]
        simp [u8s, hq]
      (repeat (first | refine GK.run ?_ | (refine GK.box ?_; intro bl) | (refine GK.mkMap ?_; intro bm) | (refine GK.build0 tb ?_; intro bs)))
      refine GL.cons ?_
      refine GO.yield (by first | exact Wt.none | exact Wt.some rfl rfl (by first | exact rfl | decide +kernel)) (Yl.xor8 (b := 85) rfl rfl) ?_
      (repeat (first | refine GK.run ?_ | (refine GK.box ?_; intro bl) | (refine GK.mkMap ?_; intro bm) | (refine GK.build0 tb ?_; intro bs)))
      refine GL.cons ?_
      refine Gt.storeAt tb 0 (by first | exact Wt.none | exact Wt.some rfl rfl (by first | exact rfl | decide +kernel)) rfl rfl rfl rfl rfl (by simp; omega) (free_row hf (by simp; omega)) ?_
      (repeat (first | refine GK.run ?_ | (refine GK.box ?_; intro bl) | (refine GK.mkMap ?_; intro bm) | (refine GK.build0 tb ?_; intro bs)))
      refine GQ.again (i + 1, C.set i (q ^^^ 85)) ⟨h1, by simp [hC]⟩ (by show B.length - (i + 1) < B.length - i; omega) (by repeat (first | exact trivial | refine ⟨rfl, ?_⟩)) (fun w s => ?_)
      have e : (u8s C ++ tail).set (0 + ((i : Nat) : Int).toNat * 1) (.int .u8 ((q ^^^ 85).toNat : Nat)) = u8s (C.set i (q ^^^ 85)) ++ tail := by
        rw [show 0 + ((i : Nat) : Int).toNat * 1 = i by show 0 + i * 1 = i; omega, List.set_append_left _ _ (by simp; omega)]
        simp [u8s, List.map_set]
      have s := s.sel [0, 0, 0, 0] rfl
      rw [e] at s
      exact s.row_blk hc ht (by simp [hC]) (by have := hf; simp only [List.length_append, u8s_length, List.length_set] at this ⊢; exact this)
    · (repeat (first | refine GK.run ?_ | (refine GK.box ?_; intro bl) | (refine GK.mkMap ?_; intro bm) | (refine GK.build0 tb ?_; intro bs)))
      refine GL.cons ?_; refine GO.call [3] (fun hF' hle hH => rwrite_ok a.n B hpend hopn hdl) (by first | exact Wt.none | exact Wt.some rfl rfl (by first | exact rfl | decide +kernel)) (by kernel_rfl) rfl rfl rfl ?_
      rintro v Γ' ⟨rfl, rfl⟩
      (repeat (first | refine GK.run ?_ | (refine GK.box ?_; intro bl) | (refine GK.mkMap ?_; intro bm) | (refine GK.build0 tb ?_; intro bs)))
      rw [same_dec]
      (repeat (first | refine GK.run ?_ | (refine GK.box ?_; intro bl) | (refine GK.mkMap ?_; intro bm) | (refine GK.build0 tb ?_; intro bs)))
      exact GK.heap (fun w s => s.sel [3, 0] rfl) (GQ.end1 rfl rfl ⟨rfl, by rw [e]⟩)
  · have k0 : ¬ a.kind = 0 := by simpa using k0
    (repeat (first | refine GK.run ?_ | (refine GK.box ?_; intro bl) | (refine GK.mkMap ?_; intro bm) | (refine GK.build0 tb ?_; intro bs)))
    refine G.cond rfl (fun k1 => ?_) (fun k1 => ?_)
    · have k1 : a.kind = 1 := by simpa using k1
      have e : actM D a = D.flush.2 := by unfold actM; rw [if_neg k0, if_pos k1]
      (repeat (first | refine GK.run ?_ | (refine GK.box ?_; intro bl) | (refine GK.mkMap ?_; intro bm) | (refine GK.build0 tb ?_; intro bs)))
      refine GL.cons ?_; refine GO.call [1] (fun hF' hle hH => flush_ok hopn) (by first | exact Wt.none | exact Wt.some rfl rfl (by first | exact rfl | decide +kernel)) (by kernel_rfl) rfl rfl rfl ?_
      rintro v Γ' ⟨rfl, rfl⟩
      (repeat (first | refine GK.run ?_ | (refine GK.box ?_; intro bl) | (refine GK.mkMap ?_; intro bm) | (refine GK.build0 tb ?_; intro bs)))
      refine GL.cons ?_; refine GO.call [2] (fun hF' hle hH => rflush_ok hopn) (by first | exact Wt.none | exact Wt.some rfl rfl (by first | exact rfl | decide +kernel)) (by kernel_rfl) rfl rfl rfl ?_
      rintro v Γ' ⟨rfl, rfl⟩
      (repeat (first | refine GK.run ?_ | (refine GK.box ?_; intro bl) | (refine GK.mkMap ?_; intro bm) | (refine GK.build0 tb ?_; intro bs)))
      rw [same_dec]
      (repeat (first | refine GK.run ?_ | (refine GK.box ?_; intro bl) | (refine GK.mkMap ?_; intro bm) | (refine GK.build0 tb ?_; intro bs)))
      exact GK.heap (fun w s => s.sel [1, 0] rfl) (GQ.end1 rfl rfl ⟨rfl, by rw [e]⟩)
    · have k1 : ¬ a.kind = 1 := by simpa using k1
      (repeat (first | refine GK.run ?_ | (refine GK.box ?_; intro bl) | (refine GK.mkMap ?_; intro bm) | (refine GK.build0 tb ?_; intro bs)))
      refine G.cond rfl (fun k2 => ?_) (fun k2 => ?_)
      · have k2 : a.kind = 2 := by simpa using k2
        have e : actM D a = (D.arm a.n).2 := by unfold actM; rw [if_neg k0, if_neg k1, if_pos k2]
        (repeat (first | refine GK.run ?_ | (refine GK.box ?_; intro bl) | (refine GK.mkMap ?_; intro bm) | (refine GK.build0 tb ?_; intro bs)))
        refine G.draw [] [blk bl 35 (0, 0) [.int .i64 a.kind, .int .i64 a.n, bv, .bool a.short, kv]] (by kernel_rfl) ?_
        ((first | refine GH.tk 0 [0] ?_ | refine GH.tks 0 [0] ?_); (first | refine GH.tk 1 [0] ?_ | refine GH.tks 1 [0] ?_); (first | refine GH.tk 2 [0] ?_ | refine GH.tks 2 [0] ?_); (first | refine GH.tk 4 [0] ?_ | refine GH.tks 4 [0] ?_); (first | refine GH.tk 5 [0] ?_ | refine GH.tks 5 [0] ?_); (first | refine GH.tk 6 [0] ?_ | refine GH.tks 6 [0] ?_))
        refine GH.step 3 rfl (by kernel_rfl) ?_
        refine GO.call [1] (fun hF' _ _ => arm_ok a.n haok.n.2) (by first | exact Wt.none | exact Wt.some rfl rfl (by first | exact rfl | decide +kernel)) (by kernel_rfl) rfl rfl rfl ?_
        rintro v Γ' ⟨rfl, rfl⟩
        refine GH.keep (fun _ s => s.sel [1] rfl) ?_
        refine GH.step 7 rfl (by kernel_rfl) ?_
        refine GO.call [2] (fun hF' _ _ => rarm_ok a.n haok.n.2) (by first | exact Wt.none | exact Wt.some rfl rfl (by first | exact rfl | decide +kernel)) (by kernel_rfl) rfl rfl rfl ?_
        rintro v Γ' ⟨rfl, rfl⟩
        refine GH.keep (fun _ s => s.sel [2] rfl) ?_
        ((first | refine GH.tk 8 [2] ?_ | refine GH.tks 8 [2] ?_))
        rw [same_dec]
        ((first | refine GH.tk 9 [2] ?_ | refine GH.tks 9 [2] ?_))
        refine GH.fin (by kernel_rfl) ?_
        (repeat (first | refine GK.run ?_ | (refine GK.box ?_; intro bl) | (refine GK.mkMap ?_; intro bm) | (refine GK.build0 tb ?_; intro bs)))
        exact GK.heap (fun w s => s.sel [1, 0] rfl) (GQ.end1 rfl rfl ⟨rfl, by rw [e]⟩)
      · have k2 : ¬ a.kind = 2 := by simpa using k2
        (repeat (first | refine GK.run ?_ | (refine GK.box ?_; intro bl) | (refine GK.mkMap ?_; intro bm) | (refine GK.build0 tb ?_; intro bs)))
        refine G.cond rfl (fun k3 => ?_) (fun k3 => ?_)
        · have k3 : a.kind = 3 := by simpa using k3
          have e : actM D a = (D.restart a.keep).2 := by unfold actM; rw [if_neg k0, if_neg k1, if_neg k2, if_pos k3]
          have hkl := haok.keep
          have hkv' := hkv
          obtain ⟨kp, kc, rfl, hko⟩ := hkv'
          have hsrc : ∀ Γ : List HProp, Src Go.Proofs.Try.prog ⟨132, [], hF, w0⟩ Γ (.slice kp a.keep.length kc) a.keep.length 1 (i64s a.keep) := fun Γ => by
            have h1 : ∀ u ∈ i64s a.keep, u.oneCell' = true := by
              intro u hu
              obtain ⟨_, _, rfl⟩ := List.mem_map.1 hu
              rfl
            by_cases h0 : 0 < a.keep.length
            · obtain ⟨bb, bo, cs, e, fz, rfl, q1, q2⟩ := hko h0
              exact Src.slice (Rd.ro q1) q2 (by simp [i64s]) h1
            · have : a.keep = [] := List.length_eq_zero_iff.1 (by omega)
              rw [this]
              exact Src.none
          (repeat (first | refine GK.run ?_ | (refine GK.box ?_; intro bl) | (refine GK.mkMap ?_; intro bm) | (refine GK.build0 tb ?_; intro bs)))
          refine G.draw [] [blk bl 35 (0, 0) [.int .i64 a.kind, .int .i64 a.n, bv, .bool a.short, .slice kp a.keep.length kc]] (by kernel_rfl) ?_
          ((first | refine GH.tk 0 [0] ?_ | refine GH.tks 0 [0] ?_); (first | refine GH.tk 2 [0] ?_ | refine GH.tks 2 [0] ?_); (first | refine GH.tk 3 [0] ?_ | refine GH.tks 3 [0] ?_); (first | refine GH.tk 6 [0] ?_ | refine GH.tks 6 [0] ?_); (first | refine GH.tk 7 [0] ?_ | refine GH.tks 7 [0] ?_); (first | refine GH.tk 8 [0] ?_ | refine GH.tks 8 [0] ?_))
          refine GH.step 1 rfl (by kernel_rfl) ?_
          refine Gt.build0 tb (by first | exact Wt.none | exact Wt.some rfl rfl (by first | exact rfl | decide +kernel)) rfl rfl ?_
          intro bs
          refine GH.keep (fun _ s => s.sel [1] rfl) ?_
          refine GH.step 4 rfl (by kernel_rfl) ?_
          refine Gt.append0 tb 0 (by first | exact Wt.none | exact Wt.some rfl rfl (by first | exact rfl | decide +kernel)) rfl (.inl ⟨_, rfl⟩) rfl rfl rfl rfl rfl (hsrc _) (by omega) (by omega) ?_
          intro p c
          refine GH.keep (fun _ s => s.sel [1] rfl) ?_
          refine GH.step 5 rfl (by kernel_rfl) ?_
          refine GO.call [2] (fun hF' _ hH => restart_ok _ a.keep (hH.ro 0 rfl) (by omega)) (by first | exact Wt.none | exact Wt.some rfl rfl (by first | exact rfl | decide +kernel)) (by kernel_rfl) rfl rfl rfl ?_
          rintro v Γ' ⟨rfl, rfl⟩
          refine GH.keep (fun _ s => s.sel [2] rfl) ?_
          refine GH.step 9 rfl (by kernel_rfl) ?_
          refine GO.call [3] (fun hF' hle _ => rrestart_ok _ a.keep (hkv.mono hle) (by omega) hx) (by first | exact Wt.none | exact Wt.some rfl rfl (by first | exact rfl | decide +kernel)) (by kernel_rfl) rfl rfl rfl ?_
          rintro v Γ' ⟨rfl, rfl⟩
          refine GH.keep (fun _ s => s.sel [3] rfl) ?_
          ((first | refine GH.tk 10 [3] ?_ | refine GH.tks 10 [3] ?_))
          rw [same_dec]
          ((first | refine GH.tk 11 [3] ?_ | refine GH.tks 11 [3] ?_))
          refine GH.fin (by kernel_rfl) ?_
          (repeat (first | refine GK.run ?_ | (refine GK.box ?_; intro bl) | (refine GK.mkMap ?_; intro bm) | (refine GK.build0 tb ?_; intro bs)))
          exact GK.heap (fun w s => s.sel [1, 0] rfl) (GQ.end1 rfl rfl ⟨rfl, by rw [e]⟩)
        · have k3 : ¬ a.kind = 3 := by simpa using k3
          have e : actM D a = D := by unfold actM; rw [if_neg k0, if_neg k1, if_neg k2, if_neg k3]
          (repeat (first | refine GK.run ?_ | (refine GK.box ?_; intro bl) | (refine GK.mkMap ?_; intro bm) | (refine GK.build0 tb ?_; intro bs)))
          refine GL.cons ?_; refine GO.call [1] (fun hF' hle hH => read_ok a.n) (by first | exact Wt.none | exact Wt.some rfl rfl (by first | exact rfl | decide +kernel)) (by kernel_rfl) rfl rfl rfl ?_
          rintro v Γ' ⟨p, c, rfl, rfl⟩
          (repeat (first | refine GK.run ?_ | (refine GK.box ?_; intro bl) | (refine GK.mkMap ?_; intro bm) | (refine GK.build0 tb ?_; intro bs)))
          refine GL.cons ?_; refine GO.call [3] (fun hF' hle hH => rread_ok a.n) (by first | exact Wt.none | exact Wt.some rfl rfl (by first | exact rfl | decide +kernel)) (by kernel_rfl) rfl rfl rfl ?_
          rintro v Γ' ⟨rfl, rfl⟩
          obtain ⟨B, hB⟩ : ∃ B, (D.read a.n).1 = B := ⟨_, rfl⟩
          rw [hB]
          have hBl : B.length ≤ 256 := by
            rw [← hB]
            unfold DM.read
            split
            · rename_i hw
              have : 0 ≤ a.n ∧ a.n < D.sure.length := by
                unfold DM.wrong at hw
                split at hw
                · cases hw
                · split at hw
                  · cases hw
                  · omega
              rw [hx.get (by omega)]; exact Nat.le_refl _
            · simp
          (repeat (first | refine GK.run ?_ | (refine GK.box ?_; intro bl) | (refine GK.mkMap ?_; intro bm) | (refine GK.build0 tb ?_; intro bs)))
          refine GL.cons ?_
          refine GO.yield (by first | exact Wt.none | exact Wt.some rfl rfl (by first | exact rfl | decide +kernel)) (Yl.rowStr (s := B) 1 rfl rfl rfl rfl rfl) ?_
          (repeat (first | refine GK.run ?_ | (refine GK.box ?_; intro bl) | (refine GK.mkMap ?_; intro bm) | (refine GK.build0 tb ?_; intro bs)))
          rw [show (B == B) = true from beq_self_eq_true B]
          (repeat (first | refine GK.run ?_ | (refine GK.box ?_; intro bl) | (refine GK.mkMap ?_; intro bm) | (refine GK.build0 tb ?_; intro bs)))
          rw [same_dec]
          (repeat (first | refine GK.run ?_ | (refine GK.box ?_; intro bl) | (refine GK.mkMap ?_; intro bm) | (refine GK.build0 tb ?_; intro bs)))
          refine GK.weak (by repeat (first | exact trivial | refine ⟨rfl, ?_⟩)) (fun w s => s.sel [1, 0, 0] rfl) (G.loop (fun x : Nat × List UInt8 => B.length - x.1)
            (fun x => [(12, .slice p B.length c), (16, .bool true), (120, .int .i64 B.length), (121, .int .i64 x.1)])
            (fun x => [row (.slice p B.length c) 5 1 B.length (u8s x.2), rk r D, dk d D])
            (fun x => x.1 ≤ B.length ∧ x.2.length = B.length) (fun x hi => ?_) (0, B) ⟨Nat.zero_le _, rfl⟩)
          obtain ⟨i, C⟩ := x
          obtain ⟨hi, hC⟩ := hi
          replace hi : i ≤ B.length := hi
          replace hC : C.length = B.length := hC
          (repeat (first | refine GK.run ?_ | (refine GK.box ?_; intro bl) | (refine GK.mkMap ?_; intro bm) | (refine GK.build0 tb ?_; intro bs)))
          refine G.cond rfl (fun h1 => ?_) (fun h1 => ?_)
          · have h1 : i < B.length := by simp at h1; omega
            obtain ⟨q, hq⟩ : ∃ q, C[i]? = some q := ⟨_, List.getElem?_eq_getElem (by omega)⟩
            refine GK.openRow 0 rfl (by omega) fun b tail fz hp' hc ht hxs hf => ?_
            subst hp'
            have a1 : (u8s C ++ tail)[0 + ((i : Nat) : Int).toNat * 1]? = some (.int .u8 q.toNat) := by
              rw [show 0 + ((i : Nat) : Int).toNat * 1 = i by show 0 + i * 1 = i; omega, List.getElem?_append_left (by simp; omega)]
              simp [u8s, hq]
            (repeat (first | refine GK.run ?_ | (refine GK.box ?_; intro bl) | (refine GK.mkMap ?_; intro bm) | (refine GK.build0 tb ?_; intro bs)))
            refine GL.cons ?_
            refine GO.yield (by first | exact Wt.none | exact Wt.some rfl rfl (by first | exact rfl | decide +kernel)) (Yl.xor8 (b := 85) rfl rfl) ?_
            (repeat (first | refine GK.run ?_ | (refine GK.box ?_; intro bl) | (refine GK.mkMap ?_; intro bm) | (refine GK.build0 tb ?_; intro bs)))
            refine GL.cons ?_
            refine Gt.storeAt tb 0 (by first | exact Wt.none | exact Wt.some rfl rfl (by first | exact rfl | decide +kernel)) rfl rfl rfl rfl rfl (by simp; omega) (free_row hf (by simp; omega)) ?_
            (repeat (first | refine GK.run ?_ | (refine GK.box ?_; intro bl) | (refine GK.mkMap ?_; intro bm) | (refine GK.build0 tb ?_; intro bs)))
            refine GQ.again (i + 1, C.set i (q ^^^ 85)) ⟨h1, by simp [hC]⟩ (by show B.length - (i + 1) < B.length - i; omega) (by repeat (first | exact trivial | refine ⟨rfl, ?_⟩)) (fun w s => ?_)
            have e : (u8s C ++ tail).set (0 + ((i : Nat) : Int).toNat * 1) (.int .u8 ((q ^^^ 85).toNat : Nat)) = u8s (C.set i (q ^^^ 85)) ++ tail := by
              rw [show 0 + ((i : Nat) : Int).toNat * 1 = i by show 0 + i * 1 = i; omega, List.set_append_left _ _ (by simp; omega)]
              simp [u8s, List.map_set]
            have s := s.sel [0, 0, 0] rfl
            rw [e] at s
            exact s.row_blk hc ht (by simp [hC]) (by have := hf; simp only [List.length_append, u8s_length, List.length_set] at this ⊢; exact this)
          · (repeat (first | refine GK.run ?_ | (refine GK.box ?_; intro bl) | (refine GK.mkMap ?_; intro bm) | (refine GK.build0 tb ?_; intro bs)))
            exact GK.heap (fun w s => s.sel [2, 1] rfl) (GQ.end1 rfl rfl ⟨rfl, by rw [e]⟩)
end Go.Dk
