/- The document's disk: Flush, New, Clone. -/
import Derived.Test.YtmiajgldkbmbjaaRkC
namespace Go.Dk
open Go Go.Sl
theorem strs_set (l : List (List UInt8)) (i : Nat) (s : List UInt8) (t : List Value) (h : i < l.length) : (strs l ++ t).set (0 + ((i : Nat) : Int).toNat * 1) (str s) = strs (l.set i s) ++ t := by
  rw [show 0 + ((i : Nat) : Int).toNat * 1 = i by show 0 + i * 1 = i; omega]
  rw [List.set_append_left _ _ (by rw [strs_length]; exact h)]
  simp [strs, List.map_set]
attribute [local irreducible] GK GO Yl Wt Ef Hd GH KH wpList Code.wp Sat pt FnOk Rd bodyPost Ret Exit.then Exit.inBlock Exit.noGoto exs Int.decLt Int.decLe Int.instDecidableEq
attribute [local irreducible] rep whole
variable {d : Nat} {D : DM} {hF : Hp}
set_option maxHeartbeats 4000000 in
theorem rflush_ok (hopn : D.opn < 1000000000000000000) : FnOk Go.Proofs.Try.prog 33 [dptr d] [rk d D] hF (fun v Γ => v = .int .i64 D.flush.1 ∧ Γ = [rk d D.flush.2]) := by
  refine FnOk.intro 46 Go.Proofs.Try.func33 rfl rfl fun w0 => ?_
  refine GK.opens 0 rfl fun x hx => ?_
  have hle := hx.le
  have hcnt := hx.count
  (repeat (first | refine GK.run ?_ | (refine GK.box ?_; intro bl) | (refine GK.mkMap ?_; intro bm) | (refine GK.build0 tb ?_; intro bs)))
  refine GK.split 8 _ rfl (fun h => ?_) (fun h => ?_)
  · have h : D.off = true := h
    (repeat (first | refine GK.run ?_ | (refine GK.box ?_; intro bl) | (refine GK.mkMap ?_; intro bm) | (refine GK.build0 tb ?_; intro bs)))
    refine GK.heap (Γ' := [rk d D]) (fun w s => shut_rk (x := x) hx (s.sel [0, 0, 0] rfl)) (GQ.end1 rfl rfl ?_)
    simp [DM.flush, h]
  · have h : D.off = false := h
    (repeat (first | refine GK.run ?_ | (refine GK.box ?_; intro bl) | (refine GK.mkMap ?_; intro bm) | (refine GK.build0 tb ?_; intro bs)))
    refine GL.cons ?_; refine GO.call [0] (fun hF' hle hH => rdoes_ok x hx) (by first | exact Wt.none | exact Wt.some rfl rfl (by first | exact rfl | decide +kernel)) (by kernel_rfl) rfl rfl rfl ?_
    rintro v Γ' ⟨rfl, rfl⟩
    have hok := hx.goes hopn
    obtain ⟨g1, g2, g3⟩ := goes_opn D
    rw [show rcells D.goes.2 x = [.slice x.sp D.sure.length x.sc, .slice x.pp D.pend.length x.pc, .bool D.goes.2.off, .bool D.goes.2.armed, .int .i64 D.goes.2.plan, .int .i64 D.goes.2.opn] from by rw [rcells, g2, g3]]
    (repeat (first | refine GK.run ?_ | (refine GK.box ?_; intro bl) | (refine GK.mkMap ?_; intro bm) | (refine GK.build0 tb ?_; intro bs)))
    refine G.cond rfl (fun h4 => ?_) (fun h4 => ?_)
    · have h4 : D.goes.1 = false := by simpa using h4
      (repeat (first | refine GK.run ?_ | (refine GK.box ?_; intro bl) | (refine GK.mkMap ?_; intro bm) | (refine GK.build0 tb ?_; intro bs)))
      have hwr : D.flush = (50, D.goes.2) := by unfold DM.flush; rw [if_neg (by rw [h]; simp), if_pos h4]
      refine GK.heap (Γ' := [rk d D.goes.2]) (fun w s => shut_rk (x := x) hok ?_) (GQ.end1 rfl rfl ?_)
      · rw [rcells, g2, g3]; exact s.sel [0, 0, 0] rfl
      · rw [hwr]; exact ⟨rfl, rfl⟩
    · have h4 : D.goes.1 = true := by simpa using h4
      (repeat (first | refine GK.run ?_ | (refine GK.box ?_; intro bl) | (refine GK.mkMap ?_; intro bm) | (refine GK.build0 tb ?_; intro bs)))
      obtain ⟨sp, sc, pp, pc⟩ := x
      refine GK.weak (by repeat (first | exact trivial | refine ⟨rfl, ?_⟩)) (fun w s => s.sel [0, 0, 0] rfl) (G.loop (fun k : Nat => D.pend.length - k)
        (fun k => [(0, dptr d), (3, .int .i64 k)])
        (fun k => [rblk d [.slice sp D.sure.length sc, .slice pp D.pend.length pc, .bool D.goes.2.off, .bool D.goes.2.armed, .int .i64 D.goes.2.plan, .int .i64 D.goes.2.opn], row (.slice sp D.sure.length sc) 9 1 D.sure.length (strs (settles D.sure (D.pend.take k))), row (.slice pp D.pend.length pc) 76 2 D.pend.length (puts D.pend)])
        (fun k => k ≤ D.pend.length) (fun k hk => ?_) 0 (Nat.zero_le _))
      have hsl := settles_length D.sure (D.pend.take k)
      (repeat (first | refine GK.run ?_ | (refine GK.box ?_; intro bl) | (refine GK.mkMap ?_; intro bm) | (refine GK.build0 tb ?_; intro bs)))
      refine G.cond rfl (fun h3 => ?_) (fun h3 => ?_)
      · have h3 : k < D.pend.length := by simp at h3; omega
        obtain ⟨p, hp⟩ : ∃ p, D.pend[k]? = some p := ⟨_, List.getElem?_eq_getElem h3⟩
        have hpe := hx.pend p (List.mem_of_getElem? hp)
        refine GK.openRow 2 rfl (by omega) fun b tail fz hp' hc ht hxs hf => ?_
        refine GK.openRow 2 rfl hx.pos fun b2 tail2 fz2 hp2 hc2 ht2 hxs2 hf2 => ?_
        subst hp' hp2
        have a1 : (puts D.pend ++ tail)[0 + ((k : Nat) : Int).toNat * 2 + 0]? = some (.int .i64 p.1) := by have := (puts_at hp tail).1; simpa using this
        have a2 : (puts D.pend ++ tail)[0 + ((k : Nat) : Int).toNat * 2 + 1]? = some (str p.2) := by have := (puts_at hp tail).2; simpa using this
        (repeat (first | refine GK.run ?_ | (refine GK.box ?_; intro bl) | (refine GK.mkMap ?_; intro bm) | (refine GK.build0 tb ?_; intro bs)))
        refine G.draw [21] [blk b2 9 fz2 (strs (settles D.sure (D.pend.take k)) ++ tail2), blk b 76 fz (puts D.pend ++ tail), rblk d [.slice (some ⟨b2, 0, none⟩) D.sure.length sc, .slice (some ⟨b, 0, none⟩) D.pend.length pc, .bool D.goes.2.off, .bool D.goes.2.armed, .int .i64 D.goes.2.plan, .int .i64 D.goes.2.opn]] (by kernel_rfl) ?_
        ((first | refine GH.tk 0 [0,0,0] ?_ | refine GH.tks 0 [0,0,0] ?_); (first | refine GH.tk 1 [0,0,0] ?_ | refine GH.tks 1 [0,0,0] ?_); (first | refine GH.tk 2 [0,0,0] ?_ | refine GH.tks 2 [0,0,0] ?_); (first | refine GH.tk 3 [0,0,0] ?_ | refine GH.tks 3 [0,0,0] ?_); (first | refine GH.tk 4 [0,0,0] ?_ | refine GH.tks 4 [0,0,0] ?_); (first | refine GH.tk 5 [0,0,0] ?_ | refine GH.tks 5 [0,0,0] ?_); (first | refine GH.tk 6 [0,0,0] ?_ | refine GH.tks 6 [0,0,0] ?_); (first | refine GH.tk 7 [0,0,0] ?_ | refine GH.tks 7 [0,0,0] ?_); (first | refine GH.tk 8 [0,0,0] ?_ | refine GH.tks 8 [0,0,0] ?_); (first | refine GH.tk 9 [0,0,0] ?_ | refine GH.tks 9 [0,0,0] ?_); (first | refine GH.tk 10 [0,0,0] ?_ | refine GH.tks 10 [0,0,0] ?_); (first | refine GH.tk 11 [0,0,0] ?_ | refine GH.tks 11 [0,0,0] ?_); (first | refine GH.tk 12 [0,0,0] ?_ | refine GH.tks 12 [0,0,0] ?_); (first | refine GH.tk 13 [0,0,0] ?_ | refine GH.tks 13 [0,0,0] ?_); (first | refine GH.tk 14 [0,0,0] ?_ | refine GH.tks 14 [0,0,0] ?_); (first | refine GH.tk 15 [0,0,0] ?_ | refine GH.tks 15 [0,0,0] ?_); (first | refine GH.tk 16 [0,0,0] ?_ | refine GH.tks 16 [0,0,0] ?_); (first | refine GH.tk 17 [0,0,0] ?_ | refine GH.tks 17 [0,0,0] ?_); (first | refine GH.tk 18 [0,0,0] ?_ | refine GH.tks 18 [0,0,0] ?_); (first | refine GH.tk 19 [0,0,0] ?_ | refine GH.tks 19 [0,0,0] ?_); (first | refine GH.tk 20 [0,0,0] ?_ | refine GH.tks 20 [0,0,0] ?_))
        refine GH.step 21 rfl (by kernel_rfl) ?_
        refine Gt.storeAt tb 0 (by first | exact Wt.none | exact Wt.some rfl rfl (by first | exact rfl | decide +kernel)) rfl rfl rfl rfl rfl (by simp [strs_length, hsl]; omega) (free_row hf2 (by simp [strs_length, hsl]; omega)) ?_
        refine GH.on rfl ?_
        refine GH.fin (by kernel_rfl) ?_
        (repeat (first | refine GK.run ?_ | (refine GK.box ?_; intro bl) | (refine GK.mkMap ?_; intro bm) | (refine GK.build0 tb ?_; intro bs)))
        refine GQ.again (k + 1) h3 (by omega) (by repeat (first | exact trivial | refine ⟨rfl, ?_⟩)) (fun w s => ?_)
        have s := s.sel [0, 0, 0] rfl
        rw [strs_set _ _ _ _ (by rw [hsl]; exact hpe.1), ← settles_take D.sure hp] at s
        have s := (s.row_blk (e := 9) (sz := 1) hc2 ht2 (by rw [strs_length, settles_length, Nat.mul_one]) (by
          have := hf2
          simp only [List.length_append, strs_length, settles_length] at this ⊢
          exact this)).sel [1, 0, 0] rfl
        exact (s.row_blk hc ht hxs hf).sel [2, 1, 0] rfl
      · have h3 : k = D.pend.length := by simp at h3; omega
        subst h3
        rw [List.take_length] at hsl
        (repeat (first | refine GK.run ?_ | (refine GK.box ?_; intro bl) | (refine GK.mkMap ?_; intro bm) | (refine GK.build0 tb ?_; intro bs)))
        rw [List.take_length]
        have hwr : D.flush = (0, { D.goes.2 with sure := settles D.sure D.pend, pend := [] }) := by unfold DM.flush; rw [if_neg (by rw [h]; simp), if_neg (by rw [h4]; simp)]
        refine GK.heap (Γ' := [rk d { D.goes.2 with sure := settles D.sure D.pend, pend := [] }]) (fun w s => shut_rk (x := ⟨sp, sc, none, 0⟩) { hok with pos := ?_, le := ?_, size := ?_, pend := by simp, count := by simp } ?_) (GQ.end1 rfl rfl ?_)
        · show 0 < (settles D.sure D.pend).length; rw [hsl]; exact hx.pos
        · show (settles D.sure D.pend).length ≤ _; rw [hsl]; exact hx.le
        · exact settles_size hx.size (fun p hp => (hx.pend p hp).2)
        · show Sat (rblk d [.slice _ (settles D.sure D.pend).length _, _, _, _, _, _] :: row (.slice _ (settles D.sure D.pend).length _) _ 1 (settles D.sure D.pend).length _ :: _) _ _
          rw [hsl]
          exact ((s.sel [0, 0] rfl).row_nil (e := 76) (sz := 2)).sel [1, 1, 0] rfl
        · rw [hwr]; exact ⟨rfl, rfl⟩
end Go.Dk
