/- The document's disk: Restart, New, Clone. -/
import Derived.Test.YtmiajgldkbmbjaaRkD
namespace Go.Dk
open Go Go.Sl
theorem strs_snoc (l : List (List UInt8)) (s : List UInt8) : strs (l ++ [s]) = strs l ++ [str s] := by simp [strs]
attribute [local irreducible] GK GO Yl Wt Ef Hd GH KH wpList Code.wp Sat pt FnOk Rd bodyPost Ret Exit.then Exit.inBlock Exit.noGoto exs Int.decLt Int.decLe Int.instDecidableEq
attribute [local irreducible] rep whole
variable {d : Nat} {D : DM} {hF : Hp}
set_option maxHeartbeats 4000000 in
theorem rrestart_ok (kv : Value) (keep : List Int) (hk : ro hF kv keep.length (i64s keep)) (hkl : keep.length ≤ 140737488355328) (hx : D.Ok) :
    FnOk Go.Proofs.Try.prog 35 [dptr d, kv] [rk d D] hF (fun v Γ => v = .int .i64 (D.restart keep).1 ∧ Γ = [rk d (D.restart keep).2]) := by
  refine FnOk.intro 75 Go.Proofs.Try.func35 rfl rfl fun w0 => ?_
  have hk0 := hk
  obtain ⟨kp, kc, rfl, hko⟩ := hk
  refine GK.opens 0 rfl fun x _ => ?_
  have hcnt := hx.count
  have hle := hx.le
  (repeat (first | refine GK.run ?_ | (refine GK.box ?_; intro bl) | (refine GK.mkMap ?_; intro bm) | (refine GK.build0 tb ?_; intro bs)))
  refine GK.weak (by repeat (first | exact trivial | refine ⟨rfl, ?_⟩)) (fun w s => s.sel [0, 0, 0] rfl) (G.loop (fun j : Nat => keep.length - j)
    (fun j => [(0, dptr d), (1, .slice kp keep.length kc), (5, .int .i64 j)])
    (fun _ => RX.chunks d D x)
    (fun j => j ≤ keep.length ∧ (keep.take j).any (fun k => decide (k < 0 ∨ D.pend.length ≤ k)) = false) (fun j hj => ?_) 0 ⟨Nat.zero_le _, rfl⟩)
  obtain ⟨hj, hgood⟩ := hj
  (repeat (first | refine GK.run ?_ | (refine GK.box ?_; intro bl) | (refine GK.mkMap ?_; intro bm) | (refine GK.build0 tb ?_; intro bs)))
  refine G.cond rfl (fun h => ?_) (fun h => ?_)
  · have h : j < keep.length := by simpa using h
    obtain ⟨q, hq⟩ : ∃ q, keep[j]? = some q := ⟨_, List.getElem?_eq_getElem h⟩
    obtain ⟨kb, ko, cs, e, fz, rfl, hkb, hka⟩ := hko (by omega)
    have hka := hka.i64 hq
    have hbad : (q < 0 ∨ D.pend.length ≤ q) → D.restart keep = (2, D) := fun hb => by
      have : keep.any (fun k => decide (k < 0 ∨ D.pend.length ≤ k)) = true := List.any_eq_true.2 ⟨q, List.mem_of_getElem? hq, by simpa using hb⟩
      unfold DM.restart
      rw [if_pos this]
    (repeat (first | refine GK.run ?_ | (refine GK.box ?_; intro bl) | (refine GK.mkMap ?_; intro bm) | (refine GK.build0 tb ?_; intro bs)))
    refine G.draw [] (RX.chunks d D x) (by kernel_rfl) ?_
    ((first | refine GH.tk 0 [0,0,0] ?_ | refine GH.tks 0 [0,0,0] ?_); (first | refine GH.tk 1 [0,0,0] ?_ | refine GH.tks 1 [0,0,0] ?_); (first | refine GH.tk 2 [0,0,0] ?_ | refine GH.tks 2 [0,0,0] ?_); (first | refine GH.tk 3 [0,0,0] ?_ | refine GH.tks 3 [0,0,0] ?_); (first | refine GH.tk 4 [0,0,0] ?_ | refine GH.tks 4 [0,0,0] ?_); (first | refine GH.tk 5 [0,0,0] ?_ | refine GH.tks 5 [0,0,0] ?_))
    obtain hb | hb : decide (q < 0) = true ∨ decide (q < 0) = false := by cases decide (q < 0) <;> simp
    · rw [hb]
      have h1 : q < 0 := by simpa using hb
      ((first | refine GH.tk 6 [0,0,0] ?_ | refine GH.tks 6 [0,0,0] ?_); (first | refine GH.tk 7 [0,0,0] ?_ | refine GH.tks 7 [0,0,0] ?_); (first | refine GH.tk 8 [0,0,0] ?_ | refine GH.tks 8 [0,0,0] ?_); (first | refine GH.tk 9 [0,0,0] ?_ | refine GH.tks 9 [0,0,0] ?_); (first | refine GH.tk 10 [0,0,0] ?_ | refine GH.tks 10 [0,0,0] ?_); (first | refine GH.tk 11 [0,0,0] ?_ | refine GH.tks 11 [0,0,0] ?_); (first | refine GH.tk 12 [0,0,0] ?_ | refine GH.tks 12 [0,0,0] ?_); (first | refine GH.tk 13 [0,0,0] ?_ | refine GH.tks 13 [0,0,0] ?_); (first | refine GH.tk 14 [0,0,0] ?_ | refine GH.tks 14 [0,0,0] ?_); (first | refine GH.tk 15 [0,0,0] ?_ | refine GH.tks 15 [0,0,0] ?_); (first | refine GH.tk 16 [0,0,0] ?_ | refine GH.tks 16 [0,0,0] ?_))
      refine GH.fin (by kernel_rfl) ?_
      (repeat (first | refine GK.run ?_ | (refine GK.box ?_; intro bl) | (refine GK.mkMap ?_; intro bm) | (refine GK.build0 tb ?_; intro bs)))
      refine GK.heap (Γ' := [rk d D]) (fun w s => shut_rk (x := x) hx (s.sel [0, 0, 0] rfl)) (GQ.end1 rfl rfl ?_)
      rw [hbad (.inl h1)]; exact ⟨rfl, rfl⟩
    · rw [hb]
      have h1 : ¬ q < 0 := by simpa using hb
      ((first | refine GH.tk 6 [0,0,0] ?_ | refine GH.tks 6 [0,0,0] ?_); (first | refine GH.tk 7 [0,0,0] ?_ | refine GH.tks 7 [0,0,0] ?_); (first | refine GH.tk 8 [0,0,0] ?_ | refine GH.tks 8 [0,0,0] ?_); (first | refine GH.tk 9 [0,0,0] ?_ | refine GH.tks 9 [0,0,0] ?_); (first | refine GH.tk 10 [0,0,0] ?_ | refine GH.tks 10 [0,0,0] ?_); (first | refine GH.tk 11 [0,0,0] ?_ | refine GH.tks 11 [0,0,0] ?_); (first | refine GH.tk 12 [0,0,0] ?_ | refine GH.tks 12 [0,0,0] ?_); (first | refine GH.tk 13 [0,0,0] ?_ | refine GH.tks 13 [0,0,0] ?_); (first | refine GH.tk 14 [0,0,0] ?_ | refine GH.tks 14 [0,0,0] ?_); (first | refine GH.tk 15 [0,0,0] ?_ | refine GH.tks 15 [0,0,0] ?_); (first | refine GH.tk 16 [0,0,0] ?_ | refine GH.tks 16 [0,0,0] ?_))
      refine GH.fin (by kernel_rfl) ?_
      (repeat (first | refine GK.run ?_ | (refine GK.box ?_; intro bl) | (refine GK.mkMap ?_; intro bm) | (refine GK.build0 tb ?_; intro bs)))
      refine G.cond rfl (fun h2 => ?_) (fun h2 => ?_)
      · have h2 : D.pend.length ≤ q := by simpa using h2
        (repeat (first | refine GK.run ?_ | (refine GK.box ?_; intro bl) | (refine GK.mkMap ?_; intro bm) | (refine GK.build0 tb ?_; intro bs)))
        refine GK.heap (Γ' := [rk d D]) (fun w s => shut_rk (x := x) hx (s.sel [0, 0, 0] rfl)) (GQ.end1 rfl rfl ?_)
        rw [hbad (.inr h2)]; exact ⟨rfl, rfl⟩
      · have h2 : ¬ D.pend.length ≤ q := by simpa using h2
        (repeat (first | refine GK.run ?_ | (refine GK.box ?_; intro bl) | (refine GK.mkMap ?_; intro bm) | (refine GK.build0 tb ?_; intro bs)))
        refine GQ.again (j + 1) ⟨h, ?_⟩ (by omega) (by repeat (first | exact trivial | refine ⟨rfl, ?_⟩)) (fun w s => s.sel [0, 0, 0] rfl)
        rw [List.take_add_one, List.any_append, hgood, hq]
        simp [h1, h2]
  · have h : j = keep.length := by simp at h; omega
    subst h
    rw [List.take_length] at hgood
    (repeat (first | refine GK.run ?_ | (refine GK.box ?_; intro bl) | (refine GK.mkMap ?_; intro bm) | (refine GK.build0 tb ?_; intro bs)))
    obtain ⟨sp, sc, pp, pc⟩ := x
    refine GK.weak (by repeat (first | exact trivial | refine ⟨rfl, ?_⟩)) (fun w s => s.sel [0, 0, 0] rfl) (G.loop (fun k : Nat => D.pend.length - k)
      (fun k => [(0, dptr d), (1, .slice kp keep.length kc), (6, .int .i64 k)])
      (fun k => [rblk d [.slice sp D.sure.length sc, .slice pp D.pend.length pc, .bool D.off, .bool D.armed, .int .i64 D.plan, .int .i64 D.opn], row (.slice sp D.sure.length sc) 9 1 D.sure.length (strs (settles D.sure (kept keep (D.pend.take k)))), row (.slice pp D.pend.length pc) 76 2 D.pend.length (puts D.pend)])
      (fun k => k ≤ D.pend.length) (fun k hk => ?_) 0 (Nat.zero_le _))
    have hsl := settles_length D.sure (kept keep (D.pend.take k))
    (repeat (first | refine GK.run ?_ | (refine GK.box ?_; intro bl) | (refine GK.mkMap ?_; intro bm) | (refine GK.build0 tb ?_; intro bs)))
    refine G.cond rfl (fun h3 => ?_) (fun h3 => ?_)
    · have h3 : k < D.pend.length := by simp at h3; omega
      obtain ⟨p, hp⟩ : ∃ p, D.pend[k]? = some p := ⟨_, List.getElem?_eq_getElem h3⟩
      have hpe := hx.pend p (List.mem_of_getElem? hp)
      (repeat (first | refine GK.run ?_ | (refine GK.box ?_; intro bl) | (refine GK.mkMap ?_; intro bm) | (refine GK.build0 tb ?_; intro bs)))
      refine GL.cons ?_; refine GO.call [] (fun hF' hle hH => has_ok _ keep (hk0.mono hle) _ hkl) (by first | exact Wt.none | exact Wt.some rfl rfl (by first | exact rfl | decide +kernel)) (by kernel_rfl) rfl rfl rfl ?_
      rintro v Γ' ⟨rfl, rfl⟩
      (repeat (first | refine GK.run ?_ | (refine GK.box ?_; intro bl) | (refine GK.mkMap ?_; intro bm) | (refine GK.build0 tb ?_; intro bs)))
      refine G.cond rfl (fun h4 => ?_) (fun h4 => ?_)
      · refine GK.openRow 2 rfl (by omega) fun b tail fz hp' hc ht hxs hf => ?_
        refine GK.openRow 2 rfl hx.pos fun b2 tail2 fz2 hp2 hc2 ht2 hxs2 hf2 => ?_
        subst hp' hp2
        have a1 : (puts D.pend ++ tail)[0 + ((k : Nat) : Int).toNat * 2 + 0]? = some (.int .i64 p.1) := by have := (puts_at hp tail).1; simpa using this
        have a2 : (puts D.pend ++ tail)[0 + ((k : Nat) : Int).toNat * 2 + 1]? = some (str p.2) := by have := (puts_at hp tail).2; simpa using this
        (repeat (first | refine GK.run ?_ | (refine GK.box ?_; intro bl) | (refine GK.mkMap ?_; intro bm) | (refine GK.build0 tb ?_; intro bs)))
        refine G.draw [21] [blk b2 9 fz2 (strs (settles D.sure (kept keep (D.pend.take k))) ++ tail2), blk b 76 fz (puts D.pend ++ tail), rblk d [.slice (some ⟨b2, 0, none⟩) D.sure.length sc, .slice (some ⟨b, 0, none⟩) D.pend.length pc, .bool D.off, .bool D.armed, .int .i64 D.plan, .int .i64 D.opn]] (by kernel_rfl) ?_
        ((first | refine GH.tk 0 [0,0,0] ?_ | refine GH.tks 0 [0,0,0] ?_); (first | refine GH.tk 1 [0,0,0] ?_ | refine GH.tks 1 [0,0,0] ?_); (first | refine GH.tk 2 [0,0,0] ?_ | refine GH.tks 2 [0,0,0] ?_); (first | refine GH.tk 3 [0,0,0] ?_ | refine GH.tks 3 [0,0,0] ?_); (first | refine GH.tk 4 [0,0,0] ?_ | refine GH.tks 4 [0,0,0] ?_); (first | refine GH.tk 5 [0,0,0] ?_ | refine GH.tks 5 [0,0,0] ?_); (first | refine GH.tk 6 [0,0,0] ?_ | refine GH.tks 6 [0,0,0] ?_); (first | refine GH.tk 7 [0,0,0] ?_ | refine GH.tks 7 [0,0,0] ?_); (first | refine GH.tk 8 [0,0,0] ?_ | refine GH.tks 8 [0,0,0] ?_); (first | refine GH.tk 9 [0,0,0] ?_ | refine GH.tks 9 [0,0,0] ?_); (first | refine GH.tk 10 [0,0,0] ?_ | refine GH.tks 10 [0,0,0] ?_); (first | refine GH.tk 11 [0,0,0] ?_ | refine GH.tks 11 [0,0,0] ?_); (first | refine GH.tk 12 [0,0,0] ?_ | refine GH.tks 12 [0,0,0] ?_); (first | refine GH.tk 13 [0,0,0] ?_ | refine GH.tks 13 [0,0,0] ?_); (first | refine GH.tk 14 [0,0,0] ?_ | refine GH.tks 14 [0,0,0] ?_); (first | refine GH.tk 15 [0,0,0] ?_ | refine GH.tks 15 [0,0,0] ?_); (first | refine GH.tk 16 [0,0,0] ?_ | refine GH.tks 16 [0,0,0] ?_); (first | refine GH.tk 17 [0,0,0] ?_ | refine GH.tks 17 [0,0,0] ?_); (first | refine GH.tk 18 [0,0,0] ?_ | refine GH.tks 18 [0,0,0] ?_); (first | refine GH.tk 19 [0,0,0] ?_ | refine GH.tks 19 [0,0,0] ?_); (first | refine GH.tk 20 [0,0,0] ?_ | refine GH.tks 20 [0,0,0] ?_))
        refine GH.step 21 rfl (by kernel_rfl) ?_
        refine Gt.storeAt tb 0 (by first | exact Wt.none | exact Wt.some rfl rfl (by first | exact rfl | decide +kernel)) rfl rfl rfl rfl rfl (by simp [strs_length, hsl]; omega) (free_row hf2 (by simp [strs_length, hsl]; omega)) ?_
        refine GH.on rfl ?_
        refine GH.fin (by kernel_rfl) ?_
        (repeat (first | refine GK.run ?_ | (refine GK.box ?_; intro bl) | (refine GK.mkMap ?_; intro bm) | (refine GK.build0 tb ?_; intro bs)))
        refine GQ.again (k + 1) h3 (by omega) (by repeat (first | exact trivial | refine ⟨rfl, ?_⟩)) (fun w s => ?_)
        have s := s.sel [0, 0, 0] rfl
        have ek := kept_take keep hp
        rw [h4, if_pos rfl] at ek
        rw [strs_set _ _ _ _ (by rw [hsl]; exact hpe.1), ← settles_snoc, ← ek] at s
        have s := (s.row_blk (e := 9) (sz := 1) hc2 ht2 (by rw [strs_length, settles_length, Nat.mul_one]) (by
          have := hf2
          simp only [List.length_append, strs_length, settles_length] at this ⊢
          exact this)).sel [1, 0, 0] rfl
        exact (s.row_blk hc ht hxs hf).sel [2, 1, 0] rfl
      · (repeat (first | refine GK.run ?_ | (refine GK.box ?_; intro bl) | (refine GK.mkMap ?_; intro bm) | (refine GK.build0 tb ?_; intro bs)))
        have ek := kept_take keep hp
        rw [h4, if_neg (by simp), List.append_nil] at ek
        refine GQ.again (k + 1) h3 (by omega) (by repeat (first | exact trivial | refine ⟨rfl, ?_⟩)) (fun w s => ?_)
        rw [ek]
        exact s.sel [0, 0, 0] rfl
    · have h3 : k = D.pend.length := by simp at h3; omega
      subst h3
      rw [List.take_length] at hsl
      (repeat (first | refine GK.run ?_ | (refine GK.box ?_; intro bl) | (refine GK.mkMap ?_; intro bm) | (refine GK.build0 tb ?_; intro bs)))
      rw [List.take_length]
      have hD : D.restart keep = (0, { sure := settles D.sure (kept keep D.pend), pend := [], off := false, armed := false, plan := 0, opn := D.opn }) := by
        unfold DM.restart
        rw [if_neg (by rw [hgood]; simp)]
      refine GK.heap (Γ' := [rk d { sure := settles D.sure (kept keep D.pend), pend := [], off := false, armed := false, plan := 0, opn := D.opn }]) (fun w s => shut_rk (x := ⟨sp, sc, none, 0⟩) { pos := ?_, le := ?_, size := ?_, pend := by simp, count := by simp, opn := hx.opn, plan := by simp } ?_) (GQ.end1 rfl rfl ?_)
      · show 0 < (settles D.sure (kept keep D.pend)).length; rw [hsl]; exact hx.pos
      · show (settles D.sure (kept keep D.pend)).length ≤ _; rw [hsl]; exact hx.le
      · exact settles_size hx.size (fun p hp => (hx.pend p (mem_kept hp)).2)
      · show Sat (rblk d [.slice _ (settles D.sure (kept keep D.pend)).length _, _, _, _, _, _] :: row (.slice _ (settles D.sure (kept keep D.pend)).length _) _ 1 (settles D.sure (kept keep D.pend)).length _ :: _) _ _
        rw [hsl]
        exact ((s.sel [0, 0] rfl).row_nil (e := 76) (sz := 2)).sel [1, 1, 0] rfl
      · rw [hD]; exact ⟨rfl, rfl⟩
theorem rclone_ok (hx : D.Ok) : FnOk Go.Proofs.Try.prog 22 [dptr d] [rk d D] hF (fun v Γ => ∃ d', v = dptr d' ∧ Γ = [rk d' D, rk d D]) := by
  refine FnOk.intro 21 Go.Proofs.Try.func22 rfl rfl fun w0 => ?_
  have hcnt := hx.count
  have hle := hx.le
  refine GK.opens 0 rfl fun x _ => ?_
  (repeat (first | refine GK.run ?_ | (refine GK.box ?_; intro bl) | (refine GK.mkMap ?_; intro bm) | (refine GK.build0 tb ?_; intro bs)))
  refine GL.cons ?_; refine Gt.allocAny tb (by first | exact Wt.none | exact Wt.some rfl rfl (by first | exact rfl | decide +kernel)) (by exact rfl) (by exact rfl) ?_
  intro b1 l1 hl1
  (repeat (first | refine GK.run ?_ | (refine GK.box ?_; intro bl) | (refine GK.mkMap ?_; intro bm) | (refine GK.build0 tb ?_; intro bs)))
  refine GL.cons ?_
  refine Gt.storeAny tb 0 .none rfl rfl rfl rfl (one_of_all rfl) rfl hl1 ?_
  (repeat (first | refine GK.run ?_ | (refine GK.box ?_; intro bl) | (refine GK.mkMap ?_; intro bm) | (refine GK.build0 tb ?_; intro bs)))
  refine GL.cons ?_
  refine Gt.append0 tb 0 .none rfl (.inl ⟨_, rfl⟩) rfl rfl rfl rfl rfl (Src.row (n := D.sure.length) 3 rfl (by rw [strs_length, Nat.mul_one]) strs_one) (by omega) (by omega) ?_
  intro np nc
  (repeat (first | refine GK.run ?_ | (refine GK.box ?_; intro bl) | (refine GK.mkMap ?_; intro bm) | (refine GK.build0 tb ?_; intro bs)))
  refine GL.cons ?_
  refine Gt.append0 tb 0 .none rfl (.inl ⟨_, rfl⟩) rfl rfl rfl rfl rfl (Src.row (n := D.pend.length) 5 rfl (puts_length _) puts_one) (by omega) (by omega) ?_
  intro np2 nc2
  (repeat (first | refine GK.run ?_ | (refine GK.box ?_; intro bl) | (refine GK.mkMap ?_; intro bm) | (refine GK.build0 tb ?_; intro bs)))
  refine GK.heap (Γ' := [rk b1 D, rk d D]) (fun w s => ?_) (GQ.end1 rfl rfl ⟨b1, rfl, rfl⟩)
  have s := shut_rk (x := x) hx (s.sel [3, 3, 3, 2, 1, 0] rfl)
  exact shut_rk (x := ⟨np, nc, np2, nc2⟩) hx (s.sel [1, 1, 1, 0] rfl)
end Go.Dk
