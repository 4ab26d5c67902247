/- The disk's Restart. -/
import Derived.Test.YtmiajgldkbmbjaaDkE
namespace Go.Dk
open Go Go.Sl
attribute [local irreducible] GK GO Yl Wt Ef Hd GH KH wpList Code.wp Sat pt FnOk Rd bodyPost Ret Exit.then Exit.inBlock Exit.noGoto exs Int.decLt Int.decLe Int.instDecidableEq

variable {d : Nat} {D : DM} {hF : Hp}
theorem restart_ok (kv : Value) (keep : List Int) (hk : ro hF kv keep.length (i64s keep)) (hkl : keep.length ≤ 140737488355328) :
    FnOk Go.Proofs.Try.prog 8 [dptr d, kv] [dk d D] hF (fun v Γ => v = .int .i64 (D.restart keep).1 ∧ Γ = [dk d (D.restart keep).2]) := by
  refine FnOk.intro 71 Go.Proofs.Try.func8 rfl rfl fun w0 => ?_
  refine GK.opens 0 rfl fun x hx => ?_
  obtain ⟨xs, xsc, xst, xsz, xpp, xpc, xm, xl⟩ := x
  obtain ⟨kp, kc, rfl, hko⟩ := hk
  have hcnt := hx.ok.count
  (repeat (first | refine GK.run ?_ | (refine GK.box ?_; intro bl) | (refine GK.mkMap ?_; intro bm) | (refine GK.build0 tb ?_; intro bs)))
  refine GL.cons ?_
  refine GO.call [0] (fun hF' _ _ => none_ok hx.ok.pos) .none (by kernel_rfl) rfl rfl rfl ?_
  rintro v Γ' ⟨rfl, rfl⟩
  (repeat (first | refine GK.run ?_ | (refine GK.box ?_; intro bl) | (refine GK.mkMap ?_; intro bm) | (refine GK.build0 tb ?_; intro bs)))
  refine GK.weak (by repeat (first | exact trivial | refine ⟨rfl, ?_⟩)) (fun w s => s.sel [0, 0, 0, 0] rfl) (G.loop (fun j : Nat => keep.length - j)
    (fun j => [(0, dptr d), (1, .slice kp keep.length kc), (13, .slice kp keep.length kc), (14, .int .i64 keep.length), (15, .int .i64 j)])
    (fun _ => [dblk d (dcells (some ⟨xs, 0, none⟩) D.sure.length xsc xpp D.pend.length xpc xm D.off D.armed D.plan D.opn), blk xs 66 xsz (flat D.sure ++ xst), row (.slice xpp D.pend.length xpc) 68 257 D.pend.length (flatP D.pend), mp xm xl])
    (fun j => j ≤ keep.length ∧ (keep.take j).any (fun k => decide (k < 0 ∨ D.pend.length ≤ k)) = false) (fun j hj => ?_) 0 ⟨Nat.zero_le _, rfl⟩)
  obtain ⟨hj, hgood⟩ := hj
  (repeat (first | refine GK.run ?_ | (refine GK.box ?_; intro bl) | (refine GK.mkMap ?_; intro bm) | (refine GK.build0 tb ?_; intro bs)))
  refine G.cond rfl (fun h => ?_) (fun h => ?_)
  · have h : j < keep.length := by simpa using h
    obtain ⟨q, hq⟩ : ∃ q, keep[j]? = some q := ⟨_, List.getElem?_eq_getElem h⟩
    obtain ⟨kb, ko, cs, e, fz, rfl, hkb, hka⟩ := hko (by omega)
    have hka := hka.i64 hq
    (repeat (first | refine GK.run ?_ | (refine GK.box ?_; intro bl) | (refine GK.mkMap ?_; intro bm) | (refine GK.build0 tb ?_; intro bs)))
    refine GK.split 21 _ rfl (fun h1 => ?_) (fun h1 => ?_)
    · have h1 : q < 0 := by simpa using h1
      (repeat (first | refine GK.run ?_ | (refine GK.box ?_; intro bl) | (refine GK.mkMap ?_; intro bm) | (refine GK.build0 tb ?_; intro bs)))
      refine GK.heap (Γ' := [dk d D]) (fun w s => shut_dk hx (s.sel [0, 0, 0, 0] rfl)) (GQ.end1 rfl rfl ?_)
      have : keep.any (fun k => decide (k < 0 ∨ D.pend.length ≤ k)) = true := List.any_eq_true.2 ⟨q, List.mem_of_getElem? hq, by simp [h1]⟩
      simp only [DM.restart, this, if_true, and_self]
    · have h1 : ¬ q < 0 := by simpa using h1
      (repeat (first | refine GK.run ?_ | (refine GK.box ?_; intro bl) | (refine GK.mkMap ?_; intro bm) | (refine GK.build0 tb ?_; intro bs)))
      refine G.cond rfl (fun h2 => ?_) (fun h2 => ?_)
      · have h2 : D.pend.length ≤ q := by simpa using h2
        (repeat (first | refine GK.run ?_ | (refine GK.box ?_; intro bl) | (refine GK.mkMap ?_; intro bm) | (refine GK.build0 tb ?_; intro bs)))
        refine GK.heap (Γ' := [dk d D]) (fun w s => shut_dk hx (s.sel [0, 0, 0, 0] rfl)) (GQ.end1 rfl rfl ?_)
        have : keep.any (fun k => decide (k < 0 ∨ D.pend.length ≤ k)) = true := List.any_eq_true.2 ⟨q, List.mem_of_getElem? hq, by simp [h2]⟩
        simp only [DM.restart, this, if_true, and_self]
      · have h2 : ¬ D.pend.length ≤ q := by simpa using h2
        (repeat (first | refine GK.run ?_ | (refine GK.box ?_; intro bl) | (refine GK.mkMap ?_; intro bm) | (refine GK.build0 tb ?_; intro bs)))
        refine GQ.again (j + 1) ⟨h, ?_⟩ (by omega) (by repeat (first | exact trivial | refine ⟨rfl, ?_⟩)) (fun w s => s.sel [0, 0, 0, 0] rfl)
        rw [List.take_add_one, List.any_append, hgood, hq]
        simp [h1, h2]
  · have h : j = keep.length := by simp at h; omega
    subst h
    rw [List.take_length] at hgood
    clear hj
    (repeat (first | refine GK.run ?_ | (refine GK.box ?_; intro bl) | (refine GK.mkMap ?_; intro bm) | (refine GK.build0 tb ?_; intro bs)))
    refine GK.weak (by repeat (first | exact trivial | refine ⟨rfl, ?_⟩)) (fun w s => s.sel [0, 0, 0, 0] rfl) (G.loop (fun i : Nat => D.pend.length - i)
      (fun i => [(0, dptr d), (1, .slice kp keep.length kc), (34, .slice xpp D.pend.length xpc), (35, .int .i64 D.pend.length), (36, .int .i64 i)])
      (fun i => [dblk d (dcells (some ⟨xs, 0, none⟩) D.sure.length xsc xpp D.pend.length xpc xm D.off D.armed D.plan D.opn), blk xs 66 xsz (flat (settles D.sure (kept keep (D.pend.take i))) ++ xst), row (.slice xpp D.pend.length xpc) 68 257 D.pend.length (flatP D.pend), mp xm xl])
      (fun i => i ≤ D.pend.length) (fun i hi => ?_) 0 (Nat.zero_le _))
    have hsub : ∀ p ∈ kept keep (D.pend.take i), p.2.length = 256 := fun p hp => (hx.ok.pend p (List.mem_of_mem_take (mem_kept hp))).2
    have hss := settles_size (s := D.sure) hx.ok.size hsub
    have hsl := settles_length D.sure (kept keep (D.pend.take i))
    have hfl : (flat (settles D.sure (kept keep (D.pend.take i)))).length = (flat D.sure).length := by rw [flat_length hss, flat_length hx.ok.size, hsl]
    have hff : free xsz 0 (flat (settles D.sure (kept keep (D.pend.take i))) ++ xst).length = true := by have := hx.fz; simp only [List.length_append] at this ⊢; rw [hfl]; exact this
    (repeat (first | refine GK.run ?_ | (refine GK.box ?_; intro bl) | (refine GK.mkMap ?_; intro bm) | (refine GK.build0 tb ?_; intro bs)))
    refine G.cond rfl (fun h1 => ?_) (fun h1 => ?_)
    · have h1 : i < D.pend.length := by simpa using h1
      obtain ⟨p, hp⟩ : ∃ p, D.pend[i]? = some p := ⟨_, List.getElem?_eq_getElem h1⟩
      have hpe := hx.ok.pend p (List.mem_of_getElem? hp)
      refine GK.openRow 2 rfl (by omega) fun b tail fz hp' hc ht hxs hf => ?_
      subst hp'
      have hA : At (flatP D.pend ++ tail) (i * 257) (.int .i64 p.1 :: u8s p.2) := flatP_at (fun p hp => (hx.ok.pend p hp).2) hp _
      have hAl : (Value.int .i64 p.1 :: u8s p.2).length = 257 := by simp [hpe.2]
      rw [← Nat.zero_add (i * 257)] at hA
      (repeat (first | refine GK.run ?_ | (refine GK.box ?_; intro bl) | (refine GK.mkMap ?_; intro bm) | (refine GK.build0 tb ?_; intro bs)))
      refine GL.cons ?_; refine Gt.allocAny tb (by first | exact Wt.none | exact Wt.some rfl rfl (by first | exact rfl | decide +kernel)) (by exact rfl) (by exact rfl) ?_
      intro b1 l1 hl1
      (repeat (first | refine GK.run ?_ | (refine GK.box ?_; intro bl) | (refine GK.mkMap ?_; intro bm) | (refine GK.build0 tb ?_; intro bs)))
      refine GL.cons ?_
      refine Gt.storeAny tb 0 .none rfl rfl rfl hAl (cons_one rfl (u8s_one _)) rfl hl1 ?_
      (repeat (first | refine GK.run ?_ | (refine GK.box ?_; intro bl) | (refine GK.mkMap ?_; intro bm) | (refine GK.build0 tb ?_; intro bs)))
      refine GK.weak (by repeat (first | exact trivial | refine ⟨rfl, ?_⟩)) (fun w s => s.sel [0, 0, 0, 0, 0] rfl) (G.loop (fun j : Nat => keep.length - j)
        (fun j => [(0, dptr d), (1, .slice kp keep.length kc), (34, .slice (some ⟨b, 0, none⟩) D.pend.length xpc), (35, .int .i64 D.pend.length), (36, .int .i64 i), (7, .int .i64 i), (8, .pointer (some ⟨b1, 0, none⟩)), (41, .slice kp keep.length kc), (42, .int .i64 keep.length), (43, .int .i64 j)])
        (fun _ => [blk b1 68 (0, 0) (.int .i64 p.1 :: u8s p.2), blk b 68 fz (flatP D.pend ++ tail), dblk d (dcells (some ⟨xs, 0, none⟩) D.sure.length xsc (some ⟨b, 0, none⟩) D.pend.length xpc xm D.off D.armed D.plan D.opn), blk xs 66 xsz (flat (settles D.sure (kept keep (D.pend.take i))) ++ xst), mp xm xl])
        (fun j => j ≤ keep.length ∧ (keep.take j).contains (i : Int) = false) (fun j hj => ?_) 0 ⟨Nat.zero_le _, rfl⟩)
      obtain ⟨hj, hno⟩ := hj
      (repeat (first | refine GK.run ?_ | (refine GK.box ?_; intro bl) | (refine GK.mkMap ?_; intro bm) | (refine GK.build0 tb ?_; intro bs)))
      refine G.cond rfl (fun h2 => ?_) (fun h2 => ?_)
      · have h2 : j < keep.length := by simpa using h2
        obtain ⟨q, hq⟩ : ∃ q, keep[j]? = some q := ⟨_, List.getElem?_eq_getElem h2⟩
        obtain ⟨kb, ko, cs, e, kfz, rfl, hkb, hka⟩ := hko (by omega)
        have hka := hka.i64 hq
        (repeat (first | refine GK.run ?_ | (refine GK.box ?_; intro bl) | (refine GK.mkMap ?_; intro bm) | (refine GK.build0 tb ?_; intro bs)))
        refine G.cond rfl (fun h3 => ?_) (fun h3 => ?_)
        · have h3 : q = i := by simpa using h3
          have hcon : keep.contains (i : Int) = true := by simp only [List.contains_iff_mem]; exact h3 ▸ List.mem_of_getElem? hq
          (repeat (first | refine GK.run ?_ | (refine GK.box ?_; intro bl) | (refine GK.mkMap ?_; intro bm) | (refine GK.build0 tb ?_; intro bs)))
          refine GL.cons ?_
          refine GO.yield .none (Yt.loadRow tb rfl rfl (Rd.blk 0 rfl) (A := .int .i64 p.1 :: u8s p.2) (At.all _) hAl) ?_
          (repeat (first | refine GK.run ?_ | (refine GK.box ?_; intro bl) | (refine GK.mkMap ?_; intro bm) | (refine GK.build0 tb ?_; intro bs)))
          refine GL.cons ?_
          refine GO.call [2, 2] (fun hF' _ _ => settle_ok hss hff p (by rw [hsl]; exact hpe.1) hpe.2 (by rw [hsl]; exact hx.ok.le) hsl) .none (by kernel_rfl) rfl rfl rfl ?_
          rintro v Γ' ⟨rfl, rfl⟩
          (repeat (first | refine GK.run ?_ | (refine GK.box ?_; intro bl) | (refine GK.mkMap ?_; intro bm) | (refine GK.build0 tb ?_; intro bs)))
          refine GQ.again (i + 1) (by omega) (by omega) (by repeat (first | exact trivial | refine ⟨rfl, ?_⟩)) (fun w s => ?_)
          have s := s.sel [3, 0, 0, 1] rfl
          have s := (s.row_blk hc ht hxs hf).sel [1, 1, 0, 0] rfl
          rw [kept_take keep hp, hcon, if_pos rfl, settles_snoc]
          exact s
        · have h3 : ¬ q = i := by simpa using h3
          (repeat (first | refine GK.run ?_ | (refine GK.box ?_; intro bl) | (refine GK.mkMap ?_; intro bm) | (refine GK.build0 tb ?_; intro bs)))
          refine GQ.again (j + 1) ⟨h2, ?_⟩ (by omega) (by repeat (first | exact trivial | refine ⟨rfl, ?_⟩)) (fun w s => s.sel [0, 0, 0, 0, 0] rfl)
          rw [List.take_add_one, hq]
          rw [Bool.eq_false_iff] at hno ⊢
          simp only [ne_eq, List.contains_iff_mem] at hno ⊢
          rintro hm
          rcases List.mem_append.1 hm with hm | hm
          · exact hno hm
          · simp at hm; exact h3 hm.symm
      · have h2 : j = keep.length := by simp at h2; omega
        subst h2
        rw [List.take_length] at hno
        (repeat (first | refine GK.run ?_ | (refine GK.box ?_; intro bl) | (refine GK.mkMap ?_; intro bm) | (refine GK.build0 tb ?_; intro bs)))
        refine GQ.again (i + 1) (by omega) (by omega) (by repeat (first | exact trivial | refine ⟨rfl, ?_⟩)) (fun w s => ?_)
        have s := s.sel [1, 1, 1, 1] rfl
        have s := (s.row_blk hc ht hxs hf).sel [1, 1, 0, 0] rfl
        rw [kept_take keep hp, hno, if_neg (by simp), List.append_nil]
        exact s
    · have h1 : i = D.pend.length := by simp at h1; omega
      subst h1
      rw [List.take_length] at hss hsl hff hfl
      (repeat (first | refine GK.run ?_ | (refine GK.box ?_; intro bl) | (refine GK.mkMap ?_; intro bm) | (refine GK.build0 tb ?_; intro bs)))
      rw [List.take_length]
      have hD : D.restart keep = (0, { sure := settles D.sure (kept keep D.pend), pend := [], off := false, armed := false, plan := 0, opn := D.opn }) := by
        simp only [DM.restart, hgood, Bool.false_eq_true, if_false]
      refine GK.heap (Γ' := [dk d (D.restart keep).2]) (fun w s => ?_) (GQ.end1 rfl rfl ?_)
      · rw [hD]
        refine shut_dk (x := ⟨xs, xsc, xst, xsz, none, 0, bm, []⟩) ?_ ?_
        · refine { ok := { pos := ?_, le := ?_, size := hss, pend := by simp, count := by simp, opn := hx.ok.opn, plan := by simp }, cap := ?_, tail := ?_, fz := hff, last := by intro i; rfl }
          · show 0 < (settles D.sure (kept keep D.pend)).length; rw [hsl]; exact hx.ok.pos
          · show (settles D.sure (kept keep D.pend)).length ≤ _; rw [hsl]; exact hx.ok.le
          · show (settles D.sure (kept keep D.pend)).length ≤ _; rw [hsl]; exact hx.cap
          · show _ = (_ - (settles D.sure (kept keep D.pend)).length) * 256; rw [hsl]; exact hx.tail
        · show Sat (dblk d (dcells _ (settles D.sure (kept keep D.pend)).length _ _ _ _ _ _ _ _ _) :: blk _ _ _ (flat (settles D.sure (kept keep D.pend)) ++ _) :: _) _ _
          rw [hsl]
          have s := s.sel [0, 0, 0] rfl
          have s := ((s.mp_new (α := Int)).row_nil (e := 68) (sz := 257)).sel [2, 2, 0, 0] rfl
          exact s
      · rw [hD]; exact ⟨rfl, rfl⟩
end Go.Dk
