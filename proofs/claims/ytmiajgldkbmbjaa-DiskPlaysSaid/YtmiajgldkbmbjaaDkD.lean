/- The disk's settle, Flush, Arm, Down, Ops, Sectors, New. -/
import Derived.Test.YtmiajgldkbmbjaaDkC
import Derived.Test.YtmiajgldkbmbjaaSlJ
namespace Go.Dk
open Go Go.Sl
attribute [local irreducible] GK GO Yl Wt Ef Hd GH KH wpList Code.wp Sat pt FnOk Rd bodyPost Ret Exit.then Exit.inBlock Exit.noGoto exs Int.decLt Int.decLe Int.instDecidableEq

variable {d : Nat} {D : DM} {hF : Hp}
theorem flat_at_le {S : List (List UInt8)} (h : ∀ s ∈ S, s.length = 256) {i : Nat} (hi : i < S.length) : i * 256 + 256 ≤ (flat S).length := by
  rw [flat_length h]; omega
theorem flat_splice {S : List (List UInt8)} (h : ∀ s ∈ S, s.length = 256) {i : Nat} (hi : i < S.length) {b : List UInt8} (hb : b.length = 256) (st : List Value) : splice (flat S ++ st) (i * 256) (u8s b) = flat (S.set i b) ++ st := by
  obtain ⟨x, y, h1, h2, h3⟩ := flat_split h (List.getElem?_eq_getElem hi)
  rw [h1, h3, ← h2]
  have : (S[i]).length = 256 := h _ (List.getElem_mem hi)
  simp [splice, hb, this]
theorem settle_ok {S : List (List UInt8)} {s sc k pc m : Nat} {pp : Option Addr} {off armed : Bool} {plan opn : Int} {st : List Value} {sz : Nat × Nat} (hS : ∀ x ∈ S, x.length = 256) (hf : free sz 0 (flat S ++ st).length = true)
    (p : Nat × List UInt8) (hp : p.1 < S.length) (hp2 : p.2.length = 256) (hle : S.length ≤ 4096) {n : Nat} (hn : S.length = n) :
    FnOk Go.Proofs.Try.prog 28 [dptr d, .agg ⟨.int .i64 p.1 :: u8s p.2⟩] [dblk d (dcells (some ⟨s, 0, none⟩) n sc pp k pc m off armed plan opn), blk s 66 sz (flat S ++ st)] hF
    (fun v Γ => v = .tuple #[] ∧ Γ = [dblk d (dcells (some ⟨s, 0, none⟩) n sc pp k pc m off armed plan opn), blk s 66 sz (flat (S.set p.1 p.2) ++ st)]) := by
  refine FnOk.intro 24 Go.Proofs.Try.func28 rfl rfl fun w0 => ?_
  obtain ⟨sec, hsec⟩ : ∃ sec, S[p.1]? = some sec := ⟨_, List.getElem?_eq_getElem hp⟩
  have hsz : sec.length = 256 := hS _ (List.mem_of_getElem? hsec)
  (repeat (first | refine GK.run ?_ | (refine GK.box ?_; intro bl) | (refine GK.mkMap ?_; intro bm) | (refine GK.build0 tb ?_; intro bs)))
  refine G.draw [] [blk bl 68 (0, 0) (.int .i64 p.1 :: u8s p.2), dblk d (dcells (some ⟨s, 0, none⟩) n sc pp k pc m off armed plan opn), blk s 66 sz (flat S ++ st)] (by kernel_rfl) ?_
  ((first | refine GH.tk 0 [0,0,0] ?_ | refine GH.tks 0 [0,0,0] ?_); (first | refine GH.tk 1 [0,0,0] ?_ | refine GH.tks 1 [0,0,0] ?_); (first | refine GH.tk 2 [0,0,0] ?_ | refine GH.tks 2 [0,0,0] ?_); (first | refine GH.tk 3 [0,0,0] ?_ | refine GH.tks 3 [0,0,0] ?_); (first | refine GH.tk 4 [0,0,0] ?_ | refine GH.tks 4 [0,0,0] ?_); (first | refine GH.tk 5 [0,0,0] ?_ | refine GH.tks 5 [0,0,0] ?_); (first | refine GH.tk 6 [0,0,0] ?_ | refine GH.tks 6 [0,0,0] ?_))
  refine GH.take 7 rfl (by kernel_rfl) .none (fun _ s => s.sel [0, 0, 0] rfl) (Yt.loadRow tb rfl rfl (Rd.blk 2 rfl) (A := u8s sec) (by rw [Nat.zero_add]; exact flat_at hS hsec _) (by simp [hsz])) ?_
  ((first | refine GH.tk 8 [0,0,0] ?_ | refine GH.tks 8 [0,0,0] ?_))
  refine GH.take 9 rfl (by kernel_rfl) .none (fun _ s => s.sel [0, 0, 0] rfl) (Yt.loadRow tb rfl rfl (Rd.blk 0 rfl) (A := u8s p.2) ((At.all _).drop (i := 1)) (by simp [hp2])) ?_
  refine GH.take 10 rfl (by kernel_rfl) .none (fun _ s => s.sel [0, 0, 0] rfl) (Yl.neq_bytes rfl rfl rfl (by kernel_rfl) rfl rfl hsz hp2) ?_
  refine GH.fin (by kernel_rfl) ?_
  (repeat (first | refine GK.run ?_ | (refine GK.box ?_; intro bl) | (refine GK.mkMap ?_; intro bm) | (refine GK.build0 tb ?_; intro bs)))
  refine G.cond rfl (fun h => ?_) (fun h => ?_)
  · (repeat (first | refine GK.run ?_ | (refine GK.box ?_; intro bl) | (refine GK.mkMap ?_; intro bm) | (refine GK.build0 tb ?_; intro bs)))
    refine G.draw [9] [blk bl 68 (0, 0) (.int .i64 p.1 :: u8s p.2), dblk d (dcells (some ⟨s, 0, none⟩) n sc pp k pc m off armed plan opn), blk s 66 sz (flat S ++ st)] (by kernel_rfl) ?_
    ((first | refine GH.tk 0 [0,0,0] ?_ | refine GH.tks 0 [0,0,0] ?_); (first | refine GH.tk 1 [0,0,0] ?_ | refine GH.tks 1 [0,0,0] ?_); (first | refine GH.tk 2 [0,0,0] ?_ | refine GH.tks 2 [0,0,0] ?_); (first | refine GH.tk 3 [0,0,0] ?_ | refine GH.tks 3 [0,0,0] ?_); (first | refine GH.tk 4 [0,0,0] ?_ | refine GH.tks 4 [0,0,0] ?_); (first | refine GH.tk 5 [0,0,0] ?_ | refine GH.tks 5 [0,0,0] ?_); (first | refine GH.tk 6 [0,0,0] ?_ | refine GH.tks 6 [0,0,0] ?_))
    refine GH.take 7 rfl (by kernel_rfl) .none (fun _ s => s.sel [0, 0, 0] rfl) (Yt.loadRow tb rfl rfl (Rd.blk 0 rfl) (A := u8s p.2) ((At.all _).drop (i := 1)) (by simp [hp2])) ?_
    ((first | refine GH.tk 8 [0,0,0] ?_ | refine GH.tks 8 [0,0,0] ?_))
    refine GH.step 9 rfl (by kernel_rfl) ?_
    refine Gt.storeRow tb 2 .none rfl rfl rfl (by simp [hp2]) (u8s_one _) rfl (by have := flat_at_le hS hp; simp [hp2] at this ⊢; omega) (free_sub hf (by omega) (by have := flat_at_le hS hp; simp [hp2] at this ⊢; omega)) rfl ?_
    refine GH.on rfl ?_
    refine GH.fin (by kernel_rfl) ?_
    (repeat (first | refine GK.run ?_ | (refine GK.box ?_; intro bl) | (refine GK.mkMap ?_; intro bm) | (refine GK.build0 tb ?_; intro bs)))
    refine GK.heap (fun w s => s.sel [1, 1] rfl) (GQ.end0' rfl ⟨rfl, ?_⟩)
    rw [show ((p.1 : Nat) : Int).toNat = p.1 from rfl, Nat.zero_add, flat_splice hS hp hp2]
  · (repeat (first | refine GK.run ?_ | (refine GK.box ?_; intro bl) | (refine GK.mkMap ?_; intro bm) | (refine GK.build0 tb ?_; intro bs)))
    have h : sec = p.2 := by simpa using h
    have e : S.set p.1 p.2 = S := by rw [← h, show sec = S[p.1] from (by have := List.getElem?_eq_getElem hp; rw [hsec] at this; exact Option.some.inj this)]; exact List.set_getElem_self hp
    rw [e]
    exact GK.heap (fun w s => s.sel [1, 1] rfl) (GQ.end0' rfl ⟨rfl, rfl⟩)

theorem wrong0 {D : DM} (h : D.Ok) : D.wrong 0 = if D.off then 50 else 0 := by
  have := h.pos
  unfold DM.wrong
  split
  · rfl
  · rw [if_neg (by omega)]

theorem flush_ok (hopn : D.opn < 1000000000000000000) :
    FnOk Go.Proofs.Try.prog 9 [dptr d] [dk d D] hF (fun v Γ => v = .int .i64 D.flush.1 ∧ Γ = [dk d D.flush.2]) := by
  refine FnOk.intro 34 Go.Proofs.Try.func9 rfl rfl fun w0 => ?_
  refine GK.opens 0 rfl fun x hx => ?_
  obtain ⟨xs, xsc, xst, xsz, xpp, xpc, xm, xl⟩ := x
  have hw : wrongI D.off D.sure.length 0 = D.wrong 0 := rfl
  (repeat (first | refine GK.run ?_ | (refine GK.box ?_; intro bl) | (refine GK.mkMap ?_; intro bm) | (refine GK.build0 tb ?_; intro bs)))
  refine GL.cons ?_
  refine GO.call [0] (fun hF' _ _ => wrong_ok hx.ok.pos 0) .none (by kernel_rfl) rfl rfl rfl ?_
  rintro v Γ' ⟨rfl, rfl⟩
  rw [hw, wrong0 hx.ok]
  (repeat (first | refine GK.run ?_ | (refine GK.box ?_; intro bl) | (refine GK.mkMap ?_; intro bm) | (refine GK.build0 tb ?_; intro bs)))
  refine G.cond rfl (fun h => ?_) (fun h => ?_)
  · have h : D.off = true := by
      cases e : D.off <;> simp [e] at h ⊢
    (repeat (first | refine GK.run ?_ | (refine GK.box ?_; intro bl) | (refine GK.mkMap ?_; intro bm) | (refine GK.build0 tb ?_; intro bs)))
    refine GK.heap (Γ' := [dk d D]) (fun w s => shut_dk hx (s.sel [0, 0, 0, 0] rfl)) (GQ.end1 rfl rfl ?_)
    simp [DM.flush, h]
  · have h : D.off = false := by
      cases e : D.off <;> simp [e] at h ⊢
    (repeat (first | refine GK.run ?_ | (refine GK.box ?_; intro bl) | (refine GK.mkMap ?_; intro bm) | (refine GK.build0 tb ?_; intro bs)))
    refine GL.cons ?_
    refine GO.call [0] (fun hF' _ _ => goes_ok hx.ok.plan hx.ok.opn) .none (by kernel_rfl) rfl rfl rfl ?_
    intro v Γ' hg
    by_cases hgo : D.armed = true ∧ D.plan = 0
    · rw [if_pos hgo] at hg
      obtain ⟨rfl, rfl⟩ := hg
      (repeat (first | refine GK.run ?_ | (refine GK.box ?_; intro bl) | (refine GK.mkMap ?_; intro bm) | (refine GK.build0 tb ?_; intro bs)))
      refine GK.heap (Γ' := [dk d D.goes.2]) (fun w s => ?_) (GQ.end1 rfl rfl ?_)
      · have e : D.goes.2 = { D with off := true } := by simp [DM.goes, hgo]
        rw [e]
        exact shut_dk (x := ⟨xs, xsc, xst, xsz, xpp, xpc, xm, xl⟩) { hx with ok := { hx.ok with } } (s.sel [0, 0, 0, 0] rfl)
      · simp [DM.flush, h, DM.goes, hgo]
    · rw [if_neg hgo] at hg
      obtain ⟨rfl, rfl⟩ := hg
      have hgoes : D.goes = (true, { D with plan := if D.armed then D.plan - 1 else D.plan, opn := D.opn + 1 }) := by simp [DM.goes, hgo]
      have hcnt := hx.ok.count
      (repeat (first | refine GK.run ?_ | (refine GK.box ?_; intro bl) | (refine GK.mkMap ?_; intro bm) | (refine GK.build0 tb ?_; intro bs)))
      refine GK.weak (by repeat (first | exact trivial | refine ⟨rfl, ?_⟩)) (fun w s => s.sel [0, 0, 0, 0] rfl) (G.loop (fun i : Nat => D.pend.length - i)
        (fun i => [(0, dptr d), (17, .slice xpp D.pend.length xpc), (18, .int .i64 D.pend.length), (19, .int .i64 i)])
        (fun i => [dblk d (dcells (some ⟨xs, 0, none⟩) D.sure.length xsc xpp D.pend.length xpc xm D.off D.armed (if D.armed then D.plan - 1 else D.plan) (D.opn + 1)), blk xs 66 xsz (flat (settles D.sure (D.pend.take i)) ++ xst), row (.slice xpp D.pend.length xpc) 68 257 D.pend.length (flatP D.pend), mp xm xl])
        (fun i => i ≤ D.pend.length) (fun i hi => ?_) 0 (Nat.zero_le _))
      have hss := settles_size (s := D.sure) (l := D.pend.take i) hx.ok.size (fun p hp => (hx.ok.pend p (List.mem_of_mem_take hp)).2)
      have hsl := settles_length D.sure (D.pend.take i)
      have hfl : (flat (settles D.sure (D.pend.take i))).length = (flat D.sure).length := by rw [flat_length hss, flat_length hx.ok.size, hsl]
      have hff : free xsz 0 (flat (settles D.sure (D.pend.take i)) ++ xst).length = true := by have := hx.fz; simp only [List.length_append] at this ⊢; rw [hfl]; exact this
      (repeat (first | refine GK.run ?_ | (refine GK.box ?_; intro bl) | (refine GK.mkMap ?_; intro bm) | (refine GK.build0 tb ?_; intro bs)))
      refine G.cond rfl (fun h1 => ?_) (fun h1 => ?_)
      · have h1 : i < D.pend.length := by simpa using h1
        obtain ⟨p, hp⟩ : ∃ p, D.pend[i]? = some p := ⟨_, List.getElem?_eq_getElem h1⟩
        have hpe := hx.ok.pend p (List.mem_of_getElem? hp)
        refine GK.openRow 2 rfl (by omega) fun b tail fz hp' hc ht hxs hf => ?_
        subst hp'
        (repeat (first | refine GK.run ?_ | (refine GK.box ?_; intro bl) | (refine GK.mkMap ?_; intro bm) | (refine GK.build0 tb ?_; intro bs)))
        refine GL.cons ?_
        refine GO.yield .none (Yt.loadRow tb rfl rfl (Rd.blk 0 rfl) (A := .int .i64 p.1 :: u8s p.2) (by rw [Nat.zero_add]; exact flatP_at (fun p hp => (hx.ok.pend p hp).2) hp _) (by simp [hpe.2])) ?_
        refine GL.cons ?_; refine Gt.allocAny tb (by first | exact Wt.none | exact Wt.some rfl rfl (by first | exact rfl | decide +kernel)) (by exact rfl) (by exact rfl) ?_
        intro b1 l1 hl1
        (repeat (first | refine GK.run ?_ | (refine GK.box ?_; intro bl) | (refine GK.mkMap ?_; intro bm) | (refine GK.build0 tb ?_; intro bs)))
        refine GL.cons ?_
        refine Gt.storeAll tb 0 .none rfl rfl rfl (by simp [hpe.2]) (cons_one rfl (u8s_one _)) rfl (by simp [hl1, hpe.2]) ?_
        (repeat (first | refine GK.run ?_ | (refine GK.box ?_; intro bl) | (refine GK.mkMap ?_; intro bm) | (refine GK.build0 tb ?_; intro bs)))
        refine GL.cons ?_
        refine GO.yield .none (Yt.loadRow tb rfl rfl (Rd.blk 0 rfl) (A := .int .i64 p.1 :: u8s p.2) (At.all _) (by simp [hpe.2])) ?_
        (repeat (first | refine GK.run ?_ | (refine GK.box ?_; intro bl) | (refine GK.mkMap ?_; intro bm) | (refine GK.build0 tb ?_; intro bs)))
        refine GL.cons ?_
        refine GO.call [2, 2] (fun hF' _ _ => settle_ok hss hff p (by rw [hsl]; exact hpe.1) hpe.2 (by rw [hsl]; exact hx.ok.le) hsl) .none (by kernel_rfl) rfl rfl rfl ?_
        rintro v Γ' ⟨rfl, rfl⟩
        (repeat (first | refine GK.run ?_ | (refine GK.box ?_; intro bl) | (refine GK.mkMap ?_; intro bm) | (refine GK.build0 tb ?_; intro bs)))
        refine GQ.again (i + 1) (by omega) (by omega) (by repeat (first | exact trivial | refine ⟨rfl, ?_⟩)) (fun w s => ?_)
        have s := s.sel [3, 0, 0, 1] rfl
        have s := (s.row_blk hc ht hxs hf).sel [1, 1, 0, 0] rfl
        rw [settles_take D.sure hp]
        exact s
      · have h1 : i = D.pend.length := by simp at h1; omega
        subst h1
        (repeat (first | refine GK.run ?_ | (refine GK.box ?_; intro bl) | (refine GK.mkMap ?_; intro bm) | (refine GK.build0 tb ?_; intro bs)))
        refine GK.heap (Γ' := [dk d D.flush.2]) (fun w s => ?_) (GQ.end1 rfl rfl ?_)
        · have hD : D.flush.2 = { D.goes.2 with sure := settles D.sure D.pend, pend := [] } := by simp [DM.flush, h, hgoes]
          rw [hD]
          have hok := hx.ok.goes hopn
          rw [hgoes] at hok ⊢
          rw [List.take_length] at hss hsl hff hfl s
          refine shut_dk (x := ⟨xs, xsc, xst, xsz, none, 0, bm, []⟩) ?_ ?_
          · refine { ok := { hok with pos := ?_, le := ?_, size := hss, pend := by simp, count := by simp }, cap := ?_, tail := ?_, fz := hff, last := by intro i; rfl }
            · show 0 < (settles D.sure D.pend).length; rw [hsl]; exact hx.ok.pos
            · show (settles D.sure D.pend).length ≤ _; rw [hsl]; exact hx.ok.le
            · show (settles D.sure D.pend).length ≤ _; rw [hsl]; exact hx.cap
            · show _ = (_ - (settles D.sure D.pend).length) * 256; rw [hsl]; exact hx.tail
          · show Sat (dblk d (dcells _ (settles D.sure D.pend).length _ _ _ _ _ _ _ _ _) :: blk _ _ _ (flat (settles D.sure D.pend) ++ _) :: _) _ _
            rw [hsl]
            have s := s.sel [0, 0, 0] rfl
            have s := ((s.mp_new (α := Int)).row_nil (e := 68) (sz := 257)).sel [2, 2, 0, 0] rfl
            exact s
        · simp [DM.flush, h, hgoes]
end Go.Dk
