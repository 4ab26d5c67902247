/- DiskAll, walked. -/
import Derived.Test.YtpbkbmdpmfclpaaDkV
namespace Go.Dk
open Go Go.Sl
theorem i64s_upTo (k : Nat) : i64s (upTo (k + 1)) = i64s (upTo k) ++ [.int .i64 k] := by rw [upTo_succ]; simp [i64s]
theorem u8small {i : Nat} (h : i < 3) : ∃ b : UInt8, [Value.int .u8 1, .int .u8 2, .int .u8 3][0 + ((i : Nat) : Int).toNat * 1]? = some (.int .u8 b.toNat) ∧ b = UInt8.ofNat (i + 1) ∧ IntKind.i64.wrap (b.toNat : Int) = (i : Int) + 1 := by
  rcases (show i = 0 ∨ i = 1 ∨ i = 2 by omega) with rfl | rfl | rfl
  · exact ⟨1, rfl, rfl, rfl⟩
  · exact ⟨2, rfl, rfl, rfl⟩
  · exact ⟨3, rfl, rfl, rfl⟩
theorem arm_at3 {D : DM} (h : D.off = false) : D.arm 1099511627776 = (0, at3 D 0) := by
  unfold DM.arm
  rw [if_neg (by simp [h]), if_neg (by omega)]
  simp [at3, w3, h]
attribute [local irreducible] GK GO Yl Wt Ef Hd GH KH wpList Code.wp Sat pt FnOk Rd bodyPost Ret Exit.then Exit.inBlock Exit.noGoto exs Int.decLt Int.decLe Int.instDecidableEq
attribute [local irreducible] rep whole DM.write DM.flush DM.arm DM.fresh DM.restart at3 w3 upTo settles
variable {hF : Hp}
set_option maxHeartbeats 4000000 in
theorem all_ok (v : Value) (l : List ActM) (hv : roActs hF v l) : FnOk Go.Proofs.Try.prog 4 [v] [] hF (fun v _ => v = .bool true) := by
  refine FnOk.intro 149 Go.Proofs.Try.func4 rfl rfl fun w0 => ?_
  (repeat (first | refine GK.run ?_ | (refine GK.box ?_; intro bl) | (refine GK.mkMap ?_; intro bm) | (refine GK.build0 tb ?_; intro bs)))
  refine GL.cons ?_; refine GO.call [] (fun hF' hle hH => written_ok v l (hv.mono hle)) (by first | exact Wt.none | exact Wt.some rfl rfl (by first | exact rfl | decide +kernel)) (by kernel_rfl) rfl rfl rfl ?_
  rintro v' Γ' ⟨d, rfl, rfl⟩
  have hg := acts_grow (l.take 60) (DM.fresh 4)
  rw [(fresh_opn 4).1, (fresh_opn 4).2.1, (fresh_opn 4).2.2, List.length_take, List.length_nil] at hg
  obtain ⟨D, hD⟩ : ∃ D, writtenM l = D := ⟨_, rfl⟩
  have hs : D.sure.length = 4 := by rw [← hD]; exact hg.2.2
  have ho : D.opn ≤ 60 := by rw [← hD]; have := hg.1; unfold writtenM; omega
  have hp : D.pend.length ≤ 60 := by rw [← hD]; have := hg.2.1; unfold writtenM; omega
  clear hg
  rw [hD]
  (repeat (first | refine GK.run ?_ | (refine GK.box ?_; intro bl) | (refine GK.mkMap ?_; intro bm) | (refine GK.build0 tb ?_; intro bs)))
  refine GL.cons ?_; refine GO.call [0] (fun hF' hle hH => down_ok) (by first | exact Wt.none | exact Wt.some rfl rfl (by first | exact rfl | decide +kernel)) (by kernel_rfl) rfl rfl rfl ?_
  rintro v' Γ' ⟨rfl, rfl⟩
  (repeat (first | refine GK.run ?_ | (refine GK.box ?_; intro bl) | (refine GK.mkMap ?_; intro bm) | (refine GK.build0 tb ?_; intro bs)))
  refine G.cut (fun _ : DM => [(3, dptr d)]) (fun D => [dk d D]) (fun D => D.off = false ∧ D.sure.length = 4 ∧ D.opn ≤ 60 ∧ D.pend.length ≤ 60) (fun D hI => ?_) ?_
  rotate_left
  · refine G.cond rfl (fun hoff => ?_) (fun hoff => ?_)
    · (repeat (first | refine GK.run ?_ | (refine GK.box ?_; intro bl) | (refine GK.mkMap ?_; intro bm) | (refine GK.build0 tb ?_; intro bs)))
      refine GL.cons ?_; refine GO.call [0] (fun hF' hle hH => restart_ok _ [] ⟨none, 0, rfl, fun h => absurd h (by simp)⟩ (by simp)) (by first | exact Wt.none | exact Wt.some rfl rfl (by first | exact rfl | decide +kernel)) (by kernel_rfl) rfl rfl rfl ?_
      rintro v' Γ' ⟨rfl, rfl⟩
      rw [restart_none]
      (repeat (first | refine GK.run ?_ | (refine GK.box ?_; intro bl) | (refine GK.mkMap ?_; intro bm) | (refine GK.build0 tb ?_; intro bs)))
      exact GQ.reach (⟨D.sure, [], false, false, 0, D.opn⟩ : DM) ⟨rfl, hs, ho, Nat.zero_le _⟩ (by repeat (first | exact trivial | refine ⟨rfl, ?_⟩)) (fun w s => s.sel [0] rfl)
    · (repeat (first | refine GK.run ?_ | (refine GK.box ?_; intro bl) | (refine GK.mkMap ?_; intro bm) | (refine GK.build0 tb ?_; intro bs)))
      exact GQ.reach D ⟨hoff, hs, ho, hp⟩ (by repeat (first | exact trivial | refine ⟨rfl, ?_⟩)) (fun w s => s.sel [0] rfl)
  clear hs ho hp hD
  obtain ⟨hoff, hs, ho, hp⟩ := hI
  have hsz := hs
  (repeat (first | refine GK.run ?_ | (refine GK.box ?_; intro bl) | (refine GK.mkMap ?_; intro bm) | (refine GK.build0 tb ?_; intro bs)))
  refine GL.cons ?_; refine GO.call [0] (fun hF' hle hH => arm_ok 1099511627776 (by omega)) (by first | exact Wt.none | exact Wt.some rfl rfl (by first | exact rfl | decide +kernel)) (by kernel_rfl) rfl rfl rfl ?_
  rintro v' Γ' ⟨rfl, rfl⟩
  rw [arm_at3 hoff]
  (repeat (first | refine GK.run ?_ | (refine GK.box ?_; intro bl) | (refine GK.mkMap ?_; intro bm) | (refine GK.build0 tb ?_; intro bs)))
  refine GL.cons ?_
  refine Gt.buildLit tb (sz := 0) (n := 2) (by first | exact Wt.none | exact Wt.some rfl rfl (by first | exact rfl | decide +kernel)) rfl rfl (by kernel_rfl) rfl rfl rfl rfl rfl rfl ?_
  intro b3
  (repeat (first | refine GK.run ?_ | (refine GK.box ?_; intro bl) | (refine GK.mkMap ?_; intro bm) | (refine GK.build0 tb ?_; intro bs)))
  refine GK.weak (by repeat (first | exact trivial | refine ⟨rfl, ?_⟩)) (fun w s => s.sel [0, 0] rfl) (G.loop (fun i : Nat => 3 - i)
    (fun i => [(3, dptr d), (25, .slice (some ⟨b3, 0, none⟩) 3 3), (26, .int .i64 3), (27, .int .i64 i)])
    (fun i => [blk b3 5 (0, 0) [.int .u8 1, .int .u8 2, .int .u8 3], dk d (at3 D i)])
    (fun i => i ≤ 3) (fun i hi => ?_) 0 (Nat.zero_le _))
  (repeat (first | refine GK.run ?_ | (refine GK.box ?_; intro bl) | (refine GK.mkMap ?_; intro bm) | (refine GK.build0 tb ?_; intro bs)))
  refine G.cond rfl (fun h => ?_) (fun h => ?_)
  · have h : i < 3 := by simp at h; omega
    obtain ⟨c, hc, hcn, hcw⟩ := u8small h
    (repeat (first | refine GK.run ?_ | (refine GK.box ?_; intro bl) | (refine GK.mkMap ?_; intro bm) | (refine GK.build0 tb ?_; intro bs)))
    rw [hcw]
    refine GL.cons ?_; refine GO.call [] (fun hF' hle hH => ones_ok c) (by first | exact Wt.none | exact Wt.some rfl rfl (by first | exact rfl | decide +kernel)) (by kernel_rfl) rfl rfl rfl ?_
    rintro v' Γ' ⟨p, k, rfl, rfl⟩
    (repeat (first | refine GK.run ?_ | (refine GK.box ?_; intro bl) | (refine GK.mkMap ?_; intro bm) | (refine GK.build0 tb ?_; intro bs)))
    refine GL.cons ?_; refine GO.call [2] (fun hF' hle hH => write_ok ((i : Int) + 1) _ (rep 256 c) (hH.ro 0 rfl) (by unfold at3 w3; simp; omega) (by unfold at3; simp only []; omega) (by rw [rep_length]; omega)) (by first | exact Wt.none | exact Wt.some rfl rfl (by first | exact rfl | decide +kernel)) (by kernel_rfl) rfl rfl rfl ?_
    rintro v' Γ' ⟨rfl, rfl⟩
    rw [hcn, show ((at3 D i).write ((i : Int) + 1) (rep 256 (UInt8.ofNat (i + 1)))).1 = 0 from by rw [at3_write D hs h], show ((at3 D i).write ((i : Int) + 1) (rep 256 (UInt8.ofNat (i + 1)))).2 = at3 D (i + 1) from by rw [at3_write D hs h]]
    (repeat (first | refine GK.run ?_ | (refine GK.box ?_; intro bl) | (refine GK.mkMap ?_; intro bm) | (refine GK.build0 tb ?_; intro bs)))
    exact GQ.again (i + 1) h (by omega) (by repeat (first | exact trivial | refine ⟨rfl, ?_⟩)) (fun w s => s.sel [2, 0] rfl)
  · have h : i = 3 := by simp at h; omega
    subst h
    (repeat (first | refine GK.run ?_ | (refine GK.box ?_; intro bl) | (refine GK.mkMap ?_; intro bm) | (refine GK.build0 tb ?_; intro bs)))
    refine GL.cons ?_; refine GO.call [1] (fun hF' hle hH => clone_ok) (by first | exact Wt.none | exact Wt.some rfl rfl (by first | exact rfl | decide +kernel)) (by kernel_rfl) rfl rfl rfl ?_
    rintro v' Γ' ⟨d1, rfl, rfl⟩
    (repeat (first | refine GK.run ?_ | (refine GK.box ?_; intro bl) | (refine GK.mkMap ?_; intro bm) | (refine GK.build0 tb ?_; intro bs)))
    refine GL.cons ?_; refine GO.call [1] (fun hF' hle hH => clone_ok) (by first | exact Wt.none | exact Wt.some rfl rfl (by first | exact rfl | decide +kernel)) (by kernel_rfl) rfl rfl rfl ?_
    rintro v' Γ' ⟨d2, rfl, rfl⟩
    (repeat (first | refine GK.run ?_ | (refine GK.box ?_; intro bl) | (refine GK.mkMap ?_; intro bm) | (refine GK.build0 tb ?_; intro bs)))
    refine GL.cons ?_; refine GO.call [1] (fun hF' hle hH => pending_ok) (by first | exact Wt.none | exact Wt.some rfl rfl (by first | exact rfl | decide +kernel)) (by kernel_rfl) rfl rfl rfl ?_
    rintro v' Γ' ⟨p, k, rfl, rfl⟩
    obtain ⟨n, hn⟩ : ∃ n, (at3 D 3).pend.length = n := ⟨_, rfl⟩
    have hn63 : n = D.pend.length + 3 := by rw [← hn]; unfold at3 w3; simp
    rw [hn]
    (repeat (first | refine GK.run ?_ | (refine GK.box ?_; intro bl) | (refine GK.mkMap ?_; intro bm) | (refine GK.build0 tb ?_; intro bs)))
    refine GK.weak (by repeat (first | exact trivial | refine ⟨rfl, ?_⟩)) (fun w s => ?_) (G.loop (fun x : Nat × Option Addr × Nat => n - x.1)
      (fun x => [(3, dptr d), (6, dptr d1), (7, dptr d2), (8, .slice x.2.1 x.1 x.2.2), (45, .int .i64 n), (46, .int .i64 x.1)])
      (fun x => [row (.slice x.2.1 x.1 x.2.2) 3 1 x.1 (i64s (upTo x.1)), dk d (at3 D 3), dk d1 (at3 D 3), dk d2 (at3 D 3)])
      (fun x => x.1 ≤ n) (fun x hi => ?_) (0, none, 0) (Nat.zero_le _))
    · have s := (s.sel [1, 2, 1] rfl).row_nil (e := 3) (sz := 1)
      have e : i64s (upTo 0) = [] := by unfold upTo; rfl
      show Sat [row (.slice none 0 0) _ 1 0 (i64s (upTo 0)), _, _, _] _ _
      rw [e]; exact s
    obtain ⟨i, lp, lc⟩ := x
    replace hi : i ≤ n := hi
    (repeat (first | refine GK.run ?_ | (refine GK.box ?_; intro bl) | (refine GK.mkMap ?_; intro bm) | (refine GK.build0 tb ?_; intro bs)))
    refine G.cond rfl (fun h1 => ?_) (fun h1 => ?_)
    · have h1 : i < n := by simpa using h1
      (repeat (first | refine GK.run ?_ | (refine GK.box ?_; intro bl) | (refine GK.mkMap ?_; intro bm) | (refine GK.build0 tb ?_; intro bs)))
      refine GL.cons ?_; refine Gt.buildLit tb (sz := 0) (n := 0) (by first | exact Wt.none | exact Wt.some rfl rfl (by first | exact rfl | decide +kernel)) rfl rfl (by kernel_rfl) rfl rfl rfl rfl rfl rfl ?_
      intro bx
      (repeat (first | refine GK.run ?_ | (refine GK.box ?_; intro bl) | (refine GK.mkMap ?_; intro bm) | (refine GK.build0 tb ?_; intro bs)))
      refine GL.cons ?_; refine Gt.append tb 1 (by first | exact Wt.none | exact Wt.some rfl rfl (by first | exact rfl | decide +kernel)) rfl (.inl ⟨_, rfl⟩) rfl rfl rfl rfl rfl (Src.slice (m := 1) (Rd.blk 0 rfl) (At.all _) rfl (one_of_all rfl)) (by omega) (by omega) ?_
      intro p2 c2
      (repeat (first | refine GK.run ?_ | (refine GK.box ?_; intro bl) | (refine GK.mkMap ?_; intro bm) | (refine GK.build0 tb ?_; intro bs)))
      refine GQ.again (i + 1, p2, c2) h1 (by show n - (i + 1) < n - i; omega) (by repeat (first | exact trivial | refine ⟨rfl, ?_⟩)) (fun w s => ?_)
      show Sat [row _ _ 1 _ (i64s (upTo (i + 1))), _, _, _] _ _
      rw [i64s_upTo]
      exact s.sel [0, 1, 1, 1] rfl
    · have h1 : i = n := by simp at h1; omega
      subst h1
      have hTs : (at3 D 3).sure = D.sure := by unfold at3; rfl
      have hTp : (at3 D 3).pend = D.pend ++ w3 := by unfold at3 w3; rfl
      have hTo : (at3 D 3).opn < 1000000000000000000 := by unfold at3; simp only []; omega
      obtain ⟨X, hX⟩ : ∃ X, settles D.sure (D.pend ++ w3) = X := ⟨_, rfl⟩
      have hX4 : X.length = 4 := by rw [← hX, settles_length]; exact hs
      obtain ⟨FT, hFT, hFTs⟩ : ∃ FT, (at3 D 3).flush = (0, FT) ∧ FT.sure = X := ⟨_, at3_flush D, hX⟩
      obtain ⟨AL, hAL, hALs⟩ : ∃ AL, (at3 D 3).restart (upTo i) = (0, AL) ∧ AL.sure = X := by
        have := restart_all (at3 D 3)
        rw [hn, hTs, hTp, hX] at this
        exact ⟨_, this, rfl⟩
      obtain ⟨NO, hNO, hNOs⟩ : ∃ NO, (at3 D 3).restart [] = (0, NO) ∧ NO.sure = D.sure := by
        have := restart_none (at3 D 3)
        rw [hTs] at this
        exact ⟨_, this, rfl⟩
      (repeat (first | refine GK.run ?_ | (refine GK.box ?_; intro bl) | (refine GK.mkMap ?_; intro bm) | (refine GK.build0 tb ?_; intro bs)))
      refine GL.cons ?_; refine GO.call [1] (fun hF' hle hH => sure_ok) (by first | exact Wt.none | exact Wt.some rfl rfl (by first | exact rfl | decide +kernel)) (by kernel_rfl) rfl rfl rfl ?_
      rintro v' Γ' ⟨pw, kw, rfl, rfl⟩
      rw [hTs, hs]
      (repeat (first | refine GK.run ?_ | (refine GK.box ?_; intro bl) | (refine GK.mkMap ?_; intro bm) | (refine GK.build0 tb ?_; intro bs)))
      refine GL.cons ?_; refine GO.call [1] (fun hF' hle hH => flush_ok hTo) (by first | exact Wt.none | exact Wt.some rfl rfl (by first | exact rfl | decide +kernel)) (by kernel_rfl) rfl rfl rfl ?_
      rintro v' Γ' ⟨rfl, rfl⟩
      rw [show (at3 D 3).flush.1 = 0 from by rw [hFT], show (at3 D 3).flush.2 = FT from by rw [hFT]]
      (repeat (first | refine GK.run ?_ | (refine GK.box ?_; intro bl) | (refine GK.mkMap ?_; intro bm) | (refine GK.build0 tb ?_; intro bs)))
      refine GL.cons ?_; refine GO.call [3] (fun hF' hle hH => restart_ok _ (upTo i) (by rw [upTo_length]; exact hH.ro 2 rfl) (by rw [upTo_length]; omega)) (by first | exact Wt.none | exact Wt.some rfl rfl (by first | exact rfl | decide +kernel)) (by kernel_rfl) rfl rfl rfl ?_
      rintro v' Γ' ⟨rfl, rfl⟩
      rw [show ((at3 D 3).restart (upTo i)).1 = 0 from by rw [hAL], show ((at3 D 3).restart (upTo i)).2 = AL from by rw [hAL]]
      (repeat (first | refine GK.run ?_ | (refine GK.box ?_; intro bl) | (refine GK.mkMap ?_; intro bm) | (refine GK.build0 tb ?_; intro bs)))
      refine GL.cons ?_; refine GO.call [4] (fun hF' hle hH => restart_ok _ [] ⟨none, 0, rfl, fun h => absurd h (by simp)⟩ (by simp)) (by first | exact Wt.none | exact Wt.some rfl rfl (by first | exact rfl | decide +kernel)) (by kernel_rfl) rfl rfl rfl ?_
      rintro v' Γ' ⟨rfl, rfl⟩
      rw [show ((at3 D 3).restart []).1 = 0 from by rw [hNO], show ((at3 D 3).restart []).2 = NO from by rw [hNO]]
      (repeat (first | refine GK.run ?_ | (refine GK.box ?_; intro bl) | (refine GK.mkMap ?_; intro bm) | (refine GK.build0 tb ?_; intro bs)))
      refine GL.cons ?_; refine GO.call [2] (fun hF' hle hH => sure_ok) (by first | exact Wt.none | exact Wt.some rfl rfl (by first | exact rfl | decide +kernel)) (by kernel_rfl) rfl rfl rfl ?_
      rintro v' Γ' ⟨px, kx, rfl, rfl⟩
      rw [hFTs, hX4]
      (repeat (first | refine GK.run ?_ | (refine GK.box ?_; intro bl) | (refine GK.mkMap ?_; intro bm) | (refine GK.build0 tb ?_; intro bs)))
      refine GL.cons ?_; refine GO.call [3] (fun hF' hle hH => sure_ok) (by first | exact Wt.none | exact Wt.some rfl rfl (by first | exact rfl | decide +kernel)) (by kernel_rfl) rfl rfl rfl ?_
      rintro v' Γ' ⟨py, ky, rfl, rfl⟩
      rw [hALs, hX4]
      (repeat (first | refine GK.run ?_ | (refine GK.box ?_; intro bl) | (refine GK.mkMap ?_; intro bm) | (refine GK.build0 tb ?_; intro bs)))
      refine GL.cons ?_; refine GO.call [4] (fun hF' hle hH => sure_ok) (by first | exact Wt.none | exact Wt.some rfl rfl (by first | exact rfl | decide +kernel)) (by kernel_rfl) rfl rfl rfl ?_
      rintro v' Γ' ⟨pz, kz, rfl, rfl⟩
      rw [hNOs, hs]
      (repeat (first | refine GK.run ?_ | (refine GK.box ?_; intro bl) | (refine GK.mkMap ?_; intro bm) | (refine GK.build0 tb ?_; intro bs)))
      refine GK.sel [6, 4, 2, 0] rfl ?_
      refine GK.opens 0 rfl fun vw hvw => ?_
      refine GK.opens 2 rfl fun vx hvx => ?_
      refine GK.opens 4 rfl fun vy hvy => ?_
      refine GK.opens 6 rfl fun vz hvz => ?_
      refine GK.openRow 0 rfl (by omega) fun bz tz fz hpz hcz htz hxz hfz => ?_
      refine GK.openRow 2 rfl (by omega) fun by' ty' fy hpy hcy hty hxy hfy => ?_
      refine GK.openRow 4 rfl (by omega) fun bx tx fx hpx hcx htx hxx hfx => ?_
      refine GK.openRow 6 rfl (by omega) fun bw tw fw hpw hcw htw hxw hfw => ?_
      subst hpz hpy hpx hpw
      refine GK.pure (fun w s => star_shape (i := 7) rfl s) fun shw => ?_
      refine GK.pure (fun w s => star_shape (i := 6) rfl s) fun shx => ?_
      refine GK.pure (fun w s => star_shape (i := 5) rfl s) fun shy => ?_
      refine GK.pure (fun w s => star_shape (i := 4) rfl s) fun shz => ?_
      (repeat (first | refine GK.run ?_ | (refine GK.box ?_; intro bl) | (refine GK.mkMap ?_; intro bm) | (refine GK.build0 tb ?_; intro bs)))
      refine GK.weak (by repeat (first | exact trivial | refine ⟨rfl, ?_⟩)) (fun w s => s.sel [0, 0, 0, 0, 0, 0, 0, 0] rfl) (G.loop (fun i : Nat => 4 - i)
        (fun i => [(10, .slice (some ⟨bw, 0, none⟩) 4 kw), (11, .slice (some ⟨bx, 0, none⟩) 4 kx), (12, .slice (some ⟨by', 0, none⟩) 4 ky), (13, .slice (some ⟨bz, 0, none⟩) 4 kz), (103, .int .i64 4), (104, .int .i64 i)])
        (fun _ => [blk bw 32 fw (vw ++ tw), blk bx 32 fx (vx ++ tx), blk by' 32 fy (vy ++ ty'), blk bz 32 fz (vz ++ tz), brows vz D.sure, brows vy X, brows vx X, brows vw D.sure])
        (fun i => i ≤ 4) (fun j hj => ?_) 0 (Nat.zero_le _))
      (repeat (first | refine GK.run ?_ | (refine GK.box ?_; intro bl) | (refine GK.mkMap ?_; intro bm) | (refine GK.build0 tb ?_; intro bs)))
      refine G.cond rfl (fun h2 => ?_) (fun h2 => ?_)
      · have h2 : j < 4 := by simp at h2; omega
        obtain ⟨s1, hs1⟩ : ∃ s1, X[j]? = some s1 := ⟨_, List.getElem?_eq_getElem (by omega)⟩
        obtain ⟨s0, hs0⟩ : ∃ s0, D.sure[j]? = some s0 := ⟨_, List.getElem?_eq_getElem (by omega)⟩
        obtain ⟨pw, cw, hw⟩ := shw j _ s0 (List.getElem?_eq_getElem (by omega)) hs0
        obtain ⟨pz, cz, hz⟩ := shz j _ s0 (List.getElem?_eq_getElem (by omega)) hs0
        obtain ⟨px, cx, hx⟩ := shx j _ s1 (List.getElem?_eq_getElem (by omega)) hs1
        obtain ⟨py, cy, hy⟩ := shy j _ s1 (List.getElem?_eq_getElem (by omega)) hs1
        have gw : vw[j]? = some (.slice pw s0.length cw) := by rw [← hw]; exact List.getElem?_eq_getElem (by omega)
        have gz : vz[j]? = some (.slice pz s0.length cz) := by rw [← hz]; exact List.getElem?_eq_getElem (by omega)
        have gx : vx[j]? = some (.slice px s1.length cx) := by rw [← hx]; exact List.getElem?_eq_getElem (by omega)
        have gy : vy[j]? = some (.slice py s1.length cy) := by rw [← hy]; exact List.getElem?_eq_getElem (by omega)
        have ej : 0 + ((j : Nat) : Int).toNat * 1 = j := by show 0 + j * 1 = j; omega
        have lw : (vw ++ tw)[0 + ((j : Nat) : Int).toNat * 1]? = some (.slice pw s0.length cw) := by rw [ej, List.getElem?_append_left (by omega)]; exact gw
        have lz : (vz ++ tz)[0 + ((j : Nat) : Int).toNat * 1]? = some (.slice pz s0.length cz) := by rw [ej, List.getElem?_append_left (by omega)]; exact gz
        have lx : (vx ++ tx)[0 + ((j : Nat) : Int).toNat * 1]? = some (.slice px s1.length cx) := by rw [ej, List.getElem?_append_left (by omega)]; exact gx
        have ly : (vy ++ ty')[0 + ((j : Nat) : Int).toNat * 1]? = some (.slice py s1.length cy) := by rw [ej, List.getElem?_append_left (by omega)]; exact gy
        (repeat (first | refine GK.run ?_ | (refine GK.box ?_; intro bl) | (refine GK.mkMap ?_; intro bm) | (refine GK.build0 tb ?_; intro bs)))
        refine G.draw [] [blk bw 32 fw (vw ++ tw), blk bx 32 fx (vx ++ tx), blk by' 32 fy (vy ++ ty'), blk bz 32 fz (vz ++ tz), brows vz D.sure, brows vy X, brows vx X, brows vw D.sure] (by kernel_rfl) ?_
        ((first | refine GH.tk 0 [0,0,0,0,0,0,0,0] ?_ | refine GH.tks 0 [0,0,0,0,0,0,0,0] ?_); (first | refine GH.tk 1 [0,0,0,0,0,0,0,0] ?_ | refine GH.tks 1 [0,0,0,0,0,0,0,0] ?_); (first | refine GH.tk 2 [0,0,0,0,0,0,0,0] ?_ | refine GH.tks 2 [0,0,0,0,0,0,0,0] ?_); (first | refine GH.tk 3 [0,0,0,0,0,0,0,0] ?_ | refine GH.tks 3 [0,0,0,0,0,0,0,0] ?_))
        refine GH.take 4 rfl (by kernel_rfl) (by first | exact Wt.none | exact Wt.some rfl rfl (by first | exact rfl | decide +kernel)) (fun _ s => s.sel [0,0,0,0,0,0,0,0] rfl) (Yl.starStr 6 j rfl rfl rfl rfl rfl gx hs1 rfl) ?_
        ((first | refine GH.tk 5 [0,0,0,0,0,0,0,0] ?_ | refine GH.tks 5 [0,0,0,0,0,0,0,0] ?_); (first | refine GH.tk 6 [0,0,0,0,0,0,0,0] ?_ | refine GH.tks 6 [0,0,0,0,0,0,0,0] ?_); (first | refine GH.tk 7 [0,0,0,0,0,0,0,0] ?_ | refine GH.tks 7 [0,0,0,0,0,0,0,0] ?_); (first | refine GH.tk 8 [0,0,0,0,0,0,0,0] ?_ | refine GH.tks 8 [0,0,0,0,0,0,0,0] ?_))
        refine GH.take 9 rfl (by kernel_rfl) (by first | exact Wt.none | exact Wt.some rfl rfl (by first | exact rfl | decide +kernel)) (fun _ s => s.sel [0,0,0,0,0,0,0,0] rfl) (Yl.starStr 5 j rfl rfl rfl rfl rfl gy hs1 rfl) ?_
        ((first | refine GH.tk 10 [0,0,0,0,0,0,0,0] ?_ | refine GH.tks 10 [0,0,0,0,0,0,0,0] ?_))
        rw [show (s1 == s1) = true from beq_self_eq_true s1]
        ((first | refine GH.tk 11 [0,0,0,0,0,0,0,0] ?_ | refine GH.tks 11 [0,0,0,0,0,0,0,0] ?_); (first | refine GH.tk 12 [0,0,0,0,0,0,0,0] ?_ | refine GH.tks 12 [0,0,0,0,0,0,0,0] ?_); (first | refine GH.tk 13 [0,0,0,0,0,0,0,0] ?_ | refine GH.tks 13 [0,0,0,0,0,0,0,0] ?_); (first | refine GH.tk 14 [0,0,0,0,0,0,0,0] ?_ | refine GH.tks 14 [0,0,0,0,0,0,0,0] ?_); (first | refine GH.tk 15 [0,0,0,0,0,0,0,0] ?_ | refine GH.tks 15 [0,0,0,0,0,0,0,0] ?_))
        refine GH.take 16 rfl (by kernel_rfl) (by first | exact Wt.none | exact Wt.some rfl rfl (by first | exact rfl | decide +kernel)) (fun _ s => s.sel [0,0,0,0,0,0,0,0] rfl) (Yl.starStr 4 j rfl rfl rfl rfl rfl gz hs0 rfl) ?_
        ((first | refine GH.tk 17 [0,0,0,0,0,0,0,0] ?_ | refine GH.tks 17 [0,0,0,0,0,0,0,0] ?_); (first | refine GH.tk 18 [0,0,0,0,0,0,0,0] ?_ | refine GH.tks 18 [0,0,0,0,0,0,0,0] ?_); (first | refine GH.tk 19 [0,0,0,0,0,0,0,0] ?_ | refine GH.tks 19 [0,0,0,0,0,0,0,0] ?_); (first | refine GH.tk 20 [0,0,0,0,0,0,0,0] ?_ | refine GH.tks 20 [0,0,0,0,0,0,0,0] ?_))
        refine GH.take 21 rfl (by kernel_rfl) (by first | exact Wt.none | exact Wt.some rfl rfl (by first | exact rfl | decide +kernel)) (fun _ s => s.sel [0,0,0,0,0,0,0,0] rfl) (Yl.starStr 7 j rfl rfl rfl rfl rfl gw hs0 rfl) ?_
        ((first | refine GH.tk 22 [0,0,0,0,0,0,0,0] ?_ | refine GH.tks 22 [0,0,0,0,0,0,0,0] ?_))
        rw [show (s0 == s0) = true from beq_self_eq_true s0]
        ((first | refine GH.tk 23 [0,0,0,0,0,0,0,0] ?_ | refine GH.tks 23 [0,0,0,0,0,0,0,0] ?_); (first | refine GH.tk 24 [0,0,0,0,0,0,0,0] ?_ | refine GH.tks 24 [0,0,0,0,0,0,0,0] ?_); (first | refine GH.tk 25 [0,0,0,0,0,0,0,0] ?_ | refine GH.tks 25 [0,0,0,0,0,0,0,0] ?_); (first | refine GH.tk 26 [0,0,0,0,0,0,0,0] ?_ | refine GH.tks 26 [0,0,0,0,0,0,0,0] ?_))
        obtain hb | hb : decide ((0 : Int) < (j : Int)) = true ∨ decide ((0 : Int) < (j : Int)) = false := by cases decide ((0 : Int) < (j : Int)) <;> simp
        · rw [hb]
          have hj0 : 0 < j := by simpa using hb
          have hX1 := settled3 (a := D.pend) hs hj0 h2
          rw [hX, hs1] at hX1
          obtain rfl : s1 = rep 256 (UInt8.ofNat j) := Option.some.inj hX1
          have hw8 : IntKind.u8.wrap (j : Int) = ((UInt8.ofNat j).toNat : Int) := by
            rcases (show j = 1 ∨ j = 2 ∨ j = 3 by omega) with rfl | rfl | rfl <;> rfl
          ((first | refine GH.tk 27 [0,0,0,0,0,0,0,0] ?_ | refine GH.tks 27 [0,0,0,0,0,0,0,0] ?_); (first | refine GH.tk 28 [0,0,0,0,0,0,0,0] ?_ | refine GH.tks 28 [0,0,0,0,0,0,0,0] ?_); (first | refine GH.tk 29 [0,0,0,0,0,0,0,0] ?_ | refine GH.tks 29 [0,0,0,0,0,0,0,0] ?_); (first | refine GH.tk 30 [0,0,0,0,0,0,0,0] ?_ | refine GH.tks 30 [0,0,0,0,0,0,0,0] ?_); (first | refine GH.tk 31 [0,0,0,0,0,0,0,0] ?_ | refine GH.tks 31 [0,0,0,0,0,0,0,0] ?_))
          refine GH.take 32 rfl (by kernel_rfl) (by first | exact Wt.none | exact Wt.some rfl rfl (by first | exact rfl | decide +kernel)) (fun _ s => s.sel [0,0,0,0,0,0,0,0] rfl) (Yl.starStr 6 j rfl rfl rfl rfl rfl gx hs1 rfl) ?_
          ((first | refine GH.tk 33 [0,0,0,0,0,0,0,0] ?_ | refine GH.tks 33 [0,0,0,0,0,0,0,0] ?_); (first | refine GH.tk 34 [0,0,0,0,0,0,0,0] ?_ | refine GH.tks 34 [0,0,0,0,0,0,0,0] ?_))
          rw [hw8]
          refine GH.step 35 rfl (by kernel_rfl) ?_
          refine GO.call [] (fun hF' _ _ => ones_ok (UInt8.ofNat j)) (by first | exact Wt.none | exact Wt.some rfl rfl (by first | exact rfl | decide +kernel)) (by kernel_rfl) rfl rfl rfl ?_
          rintro v' Γ' ⟨po, ko, rfl, rfl⟩
          refine GH.keep (fun _ s => s.sel [1,1,1,1,1,1,1,1] rfl) ?_
          refine GH.step 36 rfl (by kernel_rfl) ?_
          refine GO.yield (by first | exact Wt.none | exact Wt.some rfl rfl (by first | exact rfl | decide +kernel)) (Yl.rowStr (s := rep 256 (UInt8.ofNat j)) 0 rfl rfl rfl rfl rfl) ?_
          refine GH.keep (fun _ s => s.sel [1,1,1,1,1,1,1,1] rfl) ?_
          ((first | refine GH.tk 37 [1,1,1,1,1,1,1,1] ?_ | refine GH.tks 37 [1,1,1,1,1,1,1,1] ?_))
          rw [show (rep 256 (UInt8.ofNat j) == rep 256 (UInt8.ofNat j)) = true from beq_self_eq_true _]
          ((first | refine GH.tk 38 [1,1,1,1,1,1,1,1] ?_ | refine GH.tks 38 [1,1,1,1,1,1,1,1] ?_); (first | refine GH.tk 39 [1,1,1,1,1,1,1,1] ?_ | refine GH.tks 39 [1,1,1,1,1,1,1,1] ?_))
          refine GH.fin (by kernel_rfl) ?_
          (repeat (first | refine GK.run ?_ | (refine GK.box ?_; intro bl) | (refine GK.mkMap ?_; intro bm) | (refine GK.build0 tb ?_; intro bs)))
          exact GQ.again (j + 1) h2 (by omega) (by repeat (first | exact trivial | refine ⟨rfl, ?_⟩)) (fun w s => s.sel [1,1,1,1,1,1,1,1] rfl)
        · rw [hb]
          ((first | refine GH.tk 27 [0,0,0,0,0,0,0,0] ?_ | refine GH.tks 27 [0,0,0,0,0,0,0,0] ?_); (first | refine GH.tk 28 [0,0,0,0,0,0,0,0] ?_ | refine GH.tks 28 [0,0,0,0,0,0,0,0] ?_); (first | refine GH.tk 29 [0,0,0,0,0,0,0,0] ?_ | refine GH.tks 29 [0,0,0,0,0,0,0,0] ?_); (first | refine GH.tk 30 [0,0,0,0,0,0,0,0] ?_ | refine GH.tks 30 [0,0,0,0,0,0,0,0] ?_); (first | refine GH.tk 31 [0,0,0,0,0,0,0,0] ?_ | refine GH.tks 31 [0,0,0,0,0,0,0,0] ?_); (first | refine GH.tk 32 [0,0,0,0,0,0,0,0] ?_ | refine GH.tks 32 [0,0,0,0,0,0,0,0] ?_); (first | refine GH.tk 33 [0,0,0,0,0,0,0,0] ?_ | refine GH.tks 33 [0,0,0,0,0,0,0,0] ?_); (first | refine GH.tk 34 [0,0,0,0,0,0,0,0] ?_ | refine GH.tks 34 [0,0,0,0,0,0,0,0] ?_); (first | refine GH.tk 35 [0,0,0,0,0,0,0,0] ?_ | refine GH.tks 35 [0,0,0,0,0,0,0,0] ?_); (first | refine GH.tk 36 [0,0,0,0,0,0,0,0] ?_ | refine GH.tks 36 [0,0,0,0,0,0,0,0] ?_); (first | refine GH.tk 37 [0,0,0,0,0,0,0,0] ?_ | refine GH.tks 37 [0,0,0,0,0,0,0,0] ?_); (first | refine GH.tk 38 [0,0,0,0,0,0,0,0] ?_ | refine GH.tks 38 [0,0,0,0,0,0,0,0] ?_); (first | refine GH.tk 39 [0,0,0,0,0,0,0,0] ?_ | refine GH.tks 39 [0,0,0,0,0,0,0,0] ?_))
          refine GH.fin (by kernel_rfl) ?_
          (repeat (first | refine GK.run ?_ | (refine GK.box ?_; intro bl) | (refine GK.mkMap ?_; intro bm) | (refine GK.build0 tb ?_; intro bs)))
          exact GQ.again (j + 1) h2 (by omega) (by repeat (first | exact trivial | refine ⟨rfl, ?_⟩)) (fun w s => s.sel [0,0,0,0,0,0,0,0] rfl)
      · (repeat (first | refine GK.run ?_ | (refine GK.box ?_; intro bl) | (refine GK.mkMap ?_; intro bm) | (refine GK.build0 tb ?_; intro bs)))
        refine GL.cons ?_; refine GO.call [] (fun hF' hle hH => lives_ok) (by first | exact Wt.none | exact Wt.some rfl rfl (by first | exact rfl | decide +kernel)) (by kernel_rfl) rfl rfl rfl ?_
        rintro v' Γ' rfl
        (repeat (first | refine GK.run ?_ | (refine GK.box ?_; intro bl) | (refine GK.mkMap ?_; intro bm) | (refine GK.build0 tb ?_; intro bs)))
        exact GQ.end1 rfl rfl rfl
end Go.Dk
