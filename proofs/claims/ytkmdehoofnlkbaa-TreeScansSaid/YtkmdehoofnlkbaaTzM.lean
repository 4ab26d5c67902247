/- TreeMaps, walked. -/
import Derived.Test.YtkmdehoofnlkbaaTrZ
namespace Go.Tr
open Go Go.Sl
theorem lt_nil (a : Ky) : lt a [] = false := by
  cases h : lt a [] with
  | false => rfl
  | true =>
    exfalso
    cases a with
    | nil => rw [lt_irrefl] at h; cases h
    | cons x a => simp [Op.bytesLess] at h
theorem lscan_all (l : List En) : lscan l [] [] = l := by
  unfold lscan lfrom
  have h1 : pos l [] = 0 := by
    cases l with
    | nil => rfl
    | cons a l => exact pos_head (lt_nil a.1)
  rw [h1, List.drop_zero]
  exact twl_all fun e _ => rfl
attribute [local irreducible] GK GO Yl Wt Ef Hd GH KH wpListIn Code.wpIn toBody roundQ poolOf rs RS YieldOk IterOk VOk row star exs mp lp Sat pt FnOk Rd bodyPost bodyPostM Lv Ret Exit.then Exit.inBlock Exit.noGoto Int.decLt Int.decLe Int.instDecidableEq
attribute [local irreducible] ents ptrs hasH less dset num M.put M.del bulk acts actM ran M.depth
set_option pp.deepTerms true
set_option pp.maxSteps 1000000
variable {hF H : Hp}
/-- All that a map holds, told. -/
theorem told_all {m : M} (hm : m.Ok) {q : Option Addr} (hr : RootAt H m.root (.pointer q)) (hn : m.n < 1000000000) (mb : Nat) : FnOk Go.Proofs.Try.prog 18 [nptr mb, str [], str []] [mblk mb (.pointer q) m.n, poolOf H] hF (fun v Γ => ∃ H', le H H' ∧ Γ = [mblk mb (.pointer q) m.n, poolOf H'] ∧ Lst H' v m.ents) := by
  have h := told_ok (hF := hF) (A := mblk mb (.pointer q) m.n) (k := []) (u := []) (fun hF' => scan_ok mb [] []) hr hm.root (by have : rflat m.root = m.ents := rfl; rw [this, ← hm.n]; exact hn)
  have e : lscan (rflat m.root) [] [] = m.ents := lscan_all m.ents
  rw [e] at h
  exact h
set_option maxHeartbeats 2000000 in
theorem maps_ok {v : Value} {l : List Ac} (hv : roActs hF v l) : FnOk Go.Proofs.Try.prog 6 [v] [] hF (fun r _ => r = .bool true) := by
  have hv0 := hv
  obtain ⟨⟨p, c, rfl, hr⟩, hl, hok⟩ := hv
  refine FnOk.intro 86 Go.Proofs.Try.func6 rfl rfl fun w0 => ?_
  (repeat (first | refine GK.run ?_ | (refine GK.box ?_; intro bl) | (refine GK.mkMap ?_; intro bm) | (refine GK.build0 tb ?_; intro bs)))
  refine GL.cons ?_; refine GO.call [] (fun hF' hle hH => few_ok (hv0.mono hle)) (by first | exact Wt.none | exact Wt.some rfl rfl (by first | exact rfl | decide +kernel)) (by kernel_rfl) rfl rfl rfl ?_
  rintro v Γ' ⟨rfl, rfl⟩
  (repeat (first | refine GK.run ?_ | (refine GK.box ?_; intro bl) | (refine GK.mkMap ?_; intro bm) | (refine GK.build0 tb ?_; intro bs)))
  refine G.cond rfl (fun hf => ?_) (fun hf => ?_)
  · (repeat (first | refine GK.run ?_ | (refine GK.box ?_; intro bl) | (refine GK.mkMap ?_; intro bm) | (refine GK.build0 tb ?_; intro bs)))
    refine GL.cons ?_; refine GO.call [] (fun hF' hle hH => lives_ok) (by first | exact Wt.none | exact Wt.some rfl rfl (by first | exact rfl | decide +kernel)) (by kernel_rfl) rfl rfl rfl ?_
    rintro v Γ' ⟨rfl, rfl⟩
    (repeat (first | refine GK.run ?_ | (refine GK.box ?_; intro bl) | (refine GK.mkMap ?_; intro bm) | (refine GK.build0 tb ?_; intro bs)))
    exact GQ.fin1 rfl (Rv.tmp rfl) (fun w s => s) rfl
  have hf : fewM l = true := by simpa using hf
  obtain ⟨hlen, hkeys⟩ := fewM_len hf
  (repeat (first | refine GK.run ?_ | (refine GK.box ?_; intro bl) | (refine GK.mkMap ?_; intro bm) | (refine GK.build0 tb ?_; intro bs)))
  refine GL.cons ?_; refine GO.call [] (fun hF' hle hH => new_ok) (by first | exact Wt.none | exact Wt.some rfl rfl (by first | exact rfl | decide +kernel)) (by kernel_rfl) rfl rfl rfl ?_
  rintro v Γ' ⟨mb, rfl, rfl⟩
  (repeat (first | refine GK.run ?_ | (refine GK.box ?_; intro bl) | (refine GK.mkMap ?_; intro bm) | (refine GK.build0 tb ?_; intro bs)))
  refine GL.cons ?_; refine GO.call [0] (fun hF' hle hH => mclone_ok (m := M.empty) (q := none) mb) (by first | exact Wt.none | exact Wt.some rfl rfl (by first | exact rfl | decide +kernel)) (by kernel_rfl) rfl rfl rfl ?_
  rintro v Γ' ⟨nb, rfl, rfl⟩
  (repeat (first | refine GK.run ?_ | (refine GK.box ?_; intro bl) | (refine GK.mkMap ?_; intro bm) | (refine GK.build0 tb ?_; intro bs)))
  have hran0 : ran (l.take 0) = M.empty := by unfold ran; rfl
  refine GK.weak (fr' := [(18, .slice p l.length c), (19, .int .i64 (l.length : Int)), (3, nptr mb), (4, .slice none 0 0), (5, nptr nb), (6, .slice none 0 0), (20, .int .i64 ((0 : Nat) : Int))]) (Γ' := [poolOf emp, mblk mb (.pointer none) (ran (l.take 0)).n, mblk nb (.pointer none) M.empty.n]) (by repeat (first | exact trivial | refine ⟨rfl, ?_⟩)) (fun w s => by rw [hran0]; exact Sat.pool_emp (s.perm (.swap _ _ _)))
    (G.loop (fun x : Nat × Hp × (Nat × Option Addr × Value) × (Nat × Option Addr × Value) × M => l.length - x.1) (fun x => [(18, .slice p l.length c), (19, .int .i64 (l.length : Int)), (3, nptr x.2.2.1.1), (4, x.2.2.1.2.2), (5, nptr x.2.2.2.1.1), (6, x.2.2.2.1.2.2), (20, .int .i64 (x.1 : Int))]) (fun x => [poolOf x.2.1, mblk x.2.2.1.1 (.pointer x.2.2.1.2.1) (ran (l.take x.1)).n, mblk x.2.2.2.1.1 (.pointer x.2.2.2.1.2.1) x.2.2.2.2.n])
    (fun x => x.1 ≤ l.length ∧ RootAt x.2.1 (ran (l.take x.1)).root (.pointer x.2.2.1.2.1) ∧ Lst x.2.1 x.2.2.1.2.2 (ran (l.take x.1)).ents ∧ x.2.2.2.2.Ok ∧ x.2.2.2.2.n ≤ 24000 ∧ RootAt x.2.1 x.2.2.2.2.root (.pointer x.2.2.2.1.2.1) ∧ Lst x.2.1 x.2.2.2.1.2.2 x.2.2.2.2.ents) (fun x hx => ?_) (0, emp, (mb, none, .slice none 0 0), (nb, none, .slice none 0 0), M.empty) ⟨Nat.zero_le _, by rw [hran0]; rfl, by rw [hran0]; exact Lst.nil, M.Ok.empty, Nat.zero_le _, rfl, Lst.nil⟩)
  clear hran0
  obtain ⟨i, H1, ⟨mb, q1, lv1⟩, ⟨nb, q2, lv2⟩, mS⟩ := x
  obtain ⟨hi, hr1, hl1, hmS, hnS, hr2, hl2⟩ := hx
  replace hi : i ≤ l.length := hi
  replace hr1 : RootAt H1 (ran (l.take i)).root (.pointer q1) := hr1
  replace hl1 : Lst H1 lv1 (ran (l.take i)).ents := hl1
  replace hmS : mS.Ok := hmS
  replace hnS : mS.n ≤ 24000 := hnS
  replace hr2 : RootAt H1 mS.root (.pointer q2) := hr2
  replace hl2 : Lst H1 lv2 mS.ents := hl2
  obtain ⟨hmok, hmn⟩ := ran_ok (l.take i)
  have htl : (l.take i).length ≤ 400 := by simp; omega
  have hme := hmok.n
  have hSe := hmS.n
  have hib : i < 140737488355328 := by omega
  obtain ⟨p1, c1, rfl, hc1, hll1, hlr1⟩ := rs.out hl1
  obtain ⟨p2, c2, rfl, hc2, hll2, hlr2⟩ := rs.out hl2
  refine GK.weak (fr' := [(18, .slice p l.length c), (19, .int .i64 (l.length : Int)), (3, nptr mb), (4, .slice p1 (ran (l.take i)).ents.length c1), (5, nptr nb), (6, .slice p2 mS.ents.length c2), (20, .int .i64 (i : Int))]) (Γ' := [poolOf H1, mblk mb (.pointer q1) (ran (l.take i)).n, mblk nb (.pointer q2) mS.n]) (by repeat (first | exact trivial | refine ⟨rfl, ?_⟩)) (fun w s => s) ?_
  (repeat (first | refine GK.run ?_ | (refine GK.box ?_; intro bl) | (refine GK.mkMap ?_; intro bm) | (refine GK.build0 tb ?_; intro bs)))
  refine G.cond rfl (fun h0 => ?_) (fun h0 => ?_)
  rotate_left
  · (repeat (first | refine GK.run ?_ | (refine GK.box ?_; intro bl) | (refine GK.mkMap ?_; intro bm) | (refine GK.build0 tb ?_; intro bs)))
    refine GL.cons ?_; refine GO.call [1,0] (fun hF' hle hH => told_all hmok hr1 (by omega) mb) (by first | exact Wt.none | exact Wt.some rfl rfl (by first | exact rfl | decide +kernel)) (by kernel_rfl) rfl rfl rfl ?_
    rintro v Γ' ⟨H2, le2, rfl, hl3⟩
    (repeat (first | refine GK.run ?_ | (refine GK.box ?_; intro bl) | (refine GK.mkMap ?_; intro bm) | (refine GK.build0 tb ?_; intro bs)))
    refine GL.cons ?_; refine GO.call [1] (fun hF' hle hH => rsame_ok hl3 (hl1.mono le2) (by omega) (by omega)) (by first | exact Wt.none | exact Wt.some rfl rfl (by first | exact rfl | decide +kernel)) (by kernel_rfl) rfl rfl rfl ?_
    rintro v Γ' ⟨rfl, rfl⟩
    rw [beq_self_eq_true]
    (repeat (first | refine GK.run ?_ | (refine GK.box ?_; intro bl) | (refine GK.mkMap ?_; intro bm) | (refine GK.build0 tb ?_; intro bs)))
    refine GL.cons ?_; refine GO.call [2,0] (fun hF' hle hH => told_all hmS (hr2.mono le2) (by omega) nb) (by first | exact Wt.none | exact Wt.some rfl rfl (by first | exact rfl | decide +kernel)) (by kernel_rfl) rfl rfl rfl ?_
    rintro v Γ' ⟨H3, le3, rfl, hl4⟩
    (repeat (first | refine GK.run ?_ | (refine GK.box ?_; intro bl) | (refine GK.mkMap ?_; intro bm) | (refine GK.build0 tb ?_; intro bs)))
    refine GL.cons ?_; refine GO.call [1] (fun hF' hle hH => rsame_ok hl4 (hl2.mono (le2.trans le3)) (by omega) (by omega)) (by first | exact Wt.none | exact Wt.some rfl rfl (by first | exact rfl | decide +kernel)) (by kernel_rfl) rfl rfl rfl ?_
    rintro v Γ' ⟨rfl, rfl⟩
    rw [beq_self_eq_true]
    (repeat (first | refine GK.run ?_ | (refine GK.box ?_; intro bl) | (refine GK.mkMap ?_; intro bm) | (refine GK.build0 tb ?_; intro bs)))
    refine GL.cons ?_; refine GO.call [1] (fun hF' hle hH => mlen_ok (m := mS) nb) (by first | exact Wt.none | exact Wt.some rfl rfl (by first | exact rfl | decide +kernel)) (by kernel_rfl) rfl rfl rfl ?_
    rintro v Γ' ⟨rfl, rfl⟩
    rw [hSe]
    (repeat (first | refine GK.run ?_ | (refine GK.box ?_; intro bl) | (refine GK.mkMap ?_; intro bm) | (refine GK.build0 tb ?_; intro bs)))
    rw [show decide ((mS.ents.length : Int) = (mS.ents.length : Int)) = true from decide_eq_true rfl]
    (repeat (first | refine GK.run ?_ | (refine GK.box ?_; intro bl) | (refine GK.mkMap ?_; intro bm) | (refine GK.build0 tb ?_; intro bs)))
    refine GL.cons ?_; refine GO.call [] (fun hF' hle hH => lives_ok) (by first | exact Wt.none | exact Wt.some rfl rfl (by first | exact rfl | decide +kernel)) (by kernel_rfl) rfl rfl rfl ?_
    rintro v Γ' ⟨rfl, rfl⟩
    (repeat (first | refine GK.run ?_ | (refine GK.box ?_; intro bl) | (refine GK.mkMap ?_; intro bm) | (refine GK.build0 tb ?_; intro bs)))
    exact GQ.fin1 rfl (Rv.tmp rfl) (fun w s => s) rfl
  have h0 : i < l.length := by simpa using h0
  obtain ⟨a, ha⟩ : ∃ a, l[i]? = some a := ⟨_, List.getElem?_eq_getElem h0⟩
  obtain ⟨bb, o, cs, et, fz, rfl, hbb, hat⟩ := hr (by omega)
  have hAt : At cs (o + (i : Int).toNat * 4) (acC a) := at_trans hat (acts_at ha)
  have hlena := acC_len a
  have hak := (hkeys a (List.mem_of_getElem? ha)).1
  have hnext := ran_next ha
  obtain ⟨hnok, hnn⟩ := ran_ok (l.take (i + 1))
  have hnl : (l.take (i + 1)).length ≤ 400 := by simp; omega
  rw [hnext] at hnok hnn
  have hne := hnok.n
  (repeat (first | refine GK.run ?_ | (refine GK.box ?_; intro bl) | (refine GK.mkMap ?_; intro bm) | (refine GK.build0 tb ?_; intro bs)))
  refine GL.cons ?_; refine Gt.allocAny tb (by first | exact Wt.none | exact Wt.some rfl rfl (by first | exact rfl | decide +kernel)) (by exact rfl) (by exact rfl) ?_
  intro br lr hlr
  (repeat (first | refine GK.run ?_ | (refine GK.box ?_; intro bl) | (refine GK.mkMap ?_; intro bm) | (refine GK.build0 tb ?_; intro bs)))
  refine GL.cons ?_
  refine Gt.storeAny tb 0 (by first | exact Wt.none | exact Wt.some rfl rfl (by first | exact rfl | decide +kernel)) rfl rfl rfl (acC_len a) (acC_one a) rfl hlr ?_
  (repeat (first | refine GK.run ?_ | (refine GK.box ?_; intro bl) | (refine GK.mkMap ?_; intro bm) | (refine GK.build0 tb ?_; intro bs)))
  refine G.cut (fun x : Hp × Nat × Nat × Option Addr × Value × M => [(18, .slice (some ⟨bb, o, none⟩) l.length c), (19, .int .i64 (l.length : Int)), (20, .int .i64 (i : Int)), (3, nptr x.2.1), (4, .slice p1 (ran (l.take i)).ents.length c1), (5, nptr x.2.2.1), (6, x.2.2.2.2.1), (8, .int .i64 (i : Int)), (9, nptr br)]) (fun x => [poolOf x.1, ablk br a, mblk x.2.1 (.pointer q1) (ran (l.take i)).n, mblk x.2.2.1 (.pointer x.2.2.2.1) x.2.2.2.2.2.n])
    (fun x => le H1 x.1 ∧ x.2.2.2.2.2.Ok ∧ x.2.2.2.2.2.n ≤ 24000 ∧ RootAt x.1 x.2.2.2.2.2.root (.pointer x.2.2.2.1) ∧ Lst x.1 x.2.2.2.2.1 x.2.2.2.2.2.ents) (fun x hx => ?_) ?_
  rotate_left
  · refine G.cond rfl (fun h4 => ?_) (fun h4 => ?_)
    · (repeat (first | refine GK.run ?_ | (refine GK.box ?_; intro bl) | (refine GK.mkMap ?_; intro bm) | (refine GK.build0 tb ?_; intro bs)))
      refine GL.cons ?_; refine GO.call [3,1] (fun hF' hle hH => told_all hmS hr2 (by omega) nb) (by first | exact Wt.none | exact Wt.some rfl rfl (by first | exact rfl | decide +kernel)) (by kernel_rfl) rfl rfl rfl ?_
      rintro v Γ' ⟨H2, le2, rfl, hl3⟩
      (repeat (first | refine GK.run ?_ | (refine GK.box ?_; intro bl) | (refine GK.mkMap ?_; intro bm) | (refine GK.build0 tb ?_; intro bs)))
      refine GL.cons ?_; refine GO.call [1] (fun hF' hle hH => rsame_ok hl3 (hl2.mono le2) (by omega) (by omega)) (by first | exact Wt.none | exact Wt.some rfl rfl (by first | exact rfl | decide +kernel)) (by kernel_rfl) rfl rfl rfl ?_
      rintro v Γ' ⟨rfl, rfl⟩
      rw [beq_self_eq_true]
      (repeat (first | refine GK.run ?_ | (refine GK.box ?_; intro bl) | (refine GK.mkMap ?_; intro bm) | (refine GK.build0 tb ?_; intro bs)))
      refine GL.cons ?_; refine GO.call [3] (fun hF' hle hH => mclone_ok (m := ran (l.take i)) mb) (by first | exact Wt.none | exact Wt.some rfl rfl (by first | exact rfl | decide +kernel)) (by kernel_rfl) rfl rfl rfl ?_
      rintro v Γ' ⟨nb2, rfl, rfl⟩
      (repeat (first | refine GK.run ?_ | (refine GK.box ?_; intro bl) | (refine GK.mkMap ?_; intro bm) | (refine GK.build0 tb ?_; intro bs)))
      exact GQ.reach (H2, nb2, mb, q1, .slice p1 (ran (l.take i)).ents.length c1, ran (l.take i)) ⟨le2, hmok, by show (ran (l.take i)).n ≤ _; omega, hr1.mono le2, hl1.mono le2⟩ (by repeat (first | exact trivial | refine ⟨rfl, ?_⟩)) (fun w s => s.sel [2, 3, 0, 0] rfl)
    · (repeat (first | refine GK.run ?_ | (refine GK.box ?_; intro bl) | (refine GK.mkMap ?_; intro bm) | (refine GK.build0 tb ?_; intro bs)))
      exact GQ.reach (H1, mb, nb, q2, .slice p2 mS.ents.length c2, mS) ⟨le.refl _, hmS, hnS, hr2, hl2⟩ (by repeat (first | exact trivial | refine ⟨rfl, ?_⟩)) (fun w s => s.sel [1, 0, 0, 0] rfl)
  clear hl2 hr2 hlr2 hll2 hc2 hSe hnS hmS
  obtain ⟨H2, mA, mB, qB, lvB, mT⟩ := x
  obtain ⟨le2, hmT, hnT, hrT, hlT⟩ := hx
  replace le2 : le H1 H2 := le2
  replace hmT : mT.Ok := hmT
  replace hnT : mT.n ≤ 24000 := hnT
  replace hrT : RootAt H2 mT.root (.pointer qB) := hrT
  replace hlT : Lst H2 lvB mT.ents := hlT
  refine GK.weak (fr' := [(18, .slice (some ⟨bb, o, none⟩) l.length c), (19, .int .i64 (l.length : Int)), (20, .int .i64 (i : Int)), (3, nptr mA), (4, .slice p1 (ran (l.take i)).ents.length c1), (5, nptr mB), (6, lvB), (8, .int .i64 (i : Int)), (9, nptr br)]) (Γ' := [poolOf H2, ablk br a, mblk mA (.pointer q1) (ran (l.take i)).n, mblk mB (.pointer qB) mT.n]) (by repeat (first | exact trivial | refine ⟨rfl, ?_⟩)) (fun w s => s) ?_
  (repeat (first | refine GK.run ?_ | (refine GK.box ?_; intro bl) | (refine GK.mkMap ?_; intro bm) | (refine GK.build0 tb ?_; intro bs)))
  refine GL.cons ?_; refine GO.call [2,0] (fun hF' hle hH => play_ok hmok (hr1.mono le2) (hl1.mono le2) (by omega) mA a (by omega)) (by first | exact Wt.none | exact Wt.some rfl rfl (by first | exact rfl | decide +kernel)) (by kernel_rfl) rfl rfl rfl ?_
  rintro v Γ' ⟨H3, q3, lv3, le3, rfl, rfl, hr3, hl3⟩
  obtain ⟨m', hm'⟩ : ∃ m', actM (ran (l.take i)) a = m' := ⟨_, rfl⟩
  rw [hm'] at hnext hnok hnn hr3 hl3 hne ⊢
  obtain ⟨p3, c3, rfl, hc3, hll3, hlr3⟩ := rs.out hl3
  (repeat (first | refine GK.run ?_ | (refine GK.box ?_; intro bl) | (refine GK.mkMap ?_; intro bm) | (refine GK.build0 tb ?_; intro bs)))
  refine GL.cut (fun _ : Hp => [(64, .bool false), (18, .slice (some ⟨bb, o, none⟩) l.length c), (19, .int .i64 (l.length : Int)), (20, .int .i64 (i : Int)), (3, nptr mA), (4, .slice p3 m'.ents.length c3), (5, nptr mB), (6, lvB)]) (fun x => [poolOf x, mblk mA (.pointer q3) m'.n, mblk mB (.pointer qB) mT.n]) (fun x => le H3 x) (fun H4 le4 => ?_) ?_
  rotate_left
  · refine GL.cons ?_; refine GO.call [0] (fun hF' hle hH => mlen_ok (m := m') mA) (by first | exact Wt.none | exact Wt.some rfl rfl (by first | exact rfl | decide +kernel)) (by kernel_rfl) rfl rfl rfl ?_
    rintro v Γ' ⟨rfl, rfl⟩
    rw [← hne]
    (repeat (first | refine GK.run ?_ | (refine GK.box ?_; intro bl) | (refine GK.mkMap ?_; intro bm) | (refine GK.build0 tb ?_; intro bs)))
    rw [show decide ((m'.n : Int) = (m'.n : Int)) = true from decide_eq_true rfl]
    (repeat (first | refine GK.run ?_ | (refine GK.box ?_; intro bl) | (refine GK.mkMap ?_; intro bm) | (refine GK.build0 tb ?_; intro bs)))
    refine GK.split 57 _ rfl (fun h5 => ?_) (fun h5 => ?_)
    · (repeat (first | refine GK.run ?_ | (refine GK.box ?_; intro bl) | (refine GK.mkMap ?_; intro bm) | (refine GK.build0 tb ?_; intro bs)))
      refine GL.cons ?_; refine GO.call [0,0] (fun hF' hle hH => told_all hnok hr3 (by omega) mA) (by first | exact Wt.none | exact Wt.some rfl rfl (by first | exact rfl | decide +kernel)) (by kernel_rfl) rfl rfl rfl ?_
      rintro v Γ' ⟨H4, le4, rfl, hl4⟩
      (repeat (first | refine GK.run ?_ | (refine GK.box ?_; intro bl) | (refine GK.mkMap ?_; intro bm) | (refine GK.build0 tb ?_; intro bs)))
      rw [hne]
      refine GL.cons ?_; refine GO.call [1] (fun hF' hle hH => rsame_ok hl4 (hl3.mono le4) (by omega) (by omega)) (by first | exact Wt.none | exact Wt.some rfl rfl (by first | exact rfl | decide +kernel)) (by kernel_rfl) rfl rfl rfl ?_
      rintro v Γ' ⟨rfl, rfl⟩
      rw [beq_self_eq_true]
      (repeat (first | refine GK.run ?_ | (refine GK.box ?_; intro bl) | (refine GK.mkMap ?_; intro bm) | (refine GK.build0 tb ?_; intro bs)))
      exact GQ.reach H4 le4 (by repeat (first | exact trivial | refine ⟨rfl, ?_⟩)) (fun w s => s.sel [0, 0, 1] rfl)
    · (repeat (first | refine GK.run ?_ | (refine GK.box ?_; intro bl) | (refine GK.mkMap ?_; intro bm) | (refine GK.build0 tb ?_; intro bs)))
      exact GQ.reach H3 (le.refl _) (by repeat (first | exact trivial | refine ⟨rfl, ?_⟩)) (fun w s => s.sel [1, 0, 1] rfl)
  (repeat (first | refine GK.run ?_ | (refine GK.box ?_; intro bl) | (refine GK.mkMap ?_; intro bm) | (refine GK.build0 tb ?_; intro bs)))
  refine GQ.again (i + 1, H4, (mA, q3, .slice p3 m'.ents.length c3), (mB, qB, lvB), mT) ⟨by show i + 1 ≤ _; omega, ?_, ?_, hmT, hnT, hrT.mono (le3.trans le4), hlT.mono (le3.trans le4)⟩ (by show l.length - (i + 1) < l.length - i; omega) (by repeat (first | exact trivial | refine ⟨rfl, ?_⟩)) (fun w s => ?_)
  · show RootAt H4 (ran (l.take (i + 1))).root (.pointer q3)
    rw [hnext]; exact hr3.mono le4
  · show Lst H4 (.slice p3 m'.ents.length c3) (ran (l.take (i + 1))).ents
    rw [hnext]; exact hl3.mono le4
  · show Sat [poolOf H4, mblk mA (.pointer q3) (ran (l.take (i + 1))).n, mblk mB (.pointer qB) mT.n] _ _
    rw [hnext]; exact s
end Go.Tr
