/- DiskSure, walked. -/
import Derived.Test.YtpbkbmdpmfclpaaDkY
namespace Go.Dk
open Go Go.Sl
theorem rx_lt (n : Int) : 0 ≤ (IntKind.u64.wrap n).tmod 4 ∧ (IntKind.u64.wrap n).tmod 4 < 4 ∧ (IntKind.u64.wrap n).tmod 4 = ix4 n := by
  have h : IntKind.u64.wrap n = n % 18446744073709551616 := by
    simp [IntKind.wrap, IntKind.bits, IntKind.signed]
  have h1 : 0 ≤ IntKind.u64.wrap n := by rw [h]; omega
  have h2 : (IntKind.u64.wrap n).tmod 4 = (IntKind.u64.wrap n) % 4 := Int.tmod_eq_emod_of_nonneg h1
  refine ⟨by rw [h2]; omega, by rw [h2]; omega, ?_⟩
  unfold ix4
  rw [IntWalk.i64_in _ (by rw [h2]; omega)]
theorem bools_at {cs : List Value} {o : Nat} {l : List Bool} (h : At cs o (bools l)) {i : Nat} {k : Bool} (hk : l[i]? = some k) : cs[o + i * 1]? = some (.bool k) := by
  rw [Nat.mul_one]; exact h i _ (by simp [bools, hk])
theorem ks_zero (keep : List Bool) : ks keep 0 = [] := rfl
theorem ks_t {keep : List Bool} {i : Nat} (h : keep[i]? = some true) : ks keep (i + 1) = ks keep i ++ [(i : Int)] := by simp [ks, h]
theorem ks_f {keep : List Bool} {i : Nat} (h : keep[i]? ≠ some true) : ks keep (i + 1) = ks keep i := by simp [ks, h]
attribute [local irreducible] GK GO Yl Wt Ef Hd GH KH wpList Code.wp Sat pt FnOk Rd bodyPost Ret Exit.then Exit.inBlock Exit.noGoto exs Int.decLt Int.decLe Int.instDecidableEq
attribute [local irreducible] rep whole ix4 DM.write DM.flush DM.arm DM.fresh DM.restart DM.read settles dS wrs tch ks
variable {hF : Hp}
set_option maxHeartbeats 8000000 in
theorem sure_law (v : Value) (l : List ActM) (hv : roActs hF v l) (v2 : Value) (more : List ActM) (hv2 : roActs hF v2 more) (kv : Value) (keep : List Bool) (hk : ro hF kv keep.length (bools keep)) :
    FnOk Go.Proofs.Try.prog 3 [v, v2, kv] [] hF (fun v _ => v = .bool true) := by
  refine FnOk.intro 122 Go.Proofs.Try.func3 rfl rfl fun w0 => ?_
  obtain ⟨els, hel, ⟨vp, vc, rfl, hvo⟩, hll, h5, hacts⟩ := hv2
  obtain ⟨kp, kc, rfl, hko⟩ := hk
  (repeat (first | refine GK.run ?_ | (refine GK.box ?_; intro bl) | (refine GK.mkMap ?_; intro bm) | (refine GK.build0 tb ?_; intro bs)))
  refine GL.cons ?_; refine GO.call [] (fun hF' hle hH => written_ok v l (hv.mono hle)) (by first | exact Wt.none | exact Wt.some rfl rfl (by first | exact rfl | decide +kernel)) (by kernel_rfl) rfl rfl rfl ?_
  rintro v' Γ' ⟨d, rfl, rfl⟩
  have hg := acts_grow (l.take 60) (DM.fresh 4)
  rw [(fresh_opn 4).1, (fresh_opn 4).2.1, (fresh_opn 4).2.2, List.length_take, List.length_nil] at hg
  obtain ⟨D, hD⟩ : ∃ D, writtenM l = D := ⟨_, rfl⟩
  have hs : D.sure.length = 4 := by rw [← hD]; exact hg.2.2
  have ho : D.opn ≤ 60 := by rw [← hD]; have := hg.1; unfold writtenM; omega
  clear hg
  rw [hD]
  (repeat (first | refine GK.run ?_ | (refine GK.box ?_; intro bl) | (refine GK.mkMap ?_; intro bm) | (refine GK.build0 tb ?_; intro bs)))
  refine GL.cons ?_; refine GO.call [0] (fun hF' hle hH => restart_ok _ [] ⟨none, 0, rfl, fun h => absurd h (by simp)⟩ (by simp)) (by first | exact Wt.none | exact Wt.some rfl rfl (by first | exact rfl | decide +kernel)) (by kernel_rfl) rfl rfl rfl ?_
  rintro v' Γ' ⟨rfl, rfl⟩
  (repeat (first | refine GK.run ?_ | (refine GK.box ?_; intro bl) | (refine GK.mkMap ?_; intro bm) | (refine GK.build0 tb ?_; intro bs)))
  refine GL.cons ?_; refine GO.call [0] (fun hF' hle hH => flush_ok (by rw [restart_none]; simp only []; omega)) (by first | exact Wt.none | exact Wt.some rfl rfl (by first | exact rfl | decide +kernel)) (by kernel_rfl) rfl rfl rfl ?_
  rintro v' Γ' ⟨rfl, rfl⟩
  rw [restart_flush]
  obtain ⟨S, hS⟩ : ∃ S, D.sure = S := ⟨_, rfl⟩
  obtain ⟨o, hoo⟩ : ∃ o, D.opn + 1 = o := ⟨_, rfl⟩
  rw [hS, hoo]
  rw [hS] at hs
  have ho : o ≤ 61 := by omega
  (repeat (first | refine GK.run ?_ | (refine GK.box ?_; intro bl) | (refine GK.mkMap ?_; intro bm) | (refine GK.build0 tb ?_; intro bs)))
  refine GL.cons ?_; refine GO.call [0] (fun hF' hle hH => sure_ok) (by first | exact Wt.none | exact Wt.some rfl rfl (by first | exact rfl | decide +kernel)) (by kernel_rfl) rfl rfl rfl ?_
  rintro v' Γ' ⟨pw, kw, rfl, rfl⟩
  rw [show (dS S o []).sure = S from by unfold dS; rfl, hs]
  (repeat (first | refine GK.run ?_ | (refine GK.box ?_; intro bl) | (refine GK.mkMap ?_; intro bm) | (refine GK.build0 tb ?_; intro bs)))
  refine GL.cons ?_
  refine GO.yield .none (Yl.buildArr (parts := []) (sz := 1) (zl := [.bool false, .bool false, .bool false, .bool false]) rfl rfl rfl rfl rfl) ?_
  refine GL.cons ?_; refine Gt.allocAny tb (by first | exact Wt.none | exact Wt.some rfl rfl (by first | exact rfl | decide +kernel)) (by exact rfl) (by exact rfl) ?_
  intro bt lt hlt
  refine GL.cons ?_
  refine Gt.storeAny tb 0 .none rfl rfl rfl rfl (one_of_all rfl) rfl hlt ?_
  (repeat (first | refine GK.run ?_ | (refine GK.box ?_; intro bl) | (refine GK.mkMap ?_; intro bm) | (refine GK.build0 tb ?_; intro bs)))
  have hwl := wrs_len more
  refine GK.weak (by repeat (first | exact trivial | refine ⟨rfl, ?_⟩)) (fun w s => ?_) (G.loop (fun i : Nat => more.length - i)
    (fun i => [(2, .slice kp keep.length kc), (7, dptr d), (8, .slice pw 4 kw), (9, .pointer (some ⟨bt, 0, none⟩)), (31, .slice vp more.length vc), (32, .int .i64 more.length), (33, .int .i64 i)])
    (fun i => [blk bt 31 (0, 0) (tch ((wrs more).take i)), dk d (dS S o ((wrs more).take i)), rows (.slice pw 4 kw) 4 S])
    (fun i => i ≤ more.length) (fun i hi => ?_) 0 (Nat.zero_le _))
  · have e : tch ((wrs more).take 0) = [.bool false, .bool false, .bool false, .bool false] := by unfold tch; rfl
    show Sat [blk bt _ (0, 0) (tch ((wrs more).take 0)), dk d (dS S o ((wrs more).take 0)), _] _ _
    rw [e, List.take_zero]
    exact s.sel [0, 1, 0] rfl
  (repeat (first | refine GK.run ?_ | (refine GK.box ?_; intro bl) | (refine GK.mkMap ?_; intro bm) | (refine GK.build0 tb ?_; intro bs)))
  refine G.cond rfl (fun h => ?_) (fun h => ?_)
  · have h : i < more.length := by simpa using h
    obtain ⟨a, ha⟩ : ∃ a, more[i]? = some a := ⟨_, List.getElem?_eq_getElem h⟩
    obtain ⟨row, hrow, bv, kv, rfl, hbv, hkv, haok⟩ := hacts i a ha
    obtain ⟨vb, vo, cs, ve, vfz, rfl, hcs, hat⟩ := hvo (by omega)
    have hat := At.ofFlatten h5 hat hrow
    have hl5 : [Value.int .i64 a.kind, .int .i64 a.n, bv, .bool a.short, kv].length = 5 := rfl
    have hb1 : bv.oneCell' = true := by obtain ⟨_, _, rfl, _⟩ := hbv; rfl
    have hk1 : kv.oneCell' = true := by obtain ⟨_, _, rfl, _⟩ := hkv; rfl
    (repeat (first | refine GK.run ?_ | (refine GK.box ?_; intro bl) | (refine GK.mkMap ?_; intro bm) | (refine GK.build0 tb ?_; intro bs)))
    refine GL.cons ?_; refine Gt.allocAny tb (by first | exact Wt.none | exact Wt.some rfl rfl (by first | exact rfl | decide +kernel)) (by exact rfl) (by exact rfl) ?_
    intro b1 l1 hl1
    (repeat (first | refine GK.run ?_ | (refine GK.box ?_; intro bl) | (refine GK.mkMap ?_; intro bm) | (refine GK.build0 tb ?_; intro bs)))
    refine GL.cons ?_
    refine Gt.storeAny tb 0 .none rfl rfl rfl rfl (cons_one rfl (cons_one rfl (cons_one hb1 (cons_one rfl (cons_one hk1 (by simp)))))) rfl hl1 ?_
    (repeat (first | refine GK.run ?_ | (refine GK.box ?_; intro bl) | (refine GK.mkMap ?_; intro bm) | (refine GK.build0 tb ?_; intro bs)))
    have hrx := rx_lt a.n
    refine G.draw [] [blk b1 35 (0, 0) [.int .i64 a.kind, .int .i64 a.n, bv, .bool a.short, kv]] (by kernel_rfl) ?_
    ((first | refine GH.tk 0 [0] ?_ | refine GH.tks 0 [0] ?_); (first | refine GH.tk 1 [0] ?_ | refine GH.tks 1 [0] ?_); (first | refine GH.tk 2 [0] ?_ | refine GH.tks 2 [0] ?_))
    obtain hb | hb : decide ((i : Int) < 20) = true ∨ decide ((i : Int) < 20) = false := by cases decide ((i : Int) < 20) <;> simp
    · rw [hb]
      have hi20 : i < 20 := by simp at hb; omega
      ((first | refine GH.tk 3 [0] ?_ | refine GH.tks 3 [0] ?_); (first | refine GH.tk 4 [0] ?_ | refine GH.tks 4 [0] ?_); (first | refine GH.tk 5 [0] ?_ | refine GH.tks 5 [0] ?_); (first | refine GH.tk 6 [0] ?_ | refine GH.tks 6 [0] ?_); (first | refine GH.tk 7 [0] ?_ | refine GH.tks 7 [0] ?_); (first | refine GH.tk 8 [0] ?_ | refine GH.tks 8 [0] ?_); (first | refine GH.tk 9 [0] ?_ | refine GH.tks 9 [0] ?_); (first | refine GH.tk 10 [0] ?_ | refine GH.tks 10 [0] ?_))
      rw [ix4_def]
      refine GH.step 11 rfl (by kernel_rfl) ?_
      refine GO.call [] (fun hF' hle _ => whole_ok _ _ (hbv.mono hle) haok.bytes) (by first | exact Wt.none | exact Wt.some rfl rfl (by first | exact rfl | decide +kernel)) (by kernel_rfl) rfl rfl rfl ?_
      rintro v' Γ' ⟨rfl, rfl⟩
      refine GH.keep (fun _ s => s.sel [0] rfl) ?_
      refine GH.step 12 rfl (by kernel_rfl) ?_
      refine GO.strBytes (by first | exact Wt.none | exact Wt.some rfl rfl (by first | exact rfl | decide +kernel)) rfl rfl rfl rfl ?_
      intro p c
      refine GH.keep (fun _ s => s.sel [1] rfl) ?_
      refine GH.step 13 rfl (by kernel_rfl) ?_
      refine GO.call [3] (fun hF' _ hH => write_ok (ix4 a.n) _ (whole a.bytes) (hH.ro 0 rfl) (by unfold dS; simp only [List.length_take]; omega) (by unfold dS; simp only [List.length_take]; omega) (by rw [whole_length]; omega)) (by first | exact Wt.none | exact Wt.some rfl rfl (by first | exact rfl | decide +kernel)) (by kernel_rfl) rfl rfl rfl ?_
      rintro v' Γ' ⟨rfl, rfl⟩
      have hwr := dS_write (o := o) (ws := (wrs more).take i) hs (ix4_lt a.n) (whole_length a.bytes)
      rw [show ((dS S o ((wrs more).take i)).write (ix4 a.n) (whole a.bytes)).1 = 0 from by rw [hwr], show ((dS S o ((wrs more).take i)).write (ix4 a.n) (whole a.bytes)).2 = dS S o ((wrs more).take (i + 1)) from by rw [hwr, wrs_lt ha hi20]]
      refine GH.keep (fun _ s => s.sel [2] rfl) ?_
      ((first | refine GH.tk 14 [2] ?_ | refine GH.tks 14 [2] ?_); (first | refine GH.tk 15 [2] ?_ | refine GH.tks 15 [2] ?_))
      refine GH.fin (by kernel_rfl) ?_
      (repeat (first | refine GK.run ?_ | (refine GK.box ?_; intro bl) | (refine GK.mkMap ?_; intro bm) | (refine GK.build0 tb ?_; intro bs)))
      refine GL.cons ?_
      refine Gt.storeAt tb 3 .none rfl rfl rfl rfl rfl (by rw [tch_length]; show 0 + _ * 1 < 4; omega) rfl ?_
      (repeat (first | refine GK.run ?_ | (refine GK.box ?_; intro bl) | (refine GK.mkMap ?_; intro bm) | (refine GK.build0 tb ?_; intro bs)))
      refine GQ.again (i + 1) h (by omega) (by repeat (first | exact trivial | refine ⟨rfl, ?_⟩)) (fun w s => ?_)
      have e : tch ((wrs more).take (i + 1)) = (tch ((wrs more).take i)).set (0 + ((IntKind.u64.wrap a.n).tmod 4).toNat * 1) (.bool true) := by
        rw [wrs_lt ha hi20, tch_snoc _ _ (by show (ix4 a.n).toNat < 4; have := ix4_lt a.n; omega), hrx.2.2, Nat.zero_add, Nat.mul_one]
      show Sat [blk bt _ (0, 0) (tch ((wrs more).take (i + 1))), _, _] _ _
      rw [e]
      exact s.sel [3, 0, 2] rfl
    · rw [hb]
      have hi20 : 20 ≤ i := by simp at hb; omega
      ((first | refine GH.tk 3 [0] ?_ | refine GH.tks 3 [0] ?_); (first | refine GH.tk 4 [0] ?_ | refine GH.tks 4 [0] ?_); (first | refine GH.tk 5 [0] ?_ | refine GH.tks 5 [0] ?_); (first | refine GH.tk 6 [0] ?_ | refine GH.tks 6 [0] ?_); (first | refine GH.tk 7 [0] ?_ | refine GH.tks 7 [0] ?_); (first | refine GH.tk 8 [0] ?_ | refine GH.tks 8 [0] ?_); (first | refine GH.tk 9 [0] ?_ | refine GH.tks 9 [0] ?_); (first | refine GH.tk 10 [0] ?_ | refine GH.tks 10 [0] ?_); (first | refine GH.tk 11 [0] ?_ | refine GH.tks 11 [0] ?_); (first | refine GH.tk 12 [0] ?_ | refine GH.tks 12 [0] ?_); (first | refine GH.tk 13 [0] ?_ | refine GH.tks 13 [0] ?_); (first | refine GH.tk 14 [0] ?_ | refine GH.tks 14 [0] ?_); (first | refine GH.tk 15 [0] ?_ | refine GH.tks 15 [0] ?_))
      refine GH.fin (by kernel_rfl) ?_
      (repeat (first | refine GK.run ?_ | (refine GK.box ?_; intro bl) | (refine GK.mkMap ?_; intro bm) | (refine GK.build0 tb ?_; intro bs)))
      refine GQ.again (i + 1) h (by omega) (by repeat (first | exact trivial | refine ⟨rfl, ?_⟩)) (fun w s => ?_)
      show Sat [blk bt _ (0, 0) (tch ((wrs more).take (i + 1))), dk d (dS S o ((wrs more).take (i + 1))), _] _ _
      rw [wrs_ge hi20]
      exact s.sel [1, 1, 1] rfl
  · have h : i = more.length := by simp at h; omega
    subst h
    have hta : (wrs more).take more.length = wrs more := List.take_of_length_le (by unfold wrs; simp; omega)
    rw [hta]
    obtain ⟨ws, hws⟩ : ∃ ws, wrs more = ws := ⟨_, rfl⟩
    have hwm : ∀ w ∈ ws, w.1 < 4 ∧ w.2.length = 256 := by rw [← hws]; exact fun w hw => wrs_mem hw
    rw [hws] at hwl ⊢
    (repeat (first | refine GK.run ?_ | (refine GK.box ?_; intro bl) | (refine GK.mkMap ?_; intro bm) | (refine GK.build0 tb ?_; intro bs)))
    refine GL.cons ?_; refine GO.call [1] (fun hF' hle hH => pending_ok) (by first | exact Wt.none | exact Wt.some rfl rfl (by first | exact rfl | decide +kernel)) (by kernel_rfl) rfl rfl rfl ?_
    rintro v' Γ' ⟨pp, cp, rfl, rfl⟩
    rw [show (dS S o ws).pend = ws from by unfold dS; rfl]
    (repeat (first | refine GK.run ?_ | (refine GK.box ?_; intro bl) | (refine GK.mkMap ?_; intro bm) | (refine GK.build0 tb ?_; intro bs)))
    refine GK.weak (by simp only [ks_zero]; exact (by repeat (first | exact trivial | refine ⟨rfl, ?_⟩))) (fun w s => ?_) (G.loop (fun x : Nat × Option Addr × Nat => ws.length - x.1)
      (fun x => [(2, .slice kp keep.length kc), (7, dptr d), (8, .slice pw 4 kw), (9, .pointer (some ⟨bt, 0, none⟩)), (12, .slice x.2.1 (ks keep x.1).length x.2.2), (62, .int .i64 ws.length), (63, .int .i64 x.1)])
      (fun x => [row (.slice x.2.1 (ks keep x.1).length x.2.2) 3 1 (ks keep x.1).length (i64s (ks keep x.1)), dk d (dS S o ws), blk bt 31 (0, 0) (tch ws), rows (.slice pw 4 kw) 4 S])
      (fun x => x.1 ≤ ws.length) (fun x hi => ?_) (0, none, 0) (Nat.zero_le _))
    · have e : ks keep 0 = [] := ks_zero keep
      show Sat [row (.slice none (ks keep 0).length 0) _ 1 (ks keep 0).length (i64s (ks keep 0)), _, _, _] _ _
      rw [e]
      exact (s.sel [1, 1, 1] rfl).row_nil
    obtain ⟨i, lp, lc⟩ := x
    replace hi : i ≤ ws.length := hi
    have hkl := ks_len keep i
    have hkl2 : (ks keep (i, lp, lc).fst).length ≤ i := hkl
    (repeat (first | refine GK.run ?_ | (refine GK.box ?_; intro bl) | (refine GK.mkMap ?_; intro bm) | (refine GK.build0 tb ?_; intro bs)))
    refine G.cond rfl (fun h1 => ?_) (fun h1 => ?_)
    · have h1 : i < ws.length := by simpa using h1
      (repeat (first | refine GK.run ?_ | (refine GK.box ?_; intro bl) | (refine GK.mkMap ?_; intro bm) | (refine GK.build0 tb ?_; intro bs)))
      refine GK.split 70 _ rfl (fun h3 => ?_) (fun h3 => ?_)
      · have h3 : i < keep.length := by simpa using h3
        obtain ⟨b, hb⟩ : ∃ b, keep[i]? = some b := ⟨_, List.getElem?_eq_getElem h3⟩
        obtain ⟨kb, ko, cs, e, kfz, rfl, hkb, hka⟩ := hko (by omega)
        have hka := bools_at hka hb
        (repeat (first | refine GK.run ?_ | (refine GK.box ?_; intro bl) | (refine GK.mkMap ?_; intro bm) | (refine GK.build0 tb ?_; intro bs)))
        refine G.cond rfl (fun h4 => ?_) (fun h4 => ?_)
        · have h4 : b = true := by simpa using h4
          subst h4
          (repeat (first | refine GK.run ?_ | (refine GK.box ?_; intro bl) | (refine GK.mkMap ?_; intro bm) | (refine GK.build0 tb ?_; intro bs)))
          refine GL.cons ?_; refine Gt.buildLit tb (sz := 0) (n := 0) (by first | exact Wt.none | exact Wt.some rfl rfl (by first | exact rfl | decide +kernel)) rfl rfl (by kernel_rfl) rfl rfl rfl rfl rfl rfl ?_
          intro bx
          (repeat (first | refine GK.run ?_ | (refine GK.box ?_; intro bl) | (refine GK.mkMap ?_; intro bm) | (refine GK.build0 tb ?_; intro bs)))
          refine GL.cons ?_; refine Gt.append tb 1 (by first | exact Wt.none | exact Wt.some rfl rfl (by first | exact rfl | decide +kernel)) rfl (.inl ⟨_, rfl⟩) rfl rfl rfl rfl rfl (Src.slice (m := 1) (Rd.blk 0 rfl) (At.all _) rfl (one_of_all rfl)) (by omega) (by omega) ?_
          intro p2 c2
          (repeat (first | refine GK.run ?_ | (refine GK.box ?_; intro bl) | (refine GK.mkMap ?_; intro bm) | (refine GK.build0 tb ?_; intro bs)))
          refine GQ.again (i + 1, p2, c2) h1 (by show ws.length - (i + 1) < ws.length - i; omega) ?_ (fun w s => ?_)
          · rw [ks_t hb, List.length_append]; exact (by repeat (first | exact trivial | refine ⟨rfl, ?_⟩))
          · show Sat [row (.slice p2 (ks keep (i + 1)).length c2) _ 1 (ks keep (i + 1)).length (i64s (ks keep (i + 1))), _, _, _] _ _
            rw [ks_t hb, List.length_append, show i64s (ks keep i ++ [(i : Int)]) = i64s (ks keep i) ++ [.int .i64 i] from by simp [i64s]]
            exact s.sel [0, 1, 1, 1] rfl
        · have h4 : b = false := by simpa using h4
          subst h4
          (repeat (first | refine GK.run ?_ | (refine GK.box ?_; intro bl) | (refine GK.mkMap ?_; intro bm) | (refine GK.build0 tb ?_; intro bs)))
          refine GQ.again (i + 1, lp, lc) h1 (by show ws.length - (i + 1) < ws.length - i; omega) ?_ (fun w s => ?_)
          · rw [ks_f (by rw [hb]; simp)]; exact (by repeat (first | exact trivial | refine ⟨rfl, ?_⟩))
          · show Sat [row (.slice lp (ks keep (i + 1)).length lc) _ 1 (ks keep (i + 1)).length (i64s (ks keep (i + 1))), _, _, _] _ _
            rw [ks_f (by rw [hb]; simp)]
            exact s.sel [0, 0, 0, 0] rfl
      · have h3 : ¬ i < keep.length := by simp at h3; omega
        have hb : keep[i]? ≠ some true := by rw [List.getElem?_eq_none (by omega)]; simp
        (repeat (first | refine GK.run ?_ | (refine GK.box ?_; intro bl) | (refine GK.mkMap ?_; intro bm) | (refine GK.build0 tb ?_; intro bs)))
        refine GQ.again (i + 1, lp, lc) h1 (by show ws.length - (i + 1) < ws.length - i; omega) ?_ (fun w s => ?_)
        · rw [ks_f hb]; exact (by repeat (first | exact trivial | refine ⟨rfl, ?_⟩))
        · show Sat [row (.slice lp (ks keep (i + 1)).length lc) _ 1 (ks keep (i + 1)).length (i64s (ks keep (i + 1))), _, _, _] _ _
          rw [ks_f hb]
          exact s.sel [0, 0, 0, 0] rfl
    · have h1 : i = ws.length := by simp at h1; omega
      subst h1
      obtain ⟨S', hS'⟩ : ∃ S', settles S (kept (ks keep ws.length) ws) = S' := ⟨_, rfl⟩
      have hS'4 : S'.length = 4 := by rw [← hS', settles_length]; exact hs
      obtain ⟨R5, hR, hRp, hRr⟩ : ∃ R5, (dS S o ws).restart (ks keep ws.length) = (0, R5) ∧ R5.pend = [] ∧ ∀ (j : Nat) (s : List UInt8), S'[j]? = some s → R5.read j = (s, 0) := by
        refine ⟨_, restart_ks (ks_lt keep _), rfl, fun j s h => ?_⟩
        rw [hS']
        exact read_sure h
      (repeat (first | refine GK.run ?_ | (refine GK.box ?_; intro bl) | (refine GK.mkMap ?_; intro bm) | (refine GK.build0 tb ?_; intro bs)))
      refine GL.cons ?_; refine GO.call [1] (fun hF' hle hH => restart_ok _ (ks keep ws.length) (hH.ro 0 rfl) (by omega)) (by first | exact Wt.none | exact Wt.some rfl rfl (by first | exact rfl | decide +kernel)) (by kernel_rfl) rfl rfl rfl ?_
      rintro v' Γ' ⟨rfl, rfl⟩
      rw [show ((dS S o ws).restart (ks keep ws.length)).1 = 0 from by rw [hR], show ((dS S o ws).restart (ks keep ws.length)).2 = R5 from by rw [hR]]
      (repeat (first | refine GK.run ?_ | (refine GK.box ?_; intro bl) | (refine GK.mkMap ?_; intro bm) | (refine GK.build0 tb ?_; intro bs)))
      refine GK.sel [0, 1, 1] rfl ?_
      refine GK.opens 2 rfl fun vw hvw => ?_
      refine GK.openRow 0 rfl (by omega) fun bw tw fw hpw hcw htw hxw hfw => ?_
      subst hpw
      refine GK.pure (fun w s => star_shape (i := 1) rfl s) fun shw => ?_
      refine GK.weak (by repeat (first | exact trivial | refine ⟨rfl, ?_⟩)) (fun w s => s.sel [0, 0, 0, 0] rfl) (G.loop (fun j : Nat => 4 - j)
        (fun j => [(7, dptr d), (8, .slice (some ⟨bw, 0, none⟩) 4 kw), (9, .pointer (some ⟨bt, 0, none⟩)), (86, .int .i64 4), (87, .int .i64 j)])
        (fun _ => [blk bw 32 fw (vw ++ tw), brows vw S, dk d R5, blk bt 31 (0, 0) (tch ws)])
        (fun j => j ≤ 4) (fun j hj => ?_) 0 (Nat.zero_le _))
      (repeat (first | refine GK.run ?_ | (refine GK.box ?_; intro bl) | (refine GK.mkMap ?_; intro bm) | (refine GK.build0 tb ?_; intro bs)))
      refine G.cond rfl (fun h2 => ?_) (fun h2 => ?_)
      · have h2 : j < 4 := by simp at h2; omega
        obtain ⟨s0, hs0⟩ : ∃ s0, S[j]? = some s0 := ⟨_, List.getElem?_eq_getElem (by omega)⟩
        obtain ⟨s1, hs1⟩ : ∃ s1, S'[j]? = some s1 := ⟨_, List.getElem?_eq_getElem (by omega)⟩
        obtain ⟨pv, cv, hw⟩ := shw j _ s0 (List.getElem?_eq_getElem (by omega)) hs0
        have gw : vw[j]? = some (.slice pv s0.length cv) := by rw [← hw]; exact List.getElem?_eq_getElem (by omega)
        have ej : 0 + ((j : Nat) : Int).toNat * 1 = j := by show 0 + j * 1 = j; omega
        have lw : (vw ++ tw)[0 + ((j : Nat) : Int).toNat * 1]? = some (.slice pv s0.length cv) := by rw [ej, List.getElem?_append_left (by omega)]; exact gw
        obtain ⟨tq, htq⟩ : ∃ tq, (ws.any fun w => w.1 == j) = tq := ⟨_, rfl⟩
        have lt' : (tch ws)[0 + ((j : Nat) : Int).toNat * 1]? = some (.bool tq) := by rw [ej, tch_get _ h2, htq]
        (repeat (first | refine GK.run ?_ | (refine GK.box ?_; intro bl) | (refine GK.mkMap ?_; intro bm) | (refine GK.build0 tb ?_; intro bs)))
        refine GL.cons ?_; refine GO.call [2] (fun hF' hle hH => read_ok j) (by first | exact Wt.none | exact Wt.some rfl rfl (by first | exact rfl | decide +kernel)) (by kernel_rfl) rfl rfl rfl ?_
        rintro v' Γ' ⟨p1, c1, rfl, rfl⟩
        rw [show (R5.read j).1 = s1 from by rw [hRr j s1 hs1], show (R5.read j).2 = 0 from by rw [hRr j s1 hs1]]
        (repeat (first | refine GK.run ?_ | (refine GK.box ?_; intro bl) | (refine GK.mkMap ?_; intro bm) | (refine GK.build0 tb ?_; intro bs)))
        refine G.draw [] [brow (.slice p1 s1.length c1) s1, dk d R5, blk bw 32 fw (vw ++ tw), brows vw S, blk bt 31 (0, 0) (tch ws)] (by kernel_rfl) ?_
        ((first | refine GH.tk 0 [0,0,0,0,0] ?_ | refine GH.tks 0 [0,0,0,0,0] ?_); (first | refine GH.tk 1 [0,0,0,0,0] ?_ | refine GH.tks 1 [0,0,0,0,0] ?_); (first | refine GH.tk 2 [0,0,0,0,0] ?_ | refine GH.tks 2 [0,0,0,0,0] ?_); (first | refine GH.tk 3 [0,0,0,0,0] ?_ | refine GH.tks 3 [0,0,0,0,0] ?_); (first | refine GH.tk 4 [0,0,0,0,0] ?_ | refine GH.tks 4 [0,0,0,0,0] ?_); (first | refine GH.tk 5 [0,0,0,0,0] ?_ | refine GH.tks 5 [0,0,0,0,0] ?_); (first | refine GH.tk 6 [0,0,0,0,0] ?_ | refine GH.tks 6 [0,0,0,0,0] ?_); (first | refine GH.tk 7 [0,0,0,0,0] ?_ | refine GH.tks 7 [0,0,0,0,0] ?_))
        cases tq with
        | true =>
          ((first | refine GH.tk 8 [0,0,0,0,0] ?_ | refine GH.tks 8 [0,0,0,0,0] ?_); (first | refine GH.tk 9 [0,0,0,0,0] ?_ | refine GH.tks 9 [0,0,0,0,0] ?_); (first | refine GH.tk 10 [0,0,0,0,0] ?_ | refine GH.tks 10 [0,0,0,0,0] ?_); (first | refine GH.tk 11 [0,0,0,0,0] ?_ | refine GH.tks 11 [0,0,0,0,0] ?_); (first | refine GH.tk 12 [0,0,0,0,0] ?_ | refine GH.tks 12 [0,0,0,0,0] ?_); (first | refine GH.tk 13 [0,0,0,0,0] ?_ | refine GH.tks 13 [0,0,0,0,0] ?_); (first | refine GH.tk 14 [0,0,0,0,0] ?_ | refine GH.tks 14 [0,0,0,0,0] ?_); (first | refine GH.tk 15 [0,0,0,0,0] ?_ | refine GH.tks 15 [0,0,0,0,0] ?_); (first | refine GH.tk 16 [0,0,0,0,0] ?_ | refine GH.tks 16 [0,0,0,0,0] ?_); (first | refine GH.tk 17 [0,0,0,0,0] ?_ | refine GH.tks 17 [0,0,0,0,0] ?_))
          refine GH.fin (by kernel_rfl) ?_
          (repeat (first | refine GK.run ?_ | (refine GK.box ?_; intro bl) | (refine GK.mkMap ?_; intro bm) | (refine GK.build0 tb ?_; intro bs)))
          exact GQ.again (j + 1) h2 (by omega) (by repeat (first | exact trivial | refine ⟨rfl, ?_⟩)) (fun w s => s.sel [2, 2, 1, 1] rfl)
        | false =>
          have : s1 = s0 := by
            have := settles_untouched (S := S) (any_kept (l := ks keep ws.length) htq)
            rw [hS', hs1, hs0] at this
            exact Option.some.inj this
          subst this
          ((first | refine GH.tk 8 [0,0,0,0,0] ?_ | refine GH.tks 8 [0,0,0,0,0] ?_))
          refine GH.take 9 rfl (by kernel_rfl) (by first | exact Wt.none | exact Wt.some rfl rfl (by first | exact rfl | decide +kernel)) (fun _ s => s.sel [0,0,0,0,0] rfl) (Yl.rowStr (s := s1) 0 rfl rfl rfl rfl rfl) ?_
          ((first | refine GH.tk 10 [0,0,0,0,0] ?_ | refine GH.tks 10 [0,0,0,0,0] ?_); (first | refine GH.tk 11 [0,0,0,0,0] ?_ | refine GH.tks 11 [0,0,0,0,0] ?_); (first | refine GH.tk 12 [0,0,0,0,0] ?_ | refine GH.tks 12 [0,0,0,0,0] ?_); (first | refine GH.tk 13 [0,0,0,0,0] ?_ | refine GH.tks 13 [0,0,0,0,0] ?_))
          refine GH.take 14 rfl (by kernel_rfl) (by first | exact Wt.none | exact Wt.some rfl rfl (by first | exact rfl | decide +kernel)) (fun _ s => s.sel [0,0,0,0,0] rfl) (Yl.starStr 3 j rfl rfl rfl rfl rfl gw hs0 rfl) ?_
          ((first | refine GH.tk 15 [0,0,0,0,0] ?_ | refine GH.tks 15 [0,0,0,0,0] ?_))
          rw [show (s1 == s1) = true from beq_self_eq_true s1]
          ((first | refine GH.tk 16 [0,0,0,0,0] ?_ | refine GH.tks 16 [0,0,0,0,0] ?_); (first | refine GH.tk 17 [0,0,0,0,0] ?_ | refine GH.tks 17 [0,0,0,0,0] ?_))
          refine GH.fin (by kernel_rfl) ?_
          (repeat (first | refine GK.run ?_ | (refine GK.box ?_; intro bl) | (refine GK.mkMap ?_; intro bm) | (refine GK.build0 tb ?_; intro bs)))
          exact GQ.again (j + 1) h2 (by omega) (by repeat (first | exact trivial | refine ⟨rfl, ?_⟩)) (fun w s => s.sel [2, 2, 1, 1] rfl)
      · (repeat (first | refine GK.run ?_ | (refine GK.box ?_; intro bl) | (refine GK.mkMap ?_; intro bm) | (refine GK.build0 tb ?_; intro bs)))
        refine GL.cons ?_; refine GO.call [2] (fun hF' hle hH => pending_ok) (by first | exact Wt.none | exact Wt.some rfl rfl (by first | exact rfl | decide +kernel)) (by kernel_rfl) rfl rfl rfl ?_
        rintro v' Γ' ⟨pz, cz, rfl, rfl⟩
        rw [hRp]
        (repeat (first | refine GK.run ?_ | (refine GK.box ?_; intro bl) | (refine GK.mkMap ?_; intro bm) | (refine GK.build0 tb ?_; intro bs)))
        refine GL.cons ?_; refine GO.call [] (fun hF' hle hH => lives_ok) (by first | exact Wt.none | exact Wt.some rfl rfl (by first | exact rfl | decide +kernel)) (by kernel_rfl) rfl rfl rfl ?_
        rintro v' Γ' rfl
        (repeat (first | refine GK.run ?_ | (refine GK.box ?_; intro bl) | (refine GK.mkMap ?_; intro bm) | (refine GK.build0 tb ?_; intro bs)))
        exact GQ.end1 rfl rfl rfl
end Go.Dk
