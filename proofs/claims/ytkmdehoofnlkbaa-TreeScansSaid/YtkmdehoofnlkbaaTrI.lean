/- A node's delete. -/
import Derived.Test.YtkmdehoofnlkbaaTrH
namespace Go.Tr
open Go Go.Sl
attribute [local irreducible] GK GO Yl Wt Ef Hd GH KH wpListIn Code.wpIn toBody roundQ poolOf rs RS YieldOk IterOk VOk row star exs mp lp Sat pt FnOk Rd bodyPost bodyPostM Lv Ret Exit.then Exit.inBlock Exit.noGoto Int.decLt Int.decLe Int.instDecidableEq
attribute [local irreducible] ents ptrs
set_option pp.deepTerms true
set_option pp.maxSteps 1000000
variable {hF : Hp}
theorem Good.full {H : Hp} {d : Nat} {t : T} {b : Nat} (h : Good H d t b) (h1 : 1 ≤ t.l.length) : Full H d t b := ⟨h.at_, h.wf, h.kids, h1, by have := h.most; omega⟩
/-- What a node with one kid changed gives to fill. -/
theorem FillIn.of {H H' : Hp} {d : Nat} {t : T} {b bk : Nat} {ps : List Nat} (hg : Good H (d + 1) t b) (h1 : 1 ≤ t.l.length) (hk : KidsAt H (d + 1) t.ks ps) (hlen : ps.length = t.ks.length) (hle : le H H') {i : Nat} {l : List En} (hl : l.length = t.l.length) {x : T} (hx : TAt H' d x bk) (hw : WF d x) (hm : x.l.length ≤ 8) :
    FillIn H' d (.mk l (t.ks.set i x)) (ps.set i bk) := by
  have hw1 := hg.wf.1
  have hmost := hg.most
  refine ⟨⟨by simp [hl, hw1], fun y hy => ?_⟩, kids_set_at (hk.mono hle) hx, by simp [hlen], by simpa [hl] using h1, by simp [hl]; omega, fun y hy => ?_⟩
  · rcases List.mem_or_eq_of_mem_set hy with h | h
    · exact hg.wf.2 _ h
    · rw [h]; exact hw
  · rcases List.mem_or_eq_of_mem_set hy with h | h
    · have := (sz_iff.1 (hg.kids _ h)).1; omega
    · rw [h]; exact hm
theorem delete_ok : ∀ (d : Nat) (t : T) (b : Nat) (H hF : Hp) (key : Ky), Good H d t b → (d ≠ 0 → 1 ≤ t.l.length) → FnOk Go.Proofs.Try.prog 29 [nptr b, str key] [poolOf H] hF
    (fun v Γ => ∃ H' b', le H H' ∧ v = .tuple #[nptr b', .bool (del d t key).2] ∧ Γ = [poolOf H'] ∧ TAt H' d (del d t key).1 b') := by
  intro d
  induction d with
  | zero =>
    intro t b H hF key hg _
    refine FnOk.intro 94 Go.Proofs.Try.func29 rfl rfl fun w0 => ?_
    obtain ⟨lv, kv, ps, hn, hk⟩ := hg.at_.node
    have hnd := hn.nd
    have hlen := hn.len
    have hm := hg.most
    have hw := hg.wf
    have hks := hg.ksl
    have hsl := srt_l hg.wf hg.srt
    have hn' := hn
    obtain ⟨q0, c0, rfl, hc0, hkn, hr⟩ := hn.k.out
    obtain ⟨p0, e0, rfl, he0, hln, hrl⟩ := hn.l.out
    have hks0 : t.ks = [] := hw
    have hl0 : t.ks.length = 0 := by rw [hks0]; rfl
    (repeat (first | refine GK.run ?_ | (refine GK.box ?_; intro bl) | (refine GK.mkMap ?_; intro bm) | (refine GK.build0 tb ?_; intro bs)))
    refine GL.cons ?_; refine GO.call [0] (fun hF' hle hH => find_ok hn' hsl (by omega) key) (by first | exact Wt.none | exact Wt.some rfl rfl (by first | exact rfl | decide +kernel)) (by kernel_rfl) rfl rfl rfl ?_
    rintro v Γ' ⟨rfl, rfl⟩
    (repeat (first | refine GK.run ?_ | (refine GK.box ?_; intro bl) | (refine GK.mkMap ?_; intro bm) | (refine GK.build0 tb ?_; intro bs)))
    refine GL.cons ?_; refine GO.call [0] (fun hF' hle hH => copied_ok hn' (by omega) (by omega)) (by first | exact Wt.none | exact Wt.some rfl rfl (by first | exact rfl | decide +kernel)) (by kernel_rfl) rfl rfl rfl ?_
    rintro v Γ' ⟨nb, p, cp, q, cq, rfl, rfl⟩
    (repeat (first | refine GK.run ?_ | (refine GK.box ?_; intro bl) | (refine GK.mkMap ?_; intro bm) | (refine GK.build0 tb ?_; intro bs)))
    obtain ⟨i, hi0⟩ : ∃ i, pos t.l key = i := ⟨_, rfl⟩
    refine G.cond rfl (fun h0 => ?_) (fun h0 => ?_)
    rotate_left
    · exfalso
      simp [hks0] at h0
    (repeat (first | refine GK.run ?_ | (refine GK.box ?_; intro bl) | (refine GK.mkMap ?_; intro bm) | (refine GK.build0 tb ?_; intro bs)))
    refine GK.rowCap 1 rfl fun hcp _ => ?_
    refine G.cond rfl (fun hh => ?_) (fun hh => ?_)
    · have hit_i := hit_lt hh
      rw [hi0] at hit_i ⊢
      have hdel : del 0 t key = (.mk (rm t.l i) t.ks, true) := by simp only [del, hh, if_true, hi0]
      rw [hdel]
      (repeat (first | refine GK.run ?_ | (refine GK.box ?_; intro bl) | (refine GK.mkMap ?_; intro bm) | (refine GK.build0 tb ?_; intro bs)))
      refine GL.cons ?_; refine GO.call [1] (fun hF' hle hH => rmE_row t.l rfl i hit_i hcp (by omega)) (by first | exact Wt.none | exact Wt.some rfl rfl (by first | exact rfl | decide +kernel)) (by kernel_rfl) rfl rfl rfl ?_
      rintro v Γ' ⟨p2, c2, rfl, rfl⟩
      (repeat (first | refine GK.run ?_ | (refine GK.box ?_; intro bl) | (refine GK.mkMap ?_; intro bm) | (refine GK.build0 tb ?_; intro bs)))
      trace_state
      refine GK.sel [3, 1, 0, 0] rfl ?_
      refine GK.node (t := .mk (rm t.l i) t.ks) (rm_len hit_i).symm rfl hlen fun H' le' hn2 => ?_
      exact GQ.fin2 rfl (Rv.tmp rfl) (Rv.tmp rfl) (fun w s => s) ⟨H', nb, le', by show Value.tuple #[nptr nb, .bool (hit t.l key)] = _; rw [hh], rfl, TAt.mk hn2 (hk.mono le')⟩
    · have hh : hit t.l key = false := hh
      have hdel : del 0 t key = (t, false) := by simp only [del, hh, Bool.false_eq_true, if_false]
      rw [hdel]
      (repeat (first | refine GK.run ?_ | (refine GK.box ?_; intro bl) | (refine GK.mkMap ?_; intro bm) | (refine GK.build0 tb ?_; intro bs)))
      refine GK.sel [3, 0, 0, 0] rfl ?_
      refine GK.node (t := t) rfl rfl hlen fun H' le' hn2 => ?_
      exact GQ.fin2 rfl (Rv.tmp rfl) (Rv.tmp rfl) (fun w s => s) ⟨H', nb, le', by show Value.tuple #[nptr nb, .bool (hit t.l key)] = _; rw [hh], rfl, TAt.mk hn2 (hk.mono le')⟩
  | succ d ih =>
    intro t b H hF key hg hone
    have hone' := hone (by omega)
    refine FnOk.intro 94 Go.Proofs.Try.func29 rfl rfl fun w0 => ?_
    obtain ⟨lv, kv, ps, hn, hk⟩ := hg.at_.node
    have hnd := hn.nd
    have hlen := hn.len
    have hm := hg.most
    have hw := hg.wf
    have hks := hg.ksl
    have hsl := srt_l hg.wf hg.srt
    have hp := pos_le t.l key
    have hn' := hn
    obtain ⟨q0, c0, rfl, hc0, hkn, hr⟩ := hn.k.out
    obtain ⟨p0, e0, rfl, he0, hln, hrl⟩ := hn.l.out
    have hw1 := hw.1
    (repeat (first | refine GK.run ?_ | (refine GK.box ?_; intro bl) | (refine GK.mkMap ?_; intro bm) | (refine GK.build0 tb ?_; intro bs)))
    refine GL.cons ?_; refine GO.call [0] (fun hF' hle hH => find_ok hn' hsl (by omega) key) (by first | exact Wt.none | exact Wt.some rfl rfl (by first | exact rfl | decide +kernel)) (by kernel_rfl) rfl rfl rfl ?_
    rintro v Γ' ⟨rfl, rfl⟩
    (repeat (first | refine GK.run ?_ | (refine GK.box ?_; intro bl) | (refine GK.mkMap ?_; intro bm) | (refine GK.build0 tb ?_; intro bs)))
    refine GL.cons ?_; refine GO.call [0] (fun hF' hle hH => copied_ok hn' (by omega) (by omega)) (by first | exact Wt.none | exact Wt.some rfl rfl (by first | exact rfl | decide +kernel)) (by kernel_rfl) rfl rfl rfl ?_
    rintro v Γ' ⟨nb, p, cp, q, cq, rfl, rfl⟩
    (repeat (first | refine GK.run ?_ | (refine GK.box ?_; intro bl) | (refine GK.mkMap ?_; intro bm) | (refine GK.build0 tb ?_; intro bs)))
    obtain ⟨i, hi0⟩ : ∃ i, pos t.l key = i := ⟨_, rfl⟩
    rw [hi0] at hp ⊢
    refine G.cond rfl (fun h0 => ?_) (fun h0 => ?_)
    · exfalso
      have h0 : t.ks = [] := by simpa using h0
      rw [h0] at hw1; simp at hw1
    obtain ⟨pk, hpk, hgk0⟩ := hg.kid (i := i) (k := kid t i) (by simp [kid, List.getD, List.getElem?_eq_getElem (show i < t.ks.length by omega)]) hk hlen
    obtain ⟨bb, o, cs, et, fz, rfl, hbb, hat⟩ := hr (by omega)
    have hld : cs[o + (i : Int).toNat * 1]? = some (nptr pk) := hat _ _ (ptrs_get hpk)
    have hmk : kid t i ∈ t.ks := by
      have : kid t i = t.ks[i] := by simp [kid, List.getD, List.getElem?_eq_getElem (show i < t.ks.length by omega)]
      rw [this]; exact List.getElem_mem _
    have hsz := (sz_iff.1 (hg.kids _ hmk)).1
    refine GK.rowPtr 1 rfl (by omega) fun pb hpb => ?_
    subst hpb
    refine GK.rowPtr 2 rfl (by omega) fun qb hqb => ?_
    subst hqb
    (repeat (first | refine GK.run ?_ | (refine GK.box ?_; intro bl) | (refine GK.mkMap ?_; intro bm) | (refine GK.build0 tb ?_; intro bs)))
    refine G.cut (fun x : Hp × List En × T × Nat × Bool => [(6, .int .i64 i), (7, .bool x.2.2.2.2), (8, nptr nb)])
      (fun x => [nblk nb (.slice (some ⟨pb, 0, none⟩) t.l.length cp) (.slice (some ⟨qb, 0, none⟩) t.ks.length cq), row (.slice (some ⟨pb, 0, none⟩) t.l.length cp) 59 2 t.l.length (ents x.2.1), row (.slice (some ⟨qb, 0, none⟩) t.ks.length cq) 46 1 t.ks.length (ptrs (ps.set i x.2.2.2.1)), poolOf x.1])
      (fun x => le H x.1 ∧ x.2.1.length = t.l.length ∧ FillIn x.1 d (.mk x.2.1 (t.ks.set i x.2.2.1)) (ps.set i x.2.2.2.1) ∧ del (d + 1) t key = (fill (.mk x.2.1 (t.ks.set i x.2.2.1)) i, x.2.2.2.2)) (fun x hx => ?_) ?_
    rotate_left
    · refine G.cond rfl (fun hh => ?_) (fun hh => ?_)
      · have hit_i := hit_lt hh
        rw [hi0] at hit_i
        have hfull := hgk0.full (by omega)
        obtain ⟨e, he⟩ : ∃ e, last d (kid t i) = e := ⟨_, rfl⟩
        have hdo := del_ok d (kid t i) e.1 hgk0.wf hgk0.srt hgk0.kids (fun _ => by omega)
        have hdel : del (d + 1) t key = (fill (.mk (t.l.set i e) (t.ks.set i (del d (kid t i) e.1).1)) i, true) := by simp only [del, hh, if_true, hi0, he]
        rw [hdel]
        obtain ⟨r, hrr⟩ : ∃ r, del d (kid t i) e.1 = r := ⟨_, rfl⟩
        have hih := ih (kid t i) pk H
        have hlast := last_ok (hF := hF) hfull
        rw [he] at hlast
        rw [hrr] at hdo ⊢
        have hel := entC_len e
        have hone : (ents t.l).length = t.l.length * 2 := ents_len _
        (repeat (first | refine GK.run ?_ | (refine GK.box ?_; intro bl) | (refine GK.mkMap ?_; intro bm) | (refine GK.build0 tb ?_; intro bs)))
        refine GL.cons ?_; refine GO.call [3] (fun hF' hle hH => last_ok hfull) (by first | exact Wt.none | exact Wt.some rfl rfl (by first | exact rfl | decide +kernel)) (by kernel_rfl) rfl rfl rfl ?_
        rintro v Γ' ⟨rfl, rfl⟩
        rw [he]
        (repeat (first | refine GK.run ?_ | (refine GK.box ?_; intro bl) | (refine GK.mkMap ?_; intro bm) | (refine GK.build0 tb ?_; intro bs)))
        refine GL.cons ?_; refine Gt.allocAny tb (by first | exact Wt.none | exact Wt.some rfl rfl (by first | exact rfl | decide +kernel)) (by exact rfl) (by exact rfl) ?_
        intro br lr hlr
        (repeat (first | refine GK.run ?_ | (refine GK.box ?_; intro bl) | (refine GK.mkMap ?_; intro bm) | (refine GK.build0 tb ?_; intro bs)))
        refine GL.cons ?_
        refine Gt.storeAny tb 0 (by first | exact Wt.none | exact Wt.some rfl rfl (by first | exact rfl | decide +kernel)) rfl rfl rfl (entC_len _) (entC_one _) rfl hlr ?_
        (repeat (first | refine GK.run ?_ | (refine GK.box ?_; intro bl) | (refine GK.mkMap ?_; intro bm) | (refine GK.build0 tb ?_; intro bs)))
        refine G.draw [] [nblk nb (.slice (some ⟨pb, 0, none⟩) t.l.length cp) (.slice (some ⟨qb, 0, none⟩) t.ks.length cq), blk br 59 (0, 0) (entC e)] (by kernel_rfl) ?_
        ((first | refine GH.tk 0 [2,0] ?_ | refine GH.tks 0 [2,0] ?_); (first | refine GH.tk 1 [2,0] ?_ | refine GH.tks 1 [2,0] ?_); (first | refine GH.tk 2 [2,0] ?_ | refine GH.tks 2 [2,0] ?_); (first | refine GH.tk 3 [2,0] ?_ | refine GH.tks 3 [2,0] ?_); (first | refine GH.tk 4 [2,0] ?_ | refine GH.tks 4 [2,0] ?_); (first | refine GH.tk 5 [2,0] ?_ | refine GH.tks 5 [2,0] ?_); (first | refine GH.tk 6 [2,0] ?_ | refine GH.tks 6 [2,0] ?_))
        refine GH.step 7 rfl (by kernel_rfl) ?_
        refine Gt.storeWRow tb 3 (by first | exact Wt.none | exact Wt.some rfl rfl (by first | exact rfl | decide +kernel)) rfl rfl rfl hel (entC_one e) rfl (by show 0 + i * 2 + 2 ≤ _; rw [hone]; omega) (by rw [hone]; omega) ?_
        refine GH.keep (fun _ s => s.sel [3,1] rfl) ?_
        refine GH.fin (by kernel_rfl) ?_
        have hset : splice (ents t.l) (0 + (i : Int).toNat * 2) (List.take 2 (List.drop 0 (entC e))) = ents (t.l.set i e) := by
          show splice (ents t.l) (0 + i * 2) (entC e) = _
          rw [Nat.zero_add]; exact ents_set hit_i e
        rw [hset]
        (repeat (first | refine GK.run ?_ | (refine GK.box ?_; intro bl) | (refine GK.mkMap ?_; intro bm) | (refine GK.build0 tb ?_; intro bs)))
        refine G.draw [] [poolGe H, nblk nb (.slice (some ⟨pb, 0, none⟩) t.l.length cp) (.slice (some ⟨qb, 0, none⟩) t.ks.length cq), blk br 59 (0, 0) (entC e)] (by kernel_rfl) ?_
        ((first | refine GH.tkg 0 (fun _ s => ((s.sel [2, 2, 1] rfl).poolGe (le.refl _))) ?_ | refine GH.tkgs 0 (fun _ s => ((s.sel [2, 2, 1] rfl).poolGe (le.refl _))) ?_); (first | refine GH.tkg 1 (fun _ s => ((s.sel [2, 2, 1] rfl).poolGe (le.refl _))) ?_ | refine GH.tkgs 1 (fun _ s => ((s.sel [2, 2, 1] rfl).poolGe (le.refl _))) ?_); (first | refine GH.tkg 2 (fun _ s => ((s.sel [2, 2, 1] rfl).poolGe (le.refl _))) ?_ | refine GH.tkgs 2 (fun _ s => ((s.sel [2, 2, 1] rfl).poolGe (le.refl _))) ?_); (first | refine GH.tkg 3 (fun _ s => ((s.sel [2, 2, 1] rfl).poolGe (le.refl _))) ?_ | refine GH.tkgs 3 (fun _ s => ((s.sel [2, 2, 1] rfl).poolGe (le.refl _))) ?_); (first | refine GH.tkg 4 (fun _ s => ((s.sel [2, 2, 1] rfl).poolGe (le.refl _))) ?_ | refine GH.tkgs 4 (fun _ s => ((s.sel [2, 2, 1] rfl).poolGe (le.refl _))) ?_); (first | refine GH.tkg 5 (fun _ s => ((s.sel [2, 2, 1] rfl).poolGe (le.refl _))) ?_ | refine GH.tkgs 5 (fun _ s => ((s.sel [2, 2, 1] rfl).poolGe (le.refl _))) ?_); (first | refine GH.tkg 6 (fun _ s => ((s.sel [2, 2, 1] rfl).poolGe (le.refl _))) ?_ | refine GH.tkgs 6 (fun _ s => ((s.sel [2, 2, 1] rfl).poolGe (le.refl _))) ?_); (first | refine GH.tkg 7 (fun _ s => ((s.sel [2, 2, 1] rfl).poolGe (le.refl _))) ?_ | refine GH.tkgs 7 (fun _ s => ((s.sel [2, 2, 1] rfl).poolGe (le.refl _))) ?_); (first | refine GH.tkg 8 (fun _ s => ((s.sel [2, 2, 1] rfl).poolGe (le.refl _))) ?_ | refine GH.tkgs 8 (fun _ s => ((s.sel [2, 2, 1] rfl).poolGe (le.refl _))) ?_); (first | refine GH.tkg 9 (fun _ s => ((s.sel [2, 2, 1] rfl).poolGe (le.refl _))) ?_ | refine GH.tkgs 9 (fun _ s => ((s.sel [2, 2, 1] rfl).poolGe (le.refl _))) ?_); (first | refine GH.tkg 10 (fun _ s => ((s.sel [2, 2, 1] rfl).poolGe (le.refl _))) ?_ | refine GH.tkgs 10 (fun _ s => ((s.sel [2, 2, 1] rfl).poolGe (le.refl _))) ?_); (first | refine GH.tkg 11 (fun _ s => ((s.sel [2, 2, 1] rfl).poolGe (le.refl _))) ?_ | refine GH.tkgs 11 (fun _ s => ((s.sel [2, 2, 1] rfl).poolGe (le.refl _))) ?_); (first | refine GH.tkg 12 (fun _ s => ((s.sel [2, 2, 1] rfl).poolGe (le.refl _))) ?_ | refine GH.tkgs 12 (fun _ s => ((s.sel [2, 2, 1] rfl).poolGe (le.refl _))) ?_); (first | refine GH.tkg 13 (fun _ s => ((s.sel [2, 2, 1] rfl).poolGe (le.refl _))) ?_ | refine GH.tkgs 13 (fun _ s => ((s.sel [2, 2, 1] rfl).poolGe (le.refl _))) ?_))
        refine GH.step 14 rfl (by kernel_rfl) ?_
        refine GO.call [2] (fun hF' _ _ => hih hF' e.1 hgk0 (fun _ => by omega)) (by first | exact Wt.none | exact Wt.some rfl rfl (by first | exact rfl | decide +kernel)) (by kernel_rfl) rfl rfl rfl ?_
        rintro v Γ' ⟨H1, b1, le1, rfl, rfl, hT1⟩
        rw [hrr] at hT1 ⊢
        refine GH.keep (fun _ s => ((s.sel [0, 2, 1] rfl).poolGe le1)) ?_
        ((first | refine GH.tkg 15 (fun _ s => ((s.sel [0, 2, 1] rfl).poolGe le1)) ?_ | refine GH.tkgs 15 (fun _ s => ((s.sel [0, 2, 1] rfl).poolGe le1)) ?_); (first | refine GH.tkg 16 (fun _ s => ((s.sel [0, 2, 1] rfl).poolGe le1)) ?_ | refine GH.tkgs 16 (fun _ s => ((s.sel [0, 2, 1] rfl).poolGe le1)) ?_); (first | refine GH.tkg 17 (fun _ s => ((s.sel [0, 2, 1] rfl).poolGe le1)) ?_ | refine GH.tkgs 17 (fun _ s => ((s.sel [0, 2, 1] rfl).poolGe le1)) ?_); (first | refine GH.tkg 18 (fun _ s => ((s.sel [0, 2, 1] rfl).poolGe le1)) ?_ | refine GH.tkgs 18 (fun _ s => ((s.sel [0, 2, 1] rfl).poolGe le1)) ?_))
        refine GH.step 19 rfl (by kernel_rfl) ?_
        refine Gt.storeW tb 4 (by first | exact Wt.none | exact Wt.some rfl rfl (by first | exact rfl | decide +kernel)) rfl rfl rfl rfl rfl (by show 0 + i * 1 < _; rw [ptrs_len]; omega) ?_
        refine GH.keep (fun _ s => ((s.sel [1, 3, 2] rfl).poolGe le1)) ?_
        refine GH.fin (by kernel_rfl) ?_
        (repeat (first | refine GK.run ?_ | (refine GK.box ?_; intro bl) | (refine GK.mkMap ?_; intro bm) | (refine GK.build0 tb ?_; intro bs)))
        have hset2 : (ptrs ps).set (0 + (i : Int).toNat * 1) (nptr b1) = ptrs (ps.set i b1) := by
          show (ptrs ps).set (0 + i * 1) (nptr b1) = _
          rw [Nat.zero_add]; exact ptrs_set (by omega) b1
        refine GQ.reach (H1, t.l.set i e, r.1, b1, hit t.l key) ⟨le1, by simp, FillIn.of hg hone' hk hlen le1 (by simp) hT1 hdo.wf (by have := hdo.len; have := hgk0.most; show r.1.l.length ≤ 8; omega), by rw [hh]⟩ (by repeat (first | exact trivial | refine ⟨rfl, ?_⟩)) (fun w s => ?_)
        rw [← hset2]
        exact (s.sel [3, 3, 2, 0, 0] rfl).drop
      · have hh : hit t.l key = false := hh
        have hdo := del_ok d (kid t i) key hgk0.wf hgk0.srt hgk0.kids (fun _ => by omega)
        have hdel : del (d + 1) t key = (fill (.mk t.l (t.ks.set i (del d (kid t i) key).1)) i, (del d (kid t i) key).2) := by simp only [del, hh, Bool.false_eq_true, if_false, hi0]
        rw [hdel]
        obtain ⟨r, hrr⟩ : ∃ r, del d (kid t i) key = r := ⟨_, rfl⟩
        have hih := ih (kid t i) pk H
        rw [hrr] at hdo ⊢
        (repeat (first | refine GK.run ?_ | (refine GK.box ?_; intro bl) | (refine GK.mkMap ?_; intro bm) | (refine GK.build0 tb ?_; intro bs)))
        refine G.draw [] [poolGe H, nblk nb (.slice (some ⟨pb, 0, none⟩) t.l.length cp) (.slice (some ⟨qb, 0, none⟩) t.ks.length cq)] (by kernel_rfl) ?_
        ((first | refine GH.tkg 0 (fun _ s => ((s.sel [3, 0] rfl).poolGe (le.refl _))) ?_ | refine GH.tkgs 0 (fun _ s => ((s.sel [3, 0] rfl).poolGe (le.refl _))) ?_); (first | refine GH.tkg 1 (fun _ s => ((s.sel [3, 0] rfl).poolGe (le.refl _))) ?_ | refine GH.tkgs 1 (fun _ s => ((s.sel [3, 0] rfl).poolGe (le.refl _))) ?_); (first | refine GH.tkg 2 (fun _ s => ((s.sel [3, 0] rfl).poolGe (le.refl _))) ?_ | refine GH.tkgs 2 (fun _ s => ((s.sel [3, 0] rfl).poolGe (le.refl _))) ?_); (first | refine GH.tkg 3 (fun _ s => ((s.sel [3, 0] rfl).poolGe (le.refl _))) ?_ | refine GH.tkgs 3 (fun _ s => ((s.sel [3, 0] rfl).poolGe (le.refl _))) ?_); (first | refine GH.tkg 4 (fun _ s => ((s.sel [3, 0] rfl).poolGe (le.refl _))) ?_ | refine GH.tkgs 4 (fun _ s => ((s.sel [3, 0] rfl).poolGe (le.refl _))) ?_); (first | refine GH.tkg 5 (fun _ s => ((s.sel [3, 0] rfl).poolGe (le.refl _))) ?_ | refine GH.tkgs 5 (fun _ s => ((s.sel [3, 0] rfl).poolGe (le.refl _))) ?_); (first | refine GH.tkg 6 (fun _ s => ((s.sel [3, 0] rfl).poolGe (le.refl _))) ?_ | refine GH.tkgs 6 (fun _ s => ((s.sel [3, 0] rfl).poolGe (le.refl _))) ?_); (first | refine GH.tkg 7 (fun _ s => ((s.sel [3, 0] rfl).poolGe (le.refl _))) ?_ | refine GH.tkgs 7 (fun _ s => ((s.sel [3, 0] rfl).poolGe (le.refl _))) ?_); (first | refine GH.tkg 8 (fun _ s => ((s.sel [3, 0] rfl).poolGe (le.refl _))) ?_ | refine GH.tkgs 8 (fun _ s => ((s.sel [3, 0] rfl).poolGe (le.refl _))) ?_); (first | refine GH.tkg 9 (fun _ s => ((s.sel [3, 0] rfl).poolGe (le.refl _))) ?_ | refine GH.tkgs 9 (fun _ s => ((s.sel [3, 0] rfl).poolGe (le.refl _))) ?_); (first | refine GH.tkg 10 (fun _ s => ((s.sel [3, 0] rfl).poolGe (le.refl _))) ?_ | refine GH.tkgs 10 (fun _ s => ((s.sel [3, 0] rfl).poolGe (le.refl _))) ?_); (first | refine GH.tkg 11 (fun _ s => ((s.sel [3, 0] rfl).poolGe (le.refl _))) ?_ | refine GH.tkgs 11 (fun _ s => ((s.sel [3, 0] rfl).poolGe (le.refl _))) ?_); (first | refine GH.tkg 12 (fun _ s => ((s.sel [3, 0] rfl).poolGe (le.refl _))) ?_ | refine GH.tkgs 12 (fun _ s => ((s.sel [3, 0] rfl).poolGe (le.refl _))) ?_))
        refine GH.step 13 rfl (by kernel_rfl) ?_
        refine GO.call [3] (fun hF' _ _ => hih hF' key hgk0 (fun _ => by omega)) (by first | exact Wt.none | exact Wt.some rfl rfl (by first | exact rfl | decide +kernel)) (by kernel_rfl) rfl rfl rfl ?_
        rintro v Γ' ⟨H1, b1, le1, rfl, rfl, hT1⟩
        rw [hrr] at hT1 ⊢
        refine GH.keep (fun _ s => ((s.sel [0, 0] rfl).poolGe le1)) ?_
        ((first | refine GH.tkg 14 (fun _ s => ((s.sel [0, 0] rfl).poolGe le1)) ?_ | refine GH.tkgs 14 (fun _ s => ((s.sel [0, 0] rfl).poolGe le1)) ?_); (first | refine GH.tkg 15 (fun _ s => ((s.sel [0, 0] rfl).poolGe le1)) ?_ | refine GH.tkgs 15 (fun _ s => ((s.sel [0, 0] rfl).poolGe le1)) ?_); (first | refine GH.tkg 16 (fun _ s => ((s.sel [0, 0] rfl).poolGe le1)) ?_ | refine GH.tkgs 16 (fun _ s => ((s.sel [0, 0] rfl).poolGe le1)) ?_); (first | refine GH.tkg 17 (fun _ s => ((s.sel [0, 0] rfl).poolGe le1)) ?_ | refine GH.tkgs 17 (fun _ s => ((s.sel [0, 0] rfl).poolGe le1)) ?_))
        refine GH.step 18 rfl (by kernel_rfl) ?_
        refine Gt.storeW tb 3 (by first | exact Wt.none | exact Wt.some rfl rfl (by first | exact rfl | decide +kernel)) rfl rfl rfl rfl rfl (by show 0 + i * 1 < _; rw [ptrs_len]; omega) ?_
        refine GH.keep (fun _ s => ((s.sel [1, 1] rfl).poolGe le1)) ?_
        ((first | refine GH.tkg 19 (fun _ s => ((s.sel [1, 1] rfl).poolGe le1)) ?_ | refine GH.tkgs 19 (fun _ s => ((s.sel [1, 1] rfl).poolGe le1)) ?_))
        refine GH.fin (by kernel_rfl) ?_
        (repeat (first | refine GK.run ?_ | (refine GK.box ?_; intro bl) | (refine GK.mkMap ?_; intro bm) | (refine GK.build0 tb ?_; intro bs)))
        have hset2 : (ptrs ps).set (0 + (i : Int).toNat * 1) (nptr b1) = ptrs (ps.set i b1) := by
          show (ptrs ps).set (0 + i * 1) (nptr b1) = _
          rw [Nat.zero_add]; exact ptrs_set (by omega) b1
        refine GQ.reach (H1, t.l, r.1, b1, r.2) ⟨le1, rfl, FillIn.of hg hone' hk hlen le1 rfl hT1 hdo.wf (by have := hdo.len; have := hgk0.most; show r.1.l.length ≤ 8; omega), rfl⟩ (by repeat (first | exact trivial | refine ⟨rfl, ?_⟩)) (fun w s => ?_)
        rw [← hset2]
        exact s.sel [2, 2, 0, 0] rfl
    obtain ⟨H1, l1, x1, b1, f1⟩ := x
    obtain ⟨le1, hl1, hf1, hd1⟩ := hx
    rw [hd1]
    replace hl1 : l1.length = t.l.length := hl1
    (repeat (first | refine GK.run ?_ | (refine GK.box ?_; intro bl) | (refine GK.mkMap ?_; intro bm) | (refine GK.build0 tb ?_; intro bs)))
    refine GK.weak (fr' := [(6, .int .i64 i), (7, .bool f1), (8, nptr nb), (89, nptr nb), (90, .int .i64 i)]) (Γ' := fnode nb (some ⟨pb, 0, none⟩) cp (some ⟨qb, 0, none⟩) cq (.mk l1 (t.ks.set i x1)) (ps.set i b1) ++ [poolOf H1]) (by repeat (first | exact trivial | refine ⟨rfl, ?_⟩)) (fun w s => ?_) ?_
    · have e1 : (T.mk l1 (t.ks.set i x1)).l.length = t.l.length := hl1
      have e2 : (T.mk l1 (t.ks.set i x1)).ks.length = t.ks.length := by simp
      show Sat (fnode _ _ _ _ _ _ _ ++ _) _ _
      unfold fnode
      rw [e1, e2]
      exact s
    refine GL.cons ?_
    refine GO.call [0, 0, 0, 0] (fun hF' _ _ => fillw_ok hf1 (i := i) (by simp; omega) nb (some ⟨pb, 0, none⟩) (some ⟨qb, 0, none⟩) cp cq) (by first | exact Wt.none | exact Wt.some rfl rfl (by first | exact rfl | decide +kernel)) (by kernel_rfl) rfl rfl rfl ?_
    rintro v Γ' ⟨rfl, H2, p2, c2, q2, d2, ps2, le2, rfl, hl2, hk2⟩
    (repeat (first | refine GK.run ?_ | (refine GK.box ?_; intro bl) | (refine GK.mkMap ?_; intro bm) | (refine GK.build0 tb ?_; intro bs)))
    refine GK.sel [3, 0, 0, 0] rfl ?_
    refine GK.node (t := fill (.mk l1 (t.ks.set i x1)) i) rfl rfl hl2 fun H' le' hn2 => ?_
    exact GQ.fin2 rfl (Rv.tmp rfl) (Rv.tmp rfl) (fun w s => s) ⟨H', nb, le1.trans (le2.trans le'), rfl, rfl, TAt.mk hn2 (hk2.mono le')⟩
end Go.Tr
