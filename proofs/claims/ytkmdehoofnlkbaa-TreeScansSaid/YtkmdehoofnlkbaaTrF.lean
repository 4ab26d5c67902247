/- A node's halves. -/
import Derived.Test.YtkmdehoofnlkbaaTrE
namespace Go.Tr
open Go Go.Sl
theorem half_int (n : Nat) (h : n < 1000) : IntKind.i64.wrap (((n : Nat) : Int).tdiv 2) = ((n / 2 : Nat) : Int) := by
  have : ((n : Nat) : Int).tdiv 2 = ((n / 2 : Nat) : Int) := by rw [Int.tdiv_eq_ediv_of_nonneg (by omega)]; omega
  rw [this, IntWalk.i64_in _ (by omega)]
theorem kids_take_at {H : Hp} {d : Nat} {ks : List T} {ps : List Nat} (h : KidsAt H d ks ps) (n : Nat) : KidsAt H d (ks.take n) (ps.take n) := by
  cases d with
  | zero => trivial
  | succ d =>
    intro i p k h1 h2
    rw [List.getElem?_take] at h1 h2
    split at h1
    · rename_i hi
      rw [if_pos hi] at h2
      exact h i p k h1 h2
    · cases h1
theorem kids_drop_at {H : Hp} {d : Nat} {ks : List T} {ps : List Nat} (h : KidsAt H d ks ps) (n : Nat) : KidsAt H d (ks.drop n) (ps.drop n) := by
  cases d with
  | zero => trivial
  | succ d =>
    intro i p k h1 h2
    rw [List.getElem?_drop] at h1 h2
    exact h _ p k h1 h2
theorem ptrs_nil : ptrs [] = [] := rfl
theorem ents_nil : ents [] = [] := rfl
theorem mid_at {t : T} (h : 0 < t.l.length) : t.l[half t]? = some (mid t) := by
  have : half t < t.l.length := by unfold half; omega
  simp [mid, List.getD, List.getElem?_eq_getElem this]
attribute [local irreducible] GK GO Yl Wt Ef Hd GH KH wpListIn Code.wpIn toBody roundQ poolOf rs RS YieldOk IterOk VOk row star exs mp lp Sat pt FnOk Rd bodyPost bodyPostM Lv Ret Exit.then Exit.inBlock Exit.noGoto Int.decLt Int.decLe Int.instDecidableEq
attribute [local irreducible] ents ptrs
variable {hF H : Hp} {d : Nat} {t : T} {b : Nat}
set_option maxHeartbeats 2000000 in
theorem halves_ok (hf : Full H d t b) : FnOk Go.Proofs.Try.prog 31 [nptr b] [poolOf H] hF
    (fun v Γ => ∃ H' a c, le H H' ∧ v = .tuple #[nptr a, .agg ⟨entC (mid t)⟩, nptr c] ∧ Γ = [poolOf H'] ∧ TAt H' d (lo t) a ∧ TAt H' d (hi t) c) := by
  refine FnOk.intro 73 Go.Proofs.Try.func31 rfl rfl fun w0 => ?_
  obtain ⟨lv, kv, ps, hn, hk⟩ := hf.at_.node
  have hnd := hn.nd
  have hlen := hn.len
  have hm := hf.most
  have hone := hf.one
  have hnl := hn.l
  have hnk := hn.k
  have hw := hf.wf
  have hks : t.ks.length < 1000 := by
    cases d with
    | zero => have : t.ks = [] := hw; rw [this]; simp
    | succ d => have := hw.1; omega
  obtain ⟨q, c, rfl, hc, hkn, hr⟩ := hn.k.out
  obtain ⟨p, e, rfl, he, hln, hrl⟩ := hn.l.out
  obtain ⟨bb, o, cs, et, fz, rfl, hbb, hat⟩ := hrl (by omega)
  have hat2 : At cs (o + ((half t : Nat) : Int).toNat * 2) (entC (mid t)) := at_trans hat (ents_at (mid_at hone))
  have hlenc := entC_len (mid t)
  obtain ⟨k, hk0⟩ : ∃ k, half t = k := ⟨_, rfl⟩
  have hkl : k < t.l.length := by rw [← hk0]; unfold half; omega
  (repeat (first | refine GK.run ?_ | (refine GK.box ?_; intro bl) | (refine GK.mkMap ?_; intro bm) | (refine GK.build0 tb ?_; intro bs)))
  refine GL.cons ?_; refine Gt.allocAny tb (by first | exact Wt.none | exact Wt.some rfl rfl (by first | exact rfl | decide +kernel)) (by exact rfl) (by exact rfl) ?_
  intro br lr hlr
  (repeat (first | refine GK.run ?_ | (refine GK.box ?_; intro bl) | (refine GK.mkMap ?_; intro bm) | (refine GK.build0 tb ?_; intro bs)))
  rw [half_int _ (by omega), show t.l.length / 2 = k from hk0]
  rw [hk0] at hat2
  (repeat (first | refine GK.run ?_ | (refine GK.box ?_; intro bl) | (refine GK.mkMap ?_; intro bm) | (refine GK.build0 tb ?_; intro bs)))
  refine G.cut (fun x : Nat × Nat × Option Addr × Nat => [(0, nptr b), (3, nptr br), (5, .int .i64 k), (6, nptr x.1), (7, nptr x.2.1)])
    (fun x => [nblk x.2.1 (.slice x.2.2.1 (t.l.length - (k + 1)) x.2.2.2) (.slice none 0 0), row (.slice x.2.2.1 (t.l.length - (k + 1)) x.2.2.2) 59 2 (t.l.length - (k + 1)) ((ents t.l).drop ((k + 1) * 2)), nblk x.1 (.slice (some ⟨bb, o, none⟩) k k) (.slice none 0 0), blk br 59 (0, 0) lr, poolOf H]) (fun _ => True) (fun x _ => ?_) ?_
  rotate_left
  · have hsrc : ∀ {Γ : List HProp} (i : Nat), Γ[i]? = some (poolOf H) → Src Go.Proofs.Try.prog ⟨73, [], hF, w0, none⟩ Γ (.slice (slAddr (some ⟨bb, o, none⟩) e (k + 1) 2) (t.l.length - (k + 1)) (e - (k + 1))) (t.l.length - (k + 1)) 2 ((ents t.l).drop ((k + 1) * 2)) := fun i hi =>
      RS.src ((RS.pool i hi hnl).cut (by omega)) (fun u hu => ents_one _ u (List.mem_of_mem_drop hu)) (by rw [List.length_drop, hln, Nat.sub_mul]) ⟨_, _, rfl⟩
    refine G.draw [] [poolOf H] (by kernel_rfl) ?_
    ((first | refine GH.tk 0 [1] ?_ | refine GH.tks 0 [1] ?_); (first | refine GH.tk 1 [1] ?_ | refine GH.tks 1 [1] ?_); (first | refine GH.tk 2 [1] ?_ | refine GH.tks 2 [1] ?_); (first | refine GH.tk 3 [1] ?_ | refine GH.tks 3 [1] ?_); (first | refine GH.tk 4 [1] ?_ | refine GH.tks 4 [1] ?_); (first | refine GH.tk 5 [1] ?_ | refine GH.tks 5 [1] ?_); (first | refine GH.tk 6 [1] ?_ | refine GH.tks 6 [1] ?_); (first | refine GH.tk 7 [1] ?_ | refine GH.tks 7 [1] ?_); (first | refine GH.tk 10 [1] ?_ | refine GH.tks 10 [1] ?_); (first | refine GH.tk 11 [1] ?_ | refine GH.tks 11 [1] ?_); (first | refine GH.tk 12 [1] ?_ | refine GH.tks 12 [1] ?_); (first | refine GH.tk 13 [1] ?_ | refine GH.tks 13 [1] ?_); (first | refine GH.tk 14 [1] ?_ | refine GH.tks 14 [1] ?_); (first | refine GH.tk 15 [1] ?_ | refine GH.tks 15 [1] ?_); (first | refine GH.tk 16 [1] ?_ | refine GH.tks 16 [1] ?_))
    refine GH.step2 8 9 rfl rfl (by kernel_rfl) ?_ ?_
    · refine GO.box (by first | exact Wt.none | exact Wt.some rfl rfl (by first | exact rfl | decide +kernel)) rfl rfl ?_
      intro a
      refine GH.keep (fun _ s => s.sel [2] rfl) ?_
      refine GH.step 9 rfl (by kernel_rfl) ?_
      refine Gt.build0 tb (by first | exact Wt.none | exact Wt.some rfl rfl (by first | exact rfl | decide +kernel)) rfl rfl ?_
      intro bs
      refine GH.keep (fun _ s => s.sel [3] rfl) ?_
      refine GH.step 17 rfl (by kernel_rfl) ?_
      refine Gt.append0 tb 0 (m := t.l.length - (k + 1)) (by first | exact Wt.none | exact Wt.some rfl rfl (by first | exact rfl | decide +kernel)) rfl (.inl ⟨_, rfl⟩) rfl rfl rfl rfl rfl (hsrc 3 rfl) (by omega) (by omega) ?_
      intro p2 c2
      refine GH.keep (fun _ s => s.sel [3] rfl) ?_
      ((first | refine GH.tk 18 [3] ?_ | refine GH.tks 18 [3] ?_); (first | refine GH.tk 20 [3] ?_ | refine GH.tks 20 [3] ?_))
      refine GH.step 19 rfl (by kernel_rfl) ?_
      refine GO.box (by first | exact Wt.none | exact Wt.some rfl rfl (by first | exact rfl | decide +kernel)) rfl rfl ?_
      intro a2
      refine GH.keep (fun _ s => s.sel [4] rfl) ?_
      ((first | refine GH.tk 21 [4] ?_ | refine GH.tks 21 [4] ?_))
      refine GH.fin (by kernel_rfl) ?_
      exact GQ.reach (a, a2, p2, c2) trivial (by repeat (first | exact trivial | refine ⟨rfl, ?_⟩)) (fun w s => s.sel [0, 0, 0, 0, 0] rfl)
    · refine Gt.build0 tb (by first | exact Wt.none | exact Wt.some rfl rfl (by first | exact rfl | decide +kernel)) rfl rfl ?_
      intro bs
      refine GH.keep (fun _ s => s.sel [2] rfl) ?_
      refine GH.step2 8 17 rfl rfl (by kernel_rfl) ?_ ?_
      · refine GO.box (by first | exact Wt.none | exact Wt.some rfl rfl (by first | exact rfl | decide +kernel)) rfl rfl ?_
        intro a
        refine GH.keep (fun _ s => s.sel [3] rfl) ?_
        refine GH.step 17 rfl (by kernel_rfl) ?_
        refine Gt.append0 tb 1 (m := t.l.length - (k + 1)) (by first | exact Wt.none | exact Wt.some rfl rfl (by first | exact rfl | decide +kernel)) rfl (.inl ⟨_, rfl⟩) rfl rfl rfl rfl rfl (hsrc 3 rfl) (by omega) (by omega) ?_
        intro p2 c2
        refine GH.keep (fun _ s => s.sel [3] rfl) ?_
        ((first | refine GH.tk 18 [3] ?_ | refine GH.tks 18 [3] ?_); (first | refine GH.tk 20 [3] ?_ | refine GH.tks 20 [3] ?_))
        refine GH.step 19 rfl (by kernel_rfl) ?_
        refine GO.box (by first | exact Wt.none | exact Wt.some rfl rfl (by first | exact rfl | decide +kernel)) rfl rfl ?_
        intro a2
        refine GH.keep (fun _ s => s.sel [4] rfl) ?_
        ((first | refine GH.tk 21 [4] ?_ | refine GH.tks 21 [4] ?_))
        refine GH.fin (by kernel_rfl) ?_
        exact GQ.reach (a, a2, p2, c2) trivial (by repeat (first | exact trivial | refine ⟨rfl, ?_⟩)) (fun w s => s.sel [0, 0, 0, 0, 0] rfl)
      · refine Gt.append0 tb 0 (m := t.l.length - (k + 1)) (by first | exact Wt.none | exact Wt.some rfl rfl (by first | exact rfl | decide +kernel)) rfl (.inl ⟨_, rfl⟩) rfl rfl rfl rfl rfl (hsrc 2 rfl) (by omega) (by omega) ?_
        intro p2 c2
        refine GH.keep (fun _ s => s.sel [2] rfl) ?_
        ((first | refine GH.tk 18 [2] ?_ | refine GH.tks 18 [2] ?_))
        refine GH.step2 8 19 rfl rfl (by kernel_rfl) ?_ ?_
        · refine GO.box (by first | exact Wt.none | exact Wt.some rfl rfl (by first | exact rfl | decide +kernel)) rfl rfl ?_
          intro a
          refine GH.keep (fun _ s => s.sel [3] rfl) ?_
          ((first | refine GH.tk 20 [3] ?_ | refine GH.tks 20 [3] ?_))
          refine GH.step 19 rfl (by kernel_rfl) ?_
          refine GO.box (by first | exact Wt.none | exact Wt.some rfl rfl (by first | exact rfl | decide +kernel)) rfl rfl ?_
          intro a2
          refine GH.keep (fun _ s => s.sel [4] rfl) ?_
          ((first | refine GH.tk 21 [4] ?_ | refine GH.tks 21 [4] ?_))
          refine GH.fin (by kernel_rfl) ?_
          exact GQ.reach (a, a2, p2, c2) trivial (by repeat (first | exact trivial | refine ⟨rfl, ?_⟩)) (fun w s => s.sel [0, 1, 0, 0, 0] rfl)
        · refine GO.box (by first | exact Wt.none | exact Wt.some rfl rfl (by first | exact rfl | decide +kernel)) rfl rfl ?_
          intro a2
          refine GH.keep (fun _ s => s.sel [3] rfl) ?_
          refine GH.step 8 rfl (by kernel_rfl) ?_
          refine GO.box (by first | exact Wt.none | exact Wt.some rfl rfl (by first | exact rfl | decide +kernel)) rfl rfl ?_
          intro a
          refine GH.keep (fun _ s => s.sel [4] rfl) ?_
          ((first | refine GH.tk 20 [4] ?_ | refine GH.tks 20 [4] ?_))
          ((first | refine GH.tk 21 [4] ?_ | refine GH.tks 21 [4] ?_))
          refine GH.fin (by kernel_rfl) ?_
          exact GQ.reach (a, a2, p2, c2) trivial (by repeat (first | exact trivial | refine ⟨rfl, ?_⟩)) (fun w s => s.sel [1, 1, 0, 0, 0] rfl)
  obtain ⟨a, a2, p2, c2⟩ := x
  have hlol : (lo t).l = t.l.take k := by show t.l.take (half t) = _; rw [hk0]
  have hhil : (hi t).l = t.l.drop (k + 1) := by show t.l.drop (half t + 1) = _; rw [hk0]
  have hlok : (lo t).ks = t.ks.take (k + 1) := by show t.ks.take (half t + 1) = _; rw [hk0]
  have hhik : (hi t).ks = t.ks.drop (k + 1) := by show t.ks.drop (half t + 1) = _; rw [hk0]
  have hl1 : (lo t).l.length = k := by rw [hlol]; simp; omega
  have hl2 : (hi t).l.length = t.l.length - (k + 1) := by rw [hhil]; simp
  have hrl1 : rs H (.slice (some ⟨bb, o, none⟩) k k) (lo t).l.length 2 (ents (lo t).l) := by
    have := hnl.take (m := k) (k := k) (by omega) (Nat.le_refl k)
    rw [hl1, hlol, ← ents_take]; exact this
  (repeat (first | refine GK.run ?_ | (refine GK.box ?_; intro bl) | (refine GK.mkMap ?_; intro bm) | (refine GK.build0 tb ?_; intro bs)))
  refine G.cond rfl (fun h => ?_) (fun h => ?_)
  · have h : 0 < t.ks.length := by simpa using h
    obtain ⟨d', rfl⟩ : ∃ d', d = d' + 1 := by
      cases d with
      | zero => have : t.ks = [] := hw; rw [this] at h; simp at h
      | succ d => exact ⟨d, rfl⟩
    have hw1 := hw.1
    have hsrc : ∀ {Γ : List HProp} (i : Nat), Γ[i]? = some (poolOf H) → Src Go.Proofs.Try.prog ⟨73, [], hF, w0, none⟩ Γ (.slice (slAddr q c (k + 1) 1) (t.ks.length - (k + 1)) (c - (k + 1))) (t.ks.length - (k + 1)) 1 ((ptrs ps).drop ((k + 1) * 1)) := fun i hi =>
      RS.src ((RS.pool i hi hnk).cut (by omega)) (fun u hu => ptrs_one _ u (List.mem_of_mem_drop hu)) (by rw [List.length_drop, hkn, Nat.sub_mul]) ⟨_, _, rfl⟩
    (repeat (first | refine GK.run ?_ | (refine GK.box ?_; intro bl) | (refine GK.mkMap ?_; intro bm) | (refine GK.build0 tb ?_; intro bs)))
    refine G.draw [] [poolOf H] (by kernel_rfl) ?_
    ((first | refine GH.tk 0 [4] ?_ | refine GH.tks 0 [4] ?_); (first | refine GH.tk 1 [4] ?_ | refine GH.tks 1 [4] ?_); (first | refine GH.tk 2 [4] ?_ | refine GH.tks 2 [4] ?_); (first | refine GH.tk 3 [4] ?_ | refine GH.tks 3 [4] ?_); (first | refine GH.tk 4 [4] ?_ | refine GH.tks 4 [4] ?_); (first | refine GH.tk 5 [4] ?_ | refine GH.tks 5 [4] ?_); (first | refine GH.tk 6 [4] ?_ | refine GH.tks 6 [4] ?_); (first | refine GH.tk 7 [4] ?_ | refine GH.tks 7 [4] ?_); (first | refine GH.tk 8 [4] ?_ | refine GH.tks 8 [4] ?_); (first | refine GH.tk 9 [4] ?_ | refine GH.tks 9 [4] ?_); (first | refine GH.tk 10 [4] ?_ | refine GH.tks 10 [4] ?_); (first | refine GH.tk 12 [4] ?_ | refine GH.tks 12 [4] ?_); (first | refine GH.tk 13 [4] ?_ | refine GH.tks 13 [4] ?_); (first | refine GH.tk 14 [4] ?_ | refine GH.tks 14 [4] ?_); (first | refine GH.tk 15 [4] ?_ | refine GH.tks 15 [4] ?_); (first | refine GH.tk 16 [4] ?_ | refine GH.tks 16 [4] ?_); (first | refine GH.tk 17 [4] ?_ | refine GH.tks 17 [4] ?_); (first | refine GH.tk 18 [4] ?_ | refine GH.tks 18 [4] ?_))
    refine GH.step 11 rfl (by kernel_rfl) ?_
    refine Gt.build0 tb (by first | exact Wt.none | exact Wt.some rfl rfl (by first | exact rfl | decide +kernel)) rfl rfl ?_
    intro bs
    refine GH.keep (fun _ s => s.sel [5] rfl) ?_
    refine GH.step 19 rfl (by kernel_rfl) ?_
    refine Gt.append0 tb 0 (m := t.ks.length - (k + 1)) (by first | exact Wt.none | exact Wt.some rfl rfl (by first | exact rfl | decide +kernel)) rfl (.inl ⟨_, rfl⟩) rfl rfl rfl rfl rfl (hsrc 5 rfl) (by omega) (by omega) ?_
    intro p3 c3
    refine GH.keep (fun _ s => s.sel [5] rfl) ?_
    ((first | refine GH.tk 20 [5] ?_ | refine GH.tks 20 [5] ?_); (first | refine GH.tk 21 [5] ?_ | refine GH.tks 21 [5] ?_))
    refine GH.step 22 rfl (by kernel_rfl) ?_
    refine Gt.store tb 3 (by first | exact Wt.none | exact Wt.some rfl rfl (by first | exact rfl | decide +kernel)) rfl rfl rfl rfl rfl rfl rfl rfl ?_
    refine GH.keep (fun _ s => s.sel [5] rfl) ?_
    ((first | refine GH.tk 23 [5] ?_ | refine GH.tks 23 [5] ?_); (first | refine GH.tk 24 [5] ?_ | refine GH.tks 24 [5] ?_))
    refine GH.step 25 rfl (by kernel_rfl) ?_
    refine Gt.store tb 1 (by first | exact Wt.none | exact Wt.some rfl rfl (by first | exact rfl | decide +kernel)) rfl rfl rfl rfl rfl rfl rfl rfl ?_
    refine GH.keep (fun _ s => s.sel [5] rfl) ?_
    refine GH.fin (by kernel_rfl) ?_
    (repeat (first | refine GK.run ?_ | (refine GK.box ?_; intro bl) | (refine GK.mkMap ?_; intro bm) | (refine GK.build0 tb ?_; intro bs)))
    refine G.draw [] [poolOf H] (by kernel_rfl) ?_
    ((first | refine GH.tk 0 [5] ?_ | refine GH.tks 0 [5] ?_); (first | refine GH.tk 1 [5] ?_ | refine GH.tks 1 [5] ?_); (first | refine GH.tk 2 [5] ?_ | refine GH.tks 2 [5] ?_); (first | refine GH.tk 3 [5] ?_ | refine GH.tks 3 [5] ?_); (first | refine GH.tk 4 [5] ?_ | refine GH.tks 4 [5] ?_); (first | refine GH.tk 5 [5] ?_ | refine GH.tks 5 [5] ?_); (first | refine GH.tk 6 [5] ?_ | refine GH.tks 6 [5] ?_); (first | refine GH.tk 7 [5] ?_ | refine GH.tks 7 [5] ?_); (first | refine GH.tk 8 [5] ?_ | refine GH.tks 8 [5] ?_); (first | refine GH.tk 9 [5] ?_ | refine GH.tks 9 [5] ?_))
    refine GH.step 10 rfl (by kernel_rfl) ?_
    refine Gt.storeAny tb 4 (by first | exact Wt.none | exact Wt.some rfl rfl (by first | exact rfl | decide +kernel)) rfl rfl rfl hlenc (entC_one _) rfl hlr ?_
    refine GH.keep (fun _ s => s.sel [5] rfl) ?_
    ((first | refine GH.tk 11 [5] ?_ | refine GH.tks 11 [5] ?_))
    refine GH.fin (by kernel_rfl) ?_
    (repeat (first | refine GK.run ?_ | (refine GK.box ?_; intro bl) | (refine GK.mkMap ?_; intro bm) | (refine GK.build0 tb ?_; intro bs)))
    refine GK.sel [5, 3, 1, 1, 0, 0] rfl ?_
    refine GK.absorb fun H1 k1 le1 x1 y1 => ?_
    refine GK.absorb fun H2 k2 le2 x2 y2 => ?_
    refine GK.absorb fun H3 k3 le3 x3 y3 => ?_
    refine GK.absorb fun H4 k4 le4 x4 y4 => ?_
    have l14 := le2.trans (le3.trans le4)
    have l04 := le1.trans l14
    refine GQ.fin3 rfl (Rv.tmp rfl) (Rv.row rfl (by kernel_rfl) (by kernel_rfl) (Rd.blk 1 rfl) (At.all _)) (Rv.tmp rfl) (fun w s => s.drop1) ⟨H4, a, a2, l04, rfl, rfl, ?_, ?_⟩
    · have ek : (lo t).ks.length = k + 1 := by rw [hlok]; simp; omega
      refine TAt.mk (lv := .slice (some ⟨bb, o, none⟩) k k) (kv := .slice q (k + 1) (k + 1)) (ps := ps.take (k + 1)) ⟨l14 _ _ (pt_in x1 y1), hrl1.mono l04, ?_, by rw [ek]; simp; omega⟩ ?_
      · have := (hnk.take (m := k + 1) (k := k + 1) (by omega) (Nat.le_refl _)).mono l04
        rw [ek, ← ptrs_take]; exact this
      · rw [hlok]; exact kids_take_at (hk.mono l04) _
    · have ek : (hi t).ks.length = t.ks.length - (k + 1) := by rw [hhik]; simp
      refine TAt.mk (lv := .slice p2 (t.l.length - (k + 1)) c2) (kv := .slice p3 (t.ks.length - (k + 1)) c3) (ps := ps.drop (k + 1)) ⟨(le3.trans le4) _ _ (pt_in x2 y2), ?_, ?_, by rw [ek]; simp; omega⟩ ?_
      · rw [hl2, hhil, ← ents_drop]; exact (row_in x3 y3).mono le4
      · rw [ek, ← ptrs_drop]; exact row_in x4 y4
      · rw [hhik]; exact kids_drop_at (hk.mono l04) _
  · have h : t.ks.length = 0 := by simp at h; simp [h]
    have hd0 : d = 0 := hw.leaf.1 (List.length_eq_zero_iff.1 h)
    subst hd0
    (repeat (first | refine GK.run ?_ | (refine GK.box ?_; intro bl) | (refine GK.mkMap ?_; intro bm) | (refine GK.build0 tb ?_; intro bs)))
    refine G.draw [] [poolOf H] (by kernel_rfl) ?_
    ((first | refine GH.tk 0 [4] ?_ | refine GH.tks 0 [4] ?_); (first | refine GH.tk 1 [4] ?_ | refine GH.tks 1 [4] ?_); (first | refine GH.tk 2 [4] ?_ | refine GH.tks 2 [4] ?_); (first | refine GH.tk 3 [4] ?_ | refine GH.tks 3 [4] ?_); (first | refine GH.tk 4 [4] ?_ | refine GH.tks 4 [4] ?_); (first | refine GH.tk 5 [4] ?_ | refine GH.tks 5 [4] ?_); (first | refine GH.tk 6 [4] ?_ | refine GH.tks 6 [4] ?_); (first | refine GH.tk 7 [4] ?_ | refine GH.tks 7 [4] ?_); (first | refine GH.tk 8 [4] ?_ | refine GH.tks 8 [4] ?_); (first | refine GH.tk 9 [4] ?_ | refine GH.tks 9 [4] ?_))
    refine GH.step 10 rfl (by kernel_rfl) ?_
    refine Gt.storeAny tb 3 (by first | exact Wt.none | exact Wt.some rfl rfl (by first | exact rfl | decide +kernel)) rfl rfl rfl hlenc (entC_one _) rfl hlr ?_
    refine GH.keep (fun _ s => s.sel [4] rfl) ?_
    ((first | refine GH.tk 11 [4] ?_ | refine GH.tks 11 [4] ?_))
    refine GH.fin (by kernel_rfl) ?_
    (repeat (first | refine GK.run ?_ | (refine GK.box ?_; intro bl) | (refine GK.mkMap ?_; intro bm) | (refine GK.build0 tb ?_; intro bs)))
    refine GK.sel [4, 2, 0, 0, 0] rfl ?_
    refine GK.absorb fun H1 k1 le1 x1 y1 => ?_
    refine GK.absorb fun H2 k2 le2 x2 y2 => ?_
    refine GK.absorb fun H3 k3 le3 x3 y3 => ?_
    have l13 := le2.trans le3
    have l03 := le1.trans l13
    have hks0 : t.ks = [] := hw
    refine GQ.fin3 rfl (Rv.tmp rfl) (Rv.row rfl (by kernel_rfl) (by kernel_rfl) (Rd.blk 1 rfl) (At.all _)) (Rv.tmp rfl) (fun w s => s.drop1) ⟨H3, a, a2, l03, rfl, rfl, ?_, ?_⟩
    · refine TAt.mk (lv := .slice (some ⟨bb, o, none⟩) k k) (kv := .slice none 0 0) (ps := []) ⟨l13 _ _ (pt_in x1 y1), hrl1.mono l03, ?_, ?_⟩ trivial
      · rw [hlok, hks0, List.take_nil, ptrs_nil]; exact rs.nil
      · rw [hlok, hks0, List.take_nil]; rfl
    · refine TAt.mk (lv := .slice p2 (t.l.length - (k + 1)) c2) (kv := .slice none 0 0) (ps := []) ⟨le3 _ _ (pt_in x2 y2), ?_, ?_, ?_⟩ trivial
      · rw [hl2, hhil, ← ents_drop]; exact row_in x3 y3
      · rw [hhik, hks0, List.drop_nil, ptrs_nil]; exact rs.nil
      · rw [hhik, hks0, List.drop_nil]; rfl
end Go.Tr
