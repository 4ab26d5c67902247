/- A node's put. -/
import Derived.Test.YtkmdehoofnlkbaaTrF
namespace Go.Tr
open Go Go.Sl
theorem ents_set {l : List En} {i : Nat} (h : i < l.length) (e : En) : splice (ents l) (i * 2) (entC e) = ents (l.set i e) := flatMap_splice (f := entC) (sz := 2) (fun _ => rfl) h
theorem ptrs_set {l : List Nat} {i : Nat} (h : i < l.length) (b : Nat) : (ptrs l).set (i * 1) (nptr b) = ptrs (l.set i b) := by
  have := flatMap_splice (f := fun b => [nptr b]) (sz := 1) (fun _ => rfl) (i := i) (a := b) h
  rw [← splice_one (by rw [ptrs_len]; omega)]
  exact this
theorem kids_set_at {H : Hp} {d : Nat} {ks : List T} {ps : List Nat} (h : KidsAt H (d + 1) ks ps) {i : Nat} {k : T} {b : Nat} (hk : TAt H d k b) : KidsAt H (d + 1) (ks.set i k) (ps.set i b) := by
  intro j p x h1 h2
  rw [List.getElem?_set] at h1 h2
  by_cases e : i = j
  · rw [if_pos e] at h1 h2
    split at h1
    · split at h2
      · cases h1; cases h2; exact hk
      · cases h2
    · cases h1
  · rw [if_neg e] at h1 h2; exact h j p x h1 h2
theorem ins_get {α : Type} {l : List α} {i : Nat} (hi : i ≤ l.length) {x : α} (j : Nat) : (ins l i x)[j]? = if j < i then l[j]? else if j = i then some x else l[j - 1]? := by
  unfold ins
  by_cases h : j < i
  · rw [if_pos h, List.getElem?_append_left (by simp; omega), List.getElem?_take, if_pos h]
  · rw [if_neg h, List.getElem?_append_right (by simp; omega)]
    have hl : (l.take i).length = i := by simp; omega
    rw [hl]
    by_cases h2 : j = i
    · rw [if_pos h2, h2, Nat.sub_self]; rfl
    · rw [if_neg h2]
      obtain ⟨m, hm⟩ : ∃ m, j - i = m + 1 := ⟨j - i - 1, by omega⟩
      rw [hm, List.getElem?_cons_succ, List.getElem?_drop]
      congr 1; omega
theorem kids_ins_at {H : Hp} {d : Nat} {ks : List T} {ps : List Nat} (h : KidsAt H (d + 1) ks ps) (hlen : ps.length = ks.length) {i : Nat} (hi : i ≤ ks.length) {k : T} {b : Nat} (hk : TAt H d k b) : KidsAt H (d + 1) (ins ks i k) (ins ps i b) := by
  intro j p x h1 h2
  rw [ins_get (by omega)] at h1 h2
  split at h1
  · rename_i hj; rw [if_pos hj] at h2; exact h j p x h1 h2
  · rename_i hj
    rw [if_neg hj] at h2
    split at h1
    · rename_i e; rw [if_pos e] at h2; cases h1; cases h2; exact hk
    · rename_i e; rw [if_neg e] at h2; exact h _ p x h1 h2
/-- A node from which a put goes. -/
structure Good (H : Hp) (d : Nat) (t : T) (b : Nat) : Prop where
  at_ : TAt H d t b
  wf : WF d t
  srt : Srt (flat d t)
  kids : Kids d t
  most : t.l.length ≤ 7
theorem Good.mono {H H' : Hp} {d : Nat} {t : T} {b : Nat} (h : Good H d t b) (hl : le H H') : Good H' d t b := ⟨h.at_.mono hl, h.wf, h.srt, h.kids, h.most⟩
theorem Good.ksl {H : Hp} {d : Nat} {t : T} {b : Nat} (h : Good H d t b) : t.ks.length ≤ 8 := by
  have := h.most
  cases d with
  | zero => have h0 : t.ks = [] := h.wf; rw [h0]; simp
  | succ d => have := h.wf.1; omega
theorem Good.kid {H : Hp} {d : Nat} {t : T} {b : Nat} (h : Good H (d + 1) t b) {i : Nat} {k : T} (hi : t.ks[i]? = some k) {ps : List Nat} (hk : KidsAt H (d + 1) t.ks ps) (hlen : ps.length = t.ks.length) : ∃ p, ps[i]? = some p ∧ Good H d k p := by
  have hlt := (List.getElem?_eq_some_iff.1 hi).1
  have hm : k ∈ t.ks := List.mem_of_getElem? hi
  obtain ⟨⟨s1, s2⟩, s3⟩ := sz_iff.1 (h.kids _ hm)
  refine ⟨ps[i], List.getElem?_eq_getElem (by omega), hk i _ _ (List.getElem?_eq_getElem (by omega)) hi, h.wf.2 _ hm, ?_, s3, s2⟩
  obtain ⟨e1, e2⟩ := split_kid hi
  have ht : t = .mk (t.l.take i ++ t.l.drop i) (t.ks.take i ++ k :: t.ks.drop (i + 1)) := by rw [List.take_append_drop, ← e1, T.eta]
  have hf := @flat_split d (t.l.take i) (t.l.drop i) (t.ks.take i) (t.ks.drop (i + 1)) k (by have := h.wf.1; simp; omega)
  rw [← ht] at hf
  have := h.srt
  rw [hf] at this
  exact srt_right (srt_left this)
attribute [local irreducible] GK GO Yl Wt Ef Hd GH KH wpListIn Code.wpIn toBody roundQ poolOf rs RS YieldOk IterOk VOk row star exs mp lp Sat pt FnOk Rd bodyPost bodyPostM Lv Ret Exit.then Exit.inBlock Exit.noGoto Int.decLt Int.decLe Int.instDecidableEq
attribute [local irreducible] ents ptrs
variable {hF : Hp}
/-- A node that is done goes into the pool. -/
theorem GK.node {cx : Cx} {K : Act → World → Prop} {fr : Fr} {Γ : List HProp} {H : Hp} {nb : Nat} {p q : Option Addr} {cp cq n m : Nat} {t : T} {ps : List Nat} (hn : n = t.l.length) (hm : m = t.ks.length) (hps : ps.length = t.ks.length)
    (h : ∀ H', le H H' → NodeAt H' t nb (.slice p n cp) (.slice q m cq) ps → GK cx K fr (poolOf H' :: Γ)) :
    GK cx K fr (poolOf H :: nblk nb (.slice p n cp) (.slice q m cq) :: row (.slice p n cp) 59 2 n (ents t.l) :: row (.slice q m cq) 46 1 m (ptrs ps) :: Γ) := by
  subst hn hm
  refine GK.absorb fun H1 k1 le1 x1 y1 => ?_
  refine GK.absorb fun H2 k2 le2 x2 y2 => ?_
  refine GK.absorb fun H3 k3 le3 x3 y3 => ?_
  exact h H3 (le1.trans (le2.trans le3)) ⟨(le2.trans le3) _ _ (pt_in x1 y1), (row_in x2 y2).mono le3, row_in x3 y3, hps⟩
set_option maxHeartbeats 2000000 in
theorem put_ok : ∀ (d : Nat) (t : T) (b : Nat) (H hF : Hp) (e : En), Good H d t b → FnOk Go.Proofs.Try.prog 30 [nptr b, .agg ⟨entC e⟩] [poolOf H] hF
    (fun v Γ => ∃ H' b', le H H' ∧ v = .tuple #[nptr b', .bool (put d t e).2] ∧ Γ = [poolOf H'] ∧ TAt H' d (put d t e).1 b') := by
  intro d
  induction d with
  | zero =>
    intro t b H hF e hg
    refine FnOk.intro 112 Go.Proofs.Try.func30 rfl rfl fun w0 => ?_
    obtain ⟨lv, kv, ps, hn, hk⟩ := hg.at_.node
    have hnd := hn.nd
    have hlen := hn.len
    have hm := hg.most
    have hw := hg.wf
    have hks := hg.ksl
    have hsl := srt_l hg.wf hg.srt
    have hp := pos_le t.l e.1
    have hn' := hn
    obtain ⟨q0, c0, rfl, hc0, hkn, hr⟩ := hn.k.out
    obtain ⟨p0, e0, rfl, he0, hln, hrl⟩ := hn.l.out
    (repeat (first | refine GK.run ?_ | (refine GK.box ?_; intro bl) | (refine GK.mkMap ?_; intro bm) | (refine GK.build0 tb ?_; intro bs)))
    refine GL.cons ?_; refine GO.call [1] (fun hF' hle hH => find_ok hn' hsl (by omega) e.1) (by first | exact Wt.none | exact Wt.some rfl rfl (by first | exact rfl | decide +kernel)) (by kernel_rfl) rfl rfl rfl ?_
    rintro v Γ' ⟨rfl, rfl⟩
    (repeat (first | refine GK.run ?_ | (refine GK.box ?_; intro bl) | (refine GK.mkMap ?_; intro bm) | (refine GK.build0 tb ?_; intro bs)))
    refine GL.cons ?_; refine GO.call [0] (fun hF' hle hH => copied_ok hn' (by omega) (by omega)) (by first | exact Wt.none | exact Wt.some rfl rfl (by first | exact rfl | decide +kernel)) (by kernel_rfl) rfl rfl rfl ?_
    rintro v Γ' ⟨nb, p, cp, q, cq, rfl, rfl⟩
    (repeat (first | refine GK.run ?_ | (refine GK.box ?_; intro bl) | (refine GK.mkMap ?_; intro bm) | (refine GK.build0 tb ?_; intro bs)))
    obtain ⟨i, hi0⟩ : ∃ i, pos t.l e.1 = i := ⟨_, rfl⟩
    rw [hi0] at hp ⊢
    refine G.cond rfl (fun hh => ?_) (fun hh => ?_)
    · have hit_i := hit_lt hh
      rw [hi0] at hit_i
      refine GK.rowPtr 1 rfl (by omega) fun pb hpb => ?_
      subst hpb
      (repeat (first | refine GK.run ?_ | (refine GK.box ?_; intro bl) | (refine GK.mkMap ?_; intro bm) | (refine GK.build0 tb ?_; intro bs)))
      have hput : put 0 t e = (.mk (t.l.set i e) t.ks, true) := by simp only [put, hh, if_true, hi0]
      rw [hput]
      have hel := entC_len e
      have hone : (ents t.l).length = t.l.length * 2 := ents_len _
      refine G.draw [] [nblk nb (.slice (some ⟨pb, 0, none⟩) t.l.length cp) (.slice q t.ks.length cq), blk bl 59 (0, 0) (entC e)] (by kernel_rfl) ?_
      ((first | refine GH.tk 0 [0,3] ?_ | refine GH.tks 0 [0,3] ?_); (first | refine GH.tk 1 [0,3] ?_ | refine GH.tks 1 [0,3] ?_); (first | refine GH.tk 2 [0,3] ?_ | refine GH.tks 2 [0,3] ?_); (first | refine GH.tk 3 [0,3] ?_ | refine GH.tks 3 [0,3] ?_); (first | refine GH.tk 4 [0,3] ?_ | refine GH.tks 4 [0,3] ?_); (first | refine GH.tk 5 [0,3] ?_ | refine GH.tks 5 [0,3] ?_); (first | refine GH.tk 6 [0,3] ?_ | refine GH.tks 6 [0,3] ?_))
      refine GH.step 7 rfl (by kernel_rfl) ?_
      refine Gt.storeWRow tb 1 (by first | exact Wt.none | exact Wt.some rfl rfl (by first | exact rfl | decide +kernel)) rfl rfl rfl hel (entC_one e) rfl (by show 0 + i * 2 + 2 ≤ _; rw [hone]; omega) (by rw [hone]; omega) ?_
      refine GH.keep (fun _ s => s.sel [1,3] rfl) ?_
      refine GH.fin (by kernel_rfl) ?_
      (repeat (first | refine GK.run ?_ | (refine GK.box ?_; intro bl) | (refine GK.mkMap ?_; intro bm) | (refine GK.build0 tb ?_; intro bs)))
      have hset : splice (ents t.l) (0 + (i : Int).toNat * 2) (List.take 2 (List.drop 0 (entC e))) = ents (t.l.set i e) := by
        show splice (ents t.l) (0 + i * 2) (entC e) = _
        rw [Nat.zero_add]; exact ents_set hit_i e
      rw [hset]
      refine GK.sel [3, 1, 0, 0, 0] rfl ?_
      refine GK.node (t := .mk (t.l.set i e) t.ks) (by simp) rfl hlen fun H' le' hn2 => ?_
      exact GQ.fin2 rfl (Rv.tmp rfl) (Rv.tmp rfl) (fun w s => s.drop1) ⟨H', nb, le', rfl, rfl, TAt.mk hn2 (hk.mono le')⟩
    · have hh : hit t.l e.1 = false := hh
      have hks0 : t.ks = [] := hw
      have hl0 : t.ks.length = 0 := by rw [hks0]; rfl
      have hput : put 0 t e = (.mk (ins t.l i e) t.ks, false) := by simp only [put, hh, Bool.false_eq_true, if_false, hi0]
      rw [hput]
      (repeat (first | refine GK.run ?_ | (refine GK.box ?_; intro bl) | (refine GK.mkMap ?_; intro bm) | (refine GK.build0 tb ?_; intro bs)))
      refine G.cond rfl (fun h0 => ?_) (fun h0 => ?_)
      rotate_left
      · exfalso
        simp [hks0] at h0
      refine GK.rowCap 1 rfl fun hcp _ => ?_
      (repeat (first | refine GK.run ?_ | (refine GK.box ?_; intro bl) | (refine GK.mkMap ?_; intro bm) | (refine GK.build0 tb ?_; intro bs)))
      refine G.draw [10] [nblk nb (.slice p t.l.length cp) (.slice q t.ks.length cq), blk bl 59 (0, 0) (entC e)] (by kernel_rfl) ?_
      ((first | refine GH.tk 0 [0,3] ?_ | refine GH.tks 0 [0,3] ?_); (first | refine GH.tk 1 [0,3] ?_ | refine GH.tks 1 [0,3] ?_); (first | refine GH.tk 2 [0,3] ?_ | refine GH.tks 2 [0,3] ?_); (first | refine GH.tk 3 [0,3] ?_ | refine GH.tks 3 [0,3] ?_); (first | refine GH.tk 4 [0,3] ?_ | refine GH.tks 4 [0,3] ?_); (first | refine GH.tk 5 [0,3] ?_ | refine GH.tks 5 [0,3] ?_); (first | refine GH.tk 6 [0,3] ?_ | refine GH.tks 6 [0,3] ?_))
      refine GH.step 7 rfl (by kernel_rfl) ?_
      refine GO.call [1] (fun hF' _ _ => insE_ok (Γ := [row (.slice p t.l.length cp) 59 2 t.l.length (ents t.l)]) t.l rfl (RS.row 0 rfl) i hp hcp (by omega) e) (by first | exact Wt.none | exact Wt.some rfl rfl (by first | exact rfl | decide +kernel)) (by kernel_rfl) rfl rfl rfl ?_
      rintro v Γ' ⟨p2, c2, rfl, rfl⟩
      refine GH.keep (fun _ s => s.sel [2,4] rfl) ?_
      ((first | refine GH.tk 8 [2,4] ?_ | refine GH.tks 8 [2,4] ?_); (first | refine GH.tk 9 [2,4] ?_ | refine GH.tks 9 [2,4] ?_))
      refine GH.step 10 rfl (by kernel_rfl) ?_
      refine Gt.store tb 2 (by first | exact Wt.none | exact Wt.some rfl rfl (by first | exact rfl | decide +kernel)) rfl rfl rfl rfl rfl rfl rfl rfl ?_
      refine GH.on rfl ?_
      refine GH.fin (by kernel_rfl) ?_
      (repeat (first | refine GK.run ?_ | (refine GK.box ?_; intro bl) | (refine GK.mkMap ?_; intro bm) | (refine GK.build0 tb ?_; intro bs)))
      refine GK.sel [4, 2, 0, 1] rfl ?_
      refine GK.node (t := .mk (ins t.l i e) t.ks) (ins_length hp _).symm rfl hlen fun H' le' hn2 => ?_
      exact GQ.fin2 rfl (Rv.tmp rfl) (Rv.tmp rfl) (fun w s => s) ⟨H', nb, le', rfl, rfl, TAt.mk hn2 (hk.mono le')⟩
  | succ d ih =>
    intro t b H hF e hg
    refine FnOk.intro 112 Go.Proofs.Try.func30 rfl rfl fun w0 => ?_
    obtain ⟨lv, kv, ps, hn, hk⟩ := hg.at_.node
    have hnd := hn.nd
    have hlen := hn.len
    have hm := hg.most
    have hw := hg.wf
    have hks := hg.ksl
    have hsl := srt_l hg.wf hg.srt
    have hp := pos_le t.l e.1
    have hn' := hn
    obtain ⟨q0, c0, rfl, hc0, hkn, hr⟩ := hn.k.out
    obtain ⟨p0, e0, rfl, he0, hln, hrl⟩ := hn.l.out
    (repeat (first | refine GK.run ?_ | (refine GK.box ?_; intro bl) | (refine GK.mkMap ?_; intro bm) | (refine GK.build0 tb ?_; intro bs)))
    refine GL.cons ?_; refine GO.call [1] (fun hF' hle hH => find_ok hn' hsl (by omega) e.1) (by first | exact Wt.none | exact Wt.some rfl rfl (by first | exact rfl | decide +kernel)) (by kernel_rfl) rfl rfl rfl ?_
    rintro v Γ' ⟨rfl, rfl⟩
    (repeat (first | refine GK.run ?_ | (refine GK.box ?_; intro bl) | (refine GK.mkMap ?_; intro bm) | (refine GK.build0 tb ?_; intro bs)))
    refine GL.cons ?_; refine GO.call [0] (fun hF' hle hH => copied_ok hn' (by omega) (by omega)) (by first | exact Wt.none | exact Wt.some rfl rfl (by first | exact rfl | decide +kernel)) (by kernel_rfl) rfl rfl rfl ?_
    rintro v Γ' ⟨nb, p, cp, q, cq, rfl, rfl⟩
    (repeat (first | refine GK.run ?_ | (refine GK.box ?_; intro bl) | (refine GK.mkMap ?_; intro bm) | (refine GK.build0 tb ?_; intro bs)))
    obtain ⟨i, hi0⟩ : ∃ i, pos t.l e.1 = i := ⟨_, rfl⟩
    rw [hi0] at hp ⊢
    refine G.cond rfl (fun hh => ?_) (fun hh => ?_)
    · have hit_i := hit_lt hh
      rw [hi0] at hit_i
      refine GK.rowPtr 1 rfl (by omega) fun pb hpb => ?_
      subst hpb
      (repeat (first | refine GK.run ?_ | (refine GK.box ?_; intro bl) | (refine GK.mkMap ?_; intro bm) | (refine GK.build0 tb ?_; intro bs)))
      have hput : put (d + 1) t e = (.mk (t.l.set i e) t.ks, true) := by simp only [put, hh, if_true, hi0]
      rw [hput]
      have hel := entC_len e
      have hone : (ents t.l).length = t.l.length * 2 := ents_len _
      refine G.draw [] [nblk nb (.slice (some ⟨pb, 0, none⟩) t.l.length cp) (.slice q t.ks.length cq), blk bl 59 (0, 0) (entC e)] (by kernel_rfl) ?_
      ((first | refine GH.tk 0 [0,3] ?_ | refine GH.tks 0 [0,3] ?_); (first | refine GH.tk 1 [0,3] ?_ | refine GH.tks 1 [0,3] ?_); (first | refine GH.tk 2 [0,3] ?_ | refine GH.tks 2 [0,3] ?_); (first | refine GH.tk 3 [0,3] ?_ | refine GH.tks 3 [0,3] ?_); (first | refine GH.tk 4 [0,3] ?_ | refine GH.tks 4 [0,3] ?_); (first | refine GH.tk 5 [0,3] ?_ | refine GH.tks 5 [0,3] ?_); (first | refine GH.tk 6 [0,3] ?_ | refine GH.tks 6 [0,3] ?_))
      refine GH.step 7 rfl (by kernel_rfl) ?_
      refine Gt.storeWRow tb 1 (by first | exact Wt.none | exact Wt.some rfl rfl (by first | exact rfl | decide +kernel)) rfl rfl rfl hel (entC_one e) rfl (by show 0 + i * 2 + 2 ≤ _; rw [hone]; omega) (by rw [hone]; omega) ?_
      refine GH.keep (fun _ s => s.sel [1,3] rfl) ?_
      refine GH.fin (by kernel_rfl) ?_
      (repeat (first | refine GK.run ?_ | (refine GK.box ?_; intro bl) | (refine GK.mkMap ?_; intro bm) | (refine GK.build0 tb ?_; intro bs)))
      have hset : splice (ents t.l) (0 + (i : Int).toNat * 2) (List.take 2 (List.drop 0 (entC e))) = ents (t.l.set i e) := by
        show splice (ents t.l) (0 + i * 2) (entC e) = _
        rw [Nat.zero_add]; exact ents_set hit_i e
      rw [hset]
      refine GK.sel [3, 1, 0, 0, 0] rfl ?_
      refine GK.node (t := .mk (t.l.set i e) t.ks) (by simp) rfl hlen fun H' le' hn2 => ?_
      exact GQ.fin2 rfl (Rv.tmp rfl) (Rv.tmp rfl) (fun w s => s.drop1) ⟨H', nb, le', rfl, rfl, TAt.mk hn2 (hk.mono le')⟩
    · have hh : hit t.l e.1 = false := hh
      have hw1 := hw.1
      obtain ⟨k, hkk⟩ : ∃ k, t.ks[i]? = some k := ⟨_, List.getElem?_eq_getElem (by omega)⟩
      obtain ⟨pk, hpk, hgk⟩ := hg.kid hkk hk hlen
      obtain ⟨bb, o, cs, et, fz, rfl, hbb, hat⟩ := hr (by omega)
      have hld : cs[o + (i : Int).toNat * 1]? = some (nptr pk) := hat _ _ (ptrs_get hpk)
      obtain ⟨pf1, pf2, pf3⟩ := put_flat d k e hgk.wf hgk.srt
      obtain ⟨⟨ps1, ps2⟩, ps3⟩ := put_size d k e hgk.kids
      have hsz := (sz_iff.1 (hg.kids k (List.mem_of_getElem? hkk))).1
      (repeat (first | refine GK.run ?_ | (refine GK.box ?_; intro bl) | (refine GK.mkMap ?_; intro bm) | (refine GK.build0 tb ?_; intro bs)))
      refine G.cond rfl (fun h0 => ?_) (fun h0 => ?_)
      · exfalso
        have h0 : t.ks = [] := by simpa using h0
        rw [h0] at hw1; simp at hw1
      have hput : put (d + 1) t e = if 7 < (put d k e).1.l.length then (.mk (ins t.l i (mid (put d k e).1)) (ins (t.ks.set i (lo (put d k e).1)) (i + 1) (hi (put d k e).1)), (put d k e).2) else (.mk t.l (t.ks.set i (put d k e).1), (put d k e).2) := by
        simp only [put, hh, Bool.false_eq_true, if_false, hi0, hkk]
      rw [hput]
      obtain ⟨r, hrr⟩ : ∃ r, put d k e = r := ⟨_, rfl⟩
      have hih := ih k pk H
      rw [hrr] at pf1 pf2 pf3 ps1 ps2 ps3 ⊢
      (repeat (first | refine GK.run ?_ | (refine GK.box ?_; intro bl) | (refine GK.mkMap ?_; intro bm) | (refine GK.build0 tb ?_; intro bs)))
      refine G.draw [] [poolGe H, blk bl 59 (0, 0) (entC e)] (by kernel_rfl) ?_
      ((first | refine GH.tkg 0 (fun _ s => ((s.sel [3, 3] rfl).poolGe (le.refl _))) ?_ | refine GH.tkgs 0 (fun _ s => ((s.sel [3, 3] rfl).poolGe (le.refl _))) ?_); (first | refine GH.tkg 1 (fun _ s => ((s.sel [3, 3] rfl).poolGe (le.refl _))) ?_ | refine GH.tkgs 1 (fun _ s => ((s.sel [3, 3] rfl).poolGe (le.refl _))) ?_); (first | refine GH.tkg 2 (fun _ s => ((s.sel [3, 3] rfl).poolGe (le.refl _))) ?_ | refine GH.tkgs 2 (fun _ s => ((s.sel [3, 3] rfl).poolGe (le.refl _))) ?_); (first | refine GH.tkg 3 (fun _ s => ((s.sel [3, 3] rfl).poolGe (le.refl _))) ?_ | refine GH.tkgs 3 (fun _ s => ((s.sel [3, 3] rfl).poolGe (le.refl _))) ?_); (first | refine GH.tkg 4 (fun _ s => ((s.sel [3, 3] rfl).poolGe (le.refl _))) ?_ | refine GH.tkgs 4 (fun _ s => ((s.sel [3, 3] rfl).poolGe (le.refl _))) ?_); (first | refine GH.tkg 5 (fun _ s => ((s.sel [3, 3] rfl).poolGe (le.refl _))) ?_ | refine GH.tkgs 5 (fun _ s => ((s.sel [3, 3] rfl).poolGe (le.refl _))) ?_); (first | refine GH.tkg 6 (fun _ s => ((s.sel [3, 3] rfl).poolGe (le.refl _))) ?_ | refine GH.tkgs 6 (fun _ s => ((s.sel [3, 3] rfl).poolGe (le.refl _))) ?_); (first | refine GH.tkg 7 (fun _ s => ((s.sel [3, 3] rfl).poolGe (le.refl _))) ?_ | refine GH.tkgs 7 (fun _ s => ((s.sel [3, 3] rfl).poolGe (le.refl _))) ?_))
      refine GH.step 8 rfl (by kernel_rfl) ?_
      refine GO.call [3] (fun hF' _ _ => hih hF' e hgk) (by first | exact Wt.none | exact Wt.some rfl rfl (by first | exact rfl | decide +kernel)) (by kernel_rfl) rfl rfl rfl ?_
      rintro v Γ' ⟨H1, b1, le1, rfl, rfl, hT1⟩
      rw [hrr] at hT1 ⊢
      refine GH.keep (fun _ s => ((s.sel [0, 3] rfl).poolGe le1)) ?_
      ((first | refine GH.tkg 9 (fun _ s => ((s.sel [0, 3] rfl).poolGe le1)) ?_ | refine GH.tkgs 9 (fun _ s => ((s.sel [0, 3] rfl).poolGe le1)) ?_); (first | refine GH.tkg 10 (fun _ s => ((s.sel [0, 3] rfl).poolGe le1)) ?_ | refine GH.tkgs 10 (fun _ s => ((s.sel [0, 3] rfl).poolGe le1)) ?_); (first | refine GH.tkg 11 (fun _ s => ((s.sel [0, 3] rfl).poolGe le1)) ?_ | refine GH.tkgs 11 (fun _ s => ((s.sel [0, 3] rfl).poolGe le1)) ?_); (first | refine GH.tkg 12 (fun _ s => ((s.sel [0, 3] rfl).poolGe le1)) ?_ | refine GH.tkgs 12 (fun _ s => ((s.sel [0, 3] rfl).poolGe le1)) ?_); (first | refine GH.tkg 13 (fun _ s => ((s.sel [0, 3] rfl).poolGe le1)) ?_ | refine GH.tkgs 13 (fun _ s => ((s.sel [0, 3] rfl).poolGe le1)) ?_))
      refine GH.fin (by kernel_rfl) ?_
      (repeat (first | refine GK.run ?_ | (refine GK.box ?_; intro bl) | (refine GK.mkMap ?_; intro bm) | (refine GK.build0 tb ?_; intro bs)))
      refine GK.rowPtr 3 rfl (by omega) fun qb hqb => ?_
      subst hqb
      refine GK.rowCap 2 rfl fun hcp _ => ?_
      refine GK.rowCap 3 rfl fun hcq _ => ?_
      (repeat (first | refine GK.run ?_ | (refine GK.box ?_; intro bl) | (refine GK.mkMap ?_; intro bm) | (refine GK.build0 tb ?_; intro bs)))
      refine GL.cons ?_
      refine Gt.storeW tb 3 (by first | exact Wt.none | exact Wt.some rfl rfl (by first | exact rfl | decide +kernel)) rfl rfl rfl rfl rfl (by show 0 + i * 1 < _; rw [ptrs_len]; omega) ?_
      have hset : (ptrs ps).set (0 + (i : Int).toNat * 1) (nptr b1) = ptrs (ps.set i b1) := by
        show (ptrs ps).set (0 + i * 1) (nptr b1) = _
        rw [Nat.zero_add]; exact ptrs_set (by omega) b1
      refine GK.weak (Γ' := [row (.slice (some ⟨qb, 0, none⟩) t.ks.length cq) 46 1 t.ks.length (ptrs (ps.set i b1)), poolOf H1, nblk nb (.slice p t.l.length cp) (.slice (some ⟨qb, 0, none⟩) t.ks.length cq), row (.slice p t.l.length cp) 59 2 t.l.length (ents t.l), blk bl 59 (0, 0) (entC e)]) (fr' := [(4, .pointer none), (5, .bool false), (6, .int .i64 i), (8, nptr nb), (9, nptr b1), (10, .bool r.2)]) (by repeat (first | exact trivial | refine ⟨rfl, ?_⟩)) (fun w s => by rw [← hset]; exact s) ?_
      obtain ⟨lv1, kv1, ps1', hn1, hk1⟩ := hT1.node
      have hnd1 := hn1.nd
      obtain ⟨p1, e1, rfl, he1, hln1, hrl1⟩ := hn1.l.out
      (repeat (first | refine GK.run ?_ | (refine GK.box ?_; intro bl) | (refine GK.mkMap ?_; intro bm) | (refine GK.build0 tb ?_; intro bs)))
      refine G.cond rfl (fun h7 => ?_) (fun h7 => ?_)
      · have h7 : 7 < r.1.l.length := by simp at h7; omega
        rw [if_pos h7]
        (repeat (first | refine GK.run ?_ | (refine GK.box ?_; intro bl) | (refine GK.mkMap ?_; intro bm) | (refine GK.build0 tb ?_; intro bs)))
        refine GL.cons ?_; refine GO.call [1] (fun hF' hle hH => halves_ok (b := b1) (t := r.1) (d := d) ⟨hT1, pf3, ps3, by omega, by omega⟩) (by first | exact Wt.none | exact Wt.some rfl rfl (by first | exact rfl | decide +kernel)) (by kernel_rfl) rfl rfl rfl ?_
        rintro v Γ' ⟨H2, a1, a2, le2, rfl, rfl, hTa, hTb⟩
        (repeat (first | refine GK.run ?_ | (refine GK.box ?_; intro bl) | (refine GK.mkMap ?_; intro bm) | (refine GK.build0 tb ?_; intro bs)))
        refine GL.cons ?_; refine Gt.allocAny tb (by first | exact Wt.none | exact Wt.some rfl rfl (by first | exact rfl | decide +kernel)) (by exact rfl) (by exact rfl) ?_
        intro bm lm hlm
        (repeat (first | refine GK.run ?_ | (refine GK.box ?_; intro bl) | (refine GK.mkMap ?_; intro bm) | (refine GK.build0 tb ?_; intro bs)))
        refine GL.cons ?_
        refine Gt.storeAny tb 0 (by first | exact Wt.none | exact Wt.some rfl rfl (by first | exact rfl | decide +kernel)) rfl rfl rfl (entC_len _) (entC_one _) rfl hlm ?_
        (repeat (first | refine GK.run ?_ | (refine GK.box ?_; intro bl) | (refine GK.mkMap ?_; intro bm) | (refine GK.build0 tb ?_; intro bs)))
        refine G.draw [10] [nblk nb (.slice p t.l.length cp) (.slice (some ⟨qb, 0, none⟩) t.ks.length cq), blk bm 59 (0, 0) (entC (mid r.1))] (by kernel_rfl) ?_
        ((first | refine GH.tk 0 [3,0] ?_ | refine GH.tks 0 [3,0] ?_); (first | refine GH.tk 1 [3,0] ?_ | refine GH.tks 1 [3,0] ?_); (first | refine GH.tk 2 [3,0] ?_ | refine GH.tks 2 [3,0] ?_); (first | refine GH.tk 3 [3,0] ?_ | refine GH.tks 3 [3,0] ?_); (first | refine GH.tk 4 [3,0] ?_ | refine GH.tks 4 [3,0] ?_); (first | refine GH.tk 5 [3,0] ?_ | refine GH.tks 5 [3,0] ?_); (first | refine GH.tk 6 [3,0] ?_ | refine GH.tks 6 [3,0] ?_))
        refine GH.step 7 rfl (by kernel_rfl) ?_
        refine GO.call [4] (fun hF' _ _ => insE_ok (Γ := [row (.slice p t.l.length cp) 59 2 t.l.length (ents t.l)]) t.l rfl (RS.row 0 rfl) i hp hcp (by omega) (mid r.1)) (by first | exact Wt.none | exact Wt.some rfl rfl (by first | exact rfl | decide +kernel)) (by kernel_rfl) rfl rfl rfl ?_
        rintro v Γ' ⟨p2, c2, rfl, rfl⟩
        refine GH.keep (fun _ s => s.sel [5,2] rfl) ?_
        ((first | refine GH.tk 8 [5,2] ?_ | refine GH.tks 8 [5,2] ?_); (first | refine GH.tk 9 [5,2] ?_ | refine GH.tks 9 [5,2] ?_))
        refine GH.step 10 rfl (by kernel_rfl) ?_
        refine Gt.store tb 5 (by first | exact Wt.none | exact Wt.some rfl rfl (by first | exact rfl | decide +kernel)) rfl rfl rfl rfl rfl rfl rfl rfl ?_
        refine GH.on rfl ?_
        refine GH.fin (by kernel_rfl) ?_
        (repeat (first | refine GK.run ?_ | (refine GK.box ?_; intro bl) | (refine GK.mkMap ?_; intro bm) | (refine GK.build0 tb ?_; intro bs)))
        refine GL.cons ?_
        refine Gt.storeW tb 4 (by first | exact Wt.none | exact Wt.some rfl rfl (by first | exact rfl | decide +kernel)) rfl rfl rfl rfl rfl (by show 0 + i * 1 < _; rw [ptrs_len]; simp; omega) ?_
        have hset2 : (ptrs (ps.set i b1)).set (0 + (i : Int).toNat * 1) (nptr a1) = ptrs (ps.set i a1) := by
          show (ptrs (ps.set i b1)).set (0 + i * 1) (nptr a1) = _
          rw [Nat.zero_add, ptrs_set (by simp; omega) a1, List.set_set]
        rw [show #[nptr a1, Value.agg { toList := entC (mid r.1) }, nptr a2][0] = nptr a1 from rfl, hset2]
        (repeat (first | refine GK.run ?_ | (refine GK.box ?_; intro bl) | (refine GK.mkMap ?_; intro bm) | (refine GK.build0 tb ?_; intro bs)))
        refine GL.cons ?_; refine GO.call [0] (fun hF' hle hH => insP_ok (Γ := [row (.slice (some ⟨qb, 0, none⟩) t.ks.length cq) 46 1 t.ks.length (ptrs (ps.set i a1))]) (ps.set i a1) (by simp [hlen]) (RS.row 0 rfl) (i + 1) (by omega) hcq (by omega) a2) (by first | exact Wt.none | exact Wt.some rfl rfl (by first | exact rfl | decide +kernel)) (by kernel_rfl) rfl rfl rfl ?_
        rintro v Γ' ⟨p3, c3, rfl, rfl⟩
        (repeat (first | refine GK.run ?_ | (refine GK.box ?_; intro bl) | (refine GK.mkMap ?_; intro bm) | (refine GK.build0 tb ?_; intro bs)))
        refine GK.sel [5, 5, 2, 0] rfl ?_
        refine GK.node (t := .mk (ins t.l i (mid r.1)) (ins (t.ks.set i (lo r.1)) (i + 1) (hi r.1))) (ins_length hp _).symm (by rw [T.ks_mk, ins_length (by simp; omega)]; simp) (by rw [T.ks_mk, ins_length (by simp; omega), ins_length (by simp; omega)]; simp [hlen]) fun H' le' hn2 => ?_
        refine GQ.fin2 rfl (Rv.tmp rfl) (Rv.tmp rfl) (fun w s => s) ⟨H', nb, le1.trans (le2.trans le'), rfl, rfl, TAt.mk hn2 ?_⟩
        exact (kids_ins_at (kids_set_at (hk.mono (le1.trans le2)) hTa) (by simp [hlen]) (by simp; omega) hTb).mono le'
      · have h7 : ¬ 7 < r.1.l.length := by simp at h7; omega
        rw [if_neg h7]
        (repeat (first | refine GK.run ?_ | (refine GK.box ?_; intro bl) | (refine GK.mkMap ?_; intro bm) | (refine GK.build0 tb ?_; intro bs)))
        refine GK.sel [1, 1, 1, 0, 0] rfl ?_
        refine GK.node (t := .mk t.l (t.ks.set i r.1)) rfl (by simp) (by simp [hlen]) fun H' le' hn2 => ?_
        refine GQ.fin2 rfl (Rv.tmp rfl) (Rv.tmp rfl) (fun w s => s.drop1) ⟨H', nb, le1.trans le', rfl, rfl, TAt.mk hn2 ?_⟩
        exact (kids_set_at (hk.mono le1) hT1).mono le'
end Go.Tr
