/- A node's last entry; its halves. -/
import Derived.Test.YtkmdehoofnlkbaaTrD
namespace Go.Tr
open Go Go.Sl
theorem kid_at {H : Hp} {d : Nat} {t : T} {ps : List Nat} (hk : KidsAt H (d + 1) t.ks ps) (hlen : ps.length = t.ks.length) {i : Nat} (hi : i < t.ks.length) : ∃ p, ps[i]? = some p ∧ TAt H d (kid t i) p := by
  have hp : i < ps.length := by omega
  refine ⟨ps[i], List.getElem?_eq_getElem hp, ?_⟩
  have : kid t i = t.ks[i] := by simp [kid, List.getD, List.getElem?_eq_getElem hi]
  rw [this]
  exact hk i _ _ (List.getElem?_eq_getElem hp) (List.getElem?_eq_getElem hi)
theorem ent_at {l : List En} {i : Nat} (hi : i < l.length) : l[i]? = some (ent l i) := by simp [ent, List.getD, List.getElem?_eq_getElem hi]
theorem entC_len (e : En) : (entC e).length = 2 := rfl
theorem entC_one (e : En) : ∀ u ∈ entC e, u.oneCell' = true := cons_one rfl (cons_one rfl (by simp))
theorem ents_at {l : List En} {i : Nat} {e : En} (h : l[i]? = some e) : At (ents l) (i * 2) (entC e) := flatMap_at (f := entC) (sz := 2) (fun _ => rfl) h
theorem at_trans {cs xs A : List Value} {o i : Nat} (h : At cs o xs) (h2 : At xs i A) : At cs (o + i) A := fun j v hv => by
  have := h _ _ (h2 j v hv)
  rwa [← Nat.add_assoc] at this
/-- Whatever is below: at least an entry each. -/
structure Full (H : Hp) (d : Nat) (t : T) (b : Nat) : Prop where
  at_ : TAt H d t b
  wf : WF d t
  kids : Kids d t
  one : 1 ≤ t.l.length
  most : t.l.length ≤ 8
theorem Full.kid {H : Hp} {d : Nat} {t : T} {b : Nat} (h : Full H (d + 1) t b) {i : Nat} (hi : i < t.ks.length) {ps : List Nat} (hk : KidsAt H (d + 1) t.ks ps) (hlen : ps.length = t.ks.length) : ∃ p, ps[i]? = some p ∧ Full H d (kid t i) p := by
  obtain ⟨p, h1, h2⟩ := kid_at hk hlen hi
  have hm : Tr.kid t i ∈ t.ks := by
    have : Tr.kid t i = t.ks[i] := by simp [Tr.kid, List.getD, List.getElem?_eq_getElem hi]
    rw [this]; exact List.getElem_mem hi
  obtain ⟨⟨s1, s2⟩, s3⟩ := sz_iff.1 (h.kids _ hm)
  exact ⟨p, h1, h2, h.wf.2 _ hm, s3, by omega, by omega⟩
attribute [local irreducible] GK GO Yl Wt Ef Hd GH KH wpListIn Code.wpIn toBody roundQ poolOf rs RS YieldOk IterOk VOk row star exs mp lp Sat pt FnOk Rd bodyPost bodyPostM Lv Ret Exit.then Exit.inBlock Exit.noGoto Int.decLt Int.decLe Int.instDecidableEq
attribute [local irreducible] ents ptrs
variable {hF H : Hp} {d : Nat} {t : T} {b : Nat}
theorem last_ok (hf : Full H d t b) : FnOk Go.Proofs.Try.prog 37 [nptr b] [poolOf H] hF (fun v Γ => v = .agg ⟨entC (last d t)⟩ ∧ Γ = [poolOf H]) := by
  refine FnOk.intro 33 Go.Proofs.Try.func37 rfl rfl fun w0 => ?_
  (repeat (first | refine GK.run ?_ | (refine GK.box ?_; intro bl) | (refine GK.mkMap ?_; intro bm) | (refine GK.build0 tb ?_; intro bs)))
  refine GL.cons ?_; refine Gt.allocAny tb (by first | exact Wt.none | exact Wt.some rfl rfl (by first | exact rfl | decide +kernel)) (by exact rfl) (by exact rfl) ?_
  intro br lr hlr
  (repeat (first | refine GK.run ?_ | (refine GK.box ?_; intro bl) | (refine GK.mkMap ?_; intro bm) | (refine GK.build0 tb ?_; intro bs)))
  refine GK.weak (by repeat (first | exact trivial | refine ⟨rfl, ?_⟩)) (fun w s => s) (G.loop (fun x : Nat × T × Nat => x.1) (fun x => [(0, nptr x.2.2), (2, nptr br)]) (fun _ => [blk br 59 (0, 0) lr, poolOf H])
    (fun x => Full H x.1 x.2.1 x.2.2 ∧ last x.1 x.2.1 = last d t) (fun x hx => ?_) (d, t, b) ⟨hf, rfl⟩)
  obtain ⟨d', t', b'⟩ := x
  obtain ⟨hf', hl'⟩ := hx
  replace hf' : Full H d' t' b' := hf'
  replace hl' : last d' t' = last d t := hl'
  obtain ⟨lv, kv, ps, hn, hk⟩ := hf'.at_.node
  have hnd := hn.nd
  have hlen := hn.len
  have hm := hf'.most
  have hone := hf'.one
  obtain ⟨q, c, rfl, hc, hkn, hr⟩ := hn.k.out
  obtain ⟨p, e, rfl, he, hln, hrl⟩ := hn.l.out
  (repeat (first | refine GK.run ?_ | (refine GK.box ?_; intro bl) | (refine GK.mkMap ?_; intro bm) | (refine GK.build0 tb ?_; intro bs)))
  refine G.cond rfl (fun h => ?_) (fun h => ?_)
  · have h : 0 < t'.ks.length := by simpa using h
    cases d' with
    | zero => have : t'.ks = [] := hf'.wf; rw [this] at h; simp at h
    | succ d' =>
      obtain ⟨bb, o, cs, et, fz, rfl, hbb, hat⟩ := hr h
      obtain ⟨pk, h1, h2⟩ := hf'.kid (i := t'.ks.length - 1) (by omega) hk hlen
      have hw := hf'.wf.1
      have hld : cs[o + ((t'.ks.length : Int) - 1).toNat * 1]? = some (nptr pk) := by
        have : ((t'.ks.length : Int) - 1).toNat = t'.ks.length - 1 := by omega
        rw [this]; exact hat _ _ (ptrs_get h1)
      (repeat (first | refine GK.run ?_ | (refine GK.box ?_; intro bl) | (refine GK.mkMap ?_; intro bm) | (refine GK.build0 tb ?_; intro bs)))
      refine G.draw [] [blk br 59 (0, 0) lr, poolOf H] (by kernel_rfl) ?_
      ((first | refine GH.tk 0 [0,0] ?_ | refine GH.tks 0 [0,0] ?_); (first | refine GH.tk 1 [0,0] ?_ | refine GH.tks 1 [0,0] ?_); (first | refine GH.tk 2 [0,0] ?_ | refine GH.tks 2 [0,0] ?_); (first | refine GH.tk 3 [0,0] ?_ | refine GH.tks 3 [0,0] ?_); (first | refine GH.tk 4 [0,0] ?_ | refine GH.tks 4 [0,0] ?_); (first | refine GH.tk 5 [0,0] ?_ | refine GH.tks 5 [0,0] ?_); (first | refine GH.tk 6 [0,0] ?_ | refine GH.tks 6 [0,0] ?_); (first | refine GH.tk 7 [0,0] ?_ | refine GH.tks 7 [0,0] ?_); (first | refine GH.tk 8 [0,0] ?_ | refine GH.tks 8 [0,0] ?_); (first | refine GH.tk 9 [0,0] ?_ | refine GH.tks 9 [0,0] ?_); (first | refine GH.tk 10 [0,0] ?_ | refine GH.tks 10 [0,0] ?_); (first | refine GH.tk 11 [0,0] ?_ | refine GH.tks 11 [0,0] ?_); (first | refine GH.tk 12 [0,0] ?_ | refine GH.tks 12 [0,0] ?_))
      refine GH.fin (by kernel_rfl) ?_
      (repeat (first | refine GK.run ?_ | (refine GK.box ?_; intro bl) | (refine GK.mkMap ?_; intro bm) | (refine GK.build0 tb ?_; intro bs)))
      exact GQ.again (d', kid t' (t'.ks.length - 1), pk) ⟨h2, by rw [← hl']; rfl⟩ (by show d' < d' + 1; omega) (by repeat (first | exact trivial | refine ⟨rfl, ?_⟩)) (fun w s => s)
  · have h : t'.ks.length = 0 := by simp at h; simp [h]
    have hd0 : d' = 0 := hf'.wf.leaf.1 (List.length_eq_zero_iff.1 h)
    subst hd0
    obtain ⟨bb, o, cs, et, fz, rfl, hbb, hat⟩ := hrl (by omega)
    have hel := ent_at (l := t'.l) (i := t'.l.length - 1) (by omega)
    have hat2 : At cs (o + ((t'.l.length : Int) - 1).toNat * 2) (entC (ent t'.l (t'.l.length - 1))) := by
      have : ((t'.l.length : Int) - 1).toNat = t'.l.length - 1 := by omega
      rw [this]; exact at_trans hat (ents_at hel)
    have hlenc := entC_len (ent t'.l (t'.l.length - 1))
    (repeat (first | refine GK.run ?_ | (refine GK.box ?_; intro bl) | (refine GK.mkMap ?_; intro bm) | (refine GK.build0 tb ?_; intro bs)))
    refine G.draw [] [poolOf H] (by kernel_rfl) ?_
    ((first | refine GH.tk 0 [1] ?_ | refine GH.tks 0 [1] ?_); (first | refine GH.tk 1 [1] ?_ | refine GH.tks 1 [1] ?_); (first | refine GH.tk 2 [1] ?_ | refine GH.tks 2 [1] ?_); (first | refine GH.tk 3 [1] ?_ | refine GH.tks 3 [1] ?_); (first | refine GH.tk 4 [1] ?_ | refine GH.tks 4 [1] ?_); (first | refine GH.tk 5 [1] ?_ | refine GH.tks 5 [1] ?_); (first | refine GH.tk 6 [1] ?_ | refine GH.tks 6 [1] ?_); (first | refine GH.tk 7 [1] ?_ | refine GH.tks 7 [1] ?_); (first | refine GH.tk 8 [1] ?_ | refine GH.tks 8 [1] ?_); (first | refine GH.tk 9 [1] ?_ | refine GH.tks 9 [1] ?_); (first | refine GH.tk 10 [1] ?_ | refine GH.tks 10 [1] ?_); (first | refine GH.tk 11 [1] ?_ | refine GH.tks 11 [1] ?_))
    refine GH.step 12 rfl (by kernel_rfl) ?_
    refine Gt.storeAny tb 0 (by first | exact Wt.none | exact Wt.some rfl rfl (by first | exact rfl | decide +kernel)) rfl rfl rfl hlenc (entC_one _) rfl (by show lr.length = _; rw [hlr]) ?_
    refine GH.keep (fun _ s => s.sel [1] rfl) ?_
    refine GH.fin (by kernel_rfl) ?_
    (repeat (first | refine GK.run ?_ | (refine GK.box ?_; intro bl) | (refine GK.mkMap ?_; intro bm) | (refine GK.build0 tb ?_; intro bs)))
    exact GQ.fin1 rfl (Rv.row rfl (by kernel_rfl) (by kernel_rfl) (Rd.blk 0 rfl) (At.all _)) (fun w s => s.drop) ⟨by rw [← hl']; rfl, rfl⟩
end Go.Tr
