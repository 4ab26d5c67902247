/- A node's fill: from the left. -/
import Derived.Test.YtkmdehoofnlkbaaTrG
namespace Go.Tr
open Go Go.Sl
/-- A kid as it stands in memory. -/
structure Nod (H : Hp) (d : Nat) (x : T) (b : Nat) : Prop where
  at_ : TAt H d x b
  wf : WF d x
  most : x.l.length ≤ 8
theorem Nod.ksl {H : Hp} {d : Nat} {t : T} {b : Nat} (h : Nod H d t b) : t.ks.length ≤ 9 := by
  have := h.most
  cases d with
  | zero => have h0 : t.ks = [] := h.wf; rw [h0]; simp
  | succ d => have := h.wf.1; omega
theorem Nod.mono {H H' : Hp} {d : Nat} {t : T} {b : Nat} (h : Nod H d t b) (hl : le H H') : Nod H' d t b := ⟨h.at_.mono hl, h.wf, h.most⟩
theorem NodeAt.of {H : Hp} {b n m : Nat} {lv kv : Value} {l : List En} {ks : List T} {ps : List Nat} (h1 : H b = some (.cells ⟨[lv, kv]⟩ 65 (0, 0))) (h2 : rs H lv n 2 (ents l)) (h3 : rs H kv m 1 (ptrs ps)) (hn : n = l.length) (hm : m = ks.length) (hp : ps.length = m) : NodeAt H (.mk l ks) b lv kv ps := by
  subst hn hm
  exact ⟨h1, h2, h3, hp⟩
theorem ins_end {α : Type} (l : List α) (x : α) : ins l l.length x = l ++ [x] := by unfold ins; simp
theorem rm_get {α : Type} {l : List α} {i : Nat} (hi : i < l.length) (j : Nat) : (rm l i)[j]? = if j < i then l[j]? else l[j + 1]? := by
  unfold rm
  by_cases h : j < i
  · rw [if_pos h, List.getElem?_append_left (by simp; omega), List.getElem?_take, if_pos h]
  · rw [if_neg h, List.getElem?_append_right (by simp; omega)]
    have hl : (l.take i).length = i := by simp; omega
    rw [hl, List.getElem?_drop]
    congr 1; omega
theorem kids_rm_at {H : Hp} {d : Nat} {ks : List T} {ps : List Nat} (h : KidsAt H (d + 1) ks ps) (hlen : ps.length = ks.length) {i : Nat} (hi : i < ks.length) : KidsAt H (d + 1) (rm ks i) (rm ps i) := by
  intro j p x h1 h2
  rw [rm_get (by omega)] at h1 h2
  split at h1
  · rename_i hj; rw [if_pos hj] at h2; exact h j p x h1 h2
  · rename_i hj; rw [if_neg hj] at h2; exact h _ p x h1 h2
theorem kids_append_at {H : Hp} {d : Nat} {ks js : List T} {ps qs : List Nat} (h : KidsAt H d ks ps) (h2 : KidsAt H d js qs) (hlen : ps.length = ks.length) : KidsAt H d (ks ++ js) (ps ++ qs) := by
  cases d with
  | zero => trivial
  | succ d =>
    intro j p x a b
    by_cases hj : j < ps.length
    · rw [List.getElem?_append_left hj] at a; rw [List.getElem?_append_left (by omega)] at b; exact h j p x a b
    · rw [List.getElem?_append_right (by omega)] at a; rw [List.getElem?_append_right (by omega)] at b; rw [hlen] at a; exact h2 _ p x a b
theorem rm_len {α : Type} {l : List α} {i : Nat} (hi : i < l.length) : (rm l i).length = l.length - 1 := by unfold rm; simp; omega
/-- What fill needs of a node, and what it leaves. -/
structure FillIn (H : Hp) (d : Nat) (t : T) (ps : List Nat) : Prop where
  wf : WF (d + 1) t
  kids : KidsAt H (d + 1) t.ks ps
  len : ps.length = t.ks.length
  one : 1 ≤ t.l.length
  most : t.l.length ≤ 8
  kmost : ∀ x ∈ t.ks, x.l.length ≤ 8
theorem FillIn.nod {H : Hp} {d : Nat} {t : T} {ps : List Nat} (h : FillIn H d t ps) {i : Nat} (hi : i < t.ks.length) : ∃ p, ps[i]? = some p ∧ Nod H d (kid t i) p := by
  obtain ⟨p, h1, h2⟩ := kid_at h.kids h.len hi
  have hm : kid t i ∈ t.ks := by
    have : kid t i = t.ks[i] := by simp [kid, List.getD, List.getElem?_eq_getElem hi]
    rw [this]; exact List.getElem_mem hi
  exact ⟨p, h1, h2, h.wf.2 _ hm, h.kmost _ hm⟩
theorem ents_rd {l : List En} {i : Nat} {e : En} (h : l[i]? = some e) : At (ents l) (0 + (i : Int).toNat * 2) (entC e) := by rw [Nat.zero_add]; exact ents_at h
theorem ptrs_rd {l : List Nat} {i : Nat} {b : Nat} (h : l[i]? = some b) : (ptrs l)[0 + (i : Int).toNat * 1]? = some (nptr b) := by rw [Nat.zero_add]; exact ptrs_get h
set_option pp.deepTerms true
set_option pp.maxSteps 1000000
attribute [local irreducible] GK GO Yl Wt Ef Hd GH KH wpListIn Code.wpIn toBody roundQ poolOf rs RS YieldOk IterOk VOk row star exs mp lp Sat pt FnOk Rd bodyPost bodyPostM Lv Ret Exit.then Exit.inBlock Exit.noGoto Int.decLt Int.decLe Int.instDecidableEq
attribute [local irreducible] ents ptrs
abbrev fnode (nb : Nat) (p : Option Addr) (cp : Nat) (q : Option Addr) (cq : Nat) (t : T) (ps : List Nat) : List HProp :=
  [nblk nb (.slice p t.l.length cp) (.slice q t.ks.length cq), row (.slice p t.l.length cp) 59 2 t.l.length (ents t.l), row (.slice q t.ks.length cq) 46 1 t.ks.length (ptrs ps)]
def FillOut (H : Hp) (d nb : Nat) (t' : T) (Γ : List HProp) : Prop := ∃ H' p cp q cq ps', le H H' ∧ Γ = fnode nb p cp q cq t' ps' ++ [poolOf H'] ∧ ps'.length = t'.ks.length ∧ KidsAt H' (d + 1) t'.ks ps'
variable {hF H : Hp} {d : Nat} {t : T} {ps : List Nat}
theorem FillOut.mk {H H' : Hp} {d nb n m : Nat} {t' : T} {p q : Option Addr} {cp cq : Nat} {ps' : List Nat} (hn : n = t'.l.length) (hm : m = t'.ks.length) (hle : le H H') (hlen : ps'.length = t'.ks.length) (hk : KidsAt H' (d + 1) t'.ks ps') :
    FillOut H d nb t' [nblk nb (.slice p n cp) (.slice q m cq), row (.slice p n cp) 59 2 n (ents t'.l), row (.slice q m cq) 46 1 m (ptrs ps'), poolOf H'] := by
  subst hn hm
  exact ⟨H', p, cp, q, cq, ps', hle, rfl, hlen, hk⟩
set_option maxHeartbeats 8000000 in
theorem fillw_ok (hf : FillIn H d t ps) {i : Nat} (hi : i < t.ks.length) (nb : Nat) (p q : Option Addr) (cp cq : Nat) :
    FnOk Go.Proofs.Try.prog 38 [nptr nb, .int .i64 i] (fnode nb p cp q cq t ps ++ [poolOf H]) hF (fun v Γ => v = .tuple #[] ∧ FillOut H d nb (fill t i) Γ) := by
  refine FnOk.intro 342 Go.Proofs.Try.func38 rfl rfl fun w0 => ?_
  have hlen := hf.len
  have hone := hf.one
  have hmost := hf.most
  have hw1 := hf.wf.1
  obtain ⟨pi, hpi, hni⟩ := hf.nod hi
  obtain ⟨lvi, kvi, psi, hndi, hki⟩ := hni.at_.node
  have hci := hndi.nd
  have hli := hni.most
  have hksi := hni.ksl
  obtain ⟨q2, c2, rfl, hc2, hkn2, hr2⟩ := hndi.k.out
  obtain ⟨p2, e2, rfl, he2, hln2, hrl2⟩ := hndi.l.out
  refine GK.rowPtr 2 rfl (by omega) fun qb hqb => ?_
  subst hqb
  refine GK.rowPtr 1 rfl (by omega) fun pb hpb => ?_
  subst hpb
  have hldi := ptrs_rd hpi
  (repeat (first | refine GK.run ?_ | (refine GK.box ?_; intro bl) | (refine GK.mkMap ?_; intro bm) | (refine GK.build0 tb ?_; intro bs)))
  refine G.cond rfl (fun h3 => ?_) (fun h3 => ?_)
  · have h3 : 3 ≤ (kid t i).l.length := by simp at h3; omega
    (repeat (first | refine GK.run ?_ | (refine GK.box ?_; intro bl) | (refine GK.mkMap ?_; intro bm) | (refine GK.build0 tb ?_; intro bs)))
    refine GQ.end0 rfl ⟨rfl, H, some ⟨pb, 0, none⟩, cp, some ⟨qb, 0, none⟩, cq, ps, le.refl _, ?_, ?_, ?_⟩
    · unfold fill; rw [if_pos h3]
    · unfold fill; rw [if_pos h3]; exact hlen
    · unfold fill; rw [if_pos h3]; exact hf.kids
  have h3 : ¬ 3 ≤ (kid t i).l.length := by simp at h3; omega
  (repeat (first | refine GK.run ?_ | (refine GK.box ?_; intro bl) | (refine GK.mkMap ?_; intro bm) | (refine GK.build0 tb ?_; intro bs)))
  refine GL.cut (fun _ : Unit => [(44, .bool (decide (0 < i ∧ 3 < (kid t (i - 1)).l.length))), (0, nptr nb), (1, .int .i64 i), (4, nptr pi)]) (fun _ => fnode nb (some ⟨pb, 0, none⟩) cp (some ⟨qb, 0, none⟩) cq t ps ++ [poolOf H]) (fun _ => True) (fun _ _ => ?_) ?_
  rotate_left
  · refine GK.split 30 _ rfl (fun h0 => ?_) (fun h0 => ?_)
    · have h0 : 0 < i := by simpa using h0
      obtain ⟨pl, hpl, hnl⟩ := hf.nod (i := i - 1) (by omega)
      obtain ⟨lvl, kvl, psl, hndl, hkl⟩ := hnl.at_.node
      have hcl := hndl.nd
      obtain ⟨p3, e3, rfl, he3, hln3, hrl3⟩ := hndl.l.out
      have hldl : (ptrs ps)[0 + ((i : Int) - 1).toNat * 1]? = some (nptr pl) := by
        have : ((i : Int) - 1).toNat = i - 1 := by omega
        rw [this, Nat.zero_add]; exact ptrs_get hpl
      (repeat (first | refine GK.run ?_ | (refine GK.box ?_; intro bl) | (refine GK.mkMap ?_; intro bm) | (refine GK.build0 tb ?_; intro bs)))
      refine GQ.reach () trivial ?_ (fun w s => s)
      have e : decide (0 < i ∧ 3 < (kid t (i - 1)).l.length) = decide (3 < ((kid t (i - 1)).l.length : Int)) := decide_eq_decide.2 (by omega)
      rw [e]; exact (by repeat (first | exact trivial | refine ⟨rfl, ?_⟩))
    · have h0 : ¬ 0 < i := by simp at h0; omega
      (repeat (first | refine GK.run ?_ | (refine GK.box ?_; intro bl) | (refine GK.mkMap ?_; intro bm) | (refine GK.build0 tb ?_; intro bs)))
      refine GQ.reach () trivial ?_ (fun w s => s)
      have e : decide (0 < i ∧ 3 < (kid t (i - 1)).l.length) = false := by simp [h0]
      rw [e]; exact (by repeat (first | exact trivial | refine ⟨rfl, ?_⟩))
  (repeat (first | refine GK.run ?_ | (refine GK.box ?_; intro bl) | (refine GK.mkMap ?_; intro bm) | (refine GK.build0 tb ?_; intro bs)))
  refine G.cond rfl (fun hL => ?_) (fun hL => ?_)
  · obtain ⟨h0, h4⟩ := of_decide_eq_true hL
    have hfill : fill t i = rotR t i := by unfold fill; rw [if_neg h3, if_pos ⟨h0, h4⟩]
    rw [hfill]
    obtain ⟨j, rfl⟩ : ∃ j, i = j + 1 := ⟨i - 1, by omega⟩
    rw [Nat.add_sub_cancel] at h4
    obtain ⟨pl, hpl, hnl⟩ := hf.nod (i := j) (by omega)
    obtain ⟨lvl, kvl, psl, hndl, hkl⟩ := hnl.at_.node
    have hcl := hndl.nd
    have hll := hnl.most
    have hksl := hnl.ksl
    obtain ⟨q3, c3, rfl, hc3, hkn3, hr3⟩ := hndl.k.out
    obtain ⟨p3, e3, rfl, he3, hln3, hrl3⟩ := hndl.l.out
    have hldl : (ptrs ps)[0 + (((j + 1 : Nat) : Int) - 1).toNat * 1]? = some (nptr pl) := by
      have : (((j + 1 : Nat) : Int) - 1).toNat = j := by omega
      rw [this, Nat.zero_add]; exact ptrs_get hpl
    have hej := ent_at (l := t.l) (i := j) (by omega)
    have hldj : At (ents t.l) (0 + (((j + 1 : Nat) : Int) - 1).toNat * 2) (entC (ent t.l j)) := by
      have : (((j + 1 : Nat) : Int) - 1).toNat = j := by omega
      rw [this, Nat.zero_add]; exact ents_at hej
    have hlj := entC_len (ent t.l j)
    obtain ⟨k, hk⟩ : ∃ k, (kid t j).l.length = k + 1 := ⟨(kid t j).l.length - 1, by omega⟩
    have h20 : 0 < 2 := by omega
    (repeat (first | refine GK.run ?_ | (refine GK.box ?_; intro bl) | (refine GK.mkMap ?_; intro bm) | (refine GK.build0 tb ?_; intro bs)))
    refine G.draw [] [nblk nb (.slice (some ⟨pb, 0, none⟩) t.l.length cp) (.slice (some ⟨qb, 0, none⟩) t.ks.length cq), row (.slice (some ⟨pb, 0, none⟩) t.l.length cp) 59 2 t.l.length (ents t.l), poolOf H] (by kernel_rfl) ?_
    ((first | refine GH.tk 0 [0,0,1] ?_ | refine GH.tks 0 [0,0,1] ?_); (first | refine GH.tk 1 [0,0,1] ?_ | refine GH.tks 1 [0,0,1] ?_); (first | refine GH.tk 2 [0,0,1] ?_ | refine GH.tks 2 [0,0,1] ?_); (first | refine GH.tk 3 [0,0,1] ?_ | refine GH.tks 3 [0,0,1] ?_); (first | refine GH.tk 4 [0,0,1] ?_ | refine GH.tks 4 [0,0,1] ?_); (first | refine GH.tk 5 [0,0,1] ?_ | refine GH.tks 5 [0,0,1] ?_); (first | refine GH.tk 6 [0,0,1] ?_ | refine GH.tks 6 [0,0,1] ?_); (first | refine GH.tk 7 [0,0,1] ?_ | refine GH.tks 7 [0,0,1] ?_); (first | refine GH.tk 8 [0,0,1] ?_ | refine GH.tks 8 [0,0,1] ?_); (first | refine GH.tk 9 [0,0,1] ?_ | refine GH.tks 9 [0,0,1] ?_); (first | refine GH.tk 10 [0,0,1] ?_ | refine GH.tks 10 [0,0,1] ?_); (first | refine GH.tk 11 [0,0,1] ?_ | refine GH.tks 11 [0,0,1] ?_))
    refine GH.step 12 rfl (by kernel_rfl) ?_
    refine GO.call [3] (fun hF' _ _ => insE_ok (Γ := [poolOf H]) (kid t (j + 1)).l rfl (RS.pool 0 rfl hndi.l) 0 (by omega) he2 (by omega) (ent t.l j)) (by first | exact Wt.none | exact Wt.some rfl rfl (by first | exact rfl | decide +kernel)) (by kernel_rfl) rfl rfl rfl ?_
    rintro v Γ' ⟨p5, c5, rfl, rfl⟩
    refine GH.keep (fun _ s => s.sel [2,2,1] rfl) ?_
    ((first | refine GH.tk 13 [2,2,1] ?_ | refine GH.tks 13 [2,2,1] ?_))
    refine GH.step 14 rfl (by kernel_rfl) ?_
    refine GO.box (by first | exact Wt.none | exact Wt.some rfl rfl (by first | exact rfl | decide +kernel)) rfl rfl ?_
    intro fb
    refine GH.keep (fun _ s => s.sel [3,3,2] rfl) ?_
    ((first | refine GH.tk 15 [3,3,2] ?_ | refine GH.tks 15 [3,3,2] ?_))
    refine GH.fin (by kernel_rfl) ?_
    (repeat (first | refine GK.run ?_ | (refine GK.box ?_; intro bl) | (refine GK.mkMap ?_; intro bm) | (refine GK.build0 tb ?_; intro bs)))
    have ek : ((kid t j).l.length : Int) - 1 = (k : Int) := by omega
    have ek2 : (((kid t j).l.length : Int) - 1).toNat = k := by omega
    refine GK.weak (fr' := [(0, nptr nb), (1, .int .i64 ((j + 1 : Nat) : Int)), (4, nptr pi), (5, nptr pl), (6, .int .i64 (k : Int)), (7, nptr fb), (8, nptr bl), (88, .bool (decide (0 < ((kid t (j + 1)).ks.length : Int))))])
      (Γ' := [nblk bl (.slice p3 k k) (.slice none 0 0), nblk fb (.slice p5 ((kid t (j + 1)).l.length + 1) c5) (.slice none 0 0), row (.slice p5 ((kid t (j + 1)).l.length + 1) c5) 59 2 ((kid t (j + 1)).l.length + 1) (ents (ins (kid t (j + 1)).l 0 (ent t.l j))), poolOf H, nblk nb (.slice (some ⟨pb, 0, none⟩) t.l.length cp) (.slice (some ⟨qb, 0, none⟩) t.ks.length cq), row (.slice (some ⟨pb, 0, none⟩) t.l.length cp) 59 2 t.l.length (ents t.l), row (.slice (some ⟨qb, 0, none⟩) t.ks.length cq) 46 1 t.ks.length (ptrs ps)])
      (by rw [← ek]; exact (by repeat (first | exact trivial | refine ⟨rfl, ?_⟩))) (fun w s => by rw [ek2] at s; exact s) ?_
    have hks : (kid t (j + 1)).ks.length = 0 ∨ 0 < (kid t (j + 1)).ks.length := by omega
    have hwl := hnl.wf
    have hwi := hni.wf
    have hek := ent_at (l := (kid t j).l) (i := k) (by omega)
    obtain ⟨bb3, o3, cs3, et3, fz3, rfl, hbb3, hat3⟩ := hrl3 (by omega)
    have hldk : At cs3 (o3 + ((k : Nat) : Int).toNat * 2) (entC (ent (kid t j).l k)) := at_trans hat3 (ents_at hek)
    have hlk := entC_len (ent (kid t j).l k)
    have hr1 : rotR t (j + 1) = .mk (t.l.set j (ent (kid t j).l k)) ((t.ks.set j (.mk ((kid t j).l.take k) (if (kid t (j + 1)).ks.length = 0 then [] else (kid t j).ks.take (k + 1)))).set (j + 1) (.mk (ent t.l j :: (kid t (j + 1)).l) (if (kid t (j + 1)).ks.length = 0 then [] else kid (kid t j) (k + 1) :: (kid t (j + 1)).ks))) := by
      simp only [rotR, Nat.add_sub_cancel, hk]
    rw [hr1]
    refine G.cut (fun x : Value × Value × List HProp => [(0, nptr nb), (1, .int .i64 ((j + 1 : Nat) : Int)), (5, nptr pl), (6, .int .i64 (k : Int)), (7, nptr fb), (8, nptr bl)])
      (fun x => [nblk bl (.slice (some ⟨bb3, o3, none⟩) k k) x.1, nblk fb (.slice p5 ((kid t (j + 1)).l.length + 1) c5) x.2.1, row (.slice p5 ((kid t (j + 1)).l.length + 1) c5) 59 2 ((kid t (j + 1)).l.length + 1) (ents (ins (kid t (j + 1)).l 0 (ent t.l j))), poolOf H, nblk nb (.slice (some ⟨pb, 0, none⟩) t.l.length cp) (.slice (some ⟨qb, 0, none⟩) t.ks.length cq), row (.slice (some ⟨pb, 0, none⟩) t.l.length cp) 59 2 t.l.length (ents t.l), row (.slice (some ⟨qb, 0, none⟩) t.ks.length cq) 46 1 t.ks.length (ptrs ps)] ++ x.2.2)
      (fun x => (d = 0 ∧ x = (.slice none 0 0, .slice none 0 0, [])) ∨ (∃ d' p6 c6 pk1, d = d' + 1 ∧ psl[k + 1]? = some pk1 ∧ x = (.slice q3 (k + 1) (k + 1), .slice p6 ((kid t (j + 1)).ks.length + 1) c6, [row (.slice p6 ((kid t (j + 1)).ks.length + 1) c6) 46 1 ((kid t (j + 1)).ks.length + 1) (ptrs (ins psi 0 pk1))]))) (fun x hx => ?_) ?_
    rotate_left
    · refine G.cond rfl (fun h8 => ?_) (fun h8 => ?_)
      · have h8 : 0 < (kid t (j + 1)).ks.length := by simp at h8; omega
        obtain ⟨d', rfl⟩ : ∃ d', d = d' + 1 := by
          cases d with
          | zero => have : (kid t (j + 1)).ks = [] := hwi; rw [this] at h8; simp at h8
          | succ d => exact ⟨d, rfl⟩
        have hwl1 := hwl.1
        obtain ⟨pk1, hpk1, _⟩ := kid_at hkl hndl.len (i := k + 1) (by omega)
        obtain ⟨bb4, o4, cs4, et4, fz4, rfl, hbb4, hat4⟩ := hr3 (by omega)
        have hldq : cs4[o4 + ((k : Int) + 1).toNat * 1]? = some (nptr pk1) := hat4 _ _ (ptrs_get hpk1)
        (repeat (first | refine GK.run ?_ | (refine GK.box ?_; intro bl) | (refine GK.mkMap ?_; intro bm) | (refine GK.build0 tb ?_; intro bs)))
        refine G.draw [] [poolOf H] (by kernel_rfl) ?_
        ((first | refine GH.tk 0 [3] ?_ | refine GH.tks 0 [3] ?_); (first | refine GH.tk 1 [3] ?_ | refine GH.tks 1 [3] ?_); (first | refine GH.tk 2 [3] ?_ | refine GH.tks 2 [3] ?_); (first | refine GH.tk 3 [3] ?_ | refine GH.tks 3 [3] ?_); (first | refine GH.tk 4 [3] ?_ | refine GH.tks 4 [3] ?_); (first | refine GH.tk 5 [3] ?_ | refine GH.tks 5 [3] ?_); (first | refine GH.tk 6 [3] ?_ | refine GH.tks 6 [3] ?_); (first | refine GH.tk 7 [3] ?_ | refine GH.tks 7 [3] ?_); (first | refine GH.tk 8 [3] ?_ | refine GH.tks 8 [3] ?_); (first | refine GH.tk 9 [3] ?_ | refine GH.tks 9 [3] ?_); (first | refine GH.tk 10 [3] ?_ | refine GH.tks 10 [3] ?_); (first | refine GH.tk 11 [3] ?_ | refine GH.tks 11 [3] ?_); (first | refine GH.tk 12 [3] ?_ | refine GH.tks 12 [3] ?_))
        refine GH.step 13 rfl (by kernel_rfl) ?_
        refine GO.call [3] (fun hF' _ _ => insP_ok (Γ := [poolOf H]) psi hndi.len (RS.pool 0 rfl hndi.k) 0 (by omega) hc2 (by omega) pk1) (by first | exact Wt.none | exact Wt.some rfl rfl (by first | exact rfl | decide +kernel)) (by kernel_rfl) rfl rfl rfl ?_
        rintro v Γ' ⟨p6, c6, rfl, rfl⟩
        refine GH.keep (fun _ s => s.sel [1] rfl) ?_
        ((first | refine GH.tk 14 [1] ?_ | refine GH.tks 14 [1] ?_); (first | refine GH.tk 15 [1] ?_ | refine GH.tks 15 [1] ?_))
        refine GH.step 16 rfl (by kernel_rfl) ?_
        refine Gt.store tb 3 (by first | exact Wt.none | exact Wt.some rfl rfl (by first | exact rfl | decide +kernel)) rfl rfl rfl rfl rfl rfl rfl rfl ?_
        refine GH.keep (fun _ s => s.sel [1] rfl) ?_
        refine GH.fin (by kernel_rfl) ?_
        (repeat (first | refine GK.run ?_ | (refine GK.box ?_; intro bl) | (refine GK.mkMap ?_; intro bm) | (refine GK.build0 tb ?_; intro bs)))
        exact GQ.reach (.slice (some ⟨bb4, o4, none⟩) (k + 1) (k + 1), .slice p6 ((kid t (j + 1)).ks.length + 1) c6, [row (.slice p6 ((kid t (j + 1)).ks.length + 1) c6) 46 1 ((kid t (j + 1)).ks.length + 1) (ptrs (ins psi 0 pk1))]) (.inr ⟨d', p6, c6, pk1, rfl, hpk1, rfl⟩) (by repeat (first | exact trivial | refine ⟨rfl, ?_⟩)) (fun w s => s.sel [2, 2, 2, 1, 1, 1, 1, 0] rfl)
      · have h8 : (kid t (j + 1)).ks.length = 0 := by simp at h8; simp [h8]
        have hd0 : d = 0 := hwi.leaf.1 (List.length_eq_zero_iff.1 h8)
        (repeat (first | refine GK.run ?_ | (refine GK.box ?_; intro bl) | (refine GK.mkMap ?_; intro bm) | (refine GK.build0 tb ?_; intro bs)))
        exact GQ.reach (.slice none 0 0, .slice none 0 0, []) (.inl ⟨hd0, rfl⟩) (by repeat (first | exact trivial | refine ⟨rfl, ?_⟩)) (fun w s => s)
    obtain ⟨va, vb, L⟩ := x
    (repeat (first | refine GK.run ?_ | (refine GK.box ?_; intro bl) | (refine GK.mkMap ?_; intro bm) | (refine GK.build0 tb ?_; intro bs)))
    refine G.draw [] [nblk nb (.slice (some ⟨pb, 0, none⟩) t.l.length cp) (.slice (some ⟨qb, 0, none⟩) t.ks.length cq), poolOf H] (by kernel_rfl) ?_
    ((first | refine GH.tk 0 [4,3] ?_ | refine GH.tks 0 [4,3] ?_); (first | refine GH.tk 1 [4,3] ?_ | refine GH.tks 1 [4,3] ?_); (first | refine GH.tk 2 [4,3] ?_ | refine GH.tks 2 [4,3] ?_); (first | refine GH.tk 3 [4,3] ?_ | refine GH.tks 3 [4,3] ?_); (first | refine GH.tk 4 [4,3] ?_ | refine GH.tks 4 [4,3] ?_); (first | refine GH.tk 5 [4,3] ?_ | refine GH.tks 5 [4,3] ?_); (first | refine GH.tk 6 [4,3] ?_ | refine GH.tks 6 [4,3] ?_); (first | refine GH.tk 7 [4,3] ?_ | refine GH.tks 7 [4,3] ?_); (first | refine GH.tk 8 [4,3] ?_ | refine GH.tks 8 [4,3] ?_); (first | refine GH.tk 9 [4,3] ?_ | refine GH.tks 9 [4,3] ?_); (first | refine GH.tk 10 [4,3] ?_ | refine GH.tks 10 [4,3] ?_); (first | refine GH.tk 11 [4,3] ?_ | refine GH.tks 11 [4,3] ?_); (first | refine GH.tk 12 [4,3] ?_ | refine GH.tks 12 [4,3] ?_); (first | refine GH.tk 13 [4,3] ?_ | refine GH.tks 13 [4,3] ?_); (first | refine GH.tk 14 [4,3] ?_ | refine GH.tks 14 [4,3] ?_); (first | refine GH.tk 15 [4,3] ?_ | refine GH.tks 15 [4,3] ?_); (first | refine GH.tk 16 [4,3] ?_ | refine GH.tks 16 [4,3] ?_); (first | refine GH.tk 17 [4,3] ?_ | refine GH.tks 17 [4,3] ?_); (first | refine GH.tk 18 [4,3] ?_ | refine GH.tks 18 [4,3] ?_); (first | refine GH.tk 19 [4,3] ?_ | refine GH.tks 19 [4,3] ?_); (first | refine GH.tk 20 [4,3] ?_ | refine GH.tks 20 [4,3] ?_); (first | refine GH.tk 21 [4,3] ?_ | refine GH.tks 21 [4,3] ?_); (first | refine GH.tk 22 [4,3] ?_ | refine GH.tks 22 [4,3] ?_); (first | refine GH.tk 23 [4,3] ?_ | refine GH.tks 23 [4,3] ?_); (first | refine GH.tk 24 [4,3] ?_ | refine GH.tks 24 [4,3] ?_); (first | refine GH.tk 25 [4,3] ?_ | refine GH.tks 25 [4,3] ?_); (first | refine GH.tk 26 [4,3] ?_ | refine GH.tks 26 [4,3] ?_))
    refine GH.step 27 rfl (by kernel_rfl) ?_
    refine Gt.storeWRow tb 5 (by first | exact Wt.none | exact Wt.some rfl rfl (by first | exact rfl | decide +kernel)) rfl rfl rfl hlk (entC_one _) rfl (by rw [ents_len]; show 0 + (((j + 1 : Nat) : Int) - 1).toNat * 2 + 2 ≤ _; omega) (by rw [ents_len]; omega) ?_
    refine GH.keep (fun _ s => s.sel [5,4] rfl) ?_
    ((first | refine GH.tk 28 [5,4] ?_ | refine GH.tks 28 [5,4] ?_))
    refine GH.step 29 rfl (by kernel_rfl) ?_
    refine Gt.storeW tb 6 (by first | exact Wt.none | exact Wt.some rfl rfl (by first | exact rfl | decide +kernel)) rfl rfl rfl rfl rfl (by rw [ptrs_len]; omega) ?_
    refine GH.keep (fun _ s => s.sel [6,5] rfl) ?_
    ((first | refine GH.tk 30 [6,5] ?_ | refine GH.tks 30 [6,5] ?_))
    refine GH.step 31 rfl (by kernel_rfl) ?_
    refine Gt.storeW tb 0 (by first | exact Wt.none | exact Wt.some rfl rfl (by first | exact rfl | decide +kernel)) rfl rfl rfl rfl rfl (by rw [List.length_set, ptrs_len]; show 0 + (j + 1) * 1 < _; omega) ?_
    refine GH.keep (fun _ s => s.sel [6,5] rfl) ?_
    refine GH.fin (by kernel_rfl) ?_
    (repeat (first | refine GK.run ?_ | (refine GK.box ?_; intro bl) | (refine GK.mkMap ?_; intro bm) | (refine GK.build0 tb ?_; intro bs)))
    have hjn : (((j + 1 : Nat) : Int) - 1).toNat = j := by omega
    have hE : splice (ents t.l) (0 + (((j + 1 : Nat) : Int) - 1).toNat * 2) (entC (ent (kid t j).l k)) = ents (t.l.set j (ent (kid t j).l k)) := by rw [hjn, Nat.zero_add]; exact ents_set (by omega) _
    have hK1 : (ptrs ps).set (0 + (((j + 1 : Nat) : Int) - 1).toNat * 1) (nptr bl) = ptrs (ps.set j bl) := by rw [hjn, Nat.zero_add]; exact ptrs_set (by omega) _
    have hK2 : (ptrs (ps.set j bl)).set (0 + ((j + 1 : Nat) : Int).toNat * 1) (nptr fb) = ptrs ((ps.set j bl).set (j + 1) fb) := by
      show (ptrs (ps.set j bl)).set (0 + (j + 1) * 1) (nptr fb) = _
      rw [Nat.zero_add]; exact ptrs_set (by simp; omega) _
    rw [hE, hK1, hK2]
    have hlt : rs H (.slice (some ⟨bb3, o3, none⟩) k k) k 2 (ents ((kid t j).l.take k)) := by rw [← ents_take]; exact hndl.l.take (by omega) (Nat.le_refl k)
    rcases hx with ⟨hd0, hx⟩ | ⟨d', p6, c6, pk1, hd, hpk1, hx⟩
    · subst hd0; cases hx
      have hik : (kid t (j + 1)).ks.length = 0 := by have : (kid t (j + 1)).ks = [] := hwi; rw [this]; rfl
      rw [if_pos hik, if_pos hik]
      refine GK.sel [5, 2, 2, 2, 2, 1, 0] rfl ?_
      refine GK.absorb fun H1 k1 le1 x1 y1 => ?_
      refine GK.absorb fun H2 k2 le2 x2 y2 => ?_
      refine GK.absorb fun H3 k3 le3 x3 y3 => ?_
      have hpn : rs H3 (.slice none 0 0) 0 1 (ptrs []) := by rw [ptrs_nil]; exact rs.nil
      have hA : TAt H3 0 (.mk ((kid t j).l.take k) []) bl := TAt.mk (NodeAt.of ((le2.trans le3) _ _ (pt_in x1 y1)) (hlt.mono (le1.trans (le2.trans le3))) hpn (by simp; omega) rfl rfl) trivial
      have hB : TAt H3 0 (.mk (ent t.l j :: (kid t (j + 1)).l) []) fb := TAt.mk (NodeAt.of (le3 _ _ (pt_in x2 y2)) (row_in x3 y3) hpn (by simp) rfl rfl) trivial
      refine GQ.fin0 rfl (fun w s => s.sel [1, 1, 1, 0] rfl) ⟨rfl, FillOut.mk (by simp) (by simp) (le1.trans (le2.trans le3)) (by simp [hlen]) ?_⟩
      exact kids_set_at (kids_set_at (hf.kids.mono (le1.trans (le2.trans le3))) hA) hB
    · subst hd; cases hx
      have hik : ¬ (kid t (j + 1)).ks.length = 0 := by have := hwi.1; omega
      rw [if_neg hik, if_neg hik]
      have hwl1 := hwl.1
      refine GK.sel [5, 2, 2, 2, 3, 2, 1, 0] rfl ?_
      refine GK.absorb fun H1 k1 le1 x1 y1 => ?_
      refine GK.absorb fun H2 k2 le2 x2 y2 => ?_
      refine GK.absorb fun H3 k3 le3 x3 y3 => ?_
      refine GK.absorb fun H4 k4 le4 x4 y4 => ?_
      have hle := le1.trans (le2.trans (le3.trans le4))
      have hqt : rs H (.slice q3 (k + 1) (k + 1)) (k + 1) 1 (ptrs (psl.take (k + 1))) := by rw [← ptrs_take]; exact hndl.k.take (by omega) (Nat.le_refl _)
      obtain ⟨pk1', hpk2, hkk⟩ := kid_at hkl hndl.len (i := k + 1) (by omega)
      have hpe : pk1' = pk1 := by rw [hpk1] at hpk2; exact (Option.some.inj hpk2).symm
      subst hpe
      have hA : TAt H4 (d' + 1) (.mk ((kid t j).l.take k) ((kid t j).ks.take (k + 1))) bl := TAt.mk (NodeAt.of ((le2.trans (le3.trans le4)) _ _ (pt_in x1 y1)) (hlt.mono hle) (hqt.mono hle) (by simp; omega) (by simp; omega) (by simp [hndl.len]; omega)) (kids_take_at (hkl.mono hle) _)
      have hB : TAt H4 (d' + 1) (.mk (ent t.l j :: (kid t (j + 1)).l) (kid (kid t j) (k + 1) :: (kid t (j + 1)).ks)) fb := TAt.mk (NodeAt.of ((le3.trans le4) _ _ (pt_in x2 y2)) ((row_in x3 y3).mono le4) (row_in x4 y4) (by simp) (by simp) (by rw [ins_length (Nat.zero_le _), hndi.len])) (kids_ins_at (hki.mono hle) hndi.len (Nat.zero_le _) (hkk.mono hle))
      refine GQ.fin0 rfl (fun w s => s.sel [1, 1, 1, 0] rfl) ⟨rfl, FillOut.mk (by simp) (by simp) hle (by simp [hlen]) ?_⟩
      exact kids_set_at (kids_set_at (hf.kids.mono hle) hA) hB
  have hL : ¬ (0 < i ∧ 3 < (kid t (i - 1)).l.length) := of_decide_eq_false hL
  (repeat (first | refine GK.run ?_ | (refine GK.box ?_; intro bl) | (refine GK.mkMap ?_; intro bm) | (refine GK.build0 tb ?_; intro bs)))
  refine GL.cut (fun _ : Unit => [(168, .bool (decide (i + 1 < t.ks.length ∧ 3 < (kid t (i + 1)).l.length))), (0, nptr nb), (1, .int .i64 i), (4, nptr pi)]) (fun _ => fnode nb (some ⟨pb, 0, none⟩) cp (some ⟨qb, 0, none⟩) cq t ps ++ [poolOf H]) (fun _ => True) (fun _ _ => ?_) ?_
  rotate_left
  · refine GK.split 154 _ rfl (fun h0 => ?_) (fun h0 => ?_)
    · have h0 : i + 1 < t.ks.length := by simp at h0; omega
      obtain ⟨pr, hpr, hnr⟩ := hf.nod (i := i + 1) (by omega)
      obtain ⟨lvr, kvr, psr, hndr, hkr⟩ := hnr.at_.node
      have hcr := hndr.nd
      obtain ⟨p3, e3, rfl, he3, hln3, hrl3⟩ := hndr.l.out
      have hldr : (ptrs ps)[0 + ((i : Int) + 1).toNat * 1]? = some (nptr pr) := by
        have : ((i : Int) + 1).toNat = i + 1 := by omega
        rw [this, Nat.zero_add]; exact ptrs_get hpr
      (repeat (first | refine GK.run ?_ | (refine GK.box ?_; intro bl) | (refine GK.mkMap ?_; intro bm) | (refine GK.build0 tb ?_; intro bs)))
      refine GQ.reach () trivial ?_ (fun w s => s)
      have e : decide (i + 1 < t.ks.length ∧ 3 < (kid t (i + 1)).l.length) = decide (3 < ((kid t (i + 1)).l.length : Int)) := decide_eq_decide.2 (by omega)
      rw [e]; exact (by repeat (first | exact trivial | refine ⟨rfl, ?_⟩))
    · have h0 : ¬ i + 1 < t.ks.length := by simp at h0; omega
      (repeat (first | refine GK.run ?_ | (refine GK.box ?_; intro bl) | (refine GK.mkMap ?_; intro bm) | (refine GK.build0 tb ?_; intro bs)))
      refine GQ.reach () trivial ?_ (fun w s => s)
      have e : decide (i + 1 < t.ks.length ∧ 3 < (kid t (i + 1)).l.length) = false := by simp [h0]
      rw [e]; exact (by repeat (first | exact trivial | refine ⟨rfl, ?_⟩))
  (repeat (first | refine GK.run ?_ | (refine GK.box ?_; intro bl) | (refine GK.mkMap ?_; intro bm) | (refine GK.build0 tb ?_; intro bs)))
  refine G.cond rfl (fun hR => ?_) (fun hR => ?_)
  · obtain ⟨h0, h4⟩ := of_decide_eq_true hR
    have hfill : fill t i = rotL t i := by unfold fill; rw [if_neg h3, if_neg hL, if_pos ⟨h0, h4⟩]
    rw [hfill]
    obtain ⟨pr, hpr, hnr⟩ := hf.nod (i := i + 1) (by omega)
    obtain ⟨lvr, kvr, psr, hndr, hkr⟩ := hnr.at_.node
    have hcr := hndr.nd
    have hlr := hnr.most
    have hksr := hnr.ksl
    obtain ⟨q3, c3, rfl, hc3, hkn3, hr3⟩ := hndr.k.out
    obtain ⟨p3, e3, rfl, he3, hln3, hrl3⟩ := hndr.l.out
    have hldr : (ptrs ps)[0 + ((i : Int) + 1).toNat * 1]? = some (nptr pr) := by
      have : ((i : Int) + 1).toNat = i + 1 := by omega
      rw [this, Nat.zero_add]; exact ptrs_get hpr
    have hej := ent_at (l := t.l) (i := i) (by omega)
    have hldj := ents_rd hej
    have hlj := entC_len (ent t.l i)
    have h20 : 0 < 2 := by omega
    (repeat (first | refine GK.run ?_ | (refine GK.box ?_; intro bl) | (refine GK.mkMap ?_; intro bm) | (refine GK.build0 tb ?_; intro bs)))
    refine G.draw [] [nblk nb (.slice (some ⟨pb, 0, none⟩) t.l.length cp) (.slice (some ⟨qb, 0, none⟩) t.ks.length cq), row (.slice (some ⟨pb, 0, none⟩) t.l.length cp) 59 2 t.l.length (ents t.l), poolOf H] (by kernel_rfl) ?_
    ((first | refine GH.tk 0 [0,0,1] ?_ | refine GH.tks 0 [0,0,1] ?_); (first | refine GH.tk 1 [0,0,1] ?_ | refine GH.tks 1 [0,0,1] ?_); (first | refine GH.tk 2 [0,0,1] ?_ | refine GH.tks 2 [0,0,1] ?_); (first | refine GH.tk 3 [0,0,1] ?_ | refine GH.tks 3 [0,0,1] ?_); (first | refine GH.tk 4 [0,0,1] ?_ | refine GH.tks 4 [0,0,1] ?_); (first | refine GH.tk 5 [0,0,1] ?_ | refine GH.tks 5 [0,0,1] ?_); (first | refine GH.tk 6 [0,0,1] ?_ | refine GH.tks 6 [0,0,1] ?_); (first | refine GH.tk 7 [0,0,1] ?_ | refine GH.tks 7 [0,0,1] ?_); (first | refine GH.tk 8 [0,0,1] ?_ | refine GH.tks 8 [0,0,1] ?_); (first | refine GH.tk 9 [0,0,1] ?_ | refine GH.tks 9 [0,0,1] ?_); (first | refine GH.tk 10 [0,0,1] ?_ | refine GH.tks 10 [0,0,1] ?_); (first | refine GH.tk 11 [0,0,1] ?_ | refine GH.tks 11 [0,0,1] ?_); (first | refine GH.tk 12 [0,0,1] ?_ | refine GH.tks 12 [0,0,1] ?_); (first | refine GH.tk 13 [0,0,1] ?_ | refine GH.tks 13 [0,0,1] ?_); (first | refine GH.tk 14 [0,0,1] ?_ | refine GH.tks 14 [0,0,1] ?_); (first | refine GH.tk 15 [0,0,1] ?_ | refine GH.tks 15 [0,0,1] ?_))
    refine GH.step 16 rfl (by kernel_rfl) ?_
    refine GO.call [3] (fun hF' _ _ => insE_ok (Γ := [poolOf H]) (kid t i).l rfl (RS.pool 0 rfl hndi.l) (kid t i).l.length (Nat.le_refl _) he2 (by omega) (ent t.l i)) (by first | exact Wt.none | exact Wt.some rfl rfl (by first | exact rfl | decide +kernel)) (by kernel_rfl) rfl rfl rfl ?_
    rintro v Γ' ⟨p5, c5, rfl, rfl⟩
    refine GH.keep (fun _ s => s.sel [2,2,1] rfl) ?_
    ((first | refine GH.tk 17 [2,2,1] ?_ | refine GH.tks 17 [2,2,1] ?_))
    refine GH.step 18 rfl (by kernel_rfl) ?_
    refine GO.box (by first | exact Wt.none | exact Wt.some rfl rfl (by first | exact rfl | decide +kernel)) rfl rfl ?_
    intro fb
    refine GH.keep (fun _ s => s.sel [3,3,2] rfl) ?_
    ((first | refine GH.tk 19 [3,3,2] ?_ | refine GH.tks 19 [3,3,2] ?_))
    refine GH.fin (by kernel_rfl) ?_
    (repeat (first | refine GK.run ?_ | (refine GK.box ?_; intro bl) | (refine GK.mkMap ?_; intro bm) | (refine GK.build0 tb ?_; intro bs)))
    refine GL.cons ?_; refine GO.call [2] (fun hF' hle hH => rmE_new (Γ := [poolOf H]) (kid t (i + 1)).l rfl (RS.pool 0 rfl hndr.l) 0 (by omega) he3 (by omega)) (by first | exact Wt.none | exact Wt.some rfl rfl (by first | exact rfl | decide +kernel)) (by kernel_rfl) rfl rfl rfl ?_
    rintro v Γ' ⟨p6, c6, rfl, rfl⟩
    (repeat (first | refine GK.run ?_ | (refine GK.box ?_; intro bl) | (refine GK.mkMap ?_; intro bm) | (refine GK.build0 tb ?_; intro bs)))
    have hwr := hnr.wf
    have hwi := hni.wf
    have he0 := ent_at (l := (kid t (i + 1)).l) (i := 0) (by omega)
    obtain ⟨bb3, o3, cs3, et3, fz3, rfl, hbb3, hat3⟩ := hrl3 (by omega)
    have hldk : At cs3 (o3 + (0 : Int).toNat * 2) (entC (ent (kid t (i + 1)).l 0)) := at_trans hat3 (ents_at he0)
    have hlk := entC_len (ent (kid t (i + 1)).l 0)
    unfold rotL
    refine G.cut (fun x : Value × Value × List HProp => [(0, nptr nb), (1, .int .i64 i), (9, nptr pr), (10, nptr fb), (11, nptr bl)])
      (fun x => [nblk bl (.slice p6 ((kid t (i + 1)).l.length - 1) c6) x.1, row (.slice p6 ((kid t (i + 1)).l.length - 1) c6) 59 2 ((kid t (i + 1)).l.length - 1) (ents (rm (kid t (i + 1)).l 0)), poolOf H, nblk fb (.slice p5 ((kid t i).l.length + 1) c5) x.2.1, row (.slice p5 ((kid t i).l.length + 1) c5) 59 2 ((kid t i).l.length + 1) (ents (ins (kid t i).l (kid t i).l.length (ent t.l i))), nblk nb (.slice (some ⟨pb, 0, none⟩) t.l.length cp) (.slice (some ⟨qb, 0, none⟩) t.ks.length cq), row (.slice (some ⟨pb, 0, none⟩) t.l.length cp) 59 2 t.l.length (ents t.l), row (.slice (some ⟨qb, 0, none⟩) t.ks.length cq) 46 1 t.ks.length (ptrs ps)] ++ x.2.2)
      (fun x => (d = 0 ∧ x = (.slice none 0 0, .slice none 0 0, [])) ∨ (∃ d' p7 c7 p8 c8 pk0, d = d' + 1 ∧ psr[0]? = some pk0 ∧ x = (.slice p8 ((kid t (i + 1)).ks.length - 1) c8, .slice p7 ((kid t i).ks.length + 1) c7, [row (.slice p7 ((kid t i).ks.length + 1) c7) 46 1 ((kid t i).ks.length + 1) (ptrs (ins psi (kid t i).ks.length pk0)), row (.slice p8 ((kid t (i + 1)).ks.length - 1) c8) 46 1 ((kid t (i + 1)).ks.length - 1) (ptrs (rm psr 0))]))) (fun x hx => ?_) ?_
    rotate_left
    · refine G.cond rfl (fun h8 => ?_) (fun h8 => ?_)
      · have h8 : 0 < (kid t i).ks.length := by simp at h8; omega
        obtain ⟨d', rfl⟩ : ∃ d', d = d' + 1 := by
          cases d with
          | zero => have : (kid t i).ks = [] := hwi; rw [this] at h8; simp at h8
          | succ d => exact ⟨d, rfl⟩
        have hwr1 := hwr.1
        obtain ⟨pk0, hpk0, _⟩ := kid_at hkr hndr.len (i := 0) (by omega)
        obtain ⟨bb4, o4, cs4, et4, fz4, rfl, hbb4, hat4⟩ := hr3 (by omega)
        have hldq : cs4[o4 + (0 : Int).toNat * 1]? = some (nptr pk0) := hat4 _ _ (ptrs_get hpk0)
        (repeat (first | refine GK.run ?_ | (refine GK.box ?_; intro bl) | (refine GK.mkMap ?_; intro bm) | (refine GK.build0 tb ?_; intro bs)))
        refine G.draw [] [poolOf H] (by kernel_rfl) ?_
        ((first | refine GH.tk 0 [2] ?_ | refine GH.tks 0 [2] ?_); (first | refine GH.tk 1 [2] ?_ | refine GH.tks 1 [2] ?_); (first | refine GH.tk 2 [2] ?_ | refine GH.tks 2 [2] ?_); (first | refine GH.tk 3 [2] ?_ | refine GH.tks 3 [2] ?_); (first | refine GH.tk 4 [2] ?_ | refine GH.tks 4 [2] ?_); (first | refine GH.tk 5 [2] ?_ | refine GH.tks 5 [2] ?_); (first | refine GH.tk 6 [2] ?_ | refine GH.tks 6 [2] ?_); (first | refine GH.tk 7 [2] ?_ | refine GH.tks 7 [2] ?_); (first | refine GH.tk 8 [2] ?_ | refine GH.tks 8 [2] ?_); (first | refine GH.tk 9 [2] ?_ | refine GH.tks 9 [2] ?_); (first | refine GH.tk 10 [2] ?_ | refine GH.tks 10 [2] ?_); (first | refine GH.tk 11 [2] ?_ | refine GH.tks 11 [2] ?_); (first | refine GH.tk 12 [2] ?_ | refine GH.tks 12 [2] ?_); (first | refine GH.tk 13 [2] ?_ | refine GH.tks 13 [2] ?_); (first | refine GH.tk 14 [2] ?_ | refine GH.tks 14 [2] ?_); (first | refine GH.tk 15 [2] ?_ | refine GH.tks 15 [2] ?_))
        refine GH.step 16 rfl (by kernel_rfl) ?_
        refine GO.call [2] (fun hF' _ _ => insP_ok (Γ := [poolOf H]) psi hndi.len (RS.pool 0 rfl hndi.k) (kid t i).ks.length (Nat.le_refl _) hc2 (by omega) pk0) (by first | exact Wt.none | exact Wt.some rfl rfl (by first | exact rfl | decide +kernel)) (by kernel_rfl) rfl rfl rfl ?_
        rintro v Γ' ⟨p7, c7, rfl, rfl⟩
        refine GH.keep (fun _ s => s.sel [1] rfl) ?_
        ((first | refine GH.tk 17 [1] ?_ | refine GH.tks 17 [1] ?_); (first | refine GH.tk 18 [1] ?_ | refine GH.tks 18 [1] ?_))
        refine GH.step 19 rfl (by kernel_rfl) ?_
        refine Gt.store tb 4 (by first | exact Wt.none | exact Wt.some rfl rfl (by first | exact rfl | decide +kernel)) rfl rfl rfl rfl rfl rfl rfl rfl ?_
        refine GH.keep (fun _ s => s.sel [1] rfl) ?_
        refine GH.fin (by kernel_rfl) ?_
        (repeat (first | refine GK.run ?_ | (refine GK.box ?_; intro bl) | (refine GK.mkMap ?_; intro bm) | (refine GK.build0 tb ?_; intro bs)))
        refine GL.cons ?_; refine GO.call [1] (fun hF' hle hH => rmP_new (Γ := [poolOf H]) psr hndr.len (RS.pool 0 rfl hndr.k) 0 (by omega) hc3 (by omega)) (by first | exact Wt.none | exact Wt.some rfl rfl (by first | exact rfl | decide +kernel)) (by kernel_rfl) rfl rfl rfl ?_
        rintro v Γ' ⟨p8, c8, rfl, rfl⟩
        (repeat (first | refine GK.run ?_ | (refine GK.box ?_; intro bl) | (refine GK.mkMap ?_; intro bm) | (refine GK.build0 tb ?_; intro bs)))
        exact GQ.reach (.slice p8 ((kid t (i + 1)).ks.length - 1) c8, .slice p7 ((kid t i).ks.length + 1) c7, [row (.slice p7 ((kid t i).ks.length + 1) c7) 46 1 ((kid t i).ks.length + 1) (ptrs (ins psi (kid t i).ks.length pk0)), row (.slice p8 ((kid t (i + 1)).ks.length - 1) c8) 46 1 ((kid t (i + 1)).ks.length - 1) (ptrs (rm psr 0))]) (.inr ⟨d', p7, c7, p8, c8, pk0, rfl, hpk0, rfl⟩) (by repeat (first | exact trivial | refine ⟨rfl, ?_⟩)) (fun w s => s.sel [3, 3, 1, 2, 2, 2, 2, 2, 1, 0] rfl)
      · have h8 : (kid t i).ks.length = 0 := by simp at h8; simp [h8]
        have hd0 : d = 0 := hwi.leaf.1 (List.length_eq_zero_iff.1 h8)
        (repeat (first | refine GK.run ?_ | (refine GK.box ?_; intro bl) | (refine GK.mkMap ?_; intro bm) | (refine GK.build0 tb ?_; intro bs)))
        exact GQ.reach (.slice none 0 0, .slice none 0 0, []) (.inl ⟨hd0, rfl⟩) (by repeat (first | exact trivial | refine ⟨rfl, ?_⟩)) (fun w s => s.sel [0, 0, 0, 0, 0, 0, 0, 0] rfl)
    obtain ⟨va, vb, L⟩ := x
    (repeat (first | refine GK.run ?_ | (refine GK.box ?_; intro bl) | (refine GK.mkMap ?_; intro bm) | (refine GK.build0 tb ?_; intro bs)))
    refine G.draw [] [nblk nb (.slice (some ⟨pb, 0, none⟩) t.l.length cp) (.slice (some ⟨qb, 0, none⟩) t.ks.length cq), poolOf H] (by kernel_rfl) ?_
    ((first | refine GH.tk 0 [5,2] ?_ | refine GH.tks 0 [5,2] ?_); (first | refine GH.tk 1 [5,2] ?_ | refine GH.tks 1 [5,2] ?_); (first | refine GH.tk 2 [5,2] ?_ | refine GH.tks 2 [5,2] ?_); (first | refine GH.tk 3 [5,2] ?_ | refine GH.tks 3 [5,2] ?_); (first | refine GH.tk 4 [5,2] ?_ | refine GH.tks 4 [5,2] ?_); (first | refine GH.tk 5 [5,2] ?_ | refine GH.tks 5 [5,2] ?_); (first | refine GH.tk 6 [5,2] ?_ | refine GH.tks 6 [5,2] ?_); (first | refine GH.tk 7 [5,2] ?_ | refine GH.tks 7 [5,2] ?_); (first | refine GH.tk 8 [5,2] ?_ | refine GH.tks 8 [5,2] ?_); (first | refine GH.tk 9 [5,2] ?_ | refine GH.tks 9 [5,2] ?_); (first | refine GH.tk 10 [5,2] ?_ | refine GH.tks 10 [5,2] ?_); (first | refine GH.tk 11 [5,2] ?_ | refine GH.tks 11 [5,2] ?_); (first | refine GH.tk 12 [5,2] ?_ | refine GH.tks 12 [5,2] ?_); (first | refine GH.tk 13 [5,2] ?_ | refine GH.tks 13 [5,2] ?_); (first | refine GH.tk 14 [5,2] ?_ | refine GH.tks 14 [5,2] ?_); (first | refine GH.tk 15 [5,2] ?_ | refine GH.tks 15 [5,2] ?_); (first | refine GH.tk 16 [5,2] ?_ | refine GH.tks 16 [5,2] ?_); (first | refine GH.tk 17 [5,2] ?_ | refine GH.tks 17 [5,2] ?_); (first | refine GH.tk 18 [5,2] ?_ | refine GH.tks 18 [5,2] ?_); (first | refine GH.tk 19 [5,2] ?_ | refine GH.tks 19 [5,2] ?_); (first | refine GH.tk 20 [5,2] ?_ | refine GH.tks 20 [5,2] ?_); (first | refine GH.tk 21 [5,2] ?_ | refine GH.tks 21 [5,2] ?_); (first | refine GH.tk 22 [5,2] ?_ | refine GH.tks 22 [5,2] ?_); (first | refine GH.tk 23 [5,2] ?_ | refine GH.tks 23 [5,2] ?_); (first | refine GH.tk 24 [5,2] ?_ | refine GH.tks 24 [5,2] ?_))
    refine GH.step 25 rfl (by kernel_rfl) ?_
    refine Gt.storeWRow tb 6 (by first | exact Wt.none | exact Wt.some rfl rfl (by first | exact rfl | decide +kernel)) rfl rfl rfl hlk (entC_one _) rfl (by rw [ents_len]; show 0 + i * 2 + 2 ≤ _; omega) (by rw [ents_len]; omega) ?_
    refine GH.keep (fun _ s => s.sel [6,3] rfl) ?_
    ((first | refine GH.tk 26 [6,3] ?_ | refine GH.tks 26 [6,3] ?_))
    refine GH.step 27 rfl (by kernel_rfl) ?_
    refine Gt.storeW tb 7 (by first | exact Wt.none | exact Wt.some rfl rfl (by first | exact rfl | decide +kernel)) rfl rfl rfl rfl rfl (by rw [ptrs_len]; show 0 + i * 1 < _; omega) ?_
    refine GH.keep (fun _ s => s.sel [7,4] rfl) ?_
    ((first | refine GH.tk 28 [7,4] ?_ | refine GH.tks 28 [7,4] ?_))
    refine GH.step 29 rfl (by kernel_rfl) ?_
    refine Gt.storeW tb 0 (by first | exact Wt.none | exact Wt.some rfl rfl (by first | exact rfl | decide +kernel)) rfl rfl rfl rfl rfl (by rw [List.length_set, ptrs_len]; omega) ?_
    refine GH.keep (fun _ s => s.sel [7,4] rfl) ?_
    refine GH.fin (by kernel_rfl) ?_
    (repeat (first | refine GK.run ?_ | (refine GK.box ?_; intro bl) | (refine GK.mkMap ?_; intro bm) | (refine GK.build0 tb ?_; intro bs)))
    have hin : ((i : Int) + 1).toNat = i + 1 := by omega
    have hE : splice (ents t.l) (0 + (i : Int).toNat * 2) (entC (ent (kid t (i + 1)).l 0)) = ents (t.l.set i (ent (kid t (i + 1)).l 0)) := by
      show splice (ents t.l) (0 + i * 2) _ = _
      rw [Nat.zero_add]; exact ents_set (by omega) _
    have hK1 : (ptrs ps).set (0 + (i : Int).toNat * 1) (nptr fb) = ptrs (ps.set i fb) := by
      show (ptrs ps).set (0 + i * 1) _ = _
      rw [Nat.zero_add]; exact ptrs_set (by omega) _
    have hK2 : (ptrs (ps.set i fb)).set (0 + ((i : Int) + 1).toNat * 1) (nptr bl) = ptrs ((ps.set i fb).set (i + 1) bl) := by
      rw [hin, Nat.zero_add]; exact ptrs_set (by simp; omega) _
    rw [hE, hK1, hK2]
    rcases hx with ⟨hd0, hx⟩ | ⟨d', p7, c7, p8, c8, pk0, hd, hpk0, hx⟩
    · subst hd0; cases hx
      have hik : (kid t i).ks.length = 0 := by have : (kid t i).ks = [] := hwi; rw [this]; rfl
      rw [if_pos hik, if_pos hik]
      refine GK.sel [4, 2, 2, 2, 2, 2, 1, 0] rfl ?_
      refine GK.absorb fun H1 k1 le1 x1 y1 => ?_
      refine GK.absorb fun H2 k2 le2 x2 y2 => ?_
      refine GK.absorb fun H3 k3 le3 x3 y3 => ?_
      refine GK.absorb fun H4 k4 le4 x4 y4 => ?_
      have hle := le1.trans (le2.trans (le3.trans le4))
      have hpn : rs H4 (.slice none 0 0) 0 1 (ptrs []) := by rw [ptrs_nil]; exact rs.nil
      have hr4 := row_in x4 y4
      rw [ins_end] at hr4
      have hA : TAt H4 0 (.mk ((kid t i).l ++ [ent t.l i]) []) fb := TAt.mk (NodeAt.of (le4 _ _ (pt_in x3 y3)) hr4 hpn (by simp) rfl rfl) trivial
      have hB : TAt H4 0 (.mk (rm (kid t (i + 1)).l 0) []) bl := TAt.mk (NodeAt.of ((le2.trans (le3.trans le4)) _ _ (pt_in x1 y1)) ((row_in x2 y2).mono (le3.trans le4)) hpn (rm_len (by omega)).symm rfl rfl) trivial
      refine GQ.fin0 rfl (fun w s => s.sel [1, 1, 1, 0] rfl) ⟨rfl, FillOut.mk (by simp) (by simp) hle (by simp [hlen]) ?_⟩
      exact kids_set_at (kids_set_at (hf.kids.mono hle) hA) hB
    · subst hd; cases hx
      have hik : ¬ (kid t i).ks.length = 0 := by have := hwi.1; omega
      rw [if_neg hik, if_neg hik]
      have hwr1 := hwr.1
      refine GK.sel [4, 2, 2, 2, 2, 3, 3, 2, 1, 0] rfl ?_
      refine GK.absorb fun H1 k1 le1 x1 y1 => ?_
      refine GK.absorb fun H2 k2 le2 x2 y2 => ?_
      refine GK.absorb fun H3 k3 le3 x3 y3 => ?_
      refine GK.absorb fun H4 k4 le4 x4 y4 => ?_
      refine GK.absorb fun H5 k5 le5 x5 y5 => ?_
      refine GK.absorb fun H6 k6 le6 x6 y6 => ?_
      have hle := le1.trans (le2.trans (le3.trans (le4.trans (le5.trans le6))))
      have hr4 := row_in x4 y4
      rw [ins_end] at hr4
      obtain ⟨pk0', hpk2, hkk⟩ := kid_at hkr hndr.len (i := 0) (by omega)
      have hpe : pk0' = pk0 := by rw [hpk0] at hpk2; exact (Option.some.inj hpk2).symm
      subst hpe
      have hA : TAt H6 (d' + 1) (.mk ((kid t i).l ++ [ent t.l i]) ((kid t i).ks ++ [kid (kid t (i + 1)) 0])) fb := by
        rw [← ins_end (kid t i).ks]
        exact TAt.mk (NodeAt.of ((le4.trans (le5.trans le6)) _ _ (pt_in x3 y3)) (hr4.mono (le5.trans le6)) ((row_in x5 y5).mono le6) (by simp) (by rw [ins_length (Nat.le_refl _)]) (by rw [ins_length (Nat.le_of_eq hndi.len.symm), hndi.len])) (kids_ins_at (hki.mono hle) hndi.len (Nat.le_refl _) (hkk.mono hle))
      have hB : TAt H6 (d' + 1) (.mk (rm (kid t (i + 1)).l 0) (rm (kid t (i + 1)).ks 0)) bl := TAt.mk (NodeAt.of ((le2.trans (le3.trans (le4.trans (le5.trans le6)))) _ _ (pt_in x1 y1)) ((row_in x2 y2).mono (le3.trans (le4.trans (le5.trans le6)))) (row_in x6 y6) (rm_len (by omega)).symm (rm_len (by omega)).symm (by rw [rm_len (by rw [hndr.len]; omega), hndr.len])) (kids_rm_at (hkr.mono hle) hndr.len (by omega))
      refine GQ.fin0 rfl (fun w s => s.sel [1, 1, 1, 0] rfl) ⟨rfl, FillOut.mk (by simp) (by simp) hle (by simp [hlen]) ?_⟩
      exact kids_set_at (kids_set_at (hf.kids.mono hle) hA) hB
  have hR : ¬ (i + 1 < t.ks.length ∧ 3 < (kid t (i + 1)).l.length) := of_decide_eq_false hR
  have hfill : fill t i = join t (i - 1) := by unfold fill; rw [if_neg h3, if_neg hL, if_neg hR]
  rw [hfill]
  (repeat (first | refine GK.run ?_ | (refine GK.box ?_; intro bl) | (refine GK.mkMap ?_; intro bm) | (refine GK.build0 tb ?_; intro bs)))
  refine G.cut (fun _ : Unit => [(0, nptr nb), (1, .int .i64 ((i - 1 : Nat) : Int))]) (fun _ => fnode nb (some ⟨pb, 0, none⟩) cp (some ⟨qb, 0, none⟩) cq t ps ++ [poolOf H]) (fun _ => True) (fun _ _ => ?_) ?_
  rotate_left
  · refine G.cond rfl (fun h0 => ?_) (fun h0 => ?_)
    · have h0 : 0 < i := by simpa using h0
      (repeat (first | refine GK.run ?_ | (refine GK.box ?_; intro bl) | (refine GK.mkMap ?_; intro bm) | (refine GK.build0 tb ?_; intro bs)))
      have e : ((i - 1 : Nat) : Int) = (i : Int) - 1 := by omega
      exact GQ.reach () trivial (by rw [e]; exact (by repeat (first | exact trivial | refine ⟨rfl, ?_⟩))) (fun w s => s)
    · have h0 : i = 0 := by simp at h0; omega
      (repeat (first | refine GK.run ?_ | (refine GK.box ?_; intro bl) | (refine GK.mkMap ?_; intro bm) | (refine GK.build0 tb ?_; intro bs)))
      have e : ((i - 1 : Nat) : Int) = (i : Int) := by omega
      exact GQ.reach () trivial (by rw [e]; exact (by repeat (first | exact trivial | refine ⟨rfl, ?_⟩))) (fun w s => s)
  have hj : (i - 1) + 1 < t.ks.length := by omega
  obtain ⟨j, hj0⟩ : ∃ j, i - 1 = j := ⟨_, rfl⟩
  rw [hj0] at hj ⊢
  obtain ⟨xa, hpa, hna⟩ := hf.nod (i := j) (by omega)
  obtain ⟨xb, hpb, hnb⟩ := hf.nod (i := j + 1) (by omega)
  obtain ⟨lva, kva, psa, hnda, hka⟩ := hna.at_.node
  obtain ⟨lvb, kvb, psb, hndb, hkb⟩ := hnb.at_.node
  have hca := hnda.nd
  have hcb := hndb.nd
  have hla := hna.most
  have hlb := hnb.most
  have hksa := hna.ksl
  have hksb := hnb.ksl
  obtain ⟨q3, c3, rfl, hc3, hkn3, hr3⟩ := hnda.k.out
  obtain ⟨p3, e3, rfl, he3, hln3, hrl3⟩ := hnda.l.out
  obtain ⟨q4, c4, rfl, hc4, hkn4, hr4⟩ := hndb.k.out
  obtain ⟨p4, e4, rfl, he4, hln4, hrl4⟩ := hndb.l.out
  have hlda := ptrs_rd hpa
  have hldb : (ptrs ps)[0 + ((j : Int) + 1).toNat * 1]? = some (nptr xb) := by
    have : ((j : Int) + 1).toNat = j + 1 := by omega
    rw [this, Nat.zero_add]; exact ptrs_get hpb
  have hldj := ents_rd (ent_at (l := t.l) (i := j) (by omega))
  have hlj := entC_len (ent t.l j)
  have h20 : 0 < 2 := by omega
  refine GK.rowCap 1 rfl fun hcp _ => ?_
  refine GK.rowCap 2 rfl fun hcq _ => ?_
  (repeat (first | refine GK.run ?_ | (refine GK.box ?_; intro bl) | (refine GK.mkMap ?_; intro bm) | (refine GK.build0 tb ?_; intro bs)))
  refine G.draw [] [nblk nb (.slice (some ⟨pb, 0, none⟩) t.l.length cp) (.slice (some ⟨qb, 0, none⟩) t.ks.length cq), row (.slice (some ⟨qb, 0, none⟩) t.ks.length cq) 46 1 t.ks.length (ptrs ps)] (by kernel_rfl) ?_
  ((first | refine GH.tk 0 [0,1] ?_ | refine GH.tks 0 [0,1] ?_); (first | refine GH.tk 1 [0,1] ?_ | refine GH.tks 1 [0,1] ?_); (first | refine GH.tk 2 [0,1] ?_ | refine GH.tks 2 [0,1] ?_); (first | refine GH.tk 3 [0,1] ?_ | refine GH.tks 3 [0,1] ?_); (first | refine GH.tk 4 [0,1] ?_ | refine GH.tks 4 [0,1] ?_); (first | refine GH.tk 5 [0,1] ?_ | refine GH.tks 5 [0,1] ?_); (first | refine GH.tk 6 [0,1] ?_ | refine GH.tks 6 [0,1] ?_); (first | refine GH.tk 7 [0,1] ?_ | refine GH.tks 7 [0,1] ?_); (first | refine GH.tk 8 [0,1] ?_ | refine GH.tks 8 [0,1] ?_); (first | refine GH.tk 9 [0,1] ?_ | refine GH.tks 9 [0,1] ?_); (first | refine GH.tk 10 [0,1] ?_ | refine GH.tks 10 [0,1] ?_); (first | refine GH.tk 11 [0,1] ?_ | refine GH.tks 11 [0,1] ?_); (first | refine GH.tk 12 [0,1] ?_ | refine GH.tks 12 [0,1] ?_); (first | refine GH.tk 13 [0,1] ?_ | refine GH.tks 13 [0,1] ?_); (first | refine GH.tk 14 [0,1] ?_ | refine GH.tks 14 [0,1] ?_); (first | refine GH.tk 15 [0,1] ?_ | refine GH.tks 15 [0,1] ?_); (first | refine GH.tk 16 [0,1] ?_ | refine GH.tks 16 [0,1] ?_))
  refine GH.fin (by kernel_rfl) ?_
  (repeat (first | refine GK.run ?_ | (refine GK.box ?_; intro bl) | (refine GK.mkMap ?_; intro bm) | (refine GK.build0 tb ?_; intro bs)))
  refine GK.heap (fun w s => s.row_nil (e := 46) (sz := 1)) ?_
  refine G.draw [] [nblk nb (.slice (some ⟨pb, 0, none⟩) t.l.length cp) (.slice (some ⟨qb, 0, none⟩) t.ks.length cq), row (.slice (some ⟨pb, 0, none⟩) t.l.length cp) 59 2 t.l.length (ents t.l), poolOf H] (by kernel_rfl) ?_
  ((first | refine GH.tk 0 [1,1,2] ?_ | refine GH.tks 0 [1,1,2] ?_); (first | refine GH.tk 1 [1,1,2] ?_ | refine GH.tks 1 [1,1,2] ?_); (first | refine GH.tk 2 [1,1,2] ?_ | refine GH.tks 2 [1,1,2] ?_); (first | refine GH.tk 3 [1,1,2] ?_ | refine GH.tks 3 [1,1,2] ?_); (first | refine GH.tk 4 [1,1,2] ?_ | refine GH.tks 4 [1,1,2] ?_); (first | refine GH.tk 5 [1,1,2] ?_ | refine GH.tks 5 [1,1,2] ?_); (first | refine GH.tk 6 [1,1,2] ?_ | refine GH.tks 6 [1,1,2] ?_); (first | refine GH.tk 7 [1,1,2] ?_ | refine GH.tks 7 [1,1,2] ?_); (first | refine GH.tk 8 [1,1,2] ?_ | refine GH.tks 8 [1,1,2] ?_); (first | refine GH.tk 9 [1,1,2] ?_ | refine GH.tks 9 [1,1,2] ?_); (first | refine GH.tk 10 [1,1,2] ?_ | refine GH.tks 10 [1,1,2] ?_); (first | refine GH.tk 11 [1,1,2] ?_ | refine GH.tks 11 [1,1,2] ?_); (first | refine GH.tk 12 [1,1,2] ?_ | refine GH.tks 12 [1,1,2] ?_); (first | refine GH.tk 13 [1,1,2] ?_ | refine GH.tks 13 [1,1,2] ?_); (first | refine GH.tk 14 [1,1,2] ?_ | refine GH.tks 14 [1,1,2] ?_); (first | refine GH.tk 15 [1,1,2] ?_ | refine GH.tks 15 [1,1,2] ?_); (first | refine GH.tk 17 [1,1,2] ?_ | refine GH.tks 17 [1,1,2] ?_); (first | refine GH.tk 18 [1,1,2] ?_ | refine GH.tks 18 [1,1,2] ?_); (first | refine GH.tk 19 [1,1,2] ?_ | refine GH.tks 19 [1,1,2] ?_); (first | refine GH.tk 20 [1,1,2] ?_ | refine GH.tks 20 [1,1,2] ?_); (first | refine GH.tk 22 [1,1,2] ?_ | refine GH.tks 22 [1,1,2] ?_); (first | refine GH.tk 23 [1,1,2] ?_ | refine GH.tks 23 [1,1,2] ?_); (first | refine GH.tk 24 [1,1,2] ?_ | refine GH.tks 24 [1,1,2] ?_); (first | refine GH.tk 25 [1,1,2] ?_ | refine GH.tks 25 [1,1,2] ?_); (first | refine GH.tk 27 [1,1,2] ?_ | refine GH.tks 27 [1,1,2] ?_); (first | refine GH.tk 28 [1,1,2] ?_ | refine GH.tks 28 [1,1,2] ?_); (first | refine GH.tk 29 [1,1,2] ?_ | refine GH.tks 29 [1,1,2] ?_); (first | refine GH.tk 30 [1,1,2] ?_ | refine GH.tks 30 [1,1,2] ?_))
  refine GH.step 16 rfl (by kernel_rfl) ?_
  refine GO.call [4] (fun hF' _ _ => insE_ok (Γ := [poolOf H]) (kid t j).l rfl (RS.pool 0 rfl hnda.l) (kid t j).l.length (Nat.le_refl _) he3 (by omega) (ent t.l j)) (by first | exact Wt.none | exact Wt.some rfl rfl (by first | exact rfl | decide +kernel)) (by kernel_rfl) rfl rfl rfl ?_
  rintro v Γ' ⟨p5, c5, rfl, rfl⟩
  refine GH.keep (fun _ s => s.sel [3,3,1] rfl) ?_
  refine GH.step 21 rfl (by kernel_rfl) ?_
  refine Gt.append tb 0 (m := (kid t (j + 1)).l.length) (by first | exact Wt.none | exact Wt.some rfl rfl (by first | exact rfl | decide +kernel)) rfl (.inl ⟨_, rfl⟩) rfl rfl rfl rfl rfl (RS.src (RS.pool 1 rfl hndb.l) (ents_one _) hln4 ⟨_, _, rfl⟩) (by omega) (by omega) ?_
  intro p6 c6
  refine GH.keep (fun _ s => s.sel [3,3,1] rfl) ?_
  refine GH.step 26 rfl (by kernel_rfl) ?_
  refine Gt.append0 tb 2 (m := (kid t j).ks.length) (by first | exact Wt.none | exact Wt.some rfl rfl (by first | exact rfl | decide +kernel)) rfl (.inl ⟨_, rfl⟩) rfl rfl rfl rfl rfl (RS.src (RS.pool 1 rfl hnda.k) (ptrs_one _) hkn3 ⟨_, _, rfl⟩) (by omega) (by omega) ?_
  intro p7 c7
  refine GH.keep (fun _ s => s.sel [3,3,2] rfl) ?_
  refine GH.step 31 rfl (by kernel_rfl) ?_
  refine Gt.append tb 0 (m := (kid t (j + 1)).ks.length) (by first | exact Wt.none | exact Wt.some rfl rfl (by first | exact rfl | decide +kernel)) rfl (.inl ⟨_, rfl⟩) rfl rfl rfl rfl rfl (RS.src (RS.pool 2 rfl hndb.k) (ptrs_one _) hkn4 ⟨_, _, rfl⟩) (by omega) (by omega) ?_
  intro p8 c8
  refine GH.keep (fun _ s => s.sel [3,3,2] rfl) ?_
  ((first | refine GH.tk 32 [3,3,2] ?_ | refine GH.tks 32 [3,3,2] ?_))
  refine GH.step 33 rfl (by kernel_rfl) ?_
  refine GO.box (by first | exact Wt.none | exact Wt.some rfl rfl (by first | exact rfl | decide +kernel)) rfl rfl ?_
  intro fb
  refine GH.keep (fun _ s => s.sel [4,4,3] rfl) ?_
  ((first | refine GH.tk 34 [4,4,3] ?_ | refine GH.tks 34 [4,4,3] ?_))
  refine GH.fin (by kernel_rfl) ?_
  (repeat (first | refine GK.run ?_ | (refine GK.box ?_; intro bl) | (refine GK.mkMap ?_; intro bm) | (refine GK.build0 tb ?_; intro bs)))
  refine GL.cons ?_; refine GO.call [5] (fun hF' hle hH => rmE_row t.l rfl j (by omega) hcp (by omega)) (by first | exact Wt.none | exact Wt.some rfl rfl (by first | exact rfl | decide +kernel)) (by kernel_rfl) rfl rfl rfl ?_
  rintro v Γ' ⟨p9, c9, rfl, rfl⟩
  (repeat (first | refine GK.run ?_ | (refine GK.box ?_; intro bl) | (refine GK.mkMap ?_; intro bm) | (refine GK.build0 tb ?_; intro bs)))
  refine GL.cons ?_; refine GO.call [6] (fun hF' hle hH => rmP_row ps hlen (j + 1) (by omega) hcq (by omega)) (by first | exact Wt.none | exact Wt.some rfl rfl (by first | exact rfl | decide +kernel)) (by kernel_rfl) rfl rfl rfl ?_
  rintro v Γ' ⟨q9, d9, rfl, rfl⟩
  refine GK.rowPtr 0 rfl (by omega) fun qb2 hq2 => ?_
  subst hq2
  (repeat (first | refine GK.run ?_ | (refine GK.box ?_; intro bl) | (refine GK.mkMap ?_; intro bm) | (refine GK.build0 tb ?_; intro bs)))
  refine GL.cons ?_
  refine Gt.storeW tb 0 (by first | exact Wt.none | exact Wt.some rfl rfl (by first | exact rfl | decide +kernel)) rfl rfl rfl rfl rfl (by rw [ptrs_len, rm_len (by omega)]; show 0 + j * 1 < _; omega) ?_
  (repeat (first | refine GK.run ?_ | (refine GK.box ?_; intro bl) | (refine GK.mkMap ?_; intro bm) | (refine GK.build0 tb ?_; intro bs)))
  have hK : (ptrs (rm ps (j + 1))).set (0 + (j : Int).toNat * 1) (nptr fb) = ptrs ((rm ps (j + 1)).set j fb) := by
    show (ptrs (rm ps (j + 1))).set (0 + j * 1) _ = _
    rw [Nat.zero_add]; exact ptrs_set (by rw [rm_len (by omega)]; omega) _
  rw [show Value.pointer (some ⟨fb, 0, none⟩) = nptr fb from rfl, hK]
  unfold join
  refine GK.sel [5, 2, 2, 2, 2, 1, 0] rfl ?_
  refine GK.absorb fun H1 k1 le1 x1 y1 => ?_
  refine GK.absorb fun H2 k2 le2 x2 y2 => ?_
  refine GK.absorb fun H3 k3 le3 x3 y3 => ?_
  have hle := le1.trans (le2.trans le3)
  have hr2' := row_in x2 y2
  have hr3' := row_in x3 y3
  rw [← ptrs_append] at hr2'
  rw [ins_end, ← ents_append, List.append_assoc] at hr3'
  have hA : TAt H3 d (.mk ((kid t j).l ++ ent t.l j :: (kid t (j + 1)).l) ((kid t j).ks ++ (kid t (j + 1)).ks)) fb :=
    TAt.mk (NodeAt.of ((le2.trans le3) _ _ (pt_in x1 y1)) hr3' (hr2'.mono le3) (by simp; omega) (by simp) (by simp [hnda.len, hndb.len])) (kids_append_at (hka.mono hle) (hkb.mono hle) hnda.len)
  refine GQ.fin0' rfl (fun w s => s.sel [1, 1, 1, 0] rfl) ⟨rfl, FillOut.mk (rm_len (by omega)).symm (by rw [T.ks_mk, List.length_set, rm_len (by omega)]) hle (by rw [T.ks_mk, List.length_set, List.length_set, rm_len (by omega), rm_len (by omega), hlen]) ?_⟩
  exact kids_set_at (kids_rm_at (hf.kids.mono hle) hlen (by omega)) hA
end Go.Tr
