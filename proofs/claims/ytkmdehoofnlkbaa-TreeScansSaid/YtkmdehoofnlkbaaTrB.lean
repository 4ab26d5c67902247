/- A node's find. -/
import Derived.Test.YtkmdehoofnlkbaaTrA
namespace Go.Tr
open Go Go.Sl
def above (l : List En) (k : Ky) (i : Nat) : Bool := match l[i]? with
  | some e => !lt e.1 k
  | none => false
theorem above_pos {l : List En} (hs : Srt l) {k : Ky} {i : Nat} (hi : i ≤ l.length) (h1 : ∀ j, j + 1 = i → above l k j = false) (h2 : i < l.length → above l k i = true) : pos l k = i := by
  refine pos_uniq hi (fun j e hj he => ?_) (fun e he => ?_)
  · obtain ⟨m, rfl⟩ : ∃ m, i = m + 1 := ⟨i - 1, by omega⟩
    have hm : m < l.length := by omega
    have h3 := h1 m rfl
    unfold above at h3
    rw [List.getElem?_eq_getElem hm] at h3
    have h4 : lt l[m].1 k = true := by simpa using h3
    rcases Nat.lt_or_ge j m with h5 | h5
    · have := List.pairwise_iff_getElem.1 hs j m (by omega) hm h5
      have hj2 : l[j] = e := by rw [List.getElem?_eq_getElem (by omega)] at he; injection he
      rw [hj2] at this
      exact lt_trans this h4
    · obtain rfl : j = m := by omega
      have hj2 : l[j] = e := by rw [List.getElem?_eq_getElem (by omega)] at he; injection he
      rw [← hj2]; exact h4
  · have hlt := (List.getElem?_eq_some_iff.1 he).1
    have h3 := h2 hlt
    unfold above at h3
    rw [he] at h3
    simpa using h3
attribute [local irreducible] GK GO Yl Wt Ef Hd GH KH wpListIn Code.wpIn toBody roundQ poolOf rs RS YieldOk IterOk VOk row star exs mp lp Sat pt FnOk Rd bodyPost bodyPostM Lv Ret Exit.then Exit.inBlock Exit.noGoto Int.decLt Int.decLe Int.instDecidableEq
variable {hF H : Hp}
abbrev nbox (b : Nat) (v : Value) : HProp := blk b 46 (0, 0) [v]
abbrev kbox (b : Nat) (k : Ky) : HProp := blk b 9 (0, 0) [str k]
theorem find1_ok {t : T} {b bn bk : Nat} {lv kv : Value} {ps : List Nat} (hn : NodeAt H t b lv kv ps) (key : Ky) {i : Nat} (hi : i < t.l.length) :
    FnOk Go.Proofs.Try.prog 42 [.int .i64 i, nptr bn, nptr bk] [nbox bn (nptr b), kbox bk key, poolOf H] hF (fun v Γ => v = .bool (above t.l key i) ∧ Γ = [nbox bn (nptr b), kbox bk key, poolOf H]) := by
  refine FnOk.intro 15 Go.Proofs.Try.func42 rfl rfl fun w0 => ?_
  obtain ⟨e, he⟩ : ∃ e, t.l[i]? = some e := ⟨_, List.getElem?_eq_getElem hi⟩
  have hnd := hn.nd
  obtain ⟨p, c, rfl, hc, hln, hr⟩ := hn.l.out
  obtain ⟨bb, o, cs, et, fz, rfl, hbb, hat⟩ := hr (by omega)
  have hl1 : cs[o + i * 2 + 0]? = some (str e.1) := by rw [Nat.add_assoc]; exact hat _ _ (ents_get he).1
  (repeat (first | refine GK.run ?_ | (refine GK.box ?_; intro bl) | (refine GK.mkMap ?_; intro bm) | (refine GK.build0 tb ?_; intro bs)))
  refine G.draw [] [nbox bn (nptr b), kbox bk key, poolOf H] (by kernel_rfl) ?_
  ((first | refine GH.tk 0 [0,0,0] ?_ | refine GH.tks 0 [0,0,0] ?_); (first | refine GH.tk 1 [0,0,0] ?_ | refine GH.tks 1 [0,0,0] ?_); (first | refine GH.tk 2 [0,0,0] ?_ | refine GH.tks 2 [0,0,0] ?_); (first | refine GH.tk 3 [0,0,0] ?_ | refine GH.tks 3 [0,0,0] ?_); (first | refine GH.tk 4 [0,0,0] ?_ | refine GH.tks 4 [0,0,0] ?_); (first | refine GH.tk 5 [0,0,0] ?_ | refine GH.tks 5 [0,0,0] ?_); (first | refine GH.tk 6 [0,0,0] ?_ | refine GH.tks 6 [0,0,0] ?_); (first | refine GH.tk 7 [0,0,0] ?_ | refine GH.tks 7 [0,0,0] ?_); (first | refine GH.tk 8 [0,0,0] ?_ | refine GH.tks 8 [0,0,0] ?_); (first | refine GH.tk 9 [0,0,0] ?_ | refine GH.tks 9 [0,0,0] ?_); (first | refine GH.tk 10 [0,0,0] ?_ | refine GH.tks 10 [0,0,0] ?_))
  refine GH.fin (by kernel_rfl) ?_
  (repeat (first | refine GK.run ?_ | (refine GK.box ?_; intro bl) | (refine GK.mkMap ?_; intro bm) | (refine GK.build0 tb ?_; intro bs)))
  refine GQ.end1 rfl rfl ⟨?_, rfl⟩
  simp [above, he]
theorem find_ok {t : T} {b : Nat} {lv kv : Value} {ps : List Nat} (hn : NodeAt H t b lv kv ps) (hs : Srt t.l) (hlen : t.l.length < 1000) (key : Ky) :
    FnOk Go.Proofs.Try.prog 32 [nptr b, str key] [poolOf H] hF (fun v Γ => v = .tuple #[.int .i64 (pos t.l key), .bool (hit t.l key)] ∧ Γ = [poolOf H]) := by
  refine FnOk.intro 34 Go.Proofs.Try.func32 rfl rfl fun w0 => ?_
  have hnd := hn.nd
  have hn' := hn
  obtain ⟨p, c, rfl, hc, hln, hr⟩ := hn.l.out
  (repeat (first | refine GK.run ?_ | (refine GK.box ?_; intro bl) | (refine GK.mkMap ?_; intro bm) | (refine GK.build0 tb ?_; intro bs)))
  rename_i bn
  refine GL.cons ?_; refine GO.call [1,0,0] (fun hF' hle hH => search_ok t.l.length (by omega) _ (above t.l key) [nbox bn (nptr b), kbox bl key, poolOf H] (fun i hF'' hi _ => FnOk.val (by kernel_rfl) (find1_ok hn' key hi))) (by first | exact Wt.none | exact Wt.some rfl rfl (by first | exact rfl | decide +kernel)) (by kernel_rfl) rfl rfl rfl ?_
  rintro v Γ' ⟨i, rfl, hi, h1, h2, rfl⟩
  have hpos := above_pos hs hi h1 h2
  have hh : hit t.l key = (if h : i < t.l.length then t.l[i].1 == key else false) := by
    unfold hit
    rw [hpos]
    split
    · rename_i e he
      have := (List.getElem?_eq_some_iff.1 he).1
      rw [dif_pos this]
      rw [List.getElem?_eq_getElem this] at he; injection he with he; rw [he]
    · rename_i he
      rw [dif_neg (by intro q; rw [List.getElem?_eq_getElem q] at he; cases he)]
  rw [hpos, hh]
  (repeat (first | refine GK.run ?_ | (refine GK.box ?_; intro bl) | (refine GK.mkMap ?_; intro bm) | (refine GK.build0 tb ?_; intro bs)))
  refine G.draw [] [nbox bn (nptr b), kbox bl key, poolOf H] (by kernel_rfl) ?_
  ((first | refine GH.tk 0 [0,0,0] ?_ | refine GH.tks 0 [0,0,0] ?_); (first | refine GH.tk 1 [0,0,0] ?_ | refine GH.tks 1 [0,0,0] ?_); (first | refine GH.tk 2 [0,0,0] ?_ | refine GH.tks 2 [0,0,0] ?_); (first | refine GH.tk 3 [0,0,0] ?_ | refine GH.tks 3 [0,0,0] ?_); (first | refine GH.tk 4 [0,0,0] ?_ | refine GH.tks 4 [0,0,0] ?_); (first | refine GH.tk 5 [0,0,0] ?_ | refine GH.tks 5 [0,0,0] ?_); (first | refine GH.tk 6 [0,0,0] ?_ | refine GH.tks 6 [0,0,0] ?_); (first | refine GH.tk 7 [0,0,0] ?_ | refine GH.tks 7 [0,0,0] ?_))
  by_cases hlt : i < t.l.length
  · rw [show decide ((i : Int) < (t.l.length : Int)) = true by simpa using hlt, dif_pos hlt]
    obtain ⟨e, he⟩ : ∃ e, t.l[i] = e := ⟨_, rfl⟩
    have he' : t.l[i]? = some e := by rw [List.getElem?_eq_getElem hlt, he]
    obtain ⟨bb, o, cs, et, fz, rfl, hbb, hat⟩ := hr (by omega)
    have hl1 : cs[o + i * 2 + 0]? = some (str e.1) := by rw [Nat.add_assoc]; exact hat _ _ (ents_get he').1
    rw [he]
    ((first | refine GH.tk 8 [0,0,0] ?_ | refine GH.tks 8 [0,0,0] ?_); (first | refine GH.tk 9 [0,0,0] ?_ | refine GH.tks 9 [0,0,0] ?_); (first | refine GH.tk 10 [0,0,0] ?_ | refine GH.tks 10 [0,0,0] ?_); (first | refine GH.tk 11 [0,0,0] ?_ | refine GH.tks 11 [0,0,0] ?_); (first | refine GH.tk 12 [0,0,0] ?_ | refine GH.tks 12 [0,0,0] ?_); (first | refine GH.tk 13 [0,0,0] ?_ | refine GH.tks 13 [0,0,0] ?_); (first | refine GH.tk 14 [0,0,0] ?_ | refine GH.tks 14 [0,0,0] ?_); (first | refine GH.tk 15 [0,0,0] ?_ | refine GH.tks 15 [0,0,0] ?_); (first | refine GH.tk 16 [0,0,0] ?_ | refine GH.tks 16 [0,0,0] ?_); (first | refine GH.tk 17 [0,0,0] ?_ | refine GH.tks 17 [0,0,0] ?_); (first | refine GH.tk 18 [0,0,0] ?_ | refine GH.tks 18 [0,0,0] ?_); (first | refine GH.tk 19 [0,0,0] ?_ | refine GH.tks 19 [0,0,0] ?_); (first | refine GH.tk 20 [0,0,0] ?_ | refine GH.tks 20 [0,0,0] ?_); (first | refine GH.tk 21 [0,0,0] ?_ | refine GH.tks 21 [0,0,0] ?_))
    refine GH.fin (by kernel_rfl) ?_
    (repeat (first | refine GK.run ?_ | (refine GK.box ?_; intro bl) | (refine GK.mkMap ?_; intro bm) | (refine GK.build0 tb ?_; intro bs)))
    exact GK.sel [2] rfl (GQ.end2 rfl rfl rfl ⟨rfl, rfl⟩)
  · rw [show decide ((i : Int) < (t.l.length : Int)) = false by simpa using hlt, dif_neg hlt]
    ((first | refine GH.tk 8 [0,0,0] ?_ | refine GH.tks 8 [0,0,0] ?_); (first | refine GH.tk 9 [0,0,0] ?_ | refine GH.tks 9 [0,0,0] ?_); (first | refine GH.tk 10 [0,0,0] ?_ | refine GH.tks 10 [0,0,0] ?_); (first | refine GH.tk 11 [0,0,0] ?_ | refine GH.tks 11 [0,0,0] ?_); (first | refine GH.tk 12 [0,0,0] ?_ | refine GH.tks 12 [0,0,0] ?_); (first | refine GH.tk 13 [0,0,0] ?_ | refine GH.tks 13 [0,0,0] ?_); (first | refine GH.tk 14 [0,0,0] ?_ | refine GH.tks 14 [0,0,0] ?_); (first | refine GH.tk 15 [0,0,0] ?_ | refine GH.tks 15 [0,0,0] ?_); (first | refine GH.tk 16 [0,0,0] ?_ | refine GH.tks 16 [0,0,0] ?_); (first | refine GH.tk 17 [0,0,0] ?_ | refine GH.tks 17 [0,0,0] ?_); (first | refine GH.tk 18 [0,0,0] ?_ | refine GH.tks 18 [0,0,0] ?_); (first | refine GH.tk 19 [0,0,0] ?_ | refine GH.tks 19 [0,0,0] ?_); (first | refine GH.tk 20 [0,0,0] ?_ | refine GH.tks 20 [0,0,0] ?_); (first | refine GH.tk 21 [0,0,0] ?_ | refine GH.tks 21 [0,0,0] ?_))
    refine GH.fin (by kernel_rfl) ?_
    (repeat (first | refine GK.run ?_ | (refine GK.box ?_; intro bl) | (refine GK.mkMap ?_; intro bm) | (refine GK.build0 tb ?_; intro bs)))
    exact GK.sel [2] rfl (GQ.end2 rfl rfl rfl ⟨rfl, rfl⟩)
end Go.Tr
