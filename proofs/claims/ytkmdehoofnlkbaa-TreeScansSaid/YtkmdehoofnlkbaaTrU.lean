/- The document's Scan and Same; told. -/
import Derived.Test.YtkmdehoofnlkbaaTrT
namespace Go.Tr
open Go Go.Sl
def pick (k u : Ky) (e : En) : Bool := !lt e.1 k && upto u e
theorem take_next {α : Type} {l : List α} {i : Nat} {e : α} (h : l[i]? = some e) : l.take (i + 1) = l.take i ++ [e] := by
  obtain ⟨h1, h2⟩ := List.getElem?_eq_some_iff.1 h
  rw [List.take_succ_eq_append_getElem h1, h2]
attribute [local irreducible] GK GO Yl Wt Ef Hd GH KH wpListIn Code.wpIn toBody roundQ poolOf rs RS YieldOk IterOk VOk row star exs mp lp Sat pt FnOk Rd bodyPost bodyPostM Lv Ret Exit.then Exit.inBlock Exit.noGoto Int.decLt Int.decLe Int.instDecidableEq
attribute [local irreducible] ents ptrs hasH less dset
set_option pp.deepTerms true
set_option pp.maxSteps 1000000
variable {hF H : Hp}
theorem Lst.of_row {H' k : Hp} {q : Option Addr} {c n : Nat} {l : List En} {xs : List Value} {e : TypeId} (h : row (.slice q n c) e 2 n xs k) (hl : le k H') (hn : n = l.length) (hx : xs = ents l) : Lst H' (.slice q n c) l := by
  subst hn hx; exact row_in h hl
theorem rscan_ok {v : Value} {l : List En} (hv : Lst H v l) (hn : l.length < 1000000000) (k u : Ky) :
    FnOk Go.Proofs.Try.prog 12 [v, str k, str u] [poolOf H] hF (fun r Γ => ∃ H', le H H' ∧ Γ = [poolOf H'] ∧ Lst H' r (l.filter (pick k u))) := by
  obtain ⟨p, c, rfl, hc, hln, hr⟩ := rs.out hv
  refine FnOk.intro 43 Go.Proofs.Try.func12 rfl rfl fun w0 => ?_
  (repeat (first | refine GK.run ?_ | (refine GK.box ?_; intro bl) | (refine GK.mkMap ?_; intro bm) | (refine GK.build0 tb ?_; intro bs)))
  refine GK.weak (fr' := [(0, .slice p l.length c), (1, str k), (2, str u), (7, .slice none 0 0), (8, .int .i64 ((0 : Nat) : Int))]) (Γ' := [row (.slice none 0 0) 37 2 0 (ents []), poolOf H]) (by repeat (first | exact trivial | refine ⟨rfl, ?_⟩)) (fun w s => by rw [ents_nil]; exact s.row_nil) (G.loop (fun x : Nat × Option Addr × Nat => l.length - x.1) (fun x => [(0, .slice p l.length c), (1, str k), (2, str u), (7, .slice x.2.1 ((l.take x.1).filter (pick k u)).length x.2.2), (8, .int .i64 (x.1 : Int))]) (fun x => [row (.slice x.2.1 ((l.take x.1).filter (pick k u)).length x.2.2) 37 2 ((l.take x.1).filter (pick k u)).length (ents ((l.take x.1).filter (pick k u))), poolOf H]) (fun x => x.1 ≤ l.length) (fun x hi => ?_) (0, none, 0) (Nat.zero_le _))
  obtain ⟨i, q, cc⟩ := x
  replace hi : i ≤ l.length := hi
  obtain ⟨acc, hacc⟩ : ∃ acc, (l.take i).filter (pick k u) = acc := ⟨_, rfl⟩
  have hal : acc.length ≤ l.length := by rw [← hacc]; exact Nat.le_trans (List.length_filter_le _ _) (by simp; omega)
  refine GK.weak (fr' := [(0, .slice p l.length c), (1, str k), (2, str u), (7, .slice q acc.length cc), (8, .int .i64 (i : Int))]) (Γ' := [row (.slice q acc.length cc) 37 2 acc.length (ents acc), poolOf H]) (by rw [← hacc]; exact (by repeat (first | exact trivial | refine ⟨rfl, ?_⟩))) (fun w s => by rw [← hacc]; exact s) ?_
  (repeat (first | refine GK.run ?_ | (refine GK.box ?_; intro bl) | (refine GK.mkMap ?_; intro bm) | (refine GK.build0 tb ?_; intro bs)))
  refine G.cond rfl (fun h0 => ?_) (fun h0 => ?_)
  · have h0 : i < l.length := by simpa using h0
    obtain ⟨e, he⟩ : ∃ e, l[i]? = some e := ⟨_, List.getElem?_eq_getElem h0⟩
    obtain ⟨bb, o, cs, et, fz, rfl, hbb, hat⟩ := hr (by omega)
    have hld : cs[o + (i : Int).toNat * 2 + 0]? = some (str e.1) := by rw [Nat.add_assoc]; exact hat _ _ (ents_get he).1
    have hAt : At cs (o + (i : Int).toNat * 2) (entC e) := at_trans hat (ents_at he)
    have hlenc := entC_len e
    (repeat (first | refine GK.run ?_ | (refine GK.box ?_; intro bl) | (refine GK.mkMap ?_; intro bm) | (refine GK.build0 tb ?_; intro bs)))
    refine GL.cut (fun _ : Unit => [(34, .bool (pick k u e)), (0, .slice (some ⟨bb, o, none⟩) l.length c), (1, str k), (2, str u), (7, .slice q acc.length cc), (8, .int .i64 (i : Int))]) (fun _ => [row (.slice q acc.length cc) 37 2 acc.length (ents acc), poolOf H]) (fun _ => True) (fun _ _ => ?_) ?_
    rotate_left
    · refine GK.split 22 _ rfl (fun h1 => ?_) (fun h1 => ?_)
      · have h1 : lt e.1 k = false := by
          have h1 : (!lt e.1 k) = true := h1
          simpa using h1
        (repeat (first | refine GK.run ?_ | (refine GK.box ?_; intro bl) | (refine GK.mkMap ?_; intro bm) | (refine GK.build0 tb ?_; intro bs)))
        refine GK.split 25 _ rfl (fun h2 => ?_) (fun h2 => ?_)
        · have h2 : (u == []) = true := h2
          (repeat (first | refine GK.run ?_ | (refine GK.box ?_; intro bl) | (refine GK.mkMap ?_; intro bm) | (refine GK.build0 tb ?_; intro bs)))
          refine GQ.reach () trivial ?_ (fun w s => s)
          have e1 : pick k u e = true := by unfold pick upto; rw [h1, h2]; rfl
          rw [e1]; exact (by repeat (first | exact trivial | refine ⟨rfl, ?_⟩))
        · have h2 : (u == []) = false := h2
          (repeat (first | refine GK.run ?_ | (refine GK.box ?_; intro bl) | (refine GK.mkMap ?_; intro bm) | (refine GK.build0 tb ?_; intro bs)))
          refine GQ.reach () trivial ?_ (fun w s => s)
          have e1 : pick k u e = lt e.1 u := by unfold pick upto; rw [h1, h2]; rfl
          rw [e1]; exact (by repeat (first | exact trivial | refine ⟨rfl, ?_⟩))
      · have h1 : lt e.1 k = true := by
          have h1 : (!lt e.1 k) = false := h1
          simpa using h1
        (repeat (first | refine GK.run ?_ | (refine GK.box ?_; intro bl) | (refine GK.mkMap ?_; intro bm) | (refine GK.build0 tb ?_; intro bs)))
        (repeat (refine GL.cons ?_; refine GO.skip (by exact wt_undef rfl rfl) ?_))
        (repeat (first | refine GK.run ?_ | (refine GK.box ?_; intro bl) | (refine GK.mkMap ?_; intro bm) | (refine GK.build0 tb ?_; intro bs)))
        refine GQ.reach () trivial ?_ (fun w s => s)
        have e1 : pick k u e = false := by unfold pick; rw [h1]; rfl
        rw [e1]; exact (by repeat (first | exact trivial | refine ⟨rfl, ?_⟩))
    (repeat (first | refine GK.run ?_ | (refine GK.box ?_; intro bl) | (refine GK.mkMap ?_; intro bm) | (refine GK.build0 tb ?_; intro bs)))
    refine G.cond rfl (fun hp => ?_) (fun hp => ?_)
    · have hnext : (l.take (i + 1)).filter (pick k u) = acc ++ [e] := by rw [take_next he, List.filter_append, hacc]; simp [hp]
      (repeat (first | refine GK.run ?_ | (refine GK.box ?_; intro bl) | (refine GK.mkMap ?_; intro bm) | (refine GK.build0 tb ?_; intro bs)))
      refine GL.cons ?_
      refine Gt.buildLit tb (sz := 1) (n := 0) (by first | exact Wt.none | exact Wt.some rfl rfl (by first | exact rfl | decide +kernel)) rfl rfl (by kernel_rfl) rfl rfl rfl rfl rfl rfl ?_
      intro bx
      (repeat (first | refine GK.run ?_ | (refine GK.box ?_; intro bl) | (refine GK.mkMap ?_; intro bm) | (refine GK.build0 tb ?_; intro bs)))
      refine GL.cons ?_; refine Gt.append tb 1 (by first | exact Wt.none | exact Wt.some rfl rfl (by first | exact rfl | decide +kernel)) rfl (.inl ⟨_, rfl⟩) rfl rfl rfl rfl rfl (Src.slice (m := 1) (Rd.blk 0 rfl) (At.all _) rfl (one_of_all rfl)) (by omega) (by omega) ?_
      intro p3 c3
      (repeat (first | refine GK.run ?_ | (refine GK.box ?_; intro bl) | (refine GK.mkMap ?_; intro bm) | (refine GK.build0 tb ?_; intro bs)))
      refine GQ.again (i + 1, p3, c3) (by show i + 1 ≤ _; omega) (by show l.length - (i + 1) < l.length - i; omega) ?_ (fun w s => ?_)
      · show Sub [(0, _), (1, _), (2, _), (7, .slice p3 ((l.take (i + 1)).filter (pick k u)).length c3), (8, _)] _
        rw [hnext, List.length_append]
        exact (by repeat (first | exact trivial | refine ⟨rfl, ?_⟩))
      · show Sat [row (.slice p3 ((l.take (i + 1)).filter (pick k u)).length c3) _ _ ((l.take (i + 1)).filter (pick k u)).length (ents ((l.take (i + 1)).filter (pick k u))), _] _ _
        rw [hnext, List.length_append, ents_append, ents_single]
        exact s.sel [0, 1] rfl
    · have hnext : (l.take (i + 1)).filter (pick k u) = acc := by rw [take_next he, List.filter_append, hacc]; simp [hp]
      (repeat (first | refine GK.run ?_ | (refine GK.box ?_; intro bl) | (refine GK.mkMap ?_; intro bm) | (refine GK.build0 tb ?_; intro bs)))
      refine GQ.again (i + 1, q, cc) (by show i + 1 ≤ _; omega) (by show l.length - (i + 1) < l.length - i; omega) ?_ (fun w s => ?_)
      · show Sub [(0, _), (1, _), (2, _), (7, .slice q ((l.take (i + 1)).filter (pick k u)).length cc), (8, _)] _
        rw [hnext]
        exact (by repeat (first | exact trivial | refine ⟨rfl, ?_⟩))
      · show Sat [row (.slice q ((l.take (i + 1)).filter (pick k u)).length cc) _ _ ((l.take (i + 1)).filter (pick k u)).length (ents ((l.take (i + 1)).filter (pick k u))), _] _ _
        rw [hnext]
        exact s.sel [0, 0] rfl
  · have h0 : ¬ i < l.length := by simp at h0; omega
    have hall : acc = l.filter (pick k u) := by rw [← hacc, List.take_of_length_le (by omega)]
    (repeat (first | refine GK.run ?_ | (refine GK.box ?_; intro bl) | (refine GK.mkMap ?_; intro bm) | (refine GK.build0 tb ?_; intro bs)))
    refine GK.sel [1, 0] rfl ?_
    refine GK.absorb fun H1 k1 le1 x1 y1 => ?_
    exact GQ.fin1 rfl (Rv.tmp rfl) (fun w s => s) ⟨H1, le1, rfl, hall ▸ Lst.of_row x1 y1 rfl rfl⟩
theorem rsame_ok {v w : Value} {l m : List En} (hv : Lst H v l) (hw : Lst H w m) (hn : l.length < 1000000000) (_ : m.length < 1000000000) :
    FnOk Go.Proofs.Try.prog 20 [v, w] [poolOf H] hF (fun r Γ => r = .bool (l == m) ∧ Γ = [poolOf H]) := by
  obtain ⟨p, c, rfl, hc, hln, hr⟩ := rs.out hv
  obtain ⟨p2, c2, rfl, hc2, hln2, hr2⟩ := rs.out hw
  refine FnOk.intro 26 Go.Proofs.Try.func20 rfl rfl fun w0 => ?_
  (repeat (first | refine GK.run ?_ | (refine GK.box ?_; intro bl) | (refine GK.mkMap ?_; intro bm) | (refine GK.build0 tb ?_; intro bs)))
  refine G.cond rfl (fun h0 => ?_) (fun h0 => ?_)
  · have h0 : ¬ l.length = m.length := by simp at h0; omega
    have e : (l == m) = false := beq_eq_false_iff_ne.2 fun h => h0 (by rw [h])
    rw [e]
    (repeat (first | refine GK.run ?_ | (refine GK.box ?_; intro bl) | (refine GK.mkMap ?_; intro bm) | (refine GK.build0 tb ?_; intro bs)))
    exact GQ.fin1 rfl (Rv.tmp rfl) (fun w s => s) ⟨rfl, rfl⟩
  have h0 : l.length = m.length := by simp at h0; omega
  (repeat (first | refine GK.run ?_ | (refine GK.box ?_; intro bl) | (refine GK.mkMap ?_; intro bm) | (refine GK.build0 tb ?_; intro bs)))
  refine GK.weak (by repeat (first | exact trivial | refine ⟨rfl, ?_⟩)) (fun w s => s) (G.loop (fun x : Nat => l.length - x) (fun x => [(0, .slice p l.length c), (1, .slice p2 m.length c2), (5, .int .i64 (x : Int))]) (fun _ => [poolOf H]) (fun x => x ≤ l.length ∧ l.take x = m.take x) (fun i hi => ?_) 0 ⟨Nat.zero_le _, rfl⟩)
  obtain ⟨hi, htk⟩ := hi
  (repeat (first | refine GK.run ?_ | (refine GK.box ?_; intro bl) | (refine GK.mkMap ?_; intro bm) | (refine GK.build0 tb ?_; intro bs)))
  refine G.cond rfl (fun h1 => ?_) (fun h1 => ?_)
  · have h1 : i < l.length := by simpa using h1
    obtain ⟨e, he⟩ : ∃ e, l[i]? = some e := ⟨_, List.getElem?_eq_getElem h1⟩
    obtain ⟨f, hf⟩ : ∃ f, m[i]? = some f := ⟨_, List.getElem?_eq_getElem (by omega)⟩
    obtain ⟨bb, o, cs, et, fz, rfl, hbb, hat⟩ := hr (by omega)
    obtain ⟨bb2, o2, cs2, et2, fz2, rfl, hbb2, hat2⟩ := hr2 (by omega)
    have hAt : At cs (o + (i : Int).toNat * 2) (entC e) := at_trans hat (ents_at he)
    have hAt2 : At cs2 (o2 + (i : Int).toNat * 2) (entC f) := at_trans hat2 (ents_at hf)
    have hlenc := entC_len e
    have hlenf := entC_len f
    (repeat (first | refine GK.run ?_ | (refine GK.box ?_; intro bl) | (refine GK.mkMap ?_; intro bm) | (refine GK.build0 tb ?_; intro bs)))
    refine G.draw [] [poolOf H] (by kernel_rfl) ?_
    ((first | refine GH.tk 0 [0] ?_ | refine GH.tks 0 [0] ?_); (first | refine GH.tk 1 [0] ?_ | refine GH.tks 1 [0] ?_); (first | refine GH.tk 2 [0] ?_ | refine GH.tks 2 [0] ?_); (first | refine GH.tk 3 [0] ?_ | refine GH.tks 3 [0] ?_); (first | refine GH.tk 4 [0] ?_ | refine GH.tks 4 [0] ?_); (first | refine GH.tk 5 [0] ?_ | refine GH.tks 5 [0] ?_); (first | refine GH.tk 6 [0] ?_ | refine GH.tks 6 [0] ?_); (first | refine GH.tk 7 [0] ?_ | refine GH.tks 7 [0] ?_))
    refine GH.tk 8 [0] ?_ (hy := Yl.neq_pair rfl rfl)
    refine GH.fin (by kernel_rfl) ?_
    (repeat (first | refine GK.run ?_ | (refine GK.box ?_; intro bl) | (refine GK.mkMap ?_; intro bm) | (refine GK.build0 tb ?_; intro bs)))
    refine G.cond rfl (fun h2 => ?_) (fun h2 => ?_)
    · have h2 : ¬ e = f := by
        have h2 : (!(e == f)) = true := h2
        simpa using h2
      have e1 : (l == m) = false := beq_eq_false_iff_ne.2 fun h => h2 (by rw [h, hf] at he; exact (Option.some.inj he).symm)
      rw [e1]
      (repeat (first | refine GK.run ?_ | (refine GK.box ?_; intro bl) | (refine GK.mkMap ?_; intro bm) | (refine GK.build0 tb ?_; intro bs)))
      exact GQ.fin1 rfl (Rv.tmp rfl) (fun w s => s) ⟨rfl, rfl⟩
    · have h2 : e = f := by
        have h2 : (!(e == f)) = false := h2
        simpa using h2
      subst h2
      (repeat (first | refine GK.run ?_ | (refine GK.box ?_; intro bl) | (refine GK.mkMap ?_; intro bm) | (refine GK.build0 tb ?_; intro bs)))
      exact GQ.again (i + 1) ⟨by omega, by rw [take_next he, take_next hf, htk]⟩ (by show l.length - (i + 1) < l.length - i; omega) (by repeat (first | exact trivial | refine ⟨rfl, ?_⟩)) (fun w s => s)
  · have h1 : ¬ i < l.length := by simp at h1; omega
    have e1 : l = m := by rw [List.take_of_length_le (by omega), List.take_of_length_le (by omega)] at htk; exact htk
    have e2 : (l == m) = true := by rw [e1]; exact beq_self_eq_true m
    rw [e2]
    (repeat (first | refine GK.run ?_ | (refine GK.box ?_; intro bl) | (refine GK.mkMap ?_; intro bm) | (refine GK.build0 tb ?_; intro bs)))
    exact GQ.fin1 rfl (Rv.tmp rfl) (fun w s => s) ⟨rfl, rfl⟩
end Go.Tr
