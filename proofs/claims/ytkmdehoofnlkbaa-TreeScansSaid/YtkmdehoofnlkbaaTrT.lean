/- The document's own functions. -/
import Derived.Test.YtkmdehoofnlkbaaTrS
namespace Go.Tr
open Go Go.Sl
def Lst (H : Hp) (v : Value) (l : List En) : Prop := rs H v l.length 2 (ents l)
theorem Lst.mono {H H' : Hp} {v : Value} {l : List En} (h : Lst H v l) (hl : le H H') : Lst H' v l := rs.mono h hl
theorem Lst.nil {H : Hp} : Lst H (.slice none 0 0) [] := by
  unfold Lst; rw [ents_nil]; exact rs.nil
theorem pos_next {l : List En} {k : Ky} {i : Nat} {e : En} (hi : i ≤ pos l k) (he : l[i]? = some e) (h : lt e.1 k = true) : i < pos l k := by
  rcases Nat.lt_or_ge i (pos l k) with h1 | h1
  · exact h1
  · obtain rfl : i = pos l k := by omega
    have := pos_ge he
    rw [h] at this; cases this
theorem pos_stop {l : List En} {k : Ky} {i : Nat} {e : En} (hi : i ≤ pos l k) (he : l[i]? = some e) (h : lt e.1 k = false) : i = pos l k := by
  rcases Nat.lt_or_ge i (pos l k) with h1 | h1
  · have := pos_lt h1 he
    rw [h] at this; cases this
  · omega
attribute [local irreducible] GK GO Yl Wt Ef Hd GH KH wpListIn Code.wpIn toBody roundQ poolOf rs RS YieldOk IterOk VOk row star exs mp lp Sat pt FnOk Rd bodyPost bodyPostM Lv Ret Exit.then Exit.inBlock Exit.noGoto Int.decLt Int.decLe Int.instDecidableEq
attribute [local irreducible] ents ptrs
set_option pp.deepTerms true
set_option pp.maxSteps 1000000
variable {hF H : Hp}
theorem rfind_ok {v : Value} {l : List En} (hv : Lst H v l) (hn : l.length < 1000000000) (key : Ky) :
    FnOk Go.Proofs.Try.prog 33 [v, str key] [poolOf H] hF (fun v Γ => v = .tuple #[.int .i64 (pos l key), .bool (hit l key)] ∧ Γ = [poolOf H]) := by
  obtain ⟨p, c, rfl, hc, hln, hr⟩ := rs.out hv
  refine FnOk.intro 36 Go.Proofs.Try.func33 rfl rfl fun w0 => ?_
  (repeat (first | refine GK.run ?_ | (refine GK.box ?_; intro bl) | (refine GK.mkMap ?_; intro bm) | (refine GK.build0 tb ?_; intro bs)))
  have hp := pos_le l key
  refine GK.weak (by repeat (first | exact trivial | refine ⟨rfl, ?_⟩)) (fun w s => s) (G.loop (fun x : Nat => l.length - x) (fun x => [(0, .slice p l.length c), (1, str key), (6, .int .i64 (x : Int))]) (fun _ => [poolOf H]) (fun x => x ≤ pos l key) (fun i hi => ?_) 0 (Nat.zero_le _))
  replace hi : i ≤ pos l key := hi
  (repeat (first | refine GK.run ?_ | (refine GK.box ?_; intro bl) | (refine GK.mkMap ?_; intro bm) | (refine GK.build0 tb ?_; intro bs)))
  refine GL.cut (fun _ : Unit => [(19, .bool (decide (i < pos l key))), (0, .slice p l.length c), (1, str key), (6, .int .i64 (i : Int))]) (fun _ => [poolOf H]) (fun _ => True) (fun _ _ => ?_) ?_
  rotate_left
  · refine GK.split 11 _ rfl (fun h0 => ?_) (fun h0 => ?_)
    · have h0 : i < l.length := by simpa using h0
      obtain ⟨e, he⟩ : ∃ e, l[i]? = some e := ⟨_, List.getElem?_eq_getElem h0⟩
      obtain ⟨bb, o, cs, et, fz, rfl, hbb, hat⟩ := hr (by omega)
      have hld : cs[o + (i : Int).toNat * 2 + 0]? = some (str e.1) := by rw [Nat.add_assoc]; exact hat _ _ (ents_get he).1
      (repeat (first | refine GK.run ?_ | (refine GK.box ?_; intro bl) | (refine GK.mkMap ?_; intro bm) | (refine GK.build0 tb ?_; intro bs)))
      refine GQ.reach () trivial ?_ (fun w s => s)
      have e1 : decide (i < pos l key) = lt e.1 key := by
        cases hh : lt e.1 key with
        | true => exact decide_eq_true (pos_next hi he hh)
        | false => have := pos_stop hi he hh; exact decide_eq_false (by omega)
      rw [e1]; exact (by repeat (first | exact trivial | refine ⟨rfl, ?_⟩))
    · have h0 : ¬ i < l.length := by simp at h0; omega
      (repeat (first | refine GK.run ?_ | (refine GK.box ?_; intro bl) | (refine GK.mkMap ?_; intro bm) | (refine GK.build0 tb ?_; intro bs)))
      refine GQ.reach () trivial ?_ (fun w s => s)
      have e1 : decide (i < pos l key) = false := decide_eq_false (by omega)
      rw [e1]; exact (by repeat (first | exact trivial | refine ⟨rfl, ?_⟩))
  (repeat (first | refine GK.run ?_ | (refine GK.box ?_; intro bl) | (refine GK.mkMap ?_; intro bm) | (refine GK.build0 tb ?_; intro bs)))
  refine G.cond rfl (fun hc1 => ?_) (fun hc1 => ?_)
  · have hc1 : i < pos l key := of_decide_eq_true hc1
    (repeat (first | refine GK.run ?_ | (refine GK.box ?_; intro bl) | (refine GK.mkMap ?_; intro bm) | (refine GK.build0 tb ?_; intro bs)))
    exact GQ.again (i + 1) (by show i + 1 ≤ _; omega) (by show l.length - (i + 1) < l.length - i; omega) (by repeat (first | exact trivial | refine ⟨rfl, ?_⟩)) (fun w s => s)
  · have hc1 : ¬ i < pos l key := of_decide_eq_false hc1
    obtain rfl : i = pos l key := by omega
    obtain ⟨i, hi0⟩ : ∃ i, pos l key = i := ⟨_, rfl⟩
    rw [hi0] at hp ⊢
    (repeat (first | refine GK.run ?_ | (refine GK.box ?_; intro bl) | (refine GK.mkMap ?_; intro bm) | (refine GK.build0 tb ?_; intro bs)))
    refine G.draw [] [poolOf H] (by kernel_rfl) ?_
    ((first | refine GH.tk 0 [0] ?_ | refine GH.tks 0 [0] ?_); (first | refine GH.tk 1 [0] ?_ | refine GH.tks 1 [0] ?_); (first | refine GH.tk 2 [0] ?_ | refine GH.tks 2 [0] ?_); (first | refine GH.tk 3 [0] ?_ | refine GH.tks 3 [0] ?_); (first | refine GH.tk 4 [0] ?_ | refine GH.tks 4 [0] ?_); (first | refine GH.tk 5 [0] ?_ | refine GH.tks 5 [0] ?_))
    by_cases hlt : i < l.length
    · rw [show decide ((i : Int) < (l.length : Int)) = true by simpa using hlt]
      obtain ⟨e, he⟩ : ∃ e, l[i]? = some e := ⟨_, List.getElem?_eq_getElem hlt⟩
      obtain ⟨bb, o, cs, et, fz, rfl, hbb, hat⟩ := hr (by omega)
      have hld : cs[o + (i : Int).toNat * 2 + 0]? = some (str e.1) := by rw [Nat.add_assoc]; exact hat _ _ (ents_get he).1
      have hh : hit l key = (e.1 == key) := by unfold hit; rw [hi0, he]
      rw [hh]
      ((first | refine GH.tk 6 [0] ?_ | refine GH.tks 6 [0] ?_); (first | refine GH.tk 7 [0] ?_ | refine GH.tks 7 [0] ?_); (first | refine GH.tk 8 [0] ?_ | refine GH.tks 8 [0] ?_); (first | refine GH.tk 9 [0] ?_ | refine GH.tks 9 [0] ?_); (first | refine GH.tk 10 [0] ?_ | refine GH.tks 10 [0] ?_); (first | refine GH.tk 11 [0] ?_ | refine GH.tks 11 [0] ?_); (first | refine GH.tk 12 [0] ?_ | refine GH.tks 12 [0] ?_); (first | refine GH.tk 13 [0] ?_ | refine GH.tks 13 [0] ?_); (first | refine GH.tk 14 [0] ?_ | refine GH.tks 14 [0] ?_); (first | refine GH.tk 15 [0] ?_ | refine GH.tks 15 [0] ?_))
      refine GH.fin (by kernel_rfl) ?_
      (repeat (first | refine GK.run ?_ | (refine GK.box ?_; intro bl) | (refine GK.mkMap ?_; intro bm) | (refine GK.build0 tb ?_; intro bs)))
      exact GQ.fin2 rfl (Rv.tmp rfl) (Rv.tmp rfl) (fun w s => s) ⟨rfl, rfl⟩
    · rw [show decide ((i : Int) < (l.length : Int)) = false by simpa using hlt]
      have hh : hit l key = false := by unfold hit; rw [hi0, List.getElem?_eq_none (by omega)]
      rw [hh]
      ((first | refine GH.tk 6 [0] ?_ | refine GH.tks 6 [0] ?_); (first | refine GH.tk 7 [0] ?_ | refine GH.tks 7 [0] ?_); (first | refine GH.tk 8 [0] ?_ | refine GH.tks 8 [0] ?_); (first | refine GH.tk 9 [0] ?_ | refine GH.tks 9 [0] ?_); (first | refine GH.tk 10 [0] ?_ | refine GH.tks 10 [0] ?_); (first | refine GH.tk 11 [0] ?_ | refine GH.tks 11 [0] ?_); (first | refine GH.tk 12 [0] ?_ | refine GH.tks 12 [0] ?_); (first | refine GH.tk 13 [0] ?_ | refine GH.tks 13 [0] ?_); (first | refine GH.tk 14 [0] ?_ | refine GH.tks 14 [0] ?_); (first | refine GH.tk 15 [0] ?_ | refine GH.tks 15 [0] ?_))
      refine GH.fin (by kernel_rfl) ?_
      (repeat (first | refine GK.run ?_ | (refine GK.box ?_; intro bl) | (refine GK.mkMap ?_; intro bm) | (refine GK.build0 tb ?_; intro bs)))
      exact GQ.fin2 rfl (Rv.tmp rfl) (Rv.tmp rfl) (fun w s => s) ⟨rfl, rfl⟩
theorem rget_ok {v : Value} {l : List En} (hv : Lst H v l) (hn : l.length < 1000000000) (key : Ky) :
    FnOk Go.Proofs.Try.prog 22 [v, str key] [poolOf H] hF (fun v Γ => v = answer (lget l key) ∧ Γ = [poolOf H]) := by
  have hv' := hv
  obtain ⟨p, c, rfl, hc, hln, hr⟩ := rs.out hv
  refine FnOk.intro 21 Go.Proofs.Try.func22 rfl rfl fun w0 => ?_
  (repeat (first | refine GK.run ?_ | (refine GK.box ?_; intro bl) | (refine GK.mkMap ?_; intro bm) | (refine GK.build0 tb ?_; intro bs)))
  refine GL.cons ?_; refine GO.call [0] (fun hF' hle hH => rfind_ok hv' hn key) (by first | exact Wt.none | exact Wt.some rfl rfl (by first | exact rfl | decide +kernel)) (by kernel_rfl) rfl rfl rfl ?_
  rintro v Γ' ⟨rfl, rfl⟩
  (repeat (first | refine GK.run ?_ | (refine GK.box ?_; intro bl) | (refine GK.mkMap ?_; intro bm) | (refine GK.build0 tb ?_; intro bs)))
  refine G.cond rfl (fun hh => ?_) (fun hh => ?_)
  · have hh : hit l key = false := by simpa using hh
    have ha : lget l key = none := by unfold lget; rw [hh]; rfl
    rw [ha]
    (repeat (first | refine GK.run ?_ | (refine GK.box ?_; intro bl) | (refine GK.mkMap ?_; intro bm) | (refine GK.build0 tb ?_; intro bs)))
    exact GQ.fin2 rfl (Rv.tmp rfl) (Rv.tmp rfl) (fun w s => s) ⟨rfl, rfl⟩
  · have hh : hit l key = true := by simpa using hh
    have hlt := hit_lt hh
    obtain ⟨v0, hv0⟩ := hit_get hh
    have ha : lget l key = some v0 := by unfold lget; rw [if_pos hh, hv0]; rfl
    rw [ha]
    obtain ⟨bb, o, cs, et, fz, rfl, hbb, hat⟩ := hr (by omega)
    have hld : cs[o + ((pos l key : Nat) : Int).toNat * 2 + 1]? = some (str v0) := by rw [Nat.add_assoc]; exact hat _ _ (ents_get hv0).2
    (repeat (first | refine GK.run ?_ | (refine GK.box ?_; intro bl) | (refine GK.mkMap ?_; intro bm) | (refine GK.build0 tb ?_; intro bs)))
    exact GQ.fin2 rfl (Rv.tmp rfl) (Rv.tmp rfl) (fun w s => s) ⟨rfl, rfl⟩
theorem rput_ok {v : Value} {l : List En} (hv : Lst H v l) (hn : l.length < 1000000000) (e : En) :
    FnOk Go.Proofs.Try.prog 23 [v, str e.1, str e.2] [poolOf H] hF (fun r Γ => ∃ H', le H H' ∧ Γ = [poolOf H'] ∧ Lst H' r (lput l e)) := by
  have hv' := hv
  obtain ⟨p, c, rfl, hc, hln, hr⟩ := rs.out hv
  refine FnOk.intro 35 Go.Proofs.Try.func23 rfl rfl fun w0 => ?_
  (repeat (first | refine GK.run ?_ | (refine GK.box ?_; intro bl) | (refine GK.mkMap ?_; intro bm) | (refine GK.build0 tb ?_; intro bs)))
  refine GL.cons ?_; refine GO.call [0] (fun hF' hle hH => rfind_ok hv' hn e.1) (by first | exact Wt.none | exact Wt.some rfl rfl (by first | exact rfl | decide +kernel)) (by kernel_rfl) rfl rfl rfl ?_
  rintro v Γ' ⟨rfl, rfl⟩
  have hp := pos_le l e.1
  obtain ⟨i, hi0⟩ : ∃ i, pos l e.1 = i := ⟨_, rfl⟩
  rw [hi0] at hp ⊢
  have hrs : rs H (.slice p l.length c) l.length 2 (ents l) := hv
  cases hh : hit l e.1 with
  | true =>
    have hlt := hit_lt hh
    rw [hi0] at hlt
    (repeat (first | refine GK.run ?_ | (refine GK.box ?_; intro bl) | (refine GK.mkMap ?_; intro bm) | (refine GK.build0 tb ?_; intro bs)))
    refine GL.cons ?_
    refine Gt.append0 tb 0 (m := i) (by first | exact Wt.none | exact Wt.some rfl rfl (by first | exact rfl | decide +kernel)) rfl (.inl ⟨_, rfl⟩) rfl rfl rfl rfl rfl (RS.src ((RS.pool 1 rfl hrs).take hp (show i ≤ c by omega)) (fun u hu => ents_one _ u (List.mem_of_mem_take hu)) (by rw [List.length_take, ents_len]; omega) ⟨_, _, rfl⟩) (by omega) (by omega) ?_
    intro p2 c2
    (repeat (first | refine GK.run ?_ | (refine GK.box ?_; intro bl) | (refine GK.mkMap ?_; intro bm) | (refine GK.build0 tb ?_; intro bs)))
    refine GL.cons ?_
    refine Gt.buildLit tb (sz := 1) (n := 0) (by first | exact Wt.none | exact Wt.some rfl rfl (by first | exact rfl | decide +kernel)) rfl rfl (by kernel_rfl) rfl rfl rfl rfl rfl rfl ?_
    intro bx
    (repeat (first | refine GK.run ?_ | (refine GK.box ?_; intro bl) | (refine GK.mkMap ?_; intro bm) | (refine GK.build0 tb ?_; intro bs)))
    refine GL.cons ?_; refine Gt.append tb 1 (by first | exact Wt.none | exact Wt.some rfl rfl (by first | exact rfl | decide +kernel)) rfl (.inl ⟨_, rfl⟩) rfl rfl rfl rfl rfl (Src.slice (m := 1) (Rd.blk 0 rfl) (At.all _) rfl (one_of_all rfl)) (by omega) (by omega) ?_
    intro p3 c3
    (repeat (first | refine GK.run ?_ | (refine GK.box ?_; intro bl) | (refine GK.mkMap ?_; intro bm) | (refine GK.build0 tb ?_; intro bs)))
    refine GL.cons ?_
    refine Gt.append tb 0 (m := l.length - (i + 1)) (by first | exact Wt.none | exact Wt.some rfl rfl (by first | exact rfl | decide +kernel)) rfl (.inl ⟨_, rfl⟩) rfl rfl rfl rfl rfl (RS.src ((RS.pool 2 rfl hrs).cut (l := (i + 1)) (by omega)) (fun u hu => ents_one _ u (List.mem_of_mem_drop hu)) (by rw [List.length_drop, ents_len]; omega) ⟨_, _, rfl⟩) (by show (i + 1 + _) * _ ≤ _; omega) (by show i + 1 + _ ≤ _; omega) ?_
    intro p4 c4
    (repeat (first | refine GK.run ?_ | (refine GK.box ?_; intro bl) | (refine GK.mkMap ?_; intro bm) | (refine GK.build0 tb ?_; intro bs)))
    refine GK.sel [2, 0] rfl ?_
    refine GK.absorb fun H1 k1 le1 x1 y1 => ?_
    refine GQ.fin1 rfl (Rv.tmp rfl) (fun w s => s) ⟨H1, le1, rfl, ?_⟩
    have h1 := row_in x1 y1
    have e1 : (lput l e).length = i + 1 + (l.length - (i + 1)) := by rw [lput_length, hh]; simp; omega
    have e2 : ents (lput l e) = (ents l).take (i * 2) ++ [str e.1, str e.2] ++ (ents l).drop (((i + 1)) * 2) := by
      rw [ents_take, ents_drop]; unfold lput; rw [hh, hi0, ents_append]; show _ ++ ents ([e] ++ l.drop _) = _; rw [ents_append, ents_single, ← List.append_assoc]; rfl
    unfold Lst
    rw [e1, e2]
    exact h1
  | false =>
    (repeat (first | refine GK.run ?_ | (refine GK.box ?_; intro bl) | (refine GK.mkMap ?_; intro bm) | (refine GK.build0 tb ?_; intro bs)))
    refine GL.cons ?_
    refine Gt.append0 tb 0 (m := i) (by first | exact Wt.none | exact Wt.some rfl rfl (by first | exact rfl | decide +kernel)) rfl (.inl ⟨_, rfl⟩) rfl rfl rfl rfl rfl (RS.src ((RS.pool 1 rfl hrs).take hp (show i ≤ c by omega)) (fun u hu => ents_one _ u (List.mem_of_mem_take hu)) (by rw [List.length_take, ents_len]; omega) ⟨_, _, rfl⟩) (by omega) (by omega) ?_
    intro p2 c2
    (repeat (first | refine GK.run ?_ | (refine GK.box ?_; intro bl) | (refine GK.mkMap ?_; intro bm) | (refine GK.build0 tb ?_; intro bs)))
    refine GL.cons ?_
    refine Gt.buildLit tb (sz := 1) (n := 0) (by first | exact Wt.none | exact Wt.some rfl rfl (by first | exact rfl | decide +kernel)) rfl rfl (by kernel_rfl) rfl rfl rfl rfl rfl rfl ?_
    intro bx
    (repeat (first | refine GK.run ?_ | (refine GK.box ?_; intro bl) | (refine GK.mkMap ?_; intro bm) | (refine GK.build0 tb ?_; intro bs)))
    refine GL.cons ?_; refine Gt.append tb 1 (by first | exact Wt.none | exact Wt.some rfl rfl (by first | exact rfl | decide +kernel)) rfl (.inl ⟨_, rfl⟩) rfl rfl rfl rfl rfl (Src.slice (m := 1) (Rd.blk 0 rfl) (At.all _) rfl (one_of_all rfl)) (by omega) (by omega) ?_
    intro p3 c3
    (repeat (first | refine GK.run ?_ | (refine GK.box ?_; intro bl) | (refine GK.mkMap ?_; intro bm) | (refine GK.build0 tb ?_; intro bs)))
    refine GL.cons ?_
    refine Gt.append tb 0 (m := l.length - i) (by first | exact Wt.none | exact Wt.some rfl rfl (by first | exact rfl | decide +kernel)) rfl (.inl ⟨_, rfl⟩) rfl rfl rfl rfl rfl (RS.src ((RS.pool 2 rfl hrs).cut (l := i) (by omega)) (fun u hu => ents_one _ u (List.mem_of_mem_drop hu)) (by rw [List.length_drop, ents_len]; omega) ⟨_, _, rfl⟩) (by show (i + 1 + _) * _ ≤ _; omega) (by show i + 1 + _ ≤ _; omega) ?_
    intro p4 c4
    (repeat (first | refine GK.run ?_ | (refine GK.box ?_; intro bl) | (refine GK.mkMap ?_; intro bm) | (refine GK.build0 tb ?_; intro bs)))
    refine GK.sel [2, 0] rfl ?_
    refine GK.absorb fun H1 k1 le1 x1 y1 => ?_
    refine GQ.fin1 rfl (Rv.tmp rfl) (fun w s => s) ⟨H1, le1, rfl, ?_⟩
    have h1 := row_in x1 y1
    have e1 : (lput l e).length = i + 1 + (l.length - i) := by rw [lput_length, hh]; simp; omega
    have e2 : ents (lput l e) = (ents l).take (i * 2) ++ [str e.1, str e.2] ++ (ents l).drop ((i) * 2) := by
      rw [ents_take, ents_drop]; unfold lput; rw [hh, hi0, ents_append]; show _ ++ ents ([e] ++ l.drop _) = _; rw [ents_append, ents_single, ← List.append_assoc]; rfl
    unfold Lst
    rw [e1, e2]
    exact h1
theorem rdel_ok {v : Value} {l : List En} (hv : Lst H v l) (hn : l.length < 1000000000) (key : Ky) :
    FnOk Go.Proofs.Try.prog 24 [v, str key] [poolOf H] hF (fun r Γ => ∃ H', le H H' ∧ Γ = [poolOf H'] ∧ Lst H' r (ldel l key)) := by
  have hv' := hv
  obtain ⟨p, c, rfl, hc, hln, hr⟩ := rs.out hv
  refine FnOk.intro 26 Go.Proofs.Try.func24 rfl rfl fun w0 => ?_
  (repeat (first | refine GK.run ?_ | (refine GK.box ?_; intro bl) | (refine GK.mkMap ?_; intro bm) | (refine GK.build0 tb ?_; intro bs)))
  refine GL.cons ?_; refine GO.call [0] (fun hF' hle hH => rfind_ok hv' hn key) (by first | exact Wt.none | exact Wt.some rfl rfl (by first | exact rfl | decide +kernel)) (by kernel_rfl) rfl rfl rfl ?_
  rintro v Γ' ⟨rfl, rfl⟩
  have hp := pos_le l key
  have hrs : rs H (.slice p l.length c) l.length 2 (ents l) := hv
  cases hh : hit l key with
  | false =>
    have hd : ldel l key = l := by unfold ldel; rw [hh]; rfl
    rw [hd]
    (repeat (first | refine GK.run ?_ | (refine GK.box ?_; intro bl) | (refine GK.mkMap ?_; intro bm) | (refine GK.build0 tb ?_; intro bs)))
    exact GQ.fin1 rfl (Rv.tmp rfl) (fun w s => s) ⟨H, le.refl _, rfl, hv⟩
  | true =>
    have hlt := hit_lt hh
    have hd : ldel l key = rm l (pos l key) := by unfold ldel; rw [hh]; rfl
    rw [hd]
    obtain ⟨i, hi0⟩ : ∃ i, pos l key = i := ⟨_, rfl⟩
    rw [hi0] at hp hlt ⊢
    (repeat (first | refine GK.run ?_ | (refine GK.box ?_; intro bl) | (refine GK.mkMap ?_; intro bm) | (refine GK.build0 tb ?_; intro bs)))
    refine G.draw [] [poolOf H] (by kernel_rfl) ?_
    ((first | refine GH.tk 1 [0] ?_ | refine GH.tks 1 [0] ?_); (first | refine GH.tk 2 [0] ?_ | refine GH.tks 2 [0] ?_); (first | refine GH.tk 3 [0] ?_ | refine GH.tks 3 [0] ?_); (first | refine GH.tk 5 [0] ?_ | refine GH.tks 5 [0] ?_); (first | refine GH.tk 6 [0] ?_ | refine GH.tks 6 [0] ?_); (first | refine GH.tk 7 [0] ?_ | refine GH.tks 7 [0] ?_); (first | refine GH.tk 8 [0] ?_ | refine GH.tks 8 [0] ?_))
    refine GH.step 0 rfl (by kernel_rfl) ?_
    refine Gt.build0 tb (by first | exact Wt.none | exact Wt.some rfl rfl (by first | exact rfl | decide +kernel)) rfl rfl ?_
    intro bs
    refine GH.keep (fun _ s => s.sel [1] rfl) ?_
    refine GH.step 4 rfl (by kernel_rfl) ?_
    refine Gt.append0 tb 0 (m := i) (by first | exact Wt.none | exact Wt.some rfl rfl (by first | exact rfl | decide +kernel)) rfl (.inl ⟨_, rfl⟩) rfl rfl rfl rfl rfl (RS.src ((RS.pool 1 rfl hrs).take hp (show i ≤ c by omega)) (fun u hu => ents_one _ u (List.mem_of_mem_take hu)) (by rw [List.length_take, ents_len]; omega) ⟨_, _, rfl⟩) (by omega) (by omega) ?_
    intro p2 c2
    refine GH.keep (fun _ s => s.sel [1] rfl) ?_
    refine GH.step 9 rfl (by kernel_rfl) ?_
    refine Gt.append tb 0 (m := l.length - (i + 1)) (by first | exact Wt.none | exact Wt.some rfl rfl (by first | exact rfl | decide +kernel)) rfl (.inl ⟨_, rfl⟩) rfl rfl rfl rfl rfl (RS.src ((RS.pool 1 rfl hrs).cut (l := i + 1) (by omega)) (fun u hu => ents_one _ u (List.mem_of_mem_drop hu)) (by rw [List.length_drop, ents_len]; omega) ⟨_, _, rfl⟩) (by show (i + _) * _ ≤ _; omega) (by show i + _ ≤ _; omega) ?_
    intro p3 c3
    refine GH.keep (fun _ s => s.sel [1] rfl) ?_
    ((first | refine GH.tk 10 [1] ?_ | refine GH.tks 10 [1] ?_))
    refine GH.fin (by kernel_rfl) ?_
    (repeat (first | refine GK.run ?_ | (refine GK.box ?_; intro bl) | (refine GK.mkMap ?_; intro bm) | (refine GK.build0 tb ?_; intro bs)))
    refine GK.sel [1, 0] rfl ?_
    refine GK.absorb fun H1 k1 le1 x1 y1 => ?_
    refine GQ.fin1 rfl (Rv.tmp rfl) (fun w s => s) ⟨H1, le1, rfl, ?_⟩
    have h1 := row_in x1 y1
    have e1 : (rm l i).length = i + (l.length - (i + 1)) := by rw [rm_len hlt]; omega
    have e2 : ents (rm l i) = (ents l).take (i * 2) ++ (ents l).drop ((i + 1) * 2) := by
      rw [ents_take, ents_drop]; unfold rm; rw [ents_append]
    unfold Lst
    rw [e1, e2]
    exact h1
end Go.Tr
