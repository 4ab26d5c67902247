/- The document's board: which are open; a proposal is made. -/
import Derived.Test.YtjphghadogedkaaRxC
set_option linter.unusedSimpArgs false
set_option linter.unusedVariables false
namespace Go.Re
open Go Go.Sl
set_option maxRecDepth 100000
def openTo (r : RB) (j : Nat) : List Int := ((List.range j).map fun i : Nat => (i : Int) + 1).filter (isOpenM r)
def openR (r : RB) : List Int := openTo r r.L.length
theorem openTo_next (r : RB) (j : Nat) : openTo r (j + 1) = openTo r j ++ (if isOpenM r ((j : Int) + 1) then [(j : Int) + 1] else []) := by
  unfold openTo
  rw [List.range_succ, List.map_append, List.filter_append]
  congr 1
  cases h : isOpenM r ((j : Int) + 1) <;> simp [h]
theorem openTo_len (r : RB) (j : Nat) : (openTo r j).length ≤ j := by
  unfold openTo
  have := List.length_filter_le (isOpenM r) ((List.range j).map fun i : Nat => (i : Int) + 1)
  simpa using this
set_option maxRecDepth 100000
set_option maxHeartbeats 4000000
attribute [local irreducible] GK GO Yl Wt Ef Hd GH KH wpListIn Code.wpIn toBody roundQ poolOf rs RS YieldOk IterOk VOk row star exs mp lp Sat pt FnOk Rd bodyPost bodyPostM Lv Ret Exit.then Exit.inBlock Exit.noGoto Int.decLt Int.decLe Int.instDecidableEq
attribute [local irreducible] u8s strs likeTo madeC mades deeds ofR i64s
set_option pp.deepTerms true
set_option pp.maxSteps 1000000
variable {hF H : Hp}
theorem ropen_ok {r : RB} {lv dv : Value} (h : RbAt H r lv dv) : FnOk Go.Proofs.Try.prog 26 [.agg ⟨[lv, dv]⟩] [poolOf H] hF (fun v Γ => Γ = [row v 3 1 (openR r).length (i64s (openR r)), poolOf H]) := by
  have h0 := h
  have hnl := h.nl
  obtain ⟨p, c, rfl, hc, hln, hr⟩ := rs.out h.l
  obtain ⟨p2, c2, rfl, hc2, hln2, hr2⟩ := rs.out h.d
  refine FnOk.intro 20 Go.Proofs.Try.func26 rfl rfl fun w0 => ?_
  (repeat (first | refine GK.ro ?_ | (refine GK.box ?_; intro bl) | (refine GK.mkMap ?_; intro bm) | (refine GK.build0 tb ?_; intro bs)))
  refine GK.weak (fr' := [(1, .pointer (some ⟨bl, 0, none⟩)), (3, .slice none 0 0), (4, .int .i64 (((0 : Nat) : Int) + 1))]) (Γ' := [row (.slice none 0 0) 3 1 0 (i64s []), blk bl 60 (0, 0) [.slice p r.L.length c, .slice p2 r.D.length c2], poolOf H]) (by repeat (first | exact trivial | refine ⟨rfl, ?_⟩)) (fun w s => by rw [i64s_nil]; exact Sl.Sat.row_nil s)
    (G.loopN (X := Nat × List Int × Option Addr × Nat) (fun (j, _, _, _) => r.L.length + 1 - j) (fun (j, acc, q, d) => [(1, .pointer (some ⟨bl, 0, none⟩)), (3, .slice q acc.length d), (4, .int .i64 ((j : Int) + 1))]) (fun (_, acc, q, d) => [row (.slice q acc.length d) 3 1 acc.length (i64s acc), blk bl 60 (0, 0) [.slice p r.L.length c, .slice p2 r.D.length c2], poolOf H])
    (fun (j, acc, _, _) => j ≤ r.L.length ∧ acc = openTo r j) (fun x hx k hk => ?_) (0, [], none, 0) ⟨Nat.zero_le _, rfl⟩)
  obtain ⟨j, acc, q, d⟩ := x
  obtain ⟨hj, hacc⟩ := hx
  dsimp only at hk
  have hlen := openTo_len r j
  rw [← hacc] at hlen
  (repeat (first | refine GK.ro ?_ | (refine GK.box ?_; intro bl) | (refine GK.mkMap ?_; intro bm) | (refine GK.build0 tb ?_; intro bs)))
  (first | refine G.condP rfl (fun hb => ?_) (fun hb => ?_) | refine G.condN rfl (fun hb => ?_) (fun hb => ?_) | refine G.cond rfl (fun hb => ?_) (fun hb => ?_))
  · have hlt : j < r.L.length := by omega
    clear hb
    have hnx := openTo_next r j
    (repeat (first | refine GK.ro ?_ | (refine GK.box ?_; intro bl) | (refine GK.mkMap ?_; intro bm) | (refine GK.build0 tb ?_; intro bs)))
    refine GL.cons ?_; refine GO.callA (fun hF' hle hH => isOpen_ok (n := (j : Int) + 1) h0) (by first | exact Wt.none | exact Wt.some rfl rfl (by first | exact rfl | decide +kernel)) (by kernel_rfl) rfl rfl (by repeat (first | exact SubR.nil | apply SubR.cons 0 rfl | apply SubR.cons 1 rfl | apply SubR.cons 2 rfl | apply SubR.cons 3 rfl | apply SubR.cons 4 rfl | apply SubR.cons 5 rfl | apply SubR.cons 6 rfl | apply SubR.cons 7 rfl | apply SubR.cons 8 rfl | apply SubR.cons 9 rfl | apply SubR.cons 10 rfl | apply SubR.cons 11 rfl | apply SubR.cons 12 rfl | apply SubR.cons 13 rfl | apply SubR.cons 14 rfl | apply SubR.cons 15 rfl)) ?_
    rintro v Γ' ⟨rfl, rfl⟩
    cases ho : isOpenM r ((j : Int) + 1) with
    | false =>
      rw [ho] at hnx
      simp only [Bool.false_eq_true, if_false, List.append_nil] at hnx
      (repeat (first | refine GK.ro ?_ | (refine GK.box ?_; intro bl) | (refine GK.mkMap ?_; intro bm) | (refine GK.build0 tb ?_; intro bs)))
      (refine GQ.againN ((j + 1, acc, q, d)) ?_ ?_ ?_ ?_; rotate_left; (first | omega | (dsimp only; omega)); exact (by repeat (first | exact trivial | refine ⟨rfl, ?_⟩)); exact (fun _ s => Sat.sub (by repeat (first | exact SubR.nil | apply SubR.cons 0 rfl | apply SubR.cons 1 rfl | apply SubR.cons 2 rfl | apply SubR.cons 3 rfl | apply SubR.cons 4 rfl | apply SubR.cons 5 rfl | apply SubR.cons 6 rfl | apply SubR.cons 7 rfl | apply SubR.cons 8 rfl | apply SubR.cons 9 rfl | apply SubR.cons 10 rfl | apply SubR.cons 11 rfl | apply SubR.cons 12 rfl | apply SubR.cons 13 rfl | apply SubR.cons 14 rfl | apply SubR.cons 15 rfl)) s))
      exact ⟨by omega, by rw [hnx]; exact hacc⟩
    | true =>
      rw [ho, if_pos rfl] at hnx
      (repeat (first | refine GK.ro ?_ | (refine GK.box ?_; intro bl) | (refine GK.mkMap ?_; intro bm) | (refine GK.build0 tb ?_; intro bs)))
      refine GL.cons ?_; refine Gt.buildLit tb (sz := 0) (n := 0) (by first | exact Wt.none | exact Wt.some rfl rfl (by first | exact rfl | decide +kernel)) rfl rfl (by kernel_rfl) rfl rfl rfl rfl rfl rfl ?_; intro bx; refine GL.cons ?_; (first | refine Gt.append tb 1 (by first | exact Wt.none | exact Wt.some rfl rfl (by first | exact rfl | decide +kernel)) rfl (.inl ⟨_, rfl⟩) rfl rfl rfl rfl rfl (Src.slice (m := 1) (Rd.blk 0 rfl) (At.all _) rfl (one_of_all rfl)) (by omega) (by omega) ?_ | refine Gt.append tb 2 (by first | exact Wt.none | exact Wt.some rfl rfl (by first | exact rfl | decide +kernel)) rfl (.inl ⟨_, rfl⟩) rfl rfl rfl rfl rfl (Src.slice (m := 1) (Rd.blk 0 rfl) (At.all _) rfl (one_of_all rfl)) (by omega) (by omega) ?_ | refine Gt.append tb 3 (by first | exact Wt.none | exact Wt.some rfl rfl (by first | exact rfl | decide +kernel)) rfl (.inl ⟨_, rfl⟩) rfl rfl rfl rfl rfl (Src.slice (m := 1) (Rd.blk 0 rfl) (At.all _) rfl (one_of_all rfl)) (by omega) (by omega) ?_ | refine Gt.append tb 4 (by first | exact Wt.none | exact Wt.some rfl rfl (by first | exact rfl | decide +kernel)) rfl (.inl ⟨_, rfl⟩) rfl rfl rfl rfl rfl (Src.slice (m := 1) (Rd.blk 0 rfl) (At.all _) rfl (one_of_all rfl)) (by omega) (by omega) ?_ | refine Gt.append tb 5 (by first | exact Wt.none | exact Wt.some rfl rfl (by first | exact rfl | decide +kernel)) rfl (.inl ⟨_, rfl⟩) rfl rfl rfl rfl rfl (Src.slice (m := 1) (Rd.blk 0 rfl) (At.all _) rfl (one_of_all rfl)) (by omega) (by omega) ?_ | refine Gt.append tb 6 (by first | exact Wt.none | exact Wt.some rfl rfl (by first | exact rfl | decide +kernel)) rfl (.inl ⟨_, rfl⟩) rfl rfl rfl rfl rfl (Src.slice (m := 1) (Rd.blk 0 rfl) (At.all _) rfl (one_of_all rfl)) (by omega) (by omega) ?_ | refine Gt.append tb 7 (by first | exact Wt.none | exact Wt.some rfl rfl (by first | exact rfl | decide +kernel)) rfl (.inl ⟨_, rfl⟩) rfl rfl rfl rfl rfl (Src.slice (m := 1) (Rd.blk 0 rfl) (At.all _) rfl (one_of_all rfl)) (by omega) (by omega) ?_ | refine Gt.append tb 8 (by first | exact Wt.none | exact Wt.some rfl rfl (by first | exact rfl | decide +kernel)) rfl (.inl ⟨_, rfl⟩) rfl rfl rfl rfl rfl (Src.slice (m := 1) (Rd.blk 0 rfl) (At.all _) rfl (one_of_all rfl)) (by omega) (by omega) ?_ | refine Gt.append tb 9 (by first | exact Wt.none | exact Wt.some rfl rfl (by first | exact rfl | decide +kernel)) rfl (.inl ⟨_, rfl⟩) rfl rfl rfl rfl rfl (Src.slice (m := 1) (Rd.blk 0 rfl) (At.all _) rfl (one_of_all rfl)) (by omega) (by omega) ?_ | refine Gt.append tb 10 (by first | exact Wt.none | exact Wt.some rfl rfl (by first | exact rfl | decide +kernel)) rfl (.inl ⟨_, rfl⟩) rfl rfl rfl rfl rfl (Src.slice (m := 1) (Rd.blk 0 rfl) (At.all _) rfl (one_of_all rfl)) (by omega) (by omega) ?_ | refine Gt.append tb 11 (by first | exact Wt.none | exact Wt.some rfl rfl (by first | exact rfl | decide +kernel)) rfl (.inl ⟨_, rfl⟩) rfl rfl rfl rfl rfl (Src.slice (m := 1) (Rd.blk 0 rfl) (At.all _) rfl (one_of_all rfl)) (by omega) (by omega) ?_ | refine Gt.append tb 12 (by first | exact Wt.none | exact Wt.some rfl rfl (by first | exact rfl | decide +kernel)) rfl (.inl ⟨_, rfl⟩) rfl rfl rfl rfl rfl (Src.slice (m := 1) (Rd.blk 0 rfl) (At.all _) rfl (one_of_all rfl)) (by omega) (by omega) ?_)
      intro q3 d3
      rw [show i64s acc ++ List.flatMap (fun v : Value => v.cells.toList) [Value.int .i64 ((j : Int) + 1)] = i64s (acc ++ [(j : Int) + 1]) from by rw [i64s_append, i64s_one]; rfl, show acc.length + 1 = (acc ++ [(j : Int) + 1]).length by simp]
      (repeat (first | refine GK.ro ?_ | (refine GK.box ?_; intro bl) | (refine GK.mkMap ?_; intro bm) | (refine GK.build0 tb ?_; intro bs)))
      (refine GQ.againN ((j + 1, acc ++ [(j : Int) + 1], q3, d3)) ?_ ?_ ?_ ?_; rotate_left; (first | omega | (dsimp only; omega)); exact (by repeat (first | exact trivial | refine ⟨rfl, ?_⟩)); exact (fun _ s => Sat.sub (by repeat (first | exact SubR.nil | apply SubR.cons 0 rfl | apply SubR.cons 1 rfl | apply SubR.cons 2 rfl | apply SubR.cons 3 rfl | apply SubR.cons 4 rfl | apply SubR.cons 5 rfl | apply SubR.cons 6 rfl | apply SubR.cons 7 rfl | apply SubR.cons 8 rfl | apply SubR.cons 9 rfl | apply SubR.cons 10 rfl | apply SubR.cons 11 rfl | apply SubR.cons 12 rfl | apply SubR.cons 13 rfl | apply SubR.cons 14 rfl | apply SubR.cons 15 rfl)) s))
      exact ⟨by omega, by rw [hnx, hacc]⟩
  · have hjl : j = r.L.length := by omega
    subst hjl
    subst hacc
    (repeat (first | refine GK.ro ?_ | (refine GK.box ?_; intro bl) | (refine GK.mkMap ?_; intro bm) | (refine GK.build0 tb ?_; intro bs)))
    exact GQ.fin1 rfl (Rv.tmp rfl) (fun _ s => Sat.sub (by repeat (first | exact SubR.nil | apply SubR.cons 0 rfl | apply SubR.cons 1 rfl | apply SubR.cons 2 rfl | apply SubR.cons 3 rfl | apply SubR.cons 4 rfl | apply SubR.cons 5 rfl | apply SubR.cons 6 rfl | apply SubR.cons 7 rfl | apply SubR.cons 8 rfl | apply SubR.cons 9 rfl | apply SubR.cons 10 rfl | apply SubR.cons 11 rfl | apply SubR.cons 12 rfl | apply SubR.cons 13 rfl | apply SubR.cons 14 rfl | apply SubR.cons 15 rfl)) s) rfl
end Go.Re
