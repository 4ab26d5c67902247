/- Whether two proposals are the same. -/
import Derived.Test.YtjphghadogedkaaRvK
set_option linter.unusedSimpArgs false
set_option linter.unusedVariables false
namespace Go.Re
open Go Go.Sl
set_option maxRecDepth 100000
def prC (x : By × By) : List Value := [str x.1, str x.2]
theorem equal_pair (w : World) (a b : By × By) : (Op.equal 67 (.agg ⟨prC a⟩) (.agg ⟨prC b⟩)).run Go.Proofs.Try.prog w = .ok (a == b) w := by
  have hf : (Program.fieldsOf Go.Proofs.Try.prog 67).toList = [⟨"Key", 9, 0, false, "", "", 0⟩, ⟨"Value", 9, 1, false, "", "", 16⟩] := by kernel_rfl
  have hs : (Go.Proofs.Try.prog).underlying 9 = some .string := rfl
  have hp : ∀ (l : List Value) (i : Nat) (v : Value), l[i]? = some v → (part 9 ⟨l⟩ i).run Go.Proofs.Try.prog w = .ok v w := fun l i v h => by simp [part, run_isAgg (show isRow Go.Proofs.Try.prog 9 = some false by kernel_rfl), h]
  show (Op.equalIn (9999 + 1) _ _ _).run _ w = _
  rw [run_equalIn_struct w 9999 67 _ _ (by kernel_rfl) (by kernel_rfl), hf]
  obtain ⟨a1, a2⟩ := a
  obtain ⟨b1, b2⟩ := b
  have e1 : ∀ l : List UInt8, (ByteArray.mk ⟨l⟩).toList = l := fun l => by simp
  have q1 := hp (prC (a1, a2)) 0 (str a1) rfl
  have q2 := hp (prC (b1, b2)) 0 (str b1) rfl
  have q3 := hp (prC (a1, a2)) 1 (str a2) rfl
  have q4 := hp (prC (b1, b2)) 1 (str b2) rfl
  have q5 : ∀ x y : List UInt8, (Op.equalIn 9999 9 (str x) (str y)).run Go.Proofs.Try.prog w = .ok (x == y) w := fun x y => by rw [run_equalIn_string w 9998 9 _ _ hs, e1, e1]
  rw [show ((a1, a2) == (b1, b2)) = (a1 == b1 && a2 == b2) from rfl]
  simp only [Op.eqFields, Sem.run_bind, Sem.run_ite, Sem.run_pure]
  rw [if_pos (by decide), q1, Result.andThen_ok, q2, Result.andThen_ok, q5, Result.andThen_ok]
  cases a1 == b1
  · rfl
  · rw [if_neg (by decide), if_pos (by decide), q3, Result.andThen_ok, q4, Result.andThen_ok, q5, Result.andThen_ok]
    cases a2 == b2 <;> rfl
theorem eq_pair (a b : By × By) : EqlAt Go.Proofs.Try.prog 67 (prC a) (prC b) (a == b) := ⟨by kernel_rfl, fun w => equal_pair w a b⟩
theorem prs_at {l : List (By × By)} {i : Nat} {x : By × By} (h : l[i]? = some x) : At (prs l) (i * 2) (prC x) := flatMap_at (f := prC) (fun _ => rfl) h
theorem at_trans {cs A B : List Value} {o k : Nat} (h1 : At cs o A) (h2 : At A k B) : At cs (o + k) B := fun j v hv => by
  have := h1 (k + j) v (h2 j v hv)
  rw [show o + k + j = o + (k + j) by omega]; exact this
structure PropB where
  pr : Pr
  yv : Value
  nv : Value
  tv : Value
  yes : List By
  no : List By
  talk : List (By × By)
structure PropB.Ok (x : PropB) (H : Hp) : Prop where
  y : rs H x.yv x.yes.length 1 (strs x.yes)
  n : rs H x.nv x.no.length 1 (strs x.no)
  t : rs H x.tv x.talk.length 2 (prs x.talk)
  h : x.pr.h.length = 32
  ny : x.yes.length ≤ 140737488355328
  nn : x.no.length ≤ 140737488355328
  nt : x.talk.length ≤ 140737488355328
def sameM (x y : PropB) : Bool := decide (x.pr.id = y.pr.id ∧ x.pr.a = y.pr.a ∧ x.pr.c = y.pr.c ∧ x.pr.h = y.pr.h ∧ x.pr.o = y.pr.o ∧ x.talk = y.talk ∧ x.yes = y.yes ∧ x.no = y.no)
set_option maxRecDepth 100000
set_option maxHeartbeats 4000000
attribute [local irreducible] GK GO Yl Wt Ef Hd GH KH wpListIn Code.wpIn toBody roundQ poolOf rs RS YieldOk IterOk VOk row star exs mp lp Sat pt FnOk Rd bodyPost bodyPostM Lv Ret Exit.then Exit.inBlock Exit.noGoto Int.decLt Int.decLe Int.instDecidableEq
attribute [local irreducible] u8s strs likeTo propC encV prs ptrs sheetC sheets zeroC
set_option pp.deepTerms true
set_option pp.maxSteps 1000000
variable {hF H : Hp}
theorem same_ok {x y : PropB} (hx : x.Ok H) (hy : y.Ok H) :
    FnOk Go.Proofs.Try.prog 28 [.agg ⟨propC x.pr x.yv x.nv x.tv⟩, .agg ⟨propC y.pr y.yv y.nv y.tv⟩] [poolOf H] hF (fun v Γ => v = .bool (sameM x y) ∧ Γ = [poolOf H]) := by
  obtain ⟨p1, y1, n1, t1, yes1, no1, tk1⟩ := x
  obtain ⟨p2, y2, n2, t2, yes2, no2, tk2⟩ := y
  obtain ⟨hy1, hn1, ht1, hh1, by1, bn1, bt1⟩ := hx
  obtain ⟨hy2, hn2, ht2, hh2, by2, bn2, bt2⟩ := hy
  dsimp only at hy1 hn1 ht1 hh1 by1 bn1 bt1 hy2 hn2 ht2 hh2 by2 bn2 bt2 ⊢
  have o1 := propC_one (p := p1) hy1.one hn1.one ht1.one
  have o2 := propC_one (p := p2) hy2.one hn2.one ht2.one
  have l1 := propC_len (y := y1) (n := n1) (t := t1) hh1
  have l2 := propC_len (y := y2) (n := n2) (t := t2) hh2
  have ht1' := ht1
  have ht2' := ht2
  obtain ⟨q1, c1, rfl, hc1, hl1, hr1⟩ := rs.out ht1
  obtain ⟨q2, c2, rfl, hc2, hl2, hr2⟩ := rs.out ht2
  have a0 : (propC p1 y1 n1 (.slice q1 tk1.length c1))[0 + 0]? = some (.int .i64 p1.id) := propC_id
  have a1 : (propC p1 y1 n1 (.slice q1 tk1.length c1))[0 + 1]? = some (str p1.a) := propC_a
  have a2 : (propC p1 y1 n1 (.slice q1 tk1.length c1))[0 + 2]? = some (str p1.c) := propC_c
  have a3 : At (propC p1 y1 n1 (.slice q1 tk1.length c1)) (0 + 3) (u8s p1.h) := propC_h
  have a4 : (propC p1 y1 n1 (.slice q1 tk1.length c1))[0 + 35]? = some (.bool p1.o) := propC_o hh1
  have a5 : (propC p1 y1 n1 (.slice q1 tk1.length c1))[0 + 36]? = some y1 := propC_y hh1
  have a6 : (propC p1 y1 n1 (.slice q1 tk1.length c1))[0 + 37]? = some n1 := propC_n hh1
  have a7 : (propC p1 y1 n1 (.slice q1 tk1.length c1))[0 + 38]? = some (.slice q1 tk1.length c1) := propC_t hh1
  have b0 : (propC p2 y2 n2 (.slice q2 tk2.length c2))[0 + 0]? = some (.int .i64 p2.id) := propC_id
  have b1 : (propC p2 y2 n2 (.slice q2 tk2.length c2))[0 + 1]? = some (str p2.a) := propC_a
  have b2 : (propC p2 y2 n2 (.slice q2 tk2.length c2))[0 + 2]? = some (str p2.c) := propC_c
  have b3 : At (propC p2 y2 n2 (.slice q2 tk2.length c2)) (0 + 3) (u8s p2.h) := propC_h
  have b4 : (propC p2 y2 n2 (.slice q2 tk2.length c2))[0 + 35]? = some (.bool p2.o) := propC_o hh2
  have b5 : (propC p2 y2 n2 (.slice q2 tk2.length c2))[0 + 36]? = some y2 := propC_y hh2
  have b6 : (propC p2 y2 n2 (.slice q2 tk2.length c2))[0 + 37]? = some n2 := propC_n hh2
  have b7 : (propC p2 y2 n2 (.slice q2 tk2.length c2))[0 + 38]? = some (.slice q2 tk2.length c2) := propC_t hh2
  have z1 : (u8s p1.h).length = 32 := by rw [u8s_len, hh1]
  have z2 : (u8s p2.h).length = 32 := by rw [u8s_len, hh2]
  have hE := eq_hash hh1 hh2
  unfold sameM
  dsimp only
  by_cases e0 : p1.id = p2.id
  rotate_left
  · have f0 : (!decide (p1.id = p2.id)) = true := by simp [e0]
    refine FnOk.intro 78 Go.Proofs.Try.func28 rfl rfl fun w0 => ?_
    (repeat (first | refine GK.ro ?_ | (refine GK.box ?_; intro bl) | (refine GK.mkMap ?_; intro bm) | (refine GK.build0 tb ?_; intro bs)))
    refine GQ.fin1 rfl (Rv.tmp rfl) (fun _ s => Sat.sub (by repeat (first | exact SubR.nil | apply SubR.cons 0 rfl | apply SubR.cons 1 rfl | apply SubR.cons 2 rfl | apply SubR.cons 3 rfl | apply SubR.cons 4 rfl | apply SubR.cons 5 rfl | apply SubR.cons 6 rfl | apply SubR.cons 7 rfl | apply SubR.cons 8 rfl | apply SubR.cons 9 rfl | apply SubR.cons 10 rfl | apply SubR.cons 11 rfl | apply SubR.cons 12 rfl | apply SubR.cons 13 rfl | apply SubR.cons 14 rfl | apply SubR.cons 15 rfl)) s) ⟨?_, rfl⟩
    rw [decide_eq_false fun h => e0 (h.1)]
  have f0 : (!decide (p1.id = p2.id)) = false := by simp [e0]
  by_cases e1 : p1.a = p2.a
  rotate_left
  · have f1 : (!(p1.a == p2.a)) = true := by simp [e1]
    refine FnOk.intro 78 Go.Proofs.Try.func28 rfl rfl fun w0 => ?_
    (repeat (first | refine GK.ro ?_ | (refine GK.box ?_; intro bl) | (refine GK.mkMap ?_; intro bm) | (refine GK.build0 tb ?_; intro bs)))
    refine GQ.fin1 rfl (Rv.tmp rfl) (fun _ s => Sat.sub (by repeat (first | exact SubR.nil | apply SubR.cons 0 rfl | apply SubR.cons 1 rfl | apply SubR.cons 2 rfl | apply SubR.cons 3 rfl | apply SubR.cons 4 rfl | apply SubR.cons 5 rfl | apply SubR.cons 6 rfl | apply SubR.cons 7 rfl | apply SubR.cons 8 rfl | apply SubR.cons 9 rfl | apply SubR.cons 10 rfl | apply SubR.cons 11 rfl | apply SubR.cons 12 rfl | apply SubR.cons 13 rfl | apply SubR.cons 14 rfl | apply SubR.cons 15 rfl)) s) ⟨?_, rfl⟩
    rw [decide_eq_false fun h => e1 (h.2.1)]
  have f1 : (!(p1.a == p2.a)) = false := by simp [e1]
  by_cases e2 : p1.c = p2.c
  rotate_left
  · have f2 : (!(p1.c == p2.c)) = true := by simp [e2]
    refine FnOk.intro 78 Go.Proofs.Try.func28 rfl rfl fun w0 => ?_
    (repeat (first | refine GK.ro ?_ | (refine GK.box ?_; intro bl) | (refine GK.mkMap ?_; intro bm) | (refine GK.build0 tb ?_; intro bs)))
    refine GQ.fin1 rfl (Rv.tmp rfl) (fun _ s => Sat.sub (by repeat (first | exact SubR.nil | apply SubR.cons 0 rfl | apply SubR.cons 1 rfl | apply SubR.cons 2 rfl | apply SubR.cons 3 rfl | apply SubR.cons 4 rfl | apply SubR.cons 5 rfl | apply SubR.cons 6 rfl | apply SubR.cons 7 rfl | apply SubR.cons 8 rfl | apply SubR.cons 9 rfl | apply SubR.cons 10 rfl | apply SubR.cons 11 rfl | apply SubR.cons 12 rfl | apply SubR.cons 13 rfl | apply SubR.cons 14 rfl | apply SubR.cons 15 rfl)) s) ⟨?_, rfl⟩
    rw [decide_eq_false fun h => e2 (h.2.2.1)]
  have f2 : (!(p1.c == p2.c)) = false := by simp [e2]
  by_cases e3 : p1.h = p2.h
  rotate_left
  · have f3 : (!(p1.h == p2.h)) = true := by simp [e3]
    refine FnOk.intro 78 Go.Proofs.Try.func28 rfl rfl fun w0 => ?_
    (repeat (first | refine GK.ro ?_ | (refine GK.box ?_; intro bl) | (refine GK.mkMap ?_; intro bm) | (refine GK.build0 tb ?_; intro bs)))
    refine GQ.fin1 rfl (Rv.tmp rfl) (fun _ s => Sat.sub (by repeat (first | exact SubR.nil | apply SubR.cons 0 rfl | apply SubR.cons 1 rfl | apply SubR.cons 2 rfl | apply SubR.cons 3 rfl | apply SubR.cons 4 rfl | apply SubR.cons 5 rfl | apply SubR.cons 6 rfl | apply SubR.cons 7 rfl | apply SubR.cons 8 rfl | apply SubR.cons 9 rfl | apply SubR.cons 10 rfl | apply SubR.cons 11 rfl | apply SubR.cons 12 rfl | apply SubR.cons 13 rfl | apply SubR.cons 14 rfl | apply SubR.cons 15 rfl)) s) ⟨?_, rfl⟩
    rw [decide_eq_false fun h => e3 (h.2.2.2.1)]
  have f3 : (!(p1.h == p2.h)) = false := by simp [e3]
  by_cases e4 : p1.o = p2.o
  rotate_left
  · have f4 : (!(p1.o == p2.o)) = true := by simp [e4]
    refine FnOk.intro 78 Go.Proofs.Try.func28 rfl rfl fun w0 => ?_
    (repeat (first | refine GK.ro ?_ | (refine GK.box ?_; intro bl) | (refine GK.mkMap ?_; intro bm) | (refine GK.build0 tb ?_; intro bs)))
    refine GQ.fin1 rfl (Rv.tmp rfl) (fun _ s => Sat.sub (by repeat (first | exact SubR.nil | apply SubR.cons 0 rfl | apply SubR.cons 1 rfl | apply SubR.cons 2 rfl | apply SubR.cons 3 rfl | apply SubR.cons 4 rfl | apply SubR.cons 5 rfl | apply SubR.cons 6 rfl | apply SubR.cons 7 rfl | apply SubR.cons 8 rfl | apply SubR.cons 9 rfl | apply SubR.cons 10 rfl | apply SubR.cons 11 rfl | apply SubR.cons 12 rfl | apply SubR.cons 13 rfl | apply SubR.cons 14 rfl | apply SubR.cons 15 rfl)) s) ⟨?_, rfl⟩
    rw [decide_eq_false fun h => e4 (h.2.2.2.2.1)]
  have f4 : (!(p1.o == p2.o)) = false := by simp [e4]
  by_cases e5 : tk1.length = tk2.length
  rotate_left
  · refine FnOk.intro 78 Go.Proofs.Try.func28 rfl rfl fun w0 => ?_
    (repeat (first | refine GK.ro ?_ | (refine GK.box ?_; intro bl) | (refine GK.mkMap ?_; intro bm) | (refine GK.build0 tb ?_; intro bs)))
    refine GQ.fin1 rfl (Rv.tmp rfl) (fun _ s => Sat.sub (by repeat (first | exact SubR.nil | apply SubR.cons 0 rfl | apply SubR.cons 1 rfl | apply SubR.cons 2 rfl | apply SubR.cons 3 rfl | apply SubR.cons 4 rfl | apply SubR.cons 5 rfl | apply SubR.cons 6 rfl | apply SubR.cons 7 rfl | apply SubR.cons 8 rfl | apply SubR.cons 9 rfl | apply SubR.cons 10 rfl | apply SubR.cons 11 rfl | apply SubR.cons 12 rfl | apply SubR.cons 13 rfl | apply SubR.cons 14 rfl | apply SubR.cons 15 rfl)) s) ⟨?_, rfl⟩
    rw [decide_eq_false fun h => e5 (by rw [h.2.2.2.2.2.1])]
  · refine FnOk.intro 78 Go.Proofs.Try.func28 rfl rfl fun w0 => ?_
    (repeat (first | refine GK.ro ?_ | (refine GK.box ?_; intro bl) | (refine GK.mkMap ?_; intro bm) | (refine GK.build0 tb ?_; intro bs)))
    rename_i b9
    refine GK.weak (fr' := [(2, .pointer (some ⟨b9, 0, none⟩)), (3, .pointer (some ⟨bl, 0, none⟩)), (5, .int .i64 ((0 : Nat) : Int))]) (Γ' := [blk b9 27 (0, 0) (propC p1 y1 n1 (.slice q1 tk1.length c1)), blk bl 27 (0, 0) (propC p2 y2 n2 (.slice q2 tk2.length c2)), poolOf H]) (by repeat (first | exact trivial | refine ⟨rfl, ?_⟩)) (fun _ s => Sat.sub (by repeat (first | exact SubR.nil | apply SubR.cons 0 rfl | apply SubR.cons 1 rfl | apply SubR.cons 2 rfl | apply SubR.cons 3 rfl | apply SubR.cons 4 rfl | apply SubR.cons 5 rfl | apply SubR.cons 6 rfl | apply SubR.cons 7 rfl | apply SubR.cons 8 rfl | apply SubR.cons 9 rfl | apply SubR.cons 10 rfl | apply SubR.cons 11 rfl | apply SubR.cons 12 rfl | apply SubR.cons 13 rfl | apply SubR.cons 14 rfl | apply SubR.cons 15 rfl)) s)
      (G.loopN (fun i : Nat => tk1.length - i) (fun i => [(2, .pointer (some ⟨b9, 0, none⟩)), (3, .pointer (some ⟨bl, 0, none⟩)), (5, .int .i64 (i : Int))]) (fun _ => [blk b9 27 (0, 0) (propC p1 y1 n1 (.slice q1 tk1.length c1)), blk bl 27 (0, 0) (propC p2 y2 n2 (.slice q2 tk2.length c2)), poolOf H])
      (fun i => i ≤ tk1.length ∧ likeTo tk1 tk2 i) (fun i hi k hk => ?_) 0 ⟨Nat.zero_le _, likeTo.zero⟩)
    obtain ⟨hi, hlk⟩ := hi
    (repeat (first | refine GK.ro ?_ | (refine GK.box ?_; intro bl) | (refine GK.mkMap ?_; intro bm) | (refine GK.build0 tb ?_; intro bs)))
    (first | refine G.condP rfl (fun hb => ?_) (fun hb => ?_) | refine G.condN rfl (fun hb => ?_) (fun hb => ?_) | refine G.cond rfl (fun hb => ?_) (fun hb => ?_))
    · obtain ⟨x, hx⟩ : ∃ x, tk1[i]? = some x := ⟨_, List.getElem?_eq_getElem (by omega)⟩
      obtain ⟨y, hy⟩ : ∃ y, tk2[i]? = some y := ⟨_, List.getElem?_eq_getElem (by omega)⟩
      obtain ⟨d1, o1', cs1, et1, fz1, rfl, hb1, hat1⟩ := hr1 (by omega)
      obtain ⟨d2, o2', cs2, et2, fz2, rfl, hb2, hat2⟩ := hr2 (by omega)
      have hA1 : At cs1 (o1' + (i : Int).toNat * 2) (prC x) := at_trans hat1 (prs_at hx)
      have hA2 : At cs2 (o2' + (i : Int).toNat * 2) (prC y) := at_trans hat2 (prs_at hy)
      have g1 : (prC x).length = 2 := rfl
      have g2 : (prC y).length = 2 := rfl
      have hE2 := eq_pair x y
      (repeat (first | refine GK.ro ?_ | (refine GK.box ?_; intro bl) | (refine GK.mkMap ?_; intro bm) | (refine GK.build0 tb ?_; intro bs)))
      refine G.draw [] [blk b9 27 (0, 0) (propC p1 y1 n1 (.slice (some ⟨d1, o1', none⟩) tk1.length c1)), blk bl 27 (0, 0) (propC p2 y2 n2 (.slice (some ⟨d2, o2', none⟩) tk2.length c2)), poolOf H] (by kernel_rfl) ?_
      ((first | refine GH.to 0 ?_ | refine GH.tos 0 ?_); (first | refine GH.to 1 ?_ | refine GH.tos 1 ?_); (first | refine GH.to 2 ?_ | refine GH.tos 2 ?_); (first | refine GH.to 3 ?_ | refine GH.tos 3 ?_); (first | refine GH.to 4 ?_ | refine GH.tos 4 ?_); (first | refine GH.to 5 ?_ | refine GH.tos 5 ?_); (first | refine GH.to 6 ?_ | refine GH.tos 6 ?_); (first | refine GH.to 7 ?_ | refine GH.tos 7 ?_); (first | refine GH.to 8 ?_ | refine GH.tos 8 ?_); (first | refine GH.to 9 ?_ | refine GH.tos 9 ?_); (first | refine GH.to 10 ?_ | refine GH.tos 10 ?_))
      refine GH.fin (by kernel_rfl) ?_
      (repeat (first | refine GK.ro ?_ | (refine GK.box ?_; intro bl) | (refine GK.mkMap ?_; intro bm) | (refine GK.build0 tb ?_; intro bs)))
      (first | refine G.condP rfl (fun hb => ?_) (fun hb => ?_) | refine G.condN rfl (fun hb => ?_) (fun hb => ?_) | refine G.cond rfl (fun hb => ?_) (fun hb => ?_))
      · (repeat (first | refine GK.ro ?_ | (refine GK.box ?_; intro bl) | (refine GK.mkMap ?_; intro bm) | (refine GK.build0 tb ?_; intro bs)))
        refine GQ.fin1 rfl (Rv.tmp rfl) (fun _ s => Sat.sub (by repeat (first | exact SubR.nil | apply SubR.cons 0 rfl | apply SubR.cons 1 rfl | apply SubR.cons 2 rfl | apply SubR.cons 3 rfl | apply SubR.cons 4 rfl | apply SubR.cons 5 rfl | apply SubR.cons 6 rfl | apply SubR.cons 7 rfl | apply SubR.cons 8 rfl | apply SubR.cons 9 rfl | apply SubR.cons 10 rfl | apply SubR.cons 11 rfl | apply SubR.cons 12 rfl | apply SubR.cons 13 rfl | apply SubR.cons 14 rfl | apply SubR.cons 15 rfl)) s) ⟨?_, rfl⟩
        rw [decide_eq_false fun h => unlike_at hx hy (by simpa using hb) h.2.2.2.2.2.1]
      · have heq : x = y := by simpa using hb
        subst heq
        (repeat (first | refine GK.ro ?_ | (refine GK.box ?_; intro bl) | (refine GK.mkMap ?_; intro bm) | (refine GK.build0 tb ?_; intro bs)))
        (refine GQ.againN (i + 1) ?_ ?_ ?_ ?_; rotate_left; (first | omega | (dsimp only; omega)); exact (by repeat (first | exact trivial | refine ⟨rfl, ?_⟩)); exact (fun _ s => Sat.sub (by repeat (first | exact SubR.nil | apply SubR.cons 0 rfl | apply SubR.cons 1 rfl | apply SubR.cons 2 rfl | apply SubR.cons 3 rfl | apply SubR.cons 4 rfl | apply SubR.cons 5 rfl | apply SubR.cons 6 rfl | apply SubR.cons 7 rfl | apply SubR.cons 8 rfl | apply SubR.cons 9 rfl | apply SubR.cons 10 rfl | apply SubR.cons 11 rfl | apply SubR.cons 12 rfl | apply SubR.cons 13 rfl | apply SubR.cons 14 rfl | apply SubR.cons 15 rfl)) s))
        exact ⟨by omega, hlk.next hx hy⟩
    · have htk : tk1 = tk2 := hlk.all e5 (by omega)
      (repeat (first | refine GK.ro ?_ | (refine GK.box ?_; intro bl) | (refine GK.mkMap ?_; intro bm) | (refine GK.build0 tb ?_; intro bs)))
      refine GL.cons ?_; refine GO.callA (fun hF' hle hH => texts_ok hy1 hy2 by1 by2) (by first | exact Wt.none | exact Wt.some rfl rfl (by first | exact rfl | decide +kernel)) (by kernel_rfl) rfl rfl (by repeat (first | exact SubR.nil | apply SubR.cons 0 rfl | apply SubR.cons 1 rfl | apply SubR.cons 2 rfl | apply SubR.cons 3 rfl | apply SubR.cons 4 rfl | apply SubR.cons 5 rfl | apply SubR.cons 6 rfl | apply SubR.cons 7 rfl | apply SubR.cons 8 rfl | apply SubR.cons 9 rfl | apply SubR.cons 10 rfl | apply SubR.cons 11 rfl | apply SubR.cons 12 rfl | apply SubR.cons 13 rfl | apply SubR.cons 14 rfl | apply SubR.cons 15 rfl)) ?_
      rintro v Γ' ⟨rfl, rfl⟩
      by_cases hyy : yes1 = yes2
      · rw [decide_eq_true hyy]
        (repeat (first | refine GK.ro ?_ | (refine GK.box ?_; intro bl) | (refine GK.mkMap ?_; intro bm) | (refine GK.build0 tb ?_; intro bs)))
        refine GL.cons ?_; refine GO.callA (fun hF' hle hH => texts_ok hn1 hn2 bn1 bn2) (by first | exact Wt.none | exact Wt.some rfl rfl (by first | exact rfl | decide +kernel)) (by kernel_rfl) rfl rfl (by repeat (first | exact SubR.nil | apply SubR.cons 0 rfl | apply SubR.cons 1 rfl | apply SubR.cons 2 rfl | apply SubR.cons 3 rfl | apply SubR.cons 4 rfl | apply SubR.cons 5 rfl | apply SubR.cons 6 rfl | apply SubR.cons 7 rfl | apply SubR.cons 8 rfl | apply SubR.cons 9 rfl | apply SubR.cons 10 rfl | apply SubR.cons 11 rfl | apply SubR.cons 12 rfl | apply SubR.cons 13 rfl | apply SubR.cons 14 rfl | apply SubR.cons 15 rfl)) ?_
        rintro v Γ' ⟨rfl, rfl⟩
        (repeat (first | refine GK.ro ?_ | (refine GK.box ?_; intro bl) | (refine GK.mkMap ?_; intro bm) | (refine GK.build0 tb ?_; intro bs)))
        refine GQ.fin1 rfl (Rv.tmp rfl) (fun _ s => Sat.sub (by repeat (first | exact SubR.nil | apply SubR.cons 0 rfl | apply SubR.cons 1 rfl | apply SubR.cons 2 rfl | apply SubR.cons 3 rfl | apply SubR.cons 4 rfl | apply SubR.cons 5 rfl | apply SubR.cons 6 rfl | apply SubR.cons 7 rfl | apply SubR.cons 8 rfl | apply SubR.cons 9 rfl | apply SubR.cons 10 rfl | apply SubR.cons 11 rfl | apply SubR.cons 12 rfl | apply SubR.cons 13 rfl | apply SubR.cons 14 rfl | apply SubR.cons 15 rfl)) s) ⟨?_, rfl⟩
        congr 1; rw [Bool.eq_iff_iff]; simp [e0, e1, e2, e3, e4, htk, hyy]
      · rw [decide_eq_false hyy]
        (repeat (first | refine GK.ro ?_ | (refine GK.box ?_; intro bl) | (refine GK.mkMap ?_; intro bm) | (refine GK.build0 tb ?_; intro bs)))
        refine GQ.fin1 rfl (Rv.tmp rfl) (fun _ s => Sat.sub (by repeat (first | exact SubR.nil | apply SubR.cons 0 rfl | apply SubR.cons 1 rfl | apply SubR.cons 2 rfl | apply SubR.cons 3 rfl | apply SubR.cons 4 rfl | apply SubR.cons 5 rfl | apply SubR.cons 6 rfl | apply SubR.cons 7 rfl | apply SubR.cons 8 rfl | apply SubR.cons 9 rfl | apply SubR.cons 10 rfl | apply SubR.cons 11 rfl | apply SubR.cons 12 rfl | apply SubR.cons 13 rfl | apply SubR.cons 14 rfl | apply SubR.cons 15 rfl)) s) ⟨?_, rfl⟩
        rw [decide_eq_false fun h => hyy h.2.2.2.2.2.2.1]
end Go.Re
