/- A patch's bytes: the program's Encode. -/
import Derived.Test.YtbbfhchceimflaaDoorPbE
import Derived.Test.YtbbfhchceimflaaDoorEnV
set_option linter.unusedSimpArgs false
set_option linter.unusedVariables false
namespace Go.Pb
open Go Go.Sl Go.Lb Go.Pa Go.Oc
theorem flat_len {α : Type} {f : α → By} {B : Nat} : ∀ {l : List α}, (∀ a ∈ l, (f a).length ≤ B) → (l.flatMap f).length ≤ l.length * B
  | [], _ => by simp
  | a :: l, h => by
    have h1 := h a (by simp)
    have h2 := flat_len (f := f) (l := l) fun b hb => h b (by simp [hb])
    rw [List.flatMap_cons, List.length_append, List.length_cons, Nat.add_mul, Nat.one_mul]; omega
theorem line_len {s : By} (h : lineOk s = true) : s.length ≤ 200 := by unfold lineOk at h; simp at h; exact h.1
theorem opB_len {p : Pch} {o : Op1} (h : o.Good p) (hd : p.deps.length ≤ 1000000) : (opB p o).length ≤ 14000 := by
  have h1 := tx_len (s := o.path) (by have := h.path; omega)
  have h2 := h.path
  have h3 := vxB_len (p := p) (v := o.up) (by rcases h.up with q | q <;> simp [q]) hd
  unfold opB
  rw [List.length_cons, List.length_append, List.length_append]
  split
  · simp; omega
  · rename_i hk
    have hk1 := h.kind.resolve_right hk
    have h4 := vxB_len (p := p) (v := o.down) (by rcases h.down hk1 with q | q <;> simp [q]) hd
    have h5 := h.lines
    have h6 := uv_len10 (n := o.lines.length) (by omega)
    have h7 : (o.lines.flatMap tx).length ≤ o.lines.length * 210 := flat_len fun s hs => by
      have := line_len (h.line s hs)
      have := tx_len (s := s) (by omega); omega
    rw [List.length_append, List.length_append]
    have : o.lines.length * 210 ≤ 64 * 210 := Nat.mul_le_mul_right _ h5
    omega
theorem flat32 : ∀ {l : List By}, (∀ h ∈ l, h.length = 32) → l.flatten.length = l.length * 32
  | [], _ => by simp
  | a :: l, h => by
    have h1 := h a (by simp)
    have h2 := flat32 (l := l) fun b hb => h b (by simp [hb])
    rw [List.flatten_cons, List.length_append, List.length_cons]; omega
theorem flatten_next {l : List By} {i : Nat} {y : By} (h : l[i]? = some y) : (l.take (i + 1)).flatten = (l.take i).flatten ++ y := by
  rw [List.take_add_one, h]; simp
theorem flatMap_next {α : Type} {f : α → By} {l : List α} {i : Nat} {y : α} (h : l[i]? = some y) : (l.take (i + 1)).flatMap f = (l.take i).flatMap f ++ f y := by
  rw [List.take_add_one, h]; simp
theorem brow_grow2 {q : Option Addr} {c : Nat} {l : By} {b : UInt8} : row (.slice q (l ++ [b]).length c) 5 1 (l ++ [b]).length (u8s l ++ [.int .u8 b.toNat]) = brow (.slice q (l ++ [b]).length c) (l ++ [b]) := by
  rw [← u8s_one', ← u8s_append]
theorem brow_app2 {q : Option Addr} {c m : Nat} {l x : By} (h : x.length = m) : row (.slice q (l.length + m) c) 5 1 (l.length + m) (u8s l ++ u8s x) = brow (.slice q (l ++ x).length c) (l ++ x) := by
  subst h; rw [List.length_append]; exact brow_app rfl
theorem opC_one {x : Op1 × Value} (h : x.2.oneCell' = true) : ∀ u ∈ opC x, u.oneCell' = true := by
  unfold opC vxC
  intro u hu
  simp only [List.mem_cons, List.mem_append] at hu
  rcases hu with rfl | rfl | (hu | hu) | (hu | hu) | hu
  · rfl
  · rfl
  · exact u8s_one _ u hu
  · simp at hu; subst hu; rfl
  · exact u8s_one _ u hu
  · simp at hu; subst hu; rfl
  · simp at hu; subst hu; exact h
theorem ops_at {xs : List (Op1 × Value)} (h69 : ∀ x ∈ xs, (opC x).length = 69) {i : Nat} {x : Op1 × Value} (hx : xs[i]? = some x) : At (xs.flatMap opC) (i * 69) (opC x) := by
  induction xs generalizing i with
  | nil => simp at hx
  | cons a l ih =>
    have ha := h69 a (by simp)
    intro j v hj
    rw [List.flatMap_cons]
    cases i with
    | zero => simp at hx; subst hx; rw [Nat.zero_mul, Nat.zero_add, List.getElem?_append_left (List.getElem?_eq_some_iff.1 hj).1]; exact hj
    | succ k =>
      simp at hx
      rw [List.getElem?_append_right (by omega), ha, show (k + 1) * 69 + j - 69 = k * 69 + j by omega]
      exact ih (fun x hx => h69 x (by simp [hx])) hx j v hj
set_option maxRecDepth 100000
set_option maxHeartbeats 4000000
attribute [local irreducible] GK GO Yl Wt Ef Hd GH KH wpListIn Code.wpIn toBody roundQ poolOf rs RS YieldOk IterOk VOk row star exs mp lp Sat pt FnOk Rd bodyPost bodyPostM Lv Ret Exit.then Exit.inBlock Exit.noGoto Int.decLt Int.decLe Int.instDecidableEq
attribute [local irreducible] u8s hs strs vxC opC placeI pathM nameM ownM lineOk topV botV addsM killsM opM depsM risesM headM2 linesN zeroH tx vxB opB checkM
set_option pp.deepTerms true
set_option pp.maxSteps 1000000
variable {hF H : Hp}
theorem ptext_ok {q : Option Addr} {c : Nat} {l s : By} (hs : s.length ≤ 1000000000) (hl : l.length ≤ 1000000000) : FnOk Go.Proofs.Tryd.prog 31 [.slice q l.length c, str s] [brow (.slice q l.length c) l] hF (fun v Γ => ∃ q c, v = .slice q (l ++ tx s).length c ∧ Γ = [brow v (l ++ tx s)]) := by
  refine FnOk.weak (fun w s => s) ?_ (put_text_ok (A := brow (.slice q l.length c) l) Reads.row s hs hl)
  rintro v Γ' ⟨q2, c2, rfl, rfl⟩ w s1
  unfold tx
  exact ⟨_, ⟨q2, c2, rfl, rfl⟩, s1.sel [0] rfl⟩
theorem pnum_ok {q : Option Addr} {c n : Nat} {l : By} (hn : n < 18446744073709551616) (hl : l.length ≤ 1000000000) : FnOk Go.Proofs.Tryd.prog 32 [.slice q l.length c, .int .u64 n] [brow (.slice q l.length c) l] hF (fun v Γ => ∃ q c, v = .slice q (l ++ uv n).length c ∧ Γ = [brow v (l ++ uv n)]) := by
  refine FnOk.weak (fun w s => s) ?_ (put_ok (A := brow (.slice q l.length c) l) Reads.row n hn hl)
  rintro v Γ' ⟨q2, c2, rfl, rfl⟩ w s1
  exact ⟨_, ⟨q2, c2, rfl, rfl⟩, s1.sel [0] rfl⟩
def EncR (H : Hp) (p : Pch) (r : Value) (Γ : List HProp) : Prop := (checkM p = 0 ∧ ∃ q c, r = .tuple #[.slice q (bytesM p).length c, .int .i64 0] ∧ Γ = [brow (.slice q (bytesM p).length c) (bytesM p), poolOf H]) ∨ (checkM p ≠ 0 ∧ r = .tuple #[.slice none 0 0, .int .i64 (checkM p)] ∧ Γ = [poolOf H])
theorem encode_ok {p : Pch} {dv ov : Value} (hp : PaAt H p dv ov) (ho : p.Ok) (hb0 : Bot H) :
    FnOk Go.Proofs.Tryd.prog 14 [.agg ⟨paC p dv ov⟩] [poolOf H] hF (EncR H p) := by
  have hp' := hp
  have hcheck := fun hF' => check_ok (hF := hF') hp ho hb0
  obtain ⟨hdeps, xs, hxs, hov, hxl⟩ := hp
  obtain ⟨pd, cd, rfl, hcd, hld, hrd⟩ := rs.out hdeps
  obtain ⟨po, co, rfl, hco, hlo, hro⟩ := rs.out hov
  have hdl := ho.deps
  have hal := ho.author
  have hx69 : ∀ x ∈ xs, (opC x).length = 69 := fun x hx => opC_len (ho.op _ (by rw [← hxs]; exact List.mem_map_of_mem hx))
  refine FnOk.intro 98 Go.Proofs.Tryd.func14 rfl rfl fun w0 => ?_
  (repeat (first | refine GK.ro ?_ | (refine GK.box ?_; intro bl) | (refine GK.mkMap ?_; intro bm) | (refine GK.build0 tb ?_; intro bs)))
  refine GL.cons ?_; refine GO.callA (fun hF' hle hH => hcheck hF') (by first | exact Wt.none | exact Wt.some rfl rfl (by first | exact rfl | decide +kernel)) (by kernel_rfl) rfl rfl (by repeat (first | exact SubR.nil | apply SubR.cons 0 rfl | apply SubR.cons 1 rfl | apply SubR.cons 2 rfl | apply SubR.cons 3 rfl | apply SubR.cons 4 rfl | apply SubR.cons 5 rfl | apply SubR.cons 6 rfl | apply SubR.cons 7 rfl | apply SubR.cons 8 rfl | apply SubR.cons 9 rfl | apply SubR.cons 10 rfl | apply SubR.cons 11 rfl | apply SubR.cons 12 rfl | apply SubR.cons 13 rfl | apply SubR.cons 14 rfl | apply SubR.cons 15 rfl)) ?_
  rintro v Γ' ⟨rfl, rfl⟩
  (repeat (first | refine GK.ro ?_ | (refine GK.box ?_; intro bl) | (refine GK.mkMap ?_; intro bm) | (refine GK.build0 tb ?_; intro bs)))
  (first | refine G.condP rfl (fun hb => ?_) (fun hb => ?_) | refine G.condN rfl (fun hb => ?_) (fun hb => ?_) | refine G.cond rfl (fun hb => ?_) (fun hb => ?_))
  · (repeat (first | refine GK.ro ?_ | (refine GK.box ?_; intro bl) | (refine GK.mkMap ?_; intro bm) | (refine GK.build0 tb ?_; intro bs)))
    exact GQ.fin2 rfl (Rv.tmp rfl) (Rv.tmp rfl) (fun _ s => Sat.sub (by repeat (first | exact SubR.nil | apply SubR.cons 0 rfl | apply SubR.cons 1 rfl | apply SubR.cons 2 rfl | apply SubR.cons 3 rfl | apply SubR.cons 4 rfl | apply SubR.cons 5 rfl | apply SubR.cons 6 rfl | apply SubR.cons 7 rfl | apply SubR.cons 8 rfl | apply SubR.cons 9 rfl | apply SubR.cons 10 rfl | apply SubR.cons 11 rfl | apply SubR.cons 12 rfl | apply SubR.cons 13 rfl | apply SubR.cons 14 rfl | apply SubR.cons 15 rfl)) s) (.inr ⟨hb, rfl, rfl⟩)
  have hck := hb
  have hg := good_of hb
  obtain ⟨t, ht⟩ : ∃ t : Nat, p.time = t := ⟨p.time.toNat, by have := hg.time; omega⟩
  have ht2 := hg.time
  have hnl := hg.note
  have hdl2 := hg.deps
  have hol := hg.ops
  have hap : paC p (.slice pd p.deps.length cd) (.slice po p.ops.length co) = [str p.author, .int .i64 (t : Int), str p.note, .slice pd p.deps.length cd, .slice po p.ops.length co] := by unfold paC; rw [ht]
  obtain ⟨PC, hPC⟩ : ∃ PC, paC p (.slice pd p.deps.length cd) (.slice po p.ops.length co) = PC := ⟨_, rfl⟩
  refine GK.weak (fr' := [(1, .pointer (some ⟨bl, 0, none⟩))]) (Γ' := [blk bl 25 (0, 0) [str p.author, .int .i64 (t : Int), str p.note, .slice pd p.deps.length cd, .slice po p.ops.length co], poolOf H]) (by repeat (first | exact trivial | refine ⟨rfl, ?_⟩)) (fun w s => by rw [← hap]; exact Sat.sub (by repeat (first | exact SubR.nil | apply SubR.cons 0 rfl | apply SubR.cons 1 rfl | apply SubR.cons 2 rfl | apply SubR.cons 3 rfl | apply SubR.cons 4 rfl | apply SubR.cons 5 rfl | apply SubR.cons 6 rfl | apply SubR.cons 7 rfl | apply SubR.cons 8 rfl | apply SubR.cons 9 rfl | apply SubR.cons 10 rfl | apply SubR.cons 11 rfl | apply SubR.cons 12 rfl | apply SubR.cons 13 rfl | apply SubR.cons 14 rfl | apply SubR.cons 15 rfl)) s) ?_
  (repeat (first | refine GK.ro ?_ | (refine GK.box ?_; intro bl) | (refine GK.mkMap ?_; intro bm) | (refine GK.build0 tb ?_; intro bs)))
  refine GL.cons ?_; refine Gt.buildLit tb (sz := 0) (n := 0) (by first | exact Wt.none | exact Wt.some rfl rfl (by first | exact rfl | decide +kernel)) rfl rfl (by kernel_rfl) rfl rfl rfl rfl rfl rfl ?_
  intro bx
  refine GK.heap (Γ' := [brow (.slice (some ⟨bx, 0, none⟩) 1 1) [80], blk bl 25 (0, 0) [str p.author, .int .i64 (t : Int), str p.note, .slice pd p.deps.length cd, .slice po p.ops.length co], poolOf H]) (fun w s => Sat.blk_brow (l := [80]) (by rw [u8s_one']; exact Sat.sub (by repeat (first | exact SubR.nil | apply SubR.cons 0 rfl | apply SubR.cons 1 rfl | apply SubR.cons 2 rfl | apply SubR.cons 3 rfl | apply SubR.cons 4 rfl | apply SubR.cons 5 rfl | apply SubR.cons 6 rfl | apply SubR.cons 7 rfl | apply SubR.cons 8 rfl | apply SubR.cons 9 rfl | apply SubR.cons 10 rfl | apply SubR.cons 11 rfl | apply SubR.cons 12 rfl | apply SubR.cons 13 rfl | apply SubR.cons 14 rfl | apply SubR.cons 15 rfl)) s)) ?_
  (repeat (first | refine GK.ro ?_ | (refine GK.box ?_; intro bl) | (refine GK.mkMap ?_; intro bm) | (refine GK.build0 tb ?_; intro bs)))
  refine GL.cons ?_; refine GO.callA (fun hF' hle hH => ptext_ok (l := [80]) (s := p.author) (by omega) (by simp)) (by first | exact Wt.none | exact Wt.some rfl rfl (by first | exact rfl | decide +kernel)) (by kernel_rfl) rfl rfl (by repeat (first | exact SubR.nil | apply SubR.cons 0 rfl | apply SubR.cons 1 rfl | apply SubR.cons 2 rfl | apply SubR.cons 3 rfl | apply SubR.cons 4 rfl | apply SubR.cons 5 rfl | apply SubR.cons 6 rfl | apply SubR.cons 7 rfl | apply SubR.cons 8 rfl | apply SubR.cons 9 rfl | apply SubR.cons 10 rfl | apply SubR.cons 11 rfl | apply SubR.cons 12 rfl | apply SubR.cons 13 rfl | apply SubR.cons 14 rfl | apply SubR.cons 15 rfl)) ?_
  rintro v Γ' ⟨q1, c1, rfl, rfl⟩
  have hl1 : ([80] ++ tx p.author).length ≤ 1000011 := by have := tx_len (s := p.author) (by omega); simp; omega
  (repeat (first | refine GK.ro ?_ | (refine GK.box ?_; intro bl) | (refine GK.mkMap ?_; intro bm) | (refine GK.build0 tb ?_; intro bs)))
  refine G.draw [] [blk bl 25 (0, 0) [str p.author, .int .i64 (t : Int), str p.note, .slice pd p.deps.length cd, .slice po p.ops.length co]] (by kernel_rfl) ?_
  ((first | refine GH.to 0 ?_ | refine GH.tos 0 ?_); (first | refine GH.to 1 ?_ | refine GH.tos 1 ?_); (first | refine GH.to 2 ?_ | refine GH.tos 2 ?_); (first | refine GH.to 3 ?_ | refine GH.tos 3 ?_); (first | refine GH.to 5 ?_ | refine GH.tos 5 ?_); (first | refine GH.to 6 ?_ | refine GH.tos 6 ?_))
  refine GH.step 4 rfl (by kernel_rfl) ?_
  refine GO.callA (fun hF' hle hH => pnum_ok (by omega) (by omega)) (by first | exact Wt.none | exact Wt.some rfl rfl (by first | exact rfl | decide +kernel)) (by kernel_rfl) rfl rfl (by repeat (first | exact SubR.nil | apply SubR.cons 0 rfl | apply SubR.cons 1 rfl | apply SubR.cons 2 rfl | apply SubR.cons 3 rfl | apply SubR.cons 4 rfl | apply SubR.cons 5 rfl | apply SubR.cons 6 rfl | apply SubR.cons 7 rfl | apply SubR.cons 8 rfl | apply SubR.cons 9 rfl | apply SubR.cons 10 rfl | apply SubR.cons 11 rfl | apply SubR.cons 12 rfl | apply SubR.cons 13 rfl | apply SubR.cons 14 rfl | apply SubR.cons 15 rfl)) ?_
  rintro v Γ' ⟨q2, c2, rfl, rfl⟩
  have hl2 : ([80] ++ tx p.author ++ uv t).length ≤ 1000021 := by have := uv_len10 (n := t) (by omega); rw [List.length_append]; omega
  refine GH.keep (fun _ s => Sat.sub (by repeat (first | exact SubR.nil | apply SubR.cons 0 rfl | apply SubR.cons 1 rfl | apply SubR.cons 2 rfl | apply SubR.cons 3 rfl | apply SubR.cons 4 rfl | apply SubR.cons 5 rfl | apply SubR.cons 6 rfl | apply SubR.cons 7 rfl | apply SubR.cons 8 rfl | apply SubR.cons 9 rfl | apply SubR.cons 10 rfl | apply SubR.cons 11 rfl | apply SubR.cons 12 rfl | apply SubR.cons 13 rfl | apply SubR.cons 14 rfl | apply SubR.cons 15 rfl)) s) ?_
  refine GH.step 7 rfl (by kernel_rfl) ?_
  refine GO.callA (fun hF' hle hH => ptext_ok (s := p.note) (by omega) (by omega)) (by first | exact Wt.none | exact Wt.some rfl rfl (by first | exact rfl | decide +kernel)) (by kernel_rfl) rfl rfl (by repeat (first | exact SubR.nil | apply SubR.cons 0 rfl | apply SubR.cons 1 rfl | apply SubR.cons 2 rfl | apply SubR.cons 3 rfl | apply SubR.cons 4 rfl | apply SubR.cons 5 rfl | apply SubR.cons 6 rfl | apply SubR.cons 7 rfl | apply SubR.cons 8 rfl | apply SubR.cons 9 rfl | apply SubR.cons 10 rfl | apply SubR.cons 11 rfl | apply SubR.cons 12 rfl | apply SubR.cons 13 rfl | apply SubR.cons 14 rfl | apply SubR.cons 15 rfl)) ?_
  rintro v Γ' ⟨q3, c3, rfl, rfl⟩
  have hl3 : ([80] ++ tx p.author ++ uv t ++ tx p.note).length ≤ 1000300 := by have := tx_len (s := p.note) (by omega); rw [List.length_append]; omega
  refine GH.keep (fun _ s => Sat.sub (by repeat (first | exact SubR.nil | apply SubR.cons 0 rfl | apply SubR.cons 1 rfl | apply SubR.cons 2 rfl | apply SubR.cons 3 rfl | apply SubR.cons 4 rfl | apply SubR.cons 5 rfl | apply SubR.cons 6 rfl | apply SubR.cons 7 rfl | apply SubR.cons 8 rfl | apply SubR.cons 9 rfl | apply SubR.cons 10 rfl | apply SubR.cons 11 rfl | apply SubR.cons 12 rfl | apply SubR.cons 13 rfl | apply SubR.cons 14 rfl | apply SubR.cons 15 rfl)) s) ?_
  ((first | refine GH.to 8 ?_ | refine GH.tos 8 ?_))
  refine GH.fin (by kernel_rfl) ?_
  (repeat (first | refine GK.ro ?_ | (refine GK.box ?_; intro bl) | (refine GK.mkMap ?_; intro bm) | (refine GK.build0 tb ?_; intro bs)))
  refine GL.cons ?_; refine GO.callA (fun hF' hle hH => pnum_ok (n := p.deps.length) (by omega) (by omega)) (by first | exact Wt.none | exact Wt.some rfl rfl (by first | exact rfl | decide +kernel)) (by kernel_rfl) rfl rfl (by repeat (first | exact SubR.nil | apply SubR.cons 0 rfl | apply SubR.cons 1 rfl | apply SubR.cons 2 rfl | apply SubR.cons 3 rfl | apply SubR.cons 4 rfl | apply SubR.cons 5 rfl | apply SubR.cons 6 rfl | apply SubR.cons 7 rfl | apply SubR.cons 8 rfl | apply SubR.cons 9 rfl | apply SubR.cons 10 rfl | apply SubR.cons 11 rfl | apply SubR.cons 12 rfl | apply SubR.cons 13 rfl | apply SubR.cons 14 rfl | apply SubR.cons 15 rfl)) ?_
  rintro v Γ' ⟨q4, c4, rfl, rfl⟩
  obtain ⟨base, hbase⟩ : ∃ base, [80] ++ tx p.author ++ uv t ++ tx p.note ++ uv p.deps.length = base := ⟨_, rfl⟩
  have hl4 : base.length ≤ 1000310 := by have := uv_len10 (n := p.deps.length) (by omega); rw [← hbase, List.length_append]; omega
  rw [hbase]
  (repeat (first | refine GK.ro ?_ | (refine GK.box ?_; intro bl) | (refine GK.mkMap ?_; intro bm) | (refine GK.build0 tb ?_; intro bs)))
  -- the dependencies
  refine G.cutB (fun (x : Option Addr × Nat) => [(1, .pointer (some ⟨bl, 0, none⟩)), (5, .slice x.1 (base ++ p.deps.flatten).length x.2)]) (fun x => [brow (.slice x.1 (base ++ p.deps.flatten).length x.2) (base ++ p.deps.flatten), blk bl 25 (0, 0) [str p.author, .int .i64 (t : Int), str p.note, .slice pd p.deps.length cd, .slice po p.ops.length co], poolOf H]) (fun _ => True) (fun x _ => ?_) ?_
  rotate_left
  · refine GK.weak (fr' := [(1, .pointer (some ⟨bl, 0, none⟩)), (36, .slice pd p.deps.length cd), (37, .int .i64 (p.deps.length : Int)), (5, .slice q4 base.length c4), (38, .int .i64 ((0 : Nat) : Int))]) (Γ' := [brow (.slice q4 base.length c4) base, blk bl 25 (0, 0) [str p.author, .int .i64 (t : Int), str p.note, .slice pd p.deps.length cd, .slice po p.ops.length co], poolOf H]) (by repeat (first | exact trivial | refine ⟨rfl, ?_⟩)) (fun _ s => Sat.sub (by repeat (first | exact SubR.nil | apply SubR.cons 0 rfl | apply SubR.cons 1 rfl | apply SubR.cons 2 rfl | apply SubR.cons 3 rfl | apply SubR.cons 4 rfl | apply SubR.cons 5 rfl | apply SubR.cons 6 rfl | apply SubR.cons 7 rfl | apply SubR.cons 8 rfl | apply SubR.cons 9 rfl | apply SubR.cons 10 rfl | apply SubR.cons 11 rfl | apply SubR.cons 12 rfl | apply SubR.cons 13 rfl | apply SubR.cons 14 rfl | apply SubR.cons 15 rfl)) s) (G.loopN (X := Nat × By × Option Addr × Nat) (fun (i, _, _, _) => p.deps.length - i) (fun (i, m, q, c) => [(1, .pointer (some ⟨bl, 0, none⟩)), (36, .slice pd p.deps.length cd), (37, .int .i64 (p.deps.length : Int)), (5, .slice q m.length c), (38, .int .i64 (i : Int))]) (fun (_, m, q, c) => [brow (.slice q m.length c) m, blk bl 25 (0, 0) [str p.author, .int .i64 (t : Int), str p.note, .slice pd p.deps.length cd, .slice po p.ops.length co], poolOf H])
      (fun (i, m, _, _) => i ≤ p.deps.length ∧ m = base ++ (p.deps.take i).flatten) (fun x hx n hn' => ?_) (0, base, q4, c4) ⟨Nat.zero_le _, by simp⟩)
    obtain ⟨i, m, q, c⟩ := x
    obtain ⟨hi, hm⟩ := hx
    dsimp only at hn'
    have hml : m.length ≤ 1002000 := by
      have := flat32 (l := p.deps.take i) fun h hh => ho.dep h (List.mem_of_mem_take hh)
      rw [hm, List.length_append, this]; simp; omega
    (repeat (first | refine GK.ro ?_ | (refine GK.box ?_; intro bl) | (refine GK.mkMap ?_; intro bm) | (refine GK.build0 tb ?_; intro bs)))
    (first | refine G.condP rfl (fun hb => ?_) (fun hb => ?_) | refine G.condN rfl (fun hb => ?_) (fun hb => ?_) | refine G.cond rfl (fun hb => ?_) (fun hb => ?_))
    · obtain ⟨y, hy⟩ : ∃ y, p.deps[i]? = some y := ⟨_, List.getElem?_eq_getElem (by omega)⟩
      have hyl := ho.dep y (List.mem_of_getElem? hy)
      obtain ⟨bb, o, cs, et, fz, rfl, hbb, hat⟩ := hrd (by omega)
      have hAt : At cs (o + (i : Int).toNat * 32) (u8s y) := at_trans hat (hs_at ho.dep hy)
      have hy32 : (u8s y).length = 32 := by rw [u8s_len, hyl]
      have hy1 : ∀ u ∈ u8s y, u.oneCell' = true := u8s_one y
      (repeat (first | refine GK.ro ?_ | (refine GK.box ?_; intro bl) | (refine GK.mkMap ?_; intro bm) | (refine GK.build0 tb ?_; intro bs) | (refine GL.cons ?_; refine GO.alloc (by first | exact Wt.none | exact Wt.some rfl rfl (by first | exact rfl | decide +kernel)) (by exact rfl) ?_; intro ba) | (refine GL.cons ?_; refine Gt.storeAny tb 0 (by first | exact Wt.none | exact Wt.some rfl rfl (by first | exact rfl | decide +kernel)) (by exact rfl) (by exact rfl) (by exact rfl) (by assumption) (by assumption) (by exact rfl) (by first | exact rfl | assumption) ?_) | (refine GL.cons ?_; refine Gt.storeAny tb 1 (by first | exact Wt.none | exact Wt.some rfl rfl (by first | exact rfl | decide +kernel)) (by exact rfl) (by exact rfl) (by exact rfl) (by assumption) (by assumption) (by exact rfl) (by first | exact rfl | assumption) ?_) | (refine GL.cons ?_; refine Gt.storeAny tb 2 (by first | exact Wt.none | exact Wt.some rfl rfl (by first | exact rfl | decide +kernel)) (by exact rfl) (by exact rfl) (by exact rfl) (by assumption) (by assumption) (by exact rfl) (by first | exact rfl | assumption) ?_) | (refine GL.cons ?_; refine Gt.storeAny tb 3 (by first | exact Wt.none | exact Wt.some rfl rfl (by first | exact rfl | decide +kernel)) (by exact rfl) (by exact rfl) (by exact rfl) (by assumption) (by assumption) (by exact rfl) (by first | exact rfl | assumption) ?_) | (refine GL.cons ?_; refine Gt.storeAny tb 4 (by first | exact Wt.none | exact Wt.some rfl rfl (by first | exact rfl | decide +kernel)) (by exact rfl) (by exact rfl) (by exact rfl) (by assumption) (by assumption) (by exact rfl) (by first | exact rfl | assumption) ?_) | (refine GL.cons ?_; refine Gt.storeAny tb 5 (by first | exact Wt.none | exact Wt.some rfl rfl (by first | exact rfl | decide +kernel)) (by exact rfl) (by exact rfl) (by exact rfl) (by assumption) (by assumption) (by exact rfl) (by first | exact rfl | assumption) ?_) | (refine GL.cons ?_; refine Gt.storeAny tb 6 (by first | exact Wt.none | exact Wt.some rfl rfl (by first | exact rfl | decide +kernel)) (by exact rfl) (by exact rfl) (by exact rfl) (by assumption) (by assumption) (by exact rfl) (by first | exact rfl | assumption) ?_) | (refine GL.cons ?_; refine Gt.storeAny tb 7 (by first | exact Wt.none | exact Wt.some rfl rfl (by first | exact rfl | decide +kernel)) (by exact rfl) (by exact rfl) (by exact rfl) (by assumption) (by assumption) (by exact rfl) (by first | exact rfl | assumption) ?_) | (refine GL.cons ?_; refine Gt.storeAny tb 8 (by first | exact Wt.none | exact Wt.some rfl rfl (by first | exact rfl | decide +kernel)) (by exact rfl) (by exact rfl) (by exact rfl) (by assumption) (by assumption) (by exact rfl) (by first | exact rfl | assumption) ?_) | (refine GL.cons ?_; refine Gt.storeAny tb 9 (by first | exact Wt.none | exact Wt.some rfl rfl (by first | exact rfl | decide +kernel)) (by exact rfl) (by exact rfl) (by exact rfl) (by assumption) (by assumption) (by exact rfl) (by first | exact rfl | assumption) ?_)))
      refine GL.cons ?_
      refine Gt.append tb 1 (m := 32) (by first | exact Wt.none | exact Wt.some rfl rfl (by first | exact rfl | decide +kernel)) rfl (.inl ⟨_, rfl⟩) rfl rfl rfl rfl rfl (Src.slice (Rd.blk 0 rfl) (At.all _) (by rw [hy32]) hy1) (by omega) (by omega) ?_
      intro p2 c2
      (repeat (first | refine GK.ro ?_ | (refine GK.box ?_; intro bl) | (refine GK.mkMap ?_; intro bm) | (refine GK.build0 tb ?_; intro bs)))
      refine GQ.againN (i + 1, m ++ y, p2, c2) ?_ ?_ ?_ ?_
      · exact ⟨by omega, by rw [hm, flatten_next hy, List.append_assoc]⟩
      · dsimp only; omega
      · show Sub [(1, _), (36, _), (37, _), (5, .slice p2 (m ++ y).length c2), (38, _)] _
        rw [List.length_append, hyl]; exact (by repeat (first | exact trivial | refine ⟨rfl, ?_⟩))
      · intro w s
        show Sat [brow (.slice p2 (m ++ y).length c2) (m ++ y), _, _] _ _
        rw [← brow_app2 (m := 32) hyl]; exact Sat.sub (by repeat (first | exact SubR.nil | apply SubR.cons 0 rfl | apply SubR.cons 1 rfl | apply SubR.cons 2 rfl | apply SubR.cons 3 rfl | apply SubR.cons 4 rfl | apply SubR.cons 5 rfl | apply SubR.cons 6 rfl | apply SubR.cons 7 rfl | apply SubR.cons 8 rfl | apply SubR.cons 9 rfl | apply SubR.cons 10 rfl | apply SubR.cons 11 rfl | apply SubR.cons 12 rfl | apply SubR.cons 13 rfl | apply SubR.cons 14 rfl | apply SubR.cons 15 rfl)) s
    · have hall : m = base ++ p.deps.flatten := by rw [hm, List.take_of_length_le (by omega)]
      subst hall
      (repeat (first | refine GK.ro ?_ | (refine GK.box ?_; intro bl) | (refine GK.mkMap ?_; intro bm) | (refine GK.build0 tb ?_; intro bs)))
      exact GQ.reach (q, c) trivial (by repeat (first | exact trivial | refine ⟨rfl, ?_⟩)) (fun _ s => Sat.sub (by repeat (first | exact SubR.nil | apply SubR.cons 0 rfl | apply SubR.cons 1 rfl | apply SubR.cons 2 rfl | apply SubR.cons 3 rfl | apply SubR.cons 4 rfl | apply SubR.cons 5 rfl | apply SubR.cons 6 rfl | apply SubR.cons 7 rfl | apply SubR.cons 8 rfl | apply SubR.cons 9 rfl | apply SubR.cons 10 rfl | apply SubR.cons 11 rfl | apply SubR.cons 12 rfl | apply SubR.cons 13 rfl | apply SubR.cons 14 rfl | apply SubR.cons 15 rfl)) s)
  obtain ⟨q5, c5⟩ := x
  obtain ⟨b2, hb2⟩ : ∃ b2, base ++ p.deps.flatten = b2 := ⟨_, rfl⟩
  have hl5 : b2.length ≤ 1001000 := by
    have := flat32 (l := p.deps) ho.dep
    rw [← hb2, List.length_append, this]; omega
  refine GK.weak (fr' := [(1, .pointer (some ⟨bl, 0, none⟩)), (5, .slice q5 b2.length c5)]) (Γ' := [brow (.slice q5 b2.length c5) b2, blk bl 25 (0, 0) [str p.author, .int .i64 (t : Int), str p.note, .slice pd p.deps.length cd, .slice po p.ops.length co], poolOf H]) (by rw [← hb2]; exact (by repeat (first | exact trivial | refine ⟨rfl, ?_⟩))) (fun w s => by rw [← hb2]; exact s) ?_
  (repeat (first | refine GK.ro ?_ | (refine GK.box ?_; intro bl) | (refine GK.mkMap ?_; intro bm) | (refine GK.build0 tb ?_; intro bs)))
  refine GL.cons ?_; refine GO.callA (fun hF' hle hH => pnum_ok (n := p.ops.length) (by omega) (by omega)) (by first | exact Wt.none | exact Wt.some rfl rfl (by first | exact rfl | decide +kernel)) (by kernel_rfl) rfl rfl (by repeat (first | exact SubR.nil | apply SubR.cons 0 rfl | apply SubR.cons 1 rfl | apply SubR.cons 2 rfl | apply SubR.cons 3 rfl | apply SubR.cons 4 rfl | apply SubR.cons 5 rfl | apply SubR.cons 6 rfl | apply SubR.cons 7 rfl | apply SubR.cons 8 rfl | apply SubR.cons 9 rfl | apply SubR.cons 10 rfl | apply SubR.cons 11 rfl | apply SubR.cons 12 rfl | apply SubR.cons 13 rfl | apply SubR.cons 14 rfl | apply SubR.cons 15 rfl)) ?_
  rintro v Γ' ⟨q6, c6, rfl, rfl⟩
  obtain ⟨b3, hb3⟩ : ∃ b3, b2 ++ uv p.ops.length = b3 := ⟨_, rfl⟩
  have hl6 : b3.length ≤ 1001010 := by have := uv_len10 (n := p.ops.length) (by omega); rw [← hb3, List.length_append]; omega
  rw [hb3]
  (repeat (first | refine GK.ro ?_ | (refine GK.box ?_; intro bl) | (refine GK.mkMap ?_; intro bm) | (refine GK.build0 tb ?_; intro bs)))
  have hfin : bytesM p = b3 ++ p.ops.flatMap (opB p) := by
    unfold bytesM
    rw [← hb3, ← hb2, ← hbase, ht]; simp
  refine GK.weak (fr' := [(1, .pointer (some ⟨bl, 0, none⟩)), (53, .slice po p.ops.length co), (54, .int .i64 (p.ops.length : Int)), (5, .slice q6 b3.length c6), (55, .int .i64 ((0 : Nat) : Int))]) (Γ' := [brow (.slice q6 b3.length c6) b3, blk bl 25 (0, 0) [str p.author, .int .i64 (t : Int), str p.note, .slice pd p.deps.length cd, .slice po p.ops.length co], poolOf H]) (by repeat (first | exact trivial | refine ⟨rfl, ?_⟩)) (fun _ s => Sat.sub (by repeat (first | exact SubR.nil | apply SubR.cons 0 rfl | apply SubR.cons 1 rfl | apply SubR.cons 2 rfl | apply SubR.cons 3 rfl | apply SubR.cons 4 rfl | apply SubR.cons 5 rfl | apply SubR.cons 6 rfl | apply SubR.cons 7 rfl | apply SubR.cons 8 rfl | apply SubR.cons 9 rfl | apply SubR.cons 10 rfl | apply SubR.cons 11 rfl | apply SubR.cons 12 rfl | apply SubR.cons 13 rfl | apply SubR.cons 14 rfl | apply SubR.cons 15 rfl)) s) (G.loopN (X := Nat × By × Option Addr × Nat) (fun (i, _, _, _) => p.ops.length - i) (fun (i, m, q, c) => [(1, .pointer (some ⟨bl, 0, none⟩)), (53, .slice po p.ops.length co), (54, .int .i64 (p.ops.length : Int)), (5, .slice q m.length c), (55, .int .i64 (i : Int))]) (fun (_, m, q, c) => [brow (.slice q m.length c) m, blk bl 25 (0, 0) [str p.author, .int .i64 (t : Int), str p.note, .slice pd p.deps.length cd, .slice po p.ops.length co], poolOf H])
    (fun (i, m, _, _) => i ≤ p.ops.length ∧ m = b3 ++ (p.ops.take i).flatMap (opB p)) (fun x hx n hn' => ?_) (0, b3, q6, c6) ⟨Nat.zero_le _, by simp⟩)
  obtain ⟨i, m, q, c⟩ := x
  obtain ⟨hi, hm⟩ := hx
  dsimp only at hn'
  have hml : m.length ≤ 1300000 := by
    have h1 := flat_len (f := opB p) (B := 14000) (l := p.ops.take i) fun o hh => opB_len (hg.op o (List.mem_of_mem_take hh)) hdl
    have h2 : (p.ops.take i).length ≤ 16 := by simp; omega
    rw [hm, List.length_append]; omega
  (repeat (first | refine GK.ro ?_ | (refine GK.box ?_; intro bl) | (refine GK.mkMap ?_; intro bm) | (refine GK.build0 tb ?_; intro bs)))
  (first | refine G.condP rfl (fun hb => ?_) (fun hb => ?_) | refine G.condN rfl (fun hb => ?_) (fun hb => ?_) | refine G.cond rfl (fun hb => ?_) (fun hb => ?_))
  rotate_left
  · have hall : m = bytesM p := by rw [hm, List.take_of_length_le (by omega), hfin]
    subst hall
    (repeat (first | refine GK.ro ?_ | (refine GK.box ?_; intro bl) | (refine GK.mkMap ?_; intro bm) | (refine GK.build0 tb ?_; intro bs)))
    exact GQ.fin2 rfl (Rv.tmp rfl) (Rv.tmp rfl) (fun _ s => Sat.sub (by repeat (first | exact SubR.nil | apply SubR.cons 0 rfl | apply SubR.cons 1 rfl | apply SubR.cons 2 rfl | apply SubR.cons 3 rfl | apply SubR.cons 4 rfl | apply SubR.cons 5 rfl | apply SubR.cons 6 rfl | apply SubR.cons 7 rfl | apply SubR.cons 8 rfl | apply SubR.cons 9 rfl | apply SubR.cons 10 rfl | apply SubR.cons 11 rfl | apply SubR.cons 12 rfl | apply SubR.cons 13 rfl | apply SubR.cons 14 rfl | apply SubR.cons 15 rfl)) s) (.inl ⟨hck, q, c, rfl, rfl⟩)
  obtain ⟨x, hx⟩ : ∃ x, xs[i]? = some x := ⟨_, List.getElem?_eq_getElem (by have := congrArg List.length hxs; simp at this; omega)⟩
  have hxm := List.mem_of_getElem? hx
  have hxo : p.ops[i]? = some x.1 := by rw [← hxs, List.getElem?_map, hx]; rfl
  have hxok := ho.op _ (List.mem_of_getElem? hxo)
  have hxg := hg.op _ (List.mem_of_getElem? hxo)
  obtain ⟨bb, o, cs, et, fz, rfl, hbb, hat⟩ := hro (by omega)
  have hAt : At cs (o + (i : Int).toNat * 69) (opC x) := at_trans hat (ops_at hx69 hx)
  have z69 := hx69 x hxm
  obtain ⟨lp, lc, hlv, hlc, hll, hlr⟩ := rs.out (hxl x hxm)
  have one69 := opC_one (x := x) (by rw [hlv]; rfl)
  have k1 : (opC x)[0 + 68]? = some (.slice lp x.1.lines.length lc) := by rw [← hlv]; exact opC_lines hxok
  have k2 : At (opC x) (0 + 2) (vxC x.1.up) := opC_up x
  have k3 : At (opC x) (0 + 35) (vxC x.1.down) := opC_down hxok
  have z1 := vxC_len hxok.up
  have z2 := vxC_len hxok.down
  obtain ⟨kn, hkn, hkv⟩ : ∃ kn : Nat, x.1.kind = kn ∧ (kn = 1 ∨ kn = 2) := by rcases hxg.kind with h | h; exact ⟨1, h, .inl rfl⟩; exact ⟨2, h, .inr rfl⟩
  have k4 : (opC x)[0 + 0]? = some (.int .i64 (kn : Int)) := by rw [← hkn]; unfold opC; rfl
  have k5 : (opC x)[0 + 1]? = some (str x.1.path) := by unfold opC; rfl
  have hpl := hxg.path
  have hvx : ∀ {v : Vx}, v.Ok → (v = topV ∨ v = botV ∨ ownM p v = true) → ∀ {q : Option Addr} {c : Nat} {l : By}, l.length ≤ 10000000 → ∀ hF', FnOk Go.Proofs.Tryd.prog 33 [.slice q l.length c, .agg ⟨[str p.author, .int .i64 (t : Int), str p.note, .slice pd p.deps.length cd, .slice (some ⟨bb, o, none⟩) p.ops.length co]⟩, .agg ⟨vxC v⟩] [brow (.slice q l.length c) l, poolOf H] hF' (fun r Γ => ∃ q c, r = .slice q (l ++ vxB p v).length c ∧ Γ = [brow r (l ++ vxB p v), poolOf H]) := fun hv hgv q c l hl hF' => by
    rw [← hap]; exact vertex_ok hp' ho hb0 hv hgv hl
  (repeat (first | refine GK.ro ?_ | (refine GK.box ?_; intro bl) | (refine GK.mkMap ?_; intro bm) | (refine GK.build0 tb ?_; intro bs) | (refine GL.cons ?_; refine GO.alloc (by first | exact Wt.none | exact Wt.some rfl rfl (by first | exact rfl | decide +kernel)) (by exact rfl) ?_; intro ba) | (refine GL.cons ?_; refine Gt.storeAny tb 0 (by first | exact Wt.none | exact Wt.some rfl rfl (by first | exact rfl | decide +kernel)) (by exact rfl) (by exact rfl) (by exact rfl) (by assumption) (by assumption) (by exact rfl) (by first | exact rfl | assumption) ?_) | (refine GL.cons ?_; refine Gt.storeAny tb 1 (by first | exact Wt.none | exact Wt.some rfl rfl (by first | exact rfl | decide +kernel)) (by exact rfl) (by exact rfl) (by exact rfl) (by assumption) (by assumption) (by exact rfl) (by first | exact rfl | assumption) ?_) | (refine GL.cons ?_; refine Gt.storeAny tb 2 (by first | exact Wt.none | exact Wt.some rfl rfl (by first | exact rfl | decide +kernel)) (by exact rfl) (by exact rfl) (by exact rfl) (by assumption) (by assumption) (by exact rfl) (by first | exact rfl | assumption) ?_) | (refine GL.cons ?_; refine Gt.storeAny tb 3 (by first | exact Wt.none | exact Wt.some rfl rfl (by first | exact rfl | decide +kernel)) (by exact rfl) (by exact rfl) (by exact rfl) (by assumption) (by assumption) (by exact rfl) (by first | exact rfl | assumption) ?_) | (refine GL.cons ?_; refine Gt.storeAny tb 4 (by first | exact Wt.none | exact Wt.some rfl rfl (by first | exact rfl | decide +kernel)) (by exact rfl) (by exact rfl) (by exact rfl) (by assumption) (by assumption) (by exact rfl) (by first | exact rfl | assumption) ?_) | (refine GL.cons ?_; refine Gt.storeAny tb 5 (by first | exact Wt.none | exact Wt.some rfl rfl (by first | exact rfl | decide +kernel)) (by exact rfl) (by exact rfl) (by exact rfl) (by assumption) (by assumption) (by exact rfl) (by first | exact rfl | assumption) ?_) | (refine GL.cons ?_; refine Gt.storeAny tb 6 (by first | exact Wt.none | exact Wt.some rfl rfl (by first | exact rfl | decide +kernel)) (by exact rfl) (by exact rfl) (by exact rfl) (by assumption) (by assumption) (by exact rfl) (by first | exact rfl | assumption) ?_) | (refine GL.cons ?_; refine Gt.storeAny tb 7 (by first | exact Wt.none | exact Wt.some rfl rfl (by first | exact rfl | decide +kernel)) (by exact rfl) (by exact rfl) (by exact rfl) (by assumption) (by assumption) (by exact rfl) (by first | exact rfl | assumption) ?_) | (refine GL.cons ?_; refine Gt.storeAny tb 8 (by first | exact Wt.none | exact Wt.some rfl rfl (by first | exact rfl | decide +kernel)) (by exact rfl) (by exact rfl) (by exact rfl) (by assumption) (by assumption) (by exact rfl) (by first | exact rfl | assumption) ?_) | (refine GL.cons ?_; refine Gt.storeAny tb 9 (by first | exact Wt.none | exact Wt.some rfl rfl (by first | exact rfl | decide +kernel)) (by exact rfl) (by exact rfl) (by exact rfl) (by assumption) (by assumption) (by exact rfl) (by first | exact rfl | assumption) ?_)))
  refine GK.heap (Γ' := [brow (.slice q m.length c) m, blk ba 59 (0, 0) (opC x), blk bl 25 (0, 0) [str p.author, .int .i64 (t : Int), str p.note, .slice pd p.deps.length cd, .slice (some ⟨bb, o, none⟩) p.ops.length co], poolOf H]) (fun _ s => Sat.sub (by repeat (first | exact SubR.nil | apply SubR.cons 0 rfl | apply SubR.cons 1 rfl | apply SubR.cons 2 rfl | apply SubR.cons 3 rfl | apply SubR.cons 4 rfl | apply SubR.cons 5 rfl | apply SubR.cons 6 rfl | apply SubR.cons 7 rfl | apply SubR.cons 8 rfl | apply SubR.cons 9 rfl | apply SubR.cons 10 rfl | apply SubR.cons 11 rfl | apply SubR.cons 12 rfl | apply SubR.cons 13 rfl | apply SubR.cons 14 rfl | apply SubR.cons 15 rfl)) s) ?_
  refine G.draw [] [blk ba 59 (0, 0) (opC x), blk bl 25 (0, 0) [str p.author, .int .i64 (t : Int), str p.note, .slice pd p.deps.length cd, .slice (some ⟨bb, o, none⟩) p.ops.length co]] (by kernel_rfl) ?_
  ((first | refine GH.to 0 ?_ | refine GH.tos 0 ?_); (first | refine GH.to 1 ?_ | refine GH.tos 1 ?_); (first | refine GH.to 2 ?_ | refine GH.tos 2 ?_); (first | refine GH.to 3 ?_ | refine GH.tos 3 ?_); (first | refine GH.to 6 ?_ | refine GH.tos 6 ?_); (first | refine GH.to 7 ?_ | refine GH.tos 7 ?_); (first | refine GH.to 9 ?_ | refine GH.tos 9 ?_); (first | refine GH.to 10 ?_ | refine GH.tos 10 ?_); (first | refine GH.to 11 ?_ | refine GH.tos 11 ?_))
  refine GH.step 4 rfl (by kernel_rfl) ?_
  rw [u8v (show kn < 256 by omega)]
  refine Gt.buildLit tb (sz := 0) (n := 0) (by first | exact Wt.none | exact Wt.some rfl rfl (by first | exact rfl | decide +kernel)) rfl rfl (by kernel_rfl) rfl rfl rfl rfl rfl rfl ?_
  intro bx2
  refine GH.keep (fun _ s => Sat.sub (by repeat (first | exact SubR.nil | apply SubR.cons 0 rfl | apply SubR.cons 1 rfl | apply SubR.cons 2 rfl | apply SubR.cons 3 rfl | apply SubR.cons 4 rfl | apply SubR.cons 5 rfl | apply SubR.cons 6 rfl | apply SubR.cons 7 rfl | apply SubR.cons 8 rfl | apply SubR.cons 9 rfl | apply SubR.cons 10 rfl | apply SubR.cons 11 rfl | apply SubR.cons 12 rfl | apply SubR.cons 13 rfl | apply SubR.cons 14 rfl | apply SubR.cons 15 rfl)) s) ?_
  refine GH.step 5 rfl (by kernel_rfl) ?_
  (first | refine Gt.append tb 1 (by first | exact Wt.none | exact Wt.some rfl rfl (by first | exact rfl | decide +kernel)) rfl (.inl ⟨_, rfl⟩) rfl rfl rfl rfl rfl (Src.slice (m := 1) (Rd.blk 0 rfl) (At.all _) rfl (one_of_all rfl)) (by omega) (by omega) ?_ | refine Gt.append tb 2 (by first | exact Wt.none | exact Wt.some rfl rfl (by first | exact rfl | decide +kernel)) rfl (.inl ⟨_, rfl⟩) rfl rfl rfl rfl rfl (Src.slice (m := 1) (Rd.blk 0 rfl) (At.all _) rfl (one_of_all rfl)) (by omega) (by omega) ?_ | refine Gt.append tb 3 (by first | exact Wt.none | exact Wt.some rfl rfl (by first | exact rfl | decide +kernel)) rfl (.inl ⟨_, rfl⟩) rfl rfl rfl rfl rfl (Src.slice (m := 1) (Rd.blk 0 rfl) (At.all _) rfl (one_of_all rfl)) (by omega) (by omega) ?_ | refine Gt.append tb 4 (by first | exact Wt.none | exact Wt.some rfl rfl (by first | exact rfl | decide +kernel)) rfl (.inl ⟨_, rfl⟩) rfl rfl rfl rfl rfl (Src.slice (m := 1) (Rd.blk 0 rfl) (At.all _) rfl (one_of_all rfl)) (by omega) (by omega) ?_ | refine Gt.append tb 5 (by first | exact Wt.none | exact Wt.some rfl rfl (by first | exact rfl | decide +kernel)) rfl (.inl ⟨_, rfl⟩) rfl rfl rfl rfl rfl (Src.slice (m := 1) (Rd.blk 0 rfl) (At.all _) rfl (one_of_all rfl)) (by omega) (by omega) ?_ | refine Gt.append tb 6 (by first | exact Wt.none | exact Wt.some rfl rfl (by first | exact rfl | decide +kernel)) rfl (.inl ⟨_, rfl⟩) rfl rfl rfl rfl rfl (Src.slice (m := 1) (Rd.blk 0 rfl) (At.all _) rfl (one_of_all rfl)) (by omega) (by omega) ?_ | refine Gt.append tb 7 (by first | exact Wt.none | exact Wt.some rfl rfl (by first | exact rfl | decide +kernel)) rfl (.inl ⟨_, rfl⟩) rfl rfl rfl rfl rfl (Src.slice (m := 1) (Rd.blk 0 rfl) (At.all _) rfl (one_of_all rfl)) (by omega) (by omega) ?_ | refine Gt.append tb 8 (by first | exact Wt.none | exact Wt.some rfl rfl (by first | exact rfl | decide +kernel)) rfl (.inl ⟨_, rfl⟩) rfl rfl rfl rfl rfl (Src.slice (m := 1) (Rd.blk 0 rfl) (At.all _) rfl (one_of_all rfl)) (by omega) (by omega) ?_ | refine Gt.append tb 9 (by first | exact Wt.none | exact Wt.some rfl rfl (by first | exact rfl | decide +kernel)) rfl (.inl ⟨_, rfl⟩) rfl rfl rfl rfl rfl (Src.slice (m := 1) (Rd.blk 0 rfl) (At.all _) rfl (one_of_all rfl)) (by omega) (by omega) ?_ | refine Gt.append tb 10 (by first | exact Wt.none | exact Wt.some rfl rfl (by first | exact rfl | decide +kernel)) rfl (.inl ⟨_, rfl⟩) rfl rfl rfl rfl rfl (Src.slice (m := 1) (Rd.blk 0 rfl) (At.all _) rfl (one_of_all rfl)) (by omega) (by omega) ?_ | refine Gt.append tb 11 (by first | exact Wt.none | exact Wt.some rfl rfl (by first | exact rfl | decide +kernel)) rfl (.inl ⟨_, rfl⟩) rfl rfl rfl rfl rfl (Src.slice (m := 1) (Rd.blk 0 rfl) (At.all _) rfl (one_of_all rfl)) (by omega) (by omega) ?_ | refine Gt.append tb 12 (by first | exact Wt.none | exact Wt.some rfl rfl (by first | exact rfl | decide +kernel)) rfl (.inl ⟨_, rfl⟩) rfl rfl rfl rfl rfl (Src.slice (m := 1) (Rd.blk 0 rfl) (At.all _) rfl (one_of_all rfl)) (by omega) (by omega) ?_)
  intro p7 c7
  refine GH.keep (fun _ s => Sat.sub (by repeat (first | exact SubR.nil | apply SubR.cons 0 rfl | apply SubR.cons 1 rfl | apply SubR.cons 2 rfl | apply SubR.cons 3 rfl | apply SubR.cons 4 rfl | apply SubR.cons 5 rfl | apply SubR.cons 6 rfl | apply SubR.cons 7 rfl | apply SubR.cons 8 rfl | apply SubR.cons 9 rfl | apply SubR.cons 10 rfl | apply SubR.cons 11 rfl | apply SubR.cons 12 rfl | apply SubR.cons 13 rfl | apply SubR.cons 14 rfl | apply SubR.cons 15 rfl)) s) ?_
  rw [show m.length + 1 = (m ++ [UInt8.ofNat kn]).length by simp]
  refine GH.heap (Γ' := [brow (.slice p7 (m ++ [UInt8.ofNat kn]).length c7) (m ++ [UInt8.ofNat kn]), blk ba 59 (0, 0) (opC x), blk bl 25 (0, 0) [str p.author, .int .i64 (t : Int), str p.note, .slice pd p.deps.length cd, .slice (some ⟨bb, o, none⟩) p.ops.length co], poolOf H]) (fun w s => by rw [← brow_grow2]; exact Sat.sub (by repeat (first | exact SubR.nil | apply SubR.cons 0 rfl | apply SubR.cons 1 rfl | apply SubR.cons 2 rfl | apply SubR.cons 3 rfl | apply SubR.cons 4 rfl | apply SubR.cons 5 rfl | apply SubR.cons 6 rfl | apply SubR.cons 7 rfl | apply SubR.cons 8 rfl | apply SubR.cons 9 rfl | apply SubR.cons 10 rfl | apply SubR.cons 11 rfl | apply SubR.cons 12 rfl | apply SubR.cons 13 rfl | apply SubR.cons 14 rfl | apply SubR.cons 15 rfl)) s) ?_
  have hm1 : (m ++ [UInt8.ofNat kn]).length ≤ 1300001 := by simp; omega
  refine GH.step 8 rfl (by kernel_rfl) ?_
  refine GO.callA (fun hF' hle hH => ptext_ok (s := x.1.path) (by omega) (by omega)) (by first | exact Wt.none | exact Wt.some rfl rfl (by first | exact rfl | decide +kernel)) (by kernel_rfl) rfl rfl (by repeat (first | exact SubR.nil | apply SubR.cons 0 rfl | apply SubR.cons 1 rfl | apply SubR.cons 2 rfl | apply SubR.cons 3 rfl | apply SubR.cons 4 rfl | apply SubR.cons 5 rfl | apply SubR.cons 6 rfl | apply SubR.cons 7 rfl | apply SubR.cons 8 rfl | apply SubR.cons 9 rfl | apply SubR.cons 10 rfl | apply SubR.cons 11 rfl | apply SubR.cons 12 rfl | apply SubR.cons 13 rfl | apply SubR.cons 14 rfl | apply SubR.cons 15 rfl)) ?_
  rintro v Γ' ⟨q8, c8, rfl, rfl⟩
  have hm2 : (m ++ [UInt8.ofNat kn] ++ tx x.1.path).length ≤ 1300100 := by have := tx_len (s := x.1.path) (by omega); rw [List.length_append]; omega
  refine GH.keep (fun _ s => Sat.sub (by repeat (first | exact SubR.nil | apply SubR.cons 0 rfl | apply SubR.cons 1 rfl | apply SubR.cons 2 rfl | apply SubR.cons 3 rfl | apply SubR.cons 4 rfl | apply SubR.cons 5 rfl | apply SubR.cons 6 rfl | apply SubR.cons 7 rfl | apply SubR.cons 8 rfl | apply SubR.cons 9 rfl | apply SubR.cons 10 rfl | apply SubR.cons 11 rfl | apply SubR.cons 12 rfl | apply SubR.cons 13 rfl | apply SubR.cons 14 rfl | apply SubR.cons 15 rfl)) s) ?_
  refine GH.step 12 rfl (by kernel_rfl) ?_
  refine GO.callA (fun hF' hle hH => hvx hxok.up (by rcases hxg.up with h | h <;> simp [h]) (by omega) hF') (by first | exact Wt.none | exact Wt.some rfl rfl (by first | exact rfl | decide +kernel)) (by kernel_rfl) rfl rfl (by repeat (first | exact SubR.nil | apply SubR.cons 0 rfl | apply SubR.cons 1 rfl | apply SubR.cons 2 rfl | apply SubR.cons 3 rfl | apply SubR.cons 4 rfl | apply SubR.cons 5 rfl | apply SubR.cons 6 rfl | apply SubR.cons 7 rfl | apply SubR.cons 8 rfl | apply SubR.cons 9 rfl | apply SubR.cons 10 rfl | apply SubR.cons 11 rfl | apply SubR.cons 12 rfl | apply SubR.cons 13 rfl | apply SubR.cons 14 rfl | apply SubR.cons 15 rfl)) ?_
  rintro v Γ' ⟨q9, c9, rfl, rfl⟩
  have hm3 : (m ++ [UInt8.ofNat kn] ++ tx x.1.path ++ vxB p x.1.up).length ≤ 1300200 := by have := vxB_len (p := p) (v := x.1.up) (by rcases hxg.up with h | h <;> simp [h]) hdl; rw [List.length_append]; omega
  refine GH.keep (fun _ s => Sat.sub (by repeat (first | exact SubR.nil | apply SubR.cons 0 rfl | apply SubR.cons 1 rfl | apply SubR.cons 2 rfl | apply SubR.cons 3 rfl | apply SubR.cons 4 rfl | apply SubR.cons 5 rfl | apply SubR.cons 6 rfl | apply SubR.cons 7 rfl | apply SubR.cons 8 rfl | apply SubR.cons 9 rfl | apply SubR.cons 10 rfl | apply SubR.cons 11 rfl | apply SubR.cons 12 rfl | apply SubR.cons 13 rfl | apply SubR.cons 14 rfl | apply SubR.cons 15 rfl)) s) ?_
  ((first | refine GH.to 13 ?_ | refine GH.tos 13 ?_))
  refine GH.fin (by kernel_rfl) ?_
  have k4' : (opC x)[0]? = some (.int .i64 (kn : Int)) := k4
  (repeat (first | refine GK.ro ?_ | (refine GK.box ?_; intro bl) | (refine GK.mkMap ?_; intro bm) | (refine GK.build0 tb ?_; intro bs)))
  (first | refine G.condP rfl (fun hb => ?_) (fun hb => ?_) | refine G.condN rfl (fun hb => ?_) (fun hb => ?_) | refine G.cond rfl (fun hb => ?_) (fun hb => ?_))
  · have hop : m ++ opB p x.1 = m ++ [UInt8.ofNat kn] ++ tx x.1.path ++ vxB p x.1.up := by
      unfold opB; rw [hkn, if_pos hb]; simp
    (repeat (first | refine GK.ro ?_ | (refine GK.box ?_; intro bl) | (refine GK.mkMap ?_; intro bm) | (refine GK.build0 tb ?_; intro bs)))
    refine GQ.againN (i + 1, m ++ opB p x.1, q9, c9) ?_ ?_ ?_ ?_
    · exact ⟨by omega, by rw [hm, flatMap_next hxo, List.append_assoc]⟩
    · dsimp only; omega
    · show Sub [(1, _), (53, _), (54, _), (5, .slice q9 (m ++ opB p x.1).length c9), (55, _)] _
      rw [hop]; exact (by repeat (first | exact trivial | refine ⟨rfl, ?_⟩))
    · intro w s
      show Sat [brow (.slice q9 (m ++ opB p x.1).length c9) (m ++ opB p x.1), _, _] _ _
      rw [hop]; exact Sat.sub (by repeat (first | exact SubR.nil | apply SubR.cons 0 rfl | apply SubR.cons 1 rfl | apply SubR.cons 2 rfl | apply SubR.cons 3 rfl | apply SubR.cons 4 rfl | apply SubR.cons 5 rfl | apply SubR.cons 6 rfl | apply SubR.cons 7 rfl | apply SubR.cons 8 rfl | apply SubR.cons 9 rfl | apply SubR.cons 10 rfl | apply SubR.cons 11 rfl | apply SubR.cons 12 rfl | apply SubR.cons 13 rfl | apply SubR.cons 14 rfl | apply SubR.cons 15 rfl)) s
  have hk1 : x.1.kind = 1 := by rcases hkv with h | h <;> omega
  have hxl2 := hxg.lines
  obtain ⟨m3, hm30⟩ : ∃ m3, m ++ [UInt8.ofNat kn] ++ tx x.1.path ++ vxB p x.1.up = m3 := ⟨_, rfl⟩
  rw [hm30] at hm3 ⊢
  (repeat (first | refine GK.ro ?_ | (refine GK.box ?_; intro bl) | (refine GK.mkMap ?_; intro bm) | (refine GK.build0 tb ?_; intro bs)))
  refine GK.heap (Γ' := [brow (.slice q9 m3.length c9) m3, blk ba 59 (0, 0) (opC x), blk bl 25 (0, 0) [str p.author, .int .i64 (t : Int), str p.note, .slice pd p.deps.length cd, .slice (some ⟨bb, o, none⟩) p.ops.length co], poolOf H]) (fun _ s => Sat.sub (by repeat (first | exact SubR.nil | apply SubR.cons 0 rfl | apply SubR.cons 1 rfl | apply SubR.cons 2 rfl | apply SubR.cons 3 rfl | apply SubR.cons 4 rfl | apply SubR.cons 5 rfl | apply SubR.cons 6 rfl | apply SubR.cons 7 rfl | apply SubR.cons 8 rfl | apply SubR.cons 9 rfl | apply SubR.cons 10 rfl | apply SubR.cons 11 rfl | apply SubR.cons 12 rfl | apply SubR.cons 13 rfl | apply SubR.cons 14 rfl | apply SubR.cons 15 rfl)) s) ?_
  refine G.draw [] [blk ba 59 (0, 0) (opC x), blk bl 25 (0, 0) [str p.author, .int .i64 (t : Int), str p.note, .slice pd p.deps.length cd, .slice (some ⟨bb, o, none⟩) p.ops.length co]] (by kernel_rfl) ?_
  ((first | refine GH.to 0 ?_ | refine GH.tos 0 ?_); (first | refine GH.to 1 ?_ | refine GH.tos 1 ?_); (first | refine GH.to 2 ?_ | refine GH.tos 2 ?_); (first | refine GH.to 3 ?_ | refine GH.tos 3 ?_); (first | refine GH.to 5 ?_ | refine GH.tos 5 ?_); (first | refine GH.to 6 ?_ | refine GH.tos 6 ?_); (first | refine GH.to 7 ?_ | refine GH.tos 7 ?_); (first | refine GH.to 8 ?_ | refine GH.tos 8 ?_))
  refine GH.step 4 rfl (by kernel_rfl) ?_
  refine GO.callA (fun hF' hle hH => hvx hxok.down (by rcases hxg.down hk1 with h | h <;> simp [h]) (by omega) hF') (by first | exact Wt.none | exact Wt.some rfl rfl (by first | exact rfl | decide +kernel)) (by kernel_rfl) rfl rfl (by repeat (first | exact SubR.nil | apply SubR.cons 0 rfl | apply SubR.cons 1 rfl | apply SubR.cons 2 rfl | apply SubR.cons 3 rfl | apply SubR.cons 4 rfl | apply SubR.cons 5 rfl | apply SubR.cons 6 rfl | apply SubR.cons 7 rfl | apply SubR.cons 8 rfl | apply SubR.cons 9 rfl | apply SubR.cons 10 rfl | apply SubR.cons 11 rfl | apply SubR.cons 12 rfl | apply SubR.cons 13 rfl | apply SubR.cons 14 rfl | apply SubR.cons 15 rfl)) ?_
  rintro v Γ' ⟨q10, c10, rfl, rfl⟩
  have hm4 : (m3 ++ vxB p x.1.down).length ≤ 1300300 := by have := vxB_len (p := p) (v := x.1.down) (by rcases hxg.down hk1 with h | h <;> simp [h]) hdl; rw [List.length_append]; omega
  refine GH.keep (fun _ s => Sat.sub (by repeat (first | exact SubR.nil | apply SubR.cons 0 rfl | apply SubR.cons 1 rfl | apply SubR.cons 2 rfl | apply SubR.cons 3 rfl | apply SubR.cons 4 rfl | apply SubR.cons 5 rfl | apply SubR.cons 6 rfl | apply SubR.cons 7 rfl | apply SubR.cons 8 rfl | apply SubR.cons 9 rfl | apply SubR.cons 10 rfl | apply SubR.cons 11 rfl | apply SubR.cons 12 rfl | apply SubR.cons 13 rfl | apply SubR.cons 14 rfl | apply SubR.cons 15 rfl)) s) ?_
  refine GH.step 9 rfl (by kernel_rfl) ?_
  refine GO.callA (fun hF' hle hH => pnum_ok (n := x.1.lines.length) (by omega) (by omega)) (by first | exact Wt.none | exact Wt.some rfl rfl (by first | exact rfl | decide +kernel)) (by kernel_rfl) rfl rfl (by repeat (first | exact SubR.nil | apply SubR.cons 0 rfl | apply SubR.cons 1 rfl | apply SubR.cons 2 rfl | apply SubR.cons 3 rfl | apply SubR.cons 4 rfl | apply SubR.cons 5 rfl | apply SubR.cons 6 rfl | apply SubR.cons 7 rfl | apply SubR.cons 8 rfl | apply SubR.cons 9 rfl | apply SubR.cons 10 rfl | apply SubR.cons 11 rfl | apply SubR.cons 12 rfl | apply SubR.cons 13 rfl | apply SubR.cons 14 rfl | apply SubR.cons 15 rfl)) ?_
  rintro v Γ' ⟨q11, c11, rfl, rfl⟩
  obtain ⟨m5, hm50⟩ : ∃ m5, m3 ++ vxB p x.1.down ++ uv x.1.lines.length = m5 := ⟨_, rfl⟩
  have hm5 : m5.length ≤ 1300400 := by have := uv_len10 (n := x.1.lines.length) (by omega); rw [← hm50, List.length_append]; omega
  rw [hm50]
  refine GH.keep (fun _ s => Sat.sub (by repeat (first | exact SubR.nil | apply SubR.cons 0 rfl | apply SubR.cons 1 rfl | apply SubR.cons 2 rfl | apply SubR.cons 3 rfl | apply SubR.cons 4 rfl | apply SubR.cons 5 rfl | apply SubR.cons 6 rfl | apply SubR.cons 7 rfl | apply SubR.cons 8 rfl | apply SubR.cons 9 rfl | apply SubR.cons 10 rfl | apply SubR.cons 11 rfl | apply SubR.cons 12 rfl | apply SubR.cons 13 rfl | apply SubR.cons 14 rfl | apply SubR.cons 15 rfl)) s) ?_
  ((first | refine GH.to 10 ?_ | refine GH.tos 10 ?_))
  refine GH.fin (by kernel_rfl) ?_
  (repeat (first | refine GK.ro ?_ | (refine GK.box ?_; intro bl) | (refine GK.mkMap ?_; intro bm) | (refine GK.build0 tb ?_; intro bs)))
  have hop : m ++ opB p x.1 = m5 ++ x.1.lines.flatMap tx := by
    unfold opB; rw [← hm50, ← hm30, if_neg (by omega), hkn]; simp
  refine GK.weak (fr' := [(1, .pointer (some ⟨bl, 0, none⟩)), (53, .slice (some ⟨bb, o, none⟩) p.ops.length co), (54, .int .i64 (p.ops.length : Int)), (55, .int .i64 (i : Int)), (86, .slice lp x.1.lines.length lc), (87, .int .i64 (x.1.lines.length : Int)), (5, .slice q11 m5.length c11), (88, .int .i64 ((0 : Nat) : Int))]) (Γ' := [brow (.slice q11 m5.length c11) m5, blk bl 25 (0, 0) [str p.author, .int .i64 (t : Int), str p.note, .slice pd p.deps.length cd, .slice (some ⟨bb, o, none⟩) p.ops.length co], poolOf H]) (by repeat (first | exact trivial | refine ⟨rfl, ?_⟩)) (fun _ s => Sat.sub (by repeat (first | exact SubR.nil | apply SubR.cons 0 rfl | apply SubR.cons 1 rfl | apply SubR.cons 2 rfl | apply SubR.cons 3 rfl | apply SubR.cons 4 rfl | apply SubR.cons 5 rfl | apply SubR.cons 6 rfl | apply SubR.cons 7 rfl | apply SubR.cons 8 rfl | apply SubR.cons 9 rfl | apply SubR.cons 10 rfl | apply SubR.cons 11 rfl | apply SubR.cons 12 rfl | apply SubR.cons 13 rfl | apply SubR.cons 14 rfl | apply SubR.cons 15 rfl)) s) (G.loopN (X := Nat × By × Option Addr × Nat) (fun (j, _, _, _) => x.1.lines.length - j) (fun (j, m, q, c) => [(1, .pointer (some ⟨bl, 0, none⟩)), (53, .slice (some ⟨bb, o, none⟩) p.ops.length co), (54, .int .i64 (p.ops.length : Int)), (55, .int .i64 (i : Int)), (86, .slice lp x.1.lines.length lc), (87, .int .i64 (x.1.lines.length : Int)), (5, .slice q m.length c), (88, .int .i64 (j : Int))]) (fun (_, m, q, c) => [brow (.slice q m.length c) m, blk bl 25 (0, 0) [str p.author, .int .i64 (t : Int), str p.note, .slice pd p.deps.length cd, .slice (some ⟨bb, o, none⟩) p.ops.length co], poolOf H])
    (fun (j, m, _, _) => j ≤ x.1.lines.length ∧ m = m5 ++ (x.1.lines.take j).flatMap tx) (fun y hy n2 hn2 => ?_) (0, m5, q11, c11) ⟨Nat.zero_le _, by simp⟩)
  obtain ⟨j, m6, q, c⟩ := y
  obtain ⟨hj, hm6⟩ := hy
  dsimp only at hn2
  have hml6 : m6.length ≤ 1400000 := by
    have h1 := flat_len (f := tx) (B := 210) (l := x.1.lines.take j) fun s hs => by
      have := line_len (hxg.line s (List.mem_of_mem_take hs))
      have := tx_len (s := s) (by omega); omega
    have h2 : (x.1.lines.take j).length ≤ 64 := by simp; omega
    have h3 : (x.1.lines.take j).length * 210 ≤ 64 * 210 := Nat.mul_le_mul_right _ h2
    rw [hm6, List.length_append]; omega
  (repeat (first | refine GK.ro ?_ | (refine GK.box ?_; intro bl) | (refine GK.mkMap ?_; intro bm) | (refine GK.build0 tb ?_; intro bs)))
  (first | refine G.condP rfl (fun hb => ?_) (fun hb => ?_) | refine G.condN rfl (fun hb => ?_) (fun hb => ?_) | refine G.cond rfl (fun hb => ?_) (fun hb => ?_))
  · obtain ⟨ln, hln⟩ : ∃ ln, x.1.lines[j]? = some ln := ⟨_, List.getElem?_eq_getElem (by omega)⟩
    have hlnl := line_len (hxg.line ln (List.mem_of_getElem? hln))
    obtain ⟨bb2, o2, cs2, et2, fz2, rfl, hbb2, hat2⟩ := hlr (by omega)
    have hq' : cs2[o2 + (j : Int).toNat * 1]? = some (str ln) := by
      have := hat2 j _ (strs_get hln); simpa using this
    (repeat (first | refine GK.ro ?_ | (refine GK.box ?_; intro bl) | (refine GK.mkMap ?_; intro bm) | (refine GK.build0 tb ?_; intro bs)))
    refine GL.cons ?_; refine GO.callA (fun hF' hle hH => ptext_ok (s := ln) (by omega) (by omega)) (by first | exact Wt.none | exact Wt.some rfl rfl (by first | exact rfl | decide +kernel)) (by kernel_rfl) rfl rfl (by repeat (first | exact SubR.nil | apply SubR.cons 0 rfl | apply SubR.cons 1 rfl | apply SubR.cons 2 rfl | apply SubR.cons 3 rfl | apply SubR.cons 4 rfl | apply SubR.cons 5 rfl | apply SubR.cons 6 rfl | apply SubR.cons 7 rfl | apply SubR.cons 8 rfl | apply SubR.cons 9 rfl | apply SubR.cons 10 rfl | apply SubR.cons 11 rfl | apply SubR.cons 12 rfl | apply SubR.cons 13 rfl | apply SubR.cons 14 rfl | apply SubR.cons 15 rfl)) ?_
    rintro v Γ' ⟨q12, c12, rfl, rfl⟩
    (repeat (first | refine GK.ro ?_ | (refine GK.box ?_; intro bl) | (refine GK.mkMap ?_; intro bm) | (refine GK.build0 tb ?_; intro bs)))
    (refine GQ.againN (j + 1, m6 ++ tx ln, q12, c12) ?_ ?_ ?_ ?_; rotate_left; (first | omega | (dsimp only; omega)); exact (by repeat (first | exact trivial | refine ⟨rfl, ?_⟩)); exact (fun _ s => Sat.sub (by repeat (first | exact SubR.nil | apply SubR.cons 0 rfl | apply SubR.cons 1 rfl | apply SubR.cons 2 rfl | apply SubR.cons 3 rfl | apply SubR.cons 4 rfl | apply SubR.cons 5 rfl | apply SubR.cons 6 rfl | apply SubR.cons 7 rfl | apply SubR.cons 8 rfl | apply SubR.cons 9 rfl | apply SubR.cons 10 rfl | apply SubR.cons 11 rfl | apply SubR.cons 12 rfl | apply SubR.cons 13 rfl | apply SubR.cons 14 rfl | apply SubR.cons 15 rfl)) s))
    exact ⟨by omega, by rw [hm6, flatMap_next hln, List.append_assoc]⟩
  · have hall : m6 = m ++ opB p x.1 := by rw [hop, hm6, List.take_of_length_le (by omega)]
    subst hall
    (repeat (first | refine GK.ro ?_ | (refine GK.box ?_; intro bl) | (refine GK.mkMap ?_; intro bm) | (refine GK.build0 tb ?_; intro bs)))
    refine GQ.againN (i + 1, m ++ opB p x.1, q, c) ?_ ?_ ?_ ?_
    · exact ⟨by omega, by rw [hm, flatMap_next hxo, List.append_assoc]⟩
    · dsimp only; omega
    · exact (by repeat (first | exact trivial | refine ⟨rfl, ?_⟩))
    · exact (fun _ s => Sat.sub (by repeat (first | exact SubR.nil | apply SubR.cons 0 rfl | apply SubR.cons 1 rfl | apply SubR.cons 2 rfl | apply SubR.cons 3 rfl | apply SubR.cons 4 rfl | apply SubR.cons 5 rfl | apply SubR.cons 6 rfl | apply SubR.cons 7 rfl | apply SubR.cons 8 rfl | apply SubR.cons 9 rfl | apply SubR.cons 10 rfl | apply SubR.cons 11 rfl | apply SubR.cons 12 rfl | apply SubR.cons 13 rfl | apply SubR.cons 14 rfl | apply SubR.cons 15 rfl)) s)
end Go.Pb
