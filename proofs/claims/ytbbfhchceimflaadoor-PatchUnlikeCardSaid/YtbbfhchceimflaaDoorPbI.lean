/- The law's measure of a patch: what it lets in is small. -/
import Derived.Test.YtbbfhchceimflaaDoorPbH
set_option linter.unusedSimpArgs false
set_option linter.unusedVariables false
namespace Go.Pb
open Go Go.Sl Go.Lb Go.Pa Go.Oc
def K0 : Nat := 140737488355328
structure Op1.Big (o : Op1) : Prop where
  kind : i64ok o.kind
  path : o.path.length ≤ 140737488355328
  up : o.up.Ok
  down : o.down.Ok
  lines : o.lines.length ≤ 140737488355328
  line : ∀ s ∈ o.lines, s.length ≤ 140737488355328
structure Pch.Big (p : Pch) : Prop where
  author : p.author.length ≤ 140737488355328
  time : i64ok p.time
  note : p.note.length ≤ 140737488355328
  deps : p.deps.length ≤ 140737488355328
  dep : ∀ h ∈ p.deps, h.length = 32
  ops : p.ops.length ≤ 140737488355328
  op : ∀ o ∈ p.ops, o.Big
def Op1.Sm (o : Op1) : Prop := o.lines.length ≤ 300 ∧ o.path.length ≤ 30099 ∧ ∀ s ∈ o.lines, s.length ≤ 90299
theorem ok_of {p : Pch} (hb : p.Big) (h1 : p.author.length ≤ 30099) (h2 : p.note.length ≤ 30099) (h3 : p.deps.length ≤ 300) (h4 : p.ops.length ≤ 300) (h5 : ∀ o ∈ p.ops, o.Sm) : p.Ok := by
  refine ⟨by omega, hb.time, by omega, by omega, hb.dep, by omega, fun o ho => ?_⟩
  have hs := h5 o ho
  have hg := hb.op o ho
  have q1 := hs.1
  have q2 := hs.2.1
  exact ⟨hg.kind, by omega, hg.up, hg.down, by omega, fun s h => by have := hs.2.2 s h; omega⟩
theorem opC_len2 {x : Op1 × Value} (h : x.1.Big) : (opC x).length = 69 := by unfold opC; simp [vxC_len h.up, vxC_len h.down]
theorem opC_lines2 {x : Op1 × Value} (h : x.1.Big) : (opC x)[68]? = some x.2 := by
  unfold opC
  rw [List.getElem?_cons_succ, List.getElem?_cons_succ, List.getElem?_append_right (by rw [vxC_len h.up]; omega), vxC_len h.up, List.getElem?_append_right (by rw [vxC_len h.down]; omega), vxC_len h.down]; rfl
theorem wq100 {n : Nat} (h : n ≤ 140737488355328) : IntKind.i64.wrap ((n : Int).tdiv 100) = ((n / 100 : Nat) : Int) := by
  rw [Int.tdiv_eq_ediv_of_nonneg (by omega), IntWalk.i64_in _ (by omega)]; rfl
theorem wq300 {n : Nat} (h : n ≤ 140737488355328) : IntKind.i64.wrap ((n : Int).tdiv 300) = ((n / 300 : Nat) : Int) := by
  rw [Int.tdiv_eq_ediv_of_nonneg (by omega), IntWalk.i64_in _ (by omega)]; rfl
set_option maxRecDepth 100000
set_option maxHeartbeats 4000000
attribute [local irreducible] GK GO Yl Wt Ef Hd GH KH wpListIn Code.wpIn toBody roundQ poolOf rs RS YieldOk IterOk VOk row star exs mp lp Sat pt FnOk Rd bodyPost bodyPostM Lv Ret Exit.then Exit.inBlock Exit.noGoto Int.decLt Int.decLe Int.instDecidableEq
attribute [local irreducible] u8s hs strs vxC opC likeTo Op1.Sm
set_option pp.deepTerms true
set_option pp.maxSteps 1000000
variable {hF H : Hp}
theorem light_ok {p : Pch} {dv ov : Value} (hp : PaAt H p dv ov) (ho : p.Big) :
    FnOk Go.Proofs.Tryd.prog 9 [.agg ⟨paC p dv ov⟩] [poolOf H] hF (fun v Γ => (∃ b, v = .bool b ∧ (b = true → p.Ok)) ∧ Γ = [poolOf H]) := by
  obtain ⟨hdeps, xs, hxs, hov, hxl⟩ := hp
  obtain ⟨pd, cd, rfl, hcd, hld, hrd⟩ := rs.out hdeps
  obtain ⟨po, co, rfl, hco, hlo, hro⟩ := rs.out hov
  have ha := ho.author
  have hn := ho.note
  have hd := ho.deps
  have hol := ho.ops
  have hx69 : ∀ x ∈ xs, (opC x).length = 69 := fun x hx => opC_len2 (ho.op _ (by rw [← hxs]; exact List.mem_map_of_mem hx))
  refine FnOk.intro 82 Go.Proofs.Tryd.func9 rfl rfl fun w0 => ?_
  (repeat (first | refine GK.ro ?_ | (refine GK.box ?_; intro bl) | (refine GK.mkMap ?_; intro bm) | (refine GK.build0 tb ?_; intro bs)))
  rw [wq100 ha, wq100 hn]
  (repeat (first | refine GK.ro ?_ | (refine GK.box ?_; intro bl) | (refine GK.mkMap ?_; intro bm) | (refine GK.build0 tb ?_; intro bs)))
  obtain ⟨n0, hn0⟩ : ∃ n0 : Nat, p.author.length / 100 + p.note.length / 100 + p.deps.length + p.ops.length = n0 := ⟨_, rfl⟩
  refine GK.weak (fr' := [(1, .pointer (some ⟨bl, 0, none⟩)), (3, .int .i64 (n0 : Int)), (4, .int .i64 ((0 : Nat) : Int))]) (Γ' := [blk bl 25 (0, 0) (paC p (.slice pd p.deps.length cd) (.slice po p.ops.length co)), poolOf H]) (by rw [← hn0]; exact (by repeat (first | exact trivial | refine ⟨rfl, ?_⟩))) (fun _ s => Sat.sub (by repeat (first | exact SubR.nil | apply SubR.cons 0 rfl | apply SubR.cons 1 rfl | apply SubR.cons 2 rfl | apply SubR.cons 3 rfl | apply SubR.cons 4 rfl | apply SubR.cons 5 rfl | apply SubR.cons 6 rfl | apply SubR.cons 7 rfl | apply SubR.cons 8 rfl | apply SubR.cons 9 rfl | apply SubR.cons 10 rfl | apply SubR.cons 11 rfl | apply SubR.cons 12 rfl | apply SubR.cons 13 rfl | apply SubR.cons 14 rfl | apply SubR.cons 15 rfl)) s) (G.loopN (X := Nat × Nat) (fun (i, _) => p.ops.length - i) (fun (i, n) => [(1, .pointer (some ⟨bl, 0, none⟩)), (3, .int .i64 (n : Int)), (4, .int .i64 (i : Int))]) (fun _ => [blk bl 25 (0, 0) (paC p (.slice pd p.deps.length cd) (.slice po p.ops.length co)), poolOf H])
    (fun (i, n) => i ≤ p.ops.length ∧ n0 ≤ n ∧ n ≤ 2000000000000000 ∧ (n ≤ 300 → ∀ (j : Nat) (o : Op1), j < i → p.ops[j]? = some o → o.Sm)) (fun x hx k hk => ?_) (0, n0) ⟨Nat.zero_le _, Nat.le_refl _, by omega, fun _ j o hj => by omega⟩)
  obtain ⟨i, n⟩ := x
  obtain ⟨hi, hn1, hn2, hsm⟩ := hx
  dsimp only at hk
  have ends : n ≤ 300 → p.ops.length ≤ i → p.Ok := fun h1 h2 => ok_of ho (by omega) (by omega) (by omega) (by omega) fun o hm => by
    obtain ⟨j, hj⟩ := List.getElem?_of_mem hm
    exact hsm h1 j o (by have := (List.getElem?_eq_some_iff.1 hj).1; omega) hj
  (repeat (first | refine GK.ro ?_ | (refine GK.box ?_; intro bl) | (refine GK.mkMap ?_; intro bm) | (refine GK.build0 tb ?_; intro bs)))
  ((fail_if_success refine GL.fork (b := true) rfl rfl ?_ ?_); (fail_if_success refine GL.fork (b := false) rfl rfl ?_ ?_); first | refine GL.forkP rfl rfl (fun hb => ?_) (fun hb => ?_) | refine GL.forkN rfl rfl (fun hb => ?_) (fun hb => ?_) | refine GL.fork rfl rfl (fun hb => ?_) (fun hb => ?_))
  rotate_left
  · (repeat (first | refine GK.ro ?_ | (refine GK.box ?_; intro bl) | (refine GK.mkMap ?_; intro bm) | (refine GK.build0 tb ?_; intro bs)))
    refine GQ.fin1 rfl (Rv.tmp rfl) (fun _ s => Sat.sub (by repeat (first | exact SubR.nil | apply SubR.cons 0 rfl | apply SubR.cons 1 rfl | apply SubR.cons 2 rfl | apply SubR.cons 3 rfl | apply SubR.cons 4 rfl | apply SubR.cons 5 rfl | apply SubR.cons 6 rfl | apply SubR.cons 7 rfl | apply SubR.cons 8 rfl | apply SubR.cons 9 rfl | apply SubR.cons 10 rfl | apply SubR.cons 11 rfl | apply SubR.cons 12 rfl | apply SubR.cons 13 rfl | apply SubR.cons 14 rfl | apply SubR.cons 15 rfl)) s) ⟨⟨_, rfl, fun h => ?_⟩, rfl⟩
    have h := of_decide_eq_true h
    exact ends (by omega) (by omega)
  (repeat (first | refine GK.ro ?_ | (refine GK.box ?_; intro bl) | (refine GK.mkMap ?_; intro bm) | (refine GK.build0 tb ?_; intro bs)))
  (first | refine G.condP rfl (fun hb => ?_) (fun hb => ?_) | refine G.condN rfl (fun hb => ?_) (fun hb => ?_) | refine G.cond rfl (fun hb => ?_) (fun hb => ?_))
  rotate_left
  · (repeat (first | refine GK.ro ?_ | (refine GK.box ?_; intro bl) | (refine GK.mkMap ?_; intro bm) | (refine GK.build0 tb ?_; intro bs)))
    refine GQ.fin1 rfl (Rv.tmp rfl) (fun _ s => Sat.sub (by repeat (first | exact SubR.nil | apply SubR.cons 0 rfl | apply SubR.cons 1 rfl | apply SubR.cons 2 rfl | apply SubR.cons 3 rfl | apply SubR.cons 4 rfl | apply SubR.cons 5 rfl | apply SubR.cons 6 rfl | apply SubR.cons 7 rfl | apply SubR.cons 8 rfl | apply SubR.cons 9 rfl | apply SubR.cons 10 rfl | apply SubR.cons 11 rfl | apply SubR.cons 12 rfl | apply SubR.cons 13 rfl | apply SubR.cons 14 rfl | apply SubR.cons 15 rfl)) s) ⟨⟨_, rfl, fun h => ?_⟩, rfl⟩
    have h := of_decide_eq_true h
    omega
  obtain ⟨x, hx⟩ : ∃ x, xs[i]? = some x := ⟨_, List.getElem?_eq_getElem (by have := congrArg List.length hxs; simp at this; omega)⟩
  have hxm := List.mem_of_getElem? hx
  have hxo : p.ops[i]? = some x.1 := by rw [← hxs, List.getElem?_map, hx]; rfl
  have hxok := ho.op _ (List.mem_of_getElem? hxo)
  obtain ⟨bb, o, cs, et, fz, rfl, hbb, hat⟩ := hro (by omega)
  have hAt : At cs (o + (i : Int).toNat * 69) (opC x) := at_trans hat (ops_at hx69 hx)
  obtain ⟨lp, lc, hlv, hlc, hll, hlr⟩ := rs.out (hxl x hxm)
  have k1 : cs[o + (i : Int).toNat * 69 + 68]? = some (.slice lp x.1.lines.length lc) := by rw [← hlv]; exact hAt 68 _ (opC_lines2 hxok)
  have k5 : cs[o + (i : Int).toNat * 69 + 1]? = some (str x.1.path) := hAt 1 _ (by unfold opC; rfl)
  have hpl := hxok.path
  have hll2 := hxok.lines
  (repeat (first | refine GK.ro ?_ | (refine GK.box ?_; intro bl) | (refine GK.mkMap ?_; intro bm) | (refine GK.build0 tb ?_; intro bs)))
  refine G.draw [] [blk bl 25 (0, 0) (paC p (.slice pd p.deps.length cd) (.slice (some ⟨bb, o, none⟩) p.ops.length co)), poolOf H] (by kernel_rfl) ?_
  ((first | refine GH.to 0 ?_ | refine GH.tos 0 ?_); (first | refine GH.to 1 ?_ | refine GH.tos 1 ?_); (first | refine GH.to 2 ?_ | refine GH.tos 2 ?_); (first | refine GH.to 3 ?_ | refine GH.tos 3 ?_); (first | refine GH.to 4 ?_ | refine GH.tos 4 ?_); (first | refine GH.to 5 ?_ | refine GH.tos 5 ?_); (first | refine GH.to 6 ?_ | refine GH.tos 6 ?_); (first | refine GH.to 7 ?_ | refine GH.tos 7 ?_); (first | refine GH.to 8 ?_ | refine GH.tos 8 ?_); (first | refine GH.to 9 ?_ | refine GH.tos 9 ?_); (first | refine GH.to 10 ?_ | refine GH.tos 10 ?_); (first | refine GH.to 11 ?_ | refine GH.tos 11 ?_); (first | refine GH.to 12 ?_ | refine GH.tos 12 ?_); (first | refine GH.to 13 ?_ | refine GH.tos 13 ?_); (first | refine GH.to 14 ?_ | refine GH.tos 14 ?_); (first | refine GH.to 15 ?_ | refine GH.tos 15 ?_))
  rw [wq100 hpl]
  ((first | refine GH.to 16 ?_ | refine GH.tos 16 ?_); (first | refine GH.to 17 ?_ | refine GH.tos 17 ?_); (first | refine GH.to 18 ?_ | refine GH.tos 18 ?_))
  refine GH.fin (by kernel_rfl) ?_
  (repeat (first | refine GK.ro ?_ | (refine GK.box ?_; intro bl) | (refine GK.mkMap ?_; intro bm) | (refine GK.build0 tb ?_; intro bs)))
  obtain ⟨n1, hn1'⟩ : ∃ n1 : Nat, n + (x.1.lines.length + x.1.path.length / 100) = n1 := ⟨_, rfl⟩
  refine GK.weak (fr' := [(1, .pointer (some ⟨bl, 0, none⟩)), (4, .int .i64 (i : Int)), (3, .int .i64 (n1 : Int)), (5, .int .i64 ((0 : Nat) : Int))]) (Γ' := [blk bl 25 (0, 0) (paC p (.slice pd p.deps.length cd) (.slice (some ⟨bb, o, none⟩) p.ops.length co)), poolOf H]) (by rw [← hn1']; exact (by repeat (first | exact trivial | refine ⟨rfl, ?_⟩))) (fun _ s => Sat.sub (by repeat (first | exact SubR.nil | apply SubR.cons 0 rfl | apply SubR.cons 1 rfl | apply SubR.cons 2 rfl | apply SubR.cons 3 rfl | apply SubR.cons 4 rfl | apply SubR.cons 5 rfl | apply SubR.cons 6 rfl | apply SubR.cons 7 rfl | apply SubR.cons 8 rfl | apply SubR.cons 9 rfl | apply SubR.cons 10 rfl | apply SubR.cons 11 rfl | apply SubR.cons 12 rfl | apply SubR.cons 13 rfl | apply SubR.cons 14 rfl | apply SubR.cons 15 rfl)) s) (G.loopN (X := Nat × Nat) (fun (j, _) => x.1.lines.length - j) (fun (j, n) => [(1, .pointer (some ⟨bl, 0, none⟩)), (4, .int .i64 (i : Int)), (3, .int .i64 (n : Int)), (5, .int .i64 (j : Int))]) (fun _ => [blk bl 25 (0, 0) (paC p (.slice pd p.deps.length cd) (.slice (some ⟨bb, o, none⟩) p.ops.length co)), poolOf H])
    (fun (j, n) => j ≤ x.1.lines.length ∧ n1 ≤ n ∧ n ≤ 2000000000000000 ∧ (n ≤ 300 → ∀ (k : Nat) (s : By), k < j → x.1.lines[k]? = some s → s.length ≤ 90299)) (fun y hy k2 hk2 => ?_) (0, n1) ⟨Nat.zero_le _, Nat.le_refl _, by omega, fun _ j o hj => by omega⟩)
  obtain ⟨j, n2⟩ := y
  obtain ⟨hj, hn3, hn4, hsm2⟩ := hy
  dsimp only at hk2
  have opsm : n2 ≤ 300 → x.1.lines.length ≤ j → ∀ (k : Nat) (o : Op1), k < i + 1 → p.ops[k]? = some o → o.Sm := fun h1 h2 k o2 hk3 ho2 => by
    rcases Nat.lt_or_ge k i with q | q
    · exact hsm (by omega) k o2 q ho2
    · obtain rfl : k = i := by omega
      rw [hxo] at ho2; cases ho2
      unfold Op1.Sm
      refine ⟨by omega, by omega, fun s hs => ?_⟩
      obtain ⟨k, hk⟩ := List.getElem?_of_mem hs
      exact hsm2 h1 k s (by have := (List.getElem?_eq_some_iff.1 hk).1; omega) hk
  (repeat (first | refine GK.ro ?_ | (refine GK.box ?_; intro bl) | (refine GK.mkMap ?_; intro bm) | (refine GK.build0 tb ?_; intro bs)))
  ((fail_if_success refine GL.fork (b := true) rfl rfl ?_ ?_); (fail_if_success refine GL.fork (b := false) rfl rfl ?_ ?_); first | refine GL.forkP rfl rfl (fun hb => ?_) (fun hb => ?_) | refine GL.forkN rfl rfl (fun hb => ?_) (fun hb => ?_) | refine GL.fork rfl rfl (fun hb => ?_) (fun hb => ?_))
  rotate_left
  · (repeat (first | refine GK.ro ?_ | (refine GK.box ?_; intro bl) | (refine GK.mkMap ?_; intro bm) | (refine GK.build0 tb ?_; intro bs)))
    (refine GQ.againN (i + 1, n2) ?_ ?_ ?_ ?_; rotate_left; (first | omega | (dsimp only; omega)); exact (by repeat (first | exact trivial | refine ⟨rfl, ?_⟩)); exact (fun _ s => Sat.sub (by repeat (first | exact SubR.nil | apply SubR.cons 0 rfl | apply SubR.cons 1 rfl | apply SubR.cons 2 rfl | apply SubR.cons 3 rfl | apply SubR.cons 4 rfl | apply SubR.cons 5 rfl | apply SubR.cons 6 rfl | apply SubR.cons 7 rfl | apply SubR.cons 8 rfl | apply SubR.cons 9 rfl | apply SubR.cons 10 rfl | apply SubR.cons 11 rfl | apply SubR.cons 12 rfl | apply SubR.cons 13 rfl | apply SubR.cons 14 rfl | apply SubR.cons 15 rfl)) s))
    exact ⟨by omega, by omega, by omega, fun h => opsm h (by omega)⟩
  (repeat (first | refine GK.ro ?_ | (refine GK.box ?_; intro bl) | (refine GK.mkMap ?_; intro bm) | (refine GK.build0 tb ?_; intro bs)))
  (first | refine G.condP rfl (fun hb => ?_) (fun hb => ?_) | refine G.condN rfl (fun hb => ?_) (fun hb => ?_) | refine G.cond rfl (fun hb => ?_) (fun hb => ?_))
  rotate_left
  · (repeat (first | refine GK.ro ?_ | (refine GK.box ?_; intro bl) | (refine GK.mkMap ?_; intro bm) | (refine GK.build0 tb ?_; intro bs)))
    (refine GQ.againN (i + 1, n2) ?_ ?_ ?_ ?_; rotate_left; (first | omega | (dsimp only; omega)); exact (by repeat (first | exact trivial | refine ⟨rfl, ?_⟩)); exact (fun _ s => Sat.sub (by repeat (first | exact SubR.nil | apply SubR.cons 0 rfl | apply SubR.cons 1 rfl | apply SubR.cons 2 rfl | apply SubR.cons 3 rfl | apply SubR.cons 4 rfl | apply SubR.cons 5 rfl | apply SubR.cons 6 rfl | apply SubR.cons 7 rfl | apply SubR.cons 8 rfl | apply SubR.cons 9 rfl | apply SubR.cons 10 rfl | apply SubR.cons 11 rfl | apply SubR.cons 12 rfl | apply SubR.cons 13 rfl | apply SubR.cons 14 rfl | apply SubR.cons 15 rfl)) s))
    exact ⟨by omega, by omega, by omega, fun h => by omega⟩
  obtain ⟨ln, hln⟩ : ∃ ln, x.1.lines[j]? = some ln := ⟨_, List.getElem?_eq_getElem (by omega)⟩
  have hlnl := hxok.line ln (List.mem_of_getElem? hln)
  obtain ⟨bb2, o2, cs2, et2, fz2, rfl, hbb2, hat2⟩ := hlr (by omega)
  have hq' : cs2[o2 + (j : Int).toNat * 1]? = some (str ln) := by
    have := hat2 j _ (strs_get hln); simpa using this
  (repeat (first | refine GK.ro ?_ | (refine GK.box ?_; intro bl) | (refine GK.mkMap ?_; intro bm) | (refine GK.build0 tb ?_; intro bs)))
  rw [wq300 hlnl]
  (repeat (first | refine GK.ro ?_ | (refine GK.box ?_; intro bl) | (refine GK.mkMap ?_; intro bm) | (refine GK.build0 tb ?_; intro bs)))
  (refine GQ.againN (j + 1, n2 + ln.length / 300) ?_ ?_ ?_ ?_; rotate_left; (first | omega | (dsimp only; omega)); exact (by repeat (first | exact trivial | refine ⟨rfl, ?_⟩)); exact (fun _ s => Sat.sub (by repeat (first | exact SubR.nil | apply SubR.cons 0 rfl | apply SubR.cons 1 rfl | apply SubR.cons 2 rfl | apply SubR.cons 3 rfl | apply SubR.cons 4 rfl | apply SubR.cons 5 rfl | apply SubR.cons 6 rfl | apply SubR.cons 7 rfl | apply SubR.cons 8 rfl | apply SubR.cons 9 rfl | apply SubR.cons 10 rfl | apply SubR.cons 11 rfl | apply SubR.cons 12 rfl | apply SubR.cons 13 rfl | apply SubR.cons 14 rfl | apply SubR.cons 15 rfl)) s))
  refine ⟨by omega, by omega, by omega, fun h k s hk hs => ?_⟩
  rcases Nat.lt_or_ge k j with q | q
  · exact hsm2 (by omega) k s q hs
  · obtain rfl : k = j := by omega
    rw [hln] at hs; cases hs; omega
end Go.Pb
