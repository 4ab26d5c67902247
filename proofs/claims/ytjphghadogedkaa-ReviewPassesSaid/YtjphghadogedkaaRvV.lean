/- ReviewPasses. -/
import Derived.Test.YtjphghadogedkaaRvQ
import Derived.Test.YtjphghadogedkaaRvM
set_option linter.unusedSimpArgs false
set_option linter.unusedVariables false
namespace Go.Re
open Go Go.Sl
set_option maxRecDepth 100000
set_option maxRecDepth 100000
set_option maxHeartbeats 4000000
attribute [local irreducible] GK GO Yl Wt Ef Hd GH KH wpListIn Code.wpIn toBody roundQ poolOf rs RS YieldOk IterOk VOk row star exs mp lp Sat pt FnOk Rd bodyPost bodyPostM Lv Ret Exit.then Exit.inBlock Exit.noGoto Int.decLt Int.decLe Int.instDecidableEq
attribute [local irreducible] u8s strs likeTo propC encV prs ptrs sheetC sheets zeroC
set_option pp.deepTerms true
set_option pp.maxSteps 1000000
variable {hF H : Hp}
theorem passesLaw_ok {p : Pr} {yv nv tv : Value} {yes no : List By} {n : Int} {ve : Bool} (hy : rs H yv yes.length 1 (strs yes)) (hn : rs H nv no.length 1 (strs no)) (ht : tv.oneCell' = true) (hh : p.h.length = 32)
    (n1 : yes.length ≤ 140737488355328) (n2 : no.length ≤ 140737488355328) (s1 : ∀ s ∈ yes, s.length ≤ 140737488355328) (s2 : ∀ s ∈ no, s.length ≤ 140737488355328) (s3 : p.a.length ≤ 140737488355328) :
    FnOk Go.Proofs.Try.prog 3 [.agg ⟨propC p yv nv tv⟩, .agg ⟨[.int .i64 n, .bool ve]⟩] [poolOf H] hF (fun v Γ => v = .bool true ∧ ∃ H' Γ2, le H H' ∧ Γ = poolOf H' :: Γ2) := by
  have ho := propC_one (p := p) hy.one hn.one ht
  have hlen := propC_len (y := yv) (n := nv) (t := tv) hh
  obtain ⟨py, cy, rfl, hcy, hly, hry⟩ := rs.out hy
  obtain ⟨pn, cn, rfl, hcn, hln, hrn⟩ := rs.out hn
  have k0 : (propC p (.slice py yes.length cy) (.slice pn no.length cn) tv)[0 + 1]? = some (str p.a) := propC_a
  have k1 : (propC p (.slice py yes.length cy) (.slice pn no.length cn) tv)[0 + 36]? = some (.slice py yes.length cy) := propC_y hh
  have k2 : (propC p (.slice py yes.length cy) (.slice pn no.length cn) tv)[0 + 37]? = some (.slice pn no.length cn) := propC_n hh
  have k3 : (propC p (.slice py yes.length cy) (.slice pn no.length cn) tv)[0 + 35]? = some (.bool p.o) := propC_o hh
  refine FnOk.intro 71 Go.Proofs.Try.func3 rfl rfl fun w0 => ?_
  (repeat (first | refine GK.ro ?_ | (refine GK.box ?_; intro bl) | (refine GK.mkMap ?_; intro bm) | (refine GK.build0 tb ?_; intro bs)))
  rename_i bp
  refine GL.cons ?_; refine Gt.buildLit tb (sz := 0) (n := 0) (by first | exact Wt.none | exact Wt.some rfl rfl (by first | exact rfl | decide +kernel)) rfl rfl (by kernel_rfl) rfl rfl rfl rfl rfl rfl ?_
  intro ba
  (repeat (first | refine GK.ro ?_ | (refine GK.box ?_; intro bl) | (refine GK.mkMap ?_; intro bm) | (refine GK.build0 tb ?_; intro bs)))
  refine GL.cons ?_; refine Gt.buildLit tb (sz := 0) (n := 2) (by first | exact Wt.none | exact Wt.some rfl rfl (by first | exact rfl | decide +kernel)) rfl rfl (by kernel_rfl) rfl rfl rfl rfl rfl rfl ?_
  intro bb
  (repeat (first | refine GK.ro ?_ | (refine GK.box ?_; intro bl) | (refine GK.mkMap ?_; intro bm) | (refine GK.build0 tb ?_; intro bs)))
  refine GK.heap (Γ' := [poolOf H, blk ba 9 (0, 0) [str p.a], blk bb 24 (0, 0) [.slice py yes.length cy, .slice pn no.length cn, .slice (some ⟨ba, 0, none⟩) 1 1], blk bl 29 (0, 0) [.int .i64 n, .bool ve], blk bp 27 (0, 0) (propC p (.slice py yes.length cy) (.slice pn no.length cn) tv)]) (fun _ s => Sat.sub (by repeat (first | exact SubR.nil | apply SubR.cons 0 rfl | apply SubR.cons 1 rfl | apply SubR.cons 2 rfl | apply SubR.cons 3 rfl | apply SubR.cons 4 rfl | apply SubR.cons 5 rfl | apply SubR.cons 6 rfl | apply SubR.cons 7 rfl | apply SubR.cons 8 rfl | apply SubR.cons 9 rfl | apply SubR.cons 10 rfl | apply SubR.cons 11 rfl | apply SubR.cons 12 rfl | apply SubR.cons 13 rfl | apply SubR.cons 14 rfl | apply SubR.cons 15 rfl)) s) ?_
  refine GK.absorb fun H1 k l1 a1 m1 => ?_
  have hba : H1 ba = some (.cells ⟨[str p.a]⟩ 9 (0, 0)) := pt_in a1 m1
  have hA1 : rs H1 (.slice (some ⟨ba, 0, none⟩) 1 1) [p.a].length 1 (strs [p.a]) := rs.mk (Nat.le_refl _) (by rw [strs_len]; rfl) (fun _ => ⟨ba, 0, [str p.a], _, _, rfl, hba, by rw [strs_one]; exact At.all _⟩)
  have hy1 := hy.mono l1
  have hn1 := hn.mono l1
  have key : ∀ j : Nat, j < 3 → ∃ (l : List By) (q : Option Addr) (d : Nat), ([.slice py yes.length cy, .slice pn no.length cn, .slice (some ⟨ba, 0, none⟩) 1 1] : List Value)[0 + (j : Int).toNat * 1]? = some (.slice q l.length d) ∧ rs H1 (.slice q l.length d) l.length 1 (strs l) ∧ (∀ s ∈ l, s.length ≤ 140737488355328) ∧ (j = 0 → l = yes) ∧ (j = 1 → l = no) ∧ l.length ≤ 140737488355328 := by
    intro j hj
    obtain rfl | rfl | rfl : j = 0 ∨ j = 1 ∨ j = 2 := by omega
    · exact ⟨yes, py, cy, rfl, hy1, s1, fun _ => rfl, fun h => absurd h (by decide), n1⟩
    · exact ⟨no, pn, cn, rfl, hn1, s2, fun h => absurd h (by decide), fun _ => rfl, n2⟩
    · exact ⟨[p.a], some ⟨ba, 0, none⟩, 1, rfl, hA1, by simpa using s3, fun h => absurd h (by decide), fun h => absurd h (by decide), Nat.le_of_ble_eq_true rfl⟩
  refine GK.weak (fr' := [(2, .pointer (some ⟨bp, 0, none⟩)), (3, .pointer (some ⟨bl, 0, none⟩)), (18, .slice (some ⟨bb, 0, none⟩) 3 3), (19, .int .i64 3), (20, .int .i64 ((0 : Nat) : Int)), (5, .int .i64 0)])
    (Γ' := [blk bb 24 (0, 0) [.slice py yes.length cy, .slice pn no.length cn, .slice (some ⟨ba, 0, none⟩) 1 1], blk bl 29 (0, 0) [.int .i64 n, .bool ve], blk bp 27 (0, 0) (propC p (.slice py yes.length cy) (.slice pn no.length cn) tv), poolOf H1]) (by repeat (first | exact trivial | refine ⟨rfl, ?_⟩)) (fun _ s => Sat.sub (by repeat (first | exact SubR.nil | apply SubR.cons 0 rfl | apply SubR.cons 1 rfl | apply SubR.cons 2 rfl | apply SubR.cons 3 rfl | apply SubR.cons 4 rfl | apply SubR.cons 5 rfl | apply SubR.cons 6 rfl | apply SubR.cons 7 rfl | apply SubR.cons 8 rfl | apply SubR.cons 9 rfl | apply SubR.cons 10 rfl | apply SubR.cons 11 rfl | apply SubR.cons 12 rfl | apply SubR.cons 13 rfl | apply SubR.cons 14 rfl | apply SubR.cons 15 rfl)) s)
    (G.loopN (X := Nat × Int) (fun (j, _) => 3 - j) (fun (j, t) => [(2, .pointer (some ⟨bp, 0, none⟩)), (3, .pointer (some ⟨bl, 0, none⟩)), (18, .slice (some ⟨bb, 0, none⟩) 3 3), (19, .int .i64 3), (20, .int .i64 (j : Int)), (5, .int .i64 t)])
    (fun _ => [blk bb 24 (0, 0) [.slice py yes.length cy, .slice pn no.length cn, .slice (some ⟨ba, 0, none⟩) 1 1], blk bl 29 (0, 0) [.int .i64 n, .bool ve], blk bp 27 (0, 0) (propC p (.slice py yes.length cy) (.slice pn no.length cn) tv), poolOf H1])
    (fun (j, t) => j ≤ 3 ∧ 0 ≤ t ∧ t ≤ 300 ∧ (1 ≤ j → yes.length ≤ 300) ∧ (2 ≤ j → no.length ≤ 300)) (fun x hx q hq => ?_) (0, 0) ⟨by omega, by omega, by omega, fun h => by omega, fun h => by omega⟩)
  obtain ⟨j, t⟩ := x
  obtain ⟨hj, ht0, ht1, hj1, hj2⟩ := hx
  dsimp only at hq
  (repeat (first | refine GK.ro ?_ | (refine GK.box ?_; intro bl) | (refine GK.mkMap ?_; intro bm) | (refine GK.build0 tb ?_; intro bs)))
  (first | refine G.condP rfl (fun hb => ?_) (fun hb => ?_) | refine G.condN rfl (fun hb => ?_) (fun hb => ?_) | refine G.cond rfl (fun hb => ?_) (fun hb => ?_))
  · have hlt : j < 3 := by omega
    clear hb
    obtain ⟨l, pl, dl, kl, hl, hsl, hl0, hl1, hll⟩ := key j hlt
    (repeat (first | refine GK.ro ?_ | (refine GK.box ?_; intro bl) | (refine GK.mkMap ?_; intro bm) | (refine GK.build0 tb ?_; intro bs)))
    refine GK.weak (fr' := [(2, .pointer (some ⟨bp, 0, none⟩)), (3, .pointer (some ⟨bl, 0, none⟩)), (18, .slice (some ⟨bb, 0, none⟩) 3 3), (19, .int .i64 3), (20, .int .i64 (j : Int)), (24, .slice pl l.length dl), (25, .int .i64 (l.length : Int)), (26, .int .i64 ((0 : Nat) : Int)), (5, .int .i64 t)]) (Γ' := [blk bb 24 (0, 0) [.slice py yes.length cy, .slice pn no.length cn, .slice (some ⟨ba, 0, none⟩) 1 1], blk bl 29 (0, 0) [.int .i64 n, .bool ve], blk bp 27 (0, 0) (propC p (.slice py yes.length cy) (.slice pn no.length cn) tv), poolOf H1]) (by repeat (first | exact trivial | refine ⟨rfl, ?_⟩)) (fun _ s => Sat.sub (by repeat (first | exact SubR.nil | apply SubR.cons 0 rfl | apply SubR.cons 1 rfl | apply SubR.cons 2 rfl | apply SubR.cons 3 rfl | apply SubR.cons 4 rfl | apply SubR.cons 5 rfl | apply SubR.cons 6 rfl | apply SubR.cons 7 rfl | apply SubR.cons 8 rfl | apply SubR.cons 9 rfl | apply SubR.cons 10 rfl | apply SubR.cons 11 rfl | apply SubR.cons 12 rfl | apply SubR.cons 13 rfl | apply SubR.cons 14 rfl | apply SubR.cons 15 rfl)) s)
      (G.loopN (X := Nat × Int) (fun (i, _) => l.length - i) (fun (i, u) => [(2, .pointer (some ⟨bp, 0, none⟩)), (3, .pointer (some ⟨bl, 0, none⟩)), (18, .slice (some ⟨bb, 0, none⟩) 3 3), (19, .int .i64 3), (20, .int .i64 (j : Int)), (24, .slice pl l.length dl), (25, .int .i64 (l.length : Int)), (26, .int .i64 (i : Int)), (5, .int .i64 u)]) (fun _ => [blk bb 24 (0, 0) [.slice py yes.length cy, .slice pn no.length cn, .slice (some ⟨ba, 0, none⟩) 1 1], blk bl 29 (0, 0) [.int .i64 n, .bool ve], blk bp 27 (0, 0) (propC p (.slice py yes.length cy) (.slice pn no.length cn) tv), poolOf H1])
      (fun (i, u) => i ≤ l.length ∧ t + i ≤ u ∧ u ≤ 300) (fun y hy' r hr' => ?_) (0, t) ⟨Nat.zero_le _, by simp, ht1⟩)
    obtain ⟨i, u⟩ := y
    obtain ⟨hi, hu1, hu2⟩ := hy'
    dsimp only at hr'
    (repeat (first | refine GK.ro ?_ | (refine GK.box ?_; intro bl) | (refine GK.mkMap ?_; intro bm) | (refine GK.build0 tb ?_; intro bs)))
    (first | refine G.condP rfl (fun hb => ?_) (fun hb => ?_) | refine G.condN rfl (fun hb => ?_) (fun hb => ?_) | refine G.cond rfl (fun hb => ?_) (fun hb => ?_))
    · obtain ⟨x, hx⟩ : ∃ x, l[i]? = some x := ⟨_, List.getElem?_eq_getElem (by omega)⟩
      have hxl := hsl x (List.mem_of_getElem? hx)
      have hlt2 : i < l.length := by omega
      clear hb
      obtain ⟨pl', dl', e1, _, _, hr⟩ := rs.out hl
      cases e1
      obtain ⟨b1, o1, cs1, et1, fz1, rfl, hb1, hat1⟩ := hr (by omega)
      have hA : cs1[o1 + (i : Int).toNat * 1]? = some (str x) := by have := hat1 i _ (strs_get hx); simpa using this
      (repeat (first | refine GK.ro ?_ | (refine GK.box ?_; intro bl) | (refine GK.mkMap ?_; intro bm) | (refine GK.build0 tb ?_; intro bs)))
      (first | refine G.condP rfl (fun hb => ?_) (fun hb => ?_) | refine G.condN rfl (fun hb => ?_) (fun hb => ?_) | refine G.cond rfl (fun hb => ?_) (fun hb => ?_))
      · (repeat (first | refine GK.ro ?_ | (refine GK.box ?_; intro bl) | (refine GK.mkMap ?_; intro bm) | (refine GK.build0 tb ?_; intro bs)))
        refine GL.cons ?_; refine GO.callA (fun hF' hle hH => lives_ok) (by first | exact Wt.none | exact Wt.some rfl rfl (by first | exact rfl | decide +kernel)) (by kernel_rfl) rfl rfl (by repeat (first | exact SubR.nil | apply SubR.cons 0 rfl | apply SubR.cons 1 rfl | apply SubR.cons 2 rfl | apply SubR.cons 3 rfl | apply SubR.cons 4 rfl | apply SubR.cons 5 rfl | apply SubR.cons 6 rfl | apply SubR.cons 7 rfl | apply SubR.cons 8 rfl | apply SubR.cons 9 rfl | apply SubR.cons 10 rfl | apply SubR.cons 11 rfl | apply SubR.cons 12 rfl | apply SubR.cons 13 rfl | apply SubR.cons 14 rfl | apply SubR.cons 15 rfl)) ?_
        rintro v Γ' ⟨rfl, rfl⟩
        (repeat (first | refine GK.ro ?_ | (refine GK.box ?_; intro bl) | (refine GK.mkMap ?_; intro bm) | (refine GK.build0 tb ?_; intro bs)))
        exact GQ.fin1 rfl (Rv.tmp rfl) (fun _ s => Sat.sub (by repeat (first | exact SubR.nil | apply SubR.cons 0 rfl | apply SubR.cons 1 rfl | apply SubR.cons 2 rfl | apply SubR.cons 3 rfl | apply SubR.cons 4 rfl | apply SubR.cons 5 rfl | apply SubR.cons 6 rfl | apply SubR.cons 7 rfl | apply SubR.cons 8 rfl | apply SubR.cons 9 rfl | apply SubR.cons 10 rfl | apply SubR.cons 11 rfl | apply SubR.cons 12 rfl | apply SubR.cons 13 rfl | apply SubR.cons 14 rfl | apply SubR.cons 15 rfl)) s) ⟨rfl, H1, [], l1, rfl⟩
      · (repeat (first | refine GK.ro ?_ | (refine GK.box ?_; intro bl) | (refine GK.mkMap ?_; intro bm) | (refine GK.build0 tb ?_; intro bs)))
        (refine GQ.againN ((i + 1, u + (1 + ((x.length / 100 : Nat) : Int)))) ?_ ?_ ?_ ?_; rotate_left; (first | omega | (dsimp only; omega)); exact (by repeat (first | exact trivial | refine ⟨rfl, ?_⟩)); exact (fun _ s => Sat.sub (by repeat (first | exact SubR.nil | apply SubR.cons 0 rfl | apply SubR.cons 1 rfl | apply SubR.cons 2 rfl | apply SubR.cons 3 rfl | apply SubR.cons 4 rfl | apply SubR.cons 5 rfl | apply SubR.cons 6 rfl | apply SubR.cons 7 rfl | apply SubR.cons 8 rfl | apply SubR.cons 9 rfl | apply SubR.cons 10 rfl | apply SubR.cons 11 rfl | apply SubR.cons 12 rfl | apply SubR.cons 13 rfl | apply SubR.cons 14 rfl | apply SubR.cons 15 rfl)) s))
        refine ⟨by omega, by omega, by omega⟩
    · (repeat (first | refine GK.ro ?_ | (refine GK.box ?_; intro bl) | (refine GK.mkMap ?_; intro bm) | (refine GK.build0 tb ?_; intro bs)))
      (refine GQ.againN ((j + 1, u)) ?_ ?_ ?_ ?_; rotate_left; (first | omega | (dsimp only; omega)); exact (by repeat (first | exact trivial | refine ⟨rfl, ?_⟩)); exact (fun _ s => Sat.sub (by repeat (first | exact SubR.nil | apply SubR.cons 0 rfl | apply SubR.cons 1 rfl | apply SubR.cons 2 rfl | apply SubR.cons 3 rfl | apply SubR.cons 4 rfl | apply SubR.cons 5 rfl | apply SubR.cons 6 rfl | apply SubR.cons 7 rfl | apply SubR.cons 8 rfl | apply SubR.cons 9 rfl | apply SubR.cons 10 rfl | apply SubR.cons 11 rfl | apply SubR.cons 12 rfl | apply SubR.cons 13 rfl | apply SubR.cons 14 rfl | apply SubR.cons 15 rfl)) s))
      refine ⟨by omega, by omega, hu2, fun h => ?_, fun h => ?_⟩
      · rcases Nat.eq_zero_or_pos j with h0 | h0
        · rw [← hl0 h0]; omega
        · exact hj1 h0
      · rcases Nat.lt_or_ge 1 j with h0 | h0
        · exact hj2 h0
        · rw [← hl1 (by omega)]; omega
  · have hj3 : j = 3 := by omega
    subst hj3
    have m1 := hj1 (by decide)
    have m2 := hj2 (by decide)
    (repeat (first | refine GK.ro ?_ | (refine GK.box ?_; intro bl) | (refine GK.mkMap ?_; intro bm) | (refine GK.build0 tb ?_; intro bs)))
    refine GK.heap (Γ' := [poolOf H1, blk bp 27 (0, 0) (propC p (.slice py yes.length cy) (.slice pn no.length cn) tv), blk bl 29 (0, 0) [.int .i64 n, .bool ve]]) (fun _ s => Sat.sub (by repeat (first | exact SubR.nil | apply SubR.cons 0 rfl | apply SubR.cons 1 rfl | apply SubR.cons 2 rfl | apply SubR.cons 3 rfl | apply SubR.cons 4 rfl | apply SubR.cons 5 rfl | apply SubR.cons 6 rfl | apply SubR.cons 7 rfl | apply SubR.cons 8 rfl | apply SubR.cons 9 rfl | apply SubR.cons 10 rfl | apply SubR.cons 11 rfl | apply SubR.cons 12 rfl | apply SubR.cons 13 rfl | apply SubR.cons 14 rfl | apply SubR.cons 15 rfl)) s) ?_
    refine G.draw [9,10,11] [blk bp 27 (0, 0) (propC p (.slice py yes.length cy) (.slice pn no.length cn) tv)] (by kernel_rfl) ?_
    ((first | refine GH.to 1 ?_ | refine GH.tos 1 ?_); (first | refine GH.to 2 ?_ | refine GH.tos 2 ?_); (first | refine GH.to 5 ?_ | refine GH.tos 5 ?_); (first | refine GH.to 6 ?_ | refine GH.tos 6 ?_))
    refine GH.step2 0 4 rfl rfl (by kernel_rfl) ?_ ?_
    rotate_left
    · refine Gt.build0 tb (by first | exact Wt.none | exact Wt.some rfl rfl (by first | exact rfl | decide +kernel)) rfl rfl ?_
      intro s2
      refine GH.keep (fun _ s => Sat.sub (by repeat (first | exact SubR.nil | apply SubR.cons 0 rfl | apply SubR.cons 1 rfl | apply SubR.cons 2 rfl | apply SubR.cons 3 rfl | apply SubR.cons 4 rfl | apply SubR.cons 5 rfl | apply SubR.cons 6 rfl | apply SubR.cons 7 rfl | apply SubR.cons 8 rfl | apply SubR.cons 9 rfl | apply SubR.cons 10 rfl | apply SubR.cons 11 rfl | apply SubR.cons 12 rfl | apply SubR.cons 13 rfl | apply SubR.cons 14 rfl | apply SubR.cons 15 rfl)) s) ?_
      refine GH.step 0 rfl (by kernel_rfl) ?_
      refine Gt.build0 tb (by first | exact Wt.none | exact Wt.some rfl rfl (by first | exact rfl | decide +kernel)) rfl rfl ?_
      intro s1
      refine GH.keep (fun _ s => Sat.sub (by repeat (first | exact SubR.nil | apply SubR.cons 0 rfl | apply SubR.cons 1 rfl | apply SubR.cons 2 rfl | apply SubR.cons 3 rfl | apply SubR.cons 4 rfl | apply SubR.cons 5 rfl | apply SubR.cons 6 rfl | apply SubR.cons 7 rfl | apply SubR.cons 8 rfl | apply SubR.cons 9 rfl | apply SubR.cons 10 rfl | apply SubR.cons 11 rfl | apply SubR.cons 12 rfl | apply SubR.cons 13 rfl | apply SubR.cons 14 rfl | apply SubR.cons 15 rfl)) s) ?_
      refine GH.step 3 rfl (by kernel_rfl) ?_
      refine Gt.append0 tb 0 (m := yes.length) (by first | exact Wt.none | exact Wt.some rfl rfl (by first | exact rfl | decide +kernel)) rfl (.inl ⟨_, rfl⟩) rfl rfl rfl rfl rfl (RS.src (RS.pool 2 rfl hy1) (strs_cell yes) hly ⟨_, _, rfl⟩) (by omega) (by omega) ?_
      intro qy dy
      refine GH.keep (fun _ s => Sat.sub (by repeat (first | exact SubR.nil | apply SubR.cons 0 rfl | apply SubR.cons 1 rfl | apply SubR.cons 2 rfl | apply SubR.cons 3 rfl | apply SubR.cons 4 rfl | apply SubR.cons 5 rfl | apply SubR.cons 6 rfl | apply SubR.cons 7 rfl | apply SubR.cons 8 rfl | apply SubR.cons 9 rfl | apply SubR.cons 10 rfl | apply SubR.cons 11 rfl | apply SubR.cons 12 rfl | apply SubR.cons 13 rfl | apply SubR.cons 14 rfl | apply SubR.cons 15 rfl)) s) ?_
      ((first | refine GH.to 8 ?_ | refine GH.tos 8 ?_))
      refine GH.step 7 rfl (by kernel_rfl) ?_
      refine Gt.append0 tb 1 (m := no.length) (by first | exact Wt.none | exact Wt.some rfl rfl (by first | exact rfl | decide +kernel)) rfl (.inl ⟨_, rfl⟩) rfl rfl rfl rfl rfl (RS.src (RS.pool 2 rfl hn1) (strs_cell no) hln ⟨_, _, rfl⟩) (by omega) (by omega) ?_
      intro qn dn
      refine GH.keep (fun _ s => Sat.sub (by repeat (first | exact SubR.nil | apply SubR.cons 0 rfl | apply SubR.cons 1 rfl | apply SubR.cons 2 rfl | apply SubR.cons 3 rfl | apply SubR.cons 4 rfl | apply SubR.cons 5 rfl | apply SubR.cons 6 rfl | apply SubR.cons 7 rfl | apply SubR.cons 8 rfl | apply SubR.cons 9 rfl | apply SubR.cons 10 rfl | apply SubR.cons 11 rfl | apply SubR.cons 12 rfl | apply SubR.cons 13 rfl | apply SubR.cons 14 rfl | apply SubR.cons 15 rfl)) s) ?_
      refine GH.weak (fr' := [(2, .pointer (some ⟨bp, 0, none⟩)), (3, .pointer (some ⟨bl, 0, none⟩)), (44, .slice qy yes.length dy), (48, .slice qn no.length dn), (49, .pointer (some ⟨bp, 0 + 36, none⟩))]) (Γ' := [poolOf H1, row (.slice qy yes.length dy) 9 1 yes.length (strs yes), row (.slice qn no.length dn) 9 1 no.length (strs no), blk bl 29 (0, 0) [.int .i64 n, .bool ve], blk bp 27 (0, 0) (propC p (.slice py yes.length cy) (.slice pn no.length cn) tv)]) (by repeat (first | exact trivial | refine ⟨rfl, ?_⟩)) (fun _ s => Sat.sub (by repeat (first | exact SubR.nil | apply SubR.cons 0 rfl | apply SubR.cons 1 rfl | apply SubR.cons 2 rfl | apply SubR.cons 3 rfl | apply SubR.cons 4 rfl | apply SubR.cons 5 rfl | apply SubR.cons 6 rfl | apply SubR.cons 7 rfl | apply SubR.cons 8 rfl | apply SubR.cons 9 rfl | apply SubR.cons 10 rfl | apply SubR.cons 11 rfl | apply SubR.cons 12 rfl | apply SubR.cons 13 rfl | apply SubR.cons 14 rfl | apply SubR.cons 15 rfl)) s) ?_
      refine GH.step 9 rfl (by kernel_rfl) ?_
      refine Gt.storeAt tb 4 (by first | exact Wt.none | exact Wt.some rfl rfl (by first | exact rfl | decide +kernel)) rfl rfl rfl rfl rfl ?_ rfl ?_
      · show 0 + 36 < (propC p (.slice py yes.length cy) (.slice pn no.length cn) tv).length
        rw [hlen]; omega
      rw [show (propC p (.slice py yes.length cy) (.slice pn no.length cn) tv).set (0 + 36) (.slice qy yes.length dy) = propC p (.slice qy yes.length dy) (.slice pn no.length cn) tv from propC_setY hh]
      refine GH.on rfl ?_
      refine GH.step 10 rfl (by kernel_rfl) ?_
      refine GO.yield (by first | exact Wt.none | exact Wt.some rfl rfl (by first | exact rfl | decide +kernel)) (Yt.fieldAddr tb rfl rfl) ?_
      refine GH.on rfl ?_
      refine GH.step 11 rfl (by kernel_rfl) ?_
      refine Gt.storeAt tb 4 (by first | exact Wt.none | exact Wt.some rfl rfl (by first | exact rfl | decide +kernel)) rfl rfl rfl rfl rfl ?_ rfl ?_
      · show 0 + 37 < (propC p (.slice qy yes.length dy) (.slice pn no.length cn) tv).length
        rw [propC_len hh]; omega
      rw [show (propC p (.slice qy yes.length dy) (.slice pn no.length cn) tv).set (0 + 37) (.slice qn no.length dn) = propC p (.slice qy yes.length dy) (.slice qn no.length dn) tv from propC_setN hh]
      refine GH.on rfl ?_
      refine GH.fin (by kernel_rfl) ?_
      refine GK.heap (Γ' := [poolOf H1, row (.slice qy yes.length dy) 9 1 yes.length (strs yes), row (.slice qn no.length dn) 9 1 no.length (strs no), blk bl 29 (0, 0) [.int .i64 n, .bool ve], blk bp 27 (0, 0) (propC p (.slice qy yes.length dy) (.slice qn no.length dn) tv)]) (fun _ s => Sat.sub (by repeat (first | exact SubR.nil | apply SubR.cons 0 rfl | apply SubR.cons 1 rfl | apply SubR.cons 2 rfl | apply SubR.cons 3 rfl | apply SubR.cons 4 rfl | apply SubR.cons 5 rfl | apply SubR.cons 6 rfl | apply SubR.cons 7 rfl | apply SubR.cons 8 rfl | apply SubR.cons 9 rfl | apply SubR.cons 10 rfl | apply SubR.cons 11 rfl | apply SubR.cons 12 rfl | apply SubR.cons 13 rfl | apply SubR.cons 14 rfl | apply SubR.cons 15 rfl)) s) ?_
      refine GK.absorb fun H2 k2' l2 a2 m2' => ?_
      refine GK.absorb fun H3 k3' l3 a3 m3' => ?_
      have gy := (row_in a2 m2').mono l3
      have gn := row_in a3 m3'
      have f1 : (propC p (.slice qy yes.length dy) (.slice qn no.length dn) tv)[0 + 36]? = some (.slice qy yes.length dy) := propC_y hh
      have hlen3 := propC_len (p := p) (y := .slice qy yes.length dy) (n := .slice qn no.length dn) (t := tv) hh
      have f2 : At (propC p (.slice qy yes.length dy) (.slice qn no.length dn) tv) 0 (propC p (.slice qy yes.length dy) (.slice qn no.length dn) tv) := At.all _
      (repeat (first | refine GK.ro ?_ | (refine GK.box ?_; intro bl) | (refine GK.mkMap ?_; intro bm) | (refine GK.build0 tb ?_; intro bs)))
      refine GL.cons ?_
      refine Gt.append0 tb 0 (m := yes.length) (by first | exact Wt.none | exact Wt.some rfl rfl (by first | exact rfl | decide +kernel)) rfl (.inl ⟨_, rfl⟩) rfl rfl rfl rfl rfl (RS.src (RS.pool 1 rfl gy) (strs_cell yes) hly ⟨_, _, rfl⟩) (by omega) (by omega) ?_
      intro qw dw
      (repeat (first | refine GK.ro ?_ | (refine GK.box ?_; intro bl) | (refine GK.mkMap ?_; intro bm) | (refine GK.build0 tb ?_; intro bs)))
      refine GK.heap (Γ' := [poolOf H3, row (.slice qw yes.length dw) 9 1 yes.length (strs yes), blk bl 29 (0, 0) [.int .i64 n, .bool ve], blk bp 27 (0, 0) (propC p (.slice qy yes.length dy) (.slice qn no.length dn) tv)]) (fun _ s => Sat.sub (by repeat (first | exact SubR.nil | apply SubR.cons 0 rfl | apply SubR.cons 1 rfl | apply SubR.cons 2 rfl | apply SubR.cons 3 rfl | apply SubR.cons 4 rfl | apply SubR.cons 5 rfl | apply SubR.cons 6 rfl | apply SubR.cons 7 rfl | apply SubR.cons 8 rfl | apply SubR.cons 9 rfl | apply SubR.cons 10 rfl | apply SubR.cons 11 rfl | apply SubR.cons 12 rfl | apply SubR.cons 13 rfl | apply SubR.cons 14 rfl | apply SubR.cons 15 rfl)) s) ?_
      refine GK.absorb fun H4 k4' l4 a4 m4' => ?_
      have gw := row_in a4 m4'
      have gy4 := gy.mono l4
      have gn4 := gn.mono l4
      refine G.draw [] [blk bl 29 (0, 0) [.int .i64 n, .bool ve], blk bp 27 (0, 0) (propC p (.slice qy yes.length dy) (.slice qn no.length dn) tv)] (by kernel_rfl) ?_
      ((first | refine GH.to 0 ?_ | refine GH.tos 0 ?_); (first | refine GH.to 1 ?_ | refine GH.tos 1 ?_); (first | refine GH.to 3 ?_ | refine GH.tos 3 ?_); (first | refine GH.to 4 ?_ | refine GH.tos 4 ?_))
      refine GH.step 2 rfl (by kernel_rfl) ?_
      refine GO.callA (fun hF' hle hH => passes_ok (n := n) (ve := ve) gy4 gn4 ht hh (by omega) (by omega)) (by first | exact Wt.none | exact Wt.some rfl rfl (by first | exact rfl | decide +kernel)) (by kernel_rfl) rfl rfl (by repeat (first | exact SubR.nil | apply SubR.cons 0 rfl | apply SubR.cons 1 rfl | apply SubR.cons 2 rfl | apply SubR.cons 3 rfl | apply SubR.cons 4 rfl | apply SubR.cons 5 rfl | apply SubR.cons 6 rfl | apply SubR.cons 7 rfl | apply SubR.cons 8 rfl | apply SubR.cons 9 rfl | apply SubR.cons 10 rfl | apply SubR.cons 11 rfl | apply SubR.cons 12 rfl | apply SubR.cons 13 rfl | apply SubR.cons 14 rfl | apply SubR.cons 15 rfl)) ?_
      rintro v Γ' ⟨rfl, rfl⟩
      refine GH.keep (fun _ s => Sat.sub (by repeat (first | exact SubR.nil | apply SubR.cons 0 rfl | apply SubR.cons 1 rfl | apply SubR.cons 2 rfl | apply SubR.cons 3 rfl | apply SubR.cons 4 rfl | apply SubR.cons 5 rfl | apply SubR.cons 6 rfl | apply SubR.cons 7 rfl | apply SubR.cons 8 rfl | apply SubR.cons 9 rfl | apply SubR.cons 10 rfl | apply SubR.cons 11 rfl | apply SubR.cons 12 rfl | apply SubR.cons 13 rfl | apply SubR.cons 14 rfl | apply SubR.cons 15 rfl)) s) ?_
      refine GH.step 5 rfl (by kernel_rfl) ?_
      refine GO.callA (fun hF' hle hH => refPasses_ok (n := n) (ve := ve) gy4 gn4 ht hh (by omega) (by omega)) (by first | exact Wt.none | exact Wt.some rfl rfl (by first | exact rfl | decide +kernel)) (by kernel_rfl) rfl rfl (by repeat (first | exact SubR.nil | apply SubR.cons 0 rfl | apply SubR.cons 1 rfl | apply SubR.cons 2 rfl | apply SubR.cons 3 rfl | apply SubR.cons 4 rfl | apply SubR.cons 5 rfl | apply SubR.cons 6 rfl | apply SubR.cons 7 rfl | apply SubR.cons 8 rfl | apply SubR.cons 9 rfl | apply SubR.cons 10 rfl | apply SubR.cons 11 rfl | apply SubR.cons 12 rfl | apply SubR.cons 13 rfl | apply SubR.cons 14 rfl | apply SubR.cons 15 rfl)) ?_
      rintro v Γ' ⟨rfl, H5, l5, rfl⟩
      refine GH.keep (fun _ s => Sat.sub (by repeat (first | exact SubR.nil | apply SubR.cons 0 rfl | apply SubR.cons 1 rfl | apply SubR.cons 2 rfl | apply SubR.cons 3 rfl | apply SubR.cons 4 rfl | apply SubR.cons 5 rfl | apply SubR.cons 6 rfl | apply SubR.cons 7 rfl | apply SubR.cons 8 rfl | apply SubR.cons 9 rfl | apply SubR.cons 10 rfl | apply SubR.cons 11 rfl | apply SubR.cons 12 rfl | apply SubR.cons 13 rfl | apply SubR.cons 14 rfl | apply SubR.cons 15 rfl)) s) ?_
      ((first | refine GH.to 6 ?_ | refine GH.tos 6 ?_); (first | refine GH.to 7 ?_ | refine GH.tos 7 ?_))
      rw [beq_self_eq_true]
      ((first | refine GH.to 8 ?_ | refine GH.tos 8 ?_); (first | refine GH.to 9 ?_ | refine GH.tos 9 ?_); (first | refine GH.to 10 ?_ | refine GH.tos 10 ?_))
      refine GH.step 11 rfl (by kernel_rfl) ?_
      refine GO.callA (fun hF' hle hH => texts_ok (gy4.mono l5) (gw.mono l5) n1 n1) (by first | exact Wt.none | exact Wt.some rfl rfl (by first | exact rfl | decide +kernel)) (by kernel_rfl) rfl rfl (by repeat (first | exact SubR.nil | apply SubR.cons 0 rfl | apply SubR.cons 1 rfl | apply SubR.cons 2 rfl | apply SubR.cons 3 rfl | apply SubR.cons 4 rfl | apply SubR.cons 5 rfl | apply SubR.cons 6 rfl | apply SubR.cons 7 rfl | apply SubR.cons 8 rfl | apply SubR.cons 9 rfl | apply SubR.cons 10 rfl | apply SubR.cons 11 rfl | apply SubR.cons 12 rfl | apply SubR.cons 13 rfl | apply SubR.cons 14 rfl | apply SubR.cons 15 rfl)) ?_
      rintro v Γ' ⟨rfl, rfl⟩
      rw [decide_eq_true (rfl : yes = yes)]
      refine GH.keep (fun _ s => Sat.sub (by repeat (first | exact SubR.nil | apply SubR.cons 0 rfl | apply SubR.cons 1 rfl | apply SubR.cons 2 rfl | apply SubR.cons 3 rfl | apply SubR.cons 4 rfl | apply SubR.cons 5 rfl | apply SubR.cons 6 rfl | apply SubR.cons 7 rfl | apply SubR.cons 8 rfl | apply SubR.cons 9 rfl | apply SubR.cons 10 rfl | apply SubR.cons 11 rfl | apply SubR.cons 12 rfl | apply SubR.cons 13 rfl | apply SubR.cons 14 rfl | apply SubR.cons 15 rfl)) s) ?_
      ((first | refine GH.to 12 ?_ | refine GH.tos 12 ?_); (first | refine GH.to 13 ?_ | refine GH.tos 13 ?_))
      refine GH.step 14 rfl (by kernel_rfl) ?_
      refine GO.callA (fun hF' hle hH => lives_ok) (by first | exact Wt.none | exact Wt.some rfl rfl (by first | exact rfl | decide +kernel)) (by kernel_rfl) rfl rfl (by repeat (first | exact SubR.nil | apply SubR.cons 0 rfl | apply SubR.cons 1 rfl | apply SubR.cons 2 rfl | apply SubR.cons 3 rfl | apply SubR.cons 4 rfl | apply SubR.cons 5 rfl | apply SubR.cons 6 rfl | apply SubR.cons 7 rfl | apply SubR.cons 8 rfl | apply SubR.cons 9 rfl | apply SubR.cons 10 rfl | apply SubR.cons 11 rfl | apply SubR.cons 12 rfl | apply SubR.cons 13 rfl | apply SubR.cons 14 rfl | apply SubR.cons 15 rfl)) ?_
      rintro v Γ' ⟨rfl, rfl⟩
      refine GH.keep (fun _ s => Sat.sub (by repeat (first | exact SubR.nil | apply SubR.cons 0 rfl | apply SubR.cons 1 rfl | apply SubR.cons 2 rfl | apply SubR.cons 3 rfl | apply SubR.cons 4 rfl | apply SubR.cons 5 rfl | apply SubR.cons 6 rfl | apply SubR.cons 7 rfl | apply SubR.cons 8 rfl | apply SubR.cons 9 rfl | apply SubR.cons 10 rfl | apply SubR.cons 11 rfl | apply SubR.cons 12 rfl | apply SubR.cons 13 rfl | apply SubR.cons 14 rfl | apply SubR.cons 15 rfl)) s) ?_
      ((first | refine GH.to 15 ?_ | refine GH.tos 15 ?_); (first | refine GH.to 16 ?_ | refine GH.tos 16 ?_))
      refine GH.fin (by kernel_rfl) ?_
      (repeat (first | refine GK.ro ?_ | (refine GK.box ?_; intro bl) | (refine GK.mkMap ?_; intro bm) | (refine GK.build0 tb ?_; intro bs)))
      exact GQ.fin1 rfl (Rv.tmp rfl) (fun _ s => Sat.sub (by repeat (first | exact SubR.nil | apply SubR.cons 0 rfl | apply SubR.cons 1 rfl | apply SubR.cons 2 rfl | apply SubR.cons 3 rfl | apply SubR.cons 4 rfl | apply SubR.cons 5 rfl | apply SubR.cons 6 rfl | apply SubR.cons 7 rfl | apply SubR.cons 8 rfl | apply SubR.cons 9 rfl | apply SubR.cons 10 rfl | apply SubR.cons 11 rfl | apply SubR.cons 12 rfl | apply SubR.cons 13 rfl | apply SubR.cons 14 rfl | apply SubR.cons 15 rfl)) s) ⟨rfl, H5, [], (((l1.trans l2).trans l3).trans l4).trans l5, rfl⟩
    · refine Gt.build0 tb (by first | exact Wt.none | exact Wt.some rfl rfl (by first | exact rfl | decide +kernel)) rfl rfl ?_
      intro s1
      refine GH.keep (fun _ s => Sat.sub (by repeat (first | exact SubR.nil | apply SubR.cons 0 rfl | apply SubR.cons 1 rfl | apply SubR.cons 2 rfl | apply SubR.cons 3 rfl | apply SubR.cons 4 rfl | apply SubR.cons 5 rfl | apply SubR.cons 6 rfl | apply SubR.cons 7 rfl | apply SubR.cons 8 rfl | apply SubR.cons 9 rfl | apply SubR.cons 10 rfl | apply SubR.cons 11 rfl | apply SubR.cons 12 rfl | apply SubR.cons 13 rfl | apply SubR.cons 14 rfl | apply SubR.cons 15 rfl)) s) ?_
      refine GH.step2 3 4 rfl rfl (by kernel_rfl) ?_ ?_
      · refine Gt.append0 tb 0 (m := yes.length) (by first | exact Wt.none | exact Wt.some rfl rfl (by first | exact rfl | decide +kernel)) rfl (.inl ⟨_, rfl⟩) rfl rfl rfl rfl rfl (RS.src (RS.pool 1 rfl hy1) (strs_cell yes) hly ⟨_, _, rfl⟩) (by omega) (by omega) ?_
        intro qy dy
        refine GH.keep (fun _ s => Sat.sub (by repeat (first | exact SubR.nil | apply SubR.cons 0 rfl | apply SubR.cons 1 rfl | apply SubR.cons 2 rfl | apply SubR.cons 3 rfl | apply SubR.cons 4 rfl | apply SubR.cons 5 rfl | apply SubR.cons 6 rfl | apply SubR.cons 7 rfl | apply SubR.cons 8 rfl | apply SubR.cons 9 rfl | apply SubR.cons 10 rfl | apply SubR.cons 11 rfl | apply SubR.cons 12 rfl | apply SubR.cons 13 rfl | apply SubR.cons 14 rfl | apply SubR.cons 15 rfl)) s) ?_
        ((first | refine GH.to 8 ?_ | refine GH.tos 8 ?_))
        refine GH.step 4 rfl (by kernel_rfl) ?_
        refine Gt.build0 tb (by first | exact Wt.none | exact Wt.some rfl rfl (by first | exact rfl | decide +kernel)) rfl rfl ?_
        intro s2
        refine GH.keep (fun _ s => Sat.sub (by repeat (first | exact SubR.nil | apply SubR.cons 0 rfl | apply SubR.cons 1 rfl | apply SubR.cons 2 rfl | apply SubR.cons 3 rfl | apply SubR.cons 4 rfl | apply SubR.cons 5 rfl | apply SubR.cons 6 rfl | apply SubR.cons 7 rfl | apply SubR.cons 8 rfl | apply SubR.cons 9 rfl | apply SubR.cons 10 rfl | apply SubR.cons 11 rfl | apply SubR.cons 12 rfl | apply SubR.cons 13 rfl | apply SubR.cons 14 rfl | apply SubR.cons 15 rfl)) s) ?_
        refine GH.step 7 rfl (by kernel_rfl) ?_
        refine Gt.append0 tb 0 (m := no.length) (by first | exact Wt.none | exact Wt.some rfl rfl (by first | exact rfl | decide +kernel)) rfl (.inl ⟨_, rfl⟩) rfl rfl rfl rfl rfl (RS.src (RS.pool 2 rfl hn1) (strs_cell no) hln ⟨_, _, rfl⟩) (by omega) (by omega) ?_
        intro qn dn
        refine GH.keep (fun _ s => Sat.sub (by repeat (first | exact SubR.nil | apply SubR.cons 0 rfl | apply SubR.cons 1 rfl | apply SubR.cons 2 rfl | apply SubR.cons 3 rfl | apply SubR.cons 4 rfl | apply SubR.cons 5 rfl | apply SubR.cons 6 rfl | apply SubR.cons 7 rfl | apply SubR.cons 8 rfl | apply SubR.cons 9 rfl | apply SubR.cons 10 rfl | apply SubR.cons 11 rfl | apply SubR.cons 12 rfl | apply SubR.cons 13 rfl | apply SubR.cons 14 rfl | apply SubR.cons 15 rfl)) s) ?_
        refine GH.weak (fr' := [(2, .pointer (some ⟨bp, 0, none⟩)), (3, .pointer (some ⟨bl, 0, none⟩)), (44, .slice qy yes.length dy), (48, .slice qn no.length dn), (49, .pointer (some ⟨bp, 0 + 36, none⟩))]) (Γ' := [poolOf H1, row (.slice qy yes.length dy) 9 1 yes.length (strs yes), row (.slice qn no.length dn) 9 1 no.length (strs no), blk bl 29 (0, 0) [.int .i64 n, .bool ve], blk bp 27 (0, 0) (propC p (.slice py yes.length cy) (.slice pn no.length cn) tv)]) (by repeat (first | exact trivial | refine ⟨rfl, ?_⟩)) (fun _ s => Sat.sub (by repeat (first | exact SubR.nil | apply SubR.cons 0 rfl | apply SubR.cons 1 rfl | apply SubR.cons 2 rfl | apply SubR.cons 3 rfl | apply SubR.cons 4 rfl | apply SubR.cons 5 rfl | apply SubR.cons 6 rfl | apply SubR.cons 7 rfl | apply SubR.cons 8 rfl | apply SubR.cons 9 rfl | apply SubR.cons 10 rfl | apply SubR.cons 11 rfl | apply SubR.cons 12 rfl | apply SubR.cons 13 rfl | apply SubR.cons 14 rfl | apply SubR.cons 15 rfl)) s) ?_
        refine GH.step 9 rfl (by kernel_rfl) ?_
        refine Gt.storeAt tb 4 (by first | exact Wt.none | exact Wt.some rfl rfl (by first | exact rfl | decide +kernel)) rfl rfl rfl rfl rfl ?_ rfl ?_
        · show 0 + 36 < (propC p (.slice py yes.length cy) (.slice pn no.length cn) tv).length
          rw [hlen]; omega
        rw [show (propC p (.slice py yes.length cy) (.slice pn no.length cn) tv).set (0 + 36) (.slice qy yes.length dy) = propC p (.slice qy yes.length dy) (.slice pn no.length cn) tv from propC_setY hh]
        refine GH.on rfl ?_
        refine GH.step 10 rfl (by kernel_rfl) ?_
        refine GO.yield (by first | exact Wt.none | exact Wt.some rfl rfl (by first | exact rfl | decide +kernel)) (Yt.fieldAddr tb rfl rfl) ?_
        refine GH.on rfl ?_
        refine GH.step 11 rfl (by kernel_rfl) ?_
        refine Gt.storeAt tb 4 (by first | exact Wt.none | exact Wt.some rfl rfl (by first | exact rfl | decide +kernel)) rfl rfl rfl rfl rfl ?_ rfl ?_
        · show 0 + 37 < (propC p (.slice qy yes.length dy) (.slice pn no.length cn) tv).length
          rw [propC_len hh]; omega
        rw [show (propC p (.slice qy yes.length dy) (.slice pn no.length cn) tv).set (0 + 37) (.slice qn no.length dn) = propC p (.slice qy yes.length dy) (.slice qn no.length dn) tv from propC_setN hh]
        refine GH.on rfl ?_
        refine GH.fin (by kernel_rfl) ?_
        refine GK.heap (Γ' := [poolOf H1, row (.slice qy yes.length dy) 9 1 yes.length (strs yes), row (.slice qn no.length dn) 9 1 no.length (strs no), blk bl 29 (0, 0) [.int .i64 n, .bool ve], blk bp 27 (0, 0) (propC p (.slice qy yes.length dy) (.slice qn no.length dn) tv)]) (fun _ s => Sat.sub (by repeat (first | exact SubR.nil | apply SubR.cons 0 rfl | apply SubR.cons 1 rfl | apply SubR.cons 2 rfl | apply SubR.cons 3 rfl | apply SubR.cons 4 rfl | apply SubR.cons 5 rfl | apply SubR.cons 6 rfl | apply SubR.cons 7 rfl | apply SubR.cons 8 rfl | apply SubR.cons 9 rfl | apply SubR.cons 10 rfl | apply SubR.cons 11 rfl | apply SubR.cons 12 rfl | apply SubR.cons 13 rfl | apply SubR.cons 14 rfl | apply SubR.cons 15 rfl)) s) ?_
        refine GK.absorb fun H2 k2' l2 a2 m2' => ?_
        refine GK.absorb fun H3 k3' l3 a3 m3' => ?_
        have gy := (row_in a2 m2').mono l3
        have gn := row_in a3 m3'
        have f1 : (propC p (.slice qy yes.length dy) (.slice qn no.length dn) tv)[0 + 36]? = some (.slice qy yes.length dy) := propC_y hh
        have hlen3 := propC_len (p := p) (y := .slice qy yes.length dy) (n := .slice qn no.length dn) (t := tv) hh
        have f2 : At (propC p (.slice qy yes.length dy) (.slice qn no.length dn) tv) 0 (propC p (.slice qy yes.length dy) (.slice qn no.length dn) tv) := At.all _
        (repeat (first | refine GK.ro ?_ | (refine GK.box ?_; intro bl) | (refine GK.mkMap ?_; intro bm) | (refine GK.build0 tb ?_; intro bs)))
        refine GL.cons ?_
        refine Gt.append0 tb 0 (m := yes.length) (by first | exact Wt.none | exact Wt.some rfl rfl (by first | exact rfl | decide +kernel)) rfl (.inl ⟨_, rfl⟩) rfl rfl rfl rfl rfl (RS.src (RS.pool 1 rfl gy) (strs_cell yes) hly ⟨_, _, rfl⟩) (by omega) (by omega) ?_
        intro qw dw
        (repeat (first | refine GK.ro ?_ | (refine GK.box ?_; intro bl) | (refine GK.mkMap ?_; intro bm) | (refine GK.build0 tb ?_; intro bs)))
        refine GK.heap (Γ' := [poolOf H3, row (.slice qw yes.length dw) 9 1 yes.length (strs yes), blk bl 29 (0, 0) [.int .i64 n, .bool ve], blk bp 27 (0, 0) (propC p (.slice qy yes.length dy) (.slice qn no.length dn) tv)]) (fun _ s => Sat.sub (by repeat (first | exact SubR.nil | apply SubR.cons 0 rfl | apply SubR.cons 1 rfl | apply SubR.cons 2 rfl | apply SubR.cons 3 rfl | apply SubR.cons 4 rfl | apply SubR.cons 5 rfl | apply SubR.cons 6 rfl | apply SubR.cons 7 rfl | apply SubR.cons 8 rfl | apply SubR.cons 9 rfl | apply SubR.cons 10 rfl | apply SubR.cons 11 rfl | apply SubR.cons 12 rfl | apply SubR.cons 13 rfl | apply SubR.cons 14 rfl | apply SubR.cons 15 rfl)) s) ?_
        refine GK.absorb fun H4 k4' l4 a4 m4' => ?_
        have gw := row_in a4 m4'
        have gy4 := gy.mono l4
        have gn4 := gn.mono l4
        refine G.draw [] [blk bl 29 (0, 0) [.int .i64 n, .bool ve], blk bp 27 (0, 0) (propC p (.slice qy yes.length dy) (.slice qn no.length dn) tv)] (by kernel_rfl) ?_
        ((first | refine GH.to 0 ?_ | refine GH.tos 0 ?_); (first | refine GH.to 1 ?_ | refine GH.tos 1 ?_); (first | refine GH.to 3 ?_ | refine GH.tos 3 ?_); (first | refine GH.to 4 ?_ | refine GH.tos 4 ?_))
        refine GH.step 2 rfl (by kernel_rfl) ?_
        refine GO.callA (fun hF' hle hH => passes_ok (n := n) (ve := ve) gy4 gn4 ht hh (by omega) (by omega)) (by first | exact Wt.none | exact Wt.some rfl rfl (by first | exact rfl | decide +kernel)) (by kernel_rfl) rfl rfl (by repeat (first | exact SubR.nil | apply SubR.cons 0 rfl | apply SubR.cons 1 rfl | apply SubR.cons 2 rfl | apply SubR.cons 3 rfl | apply SubR.cons 4 rfl | apply SubR.cons 5 rfl | apply SubR.cons 6 rfl | apply SubR.cons 7 rfl | apply SubR.cons 8 rfl | apply SubR.cons 9 rfl | apply SubR.cons 10 rfl | apply SubR.cons 11 rfl | apply SubR.cons 12 rfl | apply SubR.cons 13 rfl | apply SubR.cons 14 rfl | apply SubR.cons 15 rfl)) ?_
        rintro v Γ' ⟨rfl, rfl⟩
        refine GH.keep (fun _ s => Sat.sub (by repeat (first | exact SubR.nil | apply SubR.cons 0 rfl | apply SubR.cons 1 rfl | apply SubR.cons 2 rfl | apply SubR.cons 3 rfl | apply SubR.cons 4 rfl | apply SubR.cons 5 rfl | apply SubR.cons 6 rfl | apply SubR.cons 7 rfl | apply SubR.cons 8 rfl | apply SubR.cons 9 rfl | apply SubR.cons 10 rfl | apply SubR.cons 11 rfl | apply SubR.cons 12 rfl | apply SubR.cons 13 rfl | apply SubR.cons 14 rfl | apply SubR.cons 15 rfl)) s) ?_
        refine GH.step 5 rfl (by kernel_rfl) ?_
        refine GO.callA (fun hF' hle hH => refPasses_ok (n := n) (ve := ve) gy4 gn4 ht hh (by omega) (by omega)) (by first | exact Wt.none | exact Wt.some rfl rfl (by first | exact rfl | decide +kernel)) (by kernel_rfl) rfl rfl (by repeat (first | exact SubR.nil | apply SubR.cons 0 rfl | apply SubR.cons 1 rfl | apply SubR.cons 2 rfl | apply SubR.cons 3 rfl | apply SubR.cons 4 rfl | apply SubR.cons 5 rfl | apply SubR.cons 6 rfl | apply SubR.cons 7 rfl | apply SubR.cons 8 rfl | apply SubR.cons 9 rfl | apply SubR.cons 10 rfl | apply SubR.cons 11 rfl | apply SubR.cons 12 rfl | apply SubR.cons 13 rfl | apply SubR.cons 14 rfl | apply SubR.cons 15 rfl)) ?_
        rintro v Γ' ⟨rfl, H5, l5, rfl⟩
        refine GH.keep (fun _ s => Sat.sub (by repeat (first | exact SubR.nil | apply SubR.cons 0 rfl | apply SubR.cons 1 rfl | apply SubR.cons 2 rfl | apply SubR.cons 3 rfl | apply SubR.cons 4 rfl | apply SubR.cons 5 rfl | apply SubR.cons 6 rfl | apply SubR.cons 7 rfl | apply SubR.cons 8 rfl | apply SubR.cons 9 rfl | apply SubR.cons 10 rfl | apply SubR.cons 11 rfl | apply SubR.cons 12 rfl | apply SubR.cons 13 rfl | apply SubR.cons 14 rfl | apply SubR.cons 15 rfl)) s) ?_
        ((first | refine GH.to 6 ?_ | refine GH.tos 6 ?_); (first | refine GH.to 7 ?_ | refine GH.tos 7 ?_))
        rw [beq_self_eq_true]
        ((first | refine GH.to 8 ?_ | refine GH.tos 8 ?_); (first | refine GH.to 9 ?_ | refine GH.tos 9 ?_); (first | refine GH.to 10 ?_ | refine GH.tos 10 ?_))
        refine GH.step 11 rfl (by kernel_rfl) ?_
        refine GO.callA (fun hF' hle hH => texts_ok (gy4.mono l5) (gw.mono l5) n1 n1) (by first | exact Wt.none | exact Wt.some rfl rfl (by first | exact rfl | decide +kernel)) (by kernel_rfl) rfl rfl (by repeat (first | exact SubR.nil | apply SubR.cons 0 rfl | apply SubR.cons 1 rfl | apply SubR.cons 2 rfl | apply SubR.cons 3 rfl | apply SubR.cons 4 rfl | apply SubR.cons 5 rfl | apply SubR.cons 6 rfl | apply SubR.cons 7 rfl | apply SubR.cons 8 rfl | apply SubR.cons 9 rfl | apply SubR.cons 10 rfl | apply SubR.cons 11 rfl | apply SubR.cons 12 rfl | apply SubR.cons 13 rfl | apply SubR.cons 14 rfl | apply SubR.cons 15 rfl)) ?_
        rintro v Γ' ⟨rfl, rfl⟩
        rw [decide_eq_true (rfl : yes = yes)]
        refine GH.keep (fun _ s => Sat.sub (by repeat (first | exact SubR.nil | apply SubR.cons 0 rfl | apply SubR.cons 1 rfl | apply SubR.cons 2 rfl | apply SubR.cons 3 rfl | apply SubR.cons 4 rfl | apply SubR.cons 5 rfl | apply SubR.cons 6 rfl | apply SubR.cons 7 rfl | apply SubR.cons 8 rfl | apply SubR.cons 9 rfl | apply SubR.cons 10 rfl | apply SubR.cons 11 rfl | apply SubR.cons 12 rfl | apply SubR.cons 13 rfl | apply SubR.cons 14 rfl | apply SubR.cons 15 rfl)) s) ?_
        ((first | refine GH.to 12 ?_ | refine GH.tos 12 ?_); (first | refine GH.to 13 ?_ | refine GH.tos 13 ?_))
        refine GH.step 14 rfl (by kernel_rfl) ?_
        refine GO.callA (fun hF' hle hH => lives_ok) (by first | exact Wt.none | exact Wt.some rfl rfl (by first | exact rfl | decide +kernel)) (by kernel_rfl) rfl rfl (by repeat (first | exact SubR.nil | apply SubR.cons 0 rfl | apply SubR.cons 1 rfl | apply SubR.cons 2 rfl | apply SubR.cons 3 rfl | apply SubR.cons 4 rfl | apply SubR.cons 5 rfl | apply SubR.cons 6 rfl | apply SubR.cons 7 rfl | apply SubR.cons 8 rfl | apply SubR.cons 9 rfl | apply SubR.cons 10 rfl | apply SubR.cons 11 rfl | apply SubR.cons 12 rfl | apply SubR.cons 13 rfl | apply SubR.cons 14 rfl | apply SubR.cons 15 rfl)) ?_
        rintro v Γ' ⟨rfl, rfl⟩
        refine GH.keep (fun _ s => Sat.sub (by repeat (first | exact SubR.nil | apply SubR.cons 0 rfl | apply SubR.cons 1 rfl | apply SubR.cons 2 rfl | apply SubR.cons 3 rfl | apply SubR.cons 4 rfl | apply SubR.cons 5 rfl | apply SubR.cons 6 rfl | apply SubR.cons 7 rfl | apply SubR.cons 8 rfl | apply SubR.cons 9 rfl | apply SubR.cons 10 rfl | apply SubR.cons 11 rfl | apply SubR.cons 12 rfl | apply SubR.cons 13 rfl | apply SubR.cons 14 rfl | apply SubR.cons 15 rfl)) s) ?_
        ((first | refine GH.to 15 ?_ | refine GH.tos 15 ?_); (first | refine GH.to 16 ?_ | refine GH.tos 16 ?_))
        refine GH.fin (by kernel_rfl) ?_
        (repeat (first | refine GK.ro ?_ | (refine GK.box ?_; intro bl) | (refine GK.mkMap ?_; intro bm) | (refine GK.build0 tb ?_; intro bs)))
        exact GQ.fin1 rfl (Rv.tmp rfl) (fun _ s => Sat.sub (by repeat (first | exact SubR.nil | apply SubR.cons 0 rfl | apply SubR.cons 1 rfl | apply SubR.cons 2 rfl | apply SubR.cons 3 rfl | apply SubR.cons 4 rfl | apply SubR.cons 5 rfl | apply SubR.cons 6 rfl | apply SubR.cons 7 rfl | apply SubR.cons 8 rfl | apply SubR.cons 9 rfl | apply SubR.cons 10 rfl | apply SubR.cons 11 rfl | apply SubR.cons 12 rfl | apply SubR.cons 13 rfl | apply SubR.cons 14 rfl | apply SubR.cons 15 rfl)) s) ⟨rfl, H5, [], (((l1.trans l2).trans l3).trans l4).trans l5, rfl⟩
      · refine Gt.build0 tb (by first | exact Wt.none | exact Wt.some rfl rfl (by first | exact rfl | decide +kernel)) rfl rfl ?_
        intro s2
        refine GH.keep (fun _ s => Sat.sub (by repeat (first | exact SubR.nil | apply SubR.cons 0 rfl | apply SubR.cons 1 rfl | apply SubR.cons 2 rfl | apply SubR.cons 3 rfl | apply SubR.cons 4 rfl | apply SubR.cons 5 rfl | apply SubR.cons 6 rfl | apply SubR.cons 7 rfl | apply SubR.cons 8 rfl | apply SubR.cons 9 rfl | apply SubR.cons 10 rfl | apply SubR.cons 11 rfl | apply SubR.cons 12 rfl | apply SubR.cons 13 rfl | apply SubR.cons 14 rfl | apply SubR.cons 15 rfl)) s) ?_
        refine GH.step 3 rfl (by kernel_rfl) ?_
        refine Gt.append0 tb 1 (m := yes.length) (by first | exact Wt.none | exact Wt.some rfl rfl (by first | exact rfl | decide +kernel)) rfl (.inl ⟨_, rfl⟩) rfl rfl rfl rfl rfl (RS.src (RS.pool 2 rfl hy1) (strs_cell yes) hly ⟨_, _, rfl⟩) (by omega) (by omega) ?_
        intro qy dy
        refine GH.keep (fun _ s => Sat.sub (by repeat (first | exact SubR.nil | apply SubR.cons 0 rfl | apply SubR.cons 1 rfl | apply SubR.cons 2 rfl | apply SubR.cons 3 rfl | apply SubR.cons 4 rfl | apply SubR.cons 5 rfl | apply SubR.cons 6 rfl | apply SubR.cons 7 rfl | apply SubR.cons 8 rfl | apply SubR.cons 9 rfl | apply SubR.cons 10 rfl | apply SubR.cons 11 rfl | apply SubR.cons 12 rfl | apply SubR.cons 13 rfl | apply SubR.cons 14 rfl | apply SubR.cons 15 rfl)) s) ?_
        ((first | refine GH.to 8 ?_ | refine GH.tos 8 ?_))
        refine GH.step 7 rfl (by kernel_rfl) ?_
        refine Gt.append0 tb 1 (m := no.length) (by first | exact Wt.none | exact Wt.some rfl rfl (by first | exact rfl | decide +kernel)) rfl (.inl ⟨_, rfl⟩) rfl rfl rfl rfl rfl (RS.src (RS.pool 2 rfl hn1) (strs_cell no) hln ⟨_, _, rfl⟩) (by omega) (by omega) ?_
        intro qn dn
        refine GH.keep (fun _ s => Sat.sub (by repeat (first | exact SubR.nil | apply SubR.cons 0 rfl | apply SubR.cons 1 rfl | apply SubR.cons 2 rfl | apply SubR.cons 3 rfl | apply SubR.cons 4 rfl | apply SubR.cons 5 rfl | apply SubR.cons 6 rfl | apply SubR.cons 7 rfl | apply SubR.cons 8 rfl | apply SubR.cons 9 rfl | apply SubR.cons 10 rfl | apply SubR.cons 11 rfl | apply SubR.cons 12 rfl | apply SubR.cons 13 rfl | apply SubR.cons 14 rfl | apply SubR.cons 15 rfl)) s) ?_
        refine GH.weak (fr' := [(2, .pointer (some ⟨bp, 0, none⟩)), (3, .pointer (some ⟨bl, 0, none⟩)), (44, .slice qy yes.length dy), (48, .slice qn no.length dn), (49, .pointer (some ⟨bp, 0 + 36, none⟩))]) (Γ' := [poolOf H1, row (.slice qy yes.length dy) 9 1 yes.length (strs yes), row (.slice qn no.length dn) 9 1 no.length (strs no), blk bl 29 (0, 0) [.int .i64 n, .bool ve], blk bp 27 (0, 0) (propC p (.slice py yes.length cy) (.slice pn no.length cn) tv)]) (by repeat (first | exact trivial | refine ⟨rfl, ?_⟩)) (fun _ s => Sat.sub (by repeat (first | exact SubR.nil | apply SubR.cons 0 rfl | apply SubR.cons 1 rfl | apply SubR.cons 2 rfl | apply SubR.cons 3 rfl | apply SubR.cons 4 rfl | apply SubR.cons 5 rfl | apply SubR.cons 6 rfl | apply SubR.cons 7 rfl | apply SubR.cons 8 rfl | apply SubR.cons 9 rfl | apply SubR.cons 10 rfl | apply SubR.cons 11 rfl | apply SubR.cons 12 rfl | apply SubR.cons 13 rfl | apply SubR.cons 14 rfl | apply SubR.cons 15 rfl)) s) ?_
        refine GH.step 9 rfl (by kernel_rfl) ?_
        refine Gt.storeAt tb 4 (by first | exact Wt.none | exact Wt.some rfl rfl (by first | exact rfl | decide +kernel)) rfl rfl rfl rfl rfl ?_ rfl ?_
        · show 0 + 36 < (propC p (.slice py yes.length cy) (.slice pn no.length cn) tv).length
          rw [hlen]; omega
        rw [show (propC p (.slice py yes.length cy) (.slice pn no.length cn) tv).set (0 + 36) (.slice qy yes.length dy) = propC p (.slice qy yes.length dy) (.slice pn no.length cn) tv from propC_setY hh]
        refine GH.on rfl ?_
        refine GH.step 10 rfl (by kernel_rfl) ?_
        refine GO.yield (by first | exact Wt.none | exact Wt.some rfl rfl (by first | exact rfl | decide +kernel)) (Yt.fieldAddr tb rfl rfl) ?_
        refine GH.on rfl ?_
        refine GH.step 11 rfl (by kernel_rfl) ?_
        refine Gt.storeAt tb 4 (by first | exact Wt.none | exact Wt.some rfl rfl (by first | exact rfl | decide +kernel)) rfl rfl rfl rfl rfl ?_ rfl ?_
        · show 0 + 37 < (propC p (.slice qy yes.length dy) (.slice pn no.length cn) tv).length
          rw [propC_len hh]; omega
        rw [show (propC p (.slice qy yes.length dy) (.slice pn no.length cn) tv).set (0 + 37) (.slice qn no.length dn) = propC p (.slice qy yes.length dy) (.slice qn no.length dn) tv from propC_setN hh]
        refine GH.on rfl ?_
        refine GH.fin (by kernel_rfl) ?_
        refine GK.heap (Γ' := [poolOf H1, row (.slice qy yes.length dy) 9 1 yes.length (strs yes), row (.slice qn no.length dn) 9 1 no.length (strs no), blk bl 29 (0, 0) [.int .i64 n, .bool ve], blk bp 27 (0, 0) (propC p (.slice qy yes.length dy) (.slice qn no.length dn) tv)]) (fun _ s => Sat.sub (by repeat (first | exact SubR.nil | apply SubR.cons 0 rfl | apply SubR.cons 1 rfl | apply SubR.cons 2 rfl | apply SubR.cons 3 rfl | apply SubR.cons 4 rfl | apply SubR.cons 5 rfl | apply SubR.cons 6 rfl | apply SubR.cons 7 rfl | apply SubR.cons 8 rfl | apply SubR.cons 9 rfl | apply SubR.cons 10 rfl | apply SubR.cons 11 rfl | apply SubR.cons 12 rfl | apply SubR.cons 13 rfl | apply SubR.cons 14 rfl | apply SubR.cons 15 rfl)) s) ?_
        refine GK.absorb fun H2 k2' l2 a2 m2' => ?_
        refine GK.absorb fun H3 k3' l3 a3 m3' => ?_
        have gy := (row_in a2 m2').mono l3
        have gn := row_in a3 m3'
        have f1 : (propC p (.slice qy yes.length dy) (.slice qn no.length dn) tv)[0 + 36]? = some (.slice qy yes.length dy) := propC_y hh
        have hlen3 := propC_len (p := p) (y := .slice qy yes.length dy) (n := .slice qn no.length dn) (t := tv) hh
        have f2 : At (propC p (.slice qy yes.length dy) (.slice qn no.length dn) tv) 0 (propC p (.slice qy yes.length dy) (.slice qn no.length dn) tv) := At.all _
        (repeat (first | refine GK.ro ?_ | (refine GK.box ?_; intro bl) | (refine GK.mkMap ?_; intro bm) | (refine GK.build0 tb ?_; intro bs)))
        refine GL.cons ?_
        refine Gt.append0 tb 0 (m := yes.length) (by first | exact Wt.none | exact Wt.some rfl rfl (by first | exact rfl | decide +kernel)) rfl (.inl ⟨_, rfl⟩) rfl rfl rfl rfl rfl (RS.src (RS.pool 1 rfl gy) (strs_cell yes) hly ⟨_, _, rfl⟩) (by omega) (by omega) ?_
        intro qw dw
        (repeat (first | refine GK.ro ?_ | (refine GK.box ?_; intro bl) | (refine GK.mkMap ?_; intro bm) | (refine GK.build0 tb ?_; intro bs)))
        refine GK.heap (Γ' := [poolOf H3, row (.slice qw yes.length dw) 9 1 yes.length (strs yes), blk bl 29 (0, 0) [.int .i64 n, .bool ve], blk bp 27 (0, 0) (propC p (.slice qy yes.length dy) (.slice qn no.length dn) tv)]) (fun _ s => Sat.sub (by repeat (first | exact SubR.nil | apply SubR.cons 0 rfl | apply SubR.cons 1 rfl | apply SubR.cons 2 rfl | apply SubR.cons 3 rfl | apply SubR.cons 4 rfl | apply SubR.cons 5 rfl | apply SubR.cons 6 rfl | apply SubR.cons 7 rfl | apply SubR.cons 8 rfl | apply SubR.cons 9 rfl | apply SubR.cons 10 rfl | apply SubR.cons 11 rfl | apply SubR.cons 12 rfl | apply SubR.cons 13 rfl | apply SubR.cons 14 rfl | apply SubR.cons 15 rfl)) s) ?_
        refine GK.absorb fun H4 k4' l4 a4 m4' => ?_
        have gw := row_in a4 m4'
        have gy4 := gy.mono l4
        have gn4 := gn.mono l4
        refine G.draw [] [blk bl 29 (0, 0) [.int .i64 n, .bool ve], blk bp 27 (0, 0) (propC p (.slice qy yes.length dy) (.slice qn no.length dn) tv)] (by kernel_rfl) ?_
        ((first | refine GH.to 0 ?_ | refine GH.tos 0 ?_); (first | refine GH.to 1 ?_ | refine GH.tos 1 ?_); (first | refine GH.to 3 ?_ | refine GH.tos 3 ?_); (first | refine GH.to 4 ?_ | refine GH.tos 4 ?_))
        refine GH.step 2 rfl (by kernel_rfl) ?_
        refine GO.callA (fun hF' hle hH => passes_ok (n := n) (ve := ve) gy4 gn4 ht hh (by omega) (by omega)) (by first | exact Wt.none | exact Wt.some rfl rfl (by first | exact rfl | decide +kernel)) (by kernel_rfl) rfl rfl (by repeat (first | exact SubR.nil | apply SubR.cons 0 rfl | apply SubR.cons 1 rfl | apply SubR.cons 2 rfl | apply SubR.cons 3 rfl | apply SubR.cons 4 rfl | apply SubR.cons 5 rfl | apply SubR.cons 6 rfl | apply SubR.cons 7 rfl | apply SubR.cons 8 rfl | apply SubR.cons 9 rfl | apply SubR.cons 10 rfl | apply SubR.cons 11 rfl | apply SubR.cons 12 rfl | apply SubR.cons 13 rfl | apply SubR.cons 14 rfl | apply SubR.cons 15 rfl)) ?_
        rintro v Γ' ⟨rfl, rfl⟩
        refine GH.keep (fun _ s => Sat.sub (by repeat (first | exact SubR.nil | apply SubR.cons 0 rfl | apply SubR.cons 1 rfl | apply SubR.cons 2 rfl | apply SubR.cons 3 rfl | apply SubR.cons 4 rfl | apply SubR.cons 5 rfl | apply SubR.cons 6 rfl | apply SubR.cons 7 rfl | apply SubR.cons 8 rfl | apply SubR.cons 9 rfl | apply SubR.cons 10 rfl | apply SubR.cons 11 rfl | apply SubR.cons 12 rfl | apply SubR.cons 13 rfl | apply SubR.cons 14 rfl | apply SubR.cons 15 rfl)) s) ?_
        refine GH.step 5 rfl (by kernel_rfl) ?_
        refine GO.callA (fun hF' hle hH => refPasses_ok (n := n) (ve := ve) gy4 gn4 ht hh (by omega) (by omega)) (by first | exact Wt.none | exact Wt.some rfl rfl (by first | exact rfl | decide +kernel)) (by kernel_rfl) rfl rfl (by repeat (first | exact SubR.nil | apply SubR.cons 0 rfl | apply SubR.cons 1 rfl | apply SubR.cons 2 rfl | apply SubR.cons 3 rfl | apply SubR.cons 4 rfl | apply SubR.cons 5 rfl | apply SubR.cons 6 rfl | apply SubR.cons 7 rfl | apply SubR.cons 8 rfl | apply SubR.cons 9 rfl | apply SubR.cons 10 rfl | apply SubR.cons 11 rfl | apply SubR.cons 12 rfl | apply SubR.cons 13 rfl | apply SubR.cons 14 rfl | apply SubR.cons 15 rfl)) ?_
        rintro v Γ' ⟨rfl, H5, l5, rfl⟩
        refine GH.keep (fun _ s => Sat.sub (by repeat (first | exact SubR.nil | apply SubR.cons 0 rfl | apply SubR.cons 1 rfl | apply SubR.cons 2 rfl | apply SubR.cons 3 rfl | apply SubR.cons 4 rfl | apply SubR.cons 5 rfl | apply SubR.cons 6 rfl | apply SubR.cons 7 rfl | apply SubR.cons 8 rfl | apply SubR.cons 9 rfl | apply SubR.cons 10 rfl | apply SubR.cons 11 rfl | apply SubR.cons 12 rfl | apply SubR.cons 13 rfl | apply SubR.cons 14 rfl | apply SubR.cons 15 rfl)) s) ?_
        ((first | refine GH.to 6 ?_ | refine GH.tos 6 ?_); (first | refine GH.to 7 ?_ | refine GH.tos 7 ?_))
        rw [beq_self_eq_true]
        ((first | refine GH.to 8 ?_ | refine GH.tos 8 ?_); (first | refine GH.to 9 ?_ | refine GH.tos 9 ?_); (first | refine GH.to 10 ?_ | refine GH.tos 10 ?_))
        refine GH.step 11 rfl (by kernel_rfl) ?_
        refine GO.callA (fun hF' hle hH => texts_ok (gy4.mono l5) (gw.mono l5) n1 n1) (by first | exact Wt.none | exact Wt.some rfl rfl (by first | exact rfl | decide +kernel)) (by kernel_rfl) rfl rfl (by repeat (first | exact SubR.nil | apply SubR.cons 0 rfl | apply SubR.cons 1 rfl | apply SubR.cons 2 rfl | apply SubR.cons 3 rfl | apply SubR.cons 4 rfl | apply SubR.cons 5 rfl | apply SubR.cons 6 rfl | apply SubR.cons 7 rfl | apply SubR.cons 8 rfl | apply SubR.cons 9 rfl | apply SubR.cons 10 rfl | apply SubR.cons 11 rfl | apply SubR.cons 12 rfl | apply SubR.cons 13 rfl | apply SubR.cons 14 rfl | apply SubR.cons 15 rfl)) ?_
        rintro v Γ' ⟨rfl, rfl⟩
        rw [decide_eq_true (rfl : yes = yes)]
        refine GH.keep (fun _ s => Sat.sub (by repeat (first | exact SubR.nil | apply SubR.cons 0 rfl | apply SubR.cons 1 rfl | apply SubR.cons 2 rfl | apply SubR.cons 3 rfl | apply SubR.cons 4 rfl | apply SubR.cons 5 rfl | apply SubR.cons 6 rfl | apply SubR.cons 7 rfl | apply SubR.cons 8 rfl | apply SubR.cons 9 rfl | apply SubR.cons 10 rfl | apply SubR.cons 11 rfl | apply SubR.cons 12 rfl | apply SubR.cons 13 rfl | apply SubR.cons 14 rfl | apply SubR.cons 15 rfl)) s) ?_
        ((first | refine GH.to 12 ?_ | refine GH.tos 12 ?_); (first | refine GH.to 13 ?_ | refine GH.tos 13 ?_))
        refine GH.step 14 rfl (by kernel_rfl) ?_
        refine GO.callA (fun hF' hle hH => lives_ok) (by first | exact Wt.none | exact Wt.some rfl rfl (by first | exact rfl | decide +kernel)) (by kernel_rfl) rfl rfl (by repeat (first | exact SubR.nil | apply SubR.cons 0 rfl | apply SubR.cons 1 rfl | apply SubR.cons 2 rfl | apply SubR.cons 3 rfl | apply SubR.cons 4 rfl | apply SubR.cons 5 rfl | apply SubR.cons 6 rfl | apply SubR.cons 7 rfl | apply SubR.cons 8 rfl | apply SubR.cons 9 rfl | apply SubR.cons 10 rfl | apply SubR.cons 11 rfl | apply SubR.cons 12 rfl | apply SubR.cons 13 rfl | apply SubR.cons 14 rfl | apply SubR.cons 15 rfl)) ?_
        rintro v Γ' ⟨rfl, rfl⟩
        refine GH.keep (fun _ s => Sat.sub (by repeat (first | exact SubR.nil | apply SubR.cons 0 rfl | apply SubR.cons 1 rfl | apply SubR.cons 2 rfl | apply SubR.cons 3 rfl | apply SubR.cons 4 rfl | apply SubR.cons 5 rfl | apply SubR.cons 6 rfl | apply SubR.cons 7 rfl | apply SubR.cons 8 rfl | apply SubR.cons 9 rfl | apply SubR.cons 10 rfl | apply SubR.cons 11 rfl | apply SubR.cons 12 rfl | apply SubR.cons 13 rfl | apply SubR.cons 14 rfl | apply SubR.cons 15 rfl)) s) ?_
        ((first | refine GH.to 15 ?_ | refine GH.tos 15 ?_); (first | refine GH.to 16 ?_ | refine GH.tos 16 ?_))
        refine GH.fin (by kernel_rfl) ?_
        (repeat (first | refine GK.ro ?_ | (refine GK.box ?_; intro bl) | (refine GK.mkMap ?_; intro bm) | (refine GK.build0 tb ?_; intro bs)))
        exact GQ.fin1 rfl (Rv.tmp rfl) (fun _ s => Sat.sub (by repeat (first | exact SubR.nil | apply SubR.cons 0 rfl | apply SubR.cons 1 rfl | apply SubR.cons 2 rfl | apply SubR.cons 3 rfl | apply SubR.cons 4 rfl | apply SubR.cons 5 rfl | apply SubR.cons 6 rfl | apply SubR.cons 7 rfl | apply SubR.cons 8 rfl | apply SubR.cons 9 rfl | apply SubR.cons 10 rfl | apply SubR.cons 11 rfl | apply SubR.cons 12 rfl | apply SubR.cons 13 rfl | apply SubR.cons 14 rfl | apply SubR.cons 15 rfl)) s) ⟨rfl, H5, [], (((l1.trans l2).trans l3).trans l4).trans l5, rfl⟩
theorem passes_law {W : World} {x : PropA} {q : Int × Bool} (h : x.Ok (mem W)) :
    FnOk Go.Proofs.Try.prog 3 [.agg ⟨x.cells⟩, .agg ⟨polC q⟩] [poolOf (mem W)] emp (LawR W) :=
  passesLaw_ok h.y h.n h.t h.h h.ny h.nn h.ly h.ln h.la
end Go.Re
