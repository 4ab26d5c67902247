/- told; number. -/
import Derived.Test.YtkmdehoofnlkbaaTrU
namespace Go.Tr
open Go Go.Sl
attribute [local irreducible] GK GO Yl Wt Ef Hd GH KH wpListIn Code.wpIn toBody roundQ poolOf rs RS YieldOk IterOk VOk row star exs mp lp Sat pt FnOk Rd bodyPost bodyPostM Lv Ret Exit.then Exit.inBlock Exit.noGoto Int.decLt Int.decLe Int.instDecidableEq
attribute [local irreducible] ents ptrs hasH less dset
set_option pp.deepTerms true
set_option pp.maxSteps 1000000
variable {hF H : Hp}
/-- The slice that told grows. -/
def grows (b : Nat) (p : List En) : HProp := exs (fun _ : Option Addr × Nat => True) (fun x => [blk b 27 (0, 0) [.slice x.1 p.length x.2], row (.slice x.1 p.length x.2) 37 2 p.length (ents p)])
theorem told_ok {mv : Value} {A : HProp} {q : Option Addr} {r : Option (Nat × T)} {k u : Ky}
    (hsc : ∀ hF', FnOk Go.Proofs.Try.prog 13 [mv, str k, str u] [A] hF' (fun v Γ => ∃ b1 b2 b3, v = .func (.func 27) #[] #[nptr b1, nptr b2, nptr b3] ∧ Γ = [nbox b1 (.pointer q), kbox b2 k, kbox b3 u, A]))
    (hr : RootAt H r (.pointer q)) (hok : RootOk r) (hn : (rflat r).length < 1000000000) :
    FnOk Go.Proofs.Try.prog 18 [mv, str k, str u] [A, poolOf H] hF (fun v Γ => ∃ H', le H H' ∧ Γ = [A, poolOf H'] ∧ Lst H' v (lscan (rflat r) k u)) := by
  refine FnOk.introM 27 Go.Proofs.Try.func18 rfl rfl fun w0 => ?_
  have hlen : (lscan (rflat r) k u).length ≤ (rflat r).length := by
    unfold lscan lfrom
    exact Nat.le_trans ((List.takeWhile_prefix _).length_le) (by simp)
  (repeat (first | refine GK.run ?_ | (refine GK.box ?_; intro bl) | (refine GK.mkMap ?_; intro bm) | (refine GK.build0 tb ?_; intro bs)))
  refine GL.cons ?_; refine GO.alloc (by first | exact Wt.none | exact Wt.some rfl rfl (by first | exact rfl | decide +kernel)) (by exact rfl) ?_
  intro b7
  (repeat (first | refine GK.run ?_ | (refine GK.box ?_; intro bl) | (refine GK.mkMap ?_; intro bm) | (refine GK.build0 tb ?_; intro bs)))
  refine GL.cons ?_; refine GO.call [1] (fun hF' hle hH => hsc hF') (by first | exact Wt.none | exact Wt.some rfl rfl (by first | exact rfl | decide +kernel)) (by kernel_rfl) rfl rfl rfl ?_
  rintro v Γ' ⟨b1, b2, b3, rfl, rfl⟩
  (repeat (first | refine GK.run ?_ | (refine GK.box ?_; intro bl) | (refine GK.mkMap ?_; intro bm) | (refine GK.build0 tb ?_; intro bs)))
  refine G.forRangeP (H := H) (fun p => [poolOf H, A, grows b7 p]) (fun c p Γ2 => False) (fun _ => hasH.pool (le.refl _)) (fun c p Γ2 h => h.elim) (scan1_ok hr hok b1 b2 b3 k u) rfl (by kernel_rfl) (fun _ => rfl) (fun hF w s => ?_) (fun l1 p x hF1 w1 hpx hle1 => ?_) ?_ ?_
  · have hg : Sat (grows b7 [] :: [poolOf H, A, nbox b1 (.pointer q), kbox b2 k, kbox b3 u]) hF w := by
      refine Sat.shut (none, 0) trivial ?_
      show Sat ([blk b7 27 (0, 0) [.slice none 0 0], row (.slice none 0 0) 37 2 0 (ents [])] ++ _) _ _
      rw [ents_nil]
      exact ((s.sel [4, 4, 3, 0, 0, 0] rfl).row_nil (e := 37) (sz := 2)).perm (.swap _ _ _)
    exact hg.sel [1, 1, 0, 0, 0, 0] rfl
  · have hpl : p.length < 1000000000 := by
      have := hpx.length_le
      simp at this; omega
    (repeat (first | refine GK.run ?_ | (refine GK.box ?_; intro bl) | (refine GK.mkMap ?_; intro bm) | (refine GK.build0 tb ?_; intro bs)))
    refine GQ.to_body fun hF2 w2 hle2 => ?_
    refine GK.opens 2 rfl fun y _ => ?_
    (repeat (first | refine GK.run ?_ | (refine GK.box ?_; intro bl) | (refine GK.mkMap ?_; intro bm) | (refine GK.build0 tb ?_; intro bs)))
    refine GL.cons ?_
    refine Gt.buildLit tb (sz := 1) (n := 0) (by first | exact Wt.none | exact Wt.some rfl rfl (by first | exact rfl | decide +kernel)) rfl rfl (by kernel_rfl) rfl rfl rfl rfl rfl rfl ?_
    intro bx
    (repeat (first | refine GK.run ?_ | (refine GK.box ?_; intro bl) | (refine GK.mkMap ?_; intro bm) | (refine GK.build0 tb ?_; intro bs)))
    refine GL.cons ?_; refine Gt.append tb 2 (by first | exact Wt.none | exact Wt.some rfl rfl (by first | exact rfl | decide +kernel)) rfl (.inl ⟨_, rfl⟩) rfl rfl rfl rfl rfl (Src.slice (m := 1) (Rd.blk 0 rfl) (At.all _) rfl (one_of_all rfl)) (by omega) (by omega) ?_
    intro p3 c3
    (repeat (first | refine GK.run ?_ | (refine GK.box ?_; intro bl) | (refine GK.mkMap ?_; intro bm) | (refine GK.build0 tb ?_; intro bs)))
    refine GK.heap (Γ' := [poolOf H, A, grows b7 (p ++ [x])]) (fun w s => ?_) (GQ.round_on rfl)
    have hg : Sat (grows b7 (p ++ [x]) :: [poolOf H, A]) hF2 w := by
      refine Sat.shut (p3, c3) trivial ?_
      show Sat ([blk b7 27 (0, 0) [.slice p3 (p ++ [x]).length c3], row (.slice p3 (p ++ [x]).length c3) 37 2 (p ++ [x]).length (ents (p ++ [x]))] ++ _) _ _
      rw [List.length_append, ents_append, ents_single]
      exact s.sel [2, 0, 1, 1] rfl
    exact hg.sel [1, 1, 0] rfl
  · rintro D Γc' rfl
    refine GK.opens 3 rfl fun y _ => ?_
    (repeat (first | refine GK.run ?_ | (refine GK.box ?_; intro bl) | (refine GK.mkMap ?_; intro bm) | (refine GK.build0 tb ?_; intro bs)))
    refine GQ.leave ?_
    refine GK.heap (fun w s => Sat.dset_push ((Sat.dset_nil (s.sel [2, 2, 1, 1] rfl)).perm (.swap _ _ _))) ?_
    refine GK.popAll (Ds := [D]) ?_
    refine GK.absorb fun H1 k1 le1 x1 y1 => ?_
    exact GK.fin1 rfl (Rv.tmp rfl) (fun w s => s.sel [1, 0] rfl) ⟨H1, le1, rfl, Lst.of_row x1 y1 rfl rfl⟩
  · rintro D Γc' c p Γ2 rfl hp1 h
    exact h.elim
def num (k : Ky) (i : Nat) : Ky := k ++ [UInt8.ofNat (97 + i / 26 % 26), UInt8.ofNat (97 + i % 26)]
theorem number_ok (k : Ky) (i : Nat) (hi : i < 60) (hk : k.length < 1000000) : FnOk Go.Proofs.Try.prog 25 [str k, .int .i64 i] [] hF (fun v Γ => v = str (num k i) ∧ Γ = []) := by
  refine FnOk.intro 18 Go.Proofs.Try.func25 rfl rfl fun w0 => ?_
  (repeat (first | refine GK.run ?_ | (refine GK.box ?_; intro bl) | (refine GK.mkMap ?_; intro bm) | (refine GK.build0 tb ?_; intro bs)))
  have e1 : (IntKind.i64.wrap ((i : Int).tdiv 26)).tmod 26 = ((i / 26 % 26 : Nat) : Int) := by
    rw [Int.tdiv_eq_ediv_of_nonneg (by omega), IntWalk.i64_in _ (by omega), Int.tmod_eq_emod_of_nonneg (by omega)]
    omega
  have e2 : (i : Int).tmod 26 = ((i % 26 : Nat) : Int) := by
    rw [Int.tmod_eq_emod_of_nonneg (by omega)]; omega
  refine GK.weak (fr' := [(5, str k), (8, .int .i64 ((i / 26 % 26 : Nat) : Int)), (0, str k), (1, .int .i64 i)]) (Γ' := []) (by rw [← e1]; exact (by repeat (first | exact trivial | refine ⟨rfl, ?_⟩))) (fun w s => s) ?_
  (repeat (first | refine GK.run ?_ | (refine GK.box ?_; intro bl) | (refine GK.mkMap ?_; intro bm) | (refine GK.build0 tb ?_; intro bs)))
  have e3 : IntKind.u8.wrap (((i / 26 % 26 : Nat) : Int) + 97) = ((UInt8.ofNat (97 + i / 26 % 26)).toNat : Int) := by
    simp only [IntKind.wrap, IntKind.bits, IntKind.signed]
    simp
    omega
  have e4 : IntKind.u8.wrap ((i : Int).tmod 26 + 97) = ((UInt8.ofNat (97 + i % 26)).toNat : Int) := by
    rw [e2]
    simp only [IntKind.wrap, IntKind.bits, IntKind.signed]
    simp
    omega
  refine GK.weak (fr' := [(5, str k), (10, .int .u8 ((UInt8.ofNat (97 + i / 26 % 26)).toNat : Int)), (14, .int .u8 ((UInt8.ofNat (97 + i % 26)).toNat : Int))]) (Γ' := []) (by rw [← e3, ← e4]; exact (by repeat (first | exact trivial | refine ⟨rfl, ?_⟩))) (fun w s => s) ?_
  refine GL.cons ?_
  refine Gt.buildLit tb (sz := 0) (n := 1) (by first | exact Wt.none | exact Wt.some rfl rfl (by first | exact rfl | decide +kernel)) rfl rfl (by kernel_rfl) rfl rfl rfl rfl rfl rfl ?_
  intro bx
  refine GL.cons ?_
  refine GO.yield (by first | exact Wt.none | exact Wt.some rfl rfl (by first | exact rfl | decide +kernel)) (Yl.bytesStr (s := [UInt8.ofNat (97 + i / 26 % 26), UInt8.ofNat (97 + i % 26)]) rfl rfl rfl rfl (Rd.blk 0 rfl) (At.all _) rfl) ?_
  refine GL.cons ?_
  refine GO.yield (by first | exact Wt.none | exact Wt.some rfl rfl (by first | exact rfl | decide +kernel)) (Yl.cat rfl rfl (by simp; omega)) ?_
  (repeat (first | refine GK.run ?_ | (refine GK.box ?_; intro bl) | (refine GK.mkMap ?_; intro bm) | (refine GK.build0 tb ?_; intro bs)))
  exact GQ.fin1 rfl (Rv.tmp rfl) (fun w s => s.drop) ⟨rfl, rfl⟩
end Go.Tr
