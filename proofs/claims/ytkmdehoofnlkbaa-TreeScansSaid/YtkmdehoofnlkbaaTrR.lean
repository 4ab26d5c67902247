/- A map's scan. -/
import Derived.Test.YtkmdehoofnlkbaaTrQ
namespace Go.Tr
open Go Go.Sl
def enc2 (e : En) : List Value := [str e.1, str e.2]
theorem twl {l p : List En} {f : En → Bool} (hp : p <+: l) (h : ∀ e ∈ p, f e = true) : p <+: l.takeWhile f := by
  obtain ⟨q, rfl⟩ := hp
  rw [List.takeWhile_append_of_pos h]
  exact List.prefix_append _ _
theorem twl_stop {l q : List En} {x : En} {f : En → Bool} (hp : q ++ [x] <+: l) (h : ∀ e ∈ q, f e = true) (hx : f x = false) : l.takeWhile f = q := by
  obtain ⟨r, rfl⟩ := hp
  rw [List.append_assoc, List.takeWhile_append_of_pos h]
  simp [hx]
theorem twl_all {l : List En} {f : En → Bool} (h : ∀ e ∈ l, f e = true) : l.takeWhile f = l := by
  have := List.takeWhile_append_of_pos (l₂ := []) h
  simpa using this
attribute [local irreducible] GK GO Yl Wt Ef Hd GH KH wpListIn Code.wpIn toBody roundQ poolOf rs RS YieldOk IterOk VOk row star exs mp lp Sat pt FnOk Rd bodyPost bodyPostM Lv Ret Exit.then Exit.inBlock Exit.noGoto Int.decLt Int.decLe Int.instDecidableEq
attribute [local irreducible] ents ptrs hasH less dset
set_option pp.deepTerms true
set_option pp.maxSteps 1000000
variable {hF H : Hp}
/-- From a root. -/
theorem from1_root {r : Option (Nat × T)} {rv : Value} (hr : RootAt H r rv) (hok : RootOk r) (bn bk : Nat) (key : Ky) : IterP Go.Proofs.Try.prog 34 #[] #[nptr bn, nptr bk] enc1 (lfrom (rflat r) key) H [nbox bn rv, kbox bk key] (fun Γ => Γ = [nbox bn rv, kbox bk key]) hF := by
  cases r with
  | none =>
    obtain rfl : rv = .pointer none := hr
    exact from1_nil bn bk key
  | some r =>
    obtain ⟨b, rfl, hT⟩ := hr
    exact from1_ok r.1 r.2 b H hF key bn bk (RootOk.good (d := r.1) (t := r.2) hok hT)
theorem from_root {q : Option Addr} (key : Ky) : FnOk Go.Proofs.Try.prog 28 [.pointer q, str key] [] hF (fun v Γ => ∃ b1 b2, v = .func (.func 34) #[] #[nptr b1, nptr b2] ∧ Γ = [nbox b1 (.pointer q), kbox b2 key]) := by
  refine FnOk.intro 6 Go.Proofs.Try.func28 rfl rfl fun w0 => ?_
  (repeat (first | refine GK.run ?_ | (refine GK.box ?_; intro bl) | (refine GK.mkMap ?_; intro bm) | (refine GK.build0 tb ?_; intro bs)))
  exact GK.sel [1, 0] rfl (GQ.end1 rfl rfl ⟨_, _, rfl, rfl⟩)
theorem scan_ok {m : M} {q : Option Addr} (mb : Nat) (k u : Ky) : FnOk Go.Proofs.Try.prog 13 [nptr mb, str k, str u] [mblk mb (.pointer q) m.n] hF (fun v Γ => ∃ b1 b2 b3, v = .func (.func 27) #[] #[nptr b1, nptr b2, nptr b3] ∧ Γ = [nbox b1 (.pointer q), kbox b2 k, kbox b3 u, mblk mb (.pointer q) m.n]) := by
  refine FnOk.intro 16 Go.Proofs.Try.func13 rfl rfl fun w0 => ?_
  (repeat (first | refine GK.run ?_ | (refine GK.box ?_; intro bl) | (refine GK.mkMap ?_; intro bm) | (refine GK.build0 tb ?_; intro bs)))
  refine GL.cons ?_; refine GO.alloc (by first | exact Wt.none | exact Wt.some rfl rfl (by first | exact rfl | decide +kernel)) (by exact rfl) ?_
  intro b7
  (repeat (first | refine GK.run ?_ | (refine GK.box ?_; intro bl) | (refine GK.mkMap ?_; intro bm) | (refine GK.build0 tb ?_; intro bs)))
  refine GL.cons ?_; refine GO.call [3] (fun hF' hle hH => none_ok mb true (.pointer q) (.int .i64 m.n)) (by first | exact Wt.none | exact Wt.some rfl rfl (by first | exact rfl | decide +kernel)) (by kernel_rfl) rfl rfl rfl ?_
  rintro v Γ' ⟨rfl, rfl⟩
  (repeat (first | refine GK.run ?_ | (refine GK.box ?_; intro bl) | (refine GK.mkMap ?_; intro bm) | (refine GK.build0 tb ?_; intro bs)))
  exact GK.sel [1, 2, 1, 0] rfl (GQ.fin1 rfl (Rv.tmp rfl) (fun w s => s) ⟨_, _, _, rfl, rfl⟩)
theorem scan1_ok {r : Option (Nat × T)} {q : Option Addr} (hr : RootAt H r (.pointer q)) (hok : RootOk r) (b1 b2 b3 : Nat) (k u : Ky) : IterP Go.Proofs.Try.prog 27 #[] #[nptr b1, nptr b2, nptr b3] enc2 (lscan (rflat r) k u) H [nbox b1 (.pointer q), kbox b2 k, kbox b3 u] (fun Γ => Γ = [nbox b1 (.pointer q), kbox b2 k, kbox b3 u]) hF := by
  intro l J JB hF' hle hy
  show FnOk _ _ [yv l, nptr b1, nptr b2, nptr b3] _ _ _
  refine FnOk.introM 27 Go.Proofs.Try.func27 rfl rfl fun w0 => ?_
  (repeat (first | refine GK.run ?_ | (refine GK.box ?_; intro bl) | (refine GK.mkMap ?_; intro bm) | (refine GK.build0 tb ?_; intro bs)))
  refine GL.cons ?_; refine GO.call [] (fun hF' hle hH => from_root k) (by first | exact Wt.none | exact Wt.some rfl rfl (by first | exact rfl | decide +kernel)) (by kernel_rfl) rfl rfl rfl ?_
  rintro v Γ' ⟨b4, b5, rfl, rfl⟩
  (repeat (first | refine GK.run ?_ | (refine GK.box ?_; intro bl) | (refine GK.mkMap ?_; intro bm) | (refine GK.build0 tb ?_; intro bs)))
  refine G.forRangeP (H := H) (fun p => [fact (∀ e ∈ p, upto u e = true), poolOf H, J p, nbox b1 (.pointer q), kbox b2 k, kbox b3 u, ybox bl l 39]) (fun c p Γ2 => c = .ret ∧ ((∃ p' x, p = p' ++ [x] ∧ (∀ e ∈ p', upto u e = true) ∧ upto u x = false ∧ Γ2 = [poolOf H, J p', nbox b1 (.pointer q), kbox b2 k, kbox b3 u, ybox bl l 39]) ∨ ((∀ e ∈ p, upto u e = true) ∧ Γ2 = [poolOf H, JB p, nbox b1 (.pointer q), kbox b2 k, kbox b3 u, ybox bl l 39])))
    (fun _ => (hasH.pool (le.refl _)).tail) (fun c p Γ2 h => by rcases h.2 with ⟨_, _, _, _, _, h⟩ | ⟨_, h⟩ <;> (rw [h]; exact hasH.pool (le.refl _))) (from1_root hr hok b4 b5 k) rfl (by kernel_rfl) (fun _ => rfl) (fun hF w s => ?_) (fun l1 p x hF1 w1 hpx hle1 => ?_) ?_ ?_
  · exact Sat.fact (p := ∀ e ∈ ([] : List En), upto u e = true) (fun e he => by cases he) (s.sel [3, 3, 3, 3, 3, 2, 0, 0] rfl)
  · refine GK.known fun hpu => ?_
    (repeat (first | refine GK.run ?_ | (refine GK.box ?_; intro bl) | (refine GK.mkMap ?_; intro bm) | (refine GK.build0 tb ?_; intro bs)))
    refine GL.cons ?_; refine Gt.allocAny tb (by first | exact Wt.none | exact Wt.some rfl rfl (by first | exact rfl | decide +kernel)) (by exact rfl) (by exact rfl) ?_
    intro br lr hlr
    (repeat (first | refine GK.run ?_ | (refine GK.box ?_; intro bl) | (refine GK.mkMap ?_; intro bm) | (refine GK.build0 tb ?_; intro bs)))
    refine GL.cons ?_
    refine Gt.storeAny tb 0 (by first | exact Wt.none | exact Wt.some rfl rfl (by first | exact rfl | decide +kernel)) rfl rfl rfl (entC_len x) (entC_one x) rfl hlr ?_
    (repeat (first | refine GK.run ?_ | (refine GK.box ?_; intro bl) | (refine GK.mkMap ?_; intro bm) | (refine GK.build0 tb ?_; intro bs)))
    refine GQ.to_body fun hF2 w2 hle2 => ?_
    (repeat (first | refine GK.run ?_ | (refine GK.box ?_; intro bl) | (refine GK.mkMap ?_; intro bm) | (refine GK.build0 tb ?_; intro bs)))
    refine GK.split 12 _ rfl (fun hu => ?_) (fun hu => ?_)
    · have hu0 : (u == []) = false := by simpa using hu
      (repeat (first | refine GK.run ?_ | (refine GK.box ?_; intro bl) | (refine GK.mkMap ?_; intro bm) | (refine GK.build0 tb ?_; intro bs)))
      refine GK.split 18 _ rfl (fun hx => ?_) (fun hx => ?_)
      · have hxu : upto u x = false := by
          have hx : (!lt x.1 u) = true := hx
          unfold upto; rw [hu0]; simpa using hx
        (repeat (first | refine GK.run ?_ | (refine GK.box ?_; intro bl) | (refine GK.mkMap ?_; intro bm) | (refine GK.build0 tb ?_; intro bs)))
        refine GK.sel [1, 1, 1, 1, 1, 1] rfl ?_
        exact GQ.round_ret ⟨rfl, .inl ⟨p, x, rfl, hpu, hxu, rfl⟩⟩
      · have hxu : upto u x = true := by
          have hx : (!lt x.1 u) = false := hx
          unfold upto; rw [hu0]; simpa using hx
        (repeat (first | refine GK.run ?_ | (refine GK.box ?_; intro bl) | (refine GK.mkMap ?_; intro bm) | (refine GK.build0 tb ?_; intro bs)))
        have hpu2 : ∀ e ∈ p ++ [x], upto u e = true := fun e he => by
          rcases List.mem_append.1 he with h | h
          · exact hpu e h
          · rw [List.mem_singleton.1 h]; exact hxu
        have hpre : p ++ [x] <+: lscan (rflat r) k u := twl hpx hpu2
        refine GL.cons ?_
        refine GO.callV (Γf := [poolOf H, J p]) (fun hF3 hle3 _ => hy.pool hpre (hle2.trans hle3)) (by first | exact Wt.none | exact Wt.some rfl rfl (by first | exact rfl | decide +kernel)) rfl rfl (takes_perm (sel := [1, 1]) rfl) ?_
        rintro v Γ' (⟨rfl, rfl⟩ | ⟨rfl, rfl⟩)
        · (repeat (first | refine GK.run ?_ | (refine GK.box ?_; intro bl) | (refine GK.mkMap ?_; intro bm) | (refine GK.build0 tb ?_; intro bs)))
          refine GK.heap (fun w s => Sat.fact hpu2 (s.sel [0, 0, 1, 1, 1, 1] rfl)) ?_
          exact GQ.round_on rfl
        · (repeat (first | refine GK.run ?_ | (refine GK.box ?_; intro bl) | (refine GK.mkMap ?_; intro bm) | (refine GK.build0 tb ?_; intro bs)))
          refine GK.sel [0, 0, 1, 1, 1, 1] rfl ?_
          exact GQ.round_ret ⟨rfl, .inr ⟨hpu2, rfl⟩⟩
    · have hu0 : (u == []) = true := by simpa using hu
      have hxu : upto u x = true := by unfold upto; rw [hu0]; rfl
      (repeat (first | refine GK.run ?_ | (refine GK.box ?_; intro bl) | (refine GK.mkMap ?_; intro bm) | (refine GK.build0 tb ?_; intro bs)))
      have hpu2 : ∀ e ∈ p ++ [x], upto u e = true := fun e he => by
        rcases List.mem_append.1 he with h | h
        · exact hpu e h
        · rw [List.mem_singleton.1 h]; exact hxu
      have hpre : p ++ [x] <+: lscan (rflat r) k u := twl hpx hpu2
      refine GL.cons ?_
      refine GO.callV (Γf := [poolOf H, J p]) (fun hF3 hle3 _ => hy.pool hpre (hle2.trans hle3)) (by first | exact Wt.none | exact Wt.some rfl rfl (by first | exact rfl | decide +kernel)) rfl rfl (takes_perm (sel := [1, 1]) rfl) ?_
      rintro v Γ' (⟨rfl, rfl⟩ | ⟨rfl, rfl⟩)
      · (repeat (first | refine GK.run ?_ | (refine GK.box ?_; intro bl) | (refine GK.mkMap ?_; intro bm) | (refine GK.build0 tb ?_; intro bs)))
        refine GK.heap (fun w s => Sat.fact hpu2 (s.sel [0, 0, 1, 1, 1, 1] rfl)) ?_
        exact GQ.round_on rfl
      · (repeat (first | refine GK.run ?_ | (refine GK.box ?_; intro bl) | (refine GK.mkMap ?_; intro bm) | (refine GK.build0 tb ?_; intro bs)))
        refine GK.sel [0, 0, 1, 1, 1, 1] rfl ?_
        exact GQ.round_ret ⟨rfl, .inr ⟨hpu2, rfl⟩⟩
  · rintro D Γc' rfl
    refine GK.sel [1, 0, 0, 0, 0, 0, 0] rfl ?_
    refine GK.known fun hpu => ?_
    have hall : lscan (rflat r) k u = lfrom (rflat r) k := twl_all hpu
    rw [hall]
    (repeat (first | refine GK.run ?_ | (refine GK.box ?_; intro bl) | (refine GK.mkMap ?_; intro bm) | (refine GK.build0 tb ?_; intro bs)))
    refine GQ.leave' ?_
    refine GK.heap (fun w s => (Sat.dset_push ((Sat.dset_nil s).perm (.swap _ _ _))).sel [0, 0, 0, 0, 0, 0] rfl) ?_
    exact GK.popAll (Ds := [D]) (GK.out0 rfl ⟨[nbox b1 (.pointer q), kbox b2 k, kbox b3 u], rfl, .inl rfl⟩)
  · rintro D Γc' c p Γ2 rfl hp1 ⟨rfl, ⟨p', x, rfl, h1, h2, rfl⟩ | ⟨h1, rfl⟩⟩
    · have hall : lscan (rflat r) k u = p' := twl_stop hp1 h1 h2
      rw [hall]
      (repeat (first | refine GK.run ?_ | (refine GK.box ?_; intro bl) | (refine GK.mkMap ?_; intro bm) | (refine GK.build0 tb ?_; intro bs)))
      refine GQ.leave ?_
      refine GK.heap (fun w s => (Sat.dset_push ((Sat.dset_nil s).perm (.swap _ _ _))).sel [0, 0, 0, 0, 0, 0] rfl) ?_
      exact GK.popAll (Ds := [D]) (GK.out0 rfl ⟨[nbox b1 (.pointer q), kbox b2 k, kbox b3 u], rfl, .inl rfl⟩)
    · have hpre : p <+: lscan (rflat r) k u := twl hp1 h1
      (repeat (first | refine GK.run ?_ | (refine GK.box ?_; intro bl) | (refine GK.mkMap ?_; intro bm) | (refine GK.build0 tb ?_; intro bs)))
      refine GQ.leave ?_
      refine GK.heap (fun w s => (Sat.dset_push ((Sat.dset_nil s).perm (.swap _ _ _))).sel [0, 0, 0, 0, 0, 0] rfl) ?_
      exact GK.popAll (Ds := [D]) (GK.out0 rfl ⟨[nbox b1 (.pointer q), kbox b2 k, kbox b3 u], rfl, .inr ⟨_, hpre, rfl⟩⟩)
end Go.Tr
