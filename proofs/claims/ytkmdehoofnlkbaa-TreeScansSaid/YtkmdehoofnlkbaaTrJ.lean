/- A map's put. -/
import Derived.Test.YtkmdehoofnlkbaaTrI
namespace Go.Tr
open Go Go.Sl
theorem ents_single (e : En) : ents [e] = entC e := by simp [ents]
theorem ptrs_two (a b : Nat) : ptrs [a, b] = [nptr a, nptr b] := by simp [ptrs]
/-- A map's root as a value. -/
def RootAt (H : Hp) : Option (Nat × T) → Value → Prop
  | none, v => v = .pointer none
  | some r, v => ∃ b, v = nptr b ∧ TAt H r.1 r.2 b
theorem RootAt.mono {H H' : Hp} (hl : le H H') {r : Option (Nat × T)} {v : Value} (h : RootAt H r v) : RootAt H' r v := by
  cases r with
  | none => exact h
  | some r => obtain ⟨b, h1, h2⟩ := h; exact ⟨b, h1, h2.mono hl⟩
abbrev mblk (b : Nat) (rv : Value) (n : Nat) : HProp := blk b 48 (0, 0) [.bool true, rv, .int .i64 n]
attribute [local irreducible] GK GO Yl Wt Ef Hd GH KH wpListIn Code.wpIn toBody roundQ poolOf rs RS YieldOk IterOk VOk row star exs mp lp Sat pt FnOk Rd bodyPost bodyPostM Lv Ret Exit.then Exit.inBlock Exit.noGoto Int.decLt Int.decLe Int.instDecidableEq
attribute [local irreducible] ents ptrs
set_option pp.deepTerms true
set_option pp.maxSteps 1000000
variable {hF H : Hp}
theorem new_ok : FnOk Go.Proofs.Try.prog 10 [] [] hF (fun v Γ => ∃ b, v = nptr b ∧ Γ = [mblk b (.pointer none) 0]) := by
  refine FnOk.intro 3 Go.Proofs.Try.func10 rfl rfl fun w0 => ?_
  (repeat (first | refine GK.run ?_ | (refine GK.box ?_; intro bl) | (refine GK.mkMap ?_; intro bm) | (refine GK.build0 tb ?_; intro bs)))
  exact GQ.end1 rfl rfl ⟨_, rfl, rfl⟩
theorem none_ok (b : Nat) (x : Bool) (rv nv : Value) : FnOk Go.Proofs.Try.prog 26 [nptr b] [blk b 48 (0, 0) [.bool x, rv, nv]] hF (fun v Γ => v = .bool (!x) ∧ Γ = [blk b 48 (0, 0) [.bool x, rv, nv]]) := by
  refine FnOk.intro 12 Go.Proofs.Try.func26 rfl rfl fun w0 => ?_
  (repeat (first | refine GK.run ?_ | (refine GK.box ?_; intro bl) | (refine GK.mkMap ?_; intro bm) | (refine GK.build0 tb ?_; intro bs)))
  exact GQ.end1 rfl rfl ⟨rfl, rfl⟩
theorem nil_ok : FnOk Go.Proofs.Try.prog 26 [.pointer none] [] hF (fun v Γ => v = .bool true ∧ Γ = []) := by
  refine FnOk.intro 12 Go.Proofs.Try.func26 rfl rfl fun w0 => ?_
  (repeat (first | refine GK.run ?_ | (refine GK.box ?_; intro bl) | (refine GK.mkMap ?_; intro bm) | (refine GK.build0 tb ?_; intro bs)))
  exact GQ.end1 rfl rfl ⟨rfl, rfl⟩
theorem Good.seed {m : M} (h : m.Ok) {b : Nat} (hT : TAt H (Tr.seed m.root).1 (Tr.seed m.root).2 b) : Good H (Tr.seed m.root).1 (Tr.seed m.root).2 b := by
  obtain ⟨h1, h2, h3, h4, _⟩ := seed_ok h.root
  exact ⟨hT, h1, h2, h3, h4⟩
theorem mput_ok {m : M} (hm : m.Ok) {rv : Value} (hr : RootAt H m.root rv) (hn : m.n < 1000000000) (mb : Nat) (e : En) :
    FnOk Go.Proofs.Try.prog 15 [nptr mb, str e.1, str e.2] [mblk mb rv m.n, poolOf H] hF (fun v Γ => ∃ H' rv', le H H' ∧ v = .bool (m.put e).2 ∧ Γ = [mblk mb rv' (m.put e).1.n, poolOf H'] ∧ RootAt H' (m.put e).1.root rv') := by
  refine FnOk.intro 68 Go.Proofs.Try.func15 rfl rfl fun w0 => ?_
  (repeat (first | refine GK.run ?_ | (refine GK.box ?_; intro bl) | (refine GK.mkMap ?_; intro bm) | (refine GK.build0 tb ?_; intro bs)))
  refine GL.cons ?_; refine GO.call [0] (fun hF' hle hH => none_ok mb true rv (.int .i64 m.n)) (by first | exact Wt.none | exact Wt.some rfl rfl (by first | exact rfl | decide +kernel)) (by kernel_rfl) rfl rfl rfl ?_
  rintro v Γ' ⟨rfl, rfl⟩
  (repeat (first | refine GK.run ?_ | (refine GK.box ?_; intro bl) | (refine GK.mkMap ?_; intro bm) | (refine GK.build0 tb ?_; intro bs)))
  refine GL.cut (fun _ : Unit => [(18, .bool m.root.isNone), (0, nptr mb), (1, str e.1), (2, str e.2)]) (fun _ => [mblk mb rv m.n, poolOf H]) (fun _ => True) (fun _ _ => ?_) ?_
  rotate_left
  · cases hroot : m.root with
    | none =>
      rw [hroot] at hr
      obtain rfl : rv = .pointer none := hr
      (repeat (first | refine GK.run ?_ | (refine GK.box ?_; intro bl) | (refine GK.mkMap ?_; intro bm) | (refine GK.build0 tb ?_; intro bs)))
      exact GQ.reach () trivial (by repeat (first | exact trivial | refine ⟨rfl, ?_⟩)) (fun w s => s)
    | some r =>
      rw [hroot] at hr
      obtain ⟨b, rfl, hT⟩ := hr
      (repeat (first | refine GK.run ?_ | (refine GK.box ?_; intro bl) | (refine GK.mkMap ?_; intro bm) | (refine GK.build0 tb ?_; intro bs)))
      exact GQ.reach () trivial (by repeat (first | exact trivial | refine ⟨rfl, ?_⟩)) (fun w s => s)
  (repeat (first | refine GK.run ?_ | (refine GK.box ?_; intro bl) | (refine GK.mkMap ?_; intro bm) | (refine GK.build0 tb ?_; intro bs)))
  refine G.cut (fun _ : Hp × Nat => [(0, nptr mb), (1, str e.1), (2, str e.2)]) (fun x => [mblk mb (nptr x.2) m.n, poolOf x.1]) (fun x => le H x.1 ∧ TAt x.1 (seed m.root).1 (seed m.root).2 x.2) (fun x hx => ?_) ?_
  rotate_left
  · cases hroot : m.root with
    | none =>
      rw [hroot] at hr
      obtain rfl : rv = .pointer none := hr
      (repeat (first | refine GK.run ?_ | (refine GK.box ?_; intro bl) | (refine GK.mkMap ?_; intro bm) | (refine GK.build0 tb ?_; intro bs)))
      refine GK.sel [2, 0, 0] rfl ?_
      refine GK.absorb fun H1 k1 le1 x1 y1 => ?_
      have hpn : rs H1 (.slice none 0 0) 0 1 (ptrs []) := by rw [ptrs_nil]; exact rs.nil
      have hen : rs H1 (.slice none 0 0) 0 2 (ents []) := by rw [ents_nil]; exact rs.nil
      exact GQ.reach (H1, bl) ⟨le1, TAt.mk (t := .mk [] []) (NodeAt.of (pt_in x1 y1) hen hpn rfl rfl rfl) trivial⟩ (by repeat (first | exact trivial | refine ⟨rfl, ?_⟩)) (fun w s => s.sel [1, 0] rfl)
    | some r =>
      rw [hroot] at hr
      obtain ⟨b, rfl, hT⟩ := hr
      (repeat (first | refine GK.run ?_ | (refine GK.box ?_; intro bl) | (refine GK.mkMap ?_; intro bm) | (refine GK.build0 tb ?_; intro bs)))
      exact GQ.reach (H, b) ⟨le.refl _, hT⟩ (by repeat (first | exact trivial | refine ⟨rfl, ?_⟩)) (fun w s => s.sel [0, 0] rfl)
  obtain ⟨H1, b1⟩ := x
  obtain ⟨le1, hT1⟩ := hx
  replace le1 : le H H1 := le1
  replace hT1 : TAt H1 (seed m.root).1 (seed m.root).2 b1 := hT1
  have hg := Good.seed hm hT1
  obtain ⟨pf1, pf2, pf3⟩ := put_flat _ _ e hg.wf hg.srt
  obtain ⟨⟨ps1, ps2⟩, ps3⟩ := put_size _ _ e hg.kids
  have hmost := hg.most
  (repeat (first | refine GK.run ?_ | (refine GK.box ?_; intro bl) | (refine GK.mkMap ?_; intro bm) | (refine GK.build0 tb ?_; intro bs)))
  refine GL.cons ?_; refine GO.call [1] (fun hF' hle hH => put_ok _ _ b1 H1 hF' e hg) (by first | exact Wt.none | exact Wt.some rfl rfl (by first | exact rfl | decide +kernel)) (by kernel_rfl) rfl rfl rfl ?_
  rintro v Γ' ⟨H2, b2, le2, rfl, rfl, hT2⟩
  have hput : m.put e = (⟨some (grow (seed m.root).1 (put (seed m.root).1 (seed m.root).2 e).1), if (put (seed m.root).1 (seed m.root).2 e).2 then m.n else m.n + 1⟩, (put (seed m.root).1 (seed m.root).2 e).2) := rfl
  rw [hput]
  obtain ⟨r, hrr⟩ : ∃ r, put (seed m.root).1 (seed m.root).2 e = r := ⟨_, rfl⟩
  obtain ⟨d, hdd⟩ : ∃ d, (seed m.root).1 = d := ⟨_, rfl⟩
  rw [hrr] at hT2 pf1 pf2 pf3 ps1 ps2 ps3 ⊢
  rw [hdd] at hT2 pf1 pf2 pf3 ps3 ⊢
  obtain ⟨lv, kv, ps, hnd, hk⟩ := hT2.node
  have hndn := hnd.nd
  obtain ⟨p0, e0, rfl, he0, hln, hrl⟩ := hnd.l.out
  (repeat (first | refine GK.run ?_ | (refine GK.box ?_; intro bl) | (refine GK.mkMap ?_; intro bm) | (refine GK.build0 tb ?_; intro bs)))
  refine G.cut (fun x : Hp × Nat => [(0, nptr mb), (7, nptr x.2), (8, .bool r.2)]) (fun x => [mblk mb (nptr b1) m.n, poolOf x.1]) (fun x => le H2 x.1 ∧ TAt x.1 (grow d r.1).1 (grow d r.1).2 x.2) (fun x hx => ?_) ?_
  rotate_left
  · refine G.cond rfl (fun h7 => ?_) (fun h7 => ?_)
    · have h7 : 7 < r.1.l.length := by simp at h7; omega
      have hgrow : grow d r.1 = (d + 1, .mk [mid r.1] [lo r.1, hi r.1]) := by unfold grow; rw [if_pos h7]
      rw [hgrow]
      (repeat (first | refine GK.run ?_ | (refine GK.box ?_; intro bl) | (refine GK.mkMap ?_; intro bm) | (refine GK.build0 tb ?_; intro bs)))
      refine GL.cons ?_; refine GO.call [0] (fun hF' hle hH => halves_ok (b := b2) (t := r.1) (d := d) ⟨hT2, pf3, ps3, by omega, by omega⟩) (by first | exact Wt.none | exact Wt.some rfl rfl (by first | exact rfl | decide +kernel)) (by kernel_rfl) rfl rfl rfl ?_
      rintro v Γ' ⟨H3, a1, a2, le3, rfl, rfl, hTa, hTb⟩
      (repeat (first | refine GK.run ?_ | (refine GK.box ?_; intro bl) | (refine GK.mkMap ?_; intro bm) | (refine GK.build0 tb ?_; intro bs)))
      refine GL.cons ?_; refine Gt.allocAny tb (by first | exact Wt.none | exact Wt.some rfl rfl (by first | exact rfl | decide +kernel)) (by exact rfl) (by exact rfl) ?_
      intro bm lm hlm
      (repeat (first | refine GK.run ?_ | (refine GK.box ?_; intro bl) | (refine GK.mkMap ?_; intro bm) | (refine GK.build0 tb ?_; intro bs)))
      refine GL.cons ?_
      refine Gt.storeAny tb 0 (by first | exact Wt.none | exact Wt.some rfl rfl (by first | exact rfl | decide +kernel)) rfl rfl rfl (entC_len _) (entC_one _) rfl hlm ?_
      (repeat (first | refine GK.run ?_ | (refine GK.box ?_; intro bl) | (refine GK.mkMap ?_; intro bm) | (refine GK.build0 tb ?_; intro bs)))
      refine GL.cons ?_
      refine Gt.buildLit tb (sz := 1) (n := 0) (by first | exact Wt.none | exact Wt.some rfl rfl (by first | exact rfl | decide +kernel)) rfl rfl (by kernel_rfl) rfl rfl rfl rfl rfl rfl ?_
      intro be
      (repeat (first | refine GK.run ?_ | (refine GK.box ?_; intro bl) | (refine GK.mkMap ?_; intro bm) | (refine GK.build0 tb ?_; intro bs)))
      refine GL.cons ?_
      refine Gt.buildLit tb (sz := 0) (n := 1) (by first | exact Wt.none | exact Wt.some rfl rfl (by first | exact rfl | decide +kernel)) rfl rfl (by kernel_rfl) rfl rfl rfl rfl rfl rfl ?_
      intro bp
      (repeat (first | refine GK.run ?_ | (refine GK.box ?_; intro bl) | (refine GK.mkMap ?_; intro bm) | (refine GK.build0 tb ?_; intro bs)))
      refine GK.sel [4, 0, 1, 0, 1, 0] rfl ?_
      refine GK.absorb fun H4 k4 le4 x4 y4 => ?_
      refine GK.absorb fun H5 k5 le5 x5 y5 => ?_
      refine GK.absorb fun H6 k6 le6 x6 y6 => ?_
      have hE : rs H6 (.slice (some ⟨be, 0, none⟩) 1 1) 1 2 (ents [mid r.1]) := by
        rw [ents_single]
        exact rs.mk (by omega) rfl fun _ => ⟨be, 0, _, _, _, rfl, le6 _ _ (pt_in x5 y5), At.all _⟩
      have hK : rs H6 (.slice (some ⟨bp, 0, none⟩) 2 2) 2 1 (ptrs [a1, a2]) := by
        rw [ptrs_two]
        exact rs.mk (by omega) rfl fun _ => ⟨bp, 0, _, _, _, rfl, pt_in x6 y6, At.all _⟩
      have hle := le4.trans (le5.trans le6)
      have hT : TAt H6 (d + 1) (.mk [mid r.1] [lo r.1, hi r.1]) bl := TAt.mk (NodeAt.of ((le5.trans le6) _ _ (pt_in x4 y4)) hE hK rfl rfl rfl) (by
        intro i p k h1 h2
        match i, h1, h2 with
        | 0, h1, h2 => cases h1; cases h2; exact hTa.mono hle
        | 1, h1, h2 => cases h1; cases h2; exact hTb.mono hle)
      exact GQ.reach (H6, bl) ⟨le3.trans hle, hT⟩ (by repeat (first | exact trivial | refine ⟨rfl, ?_⟩)) (fun w s => (s.sel [1, 0, 0] rfl).drop2)
    · have h7 : ¬ 7 < r.1.l.length := by simp at h7; omega
      have hgrow : grow d r.1 = (d, r.1) := by unfold grow; rw [if_neg h7]
      rw [hgrow]
      (repeat (first | refine GK.run ?_ | (refine GK.box ?_; intro bl) | (refine GK.mkMap ?_; intro bm) | (refine GK.build0 tb ?_; intro bs)))
      exact GQ.reach (H2, b2) ⟨le.refl _, hT2⟩ (by repeat (first | exact trivial | refine ⟨rfl, ?_⟩)) (fun w s => s.sel [1, 0] rfl)
  obtain ⟨H3, b3⟩ := x
  obtain ⟨le3, hT3⟩ := hx
  (repeat (first | refine GK.run ?_ | (refine GK.box ?_; intro bl) | (refine GK.mkMap ?_; intro bm) | (refine GK.build0 tb ?_; intro bs)))
  refine G.cond rfl (fun hw => ?_) (fun hw => ?_)
  · have hw : r.2 = false := by simpa using hw
    rw [hw]
    (repeat (first | refine GK.run ?_ | (refine GK.box ?_; intro bl) | (refine GK.mkMap ?_; intro bm) | (refine GK.build0 tb ?_; intro bs)))
    exact GQ.fin1 rfl (Rv.tmp rfl) (fun w s => s) ⟨H3, nptr b3, le1.trans (le2.trans le3), rfl, rfl, ⟨b3, rfl, hT3⟩⟩
  · have hw : r.2 = true := by simpa using hw
    rw [hw]
    (repeat (first | refine GK.run ?_ | (refine GK.box ?_; intro bl) | (refine GK.mkMap ?_; intro bm) | (refine GK.build0 tb ?_; intro bs)))
    exact GQ.fin1 rfl (Rv.tmp rfl) (fun w s => s) ⟨H3, nptr b3, le1.trans (le2.trans le3), rfl, rfl, ⟨b3, rfl, hT3⟩⟩
end Go.Tr
