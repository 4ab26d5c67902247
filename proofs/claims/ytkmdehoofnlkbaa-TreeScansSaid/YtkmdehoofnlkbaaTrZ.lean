/- TreeShallow, walked. -/
import Derived.Test.YtkmdehoofnlkbaaTrY
namespace Go.Tr
open Go Go.Sl
/-- What the acts leave. -/
def ran (l : List Ac) : M := l.foldl actM M.empty
theorem ran_next {l : List Ac} {i : Nat} {a : Ac} (h : l[i]? = some a) : ran (l.take (i + 1)) = actM (ran (l.take i)) a := by
  unfold ran; rw [take_next h, List.foldl_append]; rfl
theorem ran_ok (l : List Ac) : (ran l).Ok ∧ (ran l).n ≤ 60 * l.length := by
  have key : ∀ (l : List Ac) (m : M), m.Ok → (l.foldl actM m).Ok ∧ (l.foldl actM m).n ≤ m.n + 60 * l.length := by
    intro l
    induction l with
    | nil => intro m h; exact ⟨h, by simp⟩
    | cons a l ih =>
      intro m h
      obtain ⟨h1, h2⟩ := actM_ok h a
      obtain ⟨h3, h4⟩ := ih (actM m a) h1
      refine ⟨h3, ?_⟩
      simp only [List.foldl_cons, List.length_cons]
      omega
  obtain ⟨h1, h2⟩ := key l M.empty M.Ok.empty
  refine ⟨h1, ?_⟩
  have : M.empty.n = 0 := rfl
  unfold ran
  omega
theorem depth_small {m : M} (h : m.Ok) (hn : m.n ≤ 24000) : m.depth ≤ 7 := by
  rcases Nat.lt_or_ge 7 m.depth with h1 | h1
  · have h2 := ((M.bounds h).2 (by omega)).1
    have h3 : 4 ^ 7 ≤ 4 ^ (m.depth - 1) := Nat.pow_le_pow_right (by omega) (by omega)
    have h4 : (4 : Nat) ^ 7 = 16384 := by decide
    omega
  · exact h1
attribute [local irreducible] GK GO Yl Wt Ef Hd GH KH wpListIn Code.wpIn toBody roundQ poolOf rs RS YieldOk IterOk VOk row star exs mp lp Sat pt FnOk Rd bodyPost bodyPostM Lv Ret Exit.then Exit.inBlock Exit.noGoto Int.decLt Int.decLe Int.instDecidableEq
attribute [local irreducible] ents ptrs hasH less dset num M.put M.del bulk acts actM ran M.depth
set_option pp.deepTerms true
set_option pp.maxSteps 1000000
variable {hF H : Hp}
set_option maxHeartbeats 1000000 in
theorem shallow_ok {v : Value} {l : List Ac} (hv : roActs hF v l) : FnOk Go.Proofs.Try.prog 4 [v] [] hF (fun r _ => r = .bool true) := by
  have hv0 := hv
  obtain ⟨⟨p, c, rfl, hr⟩, hl, hok⟩ := hv
  refine FnOk.intro 73 Go.Proofs.Try.func4 rfl rfl fun w0 => ?_
  (repeat (first | refine GK.run ?_ | (refine GK.box ?_; intro bl) | (refine GK.mkMap ?_; intro bm) | (refine GK.build0 tb ?_; intro bs)))
  refine GL.cons ?_; refine GO.call [] (fun hF' hle hH => few_ok (hv0.mono hle)) (by first | exact Wt.none | exact Wt.some rfl rfl (by first | exact rfl | decide +kernel)) (by kernel_rfl) rfl rfl rfl ?_
  rintro v Γ' ⟨rfl, rfl⟩
  (repeat (first | refine GK.run ?_ | (refine GK.box ?_; intro bl) | (refine GK.mkMap ?_; intro bm) | (refine GK.build0 tb ?_; intro bs)))
  refine G.cond rfl (fun hf => ?_) (fun hf => ?_)
  · (repeat (first | refine GK.run ?_ | (refine GK.box ?_; intro bl) | (refine GK.mkMap ?_; intro bm) | (refine GK.build0 tb ?_; intro bs)))
    refine GL.cons ?_; refine GO.call [] (fun hF' hle hH => lives_ok) (by first | exact Wt.none | exact Wt.some rfl rfl (by first | exact rfl | decide +kernel)) (by kernel_rfl) rfl rfl rfl ?_
    rintro v Γ' ⟨rfl, rfl⟩
    (repeat (first | refine GK.run ?_ | (refine GK.box ?_; intro bl) | (refine GK.mkMap ?_; intro bm) | (refine GK.build0 tb ?_; intro bs)))
    exact GQ.fin1 rfl (Rv.tmp rfl) (fun w s => s) rfl
  have hf : fewM l = true := by simpa using hf
  obtain ⟨hlen, hkeys⟩ := fewM_len hf
  (repeat (first | refine GK.run ?_ | (refine GK.box ?_; intro bl) | (refine GK.mkMap ?_; intro bm) | (refine GK.build0 tb ?_; intro bs)))
  refine GL.cons ?_; refine GO.call [] (fun hF' hle hH => new_ok) (by first | exact Wt.none | exact Wt.some rfl rfl (by first | exact rfl | decide +kernel)) (by kernel_rfl) rfl rfl rfl ?_
  rintro v Γ' ⟨mb, rfl, rfl⟩
  (repeat (first | refine GK.run ?_ | (refine GK.box ?_; intro bl) | (refine GK.mkMap ?_; intro bm) | (refine GK.build0 tb ?_; intro bs)))
  have hran0 : ran (l.take 0) = M.empty := by unfold ran; rfl
  refine GK.weak (fr' := [(3, nptr mb), (14, .slice p l.length c), (15, .int .i64 (l.length : Int)), (4, .slice none 0 0), (16, .int .i64 ((0 : Nat) : Int))]) (Γ' := [poolOf emp, mblk mb (.pointer none) (ran (l.take 0)).n]) (by repeat (first | exact trivial | refine ⟨rfl, ?_⟩)) (fun w s => by rw [hran0]; exact Sat.pool_emp s) (G.loop (fun x : Nat × Hp × Option Addr × Value => l.length - x.1) (fun x => [(3, nptr mb), (14, .slice p l.length c), (15, .int .i64 (l.length : Int)), (4, x.2.2.2), (16, .int .i64 (x.1 : Int))]) (fun x => [poolOf x.2.1, mblk mb (.pointer x.2.2.1) (ran (l.take x.1)).n])
    (fun x => x.1 ≤ l.length ∧ RootAt x.2.1 (ran (l.take x.1)).root (.pointer x.2.2.1) ∧ Lst x.2.1 x.2.2.2 (ran (l.take x.1)).ents) (fun x hx => ?_) (0, emp, none, .slice none 0 0) ⟨Nat.zero_le _, by rw [hran0]; rfl, by rw [hran0]; exact Lst.nil⟩)
  obtain ⟨i, H1, q1, lv1⟩ := x
  obtain ⟨hi, hr1, hl1⟩ := hx
  replace hi : i ≤ l.length := hi
  replace hr1 : RootAt H1 (ran (l.take i)).root (.pointer q1) := hr1
  replace hl1 : Lst H1 lv1 (ran (l.take i)).ents := hl1
  obtain ⟨hmok, hmn⟩ := ran_ok (l.take i)
  have htl : (l.take i).length ≤ 400 := by simp; omega
  (repeat (first | refine GK.run ?_ | (refine GK.box ?_; intro bl) | (refine GK.mkMap ?_; intro bm) | (refine GK.build0 tb ?_; intro bs)))
  refine G.cond rfl (fun h0 => ?_) (fun h0 => ?_)
  rotate_left
  · (repeat (first | refine GK.run ?_ | (refine GK.box ?_; intro bl) | (refine GK.mkMap ?_; intro bm) | (refine GK.build0 tb ?_; intro bs)))
    refine GL.cons ?_; refine GO.call [] (fun hF' hle hH => lives_ok) (by first | exact Wt.none | exact Wt.some rfl rfl (by first | exact rfl | decide +kernel)) (by kernel_rfl) rfl rfl rfl ?_
    rintro v Γ' ⟨rfl, rfl⟩
    (repeat (first | refine GK.run ?_ | (refine GK.box ?_; intro bl) | (refine GK.mkMap ?_; intro bm) | (refine GK.build0 tb ?_; intro bs)))
    exact GQ.fin1 rfl (Rv.tmp rfl) (fun w s => s.drop.drop) rfl
  have h0 : i < l.length := by simpa using h0
  obtain ⟨a, ha⟩ : ∃ a, l[i]? = some a := ⟨_, List.getElem?_eq_getElem h0⟩
  obtain ⟨bb, o, cs, et, fz, rfl, hbb, hat⟩ := hr (by omega)
  have hAt : At cs (o + (i : Int).toNat * 4) (acC a) := at_trans hat (acts_at ha)
  have hlena := acC_len a
  have hak := (hkeys a (List.mem_of_getElem? ha)).1
  have hnext := ran_next ha
  obtain ⟨hnok, hnn⟩ := ran_ok (l.take (i + 1))
  have hnl : (l.take (i + 1)).length ≤ 400 := by simp; omega
  rw [hnext] at hnok hnn
  have hdep := depth_small hnok (by omega)
  obtain ⟨hb1, hb2⟩ := M.bounds hnok
  have hne := hnok.n
  (repeat (first | refine GK.run ?_ | (refine GK.box ?_; intro bl) | (refine GK.mkMap ?_; intro bm) | (refine GK.build0 tb ?_; intro bs)))
  refine GL.cons ?_; refine Gt.allocAny tb (by first | exact Wt.none | exact Wt.some rfl rfl (by first | exact rfl | decide +kernel)) (by exact rfl) (by exact rfl) ?_
  intro br lr hlr
  (repeat (first | refine GK.run ?_ | (refine GK.box ?_; intro bl) | (refine GK.mkMap ?_; intro bm) | (refine GK.build0 tb ?_; intro bs)))
  refine GL.cons ?_
  refine Gt.storeAny tb 0 (by first | exact Wt.none | exact Wt.some rfl rfl (by first | exact rfl | decide +kernel)) rfl rfl rfl (acC_len a) (acC_one a) rfl hlr ?_
  (repeat (first | refine GK.run ?_ | (refine GK.box ?_; intro bl) | (refine GK.mkMap ?_; intro bm) | (refine GK.build0 tb ?_; intro bs)))
  refine GL.cons ?_; refine GO.call [2,1] (fun hF' hle hH => play_ok hmok hr1 hl1 (by omega) mb a (by omega)) (by first | exact Wt.none | exact Wt.some rfl rfl (by first | exact rfl | decide +kernel)) (by kernel_rfl) rfl rfl rfl ?_
  rintro v Γ' ⟨H2, q2, lv2, le2, rfl, rfl, hr2, hl2⟩
  obtain ⟨m', hm'⟩ : ∃ m', actM (ran (l.take i)) a = m' := ⟨_, rfl⟩
  rw [hm'] at hnext hnok hnn hdep hb1 hb2 hr2 hl2 hne ⊢
  obtain ⟨p2, c2, rfl, hc2, hll2, hlr2⟩ := rs.out hl2
  obtain ⟨n, hn0⟩ : ∃ n, m'.n = n := ⟨_, rfl⟩
  obtain ⟨d, hd0⟩ : ∃ d, m'.depth = d := ⟨_, rfl⟩
  (repeat (first | refine GK.run ?_ | (refine GK.box ?_; intro bl) | (refine GK.mkMap ?_; intro bm) | (refine GK.build0 tb ?_; intro bs)))
  refine GL.cons ?_; refine GO.call [0] (fun hF' hle hH => mlen_ok (m := m') mb) (by first | exact Wt.none | exact Wt.some rfl rfl (by first | exact rfl | decide +kernel)) (by kernel_rfl) rfl rfl rfl ?_
  rintro v Γ' ⟨rfl, rfl⟩
  (repeat (first | refine GK.run ?_ | (refine GK.box ?_; intro bl) | (refine GK.mkMap ?_; intro bm) | (refine GK.build0 tb ?_; intro bs)))
  refine GL.cons ?_; refine GO.call [0,0] (fun hF' hle hH => mdepth_ok hnok hr2 mb (by omega)) (by first | exact Wt.none | exact Wt.some rfl rfl (by first | exact rfl | decide +kernel)) (by kernel_rfl) rfl rfl rfl ?_
  rintro v Γ' ⟨rfl, rfl⟩
  rw [hn0, hd0, ← hne, hn0]
  rw [hn0, hd0] at hb1
  rw [hn0, hd0] at hb2
  rw [hd0] at hdep
  rw [hn0] at hnn
  have hib : i < 140737488355328 := by omega
  (repeat (first | refine GK.run ?_ | (refine GK.box ?_; intro bl) | (refine GK.mkMap ?_; intro bm) | (refine GK.build0 tb ?_; intro bs)))
  refine GL.cut (fun _ : Unit => [(49, .bool false), (3, nptr mb), (14, .slice (some ⟨bb, o, none⟩) l.length c), (15, .int .i64 (l.length : Int)), (4, .slice p2 n c2), (16, .int .i64 (i : Int)), (7, .int .i64 (n : Int)), (8, .int .i64 (d : Int))]) (fun _ => [poolOf H2, mblk mb (.pointer q2) n]) (fun _ => True) (fun _ _ => ?_) ?_
  rotate_left
  · refine GK.split 35 _ rfl (fun h1 => ?_) (fun h1 => ?_)
    · exfalso; simp at h1
    (repeat (first | refine GK.run ?_ | (refine GK.box ?_; intro bl) | (refine GK.mkMap ?_; intro bm) | (refine GK.build0 tb ?_; intro bs)))
    refine GK.split 42 _ rfl (fun h2 => ?_) (fun h2 => ?_)
    · exfalso
      have e : decide ((n : Int) = 0) = decide ((d : Int) = 0) := by rw [decide_eq_decide]; omega
      have h2 : (!(decide ((n : Int) = 0) == decide ((d : Int) = 0))) = true := h2
      rw [e, beq_self_eq_true] at h2
      cases h2
    (repeat (first | refine GK.run ?_ | (refine GK.box ?_; intro bl) | (refine GK.mkMap ?_; intro bm) | (refine GK.build0 tb ?_; intro bs)))
    refine GK.split 46 _ rfl (fun h3 => ?_) (fun h3 => ?_)
    · exfalso; simp at h3; omega
    (repeat (first | refine GK.run ?_ | (refine GK.box ?_; intro bl) | (refine GK.mkMap ?_; intro bm) | (refine GK.build0 tb ?_; intro bs)))
    refine GQ.reach () trivial ?_ (fun w s => s.sel [1, 0] rfl)
    have e : decide ((8 : Int) < (d : Int)) = false := decide_eq_false (by omega)
    rw [← e]; exact (by repeat (first | exact trivial | refine ⟨rfl, ?_⟩))
  (repeat (first | refine GK.run ?_ | (refine GK.box ?_; intro bl) | (refine GK.mkMap ?_; intro bm) | (refine GK.build0 tb ?_; intro bs)))
  refine GL.cut (fun _ : Unit => [(70, .bool false), (3, nptr mb), (14, .slice (some ⟨bb, o, none⟩) l.length c), (15, .int .i64 (l.length : Int)), (4, .slice p2 n c2), (16, .int .i64 (i : Int))]) (fun _ => [poolOf H2, mblk mb (.pointer q2) n]) (fun _ => True) (fun _ _ => ?_) ?_
  rotate_left
  · rcases (show d = 0 ∨ d = 1 ∨ d = 2 ∨ d = 3 ∨ d = 4 ∨ d = 5 ∨ d = 6 ∨ d = 7 by omega) with rfl | rfl | rfl | rfl | rfl | rfl | rfl | rfl
    · (repeat (first | refine GK.run ?_ | (refine GK.box ?_; intro bl) | (refine GK.mkMap ?_; intro bm) | (refine GK.build0 tb ?_; intro bs)))
      (repeat (refine GL.cons ?_; refine GO.skip (by exact wt_undef rfl rfl) ?_))
      (repeat (first | refine GK.run ?_ | (refine GK.box ?_; intro bl) | (refine GK.mkMap ?_; intro bm) | (refine GK.build0 tb ?_; intro bs)))
      exact GQ.reach () trivial (by repeat (first | exact trivial | refine ⟨rfl, ?_⟩)) (fun w s => s)
    · obtain ⟨hb3, hb4⟩ := hb2 (by decide)
      have hb3 : 2 ≤ n + 1 := hb3
      have hb4 : n + 1 ≤ 8 := hb4
      have e57 : IntKind.i64.wrap (2 * 2 ^ min (IntKind.u64.wrap (2 * ((1 : Nat) : Int) - 2)).toNat IntKind.i64.bits) = 2 := by decide +kernel
      have e66 : IntKind.i64.wrap (1 * 2 ^ min (IntKind.u64.wrap (3 * ((1 : Nat) : Int))).toNat IntKind.i64.bits) = 8 := by decide +kernel
      (repeat (first | refine GK.run ?_ | (refine GK.box ?_; intro bl) | (refine GK.mkMap ?_; intro bm) | (refine GK.build0 tb ?_; intro bs)))
      refine GL.cons ?_
      refine GO.yield (by first | exact Wt.none | exact Wt.some rfl rfl (by first | exact rfl | decide +kernel)) (Yl.shl rfl rfl (by decide +kernel)) ?_
      rw [e57]
      (repeat (first | refine GK.run ?_ | (refine GK.box ?_; intro bl) | (refine GK.mkMap ?_; intro bm) | (refine GK.build0 tb ?_; intro bs)))
      refine GK.split 61 _ rfl (fun h1 => ?_) (fun h1 => ?_)
      · exfalso
        have h1 : (n : Int) < 2 - 1 := of_decide_eq_true h1
        omega
      (repeat (first | refine GK.run ?_ | (refine GK.box ?_; intro bl) | (refine GK.mkMap ?_; intro bm) | (refine GK.build0 tb ?_; intro bs)))
      refine GL.cons ?_
      refine GO.yield (by first | exact Wt.none | exact Wt.some rfl rfl (by first | exact rfl | decide +kernel)) (Yl.shl rfl rfl (by decide +kernel)) ?_
      rw [e66]
      (repeat (first | refine GK.run ?_ | (refine GK.box ?_; intro bl) | (refine GK.mkMap ?_; intro bm) | (refine GK.build0 tb ?_; intro bs)))
      refine GQ.reach () trivial ?_ (fun w s => s)
      have e : decide (((8 : Int) - 1) < (n : Int)) = false := decide_eq_false (by omega)
      rw [← e]; exact (by repeat (first | exact trivial | refine ⟨rfl, ?_⟩))
    · obtain ⟨hb3, hb4⟩ := hb2 (by decide)
      have hb3 : 8 ≤ n + 1 := hb3
      have hb4 : n + 1 ≤ 64 := hb4
      have e57 : IntKind.i64.wrap (2 * 2 ^ min (IntKind.u64.wrap (2 * ((2 : Nat) : Int) - 2)).toNat IntKind.i64.bits) = 8 := by decide +kernel
      have e66 : IntKind.i64.wrap (1 * 2 ^ min (IntKind.u64.wrap (3 * ((2 : Nat) : Int))).toNat IntKind.i64.bits) = 64 := by decide +kernel
      (repeat (first | refine GK.run ?_ | (refine GK.box ?_; intro bl) | (refine GK.mkMap ?_; intro bm) | (refine GK.build0 tb ?_; intro bs)))
      refine GL.cons ?_
      refine GO.yield (by first | exact Wt.none | exact Wt.some rfl rfl (by first | exact rfl | decide +kernel)) (Yl.shl rfl rfl (by decide +kernel)) ?_
      rw [e57]
      (repeat (first | refine GK.run ?_ | (refine GK.box ?_; intro bl) | (refine GK.mkMap ?_; intro bm) | (refine GK.build0 tb ?_; intro bs)))
      refine GK.split 61 _ rfl (fun h1 => ?_) (fun h1 => ?_)
      · exfalso
        have h1 : (n : Int) < 8 - 1 := of_decide_eq_true h1
        omega
      (repeat (first | refine GK.run ?_ | (refine GK.box ?_; intro bl) | (refine GK.mkMap ?_; intro bm) | (refine GK.build0 tb ?_; intro bs)))
      refine GL.cons ?_
      refine GO.yield (by first | exact Wt.none | exact Wt.some rfl rfl (by first | exact rfl | decide +kernel)) (Yl.shl rfl rfl (by decide +kernel)) ?_
      rw [e66]
      (repeat (first | refine GK.run ?_ | (refine GK.box ?_; intro bl) | (refine GK.mkMap ?_; intro bm) | (refine GK.build0 tb ?_; intro bs)))
      refine GQ.reach () trivial ?_ (fun w s => s)
      have e : decide (((64 : Int) - 1) < (n : Int)) = false := decide_eq_false (by omega)
      rw [← e]; exact (by repeat (first | exact trivial | refine ⟨rfl, ?_⟩))
    · obtain ⟨hb3, hb4⟩ := hb2 (by decide)
      have hb3 : 32 ≤ n + 1 := hb3
      have hb4 : n + 1 ≤ 512 := hb4
      have e57 : IntKind.i64.wrap (2 * 2 ^ min (IntKind.u64.wrap (2 * ((3 : Nat) : Int) - 2)).toNat IntKind.i64.bits) = 32 := by decide +kernel
      have e66 : IntKind.i64.wrap (1 * 2 ^ min (IntKind.u64.wrap (3 * ((3 : Nat) : Int))).toNat IntKind.i64.bits) = 512 := by decide +kernel
      (repeat (first | refine GK.run ?_ | (refine GK.box ?_; intro bl) | (refine GK.mkMap ?_; intro bm) | (refine GK.build0 tb ?_; intro bs)))
      refine GL.cons ?_
      refine GO.yield (by first | exact Wt.none | exact Wt.some rfl rfl (by first | exact rfl | decide +kernel)) (Yl.shl rfl rfl (by decide +kernel)) ?_
      rw [e57]
      (repeat (first | refine GK.run ?_ | (refine GK.box ?_; intro bl) | (refine GK.mkMap ?_; intro bm) | (refine GK.build0 tb ?_; intro bs)))
      refine GK.split 61 _ rfl (fun h1 => ?_) (fun h1 => ?_)
      · exfalso
        have h1 : (n : Int) < 32 - 1 := of_decide_eq_true h1
        omega
      (repeat (first | refine GK.run ?_ | (refine GK.box ?_; intro bl) | (refine GK.mkMap ?_; intro bm) | (refine GK.build0 tb ?_; intro bs)))
      refine GL.cons ?_
      refine GO.yield (by first | exact Wt.none | exact Wt.some rfl rfl (by first | exact rfl | decide +kernel)) (Yl.shl rfl rfl (by decide +kernel)) ?_
      rw [e66]
      (repeat (first | refine GK.run ?_ | (refine GK.box ?_; intro bl) | (refine GK.mkMap ?_; intro bm) | (refine GK.build0 tb ?_; intro bs)))
      refine GQ.reach () trivial ?_ (fun w s => s)
      have e : decide (((512 : Int) - 1) < (n : Int)) = false := decide_eq_false (by omega)
      rw [← e]; exact (by repeat (first | exact trivial | refine ⟨rfl, ?_⟩))
    · obtain ⟨hb3, hb4⟩ := hb2 (by decide)
      have hb3 : 128 ≤ n + 1 := hb3
      have hb4 : n + 1 ≤ 4096 := hb4
      have e57 : IntKind.i64.wrap (2 * 2 ^ min (IntKind.u64.wrap (2 * ((4 : Nat) : Int) - 2)).toNat IntKind.i64.bits) = 128 := by decide +kernel
      have e66 : IntKind.i64.wrap (1 * 2 ^ min (IntKind.u64.wrap (3 * ((4 : Nat) : Int))).toNat IntKind.i64.bits) = 4096 := by decide +kernel
      (repeat (first | refine GK.run ?_ | (refine GK.box ?_; intro bl) | (refine GK.mkMap ?_; intro bm) | (refine GK.build0 tb ?_; intro bs)))
      refine GL.cons ?_
      refine GO.yield (by first | exact Wt.none | exact Wt.some rfl rfl (by first | exact rfl | decide +kernel)) (Yl.shl rfl rfl (by decide +kernel)) ?_
      rw [e57]
      (repeat (first | refine GK.run ?_ | (refine GK.box ?_; intro bl) | (refine GK.mkMap ?_; intro bm) | (refine GK.build0 tb ?_; intro bs)))
      refine GK.split 61 _ rfl (fun h1 => ?_) (fun h1 => ?_)
      · exfalso
        have h1 : (n : Int) < 128 - 1 := of_decide_eq_true h1
        omega
      (repeat (first | refine GK.run ?_ | (refine GK.box ?_; intro bl) | (refine GK.mkMap ?_; intro bm) | (refine GK.build0 tb ?_; intro bs)))
      refine GL.cons ?_
      refine GO.yield (by first | exact Wt.none | exact Wt.some rfl rfl (by first | exact rfl | decide +kernel)) (Yl.shl rfl rfl (by decide +kernel)) ?_
      rw [e66]
      (repeat (first | refine GK.run ?_ | (refine GK.box ?_; intro bl) | (refine GK.mkMap ?_; intro bm) | (refine GK.build0 tb ?_; intro bs)))
      refine GQ.reach () trivial ?_ (fun w s => s)
      have e : decide (((4096 : Int) - 1) < (n : Int)) = false := decide_eq_false (by omega)
      rw [← e]; exact (by repeat (first | exact trivial | refine ⟨rfl, ?_⟩))
    · obtain ⟨hb3, hb4⟩ := hb2 (by decide)
      have hb3 : 512 ≤ n + 1 := hb3
      have hb4 : n + 1 ≤ 32768 := hb4
      have e57 : IntKind.i64.wrap (2 * 2 ^ min (IntKind.u64.wrap (2 * ((5 : Nat) : Int) - 2)).toNat IntKind.i64.bits) = 512 := by decide +kernel
      have e66 : IntKind.i64.wrap (1 * 2 ^ min (IntKind.u64.wrap (3 * ((5 : Nat) : Int))).toNat IntKind.i64.bits) = 32768 := by decide +kernel
      (repeat (first | refine GK.run ?_ | (refine GK.box ?_; intro bl) | (refine GK.mkMap ?_; intro bm) | (refine GK.build0 tb ?_; intro bs)))
      refine GL.cons ?_
      refine GO.yield (by first | exact Wt.none | exact Wt.some rfl rfl (by first | exact rfl | decide +kernel)) (Yl.shl rfl rfl (by decide +kernel)) ?_
      rw [e57]
      (repeat (first | refine GK.run ?_ | (refine GK.box ?_; intro bl) | (refine GK.mkMap ?_; intro bm) | (refine GK.build0 tb ?_; intro bs)))
      refine GK.split 61 _ rfl (fun h1 => ?_) (fun h1 => ?_)
      · exfalso
        have h1 : (n : Int) < 512 - 1 := of_decide_eq_true h1
        omega
      (repeat (first | refine GK.run ?_ | (refine GK.box ?_; intro bl) | (refine GK.mkMap ?_; intro bm) | (refine GK.build0 tb ?_; intro bs)))
      refine GL.cons ?_
      refine GO.yield (by first | exact Wt.none | exact Wt.some rfl rfl (by first | exact rfl | decide +kernel)) (Yl.shl rfl rfl (by decide +kernel)) ?_
      rw [e66]
      (repeat (first | refine GK.run ?_ | (refine GK.box ?_; intro bl) | (refine GK.mkMap ?_; intro bm) | (refine GK.build0 tb ?_; intro bs)))
      refine GQ.reach () trivial ?_ (fun w s => s)
      have e : decide (((32768 : Int) - 1) < (n : Int)) = false := decide_eq_false (by omega)
      rw [← e]; exact (by repeat (first | exact trivial | refine ⟨rfl, ?_⟩))
    · obtain ⟨hb3, hb4⟩ := hb2 (by decide)
      have hb3 : 2048 ≤ n + 1 := hb3
      have hb4 : n + 1 ≤ 262144 := hb4
      have e57 : IntKind.i64.wrap (2 * 2 ^ min (IntKind.u64.wrap (2 * ((6 : Nat) : Int) - 2)).toNat IntKind.i64.bits) = 2048 := by decide +kernel
      have e66 : IntKind.i64.wrap (1 * 2 ^ min (IntKind.u64.wrap (3 * ((6 : Nat) : Int))).toNat IntKind.i64.bits) = 262144 := by decide +kernel
      (repeat (first | refine GK.run ?_ | (refine GK.box ?_; intro bl) | (refine GK.mkMap ?_; intro bm) | (refine GK.build0 tb ?_; intro bs)))
      refine GL.cons ?_
      refine GO.yield (by first | exact Wt.none | exact Wt.some rfl rfl (by first | exact rfl | decide +kernel)) (Yl.shl rfl rfl (by decide +kernel)) ?_
      rw [e57]
      (repeat (first | refine GK.run ?_ | (refine GK.box ?_; intro bl) | (refine GK.mkMap ?_; intro bm) | (refine GK.build0 tb ?_; intro bs)))
      refine GK.split 61 _ rfl (fun h1 => ?_) (fun h1 => ?_)
      · exfalso
        have h1 : (n : Int) < 2048 - 1 := of_decide_eq_true h1
        omega
      (repeat (first | refine GK.run ?_ | (refine GK.box ?_; intro bl) | (refine GK.mkMap ?_; intro bm) | (refine GK.build0 tb ?_; intro bs)))
      refine GL.cons ?_
      refine GO.yield (by first | exact Wt.none | exact Wt.some rfl rfl (by first | exact rfl | decide +kernel)) (Yl.shl rfl rfl (by decide +kernel)) ?_
      rw [e66]
      (repeat (first | refine GK.run ?_ | (refine GK.box ?_; intro bl) | (refine GK.mkMap ?_; intro bm) | (refine GK.build0 tb ?_; intro bs)))
      refine GQ.reach () trivial ?_ (fun w s => s)
      have e : decide (((262144 : Int) - 1) < (n : Int)) = false := decide_eq_false (by omega)
      rw [← e]; exact (by repeat (first | exact trivial | refine ⟨rfl, ?_⟩))
    · obtain ⟨hb3, hb4⟩ := hb2 (by decide)
      have hb3 : 8192 ≤ n + 1 := hb3
      have hb4 : n + 1 ≤ 2097152 := hb4
      have e57 : IntKind.i64.wrap (2 * 2 ^ min (IntKind.u64.wrap (2 * ((7 : Nat) : Int) - 2)).toNat IntKind.i64.bits) = 8192 := by decide +kernel
      have e66 : IntKind.i64.wrap (1 * 2 ^ min (IntKind.u64.wrap (3 * ((7 : Nat) : Int))).toNat IntKind.i64.bits) = 2097152 := by decide +kernel
      (repeat (first | refine GK.run ?_ | (refine GK.box ?_; intro bl) | (refine GK.mkMap ?_; intro bm) | (refine GK.build0 tb ?_; intro bs)))
      refine GL.cons ?_
      refine GO.yield (by first | exact Wt.none | exact Wt.some rfl rfl (by first | exact rfl | decide +kernel)) (Yl.shl rfl rfl (by decide +kernel)) ?_
      rw [e57]
      (repeat (first | refine GK.run ?_ | (refine GK.box ?_; intro bl) | (refine GK.mkMap ?_; intro bm) | (refine GK.build0 tb ?_; intro bs)))
      refine GK.split 61 _ rfl (fun h1 => ?_) (fun h1 => ?_)
      · exfalso
        have h1 : (n : Int) < 8192 - 1 := of_decide_eq_true h1
        omega
      (repeat (first | refine GK.run ?_ | (refine GK.box ?_; intro bl) | (refine GK.mkMap ?_; intro bm) | (refine GK.build0 tb ?_; intro bs)))
      refine GL.cons ?_
      refine GO.yield (by first | exact Wt.none | exact Wt.some rfl rfl (by first | exact rfl | decide +kernel)) (Yl.shl rfl rfl (by decide +kernel)) ?_
      rw [e66]
      (repeat (first | refine GK.run ?_ | (refine GK.box ?_; intro bl) | (refine GK.mkMap ?_; intro bm) | (refine GK.build0 tb ?_; intro bs)))
      refine GQ.reach () trivial ?_ (fun w s => s)
      have e : decide (((2097152 : Int) - 1) < (n : Int)) = false := decide_eq_false (by omega)
      rw [← e]; exact (by repeat (first | exact trivial | refine ⟨rfl, ?_⟩))
  (repeat (first | refine GK.run ?_ | (refine GK.box ?_; intro bl) | (refine GK.mkMap ?_; intro bm) | (refine GK.build0 tb ?_; intro bs)))
  refine GQ.again (i + 1, H2, q2, .slice p2 m'.ents.length c2) ⟨by show i + 1 ≤ _; omega, ?_, ?_⟩ (by show l.length - (i + 1) < l.length - i; omega) ?_ (fun w s => ?_)
  · show RootAt H2 (ran (l.take (i + 1))).root (.pointer q2)
    rw [hnext]; exact hr2
  · show Lst H2 (.slice p2 m'.ents.length c2) (ran (l.take (i + 1))).ents
    rw [hnext]; exact hl2
  · show Sub [(3, _), (14, _), (15, _), (4, .slice p2 m'.ents.length c2), (16, _)] _
    rw [← hne, hn0]
    exact (by repeat (first | exact trivial | refine ⟨rfl, ?_⟩))
  · show Sat [poolOf H2, mblk mb (.pointer q2) (ran (l.take (i + 1))).n] _ _
    rw [hnext, hn0]; exact s.sel [0, 0] rfl
end Go.Tr
