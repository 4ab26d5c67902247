/- DiskPlays, walked. -/
import Derived.Test.YtmiajgldkbmbjaaRkH
import Derived.Test.YtmiajgldkbmbjaaDkL
namespace Go.Dk
open Go Go.Sl
theorem actM_grow (D : DM) (a : ActM) : (actM D a).opn ≤ D.opn + 1 ∧ (actM D a).pend.length ≤ D.pend.length + 1 := by
  obtain ⟨g1, g2, _⟩ := goes_opn D
  unfold actM
  split
  · unfold DM.write
    split
    · exact ⟨by show D.opn ≤ _; omega, by show D.pend.length ≤ _; omega⟩
    split
    · exact ⟨by show D.opn ≤ _; omega, by show D.pend.length ≤ _; omega⟩
    split
    · exact ⟨g1, by show D.goes.2.pend.length ≤ _; rw [g2]; omega⟩
    · exact ⟨g1, by simp⟩
  split
  · unfold DM.flush
    split
    · exact ⟨by show D.opn ≤ _; omega, by show D.pend.length ≤ _; omega⟩
    split
    · exact ⟨g1, by show D.goes.2.pend.length ≤ _; rw [g2]; omega⟩
    · exact ⟨g1, by simp⟩
  split
  · unfold DM.arm
    split
    · exact ⟨by show D.opn ≤ _; omega, by show D.pend.length ≤ _; omega⟩
    split
    · exact ⟨by show D.opn ≤ _; omega, by show D.pend.length ≤ _; omega⟩
    · exact ⟨by show D.opn ≤ _; omega, by show D.pend.length ≤ _; omega⟩
  split
  · unfold DM.restart
    split
    · exact ⟨by show D.opn ≤ _; omega, by show D.pend.length ≤ _; omega⟩
    · exact ⟨by show D.opn ≤ _; omega, by simp⟩
  · exact ⟨by omega, by omega⟩
theorem xact_ok : ActM.Ok ⟨0, 0, [120], false, []⟩ := ⟨by simp, by simp, by simp, by simp⟩
theorem dk_ok {d : Nat} {D : DM} {Γ : List HProp} {hF : Hp} {w : World} (h : Sat (dk d D :: Γ) hF w) : D.Ok := by
  obtain ⟨x, hx, _⟩ := h.opens
  exact hx.ok
attribute [local irreducible] GK GO Yl Wt Ef Hd GH KH wpList Code.wp Sat pt FnOk Rd bodyPost Ret Exit.then Exit.inBlock Exit.noGoto exs Int.decLt Int.decLe Int.instDecidableEq
attribute [local irreducible] rep whole blank DM.write DM.flush DM.arm DM.restart DM.read DM.fresh actM
variable {hF : Hp}
set_option maxHeartbeats 8000000 in
theorem plays_ok (n : Int) (v : Value) (l : List ActM) (hv : roActs hF v l) : FnOk Go.Proofs.Try.prog 5 [.int .i64 n, v] [] hF (fun v _ => v = .bool true) := by
  refine FnOk.intro 100 Go.Proofs.Try.func5 rfl rfl fun w0 => ?_
  have hv0 := hv
  obtain ⟨els, hel, ⟨vp, vc, rfl, hvo⟩, hll, h5, hacts⟩ := hv
  refine G.seq ?_
  refine G.region ?_
  refine GL.cons ?_
  refine GO.yield (by first | exact Wt.none | exact Wt.some rfl rfl (by first | exact rfl | decide +kernel)) (Yl.assign rfl) ?_
  refine GL.nil ?_
  refine GQ.next ?_
  refine G.seq ?_
  refine G.cut (fun m : Int => [(1, .slice vp l.length vc), (0, .int .i64 m)]) (fun _ => []) (fun m => m ≤ 64 ∨ 4096 < m) (fun m hm => ?_) ?_
  rotate_left
  · (repeat (first | refine GK.run ?_ | (refine GK.box ?_; intro bl) | (refine GK.mkMap ?_; intro bm) | (refine GK.build0 tb ?_; intro bs)))
    refine GK.split 14 _ rfl (fun h => ?_) (fun h => ?_)
    · (repeat (first | refine GK.run ?_ | (refine GK.box ?_; intro bl) | (refine GK.mkMap ?_; intro bm) | (refine GK.build0 tb ?_; intro bs)))
      refine G.cond rfl (fun h2 => ?_) (fun h2 => ?_)
      · (repeat (first | refine GK.run ?_ | (refine GK.box ?_; intro bl) | (refine GK.mkMap ?_; intro bm) | (refine GK.build0 tb ?_; intro bs)))
        exact GQ.reach 64 (by omega) (by repeat (first | exact trivial | refine ⟨rfl, ?_⟩)) (fun w s => s)
      · (repeat (first | refine GK.run ?_ | (refine GK.box ?_; intro bl) | (refine GK.mkMap ?_; intro bm) | (refine GK.build0 tb ?_; intro bs)))
        exact GQ.reach n (by simp at h h2; omega) (by repeat (first | exact trivial | refine ⟨rfl, ?_⟩)) (fun w s => s)
    · (repeat (first | refine GK.run ?_ | (refine GK.box ?_; intro bl) | (refine GK.mkMap ?_; intro bm) | (refine GK.build0 tb ?_; intro bs)))
      exact GQ.reach n (by simp at h; omega) (by repeat (first | exact trivial | refine ⟨rfl, ?_⟩)) (fun w s => s)
  (repeat (first | refine GK.run ?_ | (refine GK.box ?_; intro bl) | (refine GK.mkMap ?_; intro bm) | (refine GK.build0 tb ?_; intro bs)))
  refine GL.cons ?_; refine GO.call [] (fun hF' hle hH => new_ok m) (by first | exact Wt.none | exact Wt.some rfl rfl (by first | exact rfl | decide +kernel)) (by kernel_rfl) rfl rfl rfl ?_
  intro v Γ' hnew
  by_cases hb : m < 1 ∨ 4096 < m
  · rw [if_pos hb] at hnew
    obtain ⟨rfl, rfl⟩ := hnew
    (repeat (first | refine GK.run ?_ | (refine GK.box ?_; intro bl) | (refine GK.mkMap ?_; intro bm) | (refine GK.build0 tb ?_; intro bs)))
    refine GL.cons ?_; refine GO.call [] (fun hF' hle hH => rnew_ok m) (by first | exact Wt.none | exact Wt.some rfl rfl (by first | exact rfl | decide +kernel)) (by kernel_rfl) rfl rfl rfl ?_
    intro v Γ' hnew
    rw [if_pos hb] at hnew
    obtain ⟨rfl, rfl⟩ := hnew
    (repeat (first | refine GK.run ?_ | (refine GK.box ?_; intro bl) | (refine GK.mkMap ?_; intro bm) | (refine GK.build0 tb ?_; intro bs)))
    refine GK.weak (by repeat (first | exact trivial | refine ⟨rfl, ?_⟩)) (fun w s => s) (G.loop (fun _ : Unit => 0) (fun _ => [(1, .slice vp l.length vc), (7, .pointer none), (9, .int .i64 0)]) (fun _ => []) (fun _ => True) (fun x hx => ?_) () trivial)
    (repeat (first | refine GK.run ?_ | (refine GK.box ?_; intro bl) | (refine GK.mkMap ?_; intro bm) | (refine GK.build0 tb ?_; intro bs)))
    refine GK.split 42 _ rfl (fun h => ?_) (fun h => ?_)
    · (repeat (first | refine GK.run ?_ | (refine GK.box ?_; intro bl) | (refine GK.mkMap ?_; intro bm) | (refine GK.build0 tb ?_; intro bs)))
      refine GL.cons ?_; refine GO.call [] (fun hF' hle hH => lives_ok) (by first | exact Wt.none | exact Wt.some rfl rfl (by first | exact rfl | decide +kernel)) (by kernel_rfl) rfl rfl rfl ?_
      rintro v Γ' rfl
      (repeat (first | refine GK.run ?_ | (refine GK.box ?_; intro bl) | (refine GK.mkMap ?_; intro bm) | (refine GK.build0 tb ?_; intro bs)))
      exact GQ.end1 rfl rfl rfl
    · (repeat (first | refine GK.run ?_ | (refine GK.box ?_; intro bl) | (refine GK.mkMap ?_; intro bm) | (refine GK.build0 tb ?_; intro bs)))
      refine GL.cons ?_; refine GO.call [] (fun hF' hle hH => lives_ok) (by first | exact Wt.none | exact Wt.some rfl rfl (by first | exact rfl | decide +kernel)) (by kernel_rfl) rfl rfl rfl ?_
      rintro v Γ' rfl
      (repeat (first | refine GK.run ?_ | (refine GK.box ?_; intro bl) | (refine GK.mkMap ?_; intro bm) | (refine GK.build0 tb ?_; intro bs)))
      exact GQ.end1 rfl rfl rfl
  · rw [if_neg hb] at hnew
    obtain ⟨d, rfl, rfl⟩ := hnew
    (repeat (first | refine GK.run ?_ | (refine GK.box ?_; intro bl) | (refine GK.mkMap ?_; intro bm) | (refine GK.build0 tb ?_; intro bs)))
    refine GL.cons ?_; refine GO.call [] (fun hF' hle hH => rnew_ok m) (by first | exact Wt.none | exact Wt.some rfl rfl (by first | exact rfl | decide +kernel)) (by kernel_rfl) rfl rfl rfl ?_
    intro v Γ' hnew
    rw [if_neg hb] at hnew
    obtain ⟨r, rfl, rfl⟩ := hnew
    (repeat (first | refine GK.run ?_ | (refine GK.box ?_; intro bl) | (refine GK.mkMap ?_; intro bm) | (refine GK.build0 tb ?_; intro bs)))
    refine GK.weak (by repeat (first | exact trivial | refine ⟨rfl, ?_⟩)) (fun w s => s.sel [1, 0] rfl) (G.loop (fun x : Nat × Nat × Nat × DM => 100 - x.1)
      (fun x => [(1, .slice vp l.length vc), (5, dptr x.2.1), (7, dptr x.2.2.1), (9, .int .i64 x.1)])
      (fun x => [dk x.2.1 x.2.2.2, rk x.2.2.1 x.2.2.2])
      (fun x => x.1 ≤ 100 ∧ x.2.2.2.opn ≤ x.1 ∧ x.2.2.2.pend.length ≤ x.1) (fun x hx => ?_) (0, d, r, DM.fresh m.toNat) ⟨by omega, ?_, ?_⟩)
    rotate_left
    · show (DM.fresh m.toNat).opn ≤ _; rw [(fresh_opn _).1]; exact Int.le_refl _
    · show (DM.fresh m.toNat).pend.length ≤ _; rw [(fresh_opn _).2.1]; exact Nat.le_refl _
    obtain ⟨i, d, r, D⟩ := x
    obtain ⟨hi, hopn, hpend⟩ := hx
    replace hi : i ≤ 100 := hi
    replace hopn : D.opn ≤ i := hopn
    replace hpend : D.pend.length ≤ i := hpend
    refine GK.pure (fun w s => dk_ok s) fun hD => ?_
    have hopn2 : D.opn < 1000000000000000000 := by omega
    have hpend2 : D.pend.length < 1000000000 := by omega
    (repeat (first | refine GK.run ?_ | (refine GK.box ?_; intro bl) | (refine GK.mkMap ?_; intro bm) | (refine GK.build0 tb ?_; intro bs)))
    refine GK.split 42 _ rfl (fun h => ?_) (fun h => ?_)
    · have h : i < l.length := by simpa using h
      (repeat (first | refine GK.run ?_ | (refine GK.box ?_; intro bl) | (refine GK.mkMap ?_; intro bm) | (refine GK.build0 tb ?_; intro bs)))
      refine GK.split 46 _ rfl (fun h2 => ?_) (fun h2 => ?_)
      · have h2 : i < 100 := by simp at h2; omega
        obtain ⟨a, ha⟩ : ∃ a, l[i]? = some a := ⟨_, List.getElem?_eq_getElem h⟩
        obtain ⟨row, hrow, haat⟩ := hacts i a ha
        have haat0 := haat
        obtain ⟨bv, kv, rfl, hbv, hkv, haok⟩ := haat
        obtain ⟨vb, vo, cs, ve, vfz, rfl, hcs, hat⟩ := hvo (by omega)
        have hat := At.ofFlatten h5 hat hrow
        have hl5 : [Value.int .i64 a.kind, .int .i64 a.n, bv, .bool a.short, kv].length = 5 := rfl
        have a0 : cs[vo + i * 5 + 0]? = some (.int .i64 a.kind) := hat 0 _ rfl
        (repeat (first | refine GK.run ?_ | (refine GK.box ?_; intro bl) | (refine GK.mkMap ?_; intro bm) | (refine GK.build0 tb ?_; intro bs)))
        refine G.cond rfl (fun h3 => ?_) (fun h3 => ?_)
        · have h3 : a.kind = 5 := by simpa using h3
          (repeat (first | refine GK.run ?_ | (refine GK.box ?_; intro bl) | (refine GK.mkMap ?_; intro bm) | (refine GK.build0 tb ?_; intro bs)))
          refine GL.cons ?_; refine GO.call [0] (fun hF' hle hH => clone_ok) (by first | exact Wt.none | exact Wt.some rfl rfl (by first | exact rfl | decide +kernel)) (by kernel_rfl) rfl rfl rfl ?_
          rintro v Γ' ⟨d2, rfl, rfl⟩
          (repeat (first | refine GK.run ?_ | (refine GK.box ?_; intro bl) | (refine GK.mkMap ?_; intro bm) | (refine GK.build0 tb ?_; intro bs)))
          refine GL.cons ?_; refine GO.call [2] (fun hF' hle hH => rclone_ok hD) (by first | exact Wt.none | exact Wt.some rfl rfl (by first | exact rfl | decide +kernel)) (by kernel_rfl) rfl rfl rfl ?_
          rintro v Γ' ⟨r2, rfl, rfl⟩
          (repeat (first | refine GK.run ?_ | (refine GK.box ?_; intro bl) | (refine GK.mkMap ?_; intro bm) | (refine GK.build0 tb ?_; intro bs)))
          refine GL.cons ?_; refine GO.call [2,0] (fun hF' hle hH => same_ok hD) (by first | exact Wt.none | exact Wt.some rfl rfl (by first | exact rfl | decide +kernel)) (by kernel_rfl) rfl rfl rfl ?_
          rintro v Γ' ⟨rfl, rfl⟩
          (repeat (first | refine GK.run ?_ | (refine GK.box ?_; intro bl) | (refine GK.mkMap ?_; intro bm) | (refine GK.build0 tb ?_; intro bs)))
          refine GL.cons ?_; refine Gt.buildLit tb (sz := 0) (n := 0) (by first | exact Wt.none | exact Wt.some rfl rfl (by first | exact rfl | decide +kernel)) rfl rfl (by kernel_rfl) rfl rfl rfl rfl rfl rfl ?_
          intro bx
          (repeat (first | refine GK.run ?_ | (refine GK.box ?_; intro bl) | (refine GK.mkMap ?_; intro bm) | (refine GK.build0 tb ?_; intro bs)))
          refine GL.cons ?_
          refine GO.convBytes 0 (by first | exact Wt.none | exact Wt.some rfl rfl (by first | exact rfl | decide +kernel)) rfl rfl rfl rfl ?_
          (repeat (first | refine GK.run ?_ | (refine GK.box ?_; intro bl) | (refine GK.mkMap ?_; intro bm) | (refine GK.build0 tb ?_; intro bs)))
          refine GL.cons ?_; refine GO.call [4,3] (fun hF' hle hH => do_ok _ ⟨0, 0, [120], false, []⟩ ⟨_, _, rfl, ⟨_, _, rfl, fun _ => ⟨bx, 0, _, _, _, rfl, hH.pt 0 rfl, At.all _⟩⟩, ⟨_, _, rfl, fun h => absurd h (by simp)⟩, xact_ok⟩ hD hopn2 hpend2) (by first | exact Wt.none | exact Wt.some rfl rfl (by first | exact rfl | decide +kernel)) (by kernel_rfl) rfl rfl rfl ?_
          rintro v Γ' ⟨rfl, rfl⟩
          refine GK.pure (fun w s => dk_ok s) fun hD2 => ?_
          (repeat (first | refine GK.run ?_ | (refine GK.box ?_; intro bl) | (refine GK.mkMap ?_; intro bm) | (refine GK.build0 tb ?_; intro bs)))
          refine GL.cons ?_; refine GO.call [0,0] (fun hF' hle hH => same_ok hD2) (by first | exact Wt.none | exact Wt.some rfl rfl (by first | exact rfl | decide +kernel)) (by kernel_rfl) rfl rfl rfl ?_
          rintro v Γ' ⟨rfl, rfl⟩
          (repeat (first | refine GK.run ?_ | (refine GK.box ?_; intro bl) | (refine GK.mkMap ?_; intro bm) | (refine GK.build0 tb ?_; intro bs)))
          refine GL.cons ?_; refine GO.call [3,3] (fun hF' hle hH => same_ok hD) (by first | exact Wt.none | exact Wt.some rfl rfl (by first | exact rfl | decide +kernel)) (by kernel_rfl) rfl rfl rfl ?_
          rintro v Γ' ⟨rfl, rfl⟩
          (repeat (first | refine GK.run ?_ | (refine GK.box ?_; intro bl) | (refine GK.mkMap ?_; intro bm) | (refine GK.build0 tb ?_; intro bs)))
          exact GQ.again (i + 1, d2, r2, D) ⟨h2, by show D.opn ≤ ((i + 1 : Nat) : Int); omega, by show D.pend.length ≤ i + 1; omega⟩ (by show 100 - (i + 1) < 100 - i; omega) (by repeat (first | exact trivial | refine ⟨rfl, ?_⟩)) (fun w s => s.sel [0, 0] rfl)
        · have h3 : ¬ a.kind = 5 := by simpa using h3
          (repeat (first | refine GK.run ?_ | (refine GK.box ?_; intro bl) | (refine GK.mkMap ?_; intro bm) | (refine GK.build0 tb ?_; intro bs)))
          refine GL.cons ?_; refine GO.call [0,0] (fun hF' hle hH => do_ok _ a (haat0.mono hle) hD hopn2 hpend2) (by first | exact Wt.none | exact Wt.some rfl rfl (by first | exact rfl | decide +kernel)) (by kernel_rfl) rfl rfl rfl ?_
          rintro v Γ' ⟨rfl, rfl⟩
          refine GK.pure (fun w s => dk_ok s) fun hD2 => ?_
          (repeat (first | refine GK.run ?_ | (refine GK.box ?_; intro bl) | (refine GK.mkMap ?_; intro bm) | (refine GK.build0 tb ?_; intro bs)))
          refine GL.cons ?_; refine GO.call [0,0] (fun hF' hle hH => same_ok hD2) (by first | exact Wt.none | exact Wt.some rfl rfl (by first | exact rfl | decide +kernel)) (by kernel_rfl) rfl rfl rfl ?_
          rintro v Γ' ⟨rfl, rfl⟩
          obtain ⟨g1, g2⟩ := actM_grow D a
          (repeat (first | refine GK.run ?_ | (refine GK.box ?_; intro bl) | (refine GK.mkMap ?_; intro bm) | (refine GK.build0 tb ?_; intro bs)))
          exact GQ.again (i + 1, d, r, actM D a) ⟨h2, by show (actM D a).opn ≤ ((i + 1 : Nat) : Int); omega, by show (actM D a).pend.length ≤ i + 1; omega⟩ (by show 100 - (i + 1) < 100 - i; omega) (by repeat (first | exact trivial | refine ⟨rfl, ?_⟩)) (fun w s => s)
      · (repeat (first | refine GK.run ?_ | (refine GK.box ?_; intro bl) | (refine GK.mkMap ?_; intro bm) | (refine GK.build0 tb ?_; intro bs)))
        refine GL.cons ?_; refine GO.call [] (fun hF' hle hH => lives_ok) (by first | exact Wt.none | exact Wt.some rfl rfl (by first | exact rfl | decide +kernel)) (by kernel_rfl) rfl rfl rfl ?_
        rintro v Γ' rfl
        (repeat (first | refine GK.run ?_ | (refine GK.box ?_; intro bl) | (refine GK.mkMap ?_; intro bm) | (refine GK.build0 tb ?_; intro bs)))
        exact GQ.end1 rfl rfl rfl
    · (repeat (first | refine GK.run ?_ | (refine GK.box ?_; intro bl) | (refine GK.mkMap ?_; intro bm) | (refine GK.build0 tb ?_; intro bs)))
      refine GL.cons ?_; refine GO.call [] (fun hF' hle hH => lives_ok) (by first | exact Wt.none | exact Wt.some rfl rfl (by first | exact rfl | decide +kernel)) (by kernel_rfl) rfl rfl rfl ?_
      rintro v Γ' rfl
      (repeat (first | refine GK.run ?_ | (refine GK.box ?_; intro bl) | (refine GK.mkMap ?_; intro bm) | (refine GK.build0 tb ?_; intro bs)))
      exact GQ.end1 rfl rfl rfl
end Go.Dk
