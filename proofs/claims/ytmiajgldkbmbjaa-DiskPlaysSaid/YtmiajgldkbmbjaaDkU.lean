/- A disk of four sectors behind writes. -/
import Derived.Test.YtmiajgldkbmbjaaDkS
namespace Go.Dk
open Go Go.Sl
/-- A call's sector out of four. -/
def ix4 (n : Int) : Int := IntKind.i64.wrap ((IntKind.u64.wrap n).tmod 4)
theorem ix4_def (n : Int) : IntKind.i64.wrap ((IntKind.u64.wrap n).tmod 4) = ix4 n := rfl
theorem ix4_lt (n : Int) : 0 ≤ ix4 n ∧ ix4 n < 4 := by
  have h : IntKind.u64.wrap n = n % 18446744073709551616 := by
    simp [IntKind.wrap, IntKind.bits, IntKind.signed]
  have h1 : 0 ≤ IntKind.u64.wrap n := by rw [h]; omega
  have h2 : (IntKind.u64.wrap n).tmod 4 = (IntKind.u64.wrap n) % 4 := Int.tmod_eq_emod_of_nonneg h1
  unfold ix4
  rw [h2, IntWalk.i64_in _ (by omega)]
  omega
/-- A call of 'written'. -/
def act4 (D : DM) (a : ActM) : DM := if a.kind = 0 then (D.write (ix4 a.n) (whole a.bytes)).2 else if a.kind = 1 then D.flush.2 else if a.kind = 2 then (D.arm (ix4 a.n * 3)).2 else D
def writtenM (l : List ActM) : DM := (l.take 60).foldl act4 (DM.fresh 4)
theorem goes_opn (D : DM) : D.goes.2.opn ≤ D.opn + 1 ∧ D.goes.2.pend = D.pend ∧ D.goes.2.sure = D.sure := by
  unfold DM.goes; split
  · exact ⟨by simp only []; omega, rfl, rfl⟩
  · exact ⟨by simp only []; omega, rfl, rfl⟩
theorem write_grows (D : DM) (i : Int) (b : List UInt8) : (D.write i b).2.opn ≤ D.opn + 1 ∧ (D.write i b).2.pend.length ≤ D.pend.length + 1 ∧ (D.write i b).2.sure = D.sure := by
  have h := goes_opn D
  unfold DM.write
  split
  · exact ⟨by simp only []; omega, by simp only []; omega, rfl⟩
  split
  · exact ⟨by simp only []; omega, by simp only []; omega, rfl⟩
  split
  · exact ⟨h.1, by rw [h.2.1]; omega, h.2.2⟩
  · exact ⟨h.1, by simp, h.2.2⟩
theorem flush_grows (D : DM) : D.flush.2.opn ≤ D.opn + 1 ∧ D.flush.2.pend.length ≤ D.pend.length ∧ D.flush.2.sure.length = D.sure.length := by
  have h := goes_opn D
  unfold DM.flush
  split
  · exact ⟨by simp only []; omega, by simp only []; omega, rfl⟩
  split
  · exact ⟨h.1, by rw [h.2.1]; omega, by rw [h.2.2]⟩
  · exact ⟨h.1, by simp, settles_length _ _⟩
theorem arm_grows (D : DM) (n : Int) : (D.arm n).2.opn = D.opn ∧ (D.arm n).2.pend = D.pend ∧ (D.arm n).2.sure = D.sure := by
  unfold DM.arm; split
  · exact ⟨rfl, rfl, rfl⟩
  split <;> exact ⟨rfl, rfl, rfl⟩
theorem act4_grows (D : DM) (a : ActM) : (act4 D a).opn ≤ D.opn + 1 ∧ (act4 D a).pend.length ≤ D.pend.length + 1 ∧ (act4 D a).sure.length = D.sure.length := by
  unfold act4
  split
  · have := write_grows D (ix4 a.n) (whole a.bytes); exact ⟨this.1, this.2.1, by rw [this.2.2]⟩
  split
  · have := flush_grows D; exact ⟨this.1, by omega, this.2.2⟩
  split
  · have := arm_grows D (ix4 a.n * 3); exact ⟨by omega, by rw [this.2.1]; omega, by rw [this.2.2]⟩
  · exact ⟨by omega, by omega, rfl⟩
theorem acts_grow (l : List ActM) (D : DM) : (l.foldl act4 D).opn ≤ D.opn + l.length ∧ (l.foldl act4 D).pend.length ≤ D.pend.length + l.length ∧ (l.foldl act4 D).sure.length = D.sure.length := by
  induction l generalizing D with
  | nil => exact ⟨by simp, by simp, rfl⟩
  | cons a l ih =>
    have h := act4_grows D a
    have := ih (act4 D a)
    rw [List.foldl_cons, List.length_cons]
    exact ⟨by omega, by omega, by rw [this.2.2, h.2.2]⟩
theorem fresh_opn (n : Nat) : (DM.fresh n).opn = 0 ∧ (DM.fresh n).pend = [] ∧ (DM.fresh n).sure.length = n := ⟨rfl, rfl, by simp [DM.fresh]⟩
theorem foldl_take {α β : Type} (f : β → α → β) (z : β) {l : List α} {i : Nat} {a : α} (h : l[i]? = some a) : (l.take (i + 1)).foldl f z = f ((l.take i).foldl f z) a := by
  rw [List.take_add_one, h]; simp
attribute [local irreducible] GK GO Yl Wt Ef Hd GH KH wpList Code.wp Sat pt FnOk Rd bodyPost Ret Exit.then Exit.inBlock Exit.noGoto exs Int.decLt Int.decLe Int.instDecidableEq
attribute [local irreducible] rep whole ix4 DM.write DM.flush DM.arm DM.fresh
variable {hF : Hp}
theorem written_ok (v : Value) (l : List ActM) (hv : roActs hF v l) : FnOk Go.Proofs.Try.prog 7 [v] [] hF (fun v Γ => ∃ d, v = dptr d ∧ Γ = [dk d (writtenM l)]) := by
  refine FnOk.intro 53 Go.Proofs.Try.func7 rfl rfl fun w0 => ?_
  obtain ⟨els, hel, ⟨vp, vc, rfl, hvo⟩, hll, h5, hacts⟩ := hv
  (repeat (first | refine GK.run ?_ | (refine GK.box ?_; intro bl) | (refine GK.mkMap ?_; intro bm) | (refine GK.build0 tb ?_; intro bs)))
  refine GL.cons ?_; refine GO.call [] (fun hF' hle hH => new_ok 4) (by first | exact Wt.none | exact Wt.some rfl rfl (by first | exact rfl | decide +kernel)) (by kernel_rfl) rfl rfl rfl ?_
  intro v Γ' h
  rw [if_neg (by omega)] at h
  obtain ⟨d, rfl, rfl⟩ := h
  (repeat (first | refine GK.run ?_ | (refine GK.box ?_; intro bl) | (refine GK.mkMap ?_; intro bm) | (refine GK.build0 tb ?_; intro bs)))
  refine GK.weak (by repeat (first | exact trivial | refine ⟨rfl, ?_⟩)) (fun w s => s.sel [0] rfl) (G.loop (fun i : Nat => l.length - i)
    (fun i => [(3, dptr d), (12, .slice vp l.length vc), (13, .int .i64 l.length), (14, .int .i64 i)])
    (fun i => [dk d ((l.take i).foldl act4 (DM.fresh 4))])
    (fun i => i ≤ l.length ∧ i ≤ 60) (fun i hi => ?_) 0 ⟨Nat.zero_le _, Nat.zero_le _⟩)
  obtain ⟨hi, hi60⟩ := hi
  (repeat (first | refine GK.run ?_ | (refine GK.box ?_; intro bl) | (refine GK.mkMap ?_; intro bm) | (refine GK.build0 tb ?_; intro bs)))
  refine G.cond rfl (fun h => ?_) (fun h => ?_)
  · have h : i < l.length := by simpa using h
    obtain ⟨a, ha⟩ : ∃ a, l[i]? = some a := ⟨_, List.getElem?_eq_getElem h⟩
    obtain ⟨row, hrow, bv, kv, rfl, hbv, hkv, haok⟩ := hacts i a ha
    obtain ⟨vb, vo, cs, ve, vfz, rfl, hcs, hat⟩ := hvo (by omega)
    have hat := At.ofFlatten h5 hat hrow
    have hl5 : [Value.int .i64 a.kind, .int .i64 a.n, bv, .bool a.short, kv].length = 5 := rfl
    (repeat (first | refine GK.run ?_ | (refine GK.box ?_; intro bl) | (refine GK.mkMap ?_; intro bm) | (refine GK.build0 tb ?_; intro bs)))
    refine GL.cons ?_; refine Gt.allocAny tb (by first | exact Wt.none | exact Wt.some rfl rfl (by first | exact rfl | decide +kernel)) (by exact rfl) (by exact rfl) ?_
    intro b1 l1 hl1
    (repeat (first | refine GK.run ?_ | (refine GK.box ?_; intro bl) | (refine GK.mkMap ?_; intro bm) | (refine GK.build0 tb ?_; intro bs)))
    refine GL.cons ?_
    have hb1 : bv.oneCell' = true := by obtain ⟨_, _, rfl, _⟩ := hbv; rfl
    have hk1 : kv.oneCell' = true := by obtain ⟨_, _, rfl, _⟩ := hkv; rfl
    refine Gt.storeAny tb 0 .none rfl rfl rfl rfl (cons_one rfl (cons_one rfl (cons_one hb1 (cons_one rfl (cons_one hk1 (by simp)))))) rfl hl1 ?_
    (repeat (first | refine GK.run ?_ | (refine GK.box ?_; intro bl) | (refine GK.mkMap ?_; intro bm) | (refine GK.build0 tb ?_; intro bs)))
    have hg := acts_grow (l.take i) (DM.fresh 4)
    rw [(fresh_opn 4).1, (fresh_opn 4).2.1, (fresh_opn 4).2.2, List.length_take, List.length_nil] at hg
    have hopn : ((l.take i).foldl act4 (DM.fresh 4)).opn < 1000000000000000000 := by omega
    have hpend : ((l.take i).foldl act4 (DM.fresh 4)).pend.length < 1000000000 := by omega
    refine GK.split 21 _ rfl (fun h60 => ?_) (fun h60 => ?_)
    · have h60 : 60 ≤ i := by simp at h60; omega
      (repeat (first | refine GK.run ?_ | (refine GK.box ?_; intro bl) | (refine GK.mkMap ?_; intro bm) | (refine GK.build0 tb ?_; intro bs)))
      refine GK.heap (Γ' := [dk d (writtenM l)]) (fun w s => ?_) (GQ.end1 rfl rfl ⟨d, rfl, rfl⟩)
      rw [writtenM, show 60 = i by omega]
      exact s.sel [1] rfl
    · have h60 : i < 60 := by simp at h60; omega
      (repeat (first | refine GK.run ?_ | (refine GK.box ?_; intro bl) | (refine GK.mkMap ?_; intro bm) | (refine GK.build0 tb ?_; intro bs)))
      rw [ix4_def]
      have hix := ix4_lt a.n
      have hstep : ∀ D : DM, act4 ((l.take i).foldl act4 (DM.fresh 4)) a = D → (l.take (i + 1)).foldl act4 (DM.fresh 4) = D := fun D e => by rw [foldl_take _ _ ha, e]
      refine G.cond rfl (fun k0 => ?_) (fun k0 => ?_)
      · have k0 : a.kind = 0 := by simpa using k0
        (repeat (first | refine GK.run ?_ | (refine GK.box ?_; intro bl) | (refine GK.mkMap ?_; intro bm) | (refine GK.build0 tb ?_; intro bs)))
        refine GL.cons ?_; refine GO.call [] (fun hF' hle hH => whole_ok _ _ (hbv.mono ‹_›) haok.bytes) (by first | exact Wt.none | exact Wt.some rfl rfl (by first | exact rfl | decide +kernel)) (by kernel_rfl) rfl rfl rfl ?_
        rintro v Γ' ⟨rfl, rfl⟩
        (repeat (first | refine GK.run ?_ | (refine GK.box ?_; intro bl) | (refine GK.mkMap ?_; intro bm) | (refine GK.build0 tb ?_; intro bs)))
        refine GL.cons ?_; refine GO.strBytes (by first | exact Wt.none | exact Wt.some rfl rfl (by first | exact rfl | decide +kernel)) rfl rfl rfl rfl ?_
        intro p c
        (repeat (first | refine GK.run ?_ | (refine GK.box ?_; intro bl) | (refine GK.mkMap ?_; intro bm) | (refine GK.build0 tb ?_; intro bs)))
        refine GL.cons ?_; refine GO.call [2] (fun hF' hle hH => write_ok (ix4 a.n) _ (whole a.bytes) (hH.ro 0 rfl) hpend hopn (by rw [whole_length]; omega)) (by first | exact Wt.none | exact Wt.some rfl rfl (by first | exact rfl | decide +kernel)) (by kernel_rfl) rfl rfl rfl ?_
        rintro v Γ' ⟨rfl, rfl⟩
        (repeat (first | refine GK.run ?_ | (refine GK.box ?_; intro bl) | (refine GK.mkMap ?_; intro bm) | (refine GK.build0 tb ?_; intro bs)))
        refine GQ.again (i + 1) ⟨h, h60⟩ (by omega) (by repeat (first | exact trivial | refine ⟨rfl, ?_⟩)) (fun w s => ?_)
        rw [hstep _ (by unfold act4; rw [if_pos k0])]
        exact s.sel [0] rfl
      · have k0 : ¬ a.kind = 0 := by simpa using k0
        (repeat (first | refine GK.run ?_ | (refine GK.box ?_; intro bl) | (refine GK.mkMap ?_; intro bm) | (refine GK.build0 tb ?_; intro bs)))
        refine G.cond rfl (fun k1 => ?_) (fun k1 => ?_)
        · have k1 : a.kind = 1 := by simpa using k1
          (repeat (first | refine GK.run ?_ | (refine GK.box ?_; intro bl) | (refine GK.mkMap ?_; intro bm) | (refine GK.build0 tb ?_; intro bs)))
          refine GL.cons ?_; refine GO.call [1] (fun hF' hle hH => flush_ok hopn) (by first | exact Wt.none | exact Wt.some rfl rfl (by first | exact rfl | decide +kernel)) (by kernel_rfl) rfl rfl rfl ?_
          rintro v Γ' ⟨rfl, rfl⟩
          (repeat (first | refine GK.run ?_ | (refine GK.box ?_; intro bl) | (refine GK.mkMap ?_; intro bm) | (refine GK.build0 tb ?_; intro bs)))
          refine GQ.again (i + 1) ⟨h, h60⟩ (by omega) (by repeat (first | exact trivial | refine ⟨rfl, ?_⟩)) (fun w s => ?_)
          rw [hstep _ (by unfold act4; rw [if_neg k0, if_pos k1])]
          exact s.sel [0] rfl
        · have k1 : ¬ a.kind = 1 := by simpa using k1
          (repeat (first | refine GK.run ?_ | (refine GK.box ?_; intro bl) | (refine GK.mkMap ?_; intro bm) | (refine GK.build0 tb ?_; intro bs)))
          refine G.cond rfl (fun k2 => ?_) (fun k2 => ?_)
          · have k2 : a.kind = 2 := by simpa using k2
            (repeat (first | refine GK.run ?_ | (refine GK.box ?_; intro bl) | (refine GK.mkMap ?_; intro bm) | (refine GK.build0 tb ?_; intro bs)))
            refine GL.cons ?_; refine GO.call [1] (fun hF' hle hH => arm_ok (ix4 a.n * 3) (by omega)) (by first | exact Wt.none | exact Wt.some rfl rfl (by first | exact rfl | decide +kernel)) (by kernel_rfl) rfl rfl rfl ?_
            rintro v Γ' ⟨rfl, rfl⟩
            (repeat (first | refine GK.run ?_ | (refine GK.box ?_; intro bl) | (refine GK.mkMap ?_; intro bm) | (refine GK.build0 tb ?_; intro bs)))
            refine GQ.again (i + 1) ⟨h, h60⟩ (by omega) (by repeat (first | exact trivial | refine ⟨rfl, ?_⟩)) (fun w s => ?_)
            rw [hstep _ (by unfold act4; rw [if_neg k0, if_neg k1, if_pos k2])]
            exact s.sel [0] rfl
          · have k2 : ¬ a.kind = 2 := by simpa using k2
            (repeat (first | refine GK.run ?_ | (refine GK.box ?_; intro bl) | (refine GK.mkMap ?_; intro bm) | (refine GK.build0 tb ?_; intro bs)))
            refine GQ.again (i + 1) ⟨h, h60⟩ (by omega) (by repeat (first | exact trivial | refine ⟨rfl, ?_⟩)) (fun w s => ?_)
            rw [hstep _ (by unfold act4; rw [if_neg k0, if_neg k1, if_neg k2])]
            exact s.sel [1] rfl
  · have h : i = l.length := by simp at h; omega
    subst h
    (repeat (first | refine GK.run ?_ | (refine GK.box ?_; intro bl) | (refine GK.mkMap ?_; intro bm) | (refine GK.build0 tb ?_; intro bs)))
    refine GQ.end1 rfl rfl ⟨d, rfl, ?_⟩
    rw [writtenM, List.take_of_length_le (show l.length ≤ 60 from hi60), List.take_length]
end Go.Dk
