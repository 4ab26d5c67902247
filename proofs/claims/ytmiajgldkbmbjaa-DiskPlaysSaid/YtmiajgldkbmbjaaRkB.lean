/- The document's disk: Write, Read, has. -/
import Derived.Test.YtmiajgldkbmbjaaRkA
namespace Go.Dk
open Go Go.Sl
theorem str_len {n : Nat} : (decide ((n : Int) = 256)) = decide (n = 256) := by
  by_cases h : n = 256
  · subst h; simp
  · rw [decide_eq_false h, decide_eq_false (by omega)]
theorem i64s_at {cs : List Value} {o : Nat} {l : List Int} (h : At cs o (i64s l)) {i : Nat} {k : Int} (hk : l[i]? = some k) : cs[o + ((i : Nat) : Int).toNat * 1]? = some (.int .i64 k) := h.i64 hk
attribute [local irreducible] GK GO Yl Wt Ef Hd GH KH wpList Code.wp Sat pt FnOk Rd bodyPost Ret Exit.then Exit.inBlock Exit.noGoto exs Int.decLt Int.decLe Int.instDecidableEq
attribute [local irreducible] rep whole
variable {d : Nat} {D : DM} {hF : Hp}
set_option maxHeartbeats 2000000 in
theorem rwrite_ok (i : Int) (b : List UInt8) (hcap : D.pend.length < 1000000000) (hopn : D.opn < 1000000000000000000) (hbl : b.length ≤ 140737488355328) :
    FnOk Go.Proofs.Try.prog 32 [dptr d, .int .i64 i, str b] [rk d D] hF (fun v Γ => v = .int .i64 (D.write i b).1 ∧ Γ = [rk d (D.write i b).2]) := by
  refine FnOk.intro 42 Go.Proofs.Try.func32 rfl rfl fun w0 => ?_
  refine GK.opens 0 rfl fun x hx => ?_
  have hle := hx.le
  (repeat (first | refine GK.run ?_ | (refine GK.box ?_; intro bl) | (refine GK.mkMap ?_; intro bm) | (refine GK.build0 tb ?_; intro bs)))
  refine G.cond rfl (fun h => ?_) (fun h => ?_)
  · have h : D.off = true := h
    (repeat (first | refine GK.run ?_ | (refine GK.box ?_; intro bl) | (refine GK.mkMap ?_; intro bm) | (refine GK.build0 tb ?_; intro bs)))
    refine GK.heap (Γ' := [rk d D]) (fun w s => shut_rk (x := x) hx (s.sel [0, 0, 0] rfl)) (GQ.end1 rfl rfl ?_)
    simp [DM.write, DM.wrong, h]
  · have h : D.off = false := h
    have bad : i < 0 ∨ D.sure.length ≤ i → D.write i b = (2, D) := fun hb => by
      have : D.wrong i = 2 := by unfold DM.wrong; rw [if_neg (by rw [h]; simp), if_pos hb]
      unfold DM.write
      rw [this]; simp
    (repeat (first | refine GK.run ?_ | (refine GK.box ?_; intro bl) | (refine GK.mkMap ?_; intro bm) | (refine GK.build0 tb ?_; intro bs)))
    refine GK.split 13 _ rfl (fun h1 => ?_) (fun h1 => ?_)
    · have h1 : i < 0 := by simpa using h1
      (repeat (first | refine GK.run ?_ | (refine GK.box ?_; intro bl) | (refine GK.mkMap ?_; intro bm) | (refine GK.build0 tb ?_; intro bs)))
      refine GK.heap (Γ' := [rk d D]) (fun w s => shut_rk (x := x) hx (s.sel [0, 0, 0] rfl)) (GQ.end1 rfl rfl ?_)
      rw [bad (.inl h1)]; exact ⟨rfl, rfl⟩
    · have h1 : ¬ i < 0 := by simpa using h1
      (repeat (first | refine GK.run ?_ | (refine GK.box ?_; intro bl) | (refine GK.mkMap ?_; intro bm) | (refine GK.build0 tb ?_; intro bs)))
      refine GK.split 22 _ rfl (fun h2 => ?_) (fun h2 => ?_)
      · have h2 : D.sure.length ≤ i := by simpa using h2
        (repeat (first | refine GK.run ?_ | (refine GK.box ?_; intro bl) | (refine GK.mkMap ?_; intro bm) | (refine GK.build0 tb ?_; intro bs)))
        refine GK.heap (Γ' := [rk d D]) (fun w s => shut_rk (x := x) hx (s.sel [0, 0, 0] rfl)) (GQ.end1 rfl rfl ?_)
        rw [bad (.inr h2)]; exact ⟨rfl, rfl⟩
      · have h2 : ¬ D.sure.length ≤ i := by simpa using h2
        have hw : D.wrong i = 0 := by unfold DM.wrong; rw [if_neg (by rw [h]; simp), if_neg (by omega)]
        (repeat (first | refine GK.run ?_ | (refine GK.box ?_; intro bl) | (refine GK.mkMap ?_; intro bm) | (refine GK.build0 tb ?_; intro bs)))
        refine G.cond rfl (fun h3 => ?_) (fun h3 => ?_)
        · have h3 : ¬ b.length = 256 := by simp at h3; omega
          (repeat (first | refine GK.run ?_ | (refine GK.box ?_; intro bl) | (refine GK.mkMap ?_; intro bm) | (refine GK.build0 tb ?_; intro bs)))
          refine GK.heap (Γ' := [rk d D]) (fun w s => shut_rk (x := x) hx (s.sel [0, 0, 0] rfl)) (GQ.end1 rfl rfl ?_)
          have : D.write i b = (2, D) := by unfold DM.write; rw [hw, if_neg (by simp), if_pos h3]
          rw [this]; exact ⟨rfl, rfl⟩
        · have h3 : b.length = 256 := by simp at h3; omega
          (repeat (first | refine GK.run ?_ | (refine GK.box ?_; intro bl) | (refine GK.mkMap ?_; intro bm) | (refine GK.build0 tb ?_; intro bs)))
          refine GL.cons ?_; refine GO.call [0] (fun hF' hle hH => rdoes_ok x hx) (by first | exact Wt.none | exact Wt.some rfl rfl (by first | exact rfl | decide +kernel)) (by kernel_rfl) rfl rfl rfl ?_
          rintro v Γ' ⟨rfl, rfl⟩
          have hok := hx.goes hopn
          obtain ⟨g1, g2, g3⟩ := goes_opn D
          rw [show rcells D.goes.2 x = [.slice x.sp D.sure.length x.sc, .slice x.pp D.pend.length x.pc, .bool D.goes.2.off, .bool D.goes.2.armed, .int .i64 D.goes.2.plan, .int .i64 D.goes.2.opn] from by rw [rcells, g2, g3]]
          (repeat (first | refine GK.run ?_ | (refine GK.box ?_; intro bl) | (refine GK.mkMap ?_; intro bm) | (refine GK.build0 tb ?_; intro bs)))
          refine G.cond rfl (fun h4 => ?_) (fun h4 => ?_)
          · have h4 : D.goes.1 = false := by simpa using h4
            (repeat (first | refine GK.run ?_ | (refine GK.box ?_; intro bl) | (refine GK.mkMap ?_; intro bm) | (refine GK.build0 tb ?_; intro bs)))
            have hwr : D.write i b = (50, D.goes.2) := by unfold DM.write; rw [hw, if_neg (by simp), if_neg (by omega), if_pos h4]
            refine GK.heap (Γ' := [rk d D.goes.2]) (fun w s => shut_rk (x := x) hok ?_) (GQ.end1 rfl rfl ?_)
            · rw [rcells, g2, g3]; exact s.sel [0, 0, 0] rfl
            · rw [hwr]; exact ⟨rfl, rfl⟩
          · have h4 : D.goes.1 = true := by simpa using h4
            (repeat (first | refine GK.run ?_ | (refine GK.box ?_; intro bl) | (refine GK.mkMap ?_; intro bm) | (refine GK.build0 tb ?_; intro bs)))
            refine GL.cons ?_
            refine Gt.buildLit tb (sz := 1) (n := 0) (by first | exact Wt.none | exact Wt.some rfl rfl (by first | exact rfl | decide +kernel)) rfl rfl (by kernel_rfl) rfl rfl rfl rfl rfl rfl ?_
            intro bx
            (repeat (first | refine GK.run ?_ | (refine GK.box ?_; intro bl) | (refine GK.mkMap ?_; intro bm) | (refine GK.build0 tb ?_; intro bs)))
            refine GL.cons ?_
            refine Gt.append tb 3 (by first | exact Wt.none | exact Wt.some rfl rfl (by first | exact rfl | decide +kernel)) rfl (.inl ⟨_, rfl⟩) rfl rfl rfl rfl rfl (Src.slice (m := 1) (Rd.blk 0 rfl) (At.all _) rfl (one_of_all rfl)) (by omega) (by omega) ?_
            intro p c
            (repeat (first | refine GK.run ?_ | (refine GK.box ?_; intro bl) | (refine GK.mkMap ?_; intro bm) | (refine GK.build0 tb ?_; intro bs)))
            have hwr : D.write i b = (0, { D.goes.2 with pend := D.pend ++ [(i.toNat, b)] }) := by unfold DM.write; rw [hw, if_neg (by simp), if_neg (by omega), if_neg (by rw [h4]; simp)]
            refine GK.heap (Γ' := [rk d { D.goes.2 with pend := D.pend ++ [(i.toNat, b)] }]) (fun w s => shut_rk (x := ⟨x.sp, x.sc, p, c⟩) { hok with pend := ?_, count := ?_ } ?_) (GQ.end1 rfl rfl ?_)
            · intro q hq
              show q.1 < D.goes.2.sure.length ∧ _
              rw [g3]
              rcases List.mem_append.1 hq with hq | hq
              · exact hx.pend q hq
              · simp at hq; subst hq; exact ⟨by show i.toNat < _; omega, h3⟩
            · show (D.pend ++ [(i.toNat, b)]).length ≤ _; simp; omega
            · have hlen : (D.pend ++ [(i.toNat, b)]).length = D.pend.length + 1 := by simp
              have hpu : puts (D.pend ++ [(i.toNat, b)]) = puts D.pend ++ [.int .i64 i, str b] := by rw [puts_snoc]; simp only []; congr 3; omega
              show Sat (rblk d [.slice _ D.goes.2.sure.length _, .slice p (D.pend ++ [(i.toNat, b)]).length c, _, _, _, _] :: row (.slice _ D.goes.2.sure.length _) _ 1 D.goes.2.sure.length (strs D.goes.2.sure) :: row (.slice p (D.pend ++ [(i.toNat, b)]).length c) _ 2 (D.pend ++ [(i.toNat, b)]).length (puts (D.pend ++ [(i.toNat, b)])) :: _) _ _
              rw [hlen, hpu, g3]
              exact s.sel [2, 2, 0] rfl
            · rw [hwr]; exact ⟨rfl, rfl⟩
theorem has_ok (kv : Value) (keep : List Int) (hk : ro hF kv keep.length (i64s keep)) (n : Int) (hkl : keep.length ≤ 140737488355328) :
    FnOk Go.Proofs.Try.prog 38 [kv, .int .i64 n] [] hF (fun v Γ => v = .bool (keep.contains n) ∧ Γ = []) := by
  refine FnOk.intro 18 Go.Proofs.Try.func38 rfl rfl fun w0 => ?_
  obtain ⟨kp, kc, rfl, hko⟩ := hk
  (repeat (first | refine GK.run ?_ | (refine GK.box ?_; intro bl) | (refine GK.mkMap ?_; intro bm) | (refine GK.build0 tb ?_; intro bs)))
  refine GK.weak (by repeat (first | exact trivial | refine ⟨rfl, ?_⟩)) (fun w s => s) (G.loop (fun j : Nat => keep.length - j)
    (fun j => [(0, .slice kp keep.length kc), (1, .int .i64 n), (5, .int .i64 j)])
    (fun _ => [])
    (fun j => j ≤ keep.length ∧ (keep.take j).contains n = false) (fun j hj => ?_) 0 ⟨Nat.zero_le _, rfl⟩)
  obtain ⟨hj, hno⟩ := hj
  (repeat (first | refine GK.run ?_ | (refine GK.box ?_; intro bl) | (refine GK.mkMap ?_; intro bm) | (refine GK.build0 tb ?_; intro bs)))
  refine G.cond rfl (fun h => ?_) (fun h => ?_)
  · have h : j < keep.length := by simpa using h
    obtain ⟨q, hq⟩ : ∃ q, keep[j]? = some q := ⟨_, List.getElem?_eq_getElem h⟩
    obtain ⟨kb, ko, cs, e, kfz, rfl, hkb, hka⟩ := hko (by omega)
    have hka := hka.i64 hq
    (repeat (first | refine GK.run ?_ | (refine GK.box ?_; intro bl) | (refine GK.mkMap ?_; intro bm) | (refine GK.build0 tb ?_; intro bs)))
    refine G.cond rfl (fun h1 => ?_) (fun h1 => ?_)
    · have h1 : q = n := by simpa using h1
      (repeat (first | refine GK.run ?_ | (refine GK.box ?_; intro bl) | (refine GK.mkMap ?_; intro bm) | (refine GK.build0 tb ?_; intro bs)))
      refine GQ.end1 rfl rfl ⟨?_, rfl⟩
      rw [show keep.contains n = true from by rw [List.contains_iff_mem]; exact h1 ▸ List.mem_of_getElem? hq]
    · have h1 : ¬ q = n := by simpa using h1
      (repeat (first | refine GK.run ?_ | (refine GK.box ?_; intro bl) | (refine GK.mkMap ?_; intro bm) | (refine GK.build0 tb ?_; intro bs)))
      refine GQ.again (j + 1) ⟨h, ?_⟩ (by omega) (by repeat (first | exact trivial | refine ⟨rfl, ?_⟩)) (fun w s => s)
      rw [List.take_add_one, hq]
      rw [Bool.eq_false_iff] at hno ⊢
      simp only [ne_eq, List.contains_iff_mem] at hno ⊢
      rintro hm
      rcases List.mem_append.1 hm with hm | hm
      · exact hno hm
      · simp at hm; exact h1 hm.symm
  · have h : j = keep.length := by simp at h; omega
    subst h
    rw [List.take_length] at hno
    (repeat (first | refine GK.run ?_ | (refine GK.box ?_; intro bl) | (refine GK.mkMap ?_; intro bm) | (refine GK.build0 tb ?_; intro bs)))
    exact GQ.end1 rfl rfl ⟨by rw [hno], rfl⟩
end Go.Dk
