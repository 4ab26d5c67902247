/- The document's disk: Read, New, Clone. -/
import Derived.Test.YtmiajgldkbmbjaaRkB
namespace Go.Dk
open Go Go.Sl
/-- The last pending write of a sector stands behind the others. -/
theorem lastIx_take {l : List (Nat × List UInt8)} {i : Int} {k : Nat} {p : Nat × List UInt8} (h : l[k]? = some p) : lastIx (l.take (k + 1)) i = if (p.1 : Int) = i then some k else lastIx (l.take k) i := by
  have hk : k < l.length := (List.getElem?_eq_some_iff.1 h).1
  rw [List.take_add_one, h, Option.toList, lastIx_snoc, List.length_take, show min k l.length = k by omega]
theorem strs_at {l : List (List UInt8)} {i : Nat} {s : List UInt8} (h : l[i]? = some s) (t : List Value) : (strs l ++ t)[i]? = some (str s) := by
  have hi : i < l.length := (List.getElem?_eq_some_iff.1 h).1
  rw [List.getElem?_append_left (by rw [strs_length]; exact hi)]
  simp [strs, h]
attribute [local irreducible] GK GO Yl Wt Ef Hd GH KH wpList Code.wp Sat pt FnOk Rd bodyPost Ret Exit.then Exit.inBlock Exit.noGoto exs Int.decLt Int.decLe Int.instDecidableEq
attribute [local irreducible] rep whole
variable {d : Nat} {D : DM} {hF : Hp}
set_option maxHeartbeats 2000000 in
theorem rread_ok (i : Int) : FnOk Go.Proofs.Try.prog 36 [dptr d, .int .i64 i] [rk d D] hF (fun v Γ => v = .tuple #[str (D.read i).1, .int .i64 (D.read i).2] ∧ Γ = [rk d D]) := by
  refine FnOk.intro 57 Go.Proofs.Try.func36 rfl rfl fun w0 => ?_
  refine GK.opens 0 rfl fun x hx => ?_
  have hle := hx.le
  have hcnt := hx.count
  (repeat (first | refine GK.run ?_ | (refine GK.box ?_; intro bl) | (refine GK.mkMap ?_; intro bm) | (refine GK.build0 tb ?_; intro bs)))
  refine G.cond rfl (fun h => ?_) (fun h => ?_)
  · have h : D.off = true := h
    (repeat (first | refine GK.run ?_ | (refine GK.box ?_; intro bl) | (refine GK.mkMap ?_; intro bm) | (refine GK.build0 tb ?_; intro bs)))
    refine GK.heap (Γ' := [rk d D]) (fun w s => shut_rk (x := x) hx (s.sel [0, 0, 0] rfl)) (GQ.end2 rfl rfl rfl ?_)
    simp [DM.read, DM.wrong, h]
  · have h : D.off = false := h
    have bad : i < 0 ∨ D.sure.length ≤ i → D.read i = ([], 2) := fun hb => by
      have : D.wrong i = 2 := by unfold DM.wrong; rw [if_neg (by rw [h]; simp), if_pos hb]
      unfold DM.read
      rw [this]; simp
    (repeat (first | refine GK.run ?_ | (refine GK.box ?_; intro bl) | (refine GK.mkMap ?_; intro bm) | (refine GK.build0 tb ?_; intro bs)))
    refine GK.split 13 _ rfl (fun h1 => ?_) (fun h1 => ?_)
    · have h1 : i < 0 := by simpa using h1
      (repeat (first | refine GK.run ?_ | (refine GK.box ?_; intro bl) | (refine GK.mkMap ?_; intro bm) | (refine GK.build0 tb ?_; intro bs)))
      refine GK.heap (Γ' := [rk d D]) (fun w s => shut_rk (x := x) hx (s.sel [0, 0, 0] rfl)) (GQ.end2 rfl rfl rfl ?_)
      rw [bad (.inl h1)]; exact ⟨rfl, rfl⟩
    · have h1 : ¬ i < 0 := by simpa using h1
      (repeat (first | refine GK.run ?_ | (refine GK.box ?_; intro bl) | (refine GK.mkMap ?_; intro bm) | (refine GK.build0 tb ?_; intro bs)))
      refine G.cond rfl (fun h2 => ?_) (fun h2 => ?_)
      · have h2 : D.sure.length ≤ i := by simpa using h2
        (repeat (first | refine GK.run ?_ | (refine GK.box ?_; intro bl) | (refine GK.mkMap ?_; intro bm) | (refine GK.build0 tb ?_; intro bs)))
        refine GK.heap (Γ' := [rk d D]) (fun w s => shut_rk (x := x) hx (s.sel [0, 0, 0] rfl)) (GQ.end2 rfl rfl rfl ?_)
        rw [bad (.inr h2)]; exact ⟨rfl, rfl⟩
      · have h2 : ¬ D.sure.length ≤ i := by simpa using h2
        have hw : D.wrong i = 0 := by unfold DM.wrong; rw [if_neg (by rw [h]; simp), if_neg (by omega)]
        have hrd : D.read i = (D.get i.toNat, 0) := by unfold DM.read; rw [if_pos hw]
        have hi : ((i.toNat : Nat) : Int) = i := by omega
        obtain ⟨sec, hsec⟩ : ∃ sec, D.sure[i.toNat]? = some sec := ⟨_, List.getElem?_eq_getElem (by omega)⟩
        (repeat (first | refine GK.run ?_ | (refine GK.box ?_; intro bl) | (refine GK.mkMap ?_; intro bm) | (refine GK.build0 tb ?_; intro bs)))
        refine GK.weak (by repeat (first | exact trivial | refine ⟨rfl, ?_⟩)) (fun w s => s.sel [0, 0, 0] rfl) (G.loop (fun k : Nat => k)
          (fun k => [(0, dptr d), (1, .int .i64 i), (6, .int .i64 ((k : Int) - 1))])
          (fun _ => RX.chunks d D x)
          (fun k => k ≤ D.pend.length ∧ lastIx D.pend i = lastIx (D.pend.take k) i) (fun k hk => ?_) D.pend.length ⟨Nat.le_refl _, by rw [List.take_length]⟩)
        obtain ⟨hk, hlast⟩ := hk
        (repeat (first | refine GK.run ?_ | (refine GK.box ?_; intro bl) | (refine GK.mkMap ?_; intro bm) | (refine GK.build0 tb ?_; intro bs)))
        refine G.cond rfl (fun h3 => ?_) (fun h3 => ?_)
        · have h3 : 1 ≤ k := by simp at h3; omega
          obtain ⟨j, rfl⟩ : ∃ j, k = j + 1 := ⟨k - 1, by omega⟩
          obtain ⟨p, hp⟩ : ∃ p, D.pend[j]? = some p := ⟨_, List.getElem?_eq_getElem (by omega)⟩
          rw [lastIx_take hp] at hlast
          rw [show (((j + 1 : Nat) : Int) - 1) = (j : Int) from by omega]
          obtain ⟨sp, sc, pp, pc⟩ := x
          refine GK.openRow 2 rfl (by omega) fun b tail fz hp' hc ht hxs hf => ?_
          subst hp'
          have a1 : (puts D.pend ++ tail)[0 + ((j : Nat) : Int).toNat * 2 + 0]? = some (.int .i64 p.1) := by have := (puts_at hp tail).1; simpa using this
          have a2 : (puts D.pend ++ tail)[0 + ((j : Nat) : Int).toNat * 2 + 1]? = some (str p.2) := by have := (puts_at hp tail).2; simpa using this
          (repeat (first | refine GK.run ?_ | (refine GK.box ?_; intro bl) | (refine GK.mkMap ?_; intro bm) | (refine GK.build0 tb ?_; intro bs)))
          refine G.cond rfl (fun h4 => ?_) (fun h4 => ?_)
          · have h4 : (p.1 : Int) = i := by simpa using h4
            rw [if_pos h4] at hlast
            (repeat (first | refine GK.run ?_ | (refine GK.box ?_; intro bl) | (refine GK.mkMap ?_; intro bm) | (refine GK.build0 tb ?_; intro bs)))
            refine GK.heap (Γ' := [rk d D]) (fun w s => shut_rk (x := ⟨sp, sc, some ⟨b, 0, none⟩, pc⟩) hx (((s.sel [0, 0, 0] rfl).row_blk hc ht hxs hf).sel [1, 1, 0] rfl)) (GQ.end2 rfl rfl rfl ?_)
            rw [hrd, DM.get, hi, hlast]
            simp [hp]
          · have h4 : ¬ (p.1 : Int) = i := by simpa using h4
            rw [if_neg h4] at hlast
            (repeat (first | refine GK.run ?_ | (refine GK.box ?_; intro bl) | (refine GK.mkMap ?_; intro bm) | (refine GK.build0 tb ?_; intro bs)))
            exact GQ.again j ⟨by omega, hlast⟩ (by omega) (by repeat (first | exact trivial | refine ⟨rfl, ?_⟩)) (fun w s => ((s.sel [0, 0, 0] rfl).row_blk hc ht hxs hf).sel [1, 1, 0] rfl)
        · have h3 : k = 0 := by simp at h3; omega
          subst h3
          obtain ⟨sp, sc, pp, pc⟩ := x
          refine GK.openRow 1 rfl hx.pos fun b tail fz hp' hc ht hxs hf => ?_
          subst hp'
          have a1 : (strs D.sure ++ tail)[0 + i.toNat * 1]? = some (str sec) := by have := strs_at hsec tail; simpa using this
          (repeat (first | refine GK.run ?_ | (refine GK.box ?_; intro bl) | (refine GK.mkMap ?_; intro bm) | (refine GK.build0 tb ?_; intro bs)))
          refine GK.heap (Γ' := [rk d D]) (fun w s => shut_rk (x := ⟨some ⟨b, 0, none⟩, sc, pp, pc⟩) hx (((s.sel [0, 0, 0] rfl).row_blk hc ht hxs hf).sel [1, 0, 0] rfl)) (GQ.end2 rfl rfl rfl ?_)
          rw [hrd, DM.get, hi, hlast]
          simp [lastIx_nil, hsec]
end Go.Dk
