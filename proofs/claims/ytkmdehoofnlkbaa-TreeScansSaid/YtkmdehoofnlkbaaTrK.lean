/- A map's delete, get, length, depth, clone. -/
import Derived.Test.YtkmdehoofnlkbaaTrJ
namespace Go.Tr
open Go Go.Sl
theorem flat_at {d : Nat} {t : T} {key : Ky} (hw : WF (d + 1) t) (hs : Srt (flat (d + 1) t)) (hh : hit t.l key = false) :
    ∃ A B, flat (d + 1) t = A ++ flat d (kid t (pos t.l key)) ++ B ∧ (∀ a ∈ A, lt a.1 key = true) ∧ (∀ b ∈ B, lt key b.1 = true) ∧ B = iright (t.l.drop (pos t.l key)) ((t.ks.drop (pos t.l key + 1)).map (flat d)) := by
  obtain ⟨h1, h2⟩ := hw
  have hsl := srt_l (d := d + 1) ⟨h1, h2⟩ hs
  have hp := pos_le t.l key
  obtain ⟨k, hk⟩ : ∃ k, t.ks[pos t.l key]? = some k := ⟨_, List.getElem?_eq_getElem (by omega)⟩
  obtain ⟨e1, e2⟩ := split_kid hk
  have hkid : kid t (pos t.l key) = k := by simp [kid, List.getD, hk]
  have hfl : flat (d + 1) t = ileft ((t.ks.take (pos t.l key)).map (flat d)) (t.l.take (pos t.l key)) ++ flat d k ++ iright (t.l.drop (pos t.l key)) ((t.ks.drop (pos t.l key + 1)).map (flat d)) := by
    have ht : t = .mk (t.l.take (pos t.l key) ++ t.l.drop (pos t.l key)) (t.ks.take (pos t.l key) ++ k :: t.ks.drop (pos t.l key + 1)) := by rw [List.take_append_drop, ← e1, T.eta]
    have := @flat_split d (t.l.take (pos t.l key)) (t.l.drop (pos t.l key)) (t.ks.take (pos t.l key)) (t.ks.drop (pos t.l key + 1)) k (by simp; omega)
    rw [← ht] at this
    exact this
  rw [hkid]
  refine ⟨_, _, hfl, ?_, ?_, rfl⟩
  · rw [hfl] at hs
    exact ileft_lt (srt_left (srt_left hs)) (srt_take hsl key)
  · rw [hfl] at hs
    exact iright_gt (srt_right hs) (srt_drop hsl hh)
theorem lget_mid {A Mm B : List En} {k : Ky} (hA : ∀ a ∈ A, lt a.1 k = true) (hB : ∀ b ∈ B, lt k b.1 = true) : lget (A ++ Mm ++ B) k = lget Mm k := by
  obtain ⟨h1, h2⟩ := hit_mid (M := Mm) hA hB
  unfold lget
  rw [h1, h2]
  by_cases hh : hit Mm k = true
  · rw [if_pos hh, if_pos hh]
    have := hit_lt hh
    rw [List.append_assoc, List.getElem?_append_right (by omega), Nat.add_sub_cancel_left, List.getElem?_append_left this]
  · rw [if_neg hh, if_neg hh]
theorem lget_mem {l : List En} (hs : Srt l) {e : En} (h : e ∈ l) : lget l e.1 = some e.2 := by
  obtain ⟨A, B, rfl⟩ := List.append_of_mem h
  have hA : ∀ a ∈ A, lt a.1 e.1 = true := fun a ha => (List.pairwise_append.1 hs).2.2 a ha e (by simp)
  obtain ⟨h1, h2⟩ := hit_at (B := B) hA
  unfold lget
  rw [h2, if_pos rfl, h1]
  simp
/-- What Get answers. -/
def answer (o : Option Ky) : Value := match o with
  | some v => .tuple #[str v, .bool true]
  | none => .tuple #[str [], .bool false]
theorem RootOk.good {H : Hp} {d : Nat} {t : T} {b : Nat} (h : RootOk (some (d, t))) (hT : TAt H d t b) : Good H d t b := ⟨hT, h.1, h.2.1, h.2.2.1, h.2.2.2.2⟩
theorem Good.kid' {H : Hp} {d : Nat} {t : T} {b : Nat} (h : Good H (d + 1) t b) {i : Nat} (hi : i < t.ks.length) {ps : List Nat} (hk : KidsAt H (d + 1) t.ks ps) (hlen : ps.length = t.ks.length) : ∃ p, ps[i]? = some p ∧ Good H d (Tr.kid t i) p :=
  h.kid (by simp [Tr.kid, List.getD, List.getElem?_eq_getElem hi]) hk hlen
attribute [local irreducible] GK GO Yl Wt Ef Hd GH KH wpListIn Code.wpIn toBody roundQ poolOf rs RS YieldOk IterOk VOk row star exs mp lp Sat pt FnOk Rd bodyPost bodyPostM Lv Ret Exit.then Exit.inBlock Exit.noGoto Int.decLt Int.decLe Int.instDecidableEq
attribute [local irreducible] ents ptrs
set_option pp.deepTerms true
set_option pp.maxSteps 1000000
variable {hF H : Hp}
theorem mdel_ok {m : M} (hm : m.Ok) {rv : Value} (hr : RootAt H m.root rv) (hn : m.n < 1000000000) (mb : Nat) (key : Ky) :
    FnOk Go.Proofs.Try.prog 14 [nptr mb, str key] [mblk mb rv m.n, poolOf H] hF (fun v Γ => ∃ H' rv', le H H' ∧ v = .bool (m.del key).2 ∧ Γ = [mblk mb rv' (m.del key).1.n, poolOf H'] ∧ RootAt H' (m.del key).1.root rv') := by
  have hdm := M.del_ok hm key
  refine FnOk.intro 56 Go.Proofs.Try.func14 rfl rfl fun w0 => ?_
  (repeat (first | refine GK.run ?_ | (refine GK.box ?_; intro bl) | (refine GK.mkMap ?_; intro bm) | (refine GK.build0 tb ?_; intro bs)))
  cases hroot : m.root with
  | none =>
    rw [hroot] at hr
    obtain rfl : rv = .pointer none := hr
    have hd : m.del key = (m, false) := by unfold M.del; rw [hroot]
    rw [hd]
    refine GL.cons ?_; refine GO.call [0] (fun hF' hle hH => none_ok mb true (.pointer none) (.int .i64 m.n)) (by first | exact Wt.none | exact Wt.some rfl rfl (by first | exact rfl | decide +kernel)) (by kernel_rfl) rfl rfl rfl ?_
    rintro v Γ' ⟨rfl, rfl⟩
    (repeat (first | refine GK.run ?_ | (refine GK.box ?_; intro bl) | (refine GK.mkMap ?_; intro bm) | (refine GK.build0 tb ?_; intro bs)))
    exact GQ.fin1 rfl (Rv.tmp rfl) (fun w s => s) ⟨H, .pointer none, le.refl _, rfl, rfl, by show RootAt H m.root _; rw [hroot]; rfl⟩
  | some r =>
    obtain ⟨d, t⟩ := r
    rw [hroot] at hr
    obtain ⟨b, rfl, hT⟩ := hr
    replace hT : TAt H d t b := hT
    have hro := hm.root
    rw [hroot] at hro
    have hg := RootOk.good hro hT
    have hl1 : 1 ≤ t.l.length := hro.2.2.2.1
    have hdo := del_ok d t key hg.wf hg.srt hg.kids (fun _ => hl1)
    have hd : m.del key = if (del d t key).2 then (⟨shrink d (del d t key).1, m.n - 1⟩, true) else (m, false) := by unfold M.del; rw [hroot]
    have hn1 : (del d t key).2 = true → 1 ≤ m.n := by
      intro h
      rw [hdo.was] at h
      have := hit_lt h
      have h2 := hm.n
      unfold M.ents at h2
      rw [hroot] at h2
      have h3 : m.n = (flat d t).length := h2
      omega
    rw [hd]
    refine GL.cons ?_; refine GO.call [0] (fun hF' hle hH => none_ok mb true (nptr b) (.int .i64 m.n)) (by first | exact Wt.none | exact Wt.some rfl rfl (by first | exact rfl | decide +kernel)) (by kernel_rfl) rfl rfl rfl ?_
    rintro v Γ' ⟨rfl, rfl⟩
    (repeat (first | refine GK.run ?_ | (refine GK.box ?_; intro bl) | (refine GK.mkMap ?_; intro bm) | (refine GK.build0 tb ?_; intro bs)))
    refine GL.cons ?_; refine GO.call [1] (fun hF' hle hH => delete_ok d t b H hF' key hg (fun _ => hl1)) (by first | exact Wt.none | exact Wt.some rfl rfl (by first | exact rfl | decide +kernel)) (by kernel_rfl) rfl rfl rfl ?_
    rintro v Γ' ⟨H1, b1, le1, rfl, rfl, hT1⟩
    obtain ⟨r, hrr⟩ : ∃ r, del d t key = r := ⟨_, rfl⟩
    rw [hrr] at hT1 hn1 hdo ⊢
    (repeat (first | refine GK.run ?_ | (refine GK.box ?_; intro bl) | (refine GK.mkMap ?_; intro bm) | (refine GK.build0 tb ?_; intro bs)))
    refine G.cond rfl (fun hw => ?_) (fun hw => ?_)
    · have hw : r.2 = false := by simpa using hw
      rw [if_neg (by simp [hw])]
      (repeat (first | refine GK.run ?_ | (refine GK.box ?_; intro bl) | (refine GK.mkMap ?_; intro bm) | (refine GK.build0 tb ?_; intro bs)))
      exact GQ.fin1 rfl (Rv.tmp rfl) (fun w s => s.sel [1, 0] rfl) ⟨H1, nptr b, le1, rfl, rfl, by show RootAt H1 m.root _; rw [hroot]; exact ⟨b, rfl, hT.mono le1⟩⟩
    · have hw : r.2 = true := by simpa using hw
      rw [if_pos hw]
      replace hn1 := hn1 hw
      obtain ⟨lv, kv, ps, hnd, hk⟩ := hT1.node
      have hndn := hnd.nd
      have hlen := hnd.len
      obtain ⟨p0, e0, rfl, he0, hln, hrl⟩ := hnd.l.out
      obtain ⟨q0, c0, rfl, hc0, hkn, hr0⟩ := hnd.k.out
      (repeat (first | refine GK.run ?_ | (refine GK.box ?_; intro bl) | (refine GK.mkMap ?_; intro bm) | (refine GK.build0 tb ?_; intro bs)))
      refine G.cut (fun x : Option Addr => [(0, nptr mb), (5, .pointer x)]) (fun x => [mblk mb (nptr b) m.n, poolOf H1]) (fun x => RootAt H1 (shrink d r.1) (.pointer x)) (fun x hx => ?_) ?_
      rotate_left
      · refine G.cond rfl (fun h0 => ?_) (fun h0 => ?_)
        · have h0 : r.1.l.length = 0 := by simp at h0; simp [h0]
          (repeat (first | refine GK.run ?_ | (refine GK.box ?_; intro bl) | (refine GK.mkMap ?_; intro bm) | (refine GK.build0 tb ?_; intro bs)))
          refine G.cond rfl (fun h1 => ?_) (fun h1 => ?_)
          · have h1 : 0 < r.1.ks.length := by simpa using h1
            have hsh : shrink d r.1 = some (d - 1, kid r.1 0) := by unfold shrink; rw [if_pos h0, if_pos h1]
            rw [hsh]
            obtain ⟨d', rfl⟩ : ∃ d', d = d' + 1 := by
              cases d with
              | zero => have : r.1.ks = [] := hdo.wf; rw [this] at h1; simp at h1
              | succ d => exact ⟨d, rfl⟩
            obtain ⟨pk, hpk, hTk⟩ := kid_at hk hlen h1
            obtain ⟨bb, o, cs, et, fz, rfl, hbb, hat⟩ := hr0 h1
            have hld : cs[o + (0 : Int).toNat * 1]? = some (nptr pk) := hat _ _ (ptrs_get hpk)
            (repeat (first | refine GK.run ?_ | (refine GK.box ?_; intro bl) | (refine GK.mkMap ?_; intro bm) | (refine GK.build0 tb ?_; intro bs)))
            exact GQ.reach (some ⟨pk, 0, none⟩) ⟨pk, rfl, hTk⟩ (by repeat (first | exact trivial | refine ⟨rfl, ?_⟩)) (fun w s => s.sel [1, 0] rfl)
          · have h1 : ¬ 0 < r.1.ks.length := by simp at h1; simp [h1]
            have hsh : shrink d r.1 = none := by unfold shrink; rw [if_pos h0, if_neg h1]
            rw [hsh]
            (repeat (first | refine GK.run ?_ | (refine GK.box ?_; intro bl) | (refine GK.mkMap ?_; intro bm) | (refine GK.build0 tb ?_; intro bs)))
            exact GQ.reach none rfl (by repeat (first | exact trivial | refine ⟨rfl, ?_⟩)) (fun w s => s.sel [1, 0] rfl)
        · have h0 : ¬ r.1.l.length = 0 := by simp at h0; simp [h0]
          have hsh : shrink d r.1 = some (d, r.1) := by unfold shrink; rw [if_neg h0]
          rw [hsh]
          (repeat (first | refine GK.run ?_ | (refine GK.box ?_; intro bl) | (refine GK.mkMap ?_; intro bm) | (refine GK.build0 tb ?_; intro bs)))
          exact GQ.reach (some ⟨b1, 0, none⟩) ⟨b1, rfl, hT1⟩ (by repeat (first | exact trivial | refine ⟨rfl, ?_⟩)) (fun w s => s.sel [1, 0] rfl)
      (repeat (first | refine GK.run ?_ | (refine GK.box ?_; intro bl) | (refine GK.mkMap ?_; intro bm) | (refine GK.build0 tb ?_; intro bs)))
      have e : ((m.n - 1 : Nat) : Int) = (m.n : Int) - 1 := by omega
      refine GQ.fin1 rfl (Rv.tmp rfl) (fun w s => s) ⟨H1, .pointer x, le1, rfl, ?_, hx⟩
      show _ = [mblk mb (.pointer x) (m.n - 1), poolOf H1]
      unfold mblk
      rw [e]; rfl
theorem mlen_ok {m : M} {rv : Value} (mb : Nat) : FnOk Go.Proofs.Try.prog 16 [nptr mb] [mblk mb rv m.n] hF (fun v Γ => v = .int .i64 m.n ∧ Γ = [mblk mb rv m.n]) := by
  refine FnOk.intro 9 Go.Proofs.Try.func16 rfl rfl fun w0 => ?_
  (repeat (first | refine GK.run ?_ | (refine GK.box ?_; intro bl) | (refine GK.mkMap ?_; intro bm) | (refine GK.build0 tb ?_; intro bs)))
  refine GL.cons ?_; refine GO.call [0] (fun hF' hle hH => none_ok mb true rv (.int .i64 m.n)) (by first | exact Wt.none | exact Wt.some rfl rfl (by first | exact rfl | decide +kernel)) (by kernel_rfl) rfl rfl rfl ?_
  rintro v Γ' ⟨rfl, rfl⟩
  (repeat (first | refine GK.run ?_ | (refine GK.box ?_; intro bl) | (refine GK.mkMap ?_; intro bm) | (refine GK.build0 tb ?_; intro bs)))
  exact GQ.end1 rfl rfl ⟨rfl, rfl⟩
theorem RootAt.ptr {r : Option (Nat × T)} {v : Value} (h : RootAt H r v) : ∃ q, v = .pointer q := by
  cases r with
  | none => exact ⟨none, h⟩
  | some r => obtain ⟨b, h, _⟩ := h; exact ⟨_, h⟩
theorem mclone_ok {m : M} {q : Option Addr} (mb : Nat) : FnOk Go.Proofs.Try.prog 19 [nptr mb] [mblk mb (.pointer q) m.n] hF (fun v Γ => ∃ nb, v = nptr nb ∧ Γ = [mblk nb (.pointer q) m.n, mblk mb (.pointer q) m.n]) := by
  refine FnOk.intro 9 Go.Proofs.Try.func19 rfl rfl fun w0 => ?_
  (repeat (first | refine GK.run ?_ | (refine GK.box ?_; intro bl) | (refine GK.mkMap ?_; intro bm) | (refine GK.build0 tb ?_; intro bs)))
  refine GL.cons ?_; refine GO.call [0] (fun hF' hle hH => none_ok mb true (.pointer q) (.int .i64 m.n)) (by first | exact Wt.none | exact Wt.some rfl rfl (by first | exact rfl | decide +kernel)) (by kernel_rfl) rfl rfl rfl ?_
  rintro v Γ' ⟨rfl, rfl⟩
  (repeat (first | refine GK.run ?_ | (refine GK.box ?_; intro bl) | (refine GK.mkMap ?_; intro bm) | (refine GK.build0 tb ?_; intro bs)))
  refine GL.cons ?_; refine Gt.allocAny tb (by first | exact Wt.none | exact Wt.some rfl rfl (by first | exact rfl | decide +kernel)) (by exact rfl) (by exact rfl) ?_
  intro bm lm hlm
  (repeat (first | refine GK.run ?_ | (refine GK.box ?_; intro bl) | (refine GK.mkMap ?_; intro bm) | (refine GK.build0 tb ?_; intro bs)))
  refine GL.cons ?_
  refine Gt.storeAny tb 0 (by first | exact Wt.none | exact Wt.some rfl rfl (by first | exact rfl | decide +kernel)) rfl rfl rfl rfl (one_of_all rfl) rfl hlm ?_
  (repeat (first | refine GK.run ?_ | (refine GK.box ?_; intro bl) | (refine GK.mkMap ?_; intro bm) | (refine GK.build0 tb ?_; intro bs)))
  exact GQ.fin1 rfl (Rv.tmp rfl) (fun w s => s) ⟨bm, rfl, rfl⟩
theorem mdepth_ok {m : M} (hm : m.Ok) {rv : Value} (hr : RootAt H m.root rv) (mb : Nat) (hd : m.depth < 1000) : FnOk Go.Proofs.Try.prog 17 [nptr mb] [mblk mb rv m.n, poolOf H] hF (fun v Γ => v = .int .i64 m.depth ∧ Γ = [mblk mb rv m.n, poolOf H]) := by
  refine FnOk.intro 30 Go.Proofs.Try.func17 rfl rfl fun w0 => ?_
  (repeat (first | refine GK.run ?_ | (refine GK.box ?_; intro bl) | (refine GK.mkMap ?_; intro bm) | (refine GK.build0 tb ?_; intro bs)))
  refine GL.cons ?_; refine GO.call [0] (fun hF' hle hH => none_ok mb true rv (.int .i64 m.n)) (by first | exact Wt.none | exact Wt.some rfl rfl (by first | exact rfl | decide +kernel)) (by kernel_rfl) rfl rfl rfl ?_
  rintro v Γ' ⟨rfl, rfl⟩
  (repeat (first | refine GK.run ?_ | (refine GK.box ?_; intro bl) | (refine GK.mkMap ?_; intro bm) | (refine GK.build0 tb ?_; intro bs)))
  cases hroot : m.root with
  | none =>
    rw [hroot] at hr
    obtain rfl : rv = .pointer none := hr
    have hd0 : m.depth = 0 := by unfold M.depth; rw [hroot]
    refine GK.weak (by repeat (first | exact trivial | refine ⟨rfl, ?_⟩)) (fun w s => s) (G.loop (fun _ : Unit => 0) (fun x => [(3, .int .i64 0), (4, .pointer none)]) (fun _ => [mblk mb (.pointer none) m.n, poolOf H]) (fun _ => True) (fun x _ => ?_) () trivial)
    (repeat (first | refine GK.run ?_ | (refine GK.box ?_; intro bl) | (refine GK.mkMap ?_; intro bm) | (refine GK.build0 tb ?_; intro bs)))
    exact GQ.fin1 rfl (Rv.tmp rfl) (fun w s => s) ⟨by rw [hd0]; rfl, rfl⟩
  | some r =>
    obtain ⟨d, t⟩ := r
    rw [hroot] at hr
    obtain ⟨b, rfl, hT⟩ := hr
    replace hT : TAt H d t b := hT
    have hro := hm.root
    rw [hroot] at hro
    have hd0 : m.depth = d + 1 := by unfold M.depth; rw [hroot]
    rw [hd0] at hd ⊢
    refine GK.weak (by repeat (first | exact trivial | refine ⟨rfl, ?_⟩)) (fun w s => s) (G.loop (fun x : Nat × Nat × T × Nat => x.2.1) (fun x => [(3, .int .i64 x.1), (4, nptr x.2.2.2)]) (fun _ => [mblk mb (nptr b) m.n, poolOf H]) (fun x => x.1 + x.2.1 = d ∧ TAt H x.2.1 x.2.2.1 x.2.2.2 ∧ WF x.2.1 x.2.2.1) (fun x hx => ?_) (0, d, t, b) ⟨by show 0 + d = d; omega, hT, hro.1⟩)
    obtain ⟨c, d1, t1, b1⟩ := x
    obtain ⟨hc, hT1, hw1⟩ := hx
    replace hc : c + d1 = d := hc
    replace hT1 : TAt H d1 t1 b1 := hT1
    replace hw1 : WF d1 t1 := hw1
    obtain ⟨lv, kv, ps, hnd, hk⟩ := hT1.node
    have hndn := hnd.nd
    have hlen := hnd.len
    obtain ⟨q0, c0, rfl, hc0, hkn, hr0⟩ := hnd.k.out
    (repeat (first | refine GK.run ?_ | (refine GK.box ?_; intro bl) | (refine GK.mkMap ?_; intro bm) | (refine GK.build0 tb ?_; intro bs)))
    refine G.cond rfl (fun h0 => ?_) (fun h0 => ?_)
    · have h0 : t1.ks = [] := by simpa using h0
      have hd1 : d1 = 0 := hw1.leaf.1 h0
      (repeat (first | refine GK.run ?_ | (refine GK.box ?_; intro bl) | (refine GK.mkMap ?_; intro bm) | (refine GK.build0 tb ?_; intro bs)))
      exact GQ.fin1 rfl (Rv.tmp rfl) (fun w s => s) ⟨by rw [show ((d + 1 : Nat) : Int) = (c : Int) + 1 by omega], rfl⟩
    · have h0 : ¬ t1.ks = [] := by simpa using h0
      have h1 : 0 < t1.ks.length := List.length_pos_iff.2 h0
      obtain ⟨d', rfl⟩ : ∃ d', d1 = d' + 1 := by
        cases d1 with
        | zero => exact absurd hw1 h0
        | succ d => exact ⟨d, rfl⟩
      obtain ⟨pk, hpk, hTk⟩ := kid_at hk hlen h1
      have hmk : kid t1 0 ∈ t1.ks := by
        have : kid t1 0 = t1.ks[0] := by simp [kid, List.getD, List.getElem?_eq_getElem h1]
        rw [this]; exact List.getElem_mem _
      obtain ⟨bb, o, cs, et, fz, rfl, hbb, hat⟩ := hr0 h1
      have hld : cs[o + (0 : Int).toNat * 1]? = some (nptr pk) := hat _ _ (ptrs_get hpk)
      (repeat (first | refine GK.run ?_ | (refine GK.box ?_; intro bl) | (refine GK.mkMap ?_; intro bm) | (refine GK.build0 tb ?_; intro bs)))
      exact GQ.again (c + 1, d', kid t1 0, pk) ⟨by show c + 1 + d' = d; omega, hTk, hw1.2 _ hmk⟩ (by show d' < d' + 1; omega) (by repeat (first | exact trivial | refine ⟨rfl, ?_⟩)) (fun w s => s)
theorem mget_ok {m : M} (hm : m.Ok) {rv : Value} (hr : RootAt H m.root rv) (mb : Nat) (key : Ky) : FnOk Go.Proofs.Try.prog 21 [nptr mb, str key] [mblk mb rv m.n, poolOf H] hF (fun v Γ => v = answer (lget m.ents key) ∧ Γ = [mblk mb rv m.n, poolOf H]) := by
  refine FnOk.intro 45 Go.Proofs.Try.func21 rfl rfl fun w0 => ?_
  (repeat (first | refine GK.run ?_ | (refine GK.box ?_; intro bl) | (refine GK.mkMap ?_; intro bm) | (refine GK.build0 tb ?_; intro bs)))
  refine GL.cons ?_; refine GO.call [0] (fun hF' hle hH => none_ok mb true rv (.int .i64 m.n)) (by first | exact Wt.none | exact Wt.some rfl rfl (by first | exact rfl | decide +kernel)) (by kernel_rfl) rfl rfl rfl ?_
  rintro v Γ' ⟨rfl, rfl⟩
  (repeat (first | refine GK.run ?_ | (refine GK.box ?_; intro bl) | (refine GK.mkMap ?_; intro bm) | (refine GK.build0 tb ?_; intro bs)))
  cases hroot : m.root with
  | none =>
    rw [hroot] at hr
    obtain rfl : rv = .pointer none := hr
    have hd0 : lget m.ents key = none := by unfold M.ents; rw [hroot]; rfl
    refine GK.weak (by repeat (first | exact trivial | refine ⟨rfl, ?_⟩)) (fun w s => s) (G.loop (fun _ : Unit => 0) (fun x => [(1, str key), (6, .pointer none)]) (fun _ => [mblk mb (.pointer none) m.n, poolOf H]) (fun _ => True) (fun x _ => ?_) () trivial)
    (repeat (first | refine GK.run ?_ | (refine GK.box ?_; intro bl) | (refine GK.mkMap ?_; intro bm) | (refine GK.build0 tb ?_; intro bs)))
    exact GQ.fin2 rfl (Rv.tmp rfl) (Rv.tmp rfl) (fun w s => s) ⟨by rw [hd0]; rfl, rfl⟩
  | some r =>
    obtain ⟨d, t⟩ := r
    rw [hroot] at hr
    obtain ⟨b, rfl, hT⟩ := hr
    replace hT : TAt H d t b := hT
    have hro := hm.root
    rw [hroot] at hro
    have hents : m.ents = flat d t := by unfold M.ents; rw [hroot]; rfl
    rw [hents]
    refine GK.weak (by repeat (first | exact trivial | refine ⟨rfl, ?_⟩)) (fun w s => s) (G.loop (fun x : Nat × T × Nat => x.1) (fun x => [(1, str key), (6, nptr x.2.2)]) (fun _ => [mblk mb (nptr b) m.n, poolOf H]) (fun x => Good H x.1 x.2.1 x.2.2 ∧ lget (flat x.1 x.2.1) key = lget (flat d t) key) (fun x hx => ?_) (d, t, b) ⟨RootOk.good hro hT, rfl⟩)
    obtain ⟨d1, t1, b1⟩ := x
    obtain ⟨hg, he⟩ := hx
    replace hg : Good H d1 t1 b1 := hg
    replace he : lget (flat d1 t1) key = lget (flat d t) key := he
    rw [← he]
    obtain ⟨lv, kv, ps, hnd, hk⟩ := hg.at_.node
    have hndn := hnd.nd
    have hlen := hnd.len
    have hw := hg.wf
    have hsl := srt_l hg.wf hg.srt
    have hmost := hg.most
    have hp := pos_le t1.l key
    have hnd' := hnd
    obtain ⟨q0, c0, rfl, hc0, hkn, hr0⟩ := hnd.k.out
    obtain ⟨p0, e0, rfl, he0, hln, hrl⟩ := hnd.l.out
    (repeat (first | refine GK.run ?_ | (refine GK.box ?_; intro bl) | (refine GK.mkMap ?_; intro bm) | (refine GK.build0 tb ?_; intro bs)))
    refine GL.cons ?_; refine GO.call [1] (fun hF' hle hH => find_ok hnd' hsl (by omega) key) (by first | exact Wt.none | exact Wt.some rfl rfl (by first | exact rfl | decide +kernel)) (by kernel_rfl) rfl rfl rfl ?_
    rintro v Γ' ⟨rfl, rfl⟩
    (repeat (first | refine GK.run ?_ | (refine GK.box ?_; intro bl) | (refine GK.mkMap ?_; intro bm) | (refine GK.build0 tb ?_; intro bs)))
    refine G.cond rfl (fun hh => ?_) (fun hh => ?_)
    · have hit_i := hit_lt hh
      obtain ⟨bb, o, cs, et, fz, rfl, hbb, hat⟩ := hrl (by omega)
      obtain ⟨v0, hv0⟩ := hit_get hh
      have hld : cs[o + ((pos t1.l key : Nat) : Int).toNat * 2 + 1]? = some (str v0) := by rw [Nat.add_assoc]; exact hat _ _ (ents_get hv0).2
      have hans : lget (flat d1 t1) key = some v0 := lget_mem hg.srt (e := (key, v0)) ((l_sub hg.wf).mem (List.mem_of_getElem? hv0))
      rw [hans]
      (repeat (first | refine GK.run ?_ | (refine GK.box ?_; intro bl) | (refine GK.mkMap ?_; intro bm) | (refine GK.build0 tb ?_; intro bs)))
      exact GQ.fin2 rfl (Rv.tmp rfl) (Rv.tmp rfl) (fun w s => s.sel [1, 0] rfl) ⟨rfl, rfl⟩
    · have hh : hit t1.l key = false := hh
      (repeat (first | refine GK.run ?_ | (refine GK.box ?_; intro bl) | (refine GK.mkMap ?_; intro bm) | (refine GK.build0 tb ?_; intro bs)))
      refine G.cond rfl (fun h0 => ?_) (fun h0 => ?_)
      · have h0 : t1.ks = [] := by simpa using h0
        have hd1 : d1 = 0 := hw.leaf.1 h0
        subst hd1
        have hans : lget (flat 0 t1) key = none := by show lget t1.l key = none; unfold lget; rw [hh]; rfl
        rw [hans]
        (repeat (first | refine GK.run ?_ | (refine GK.box ?_; intro bl) | (refine GK.mkMap ?_; intro bm) | (refine GK.build0 tb ?_; intro bs)))
        exact GQ.fin2 rfl (Rv.tmp rfl) (Rv.tmp rfl) (fun w s => s.sel [1, 0] rfl) ⟨rfl, rfl⟩
      · have h0 : ¬ t1.ks = [] := by simpa using h0
        obtain ⟨d', rfl⟩ : ∃ d', d1 = d' + 1 := by
          cases d1 with
          | zero => exact absurd hw h0
          | succ d => exact ⟨d, rfl⟩
        have hw1 := hw.1
        obtain ⟨pk, hpk, hgk⟩ := hg.kid' (i := pos t1.l key) (by omega) hk hlen
        obtain ⟨bb, o, cs, et, fz, rfl, hbb, hat⟩ := hr0 (by omega)
        have hld : cs[o + ((pos t1.l key : Nat) : Int).toNat * 1]? = some (nptr pk) := hat _ _ (ptrs_get hpk)
        (repeat (first | refine GK.run ?_ | (refine GK.box ?_; intro bl) | (refine GK.mkMap ?_; intro bm) | (refine GK.build0 tb ?_; intro bs)))
        refine GQ.again (d', kid t1 (pos t1.l key), pk) ⟨hgk, ?_⟩ (by show d' < d' + 1; omega) (by repeat (first | exact trivial | refine ⟨rfl, ?_⟩)) (fun w s => s.sel [1, 0] rfl)
        obtain ⟨A, B, e1, e2, e3, _⟩ := flat_at hw hg.srt hh
        show lget (flat d' (kid t1 (pos t1.l key))) key = lget (flat (d' + 1) t1) key
        rw [e1, lget_mid e2 e3]
end Go.Tr
