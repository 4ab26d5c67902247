/- Both disks tell the same. -/
import Derived.Test.YtmiajgldkbmbjaaRkG
namespace Go.Dk
open Go Go.Sl
theorem same_bool (b : Bool) : (b == b) = true := beq_self_eq_true b
theorem brows_set {vs : List Value} {L : List (List UInt8)} {i : Nat} {v : Value} {C : List UInt8} (hv : vs[i]? = some v) (hL : i < L.length) {Γ : List HProp} {hF : Hp} {w : World} (h : Sat (brow v C :: star ((List.zipWith brow vs L).eraseIdx i) :: Γ) hF w) : Sat (brows vs (L.set i C) :: Γ) hF w := by
  have hvl : i < vs.length := (List.getElem?_eq_some_iff.1 hv).1
  have := Sat.star_put (i := i) (l := List.zipWith brow vs L) (by simp; omega) h
  have e : (List.zipWith brow vs L).set i (brow v C) = List.zipWith brow vs (L.set i C) := by
    refine List.ext_getElem? fun j => ?_
    rw [List.getElem?_set]
    by_cases e : i = j
    · subst e
      rw [if_pos rfl, if_pos (by simp; omega)]
      simp [List.getElem?_zipWith, hv, hL]
    · rw [if_neg e]
      simp [List.getElem?_zipWith, List.getElem?_set, e]
  rw [brows, ← e]; exact this
attribute [local irreducible] GK GO Yl Wt Ef Hd GH KH wpList Code.wp Sat pt FnOk Rd bodyPost Ret Exit.then Exit.inBlock Exit.noGoto exs Int.decLt Int.decLe Int.instDecidableEq
attribute [local irreducible] rep whole blank DM.write DM.flush DM.arm DM.restart DM.read ActM.data
variable {d r : Nat} {D : DM} {hF : Hp}
set_option maxHeartbeats 8000000 in
theorem same_ok (hx : D.Ok) : FnOk Go.Proofs.Try.prog 23 [dptr d, dptr r] [dk d D, rk r D] hF (fun v Γ => v = .bool true ∧ Γ = [dk d D, rk r D]) := by
  refine FnOk.intro 116 Go.Proofs.Try.func23 rfl rfl fun w0 => ?_
  have hcnt := hx.count
  have hle := hx.le
  (repeat (first | refine GK.run ?_ | (refine GK.box ?_; intro bl) | (refine GK.mkMap ?_; intro bm) | (refine GK.build0 tb ?_; intro bs)))
  refine GL.cons ?_; refine GO.call [0] (fun hF' hle hH => pending_ok) (by first | exact Wt.none | exact Wt.some rfl rfl (by first | exact rfl | decide +kernel)) (by kernel_rfl) rfl rfl rfl ?_
  rintro v Γ' ⟨pp, cp, rfl, rfl⟩
  (repeat (first | refine GK.run ?_ | (refine GK.box ?_; intro bl) | (refine GK.mkMap ?_; intro bm) | (refine GK.build0 tb ?_; intro bs)))
  refine GL.cons ?_; refine GO.call [1] (fun hF' hle hH => sure_ok) (by first | exact Wt.none | exact Wt.some rfl rfl (by first | exact rfl | decide +kernel)) (by kernel_rfl) rfl rfl rfl ?_
  rintro v Γ' ⟨pw, kw, rfl, rfl⟩
  (repeat (first | refine GK.run ?_ | (refine GK.box ?_; intro bl) | (refine GK.mkMap ?_; intro bm) | (refine GK.build0 tb ?_; intro bs)))
  refine GK.opens 3 rfl fun x _ => ?_
  obtain ⟨sp, sc, qp, qc⟩ := x
  refine G.draw [] [rblk r [.slice sp D.sure.length sc, .slice qp D.pend.length qc, .bool D.off, .bool D.armed, .int .i64 D.plan, .int .i64 D.opn]] (by kernel_rfl) ?_
  ((first | refine GH.tk 0 [0] ?_ | refine GH.tks 0 [0] ?_); (first | refine GH.tk 2 [0] ?_ | refine GH.tks 2 [0] ?_); (first | refine GH.tk 3 [0] ?_ | refine GH.tks 3 [0] ?_); (first | refine GH.tk 4 [0] ?_ | refine GH.tks 4 [0] ?_); (first | refine GH.tk 5 [0] ?_ | refine GH.tks 5 [0] ?_); (first | refine GH.tk 6 [0] ?_ | refine GH.tks 6 [0] ?_))
  refine GH.step 1 rfl (by kernel_rfl) ?_
  refine GO.call [4] (fun hF' _ _ => sectors_ok) (by first | exact Wt.none | exact Wt.some rfl rfl (by first | exact rfl | decide +kernel)) (by kernel_rfl) rfl rfl rfl ?_
  rintro v Γ' ⟨rfl, rfl⟩
  refine GH.keep (fun _ s => s.sel [1] rfl) ?_
  ((first | refine GH.tk 7 [1] ?_ | refine GH.tks 7 [1] ?_))
  rw [same_dec]
  ((first | refine GH.tk 8 [1] ?_ | refine GH.tks 8 [1] ?_); (first | refine GH.tk 9 [1] ?_ | refine GH.tks 9 [1] ?_); (first | refine GH.tk 11 [1] ?_ | refine GH.tks 11 [1] ?_); (first | refine GH.tk 12 [1] ?_ | refine GH.tks 12 [1] ?_); (first | refine GH.tk 13 [1] ?_ | refine GH.tks 13 [1] ?_); (first | refine GH.tk 14 [1] ?_ | refine GH.tks 14 [1] ?_))
  refine GH.step 10 rfl (by kernel_rfl) ?_
  refine GO.call [0] (fun hF' _ _ => down_ok) (by first | exact Wt.none | exact Wt.some rfl rfl (by first | exact rfl | decide +kernel)) (by kernel_rfl) rfl rfl rfl ?_
  rintro v Γ' ⟨rfl, rfl⟩
  refine GH.keep (fun _ s => s.sel [1] rfl) ?_
  ((first | refine GH.tk 15 [1] ?_ | refine GH.tks 15 [1] ?_))
  rw [same_bool]
  ((first | refine GH.tk 16 [1] ?_ | refine GH.tks 16 [1] ?_); (first | refine GH.tk 17 [1] ?_ | refine GH.tks 17 [1] ?_); (first | refine GH.tk 18 [1] ?_ | refine GH.tks 18 [1] ?_); (first | refine GH.tk 20 [1] ?_ | refine GH.tks 20 [1] ?_); (first | refine GH.tk 21 [1] ?_ | refine GH.tks 21 [1] ?_); (first | refine GH.tk 22 [1] ?_ | refine GH.tks 22 [1] ?_); (first | refine GH.tk 23 [1] ?_ | refine GH.tks 23 [1] ?_))
  refine GH.step 19 rfl (by kernel_rfl) ?_
  refine GO.call [0] (fun hF' _ _ => ops_ok) (by first | exact Wt.none | exact Wt.some rfl rfl (by first | exact rfl | decide +kernel)) (by kernel_rfl) rfl rfl rfl ?_
  rintro v Γ' ⟨rfl, rfl⟩
  refine GH.keep (fun _ s => s.sel [1] rfl) ?_
  ((first | refine GH.tk 24 [1] ?_ | refine GH.tks 24 [1] ?_))
  rw [same_dec]
  ((first | refine GH.tk 25 [1] ?_ | refine GH.tks 25 [1] ?_); (first | refine GH.tk 26 [1] ?_ | refine GH.tks 26 [1] ?_); (first | refine GH.tk 27 [1] ?_ | refine GH.tks 27 [1] ?_); (first | refine GH.tk 28 [1] ?_ | refine GH.tks 28 [1] ?_); (first | refine GH.tk 29 [1] ?_ | refine GH.tks 29 [1] ?_); (first | refine GH.tk 30 [1] ?_ | refine GH.tks 30 [1] ?_); (first | refine GH.tk 31 [1] ?_ | refine GH.tks 31 [1] ?_); (first | refine GH.tk 32 [1] ?_ | refine GH.tks 32 [1] ?_); (first | refine GH.tk 33 [1] ?_ | refine GH.tks 33 [1] ?_); (first | refine GH.tk 34 [1] ?_ | refine GH.tks 34 [1] ?_))
  rw [same_dec]
  ((first | refine GH.tk 35 [1] ?_ | refine GH.tks 35 [1] ?_); (first | refine GH.tk 36 [1] ?_ | refine GH.tks 36 [1] ?_); (first | refine GH.tk 37 [1] ?_ | refine GH.tks 37 [1] ?_); (first | refine GH.tk 38 [1] ?_ | refine GH.tks 38 [1] ?_); (first | refine GH.tk 39 [1] ?_ | refine GH.tks 39 [1] ?_); (first | refine GH.tk 40 [1] ?_ | refine GH.tks 40 [1] ?_); (first | refine GH.tk 41 [1] ?_ | refine GH.tks 41 [1] ?_); (first | refine GH.tk 42 [1] ?_ | refine GH.tks 42 [1] ?_); (first | refine GH.tk 43 [1] ?_ | refine GH.tks 43 [1] ?_); (first | refine GH.tk 44 [1] ?_ | refine GH.tks 44 [1] ?_))
  rw [same_dec]
  ((first | refine GH.tk 45 [1] ?_ | refine GH.tks 45 [1] ?_))
  refine GH.fin (by kernel_rfl) ?_
  (repeat (first | refine GK.run ?_ | (refine GK.box ?_; intro bl) | (refine GK.mkMap ?_; intro bm) | (refine GK.build0 tb ?_; intro bs)))
  refine GK.weak (by repeat (first | exact trivial | refine ⟨rfl, ?_⟩)) (fun w s => ?_) (G.loop (fun i : Nat => D.pend.length - i)
    (fun i => [(1, dptr r), (5, .slice pp D.pend.length cp), (6, .slice pw D.sure.length kw), (61, .int .i64 D.pend.length), (62, .int .i64 i)])
    (fun _ => [dk d D, rblk r [.slice sp D.sure.length sc, .slice qp D.pend.length qc, .bool D.off, .bool D.armed, .int .i64 D.plan, .int .i64 D.opn], row (.slice sp D.sure.length sc) 9 1 D.sure.length (strs D.sure), row (.slice qp D.pend.length qc) 76 2 D.pend.length (puts D.pend), rows (.slice pw D.sure.length kw) D.sure.length D.sure, row (.slice pp D.pend.length cp) 3 1 D.pend.length (i64s (ats D.pend))])
    (fun i => i ≤ D.pend.length) (fun i hi => ?_) 0 (Nat.zero_le _))
  · have s := s.sel [0, 0, 0, 0, 0, 0] rfl
    have e : irow (.slice pp D.pend.length cp) (ats D.pend) = row (.slice pp D.pend.length cp) 3 1 D.pend.length (i64s (ats D.pend)) := by rw [irow, ats_length]
    rw [e] at s
    exact s
  (repeat (first | refine GK.run ?_ | (refine GK.box ?_; intro bl) | (refine GK.mkMap ?_; intro bm) | (refine GK.build0 tb ?_; intro bs)))
  refine G.cond rfl (fun h1 => ?_) (fun h1 => ?_)
  · have h1 : i < D.pend.length := by simp at h1; omega
    obtain ⟨p, hp⟩ : ∃ p, D.pend[i]? = some p := ⟨_, List.getElem?_eq_getElem h1⟩
    refine GK.openRow 5 rfl (by omega) fun b tail fz hp' hc ht hxs hf => ?_
    refine GK.openRow 4 rfl (by omega) fun b2 tail2 fz2 hp2 hc2 ht2 hxs2 hf2 => ?_
    subst hp' hp2
    have a0 : (i64s (ats D.pend) ++ tail)[0 + ((i : Nat) : Int).toNat * 1]? = some (.int .i64 p.1) := by
      rw [show 0 + ((i : Nat) : Int).toNat * 1 = i by show 0 + i * 1 = i; omega, List.getElem?_append_left (by rw [i64s_length, ats_length]; omega)]
      simp [i64s, ats, hp]
    have a1 : (puts D.pend ++ tail2)[0 + ((i : Nat) : Int).toNat * 2 + 0]? = some (.int .i64 p.1) := by have := (puts_at hp tail2).1; simpa using this
    (repeat (first | refine GK.run ?_ | (refine GK.box ?_; intro bl) | (refine GK.mkMap ?_; intro bm) | (refine GK.build0 tb ?_; intro bs)))
    refine G.draw [] [blk b2 76 fz2 (puts D.pend ++ tail2), blk b 3 fz (i64s (ats D.pend) ++ tail), rblk r [.slice sp D.sure.length sc, .slice (some ⟨b2, 0, none⟩) D.pend.length qc, .bool D.off, .bool D.armed, .int .i64 D.plan, .int .i64 D.opn]] (by kernel_rfl) ?_
    ((first | refine GH.tk 0 [0,0,1] ?_ | refine GH.tks 0 [0,0,1] ?_); (first | refine GH.tk 1 [0,0,1] ?_ | refine GH.tks 1 [0,0,1] ?_); (first | refine GH.tk 2 [0,0,1] ?_ | refine GH.tks 2 [0,0,1] ?_); (first | refine GH.tk 3 [0,0,1] ?_ | refine GH.tks 3 [0,0,1] ?_); (first | refine GH.tk 4 [0,0,1] ?_ | refine GH.tks 4 [0,0,1] ?_); (first | refine GH.tk 5 [0,0,1] ?_ | refine GH.tks 5 [0,0,1] ?_); (first | refine GH.tk 6 [0,0,1] ?_ | refine GH.tks 6 [0,0,1] ?_); (first | refine GH.tk 7 [0,0,1] ?_ | refine GH.tks 7 [0,0,1] ?_); (first | refine GH.tk 8 [0,0,1] ?_ | refine GH.tks 8 [0,0,1] ?_); (first | refine GH.tk 9 [0,0,1] ?_ | refine GH.tks 9 [0,0,1] ?_); (first | refine GH.tk 10 [0,0,1] ?_ | refine GH.tks 10 [0,0,1] ?_); (first | refine GH.tk 11 [0,0,1] ?_ | refine GH.tks 11 [0,0,1] ?_); (first | refine GH.tk 12 [0,0,1] ?_ | refine GH.tks 12 [0,0,1] ?_))
    rw [same_dec]
    refine GH.fin (by kernel_rfl) ?_
    (repeat (first | refine GK.run ?_ | (refine GK.box ?_; intro bl) | (refine GK.mkMap ?_; intro bm) | (refine GK.build0 tb ?_; intro bs)))
    refine GQ.again (i + 1) h1 (by omega) (by repeat (first | exact trivial | refine ⟨rfl, ?_⟩)) (fun w s => ?_)
    have s := (s.row_blk hc2 ht2 hxs2 hf2).sel [1, 0, 0, 0, 0, 0] rfl
    exact (s.row_blk hc ht hxs hf).sel [2, 2, 2, 1, 1, 0] rfl
  · have h1 : i = D.pend.length := by simp at h1; omega
    subst h1
    refine GK.sel [4, 0, 0, 0, 0] rfl ?_
    refine GK.opens 0 rfl fun vs hvs => ?_
    refine GK.openRow 0 rfl hx.pos fun bw tw fw hpw hcw htw hxw hfw => ?_
    refine GK.openRow 4 rfl hx.pos fun bs ts fs hps hcs hts hxs hfs => ?_
    subst hpw hps
    refine GK.pure (fun w s => star_shape (i := 2) rfl s) fun shp => ?_
    (repeat (first | refine GK.run ?_ | (refine GK.box ?_; intro bl) | (refine GK.mkMap ?_; intro bm) | (refine GK.build0 tb ?_; intro bs)))
    refine GK.weak (by repeat (first | exact trivial | refine ⟨rfl, ?_⟩)) (fun w s => s.sel [1, 1, 0, 0, 0, 0] rfl) (G.loop (fun x : Nat × List (List UInt8) => D.sure.length - x.1)
      (fun x => [(1, dptr r), (6, .slice (some ⟨bw, 0, none⟩) D.sure.length kw), (80, .int .i64 D.sure.length), (81, .int .i64 x.1)])
      (fun x => [blk bw 32 fw (vs ++ tw), brows vs x.2, blk bs 9 fs (strs D.sure ++ ts), dk d D, rblk r [.slice (some ⟨bs, 0, none⟩) D.sure.length sc, .slice qp D.pend.length qc, .bool D.off, .bool D.armed, .int .i64 D.plan, .int .i64 D.opn], row (.slice qp D.pend.length qc) 76 2 D.pend.length (puts D.pend)])
      (fun x => x.1 ≤ D.sure.length ∧ x.2.length = D.sure.length ∧ ∀ j, x.1 ≤ j → x.2[j]? = D.sure[j]?) (fun x hi => ?_) (0, D.sure) ⟨Nat.zero_le _, rfl, fun _ _ => rfl⟩)
    obtain ⟨i, L⟩ := x
    obtain ⟨hi, hL, hLj⟩ := hi
    replace hi : i ≤ D.sure.length := hi
    replace hL : L.length = D.sure.length := hL
    replace hLj : ∀ j, i ≤ j → L[j]? = D.sure[j]? := hLj
    (repeat (first | refine GK.run ?_ | (refine GK.box ?_; intro bl) | (refine GK.mkMap ?_; intro bm) | (refine GK.build0 tb ?_; intro bs)))
    refine G.cond rfl (fun h2 => ?_) (fun h2 => ?_)
    · have h2 : i < D.sure.length := by simp at h2; omega
      obtain ⟨s, hs⟩ : ∃ s, D.sure[i]? = some s := ⟨_, List.getElem?_eq_getElem h2⟩
      have hsz := hx.size s (List.mem_of_getElem? hs)
      obtain ⟨pv, cv, hw⟩ := shp i _ s (List.getElem?_eq_getElem (by omega)) hs
      have gw : vs[i]? = some (.slice pv s.length cv) := by rw [← hw]; exact List.getElem?_eq_getElem (by omega)
      have ej : 0 + ((i : Nat) : Int).toNat * 1 = i := by show 0 + i * 1 = i; omega
      have lw : (vs ++ tw)[0 + ((i : Nat) : Int).toNat * 1]? = some (.slice pv s.length cv) := by rw [ej, List.getElem?_append_left (by omega)]; exact gw
      have ls : (strs D.sure ++ ts)[0 + ((i : Nat) : Int).toNat * 1]? = some (str s) := by rw [ej]; exact strs_at hs ts
      (repeat (first | refine GK.run ?_ | (refine GK.box ?_; intro bl) | (refine GK.mkMap ?_; intro bm) | (refine GK.build0 tb ?_; intro bs)))
      refine G.draw [] [blk bw 32 fw (vs ++ tw), brows vs L, blk bs 9 fs (strs D.sure ++ ts), rblk r [.slice (some ⟨bs, 0, none⟩) D.sure.length sc, .slice qp D.pend.length qc, .bool D.off, .bool D.armed, .int .i64 D.plan, .int .i64 D.opn]] (by kernel_rfl) ?_
      ((first | refine GH.tk 0 [0,0,0,1] ?_ | refine GH.tks 0 [0,0,0,1] ?_); (first | refine GH.tk 1 [0,0,0,1] ?_ | refine GH.tks 1 [0,0,0,1] ?_); (first | refine GH.tk 2 [0,0,0,1] ?_ | refine GH.tks 2 [0,0,0,1] ?_); (first | refine GH.tk 3 [0,0,0,1] ?_ | refine GH.tks 3 [0,0,0,1] ?_))
      refine GH.take 4 rfl (by kernel_rfl) (by first | exact Wt.none | exact Wt.some rfl rfl (by first | exact rfl | decide +kernel)) (fun _ s => s.sel [0, 0, 0, 1] rfl) (Yl.starStr 1 i rfl rfl rfl rfl rfl gw (by rw [hLj i (Nat.le_refl _)]; exact hs) rfl) ?_
      ((first | refine GH.tk 5 [0,0,0,1] ?_ | refine GH.tks 5 [0,0,0,1] ?_); (first | refine GH.tk 6 [0,0,0,1] ?_ | refine GH.tks 6 [0,0,0,1] ?_); (first | refine GH.tk 7 [0,0,0,1] ?_ | refine GH.tks 7 [0,0,0,1] ?_); (first | refine GH.tk 8 [0,0,0,1] ?_ | refine GH.tks 8 [0,0,0,1] ?_); (first | refine GH.tk 9 [0,0,0,1] ?_ | refine GH.tks 9 [0,0,0,1] ?_); (first | refine GH.tk 10 [0,0,0,1] ?_ | refine GH.tks 10 [0,0,0,1] ?_); (first | refine GH.tk 11 [0,0,0,1] ?_ | refine GH.tks 11 [0,0,0,1] ?_); (first | refine GH.tk 12 [0,0,0,1] ?_ | refine GH.tks 12 [0,0,0,1] ?_))
      rw [show (s == s) = true from beq_self_eq_true s]
      refine GH.fin (by kernel_rfl) ?_
      (repeat (first | refine GK.run ?_ | (refine GK.box ?_; intro bl) | (refine GK.mkMap ?_; intro bm) | (refine GK.build0 tb ?_; intro bs)))
      have hLi : L[i]? = some s := by rw [hLj i (Nat.le_refl _)]; exact hs
      refine GK.weak (by repeat (first | exact trivial | refine ⟨rfl, ?_⟩)) (fun w q => ?_) (G.loop (fun x : Nat × List UInt8 => s.length - x.1)
        (fun x => [(1, dptr r), (6, .slice (some ⟨bw, 0, none⟩) D.sure.length kw), (80, .int .i64 D.sure.length), (81, .int .i64 i), (8, .int .i64 i), (101, .int .i64 s.length), (102, .int .i64 x.1)])
        (fun x => [row (.slice pv s.length cv) 5 1 s.length (u8s x.2), star ((List.zipWith brow vs L).eraseIdx i), blk bw 32 fw (vs ++ tw), blk bs 9 fs (strs D.sure ++ ts), dk d D, rblk r [.slice (some ⟨bs, 0, none⟩) D.sure.length sc, .slice qp D.pend.length qc, .bool D.off, .bool D.armed, .int .i64 D.plan, .int .i64 D.opn], row (.slice qp D.pend.length qc) 76 2 D.pend.length (puts D.pend)])
        (fun x => x.1 ≤ s.length ∧ x.2.length = s.length) (fun x hi => ?_) (0, s) ⟨Nat.zero_le _, rfl⟩)
      · exact Sat.star_pull (i := i) (l := List.zipWith brow vs L) (A := brow (.slice pv s.length cv) s) (by simp [List.getElem?_zipWith, gw, hLi]) (q.sel [1, 0, 0, 0, 0, 0] rfl)
      obtain ⟨k, C⟩ := x
      obtain ⟨hk, hC⟩ := hi
      replace hk : k ≤ s.length := hk
      replace hC : C.length = s.length := hC
      (repeat (first | refine GK.run ?_ | (refine GK.box ?_; intro bl) | (refine GK.mkMap ?_; intro bm) | (refine GK.build0 tb ?_; intro bs)))
      refine G.cond rfl (fun h3 => ?_) (fun h3 => ?_)
      · have h3 : k < s.length := by simp at h3; omega
        obtain ⟨q, hq⟩ : ∃ q, C[k]? = some q := ⟨_, List.getElem?_eq_getElem (by omega)⟩
        refine GK.openRow 0 rfl (by omega) fun b tail fz hp' hc ht hxs hf => ?_
        subst hp'
        have a1 : (u8s C ++ tail)[0 + ((k : Nat) : Int).toNat * 1]? = some (.int .u8 q.toNat) := by
          rw [show 0 + ((k : Nat) : Int).toNat * 1 = k by show 0 + k * 1 = k; omega, List.getElem?_append_left (by simp; omega)]
          simp [u8s, hq]
        (repeat (first | refine GK.run ?_ | (refine GK.box ?_; intro bl) | (refine GK.mkMap ?_; intro bm) | (refine GK.build0 tb ?_; intro bs)))
        refine GL.cons ?_
        refine GO.yield (by first | exact Wt.none | exact Wt.some rfl rfl (by first | exact rfl | decide +kernel)) (Yl.xor8 (b := 85) rfl rfl) ?_
        (repeat (first | refine GK.run ?_ | (refine GK.box ?_; intro bl) | (refine GK.mkMap ?_; intro bm) | (refine GK.build0 tb ?_; intro bs)))
        refine GL.cons ?_
        refine Gt.storeAt tb 0 (by first | exact Wt.none | exact Wt.some rfl rfl (by first | exact rfl | decide +kernel)) rfl rfl rfl rfl rfl (by simp; omega) (free_row hf (by simp; omega)) ?_
        (repeat (first | refine GK.run ?_ | (refine GK.box ?_; intro bl) | (refine GK.mkMap ?_; intro bm) | (refine GK.build0 tb ?_; intro bs)))
        refine GQ.again (k + 1, C.set k (q ^^^ 85)) ⟨h3, by simp [hC]⟩ (by show s.length - (k + 1) < s.length - k; omega) (by repeat (first | exact trivial | refine ⟨rfl, ?_⟩)) (fun w t => ?_)
        have e : (u8s C ++ tail).set (0 + ((k : Nat) : Int).toNat * 1) (.int .u8 ((q ^^^ 85).toNat : Nat)) = u8s (C.set k (q ^^^ 85)) ++ tail := by
          rw [show 0 + ((k : Nat) : Int).toNat * 1 = k by show 0 + k * 1 = k; omega, List.set_append_left _ _ (by simp; omega)]
          simp [u8s, List.map_set]
        have t := t.sel [0, 0, 0, 0, 0, 0, 0] rfl
        rw [e] at t
        exact t.row_blk hc ht (by simp [hC]) (by have := hf; simp only [List.length_append, u8s_length, List.length_set] at this ⊢; exact this)
      · (repeat (first | refine GK.run ?_ | (refine GK.box ?_; intro bl) | (refine GK.mkMap ?_; intro bm) | (refine GK.build0 tb ?_; intro bs)))
        refine GQ.again (i + 1, L.set i C) ⟨h2, by simp [hL], fun j hj => ?_⟩ (by show D.sure.length - (i + 1) < D.sure.length - i; omega) (by repeat (first | exact trivial | refine ⟨rfl, ?_⟩)) (fun w t => ?_)
        · replace hj : i + 1 ≤ j := hj
          show (L.set i C)[j]? = _
          rw [List.getElem?_set, if_neg (by omega)]
          exact hLj j (by omega)
        · have e : row (.slice pv s.length cv) 5 1 s.length (u8s C) = brow (.slice pv s.length cv) C := by rw [brow, hC]
          rw [e] at t
          exact (brows_set gw (by omega) t).sel [1, 0, 0, 0, 0, 0] rfl
    · have h2 : i = D.sure.length := by simp at h2; omega
      subst h2
      (repeat (first | refine GK.run ?_ | (refine GK.box ?_; intro bl) | (refine GK.mkMap ?_; intro bm) | (refine GK.build0 tb ?_; intro bs)))
      refine GK.heap (fun w q => ?_) (GQ.end1 rfl rfl ⟨rfl, rfl⟩)
      have q := q.sel [2, 2, 2, 2] rfl
      have q := (q.row_blk (e := 9) (sz := 1) hcs hts hxs hfs).sel [2, 0, 1, 0] rfl
      exact (shut_rk (x := ⟨some ⟨bs, 0, none⟩, sc, qp, qc⟩) hx q).sel [1, 0] rfl
end Go.Dk
