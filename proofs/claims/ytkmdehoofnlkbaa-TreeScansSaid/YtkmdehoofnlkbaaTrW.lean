/- One act. -/
import Derived.Test.YtkmdehoofnlkbaaTrV
namespace Go.Tr
open Go Go.Sl
structure Ac where
  kind : Int
  key : Ky
  val : Ky
  n : Int
def acC (a : Ac) : List Value := [.int .i64 a.kind, str a.key, str a.val, .int .i64 a.n]
def bulk (f : Bool) (a : Ac) : Nat → M → M
  | 0, m => m
  | i + 1, m => if f then ((bulk f a i m).put (num a.key (i * 7 % 60), a.val)).1 else ((bulk f a i m).del (num a.key (i * 7 % 60))).1
def actM (m : M) (a : Ac) : M :=
  if a.kind = 0 then (m.put (a.key, a.val)).1 else if a.kind = 1 then (m.del a.key).1
  else if a.kind = 5 then bulk true a (min a.n.toNat 60) m else if a.kind = 6 then bulk false a (min a.n.toNat 60) m else m
theorem put_n (m : M) (e : En) : (m.put e).1.n ≤ m.n + 1 := by
  unfold M.put
  show (if _ then m.n else m.n + 1) ≤ _
  split
  · exact Nat.le_succ _
  · exact Nat.le_refl _
theorem del_n (m : M) (k : Ky) : (m.del k).1.n ≤ m.n := by
  unfold M.del
  split
  · exact Nat.le_refl _
  · split
    · exact Nat.sub_le _ _
    · exact Nat.le_refl _
theorem bulk_ok (f : Bool) (a : Ac) : ∀ (i : Nat) {m : M}, m.Ok → (bulk f a i m).Ok ∧ (bulk f a i m).n ≤ m.n + i
  | 0, m, h => ⟨h, Nat.le_refl _⟩
  | i + 1, m, h => by
    obtain ⟨h1, h2⟩ := bulk_ok f a i h
    unfold bulk
    split
    · exact ⟨(M.put_ok h1 _).1, Nat.le_trans (put_n _ _) (by omega)⟩
    · exact ⟨(M.del_ok h1 _).1, Nat.le_trans (del_n _ _) (by omega)⟩
theorem actM_ok {m : M} (h : m.Ok) (a : Ac) : (actM m a).Ok ∧ (actM m a).n ≤ m.n + 60 := by
  unfold actM
  split
  · exact ⟨(M.put_ok h _).1, Nat.le_trans (put_n _ _) (by omega)⟩
  split
  · exact ⟨(M.del_ok h _).1, Nat.le_trans (del_n _ _) (by omega)⟩
  split
  · have := bulk_ok true a (min a.n.toNat 60) h; exact ⟨this.1, by omega⟩
  split
  · have := bulk_ok false a (min a.n.toNat 60) h; exact ⟨this.1, by omega⟩
  · exact ⟨h, by omega⟩
theorem bulk_put {f : Bool} (h : f = true) (a : Ac) (i : Nat) (m : M) : bulk f a (i + 1) m = ((bulk f a i m).put (num a.key (i * 7 % 60), a.val)).1 := by subst h; rfl
theorem bulk_del {f : Bool} (h : f = false) (a : Ac) (i : Nat) (m : M) : bulk f a (i + 1) m = ((bulk f a i m).del (num a.key (i * 7 % 60))).1 := by subst h; rfl
theorem bulk_zero (f : Bool) (a : Ac) (m : M) : bulk f a 0 m = m := rfl
theorem lget_some {l : List En} {k : Ky} : (lget l k).isSome = hit l k := by
  unfold lget
  cases hh : hit l k with
  | true => have := hit_lt hh; rw [if_pos rfl, List.getElem?_eq_getElem this]; rfl
  | false => rfl
theorem answer_eq (o : Option Ky) : answer o = .tuple #[str (o.getD []), .bool o.isSome] := by cases o <;> rfl
theorem scan_same {l : List En} (h : Srt l) (k u : Ky) : (lscan l k u == l.filter (Tr.pick k u)) = true := by
  rw [lscan_filter h]; exact beq_self_eq_true _
attribute [local irreducible] GK GO Yl Wt Ef Hd GH KH wpListIn Code.wpIn toBody roundQ poolOf rs RS YieldOk IterOk VOk row star exs mp lp Sat pt FnOk Rd bodyPost bodyPostM Lv Ret Exit.then Exit.inBlock Exit.noGoto Int.decLt Int.decLe Int.instDecidableEq
attribute [local irreducible] ents ptrs hasH less dset num M.put M.del bulk
set_option pp.deepTerms true
set_option pp.maxSteps 1000000
variable {hF H : Hp}
theorem number_ok' (k : Ky) {x : Int} {i : Nat} (hx : x = i) (hi : i < 60) (hk : k.length < 1000000) : FnOk Go.Proofs.Try.prog 25 [str k, .int .i64 x] [] hF (fun v Γ => v = str (num k i) ∧ Γ = []) := by subst hx; exact number_ok k i hi hk
abbrev ablk (b : Nat) (a : Ac) : HProp := blk b 29 (0, 0) [.int .i64 a.kind, str a.key, str a.val, .int .i64 a.n]
def Played (H : Hp) (mb : Nat) (m' : M) (v : Value) (Γ : List HProp) : Prop := ∃ H' q' lv', le H H' ∧ v = .tuple #[lv', .bool true] ∧ Γ = [mblk mb (.pointer q') m'.n, poolOf H'] ∧ RootAt H' m'.root (.pointer q') ∧ Lst H' lv' m'.ents
set_option maxHeartbeats 1000000 in
theorem play_ok {m : M} (hm : m.Ok) {q : Option Addr} {lv : Value} (hr : RootAt H m.root (.pointer q)) (hl : Lst H lv m.ents) (hn : m.n < 100000000) (mb : Nat) (a : Ac) (ha : a.key.length < 1000000) :
    FnOk Go.Proofs.Try.prog 11 [nptr mb, lv, .agg ⟨acC a⟩] [mblk mb (.pointer q) m.n, poolOf H] hF (fun v Γ => Played H mb (actM m a) v Γ) := by
  have hlen : m.ents.length < 1000000000 := by have := hm.n; omega
  have hsrt := hm.srt
  obtain ⟨lp_, lc, rfl, hlc, hll, hlr⟩ := rs.out hl
  refine FnOk.intro 136 Go.Proofs.Try.func11 rfl rfl fun w0 => ?_
  (repeat (first | refine GK.run ?_ | (refine GK.box ?_; intro bl) | (refine GK.mkMap ?_; intro bm) | (refine GK.build0 tb ?_; intro bs)))
  refine GL.cons ?_; refine GO.call [2] (fun hF' hle hH => rget_ok hl hlen a.key) (by first | exact Wt.none | exact Wt.some rfl rfl (by first | exact rfl | decide +kernel)) (by kernel_rfl) rfl rfl rfl ?_
  rintro v Γ' ⟨rfl, rfl⟩
  rw [answer_eq]
  (repeat (first | refine GK.run ?_ | (refine GK.box ?_; intro bl) | (refine GK.mkMap ?_; intro bm) | (refine GK.build0 tb ?_; intro bs)))
  refine G.cond rfl (fun h0 => ?_) (fun h0 => ?_)
  · have h0 : a.kind = 0 := by simpa using h0
    have hact : actM m a = (m.put (a.key, a.val)).1 := by unfold actM; rw [if_pos h0]
    rw [hact]
    obtain ⟨p1, p2, p3⟩ := M.put_ok hm (a.key, a.val)
    (repeat (first | refine GK.run ?_ | (refine GK.box ?_; intro bl) | (refine GK.mkMap ?_; intro bm) | (refine GK.build0 tb ?_; intro bs)))
    refine G.draw [] [ablk bl a] (by kernel_rfl) ?_
    ((first | refine GH.tk 0 [1] ?_ | refine GH.tks 0 [1] ?_); (first | refine GH.tk 1 [1] ?_ | refine GH.tks 1 [1] ?_); (first | refine GH.tk 2 [1] ?_ | refine GH.tks 2 [1] ?_); (first | refine GH.tk 3 [1] ?_ | refine GH.tks 3 [1] ?_); (first | refine GH.tk 4 [1] ?_ | refine GH.tks 4 [1] ?_); (first | refine GH.tk 6 [1] ?_ | refine GH.tks 6 [1] ?_); (first | refine GH.tk 7 [1] ?_ | refine GH.tks 7 [1] ?_); (first | refine GH.tk 8 [1] ?_ | refine GH.tks 8 [1] ?_); (first | refine GH.tk 9 [1] ?_ | refine GH.tks 9 [1] ?_); (first | refine GH.tk 10 [1] ?_ | refine GH.tks 10 [1] ?_); (first | refine GH.tk 12 [1] ?_ | refine GH.tks 12 [1] ?_))
    refine GH.step 5 rfl (by kernel_rfl) ?_
    refine GO.call [0] (fun hF' _ _ => rput_ok hl hlen (a.key, a.val)) (by first | exact Wt.none | exact Wt.some rfl rfl (by first | exact rfl | decide +kernel)) (by kernel_rfl) rfl rfl rfl ?_
    rintro v Γ' ⟨H1, le1, rfl, hl1⟩
    refine GH.keep (fun _ s => s.sel [1] rfl) ?_
    refine GH.step 11 rfl (by kernel_rfl) ?_
    refine GO.call [2, 0] (fun hF' _ _ => mput_ok hm (hr.mono le1) (by omega) mb (a.key, a.val)) (by first | exact Wt.none | exact Wt.some rfl rfl (by first | exact rfl | decide +kernel)) (by kernel_rfl) rfl rfl rfl ?_
    rintro v2 Γ' ⟨H2, rv2, le2, rfl, rfl, hr2⟩
    obtain ⟨q2, rfl⟩ := hr2.ptr
    refine GH.keep (fun _ s => s.sel [2] rfl) ?_
    ((first | refine GH.tk 13 [2] ?_ | refine GH.tks 13 [2] ?_); (first | refine GH.tk 14 [2] ?_ | refine GH.tks 14 [2] ?_); (first | refine GH.tk 15 [2] ?_ | refine GH.tks 15 [2] ?_))
    refine GH.fin (by kernel_rfl) ?_
    (repeat (first | refine GK.run ?_ | (refine GK.box ?_; intro bl) | (refine GK.mkMap ?_; intro bm) | (refine GK.build0 tb ?_; intro bs)))
    refine GQ.fin2 rfl (Rv.tmp rfl) (Rv.tmp rfl) (fun w s => s.sel [0, 0] rfl) ⟨H2, q2, v, le1.trans le2, ?_, rfl, hr2, by rw [p2]; exact hl1.mono le2⟩
    show Value.tuple #[v, .bool ((m.put (a.key, a.val)).2 == (lget m.ents a.key).isSome)] = _
    rw [p3, lget_some, beq_self_eq_true]
  have h0 : ¬ a.kind = 0 := by simpa using h0
  (repeat (first | refine GK.run ?_ | (refine GK.box ?_; intro bl) | (refine GK.mkMap ?_; intro bm) | (refine GK.build0 tb ?_; intro bs)))
  refine G.cond rfl (fun h1 => ?_) (fun h1 => ?_)
  · have h1 : a.kind = 1 := by simpa using h1
    have hact : actM m a = (m.del a.key).1 := by unfold actM; rw [if_neg h0, if_pos h1]
    rw [hact]
    obtain ⟨p1, p2, p3⟩ := M.del_ok hm a.key
    (repeat (first | refine GK.run ?_ | (refine GK.box ?_; intro bl) | (refine GK.mkMap ?_; intro bm) | (refine GK.build0 tb ?_; intro bs)))
    refine G.draw [] [ablk bl a] (by kernel_rfl) ?_
    ((first | refine GH.tk 0 [1] ?_ | refine GH.tks 0 [1] ?_); (first | refine GH.tk 1 [1] ?_ | refine GH.tks 1 [1] ?_); (first | refine GH.tk 2 [1] ?_ | refine GH.tks 2 [1] ?_); (first | refine GH.tk 4 [1] ?_ | refine GH.tks 4 [1] ?_); (first | refine GH.tk 5 [1] ?_ | refine GH.tks 5 [1] ?_); (first | refine GH.tk 6 [1] ?_ | refine GH.tks 6 [1] ?_); (first | refine GH.tk 8 [1] ?_ | refine GH.tks 8 [1] ?_))
    refine GH.step 3 rfl (by kernel_rfl) ?_
    refine GO.call [0] (fun hF' _ _ => rdel_ok hl hlen a.key) (by first | exact Wt.none | exact Wt.some rfl rfl (by first | exact rfl | decide +kernel)) (by kernel_rfl) rfl rfl rfl ?_
    rintro v Γ' ⟨H1, le1, rfl, hl1⟩
    refine GH.keep (fun _ s => s.sel [1] rfl) ?_
    refine GH.step 7 rfl (by kernel_rfl) ?_
    refine GO.call [2, 0] (fun hF' _ _ => mdel_ok hm (hr.mono le1) (by omega) mb a.key) (by first | exact Wt.none | exact Wt.some rfl rfl (by first | exact rfl | decide +kernel)) (by kernel_rfl) rfl rfl rfl ?_
    rintro v2 Γ' ⟨H2, rv2, le2, rfl, rfl, hr2⟩
    obtain ⟨q2, rfl⟩ := hr2.ptr
    refine GH.keep (fun _ s => s.sel [2] rfl) ?_
    ((first | refine GH.tk 9 [2] ?_ | refine GH.tks 9 [2] ?_); (first | refine GH.tk 10 [2] ?_ | refine GH.tks 10 [2] ?_); (first | refine GH.tk 11 [2] ?_ | refine GH.tks 11 [2] ?_))
    refine GH.fin (by kernel_rfl) ?_
    (repeat (first | refine GK.run ?_ | (refine GK.box ?_; intro bl) | (refine GK.mkMap ?_; intro bm) | (refine GK.build0 tb ?_; intro bs)))
    refine GQ.fin2 rfl (Rv.tmp rfl) (Rv.tmp rfl) (fun w s => s.sel [0, 0] rfl) ⟨H2, q2, v, le1.trans le2, ?_, rfl, hr2, by rw [p2]; exact hl1.mono le2⟩
    show Value.tuple #[v, .bool ((m.del a.key).2 == (lget m.ents a.key).isSome)] = _
    rw [p3, lget_some, beq_self_eq_true]
  have h1 : ¬ a.kind = 1 := by simpa using h1
  (repeat (first | refine GK.run ?_ | (refine GK.box ?_; intro bl) | (refine GK.mkMap ?_; intro bm) | (refine GK.build0 tb ?_; intro bs)))
  refine G.cond rfl (fun h3 => ?_) (fun h3 => ?_)
  · have h3 : a.kind = 3 := by simpa using h3
    have hact : actM m a = m := by unfold actM; rw [if_neg h0, if_neg h1, if_neg (by omega), if_neg (by omega)]
    rw [hact]
    have hmn := hm.n
    have hent : rflat m.root = m.ents := rfl
    (repeat (first | refine GK.run ?_ | (refine GK.box ?_; intro bl) | (refine GK.mkMap ?_; intro bm) | (refine GK.build0 tb ?_; intro bs)))
    refine G.draw [] [ablk bl a] (by kernel_rfl) ?_
    ((first | refine GH.tk 0 [1] ?_ | refine GH.tks 0 [1] ?_); (first | refine GH.tk 1 [1] ?_ | refine GH.tks 1 [1] ?_); (first | refine GH.tk 2 [1] ?_ | refine GH.tks 2 [1] ?_); (first | refine GH.tk 3 [1] ?_ | refine GH.tks 3 [1] ?_); (first | refine GH.tk 4 [1] ?_ | refine GH.tks 4 [1] ?_); (first | refine GH.tk 5 [1] ?_ | refine GH.tks 5 [1] ?_); (first | refine GH.tk 7 [1] ?_ | refine GH.tks 7 [1] ?_); (first | refine GH.tk 8 [1] ?_ | refine GH.tks 8 [1] ?_); (first | refine GH.tk 9 [1] ?_ | refine GH.tks 9 [1] ?_); (first | refine GH.tk 10 [1] ?_ | refine GH.tks 10 [1] ?_); (first | refine GH.tk 11 [1] ?_ | refine GH.tks 11 [1] ?_))
    refine GH.step 6 rfl (by kernel_rfl) ?_
    refine GO.call [2, 0] (fun hF' _ _ => told_ok (A := mblk mb (.pointer q) m.n) (k := a.key) (u := a.val) (fun hF' => scan_ok mb a.key a.val) hr hm.root (by rw [hent]; omega)) (by first | exact Wt.none | exact Wt.some rfl rfl (by first | exact rfl | decide +kernel)) (by kernel_rfl) rfl rfl rfl ?_
    rintro v Γ' ⟨H1, le1, rfl, hl1⟩
    refine GH.keep (fun _ s => s.sel [2] rfl) ?_
    refine GH.step 12 rfl (by kernel_rfl) ?_
    refine GO.call [1] (fun hF' _ _ => rscan_ok (hl.mono le1) hlen a.key a.val) (by first | exact Wt.none | exact Wt.some rfl rfl (by first | exact rfl | decide +kernel)) (by kernel_rfl) rfl rfl rfl ?_
    rintro v2 Γ' ⟨H2, le2, rfl, hl2⟩
    refine GH.keep (fun _ s => s.sel [2] rfl) ?_
    refine GH.step 13 rfl (by kernel_rfl) ?_
    refine GO.call [0] (fun hF' _ _ => rsame_ok (hl1.mono le2) hl2 (Nat.lt_of_le_of_lt (Nat.le_trans (List.takeWhile_prefix _).length_le (by rw [hent]; unfold lfrom; simp)) hlen) (Nat.lt_of_le_of_lt (List.length_filter_le _ _) hlen)) (by first | exact Wt.none | exact Wt.some rfl rfl (by first | exact rfl | decide +kernel)) (by kernel_rfl) rfl rfl rfl ?_
    rintro v3 Γ' ⟨rfl, rfl⟩
    rw [hent, scan_same hsrt]
    refine GH.keep (fun _ s => s.sel [2] rfl) ?_
    ((first | refine GH.tk 14 [2] ?_ | refine GH.tks 14 [2] ?_); (first | refine GH.tk 15 [2] ?_ | refine GH.tks 15 [2] ?_))
    refine GH.fin (by kernel_rfl) ?_
    (repeat (first | refine GK.run ?_ | (refine GK.box ?_; intro bl) | (refine GK.mkMap ?_; intro bm) | (refine GK.build0 tb ?_; intro bs)))
    exact GQ.fin2 rfl (Rv.tmp rfl) (Rv.tmp rfl) (fun w s => s.sel [1, 0] rfl) ⟨H2, q, _, le1.trans le2, rfl, rfl, hr.mono (le1.trans le2), hl.mono (le1.trans le2)⟩
  have h3 : ¬ a.kind = 3 := by simpa using h3
  (repeat (first | refine GK.run ?_ | (refine GK.box ?_; intro bl) | (refine GK.mkMap ?_; intro bm) | (refine GK.build0 tb ?_; intro bs)))
  refine G.cut (fun _ : Unit => [(69, .bool (decide (a.kind = 5 ∨ a.kind = 6))), (0, nptr mb), (1, .slice lp_ m.ents.length lc), (5, nptr bl), (8, str ((lget m.ents a.key).getD [])), (9, .bool (lget m.ents a.key).isSome)]) (fun _ => [poolOf H, ablk bl a, mblk mb (.pointer q) m.n]) (fun _ => True) (fun _ _ => ?_) ?_
  rotate_left
  · refine G.cond rfl (fun h5 => ?_) (fun h5 => ?_)
    · have h5 : a.kind = 5 := by simpa using h5
      have e : decide (a.kind = 5 ∨ a.kind = 6) = decide (a.kind = 5) := by rw [decide_eq_decide]; omega
      (repeat (first | refine GK.run ?_ | (refine GK.box ?_; intro bl) | (refine GK.mkMap ?_; intro bm) | (refine GK.build0 tb ?_; intro bs)))
      exact GQ.reach () trivial (by rw [e]; exact (by repeat (first | exact trivial | refine ⟨rfl, ?_⟩))) (fun w s => s.sel [0, 0, 0] rfl)
    · have h5 : ¬ a.kind = 5 := by simpa using h5
      have e : decide (a.kind = 5 ∨ a.kind = 6) = decide (a.kind = 6) := by rw [decide_eq_decide]; omega
      (repeat (first | refine GK.run ?_ | (refine GK.box ?_; intro bl) | (refine GK.mkMap ?_; intro bm) | (refine GK.build0 tb ?_; intro bs)))
      exact GQ.reach () trivial (by rw [e]; exact (by repeat (first | exact trivial | refine ⟨rfl, ?_⟩))) (fun w s => s.sel [0, 0, 0] rfl)
  (repeat (first | refine GK.run ?_ | (refine GK.box ?_; intro bl) | (refine GK.mkMap ?_; intro bm) | (refine GK.build0 tb ?_; intro bs)))
  refine G.cond rfl (fun h56 => ?_) (fun h56 => ?_)
  · have h56 : a.kind = 5 ∨ a.kind = 6 := of_decide_eq_true h56
    obtain ⟨f, hf⟩ : ∃ f, decide (a.kind = 5) = f := ⟨_, rfl⟩
    obtain ⟨cnt, hcnt⟩ : ∃ cnt, min a.n.toNat 60 = cnt := ⟨_, rfl⟩
    have hact : actM m a = bulk f a cnt m := by
      unfold actM
      rw [if_neg h0, if_neg h1]
      by_cases h5 : a.kind = 5
      · rw [if_pos h5, ← hf, hcnt]; simp [h5]
      · rw [if_neg h5, if_pos (by omega), ← hf, hcnt]; simp [h5]
    rw [hact]
    (repeat (first | refine GK.run ?_ | (refine GK.box ?_; intro bl) | (refine GK.mkMap ?_; intro bm) | (refine GK.build0 tb ?_; intro bs)))
    refine GK.weak (by repeat (first | exact trivial | refine ⟨rfl, ?_⟩)) (fun w s => by rw [bulk_zero]; exact s) (G.loop (fun x : Nat × Hp × Option Addr × Value => cnt - x.1) (fun x => [(0, nptr mb), (5, nptr bl), (1, x.2.2.2), (10, .int .i64 (x.1 : Int))]) (fun x => [poolOf x.2.1, ablk bl a, mblk mb (.pointer x.2.2.1) (bulk f a x.1 m).n])
      (fun x => x.1 ≤ cnt ∧ le H x.2.1 ∧ RootAt x.2.1 (bulk f a x.1 m).root (.pointer x.2.2.1) ∧ Lst x.2.1 x.2.2.2 (bulk f a x.1 m).ents) (fun x hx => ?_) (0, H, q, .slice lp_ m.ents.length lc) ⟨Nat.zero_le _, le.refl _, by rw [bulk_zero]; exact hr, by rw [bulk_zero]; exact hl⟩)
    obtain ⟨i, H1, q1, lv1⟩ := x
    obtain ⟨hi, le1, hr1, hl1⟩ := hx
    replace hi : i ≤ cnt := hi
    replace le1 : le H H1 := le1
    replace hr1 : RootAt H1 (bulk f a i m).root (.pointer q1) := hr1
    replace hl1 : Lst H1 lv1 (bulk f a i m).ents := hl1
    obtain ⟨hbok, hbn⟩ := bulk_ok f a i hm
    have hbe := hbok.n
    have hc60 : cnt ≤ 60 := by omega
    have hput := @bulk_put f
    have hdel := @bulk_del f
    obtain ⟨m1, hm1⟩ : ∃ m1, bulk f a i m = m1 := ⟨_, rfl⟩
    refine GK.weak (fr' := [(0, nptr mb), (5, nptr bl), (1, lv1), (10, .int .i64 (i : Int))]) (Γ' := [poolOf H1, ablk bl a, mblk mb (.pointer q1) m1.n]) (by repeat (first | exact trivial | refine ⟨rfl, ?_⟩)) (fun w s => by rw [← hm1]; exact s) ?_
    rw [hm1] at hr1 hl1 hbok hbn hbe
    (repeat (first | refine GK.run ?_ | (refine GK.box ?_; intro bl) | (refine GK.mkMap ?_; intro bm) | (refine GK.build0 tb ?_; intro bs)))
    refine GL.cut (fun _ : Unit => [(79, .bool (decide (i < cnt))), (0, nptr mb), (5, nptr bl), (1, lv1), (10, .int .i64 (i : Int))]) (fun _ => [poolOf H1, ablk bl a, mblk mb (.pointer q1) m1.n]) (fun _ => True) (fun _ _ => ?_) ?_
    rotate_left
    · refine GK.split 76 _ rfl (fun hs => ?_) (fun hs => ?_)
      · have hs : (i : Int) < a.n := by simpa using hs
        (repeat (first | refine GK.run ?_ | (refine GK.box ?_; intro bl) | (refine GK.mkMap ?_; intro bm) | (refine GK.build0 tb ?_; intro bs)))
        refine GQ.reach () trivial ?_ (fun w s => s)
        have e1 : decide (i < cnt) = decide ((i : Int) < 60) := by rw [decide_eq_decide]; omega
        rw [e1]; exact (by repeat (first | exact trivial | refine ⟨rfl, ?_⟩))
      · have hs : ¬ (i : Int) < a.n := by simp at hs; omega
        (repeat (first | refine GK.run ?_ | (refine GK.box ?_; intro bl) | (refine GK.mkMap ?_; intro bm) | (refine GK.build0 tb ?_; intro bs)))
        refine GQ.reach () trivial ?_ (fun w s => s)
        have e1 : decide (i < cnt) = false := decide_eq_false (by omega)
        rw [e1]; exact (by repeat (first | exact trivial | refine ⟨rfl, ?_⟩))
    (repeat (first | refine GK.run ?_ | (refine GK.box ?_; intro bl) | (refine GK.mkMap ?_; intro bm) | (refine GK.build0 tb ?_; intro bs)))
    refine G.cond rfl (fun hc => ?_) (fun hc => ?_)
    rotate_left
    · have hc : ¬ i < cnt := of_decide_eq_false hc
      obtain rfl : i = cnt := by omega
      (repeat (first | refine GK.run ?_ | (refine GK.box ?_; intro bl) | (refine GK.mkMap ?_; intro bm) | (refine GK.build0 tb ?_; intro bs)))
      exact GQ.fin2 rfl (Rv.tmp rfl) (Rv.tmp rfl) (fun w s => s.sel [2, 0] rfl) ⟨H1, q1, lv1, le1, rfl, by rw [hm1], by rw [hm1]; exact hr1, by rw [hm1]; exact hl1⟩
    have hc : i < cnt := of_decide_eq_true hc
    have hx60 : ((i : Int) * 7).tmod 60 = ((i * 7 % 60 : Nat) : Int) := by rw [Int.tmod_eq_emod_of_nonneg (by omega)]; omega
    (repeat (first | refine GK.run ?_ | (refine GK.box ?_; intro bl) | (refine GK.mkMap ?_; intro bm) | (refine GK.build0 tb ?_; intro bs)))
    refine GL.cons ?_; refine GO.call [] (fun hF' hle hH => number_ok' a.key hx60 (by omega) ha) (by first | exact Wt.none | exact Wt.some rfl rfl (by first | exact rfl | decide +kernel)) (by kernel_rfl) rfl rfl rfl ?_
    rintro v Γ' ⟨rfl, rfl⟩
    obtain ⟨key, hkey⟩ : ∃ key, num a.key (i * 7 % 60) = key := ⟨_, rfl⟩
    rw [hkey]
    (repeat (first | refine GK.run ?_ | (refine GK.box ?_; intro bl) | (refine GK.mkMap ?_; intro bm) | (refine GK.build0 tb ?_; intro bs)))
    refine GL.cons ?_; refine GO.call [0] (fun hF' hle hH => rget_ok hl1 (by omega) key) (by first | exact Wt.none | exact Wt.some rfl rfl (by first | exact rfl | decide +kernel)) (by kernel_rfl) rfl rfl rfl ?_
    rintro v Γ' ⟨rfl, rfl⟩
    rw [answer_eq]
    (repeat (first | refine GK.run ?_ | (refine GK.box ?_; intro bl) | (refine GK.mkMap ?_; intro bm) | (refine GK.build0 tb ?_; intro bs)))
    refine G.cond rfl (fun hk => ?_) (fun hk => ?_)
    · have hk : a.kind = 5 := by simpa using hk
      have hnext : bulk f a (i + 1) m = (m1.put (key, a.val)).1 := by rw [hput (by rw [← hf]; simp [hk]) a i m, hm1, hkey]
      obtain ⟨p1, p2, p3⟩ := M.put_ok hbok (key, a.val)
      (repeat (first | refine GK.run ?_ | (refine GK.box ?_; intro bl) | (refine GK.mkMap ?_; intro bm) | (refine GK.build0 tb ?_; intro bs)))
      refine GL.cons ?_; refine GO.call [2,0] (fun hF' hle hH => mput_ok hbok hr1 (by omega) mb (key, a.val)) (by first | exact Wt.none | exact Wt.some rfl rfl (by first | exact rfl | decide +kernel)) (by kernel_rfl) rfl rfl rfl ?_
      rintro v2 Γ' ⟨H2, rv2, le2, rfl, rfl, hr2⟩
      obtain ⟨q2, rfl⟩ := hr2.ptr
      (repeat (first | refine GK.run ?_ | (refine GK.box ?_; intro bl) | (refine GK.mkMap ?_; intro bm) | (refine GK.build0 tb ?_; intro bs)))
      refine G.cond rfl (fun hb => ?_) (fun hb => ?_)
      · exfalso
        have hb : (!((m1.put (key, a.val)).2 == (lget m1.ents key).isSome)) = true := hb
        rw [p3, lget_some, beq_self_eq_true] at hb
        cases hb
      (repeat (first | refine GK.run ?_ | (refine GK.box ?_; intro bl) | (refine GK.mkMap ?_; intro bm) | (refine GK.build0 tb ?_; intro bs)))
      refine GL.cons ?_; refine GO.call [1] (fun hF' hle hH => rput_ok (hl1.mono le2) (by omega) (key, a.val)) (by first | exact Wt.none | exact Wt.some rfl rfl (by first | exact rfl | decide +kernel)) (by kernel_rfl) rfl rfl rfl ?_
      rintro v2 Γ' ⟨H3, le3, rfl, hl3⟩
      (repeat (first | refine GK.run ?_ | (refine GK.box ?_; intro bl) | (refine GK.mkMap ?_; intro bm) | (refine GK.build0 tb ?_; intro bs)))
      refine GQ.again (i + 1, H3, q2, v2) ⟨by show i + 1 ≤ _; omega, le1.trans (le2.trans le3), ?_, ?_⟩ (by show cnt - (i + 1) < cnt - i; omega) (by repeat (first | exact trivial | refine ⟨rfl, ?_⟩)) (fun w s => ?_)
      · show RootAt H3 (bulk f a (i + 1) m).root _
        rw [hnext]; exact hr2.mono le3
      · show Lst H3 v2 (bulk f a (i + 1) m).ents
        rw [hnext, p2]; exact hl3
      · show Sat [poolOf H3, ablk bl a, mblk mb (.pointer q2) (bulk f a (i + 1) m).n] _ _
        rw [hnext]
        exact s.sel [0, 1, 0] rfl
    · have hk : ¬ a.kind = 5 := by simpa using hk
      have hnext : bulk f a (i + 1) m = (m1.del key).1 := by rw [hdel (by rw [← hf]; simp [hk]) a i m, hm1, hkey]
      obtain ⟨p1, p2, p3⟩ := M.del_ok hbok key
      (repeat (first | refine GK.run ?_ | (refine GK.box ?_; intro bl) | (refine GK.mkMap ?_; intro bm) | (refine GK.build0 tb ?_; intro bs)))
      refine GL.cons ?_; refine GO.call [2,0] (fun hF' hle hH => mdel_ok hbok hr1 (by omega) mb key) (by first | exact Wt.none | exact Wt.some rfl rfl (by first | exact rfl | decide +kernel)) (by kernel_rfl) rfl rfl rfl ?_
      rintro v2 Γ' ⟨H2, rv2, le2, rfl, rfl, hr2⟩
      obtain ⟨q2, rfl⟩ := hr2.ptr
      (repeat (first | refine GK.run ?_ | (refine GK.box ?_; intro bl) | (refine GK.mkMap ?_; intro bm) | (refine GK.build0 tb ?_; intro bs)))
      refine G.cond rfl (fun hb => ?_) (fun hb => ?_)
      · exfalso
        have hb : (!((m1.del key).2 == (lget m1.ents key).isSome)) = true := hb
        rw [p3, lget_some, beq_self_eq_true] at hb
        cases hb
      (repeat (first | refine GK.run ?_ | (refine GK.box ?_; intro bl) | (refine GK.mkMap ?_; intro bm) | (refine GK.build0 tb ?_; intro bs)))
      refine GL.cons ?_; refine GO.call [1] (fun hF' hle hH => rdel_ok (hl1.mono le2) (by omega) key) (by first | exact Wt.none | exact Wt.some rfl rfl (by first | exact rfl | decide +kernel)) (by kernel_rfl) rfl rfl rfl ?_
      rintro v2 Γ' ⟨H3, le3, rfl, hl3⟩
      (repeat (first | refine GK.run ?_ | (refine GK.box ?_; intro bl) | (refine GK.mkMap ?_; intro bm) | (refine GK.build0 tb ?_; intro bs)))
      refine GQ.again (i + 1, H3, q2, v2) ⟨by show i + 1 ≤ _; omega, le1.trans (le2.trans le3), ?_, ?_⟩ (by show cnt - (i + 1) < cnt - i; omega) (by repeat (first | exact trivial | refine ⟨rfl, ?_⟩)) (fun w s => ?_)
      · show RootAt H3 (bulk f a (i + 1) m).root _
        rw [hnext]; exact hr2.mono le3
      · show Lst H3 v2 (bulk f a (i + 1) m).ents
        rw [hnext, p2]; exact hl3
      · show Sat [poolOf H3, ablk bl a, mblk mb (.pointer q2) (bulk f a (i + 1) m).n] _ _
        rw [hnext]
        exact s.sel [0, 1, 0] rfl
  · have h56 : ¬ (a.kind = 5 ∨ a.kind = 6) := of_decide_eq_false h56
    have hact : actM m a = m := by unfold actM; rw [if_neg h0, if_neg h1, if_neg (by omega), if_neg (by omega)]
    rw [hact]
    (repeat (first | refine GK.run ?_ | (refine GK.box ?_; intro bl) | (refine GK.mkMap ?_; intro bm) | (refine GK.build0 tb ?_; intro bs)))
    refine GL.cons ?_; refine GO.call [2,0] (fun hF' hle hH => mget_ok hm hr mb a.key) (by first | exact Wt.none | exact Wt.some rfl rfl (by first | exact rfl | decide +kernel)) (by kernel_rfl) rfl rfl rfl ?_
    rintro v Γ' ⟨rfl, rfl⟩
    rw [answer_eq]
    (repeat (first | refine GK.run ?_ | (refine GK.box ?_; intro bl) | (refine GK.mkMap ?_; intro bm) | (refine GK.build0 tb ?_; intro bs)))
    rw [beq_self_eq_true]
    (repeat (first | refine GK.run ?_ | (refine GK.box ?_; intro bl) | (refine GK.mkMap ?_; intro bm) | (refine GK.build0 tb ?_; intro bs)))
    refine GQ.fin2 rfl (Rv.tmp rfl) (Rv.tmp rfl) (fun w s => s.sel [0, 0] rfl) ⟨H, q, _, le.refl _, ?_, rfl, hr, hl⟩
    show Value.tuple #[_, .bool ((lget m.ents a.key).isSome == (lget m.ents a.key).isSome)] = _
    rw [beq_self_eq_true]
end Go.Tr
