/- TreeScans, walked. -/
import Derived.Test.YtkmdehoofnlkbaaTzM
namespace Go.Tr
open Go Go.Sl
theorem lput_mem {l : List En} {e x : En} (h : x ∈ lput l e) : x = e ∨ x ∈ l := by
  unfold lput at h
  rcases List.mem_append.1 h with h | h
  · exact .inr (List.mem_of_mem_take h)
  · rcases List.mem_cons.1 h with h | h
    · exact .inl h
    · exact .inr (List.mem_of_mem_drop h)
theorem ldel_sub {l : List En} {k : Ky} {x : En} (h : x ∈ ldel l k) : x ∈ l := by
  unfold ldel at h
  split at h
  · unfold rm at h
    rcases List.mem_append.1 h with h | h
    · exact List.mem_of_mem_take h
    · exact List.mem_of_mem_drop h
  · exact h
/-- All keys are short. -/
def Short (m : M) : Prop := ∀ e ∈ m.ents, e.1.length < 30000
theorem Short.put {m : M} (hm : m.Ok) (h : Short m) {e : En} (he : e.1.length < 30000) : Short (m.put e).1 := fun x hx => by
  rw [(M.put_ok hm e).2.1] at hx
  rcases lput_mem hx with rfl | hx
  · exact he
  · exact h x hx
theorem Short.del {m : M} (hm : m.Ok) (h : Short m) (k : Ky) : Short (m.del k).1 := fun x hx => by
  rw [(M.del_ok hm k).2.1] at hx
  exact h x (ldel_sub hx)
theorem Short.bulk {f : Bool} {a : Ac} (ha : a.key.length < 20050) : ∀ (i : Nat) {m : M}, m.Ok → Short m → Short (Tr.bulk f a i m)
  | 0, _, _, h => h
  | i + 1, m, hm, h => by
    have h1 := (bulk_ok f a i hm).1
    have h2 := Short.bulk (f := f) ha i hm h
    unfold Tr.bulk
    split
    · exact h2.put h1 (by show (num a.key _).length < _; unfold num; simp; omega)
    · exact h2.del h1 _
theorem Short.act {m : M} (hm : m.Ok) (h : Short m) {a : Ac} (ha : a.key.length < 20050) : Short (actM m a) := by
  unfold actM
  split
  · exact h.put hm (by show a.key.length < _; omega)
  split
  · exact h.del hm _
  split
  · exact Short.bulk ha _ hm h
  split
  · exact Short.bulk ha _ hm h
  · exact h
theorem Short.ran {l : List Ac} (h : ∀ a ∈ l, a.key.length < 20050) : Short (ran l) := by
  have key : ∀ (l : List Ac) (m : M), (∀ a ∈ l, a.key.length < 20050) → m.Ok → Short m → Short (l.foldl actM m) := by
    intro l
    induction l with
    | nil => intro m _ _ h; exact h
    | cons a l ih =>
      intro m ha hm h
      exact ih _ (fun x hx => ha x (List.mem_cons_of_mem _ hx)) (actM_ok hm a).1 (h.act hm (ha a (by simp)))
  exact key l M.empty h M.Ok.empty (fun e he => by cases he)
theorem get_of_pre {α : Type} {p all : List α} {x : α} (h : p ++ [x] <+: all) : all[p.length]? = some x := by
  obtain ⟨q, rfl⟩ := h
  simp
end Go.Tr
namespace Go.Sl
/-- As G.cutD, from within a block. -/
theorem G.cutDB {P : Program} {cx : Cx} {fr : Fr} {Γ : List HProp} {Q : Exit → Act → World → Prop} {X : Type} {id : Nat} (C : X → List Deferred) (F : X → Fr) (M : X → List HProp) (I : X → Prop) {c : Code} {K : Act → World → Prop} (h2 : ∀ y, I y → GK { cx with ds := C y } K (F y) (M y))
    (h1 : G P cx c (Exit.inBlock id (Exit.then (fun a w => ∃ y, I y ∧ St { cx with ds := C y } (F y) (M y) a w) Q)) fr Γ) : G P cx c (Exit.inBlock id (Exit.then K Q)) fr Γ := fun a w s => by
  refine wpIn_mono (h1 a w s) fun e a w h => ?_
  have key : ∀ e, Exit.then (fun a w => ∃ y, I y ∧ St { cx with ds := C y } (F y) (M y) a w) Q e a w → Exit.then K Q e a w := fun e h => by
    cases e with
    | normal => obtain ⟨y, hy, st⟩ := h; exact h2 y hy a w st
    | _ => exact h
  cases e with
  | normal => exact key .normal h
  | exit id' =>
    by_cases q : id' = id
    · subst q
      simp only [Exit.inBlock, if_true] at h ⊢
      exact key .normal h
    · simp only [Exit.inBlock, if_neg q] at h ⊢
      exact key (.exit id') h
  | _ => exact h
end Go.Sl
namespace Go.Tr
open Go Go.Sl
set_option maxRecDepth 100000
attribute [local irreducible] GK GO Yl Wt Ef Hd GH KH wpListIn Code.wpIn toBody roundQ poolOf rs RS YieldOk IterOk VOk row star exs mp lp Sat pt FnOk Rd bodyPost bodyPostM Lv Ret Exit.then Exit.inBlock Exit.noGoto Int.decLt Int.decLe Int.instDecidableEq
attribute [local irreducible] ents ptrs hasH less dset num M.put M.del bulk acts actM ran M.depth Short
set_option pp.deepTerms true
set_option pp.maxSteps 1000000
variable {hF H : Hp}
/-- The map while a scan goes on: the old nodes are still there. -/
def midway (H : Hp) (mb : Nat) (n : Nat) : HProp := exs (fun y : Hp × Option Addr × M => le H y.1 ∧ y.2.2.Ok ∧ RootAt y.1 y.2.2.root (.pointer y.2.1) ∧ y.2.2.n ≤ n) (fun y => [poolOf y.1, mblk mb (.pointer y.2.1) y.2.2.n])
set_option maxHeartbeats 2000000 in
theorem scans_ok {v : Value} {l : List Ac} (hv : roActs hF v l) (k : Ky) (x : Int) : FnOk Go.Proofs.Try.prog 3 [v, str k, .int .i64 x] [] hF (fun r _ => r = .bool true) := by
  have hv0 := hv
  obtain ⟨⟨p, c, rfl, hr⟩, hl, hok⟩ := hv
  refine FnOk.introM 116 Go.Proofs.Try.func3 rfl rfl fun w0 => ?_
  (repeat (first | refine GK.run ?_ | (refine GK.box ?_; intro bl) | (refine GK.mkMap ?_; intro bm) | (refine GK.build0 tb ?_; intro bs)))
  refine GL.cons ?_; refine GO.alloc (by first | exact Wt.none | exact Wt.some rfl rfl (by first | exact rfl | decide +kernel)) (by exact rfl) ?_
  intro br
  (repeat (first | refine GK.run ?_ | (refine GK.box ?_; intro bl) | (refine GK.mkMap ?_; intro bm) | (refine GK.build0 tb ?_; intro bs)))
  refine GL.cons ?_; refine GO.call [] (fun hF' hle hH => few_ok (hv0.mono hle)) (by first | exact Wt.none | exact Wt.some rfl rfl (by first | exact rfl | decide +kernel)) (by kernel_rfl) rfl rfl rfl ?_
  rintro v Γ' ⟨rfl, rfl⟩
  (repeat (first | refine GK.run ?_ | (refine GK.box ?_; intro bl) | (refine GK.mkMap ?_; intro bm) | (refine GK.build0 tb ?_; intro bs)))
  refine G.cond rfl (fun hf => ?_) (fun hf => ?_)
  · (repeat (first | refine GK.run ?_ | (refine GK.box ?_; intro bl) | (refine GK.mkMap ?_; intro bm) | (refine GK.build0 tb ?_; intro bs)))
    refine GL.cons ?_; refine GO.call [] (fun hF' hle hH => lives_ok) (by first | exact Wt.none | exact Wt.some rfl rfl (by first | exact rfl | decide +kernel)) (by kernel_rfl) rfl rfl rfl ?_
    rintro v Γ' ⟨rfl, rfl⟩
    (repeat (first | refine GK.run ?_ | (refine GK.box ?_; intro bl) | (refine GK.mkMap ?_; intro bm) | (refine GK.build0 tb ?_; intro bs)))
    refine GQ.leave ?_
    exact GK.fin1 rfl (Rv.cell rfl rfl (Rd.blk 0 rfl) rfl) (fun w s => s) rfl
  have hf : fewM l = true := by simpa using hf
  obtain ⟨hlen, hkeys⟩ := fewM_len hf
  (repeat (first | refine GK.run ?_ | (refine GK.box ?_; intro bl) | (refine GK.mkMap ?_; intro bm) | (refine GK.build0 tb ?_; intro bs)))
  refine GL.cons ?_; refine GO.call [] (fun hF' hle hH => new_ok) (by first | exact Wt.none | exact Wt.some rfl rfl (by first | exact rfl | decide +kernel)) (by kernel_rfl) rfl rfl rfl ?_
  rintro v Γ' ⟨mb, rfl, rfl⟩
  (repeat (first | refine GK.run ?_ | (refine GK.box ?_; intro bl) | (refine GK.mkMap ?_; intro bm) | (refine GK.build0 tb ?_; intro bs)))
  refine GL.cons ?_; refine GO.alloc (by first | exact Wt.none | exact Wt.some rfl rfl (by first | exact rfl | decide +kernel)) (by exact rfl) ?_
  intro b7
  (repeat (first | refine GK.run ?_ | (refine GK.box ?_; intro bl) | (refine GK.mkMap ?_; intro bm) | (refine GK.build0 tb ?_; intro bs)))
  have hran0 : ran (l.take 0) = M.empty := by unfold ran; rfl
  refine GK.weak (fr' := [(1, str k), (5, nptr bl), (6, nptr br), (7, nptr b7), (23, .slice p l.length c), (24, .int .i64 (l.length : Int)), (8, .slice none 0 0), (25, .int .i64 ((0 : Nat) : Int))]) (Γ' := [poolOf emp, mblk mb (.pointer none) (ran (l.take 0)).n, blk b7 25 (0, 0) [nptr mb], blk br 4 (0, 0) [.bool false], blk bl 3 (0, 0) [.int .i64 x]]) (by repeat (first | exact trivial | refine ⟨rfl, ?_⟩)) (fun w s => by rw [hran0]; exact Sat.pool_emp (s.sel [1, 0, 0, 0] rfl))
    (G.loop (fun x : Nat × Hp × Option Addr × Value => l.length - x.1) (fun y => [(1, str k), (5, nptr bl), (6, nptr br), (7, nptr b7), (23, .slice p l.length c), (24, .int .i64 (l.length : Int)), (8, y.2.2.2), (25, .int .i64 (y.1 : Int))]) (fun y => [poolOf y.2.1, mblk mb (.pointer y.2.2.1) (ran (l.take y.1)).n, blk b7 25 (0, 0) [nptr mb], blk br 4 (0, 0) [.bool false], blk bl 3 (0, 0) [.int .i64 x]])
    (fun x => x.1 ≤ l.length ∧ RootAt x.2.1 (ran (l.take x.1)).root (.pointer x.2.2.1) ∧ Lst x.2.1 x.2.2.2 (ran (l.take x.1)).ents) (fun y hy => ?_) (0, emp, none, .slice none 0 0) ⟨Nat.zero_le _, by rw [hran0]; rfl, by rw [hran0]; exact Lst.nil⟩)
  clear hran0
  obtain ⟨i, H1, q1, lv1⟩ := y
  obtain ⟨hi, hr1, hl1⟩ := hy
  replace hi : i ≤ l.length := hi
  replace hr1 : RootAt H1 (ran (l.take i)).root (.pointer q1) := hr1
  replace hl1 : Lst H1 lv1 (ran (l.take i)).ents := hl1
  obtain ⟨hmok, hmn⟩ := ran_ok (l.take i)
  have htl : (l.take i).length ≤ 400 := by simp; omega
  have hsh : Short (ran (l.take i)) := Short.ran fun a ha => (hkeys a (List.mem_of_mem_take ha)).1
  refine GK.weak (fr' := [(1, str k), (5, nptr bl), (6, nptr br), (7, nptr b7), (23, .slice p l.length c), (24, .int .i64 (l.length : Int)), (8, lv1), (25, .int .i64 (i : Int))]) (Γ' := [poolOf H1, mblk mb (.pointer q1) (ran (l.take i)).n, blk b7 25 (0, 0) [nptr mb], blk br 4 (0, 0) [.bool false], blk bl 3 (0, 0) [.int .i64 x]]) (by repeat (first | exact trivial | refine ⟨rfl, ?_⟩)) (fun w s => s) ?_
  (repeat (first | refine GK.run ?_ | (refine GK.box ?_; intro bl) | (refine GK.mkMap ?_; intro bm) | (refine GK.build0 tb ?_; intro bs)))
  refine G.cond rfl (fun h0 => ?_) (fun h0 => ?_)
  · have h0 : i < l.length := by simpa using h0
    obtain ⟨a, ha⟩ : ∃ a, l[i]? = some a := ⟨_, List.getElem?_eq_getElem h0⟩
    obtain ⟨bb, o, cs, et, fz, rfl, hbb, hat⟩ := hr (by omega)
    have hAt : At cs (o + (i : Int).toNat * 4) (acC a) := at_trans hat (acts_at ha)
    have hlena := acC_len a
    have hak := (hkeys a (List.mem_of_getElem? ha)).1
    have hnext := ran_next ha
    (repeat (first | refine GK.run ?_ | (refine GK.box ?_; intro bl) | (refine GK.mkMap ?_; intro bm) | (refine GK.build0 tb ?_; intro bs)))
    refine GL.cons ?_; refine Gt.allocAny tb (by first | exact Wt.none | exact Wt.some rfl rfl (by first | exact rfl | decide +kernel)) (by exact rfl) (by exact rfl) ?_
    intro ba lr hlr
    (repeat (first | refine GK.run ?_ | (refine GK.box ?_; intro bl) | (refine GK.mkMap ?_; intro bm) | (refine GK.build0 tb ?_; intro bs)))
    refine GL.cons ?_
    refine Gt.storeAny tb 0 (by first | exact Wt.none | exact Wt.some rfl rfl (by first | exact rfl | decide +kernel)) rfl rfl rfl (acC_len a) (acC_one a) rfl hlr ?_
    (repeat (first | refine GK.run ?_ | (refine GK.box ?_; intro bl) | (refine GK.mkMap ?_; intro bm) | (refine GK.build0 tb ?_; intro bs)))
    refine GL.cons ?_; refine GO.call [2,1] (fun hF' hle hH => play_ok hmok hr1 hl1 (by omega) mb a (by omega)) (by first | exact Wt.none | exact Wt.some rfl rfl (by first | exact rfl | decide +kernel)) (by kernel_rfl) rfl rfl rfl ?_
    rintro v Γ' ⟨H2, q2, lv2, le2, rfl, rfl, hr2, hl2⟩
    (repeat (first | refine GK.run ?_ | (refine GK.box ?_; intro bl) | (refine GK.mkMap ?_; intro bm) | (refine GK.build0 tb ?_; intro bs)))
    refine GQ.again (i + 1, H2, q2, lv2) ⟨by show i + 1 ≤ _; omega, ?_, ?_⟩ (by show l.length - (i + 1) < l.length - i; omega) (by repeat (first | exact trivial | refine ⟨rfl, ?_⟩)) (fun w s => ?_)
    · show RootAt H2 (ran (l.take (i + 1))).root (.pointer q2)
      rw [hnext]; exact hr2
    · show Lst H2 lv2 (ran (l.take (i + 1))).ents
      rw [hnext]; exact hl2
    · show Sat [poolOf H2, mblk mb (.pointer q2) (ran (l.take (i + 1))).n, _, _, _] _ _
      rw [hnext]; exact s.sel [1, 0, 1, 1, 1] rfl
  obtain ⟨m, hm⟩ : ∃ m, ran (l.take i) = m := ⟨_, rfl⟩
  rw [hm] at hr1 hl1 hmok hmn hsh ⊢
  have hsrt := hmok.srt
  have hmE := hmok.n
  (repeat (first | refine GK.run ?_ | (refine GK.box ?_; intro bl) | (refine GK.mkMap ?_; intro bm) | (refine GK.build0 tb ?_; intro bs)))
  refine GL.cons ?_; refine GO.call [0] (fun hF' hle hH => rscan_ok hl1 (by omega) k []) (by first | exact Wt.none | exact Wt.some rfl rfl (by first | exact rfl | decide +kernel)) (by kernel_rfl) rfl rfl rfl ?_
  rintro v Γ' ⟨H2, le2, rfl, hl2⟩
  obtain ⟨W, hW⟩ : ∃ W, lscan (rflat m.root) k [] = W := ⟨_, rfl⟩
  have hWf : m.ents.filter (pick k []) = W := by rw [← hW]; exact (lscan_filter hsrt k []).symm
  have hWl : W.length ≤ m.n := by rw [← hWf, hmE]; exact List.length_filter_le _ _
  have hWk : ∀ e ∈ W, e.1.length < 30000 := fun e he => by
    rw [← hWf] at he
    unfold Short at hsh
    exact hsh e (List.mem_filter.1 he).1
  rw [hWf] at hl2
  obtain ⟨p2, c2, rfl, hc2, hll2, hlr2⟩ := rs.out hl2
  (repeat (first | refine GK.run ?_ | (refine GK.box ?_; intro bl) | (refine GK.mkMap ?_; intro bm) | (refine GK.build0 tb ?_; intro bs)))
  refine GL.cons ?_; refine GO.alloc (by first | exact Wt.none | exact Wt.some rfl rfl (by first | exact rfl | decide +kernel)) (by exact rfl) ?_
  intro b11
  (repeat (first | refine GK.run ?_ | (refine GK.box ?_; intro bl) | (refine GK.mkMap ?_; intro bm) | (refine GK.build0 tb ?_; intro bs)))
  refine GL.cons ?_; refine GO.call [2] (fun hF' hle hH => scan_ok mb k []) (by first | exact Wt.none | exact Wt.some rfl rfl (by first | exact rfl | decide +kernel)) (by kernel_rfl) rfl rfl rfl ?_
  rintro v Γ' ⟨b1, b2, b3, rfl, rfl⟩
  (repeat (first | refine GK.run ?_ | (refine GK.box ?_; intro bl) | (refine GK.mkMap ?_; intro bm) | (refine GK.build0 tb ?_; intro bs)))
  refine GL.cons ?_; refine GO.alloc (by first | exact Wt.none | exact Wt.some rfl rfl (by first | exact rfl | decide +kernel)) (by exact rfl) ?_
  intro b13
  (repeat (first | refine GK.run ?_ | (refine GK.box ?_; intro bl) | (refine GK.mkMap ?_; intro bm) | (refine GK.build0 tb ?_; intro bs)))
  refine GK.weak (fr' := [(5, nptr bl), (6, nptr br), (7, nptr b7), (11, nptr b11), (12, .func (.func 27) #[] #[nptr b1, nptr b2, nptr b3]), (13, nptr b13), (45, .func (.func 27) #[] #[nptr b1, nptr b2, nptr b3])])
    (Γ' := [poolOf H2, mblk mb (.pointer q1) m.n, blk b7 25 (0, 0) [nptr mb], blk br 4 (0, 0) [.bool false], blk bl 3 (0, 0) [.int .i64 x], blk b11 27 (0, 0) [.slice p2 W.length c2], blk b13 3 (0, 0) [.int .i64 ((0 : Nat) : Int)], nbox b1 (.pointer q1), kbox b2 k, kbox b3 []]) (by repeat (first | exact trivial | refine ⟨rfl, ?_⟩)) (fun w s => s.sel [6, 4, 5, 5, 5, 4, 0, 0, 0, 0] rfl) ?_
  refine G.cutDB (fun y : Nat × Nat × Hp => [Sl.mark y.1]) (fun _ => [(5, nptr bl), (6, nptr br), (11, nptr b11), (12, .func (.func 27) #[] #[nptr b1, nptr b2, nptr b3]), (13, nptr b13)])
    (fun y => [poolOf y.2.2, pt y.1 (.deferred (some [])), blk br 4 (0, 0) [.bool false], blk bl 3 (0, 0) [.int .i64 x], blk b11 27 (0, 0) [.slice p2 W.length c2], blk b13 3 (0, 0) [.int .i64 (y.2.1 : Int)], nbox b1 (.pointer q1), kbox b2 k, kbox b3 []])
    (fun y => le H2 y.2.2 ∧ (y.2.1 = W.length ∨ (y.2.1 : Int) = x)) (fun y hy => ?_) ?_
  rotate_left
  · refine G.forRangeP (H := H2) (fun p => [midway H2 mb (m.n + p.length), blk b7 25 (0, 0) [nptr mb], blk br 4 (0, 0) [.bool false], blk bl 3 (0, 0) [.int .i64 x], blk b11 27 (0, 0) [.slice p2 W.length c2], blk b13 3 (0, 0) [.int .i64 (p.length : Int)]])
      (fun c p Γ2 => c = .exit 2 ∧ (p.length : Int) = x ∧ Γ2 = [midway H2 mb (m.n + p.length), blk b7 25 (0, 0) [nptr mb], blk br 4 (0, 0) [.bool false], blk bl 3 (0, 0) [.int .i64 x], blk b11 27 (0, 0) [.slice p2 W.length c2], blk b13 3 (0, 0) [.int .i64 (p.length : Int)]])
      (fun _ => hasH.exs fun y hy => hasH.pool hy.1) (fun c p Γ2 h => by rw [h.2.2]; exact hasH.exs fun y hy => hasH.pool hy.1) (scan1_ok (hr1.mono le2) hmok.root b1 b2 b3 k []) rfl (by kernel_rfl) (fun _ => rfl) (fun hF w s => ?_) (fun l1 p x' hF1 w1 hpx hle1 => ?_) ?_ ?_
    · have hg : Sat (midway H2 mb (m.n + 0) :: [blk b7 25 (0, 0) [nptr mb], blk br 4 (0, 0) [.bool false], blk bl 3 (0, 0) [.int .i64 x], blk b11 27 (0, 0) [.slice p2 W.length c2], blk b13 3 (0, 0) [.int .i64 ((0 : Nat) : Int)], nbox b1 (.pointer q1), kbox b2 k, kbox b3 []]) hF w := by
        refine Sat.shut (H2, q1, m) ⟨le.refl _, hmok, hr1.mono le2, Nat.le_refl _⟩ ?_
        exact s
      exact hg
    · rw [hW] at hpx
      have hgx := get_of_pre hpx
      have hpl : p.length < W.length := (List.getElem?_eq_some_iff.1 hgx).1
      have hxk := hWk x' (List.mem_of_getElem? hgx)
      obtain ⟨bb, o, cs, et, fz, rfl, hbb, hat⟩ := hlr2 (by omega)
      have hld0 : cs[o + (p.length : Int).toNat * 2 + 0]? = some (str x'.1) := by rw [Nat.add_assoc]; exact hat _ _ (ents_get hgx).1
      have hld1 : cs[o + (p.length : Int).toNat * 2 + 1]? = some (str x'.2) := by rw [Nat.add_assoc]; exact hat _ _ (ents_get hgx).2
      (repeat (first | refine GK.run ?_ | (refine GK.box ?_; intro bl) | (refine GK.mkMap ?_; intro bm) | (refine GK.build0 tb ?_; intro bs)))
      refine GQ.to_body fun hF2 w2 hle2 => ?_
      refine GK.opens 0 rfl fun y hy => ?_
      obtain ⟨H3, q3, m3⟩ := y
      obtain ⟨le3, hm3, hr3, hn3⟩ := hy
      replace le3 : le H2 H3 := le3
      replace hm3 : m3.Ok := hm3
      replace hr3 : RootAt H3 m3.root (.pointer q3) := hr3
      replace hn3 : m3.n ≤ m.n + p.length := hn3
      have hbb3 := le3 _ _ hbb
      refine GK.heap (Γ' := [poolOf H3, mblk mb (.pointer q3) m3.n, blk b7 25 (0, 0) [nptr mb], blk br 4 (0, 0) [.bool false], blk bl 3 (0, 0) [.int .i64 x], blk b11 27 (0, 0) [.slice (some ⟨bb, o, none⟩) W.length c2], blk b13 3 (0, 0) [.int .i64 (p.length : Int)]]) (fun w s => s) ?_
      (repeat (first | refine GK.run ?_ | (refine GK.box ?_; intro bl) | (refine GK.mkMap ?_; intro bm) | (refine GK.build0 tb ?_; intro bs)))
      rw [show decide ((W.length : Int) ≤ (p.length : Int)) = false from decide_eq_false (by omega)]
      (repeat (first | refine GK.run ?_ | (refine GK.box ?_; intro bl) | (refine GK.mkMap ?_; intro bm) | (refine GK.build0 tb ?_; intro bs)))
      rw [show (x'.1 == x'.1) = true from beq_self_eq_true _]
      (repeat (first | refine GK.run ?_ | (refine GK.box ?_; intro bl) | (refine GK.mkMap ?_; intro bm) | (refine GK.build0 tb ?_; intro bs)))
      rw [show (x'.2 == x'.2) = true from beq_self_eq_true _]
      (repeat (first | refine GK.run ?_ | (refine GK.box ?_; intro bl) | (refine GK.mkMap ?_; intro bm) | (refine GK.build0 tb ?_; intro bs)))
      refine GL.cons ?_; refine GO.call [1,0] (fun hF' hle hH => mdel_ok hm3 hr3 (by omega) mb x'.1) (by first | exact Wt.none | exact Wt.some rfl rfl (by first | exact rfl | decide +kernel)) (by kernel_rfl) rfl rfl rfl ?_
      rintro v Γ' ⟨H4, rv4, le4, rfl, rfl, hr4⟩
      obtain ⟨q4, rfl⟩ := hr4.ptr
      obtain ⟨m4, hm4⟩ : ∃ m4, (m3.del x'.1).1 = m4 := ⟨_, rfl⟩
      have hm4k : m4.Ok := by rw [← hm4]; exact (M.del_ok hm3 x'.1).1
      have hm4n : m4.n ≤ m3.n := by rw [← hm4]; exact del_n _ _
      rw [hm4] at hr4 ⊢
      (repeat (first | refine GK.run ?_ | (refine GK.box ?_; intro bl) | (refine GK.mkMap ?_; intro bm) | (refine GK.build0 tb ?_; intro bs)))
      refine GL.cons ?_
      refine GO.yield (by first | exact Wt.none | exact Wt.some rfl rfl (by first | exact rfl | decide +kernel)) (Yl.cat rfl rfl (by simp; omega)) ?_
      (repeat (first | refine GK.run ?_ | (refine GK.box ?_; intro bl) | (refine GK.mkMap ?_; intro bm) | (refine GK.build0 tb ?_; intro bs)))
      refine GL.cons ?_; refine GO.call [0,0] (fun hF' hle hH => mput_ok hm4k hr4 (by omega) mb (x'.1 ++ [33], [120])) (by first | exact Wt.none | exact Wt.some rfl rfl (by first | exact rfl | decide +kernel)) (by kernel_rfl) rfl rfl rfl ?_
      rintro v Γ' ⟨H5, rv5, le5, rfl, rfl, hr5⟩
      obtain ⟨q5, rfl⟩ := hr5.ptr
      have hm5k := (M.put_ok hm4k (x'.1 ++ [33], [120])).1
      have hm5n := put_n m4 (x'.1 ++ [33], [120])
      obtain ⟨m5, hm5⟩ : ∃ m5, (m4.put (x'.1 ++ [33], [120])).1 = m5 := ⟨_, rfl⟩
      rw [hm5] at hr5 hm5k hm5n ⊢
      (repeat (first | refine GK.run ?_ | (refine GK.box ?_; intro bl) | (refine GK.mkMap ?_; intro bm) | (refine GK.build0 tb ?_; intro bs)))
      have key : ∀ hF w, Sat [mblk mb (.pointer q5) m5.n, poolOf H5, blk b7 25 (0, 0) [nptr mb], blk br 4 (0, 0) [.bool false], blk bl 3 (0, 0) [.int .i64 x], blk b11 27 (0, 0) [.slice (some ⟨bb, o, none⟩) W.length c2], blk b13 3 (0, 0) [.int .i64 ((p.length : Int) + 1)]] hF w →
          Sat [midway H2 mb (m.n + (p ++ [x']).length), blk b7 25 (0, 0) [nptr mb], blk br 4 (0, 0) [.bool false], blk bl 3 (0, 0) [.int .i64 x], blk b11 27 (0, 0) [.slice (some ⟨bb, o, none⟩) W.length c2], blk b13 3 (0, 0) [.int .i64 ((p ++ [x']).length : Int)]] hF w := fun hF w s => by
        refine Sat.shut (H5, q5, m5) ⟨le3.trans (le4.trans le5), hm5k, hr5, by show m5.n ≤ _; simp; omega⟩ ?_
        have e : (((p ++ [x']).length : Nat) : Int) = (p.length : Int) + 1 := by simp
        rw [e]
        exact s.sel [1, 0, 0, 0, 0, 0, 0] rfl
      refine G.cond rfl (fun hx => ?_) (fun hx => ?_)
      · have hx : (p.length : Int) + 1 = x := by simpa using hx
        (repeat (first | refine GK.run ?_ | (refine GK.box ?_; intro bl) | (refine GK.mkMap ?_; intro bm) | (refine GK.build0 tb ?_; intro bs)))
        refine GK.heap (key _) ?_
        exact GQ.round_exit ⟨rfl, by simp; exact hx, rfl⟩
      · (repeat (first | refine GK.run ?_ | (refine GK.box ?_; intro bl) | (refine GK.mkMap ?_; intro bm) | (refine GK.build0 tb ?_; intro bs)))
        refine GK.heap (key _) ?_
        exact GQ.round_on rfl
    · rintro D Γc' rfl
      refine GK.opens 1 rfl fun y hy => ?_
      obtain ⟨H3, q3, m3⟩ := y
      rw [hW]
      (repeat (first | refine GK.run ?_ | (refine GK.box ?_; intro bl) | (refine GK.mkMap ?_; intro bm) | (refine GK.build0 tb ?_; intro bs)))
      exact GQ.reachD (D, W.length, H3) ⟨hy.1, .inl rfl⟩ rfl (by repeat (first | exact trivial | refine ⟨rfl, ?_⟩)) (fun w s => s.sel [0, 1, 2, 2, 2, 2, 2, 2, 2] rfl)
    · rintro D Γc' c p Γ2 rfl hp1 ⟨rfl, hx, rfl⟩
      refine GK.opens 1 rfl fun y hy => ?_
      obtain ⟨H3, q3, m3⟩ := y
      (repeat (first | refine GK.run ?_ | (refine GK.box ?_; intro bl) | (refine GK.mkMap ?_; intro bm) | (refine GK.build0 tb ?_; intro bs)))
      exact GQ.reachD (D, p.length, H3) ⟨hy.1, .inr hx⟩ rfl (by repeat (first | exact trivial | refine ⟨rfl, ?_⟩)) (fun w s => s.sel [0, 1, 2, 2, 2, 2, 2, 2, 2] rfl)
  obtain ⟨D, n, H3⟩ := y
  obtain ⟨le3, hn⟩ := hy
  replace le3 : le H2 H3 := le3
  replace hn : n = W.length ∨ (n : Int) = x := hn
  refine GK.weak (fr' := [(5, nptr bl), (6, nptr br), (11, nptr b11), (12, .func (.func 27) #[] #[nptr b1, nptr b2, nptr b3]), (13, nptr b13)])
    (Γ' := [poolOf H3, pt D (.deferred (some [])), blk br 4 (0, 0) [.bool false], blk bl 3 (0, 0) [.int .i64 x], blk b11 27 (0, 0) [.slice p2 W.length c2], blk b13 3 (0, 0) [.int .i64 (n : Int)], nbox b1 (.pointer q1), kbox b2 k, kbox b3 []]) (by repeat (first | exact trivial | refine ⟨rfl, ?_⟩)) (fun w s => s) ?_
  (repeat (first | refine GK.run ?_ | (refine GK.box ?_; intro bl) | (refine GK.mkMap ?_; intro bm) | (refine GK.build0 tb ?_; intro bs)))
  refine GL.cut (fun _ : Unit => [(90, .bool false), (5, nptr bl), (6, nptr br), (11, nptr b11), (12, .func (.func 27) #[] #[nptr b1, nptr b2, nptr b3])])
    (fun _ => [poolOf H3, pt D (.deferred (some [])), blk br 4 (0, 0) [.bool false], blk bl 3 (0, 0) [.int .i64 x], blk b11 27 (0, 0) [.slice p2 W.length c2], blk b13 3 (0, 0) [.int .i64 (n : Int)], nbox b1 (.pointer q1), kbox b2 k, kbox b3 []]) (fun _ => True) (fun _ _ => ?_) ?_
  rotate_left
  · refine GK.split 86 _ rfl (fun hne => ?_) (fun hne => ?_)
    · have hne : ¬ (n : Int) = (W.length : Int) := by simpa using hne
      have hnx : (n : Int) = x := by rcases hn with h | h; (exfalso; omega); exact h
      (repeat (first | refine GK.run ?_ | (refine GK.box ?_; intro bl) | (refine GK.mkMap ?_; intro bm) | (refine GK.build0 tb ?_; intro bs)))
      rw [show decide ((n : Int) = x) = true from decide_eq_true hnx]
      (repeat (first | refine GK.run ?_ | (refine GK.box ?_; intro bl) | (refine GK.mkMap ?_; intro bm) | (refine GK.build0 tb ?_; intro bs)))
      exact GQ.reach () trivial (by repeat (first | exact trivial | refine ⟨rfl, ?_⟩)) (fun w s => s)
    · (repeat (first | refine GK.run ?_ | (refine GK.box ?_; intro bl) | (refine GK.mkMap ?_; intro bm) | (refine GK.build0 tb ?_; intro bs)))
      exact GQ.reach () trivial (by repeat (first | exact trivial | refine ⟨rfl, ?_⟩)) (fun w s => s)
  (repeat (first | refine GK.run ?_ | (refine GK.box ?_; intro bl) | (refine GK.mkMap ?_; intro bm) | (refine GK.build0 tb ?_; intro bs)))
  refine GL.cons ?_; refine GO.alloc (by first | exact Wt.none | exact Wt.some rfl rfl (by first | exact rfl | decide +kernel)) (by exact rfl) ?_
  intro b16
  (repeat (first | refine GK.run ?_ | (refine GK.box ?_; intro bl) | (refine GK.mkMap ?_; intro bm) | (refine GK.build0 tb ?_; intro bs)))
  refine GK.heap (Γ' := [poolOf H3, pt D (.deferred (some [])), blk br 4 (0, 0) [.bool false], blk b11 27 (0, 0) [.slice p2 W.length c2], blk b16 3 (0, 0) [.int .i64 ((0 : Nat) : Int)], nbox b1 (.pointer q1), kbox b2 k, kbox b3 []]) (fun w s => s.sel [1, 1, 1, 2, 0, 2, 2, 2] rfl) ?_
  refine G.forRangeP (H := H3) (fun p => [poolOf H3, blk br 4 (0, 0) [.bool false], blk b11 27 (0, 0) [.slice p2 W.length c2], blk b16 3 (0, 0) [.int .i64 (p.length : Int)], pt D (.deferred (some []))])
    (fun c p Γ2 => False) (fun _ => hasH.pool (le.refl _)) (fun c p Γ2 h => h.elim) (scan1_ok (hr1.mono (le2.trans le3)) hmok.root b1 b2 b3 k []) rfl (by kernel_rfl) (fun _ => rfl) (fun hF w s => s.sel [0, 1, 1, 1, 0, 0, 0, 0] rfl) (fun l1 p x' hF1 w1 hpx hle1 => ?_) ?_ ?_
  · rw [hW] at hpx
    have hgx := get_of_pre hpx
    have hpl : p.length < W.length := (List.getElem?_eq_some_iff.1 hgx).1
    obtain ⟨bb, o, cs, et, fz, rfl, hbb, hat⟩ := hlr2 (by omega)
    have hld0 : cs[o + (p.length : Int).toNat * 2 + 0]? = some (str x'.1) := by rw [Nat.add_assoc]; exact hat _ _ (ents_get hgx).1
    have hbb3 := le3 _ _ hbb
    (repeat (first | refine GK.run ?_ | (refine GK.box ?_; intro bl) | (refine GK.mkMap ?_; intro bm) | (refine GK.build0 tb ?_; intro bs)))
    refine GQ.to_body fun hF2 w2 hle2 => ?_
    (repeat (first | refine GK.run ?_ | (refine GK.box ?_; intro bl) | (refine GK.mkMap ?_; intro bm) | (refine GK.build0 tb ?_; intro bs)))
    rw [show decide ((W.length : Int) ≤ (p.length : Int)) = false from decide_eq_false (by omega)]
    (repeat (first | refine GK.run ?_ | (refine GK.box ?_; intro bl) | (refine GK.mkMap ?_; intro bm) | (refine GK.build0 tb ?_; intro bs)))
    rw [show (x'.1 == x'.1) = true from beq_self_eq_true _]
    (repeat (first | refine GK.run ?_ | (refine GK.box ?_; intro bl) | (refine GK.mkMap ?_; intro bm) | (refine GK.build0 tb ?_; intro bs)))
    refine GK.heap (fun w s => ?_) (GQ.round_on rfl)
    have e : (((p ++ [x']).length : Nat) : Int) = (p.length : Int) + 1 := by simp
    rw [e]
    exact s
  · rintro D2 Γc' rfl
    rw [hW]
    (repeat (first | refine GK.run ?_ | (refine GK.box ?_; intro bl) | (refine GK.mkMap ?_; intro bm) | (refine GK.build0 tb ?_; intro bs)))
    rw [show decide ((W.length : Int) = (W.length : Int)) = true from decide_eq_true rfl]
    (repeat (first | refine GK.run ?_ | (refine GK.box ?_; intro bl) | (refine GK.mkMap ?_; intro bm) | (refine GK.build0 tb ?_; intro bs)))
    refine GL.cons ?_; refine GO.call [] (fun hF' hle hH => lives_ok) (by first | exact Wt.none | exact Wt.some rfl rfl (by first | exact rfl | decide +kernel)) (by kernel_rfl) rfl rfl rfl ?_
    rintro v Γ' ⟨rfl, rfl⟩
    (repeat (first | refine GK.run ?_ | (refine GK.box ?_; intro bl) | (refine GK.mkMap ?_; intro bm) | (refine GK.build0 tb ?_; intro bs)))
    refine GQ.leave ?_
    refine GK.heap (Γ' := [dset [D2, D], blk br 4 (0, 0) [.bool true]]) (fun w s => ?_) ?_
    · have s1 : Sat (dset [D] :: [pt D2 (.deferred (some [])), blk br 4 (0, 0) [.bool true]]) hF w := Sat.dset_push ((Sat.dset_nil s).sel [6, 0, 0, 1] rfl)
      exact Sat.dset_push (s1.sel [1, 0, 0] rfl)
    · refine GK.popAll (Ds := [D2, D]) ?_
      exact GK.fin1 rfl (Rv.cell rfl rfl (Rd.blk 0 rfl) rfl) (fun w s => s) rfl
  · rintro D Γc' c p Γ2 rfl hp1 h
    exact h.elim
end Go.Tr
