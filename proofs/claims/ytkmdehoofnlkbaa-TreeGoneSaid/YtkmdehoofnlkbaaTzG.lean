/- TreeGone, walked. -/
import Derived.Test.YtkmdehoofnlkbaaTzM
namespace Go.Tr
open Go Go.Sl
theorem split_at {l : List En} (hs : Srt l) {e : En} (h : e ∈ l) : ∃ A B, l = A ++ e :: B ∧ (∀ a ∈ A, lt a.1 e.1 = true) ∧ (∀ b ∈ B, lt e.1 b.1 = true) := by
  obtain ⟨A, B, rfl⟩ := List.append_of_mem h
  have h1 := List.pairwise_append.1 hs
  exact ⟨A, B, rfl, fun a ha => h1.2.2 a ha e (by simp), (List.pairwise_cons.1 h1.2.1).1⟩
theorem hit_mem {l : List En} (hs : Srt l) {e : En} (h : e ∈ l) : hit l e.1 = true := by
  obtain ⟨A, B, rfl, hA, _⟩ := split_at hs h
  exact (hit_at hA).2
theorem hit_ldel {l : List En} (hs : Srt l) (k : Ky) : hit (ldel l k) k = false := by
  cases hh : hit l k with
  | false => unfold ldel; rw [hh]; exact hh
  | true =>
    obtain ⟨v, hv⟩ := hit_get hh
    obtain ⟨A, B, rfl, hA, hB⟩ := split_at hs (List.mem_of_getElem? hv)
    have := ldel_at (B := B) (x := (k, v)) hA
    rw [this]
    have h2 := (hit_mid (A := A) (M := []) (B := B) (k := k) hA hB).2
    rw [List.append_nil] at h2
    rw [h2]; rfl
theorem mem_ldel {l : List En} (hs : Srt l) {e : En} (h : e ∈ l) {k : Ky} (hk : e.1 ≠ k) : e ∈ ldel l k := by
  cases hh : hit l k with
  | false => unfold ldel; rw [hh]; exact h
  | true =>
    obtain ⟨v, hv⟩ := hit_get hh
    obtain ⟨A, B, rfl, hA, hB⟩ := split_at hs (List.mem_of_getElem? hv)
    rw [ldel_at (B := B) (x := (k, v)) hA]
    rcases List.mem_append.1 h with h | h
    · exact List.mem_append_left _ h
    · rcases List.mem_cons.1 h with h | h
      · exact absurd (by rw [h]) hk
      · exact List.mem_append_right _ h
theorem key_inj {l : List En} (hs : Srt l) {x y : Nat} {e f : En} (hx : l[x]? = some e) (hy : l[y]? = some f) (h : e.1 = f.1) : x = y := by
  obtain ⟨h1, h2⟩ := List.getElem?_eq_some_iff.1 hx
  obtain ⟨h3, h4⟩ := List.getElem?_eq_some_iff.1 hy
  rcases Nat.lt_trichotomy x y with q | q | q
  · have := List.pairwise_iff_getElem.1 hs x y h1 h3 q
    rw [h2, h4, h, lt_irrefl] at this; cases this
  · exact q
  · have := List.pairwise_iff_getElem.1 hs y x h3 h1 q
    rw [h2, h4, h, lt_irrefl] at this; cases this
theorem idx_inj {L r i j : Nat} (hi : i < L) (hj : j < L) (h : (i + r) % L = (j + r) % L) : i = j := by
  have e1 := Nat.div_add_mod (i + r) L
  have e2 := Nat.div_add_mod (j + r) L
  rw [h] at e1
  have : (i + r) / L = (j + r) / L := by
    rcases Nat.lt_trichotomy ((i + r) / L) ((j + r) / L) with q | q | q
    · have := Nat.mul_le_mul_left L (Nat.succ_le_of_lt q)
      rw [Nat.mul_succ] at this; omega
    · exact q
    · have := Nat.mul_le_mul_left L (Nat.succ_le_of_lt q)
      rw [Nat.mul_succ] at this; omega
  rw [this] at e1
  omega
/-- Some of E's are still there: those that no round before j took. -/
def Still (E : List En) (r j : Nat) (D : M) : Prop := ∀ (x : Nat) (e : En), E[x]? = some e → (∀ i, i < j → (i + r) % E.length ≠ x) → e ∈ D.ents
theorem Still.step {E : List En} (hE : Srt E) {r j : Nat} (hj : j < E.length) {D : M} (hD : D.Ok) (h : Still E r j D) {e : En} (he : E[(j + r) % E.length]? = some e) :
    hit D.ents e.1 = true ∧ (D.del e.1).1.Ok ∧ (D.del e.1).2 = true ∧ (D.del e.1).1.n + 1 = D.n ∧ Still E r (j + 1) (D.del e.1).1 ∧ ((D.del e.1).1.del e.1).2 = false ∧ ((D.del e.1).1.del e.1).1 = (D.del e.1).1 := by
  have hmem : e ∈ D.ents := h _ e he fun i hi heq => by
    have := idx_inj (by omega) hj heq
    omega
  have hhit := hit_mem hD.srt hmem
  obtain ⟨p1, p2, p3⟩ := M.del_ok hD e.1
  obtain ⟨q1, q2, q3⟩ := M.del_ok p1 e.1
  have hgone := hit_ldel hD.srt e.1
  have hno : ((D.del e.1).1.del e.1).2 = false := by rw [q3, p2]; exact hgone
  refine ⟨hhit, p1, by rw [p3]; exact hhit, ?_, ?_, hno, ?_⟩
  · have h1 := p1.n
    have h2 := hD.n
    rw [p2, ldel_length, if_pos hhit] at h1
    have := List.length_pos_of_mem hmem
    omega
  · intro x f hx hf
    have hf2 : f ∈ D.ents := h x f hx fun i hi => hf i (by omega)
    rw [p2]
    refine mem_ldel hD.srt hf2 fun hk => ?_
    exact hf j (by omega) (key_inj hE he hx hk.symm)
  · unfold M.del at hno ⊢
    split
    · rfl
    · rename_i r hr
      rw [hr] at hno
      simp only at hno
      split
      · rename_i hc; rw [if_pos hc] at hno; cases hno
      · rfl
theorem put_new {m : M} (h : m.Ok) {e : En} (hn : m.n = 0) : (m.put e).2 = false ∧ (m.put e).1.n = 1 ∧ (m.put e).1.Ok := by
  obtain ⟨p1, p2, p3⟩ := M.put_ok h e
  have h0 : m.ents = [] := List.length_eq_zero_iff.1 (by rw [← h.n]; exact hn)
  have hh : hit m.ents e.1 = false := by rw [h0]; rfl
  refine ⟨by rw [p3]; exact hh, ?_, p1⟩
  rw [p1.n, p2, lput_length, hh, h0]; rfl
theorem ran_all {l : List Ac} {i : Nat} (h : l.length ≤ i) : l.take i = l := List.take_of_length_le h
attribute [local irreducible] GK GO Yl Wt Ef Hd GH KH wpListIn Code.wpIn toBody roundQ poolOf rs RS YieldOk IterOk VOk row star exs mp lp Sat pt FnOk Rd bodyPost bodyPostM Lv Ret Exit.then Exit.inBlock Exit.noGoto Int.decLt Int.decLe Int.instDecidableEq
attribute [local irreducible] ents ptrs hasH less dset num M.put M.del bulk acts actM ran M.depth Still
set_option pp.deepTerms true
set_option pp.maxSteps 1000000
variable {hF H : Hp}
set_option maxHeartbeats 2000000 in
theorem gone_ok {v : Value} {l : List Ac} (hv : roActs hF v l) (x : Int) : FnOk Go.Proofs.Try.prog 5 [v, .int .i64 x] [] hF (fun r _ => r = .bool true) := by
  have hv0 := hv
  obtain ⟨⟨p, c, rfl, hr⟩, hl, hok⟩ := hv
  refine FnOk.intro 98 Go.Proofs.Try.func5 rfl rfl fun w0 => ?_
  (repeat (first | refine GK.run ?_ | (refine GK.box ?_; intro bl) | (refine GK.mkMap ?_; intro bm) | (refine GK.build0 tb ?_; intro bs)))
  refine GL.cons ?_; refine GO.call [] (fun hF' hle hH => few_ok (hv0.mono hle)) (by first | exact Wt.none | exact Wt.some rfl rfl (by first | exact rfl | decide +kernel)) (by kernel_rfl) rfl rfl rfl ?_
  rintro v Γ' ⟨rfl, rfl⟩
  (repeat (first | refine GK.run ?_ | (refine GK.box ?_; intro bl) | (refine GK.mkMap ?_; intro bm) | (refine GK.build0 tb ?_; intro bs)))
  refine G.cond rfl (fun hf => ?_) (fun hf => ?_)
  · (repeat (first | refine GK.run ?_ | (refine GK.box ?_; intro bl) | (refine GK.mkMap ?_; intro bm) | (refine GK.build0 tb ?_; intro bs)))
    refine GL.cons ?_; refine GO.call [] (fun hF' hle hH => lives_ok) (by first | exact Wt.none | exact Wt.some rfl rfl (by first | exact rfl | decide +kernel)) (by kernel_rfl) rfl rfl rfl ?_
    rintro v Γ' ⟨rfl, rfl⟩
    (repeat (first | refine GK.run ?_ | (refine GK.box ?_; intro bl) | (refine GK.mkMap ?_; intro bm) | (refine GK.build0 tb ?_; intro bs)))
    exact GQ.fin1 rfl (Rv.tmp rfl) (fun w s => s) rfl
  have hf : fewM l = true := by simpa using hf
  obtain ⟨hlen, hkeys⟩ := fewM_len hf
  (repeat (first | refine GK.run ?_ | (refine GK.box ?_; intro bl) | (refine GK.mkMap ?_; intro bm) | (refine GK.build0 tb ?_; intro bs)))
  refine GL.cons ?_; refine GO.call [] (fun hF' hle hH => new_ok) (by first | exact Wt.none | exact Wt.some rfl rfl (by first | exact rfl | decide +kernel)) (by kernel_rfl) rfl rfl rfl ?_
  rintro v Γ' ⟨mb, rfl, rfl⟩
  (repeat (first | refine GK.run ?_ | (refine GK.box ?_; intro bl) | (refine GK.mkMap ?_; intro bm) | (refine GK.build0 tb ?_; intro bs)))
  have hran0 : ran (l.take 0) = M.empty := by unfold ran; rfl
  refine GK.weak (fr' := [(1, .int .i64 x), (5, nptr mb), (16, .slice p l.length c), (17, .int .i64 (l.length : Int)), (6, .slice none 0 0), (18, .int .i64 ((0 : Nat) : Int))]) (Γ' := [poolOf emp, mblk mb (.pointer none) (ran (l.take 0)).n]) (by repeat (first | exact trivial | refine ⟨rfl, ?_⟩)) (fun w s => by rw [hran0]; exact Sat.pool_emp s) (G.loop (fun x : Nat × Hp × Option Addr × Value => l.length - x.1) (fun y => [(1, .int .i64 x), (5, nptr mb), (16, .slice p l.length c), (17, .int .i64 (l.length : Int)), (6, y.2.2.2), (18, .int .i64 (y.1 : Int))]) (fun x => [poolOf x.2.1, mblk mb (.pointer x.2.2.1) (ran (l.take x.1)).n])
    (fun x => x.1 ≤ l.length ∧ RootAt x.2.1 (ran (l.take x.1)).root (.pointer x.2.2.1) ∧ Lst x.2.1 x.2.2.2 (ran (l.take x.1)).ents) (fun y hy => ?_) (0, emp, none, .slice none 0 0) ⟨Nat.zero_le _, by rw [hran0]; rfl, by rw [hran0]; exact Lst.nil⟩)
  clear hran0
  obtain ⟨i, H1, q1, lv1⟩ := y
  obtain ⟨hi, hr1, hl1⟩ := hy
  replace hi : i ≤ l.length := hi
  replace hr1 : RootAt H1 (ran (l.take i)).root (.pointer q1) := hr1
  replace hl1 : Lst H1 lv1 (ran (l.take i)).ents := hl1
  obtain ⟨hmok, hmn⟩ := ran_ok (l.take i)
  have htl : (l.take i).length ≤ 400 := by simp; omega
  obtain ⟨p1, c1, rfl, hc1, hll1, hlr1⟩ := rs.out hl1
  refine GK.weak (fr' := [(1, .int .i64 x), (5, nptr mb), (16, .slice p l.length c), (17, .int .i64 (l.length : Int)), (6, .slice p1 (ran (l.take i)).ents.length c1), (18, .int .i64 (i : Int))]) (Γ' := [poolOf H1, mblk mb (.pointer q1) (ran (l.take i)).n]) (by repeat (first | exact trivial | refine ⟨rfl, ?_⟩)) (fun w s => s) ?_
  (repeat (first | refine GK.run ?_ | (refine GK.box ?_; intro bl) | (refine GK.mkMap ?_; intro bm) | (refine GK.build0 tb ?_; intro bs)))
  refine G.cond rfl (fun h0 => ?_) (fun h0 => ?_)
  · have h0 : i < l.length := by simpa using h0
    obtain ⟨a, ha⟩ : ∃ a, l[i]? = some a := ⟨_, List.getElem?_eq_getElem h0⟩
    obtain ⟨bb, o, cs, et, fz, rfl, hbb, hat⟩ := hr (by omega)
    have hAt : At cs (o + (i : Int).toNat * 4) (acC a) := at_trans hat (acts_at ha)
    have hlena := acC_len a
    have hak := (hkeys a (List.mem_of_getElem? ha)).1
    have hnext := ran_next ha
    (repeat (first | refine GK.run ?_ | (refine GK.box ?_; intro bl) | (refine GK.mkMap ?_; intro bm) | (refine GK.build0 tb ?_; intro bs)))
    refine GL.cons ?_; refine Gt.allocAny tb (by first | exact Wt.none | exact Wt.some rfl rfl (by first | exact rfl | decide +kernel)) (by exact rfl) (by exact rfl) ?_
    intro br lr hlr
    (repeat (first | refine GK.run ?_ | (refine GK.box ?_; intro bl) | (refine GK.mkMap ?_; intro bm) | (refine GK.build0 tb ?_; intro bs)))
    refine GL.cons ?_
    refine Gt.storeAny tb 0 (by first | exact Wt.none | exact Wt.some rfl rfl (by first | exact rfl | decide +kernel)) rfl rfl rfl (acC_len a) (acC_one a) rfl hlr ?_
    (repeat (first | refine GK.run ?_ | (refine GK.box ?_; intro bl) | (refine GK.mkMap ?_; intro bm) | (refine GK.build0 tb ?_; intro bs)))
    refine GL.cons ?_; refine GO.call [2,1] (fun hF' hle hH => play_ok hmok hr1 hl1 (by omega) mb a (by omega)) (by first | exact Wt.none | exact Wt.some rfl rfl (by first | exact rfl | decide +kernel)) (by kernel_rfl) rfl rfl rfl ?_
    rintro v Γ' ⟨H2, q2, lv2, le2, rfl, rfl, hr2, hl2⟩
    (repeat (first | refine GK.run ?_ | (refine GK.box ?_; intro bl) | (refine GK.mkMap ?_; intro bm) | (refine GK.build0 tb ?_; intro bs)))
    refine GQ.again (i + 1, H2, q2, lv2) ⟨by show i + 1 ≤ _; omega, ?_, ?_⟩ (by show l.length - (i + 1) < l.length - i; omega) (by repeat (first | exact trivial | refine ⟨rfl, ?_⟩)) (fun w s => ?_)
    · show RootAt H2 (ran (l.take (i + 1))).root (.pointer q2)
      rw [hnext]; exact hr2
    · show Lst H2 lv2 (ran (l.take (i + 1))).ents
      rw [hnext]; exact hl2
    · show Sat [poolOf H2, mblk mb (.pointer q2) (ran (l.take (i + 1))).n] _ _
      rw [hnext]; exact s.sel [1, 0] rfl
  obtain ⟨m, hm⟩ : ∃ m, ran (l.take i) = m := ⟨_, rfl⟩
  rw [hm] at hr1 hl1 hmok hmn hll1 hlr1 hc1 ⊢
  obtain ⟨E, hE0⟩ : ∃ E, m.ents = E := ⟨_, rfl⟩
  have hsrt := hmok.srt
  have hmE := hmok.n
  rw [hE0] at hl1 hll1 hlr1 hc1 hsrt hmE ⊢
  obtain ⟨r, hr0⟩ : ∃ r, ((IntKind.u64.wrap x).tmod (E.length : Int)).toNat = r := ⟨_, rfl⟩
  have hstill : Still E r 0 m := by unfold Still; intro y e he _; rw [hE0]; exact List.mem_of_getElem? he
  (repeat (first | refine GK.run ?_ | (refine GK.box ?_; intro bl) | (refine GK.mkMap ?_; intro bm) | (refine GK.build0 tb ?_; intro bs)))
  refine GK.weak (fr' := [(1, .int .i64 x), (5, nptr mb), (6, .slice p1 E.length c1), (31, .int .i64 (E.length : Int)), (32, .int .i64 ((0 : Nat) : Int))]) (Γ' := [poolOf H1, mblk mb (.pointer q1) m.n]) (by repeat (first | exact trivial | refine ⟨rfl, ?_⟩)) (fun w s => s) (G.loop (fun y : Nat × Hp × Option Addr × M => E.length - y.1) (fun y => [(1, .int .i64 x), (5, nptr mb), (6, .slice p1 E.length c1), (31, .int .i64 (E.length : Int)), (32, .int .i64 (y.1 : Int))]) (fun y => [poolOf y.2.1, mblk mb (.pointer y.2.2.1) y.2.2.2.n])
    (fun y => y.1 ≤ E.length ∧ le H1 y.2.1 ∧ y.2.2.2.Ok ∧ y.2.2.2.n + y.1 = E.length ∧ Still E r y.1 y.2.2.2 ∧ RootAt y.2.1 y.2.2.2.root (.pointer y.2.2.1)) (fun y hy => ?_) (0, H1, q1, m) ⟨Nat.zero_le _, le.refl _, hmok, by show m.n + 0 = _; omega, hstill, hr1⟩)
  obtain ⟨j, H2, q2, D⟩ := y
  obtain ⟨hj, le2, hD, hDn, hSt, hr2⟩ := hy
  replace hj : j ≤ E.length := hj
  replace le2 : le H1 H2 := le2
  replace hD : D.Ok := hD
  replace hDn : D.n + j = E.length := hDn
  replace hSt : Still E r j D := hSt
  replace hr2 : RootAt H2 D.root (.pointer q2) := hr2
  refine GK.weak (fr' := [(1, .int .i64 x), (5, nptr mb), (6, .slice p1 E.length c1), (31, .int .i64 (E.length : Int)), (32, .int .i64 (j : Int))]) (Γ' := [poolOf H2, mblk mb (.pointer q2) D.n]) (by repeat (first | exact trivial | refine ⟨rfl, ?_⟩)) (fun w s => s) ?_
  (repeat (first | refine GK.run ?_ | (refine GK.box ?_; intro bl) | (refine GK.mkMap ?_; intro bm) | (refine GK.build0 tb ?_; intro bs)))
  refine G.cond rfl (fun h1 => ?_) (fun h1 => ?_)
  · have h1 : j < E.length := by simpa using h1
    have hEl : E.length ≤ 24000 := by omega
    have hun : 0 ≤ IntKind.u64.wrap x := by
      simp only [IntKind.wrap, IntKind.bits, IntKind.signed]; simp; omega
    have eW : IntKind.u64.wrap ((E.length : Nat) : Int) = (E.length : Int) := by
      simp only [IntKind.wrap, IntKind.bits, IntKind.signed]; simp; omega
    have hr1' : (IntKind.u64.wrap x).tmod (E.length : Int) = (r : Int) := by
      rw [← hr0, Int.toNat_of_nonneg (Int.tmod_nonneg _ hun)]
    have hrl : r < E.length := by
      have := Int.tmod_lt_of_pos (IntKind.u64.wrap x) (show (0 : Int) < (E.length : Int) by omega)
      omega
    have eM : ((j : Int) + (r : Int)).tmod (E.length : Int) = (((j + r) % E.length : Nat) : Int) := by
      rw [show (j : Int) + (r : Int) = ((j + r : Nat) : Int) by omega, Int.tmod_eq_emod_of_nonneg (by omega)]
      first | exact (Int.natCast_emod _ _).symm | exact (Int.natCast_mod _ _).symm | rfl
    have hxl : (j + r) % E.length < E.length := Nat.mod_lt _ (by omega)
    obtain ⟨e, he⟩ : ∃ e, E[(j + r) % E.length]? = some e := ⟨_, List.getElem?_eq_getElem hxl⟩
    obtain ⟨s1, s2, s3, s4, s5, s6, s7⟩ := Still.step hsrt h1 hD hSt he
    obtain ⟨bb, o, cs, et, fz, rfl, hbb, hat⟩ := hlr1 (by omega)
    replace hbb := le2 _ _ hbb
    obtain ⟨y, hy0⟩ : ∃ y, (j + r) % E.length = y := ⟨_, rfl⟩
    rw [hy0] at he eM hxl
    have hld : cs[o + (y : Int).toNat * 2 + 0]? = some (str e.1) := by rw [Nat.add_assoc]; exact hat _ _ (ents_get he).1
    (repeat (first | refine GK.run ?_ | (refine GK.box ?_; intro bl) | (refine GK.mkMap ?_; intro bm) | (refine GK.build0 tb ?_; intro bs)))
    rw [eW]
    refine GL.cons ?_
    refine GO.yield (by first | exact Wt.none | exact Wt.some rfl rfl (by first | exact rfl | decide +kernel)) (Yl.rem rfl rfl (by omega)) ?_
    rw [hr1']
    refine GL.cons ?_
    refine GO.yield (by first | exact Wt.none | exact Wt.some rfl rfl (by first | exact rfl | decide +kernel)) (Yl.convInt rfl rfl rfl) ?_
    rw [IntWalk.i64_in _ (by omega)]
    (repeat (first | refine GK.run ?_ | (refine GK.box ?_; intro bl) | (refine GK.mkMap ?_; intro bm) | (refine GK.build0 tb ?_; intro bs)))
    refine GL.cons ?_
    refine GO.yield (by first | exact Wt.none | exact Wt.some rfl rfl (by first | exact rfl | decide +kernel)) (Yl.rem rfl rfl (by omega)) ?_
    rw [eM]
    (repeat (first | refine GK.run ?_ | (refine GK.box ?_; intro bl) | (refine GK.mkMap ?_; intro bm) | (refine GK.build0 tb ?_; intro bs)))
    refine GL.cons ?_; refine GO.call [1,0] (fun hF' hle hH => mdel_ok hD hr2 (by omega) mb e.1) (by first | exact Wt.none | exact Wt.some rfl rfl (by first | exact rfl | decide +kernel)) (by kernel_rfl) rfl rfl rfl ?_
    rintro v Γ' ⟨H3, rv3, le3, rfl, rfl, hr3⟩
    rw [s3]
    obtain ⟨D2, hD2⟩ : ∃ D2, (D.del e.1).1 = D2 := ⟨_, rfl⟩
    rw [hD2] at s2 s4 s5 s6 s7 hr3 ⊢
    (repeat (first | refine GK.run ?_ | (refine GK.box ?_; intro bl) | (refine GK.mkMap ?_; intro bm) | (refine GK.build0 tb ?_; intro bs)))
    refine GL.cons ?_; refine GO.call [0,0] (fun hF' hle hH => mdel_ok s2 hr3 (by omega) mb e.1) (by first | exact Wt.none | exact Wt.some rfl rfl (by first | exact rfl | decide +kernel)) (by kernel_rfl) rfl rfl rfl ?_
    rintro v Γ' ⟨H4, rv4, le4, rfl, rfl, hr4⟩
    rw [s6]
    rw [s7] at hr4 ⊢
    obtain ⟨q4, rfl⟩ := hr4.ptr
    (repeat (first | refine GK.run ?_ | (refine GK.box ?_; intro bl) | (refine GK.mkMap ?_; intro bm) | (refine GK.build0 tb ?_; intro bs)))
    refine GL.cons ?_; refine GO.call [0] (fun hF' hle hH => mlen_ok (m := D2) mb) (by first | exact Wt.none | exact Wt.some rfl rfl (by first | exact rfl | decide +kernel)) (by kernel_rfl) rfl rfl rfl ?_
    rintro v Γ' ⟨rfl, rfl⟩
    (repeat (first | refine GK.run ?_ | (refine GK.box ?_; intro bl) | (refine GK.mkMap ?_; intro bm) | (refine GK.build0 tb ?_; intro bs)))
    rw [show decide ((D2.n : Int) = (E.length : Int) - 1 - (j : Int)) = true from decide_eq_true (by omega)]
    (repeat (first | refine GK.run ?_ | (refine GK.box ?_; intro bl) | (refine GK.mkMap ?_; intro bm) | (refine GK.build0 tb ?_; intro bs)))
    exact GQ.again (j + 1, H4, q4, D2) ⟨by show j + 1 ≤ _; omega, le2.trans (le3.trans le4), s2, by show D2.n + (j + 1) = _; omega, s5, hr4⟩ (by show E.length - (j + 1) < E.length - j; omega) (by repeat (first | exact trivial | refine ⟨rfl, ?_⟩)) (fun w s => s.sel [1, 0] rfl)
  · have h1 : ¬ j < E.length := by simp at h1; omega
    have hD0 : D.n = 0 := by omega
    have hdep : D.depth = 0 := (M.bounds hD).1.1 hD0
    have hDe : D.ents.length = 0 := by rw [← hD.n]; exact hD0
    obtain ⟨p1', p2', p3'⟩ := put_new hD (e := ([97], [98])) hD0
    (repeat (first | refine GK.run ?_ | (refine GK.box ?_; intro bl) | (refine GK.mkMap ?_; intro bm) | (refine GK.build0 tb ?_; intro bs)))
    refine GL.cons ?_; refine GO.call [1] (fun hF' hle hH => mlen_ok (m := D) mb) (by first | exact Wt.none | exact Wt.some rfl rfl (by first | exact rfl | decide +kernel)) (by kernel_rfl) rfl rfl rfl ?_
    rintro v Γ' ⟨rfl, rfl⟩
    rw [show ((D.n : Nat) : Int) = 0 by omega]
    (repeat (first | refine GK.run ?_ | (refine GK.box ?_; intro bl) | (refine GK.mkMap ?_; intro bm) | (refine GK.build0 tb ?_; intro bs)))
    refine GL.cons ?_; refine GO.call [0,0] (fun hF' hle hH => mdepth_ok hD hr2 mb (by omega)) (by first | exact Wt.none | exact Wt.some rfl rfl (by first | exact rfl | decide +kernel)) (by kernel_rfl) rfl rfl rfl ?_
    rintro v Γ' ⟨rfl, rfl⟩
    rw [show ((D.depth : Nat) : Int) = 0 by omega]
    (repeat (first | refine GK.run ?_ | (refine GK.box ?_; intro bl) | (refine GK.mkMap ?_; intro bm) | (refine GK.build0 tb ?_; intro bs)))
    refine GL.cons ?_; refine GO.call [0,0] (fun hF' hle hH => told_all hD hr2 (by omega) mb) (by first | exact Wt.none | exact Wt.some rfl rfl (by first | exact rfl | decide +kernel)) (by kernel_rfl) rfl rfl rfl ?_
    rintro v Γ' ⟨H3, le3, rfl, hl3⟩
    obtain ⟨p3, c3, rfl, hc3, hll3, hlr3⟩ := rs.out hl3
    rw [hDe]
    (repeat (first | refine GK.run ?_ | (refine GK.box ?_; intro bl) | (refine GK.mkMap ?_; intro bm) | (refine GK.build0 tb ?_; intro bs)))
    refine GL.cons ?_; refine GO.call [0,0] (fun hF' hle hH => mput_ok hD (hr2.mono le3) (by omega) mb ([97], [98])) (by first | exact Wt.none | exact Wt.some rfl rfl (by first | exact rfl | decide +kernel)) (by kernel_rfl) rfl rfl rfl ?_
    rintro v Γ' ⟨H4, rv4, le4, rfl, rfl, hr4⟩
    rw [p1']
    (repeat (first | refine GK.run ?_ | (refine GK.box ?_; intro bl) | (refine GK.mkMap ?_; intro bm) | (refine GK.build0 tb ?_; intro bs)))
    refine GL.cons ?_; refine GO.call [0] (fun hF' hle hH => mlen_ok (m := (D.put ([97], [98])).1) mb) (by first | exact Wt.none | exact Wt.some rfl rfl (by first | exact rfl | decide +kernel)) (by kernel_rfl) rfl rfl rfl ?_
    rintro v Γ' ⟨rfl, rfl⟩
    rw [show (((D.put ([97], [98])).1.n : Nat) : Int) = 1 by rw [p2']; rfl]
    (repeat (first | refine GK.run ?_ | (refine GK.box ?_; intro bl) | (refine GK.mkMap ?_; intro bm) | (refine GK.build0 tb ?_; intro bs)))
    refine GL.cons ?_; refine GO.call [] (fun hF' hle hH => lives_ok) (by first | exact Wt.none | exact Wt.some rfl rfl (by first | exact rfl | decide +kernel)) (by kernel_rfl) rfl rfl rfl ?_
    rintro v Γ' ⟨rfl, rfl⟩
    (repeat (first | refine GK.run ?_ | (refine GK.box ?_; intro bl) | (refine GK.mkMap ?_; intro bm) | (refine GK.build0 tb ?_; intro bs)))
    exact GQ.fin1 rfl (Rv.tmp rfl) (fun w s => s) rfl
end Go.Tr
