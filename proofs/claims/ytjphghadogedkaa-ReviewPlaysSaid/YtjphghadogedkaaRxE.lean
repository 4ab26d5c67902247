/- The document's board: a proposal is made. -/
import Derived.Test.YtjphghadogedkaaRxD
set_option linter.unusedSimpArgs false
set_option linter.unusedVariables false
namespace Go.Re
open Go Go.Sl
set_option maxRecDepth 100000
def madeZ : List Value := [str [], str []] ++ u8s (List.replicate 32 0)
theorem fill_made {a c h : By} (hh : h.length = 32) : fillL (([(0, 1), (1, 1), (2, 32)] : List (Nat × Nat))[·]?) madeZ [(0, str a), (1, str c), (2, .agg ⟨u8s h⟩)] = some (madeC ⟨a, c, h⟩) := by
  have z := u8s_len h
  refine fill_cons (off := 0) (size := 1) rfl rfl (Nat.le_of_ble_eq_true rfl) rfl ?_
  refine fill_cons (off := 1) (size := 1) rfl rfl (Nat.le_of_ble_eq_true rfl) rfl ?_
  refine fill_cons (off := 2) (size := 32) (l' := [str a, str c] ++ u8s h) rfl (by show (u8s h).length = 32; omega) (Nat.le_of_ble_eq_true rfl) ?_ rfl
  show splice _ 2 (u8s h) = _
  unfold splice
  rw [z, hh]
  show [str a, str c] ++ u8s h ++ [] = _
  rw [List.append_nil]
def sameMade (c h : By) (r : RB) (n : Int) : Bool := match r.L[(n - 1).toNat]? with
  | some m => (m.c == c) && (m.h == h)
  | none => false
def rproposeM (r : RB) (a c h : By) : Int × Int × RB := if (openR r).any (sameMade c h r) then (0, 110, r) else if 64 ≤ (openR r).length then (0, 3, r) else ((r.L.length : Int) + 1, 0, ⟨r.L ++ [⟨a, c, h⟩], r.D⟩)
theorem openR_in {r : RB} {n : Int} (h : n ∈ openR r) : 1 ≤ n ∧ n ≤ r.L.length := by
  unfold openR openTo at h
  obtain ⟨h1, h2⟩ := List.mem_filter.1 h
  obtain ⟨i, hi, rfl⟩ := List.mem_map.1 h1
  have := List.mem_range.1 hi
  omega
theorem openR_len (r : RB) : (openR r).length ≤ r.L.length := openTo_len r r.L.length
theorem rb_made {H H1 : Hp} {r : RB} {lv lv' dv : Value} {a c h : By} (h0 : RbAt H r lv dv) (l1 : le H H1) (hh : h.length = 32) (gd : rs H1 lv' (r.L.length + 1) 34 (mades (r.L ++ [⟨a, c, h⟩]))) (hn : r.L.length < 1000000) : RbAt H1 ⟨r.L ++ [⟨a, c, h⟩], r.D⟩ lv' dv :=
  ⟨by rw [List.length_append]; exact gd, h0.d.mono l1, fun m hm => by
    rcases List.mem_append.1 hm with hm | hm
    · exact h0.h m hm
    · rw [List.mem_singleton.1 hm]; exact hh, by rw [List.length_append]; show r.L.length + 1 ≤ 1000000; omega, h0.nd, h0.k⟩
theorem madeC_c (m : Mk) : (madeC m)[0 + 1]? = some (str m.c) := by unfold madeC; simp
theorem madeC_h (m : Mk) : At (madeC m) (0 + 2) (u8s m.h) := fun j v hv => by
  unfold madeC
  rw [List.getElem?_append_right (by simp)]
  rw [show 0 + 2 + j - [str m.a, str m.c].length = j by simp]; exact hv
theorem madeZ_len : madeZ.length = 34 := rfl
theorem mades_append (a b : List Mk) : mades (a ++ b) = mades a ++ mades b := by unfold mades; simp
theorem mades_sing (m : Mk) : mades [m] = madeC m := by unfold mades; simp
set_option maxRecDepth 100000
set_option maxHeartbeats 4000000
attribute [local irreducible] GK GO Yl Wt Ef Hd GH KH wpListIn Code.wpIn toBody roundQ poolOf rs RS YieldOk IterOk VOk row star exs mp lp Sat pt FnOk Rd bodyPost bodyPostM Lv Ret Exit.then Exit.inBlock Exit.noGoto Int.decLt Int.decLe Int.instDecidableEq
attribute [local irreducible] u8s strs likeTo madeC mades deeds ofR i64s madeZ openR
set_option pp.deepTerms true
set_option pp.maxSteps 1000000
variable {hF H : Hp}
theorem rpropose_ok {r : RB} {lv dv : Value} {a c0 h1 : By} (h : RbAt H r lv dv) (hh : h1.length = 32) (hn : r.L.length < 1000000) : FnOk Go.Proofs.Try.prog 40 [.agg ⟨[lv, dv]⟩, str a, str c0, .agg ⟨u8s h1⟩] [poolOf H] hF
    (fun v Γ => ∃ H' lv', le H H' ∧ v = .tuple #[.agg ⟨[lv', dv]⟩, .int .i64 (rproposeM r a c0 h1).1, .int .i64 (rproposeM r a c0 h1).2.1] ∧ RbAt H' (rproposeM r a c0 h1).2.2 lv' dv ∧ Γ = [poolOf H']) := by
  have h0 := h
  have hnl := h.nl
  have hml := h.l
  have hz1 := u8s_len h1
  have hol := openR_len r
  have hzo := u8s_one h1
  obtain ⟨p, c, rfl, hc, hln, hr⟩ := rs.out h.l
  obtain ⟨p2, c2, rfl, hc2, hln2, hr2⟩ := rs.out h.d
  refine FnOk.intro 61 Go.Proofs.Try.func40 rfl rfl fun w0 => ?_
  (repeat (first | refine GK.ro ?_ | (refine GK.box ?_; intro bl) | (refine GK.mkMap ?_; intro bm) | (refine GK.build0 tb ?_; intro bs) | (refine GL.cons ?_; refine GO.alloc (by first | exact Wt.none | exact Wt.some rfl rfl (by first | exact rfl | decide +kernel)) (by exact rfl) ?_; intro ba) | (refine GL.cons ?_; refine Gt.storeAny tb 0 (by first | exact Wt.none | exact Wt.some rfl rfl (by first | exact rfl | decide +kernel)) (by exact rfl) (by exact rfl) (by exact rfl) (by assumption) (by assumption) (by exact rfl) (by first | exact rfl | assumption) ?_) | (refine GL.cons ?_; refine Gt.storeAny tb 1 (by first | exact Wt.none | exact Wt.some rfl rfl (by first | exact rfl | decide +kernel)) (by exact rfl) (by exact rfl) (by exact rfl) (by assumption) (by assumption) (by exact rfl) (by first | exact rfl | assumption) ?_) | (refine GL.cons ?_; refine Gt.storeAny tb 2 (by first | exact Wt.none | exact Wt.some rfl rfl (by first | exact rfl | decide +kernel)) (by exact rfl) (by exact rfl) (by exact rfl) (by assumption) (by assumption) (by exact rfl) (by first | exact rfl | assumption) ?_) | (refine GL.cons ?_; refine Gt.storeAny tb 3 (by first | exact Wt.none | exact Wt.some rfl rfl (by first | exact rfl | decide +kernel)) (by exact rfl) (by exact rfl) (by exact rfl) (by assumption) (by assumption) (by exact rfl) (by first | exact rfl | assumption) ?_) | (refine GL.cons ?_; refine Gt.storeAny tb 4 (by first | exact Wt.none | exact Wt.some rfl rfl (by first | exact rfl | decide +kernel)) (by exact rfl) (by exact rfl) (by exact rfl) (by assumption) (by assumption) (by exact rfl) (by first | exact rfl | assumption) ?_) | (refine GL.cons ?_; refine Gt.storeAny tb 5 (by first | exact Wt.none | exact Wt.some rfl rfl (by first | exact rfl | decide +kernel)) (by exact rfl) (by exact rfl) (by exact rfl) (by assumption) (by assumption) (by exact rfl) (by first | exact rfl | assumption) ?_) | (refine GL.cons ?_; refine Gt.storeAny tb 6 (by first | exact Wt.none | exact Wt.some rfl rfl (by first | exact rfl | decide +kernel)) (by exact rfl) (by exact rfl) (by exact rfl) (by assumption) (by assumption) (by exact rfl) (by first | exact rfl | assumption) ?_) | (refine GL.cons ?_; refine Gt.storeAny tb 7 (by first | exact Wt.none | exact Wt.some rfl rfl (by first | exact rfl | decide +kernel)) (by exact rfl) (by exact rfl) (by exact rfl) (by assumption) (by assumption) (by exact rfl) (by first | exact rfl | assumption) ?_) | (refine GL.cons ?_; refine Gt.storeAny tb 8 (by first | exact Wt.none | exact Wt.some rfl rfl (by first | exact rfl | decide +kernel)) (by exact rfl) (by exact rfl) (by exact rfl) (by assumption) (by assumption) (by exact rfl) (by first | exact rfl | assumption) ?_) | (refine GL.cons ?_; refine Gt.storeAny tb 9 (by first | exact Wt.none | exact Wt.some rfl rfl (by first | exact rfl | decide +kernel)) (by exact rfl) (by exact rfl) (by exact rfl) (by assumption) (by assumption) (by exact rfl) (by first | exact rfl | assumption) ?_)))
  rename_i b1
  refine GL.cons ?_; refine GO.callA (fun hF' hle hH => ropen_ok h0) (by first | exact Wt.none | exact Wt.some rfl rfl (by first | exact rfl | decide +kernel)) (by kernel_rfl) rfl rfl (by repeat (first | exact SubR.nil | apply SubR.cons 0 rfl | apply SubR.cons 1 rfl | apply SubR.cons 2 rfl | apply SubR.cons 3 rfl | apply SubR.cons 4 rfl | apply SubR.cons 5 rfl | apply SubR.cons 6 rfl | apply SubR.cons 7 rfl | apply SubR.cons 8 rfl | apply SubR.cons 9 rfl | apply SubR.cons 10 rfl | apply SubR.cons 11 rfl | apply SubR.cons 12 rfl | apply SubR.cons 13 rfl | apply SubR.cons 14 rfl | apply SubR.cons 15 rfl)) ?_
  rintro v Γ' rfl
  refine GK.pure (fun w s => (row_len s).1) ?_
  rintro ⟨wp, wc, rfl⟩
  (repeat (first | refine GK.ro ?_ | (refine GK.box ?_; intro bl) | (refine GK.mkMap ?_; intro bm) | (refine GK.build0 tb ?_; intro bs)))
  refine GK.weak (fr' := [(1, str a), (2, str c0), (4, .pointer (some ⟨b1, 0, none⟩)), (7, .pointer (some ⟨bl, 0, none⟩)), (8, .pointer (some ⟨ba, 0, none⟩)), (11, .slice wp (openR r).length wc), (12, .int .i64 ((0 : Nat) : Int))])
    (Γ' := [row (.slice wp (openR r).length wc) 3 1 (openR r).length (i64s (openR r)), blk b1 60 (0, 0) [.slice p r.L.length c, .slice p2 r.D.length c2], blk bl 23 (0, 0) (u8s h1), blk ba 60 (0, 0) [.slice none 0 0, .slice none 0 0], poolOf H]) (by repeat (first | exact trivial | refine ⟨rfl, ?_⟩)) (fun _ s => Sat.sub (by repeat (first | exact SubR.nil | apply SubR.cons 0 rfl | apply SubR.cons 1 rfl | apply SubR.cons 2 rfl | apply SubR.cons 3 rfl | apply SubR.cons 4 rfl | apply SubR.cons 5 rfl | apply SubR.cons 6 rfl | apply SubR.cons 7 rfl | apply SubR.cons 8 rfl | apply SubR.cons 9 rfl | apply SubR.cons 10 rfl | apply SubR.cons 11 rfl | apply SubR.cons 12 rfl | apply SubR.cons 13 rfl | apply SubR.cons 14 rfl | apply SubR.cons 15 rfl)) s)
    (G.loopN (X := Nat) (fun j => (openR r).length - j) (fun j => [(1, str a), (2, str c0), (4, .pointer (some ⟨b1, 0, none⟩)), (7, .pointer (some ⟨bl, 0, none⟩)), (8, .pointer (some ⟨ba, 0, none⟩)), (11, .slice wp (openR r).length wc), (12, .int .i64 (j : Int))])
    (fun _ => [row (.slice wp (openR r).length wc) 3 1 (openR r).length (i64s (openR r)), blk b1 60 (0, 0) [.slice p r.L.length c, .slice p2 r.D.length c2], blk bl 23 (0, 0) (u8s h1), blk ba 60 (0, 0) [.slice none 0 0, .slice none 0 0], poolOf H])
    (fun j => j ≤ (openR r).length ∧ ∀ i < j, ∀ n, (openR r)[i]? = some n → sameMade c0 h1 r n = false) (fun j hj q hq => ?_) 0 ⟨Nat.zero_le _, fun i hi => by omega⟩)
  obtain ⟨hj, hno⟩ := hj
  (repeat (first | refine GK.ro ?_ | (refine GK.box ?_; intro bl) | (refine GK.mkMap ?_; intro bm) | (refine GK.build0 tb ?_; intro bs)))
  (first | refine G.condP rfl (fun hb => ?_) (fun hb => ?_) | refine G.condN rfl (fun hb => ?_) (fun hb => ?_) | refine G.cond rfl (fun hb => ?_) (fun hb => ?_))
  · obtain ⟨n, hnj⟩ : ∃ n, (openR r)[j]? = some n := ⟨_, List.getElem?_eq_getElem (by omega)⟩
    have hlt : j < (openR r).length := by omega
    obtain ⟨g1, g2⟩ := openR_in (List.mem_of_getElem? hnj)
    obtain ⟨m, hm⟩ : ∃ m, r.L[(n - 1).toNat]? = some m := ⟨_, List.getElem?_eq_getElem (by omega)⟩
    have hmh := h0.h m (List.mem_of_getElem? hm)
    clear hb
    refine GK.rowPtr 0 rfl (by omega) fun b3 hp => ?_
    subst hp
    have kn : (i64s (openR r))[0 + (j : Int).toNat * 1]? = some (.int .i64 n) := by rw [show 0 + (j : Int).toNat * 1 = j by omega]; exact i64s_get hnj
    obtain ⟨b4, o4, cs4, et4, fz4, rfl, hb4, hat4⟩ := hr (by omega)
    have hA : At cs4 (o4 + (n - 1).toNat * 34) (madeC m) := fun i w hw => by
      have := hat4 ((n - 1).toNat * 34 + i) w (mades_at h0.h hm i w hw)
      rw [show o4 + (n - 1).toNat * 34 + i = o4 + ((n - 1).toNat * 34 + i) by omega]; exact this
    have e1 := madeC_len hmh
    have e2 := madeC_one m
    have e3 := madeC_c m
    have e4 := madeC_h m
    have y1 : (u8s m.h).length = 32 := by rw [u8s_len, hmh]
    have y2 : (u8s h1).length = 32 := by rw [u8s_len, hh]
    have y3 : At (u8s h1) 0 (u8s h1) := At.all _
    have hE := eq_hash hmh hh
    (repeat (first | refine GK.ro ?_ | (refine GK.box ?_; intro bl) | (refine GK.mkMap ?_; intro bm) | (refine GK.build0 tb ?_; intro bs)))
    refine G.draw [] [row (.slice (some ⟨b3, 0, none⟩) (openR r).length wc) 3 1 (openR r).length (i64s (openR r)), blk b1 60 (0, 0) [.slice (some ⟨b4, o4, none⟩) r.L.length c, .slice p2 r.D.length c2], poolOf H] (by kernel_rfl) ?_
    ((first | refine GH.to 0 ?_ | refine GH.tos 0 ?_); (first | refine GH.to 1 ?_ | refine GH.tos 1 ?_); (first | refine GH.to 2 ?_ | refine GH.tos 2 ?_); (first | refine GH.to 3 ?_ | refine GH.tos 3 ?_); (first | refine GH.to 4 ?_ | refine GH.tos 4 ?_); (first | refine GH.to 5 ?_ | refine GH.tos 5 ?_); (first | refine GH.to 6 ?_ | refine GH.tos 6 ?_); (first | refine GH.to 7 ?_ | refine GH.tos 7 ?_); (first | refine GH.to 8 ?_ | refine GH.tos 8 ?_))
    refine GH.step 9 rfl (by kernel_rfl) ?_
    refine GO.alloc (l := madeZ) (by first | exact Wt.none | exact Wt.some rfl rfl (by first | exact rfl | decide +kernel)) (by kernel_rfl) ?_
    intro bm
    refine GH.keep (fun _ s => Sat.sub (by repeat (first | exact SubR.nil | apply SubR.cons 0 rfl | apply SubR.cons 1 rfl | apply SubR.cons 2 rfl | apply SubR.cons 3 rfl | apply SubR.cons 4 rfl | apply SubR.cons 5 rfl | apply SubR.cons 6 rfl | apply SubR.cons 7 rfl | apply SubR.cons 8 rfl | apply SubR.cons 9 rfl | apply SubR.cons 10 rfl | apply SubR.cons 11 rfl | apply SubR.cons 12 rfl | apply SubR.cons 13 rfl | apply SubR.cons 14 rfl | apply SubR.cons 15 rfl)) s) ?_
    refine GH.step 10 rfl (by kernel_rfl) ?_
    refine Gt.storeAny tb 0 (by first | exact Wt.none | exact Wt.some rfl rfl (by first | exact rfl | decide +kernel)) rfl rfl rfl e1 e2 rfl madeZ_len ?_
    refine GH.keep (fun _ s => Sat.sub (by repeat (first | exact SubR.nil | apply SubR.cons 0 rfl | apply SubR.cons 1 rfl | apply SubR.cons 2 rfl | apply SubR.cons 3 rfl | apply SubR.cons 4 rfl | apply SubR.cons 5 rfl | apply SubR.cons 6 rfl | apply SubR.cons 7 rfl | apply SubR.cons 8 rfl | apply SubR.cons 9 rfl | apply SubR.cons 10 rfl | apply SubR.cons 11 rfl | apply SubR.cons 12 rfl | apply SubR.cons 13 rfl | apply SubR.cons 14 rfl | apply SubR.cons 15 rfl)) s) ?_
    refine GH.fin (by kernel_rfl) ?_
    have hsm : sameMade c0 h1 r n = ((m.c == c0) && (m.h == h1)) := by unfold sameMade; rw [hm]
    have hnext : sameMade c0 h1 r n = false → ∀ i < j + 1, ∀ k, (openR r)[i]? = some k → sameMade c0 h1 r k = false := fun hf i hi k hk => by
      rcases Nat.lt_or_ge i j with q | q
      · exact hno i q k hk
      · obtain rfl : i = j := by omega
        rw [hnj] at hk; cases hk; exact hf
    by_cases hcc : m.c = c0
    · have hcb : (m.c == c0) = true := by simp [hcc]
      by_cases hhh : m.h = h1
      · have hhb : (m.h == h1) = true := by simp [hhh]
        (repeat (first | refine GK.ro ?_ | (refine GK.box ?_; intro bl) | (refine GK.mkMap ?_; intro bm) | (refine GK.build0 tb ?_; intro bs)))
        refine GL.cons ?_; refine Gt.storeAny tb 4 (by first | exact Wt.none | exact Wt.some rfl rfl (by first | exact rfl | decide +kernel)) rfl rfl rfl rfl (one_of_all rfl) rfl rfl ?_
        (repeat (first | refine GK.ro ?_ | (refine GK.box ?_; intro bl) | (refine GK.mkMap ?_; intro bm) | (refine GK.build0 tb ?_; intro bs)))
        have hany : (openR r).any (sameMade c0 h1 r) = true := List.any_eq_true.2 ⟨n, List.mem_of_getElem? hnj, by rw [hsm, hcb, hhb]; rfl⟩
        rw [show rproposeM r a c0 h1 = (0, 110, r) from if_pos hany]
        exact GQ.fin3 rfl (Rv.row rfl (by kernel_rfl) (by kernel_rfl) (Rd.blk 4 rfl) (At.all _)) (Rv.tmp rfl) (Rv.tmp rfl) (fun _ s => Sat.sub (by repeat (first | exact SubR.nil | apply SubR.cons 0 rfl | apply SubR.cons 1 rfl | apply SubR.cons 2 rfl | apply SubR.cons 3 rfl | apply SubR.cons 4 rfl | apply SubR.cons 5 rfl | apply SubR.cons 6 rfl | apply SubR.cons 7 rfl | apply SubR.cons 8 rfl | apply SubR.cons 9 rfl | apply SubR.cons 10 rfl | apply SubR.cons 11 rfl | apply SubR.cons 12 rfl | apply SubR.cons 13 rfl | apply SubR.cons 14 rfl | apply SubR.cons 15 rfl)) s) ⟨H, .slice (some ⟨b4, o4, none⟩) r.L.length c, le.refl _, rfl, h0, rfl⟩
      · have hhb : (m.h == h1) = false := by simp [hhh]
        (repeat (first | refine GK.ro ?_ | (refine GK.box ?_; intro bl) | (refine GK.mkMap ?_; intro bm) | (refine GK.build0 tb ?_; intro bs)))
        (refine GQ.againN (j + 1) ?_ ?_ ?_ ?_; rotate_left; (first | omega | (dsimp only; omega)); exact (by repeat (first | exact trivial | refine ⟨rfl, ?_⟩)); exact (fun _ s => Sat.sub (by repeat (first | exact SubR.nil | apply SubR.cons 0 rfl | apply SubR.cons 1 rfl | apply SubR.cons 2 rfl | apply SubR.cons 3 rfl | apply SubR.cons 4 rfl | apply SubR.cons 5 rfl | apply SubR.cons 6 rfl | apply SubR.cons 7 rfl | apply SubR.cons 8 rfl | apply SubR.cons 9 rfl | apply SubR.cons 10 rfl | apply SubR.cons 11 rfl | apply SubR.cons 12 rfl | apply SubR.cons 13 rfl | apply SubR.cons 14 rfl | apply SubR.cons 15 rfl)) s))
        exact ⟨by omega, hnext (by rw [hsm, hhb]; simp)⟩
    · have hcb : (m.c == c0) = false := by simp [hcc]
      (repeat (first | refine GK.ro ?_ | (refine GK.box ?_; intro bl) | (refine GK.mkMap ?_; intro bm) | (refine GK.build0 tb ?_; intro bs)))
      (refine GQ.againN (j + 1) ?_ ?_ ?_ ?_; rotate_left; (first | omega | (dsimp only; omega)); exact (by repeat (first | exact trivial | refine ⟨rfl, ?_⟩)); exact (fun _ s => Sat.sub (by repeat (first | exact SubR.nil | apply SubR.cons 0 rfl | apply SubR.cons 1 rfl | apply SubR.cons 2 rfl | apply SubR.cons 3 rfl | apply SubR.cons 4 rfl | apply SubR.cons 5 rfl | apply SubR.cons 6 rfl | apply SubR.cons 7 rfl | apply SubR.cons 8 rfl | apply SubR.cons 9 rfl | apply SubR.cons 10 rfl | apply SubR.cons 11 rfl | apply SubR.cons 12 rfl | apply SubR.cons 13 rfl | apply SubR.cons 14 rfl | apply SubR.cons 15 rfl)) s))
      exact ⟨by omega, hnext (by rw [hsm, hcb]; rfl)⟩
  · have hany : (openR r).any (sameMade c0 h1 r) = false := by
      rw [List.any_eq_false]
      intro n hn
      obtain ⟨i, hi⟩ := List.getElem?_of_mem hn
      have := (List.getElem?_eq_some_iff.1 hi).1
      rw [hno i (by omega) n hi]; decide
    (repeat (first | refine GK.ro ?_ | (refine GK.box ?_; intro bl) | (refine GK.mkMap ?_; intro bm) | (refine GK.build0 tb ?_; intro bs)))
    (first | refine G.condP rfl (fun hb => ?_) (fun hb => ?_) | refine G.condN rfl (fun hb => ?_) (fun hb => ?_) | refine G.cond rfl (fun hb => ?_) (fun hb => ?_))
    · (repeat (first | refine GK.ro ?_ | (refine GK.box ?_; intro bl) | (refine GK.mkMap ?_; intro bm) | (refine GK.build0 tb ?_; intro bs)))
      refine GL.cons ?_; refine Gt.storeAny tb 3 (by first | exact Wt.none | exact Wt.some rfl rfl (by first | exact rfl | decide +kernel)) rfl rfl rfl rfl (one_of_all rfl) rfl rfl ?_
      (repeat (first | refine GK.ro ?_ | (refine GK.box ?_; intro bl) | (refine GK.mkMap ?_; intro bm) | (refine GK.build0 tb ?_; intro bs)))
      rw [show rproposeM r a c0 h1 = (0, 3, r) from by unfold rproposeM; rw [if_neg (by rw [hany]; decide), if_pos (by omega)]]
      exact GQ.fin3 rfl (Rv.row rfl (by kernel_rfl) (by kernel_rfl) (Rd.blk 3 rfl) (At.all _)) (Rv.tmp rfl) (Rv.tmp rfl) (fun _ s => Sat.sub (by repeat (first | exact SubR.nil | apply SubR.cons 0 rfl | apply SubR.cons 1 rfl | apply SubR.cons 2 rfl | apply SubR.cons 3 rfl | apply SubR.cons 4 rfl | apply SubR.cons 5 rfl | apply SubR.cons 6 rfl | apply SubR.cons 7 rfl | apply SubR.cons 8 rfl | apply SubR.cons 9 rfl | apply SubR.cons 10 rfl | apply SubR.cons 11 rfl | apply SubR.cons 12 rfl | apply SubR.cons 13 rfl | apply SubR.cons 14 rfl | apply SubR.cons 15 rfl)) s) ⟨H, .slice p r.L.length c, le.refl _, rfl, h0, rfl⟩
    · (repeat (first | refine GK.ro ?_ | (refine GK.box ?_; intro bl) | (refine GK.mkMap ?_; intro bm) | (refine GK.build0 tb ?_; intro bs)))
      rename_i hb9
      have hsz : ([Value.agg ⟨madeC ⟨a, c0, h1⟩⟩].all fun v => Nat.beq v.cells.size (33 + 1)) = true := by
        show (Nat.beq (madeC ⟨a, c0, h1⟩).length 34 && true) = true
        rw [madeC_len hh]; rfl
      have hcl : [Value.agg ⟨madeC ⟨a, c0, h1⟩⟩].flatMap (fun v => v.cells.toList) = madeC ⟨a, c0, h1⟩ := by
        show madeC ⟨a, c0, h1⟩ ++ [] = _
        rw [List.append_nil]
      have y2 : (u8s h1).length = 32 := by rw [u8s_len, hh]
      have y3 : At (u8s h1) 0 (u8s h1) := At.all _
      refine GK.heap (Γ' := [blk b1 60 (0, 0) [.slice p r.L.length c, .slice p2 r.D.length c2], blk bl 23 (0, 0) (u8s h1), blk ba 60 (0, 0) [.slice none 0 0, .slice none 0 0], poolOf H]) (fun _ s => Sat.sub (by repeat (first | exact SubR.nil | apply SubR.cons 0 rfl | apply SubR.cons 1 rfl | apply SubR.cons 2 rfl | apply SubR.cons 3 rfl | apply SubR.cons 4 rfl | apply SubR.cons 5 rfl | apply SubR.cons 6 rfl | apply SubR.cons 7 rfl | apply SubR.cons 8 rfl | apply SubR.cons 9 rfl | apply SubR.cons 10 rfl | apply SubR.cons 11 rfl | apply SubR.cons 12 rfl | apply SubR.cons 13 rfl | apply SubR.cons 14 rfl | apply SubR.cons 15 rfl)) s) ?_
      refine G.draw [11] [blk b1 60 (0, 0) [.slice p r.L.length c, .slice p2 r.D.length c2], blk bl 23 (0, 0) (u8s h1)] (by kernel_rfl) ?_
      ((first | refine GH.to 1 ?_ | refine GH.tos 1 ?_); (first | refine GH.to 2 ?_ | refine GH.tos 2 ?_); (first | refine GH.to 4 ?_ | refine GH.tos 4 ?_); (first | refine GH.to 5 ?_ | refine GH.tos 5 ?_); (first | refine GH.to 6 ?_ | refine GH.tos 6 ?_))
      refine GH.take 7 rfl (by kernel_rfl) (by first | exact Wt.none | exact Wt.some rfl rfl (by first | exact rfl | decide +kernel)) (fun _ s => Sat.sub (by repeat (first | exact SubR.nil | apply SubR.cons 0 rfl | apply SubR.cons 1 rfl | apply SubR.cons 2 rfl | apply SubR.cons 3 rfl | apply SubR.cons 4 rfl | apply SubR.cons 5 rfl | apply SubR.cons 6 rfl | apply SubR.cons 7 rfl | apply SubR.cons 8 rfl | apply SubR.cons 9 rfl | apply SubR.cons 10 rfl | apply SubR.cons 11 rfl | apply SubR.cons 12 rfl | apply SubR.cons 13 rfl | apply SubR.cons 14 rfl | apply SubR.cons 15 rfl)) s) (Yl.buildStruct (ps := [(0, 1), (1, 1), (2, 32)]) (zl := madeZ) (by kernel_rfl) (by kernel_rfl) rfl (fill_made hh)) ?_
      refine GH.step2 0 8 rfl rfl (by kernel_rfl) ?_ ?_
      · refine Gt.build0 tb (by first | exact Wt.none | exact Wt.some rfl rfl (by first | exact rfl | decide +kernel)) rfl rfl ?_
        intro s1
        refine GH.keep (fun _ s => Sat.sub (by repeat (first | exact SubR.nil | apply SubR.cons 0 rfl | apply SubR.cons 1 rfl | apply SubR.cons 2 rfl | apply SubR.cons 3 rfl | apply SubR.cons 4 rfl | apply SubR.cons 5 rfl | apply SubR.cons 6 rfl | apply SubR.cons 7 rfl | apply SubR.cons 8 rfl | apply SubR.cons 9 rfl | apply SubR.cons 10 rfl | apply SubR.cons 11 rfl | apply SubR.cons 12 rfl | apply SubR.cons 13 rfl | apply SubR.cons 14 rfl | apply SubR.cons 15 rfl)) s) ?_
        refine GH.heap (Γ' := [row (.slice (some ⟨s1, 0, none⟩) 0 0) 95 34 0 [], poolOf H, blk b1 60 (0, 0) [.slice p r.L.length c, .slice p2 r.D.length c2], blk bl 23 (0, 0) (u8s h1), blk ba 60 (0, 0) [.slice none 0 0, .slice none 0 0]]) (fun _ s => Sat.sub (by repeat (first | exact SubR.nil | apply SubR.cons 0 rfl | apply SubR.cons 1 rfl | apply SubR.cons 2 rfl | apply SubR.cons 3 rfl | apply SubR.cons 4 rfl | apply SubR.cons 5 rfl | apply SubR.cons 6 rfl | apply SubR.cons 7 rfl | apply SubR.cons 8 rfl | apply SubR.cons 9 rfl | apply SubR.cons 10 rfl | apply SubR.cons 11 rfl | apply SubR.cons 12 rfl | apply SubR.cons 13 rfl | apply SubR.cons 14 rfl | apply SubR.cons 15 rfl)) s) ?_
        refine GH.step2 3 8 rfl rfl (by kernel_rfl) ?_ ?_
        · refine Gt.append0 tb 0 (m := r.L.length) (by first | exact Wt.none | exact Wt.some rfl rfl (by first | exact rfl | decide +kernel)) rfl (.inl ⟨_, rfl⟩) rfl rfl rfl rfl rfl (RS.src (RS.pool 1 rfl hml) (mades_one r.L) hln ⟨_, _, rfl⟩) (by omega) (by omega) ?_
          intro qa da
          refine GH.keep (fun _ s => Sat.sub (by repeat (first | exact SubR.nil | apply SubR.cons 0 rfl | apply SubR.cons 1 rfl | apply SubR.cons 2 rfl | apply SubR.cons 3 rfl | apply SubR.cons 4 rfl | apply SubR.cons 5 rfl | apply SubR.cons 6 rfl | apply SubR.cons 7 rfl | apply SubR.cons 8 rfl | apply SubR.cons 9 rfl | apply SubR.cons 10 rfl | apply SubR.cons 11 rfl | apply SubR.cons 12 rfl | apply SubR.cons 13 rfl | apply SubR.cons 14 rfl | apply SubR.cons 15 rfl)) s) ?_
          refine GH.step 8 rfl (by kernel_rfl) ?_
          refine Gt.buildLit tb (sz := 33) (n := 0) (cells := madeC ⟨a, c0, h1⟩) (by first | exact Wt.none | exact Wt.some rfl rfl (by first | exact rfl | decide +kernel)) rfl rfl (by kernel_rfl) rfl rfl rfl hsz rfl hcl ?_
          intro bx
          refine GH.keep (fun _ s => Sat.sub (by repeat (first | exact SubR.nil | apply SubR.cons 0 rfl | apply SubR.cons 1 rfl | apply SubR.cons 2 rfl | apply SubR.cons 3 rfl | apply SubR.cons 4 rfl | apply SubR.cons 5 rfl | apply SubR.cons 6 rfl | apply SubR.cons 7 rfl | apply SubR.cons 8 rfl | apply SubR.cons 9 rfl | apply SubR.cons 10 rfl | apply SubR.cons 11 rfl | apply SubR.cons 12 rfl | apply SubR.cons 13 rfl | apply SubR.cons 14 rfl | apply SubR.cons 15 rfl)) s) ?_
          refine GH.heap (Γ' := [blk bx 95 (0, 0) (madeC ⟨a, c0, h1⟩), row (.slice qa r.L.length da) 95 34 r.L.length (mades r.L), blk b1 60 (0, 0) [.slice p r.L.length c, .slice p2 r.D.length c2], blk bl 23 (0, 0) (u8s h1), blk ba 60 (0, 0) [.slice none 0 0, .slice none 0 0], poolOf H]) (fun _ s => Sat.sub (by repeat (first | exact SubR.nil | apply SubR.cons 0 rfl | apply SubR.cons 1 rfl | apply SubR.cons 2 rfl | apply SubR.cons 3 rfl | apply SubR.cons 4 rfl | apply SubR.cons 5 rfl | apply SubR.cons 6 rfl | apply SubR.cons 7 rfl | apply SubR.cons 8 rfl | apply SubR.cons 9 rfl | apply SubR.cons 10 rfl | apply SubR.cons 11 rfl | apply SubR.cons 12 rfl | apply SubR.cons 13 rfl | apply SubR.cons 14 rfl | apply SubR.cons 15 rfl)) s) ?_
          refine GH.step 9 rfl (by kernel_rfl) ?_
          refine Gt.append tb 1 (by first | exact Wt.none | exact Wt.some rfl rfl (by first | exact rfl | decide +kernel)) rfl (.inl ⟨_, rfl⟩) rfl rfl rfl rfl rfl (Src.slice (m := 1) (Rd.blk 0 rfl) (At.all _) (madeC_len hh) (madeC_one _)) (by omega) (by omega) ?_
          intro qb db
          refine GH.keep (fun _ s => Sat.sub (by repeat (first | exact SubR.nil | apply SubR.cons 0 rfl | apply SubR.cons 1 rfl | apply SubR.cons 2 rfl | apply SubR.cons 3 rfl | apply SubR.cons 4 rfl | apply SubR.cons 5 rfl | apply SubR.cons 6 rfl | apply SubR.cons 7 rfl | apply SubR.cons 8 rfl | apply SubR.cons 9 rfl | apply SubR.cons 10 rfl | apply SubR.cons 11 rfl | apply SubR.cons 12 rfl | apply SubR.cons 13 rfl | apply SubR.cons 14 rfl | apply SubR.cons 15 rfl)) s) ?_
          rw [show mades r.L ++ madeC ⟨a, c0, h1⟩ = mades (r.L ++ [⟨a, c0, h1⟩]) from by rw [mades_append, mades_sing]]
          refine GH.weak (fr' := [(4, .pointer (some ⟨b1, 0, none⟩)), (8, .pointer (some ⟨ba, 0, none⟩)), (55, .slice qb (r.L.length + 1) db)]) (Γ' := [blk b1 60 (0, 0) [.slice p r.L.length c, .slice p2 r.D.length c2], blk ba 60 (0, 0) [.slice none 0 0, .slice none 0 0], row (.slice qb (r.L.length + 1) db) 95 34 (r.L.length + 1) (mades (r.L ++ [⟨a, c0, h1⟩])), blk bl 23 (0, 0) (u8s h1), poolOf H]) (by repeat (first | exact trivial | refine ⟨rfl, ?_⟩)) (fun _ s => Sat.sub (by repeat (first | exact SubR.nil | apply SubR.cons 0 rfl | apply SubR.cons 1 rfl | apply SubR.cons 2 rfl | apply SubR.cons 3 rfl | apply SubR.cons 4 rfl | apply SubR.cons 5 rfl | apply SubR.cons 6 rfl | apply SubR.cons 7 rfl | apply SubR.cons 8 rfl | apply SubR.cons 9 rfl | apply SubR.cons 10 rfl | apply SubR.cons 11 rfl | apply SubR.cons 12 rfl | apply SubR.cons 13 rfl | apply SubR.cons 14 rfl | apply SubR.cons 15 rfl)) s) ?_
          ((first | refine GH.to 10 ?_ | refine GH.tos 10 ?_))
          refine GH.step 11 rfl (by kernel_rfl) ?_
          refine Gt.storeAt tb 0 (by first | exact Wt.none | exact Wt.some rfl rfl (by first | exact rfl | decide +kernel)) rfl rfl rfl rfl rfl (by show 0 + 0 < 2; omega) rfl ?_
          refine GH.on rfl ?_
          refine GH.fin (by kernel_rfl) ?_
          refine GK.heap (Γ' := [poolOf H, row (.slice qb (r.L.length + 1) db) 95 34 (r.L.length + 1) (mades (r.L ++ [⟨a, c0, h1⟩])), blk b1 60 (0, 0) [.slice qb (r.L.length + 1) db, .slice p2 r.D.length c2], blk ba 60 (0, 0) [.slice none 0 0, .slice none 0 0]]) (fun _ s => Sat.sub (by repeat (first | exact SubR.nil | apply SubR.cons 0 rfl | apply SubR.cons 1 rfl | apply SubR.cons 2 rfl | apply SubR.cons 3 rfl | apply SubR.cons 4 rfl | apply SubR.cons 5 rfl | apply SubR.cons 6 rfl | apply SubR.cons 7 rfl | apply SubR.cons 8 rfl | apply SubR.cons 9 rfl | apply SubR.cons 10 rfl | apply SubR.cons 11 rfl | apply SubR.cons 12 rfl | apply SubR.cons 13 rfl | apply SubR.cons 14 rfl | apply SubR.cons 15 rfl)) s) ?_
          refine GK.absorb fun H1 k1 l1 a1 m1 => ?_
          have gd := row_in a1 m1
          (repeat (first | refine GK.ro ?_ | (refine GK.box ?_; intro bl) | (refine GK.mkMap ?_; intro bm) | (refine GK.build0 tb ?_; intro bs)))
          refine G.draw [] [blk b1 60 (0, 0) [.slice qb (r.L.length + 1) db, .slice p2 r.D.length c2], poolOf H1] (by kernel_rfl) ?_
          ((first | refine GH.to 0 ?_ | refine GH.tos 0 ?_); (first | refine GH.to 1 ?_ | refine GH.tos 1 ?_); (first | refine GH.to 2 ?_ | refine GH.tos 2 ?_); (first | refine GH.to 3 ?_ | refine GH.tos 3 ?_))
          refine GH.step 4 rfl (by kernel_rfl) ?_
          refine Gt.storeAny tb 2 (by first | exact Wt.none | exact Wt.some rfl rfl (by first | exact rfl | decide +kernel)) rfl rfl rfl rfl (one_of_all rfl) rfl rfl ?_
          refine GH.keep (fun _ s => Sat.sub (by repeat (first | exact SubR.nil | apply SubR.cons 0 rfl | apply SubR.cons 1 rfl | apply SubR.cons 2 rfl | apply SubR.cons 3 rfl | apply SubR.cons 4 rfl | apply SubR.cons 5 rfl | apply SubR.cons 6 rfl | apply SubR.cons 7 rfl | apply SubR.cons 8 rfl | apply SubR.cons 9 rfl | apply SubR.cons 10 rfl | apply SubR.cons 11 rfl | apply SubR.cons 12 rfl | apply SubR.cons 13 rfl | apply SubR.cons 14 rfl | apply SubR.cons 15 rfl)) s) ?_
          ((first | refine GH.to 5 ?_ | refine GH.tos 5 ?_); (first | refine GH.to 6 ?_ | refine GH.tos 6 ?_))
          refine GH.fin (by kernel_rfl) ?_
          (repeat (first | refine GK.ro ?_ | (refine GK.box ?_; intro bl) | (refine GK.mkMap ?_; intro bm) | (refine GK.build0 tb ?_; intro bs)))
          rw [show rproposeM r a c0 h1 = ((r.L.length : Int) + 1, 0, ⟨r.L ++ [⟨a, c0, h1⟩], r.D⟩) from by unfold rproposeM; rw [if_neg (by rw [hany]; decide), if_neg (by omega)]]
          rw [show ((r.L.length + 1 : Nat) : Int) = (r.L.length : Int) + 1 by omega]
          exact GQ.fin3 rfl (Rv.row rfl (by kernel_rfl) (by kernel_rfl) (Rd.blk 2 rfl) (At.all _)) (Rv.tmp rfl) (Rv.tmp rfl) (fun _ s => Sat.sub (by repeat (first | exact SubR.nil | apply SubR.cons 0 rfl | apply SubR.cons 1 rfl | apply SubR.cons 2 rfl | apply SubR.cons 3 rfl | apply SubR.cons 4 rfl | apply SubR.cons 5 rfl | apply SubR.cons 6 rfl | apply SubR.cons 7 rfl | apply SubR.cons 8 rfl | apply SubR.cons 9 rfl | apply SubR.cons 10 rfl | apply SubR.cons 11 rfl | apply SubR.cons 12 rfl | apply SubR.cons 13 rfl | apply SubR.cons 14 rfl | apply SubR.cons 15 rfl)) s) ⟨H1, .slice qb (r.L.length + 1) db, l1, rfl, rb_made h0 l1 hh gd (by omega), rfl⟩
        · refine Gt.buildLit tb (sz := 33) (n := 0) (cells := madeC ⟨a, c0, h1⟩) (by first | exact Wt.none | exact Wt.some rfl rfl (by first | exact rfl | decide +kernel)) rfl rfl (by kernel_rfl) rfl rfl rfl hsz rfl hcl ?_
          intro bx
          refine GH.keep (fun _ s => Sat.sub (by repeat (first | exact SubR.nil | apply SubR.cons 0 rfl | apply SubR.cons 1 rfl | apply SubR.cons 2 rfl | apply SubR.cons 3 rfl | apply SubR.cons 4 rfl | apply SubR.cons 5 rfl | apply SubR.cons 6 rfl | apply SubR.cons 7 rfl | apply SubR.cons 8 rfl | apply SubR.cons 9 rfl | apply SubR.cons 10 rfl | apply SubR.cons 11 rfl | apply SubR.cons 12 rfl | apply SubR.cons 13 rfl | apply SubR.cons 14 rfl | apply SubR.cons 15 rfl)) s) ?_
          refine GH.heap (Γ' := [row (.slice (some ⟨s1, 0, none⟩) 0 0) 95 34 0 [], poolOf H, blk bx 95 (0, 0) (madeC ⟨a, c0, h1⟩), blk b1 60 (0, 0) [.slice p r.L.length c, .slice p2 r.D.length c2], blk bl 23 (0, 0) (u8s h1), blk ba 60 (0, 0) [.slice none 0 0, .slice none 0 0]]) (fun _ s => Sat.sub (by repeat (first | exact SubR.nil | apply SubR.cons 0 rfl | apply SubR.cons 1 rfl | apply SubR.cons 2 rfl | apply SubR.cons 3 rfl | apply SubR.cons 4 rfl | apply SubR.cons 5 rfl | apply SubR.cons 6 rfl | apply SubR.cons 7 rfl | apply SubR.cons 8 rfl | apply SubR.cons 9 rfl | apply SubR.cons 10 rfl | apply SubR.cons 11 rfl | apply SubR.cons 12 rfl | apply SubR.cons 13 rfl | apply SubR.cons 14 rfl | apply SubR.cons 15 rfl)) s) ?_
          refine GH.step 3 rfl (by kernel_rfl) ?_
          refine Gt.append0 tb 0 (m := r.L.length) (by first | exact Wt.none | exact Wt.some rfl rfl (by first | exact rfl | decide +kernel)) rfl (.inl ⟨_, rfl⟩) rfl rfl rfl rfl rfl (RS.src (RS.pool 1 rfl hml) (mades_one r.L) hln ⟨_, _, rfl⟩) (by omega) (by omega) ?_
          intro qa da
          refine GH.keep (fun _ s => Sat.sub (by repeat (first | exact SubR.nil | apply SubR.cons 0 rfl | apply SubR.cons 1 rfl | apply SubR.cons 2 rfl | apply SubR.cons 3 rfl | apply SubR.cons 4 rfl | apply SubR.cons 5 rfl | apply SubR.cons 6 rfl | apply SubR.cons 7 rfl | apply SubR.cons 8 rfl | apply SubR.cons 9 rfl | apply SubR.cons 10 rfl | apply SubR.cons 11 rfl | apply SubR.cons 12 rfl | apply SubR.cons 13 rfl | apply SubR.cons 14 rfl | apply SubR.cons 15 rfl)) s) ?_
          refine GH.heap (Γ' := [blk bx 95 (0, 0) (madeC ⟨a, c0, h1⟩), row (.slice qa r.L.length da) 95 34 r.L.length (mades r.L), blk b1 60 (0, 0) [.slice p r.L.length c, .slice p2 r.D.length c2], blk bl 23 (0, 0) (u8s h1), blk ba 60 (0, 0) [.slice none 0 0, .slice none 0 0], poolOf H]) (fun _ s => Sat.sub (by repeat (first | exact SubR.nil | apply SubR.cons 0 rfl | apply SubR.cons 1 rfl | apply SubR.cons 2 rfl | apply SubR.cons 3 rfl | apply SubR.cons 4 rfl | apply SubR.cons 5 rfl | apply SubR.cons 6 rfl | apply SubR.cons 7 rfl | apply SubR.cons 8 rfl | apply SubR.cons 9 rfl | apply SubR.cons 10 rfl | apply SubR.cons 11 rfl | apply SubR.cons 12 rfl | apply SubR.cons 13 rfl | apply SubR.cons 14 rfl | apply SubR.cons 15 rfl)) s) ?_
          refine GH.step 9 rfl (by kernel_rfl) ?_
          refine Gt.append tb 1 (by first | exact Wt.none | exact Wt.some rfl rfl (by first | exact rfl | decide +kernel)) rfl (.inl ⟨_, rfl⟩) rfl rfl rfl rfl rfl (Src.slice (m := 1) (Rd.blk 0 rfl) (At.all _) (madeC_len hh) (madeC_one _)) (by omega) (by omega) ?_
          intro qb db
          refine GH.keep (fun _ s => Sat.sub (by repeat (first | exact SubR.nil | apply SubR.cons 0 rfl | apply SubR.cons 1 rfl | apply SubR.cons 2 rfl | apply SubR.cons 3 rfl | apply SubR.cons 4 rfl | apply SubR.cons 5 rfl | apply SubR.cons 6 rfl | apply SubR.cons 7 rfl | apply SubR.cons 8 rfl | apply SubR.cons 9 rfl | apply SubR.cons 10 rfl | apply SubR.cons 11 rfl | apply SubR.cons 12 rfl | apply SubR.cons 13 rfl | apply SubR.cons 14 rfl | apply SubR.cons 15 rfl)) s) ?_
          rw [show mades r.L ++ madeC ⟨a, c0, h1⟩ = mades (r.L ++ [⟨a, c0, h1⟩]) from by rw [mades_append, mades_sing]]
          refine GH.weak (fr' := [(4, .pointer (some ⟨b1, 0, none⟩)), (8, .pointer (some ⟨ba, 0, none⟩)), (55, .slice qb (r.L.length + 1) db)]) (Γ' := [blk b1 60 (0, 0) [.slice p r.L.length c, .slice p2 r.D.length c2], blk ba 60 (0, 0) [.slice none 0 0, .slice none 0 0], row (.slice qb (r.L.length + 1) db) 95 34 (r.L.length + 1) (mades (r.L ++ [⟨a, c0, h1⟩])), blk bl 23 (0, 0) (u8s h1), poolOf H]) (by repeat (first | exact trivial | refine ⟨rfl, ?_⟩)) (fun _ s => Sat.sub (by repeat (first | exact SubR.nil | apply SubR.cons 0 rfl | apply SubR.cons 1 rfl | apply SubR.cons 2 rfl | apply SubR.cons 3 rfl | apply SubR.cons 4 rfl | apply SubR.cons 5 rfl | apply SubR.cons 6 rfl | apply SubR.cons 7 rfl | apply SubR.cons 8 rfl | apply SubR.cons 9 rfl | apply SubR.cons 10 rfl | apply SubR.cons 11 rfl | apply SubR.cons 12 rfl | apply SubR.cons 13 rfl | apply SubR.cons 14 rfl | apply SubR.cons 15 rfl)) s) ?_
          ((first | refine GH.to 10 ?_ | refine GH.tos 10 ?_))
          refine GH.step 11 rfl (by kernel_rfl) ?_
          refine Gt.storeAt tb 0 (by first | exact Wt.none | exact Wt.some rfl rfl (by first | exact rfl | decide +kernel)) rfl rfl rfl rfl rfl (by show 0 + 0 < 2; omega) rfl ?_
          refine GH.on rfl ?_
          refine GH.fin (by kernel_rfl) ?_
          refine GK.heap (Γ' := [poolOf H, row (.slice qb (r.L.length + 1) db) 95 34 (r.L.length + 1) (mades (r.L ++ [⟨a, c0, h1⟩])), blk b1 60 (0, 0) [.slice qb (r.L.length + 1) db, .slice p2 r.D.length c2], blk ba 60 (0, 0) [.slice none 0 0, .slice none 0 0]]) (fun _ s => Sat.sub (by repeat (first | exact SubR.nil | apply SubR.cons 0 rfl | apply SubR.cons 1 rfl | apply SubR.cons 2 rfl | apply SubR.cons 3 rfl | apply SubR.cons 4 rfl | apply SubR.cons 5 rfl | apply SubR.cons 6 rfl | apply SubR.cons 7 rfl | apply SubR.cons 8 rfl | apply SubR.cons 9 rfl | apply SubR.cons 10 rfl | apply SubR.cons 11 rfl | apply SubR.cons 12 rfl | apply SubR.cons 13 rfl | apply SubR.cons 14 rfl | apply SubR.cons 15 rfl)) s) ?_
          refine GK.absorb fun H1 k1 l1 a1 m1 => ?_
          have gd := row_in a1 m1
          (repeat (first | refine GK.ro ?_ | (refine GK.box ?_; intro bl) | (refine GK.mkMap ?_; intro bm) | (refine GK.build0 tb ?_; intro bs)))
          refine G.draw [] [blk b1 60 (0, 0) [.slice qb (r.L.length + 1) db, .slice p2 r.D.length c2], poolOf H1] (by kernel_rfl) ?_
          ((first | refine GH.to 0 ?_ | refine GH.tos 0 ?_); (first | refine GH.to 1 ?_ | refine GH.tos 1 ?_); (first | refine GH.to 2 ?_ | refine GH.tos 2 ?_); (first | refine GH.to 3 ?_ | refine GH.tos 3 ?_))
          refine GH.step 4 rfl (by kernel_rfl) ?_
          refine Gt.storeAny tb 2 (by first | exact Wt.none | exact Wt.some rfl rfl (by first | exact rfl | decide +kernel)) rfl rfl rfl rfl (one_of_all rfl) rfl rfl ?_
          refine GH.keep (fun _ s => Sat.sub (by repeat (first | exact SubR.nil | apply SubR.cons 0 rfl | apply SubR.cons 1 rfl | apply SubR.cons 2 rfl | apply SubR.cons 3 rfl | apply SubR.cons 4 rfl | apply SubR.cons 5 rfl | apply SubR.cons 6 rfl | apply SubR.cons 7 rfl | apply SubR.cons 8 rfl | apply SubR.cons 9 rfl | apply SubR.cons 10 rfl | apply SubR.cons 11 rfl | apply SubR.cons 12 rfl | apply SubR.cons 13 rfl | apply SubR.cons 14 rfl | apply SubR.cons 15 rfl)) s) ?_
          ((first | refine GH.to 5 ?_ | refine GH.tos 5 ?_); (first | refine GH.to 6 ?_ | refine GH.tos 6 ?_))
          refine GH.fin (by kernel_rfl) ?_
          (repeat (first | refine GK.ro ?_ | (refine GK.box ?_; intro bl) | (refine GK.mkMap ?_; intro bm) | (refine GK.build0 tb ?_; intro bs)))
          rw [show rproposeM r a c0 h1 = ((r.L.length : Int) + 1, 0, ⟨r.L ++ [⟨a, c0, h1⟩], r.D⟩) from by unfold rproposeM; rw [if_neg (by rw [hany]; decide), if_neg (by omega)]]
          rw [show ((r.L.length + 1 : Nat) : Int) = (r.L.length : Int) + 1 by omega]
          exact GQ.fin3 rfl (Rv.row rfl (by kernel_rfl) (by kernel_rfl) (Rd.blk 2 rfl) (At.all _)) (Rv.tmp rfl) (Rv.tmp rfl) (fun _ s => Sat.sub (by repeat (first | exact SubR.nil | apply SubR.cons 0 rfl | apply SubR.cons 1 rfl | apply SubR.cons 2 rfl | apply SubR.cons 3 rfl | apply SubR.cons 4 rfl | apply SubR.cons 5 rfl | apply SubR.cons 6 rfl | apply SubR.cons 7 rfl | apply SubR.cons 8 rfl | apply SubR.cons 9 rfl | apply SubR.cons 10 rfl | apply SubR.cons 11 rfl | apply SubR.cons 12 rfl | apply SubR.cons 13 rfl | apply SubR.cons 14 rfl | apply SubR.cons 15 rfl)) s) ⟨H1, .slice qb (r.L.length + 1) db, l1, rfl, rb_made h0 l1 hh gd (by omega), rfl⟩
      · refine Gt.buildLit tb (sz := 33) (n := 0) (cells := madeC ⟨a, c0, h1⟩) (by first | exact Wt.none | exact Wt.some rfl rfl (by first | exact rfl | decide +kernel)) rfl rfl (by kernel_rfl) rfl rfl rfl hsz rfl hcl ?_
        intro bx
        refine GH.keep (fun _ s => Sat.sub (by repeat (first | exact SubR.nil | apply SubR.cons 0 rfl | apply SubR.cons 1 rfl | apply SubR.cons 2 rfl | apply SubR.cons 3 rfl | apply SubR.cons 4 rfl | apply SubR.cons 5 rfl | apply SubR.cons 6 rfl | apply SubR.cons 7 rfl | apply SubR.cons 8 rfl | apply SubR.cons 9 rfl | apply SubR.cons 10 rfl | apply SubR.cons 11 rfl | apply SubR.cons 12 rfl | apply SubR.cons 13 rfl | apply SubR.cons 14 rfl | apply SubR.cons 15 rfl)) s) ?_
        refine GH.step 0 rfl (by kernel_rfl) ?_
        refine Gt.build0 tb (by first | exact Wt.none | exact Wt.some rfl rfl (by first | exact rfl | decide +kernel)) rfl rfl ?_
        intro s1
        refine GH.keep (fun _ s => Sat.sub (by repeat (first | exact SubR.nil | apply SubR.cons 0 rfl | apply SubR.cons 1 rfl | apply SubR.cons 2 rfl | apply SubR.cons 3 rfl | apply SubR.cons 4 rfl | apply SubR.cons 5 rfl | apply SubR.cons 6 rfl | apply SubR.cons 7 rfl | apply SubR.cons 8 rfl | apply SubR.cons 9 rfl | apply SubR.cons 10 rfl | apply SubR.cons 11 rfl | apply SubR.cons 12 rfl | apply SubR.cons 13 rfl | apply SubR.cons 14 rfl | apply SubR.cons 15 rfl)) s) ?_
        refine GH.heap (Γ' := [row (.slice (some ⟨s1, 0, none⟩) 0 0) 95 34 0 [], poolOf H, blk bx 95 (0, 0) (madeC ⟨a, c0, h1⟩), blk b1 60 (0, 0) [.slice p r.L.length c, .slice p2 r.D.length c2], blk bl 23 (0, 0) (u8s h1), blk ba 60 (0, 0) [.slice none 0 0, .slice none 0 0]]) (fun _ s => Sat.sub (by repeat (first | exact SubR.nil | apply SubR.cons 0 rfl | apply SubR.cons 1 rfl | apply SubR.cons 2 rfl | apply SubR.cons 3 rfl | apply SubR.cons 4 rfl | apply SubR.cons 5 rfl | apply SubR.cons 6 rfl | apply SubR.cons 7 rfl | apply SubR.cons 8 rfl | apply SubR.cons 9 rfl | apply SubR.cons 10 rfl | apply SubR.cons 11 rfl | apply SubR.cons 12 rfl | apply SubR.cons 13 rfl | apply SubR.cons 14 rfl | apply SubR.cons 15 rfl)) s) ?_
        refine GH.step 3 rfl (by kernel_rfl) ?_
        refine Gt.append0 tb 0 (m := r.L.length) (by first | exact Wt.none | exact Wt.some rfl rfl (by first | exact rfl | decide +kernel)) rfl (.inl ⟨_, rfl⟩) rfl rfl rfl rfl rfl (RS.src (RS.pool 1 rfl hml) (mades_one r.L) hln ⟨_, _, rfl⟩) (by omega) (by omega) ?_
        intro qa da
        refine GH.keep (fun _ s => Sat.sub (by repeat (first | exact SubR.nil | apply SubR.cons 0 rfl | apply SubR.cons 1 rfl | apply SubR.cons 2 rfl | apply SubR.cons 3 rfl | apply SubR.cons 4 rfl | apply SubR.cons 5 rfl | apply SubR.cons 6 rfl | apply SubR.cons 7 rfl | apply SubR.cons 8 rfl | apply SubR.cons 9 rfl | apply SubR.cons 10 rfl | apply SubR.cons 11 rfl | apply SubR.cons 12 rfl | apply SubR.cons 13 rfl | apply SubR.cons 14 rfl | apply SubR.cons 15 rfl)) s) ?_
        refine GH.heap (Γ' := [blk bx 95 (0, 0) (madeC ⟨a, c0, h1⟩), row (.slice qa r.L.length da) 95 34 r.L.length (mades r.L), blk b1 60 (0, 0) [.slice p r.L.length c, .slice p2 r.D.length c2], blk bl 23 (0, 0) (u8s h1), blk ba 60 (0, 0) [.slice none 0 0, .slice none 0 0], poolOf H]) (fun _ s => Sat.sub (by repeat (first | exact SubR.nil | apply SubR.cons 0 rfl | apply SubR.cons 1 rfl | apply SubR.cons 2 rfl | apply SubR.cons 3 rfl | apply SubR.cons 4 rfl | apply SubR.cons 5 rfl | apply SubR.cons 6 rfl | apply SubR.cons 7 rfl | apply SubR.cons 8 rfl | apply SubR.cons 9 rfl | apply SubR.cons 10 rfl | apply SubR.cons 11 rfl | apply SubR.cons 12 rfl | apply SubR.cons 13 rfl | apply SubR.cons 14 rfl | apply SubR.cons 15 rfl)) s) ?_
        refine GH.step 9 rfl (by kernel_rfl) ?_
        refine Gt.append tb 1 (by first | exact Wt.none | exact Wt.some rfl rfl (by first | exact rfl | decide +kernel)) rfl (.inl ⟨_, rfl⟩) rfl rfl rfl rfl rfl (Src.slice (m := 1) (Rd.blk 0 rfl) (At.all _) (madeC_len hh) (madeC_one _)) (by omega) (by omega) ?_
        intro qb db
        refine GH.keep (fun _ s => Sat.sub (by repeat (first | exact SubR.nil | apply SubR.cons 0 rfl | apply SubR.cons 1 rfl | apply SubR.cons 2 rfl | apply SubR.cons 3 rfl | apply SubR.cons 4 rfl | apply SubR.cons 5 rfl | apply SubR.cons 6 rfl | apply SubR.cons 7 rfl | apply SubR.cons 8 rfl | apply SubR.cons 9 rfl | apply SubR.cons 10 rfl | apply SubR.cons 11 rfl | apply SubR.cons 12 rfl | apply SubR.cons 13 rfl | apply SubR.cons 14 rfl | apply SubR.cons 15 rfl)) s) ?_
        rw [show mades r.L ++ madeC ⟨a, c0, h1⟩ = mades (r.L ++ [⟨a, c0, h1⟩]) from by rw [mades_append, mades_sing]]
        refine GH.weak (fr' := [(4, .pointer (some ⟨b1, 0, none⟩)), (8, .pointer (some ⟨ba, 0, none⟩)), (55, .slice qb (r.L.length + 1) db)]) (Γ' := [blk b1 60 (0, 0) [.slice p r.L.length c, .slice p2 r.D.length c2], blk ba 60 (0, 0) [.slice none 0 0, .slice none 0 0], row (.slice qb (r.L.length + 1) db) 95 34 (r.L.length + 1) (mades (r.L ++ [⟨a, c0, h1⟩])), blk bl 23 (0, 0) (u8s h1), poolOf H]) (by repeat (first | exact trivial | refine ⟨rfl, ?_⟩)) (fun _ s => Sat.sub (by repeat (first | exact SubR.nil | apply SubR.cons 0 rfl | apply SubR.cons 1 rfl | apply SubR.cons 2 rfl | apply SubR.cons 3 rfl | apply SubR.cons 4 rfl | apply SubR.cons 5 rfl | apply SubR.cons 6 rfl | apply SubR.cons 7 rfl | apply SubR.cons 8 rfl | apply SubR.cons 9 rfl | apply SubR.cons 10 rfl | apply SubR.cons 11 rfl | apply SubR.cons 12 rfl | apply SubR.cons 13 rfl | apply SubR.cons 14 rfl | apply SubR.cons 15 rfl)) s) ?_
        ((first | refine GH.to 10 ?_ | refine GH.tos 10 ?_))
        refine GH.step 11 rfl (by kernel_rfl) ?_
        refine Gt.storeAt tb 0 (by first | exact Wt.none | exact Wt.some rfl rfl (by first | exact rfl | decide +kernel)) rfl rfl rfl rfl rfl (by show 0 + 0 < 2; omega) rfl ?_
        refine GH.on rfl ?_
        refine GH.fin (by kernel_rfl) ?_
        refine GK.heap (Γ' := [poolOf H, row (.slice qb (r.L.length + 1) db) 95 34 (r.L.length + 1) (mades (r.L ++ [⟨a, c0, h1⟩])), blk b1 60 (0, 0) [.slice qb (r.L.length + 1) db, .slice p2 r.D.length c2], blk ba 60 (0, 0) [.slice none 0 0, .slice none 0 0]]) (fun _ s => Sat.sub (by repeat (first | exact SubR.nil | apply SubR.cons 0 rfl | apply SubR.cons 1 rfl | apply SubR.cons 2 rfl | apply SubR.cons 3 rfl | apply SubR.cons 4 rfl | apply SubR.cons 5 rfl | apply SubR.cons 6 rfl | apply SubR.cons 7 rfl | apply SubR.cons 8 rfl | apply SubR.cons 9 rfl | apply SubR.cons 10 rfl | apply SubR.cons 11 rfl | apply SubR.cons 12 rfl | apply SubR.cons 13 rfl | apply SubR.cons 14 rfl | apply SubR.cons 15 rfl)) s) ?_
        refine GK.absorb fun H1 k1 l1 a1 m1 => ?_
        have gd := row_in a1 m1
        (repeat (first | refine GK.ro ?_ | (refine GK.box ?_; intro bl) | (refine GK.mkMap ?_; intro bm) | (refine GK.build0 tb ?_; intro bs)))
        refine G.draw [] [blk b1 60 (0, 0) [.slice qb (r.L.length + 1) db, .slice p2 r.D.length c2], poolOf H1] (by kernel_rfl) ?_
        ((first | refine GH.to 0 ?_ | refine GH.tos 0 ?_); (first | refine GH.to 1 ?_ | refine GH.tos 1 ?_); (first | refine GH.to 2 ?_ | refine GH.tos 2 ?_); (first | refine GH.to 3 ?_ | refine GH.tos 3 ?_))
        refine GH.step 4 rfl (by kernel_rfl) ?_
        refine Gt.storeAny tb 2 (by first | exact Wt.none | exact Wt.some rfl rfl (by first | exact rfl | decide +kernel)) rfl rfl rfl rfl (one_of_all rfl) rfl rfl ?_
        refine GH.keep (fun _ s => Sat.sub (by repeat (first | exact SubR.nil | apply SubR.cons 0 rfl | apply SubR.cons 1 rfl | apply SubR.cons 2 rfl | apply SubR.cons 3 rfl | apply SubR.cons 4 rfl | apply SubR.cons 5 rfl | apply SubR.cons 6 rfl | apply SubR.cons 7 rfl | apply SubR.cons 8 rfl | apply SubR.cons 9 rfl | apply SubR.cons 10 rfl | apply SubR.cons 11 rfl | apply SubR.cons 12 rfl | apply SubR.cons 13 rfl | apply SubR.cons 14 rfl | apply SubR.cons 15 rfl)) s) ?_
        ((first | refine GH.to 5 ?_ | refine GH.tos 5 ?_); (first | refine GH.to 6 ?_ | refine GH.tos 6 ?_))
        refine GH.fin (by kernel_rfl) ?_
        (repeat (first | refine GK.ro ?_ | (refine GK.box ?_; intro bl) | (refine GK.mkMap ?_; intro bm) | (refine GK.build0 tb ?_; intro bs)))
        rw [show rproposeM r a c0 h1 = ((r.L.length : Int) + 1, 0, ⟨r.L ++ [⟨a, c0, h1⟩], r.D⟩) from by unfold rproposeM; rw [if_neg (by rw [hany]; decide), if_neg (by omega)]]
        rw [show ((r.L.length + 1 : Nat) : Int) = (r.L.length : Int) + 1 by omega]
        exact GQ.fin3 rfl (Rv.row rfl (by kernel_rfl) (by kernel_rfl) (Rd.blk 2 rfl) (At.all _)) (Rv.tmp rfl) (Rv.tmp rfl) (fun _ s => Sat.sub (by repeat (first | exact SubR.nil | apply SubR.cons 0 rfl | apply SubR.cons 1 rfl | apply SubR.cons 2 rfl | apply SubR.cons 3 rfl | apply SubR.cons 4 rfl | apply SubR.cons 5 rfl | apply SubR.cons 6 rfl | apply SubR.cons 7 rfl | apply SubR.cons 8 rfl | apply SubR.cons 9 rfl | apply SubR.cons 10 rfl | apply SubR.cons 11 rfl | apply SubR.cons 12 rfl | apply SubR.cons 13 rfl | apply SubR.cons 14 rfl | apply SubR.cons 15 rfl)) s) ⟨H1, .slice qb (r.L.length + 1) db, l1, rfl, rb_made h0 l1 hh gd (by omega), rfl⟩
end Go.Re
