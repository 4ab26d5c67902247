/- RxF, RxG, RxH, RxI, RxJ, RxK as one text. -/
import Derived.Test.YtjphghadogedkaaRxE
import Derived.Test.YtjphghadogedkaaRvP
import Derived.Test.YtjphghadogedkaaRwC
import Derived.Test.YtjphghadogedkaaRwE
import Derived.Test.YtjphghadogedkaaRwB
import Derived.Test.YtjphghadogedkaaRwA
import Derived.Test.YtjphghadogedkaaRvK
import Derived.Test.YtjphghadogedkaaRvO
set_option linter.unusedSimpArgs false
set_option linter.unusedVariables false
/- The document's board: a proposal is told. -/
namespace Go.Re
open Go Go.Sl
set_option maxRecDepth 100000
theorem fill_told {id : Int} {a c h : By} {o : Bool} (hh : h.length = 32) : fillL (prPlaces[·]?) zeroC [(0, .int .i64 id), (1, str a), (2, str c), (3, .agg ⟨u8s h⟩), (4, .bool o)] = some (propC ⟨id, a, c, h, o⟩ (.slice none 0 0) (.slice none 0 0) (.slice none 0 0)) := by
  have z := u8s_len h
  rw [zeroC_eq]
  refine fill_cons (off := 0) (size := 1) rfl rfl (Nat.le_of_ble_eq_true rfl) rfl ?_
  refine fill_cons (off := 1) (size := 1) rfl rfl (Nat.le_of_ble_eq_true rfl) rfl ?_
  refine fill_cons (off := 2) (size := 1) rfl rfl (Nat.le_of_ble_eq_true rfl) rfl ?_
  refine fill_cons (off := 3) (size := 32) (l' := [.int .i64 id, str a, str c] ++ u8s h ++ [.bool false, .slice none 0 0, .slice none 0 0, .slice none 0 0]) rfl (by show (u8s h).length = 32; omega) (Nat.le_of_ble_eq_true rfl) ?_ ?_
  · show splice _ 3 (u8s h) = _
    unfold splice
    rw [z, hh]; rfl
  refine fill_cons (off := 35) (size := 1) (l' := [.int .i64 id, str a, str c] ++ u8s h ++ [.bool o, .slice none 0 0, .slice none 0 0, .slice none 0 0]) rfl rfl (by simp; omega) ?_ rfl
  show splice ([.int .i64 id, str a, str c] ++ u8s h ++ [.bool false, .slice none 0 0, .slice none 0 0, .slice none 0 0]) 35 [.bool o] = _
  exact splice_one_at (by simp; omega)
abbrev St3 := List (By × By) × List By × List By
def talkStep (d : Dd) (t : List (By × By)) : List (By × By) := if d.kind = 4 then t ++ [(d.u, d.t)] else t
def voteStep (w : Int) (r : RB) (n : Int) (d : Dd) (y : List By) : List By := if d.kind < 3 ∧ ofR r.D n d.u = w then withM y d.u else y
def pstep (r : RB) (n : Int) (s : St3) (d : Dd) : St3 := if d.id = n then (talkStep d s.1, voteStep 1 r n d s.2.1, voteStep 2 r n d s.2.2) else s
def pfold (r : RB) (n : Int) (D : List Dd) : St3 := D.foldl (pstep r n) ([], [], [])
def toldR (r : RB) (n : Int) : St3 := if thereM r n then pfold r n r.D else ([], [], [])
def propR (r : RB) (n : Int) : Pr := if thereM r n then (match r.L[(n - 1).toNat]? with
  | some m => ⟨n, m.a, m.c, m.h, isOpenM r n⟩
  | none => zeroPr) else zeroPr
theorem pfold_take {r : RB} {n : Int} {D : List Dd} {j : Nat} {x : Dd} (h : D[j]? = some x) : pfold r n (D.take (j + 1)) = pstep r n (pfold r n (D.take j)) x := by
  obtain ⟨hj, rfl⟩ := List.getElem?_eq_some_iff.1 h
  unfold pfold
  rw [List.take_succ_eq_append_getElem hj, List.foldl_append]; rfl
theorem withM_len (l : List By) (s : By) : (withM l s).length ≤ l.length + 1 := by
  unfold withM
  have := low_le s l
  split
  · omega
  · simp; omega
theorem madeC_a (m : Mk) : (madeC m)[0 + 0]? = some (str m.a) := by unfold madeC; simp
/-- The lists are no longer than what was done. -/
def Less (s : St3) (j : Nat) : Prop := s.1.length ≤ j ∧ s.2.1.length ≤ j ∧ s.2.2.length ≤ j
theorem Less.talk {s : St3} {j : Nat} (h : Less s j) (d : Dd) : (talkStep d s.1).length ≤ j + 1 := by
  have := h.1
  unfold talkStep; split
  · rw [List.length_append]; simp; omega
  · omega
theorem voteStep_len {y : List By} {j : Nat} (h : y.length ≤ j) (w : Int) (r : RB) (n : Int) (d : Dd) : (voteStep w r n d y).length ≤ j + 1 := by
  have := withM_len y d.u
  unfold voteStep; split <;> omega
theorem nilS {H : Hp} : rs H (.slice none 0 0) ([] : List By).length 1 (strs []) := by rw [strs_nil]; exact rs.nil
theorem nilP {H : Hp} : rs H (.slice none 0 0) ([] : List (By × By)).length 2 (prs []) := by rw [prs_nil]; exact rs.nil
theorem zero_prop : propC zeroPr (.slice none 0 0) (.slice none 0 0) (.slice none 0 0) = zeroC := rfl
theorem pstep_far {r : RB} {n : Int} {s : St3} {x : Dd} (h : ¬ x.id = n) : pstep r n s x = s := if_neg h
theorem pstep_talk {r : RB} {n : Int} {s1 : List (By × By)} {s2 s3 : List By} {x : Dd} (h : x.id = n) (h4 : x.kind = 4) : pstep r n (s1, s2, s3) x = (s1 ++ [(x.u, x.t)], s2, s3) := by
  unfold pstep talkStep voteStep; simp [h, h4]
theorem pstep_none {r : RB} {n : Int} {s1 : List (By × By)} {s2 s3 : List By} {x : Dd} (h : x.id = n) (h4 : ¬ x.kind = 4) (h3 : ¬ x.kind < 3) : pstep r n (s1, s2, s3) x = (s1, s2, s3) := by
  unfold pstep talkStep voteStep; simp [h, h4, h3]
theorem pstep_yes {r : RB} {n : Int} {s1 : List (By × By)} {s2 s3 : List By} {x : Dd} (h : x.id = n) (h3 : x.kind < 3) (hv : ofR r.D n x.u = 1) : pstep r n (s1, s2, s3) x = (s1, withM s2 x.u, s3) := by
  have h4 : ¬ x.kind = 4 := by omega
  unfold pstep talkStep voteStep; simp [h, h4, h3, hv]
theorem pstep_no {r : RB} {n : Int} {s1 : List (By × By)} {s2 s3 : List By} {x : Dd} (h : x.id = n) (h3 : x.kind < 3) (hv : ofR r.D n x.u = 2) : pstep r n (s1, s2, s3) x = (s1, s2, withM s3 x.u) := by
  have h4 : ¬ x.kind = 4 := by omega
  unfold pstep talkStep voteStep; simp [h, h4, h3, hv]
theorem pstep_nil {r : RB} {n : Int} {s1 : List (By × By)} {s2 s3 : List By} {x : Dd} (h : x.id = n) (h3 : x.kind < 3) (h1 : ¬ ofR r.D n x.u = 1) (h2 : ¬ ofR r.D n x.u = 2) : pstep r n (s1, s2, s3) x = (s1, s2, s3) := by
  have h4 : ¬ x.kind = 4 := by omega
  unfold pstep talkStep voteStep; simp [h, h4, h3, h1, h2]
theorem prs_one1 (a b : By) : prs [(a, b)] = [str a, str b] := rfl
set_option maxRecDepth 100000
set_option maxHeartbeats 4000000
attribute [local irreducible] GK GO Yl Wt Ef Hd GH KH wpListIn Code.wpIn toBody roundQ poolOf rs RS YieldOk IterOk VOk row star exs mp lp Sat pt FnOk Rd bodyPost bodyPostM Lv Ret Exit.then Exit.inBlock Exit.noGoto Int.decLt Int.decLe Int.instDecidableEq
attribute [local irreducible] u8s strs likeTo madeC mades deeds ofR i64s madeZ openR propC zeroC prs isOpenM
set_option pp.deepTerms true
set_option pp.maxSteps 1000000
variable {hF H : Hp}
def Tells (H : Hp) (r : RB) (n : Int) (v : Value) (Γ : List HProp) : Prop := ∃ H' yv nv tv, le H H' ∧ v = .agg ⟨propC (propR r n) yv nv tv⟩ ∧ rs H' yv (toldR r n).2.1.length 1 (strs (toldR r n).2.1) ∧ rs H' nv (toldR r n).2.2.length 1 (strs (toldR r n).2.2) ∧ rs H' tv (toldR r n).1.length 2 (prs (toldR r n).1) ∧ Γ = [poolOf H']
theorem rproposal_ok {r : RB} {lv dv : Value} {n : Int} (h : RbAt H r lv dv) : FnOk Go.Proofs.Try.prog 29 [.agg ⟨[lv, dv]⟩, .int .i64 n] [poolOf H] hF (fun v Γ => Tells H r n v Γ) := by
  have h0 := h
  have hnl := h.nl
  have hnd := h.nd
  have hkk := h.k
  obtain ⟨p, c, rfl, hc, hln, hr⟩ := rs.out h.l
  obtain ⟨p2, c2, rfl, hc2, hln2, hr2⟩ := rs.out h.d
  have z39 := zeroC_len
  refine FnOk.intro 95 Go.Proofs.Try.func29 rfl rfl fun w0 => ?_
  (repeat (first | refine GK.ro ?_ | (refine GK.box ?_; intro bl) | (refine GK.mkMap ?_; intro bm) | (refine GK.build0 tb ?_; intro bs)))
  refine GL.cons ?_; refine GO.alloc (l := zeroC) (by first | exact Wt.none | exact Wt.some rfl rfl (by first | exact rfl | decide +kernel)) (by kernel_rfl) ?_
  intro bz
  (repeat (first | refine GK.ro ?_ | (refine GK.box ?_; intro bl) | (refine GK.mkMap ?_; intro bm) | (refine GK.build0 tb ?_; intro bs)))
  refine GL.cons ?_; refine GO.callA (fun hF' hle hH => there_ok h0) (by first | exact Wt.none | exact Wt.some rfl rfl (by first | exact rfl | decide +kernel)) (by kernel_rfl) rfl rfl (by repeat (first | exact SubR.nil | apply SubR.cons 0 rfl | apply SubR.cons 1 rfl | apply SubR.cons 2 rfl | apply SubR.cons 3 rfl | apply SubR.cons 4 rfl | apply SubR.cons 5 rfl | apply SubR.cons 6 rfl | apply SubR.cons 7 rfl | apply SubR.cons 8 rfl | apply SubR.cons 9 rfl | apply SubR.cons 10 rfl | apply SubR.cons 11 rfl | apply SubR.cons 12 rfl | apply SubR.cons 13 rfl | apply SubR.cons 14 rfl | apply SubR.cons 15 rfl)) ?_
  rintro v Γ' ⟨rfl, rfl⟩
  cases ht : thereM r n with
  | false =>
    (repeat (first | refine GK.ro ?_ | (refine GK.box ?_; intro bl) | (refine GK.mkMap ?_; intro bm) | (refine GK.build0 tb ?_; intro bs)))
    refine GK.heap (Γ' := [poolOf H, blk bz 27 (0, 0) zeroC]) (fun _ s => Sat.sub (by repeat (first | exact SubR.nil | apply SubR.cons 0 rfl | apply SubR.cons 1 rfl | apply SubR.cons 2 rfl | apply SubR.cons 3 rfl | apply SubR.cons 4 rfl | apply SubR.cons 5 rfl | apply SubR.cons 6 rfl | apply SubR.cons 7 rfl | apply SubR.cons 8 rfl | apply SubR.cons 9 rfl | apply SubR.cons 10 rfl | apply SubR.cons 11 rfl | apply SubR.cons 12 rfl | apply SubR.cons 13 rfl | apply SubR.cons 14 rfl | apply SubR.cons 15 rfl)) s) ?_
    refine GL.cons ?_; refine Gt.storeAny tb 1 (by first | exact Wt.none | exact Wt.some rfl rfl (by first | exact rfl | decide +kernel)) rfl rfl rfl rfl (one_of_all rfl) rfl z39 ?_
    (repeat (first | refine GK.ro ?_ | (refine GK.box ?_; intro bl) | (refine GK.mkMap ?_; intro bm) | (refine GK.build0 tb ?_; intro bs)))
    have e1 : toldR r n = ([], [], []) := by unfold toldR; rw [ht]; rfl
    have e2 : propR r n = zeroPr := by unfold propR; rw [ht]; rfl
    refine GQ.fin1 rfl (Rv.row rfl (by kernel_rfl) (by kernel_rfl) (Rd.blk 1 rfl) (At.all _)) (fun _ s => Sat.sub (by repeat (first | exact SubR.nil | apply SubR.cons 0 rfl | apply SubR.cons 1 rfl | apply SubR.cons 2 rfl | apply SubR.cons 3 rfl | apply SubR.cons 4 rfl | apply SubR.cons 5 rfl | apply SubR.cons 6 rfl | apply SubR.cons 7 rfl | apply SubR.cons 8 rfl | apply SubR.cons 9 rfl | apply SubR.cons 10 rfl | apply SubR.cons 11 rfl | apply SubR.cons 12 rfl | apply SubR.cons 13 rfl | apply SubR.cons 14 rfl | apply SubR.cons 15 rfl)) s) ⟨H, .slice none 0 0, .slice none 0 0, .slice none 0 0, le.refl _, ?_, ?_, ?_, ?_, rfl⟩
    · rw [e2, show propC zeroPr (.slice none 0 0) (.slice none 0 0) (.slice none 0 0) = zeroC from zero_prop, zeroC_eq]; rfl
    · rw [e1]; exact nilS
    · rw [e1]; exact nilS
    · rw [e1]; exact nilP
  | true =>
    obtain ⟨g1, g2⟩ : 1 ≤ n ∧ n ≤ r.L.length := by simpa [thereM] using ht
    obtain ⟨m, hm⟩ : ∃ m, r.L[(n - 1).toNat]? = some m := ⟨_, List.getElem?_eq_getElem (by omega)⟩
    have hmh := h0.h m (List.mem_of_getElem? hm)
    obtain ⟨b4, o4, cs4, et4, fz4, rfl, hb4, hat4⟩ := hr (by omega)
    have hA : At cs4 (o4 + (n - 1).toNat * 34) (madeC m) := fun i w hw => by
      have := hat4 ((n - 1).toNat * 34 + i) w (mades_at h0.h hm i w hw)
      rw [show o4 + (n - 1).toNat * 34 + i = o4 + ((n - 1).toNat * 34 + i) by omega]; exact this
    have e1 := madeC_len hmh
    have e2 := madeC_one m
    have e0 := madeC_a m
    have e3 := madeC_c m
    have e4 := madeC_h m
    have y1 : (u8s m.h).length = 32 := by rw [u8s_len, hmh]
    (repeat (first | refine GK.ro ?_ | (refine GK.box ?_; intro bl) | (refine GK.mkMap ?_; intro bm) | (refine GK.build0 tb ?_; intro bs)))
    refine GL.cons ?_; refine GO.alloc (l := madeZ) (by first | exact Wt.none | exact Wt.some rfl rfl (by first | exact rfl | decide +kernel)) (by kernel_rfl) ?_
    intro bm
    (repeat (first | refine GK.ro ?_ | (refine GK.box ?_; intro bl) | (refine GK.mkMap ?_; intro bm) | (refine GK.build0 tb ?_; intro bs)))
    refine GL.cons ?_; refine Gt.storeAny tb 0 (by first | exact Wt.none | exact Wt.some rfl rfl (by first | exact rfl | decide +kernel)) rfl rfl rfl e1 e2 rfl madeZ_len ?_
    (repeat (first | refine GK.ro ?_ | (refine GK.box ?_; intro bl) | (refine GK.mkMap ?_; intro bm) | (refine GK.build0 tb ?_; intro bs)))
    refine GK.heap (Γ' := [blk bm 95 (0, 0) (madeC m), blk bl 60 (0, 0) [.slice (some ⟨b4, o4, none⟩) r.L.length c, .slice p2 r.D.length c2], blk bz 27 (0, 0) zeroC, poolOf H]) (fun _ s => Sat.sub (by repeat (first | exact SubR.nil | apply SubR.cons 0 rfl | apply SubR.cons 1 rfl | apply SubR.cons 2 rfl | apply SubR.cons 3 rfl | apply SubR.cons 4 rfl | apply SubR.cons 5 rfl | apply SubR.cons 6 rfl | apply SubR.cons 7 rfl | apply SubR.cons 8 rfl | apply SubR.cons 9 rfl | apply SubR.cons 10 rfl | apply SubR.cons 11 rfl | apply SubR.cons 12 rfl | apply SubR.cons 13 rfl | apply SubR.cons 14 rfl | apply SubR.cons 15 rfl)) s) ?_
    have w39 := propC_len (p := ⟨n, m.a, m.c, m.h, isOpenM r n⟩) (y := .slice none 0 0) (n := .slice none 0 0) (t := .slice none 0 0) hmh
    have w1 := propC_one (p := ⟨n, m.a, m.c, m.h, isOpenM r n⟩) (y := .slice none 0 0) (n := .slice none 0 0) (t := .slice none 0 0) rfl rfl rfl
    have hft := fill_told (id := n) (a := m.a) (c := m.c) (o := isOpenM r n) hmh
    generalize hp0 : (⟨n, m.a, m.c, m.h, isOpenM r n⟩ : Pr) = p0 at *
    have hph : p0.h.length = 32 := by rw [← hp0]; exact hmh
    refine G.cut (X := Nat) (fun bp => [(1, .int .i64 n), (2, .pointer (some ⟨bl, 0, none⟩)), (4, .pointer (some ⟨bz, 0, none⟩)), (6, .pointer (some ⟨bp, 0, none⟩))])
      (fun bp => [blk bp 27 (0, 0) (propC p0 (.slice none 0 0) (.slice none 0 0) (.slice none 0 0)), blk bl 60 (0, 0) [.slice (some ⟨b4, o4, none⟩) r.L.length c, .slice p2 r.D.length c2], blk bz 27 (0, 0) zeroC, poolOf H]) (fun _ => True) (fun bp _ => ?_) ?_
    rotate_left
    · refine G.draw [] [blk bm 95 (0, 0) (madeC m), blk bl 60 (0, 0) [.slice (some ⟨b4, o4, none⟩) r.L.length c, .slice p2 r.D.length c2], poolOf H] (by kernel_rfl) ?_
      ((first | refine GH.to 0 ?_ | refine GH.tos 0 ?_); (first | refine GH.to 1 ?_ | refine GH.tos 1 ?_); (first | refine GH.to 2 ?_ | refine GH.tos 2 ?_); (first | refine GH.to 3 ?_ | refine GH.tos 3 ?_); (first | refine GH.to 4 ?_ | refine GH.tos 4 ?_); (first | refine GH.to 5 ?_ | refine GH.tos 5 ?_); (first | refine GH.to 6 ?_ | refine GH.tos 6 ?_); (first | refine GH.to 7 ?_ | refine GH.tos 7 ?_); (first | refine GH.to 8 ?_ | refine GH.tos 8 ?_))
      refine GH.step2 9 11 rfl rfl (by kernel_rfl) ?_ ?_
      · refine GO.callA (fun hF' hle hH => isOpen_ok (n := n) h0) (by first | exact Wt.none | exact Wt.some rfl rfl (by first | exact rfl | decide +kernel)) (by kernel_rfl) rfl rfl (by repeat (first | exact SubR.nil | apply SubR.cons 0 rfl | apply SubR.cons 1 rfl | apply SubR.cons 2 rfl | apply SubR.cons 3 rfl | apply SubR.cons 4 rfl | apply SubR.cons 5 rfl | apply SubR.cons 6 rfl | apply SubR.cons 7 rfl | apply SubR.cons 8 rfl | apply SubR.cons 9 rfl | apply SubR.cons 10 rfl | apply SubR.cons 11 rfl | apply SubR.cons 12 rfl | apply SubR.cons 13 rfl | apply SubR.cons 14 rfl | apply SubR.cons 15 rfl)) ?_
        rintro v Γ' ⟨rfl, rfl⟩
        refine GH.keep (fun _ s => Sat.sub (by repeat (first | exact SubR.nil | apply SubR.cons 0 rfl | apply SubR.cons 1 rfl | apply SubR.cons 2 rfl | apply SubR.cons 3 rfl | apply SubR.cons 4 rfl | apply SubR.cons 5 rfl | apply SubR.cons 6 rfl | apply SubR.cons 7 rfl | apply SubR.cons 8 rfl | apply SubR.cons 9 rfl | apply SubR.cons 10 rfl | apply SubR.cons 11 rfl | apply SubR.cons 12 rfl | apply SubR.cons 13 rfl | apply SubR.cons 14 rfl | apply SubR.cons 15 rfl)) s) ?_
        refine GH.take 10 rfl (by kernel_rfl) (by first | exact Wt.none | exact Wt.some rfl rfl (by first | exact rfl | decide +kernel)) (fun _ s => Sat.sub (by repeat (first | exact SubR.nil | apply SubR.cons 0 rfl | apply SubR.cons 1 rfl | apply SubR.cons 2 rfl | apply SubR.cons 3 rfl | apply SubR.cons 4 rfl | apply SubR.cons 5 rfl | apply SubR.cons 6 rfl | apply SubR.cons 7 rfl | apply SubR.cons 8 rfl | apply SubR.cons 9 rfl | apply SubR.cons 10 rfl | apply SubR.cons 11 rfl | apply SubR.cons 12 rfl | apply SubR.cons 13 rfl | apply SubR.cons 14 rfl | apply SubR.cons 15 rfl)) s) (Yl.buildStruct (ps := prPlaces) (zl := zeroC) (by kernel_rfl) (by kernel_rfl) rfl hft) ?_
        refine GH.step 11 rfl (by kernel_rfl) ?_
        refine GO.alloc (l := zeroC) (by first | exact Wt.none | exact Wt.some rfl rfl (by first | exact rfl | decide +kernel)) (by kernel_rfl) ?_
        intro bp
        refine GH.keep (fun _ s => Sat.sub (by repeat (first | exact SubR.nil | apply SubR.cons 0 rfl | apply SubR.cons 1 rfl | apply SubR.cons 2 rfl | apply SubR.cons 3 rfl | apply SubR.cons 4 rfl | apply SubR.cons 5 rfl | apply SubR.cons 6 rfl | apply SubR.cons 7 rfl | apply SubR.cons 8 rfl | apply SubR.cons 9 rfl | apply SubR.cons 10 rfl | apply SubR.cons 11 rfl | apply SubR.cons 12 rfl | apply SubR.cons 13 rfl | apply SubR.cons 14 rfl | apply SubR.cons 15 rfl)) s) ?_
        refine GH.heap (Γ' := [blk bp 27 (0, 0) zeroC, blk bz 27 (0, 0) zeroC, blk bm 95 (0, 0) (madeC m), blk bl 60 (0, 0) [.slice (some ⟨b4, o4, none⟩) r.L.length c, .slice p2 r.D.length c2], poolOf H]) (fun _ s => Sat.sub (by repeat (first | exact SubR.nil | apply SubR.cons 0 rfl | apply SubR.cons 1 rfl | apply SubR.cons 2 rfl | apply SubR.cons 3 rfl | apply SubR.cons 4 rfl | apply SubR.cons 5 rfl | apply SubR.cons 6 rfl | apply SubR.cons 7 rfl | apply SubR.cons 8 rfl | apply SubR.cons 9 rfl | apply SubR.cons 10 rfl | apply SubR.cons 11 rfl | apply SubR.cons 12 rfl | apply SubR.cons 13 rfl | apply SubR.cons 14 rfl | apply SubR.cons 15 rfl)) s) ?_
        refine GH.step 12 rfl (by kernel_rfl) ?_
        refine Gt.storeAny tb 0 (by first | exact Wt.none | exact Wt.some rfl rfl (by first | exact rfl | decide +kernel)) rfl rfl rfl w39 w1 rfl z39 ?_
        refine GH.keep (fun _ s => Sat.sub (by repeat (first | exact SubR.nil | apply SubR.cons 0 rfl | apply SubR.cons 1 rfl | apply SubR.cons 2 rfl | apply SubR.cons 3 rfl | apply SubR.cons 4 rfl | apply SubR.cons 5 rfl | apply SubR.cons 6 rfl | apply SubR.cons 7 rfl | apply SubR.cons 8 rfl | apply SubR.cons 9 rfl | apply SubR.cons 10 rfl | apply SubR.cons 11 rfl | apply SubR.cons 12 rfl | apply SubR.cons 13 rfl | apply SubR.cons 14 rfl | apply SubR.cons 15 rfl)) s) ?_
        refine GH.fin (by kernel_rfl) ?_
        (repeat (first | refine GK.ro ?_ | (refine GK.box ?_; intro bl) | (refine GK.mkMap ?_; intro bm) | (refine GK.build0 tb ?_; intro bs)))
        exact GQ.reach bp trivial (by repeat (first | exact trivial | refine ⟨rfl, ?_⟩)) (fun _ s => Sat.sub (by repeat (first | exact SubR.nil | apply SubR.cons 0 rfl | apply SubR.cons 1 rfl | apply SubR.cons 2 rfl | apply SubR.cons 3 rfl | apply SubR.cons 4 rfl | apply SubR.cons 5 rfl | apply SubR.cons 6 rfl | apply SubR.cons 7 rfl | apply SubR.cons 8 rfl | apply SubR.cons 9 rfl | apply SubR.cons 10 rfl | apply SubR.cons 11 rfl | apply SubR.cons 12 rfl | apply SubR.cons 13 rfl | apply SubR.cons 14 rfl | apply SubR.cons 15 rfl)) s)
      · refine GO.alloc (l := zeroC) (by first | exact Wt.none | exact Wt.some rfl rfl (by first | exact rfl | decide +kernel)) (by kernel_rfl) ?_
        intro bp
        refine GH.keep (fun _ s => Sat.sub (by repeat (first | exact SubR.nil | apply SubR.cons 0 rfl | apply SubR.cons 1 rfl | apply SubR.cons 2 rfl | apply SubR.cons 3 rfl | apply SubR.cons 4 rfl | apply SubR.cons 5 rfl | apply SubR.cons 6 rfl | apply SubR.cons 7 rfl | apply SubR.cons 8 rfl | apply SubR.cons 9 rfl | apply SubR.cons 10 rfl | apply SubR.cons 11 rfl | apply SubR.cons 12 rfl | apply SubR.cons 13 rfl | apply SubR.cons 14 rfl | apply SubR.cons 15 rfl)) s) ?_
        refine GH.step 9 rfl (by kernel_rfl) ?_
        refine GO.callA (fun hF' hle hH => isOpen_ok (n := n) h0) (by first | exact Wt.none | exact Wt.some rfl rfl (by first | exact rfl | decide +kernel)) (by kernel_rfl) rfl rfl (by repeat (first | exact SubR.nil | apply SubR.cons 0 rfl | apply SubR.cons 1 rfl | apply SubR.cons 2 rfl | apply SubR.cons 3 rfl | apply SubR.cons 4 rfl | apply SubR.cons 5 rfl | apply SubR.cons 6 rfl | apply SubR.cons 7 rfl | apply SubR.cons 8 rfl | apply SubR.cons 9 rfl | apply SubR.cons 10 rfl | apply SubR.cons 11 rfl | apply SubR.cons 12 rfl | apply SubR.cons 13 rfl | apply SubR.cons 14 rfl | apply SubR.cons 15 rfl)) ?_
        rintro v Γ' ⟨rfl, rfl⟩
        refine GH.keep (fun _ s => Sat.sub (by repeat (first | exact SubR.nil | apply SubR.cons 0 rfl | apply SubR.cons 1 rfl | apply SubR.cons 2 rfl | apply SubR.cons 3 rfl | apply SubR.cons 4 rfl | apply SubR.cons 5 rfl | apply SubR.cons 6 rfl | apply SubR.cons 7 rfl | apply SubR.cons 8 rfl | apply SubR.cons 9 rfl | apply SubR.cons 10 rfl | apply SubR.cons 11 rfl | apply SubR.cons 12 rfl | apply SubR.cons 13 rfl | apply SubR.cons 14 rfl | apply SubR.cons 15 rfl)) s) ?_
        refine GH.take 10 rfl (by kernel_rfl) (by first | exact Wt.none | exact Wt.some rfl rfl (by first | exact rfl | decide +kernel)) (fun _ s => Sat.sub (by repeat (first | exact SubR.nil | apply SubR.cons 0 rfl | apply SubR.cons 1 rfl | apply SubR.cons 2 rfl | apply SubR.cons 3 rfl | apply SubR.cons 4 rfl | apply SubR.cons 5 rfl | apply SubR.cons 6 rfl | apply SubR.cons 7 rfl | apply SubR.cons 8 rfl | apply SubR.cons 9 rfl | apply SubR.cons 10 rfl | apply SubR.cons 11 rfl | apply SubR.cons 12 rfl | apply SubR.cons 13 rfl | apply SubR.cons 14 rfl | apply SubR.cons 15 rfl)) s) (Yl.buildStruct (ps := prPlaces) (zl := zeroC) (by kernel_rfl) (by kernel_rfl) rfl hft) ?_
        refine GH.heap (Γ' := [blk bp 27 (0, 0) zeroC, blk bz 27 (0, 0) zeroC, blk bm 95 (0, 0) (madeC m), blk bl 60 (0, 0) [.slice (some ⟨b4, o4, none⟩) r.L.length c, .slice p2 r.D.length c2], poolOf H]) (fun _ s => Sat.sub (by repeat (first | exact SubR.nil | apply SubR.cons 0 rfl | apply SubR.cons 1 rfl | apply SubR.cons 2 rfl | apply SubR.cons 3 rfl | apply SubR.cons 4 rfl | apply SubR.cons 5 rfl | apply SubR.cons 6 rfl | apply SubR.cons 7 rfl | apply SubR.cons 8 rfl | apply SubR.cons 9 rfl | apply SubR.cons 10 rfl | apply SubR.cons 11 rfl | apply SubR.cons 12 rfl | apply SubR.cons 13 rfl | apply SubR.cons 14 rfl | apply SubR.cons 15 rfl)) s) ?_
        refine GH.step 12 rfl (by kernel_rfl) ?_
        refine Gt.storeAny tb 0 (by first | exact Wt.none | exact Wt.some rfl rfl (by first | exact rfl | decide +kernel)) rfl rfl rfl w39 w1 rfl z39 ?_
        refine GH.keep (fun _ s => Sat.sub (by repeat (first | exact SubR.nil | apply SubR.cons 0 rfl | apply SubR.cons 1 rfl | apply SubR.cons 2 rfl | apply SubR.cons 3 rfl | apply SubR.cons 4 rfl | apply SubR.cons 5 rfl | apply SubR.cons 6 rfl | apply SubR.cons 7 rfl | apply SubR.cons 8 rfl | apply SubR.cons 9 rfl | apply SubR.cons 10 rfl | apply SubR.cons 11 rfl | apply SubR.cons 12 rfl | apply SubR.cons 13 rfl | apply SubR.cons 14 rfl | apply SubR.cons 15 rfl)) s) ?_
        refine GH.fin (by kernel_rfl) ?_
        (repeat (first | refine GK.ro ?_ | (refine GK.box ?_; intro bl) | (refine GK.mkMap ?_; intro bm) | (refine GK.build0 tb ?_; intro bs)))
        exact GQ.reach bp trivial (by repeat (first | exact trivial | refine ⟨rfl, ?_⟩)) (fun _ s => Sat.sub (by repeat (first | exact SubR.nil | apply SubR.cons 0 rfl | apply SubR.cons 1 rfl | apply SubR.cons 2 rfl | apply SubR.cons 3 rfl | apply SubR.cons 4 rfl | apply SubR.cons 5 rfl | apply SubR.cons 6 rfl | apply SubR.cons 7 rfl | apply SubR.cons 8 rfl | apply SubR.cons 9 rfl | apply SubR.cons 10 rfl | apply SubR.cons 11 rfl | apply SubR.cons 12 rfl | apply SubR.cons 13 rfl | apply SubR.cons 14 rfl | apply SubR.cons 15 rfl)) s)
    · (repeat (first | refine GK.ro ?_ | (refine GK.box ?_; intro bl) | (refine GK.mkMap ?_; intro bm) | (refine GK.build0 tb ?_; intro bs)))
      refine GK.weak (fr' := [(1, .int .i64 n), (2, .pointer (some ⟨bl, 0, none⟩)), (4, .pointer (some ⟨bz, 0, none⟩)), (6, .pointer (some ⟨bp, 0, none⟩)), (7, .int .i64 ((0 : Nat) : Int))])
        (Γ' := [row (.slice none 0 0) 67 2 0 (prs []), blk bp 27 (0, 0) (propC p0 (.slice none 0 0) (.slice none 0 0) (.slice none 0 0)), blk bl 60 (0, 0) [.slice (some ⟨b4, o4, none⟩) r.L.length c, .slice p2 r.D.length c2], blk bz 27 (0, 0) zeroC, poolOf H]) (by repeat (first | exact trivial | refine ⟨rfl, ?_⟩)) (fun w s => by rw [prs_nil]; exact Sl.Sat.row_nil (Sl.Sat.sub (by repeat (first | exact SubR.nil | apply SubR.cons 0 rfl | apply SubR.cons 1 rfl | apply SubR.cons 2 rfl | apply SubR.cons 3 rfl | apply SubR.cons 4 rfl | apply SubR.cons 5 rfl | apply SubR.cons 6 rfl | apply SubR.cons 7 rfl | apply SubR.cons 8 rfl | apply SubR.cons 9 rfl | apply SubR.cons 10 rfl | apply SubR.cons 11 rfl | apply SubR.cons 12 rfl | apply SubR.cons 13 rfl | apply SubR.cons 14 rfl | apply SubR.cons 15 rfl)) s))
        (G.loopN (X := Nat × St3 × Hp × Value × Value × Option Addr × Nat) (fun (j, _, _, _, _, _, _) => r.D.length - j) (fun (j, _, _, _, _, _, _) => [(1, .int .i64 n), (2, .pointer (some ⟨bl, 0, none⟩)), (4, .pointer (some ⟨bz, 0, none⟩)), (6, .pointer (some ⟨bp, 0, none⟩)), (7, .int .i64 (j : Int))])
        (fun (_, s, H', yv, nv, q, d) => [row (.slice q s.1.length d) 67 2 s.1.length (prs s.1), blk bp 27 (0, 0) (propC p0 yv nv (.slice q s.1.length d)), blk bl 60 (0, 0) [.slice (some ⟨b4, o4, none⟩) r.L.length c, .slice p2 r.D.length c2], blk bz 27 (0, 0) zeroC, poolOf H'])
        (fun (j, s, H', yv, nv, _, _) => j ≤ r.D.length ∧ s = pfold r n (r.D.take j) ∧ le H H' ∧ rs H' yv s.2.1.length 1 (strs s.2.1) ∧ rs H' nv s.2.2.length 1 (strs s.2.2) ∧ Less s j) (fun y hy k hk => ?_) (0, ([], [], []), H, .slice none 0 0, .slice none 0 0, none, 0) ⟨Nat.zero_le _, rfl, le.refl _, nilS, nilS, ⟨Nat.zero_le _, Nat.zero_le _, Nat.zero_le _⟩⟩)
      obtain ⟨j, ⟨s1, s2, s3⟩, H', yv, nv, q, d⟩ := y
      obtain ⟨hj, hs, le1, hy1, hn1, hl1⟩ := hy
      dsimp only at hk hy1 hn1 hl1
      have hmn := h0.mono le1
      have f1 := hl1.1
      have f2 := hl1.2.1
      have f3 := hl1.2.2
      dsimp only at f1 f2 f3
      have k36 : (propC p0 yv nv (.slice q s1.length d))[0 + 36]? = some yv := propC_y hph
      have k37 : (propC p0 yv nv (.slice q s1.length d))[0 + 37]? = some nv := propC_n hph
      have k38 : (propC p0 yv nv (.slice q s1.length d))[0 + 38]? = some (.slice q s1.length d) := propC_t hph
      have k39 : (propC p0 yv nv (.slice q s1.length d)).length = 39 := propC_len hph
      have k1 : ∀ u ∈ propC p0 yv nv (.slice q s1.length d), u.oneCell' = true := propC_one hy1.one hn1.one rfl
      refine GK.weak (fr' := [(1, .int .i64 n), (2, .pointer (some ⟨bl, 0, none⟩)), (4, .pointer (some ⟨bz, 0, none⟩)), (6, .pointer (some ⟨bp, 0, none⟩)), (7, .int .i64 (j : Int))])
        (Γ' := [row (.slice q s1.length d) 67 2 s1.length (prs s1), blk bp 27 (0, 0) (propC p0 yv nv (.slice q s1.length d)), blk bl 60 (0, 0) [.slice (some ⟨b4, o4, none⟩) r.L.length c, .slice p2 r.D.length c2], blk bz 27 (0, 0) zeroC, poolOf H']) (by repeat (first | exact trivial | refine ⟨rfl, ?_⟩)) (fun _ s => Sat.sub (by repeat (first | exact SubR.nil | apply SubR.cons 0 rfl | apply SubR.cons 1 rfl | apply SubR.cons 2 rfl | apply SubR.cons 3 rfl | apply SubR.cons 4 rfl | apply SubR.cons 5 rfl | apply SubR.cons 6 rfl | apply SubR.cons 7 rfl | apply SubR.cons 8 rfl | apply SubR.cons 9 rfl | apply SubR.cons 10 rfl | apply SubR.cons 11 rfl | apply SubR.cons 12 rfl | apply SubR.cons 13 rfl | apply SubR.cons 14 rfl | apply SubR.cons 15 rfl)) s) ?_
      (repeat (first | refine GK.ro ?_ | (refine GK.box ?_; intro bl) | (refine GK.mkMap ?_; intro bm) | (refine GK.build0 tb ?_; intro bs)))
      refine G.cond rfl (fun hb => ?_) (fun hb => ?_)
      · obtain ⟨x, hx⟩ : ∃ x, r.D[j]? = some x := ⟨_, List.getElem?_eq_getElem (by simpa using hb)⟩
        have hlt : j < r.D.length := by simpa using hb
        clear hb
        have hxk := hkk x (List.mem_of_getElem? hx)
        have hst := pfold_take (r := r) (n := n) hx
        rw [← hs] at hst
        obtain ⟨b6, o6, cs6, et6, fz6, hp6, hb6, hat6⟩ := hr2 (by omega)
        subst hp6
        have hb6' := le1 _ _ hb6
        have hD : At cs6 (o6 + (j : Int).toNat * 4) (deedC x) := fun i w hw => by
          have := hat6 (j * 4 + i) w (deeds_at hx i w hw)
          rw [show o6 + (j : Int).toNat * 4 + i = o6 + (j * 4 + i) by omega]; exact this
        have q0 : (deedC x).length = 4 := rfl
        have q00 : ∀ w ∈ deedC x, w.oneCell' = true := one_of_all rfl
        have q1 : (deedC x)[0 + 0]? = some (.int .i64 x.kind) := rfl
        have q2 : (deedC x)[0 + 1]? = some (.int .i64 x.id) := rfl
        have q3 : (deedC x)[0 + 2]? = some (str x.u) := rfl
        have q4 : (deedC x)[0 + 3]? = some (str x.t) := rfl
        by_cases hi : x.id = n
        · by_cases h4 : x.kind = 4
          · rw [pstep_talk hi h4] at hst
            (repeat (first | refine GK.ro ?_ | (refine GK.box ?_; intro bl) | (refine GK.mkMap ?_; intro bm) | (refine GK.build0 tb ?_; intro bs) | (refine GL.cons ?_; refine GO.alloc (by first | exact Wt.none | exact Wt.some rfl rfl (by first | exact rfl | decide +kernel)) (by exact rfl) ?_; intro ba) | (refine GL.cons ?_; refine Gt.storeAny tb 0 (by first | exact Wt.none | exact Wt.some rfl rfl (by first | exact rfl | decide +kernel)) (by exact rfl) (by exact rfl) (by exact rfl) (by assumption) (by assumption) (by exact rfl) (by first | exact rfl | assumption) ?_) | (refine GL.cons ?_; refine Gt.storeAny tb 1 (by first | exact Wt.none | exact Wt.some rfl rfl (by first | exact rfl | decide +kernel)) (by exact rfl) (by exact rfl) (by exact rfl) (by assumption) (by assumption) (by exact rfl) (by first | exact rfl | assumption) ?_) | (refine GL.cons ?_; refine Gt.storeAny tb 2 (by first | exact Wt.none | exact Wt.some rfl rfl (by first | exact rfl | decide +kernel)) (by exact rfl) (by exact rfl) (by exact rfl) (by assumption) (by assumption) (by exact rfl) (by first | exact rfl | assumption) ?_) | (refine GL.cons ?_; refine Gt.storeAny tb 3 (by first | exact Wt.none | exact Wt.some rfl rfl (by first | exact rfl | decide +kernel)) (by exact rfl) (by exact rfl) (by exact rfl) (by assumption) (by assumption) (by exact rfl) (by first | exact rfl | assumption) ?_) | (refine GL.cons ?_; refine Gt.storeAny tb 4 (by first | exact Wt.none | exact Wt.some rfl rfl (by first | exact rfl | decide +kernel)) (by exact rfl) (by exact rfl) (by exact rfl) (by assumption) (by assumption) (by exact rfl) (by first | exact rfl | assumption) ?_) | (refine GL.cons ?_; refine Gt.storeAny tb 5 (by first | exact Wt.none | exact Wt.some rfl rfl (by first | exact rfl | decide +kernel)) (by exact rfl) (by exact rfl) (by exact rfl) (by assumption) (by assumption) (by exact rfl) (by first | exact rfl | assumption) ?_) | (refine GL.cons ?_; refine Gt.storeAny tb 6 (by first | exact Wt.none | exact Wt.some rfl rfl (by first | exact rfl | decide +kernel)) (by exact rfl) (by exact rfl) (by exact rfl) (by assumption) (by assumption) (by exact rfl) (by first | exact rfl | assumption) ?_) | (refine GL.cons ?_; refine Gt.storeAny tb 7 (by first | exact Wt.none | exact Wt.some rfl rfl (by first | exact rfl | decide +kernel)) (by exact rfl) (by exact rfl) (by exact rfl) (by assumption) (by assumption) (by exact rfl) (by first | exact rfl | assumption) ?_) | (refine GL.cons ?_; refine Gt.storeAny tb 8 (by first | exact Wt.none | exact Wt.some rfl rfl (by first | exact rfl | decide +kernel)) (by exact rfl) (by exact rfl) (by exact rfl) (by assumption) (by assumption) (by exact rfl) (by first | exact rfl | assumption) ?_) | (refine GL.cons ?_; refine Gt.storeAny tb 9 (by first | exact Wt.none | exact Wt.some rfl rfl (by first | exact rfl | decide +kernel)) (by exact rfl) (by exact rfl) (by exact rfl) (by assumption) (by assumption) (by exact rfl) (by first | exact rfl | assumption) ?_)))
            refine GL.cons ?_; refine Gt.buildLit tb (sz := 1) (n := 0) (by first | exact Wt.none | exact Wt.some rfl rfl (by first | exact rfl | decide +kernel)) rfl rfl (by kernel_rfl) rfl rfl rfl rfl rfl rfl ?_
            intro bx
            refine GL.cons ?_; (first | refine Gt.append tb 1 (by first | exact Wt.none | exact Wt.some rfl rfl (by first | exact rfl | decide +kernel)) rfl (.inl ⟨_, rfl⟩) rfl rfl rfl rfl rfl (Src.slice (m := 1) (Rd.blk 0 rfl) (At.all _) rfl (one_of_all rfl)) (by omega) (by omega) ?_ | refine Gt.append tb 2 (by first | exact Wt.none | exact Wt.some rfl rfl (by first | exact rfl | decide +kernel)) rfl (.inl ⟨_, rfl⟩) rfl rfl rfl rfl rfl (Src.slice (m := 1) (Rd.blk 0 rfl) (At.all _) rfl (one_of_all rfl)) (by omega) (by omega) ?_ | refine Gt.append tb 3 (by first | exact Wt.none | exact Wt.some rfl rfl (by first | exact rfl | decide +kernel)) rfl (.inl ⟨_, rfl⟩) rfl rfl rfl rfl rfl (Src.slice (m := 1) (Rd.blk 0 rfl) (At.all _) rfl (one_of_all rfl)) (by omega) (by omega) ?_ | refine Gt.append tb 4 (by first | exact Wt.none | exact Wt.some rfl rfl (by first | exact rfl | decide +kernel)) rfl (.inl ⟨_, rfl⟩) rfl rfl rfl rfl rfl (Src.slice (m := 1) (Rd.blk 0 rfl) (At.all _) rfl (one_of_all rfl)) (by omega) (by omega) ?_ | refine Gt.append tb 5 (by first | exact Wt.none | exact Wt.some rfl rfl (by first | exact rfl | decide +kernel)) rfl (.inl ⟨_, rfl⟩) rfl rfl rfl rfl rfl (Src.slice (m := 1) (Rd.blk 0 rfl) (At.all _) rfl (one_of_all rfl)) (by omega) (by omega) ?_ | refine Gt.append tb 6 (by first | exact Wt.none | exact Wt.some rfl rfl (by first | exact rfl | decide +kernel)) rfl (.inl ⟨_, rfl⟩) rfl rfl rfl rfl rfl (Src.slice (m := 1) (Rd.blk 0 rfl) (At.all _) rfl (one_of_all rfl)) (by omega) (by omega) ?_ | refine Gt.append tb 7 (by first | exact Wt.none | exact Wt.some rfl rfl (by first | exact rfl | decide +kernel)) rfl (.inl ⟨_, rfl⟩) rfl rfl rfl rfl rfl (Src.slice (m := 1) (Rd.blk 0 rfl) (At.all _) rfl (one_of_all rfl)) (by omega) (by omega) ?_ | refine Gt.append tb 8 (by first | exact Wt.none | exact Wt.some rfl rfl (by first | exact rfl | decide +kernel)) rfl (.inl ⟨_, rfl⟩) rfl rfl rfl rfl rfl (Src.slice (m := 1) (Rd.blk 0 rfl) (At.all _) rfl (one_of_all rfl)) (by omega) (by omega) ?_ | refine Gt.append tb 9 (by first | exact Wt.none | exact Wt.some rfl rfl (by first | exact rfl | decide +kernel)) rfl (.inl ⟨_, rfl⟩) rfl rfl rfl rfl rfl (Src.slice (m := 1) (Rd.blk 0 rfl) (At.all _) rfl (one_of_all rfl)) (by omega) (by omega) ?_ | refine Gt.append tb 10 (by first | exact Wt.none | exact Wt.some rfl rfl (by first | exact rfl | decide +kernel)) rfl (.inl ⟨_, rfl⟩) rfl rfl rfl rfl rfl (Src.slice (m := 1) (Rd.blk 0 rfl) (At.all _) rfl (one_of_all rfl)) (by omega) (by omega) ?_ | refine Gt.append tb 11 (by first | exact Wt.none | exact Wt.some rfl rfl (by first | exact rfl | decide +kernel)) rfl (.inl ⟨_, rfl⟩) rfl rfl rfl rfl rfl (Src.slice (m := 1) (Rd.blk 0 rfl) (At.all _) rfl (one_of_all rfl)) (by omega) (by omega) ?_ | refine Gt.append tb 12 (by first | exact Wt.none | exact Wt.some rfl rfl (by first | exact rfl | decide +kernel)) rfl (.inl ⟨_, rfl⟩) rfl rfl rfl rfl rfl (Src.slice (m := 1) (Rd.blk 0 rfl) (At.all _) rfl (one_of_all rfl)) (by omega) (by omega) ?_)
            intro q5 d5
            rw [show s1.length + 1 = (s1 ++ [(x.u, x.t)]).length by simp]
            refine GK.heap (Γ' := [row (.slice q5 (s1 ++ [(x.u, x.t)]).length d5) 67 2 (s1 ++ [(x.u, x.t)]).length (prs (s1 ++ [(x.u, x.t)])), blk bp 27 (0, 0) (propC p0 yv nv (.slice q s1.length d)), blk bl 60 (0, 0) [.slice (some ⟨b4, o4, none⟩) r.L.length c, .slice (some ⟨b6, o6, none⟩) r.D.length c2], blk bz 27 (0, 0) zeroC, blk ba 97 (0, 0) (deedC x), poolOf H']) (fun w s => by rw [prs_append, prs_one1]; exact Sl.Sat.sub (by repeat (first | exact SubR.nil | apply SubR.cons 0 rfl | apply SubR.cons 1 rfl | apply SubR.cons 2 rfl | apply SubR.cons 3 rfl | apply SubR.cons 4 rfl | apply SubR.cons 5 rfl | apply SubR.cons 6 rfl | apply SubR.cons 7 rfl | apply SubR.cons 8 rfl | apply SubR.cons 9 rfl | apply SubR.cons 10 rfl | apply SubR.cons 11 rfl | apply SubR.cons 12 rfl | apply SubR.cons 13 rfl | apply SubR.cons 14 rfl | apply SubR.cons 15 rfl)) s) ?_
            (repeat (first | refine GK.ro ?_ | (refine GK.box ?_; intro bl) | (refine GK.mkMap ?_; intro bm) | (refine GK.build0 tb ?_; intro bs)))
            refine GL.cons ?_; refine Gt.storeAt tb 1 (by first | exact Wt.none | exact Wt.some rfl rfl (by first | exact rfl | decide +kernel)) rfl rfl rfl rfl rfl ?_ rfl ?_
            · show 0 + 38 < (propC p0 yv nv (.slice q s1.length d)).length
              rw [k39]; omega
            rw [show (propC p0 yv nv (.slice q s1.length d)).set (0 + 38) (.slice q5 (s1 ++ [(x.u, x.t)]).length d5) = propC p0 yv nv (.slice q5 (s1 ++ [(x.u, x.t)]).length d5) from propC_setT hph]
            (repeat (first | refine GK.ro ?_ | (refine GK.box ?_; intro bl) | (refine GK.mkMap ?_; intro bm) | (refine GK.build0 tb ?_; intro bs)))
            (refine GQ.againN ((j + 1, (s1 ++ [(x.u, x.t)], s2, s3), H', yv, nv, q5, d5)) ?_ ?_ ?_ ?_; rotate_left; (first | omega | (dsimp only; omega)); exact (by repeat (first | exact trivial | refine ⟨rfl, ?_⟩)); exact (fun _ s => Sat.sub (by repeat (first | exact SubR.nil | apply SubR.cons 0 rfl | apply SubR.cons 1 rfl | apply SubR.cons 2 rfl | apply SubR.cons 3 rfl | apply SubR.cons 4 rfl | apply SubR.cons 5 rfl | apply SubR.cons 6 rfl | apply SubR.cons 7 rfl | apply SubR.cons 8 rfl | apply SubR.cons 9 rfl | apply SubR.cons 10 rfl | apply SubR.cons 11 rfl | apply SubR.cons 12 rfl | apply SubR.cons 13 rfl | apply SubR.cons 14 rfl | apply SubR.cons 15 rfl)) s))
            exact ⟨by omega, hst.symm, le1, hy1, hn1, ⟨by rw [List.length_append]; show s1.length + 1 ≤ j + 1; omega, by show s2.length ≤ j + 1; omega, by show s3.length ≤ j + 1; omega⟩⟩
          · by_cases h3 : x.kind < 3
            · (repeat (first | refine GK.ro ?_ | (refine GK.box ?_; intro bl) | (refine GK.mkMap ?_; intro bm) | (refine GK.build0 tb ?_; intro bs) | (refine GL.cons ?_; refine GO.alloc (by first | exact Wt.none | exact Wt.some rfl rfl (by first | exact rfl | decide +kernel)) (by exact rfl) ?_; intro ba) | (refine GL.cons ?_; refine Gt.storeAny tb 0 (by first | exact Wt.none | exact Wt.some rfl rfl (by first | exact rfl | decide +kernel)) (by exact rfl) (by exact rfl) (by exact rfl) (by assumption) (by assumption) (by exact rfl) (by first | exact rfl | assumption) ?_) | (refine GL.cons ?_; refine Gt.storeAny tb 1 (by first | exact Wt.none | exact Wt.some rfl rfl (by first | exact rfl | decide +kernel)) (by exact rfl) (by exact rfl) (by exact rfl) (by assumption) (by assumption) (by exact rfl) (by first | exact rfl | assumption) ?_) | (refine GL.cons ?_; refine Gt.storeAny tb 2 (by first | exact Wt.none | exact Wt.some rfl rfl (by first | exact rfl | decide +kernel)) (by exact rfl) (by exact rfl) (by exact rfl) (by assumption) (by assumption) (by exact rfl) (by first | exact rfl | assumption) ?_) | (refine GL.cons ?_; refine Gt.storeAny tb 3 (by first | exact Wt.none | exact Wt.some rfl rfl (by first | exact rfl | decide +kernel)) (by exact rfl) (by exact rfl) (by exact rfl) (by assumption) (by assumption) (by exact rfl) (by first | exact rfl | assumption) ?_) | (refine GL.cons ?_; refine Gt.storeAny tb 4 (by first | exact Wt.none | exact Wt.some rfl rfl (by first | exact rfl | decide +kernel)) (by exact rfl) (by exact rfl) (by exact rfl) (by assumption) (by assumption) (by exact rfl) (by first | exact rfl | assumption) ?_) | (refine GL.cons ?_; refine Gt.storeAny tb 5 (by first | exact Wt.none | exact Wt.some rfl rfl (by first | exact rfl | decide +kernel)) (by exact rfl) (by exact rfl) (by exact rfl) (by assumption) (by assumption) (by exact rfl) (by first | exact rfl | assumption) ?_) | (refine GL.cons ?_; refine Gt.storeAny tb 6 (by first | exact Wt.none | exact Wt.some rfl rfl (by first | exact rfl | decide +kernel)) (by exact rfl) (by exact rfl) (by exact rfl) (by assumption) (by assumption) (by exact rfl) (by first | exact rfl | assumption) ?_) | (refine GL.cons ?_; refine Gt.storeAny tb 7 (by first | exact Wt.none | exact Wt.some rfl rfl (by first | exact rfl | decide +kernel)) (by exact rfl) (by exact rfl) (by exact rfl) (by assumption) (by assumption) (by exact rfl) (by first | exact rfl | assumption) ?_) | (refine GL.cons ?_; refine Gt.storeAny tb 8 (by first | exact Wt.none | exact Wt.some rfl rfl (by first | exact rfl | decide +kernel)) (by exact rfl) (by exact rfl) (by exact rfl) (by assumption) (by assumption) (by exact rfl) (by first | exact rfl | assumption) ?_) | (refine GL.cons ?_; refine Gt.storeAny tb 9 (by first | exact Wt.none | exact Wt.some rfl rfl (by first | exact rfl | decide +kernel)) (by exact rfl) (by exact rfl) (by exact rfl) (by assumption) (by assumption) (by exact rfl) (by first | exact rfl | assumption) ?_)))
              refine GL.cons ?_; refine GO.callA (fun hF' hle hH => ofR_ok (n := n) (u := x.u) hmn) (Wt.some rfl rfl (by simp [h3])) (by kernel_rfl) rfl rfl (by repeat (first | exact SubR.nil | apply SubR.cons 0 rfl | apply SubR.cons 1 rfl | apply SubR.cons 2 rfl | apply SubR.cons 3 rfl | apply SubR.cons 4 rfl | apply SubR.cons 5 rfl | apply SubR.cons 6 rfl | apply SubR.cons 7 rfl | apply SubR.cons 8 rfl | apply SubR.cons 9 rfl | apply SubR.cons 10 rfl | apply SubR.cons 11 rfl | apply SubR.cons 12 rfl | apply SubR.cons 13 rfl | apply SubR.cons 14 rfl | apply SubR.cons 15 rfl)) ?_
              rintro v Γ' ⟨rfl, rfl⟩
              by_cases h1 : ofR r.D n x.u = 1
              · rw [pstep_yes hi h3 h1] at hst
                (repeat (first | refine GK.ro ?_ | (refine GK.box ?_; intro bl) | (refine GK.mkMap ?_; intro bm) | (refine GK.build0 tb ?_; intro bs)))
                refine GL.cons ?_; refine GO.callA (fun hF' hle hH => with_ok (s := x.u) hy1 (by omega)) (by first | exact Wt.none | exact Wt.some rfl rfl (by first | exact rfl | decide +kernel)) (by kernel_rfl) rfl rfl (by repeat (first | exact SubR.nil | apply SubR.cons 0 rfl | apply SubR.cons 1 rfl | apply SubR.cons 2 rfl | apply SubR.cons 3 rfl | apply SubR.cons 4 rfl | apply SubR.cons 5 rfl | apply SubR.cons 6 rfl | apply SubR.cons 7 rfl | apply SubR.cons 8 rfl | apply SubR.cons 9 rfl | apply SubR.cons 10 rfl | apply SubR.cons 11 rfl | apply SubR.cons 12 rfl | apply SubR.cons 13 rfl | apply SubR.cons 14 rfl | apply SubR.cons 15 rfl)) ?_
                rintro v2 Γ' ⟨H2, le2, hrs2, rfl⟩
                have hmn2 := hmn.mono le2
                have wl := withM_len s2 x.u
                have v2o := hrs2.one
                refine GK.heap (Γ' := [row (.slice q s1.length d) 67 2 s1.length (prs s1), blk bp 27 (0, 0) (propC p0 yv nv (.slice q s1.length d)), blk bl 60 (0, 0) [.slice (some ⟨b4, o4, none⟩) r.L.length c, .slice (some ⟨b6, o6, none⟩) r.D.length c2], blk bz 27 (0, 0) zeroC, blk ba 97 (0, 0) (deedC x), poolOf H2]) (fun _ s => Sat.sub (by repeat (first | exact SubR.nil | apply SubR.cons 0 rfl | apply SubR.cons 1 rfl | apply SubR.cons 2 rfl | apply SubR.cons 3 rfl | apply SubR.cons 4 rfl | apply SubR.cons 5 rfl | apply SubR.cons 6 rfl | apply SubR.cons 7 rfl | apply SubR.cons 8 rfl | apply SubR.cons 9 rfl | apply SubR.cons 10 rfl | apply SubR.cons 11 rfl | apply SubR.cons 12 rfl | apply SubR.cons 13 rfl | apply SubR.cons 14 rfl | apply SubR.cons 15 rfl)) s) ?_
                (repeat (first | refine GK.ro ?_ | (refine GK.box ?_; intro bl) | (refine GK.mkMap ?_; intro bm) | (refine GK.build0 tb ?_; intro bs)))
                refine GL.cons ?_; refine Gt.storeAt tb 1 (by first | exact Wt.none | exact Wt.some rfl rfl (by first | exact rfl | decide +kernel)) rfl rfl rfl v2o rfl ?_ rfl ?_
                · show 0 + 36 < (propC p0 yv nv (.slice q s1.length d)).length
                  rw [k39]; omega
                rw [show (propC p0 yv nv (.slice q s1.length d)).set (0 + 36) v2 = propC p0 v2 nv (.slice q s1.length d) from propC_setY hph]
                (repeat (first | refine GK.ro ?_ | (refine GK.box ?_; intro bl) | (refine GK.mkMap ?_; intro bm) | (refine GK.build0 tb ?_; intro bs)))
                refine GL.cons ?_; refine GO.callA (fun hF' hle hH => ofR_ok (n := n) (u := x.u) hmn2) (Wt.some rfl rfl (by simp [h3])) (by kernel_rfl) rfl rfl (by repeat (first | exact SubR.nil | apply SubR.cons 0 rfl | apply SubR.cons 1 rfl | apply SubR.cons 2 rfl | apply SubR.cons 3 rfl | apply SubR.cons 4 rfl | apply SubR.cons 5 rfl | apply SubR.cons 6 rfl | apply SubR.cons 7 rfl | apply SubR.cons 8 rfl | apply SubR.cons 9 rfl | apply SubR.cons 10 rfl | apply SubR.cons 11 rfl | apply SubR.cons 12 rfl | apply SubR.cons 13 rfl | apply SubR.cons 14 rfl | apply SubR.cons 15 rfl)) ?_
                rintro v Γ' ⟨rfl, rfl⟩
                (repeat (first | refine GK.ro ?_ | (refine GK.box ?_; intro bl) | (refine GK.mkMap ?_; intro bm) | (refine GK.build0 tb ?_; intro bs)))
                (refine GQ.againN ((j + 1, (s1, withM s2 x.u, s3), H2, v2, nv, q, d)) ?_ ?_ ?_ ?_; rotate_left; (first | omega | (dsimp only; omega)); exact (by repeat (first | exact trivial | refine ⟨rfl, ?_⟩)); exact (fun _ s => Sat.sub (by repeat (first | exact SubR.nil | apply SubR.cons 0 rfl | apply SubR.cons 1 rfl | apply SubR.cons 2 rfl | apply SubR.cons 3 rfl | apply SubR.cons 4 rfl | apply SubR.cons 5 rfl | apply SubR.cons 6 rfl | apply SubR.cons 7 rfl | apply SubR.cons 8 rfl | apply SubR.cons 9 rfl | apply SubR.cons 10 rfl | apply SubR.cons 11 rfl | apply SubR.cons 12 rfl | apply SubR.cons 13 rfl | apply SubR.cons 14 rfl | apply SubR.cons 15 rfl)) s))
                exact ⟨by omega, hst.symm, le1.trans le2, hrs2, hn1.mono le2, ⟨by show s1.length ≤ j + 1; omega, by show (withM s2 x.u).length ≤ j + 1; omega, by show s3.length ≤ j + 1; omega⟩⟩
              · (repeat (first | refine GK.ro ?_ | (refine GK.box ?_; intro bl) | (refine GK.mkMap ?_; intro bm) | (refine GK.build0 tb ?_; intro bs)))
                refine GL.cons ?_; refine GO.callA (fun hF' hle hH => ofR_ok (n := n) (u := x.u) hmn) (Wt.some rfl rfl (by simp [h3])) (by kernel_rfl) rfl rfl (by repeat (first | exact SubR.nil | apply SubR.cons 0 rfl | apply SubR.cons 1 rfl | apply SubR.cons 2 rfl | apply SubR.cons 3 rfl | apply SubR.cons 4 rfl | apply SubR.cons 5 rfl | apply SubR.cons 6 rfl | apply SubR.cons 7 rfl | apply SubR.cons 8 rfl | apply SubR.cons 9 rfl | apply SubR.cons 10 rfl | apply SubR.cons 11 rfl | apply SubR.cons 12 rfl | apply SubR.cons 13 rfl | apply SubR.cons 14 rfl | apply SubR.cons 15 rfl)) ?_
                rintro v Γ' ⟨rfl, rfl⟩
                by_cases h2 : ofR r.D n x.u = 2
                · rw [pstep_no hi h3 h2] at hst
                  (repeat (first | refine GK.ro ?_ | (refine GK.box ?_; intro bl) | (refine GK.mkMap ?_; intro bm) | (refine GK.build0 tb ?_; intro bs)))
                  refine GL.cons ?_; refine GO.callA (fun hF' hle hH => with_ok (s := x.u) hn1 (by omega)) (by first | exact Wt.none | exact Wt.some rfl rfl (by first | exact rfl | decide +kernel)) (by kernel_rfl) rfl rfl (by repeat (first | exact SubR.nil | apply SubR.cons 0 rfl | apply SubR.cons 1 rfl | apply SubR.cons 2 rfl | apply SubR.cons 3 rfl | apply SubR.cons 4 rfl | apply SubR.cons 5 rfl | apply SubR.cons 6 rfl | apply SubR.cons 7 rfl | apply SubR.cons 8 rfl | apply SubR.cons 9 rfl | apply SubR.cons 10 rfl | apply SubR.cons 11 rfl | apply SubR.cons 12 rfl | apply SubR.cons 13 rfl | apply SubR.cons 14 rfl | apply SubR.cons 15 rfl)) ?_
                  rintro v2 Γ' ⟨H2, le2, hrs2, rfl⟩
                  have wl := withM_len s3 x.u
                  have v2o := hrs2.one
                  refine GK.heap (Γ' := [row (.slice q s1.length d) 67 2 s1.length (prs s1), blk bp 27 (0, 0) (propC p0 yv nv (.slice q s1.length d)), blk bl 60 (0, 0) [.slice (some ⟨b4, o4, none⟩) r.L.length c, .slice (some ⟨b6, o6, none⟩) r.D.length c2], blk bz 27 (0, 0) zeroC, blk ba 97 (0, 0) (deedC x), poolOf H2]) (fun _ s => Sat.sub (by repeat (first | exact SubR.nil | apply SubR.cons 0 rfl | apply SubR.cons 1 rfl | apply SubR.cons 2 rfl | apply SubR.cons 3 rfl | apply SubR.cons 4 rfl | apply SubR.cons 5 rfl | apply SubR.cons 6 rfl | apply SubR.cons 7 rfl | apply SubR.cons 8 rfl | apply SubR.cons 9 rfl | apply SubR.cons 10 rfl | apply SubR.cons 11 rfl | apply SubR.cons 12 rfl | apply SubR.cons 13 rfl | apply SubR.cons 14 rfl | apply SubR.cons 15 rfl)) s) ?_
                  (repeat (first | refine GK.ro ?_ | (refine GK.box ?_; intro bl) | (refine GK.mkMap ?_; intro bm) | (refine GK.build0 tb ?_; intro bs)))
                  refine GL.cons ?_; refine Gt.storeAt tb 1 (by first | exact Wt.none | exact Wt.some rfl rfl (by first | exact rfl | decide +kernel)) rfl rfl rfl v2o rfl ?_ rfl ?_
                  · show 0 + 37 < (propC p0 yv nv (.slice q s1.length d)).length
                    rw [k39]; omega
                  rw [show (propC p0 yv nv (.slice q s1.length d)).set (0 + 37) v2 = propC p0 yv v2 (.slice q s1.length d) from propC_setN hph]
                  (repeat (first | refine GK.ro ?_ | (refine GK.box ?_; intro bl) | (refine GK.mkMap ?_; intro bm) | (refine GK.build0 tb ?_; intro bs)))
                  (refine GQ.againN ((j + 1, (s1, s2, withM s3 x.u), H2, yv, v2, q, d)) ?_ ?_ ?_ ?_; rotate_left; (first | omega | (dsimp only; omega)); exact (by repeat (first | exact trivial | refine ⟨rfl, ?_⟩)); exact (fun _ s => Sat.sub (by repeat (first | exact SubR.nil | apply SubR.cons 0 rfl | apply SubR.cons 1 rfl | apply SubR.cons 2 rfl | apply SubR.cons 3 rfl | apply SubR.cons 4 rfl | apply SubR.cons 5 rfl | apply SubR.cons 6 rfl | apply SubR.cons 7 rfl | apply SubR.cons 8 rfl | apply SubR.cons 9 rfl | apply SubR.cons 10 rfl | apply SubR.cons 11 rfl | apply SubR.cons 12 rfl | apply SubR.cons 13 rfl | apply SubR.cons 14 rfl | apply SubR.cons 15 rfl)) s))
                  exact ⟨by omega, hst.symm, le1.trans le2, hy1.mono le2, hrs2, ⟨by show s1.length ≤ j + 1; omega, by show s2.length ≤ j + 1; omega, by show (withM s3 x.u).length ≤ j + 1; omega⟩⟩
                · rw [pstep_nil hi h3 h1 h2] at hst
                  (repeat (first | refine GK.ro ?_ | (refine GK.box ?_; intro bl) | (refine GK.mkMap ?_; intro bm) | (refine GK.build0 tb ?_; intro bs)))
                  (refine GQ.againN ((j + 1, (s1, s2, s3), H', yv, nv, q, d)) ?_ ?_ ?_ ?_; rotate_left; (first | omega | (dsimp only; omega)); exact (by repeat (first | exact trivial | refine ⟨rfl, ?_⟩)); exact (fun _ s => Sat.sub (by repeat (first | exact SubR.nil | apply SubR.cons 0 rfl | apply SubR.cons 1 rfl | apply SubR.cons 2 rfl | apply SubR.cons 3 rfl | apply SubR.cons 4 rfl | apply SubR.cons 5 rfl | apply SubR.cons 6 rfl | apply SubR.cons 7 rfl | apply SubR.cons 8 rfl | apply SubR.cons 9 rfl | apply SubR.cons 10 rfl | apply SubR.cons 11 rfl | apply SubR.cons 12 rfl | apply SubR.cons 13 rfl | apply SubR.cons 14 rfl | apply SubR.cons 15 rfl)) s))
                  exact ⟨by omega, hst.symm, le1, hy1, hn1, ⟨by show s1.length ≤ j + 1; omega, by show s2.length ≤ j + 1; omega, by show s3.length ≤ j + 1; omega⟩⟩
            · rw [pstep_none hi h4 h3] at hst
              (repeat (first | refine GK.ro ?_ | (refine GK.box ?_; intro bl) | (refine GK.mkMap ?_; intro bm) | (refine GK.build0 tb ?_; intro bs) | (refine GL.cons ?_; refine GO.alloc (by first | exact Wt.none | exact Wt.some rfl rfl (by first | exact rfl | decide +kernel)) (by exact rfl) ?_; intro ba) | (refine GL.cons ?_; refine Gt.storeAny tb 0 (by first | exact Wt.none | exact Wt.some rfl rfl (by first | exact rfl | decide +kernel)) (by exact rfl) (by exact rfl) (by exact rfl) (by assumption) (by assumption) (by exact rfl) (by first | exact rfl | assumption) ?_) | (refine GL.cons ?_; refine Gt.storeAny tb 1 (by first | exact Wt.none | exact Wt.some rfl rfl (by first | exact rfl | decide +kernel)) (by exact rfl) (by exact rfl) (by exact rfl) (by assumption) (by assumption) (by exact rfl) (by first | exact rfl | assumption) ?_) | (refine GL.cons ?_; refine Gt.storeAny tb 2 (by first | exact Wt.none | exact Wt.some rfl rfl (by first | exact rfl | decide +kernel)) (by exact rfl) (by exact rfl) (by exact rfl) (by assumption) (by assumption) (by exact rfl) (by first | exact rfl | assumption) ?_) | (refine GL.cons ?_; refine Gt.storeAny tb 3 (by first | exact Wt.none | exact Wt.some rfl rfl (by first | exact rfl | decide +kernel)) (by exact rfl) (by exact rfl) (by exact rfl) (by assumption) (by assumption) (by exact rfl) (by first | exact rfl | assumption) ?_) | (refine GL.cons ?_; refine Gt.storeAny tb 4 (by first | exact Wt.none | exact Wt.some rfl rfl (by first | exact rfl | decide +kernel)) (by exact rfl) (by exact rfl) (by exact rfl) (by assumption) (by assumption) (by exact rfl) (by first | exact rfl | assumption) ?_) | (refine GL.cons ?_; refine Gt.storeAny tb 5 (by first | exact Wt.none | exact Wt.some rfl rfl (by first | exact rfl | decide +kernel)) (by exact rfl) (by exact rfl) (by exact rfl) (by assumption) (by assumption) (by exact rfl) (by first | exact rfl | assumption) ?_) | (refine GL.cons ?_; refine Gt.storeAny tb 6 (by first | exact Wt.none | exact Wt.some rfl rfl (by first | exact rfl | decide +kernel)) (by exact rfl) (by exact rfl) (by exact rfl) (by assumption) (by assumption) (by exact rfl) (by first | exact rfl | assumption) ?_) | (refine GL.cons ?_; refine Gt.storeAny tb 7 (by first | exact Wt.none | exact Wt.some rfl rfl (by first | exact rfl | decide +kernel)) (by exact rfl) (by exact rfl) (by exact rfl) (by assumption) (by assumption) (by exact rfl) (by first | exact rfl | assumption) ?_) | (refine GL.cons ?_; refine Gt.storeAny tb 8 (by first | exact Wt.none | exact Wt.some rfl rfl (by first | exact rfl | decide +kernel)) (by exact rfl) (by exact rfl) (by exact rfl) (by assumption) (by assumption) (by exact rfl) (by first | exact rfl | assumption) ?_) | (refine GL.cons ?_; refine Gt.storeAny tb 9 (by first | exact Wt.none | exact Wt.some rfl rfl (by first | exact rfl | decide +kernel)) (by exact rfl) (by exact rfl) (by exact rfl) (by assumption) (by assumption) (by exact rfl) (by first | exact rfl | assumption) ?_)))
              (refine GQ.againN ((j + 1, (s1, s2, s3), H', yv, nv, q, d)) ?_ ?_ ?_ ?_; rotate_left; (first | omega | (dsimp only; omega)); exact (by repeat (first | exact trivial | refine ⟨rfl, ?_⟩)); exact (fun _ s => Sat.sub (by repeat (first | exact SubR.nil | apply SubR.cons 0 rfl | apply SubR.cons 1 rfl | apply SubR.cons 2 rfl | apply SubR.cons 3 rfl | apply SubR.cons 4 rfl | apply SubR.cons 5 rfl | apply SubR.cons 6 rfl | apply SubR.cons 7 rfl | apply SubR.cons 8 rfl | apply SubR.cons 9 rfl | apply SubR.cons 10 rfl | apply SubR.cons 11 rfl | apply SubR.cons 12 rfl | apply SubR.cons 13 rfl | apply SubR.cons 14 rfl | apply SubR.cons 15 rfl)) s))
              exact ⟨by omega, hst.symm, le1, hy1, hn1, ⟨by show s1.length ≤ j + 1; omega, by show s2.length ≤ j + 1; omega, by show s3.length ≤ j + 1; omega⟩⟩
        · rw [pstep_far hi] at hst
          (repeat (first | refine GK.ro ?_ | (refine GK.box ?_; intro bl) | (refine GK.mkMap ?_; intro bm) | (refine GK.build0 tb ?_; intro bs) | (refine GL.cons ?_; refine GO.alloc (by first | exact Wt.none | exact Wt.some rfl rfl (by first | exact rfl | decide +kernel)) (by exact rfl) ?_; intro ba) | (refine GL.cons ?_; refine Gt.storeAny tb 0 (by first | exact Wt.none | exact Wt.some rfl rfl (by first | exact rfl | decide +kernel)) (by exact rfl) (by exact rfl) (by exact rfl) (by assumption) (by assumption) (by exact rfl) (by first | exact rfl | assumption) ?_) | (refine GL.cons ?_; refine Gt.storeAny tb 1 (by first | exact Wt.none | exact Wt.some rfl rfl (by first | exact rfl | decide +kernel)) (by exact rfl) (by exact rfl) (by exact rfl) (by assumption) (by assumption) (by exact rfl) (by first | exact rfl | assumption) ?_) | (refine GL.cons ?_; refine Gt.storeAny tb 2 (by first | exact Wt.none | exact Wt.some rfl rfl (by first | exact rfl | decide +kernel)) (by exact rfl) (by exact rfl) (by exact rfl) (by assumption) (by assumption) (by exact rfl) (by first | exact rfl | assumption) ?_) | (refine GL.cons ?_; refine Gt.storeAny tb 3 (by first | exact Wt.none | exact Wt.some rfl rfl (by first | exact rfl | decide +kernel)) (by exact rfl) (by exact rfl) (by exact rfl) (by assumption) (by assumption) (by exact rfl) (by first | exact rfl | assumption) ?_) | (refine GL.cons ?_; refine Gt.storeAny tb 4 (by first | exact Wt.none | exact Wt.some rfl rfl (by first | exact rfl | decide +kernel)) (by exact rfl) (by exact rfl) (by exact rfl) (by assumption) (by assumption) (by exact rfl) (by first | exact rfl | assumption) ?_) | (refine GL.cons ?_; refine Gt.storeAny tb 5 (by first | exact Wt.none | exact Wt.some rfl rfl (by first | exact rfl | decide +kernel)) (by exact rfl) (by exact rfl) (by exact rfl) (by assumption) (by assumption) (by exact rfl) (by first | exact rfl | assumption) ?_) | (refine GL.cons ?_; refine Gt.storeAny tb 6 (by first | exact Wt.none | exact Wt.some rfl rfl (by first | exact rfl | decide +kernel)) (by exact rfl) (by exact rfl) (by exact rfl) (by assumption) (by assumption) (by exact rfl) (by first | exact rfl | assumption) ?_) | (refine GL.cons ?_; refine Gt.storeAny tb 7 (by first | exact Wt.none | exact Wt.some rfl rfl (by first | exact rfl | decide +kernel)) (by exact rfl) (by exact rfl) (by exact rfl) (by assumption) (by assumption) (by exact rfl) (by first | exact rfl | assumption) ?_) | (refine GL.cons ?_; refine Gt.storeAny tb 8 (by first | exact Wt.none | exact Wt.some rfl rfl (by first | exact rfl | decide +kernel)) (by exact rfl) (by exact rfl) (by exact rfl) (by assumption) (by assumption) (by exact rfl) (by first | exact rfl | assumption) ?_) | (refine GL.cons ?_; refine Gt.storeAny tb 9 (by first | exact Wt.none | exact Wt.some rfl rfl (by first | exact rfl | decide +kernel)) (by exact rfl) (by exact rfl) (by exact rfl) (by assumption) (by assumption) (by exact rfl) (by first | exact rfl | assumption) ?_)))
          (refine GQ.againN ((j + 1, (s1, s2, s3), H', yv, nv, q, d)) ?_ ?_ ?_ ?_; rotate_left; (first | omega | (dsimp only; omega)); exact (by repeat (first | exact trivial | refine ⟨rfl, ?_⟩)); exact (fun _ s => Sat.sub (by repeat (first | exact SubR.nil | apply SubR.cons 0 rfl | apply SubR.cons 1 rfl | apply SubR.cons 2 rfl | apply SubR.cons 3 rfl | apply SubR.cons 4 rfl | apply SubR.cons 5 rfl | apply SubR.cons 6 rfl | apply SubR.cons 7 rfl | apply SubR.cons 8 rfl | apply SubR.cons 9 rfl | apply SubR.cons 10 rfl | apply SubR.cons 11 rfl | apply SubR.cons 12 rfl | apply SubR.cons 13 rfl | apply SubR.cons 14 rfl | apply SubR.cons 15 rfl)) s))
          exact ⟨by omega, hst.symm, le1, hy1, hn1, ⟨by show s1.length ≤ j + 1; omega, by show s2.length ≤ j + 1; omega, by show s3.length ≤ j + 1; omega⟩⟩
      · have hjl : j = r.D.length := by
          have : ¬ j < r.D.length := by simpa using hb
          omega
        subst hjl
        clear hb
        rw [List.take_length] at hs
        refine GK.heap (Γ' := [poolOf H', row (.slice q s1.length d) 67 2 s1.length (prs s1), blk bp 27 (0, 0) (propC p0 yv nv (.slice q s1.length d)), blk bz 27 (0, 0) zeroC]) (fun _ s => Sat.sub (by repeat (first | exact SubR.nil | apply SubR.cons 0 rfl | apply SubR.cons 1 rfl | apply SubR.cons 2 rfl | apply SubR.cons 3 rfl | apply SubR.cons 4 rfl | apply SubR.cons 5 rfl | apply SubR.cons 6 rfl | apply SubR.cons 7 rfl | apply SubR.cons 8 rfl | apply SubR.cons 9 rfl | apply SubR.cons 10 rfl | apply SubR.cons 11 rfl | apply SubR.cons 12 rfl | apply SubR.cons 13 rfl | apply SubR.cons 14 rfl | apply SubR.cons 15 rfl)) s) ?_
        refine GK.absorb fun H1 k1' l1 a1 m1 => ?_
        have gd := row_in a1 m1
        have kA : At (propC p0 yv nv (.slice q s1.length d)) 0 (propC p0 yv nv (.slice q s1.length d)) := At.all _
        (repeat (first | refine GK.ro ?_ | (refine GK.box ?_; intro bl) | (refine GK.mkMap ?_; intro bm) | (refine GK.build0 tb ?_; intro bs) | (refine GL.cons ?_; refine GO.alloc (by first | exact Wt.none | exact Wt.some rfl rfl (by first | exact rfl | decide +kernel)) (by exact rfl) ?_; intro ba) | (refine GL.cons ?_; refine Gt.storeAny tb 0 (by first | exact Wt.none | exact Wt.some rfl rfl (by first | exact rfl | decide +kernel)) (by exact rfl) (by exact rfl) (by exact rfl) (by assumption) (by assumption) (by exact rfl) (by first | exact rfl | assumption) ?_) | (refine GL.cons ?_; refine Gt.storeAny tb 1 (by first | exact Wt.none | exact Wt.some rfl rfl (by first | exact rfl | decide +kernel)) (by exact rfl) (by exact rfl) (by exact rfl) (by assumption) (by assumption) (by exact rfl) (by first | exact rfl | assumption) ?_) | (refine GL.cons ?_; refine Gt.storeAny tb 2 (by first | exact Wt.none | exact Wt.some rfl rfl (by first | exact rfl | decide +kernel)) (by exact rfl) (by exact rfl) (by exact rfl) (by assumption) (by assumption) (by exact rfl) (by first | exact rfl | assumption) ?_) | (refine GL.cons ?_; refine Gt.storeAny tb 3 (by first | exact Wt.none | exact Wt.some rfl rfl (by first | exact rfl | decide +kernel)) (by exact rfl) (by exact rfl) (by exact rfl) (by assumption) (by assumption) (by exact rfl) (by first | exact rfl | assumption) ?_) | (refine GL.cons ?_; refine Gt.storeAny tb 4 (by first | exact Wt.none | exact Wt.some rfl rfl (by first | exact rfl | decide +kernel)) (by exact rfl) (by exact rfl) (by exact rfl) (by assumption) (by assumption) (by exact rfl) (by first | exact rfl | assumption) ?_) | (refine GL.cons ?_; refine Gt.storeAny tb 5 (by first | exact Wt.none | exact Wt.some rfl rfl (by first | exact rfl | decide +kernel)) (by exact rfl) (by exact rfl) (by exact rfl) (by assumption) (by assumption) (by exact rfl) (by first | exact rfl | assumption) ?_) | (refine GL.cons ?_; refine Gt.storeAny tb 6 (by first | exact Wt.none | exact Wt.some rfl rfl (by first | exact rfl | decide +kernel)) (by exact rfl) (by exact rfl) (by exact rfl) (by assumption) (by assumption) (by exact rfl) (by first | exact rfl | assumption) ?_) | (refine GL.cons ?_; refine Gt.storeAny tb 7 (by first | exact Wt.none | exact Wt.some rfl rfl (by first | exact rfl | decide +kernel)) (by exact rfl) (by exact rfl) (by exact rfl) (by assumption) (by assumption) (by exact rfl) (by first | exact rfl | assumption) ?_) | (refine GL.cons ?_; refine Gt.storeAny tb 8 (by first | exact Wt.none | exact Wt.some rfl rfl (by first | exact rfl | decide +kernel)) (by exact rfl) (by exact rfl) (by exact rfl) (by assumption) (by assumption) (by exact rfl) (by first | exact rfl | assumption) ?_) | (refine GL.cons ?_; refine Gt.storeAny tb 9 (by first | exact Wt.none | exact Wt.some rfl rfl (by first | exact rfl | decide +kernel)) (by exact rfl) (by exact rfl) (by exact rfl) (by assumption) (by assumption) (by exact rfl) (by first | exact rfl | assumption) ?_)))
        have et : toldR r n = (s1, s2, s3) := by unfold toldR; rw [ht, if_pos rfl]; exact hs.symm
        have ep : propR r n = p0 := by unfold propR; rw [ht, if_pos rfl, hm]; exact hp0
        refine GQ.fin1 rfl (Rv.row rfl (by kernel_rfl) (by rw [k39]; kernel_rfl) (Rd.blk 2 rfl) (At.all _)) (fun _ s => Sat.sub (by repeat (first | exact SubR.nil | apply SubR.cons 0 rfl | apply SubR.cons 1 rfl | apply SubR.cons 2 rfl | apply SubR.cons 3 rfl | apply SubR.cons 4 rfl | apply SubR.cons 5 rfl | apply SubR.cons 6 rfl | apply SubR.cons 7 rfl | apply SubR.cons 8 rfl | apply SubR.cons 9 rfl | apply SubR.cons 10 rfl | apply SubR.cons 11 rfl | apply SubR.cons 12 rfl | apply SubR.cons 13 rfl | apply SubR.cons 14 rfl | apply SubR.cons 15 rfl)) s) ⟨H1, yv, nv, .slice q s1.length d, le1.trans l1, ?_, ?_, ?_, ?_, rfl⟩
        · rw [ep]
        · rw [et]; exact hy1.mono l1
        · rw [et]; exact hn1.mono l1
        · rw [et]; exact gd
end Go.Re
/- The document's board: a remark. -/
namespace Go.Re
open Go Go.Sl
set_option maxRecDepth 100000
def rsayM (r : RB) (n : Int) (u t : By) : Int × RB := if thereM r n = false then (111, r) else if 200 < t.length ∨ 32 ≤ (toldR r n).1.length then (3, r) else (0, r.put ⟨4, n, u, t⟩)
theorem propR_h {H : Hp} {r : RB} {lv dv : Value} {n : Int} (h : RbAt H r lv dv) : (propR r n).h.length = 32 := by
  unfold propR
  split
  · split
    · rename_i m hm; exact h.h m (List.mem_of_getElem? hm)
    · rfl
  · rfl
theorem toldR_len (r : RB) (n : Int) : (toldR r n).1.length ≤ r.D.length := by
  have key : ∀ (D : List Dd) (s : St3), (D.foldl (pstep r n) s).1.length ≤ s.1.length + D.length := by
    intro D
    induction D with
    | nil => intro s; simp
    | cons x D ih =>
      intro s
      have := ih (pstep r n s x)
      have h2 : (pstep r n s x).1.length ≤ s.1.length + 1 := by
        unfold pstep talkStep
        split
        · dsimp only; split
          · simp
          · omega
        · omega
      simp only [List.foldl_cons, List.length_cons]; omega
  unfold toldR
  split
  · have := key r.D ([], [], []); simpa [pfold] using this
  · simp
set_option maxRecDepth 100000
set_option maxHeartbeats 4000000
attribute [local irreducible] GK GO Yl Wt Ef Hd GH KH wpListIn Code.wpIn toBody roundQ poolOf rs RS YieldOk IterOk VOk row star exs mp lp Sat pt FnOk Rd bodyPost bodyPostM Lv Ret Exit.then Exit.inBlock Exit.noGoto Int.decLt Int.decLe Int.instDecidableEq
attribute [local irreducible] u8s strs likeTo madeC mades deeds ofR i64s madeZ openR propC zeroC prs isOpenM toldR propR
set_option pp.deepTerms true
set_option pp.maxSteps 1000000
variable {hF H : Hp}
theorem rsay_ok {r : RB} {lv dv : Value} {n : Int} {u t : By} (h : RbAt H r lv dv) (hn : r.D.length < 1000000) (ht : t.length ≤ 140737488355328) : FnOk Go.Proofs.Try.prog 43 [.agg ⟨[lv, dv]⟩, .int .i64 n, str u, str t] [poolOf H] hF (fun v Γ => Leaves H lv (rsayM r n u t) v Γ) := by
  have h0 := h
  have hnl := h.nl
  obtain ⟨p, c, rfl, hc, hln, hr⟩ := rs.out h.l
  obtain ⟨p2, c2, rfl, hc2, hln2, hr2⟩ := rs.out h.d
  refine FnOk.intro 33 Go.Proofs.Try.func43 rfl rfl fun w0 => ?_
  (repeat (first | refine GK.ro ?_ | (refine GK.box ?_; intro bl) | (refine GK.mkMap ?_; intro bm) | (refine GK.build0 tb ?_; intro bs) | (refine GL.cons ?_; refine GO.alloc (by first | exact Wt.none | exact Wt.some rfl rfl (by first | exact rfl | decide +kernel)) (by exact rfl) ?_; intro ba) | (refine GL.cons ?_; refine Gt.storeAny tb 0 (by first | exact Wt.none | exact Wt.some rfl rfl (by first | exact rfl | decide +kernel)) (by exact rfl) (by exact rfl) (by exact rfl) (by assumption) (by assumption) (by exact rfl) (by first | exact rfl | assumption) ?_) | (refine GL.cons ?_; refine Gt.storeAny tb 1 (by first | exact Wt.none | exact Wt.some rfl rfl (by first | exact rfl | decide +kernel)) (by exact rfl) (by exact rfl) (by exact rfl) (by assumption) (by assumption) (by exact rfl) (by first | exact rfl | assumption) ?_) | (refine GL.cons ?_; refine Gt.storeAny tb 2 (by first | exact Wt.none | exact Wt.some rfl rfl (by first | exact rfl | decide +kernel)) (by exact rfl) (by exact rfl) (by exact rfl) (by assumption) (by assumption) (by exact rfl) (by first | exact rfl | assumption) ?_) | (refine GL.cons ?_; refine Gt.storeAny tb 3 (by first | exact Wt.none | exact Wt.some rfl rfl (by first | exact rfl | decide +kernel)) (by exact rfl) (by exact rfl) (by exact rfl) (by assumption) (by assumption) (by exact rfl) (by first | exact rfl | assumption) ?_) | (refine GL.cons ?_; refine Gt.storeAny tb 4 (by first | exact Wt.none | exact Wt.some rfl rfl (by first | exact rfl | decide +kernel)) (by exact rfl) (by exact rfl) (by exact rfl) (by assumption) (by assumption) (by exact rfl) (by first | exact rfl | assumption) ?_) | (refine GL.cons ?_; refine Gt.storeAny tb 5 (by first | exact Wt.none | exact Wt.some rfl rfl (by first | exact rfl | decide +kernel)) (by exact rfl) (by exact rfl) (by exact rfl) (by assumption) (by assumption) (by exact rfl) (by first | exact rfl | assumption) ?_) | (refine GL.cons ?_; refine Gt.storeAny tb 6 (by first | exact Wt.none | exact Wt.some rfl rfl (by first | exact rfl | decide +kernel)) (by exact rfl) (by exact rfl) (by exact rfl) (by assumption) (by assumption) (by exact rfl) (by first | exact rfl | assumption) ?_) | (refine GL.cons ?_; refine Gt.storeAny tb 7 (by first | exact Wt.none | exact Wt.some rfl rfl (by first | exact rfl | decide +kernel)) (by exact rfl) (by exact rfl) (by exact rfl) (by assumption) (by assumption) (by exact rfl) (by first | exact rfl | assumption) ?_) | (refine GL.cons ?_; refine Gt.storeAny tb 8 (by first | exact Wt.none | exact Wt.some rfl rfl (by first | exact rfl | decide +kernel)) (by exact rfl) (by exact rfl) (by exact rfl) (by assumption) (by assumption) (by exact rfl) (by first | exact rfl | assumption) ?_) | (refine GL.cons ?_; refine Gt.storeAny tb 9 (by first | exact Wt.none | exact Wt.some rfl rfl (by first | exact rfl | decide +kernel)) (by exact rfl) (by exact rfl) (by exact rfl) (by assumption) (by assumption) (by exact rfl) (by first | exact rfl | assumption) ?_)))
  refine GL.cons ?_; refine GO.callA (fun hF' hle hH => there_ok h0) (by first | exact Wt.none | exact Wt.some rfl rfl (by first | exact rfl | decide +kernel)) (by kernel_rfl) rfl rfl (by repeat (first | exact SubR.nil | apply SubR.cons 0 rfl | apply SubR.cons 1 rfl | apply SubR.cons 2 rfl | apply SubR.cons 3 rfl | apply SubR.cons 4 rfl | apply SubR.cons 5 rfl | apply SubR.cons 6 rfl | apply SubR.cons 7 rfl | apply SubR.cons 8 rfl | apply SubR.cons 9 rfl | apply SubR.cons 10 rfl | apply SubR.cons 11 rfl | apply SubR.cons 12 rfl | apply SubR.cons 13 rfl | apply SubR.cons 14 rfl | apply SubR.cons 15 rfl)) ?_
  rintro v Γ' ⟨rfl, rfl⟩
  by_cases hth : thereM r n = false
  · rw [hth]
    (repeat (first | refine GK.ro ?_ | (refine GK.box ?_; intro bl) | (refine GK.mkMap ?_; intro bm) | (refine GK.build0 tb ?_; intro bs)))
    refine GL.cons ?_; refine Gt.storeAny tb 1 (by first | exact Wt.none | exact Wt.some rfl rfl (by first | exact rfl | decide +kernel)) rfl rfl rfl rfl (one_of_all rfl) rfl rfl ?_
    (repeat (first | refine GK.ro ?_ | (refine GK.box ?_; intro bl) | (refine GK.mkMap ?_; intro bm) | (refine GK.build0 tb ?_; intro bs)))
    refine GQ.fin2 rfl (Rv.row rfl (by kernel_rfl) (by kernel_rfl) (Rd.blk 1 rfl) (At.all _)) (Rv.tmp rfl) (fun _ s => Sat.sub (by repeat (first | exact SubR.nil | apply SubR.cons 0 rfl | apply SubR.cons 1 rfl | apply SubR.cons 2 rfl | apply SubR.cons 3 rfl | apply SubR.cons 4 rfl | apply SubR.cons 5 rfl | apply SubR.cons 6 rfl | apply SubR.cons 7 rfl | apply SubR.cons 8 rfl | apply SubR.cons 9 rfl | apply SubR.cons 10 rfl | apply SubR.cons 11 rfl | apply SubR.cons 12 rfl | apply SubR.cons 13 rfl | apply SubR.cons 14 rfl | apply SubR.cons 15 rfl)) s) ⟨H, .slice p2 r.D.length c2, le.refl _, ?_, ?_, rfl⟩
    · rw [show rsayM r n u t = (111, r) from if_pos hth]; rfl
    · rw [show rsayM r n u t = (111, r) from if_pos hth]; exact h0
  rw [show thereM r n = true from by simpa using hth]
  by_cases hlong : 200 < t.length
  · (repeat (first | refine GK.ro ?_ | (refine GK.box ?_; intro bl) | (refine GK.mkMap ?_; intro bm) | (refine GK.build0 tb ?_; intro bs)))
    refine GL.cons ?_; refine Gt.storeAny tb 1 (by first | exact Wt.none | exact Wt.some rfl rfl (by first | exact rfl | decide +kernel)) rfl rfl rfl rfl (one_of_all rfl) rfl rfl ?_
    (repeat (first | refine GK.ro ?_ | (refine GK.box ?_; intro bl) | (refine GK.mkMap ?_; intro bm) | (refine GK.build0 tb ?_; intro bs)))
    refine GQ.fin2 rfl (Rv.row rfl (by kernel_rfl) (by kernel_rfl) (Rd.blk 1 rfl) (At.all _)) (Rv.tmp rfl) (fun _ s => Sat.sub (by repeat (first | exact SubR.nil | apply SubR.cons 0 rfl | apply SubR.cons 1 rfl | apply SubR.cons 2 rfl | apply SubR.cons 3 rfl | apply SubR.cons 4 rfl | apply SubR.cons 5 rfl | apply SubR.cons 6 rfl | apply SubR.cons 7 rfl | apply SubR.cons 8 rfl | apply SubR.cons 9 rfl | apply SubR.cons 10 rfl | apply SubR.cons 11 rfl | apply SubR.cons 12 rfl | apply SubR.cons 13 rfl | apply SubR.cons 14 rfl | apply SubR.cons 15 rfl)) s) ⟨H, .slice p2 r.D.length c2, le.refl _, ?_, ?_, rfl⟩
    · rw [show rsayM r n u t = (3, r) from (if_neg hth).trans (if_pos (.inl hlong))]; rfl
    · rw [show rsayM r n u t = (3, r) from (if_neg hth).trans (if_pos (.inl hlong))]; exact h0
  (repeat (first | refine GK.ro ?_ | (refine GK.box ?_; intro bl) | (refine GK.mkMap ?_; intro bm) | (refine GK.build0 tb ?_; intro bs)))
  refine GL.cons ?_; refine GO.callA (fun hF' hle hH => rproposal_ok (n := n) h0) (wt_t rfl rfl (decide_eq_false (by omega))) (by kernel_rfl) rfl rfl (by repeat (first | exact SubR.nil | apply SubR.cons 0 rfl | apply SubR.cons 1 rfl | apply SubR.cons 2 rfl | apply SubR.cons 3 rfl | apply SubR.cons 4 rfl | apply SubR.cons 5 rfl | apply SubR.cons 6 rfl | apply SubR.cons 7 rfl | apply SubR.cons 8 rfl | apply SubR.cons 9 rfl | apply SubR.cons 10 rfl | apply SubR.cons 11 rfl | apply SubR.cons 12 rfl | apply SubR.cons 13 rfl | apply SubR.cons 14 rfl | apply SubR.cons 15 rfl)) ?_
  rintro v Γ' ⟨H1, yv, nv, tv, le1, rfl, hy, hnn, htt, rfl⟩
  obtain ⟨p3, c3, rfl, hc3, hln3, hr3⟩ := rs.out htt
  have k38 : (propC (propR r n) yv nv (.slice p3 (toldR r n).1.length c3))[38]? = some (.slice p3 (toldR r n).1.length c3) := by
    have := propC_t (p := propR r n) (y := yv) (n := nv) (t := .slice p3 (toldR r n).1.length c3) (propR_h h0); simpa using this
  have tl := toldR_len r n
  have h1 := h0.mono le1
  refine GL.cons ?_; refine GO.yield (wt_t rfl rfl (decide_eq_false (by omega))) (Yt.field tb rfl rfl rfl k38) ?_
  by_cases h32 : 32 ≤ (toldR r n).1.length
  · (repeat (first | refine GK.ro ?_ | (refine GK.box ?_; intro bl) | (refine GK.mkMap ?_; intro bm) | (refine GK.build0 tb ?_; intro bs)))
    refine GL.cons ?_; refine Gt.storeAny tb 1 (by first | exact Wt.none | exact Wt.some rfl rfl (by first | exact rfl | decide +kernel)) rfl rfl rfl rfl (one_of_all rfl) rfl rfl ?_
    (repeat (first | refine GK.ro ?_ | (refine GK.box ?_; intro bl) | (refine GK.mkMap ?_; intro bm) | (refine GK.build0 tb ?_; intro bs)))
    refine GQ.fin2 rfl (Rv.row rfl (by kernel_rfl) (by kernel_rfl) (Rd.blk 1 rfl) (At.all _)) (Rv.tmp rfl) (fun _ s => Sat.sub (by repeat (first | exact SubR.nil | apply SubR.cons 0 rfl | apply SubR.cons 1 rfl | apply SubR.cons 2 rfl | apply SubR.cons 3 rfl | apply SubR.cons 4 rfl | apply SubR.cons 5 rfl | apply SubR.cons 6 rfl | apply SubR.cons 7 rfl | apply SubR.cons 8 rfl | apply SubR.cons 9 rfl | apply SubR.cons 10 rfl | apply SubR.cons 11 rfl | apply SubR.cons 12 rfl | apply SubR.cons 13 rfl | apply SubR.cons 14 rfl | apply SubR.cons 15 rfl)) s) ⟨H1, .slice p2 r.D.length c2, le1, ?_, ?_, rfl⟩
    · rw [show rsayM r n u t = (3, r) from (if_neg hth).trans (if_pos (.inr h32))]; rfl
    · rw [show rsayM r n u t = (3, r) from (if_neg hth).trans (if_pos (.inr h32))]; exact h1
  · (repeat (first | refine GK.ro ?_ | (refine GK.box ?_; intro bl) | (refine GK.mkMap ?_; intro bm) | (refine GK.build0 tb ?_; intro bs)))
    refine GL.cons ?_; refine GO.callA (fun hF' hle hH => with2_ok (d := ⟨4, n, u, t⟩) h1 (by exact ⟨show (0 : Int) ≤ 4 by omega, show (4 : Int) ≤ 5 by omega⟩) hn) (by first | exact Wt.none | exact Wt.some rfl rfl (by first | exact rfl | decide +kernel)) (by kernel_rfl) rfl rfl (by repeat (first | exact SubR.nil | apply SubR.cons 0 rfl | apply SubR.cons 1 rfl | apply SubR.cons 2 rfl | apply SubR.cons 3 rfl | apply SubR.cons 4 rfl | apply SubR.cons 5 rfl | apply SubR.cons 6 rfl | apply SubR.cons 7 rfl | apply SubR.cons 8 rfl | apply SubR.cons 9 rfl | apply SubR.cons 10 rfl | apply SubR.cons 11 rfl | apply SubR.cons 12 rfl | apply SubR.cons 13 rfl | apply SubR.cons 14 rfl | apply SubR.cons 15 rfl)) ?_
    rintro v Γ' ⟨H2, dv1, l1, rfl, hat, rfl⟩
    (repeat (first | refine GK.ro ?_ | (refine GK.box ?_; intro bl) | (refine GK.mkMap ?_; intro bm) | (refine GK.build0 tb ?_; intro bs)))
    refine GL.cons ?_; refine Gt.storeAny tb 1 (by first | exact Wt.none | exact Wt.some rfl rfl (by first | exact rfl | decide +kernel)) rfl rfl rfl rfl ?_ rfl rfl ?_
    · intro u hu
      simp at hu
      rcases hu with rfl | rfl
      · rfl
      · exact hat.d.one
    (repeat (first | refine GK.ro ?_ | (refine GK.box ?_; intro bl) | (refine GK.mkMap ?_; intro bm) | (refine GK.build0 tb ?_; intro bs)))
    have em : rsayM r n u t = (0, r.put ⟨4, n, u, t⟩) := (if_neg hth).trans (if_neg (by omega))
    refine GQ.fin2 rfl (Rv.row rfl (by kernel_rfl) (by kernel_rfl) (Rd.blk 1 rfl) (At.all _)) (Rv.tmp rfl) (fun _ s => Sat.sub (by repeat (first | exact SubR.nil | apply SubR.cons 0 rfl | apply SubR.cons 1 rfl | apply SubR.cons 2 rfl | apply SubR.cons 3 rfl | apply SubR.cons 4 rfl | apply SubR.cons 5 rfl | apply SubR.cons 6 rfl | apply SubR.cons 7 rfl | apply SubR.cons 8 rfl | apply SubR.cons 9 rfl | apply SubR.cons 10 rfl | apply SubR.cons 11 rfl | apply SubR.cons 12 rfl | apply SubR.cons 13 rfl | apply SubR.cons 14 rfl | apply SubR.cons 15 rfl)) s) ⟨H2, dv1, le1.trans l1, ?_, ?_, rfl⟩
    · rw [em]
    · rw [em]; exact hat
end Go.Re
/- The program's board and the document's: what holds of both. -/
namespace Go.Re
open Go Go.Sl
set_option maxRecDepth 100000
def talkD (n : Int) (d : Dd) : Bool := decide (d.id = n ∧ d.kind = 4)
def talkR (D : List Dd) (n : Int) : List (By × By) := (D.filter (talkD n)).map fun d => (d.u, d.t)
def voteD (E : List Dd) (n w : Int) (d : Dd) : Bool := decide (d.id = n ∧ d.kind < 3 ∧ ofR E n d.u = w)
def votersR (D : List Dd) (n w : Int) : List By := (D.filter (voteD D n w)).map (·.u)
theorem pfold_eq (r : RB) (n : Int) : pfold r n r.D = (talkR r.D n, rises (votersR r.D n 1), rises (votersR r.D n 2)) := by
  have key : ∀ (E : List Dd) (a : List (By × By)) (b c : List By), E.foldl (pstep r n) (a, b, c) = (a ++ (E.filter (talkD n)).map (fun d => (d.u, d.t)), ((E.filter (voteD r.D n 1)).map (·.u)).foldl withM b, ((E.filter (voteD r.D n 2)).map (·.u)).foldl withM c) := by
    intro E
    induction E with
    | nil => intro a b c; simp
    | cons x E ih =>
      intro a b c
      rw [List.foldl_cons]
      by_cases hi : x.id = n
      · have e : pstep r n (a, b, c) x = (talkStep x a, voteStep 1 r n x b, voteStep 2 r n x c) := if_pos hi
        rw [e, ih]
        simp only [List.filter_cons]
        by_cases h4 : x.kind = 4
        · have t4 : talkD n x = true := decide_eq_true ⟨hi, h4⟩
          have v1 : voteD r.D n 1 x = false := decide_eq_false (fun h => by omega)
          have v2 : voteD r.D n 2 x = false := decide_eq_false (fun h => by omega)
          simp [t4, v1, v2, talkStep, voteStep, h4]
        · have t4 : talkD n x = false := decide_eq_false (fun h => h4 h.2)
          by_cases h3 : x.kind < 3
          · by_cases h1 : ofR r.D n x.u = 1
            · have v1 : voteD r.D n 1 x = true := decide_eq_true ⟨hi, h3, h1⟩
              have v2 : voteD r.D n 2 x = false := decide_eq_false (fun h => by omega)
              simp [t4, v1, v2, talkStep, voteStep, h4, h3, h1]
            · have v1 : voteD r.D n 1 x = false := decide_eq_false (fun h => h1 h.2.2)
              by_cases h2 : ofR r.D n x.u = 2
              · have v2 : voteD r.D n 2 x = true := decide_eq_true ⟨hi, h3, h2⟩
                simp [t4, v1, v2, talkStep, voteStep, h4, h3, h2]
              · have v2 : voteD r.D n 2 x = false := decide_eq_false (fun h => h2 h.2.2)
                simp [t4, v1, v2, talkStep, voteStep, h4, h1, h2]
          · have v1 : voteD r.D n 1 x = false := decide_eq_false (fun h => h3 h.2.1)
            have v2 : voteD r.D n 2 x = false := decide_eq_false (fun h => h3 h.2.1)
            simp [t4, v1, v2, talkStep, voteStep, h4, h3]
      · rw [pstep_far hi, ih]
        have t4 : talkD n x = false := decide_eq_false (fun h => hi h.1)
        have v1 : voteD r.D n 1 x = false := decide_eq_false (fun h => hi h.1)
        have v2 : voteD r.D n 2 x = false := decide_eq_false (fun h => hi h.1)
        simp [List.filter_cons, t4, v1, v2]
  have := key r.D [] [] []
  rw [List.nil_append] at this
  exact this
theorem rise_ext {a b : List By} (ha : Rise a) (hb : Rise b) (h : ∀ x, x ∈ a ↔ x ∈ b) : a = b :=
  sorted_eq ((List.perm_ext_iff_of_nodup (rise_nodup ha) (rise_nodup hb)).2 h) (rise_le ha) (rise_le hb)
theorem ofR_made {D : List Dd} {n w : Int} {u : By} (hk : ∀ d ∈ D, 0 ≤ d.kind) (hw : w = 1 ∨ w = 2) (h : ofR D n u = w) : ∃ d ∈ D, d.id = n ∧ d.kind < 3 ∧ d.u = u := by
  have key : ∀ (E : List Dd) (v : Int), (∀ d ∈ E, 0 ≤ d.kind) → E.foldl (ofStep n u) v = w → (∃ d ∈ E, d.id = n ∧ d.kind < 3 ∧ d.u = u) ∨ v = w := by
    intro E
    induction E with
    | nil => intro v _ h; exact .inr h
    | cons x E ih =>
      intro v hk h
      rw [List.foldl_cons] at h
      rcases ih _ (fun d hd => hk d (List.mem_cons_of_mem _ hd)) h with ⟨d, hd, h1⟩ | h1
      · exact .inl ⟨d, List.mem_cons_of_mem _ hd, h1⟩
      · unfold ofStep at h1
        split at h1
        · rename_i hc
          have := hk x List.mem_cons_self
          by_cases h3 : x.kind < 3
          · exact .inl ⟨x, List.mem_cons_self, hc.1, h3, hc.2.1⟩
          · have e3 : x.kind = 3 := by omega
            rw [e3] at h1
            have : Int.tmod 3 3 = 0 := by decide
            omega
        · exact .inr h1
  rcases key D 0 hk h with h1 | h1
  · exact h1
  · omega
theorem mem_voters {D : List Dd} {n w : Int} {u : By} (hk : ∀ d ∈ D, 0 ≤ d.kind) (hw : w = 1 ∨ w = 2) : u ∈ votersR D n w ↔ ofR D n u = w := by
  unfold votersR
  rw [List.mem_map]
  constructor
  · rintro ⟨d, hd, rfl⟩
    have := (List.mem_filter.1 hd).2
    unfold voteD at this
    exact (of_decide_eq_true this).2.2
  · intro h
    obtain ⟨d, hd, h1, h2, h3⟩ := ofR_made hk hw h
    exact ⟨d, List.mem_filter.2 ⟨hd, decide_eq_true ⟨h1, h2, by rw [h3]; exact h⟩⟩, h3⟩
/-- The votes as a map and as deeds. -/
structure VLink (vs : List (By × Int)) (D : List Dd) (n : Int) : Prop where
  nd : (vs.map (·.1)).Nodup
  get : ∀ u, vget vs u = ofR D n u
theorem vget_mem : ∀ {vs : List (By × Int)} {u : By} {w : Int}, (vs.map (·.1)).Nodup → w ≠ 0 → (vget vs u = w ↔ (u, w) ∈ vs)
  | [], u, w, _, hw => by simp [vget]; omega
  | (k, v) :: r, u, w, hn, hw => by
    have hn' := hn
    rw [List.map_cons, List.nodup_cons] at hn'
    have ih := vget_mem (u := u) hn'.2 hw
    unfold vget
    split
    · rename_i e
      subst e
      constructor
      · rintro rfl; exact List.mem_cons_self
      · intro h
        rcases List.mem_cons.1 h with h | h
        · cases h; rfl
        · exact absurd (List.mem_map.2 ⟨_, h, rfl⟩) hn'.1
    · rename_i e
      rw [ih, List.mem_cons]
      constructor
      · exact .inr
      · rintro (h | h)
        · cases h; exact absurd rfl e
        · exact h
theorem mem_keysOf {vs : List (By × Int)} {u : By} {w : Int} : u ∈ keysOf w vs ↔ (u, w) ∈ vs := by
  unfold keysOf
  rw [List.mem_map]
  constructor
  · rintro ⟨⟨a, b⟩, h, rfl⟩
    obtain ⟨h1, h2⟩ := List.mem_filter.1 h
    have : b = w := of_decide_eq_true h2
    rw [← this]; exact h1
  · intro h
    exact ⟨(u, w), List.mem_filter.2 ⟨h, decide_eq_true rfl⟩, rfl⟩
theorem VLink.rises {vs : List (By × Int)} {D : List Dd} {n w : Int} (h : VLink vs D n) (hk : ∀ d ∈ D, 0 ≤ d.kind) (hw : w = 1 ∨ w = 2) : ofM w vs = Re.rises (votersR D n w) := by
  have hn : (keysOf w vs).Nodup := (List.filter_sublist.map _).nodup h.nd
  unfold ofM
  rw [sortS_rises hn]
  refine rise_ext (par_rises _).1 (par_rises _).1 fun u => ?_
  rw [mem_rises, mem_rises, mem_voters hk hw, mem_keysOf, ← vget_mem h.nd (by omega), h.get]
theorem vset_keys (vs : List (By × Int)) (u : By) (w : Int) : (vset vs u w).map (·.1) = addU (vs.map (·.1)) u := by
  induction vs with
  | nil => simp [vset, addU]
  | cons x r ih =>
    obtain ⟨k, v⟩ := x
    unfold vset
    split
    · rename_i e; subst e; simp [addU]
    · rename_i e
      rw [List.map_cons, ih, List.map_cons]
      unfold addU
      by_cases h : u ∈ r.map (·.1)
      · rw [if_pos h, if_pos (List.mem_cons_of_mem _ h)]
      · rw [if_neg h, if_neg (fun h2 => (List.mem_cons.1 h2).elim e h)]; simp
theorem vget_vset (vs : List (By × Int)) (u x : By) (w : Int) : vget (vset vs u w) x = if x = u then w else vget vs x := by
  induction vs with
  | nil => simp [vset, vget]
  | cons y r ih =>
    obtain ⟨k, v⟩ := y
    unfold vset
    split
    · rename_i e; subst e; simp only [vget]; split <;> rfl
    · rename_i e
      simp only [vget, ih]
      by_cases h : x = k
      · rw [if_pos h, if_neg (by intro h2; rw [← h2] at e; exact e h), if_pos h]
      · rw [if_neg h, if_neg h]
theorem vdel_sub (vs : List (By × Int)) (u : By) : ((vdel vs u).map (·.1)).Sublist (vs.map (·.1)) := by
  induction vs with
  | nil => simp [vdel]
  | cons y r ih =>
    obtain ⟨k, v⟩ := y
    unfold vdel
    split
    · exact List.sublist_cons_self _ _
    · exact List.Sublist.cons_cons _ ih
theorem vget_none {vs : List (By × Int)} {u : By} (h : u ∉ vs.map (·.1)) : vget vs u = 0 := by
  induction vs with
  | nil => rfl
  | cons y r ih =>
    obtain ⟨k, v⟩ := y
    rw [List.map_cons, List.mem_cons] at h
    unfold vget
    rw [if_neg (fun e => h (.inl e)), ih (fun e => h (.inr e))]
theorem vget_vdel {vs : List (By × Int)} (hn : (vs.map (·.1)).Nodup) (u x : By) : vget (vdel vs u) x = if x = u then 0 else vget vs x := by
  induction vs with
  | nil => simp [vdel, vget]
  | cons y r ih =>
    obtain ⟨k, v⟩ := y
    rw [List.map_cons, List.nodup_cons] at hn
    unfold vdel
    split
    · rename_i e; subst e
      by_cases h : x = u
      · subst h; rw [if_pos rfl, vget_none hn.1]
      · rw [if_neg h]; simp only [vget]; rw [if_neg h]
    · rename_i e
      simp only [vget, ih hn.2]
      by_cases h : x = k
      · rw [if_pos h, if_neg (by intro h2; rw [← h2] at e; exact e h), if_pos h]
      · rw [if_neg h, if_neg h]
theorem addU_nodup {l : List By} {u : By} (h : l.Nodup) : (addU l u).Nodup := by
  unfold addU
  split
  · exact h
  · rename_i e
    rw [List.nodup_append]
    exact ⟨h, by simp, fun a ha b hb => by rw [List.mem_singleton.1 hb]; rintro rfl; exact e ha⟩
theorem ofStep_far {n : Int} {u : By} {v : Int} {d : Dd} (h : ¬ d.id = n) : ofStep n u v d = v := if_neg fun e => h e.1
theorem VLink.far {vs : List (By × Int)} {D : List Dd} {n : Int} {d : Dd} (h : VLink vs D n) (hd : ¬ d.id = n) : VLink vs (D ++ [d]) n :=
  ⟨h.nd, fun u => by rw [ofR_snoc, ofStep_far hd]; exact h.get u⟩
theorem VLink.rest {vs : List (By × Int)} {D : List Dd} {n : Int} {d : Dd} (h : VLink vs D n) (hd : 4 ≤ d.kind) : VLink vs (D ++ [d]) n :=
  ⟨h.nd, fun u => by rw [ofR_snoc, show ofStep n u (ofR D n u) d = ofR D n u from if_neg (fun e => by omega)]; exact h.get u⟩
theorem VLink.vote {vs : List (By × Int)} {D : List Dd} {n w : Int} {u : By} {d : Dd} (h : VLink vs D n) (hw : w = 1 ∨ w = 2) (hd : d = ⟨w, n, u, []⟩) : VLink (vset vs u w) (D ++ [d]) n := by
  subst hd
  refine ⟨by rw [vset_keys]; exact addU_nodup h.nd, fun x => ?_⟩
  rw [vget_vset, ofR_snoc]
  unfold ofStep
  have hw3 : Int.tmod w 3 = w := by rcases hw with rfl | rfl <;> decide
  by_cases hx : x = u
  · subst hx
    rw [if_pos rfl, if_pos ⟨rfl, rfl, by show w < 4; omega⟩]; exact hw3.symm
  · rw [if_neg hx, if_neg (fun e => hx e.2.1.symm)]; exact h.get x
theorem VLink.unvote {vs : List (By × Int)} {D : List Dd} {n : Int} {u : By} (h : VLink vs D n) : VLink (vdel vs u) (D ++ [⟨3, n, u, []⟩]) n := by
  refine ⟨(vdel_sub vs u).nodup h.nd, fun x => ?_⟩
  rw [vget_vdel h.nd, ofR_snoc]
  unfold ofStep
  by_cases hx : x = u
  · subst hx
    rw [if_pos rfl, if_pos ⟨rfl, rfl, by show (3 : Int) < 4; omega⟩]; rfl
  · rw [if_neg hx, if_neg (fun e => hx e.2.1.symm)]; exact h.get x
theorem talk_snoc (D : List Dd) (n : Int) (d : Dd) : talkR (D ++ [d]) n = talkR D n ++ (if d.id = n ∧ d.kind = 4 then [(d.u, d.t)] else []) := by
  unfold talkR
  rw [List.filter_append, List.map_append]
  congr 1
  by_cases h : d.id = n ∧ d.kind = 4
  · rw [if_pos h, List.filter_cons, if_pos (show talkD n d = true from decide_eq_true h)]; rfl
  · rw [if_neg h, List.filter_cons, if_neg (by unfold talkD; rw [decide_eq_false h]; decide)]; rfl
theorem shut_snoc (D : List Dd) (n : Int) (d : Dd) : shutIn (D ++ [d]) n = (shutIn D n || (decide (d.id = n) && decide (d.kind = 5))) := by
  unfold shutIn; rw [List.any_append]; simp
/-- One sheet. -/
structure SLink (s : Sh) (m : Mk) (D : List Dd) (n : Int) : Prop where
  pr : s.pr = ⟨n, m.a, m.c, m.h, !shutIn D n⟩
  v : VLink s.votes D n
  t : s.talk = talkR D n
/-- Both boards. -/
structure Link (L : List Sh) (r : RB) (k : Nat) : Prop where
  len : L.length = r.L.length
  s : ∀ (i : Nat) (s : Sh) (m : Mk), L[i]? = some s → r.L[i]? = some m → SLink s m r.D ((i : Int) + 1)
  h : ∀ m ∈ r.L, m.h.length = 32
  nl : r.L.length ≤ k
  nd : r.D.length ≤ k
  kk : ∀ d ∈ r.D, 0 ≤ d.kind ∧ d.kind ≤ 5
  vt : ∀ s ∈ L, s.votes.length ≤ k ∧ s.talk.length ≤ k
  ids : ∀ d ∈ r.D, d.id ≤ r.L.length
theorem Link.nil : Link [] ⟨[], []⟩ 0 := ⟨rfl, by simp, by simp, Nat.le_refl _, Nat.le_refl _, by simp, by simp, by simp⟩
theorem no_deed {D : List Dd} {n : Int} (h : ∀ d ∈ D, ¬ d.id = n) : shutIn D n = false ∧ (∀ u, ofR D n u = 0) ∧ talkR D n = [] := by
  refine ⟨?_, fun u => ?_, ?_⟩
  · unfold shutIn; rw [List.any_eq_false]; intro d hd; simp [h d hd]
  · unfold ofR
    induction D with
    | nil => rfl
    | cons x D ih =>
      rw [List.foldl_cons, ofStep_far (h x List.mem_cons_self)]
      exact ih fun d hd => h d (List.mem_cons_of_mem _ hd)
  · unfold talkR
    rw [List.filter_eq_nil_iff.2 (fun d hd => by unfold talkD; simp [h d hd])]; rfl
theorem Link.more {L : List Sh} {r : RB} {k : Nat} (g : Link L r k) : Link L r (k + 1) :=
  ⟨g.len, g.s, g.h, by have := g.nl; omega, by have := g.nd; omega, g.kk, (fun s hs => by have := g.vt s hs; omega), g.ids⟩
theorem SLink.far {s : Sh} {m : Mk} {D : List Dd} {n : Int} {d : Dd} (h : SLink s m D n) (hd : ¬ d.id = n) : SLink s m (D ++ [d]) n :=
  ⟨by rw [shut_snoc, decide_eq_false hd]; simpa using h.pr, h.v.far hd, by rw [talk_snoc, if_neg (fun e => hd e.1), List.append_nil]; exact h.t⟩
theorem Link.at {L : List Sh} {r : RB} {k : Nat} {n : Int} {s : Sh} (g : Link L r k) (h : atS L n = some s) : thereM r n = true ∧ ∃ m, r.L[(n - 1).toNat]? = some m ∧ SLink s m r.D n := by
  obtain ⟨h1, h2⟩ := atS_eq h
  have hl := (List.getElem?_eq_some_iff.1 h2).1
  have hlen := g.len
  obtain ⟨m, hm⟩ : ∃ m, r.L[(n - 1).toNat]? = some m := ⟨_, List.getElem?_eq_getElem (by omega)⟩
  refine ⟨by unfold thereM; exact decide_eq_true ⟨h1, by omega⟩, m, hm, ?_⟩
  have := g.s _ s m h2 hm
  rw [show (((n - 1).toNat : Nat) : Int) + 1 = n by omega] at this; exact this
theorem Link.no {L : List Sh} {r : RB} {k : Nat} {n : Int} (g : Link L r k) (h : atS L n = none) : thereM r n = false := by
  unfold thereM
  refine decide_eq_false fun ⟨h1, h2⟩ => ?_
  unfold atS at h
  rw [if_neg (by omega)] at h
  have := List.getElem?_eq_none_iff.1 h
  have := g.len
  omega
/-- A deed at one sheet. -/
theorem Link.deed {L : List Sh} {r : RB} {k : Nat} {n : Int} {s s' : Sh} {d : Dd} (g : Link L r k) (hs : atS L n = some s) (hd : d.id = n) (hk : 0 ≤ d.kind ∧ d.kind ≤ 5)
    (h : ∀ m, r.L[(n - 1).toNat]? = some m → SLink s m r.D n → SLink s' m (r.D ++ [d]) n) (hl : s'.votes.length ≤ s.votes.length + 1 ∧ s'.talk.length ≤ s.talk.length + 1) : Link (L.set (n - 1).toNat s') (r.put d) (k + 1) := by
  obtain ⟨h1, h2⟩ := atS_eq hs
  refine ⟨by rw [List.length_set]; exact g.len, fun i t m ht hm => ?_, g.h, by have := g.nl; show r.L.length ≤ _; omega, by have := g.nd; show (r.D ++ [d]).length ≤ _; simp; omega, fun e he => ?_, fun t ht => ?_, fun e he => ?_⟩
  · rw [List.getElem?_set] at ht
    by_cases e : (n - 1).toNat = i
    · subst e
      rw [if_pos rfl, if_pos (List.getElem?_eq_some_iff.1 h2).1] at ht
      cases ht
      rw [show (((n - 1).toNat : Nat) : Int) + 1 = n by omega]
      obtain ⟨_, m2, hm2, hsl⟩ := g.at hs
      rw [show m = m2 from Option.some.inj (hm.symm.trans hm2)]
      exact h m2 hm2 hsl
    · rw [if_neg e] at ht
      exact (g.s i t m ht hm).far (by rw [hd]; omega)
  · rcases List.mem_append.1 he with h3 | h3
    · exact g.kk e h3
    · rw [List.mem_singleton.1 h3]; exact hk
  · rcases List.mem_or_eq_of_mem_set ht with h3 | rfl
    · have := g.vt t h3; omega
    · have := g.vt s (List.mem_of_getElem? h2); omega
  · show e.id ≤ (r.L.length : Int)
    rcases List.mem_append.1 he with h3 | h3
    · exact g.ids e h3
    · rw [List.mem_singleton.1 h3, hd]
      have := (List.getElem?_eq_some_iff.1 h2).1
      have := g.len
      omega
theorem liveM_no {r : RB} {n : Int} (h : thereM r n = false) : liveM r n = 111 := if_pos h
theorem liveM_shut {r : RB} {n : Int} (h : thereM r n = true) (hs : shutIn r.D n = true) : liveM r n = 201 := by
  unfold liveM isOpenM; rw [h, hs]; rfl
theorem liveM_ok {r : RB} {n : Int} (h : thereM r n = true) (hs : shutIn r.D n = false) : liveM r n = 0 := by
  unfold liveM isOpenM; rw [h, hs]; rfl
theorem Link.vote {L : List Sh} {r : RB} {k : Nat} (g : Link L r k) (n : Int) (u : By) (is : Bool) :
    (onM L n fun s => giveM s u (yn is)).1 = (rvoteM r n u is).1 ∧ Link (onM L n fun s => giveM s u (yn is)).2 (rvoteM r n u is).2 (k + 1) := by
  unfold onM
  cases hs : atS L n with
  | none =>
    have e : rvoteM r n u is = (111, r) := by unfold rvoteM; rw [liveM_no (g.no hs)]; rfl
    rw [e]; exact ⟨rfl, g.more⟩
  | some s =>
    obtain ⟨ht, m, hm, hsl⟩ := g.at hs
    have hb : madeBy r n = m.a := by unfold madeBy; rw [hm]; rfl
    have ha : s.pr.a = m.a := by rw [hsl.pr]
    have ho : s.pr.o = !shutIn r.D n := by rw [hsl.pr]
    dsimp only
    cases hsh : shutIn r.D n with
    | true =>
      have e : rvoteM r n u is = (201, r) := by unfold rvoteM; rw [liveM_shut ht hsh]; rfl
      have e2 : giveM s u (yn is) = (201, s) := if_pos (by rw [ho, hsh]; rfl)
      rw [e, e2]
      exact ⟨rfl, by rw [set_self (atS_eq hs).2]; exact g.more⟩
    | false =>
      have hl := liveM_ok ht hsh
      have hno : ¬ s.pr.o = false := by rw [ho, hsh]; decide
      by_cases hau : m.a = u
      · have e : rvoteM r n u is = (200, r) := (if_pos hl).trans (if_pos (hb.trans hau))
        have e2 : giveM s u (yn is) = (200, s) := (if_neg hno).trans ((if_neg (yn_ne is)).trans (if_pos (ha.trans hau)))
        rw [e, e2]
        exact ⟨rfl, by rw [set_self (atS_eq hs).2]; exact g.more⟩
      · have e : rvoteM r n u is = (0, r.put ⟨if is then 1 else 2, n, u, []⟩) := (if_pos hl).trans (if_neg (by rw [hb]; exact hau))
        have e2 : giveM s u (yn is) = (0, { s with votes := vset s.votes u (yn is) }) := (if_neg hno).trans ((if_neg (yn_ne is)).trans (if_neg (by rw [ha]; exact hau)))
        rw [e, e2]
        refine ⟨rfl, g.deed hs rfl (by cases is <;> (dsimp only; simp)) (fun m' _ q => ⟨?_, q.v.vote (by cases is <;> simp [yn]) (by cases is <;> rfl), ?_⟩) ⟨vset_len _ _ _, by show s.talk.length ≤ _; omega⟩⟩
        · rw [shut_snoc, show decide ((if is = true then (1 : Int) else 2) = 5) = false from by cases is <;> decide]; simpa using q.pr
        · rw [talk_snoc, if_neg (fun h => by cases is <;> simp at h), List.append_nil]; exact q.t
theorem Link.unvote {L : List Sh} {r : RB} {k : Nat} (g : Link L r k) (n : Int) (u : By) :
    (onM L n fun s => giveM s u 0).1 = (runvoteM r n u).1 ∧ Link (onM L n fun s => giveM s u 0).2 (runvoteM r n u).2 (k + 1) := by
  unfold onM
  cases hs : atS L n with
  | none =>
    have e : runvoteM r n u = (111, r) := by unfold runvoteM; rw [liveM_no (g.no hs)]; rfl
    rw [e]; exact ⟨rfl, g.more⟩
  | some s =>
    obtain ⟨ht, m, hm, hsl⟩ := g.at hs
    have ho : s.pr.o = !shutIn r.D n := by rw [hsl.pr]
    dsimp only
    cases hsh : shutIn r.D n with
    | true =>
      have e : runvoteM r n u = (201, r) := by unfold runvoteM; rw [liveM_shut ht hsh]; rfl
      have e2 : giveM s u 0 = (201, s) := if_pos (by rw [ho, hsh]; rfl)
      rw [e, e2]
      exact ⟨rfl, by rw [set_self (atS_eq hs).2]; exact g.more⟩
    | false =>
      have hl := liveM_ok ht hsh
      have hno : ¬ s.pr.o = false := by rw [ho, hsh]; decide
      have hg := hsl.v.get u
      by_cases hau : ofR r.D n u = 0
      · have e : runvoteM r n u = (111, r) := (if_pos hl).trans (if_pos hau)
        have e2 : giveM s u 0 = (111, s) := (if_neg hno).trans ((if_pos rfl).trans (if_pos (hg.trans hau)))
        rw [e, e2]
        exact ⟨rfl, by rw [set_self (atS_eq hs).2]; exact g.more⟩
      · have e : runvoteM r n u = (0, r.put ⟨3, n, u, []⟩) := (if_pos hl).trans (if_neg hau)
        have e2 : giveM s u 0 = (0, { s with votes := vdel s.votes u }) := (if_neg hno).trans ((if_pos rfl).trans (if_neg (by rw [hg]; exact hau)))
        rw [e, e2]
        refine ⟨rfl, g.deed hs rfl (by dsimp only; omega) (fun m' _ q => ⟨?_, q.v.unvote, ?_⟩) ⟨by have := vdel_len s.votes u; show (vdel s.votes u).length ≤ _; omega, by show s.talk.length ≤ _; omega⟩⟩
        · rw [shut_snoc]; simpa using q.pr
        · rw [talk_snoc, if_neg (fun h => by simp at h), List.append_nil]; exact q.t
theorem Link.close {L : List Sh} {r : RB} {k : Nat} (g : Link L r k) (n : Int) :
    (onM L n closeM).1 = (rcloseM r n).1 ∧ Link (onM L n closeM).2 (rcloseM r n).2 (k + 1) := by
  unfold onM
  cases hs : atS L n with
  | none =>
    have e : rcloseM r n = (111, r) := by unfold rcloseM; rw [liveM_no (g.no hs)]; rfl
    rw [e]; exact ⟨rfl, g.more⟩
  | some s =>
    obtain ⟨ht, m, hm, hsl⟩ := g.at hs
    have ho : s.pr.o = !shutIn r.D n := by rw [hsl.pr]
    dsimp only
    cases hsh : shutIn r.D n with
    | true =>
      have e : rcloseM r n = (201, r) := by unfold rcloseM; rw [liveM_shut ht hsh]; rfl
      have e2 : closeM s = (201, s) := if_pos (by rw [ho, hsh]; rfl)
      rw [e, e2]
      exact ⟨rfl, by rw [set_self (atS_eq hs).2]; exact g.more⟩
    | false =>
      have e : rcloseM r n = (0, r.put ⟨5, n, [], []⟩) := if_pos (liveM_ok ht hsh)
      have e2 : closeM s = (0, shut s) := if_neg (by rw [ho, hsh]; decide)
      rw [e, e2]
      refine ⟨rfl, g.deed hs rfl (by dsimp only; omega) (fun m' _ q => ⟨?_, q.v.rest (by dsimp only; omega), ?_⟩) ⟨by show s.votes.length ≤ _; omega, by show s.talk.length ≤ _; omega⟩⟩
      · rw [shut_snoc]; unfold shut; rw [q.pr]; simp
      · rw [talk_snoc, if_neg (fun h => by simp at h), List.append_nil]; exact q.t
theorem Link.told {L : List Sh} {r : RB} {k : Nat} {n : Int} {s : Sh} (g : Link L r k) (hs : atS L n = some s) : propR r n = s.pr ∧ toldR r n = (s.talk, ofM 1 s.votes, ofM 2 s.votes) := by
  obtain ⟨ht, m, hm, hsl⟩ := g.at hs
  have hk : ∀ d ∈ r.D, 0 ≤ d.kind := fun d hd => (g.kk d hd).1
  constructor
  · unfold propR isOpenM; rw [if_pos ht, hm, hsl.pr, ht]; simp
  · unfold toldR; rw [if_pos ht, pfold_eq, hsl.t, hsl.v.rises hk (.inl rfl), hsl.v.rises hk (.inr rfl)]
theorem Link.untold {L : List Sh} {r : RB} {k : Nat} {n : Int} (g : Link L r k) (hs : atS L n = none) : propR r n = zeroPr ∧ toldR r n = ([], [], []) := by
  have ht := g.no hs
  exact ⟨by unfold propR; rw [if_neg (by rw [ht]; decide)], by unfold toldR; rw [if_neg (by rw [ht]; decide)]⟩
theorem Link.say {L : List Sh} {r : RB} {k : Nat} (g : Link L r k) (n : Int) (u t : By) :
    (onM L n fun s => sayM s u t).1 = (rsayM r n u t).1 ∧ Link (onM L n fun s => sayM s u t).2 (rsayM r n u t).2 (k + 1) := by
  unfold onM
  cases hs : atS L n with
  | none =>
    have e : rsayM r n u t = (111, r) := if_pos (g.no hs)
    rw [e]; exact ⟨rfl, g.more⟩
  | some s =>
    obtain ⟨ht, m, hm, hsl⟩ := g.at hs
    have hnt : ¬ thereM r n = false := by rw [ht]; decide
    have he := (g.told hs).2
    dsimp only
    by_cases hl : 200 < t.length ∨ 32 ≤ s.talk.length
    · have e : rsayM r n u t = (3, r) := (if_neg hnt).trans (if_pos (by rw [he]; exact hl))
      have e2 : sayM s u t = (3, s) := if_pos hl
      rw [e, e2]
      exact ⟨rfl, by rw [set_self (atS_eq hs).2]; exact g.more⟩
    · have e : rsayM r n u t = (0, r.put ⟨4, n, u, t⟩) := (if_neg hnt).trans (if_neg (by rw [he]; exact hl))
      have e2 : sayM s u t = (0, { s with talk := s.talk ++ [(u, t)] }) := if_neg hl
      rw [e, e2]
      refine ⟨rfl, g.deed hs rfl (by dsimp only; omega) (fun m' _ q => ⟨?_, q.v.rest (by dsimp only; omega), ?_⟩) ⟨by show s.votes.length ≤ _; omega, by show (s.talk ++ [(u, t)]).length ≤ _; simp⟩⟩
      · rw [shut_snoc]; simpa using q.pr
      · rw [talk_snoc, if_pos ⟨rfl, rfl⟩, ← q.t]
theorem Link.opens {L : List Sh} {r : RB} {k : Nat} (g : Link L r k) : openIds L = openR r := by
  have key : ∀ j, j ≤ L.length → openIds (L.take j) = openTo r j := by
    intro j
    induction j with
    | zero => intro _; rfl
    | succ j ih =>
      intro hj
      have hlen := g.len
      obtain ⟨s, hs⟩ : ∃ s, L[j]? = some s := ⟨_, List.getElem?_eq_getElem (by omega)⟩
      obtain ⟨m, hm⟩ : ∃ m, r.L[j]? = some m := ⟨_, List.getElem?_eq_getElem (by omega)⟩
      have q := g.s j s m hs hm
      have ht : thereM r ((j : Int) + 1) = true := decide_eq_true ⟨by omega, by omega⟩
      rw [openIds_take hs, openTo_next, ih (by omega), q.pr]
      unfold isOpenM
      rw [ht]; simp
  have := key L.length (Nat.le_refl _)
  rw [List.take_length] at this
  rw [this, g.len]; rfl
theorem Link.clash {L : List Sh} {r : RB} {k : Nat} (g : Link L r k) (c h : By) : L.any (Re.clash c h) = (openR r).any (sameMade c h r) := by
  have key : ∀ j, j ≤ L.length → (L.take j).any (Re.clash c h) = (openTo r j).any (sameMade c h r) := by
    intro j
    induction j with
    | zero => intro _; rfl
    | succ j ih =>
      intro hj
      have hlen := g.len
      obtain ⟨s, hs⟩ : ∃ s, L[j]? = some s := ⟨_, List.getElem?_eq_getElem (by omega)⟩
      obtain ⟨m, hm⟩ : ∃ m, r.L[j]? = some m := ⟨_, List.getElem?_eq_getElem (by omega)⟩
      have q := g.s j s m hs hm
      have ht : thereM r ((j : Int) + 1) = true := decide_eq_true ⟨by omega, by omega⟩
      have hsm : sameMade c h r ((j : Int) + 1) = ((m.c == c) && (m.h == h)) := by unfold sameMade; rw [show ((j : Int) + 1 - 1).toNat = j by omega, hm]
      rw [any_take hs, openTo_next, ih (by omega), List.any_append]
      congr 1
      unfold Re.clash isOpenM
      rw [ht, q.pr]
      cases shutIn r.D ((j : Int) + 1) <;> simp [hsm]
  have := key L.length (Nat.le_refl _)
  rw [List.take_length] at this
  rw [this, g.len]; rfl
theorem Link.propose {L : List Sh} {r : RB} {k : Nat} (g : Link L r k) (a c h : By) (hh : h.length = 32) :
    (proposeM L a c h).1 = (rproposeM r a c h).1 ∧ (proposeM L a c h).2.1 = (rproposeM r a c h).2.1 ∧ Link (proposeM L a c h).2.2 (rproposeM r a c h).2.2 (k + 1) := by
  have e1 := g.clash c h
  have e2 : Re.opens L = (openR r).length := by rw [← g.opens]; unfold openIds Re.opens; simp
  have hlen := g.len
  unfold proposeM rproposeM
  rw [e1, e2]
  split
  · exact ⟨rfl, rfl, g.more⟩
  · split
    · exact ⟨rfl, rfl, g.more⟩
    · refine ⟨by rw [g.len], rfl, ⟨by simp [hlen], fun i s m hs hm => ?_, fun m hm => ?_, by have := g.nl; simp; omega, by have := g.nd; show r.D.length ≤ _; omega, g.kk, fun s hs => ?_, fun d hd => by have := g.ids d hd; simp; omega⟩⟩
      · rcases Nat.lt_or_ge i L.length with q | q
        · rw [List.getElem?_append_left q] at hs
          rw [List.getElem?_append_left (by omega)] at hm
          exact g.s i s m hs hm
        · have hl := (List.getElem?_eq_some_iff.1 hs).1
          rw [List.length_append, List.length_singleton] at hl
          obtain rfl : i = L.length := by omega
          rw [List.getElem?_append_right (Nat.le_refl _), Nat.sub_self] at hs
          rw [hlen, List.getElem?_append_right (Nat.le_refl _), Nat.sub_self] at hm
          cases hs; cases hm
          obtain ⟨n1, n2, n3⟩ := no_deed (D := r.D) (n := (L.length : Int) + 1) fun d hd => by have := g.ids d hd; omega
          exact ⟨by show _ = Pr.mk _ _ _ _ (!shutIn r.D _); rw [n1]; rfl, ⟨List.nodup_nil, fun u => (n2 u).symm⟩, n3.symm⟩
      · rcases List.mem_append.1 hm with h1 | h1
        · exact g.h m h1
        · rw [List.mem_singleton.1 h1]; exact hh
      · rcases List.mem_append.1 hs with h1 | h1
        · have := g.vt s h1; omega
        · rw [List.mem_singleton.1 h1]; simp [newSh]
end Go.Re
/- A call of both boards. -/
namespace Go.Re
open Go Go.Sl
set_option maxRecDepth 100000
theorem pair_one {a b : Value} (ha : a.oneCell' = true) (hb : b.oneCell' = true) : ∀ u ∈ [a, b], u.oneCell' = true := by
  intro u hu
  simp at hu
  rcases hu with rfl | rfl
  · exact ha
  · exact hb
set_option maxRecDepth 100000
set_option maxHeartbeats 4000000
attribute [local irreducible] GK GO Yl Wt Ef Hd GH KH wpListIn Code.wpIn toBody roundQ poolOf rs RS YieldOk IterOk VOk row star exs mp lp Sat pt FnOk Rd bodyPost bodyPostM Lv Ret Exit.then Exit.inBlock Exit.noGoto Int.decLt Int.decLe Int.instDecidableEq
attribute [local irreducible] u8s strs likeTo propC encV prs ptrs sheetC sheets zeroC actC acts i64s openIds madeC mades deeds onM proposeM rproposeM rvoteM runvoteM rsayM rcloseM
set_option pp.deepTerms true
set_option pp.maxSteps 1000000
variable {hF H : Hp}
theorem both_ok {b k : Nat} {L : List Sh} {r : RB} {lv dv : Value} {x : Act1} (h : RbAt H r lv dv) (hx : x.Ok) (g : Link L r k) (hk : k ≤ 100000) :
    FnOk Go.Proofs.Try.prog 25 [.pointer (some ⟨b, 0, none⟩), .agg ⟨[lv, dv]⟩, .agg ⟨actC x⟩] [board b L, poolOf H] hF
      (fun v Γ => ∃ H' lv' dv' L' r', le H H' ∧ v = .tuple #[.agg ⟨[lv', dv']⟩, .bool true] ∧ RbAt H' r' lv' dv' ∧ Link L' r' (k + 1) ∧ Γ = [board b L', poolOf H']) := by
  have h0 := h
  have gl := g.len
  have gn := g.nl
  have gd := g.nd
  have o1 := h.l.one
  have o2 := h.d.one
  obtain ⟨c0, c1, c2, c3⟩ := actC_get x
  have c4 := actC_h x
  have c5 := actC_yes hx.p
  have hxp := hx.p
  have hxt := hx.t
  have z2 : (u8s x.patch).length = 32 := by rw [u8s_len, hxp]
  refine FnOk.intro 117 Go.Proofs.Try.func25 rfl rfl fun w0 => ?_
  (repeat (first | refine GK.ro ?_ | (refine GK.box ?_; intro bl) | (refine GK.mkMap ?_; intro bm) | (refine GK.build0 tb ?_; intro bs) | (refine GL.cons ?_; refine GO.alloc (by first | exact Wt.none | exact Wt.some rfl rfl (by first | exact rfl | decide +kernel)) (by exact rfl) ?_; intro ba) | (refine GL.cons ?_; refine Gt.storeAny tb 0 (by first | exact Wt.none | exact Wt.some rfl rfl (by first | exact rfl | decide +kernel)) (by exact rfl) (by exact rfl) (by exact rfl) (by assumption) (by assumption) (by exact rfl) (by first | exact rfl | assumption) ?_) | (refine GL.cons ?_; refine Gt.storeAny tb 1 (by first | exact Wt.none | exact Wt.some rfl rfl (by first | exact rfl | decide +kernel)) (by exact rfl) (by exact rfl) (by exact rfl) (by assumption) (by assumption) (by exact rfl) (by first | exact rfl | assumption) ?_) | (refine GL.cons ?_; refine Gt.storeAny tb 2 (by first | exact Wt.none | exact Wt.some rfl rfl (by first | exact rfl | decide +kernel)) (by exact rfl) (by exact rfl) (by exact rfl) (by assumption) (by assumption) (by exact rfl) (by first | exact rfl | assumption) ?_) | (refine GL.cons ?_; refine Gt.storeAny tb 3 (by first | exact Wt.none | exact Wt.some rfl rfl (by first | exact rfl | decide +kernel)) (by exact rfl) (by exact rfl) (by exact rfl) (by assumption) (by assumption) (by exact rfl) (by first | exact rfl | assumption) ?_) | (refine GL.cons ?_; refine Gt.storeAny tb 4 (by first | exact Wt.none | exact Wt.some rfl rfl (by first | exact rfl | decide +kernel)) (by exact rfl) (by exact rfl) (by exact rfl) (by assumption) (by assumption) (by exact rfl) (by first | exact rfl | assumption) ?_) | (refine GL.cons ?_; refine Gt.storeAny tb 5 (by first | exact Wt.none | exact Wt.some rfl rfl (by first | exact rfl | decide +kernel)) (by exact rfl) (by exact rfl) (by exact rfl) (by assumption) (by assumption) (by exact rfl) (by first | exact rfl | assumption) ?_) | (refine GL.cons ?_; refine Gt.storeAny tb 6 (by first | exact Wt.none | exact Wt.some rfl rfl (by first | exact rfl | decide +kernel)) (by exact rfl) (by exact rfl) (by exact rfl) (by assumption) (by assumption) (by exact rfl) (by first | exact rfl | assumption) ?_) | (refine GL.cons ?_; refine Gt.storeAny tb 7 (by first | exact Wt.none | exact Wt.some rfl rfl (by first | exact rfl | decide +kernel)) (by exact rfl) (by exact rfl) (by exact rfl) (by assumption) (by assumption) (by exact rfl) (by first | exact rfl | assumption) ?_) | (refine GL.cons ?_; refine Gt.storeAny tb 8 (by first | exact Wt.none | exact Wt.some rfl rfl (by first | exact rfl | decide +kernel)) (by exact rfl) (by exact rfl) (by exact rfl) (by assumption) (by assumption) (by exact rfl) (by first | exact rfl | assumption) ?_) | (refine GL.cons ?_; refine Gt.storeAny tb 9 (by first | exact Wt.none | exact Wt.some rfl rfl (by first | exact rfl | decide +kernel)) (by exact rfl) (by exact rfl) (by exact rfl) (by assumption) (by assumption) (by exact rfl) (by first | exact rfl | assumption) ?_)))
  rename_i bx
  refine G.cutB (fun (y : Hp × Value × Value × List Sh × RB × Int) => [(7, .bool false), (6, .pointer (some ⟨ba, 0, none⟩)), (4, .pointer (some ⟨bx, 0, none⟩)), (8, .int .i64 y.2.2.2.2.2), (9, .int .i64 y.2.2.2.2.2)])
    (fun y => [board b y.2.2.2.1, blk bx 60 (0, 0) [y.2.1, y.2.2.1], blk ba 60 (0, 0) [.slice none 0 0, .slice none 0 0], poolOf y.1])
    (fun y => le H y.1 ∧ RbAt y.1 y.2.2.2.2.1 y.2.1 y.2.2.1 ∧ Link y.2.2.2.1 y.2.2.2.2.1 (k + 1)) (fun y hy => ?_) ?_
  · obtain ⟨H1, lv1, dv1, L1, r1, e⟩ := y
    obtain ⟨le1, hat, g1⟩ := hy
    dsimp only at le1 hat g1 ⊢
    have p1 := hat.l.one
    have p2 := hat.d.one
    (repeat (first | refine GK.ro ?_ | (refine GK.box ?_; intro bl) | (refine GK.mkMap ?_; intro bm) | (refine GK.build0 tb ?_; intro bs)))
    refine GL.cons ?_; refine Gt.storeAny tb 2 (by first | exact Wt.none | exact Wt.some rfl rfl (by first | exact rfl | decide +kernel)) rfl rfl rfl rfl (by exact pair_one p1 p2) rfl rfl ?_
    (repeat (first | refine GK.ro ?_ | (refine GK.box ?_; intro bl) | (refine GK.mkMap ?_; intro bm) | (refine GK.build0 tb ?_; intro bs)))
    refine GQ.fin2 rfl (Rv.row rfl (by kernel_rfl) (by kernel_rfl) (Rd.blk 2 rfl) (At.all _)) (Rv.tmp rfl) (fun _ s => Sat.sub (by repeat (first | exact SubR.nil | apply SubR.cons 0 rfl | apply SubR.cons 1 rfl | apply SubR.cons 2 rfl | apply SubR.cons 3 rfl | apply SubR.cons 4 rfl | apply SubR.cons 5 rfl | apply SubR.cons 6 rfl | apply SubR.cons 7 rfl | apply SubR.cons 8 rfl | apply SubR.cons 9 rfl | apply SubR.cons 10 rfl | apply SubR.cons 11 rfl | apply SubR.cons 12 rfl | apply SubR.cons 13 rfl | apply SubR.cons 14 rfl | apply SubR.cons 15 rfl)) s) ⟨H1, lv1, dv1, L1, r1, le1, ?_, hat, g1, rfl⟩
    rw [decide_eq_true (rfl : e = e)]; rfl
  by_cases k0 : x.kind = 0
  · obtain ⟨e1, e2, g2⟩ := g.propose x.user x.text x.patch hxp
    (repeat (first | refine GK.ro ?_ | (refine GK.box ?_; intro bl) | (refine GK.mkMap ?_; intro bm) | (refine GK.build0 tb ?_; intro bs)))
    refine GL.cons ?_; refine GO.callA (fun hF' hle hH => propose_ok (L := L) (a := x.user) (c := x.text) (h := x.patch) hxp (by omega)) (by first | exact Wt.none | exact Wt.some rfl rfl (by first | exact rfl | decide +kernel)) (by kernel_rfl) rfl rfl (by repeat (first | exact SubR.nil | apply SubR.cons 0 rfl | apply SubR.cons 1 rfl | apply SubR.cons 2 rfl | apply SubR.cons 3 rfl | apply SubR.cons 4 rfl | apply SubR.cons 5 rfl | apply SubR.cons 6 rfl | apply SubR.cons 7 rfl | apply SubR.cons 8 rfl | apply SubR.cons 9 rfl | apply SubR.cons 10 rfl | apply SubR.cons 11 rfl | apply SubR.cons 12 rfl | apply SubR.cons 13 rfl | apply SubR.cons 14 rfl | apply SubR.cons 15 rfl)) ?_
    rintro v Γ' ⟨rfl, rfl⟩
    (repeat (first | refine GK.ro ?_ | (refine GK.box ?_; intro bl) | (refine GK.mkMap ?_; intro bm) | (refine GK.build0 tb ?_; intro bs)))
    refine GL.cons ?_; refine GO.callA (fun hF' hle hH => rpropose_ok (a := x.user) (c0 := x.text) (h1 := x.patch) h0 hxp (by omega)) (by first | exact Wt.none | exact Wt.some rfl rfl (by first | exact rfl | decide +kernel)) (by kernel_rfl) rfl rfl (by repeat (first | exact SubR.nil | apply SubR.cons 0 rfl | apply SubR.cons 1 rfl | apply SubR.cons 2 rfl | apply SubR.cons 3 rfl | apply SubR.cons 4 rfl | apply SubR.cons 5 rfl | apply SubR.cons 6 rfl | apply SubR.cons 7 rfl | apply SubR.cons 8 rfl | apply SubR.cons 9 rfl | apply SubR.cons 10 rfl | apply SubR.cons 11 rfl | apply SubR.cons 12 rfl | apply SubR.cons 13 rfl | apply SubR.cons 14 rfl | apply SubR.cons 15 rfl)) ?_
    generalize proposeM L x.user x.text x.patch = rr at e1 e2 g2 ⊢
    generalize rproposeM r x.user x.text x.patch = qq at e1 e2 g2 ⊢
    obtain ⟨n1, e, L2⟩ := rr
    obtain ⟨n2, bad, r2⟩ := qq
    dsimp only at e1 e2 g2 ⊢
    subst e1 e2
    rintro v Γ' ⟨H1, lv1, le1, rfl, hat, rfl⟩
    (repeat (first | refine GK.ro ?_ | (refine GK.box ?_; intro bl) | (refine GK.mkMap ?_; intro bm) | (refine GK.build0 tb ?_; intro bs)))
    refine GL.cons ?_; (first | refine Gt.storeAny tb 1 (by first | exact Wt.none | exact Wt.some rfl rfl (by first | exact rfl | decide +kernel)) rfl rfl rfl rfl (by exact pair_one hat.l.one o2) rfl rfl ?_ | refine Gt.storeAny tb 2 (by first | exact Wt.none | exact Wt.some rfl rfl (by first | exact rfl | decide +kernel)) rfl rfl rfl rfl (by exact pair_one hat.l.one o2) rfl rfl ?_ | refine Gt.storeAny tb 3 (by first | exact Wt.none | exact Wt.some rfl rfl (by first | exact rfl | decide +kernel)) rfl rfl rfl rfl (by exact pair_one hat.l.one o2) rfl rfl ?_ | refine Gt.storeAny tb 4 (by first | exact Wt.none | exact Wt.some rfl rfl (by first | exact rfl | decide +kernel)) rfl rfl rfl rfl (by exact pair_one hat.l.one o2) rfl rfl ?_)
    (repeat (first | refine GK.ro ?_ | (refine GK.box ?_; intro bl) | (refine GK.mkMap ?_; intro bm) | (refine GK.build0 tb ?_; intro bs)))
    exact GQ.reach (H1, lv1, dv, L2, r2, e) ⟨le1, hat, g2⟩ (by repeat (first | exact trivial | refine ⟨rfl, ?_⟩)) (fun _ s => Sat.sub (by repeat (first | exact SubR.nil | apply SubR.cons 0 rfl | apply SubR.cons 1 rfl | apply SubR.cons 2 rfl | apply SubR.cons 3 rfl | apply SubR.cons 4 rfl | apply SubR.cons 5 rfl | apply SubR.cons 6 rfl | apply SubR.cons 7 rfl | apply SubR.cons 8 rfl | apply SubR.cons 9 rfl | apply SubR.cons 10 rfl | apply SubR.cons 11 rfl | apply SubR.cons 12 rfl | apply SubR.cons 13 rfl | apply SubR.cons 14 rfl | apply SubR.cons 15 rfl)) s)
  by_cases k1 : x.kind = 1
  · obtain ⟨e1, g2⟩ := g.vote x.id x.user x.yes
    (repeat (first | refine GK.ro ?_ | (refine GK.box ?_; intro bl) | (refine GK.mkMap ?_; intro bm) | (refine GK.build0 tb ?_; intro bs)))
    refine GL.cons ?_; refine GO.callA (fun hF' hle hH => vote_ok (L := L) (id := x.id) (u := x.user) (is := x.yes) (by omega)) (by first | exact Wt.none | exact Wt.some rfl rfl (by first | exact rfl | decide +kernel)) (by kernel_rfl) rfl rfl (by repeat (first | exact SubR.nil | apply SubR.cons 0 rfl | apply SubR.cons 1 rfl | apply SubR.cons 2 rfl | apply SubR.cons 3 rfl | apply SubR.cons 4 rfl | apply SubR.cons 5 rfl | apply SubR.cons 6 rfl | apply SubR.cons 7 rfl | apply SubR.cons 8 rfl | apply SubR.cons 9 rfl | apply SubR.cons 10 rfl | apply SubR.cons 11 rfl | apply SubR.cons 12 rfl | apply SubR.cons 13 rfl | apply SubR.cons 14 rfl | apply SubR.cons 15 rfl)) ?_
    rintro v Γ' ⟨rfl, rfl⟩
    (repeat (first | refine GK.ro ?_ | (refine GK.box ?_; intro bl) | (refine GK.mkMap ?_; intro bm) | (refine GK.build0 tb ?_; intro bs)))
    refine GL.cons ?_; refine GO.callA (fun hF' hle hH => rvote_ok (n := x.id) (u := x.user) (is := x.yes) h0 (by omega)) (by first | exact Wt.none | exact Wt.some rfl rfl (by first | exact rfl | decide +kernel)) (by kernel_rfl) rfl rfl (by repeat (first | exact SubR.nil | apply SubR.cons 0 rfl | apply SubR.cons 1 rfl | apply SubR.cons 2 rfl | apply SubR.cons 3 rfl | apply SubR.cons 4 rfl | apply SubR.cons 5 rfl | apply SubR.cons 6 rfl | apply SubR.cons 7 rfl | apply SubR.cons 8 rfl | apply SubR.cons 9 rfl | apply SubR.cons 10 rfl | apply SubR.cons 11 rfl | apply SubR.cons 12 rfl | apply SubR.cons 13 rfl | apply SubR.cons 14 rfl | apply SubR.cons 15 rfl)) ?_
    generalize (onM L x.id fun s => giveM s x.user (yn x.yes)) = rr at e1 g2 ⊢
    generalize rvoteM r x.id x.user x.yes = qq at e1 g2 ⊢
    obtain ⟨e, L2⟩ := rr
    obtain ⟨bad, r2⟩ := qq
    dsimp only at e1 g2 ⊢
    subst e1
    rintro v Γ' ⟨H1, dv1, le1, rfl, hat, rfl⟩
    (repeat (first | refine GK.ro ?_ | (refine GK.box ?_; intro bl) | (refine GK.mkMap ?_; intro bm) | (refine GK.build0 tb ?_; intro bs)))
    refine GL.cons ?_; (first | refine Gt.storeAny tb 1 (by first | exact Wt.none | exact Wt.some rfl rfl (by first | exact rfl | decide +kernel)) rfl rfl rfl rfl (by exact pair_one o1 hat.d.one) rfl rfl ?_ | refine Gt.storeAny tb 2 (by first | exact Wt.none | exact Wt.some rfl rfl (by first | exact rfl | decide +kernel)) rfl rfl rfl rfl (by exact pair_one o1 hat.d.one) rfl rfl ?_ | refine Gt.storeAny tb 3 (by first | exact Wt.none | exact Wt.some rfl rfl (by first | exact rfl | decide +kernel)) rfl rfl rfl rfl (by exact pair_one o1 hat.d.one) rfl rfl ?_ | refine Gt.storeAny tb 4 (by first | exact Wt.none | exact Wt.some rfl rfl (by first | exact rfl | decide +kernel)) rfl rfl rfl rfl (by exact pair_one o1 hat.d.one) rfl rfl ?_)
    (repeat (first | refine GK.ro ?_ | (refine GK.box ?_; intro bl) | (refine GK.mkMap ?_; intro bm) | (refine GK.build0 tb ?_; intro bs)))
    exact GQ.reach (H1, lv, dv1, L2, r2, e) ⟨le1, hat, g2⟩ (by repeat (first | exact trivial | refine ⟨rfl, ?_⟩)) (fun _ s => Sat.sub (by repeat (first | exact SubR.nil | apply SubR.cons 0 rfl | apply SubR.cons 1 rfl | apply SubR.cons 2 rfl | apply SubR.cons 3 rfl | apply SubR.cons 4 rfl | apply SubR.cons 5 rfl | apply SubR.cons 6 rfl | apply SubR.cons 7 rfl | apply SubR.cons 8 rfl | apply SubR.cons 9 rfl | apply SubR.cons 10 rfl | apply SubR.cons 11 rfl | apply SubR.cons 12 rfl | apply SubR.cons 13 rfl | apply SubR.cons 14 rfl | apply SubR.cons 15 rfl)) s)
  by_cases k2 : x.kind = 2
  · obtain ⟨e1, g2⟩ := g.unvote x.id x.user
    (repeat (first | refine GK.ro ?_ | (refine GK.box ?_; intro bl) | (refine GK.mkMap ?_; intro bm) | (refine GK.build0 tb ?_; intro bs)))
    refine GL.cons ?_; refine GO.callA (fun hF' hle hH => unvote_ok (L := L) (id := x.id) (u := x.user) (by omega)) (by first | exact Wt.none | exact Wt.some rfl rfl (by first | exact rfl | decide +kernel)) (by kernel_rfl) rfl rfl (by repeat (first | exact SubR.nil | apply SubR.cons 0 rfl | apply SubR.cons 1 rfl | apply SubR.cons 2 rfl | apply SubR.cons 3 rfl | apply SubR.cons 4 rfl | apply SubR.cons 5 rfl | apply SubR.cons 6 rfl | apply SubR.cons 7 rfl | apply SubR.cons 8 rfl | apply SubR.cons 9 rfl | apply SubR.cons 10 rfl | apply SubR.cons 11 rfl | apply SubR.cons 12 rfl | apply SubR.cons 13 rfl | apply SubR.cons 14 rfl | apply SubR.cons 15 rfl)) ?_
    rintro v Γ' ⟨rfl, rfl⟩
    (repeat (first | refine GK.ro ?_ | (refine GK.box ?_; intro bl) | (refine GK.mkMap ?_; intro bm) | (refine GK.build0 tb ?_; intro bs)))
    refine GL.cons ?_; refine GO.callA (fun hF' hle hH => runvote_ok (n := x.id) (u := x.user) h0 (by omega)) (by first | exact Wt.none | exact Wt.some rfl rfl (by first | exact rfl | decide +kernel)) (by kernel_rfl) rfl rfl (by repeat (first | exact SubR.nil | apply SubR.cons 0 rfl | apply SubR.cons 1 rfl | apply SubR.cons 2 rfl | apply SubR.cons 3 rfl | apply SubR.cons 4 rfl | apply SubR.cons 5 rfl | apply SubR.cons 6 rfl | apply SubR.cons 7 rfl | apply SubR.cons 8 rfl | apply SubR.cons 9 rfl | apply SubR.cons 10 rfl | apply SubR.cons 11 rfl | apply SubR.cons 12 rfl | apply SubR.cons 13 rfl | apply SubR.cons 14 rfl | apply SubR.cons 15 rfl)) ?_
    generalize (onM L x.id fun s => giveM s x.user 0) = rr at e1 g2 ⊢
    generalize runvoteM r x.id x.user = qq at e1 g2 ⊢
    obtain ⟨e, L2⟩ := rr
    obtain ⟨bad, r2⟩ := qq
    dsimp only at e1 g2 ⊢
    subst e1
    rintro v Γ' ⟨H1, dv1, le1, rfl, hat, rfl⟩
    (repeat (first | refine GK.ro ?_ | (refine GK.box ?_; intro bl) | (refine GK.mkMap ?_; intro bm) | (refine GK.build0 tb ?_; intro bs)))
    refine GL.cons ?_; (first | refine Gt.storeAny tb 1 (by first | exact Wt.none | exact Wt.some rfl rfl (by first | exact rfl | decide +kernel)) rfl rfl rfl rfl (by exact pair_one o1 hat.d.one) rfl rfl ?_ | refine Gt.storeAny tb 2 (by first | exact Wt.none | exact Wt.some rfl rfl (by first | exact rfl | decide +kernel)) rfl rfl rfl rfl (by exact pair_one o1 hat.d.one) rfl rfl ?_ | refine Gt.storeAny tb 3 (by first | exact Wt.none | exact Wt.some rfl rfl (by first | exact rfl | decide +kernel)) rfl rfl rfl rfl (by exact pair_one o1 hat.d.one) rfl rfl ?_ | refine Gt.storeAny tb 4 (by first | exact Wt.none | exact Wt.some rfl rfl (by first | exact rfl | decide +kernel)) rfl rfl rfl rfl (by exact pair_one o1 hat.d.one) rfl rfl ?_)
    (repeat (first | refine GK.ro ?_ | (refine GK.box ?_; intro bl) | (refine GK.mkMap ?_; intro bm) | (refine GK.build0 tb ?_; intro bs)))
    exact GQ.reach (H1, lv, dv1, L2, r2, e) ⟨le1, hat, g2⟩ (by repeat (first | exact trivial | refine ⟨rfl, ?_⟩)) (fun _ s => Sat.sub (by repeat (first | exact SubR.nil | apply SubR.cons 0 rfl | apply SubR.cons 1 rfl | apply SubR.cons 2 rfl | apply SubR.cons 3 rfl | apply SubR.cons 4 rfl | apply SubR.cons 5 rfl | apply SubR.cons 6 rfl | apply SubR.cons 7 rfl | apply SubR.cons 8 rfl | apply SubR.cons 9 rfl | apply SubR.cons 10 rfl | apply SubR.cons 11 rfl | apply SubR.cons 12 rfl | apply SubR.cons 13 rfl | apply SubR.cons 14 rfl | apply SubR.cons 15 rfl)) s)
  by_cases k3 : x.kind = 3
  · obtain ⟨e1, g2⟩ := g.say x.id x.user x.text
    (repeat (first | refine GK.ro ?_ | (refine GK.box ?_; intro bl) | (refine GK.mkMap ?_; intro bm) | (refine GK.build0 tb ?_; intro bs)))
    refine GL.cons ?_; refine GO.callA (fun hF' hle hH => say_ok (L := L) (id := x.id) (u := x.user) (t := x.text) (by omega)) (by first | exact Wt.none | exact Wt.some rfl rfl (by first | exact rfl | decide +kernel)) (by kernel_rfl) rfl rfl (by repeat (first | exact SubR.nil | apply SubR.cons 0 rfl | apply SubR.cons 1 rfl | apply SubR.cons 2 rfl | apply SubR.cons 3 rfl | apply SubR.cons 4 rfl | apply SubR.cons 5 rfl | apply SubR.cons 6 rfl | apply SubR.cons 7 rfl | apply SubR.cons 8 rfl | apply SubR.cons 9 rfl | apply SubR.cons 10 rfl | apply SubR.cons 11 rfl | apply SubR.cons 12 rfl | apply SubR.cons 13 rfl | apply SubR.cons 14 rfl | apply SubR.cons 15 rfl)) ?_
    rintro v Γ' ⟨rfl, rfl⟩
    (repeat (first | refine GK.ro ?_ | (refine GK.box ?_; intro bl) | (refine GK.mkMap ?_; intro bm) | (refine GK.build0 tb ?_; intro bs)))
    refine GL.cons ?_; refine GO.callA (fun hF' hle hH => rsay_ok (n := x.id) (u := x.user) (t := x.text) h0 (by omega) hxt) (by first | exact Wt.none | exact Wt.some rfl rfl (by first | exact rfl | decide +kernel)) (by kernel_rfl) rfl rfl (by repeat (first | exact SubR.nil | apply SubR.cons 0 rfl | apply SubR.cons 1 rfl | apply SubR.cons 2 rfl | apply SubR.cons 3 rfl | apply SubR.cons 4 rfl | apply SubR.cons 5 rfl | apply SubR.cons 6 rfl | apply SubR.cons 7 rfl | apply SubR.cons 8 rfl | apply SubR.cons 9 rfl | apply SubR.cons 10 rfl | apply SubR.cons 11 rfl | apply SubR.cons 12 rfl | apply SubR.cons 13 rfl | apply SubR.cons 14 rfl | apply SubR.cons 15 rfl)) ?_
    generalize (onM L x.id fun s => sayM s x.user x.text) = rr at e1 g2 ⊢
    generalize rsayM r x.id x.user x.text = qq at e1 g2 ⊢
    obtain ⟨e, L2⟩ := rr
    obtain ⟨bad, r2⟩ := qq
    dsimp only at e1 g2 ⊢
    subst e1
    rintro v Γ' ⟨H1, dv1, le1, rfl, hat, rfl⟩
    (repeat (first | refine GK.ro ?_ | (refine GK.box ?_; intro bl) | (refine GK.mkMap ?_; intro bm) | (refine GK.build0 tb ?_; intro bs)))
    refine GL.cons ?_; (first | refine Gt.storeAny tb 1 (by first | exact Wt.none | exact Wt.some rfl rfl (by first | exact rfl | decide +kernel)) rfl rfl rfl rfl (by exact pair_one o1 hat.d.one) rfl rfl ?_ | refine Gt.storeAny tb 2 (by first | exact Wt.none | exact Wt.some rfl rfl (by first | exact rfl | decide +kernel)) rfl rfl rfl rfl (by exact pair_one o1 hat.d.one) rfl rfl ?_ | refine Gt.storeAny tb 3 (by first | exact Wt.none | exact Wt.some rfl rfl (by first | exact rfl | decide +kernel)) rfl rfl rfl rfl (by exact pair_one o1 hat.d.one) rfl rfl ?_ | refine Gt.storeAny tb 4 (by first | exact Wt.none | exact Wt.some rfl rfl (by first | exact rfl | decide +kernel)) rfl rfl rfl rfl (by exact pair_one o1 hat.d.one) rfl rfl ?_)
    (repeat (first | refine GK.ro ?_ | (refine GK.box ?_; intro bl) | (refine GK.mkMap ?_; intro bm) | (refine GK.build0 tb ?_; intro bs)))
    exact GQ.reach (H1, lv, dv1, L2, r2, e) ⟨le1, hat, g2⟩ (by repeat (first | exact trivial | refine ⟨rfl, ?_⟩)) (fun _ s => Sat.sub (by repeat (first | exact SubR.nil | apply SubR.cons 0 rfl | apply SubR.cons 1 rfl | apply SubR.cons 2 rfl | apply SubR.cons 3 rfl | apply SubR.cons 4 rfl | apply SubR.cons 5 rfl | apply SubR.cons 6 rfl | apply SubR.cons 7 rfl | apply SubR.cons 8 rfl | apply SubR.cons 9 rfl | apply SubR.cons 10 rfl | apply SubR.cons 11 rfl | apply SubR.cons 12 rfl | apply SubR.cons 13 rfl | apply SubR.cons 14 rfl | apply SubR.cons 15 rfl)) s)
  · obtain ⟨e1, g2⟩ := g.close x.id
    (repeat (first | refine GK.ro ?_ | (refine GK.box ?_; intro bl) | (refine GK.mkMap ?_; intro bm) | (refine GK.build0 tb ?_; intro bs)))
    refine GL.cons ?_; refine GO.callA (fun hF' hle hH => close_ok (L := L) (id := x.id) (by omega)) (by first | exact Wt.none | exact Wt.some rfl rfl (by first | exact rfl | decide +kernel)) (by kernel_rfl) rfl rfl (by repeat (first | exact SubR.nil | apply SubR.cons 0 rfl | apply SubR.cons 1 rfl | apply SubR.cons 2 rfl | apply SubR.cons 3 rfl | apply SubR.cons 4 rfl | apply SubR.cons 5 rfl | apply SubR.cons 6 rfl | apply SubR.cons 7 rfl | apply SubR.cons 8 rfl | apply SubR.cons 9 rfl | apply SubR.cons 10 rfl | apply SubR.cons 11 rfl | apply SubR.cons 12 rfl | apply SubR.cons 13 rfl | apply SubR.cons 14 rfl | apply SubR.cons 15 rfl)) ?_
    rintro v Γ' ⟨rfl, rfl⟩
    (repeat (first | refine GK.ro ?_ | (refine GK.box ?_; intro bl) | (refine GK.mkMap ?_; intro bm) | (refine GK.build0 tb ?_; intro bs)))
    refine GL.cons ?_; refine GO.callA (fun hF' hle hH => rclose_ok (n := x.id) h0 (by omega)) (by first | exact Wt.none | exact Wt.some rfl rfl (by first | exact rfl | decide +kernel)) (by kernel_rfl) rfl rfl (by repeat (first | exact SubR.nil | apply SubR.cons 0 rfl | apply SubR.cons 1 rfl | apply SubR.cons 2 rfl | apply SubR.cons 3 rfl | apply SubR.cons 4 rfl | apply SubR.cons 5 rfl | apply SubR.cons 6 rfl | apply SubR.cons 7 rfl | apply SubR.cons 8 rfl | apply SubR.cons 9 rfl | apply SubR.cons 10 rfl | apply SubR.cons 11 rfl | apply SubR.cons 12 rfl | apply SubR.cons 13 rfl | apply SubR.cons 14 rfl | apply SubR.cons 15 rfl)) ?_
    generalize (onM L x.id closeM) = rr at e1 g2 ⊢
    generalize rcloseM r x.id = qq at e1 g2 ⊢
    obtain ⟨e, L2⟩ := rr
    obtain ⟨bad, r2⟩ := qq
    dsimp only at e1 g2 ⊢
    subst e1
    rintro v Γ' ⟨H1, dv1, le1, rfl, hat, rfl⟩
    (repeat (first | refine GK.ro ?_ | (refine GK.box ?_; intro bl) | (refine GK.mkMap ?_; intro bm) | (refine GK.build0 tb ?_; intro bs)))
    refine GL.cons ?_; (first | refine Gt.storeAny tb 1 (by first | exact Wt.none | exact Wt.some rfl rfl (by first | exact rfl | decide +kernel)) rfl rfl rfl rfl (by exact pair_one o1 hat.d.one) rfl rfl ?_ | refine Gt.storeAny tb 2 (by first | exact Wt.none | exact Wt.some rfl rfl (by first | exact rfl | decide +kernel)) rfl rfl rfl rfl (by exact pair_one o1 hat.d.one) rfl rfl ?_ | refine Gt.storeAny tb 3 (by first | exact Wt.none | exact Wt.some rfl rfl (by first | exact rfl | decide +kernel)) rfl rfl rfl rfl (by exact pair_one o1 hat.d.one) rfl rfl ?_ | refine Gt.storeAny tb 4 (by first | exact Wt.none | exact Wt.some rfl rfl (by first | exact rfl | decide +kernel)) rfl rfl rfl rfl (by exact pair_one o1 hat.d.one) rfl rfl ?_)
    (repeat (first | refine GK.ro ?_ | (refine GK.box ?_; intro bl) | (refine GK.mkMap ?_; intro bm) | (refine GK.build0 tb ?_; intro bs)))
    exact GQ.reach (H1, lv, dv1, L2, r2, e) ⟨le1, hat, g2⟩ (by repeat (first | exact trivial | refine ⟨rfl, ?_⟩)) (fun _ s => Sat.sub (by repeat (first | exact SubR.nil | apply SubR.cons 0 rfl | apply SubR.cons 1 rfl | apply SubR.cons 2 rfl | apply SubR.cons 3 rfl | apply SubR.cons 4 rfl | apply SubR.cons 5 rfl | apply SubR.cons 6 rfl | apply SubR.cons 7 rfl | apply SubR.cons 8 rfl | apply SubR.cons 9 rfl | apply SubR.cons 10 rfl | apply SubR.cons 11 rfl | apply SubR.cons 12 rfl | apply SubR.cons 13 rfl | apply SubR.cons 14 rfl | apply SubR.cons 15 rfl)) s)
end Go.Re
/- What a board tells, as the document's. -/
namespace Go.Sl
/-- What is only read by a call is lent to it as one piece. -/
theorem FnOk.lend {P : Program} {f : FuncId} {args : List Value} {Γ : List HProp} {hF : Hp} {φ : Value → Prop}
    (h : ∀ H2, (∃ hs, Holds Γ hs ∧ ∀ k ∈ hs, le k H2) → FnOk P f args [poolOf H2] hF (fun v Γ' => φ v ∧ Γ' = [poolOf H2])) : FnOk P f args Γ hF (fun v Γ' => φ v ∧ Γ' = Γ) := fun w hs0 => by
  obtain ⟨hs, a, q, c, d⟩ := hs0
  have hp := Apart_iff.1 q
  have hs2 : Sat [poolOf (hs.foldr cup emp)] hF w := ⟨[hs.foldr cup emp], ⟨rfl, trivial⟩, ⟨apart_foldr hp.1, by simp, trivial⟩, c, fun k hk => by rw [List.mem_singleton.1 hk]; exact le_of_foldr d⟩
  refine Calls.mono (h _ ⟨hs, a, foldr_cup_le hp.2⟩ w hs2) ?_
  rintro e w' ⟨v, Γ', rfl, ⟨hv, rfl⟩, s, hm⟩
  have hl := s.pool_le
  obtain ⟨_, _, _, c', _⟩ := s
  exact ⟨v, Γ, rfl, ⟨hv, rfl⟩, ⟨hs, a, q, c', fun k hk => (foldr_cup_le hp.2 k hk).trans hl⟩, hm⟩
theorem GH.pure {P : Program} {cx : Cx} {fr : Fr} {Γ : List HProp} {Q : Exit → Act → World → Prop} {ops : Array Oper} {fs : List Nat} {Δ : List HProp} {n : Nat} {done : Array Bool} {φ : Prop} (h : ∀ w, Sat Γ cx.hF w → φ) (k : φ → GH P cx ops Q fs Δ n done fr Γ) : GH P cx ops Q fs Δ n done fr Γ := fun hcl => GK.pure h fun p => k p hcl
end Go.Sl
namespace Go.Re
open Go Go.Sl
set_option maxRecDepth 100000
theorem Link.small {L : List Sh} {r : RB} {k : Nat} (g : Link L r k) (n : Int) : (toldR r n).1.length ≤ k ∧ (toldR r n).2.1.length ≤ k ∧ (toldR r n).2.2.length ≤ k := by
  cases hs : atS L n with
  | none => rw [(g.untold hs).2]; simp
  | some s =>
    rw [(g.told hs).2]
    have hm := g.vt s (List.mem_of_getElem? (atS_eq hs).2)
    have key : ∀ w, (ofM w s.votes).length ≤ k := fun w => by
      have h1 := (sortS_perm (keysOf w s.votes)).length_eq
      have h2 := keysOf_len w s.votes
      unfold ofM; omega
    exact ⟨hm.2, key 1, key 2⟩
theorem Link.prh {L : List Sh} {r : RB} {k : Nat} (g : Link L r k) (n : Int) : (propR r n).h.length = 32 := by
  unfold propR
  split
  · split
    · rename_i m hm; exact g.h m (List.mem_of_getElem? hm)
    · rfl
  · rfl
def rows3 (ys ns : List By) (ts : List (By × By)) (x : (Option Addr × Nat) × (Option Addr × Nat) × Option Addr × Nat) : List HProp :=
  [row (.slice x.1.1 ys.length x.1.2) 9 1 ys.length (strs ys), row (.slice x.2.1.1 ns.length x.2.1.2) 9 1 ns.length (strs ns), row (.slice x.2.2.1 ts.length x.2.2.2) 67 2 ts.length (prs ts)]
theorem row_shape {v : Value} {e sz n : Nat} {xs : List Value} {Γ : List HProp} {hF : Hp} {w : World} (s : Sat (row v e sz n xs :: Γ) hF w) : ∃ p c, v = .slice p n c := (row_len s).1
variable {hF H : Hp}
theorem proposal_link {b k : Nat} {L : List Sh} {r : RB} {id : Int} (g : Link L r k) (hk : k ≤ 100000) :
    FnOk Go.Proofs.Try.prog 19 [.pointer (some ⟨b, 0, none⟩), .int .i64 id] [board b L] hF
      (fun v Γ => ∃ x : (Option Addr × Nat) × (Option Addr × Nat) × Option Addr × Nat, v = .tuple #[.agg ⟨propC (propR r id) (.slice x.1.1 (toldR r id).2.1.length x.1.2) (.slice x.2.1.1 (toldR r id).2.2.length x.2.1.2) (.slice x.2.2.1 (toldR r id).1.length x.2.2.2)⟩, .bool (thereM r id)] ∧ Γ = board b L :: rows3 (toldR r id).2.1 (toldR r id).2.2 (toldR r id).1 x) := by
  have hl := g.len
  have hn := g.nl
  refine FnOk.weak (fun _ s => s) ?_ (proposal_ok (L := L) (id := id) (by omega) fun s hs => by have := g.vt s hs; omega)
  rintro v Γ' ⟨ex, hT, rfl⟩ w' s'
  unfold Told at hT
  cases hs : atS L id with
  | none =>
    rw [hs] at hT
    obtain ⟨rfl, rfl⟩ := hT
    obtain ⟨e1, e2⟩ := g.untold hs
    have e3 := g.no hs
    rw [e1, e2, e3]
    refine ⟨_, ⟨((none, 0), (none, 0), none, 0), ?_, rfl⟩, ?_⟩
    · rw [← zero_prop]; rfl
    · show Sat [board b L, row (.slice none 0 0) 9 1 0 (strs []), row (.slice none 0 0) 9 1 0 (strs []), row (.slice none 0 0) 67 2 0 (prs [])] hF w'
      rw [strs_nil, prs_nil]
      exact Sl.Sat.sub (by repeat (first | exact SubR.nil | apply SubR.cons 0 rfl | apply SubR.cons 1 rfl | apply SubR.cons 2 rfl | apply SubR.cons 3 rfl | apply SubR.cons 4 rfl | apply SubR.cons 5 rfl | apply SubR.cons 6 rfl | apply SubR.cons 7 rfl | apply SubR.cons 8 rfl | apply SubR.cons 9 rfl | apply SubR.cons 10 rfl | apply SubR.cons 11 rfl | apply SubR.cons 12 rfl | apply SubR.cons 13 rfl | apply SubR.cons 14 rfl | apply SubR.cons 15 rfl)) (Sl.Sat.row_nil (e := 9) (sz := 1) (Sl.Sat.row_nil (e := 9) (sz := 1) (Sl.Sat.row_nil (e := 67) (sz := 2) s')))
  | some s =>
    rw [hs] at hT
    obtain ⟨yv, nv, tv, rfl, rfl⟩ := hT
    obtain ⟨e1, e2⟩ := g.told hs
    have e3 := (g.at hs).1
    rw [e1, e2, e3]
    obtain ⟨yp, yc, rfl⟩ := row_shape (s'.perm (.swap _ _ _))
    obtain ⟨np, nc, rfl⟩ := row_shape (s'.drop.drop)
    obtain ⟨tp, tc, rfl⟩ := row_shape (s'.drop.drop.drop)
    exact ⟨_, ⟨((yp, yc), (np, nc), tp, tc), rfl, rfl⟩, s'⟩
/-- A told proposal, and the same of the document. -/
theorem same_link {pr : Pr} {ys ns : List By} {ts : List (By × By)} {x : (Option Addr × Nat) × (Option Addr × Nat) × Option Addr × Nat} {H2 : Hp} {y2 n2 t2 : Value} (hh : pr.h.length = 32) (l1 : ys.length ≤ 1000000) (l2 : ns.length ≤ 1000000) (l3 : ts.length ≤ 1000000)
    (h1 : rs H2 y2 ys.length 1 (strs ys)) (h2 : rs H2 n2 ns.length 1 (strs ns)) (h3 : rs H2 t2 ts.length 2 (prs ts)) :
    FnOk Go.Proofs.Try.prog 28 [.agg ⟨propC pr (.slice x.1.1 ys.length x.1.2) (.slice x.2.1.1 ns.length x.2.1.2) (.slice x.2.2.1 ts.length x.2.2.2)⟩, .agg ⟨propC pr y2 n2 t2⟩] (rows3 ys ns ts x ++ [poolOf H2]) hF
      (fun v Γ => v = .bool true ∧ Γ = rows3 ys ns ts x ++ [poolOf H2]) := by
  refine FnOk.lend fun H3 hH => ?_
  obtain ⟨hs, ha, hle⟩ := hH
  match hs, ha with
  | [a, b, c, d], ⟨q1, q2, q3, q4, _⟩ =>
    have r1 := row_in q1 (hle a (by simp))
    have r2 := row_in q2 (hle b (by simp))
    have r3 := row_in q3 (hle c (by simp))
    have q4' : d = H2 := q4
    have hl : le H2 H3 := q4' ▸ hle d (by simp)
    have := same_ok (hF := hF) (H := H3) (x := ⟨pr, .slice x.1.1 ys.length x.1.2, .slice x.2.1.1 ns.length x.2.1.2, .slice x.2.2.1 ts.length x.2.2.2, ys, ns, ts⟩) (y := ⟨pr, y2, n2, t2, ys, ns, ts⟩)
      ⟨r1, r2, r3, hh, by dsimp only; omega, by dsimp only; omega, by dsimp only; omega⟩ ⟨h1.mono hl, h2.mono hl, h3.mono hl, hh, by dsimp only; omega, by dsimp only; omega, by dsimp only; omega⟩
    rw [show sameM _ _ = true from by unfold sameM; simp] at this
    exact this
end Go.Re
/- ReviewPlays. -/
namespace Go.Re
open Go Go.Sl
set_option maxRecDepth 100000
theorem RbAt.nil {H : Hp} : RbAt H ⟨[], []⟩ (.slice none 0 0) (.slice none 0 0) := ⟨rs.nil, rs.nil, by simp, by simp, by simp, by simp⟩
set_option maxRecDepth 100000
set_option maxHeartbeats 4000000
attribute [local irreducible] GK GO Yl Wt Ef Hd GH KH wpListIn Code.wpIn toBody roundQ poolOf rs RS YieldOk IterOk VOk row star exs mp lp Sat pt FnOk Rd bodyPost bodyPostM Lv Ret Exit.then Exit.inBlock Exit.noGoto Int.decLt Int.decLe Int.instDecidableEq
attribute [local irreducible] u8s strs likeTo propC encV prs ptrs sheetC sheets zeroC actC acts i64s openIds madeC mades deeds toldR propR thereM openR
set_option pp.deepTerms true
set_option pp.maxSteps 1000000
variable {hF H : Hp}
theorem playsLaw_ok {l : List Act1} {v : Value} (h : rs H v l.length 37 (acts l)) (hk : ∀ x ∈ l, x.Ok) (n1 : l.length ≤ 140737488355328) :
    FnOk Go.Proofs.Try.prog 7 [v] [poolOf H] hF (fun v Γ => v = .bool true ∧ ∃ H' Γ2, le H H' ∧ Γ = poolOf H' :: Γ2) := by
  have h0 := h
  obtain ⟨p, c, rfl, hc, hln, hr⟩ := rs.out h
  refine FnOk.intro 118 Go.Proofs.Try.func7 rfl rfl fun w0 => ?_
  (repeat (first | refine GK.ro ?_ | (refine GK.box ?_; intro bl) | (refine GK.mkMap ?_; intro bm) | (refine GK.build0 tb ?_; intro bs)))
  refine GL.cons ?_; refine GO.callA (fun hF' hle hH => few_ok h0 hk n1) (by first | exact Wt.none | exact Wt.some rfl rfl (by first | exact rfl | decide +kernel)) (by kernel_rfl) rfl rfl (by repeat (first | exact SubR.nil | apply SubR.cons 0 rfl | apply SubR.cons 1 rfl | apply SubR.cons 2 rfl | apply SubR.cons 3 rfl | apply SubR.cons 4 rfl | apply SubR.cons 5 rfl | apply SubR.cons 6 rfl | apply SubR.cons 7 rfl | apply SubR.cons 8 rfl | apply SubR.cons 9 rfl | apply SubR.cons 10 rfl | apply SubR.cons 11 rfl | apply SubR.cons 12 rfl | apply SubR.cons 13 rfl | apply SubR.cons 14 rfl | apply SubR.cons 15 rfl)) ?_
  rintro v Γ' ⟨⟨bb, rfl, hfew⟩, rfl⟩
  cases bb with
  | false =>
    (repeat (first | refine GK.ro ?_ | (refine GK.box ?_; intro bl) | (refine GK.mkMap ?_; intro bm) | (refine GK.build0 tb ?_; intro bs)))
    refine GL.cons ?_; refine GO.callA (fun hF' hle hH => lives_ok) (by first | exact Wt.none | exact Wt.some rfl rfl (by first | exact rfl | decide +kernel)) (by kernel_rfl) rfl rfl (by repeat (first | exact SubR.nil | apply SubR.cons 0 rfl | apply SubR.cons 1 rfl | apply SubR.cons 2 rfl | apply SubR.cons 3 rfl | apply SubR.cons 4 rfl | apply SubR.cons 5 rfl | apply SubR.cons 6 rfl | apply SubR.cons 7 rfl | apply SubR.cons 8 rfl | apply SubR.cons 9 rfl | apply SubR.cons 10 rfl | apply SubR.cons 11 rfl | apply SubR.cons 12 rfl | apply SubR.cons 13 rfl | apply SubR.cons 14 rfl | apply SubR.cons 15 rfl)) ?_
    rintro v Γ' ⟨rfl, rfl⟩
    (repeat (first | refine GK.ro ?_ | (refine GK.box ?_; intro bl) | (refine GK.mkMap ?_; intro bm) | (refine GK.build0 tb ?_; intro bs)))
    exact GQ.fin1 rfl (Rv.tmp rfl) (fun _ s => Sat.sub (by repeat (first | exact SubR.nil | apply SubR.cons 0 rfl | apply SubR.cons 1 rfl | apply SubR.cons 2 rfl | apply SubR.cons 3 rfl | apply SubR.cons 4 rfl | apply SubR.cons 5 rfl | apply SubR.cons 6 rfl | apply SubR.cons 7 rfl | apply SubR.cons 8 rfl | apply SubR.cons 9 rfl | apply SubR.cons 10 rfl | apply SubR.cons 11 rfl | apply SubR.cons 12 rfl | apply SubR.cons 13 rfl | apply SubR.cons 14 rfl | apply SubR.cons 15 rfl)) s) ⟨rfl, H, [], le.refl _, rfl⟩
  | true =>
  have hl150 := hfew rfl
  (repeat (first | refine GK.ro ?_ | (refine GK.box ?_; intro bl) | (refine GK.mkMap ?_; intro bm) | (refine GK.build0 tb ?_; intro bs)))
  refine GL.cons ?_; refine GO.callA (fun hF' hle hH => new_ok) (by first | exact Wt.none | exact Wt.some rfl rfl (by first | exact rfl | decide +kernel)) (by kernel_rfl) rfl rfl (by repeat (first | exact SubR.nil | apply SubR.cons 0 rfl | apply SubR.cons 1 rfl | apply SubR.cons 2 rfl | apply SubR.cons 3 rfl | apply SubR.cons 4 rfl | apply SubR.cons 5 rfl | apply SubR.cons 6 rfl | apply SubR.cons 7 rfl | apply SubR.cons 8 rfl | apply SubR.cons 9 rfl | apply SubR.cons 10 rfl | apply SubR.cons 11 rfl | apply SubR.cons 12 rfl | apply SubR.cons 13 rfl | apply SubR.cons 14 rfl | apply SubR.cons 15 rfl)) ?_
  rintro v Γ' ⟨b, rfl, rfl⟩
  (repeat (first | refine GK.ro ?_ | (refine GK.box ?_; intro bl) | (refine GK.mkMap ?_; intro bm) | (refine GK.build0 tb ?_; intro bs) | (refine GL.cons ?_; refine GO.alloc (by first | exact Wt.none | exact Wt.some rfl rfl (by first | exact rfl | decide +kernel)) (by exact rfl) ?_; intro ba) | (refine GL.cons ?_; refine Gt.storeAny tb 0 (by first | exact Wt.none | exact Wt.some rfl rfl (by first | exact rfl | decide +kernel)) (by exact rfl) (by exact rfl) (by exact rfl) (by assumption) (by assumption) (by exact rfl) (by first | exact rfl | assumption) ?_) | (refine GL.cons ?_; refine Gt.storeAny tb 1 (by first | exact Wt.none | exact Wt.some rfl rfl (by first | exact rfl | decide +kernel)) (by exact rfl) (by exact rfl) (by exact rfl) (by assumption) (by assumption) (by exact rfl) (by first | exact rfl | assumption) ?_) | (refine GL.cons ?_; refine Gt.storeAny tb 2 (by first | exact Wt.none | exact Wt.some rfl rfl (by first | exact rfl | decide +kernel)) (by exact rfl) (by exact rfl) (by exact rfl) (by assumption) (by assumption) (by exact rfl) (by first | exact rfl | assumption) ?_) | (refine GL.cons ?_; refine Gt.storeAny tb 3 (by first | exact Wt.none | exact Wt.some rfl rfl (by first | exact rfl | decide +kernel)) (by exact rfl) (by exact rfl) (by exact rfl) (by assumption) (by assumption) (by exact rfl) (by first | exact rfl | assumption) ?_) | (refine GL.cons ?_; refine Gt.storeAny tb 4 (by first | exact Wt.none | exact Wt.some rfl rfl (by first | exact rfl | decide +kernel)) (by exact rfl) (by exact rfl) (by exact rfl) (by assumption) (by assumption) (by exact rfl) (by first | exact rfl | assumption) ?_) | (refine GL.cons ?_; refine Gt.storeAny tb 5 (by first | exact Wt.none | exact Wt.some rfl rfl (by first | exact rfl | decide +kernel)) (by exact rfl) (by exact rfl) (by exact rfl) (by assumption) (by assumption) (by exact rfl) (by first | exact rfl | assumption) ?_) | (refine GL.cons ?_; refine Gt.storeAny tb 6 (by first | exact Wt.none | exact Wt.some rfl rfl (by first | exact rfl | decide +kernel)) (by exact rfl) (by exact rfl) (by exact rfl) (by assumption) (by assumption) (by exact rfl) (by first | exact rfl | assumption) ?_) | (refine GL.cons ?_; refine Gt.storeAny tb 7 (by first | exact Wt.none | exact Wt.some rfl rfl (by first | exact rfl | decide +kernel)) (by exact rfl) (by exact rfl) (by exact rfl) (by assumption) (by assumption) (by exact rfl) (by first | exact rfl | assumption) ?_) | (refine GL.cons ?_; refine Gt.storeAny tb 8 (by first | exact Wt.none | exact Wt.some rfl rfl (by first | exact rfl | decide +kernel)) (by exact rfl) (by exact rfl) (by exact rfl) (by assumption) (by assumption) (by exact rfl) (by first | exact rfl | assumption) ?_) | (refine GL.cons ?_; refine Gt.storeAny tb 9 (by first | exact Wt.none | exact Wt.some rfl rfl (by first | exact rfl | decide +kernel)) (by exact rfl) (by exact rfl) (by exact rfl) (by assumption) (by assumption) (by exact rfl) (by first | exact rfl | assumption) ?_)))
  obtain ⟨br, rfl⟩ : ∃ br, br = ba := ⟨_, rfl⟩
  refine GL.cons ?_; refine Gt.storeAny tb 0 (by first | exact Wt.none | exact Wt.some rfl rfl (by first | exact rfl | decide +kernel)) rfl rfl rfl rfl (one_of_all rfl) rfl rfl ?_
  (repeat (first | refine GK.ro ?_ | (refine GK.box ?_; intro bl) | (refine GK.mkMap ?_; intro bm) | (refine GK.build0 tb ?_; intro bs)))
  refine GK.weak (fr' := [(3, .pointer (some ⟨b, 0, none⟩)), (4, .pointer (some ⟨br, 0, none⟩)), (21, .slice p l.length c), (22, .int .i64 (l.length : Int)), (23, .int .i64 ((0 : Nat) : Int))]) (Γ' := [board b [], blk br 60 (0, 0) [.slice none 0 0, .slice none 0 0], poolOf H]) (by repeat (first | exact trivial | refine ⟨rfl, ?_⟩)) (fun _ s => Sat.sub (by repeat (first | exact SubR.nil | apply SubR.cons 0 rfl | apply SubR.cons 1 rfl | apply SubR.cons 2 rfl | apply SubR.cons 3 rfl | apply SubR.cons 4 rfl | apply SubR.cons 5 rfl | apply SubR.cons 6 rfl | apply SubR.cons 7 rfl | apply SubR.cons 8 rfl | apply SubR.cons 9 rfl | apply SubR.cons 10 rfl | apply SubR.cons 11 rfl | apply SubR.cons 12 rfl | apply SubR.cons 13 rfl | apply SubR.cons 14 rfl | apply SubR.cons 15 rfl)) s)
    (G.loopN (X := Nat × Hp × Value × Value × List Sh × RB) (fun (i, _, _, _, _, _) => l.length - i) (fun (i, _, _, _, _, _) => [(3, .pointer (some ⟨b, 0, none⟩)), (4, .pointer (some ⟨br, 0, none⟩)), (21, .slice p l.length c), (22, .int .i64 (l.length : Int)), (23, .int .i64 (i : Int))])
    (fun (_, H', lv, dv, L, _) => [board b L, blk br 60 (0, 0) [lv, dv], poolOf H'])
    (fun (i, H', lv, dv, L, r) => i ≤ l.length ∧ le H H' ∧ RbAt H' r lv dv ∧ Link L r i) (fun x hx r hr' => ?_) (0, H, .slice none 0 0, .slice none 0 0, [], ⟨[], []⟩) ⟨Nat.zero_le _, le.refl _, RbAt.nil, Link.nil⟩)
  obtain ⟨i, H1, lv, dv, L, r⟩ := x
  obtain ⟨hi, le1, hat, g⟩ := hx
  dsimp only at hr' le1 hat g ⊢
  have gl := g.len
  have gn := g.nl
  have gd := g.nd
  have o1 := hat.l.one
  have o2 := hat.d.one
  (repeat (first | refine GK.ro ?_ | (refine GK.box ?_; intro bl) | (refine GK.mkMap ?_; intro bm) | (refine GK.build0 tb ?_; intro bs)))
  (first | refine G.condP rfl (fun hb => ?_) (fun hb => ?_) | refine G.condN rfl (fun hb => ?_) (fun hb => ?_) | refine G.cond rfl (fun hb => ?_) (fun hb => ?_))
  · obtain ⟨x, hx⟩ : ∃ x, l[i]? = some x := ⟨_, List.getElem?_eq_getElem (by omega)⟩
    have hxk := hk x (List.mem_of_getElem? hx)
    obtain ⟨k0, k1, k2, k3⟩ := actC_get x
    have hal := actC_len hxk.p
    have hao := actC_one x
    have haA : At (actC x) 0 (actC x) := At.all _
    have hlt : i < l.length := by omega
    clear hb
    obtain ⟨b1, o1, cs1, et1, fz1, rfl, hb1, hat1⟩ := hr (by omega)
    have hb1' := le1 _ _ hb1
    have hA : At cs1 (o1 + (i : Int).toNat * 37) (actC x) := at_trans hat1 (acts_at hk hx)
    (repeat (first | refine GK.ro ?_ | (refine GK.box ?_; intro bl) | (refine GK.mkMap ?_; intro bm) | (refine GK.build0 tb ?_; intro bs) | (refine GL.cons ?_; refine GO.alloc (by first | exact Wt.none | exact Wt.some rfl rfl (by first | exact rfl | decide +kernel)) (by exact rfl) ?_; intro ba) | (refine GL.cons ?_; refine Gt.storeAny tb 0 (by first | exact Wt.none | exact Wt.some rfl rfl (by first | exact rfl | decide +kernel)) (by exact rfl) (by exact rfl) (by exact rfl) (by assumption) (by assumption) (by exact rfl) (by first | exact rfl | assumption) ?_) | (refine GL.cons ?_; refine Gt.storeAny tb 1 (by first | exact Wt.none | exact Wt.some rfl rfl (by first | exact rfl | decide +kernel)) (by exact rfl) (by exact rfl) (by exact rfl) (by assumption) (by assumption) (by exact rfl) (by first | exact rfl | assumption) ?_) | (refine GL.cons ?_; refine Gt.storeAny tb 2 (by first | exact Wt.none | exact Wt.some rfl rfl (by first | exact rfl | decide +kernel)) (by exact rfl) (by exact rfl) (by exact rfl) (by assumption) (by assumption) (by exact rfl) (by first | exact rfl | assumption) ?_) | (refine GL.cons ?_; refine Gt.storeAny tb 3 (by first | exact Wt.none | exact Wt.some rfl rfl (by first | exact rfl | decide +kernel)) (by exact rfl) (by exact rfl) (by exact rfl) (by assumption) (by assumption) (by exact rfl) (by first | exact rfl | assumption) ?_) | (refine GL.cons ?_; refine Gt.storeAny tb 4 (by first | exact Wt.none | exact Wt.some rfl rfl (by first | exact rfl | decide +kernel)) (by exact rfl) (by exact rfl) (by exact rfl) (by assumption) (by assumption) (by exact rfl) (by first | exact rfl | assumption) ?_) | (refine GL.cons ?_; refine Gt.storeAny tb 5 (by first | exact Wt.none | exact Wt.some rfl rfl (by first | exact rfl | decide +kernel)) (by exact rfl) (by exact rfl) (by exact rfl) (by assumption) (by assumption) (by exact rfl) (by first | exact rfl | assumption) ?_) | (refine GL.cons ?_; refine Gt.storeAny tb 6 (by first | exact Wt.none | exact Wt.some rfl rfl (by first | exact rfl | decide +kernel)) (by exact rfl) (by exact rfl) (by exact rfl) (by assumption) (by assumption) (by exact rfl) (by first | exact rfl | assumption) ?_) | (refine GL.cons ?_; refine Gt.storeAny tb 7 (by first | exact Wt.none | exact Wt.some rfl rfl (by first | exact rfl | decide +kernel)) (by exact rfl) (by exact rfl) (by exact rfl) (by assumption) (by assumption) (by exact rfl) (by first | exact rfl | assumption) ?_) | (refine GL.cons ?_; refine Gt.storeAny tb 8 (by first | exact Wt.none | exact Wt.some rfl rfl (by first | exact rfl | decide +kernel)) (by exact rfl) (by exact rfl) (by exact rfl) (by assumption) (by assumption) (by exact rfl) (by first | exact rfl | assumption) ?_) | (refine GL.cons ?_; refine Gt.storeAny tb 9 (by first | exact Wt.none | exact Wt.some rfl rfl (by first | exact rfl | decide +kernel)) (by exact rfl) (by exact rfl) (by exact rfl) (by assumption) (by assumption) (by exact rfl) (by first | exact rfl | assumption) ?_)))
    refine GL.cons ?_; refine GO.callA (fun hF' hle hH => both_ok hat hxk g (by omega)) (by first | exact Wt.none | exact Wt.some rfl rfl (by first | exact rfl | decide +kernel)) (by kernel_rfl) rfl rfl (by repeat (first | exact SubR.nil | apply SubR.cons 0 rfl | apply SubR.cons 1 rfl | apply SubR.cons 2 rfl | apply SubR.cons 3 rfl | apply SubR.cons 4 rfl | apply SubR.cons 5 rfl | apply SubR.cons 6 rfl | apply SubR.cons 7 rfl | apply SubR.cons 8 rfl | apply SubR.cons 9 rfl | apply SubR.cons 10 rfl | apply SubR.cons 11 rfl | apply SubR.cons 12 rfl | apply SubR.cons 13 rfl | apply SubR.cons 14 rfl | apply SubR.cons 15 rfl)) ?_
    rintro v Γ' ⟨H2, lv2, dv2, L2, r2, le2, rfl, hat2, g2, rfl⟩
    have gl2 := g2.len
    have gn2 := g2.nl
    have gd2 := g2.nd
    have u1 := hat2.l.one
    have u2 := hat2.d.one
    have hop := g2.opens
    have hol := openIds_len L2
    refine GK.heap (Γ' := [blk br 60 (0, 0) [lv, dv], blk ba 44 (0, 0) (actC x), board b L2, poolOf H2]) (fun _ s => Sat.sub (by repeat (first | exact SubR.nil | apply SubR.cons 0 rfl | apply SubR.cons 1 rfl | apply SubR.cons 2 rfl | apply SubR.cons 3 rfl | apply SubR.cons 4 rfl | apply SubR.cons 5 rfl | apply SubR.cons 6 rfl | apply SubR.cons 7 rfl | apply SubR.cons 8 rfl | apply SubR.cons 9 rfl | apply SubR.cons 10 rfl | apply SubR.cons 11 rfl | apply SubR.cons 12 rfl | apply SubR.cons 13 rfl | apply SubR.cons 14 rfl | apply SubR.cons 15 rfl)) s) ?_
    (repeat (first | refine GK.ro ?_ | (refine GK.box ?_; intro bl) | (refine GK.mkMap ?_; intro bm) | (refine GK.build0 tb ?_; intro bs)))
    refine GL.cons ?_; refine Gt.storeAny tb 0 (by first | exact Wt.none | exact Wt.some rfl rfl (by first | exact rfl | decide +kernel)) rfl rfl rfl rfl (by exact pair_one u1 u2) rfl rfl ?_
    (repeat (first | refine GK.ro ?_ | (refine GK.box ?_; intro bl) | (refine GK.mkMap ?_; intro bm) | (refine GK.build0 tb ?_; intro bs)))
    refine GK.weak (fr' := [(3, .pointer (some ⟨b, 0, none⟩)), (4, .pointer (some ⟨br, 0, none⟩)), (6, .pointer (some ⟨ba, 0, none⟩)), (7, .bool true), (21, .slice (some ⟨b1, o1, none⟩) l.length c), (22, .int .i64 (l.length : Int)), (23, .int .i64 (i : Int))]) (Γ' := [board b L2, blk br 60 (0, 0) [lv2, dv2], blk ba 44 (0, 0) (actC x), poolOf H2]) (by repeat (first | exact trivial | refine ⟨rfl, ?_⟩)) (fun _ s => Sat.sub (by repeat (first | exact SubR.nil | apply SubR.cons 0 rfl | apply SubR.cons 1 rfl | apply SubR.cons 2 rfl | apply SubR.cons 3 rfl | apply SubR.cons 4 rfl | apply SubR.cons 5 rfl | apply SubR.cons 6 rfl | apply SubR.cons 7 rfl | apply SubR.cons 8 rfl | apply SubR.cons 9 rfl | apply SubR.cons 10 rfl | apply SubR.cons 11 rfl | apply SubR.cons 12 rfl | apply SubR.cons 13 rfl | apply SubR.cons 14 rfl | apply SubR.cons 15 rfl)) s) ?_
    refine G.draw [] [blk br 60 (0, 0) [lv2, dv2]] (by kernel_rfl) ?_
    ((first | refine GH.to 0 ?_ | refine GH.tos 0 ?_); (first | refine GH.to 1 ?_ | refine GH.tos 1 ?_); (first | refine GH.to 2 ?_ | refine GH.tos 2 ?_); (first | refine GH.to 3 ?_ | refine GH.tos 3 ?_); (first | refine GH.to 5 ?_ | refine GH.tos 5 ?_))
    refine GH.step 4 rfl (by kernel_rfl) ?_
    refine GO.callA (fun hF' hle hH => open_ok (L := L2) (by omega)) (by first | exact Wt.none | exact Wt.some rfl rfl (by first | exact rfl | decide +kernel)) (by kernel_rfl) rfl rfl (by repeat (first | exact SubR.nil | apply SubR.cons 0 rfl | apply SubR.cons 1 rfl | apply SubR.cons 2 rfl | apply SubR.cons 3 rfl | apply SubR.cons 4 rfl | apply SubR.cons 5 rfl | apply SubR.cons 6 rfl | apply SubR.cons 7 rfl | apply SubR.cons 8 rfl | apply SubR.cons 9 rfl | apply SubR.cons 10 rfl | apply SubR.cons 11 rfl | apply SubR.cons 12 rfl | apply SubR.cons 13 rfl | apply SubR.cons 14 rfl | apply SubR.cons 15 rfl)) ?_
    rintro v Γ' rfl
    refine GH.keep (fun _ s => Sat.sub (by repeat (first | exact SubR.nil | apply SubR.cons 0 rfl | apply SubR.cons 1 rfl | apply SubR.cons 2 rfl | apply SubR.cons 3 rfl | apply SubR.cons 4 rfl | apply SubR.cons 5 rfl | apply SubR.cons 6 rfl | apply SubR.cons 7 rfl | apply SubR.cons 8 rfl | apply SubR.cons 9 rfl | apply SubR.cons 10 rfl | apply SubR.cons 11 rfl | apply SubR.cons 12 rfl | apply SubR.cons 13 rfl | apply SubR.cons 14 rfl | apply SubR.cons 15 rfl)) s) ?_
    refine GH.pure (fun w s => (row_len s).1) ?_
    rintro ⟨wp, wc, rfl⟩
    refine GH.step 6 rfl (by kernel_rfl) ?_
    refine GO.callA (fun hF' hle hH => ropen_ok hat2) (by first | exact Wt.none | exact Wt.some rfl rfl (by first | exact rfl | decide +kernel)) (by kernel_rfl) rfl rfl (by repeat (first | exact SubR.nil | apply SubR.cons 0 rfl | apply SubR.cons 1 rfl | apply SubR.cons 2 rfl | apply SubR.cons 3 rfl | apply SubR.cons 4 rfl | apply SubR.cons 5 rfl | apply SubR.cons 6 rfl | apply SubR.cons 7 rfl | apply SubR.cons 8 rfl | apply SubR.cons 9 rfl | apply SubR.cons 10 rfl | apply SubR.cons 11 rfl | apply SubR.cons 12 rfl | apply SubR.cons 13 rfl | apply SubR.cons 14 rfl | apply SubR.cons 15 rfl)) ?_
    rintro v Γ' rfl
    refine GH.keep (fun _ s => Sat.sub (by repeat (first | exact SubR.nil | apply SubR.cons 0 rfl | apply SubR.cons 1 rfl | apply SubR.cons 2 rfl | apply SubR.cons 3 rfl | apply SubR.cons 4 rfl | apply SubR.cons 5 rfl | apply SubR.cons 6 rfl | apply SubR.cons 7 rfl | apply SubR.cons 8 rfl | apply SubR.cons 9 rfl | apply SubR.cons 10 rfl | apply SubR.cons 11 rfl | apply SubR.cons 12 rfl | apply SubR.cons 13 rfl | apply SubR.cons 14 rfl | apply SubR.cons 15 rfl)) s) ?_
    refine GH.pure (fun w s => (row_len s).1) ?_
    rintro ⟨xp, xc, rfl⟩
    rw [← hop]
    refine GH.step 7 rfl (by kernel_rfl) ?_
    refine GO.callA (fun hF' hle hH => ints_ok (l := openIds L2) (m := openIds L2) (by omega) (by omega)) (by first | exact Wt.none | exact Wt.some rfl rfl (by first | exact rfl | decide +kernel)) (by kernel_rfl) rfl rfl (by repeat (first | exact SubR.nil | apply SubR.cons 0 rfl | apply SubR.cons 1 rfl | apply SubR.cons 2 rfl | apply SubR.cons 3 rfl | apply SubR.cons 4 rfl | apply SubR.cons 5 rfl | apply SubR.cons 6 rfl | apply SubR.cons 7 rfl | apply SubR.cons 8 rfl | apply SubR.cons 9 rfl | apply SubR.cons 10 rfl | apply SubR.cons 11 rfl | apply SubR.cons 12 rfl | apply SubR.cons 13 rfl | apply SubR.cons 14 rfl | apply SubR.cons 15 rfl)) ?_
    rintro v Γ' ⟨rfl, rfl⟩
    rw [decide_eq_true (rfl : openIds L2 = openIds L2)]
    refine GH.keep (fun _ s => Sat.sub (by repeat (first | exact SubR.nil | apply SubR.cons 0 rfl | apply SubR.cons 1 rfl | apply SubR.cons 2 rfl | apply SubR.cons 3 rfl | apply SubR.cons 4 rfl | apply SubR.cons 5 rfl | apply SubR.cons 6 rfl | apply SubR.cons 7 rfl | apply SubR.cons 8 rfl | apply SubR.cons 9 rfl | apply SubR.cons 10 rfl | apply SubR.cons 11 rfl | apply SubR.cons 12 rfl | apply SubR.cons 13 rfl | apply SubR.cons 14 rfl | apply SubR.cons 15 rfl)) s) ?_
    ((first | refine GH.to 8 ?_ | refine GH.tos 8 ?_); (first | refine GH.to 9 ?_ | refine GH.tos 9 ?_))
    refine GH.fin (by kernel_rfl) ?_
    (repeat (first | refine GK.ro ?_ | (refine GK.box ?_; intro bl) | (refine GK.mkMap ?_; intro bm) | (refine GK.build0 tb ?_; intro bs)))
    have hsm := g2.small x.id
    have hph := g2.prh x.id
    refine GL.cons ?_; refine GO.callA (fun hF' hle hH => proposal_link (id := x.id) g2 (by omega)) (by first | exact Wt.none | exact Wt.some rfl rfl (by first | exact rfl | decide +kernel)) (by kernel_rfl) rfl rfl (by repeat (first | exact SubR.nil | apply SubR.cons 0 rfl | apply SubR.cons 1 rfl | apply SubR.cons 2 rfl | apply SubR.cons 3 rfl | apply SubR.cons 4 rfl | apply SubR.cons 5 rfl | apply SubR.cons 6 rfl | apply SubR.cons 7 rfl | apply SubR.cons 8 rfl | apply SubR.cons 9 rfl | apply SubR.cons 10 rfl | apply SubR.cons 11 rfl | apply SubR.cons 12 rfl | apply SubR.cons 13 rfl | apply SubR.cons 14 rfl | apply SubR.cons 15 rfl)) ?_
    rintro v Γ' ⟨y, rfl, rfl⟩
    (repeat (first | refine GK.ro ?_ | (refine GK.box ?_; intro bl) | (refine GK.mkMap ?_; intro bm) | (refine GK.build0 tb ?_; intro bs)))
    refine GL.cons ?_; refine GO.alloc (by first | exact Wt.none | exact Wt.some rfl rfl (by first | exact rfl | decide +kernel)) (by exact rfl) ?_
    intro bp
    (repeat (first | refine GK.ro ?_ | (refine GK.box ?_; intro bl) | (refine GK.mkMap ?_; intro bm) | (refine GK.build0 tb ?_; intro bs)))
    refine GL.cons ?_; refine Gt.storeAny tb 0 (by first | exact Wt.none | exact Wt.some rfl rfl (by first | exact rfl | decide +kernel)) rfl rfl rfl (propC_len hph) (propC_one rfl rfl rfl) rfl rfl ?_
    (repeat (first | refine GK.ro ?_ | (refine GK.box ?_; intro bl) | (refine GK.mkMap ?_; intro bm) | (refine GK.build0 tb ?_; intro bs)))
    refine GK.weak (fr' := [(3, .pointer (some ⟨b, 0, none⟩)), (4, .pointer (some ⟨br, 0, none⟩)), (6, .pointer (some ⟨ba, 0, none⟩)), (8, .pointer (some ⟨bp, 0, none⟩)), (9, .bool (thereM r2 x.id)), (21, .slice (some ⟨b1, o1, none⟩) l.length c), (22, .int .i64 (l.length : Int)), (23, .int .i64 (i : Int))])
      (Γ' := [board b L2, blk br 60 (0, 0) [lv2, dv2], blk ba 44 (0, 0) (actC x), blk bp 27 (0, 0) (propC (propR r2 x.id) (.slice y.1.1 (toldR r2 x.id).2.1.length y.1.2) (.slice y.2.1.1 (toldR r2 x.id).2.2.length y.2.1.2) (.slice y.2.2.1 (toldR r2 x.id).1.length y.2.2.2))] ++ rows3 (toldR r2 x.id).2.1 (toldR r2 x.id).2.2 (toldR r2 x.id).1 y ++ [poolOf H2]) (by repeat (first | exact trivial | refine ⟨rfl, ?_⟩)) (fun _ s => Sat.sub (by repeat (first | exact SubR.nil | apply SubR.cons 0 rfl | apply SubR.cons 1 rfl | apply SubR.cons 2 rfl | apply SubR.cons 3 rfl | apply SubR.cons 4 rfl | apply SubR.cons 5 rfl | apply SubR.cons 6 rfl | apply SubR.cons 7 rfl | apply SubR.cons 8 rfl | apply SubR.cons 9 rfl | apply SubR.cons 10 rfl | apply SubR.cons 11 rfl | apply SubR.cons 12 rfl | apply SubR.cons 13 rfl | apply SubR.cons 14 rfl | apply SubR.cons 15 rfl)) s) ?_
    have hpA : At (propC (propR r2 x.id) (.slice y.1.1 (toldR r2 x.id).2.1.length y.1.2) (.slice y.2.1.1 (toldR r2 x.id).2.2.length y.2.1.2) (.slice y.2.2.1 (toldR r2 x.id).1.length y.2.2.2)) 0 (propC (propR r2 x.id) (.slice y.1.1 (toldR r2 x.id).2.1.length y.1.2) (.slice y.2.1.1 (toldR r2 x.id).2.2.length y.2.1.2) (.slice y.2.2.1 (toldR r2 x.id).1.length y.2.2.2)) := At.all _
    have hpl := propC_len (y := .slice y.1.1 (toldR r2 x.id).2.1.length y.1.2) (n := .slice y.2.1.1 (toldR r2 x.id).2.2.length y.2.1.2) (t := .slice y.2.2.1 (toldR r2 x.id).1.length y.2.2.2) hph
    refine G.draw [] [blk br 60 (0, 0) [lv2, dv2], blk ba 44 (0, 0) (actC x), blk bp 27 (0, 0) (propC (propR r2 x.id) (.slice y.1.1 (toldR r2 x.id).2.1.length y.1.2) (.slice y.2.1.1 (toldR r2 x.id).2.2.length y.2.1.2) (.slice y.2.2.1 (toldR r2 x.id).1.length y.2.2.2))] (by kernel_rfl) ?_
    ((first | refine GH.to 0 ?_ | refine GH.tos 0 ?_); (first | refine GH.to 1 ?_ | refine GH.tos 1 ?_); (first | refine GH.to 2 ?_ | refine GH.tos 2 ?_); (first | refine GH.to 3 ?_ | refine GH.tos 3 ?_))
    refine GH.step 4 rfl (by kernel_rfl) ?_
    refine GO.callA (fun hF' hle hH => there_ok (n := x.id) hat2) (by first | exact Wt.none | exact Wt.some rfl rfl (by first | exact rfl | decide +kernel)) (by kernel_rfl) rfl rfl (by repeat (first | exact SubR.nil | apply SubR.cons 0 rfl | apply SubR.cons 1 rfl | apply SubR.cons 2 rfl | apply SubR.cons 3 rfl | apply SubR.cons 4 rfl | apply SubR.cons 5 rfl | apply SubR.cons 6 rfl | apply SubR.cons 7 rfl | apply SubR.cons 8 rfl | apply SubR.cons 9 rfl | apply SubR.cons 10 rfl | apply SubR.cons 11 rfl | apply SubR.cons 12 rfl | apply SubR.cons 13 rfl | apply SubR.cons 14 rfl | apply SubR.cons 15 rfl)) ?_
    rintro v Γ' ⟨rfl, rfl⟩
    refine GH.keep (fun _ s => Sat.sub (by repeat (first | exact SubR.nil | apply SubR.cons 0 rfl | apply SubR.cons 1 rfl | apply SubR.cons 2 rfl | apply SubR.cons 3 rfl | apply SubR.cons 4 rfl | apply SubR.cons 5 rfl | apply SubR.cons 6 rfl | apply SubR.cons 7 rfl | apply SubR.cons 8 rfl | apply SubR.cons 9 rfl | apply SubR.cons 10 rfl | apply SubR.cons 11 rfl | apply SubR.cons 12 rfl | apply SubR.cons 13 rfl | apply SubR.cons 14 rfl | apply SubR.cons 15 rfl)) s) ?_
    ((first | refine GH.to 5 ?_ | refine GH.tos 5 ?_))
    rw [show (!(thereM r2 x.id == thereM r2 x.id)) = false from by simp]
    ((first | refine GH.to 6 ?_ | refine GH.tos 6 ?_); (first | refine GH.to 7 ?_ | refine GH.tos 7 ?_); (first | refine GH.to 8 ?_ | refine GH.tos 8 ?_); (first | refine GH.to 9 ?_ | refine GH.tos 9 ?_); (first | refine GH.to 10 ?_ | refine GH.tos 10 ?_))
    refine GH.step 11 rfl (by kernel_rfl) ?_
    refine GO.callA (fun hF' hle hH => rproposal_ok (n := x.id) hat2) (by first | exact Wt.none | exact Wt.some rfl rfl (by first | exact rfl | decide +kernel)) (by kernel_rfl) rfl rfl (by repeat (first | exact SubR.nil | apply SubR.cons 0 rfl | apply SubR.cons 1 rfl | apply SubR.cons 2 rfl | apply SubR.cons 3 rfl | apply SubR.cons 4 rfl | apply SubR.cons 5 rfl | apply SubR.cons 6 rfl | apply SubR.cons 7 rfl | apply SubR.cons 8 rfl | apply SubR.cons 9 rfl | apply SubR.cons 10 rfl | apply SubR.cons 11 rfl | apply SubR.cons 12 rfl | apply SubR.cons 13 rfl | apply SubR.cons 14 rfl | apply SubR.cons 15 rfl)) ?_
    rintro v Γ' ⟨H3, y2, n2, t2, le3, rfl, q1, q2, q3, rfl⟩
    refine GH.keep (fun _ s => Sat.sub (by repeat (first | exact SubR.nil | apply SubR.cons 0 rfl | apply SubR.cons 1 rfl | apply SubR.cons 2 rfl | apply SubR.cons 3 rfl | apply SubR.cons 4 rfl | apply SubR.cons 5 rfl | apply SubR.cons 6 rfl | apply SubR.cons 7 rfl | apply SubR.cons 8 rfl | apply SubR.cons 9 rfl | apply SubR.cons 10 rfl | apply SubR.cons 11 rfl | apply SubR.cons 12 rfl | apply SubR.cons 13 rfl | apply SubR.cons 14 rfl | apply SubR.cons 15 rfl)) s) ?_
    have hat3 := hat2.mono le3
    refine GH.step 12 rfl (by kernel_rfl) ?_
    refine GO.callA (fun hF' hle hH => same_link (x := y) hph (by omega) (by omega) (by omega) q1 q2 q3) (by first | exact Wt.none | exact Wt.some rfl rfl (by first | exact rfl | decide +kernel)) (by kernel_rfl) rfl rfl (by repeat (first | exact SubR.nil | apply SubR.cons 0 rfl | apply SubR.cons 1 rfl | apply SubR.cons 2 rfl | apply SubR.cons 3 rfl | apply SubR.cons 4 rfl | apply SubR.cons 5 rfl | apply SubR.cons 6 rfl | apply SubR.cons 7 rfl | apply SubR.cons 8 rfl | apply SubR.cons 9 rfl | apply SubR.cons 10 rfl | apply SubR.cons 11 rfl | apply SubR.cons 12 rfl | apply SubR.cons 13 rfl | apply SubR.cons 14 rfl | apply SubR.cons 15 rfl)) ?_
    rintro v Γ' ⟨rfl, rfl⟩
    refine GH.keep (fun _ s => Sat.sub (by repeat (first | exact SubR.nil | apply SubR.cons 0 rfl | apply SubR.cons 1 rfl | apply SubR.cons 2 rfl | apply SubR.cons 3 rfl | apply SubR.cons 4 rfl | apply SubR.cons 5 rfl | apply SubR.cons 6 rfl | apply SubR.cons 7 rfl | apply SubR.cons 8 rfl | apply SubR.cons 9 rfl | apply SubR.cons 10 rfl | apply SubR.cons 11 rfl | apply SubR.cons 12 rfl | apply SubR.cons 13 rfl | apply SubR.cons 14 rfl | apply SubR.cons 15 rfl)) s) ?_
    ((first | refine GH.to 13 ?_ | refine GH.tos 13 ?_); (first | refine GH.to 14 ?_ | refine GH.tos 14 ?_))
    refine GH.fin (by kernel_rfl) ?_
    (repeat (first | refine GK.ro ?_ | (refine GK.box ?_; intro bl) | (refine GK.mkMap ?_; intro bm) | (refine GK.build0 tb ?_; intro bs)))
    obtain ⟨⟨yp, yc⟩, ⟨np, nc⟩, tp, tc⟩ := y
    refine GK.weak (fr' := [(3, .pointer (some ⟨b, 0, none⟩)), (4, .pointer (some ⟨br, 0, none⟩)), (8, .pointer (some ⟨bp, 0, none⟩)), (21, .slice (some ⟨b1, o1, none⟩) l.length c), (22, .int .i64 (l.length : Int)), (23, .int .i64 (i : Int)), (66, .pointer (some ⟨bp, 0 + 36, none⟩))])
      (Γ' := [board b L2, blk br 60 (0, 0) [lv2, dv2], blk bp 27 (0, 0) (propC (propR r2 x.id) (.slice yp (toldR r2 x.id).2.1.length yc) (.slice np (toldR r2 x.id).2.2.length nc) (.slice tp (toldR r2 x.id).1.length tc)),
        row (.slice yp (toldR r2 x.id).2.1.length yc) 9 1 (toldR r2 x.id).2.1.length (strs (toldR r2 x.id).2.1), row (.slice tp (toldR r2 x.id).1.length tc) 67 2 (toldR r2 x.id).1.length (prs (toldR r2 x.id).1), poolOf H3]) (by repeat (first | exact trivial | refine ⟨rfl, ?_⟩)) (fun _ s => Sat.sub (by repeat (first | exact SubR.nil | apply SubR.cons 0 rfl | apply SubR.cons 1 rfl | apply SubR.cons 2 rfl | apply SubR.cons 3 rfl | apply SubR.cons 4 rfl | apply SubR.cons 5 rfl | apply SubR.cons 6 rfl | apply SubR.cons 7 rfl | apply SubR.cons 8 rfl | apply SubR.cons 9 rfl | apply SubR.cons 10 rfl | apply SubR.cons 11 rfl | apply SubR.cons 12 rfl | apply SubR.cons 13 rfl | apply SubR.cons 14 rfl | apply SubR.cons 15 rfl)) s) ?_
    have q4 : (strs (toldR r2 x.id).2.1).length = (toldR r2 x.id).2.1.length * 1 := by rw [strs_len]; omega
    have q5 : (prs (toldR r2 x.id).1).length = (toldR r2 x.id).1.length * 2 := prs_len _
    generalize strs (toldR r2 x.id).2.1 = cy at q4 ⊢
    generalize prs (toldR r2 x.id).1 = ct at q5 ⊢
    generalize propR r2 x.id = pr at hph ⊢
    generalize (toldR r2 x.id).2.1.length = ny at q4 hsm ⊢
    generalize (toldR r2 x.id).2.2.length = nn at hsm ⊢
    generalize (toldR r2 x.id).1.length = nt at q5 hsm ⊢
    have k36 : (propC pr (.slice yp ny yc) (.slice np nn nc) (.slice tp nt tc))[0 + 36]? = some (.slice yp ny yc) := propC_y hph
    have k38 : (propC pr (.slice yp ny yc) (.slice np nn nc) (.slice tp nt tc))[0 + 38]? = some (.slice tp nt tc) := propC_t hph
    (repeat (first | refine GK.ro ?_ | (refine GK.box ?_; intro bl) | (refine GK.mkMap ?_; intro bm) | (refine GK.build0 tb ?_; intro bs)))
    refine GK.weak (fr' := [(3, .pointer (some ⟨b, 0, none⟩)), (4, .pointer (some ⟨br, 0, none⟩)), (8, .pointer (some ⟨bp, 0, none⟩)), (21, .slice (some ⟨b1, o1, none⟩) l.length c), (22, .int .i64 (l.length : Int)), (23, .int .i64 (i : Int)), (68, .int .i64 (ny : Int)), (69, .int .i64 ((0 : Nat) : Int))])
      (Γ' := [row (.slice yp ny yc) 9 1 ny cy, row (.slice tp nt tc) 67 2 nt ct, board b L2, blk br 60 (0, 0) [lv2, dv2], blk bp 27 (0, 0) (propC pr (.slice yp ny yc) (.slice np nn nc) (.slice tp nt tc)), poolOf H3]) (by repeat (first | exact trivial | refine ⟨rfl, ?_⟩)) (fun _ s => Sat.sub (by repeat (first | exact SubR.nil | apply SubR.cons 0 rfl | apply SubR.cons 1 rfl | apply SubR.cons 2 rfl | apply SubR.cons 3 rfl | apply SubR.cons 4 rfl | apply SubR.cons 5 rfl | apply SubR.cons 6 rfl | apply SubR.cons 7 rfl | apply SubR.cons 8 rfl | apply SubR.cons 9 rfl | apply SubR.cons 10 rfl | apply SubR.cons 11 rfl | apply SubR.cons 12 rfl | apply SubR.cons 13 rfl | apply SubR.cons 14 rfl | apply SubR.cons 15 rfl)) s)
      (G.loopN (X := Nat × List Value) (fun (j, _) => ny - j) (fun (j, _) => [(3, .pointer (some ⟨b, 0, none⟩)), (4, .pointer (some ⟨br, 0, none⟩)), (8, .pointer (some ⟨bp, 0, none⟩)), (21, .slice (some ⟨b1, o1, none⟩) l.length c), (22, .int .i64 (l.length : Int)), (23, .int .i64 (i : Int)), (68, .int .i64 (ny : Int)), (69, .int .i64 (j : Int))])
      (fun (_, xs) => [row (.slice yp ny yc) 9 1 ny xs, row (.slice tp nt tc) 67 2 nt ct, board b L2, blk br 60 (0, 0) [lv2, dv2], blk bp 27 (0, 0) (propC pr (.slice yp ny yc) (.slice np nn nc) (.slice tp nt tc)), poolOf H3])
      (fun (_, xs) => xs.length = ny * 1) (fun z hz m hm => ?_) (0, cy) q4)
    obtain ⟨j, xs⟩ := z
    dsimp only at hz hm ⊢
    (repeat (first | refine GK.ro ?_ | (refine GK.box ?_; intro bl) | (refine GK.mkMap ?_; intro bm) | (refine GK.build0 tb ?_; intro bs)))
    (first | refine G.condP rfl (fun hb => ?_) (fun hb => ?_) | refine G.condN rfl (fun hb => ?_) (fun hb => ?_) | refine G.cond rfl (fun hb => ?_) (fun hb => ?_))
    · refine GK.rowPtr 0 rfl (by omega) fun b3 hp => ?_
      subst hp
      (repeat (first | refine GK.ro ?_ | (refine GK.box ?_; intro bl) | (refine GK.mkMap ?_; intro bm) | (refine GK.build0 tb ?_; intro bs)))
      refine GL.cons ?_; refine Gt.storeW tb 0 (by first | exact Wt.none | exact Wt.some rfl rfl (by first | exact rfl | decide +kernel)) rfl rfl rfl rfl rfl (by omega) ?_
      (repeat (first | refine GK.ro ?_ | (refine GK.box ?_; intro bl) | (refine GK.mkMap ?_; intro bm) | (refine GK.build0 tb ?_; intro bs)))
      (refine GQ.againN ((j + 1, xs.set (0 + (j : Int).toNat * 1) (str [115, 112, 111, 105, 108, 116]))) ?_ ?_ ?_ ?_; rotate_left; (first | omega | (dsimp only; omega)); exact (by repeat (first | exact trivial | refine ⟨rfl, ?_⟩)); exact (fun _ s => Sat.sub (by repeat (first | exact SubR.nil | apply SubR.cons 0 rfl | apply SubR.cons 1 rfl | apply SubR.cons 2 rfl | apply SubR.cons 3 rfl | apply SubR.cons 4 rfl | apply SubR.cons 5 rfl | apply SubR.cons 6 rfl | apply SubR.cons 7 rfl | apply SubR.cons 8 rfl | apply SubR.cons 9 rfl | apply SubR.cons 10 rfl | apply SubR.cons 11 rfl | apply SubR.cons 12 rfl | apply SubR.cons 13 rfl | apply SubR.cons 14 rfl | apply SubR.cons 15 rfl)) s))
      rw [List.length_set]; exact hz
    (repeat (first | refine GK.ro ?_ | (refine GK.box ?_; intro bl) | (refine GK.mkMap ?_; intro bm) | (refine GK.build0 tb ?_; intro bs)))
    refine GK.weak (fr' := [(3, .pointer (some ⟨b, 0, none⟩)), (4, .pointer (some ⟨br, 0, none⟩)), (8, .pointer (some ⟨bp, 0, none⟩)), (21, .slice (some ⟨b1, o1, none⟩) l.length c), (22, .int .i64 (l.length : Int)), (23, .int .i64 (i : Int)), (79, .int .i64 (nt : Int)), (80, .int .i64 ((0 : Nat) : Int))])
      (Γ' := [row (.slice tp nt tc) 67 2 nt ct, board b L2, blk br 60 (0, 0) [lv2, dv2], blk bp 27 (0, 0) (propC pr (.slice yp ny yc) (.slice np nn nc) (.slice tp nt tc)), poolOf H3]) (by repeat (first | exact trivial | refine ⟨rfl, ?_⟩)) (fun _ s => Sat.sub (by repeat (first | exact SubR.nil | apply SubR.cons 0 rfl | apply SubR.cons 1 rfl | apply SubR.cons 2 rfl | apply SubR.cons 3 rfl | apply SubR.cons 4 rfl | apply SubR.cons 5 rfl | apply SubR.cons 6 rfl | apply SubR.cons 7 rfl | apply SubR.cons 8 rfl | apply SubR.cons 9 rfl | apply SubR.cons 10 rfl | apply SubR.cons 11 rfl | apply SubR.cons 12 rfl | apply SubR.cons 13 rfl | apply SubR.cons 14 rfl | apply SubR.cons 15 rfl)) s)
      (G.loopN (X := Nat × List Value) (fun (j, _) => nt - j) (fun (j, _) => [(3, .pointer (some ⟨b, 0, none⟩)), (4, .pointer (some ⟨br, 0, none⟩)), (8, .pointer (some ⟨bp, 0, none⟩)), (21, .slice (some ⟨b1, o1, none⟩) l.length c), (22, .int .i64 (l.length : Int)), (23, .int .i64 (i : Int)), (79, .int .i64 (nt : Int)), (80, .int .i64 (j : Int))])
      (fun (_, xs) => [row (.slice tp nt tc) 67 2 nt xs, board b L2, blk br 60 (0, 0) [lv2, dv2], blk bp 27 (0, 0) (propC pr (.slice yp ny yc) (.slice np nn nc) (.slice tp nt tc)), poolOf H3])
      (fun (_, xs) => xs.length = nt * 2) (fun z hz m hm => ?_) (0, ct) q5)
    obtain ⟨j, xs⟩ := z
    dsimp only at hz hm ⊢
    (repeat (first | refine GK.ro ?_ | (refine GK.box ?_; intro bl) | (refine GK.mkMap ?_; intro bm) | (refine GK.build0 tb ?_; intro bs)))
    (first | refine G.condP rfl (fun hb => ?_) (fun hb => ?_) | refine G.condN rfl (fun hb => ?_) (fun hb => ?_) | refine G.cond rfl (fun hb => ?_) (fun hb => ?_))
    · refine GK.rowPtr 0 rfl (by omega) fun b3 hp => ?_
      subst hp
      (repeat (first | refine GK.ro ?_ | (refine GK.box ?_; intro bl) | (refine GK.mkMap ?_; intro bm) | (refine GK.build0 tb ?_; intro bs)))
      refine GL.cons ?_; refine Gt.storeW tb 0 (by first | exact Wt.none | exact Wt.some rfl rfl (by first | exact rfl | decide +kernel)) rfl rfl rfl rfl rfl (by omega) ?_
      (repeat (first | refine GK.ro ?_ | (refine GK.box ?_; intro bl) | (refine GK.mkMap ?_; intro bm) | (refine GK.build0 tb ?_; intro bs)))
      (refine GQ.againN ((j + 1, xs.set (0 + (j : Int).toNat * 2 + 1) (str [115, 112, 111, 105, 108, 116]))) ?_ ?_ ?_ ?_; rotate_left; (first | omega | (dsimp only; omega)); exact (by repeat (first | exact trivial | refine ⟨rfl, ?_⟩)); exact (fun _ s => Sat.sub (by repeat (first | exact SubR.nil | apply SubR.cons 0 rfl | apply SubR.cons 1 rfl | apply SubR.cons 2 rfl | apply SubR.cons 3 rfl | apply SubR.cons 4 rfl | apply SubR.cons 5 rfl | apply SubR.cons 6 rfl | apply SubR.cons 7 rfl | apply SubR.cons 8 rfl | apply SubR.cons 9 rfl | apply SubR.cons 10 rfl | apply SubR.cons 11 rfl | apply SubR.cons 12 rfl | apply SubR.cons 13 rfl | apply SubR.cons 14 rfl | apply SubR.cons 15 rfl)) s))
      rw [List.length_set]; exact hz
    (repeat (first | refine GK.ro ?_ | (refine GK.box ?_; intro bl) | (refine GK.mkMap ?_; intro bm) | (refine GK.build0 tb ?_; intro bs)))
    (refine GQ.againN ((i + 1, H3, lv2, dv2, L2, r2)) ?_ ?_ ?_ ?_; rotate_left; (first | omega | (dsimp only; omega)); exact (by repeat (first | exact trivial | refine ⟨rfl, ?_⟩)); exact (fun _ s => Sat.sub (by repeat (first | exact SubR.nil | apply SubR.cons 0 rfl | apply SubR.cons 1 rfl | apply SubR.cons 2 rfl | apply SubR.cons 3 rfl | apply SubR.cons 4 rfl | apply SubR.cons 5 rfl | apply SubR.cons 6 rfl | apply SubR.cons 7 rfl | apply SubR.cons 8 rfl | apply SubR.cons 9 rfl | apply SubR.cons 10 rfl | apply SubR.cons 11 rfl | apply SubR.cons 12 rfl | apply SubR.cons 13 rfl | apply SubR.cons 14 rfl | apply SubR.cons 15 rfl)) s))
    exact ⟨by omega, (le1.trans le2).trans le3, hat3, g2⟩
  · have hil : i = l.length := by omega
    subst hil
    obtain ⟨lp, lc, rfl, _, _, _⟩ := rs.out hat.l
    (repeat (first | refine GK.ro ?_ | (refine GK.box ?_; intro bl) | (refine GK.mkMap ?_; intro bm) | (refine GK.build0 tb ?_; intro bs)))
    refine GK.weak (fr' := [(3, .pointer (some ⟨b, 0, none⟩)), (4, .pointer (some ⟨br, 0, none⟩)), (93, .int .i64 ((r.L.length : Int) + 2)), (94, .int .i64 ((0 : Nat) : Int))])
      (Γ' := [board b L, blk br 60 (0, 0) [.slice lp r.L.length lc, dv], poolOf H1]) (by repeat (first | exact trivial | refine ⟨rfl, ?_⟩)) (fun _ s => Sat.sub (by repeat (first | exact SubR.nil | apply SubR.cons 0 rfl | apply SubR.cons 1 rfl | apply SubR.cons 2 rfl | apply SubR.cons 3 rfl | apply SubR.cons 4 rfl | apply SubR.cons 5 rfl | apply SubR.cons 6 rfl | apply SubR.cons 7 rfl | apply SubR.cons 8 rfl | apply SubR.cons 9 rfl | apply SubR.cons 10 rfl | apply SubR.cons 11 rfl | apply SubR.cons 12 rfl | apply SubR.cons 13 rfl | apply SubR.cons 14 rfl | apply SubR.cons 15 rfl)) s)
      (G.loopN (X := Nat × Hp) (fun (j, _) => r.L.length + 2 - j) (fun (j, _) => [(3, .pointer (some ⟨b, 0, none⟩)), (4, .pointer (some ⟨br, 0, none⟩)), (93, .int .i64 ((r.L.length : Int) + 2)), (94, .int .i64 (j : Int))])
      (fun (_, H') => [board b L, blk br 60 (0, 0) [.slice lp r.L.length lc, dv], poolOf H'])
      (fun (_, H') => le H1 H') (fun z hz m hm => ?_) (0, H1) (le.refl _))
    obtain ⟨j, H2⟩ := z
    dsimp only at hz hm ⊢
    have hat2 := hat.mono hz
    (repeat (first | refine GK.ro ?_ | (refine GK.box ?_; intro bl) | (refine GK.mkMap ?_; intro bm) | (refine GK.build0 tb ?_; intro bs)))
    (first | refine G.condP rfl (fun hb => ?_) (fun hb => ?_) | refine G.condN rfl (fun hb => ?_) (fun hb => ?_) | refine G.cond rfl (fun hb => ?_) (fun hb => ?_))
    · have hsm := g.small (j : Int)
      have hph := g.prh (j : Int)
      have hlt : j < r.L.length + 2 := by omega
      clear hb
      (repeat (first | refine GK.ro ?_ | (refine GK.box ?_; intro bl) | (refine GK.mkMap ?_; intro bm) | (refine GK.build0 tb ?_; intro bs)))
      refine GL.cons ?_; refine GO.callA (fun hF' hle hH => proposal_link (id := (j : Int)) g (by omega)) (by first | exact Wt.none | exact Wt.some rfl rfl (by first | exact rfl | decide +kernel)) (by kernel_rfl) rfl rfl (by repeat (first | exact SubR.nil | apply SubR.cons 0 rfl | apply SubR.cons 1 rfl | apply SubR.cons 2 rfl | apply SubR.cons 3 rfl | apply SubR.cons 4 rfl | apply SubR.cons 5 rfl | apply SubR.cons 6 rfl | apply SubR.cons 7 rfl | apply SubR.cons 8 rfl | apply SubR.cons 9 rfl | apply SubR.cons 10 rfl | apply SubR.cons 11 rfl | apply SubR.cons 12 rfl | apply SubR.cons 13 rfl | apply SubR.cons 14 rfl | apply SubR.cons 15 rfl)) ?_
      rintro v Γ' ⟨y, rfl, rfl⟩
      (repeat (first | refine GK.ro ?_ | (refine GK.box ?_; intro bl) | (refine GK.mkMap ?_; intro bm) | (refine GK.build0 tb ?_; intro bs)))
      refine GL.cons ?_; refine GO.alloc (by first | exact Wt.none | exact Wt.some rfl rfl (by first | exact rfl | decide +kernel)) (by exact rfl) ?_
      intro bp
      (repeat (first | refine GK.ro ?_ | (refine GK.box ?_; intro bl) | (refine GK.mkMap ?_; intro bm) | (refine GK.build0 tb ?_; intro bs)))
      refine GL.cons ?_; refine Gt.storeAny tb 0 (by first | exact Wt.none | exact Wt.some rfl rfl (by first | exact rfl | decide +kernel)) rfl rfl rfl (propC_len hph) (propC_one rfl rfl rfl) rfl rfl ?_
      (repeat (first | refine GK.ro ?_ | (refine GK.box ?_; intro bl) | (refine GK.mkMap ?_; intro bm) | (refine GK.build0 tb ?_; intro bs)))
      refine GK.weak (fr' := [(3, .pointer (some ⟨b, 0, none⟩)), (4, .pointer (some ⟨br, 0, none⟩)), (93, .int .i64 ((r.L.length : Int) + 2)), (12, .int .i64 (j : Int)), (94, .int .i64 (j : Int)), (13, .pointer (some ⟨bp, 0, none⟩)), (14, .bool (thereM r j))])
        (Γ' := [board b L, blk br 60 (0, 0) [.slice lp r.L.length lc, dv], blk bp 27 (0, 0) (propC (propR r (j : Int)) (.slice y.1.1 (toldR r (j : Int)).2.1.length y.1.2) (.slice y.2.1.1 (toldR r (j : Int)).2.2.length y.2.1.2) (.slice y.2.2.1 (toldR r (j : Int)).1.length y.2.2.2))] ++ rows3 (toldR r (j : Int)).2.1 (toldR r (j : Int)).2.2 (toldR r (j : Int)).1 y ++ [poolOf H2]) (by repeat (first | exact trivial | refine ⟨rfl, ?_⟩)) (fun _ s => Sat.sub (by repeat (first | exact SubR.nil | apply SubR.cons 0 rfl | apply SubR.cons 1 rfl | apply SubR.cons 2 rfl | apply SubR.cons 3 rfl | apply SubR.cons 4 rfl | apply SubR.cons 5 rfl | apply SubR.cons 6 rfl | apply SubR.cons 7 rfl | apply SubR.cons 8 rfl | apply SubR.cons 9 rfl | apply SubR.cons 10 rfl | apply SubR.cons 11 rfl | apply SubR.cons 12 rfl | apply SubR.cons 13 rfl | apply SubR.cons 14 rfl | apply SubR.cons 15 rfl)) s) ?_
      have hpA : At (propC (propR r (j : Int)) (.slice y.1.1 (toldR r (j : Int)).2.1.length y.1.2) (.slice y.2.1.1 (toldR r (j : Int)).2.2.length y.2.1.2) (.slice y.2.2.1 (toldR r (j : Int)).1.length y.2.2.2)) 0 (propC (propR r (j : Int)) (.slice y.1.1 (toldR r (j : Int)).2.1.length y.1.2) (.slice y.2.1.1 (toldR r (j : Int)).2.2.length y.2.1.2) (.slice y.2.2.1 (toldR r (j : Int)).1.length y.2.2.2)) := At.all _
      have hpl := propC_len (y := .slice y.1.1 (toldR r (j : Int)).2.1.length y.1.2) (n := .slice y.2.1.1 (toldR r (j : Int)).2.2.length y.2.1.2) (t := .slice y.2.2.1 (toldR r (j : Int)).1.length y.2.2.2) hph
      refine G.draw [] [blk br 60 (0, 0) [.slice lp r.L.length lc, dv], blk bp 27 (0, 0) (propC (propR r (j : Int)) (.slice y.1.1 (toldR r (j : Int)).2.1.length y.1.2) (.slice y.2.1.1 (toldR r (j : Int)).2.2.length y.2.1.2) (.slice y.2.2.1 (toldR r (j : Int)).1.length y.2.2.2))] (by kernel_rfl) ?_
      ((first | refine GH.to 0 ?_ | refine GH.tos 0 ?_); (first | refine GH.to 1 ?_ | refine GH.tos 1 ?_); (first | refine GH.to 2 ?_ | refine GH.tos 2 ?_))
      refine GH.step 3 rfl (by kernel_rfl) ?_
      refine GO.callA (fun hF' hle hH => there_ok (n := (j : Int)) hat2) (by first | exact Wt.none | exact Wt.some rfl rfl (by first | exact rfl | decide +kernel)) (by kernel_rfl) rfl rfl (by repeat (first | exact SubR.nil | apply SubR.cons 0 rfl | apply SubR.cons 1 rfl | apply SubR.cons 2 rfl | apply SubR.cons 3 rfl | apply SubR.cons 4 rfl | apply SubR.cons 5 rfl | apply SubR.cons 6 rfl | apply SubR.cons 7 rfl | apply SubR.cons 8 rfl | apply SubR.cons 9 rfl | apply SubR.cons 10 rfl | apply SubR.cons 11 rfl | apply SubR.cons 12 rfl | apply SubR.cons 13 rfl | apply SubR.cons 14 rfl | apply SubR.cons 15 rfl)) ?_
      rintro v Γ' ⟨rfl, rfl⟩
      refine GH.keep (fun _ s => Sat.sub (by repeat (first | exact SubR.nil | apply SubR.cons 0 rfl | apply SubR.cons 1 rfl | apply SubR.cons 2 rfl | apply SubR.cons 3 rfl | apply SubR.cons 4 rfl | apply SubR.cons 5 rfl | apply SubR.cons 6 rfl | apply SubR.cons 7 rfl | apply SubR.cons 8 rfl | apply SubR.cons 9 rfl | apply SubR.cons 10 rfl | apply SubR.cons 11 rfl | apply SubR.cons 12 rfl | apply SubR.cons 13 rfl | apply SubR.cons 14 rfl | apply SubR.cons 15 rfl)) s) ?_
      ((first | refine GH.to 4 ?_ | refine GH.tos 4 ?_))
      rw [show (!(thereM r (j : Int) == thereM r (j : Int))) = false from by simp]
      ((first | refine GH.to 5 ?_ | refine GH.tos 5 ?_); (first | refine GH.to 6 ?_ | refine GH.tos 6 ?_); (first | refine GH.to 7 ?_ | refine GH.tos 7 ?_); (first | refine GH.to 8 ?_ | refine GH.tos 8 ?_))
      refine GH.step 9 rfl (by kernel_rfl) ?_
      refine GO.callA (fun hF' hle hH => rproposal_ok (n := (j : Int)) hat2) (by first | exact Wt.none | exact Wt.some rfl rfl (by first | exact rfl | decide +kernel)) (by kernel_rfl) rfl rfl (by repeat (first | exact SubR.nil | apply SubR.cons 0 rfl | apply SubR.cons 1 rfl | apply SubR.cons 2 rfl | apply SubR.cons 3 rfl | apply SubR.cons 4 rfl | apply SubR.cons 5 rfl | apply SubR.cons 6 rfl | apply SubR.cons 7 rfl | apply SubR.cons 8 rfl | apply SubR.cons 9 rfl | apply SubR.cons 10 rfl | apply SubR.cons 11 rfl | apply SubR.cons 12 rfl | apply SubR.cons 13 rfl | apply SubR.cons 14 rfl | apply SubR.cons 15 rfl)) ?_
      rintro v Γ' ⟨H3, y2, n2, t2, le3, rfl, q1, q2, q3, rfl⟩
      refine GH.keep (fun _ s => Sat.sub (by repeat (first | exact SubR.nil | apply SubR.cons 0 rfl | apply SubR.cons 1 rfl | apply SubR.cons 2 rfl | apply SubR.cons 3 rfl | apply SubR.cons 4 rfl | apply SubR.cons 5 rfl | apply SubR.cons 6 rfl | apply SubR.cons 7 rfl | apply SubR.cons 8 rfl | apply SubR.cons 9 rfl | apply SubR.cons 10 rfl | apply SubR.cons 11 rfl | apply SubR.cons 12 rfl | apply SubR.cons 13 rfl | apply SubR.cons 14 rfl | apply SubR.cons 15 rfl)) s) ?_
      refine GH.step 10 rfl (by kernel_rfl) ?_
      refine GO.callA (fun hF' hle hH => same_link (x := y) hph (by omega) (by omega) (by omega) q1 q2 q3) (by first | exact Wt.none | exact Wt.some rfl rfl (by first | exact rfl | decide +kernel)) (by kernel_rfl) rfl rfl (by repeat (first | exact SubR.nil | apply SubR.cons 0 rfl | apply SubR.cons 1 rfl | apply SubR.cons 2 rfl | apply SubR.cons 3 rfl | apply SubR.cons 4 rfl | apply SubR.cons 5 rfl | apply SubR.cons 6 rfl | apply SubR.cons 7 rfl | apply SubR.cons 8 rfl | apply SubR.cons 9 rfl | apply SubR.cons 10 rfl | apply SubR.cons 11 rfl | apply SubR.cons 12 rfl | apply SubR.cons 13 rfl | apply SubR.cons 14 rfl | apply SubR.cons 15 rfl)) ?_
      rintro v Γ' ⟨rfl, rfl⟩
      refine GH.keep (fun _ s => Sat.sub (by repeat (first | exact SubR.nil | apply SubR.cons 0 rfl | apply SubR.cons 1 rfl | apply SubR.cons 2 rfl | apply SubR.cons 3 rfl | apply SubR.cons 4 rfl | apply SubR.cons 5 rfl | apply SubR.cons 6 rfl | apply SubR.cons 7 rfl | apply SubR.cons 8 rfl | apply SubR.cons 9 rfl | apply SubR.cons 10 rfl | apply SubR.cons 11 rfl | apply SubR.cons 12 rfl | apply SubR.cons 13 rfl | apply SubR.cons 14 rfl | apply SubR.cons 15 rfl)) s) ?_
      ((first | refine GH.to 11 ?_ | refine GH.tos 11 ?_); (first | refine GH.to 12 ?_ | refine GH.tos 12 ?_))
      refine GH.fin (by kernel_rfl) ?_
      (repeat (first | refine GK.ro ?_ | (refine GK.box ?_; intro bl) | (refine GK.mkMap ?_; intro bm) | (refine GK.build0 tb ?_; intro bs)))
      (refine GQ.againN ((j + 1, H3)) ?_ ?_ ?_ ?_; rotate_left; (first | omega | (dsimp only; omega)); exact (by repeat (first | exact trivial | refine ⟨rfl, ?_⟩)); exact (fun _ s => Sat.sub (by repeat (first | exact SubR.nil | apply SubR.cons 0 rfl | apply SubR.cons 1 rfl | apply SubR.cons 2 rfl | apply SubR.cons 3 rfl | apply SubR.cons 4 rfl | apply SubR.cons 5 rfl | apply SubR.cons 6 rfl | apply SubR.cons 7 rfl | apply SubR.cons 8 rfl | apply SubR.cons 9 rfl | apply SubR.cons 10 rfl | apply SubR.cons 11 rfl | apply SubR.cons 12 rfl | apply SubR.cons 13 rfl | apply SubR.cons 14 rfl | apply SubR.cons 15 rfl)) s))
      exact hz.trans le3
    · (repeat (first | refine GK.ro ?_ | (refine GK.box ?_; intro bl) | (refine GK.mkMap ?_; intro bm) | (refine GK.build0 tb ?_; intro bs)))
      refine GL.cons ?_; refine GO.callA (fun hF' hle hH => lives_ok) (by first | exact Wt.none | exact Wt.some rfl rfl (by first | exact rfl | decide +kernel)) (by kernel_rfl) rfl rfl (by repeat (first | exact SubR.nil | apply SubR.cons 0 rfl | apply SubR.cons 1 rfl | apply SubR.cons 2 rfl | apply SubR.cons 3 rfl | apply SubR.cons 4 rfl | apply SubR.cons 5 rfl | apply SubR.cons 6 rfl | apply SubR.cons 7 rfl | apply SubR.cons 8 rfl | apply SubR.cons 9 rfl | apply SubR.cons 10 rfl | apply SubR.cons 11 rfl | apply SubR.cons 12 rfl | apply SubR.cons 13 rfl | apply SubR.cons 14 rfl | apply SubR.cons 15 rfl)) ?_
      rintro v Γ' ⟨rfl, rfl⟩
      (repeat (first | refine GK.ro ?_ | (refine GK.box ?_; intro bl) | (refine GK.mkMap ?_; intro bm) | (refine GK.build0 tb ?_; intro bs)))
      exact GQ.fin1 rfl (Rv.tmp rfl) (fun _ s => Sat.sub (by repeat (first | exact SubR.nil | apply SubR.cons 0 rfl | apply SubR.cons 1 rfl | apply SubR.cons 2 rfl | apply SubR.cons 3 rfl | apply SubR.cons 4 rfl | apply SubR.cons 5 rfl | apply SubR.cons 6 rfl | apply SubR.cons 7 rfl | apply SubR.cons 8 rfl | apply SubR.cons 9 rfl | apply SubR.cons 10 rfl | apply SubR.cons 11 rfl | apply SubR.cons 12 rfl | apply SubR.cons 13 rfl | apply SubR.cons 14 rfl | apply SubR.cons 15 rfl)) s) ⟨rfl, H2, [], le1.trans hz, rfl⟩
theorem plays_law {W : World} {l : List Act1} {v : Value} (h : rs (mem W) v l.length 37 (acts l)) (hk : ∀ x ∈ l, x.Ok) (n1 : l.length ≤ 140737488355328) :
    FnOk Go.Proofs.Try.prog 7 [v] [poolOf (mem W)] emp (LawR W) := playsLaw_ok h hk n1
end Go.Re
