/- slices.Sorted of keys; rising. -/
import Derived.Test.YtnealcbmgflaaaaPeA
set_option linter.unusedSimpArgs false
set_option linter.unusedVariables false
namespace Go.Pe
open Go Go.Sl Go.Ls
set_option maxRecDepth 100000
theorem kpre_len {es : Es} {pre : List By} (h : kpre es pre) : pre.length ≤ es.length := by
  obtain ⟨r, h⟩ := h
  have := h.length_eq
  rw [List.length_append, keys_len] at this; omega
def acc (b : Nat) (l : List By) : HProp := exs (fun _ : Option Addr × Nat => True) fun x => [blk b 31 (0, 0) [.slice x.1 l.length x.2], row (.slice x.1 l.length x.2) 9 1 l.length (strs l)]
set_option maxRecDepth 100000
set_option maxHeartbeats 4000000
attribute [local irreducible] GK GO Yl Wt Ef Hd GH KH wpListIn Code.wpIn toBody roundQ poolOf rs RS YieldOk IterOk VOk row star exs mp lp Sat pt FnOk Rd bodyPost bodyPostM Lv Ret Exit.then Exit.inBlock Exit.noGoto Int.decLt Int.decLe Int.instDecidableEq
attribute [local irreducible] u8s strs likeTo rng rngAt keys
set_option pp.deepTerms true
set_option pp.maxSteps 1000000
variable {hF H : Hp}
theorem appendSeq_ok {es : Es} {f : FuncId} {first cap : Array Value} {A B : HProp} (hit : ∀ hF, IterG Go.Proofs.Try.prog f first cap (fun x : By => [str x]) (kpre es) (kfin es) [A, B] (fun Γ => Γ = [A, B]) hF) (hc : callable Go.Proofs.Try.prog f = true) (hl : es.length ≤ 1099511627776) :
    FnOk Go.Proofs.Try.prog 77 [.slice none 0 0, .func (.func f) first cap] [A, B] hF (fun v Γ => ∃ l p c, v = .slice p l.length c ∧ l.Perm (keys es) ∧ Γ = row (.slice p l.length c) 9 1 l.length (strs l) :: [A, B]) := by
  refine FnOk.introM 13 Go.Proofs.Try.func77 rfl rfl fun w0 => ?_
  (repeat (first | refine GK.ro ?_ | (refine GK.box ?_; intro bl) | (refine GK.mkMap ?_; intro bm) | (refine GK.build0 tb ?_; intro bs)))
  refine G.forRangeG (fun pre => [acc bl pre]) (fun _ _ _ => False) (hit _) rfl hc (fun _ => rfl) (fun hF w s => ?_) (fun l1 pre x hF1 w1 hpx hle1 => ?_) ?_ ?_
  · exact Sl.Sat.shut (none, 0) trivial (Sl.Sat.perm (.swap _ _ _) (by rw [strs_nil]; exact Sl.Sat.row_nil s))
  · have hpl := kpre_len hpx
    rw [List.length_append, List.length_singleton] at hpl
    refine GK.opens 0 rfl fun y _ => ?_
    obtain ⟨p, c⟩ := y
    (repeat (first | refine GK.ro ?_ | (refine GK.box ?_; intro bl) | (refine GK.mkMap ?_; intro bm) | (refine GK.build0 tb ?_; intro bs)))
    refine GQ.to_body fun hF2 w2 hle2 => ?_
    (repeat (first | refine GK.ro ?_ | (refine GK.box ?_; intro bl) | (refine GK.mkMap ?_; intro bm) | (refine GK.build0 tb ?_; intro bs)))
    refine GL.cons ?_; refine Gt.buildLit tb (sz := 0) (n := 0) Wt.o rfl rfl (by kernel_rfl) rfl rfl rfl rfl rfl rfl ?_; intro bx; refine GL.cons ?_; (first | refine Gt.append tb 1 Wt.o rfl (.inl ⟨_, rfl⟩) rfl rfl rfl rfl rfl (Src.slice (m := 1) (Rd.blk 0 rfl) (At.all _) rfl (one_of_all rfl)) (by omega) (by omega) ?_ | refine Gt.append tb 2 Wt.o rfl (.inl ⟨_, rfl⟩) rfl rfl rfl rfl rfl (Src.slice (m := 1) (Rd.blk 0 rfl) (At.all _) rfl (one_of_all rfl)) (by omega) (by omega) ?_ | refine Gt.append tb 3 Wt.o rfl (.inl ⟨_, rfl⟩) rfl rfl rfl rfl rfl (Src.slice (m := 1) (Rd.blk 0 rfl) (At.all _) rfl (one_of_all rfl)) (by omega) (by omega) ?_ | refine Gt.append tb 4 Wt.o rfl (.inl ⟨_, rfl⟩) rfl rfl rfl rfl rfl (Src.slice (m := 1) (Rd.blk 0 rfl) (At.all _) rfl (one_of_all rfl)) (by omega) (by omega) ?_ | refine Gt.append tb 5 Wt.o rfl (.inl ⟨_, rfl⟩) rfl rfl rfl rfl rfl (Src.slice (m := 1) (Rd.blk 0 rfl) (At.all _) rfl (one_of_all rfl)) (by omega) (by omega) ?_ | refine Gt.append tb 6 Wt.o rfl (.inl ⟨_, rfl⟩) rfl rfl rfl rfl rfl (Src.slice (m := 1) (Rd.blk 0 rfl) (At.all _) rfl (one_of_all rfl)) (by omega) (by omega) ?_ | refine Gt.append tb 7 Wt.o rfl (.inl ⟨_, rfl⟩) rfl rfl rfl rfl rfl (Src.slice (m := 1) (Rd.blk 0 rfl) (At.all _) rfl (one_of_all rfl)) (by omega) (by omega) ?_ | refine Gt.append tb 8 Wt.o rfl (.inl ⟨_, rfl⟩) rfl rfl rfl rfl rfl (Src.slice (m := 1) (Rd.blk 0 rfl) (At.all _) rfl (one_of_all rfl)) (by omega) (by omega) ?_ | refine Gt.append tb 9 Wt.o rfl (.inl ⟨_, rfl⟩) rfl rfl rfl rfl rfl (Src.slice (m := 1) (Rd.blk 0 rfl) (At.all _) rfl (one_of_all rfl)) (by omega) (by omega) ?_ | refine Gt.append tb 10 Wt.o rfl (.inl ⟨_, rfl⟩) rfl rfl rfl rfl rfl (Src.slice (m := 1) (Rd.blk 0 rfl) (At.all _) rfl (one_of_all rfl)) (by omega) (by omega) ?_ | refine Gt.append tb 11 Wt.o rfl (.inl ⟨_, rfl⟩) rfl rfl rfl rfl rfl (Src.slice (m := 1) (Rd.blk 0 rfl) (At.all _) rfl (one_of_all rfl)) (by omega) (by omega) ?_ | refine Gt.append tb 12 Wt.o rfl (.inl ⟨_, rfl⟩) rfl rfl rfl rfl rfl (Src.slice (m := 1) (Rd.blk 0 rfl) (At.all _) rfl (one_of_all rfl)) (by omega) (by omega) ?_)
    intro p2 c2
    rw [show List.flatMap (fun v : Value => v.cells.toList) [str x] = strs [x] from by rw [strs_one]; rfl, ← strs_append, show pre.length + 1 = (pre ++ [x]).length by simp]
    (repeat (first | refine GK.ro ?_ | (refine GK.box ?_; intro bl) | (refine GK.mkMap ?_; intro bm) | (refine GK.build0 tb ?_; intro bs)))
    refine GK.heap (fun w s => Sl.Sat.shut (φ := fun _ : Option Addr × Nat => True) (Λ := fun x1 => [blk bl 31 (0, 0) [.slice x1.1 (pre ++ [x]).length x1.2], row (.slice x1.1 (pre ++ [x]).length x1.2) 9 1 (pre ++ [x]).length (strs (pre ++ [x]))]) (p2, c2) trivial (Sl.Sat.sub SubR.o s)) ?_
    exact GQ.round_on rfl
  · rintro D Γc' all rfl hfin
    refine GK.opens 1 rfl fun y _ => ?_
    obtain ⟨p, c⟩ := y
    (repeat (first | refine GK.ro ?_ | (refine GK.box ?_; intro bl) | (refine GK.mkMap ?_; intro bm) | (refine GK.build0 tb ?_; intro bs)))
    refine GQ.leave ?_
    refine GK.heap (Γ' := dset [D] :: row (.slice p all.length c) 9 1 all.length (strs all) :: [A, B]) (fun w s => ?_) ?_
    · exact Sat.dset_push (Sl.Sat.perm (.swap _ _ _) (Sat.dset_nil (Sl.Sat.perm (.swap _ _ _) (Sl.Sat.drop s))))
    exact GK.popAll (Ds := [D]) (GK.fin1 rfl (Rv.tmp rfl) (fun w s => s) ⟨all, p, c, rfl, hfin, rfl⟩)
  · intro D Γc' c pre Γ2 _ _ h; exact h.elim
theorem collect_ok {es : Es} {f : FuncId} {first cap : Array Value} {A B : HProp} (hit : ∀ hF, IterG Go.Proofs.Try.prog f first cap (fun x : By => [str x]) (kpre es) (kfin es) [A, B] (fun Γ => Γ = [A, B]) hF) (hc : callable Go.Proofs.Try.prog f = true) (hl : es.length ≤ 1099511627776) :
    FnOk Go.Proofs.Try.prog 66 [.func (.func f) first cap] [A, B] hF (fun v Γ => ∃ l p c, v = .slice p l.length c ∧ l.Perm (keys es) ∧ Γ = row (.slice p l.length c) 9 1 l.length (strs l) :: [A, B]) := by
  refine FnOk.intro 5 Go.Proofs.Try.func66 rfl rfl fun w0 => ?_
  (repeat (first | refine GK.ro ?_ | (refine GK.box ?_; intro bl) | (refine GK.mkMap ?_; intro bm) | (refine GK.build0 tb ?_; intro bs)))
  refine GL.cons ?_; refine GO.callA (fun hF' hle hH => appendSeq_ok hit hc hl) Wt.o (by kernel_rfl) rfl rfl SubR.o ?_
  rintro v Γ' ⟨l, p, c, rfl, hp, rfl⟩
  (repeat (first | refine GK.ro ?_ | (refine GK.box ?_; intro bl) | (refine GK.mkMap ?_; intro bm) | (refine GK.build0 tb ?_; intro bs)))
  exact GQ.fin1 rfl (Rv.tmp rfl) (fun w s => s) ⟨l, p, c, rfl, hp, rfl⟩
theorem sorted_ok {es : Es} {f : FuncId} {first cap : Array Value} {A B : HProp} (hit : ∀ hF, IterG Go.Proofs.Try.prog f first cap (fun x : By => [str x]) (kpre es) (kfin es) [A, B] (fun Γ => Γ = [A, B]) hF) (hc : callable Go.Proofs.Try.prog f = true) (hl : es.length ≤ 1099511627776) :
    FnOk Go.Proofs.Try.prog 53 [.func (.func f) first cap] [A, B] hF (fun v Γ => ∃ p c, v = .slice p (sortS (keys es)).length c ∧ Γ = row (.slice p (sortS (keys es)).length c) 9 1 (sortS (keys es)).length (strs (sortS (keys es))) :: [A, B]) := by
  refine FnOk.intro 9 Go.Proofs.Try.func53 rfl rfl fun w0 => ?_
  (repeat (first | refine GK.ro ?_ | (refine GK.box ?_; intro bl) | (refine GK.mkMap ?_; intro bm) | (refine GK.build0 tb ?_; intro bs)))
  refine GL.cons ?_; refine GO.callA (fun hF' hle hH => collect_ok hit hc hl) Wt.o (by kernel_rfl) rfl rfl SubR.o ?_
  rintro v Γ' ⟨l, p, c, rfl, hp, rfl⟩
  have hll := hp.length_eq
  rw [keys_len] at hll
  (repeat (first | refine GK.ro ?_ | (refine GK.box ?_; intro bl) | (refine GK.mkMap ?_; intro bm) | (refine GK.build0 tb ?_; intro bs)))
  refine GL.cons ?_; refine GO.callA (fun hF' hle hH => sort_ok (l := l) (p := p) (c := c) (by omega)) Wt.o (by kernel_rfl) rfl rfl SubR.o ?_
  rintro v Γ' ⟨rfl, rfl⟩
  (repeat (first | refine GK.ro ?_ | (refine GK.box ?_; intro bl) | (refine GK.mkMap ?_; intro bm) | (refine GK.build0 tb ?_; intro bs)))
  have e : sortS l = sortS (keys es) := sortS_congr hp
  have e2 : l.length = (sortS (keys es)).length := by rw [← e, sortS_len]
  refine GQ.fin1 rfl (Rv.tmp rfl) (fun w s => s) ⟨p, c, by rw [e2], ?_⟩
  show [row (.slice p l.length c) _ 1 l.length (strs (sortS l)), A, B] = _
  rw [e, e2]
theorem rising_int {m : Nat} {es : Es} (hl : es.length ≤ 1099511627776) : FnOk Go.Proofs.Try.prog 34 [.map (some m)] [mp m es] hF (fun v Γ => ∃ p c, v = .slice p (sortS (keys es)).length c ∧ Γ = [row (.slice p (sortS (keys es)).length c) 9 1 (sortS (keys es)).length (strs (sortS (keys es))), mp m es]) := by
  have hK' : ∀ hF : Hp, FnOk Go.Proofs.Try.prog 55 [.map (some m)] [mp m es] hF (fun v Γ => ∃ b, v = .func (.func 68) #[] #[.pointer (some ⟨b, 0, none⟩)] ∧ Γ = [blk b 64 (0, 0) [.map (some m)], mp m es]) := by
    intro hF
    refine FnOk.intro 4 Go.Proofs.Try.func55 rfl rfl fun w0 => ?_
    (repeat (first | refine GK.ro ?_ | (refine GK.box ?_; intro bl) | (refine GK.mkMap ?_; intro bm) | (refine GK.build0 tb ?_; intro bs)))
    exact GQ.fin1 rfl (Rv.tmp rfl) (fun _ s => Sat.sub SubR.o s) ⟨_, rfl, rfl⟩
  refine FnOk.intro 6 Go.Proofs.Try.func34 rfl rfl fun w0 => ?_
  (repeat (first | refine GK.ro ?_ | (refine GK.box ?_; intro bl) | (refine GK.mkMap ?_; intro bm) | (refine GK.build0 tb ?_; intro bs)))
  refine GL.cons ?_; refine GO.callA (fun hF' hle hH => hK' _) Wt.o (by kernel_rfl) rfl rfl SubR.o ?_
  rintro v Γ' ⟨b, rfl, rfl⟩
  (repeat (first | refine GK.ro ?_ | (refine GK.box ?_; intro bl) | (refine GK.mkMap ?_; intro bm) | (refine GK.build0 tb ?_; intro bs)))
  refine GL.cons ?_; refine GO.callA (fun hF' hle hH => sorted_ok (es := es) (fun hF => keys1_int) (by kernel_rfl) hl) Wt.o (by kernel_rfl) rfl rfl SubR.o ?_
  rintro v Γ' ⟨p, c, rfl, rfl⟩
  (repeat (first | refine GK.ro ?_ | (refine GK.box ?_; intro bl) | (refine GK.mkMap ?_; intro bm) | (refine GK.build0 tb ?_; intro bs)))
  exact GQ.fin1 rfl (Rv.tmp rfl) (fun _ s => Sat.sub SubR.o s) ⟨p, c, rfl, rfl⟩
theorem rising_mark {m : Nat} {es : Es} (hl : es.length ≤ 1099511627776) : FnOk Go.Proofs.Try.prog 37 [.map (some m)] [mp m es] hF (fun v Γ => ∃ p c, v = .slice p (sortS (keys es)).length c ∧ Γ = [row (.slice p (sortS (keys es)).length c) 9 1 (sortS (keys es)).length (strs (sortS (keys es))), mp m es]) := by
  have hK' : ∀ hF : Hp, FnOk Go.Proofs.Try.prog 58 [.map (some m)] [mp m es] hF (fun v Γ => ∃ b, v = .func (.func 72) #[] #[.pointer (some ⟨b, 0, none⟩)] ∧ Γ = [blk b 47 (0, 0) [.map (some m)], mp m es]) := by
    intro hF
    refine FnOk.intro 4 Go.Proofs.Try.func58 rfl rfl fun w0 => ?_
    (repeat (first | refine GK.ro ?_ | (refine GK.box ?_; intro bl) | (refine GK.mkMap ?_; intro bm) | (refine GK.build0 tb ?_; intro bs)))
    exact GQ.fin1 rfl (Rv.tmp rfl) (fun _ s => Sat.sub SubR.o s) ⟨_, rfl, rfl⟩
  refine FnOk.intro 6 Go.Proofs.Try.func37 rfl rfl fun w0 => ?_
  (repeat (first | refine GK.ro ?_ | (refine GK.box ?_; intro bl) | (refine GK.mkMap ?_; intro bm) | (refine GK.build0 tb ?_; intro bs)))
  refine GL.cons ?_; refine GO.callA (fun hF' hle hH => hK' _) Wt.o (by kernel_rfl) rfl rfl SubR.o ?_
  rintro v Γ' ⟨b, rfl, rfl⟩
  (repeat (first | refine GK.ro ?_ | (refine GK.box ?_; intro bl) | (refine GK.mkMap ?_; intro bm) | (refine GK.build0 tb ?_; intro bs)))
  refine GL.cons ?_; refine GO.callA (fun hF' hle hH => sorted_ok (es := es) (fun hF => keys1_mark) (by kernel_rfl) hl) Wt.o (by kernel_rfl) rfl rfl SubR.o ?_
  rintro v Γ' ⟨p, c, rfl, rfl⟩
  (repeat (first | refine GK.ro ?_ | (refine GK.box ?_; intro bl) | (refine GK.mkMap ?_; intro bm) | (refine GK.build0 tb ?_; intro bs)))
  exact GQ.fin1 rfl (Rv.tmp rfl) (fun _ s => Sat.sub SubR.o s) ⟨p, c, rfl, rfl⟩
theorem rising_team {m : Nat} {es : Es} (hl : es.length ≤ 1099511627776) : FnOk Go.Proofs.Try.prog 36 [.map (some m)] [mp m es] hF (fun v Γ => ∃ p c, v = .slice p (sortS (keys es)).length c ∧ Γ = [row (.slice p (sortS (keys es)).length c) 9 1 (sortS (keys es)).length (strs (sortS (keys es))), mp m es]) := by
  have hK' : ∀ hF : Hp, FnOk Go.Proofs.Try.prog 57 [.map (some m)] [mp m es] hF (fun v Γ => ∃ b, v = .func (.func 71) #[] #[.pointer (some ⟨b, 0, none⟩)] ∧ Γ = [blk b 61 (0, 0) [.map (some m)], mp m es]) := by
    intro hF
    refine FnOk.intro 4 Go.Proofs.Try.func57 rfl rfl fun w0 => ?_
    (repeat (first | refine GK.ro ?_ | (refine GK.box ?_; intro bl) | (refine GK.mkMap ?_; intro bm) | (refine GK.build0 tb ?_; intro bs)))
    exact GQ.fin1 rfl (Rv.tmp rfl) (fun _ s => Sat.sub SubR.o s) ⟨_, rfl, rfl⟩
  refine FnOk.intro 6 Go.Proofs.Try.func36 rfl rfl fun w0 => ?_
  (repeat (first | refine GK.ro ?_ | (refine GK.box ?_; intro bl) | (refine GK.mkMap ?_; intro bm) | (refine GK.build0 tb ?_; intro bs)))
  refine GL.cons ?_; refine GO.callA (fun hF' hle hH => hK' _) Wt.o (by kernel_rfl) rfl rfl SubR.o ?_
  rintro v Γ' ⟨b, rfl, rfl⟩
  (repeat (first | refine GK.ro ?_ | (refine GK.box ?_; intro bl) | (refine GK.mkMap ?_; intro bm) | (refine GK.build0 tb ?_; intro bs)))
  refine GL.cons ?_; refine GO.callA (fun hF' hle hH => sorted_ok (es := es) (fun hF => keys1_team) (by kernel_rfl) hl) Wt.o (by kernel_rfl) rfl rfl SubR.o ?_
  rintro v Γ' ⟨p, c, rfl, rfl⟩
  (repeat (first | refine GK.ro ?_ | (refine GK.box ?_; intro bl) | (refine GK.mkMap ?_; intro bm) | (refine GK.build0 tb ?_; intro bs)))
  exact GQ.fin1 rfl (Rv.tmp rfl) (fun _ s => Sat.sub SubR.o s) ⟨p, c, rfl, rfl⟩
theorem rising_org {m : Nat} {es : Es} (hl : es.length ≤ 1099511627776) : FnOk Go.Proofs.Try.prog 32 [.map (some m)] [mp m es] hF (fun v Γ => ∃ p c, v = .slice p (sortS (keys es)).length c ∧ Γ = [row (.slice p (sortS (keys es)).length c) 9 1 (sortS (keys es)).length (strs (sortS (keys es))), mp m es]) := by
  have hK' : ∀ hF : Hp, FnOk Go.Proofs.Try.prog 54 [.map (some m)] [mp m es] hF (fun v Γ => ∃ b, v = .func (.func 67) #[] #[.pointer (some ⟨b, 0, none⟩)] ∧ Γ = [blk b 48 (0, 0) [.map (some m)], mp m es]) := by
    intro hF
    refine FnOk.intro 4 Go.Proofs.Try.func54 rfl rfl fun w0 => ?_
    (repeat (first | refine GK.ro ?_ | (refine GK.box ?_; intro bl) | (refine GK.mkMap ?_; intro bm) | (refine GK.build0 tb ?_; intro bs)))
    exact GQ.fin1 rfl (Rv.tmp rfl) (fun _ s => Sat.sub SubR.o s) ⟨_, rfl, rfl⟩
  refine FnOk.intro 6 Go.Proofs.Try.func32 rfl rfl fun w0 => ?_
  (repeat (first | refine GK.ro ?_ | (refine GK.box ?_; intro bl) | (refine GK.mkMap ?_; intro bm) | (refine GK.build0 tb ?_; intro bs)))
  refine GL.cons ?_; refine GO.callA (fun hF' hle hH => hK' _) Wt.o (by kernel_rfl) rfl rfl SubR.o ?_
  rintro v Γ' ⟨b, rfl, rfl⟩
  (repeat (first | refine GK.ro ?_ | (refine GK.box ?_; intro bl) | (refine GK.mkMap ?_; intro bm) | (refine GK.build0 tb ?_; intro bs)))
  refine GL.cons ?_; refine GO.callA (fun hF' hle hH => sorted_ok (es := es) (fun hF => keys1_org) (by kernel_rfl) hl) Wt.o (by kernel_rfl) rfl rfl SubR.o ?_
  rintro v Γ' ⟨p, c, rfl, rfl⟩
  (repeat (first | refine GK.ro ?_ | (refine GK.box ?_; intro bl) | (refine GK.mkMap ?_; intro bm) | (refine GK.build0 tb ?_; intro bs)))
  exact GQ.fin1 rfl (Rv.tmp rfl) (fun _ s => Sat.sub SubR.o s) ⟨p, c, rfl, rfl⟩
end Go.Pe
