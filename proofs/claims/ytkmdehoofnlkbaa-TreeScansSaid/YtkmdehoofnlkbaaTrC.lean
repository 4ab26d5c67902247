/- What is put into a list's middle, or taken out of it, in new memory. -/
import Derived.Test.YtkmdehoofnlkbaaTrB
namespace Go.Tr
open Go Go.Sl
theorem ents_take (l : List En) (i : Nat) : (ents l).take (i * 2) = ents (l.take i) := flatMap_take (f := entC) (sz := 2) (fun _ => rfl) l i
theorem ents_drop (l : List En) (i : Nat) : (ents l).drop (i * 2) = ents (l.drop i) := flatMap_drop (f := entC) (sz := 2) (fun _ => rfl) l i
theorem ptrs_take (l : List Nat) (i : Nat) : (ptrs l).take (i * 1) = ptrs (l.take i) := flatMap_take (f := fun b => [nptr b]) (sz := 1) (fun _ => rfl) l i
theorem ptrs_drop (l : List Nat) (i : Nat) : (ptrs l).drop (i * 1) = ptrs (l.drop i) := flatMap_drop (f := fun b => [nptr b]) (sz := 1) (fun _ => rfl) l i
theorem ents_append (a b : List En) : ents (a ++ b) = ents a ++ ents b := by simp [ents]
theorem ptrs_append (a b : List Nat) : ptrs (a ++ b) = ptrs a ++ ptrs b := by simp [ptrs]
attribute [local irreducible] GK GO Yl Wt Ef Hd GH KH wpListIn Code.wpIn toBody roundQ poolOf rs RS YieldOk IterOk VOk row star exs mp lp Sat pt FnOk Rd bodyPost bodyPostM Lv Ret Exit.then Exit.inBlock Exit.noGoto Int.decLt Int.decLe Int.instDecidableEq
attribute [local irreducible] ents ptrs
abbrev erow (v : Value) (l : List En) : HProp := row v 59 2 l.length (ents l)
abbrev prow (v : Value) (l : List Nat) : HProp := row v 46 1 l.length (ptrs l)
variable {hF : Hp} {Γ : List HProp} {p : Option Addr} {n c : Nat}
theorem insE_ok (l : List En) (hl : l.length = n) (hrs : RS Γ hF (.slice p n c) n 2 (ents l)) (i : Nat) (hi : i ≤ n) (hc : n ≤ c) (hn : n < 1000) (x : En) :
    FnOk Go.Proofs.Try.prog 39 [.slice p n c, .int .i64 i, .agg ⟨entC x⟩] Γ hF (fun v Γ' => ∃ q cc, v = .slice q (n + 1) cc ∧ Γ' = row v 59 2 (n + 1) (ents (ins l i x)) :: Γ) := by
  refine FnOk.intro 20 Go.Proofs.Try.func39 rfl rfl fun w0 => ?_
  (repeat (first | refine GK.run ?_ | (refine GK.box ?_; intro bl) | (refine GK.mkMap ?_; intro bm) | (refine GK.build0 tb ?_; intro bs)))
  refine G.draw [] [blk bl 59 (0, 0) (entC x)] (by kernel_rfl) ?_
  ((first | refine GH.tk 0 [0] ?_ | refine GH.tks 0 [0] ?_); (first | refine GH.tk 1 [0] ?_ | refine GH.tks 1 [0] ?_); (first | refine GH.tk 2 [0] ?_ | refine GH.tks 2 [0] ?_); (first | refine GH.tk 3 [0] ?_ | refine GH.tks 3 [0] ?_); (first | refine GH.tk 4 [0] ?_ | refine GH.tks 4 [0] ?_))
  refine GH.step 5 rfl (by kernel_rfl) ?_
  refine Gt.buildLit tb (sz := 1) (n := 0) (by first | exact Wt.none | exact Wt.some rfl rfl (by first | exact rfl | decide +kernel)) rfl rfl (by kernel_rfl) rfl rfl rfl rfl rfl rfl ?_
  intro bx
  refine GH.keep (fun _ s => s.sel [1] rfl) ?_
  refine GH.step 6 rfl (by kernel_rfl) ?_
  refine Gt.appendNew tb (k := 1) (by first | exact Wt.none | exact Wt.some rfl rfl (by first | exact rfl | decide +kernel)) rfl (.inl ⟨_, rfl⟩) rfl rfl rfl rfl ((hrs.take hi (Nat.le_refl i)).weak (fun w s => s.drop.drop)) (Src.slice (Rd.blk 0 rfl) (At.all _) rfl (one_of_all rfl)) (by show i < i + 1; omega) (by show (i + 1) * _ ≤ _; omega) (by show i + 1 ≤ _; omega) ?_
  intro q cc
  refine GH.keep (fun _ s => s.sel [2] rfl) ?_
  ((first | refine GH.tk 7 [2] ?_ | refine GH.tks 7 [2] ?_))
  refine GH.fin (by kernel_rfl) ?_
  (repeat (first | refine GK.run ?_ | (refine GK.box ?_; intro bl) | (refine GK.mkMap ?_; intro bm) | (refine GK.build0 tb ?_; intro bs)))
  refine GL.cons ?_
  refine Gt.append tb 0 (by first | exact Wt.none | exact Wt.some rfl rfl (by first | exact rfl | decide +kernel)) rfl (.inl ⟨_, rfl⟩) rfl rfl rfl rfl rfl (RS.src ((hrs.cut hi).weak (fun w s => s.drop.drop.drop)) (fun u hu => ents_one _ u (List.mem_of_mem_drop hu)) (by rw [List.length_drop, ents_len, hl, Nat.sub_mul]) ⟨_, _, rfl⟩) (by show (i + 1 + (n - i)) * _ ≤ _; omega) (by show i + 1 + (n - i) ≤ _; omega) ?_
  intro q2 c2
  (repeat (first | refine GK.run ?_ | (refine GK.box ?_; intro bl) | (refine GK.mkMap ?_; intro bm) | (refine GK.build0 tb ?_; intro bs)))
  refine GK.heap (fun w s => ?_) (GQ.end1 rfl rfl ⟨q2, c2, ?_, rfl⟩)
  · have e : ents (ins l i x) = (ents l).take (i * 2) ++ [str x.1, str x.2] ++ (ents l).drop (i * 2) := by
      rw [ents_take, ents_drop]; unfold ins; rw [ents_append]; show _ ++ ents ([x] ++ l.drop i) = _; rw [ents_append, List.append_assoc]; congr 1; congr 1; unfold ents; simp [entC]
    have e2 : (i : Int).toNat + 1 + (n - i) = n + 1 := by show i + 1 + (n - i) = _; omega
    have s := s.drop1.drop1
    rw [e2] at s ⊢
    rw [e]; exact s
  · rw [show (i : Int).toNat + 1 + (n - i) = n + 1 by show i + 1 + (n - i) = _; omega]
end Go.Tr
