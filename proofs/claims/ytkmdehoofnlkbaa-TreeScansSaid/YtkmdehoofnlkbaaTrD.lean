/- What is taken out of a list; pointers put into one; a copy of a node. -/
import Derived.Test.YtkmdehoofnlkbaaTrC
namespace Go.Tr
open Go Go.Sl
attribute [local irreducible] GK GO Yl Wt Ef Hd GH KH wpListIn Code.wpIn toBody roundQ poolOf rs RS YieldOk IterOk VOk row star exs mp lp Sat pt FnOk Rd bodyPost bodyPostM Lv Ret Exit.then Exit.inBlock Exit.noGoto Int.decLt Int.decLe Int.instDecidableEq
attribute [local irreducible] ents ptrs
variable {hF : Hp} {Γ : List HProp} {p : Option Addr} {n c : Nat}
theorem rmE_new (l : List En) (hl : l.length = n) (hrs : RS Γ hF (.slice p n c) n 2 (ents l)) (i : Nat) (hi : i + 1 < n) (hc : n ≤ c) (hn : n < 1000) :
    FnOk Go.Proofs.Try.prog 36 [.slice p n c, .int .i64 i] Γ hF (fun v Γ' => ∃ q cc, v = .slice q (n - 1) cc ∧ Γ' = row (.slice q (n - 1) cc) 59 2 (n - 1) (ents (rm l i)) :: Γ) := by
  refine FnOk.intro 14 Go.Proofs.Try.func36 rfl rfl fun w0 => ?_
  (repeat (first | refine GK.run ?_ | (refine GK.box ?_; intro bl) | (refine GK.mkMap ?_; intro bm) | (refine GK.build0 tb ?_; intro bs)))
  refine G.draw [] [] (by kernel_rfl) ?_
  ((first | refine GH.tk 0 [] ?_ | refine GH.tks 0 [] ?_); (first | refine GH.tk 1 [] ?_ | refine GH.tks 1 [] ?_); (first | refine GH.tk 2 [] ?_ | refine GH.tks 2 [] ?_); (first | refine GH.tk 3 [] ?_ | refine GH.tks 3 [] ?_); (first | refine GH.tk 4 [] ?_ | refine GH.tks 4 [] ?_); (first | refine GH.tk 5 [] ?_ | refine GH.tks 5 [] ?_); (first | refine GH.tk 6 [] ?_ | refine GH.tks 6 [] ?_); (first | refine GH.tk 7 [] ?_ | refine GH.tks 7 [] ?_))
  refine GH.step 8 rfl (by kernel_rfl) ?_
  refine Gt.appendNew tb (k := n - (i + 1)) (by first | exact Wt.none | exact Wt.some rfl rfl (by first | exact rfl | decide +kernel)) rfl (.inl ⟨_, rfl⟩) rfl rfl rfl rfl (hrs.take (by omega) (Nat.le_refl i)) (RS.src (hrs.cut (l := i + 1) (by omega)) (fun u hu => ents_one _ u (List.mem_of_mem_drop hu)) (by rw [List.length_drop, ents_len, hl, Nat.sub_mul]) ⟨_, _, rfl⟩) (by show i < i + (n - (i + 1)); omega) (by show (i + (n - (i + 1))) * _ ≤ _; omega) (by show i + (n - (i + 1)) ≤ _; omega) ?_
  intro q cc
  refine GH.keep (fun _ s => s.sel [] rfl) ?_
  ((first | refine GH.tk 9 [] ?_ | refine GH.tks 9 [] ?_))
  refine GH.fin (by kernel_rfl) ?_
  (repeat (first | refine GK.run ?_ | (refine GK.box ?_; intro bl) | (refine GK.mkMap ?_; intro bm) | (refine GK.build0 tb ?_; intro bs)))
  have e2 : (i : Int).toNat + (n - (i + 1)) = n - 1 := by show i + (n - (i + 1)) = _; omega
  refine GK.heap (fun w s => ?_) (GQ.end1 rfl rfl ⟨q, cc, ?_, rfl⟩)
  · have e : ents (rm l i) = (ents l).take (i * 2) ++ (ents l).drop ((i + 1) * 2) := by rw [ents_take, ents_drop]; unfold rm; rw [ents_append]
    rw [e2] at s
    rw [e]; exact s
  · rw [e2]
theorem rmE_row (l : List En) (hl : l.length = n) (i : Nat) (hi : i < n) (hc : n ≤ c) (hn : n < 1000) :
    FnOk Go.Proofs.Try.prog 36 [.slice p n c, .int .i64 i] [row (.slice p n c) 59 2 n (ents l)] hF (fun v Γ' => ∃ q cc, v = .slice q (n - 1) cc ∧ Γ' = [row (.slice q (n - 1) cc) 59 2 (n - 1) (ents (rm l i))]) := by
  by_cases h : i + 1 < n
  · refine (rmE_new (Γ := [row (.slice p n c) 59 2 n (ents l)]) l hl (RS.row 0 rfl) i h hc hn).weak (fun w s => s) ?_
    rintro v Γ' ⟨q, cc, rfl, rfl⟩ w s
    exact ⟨_, ⟨q, cc, rfl, rfl⟩, s.drop1⟩
  · have hi1 : n = i + 1 := by omega
    subst hi1
    refine FnOk.intro 14 Go.Proofs.Try.func36 rfl rfl fun w0 => ?_
    refine GK.heap (fun w s => Sat.row_front (i := i) (by omega) s) ?_
    (repeat (first | refine GK.run ?_ | (refine GK.box ?_; intro bl) | (refine GK.mkMap ?_; intro bm) | (refine GK.build0 tb ?_; intro bs)))
    refine G.draw [] [] (by kernel_rfl) ?_
    ((first | refine GH.tk 0 [] ?_ | refine GH.tks 0 [] ?_); (first | refine GH.tk 1 [] ?_ | refine GH.tks 1 [] ?_); (first | refine GH.tk 2 [] ?_ | refine GH.tks 2 [] ?_); (first | refine GH.tk 3 [] ?_ | refine GH.tks 3 [] ?_); (first | refine GH.tk 4 [] ?_ | refine GH.tks 4 [] ?_); (first | refine GH.tk 5 [] ?_ | refine GH.tks 5 [] ?_); (first | refine GH.tk 6 [] ?_ | refine GH.tks 6 [] ?_); (first | refine GH.tk 7 [] ?_ | refine GH.tks 7 [] ?_))
    refine GH.step 8 rfl (by kernel_rfl) ?_
    refine Gt.append tb 0 (m := 0) (news := []) (by first | exact Wt.none | exact Wt.some rfl rfl (by first | exact rfl | decide +kernel)) rfl (.inl ⟨_, rfl⟩) rfl rfl rfl rfl rfl ?_ (by omega) (by omega) ?_
    · have : i + 1 - ((i : Int) + 1).toNat = 0 := by show i + 1 - (i + 1) = 0; omega
      rw [this]; exact Src.none
    intro q cc
    refine GH.keep (fun _ s => s.sel [] rfl) ?_
    ((first | refine GH.tk 9 [] ?_ | refine GH.tks 9 [] ?_))
    refine GH.fin (by kernel_rfl) ?_
    (repeat (first | refine GK.run ?_ | (refine GK.box ?_; intro bl) | (refine GK.mkMap ?_; intro bm) | (refine GK.build0 tb ?_; intro bs)))
    refine GK.heap (fun w s => ?_) (GQ.end1 rfl rfl ⟨q, cc, rfl, rfl⟩)
    have e : ents (rm l i) = (ents l).take (i * 2) ++ [] := by rw [ents_take, List.append_nil]; unfold rm; rw [List.drop_eq_nil_of_le (by omega), List.append_nil]
    show Sat (row _ _ _ (i + 1 - 1) (ents (rm l i)) :: _) _ _
    rw [e]; exact s
theorem rmP_new (l : List Nat) (hl : l.length = n) (hrs : RS Γ hF (.slice p n c) n 1 (ptrs l)) (i : Nat) (hi : i + 1 < n) (hc : n ≤ c) (hn : n < 1000) :
    FnOk Go.Proofs.Try.prog 43 [.slice p n c, .int .i64 i] Γ hF (fun v Γ' => ∃ q cc, v = .slice q (n - 1) cc ∧ Γ' = row (.slice q (n - 1) cc) 46 1 (n - 1) (ptrs (rm l i)) :: Γ) := by
  refine FnOk.intro 14 Go.Proofs.Try.func43 rfl rfl fun w0 => ?_
  (repeat (first | refine GK.run ?_ | (refine GK.box ?_; intro bl) | (refine GK.mkMap ?_; intro bm) | (refine GK.build0 tb ?_; intro bs)))
  refine G.draw [] [] (by kernel_rfl) ?_
  ((first | refine GH.tk 0 [] ?_ | refine GH.tks 0 [] ?_); (first | refine GH.tk 1 [] ?_ | refine GH.tks 1 [] ?_); (first | refine GH.tk 2 [] ?_ | refine GH.tks 2 [] ?_); (first | refine GH.tk 3 [] ?_ | refine GH.tks 3 [] ?_); (first | refine GH.tk 4 [] ?_ | refine GH.tks 4 [] ?_); (first | refine GH.tk 5 [] ?_ | refine GH.tks 5 [] ?_); (first | refine GH.tk 6 [] ?_ | refine GH.tks 6 [] ?_); (first | refine GH.tk 7 [] ?_ | refine GH.tks 7 [] ?_))
  refine GH.step 8 rfl (by kernel_rfl) ?_
  refine Gt.appendNew tb (k := n - (i + 1)) (by first | exact Wt.none | exact Wt.some rfl rfl (by first | exact rfl | decide +kernel)) rfl (.inl ⟨_, rfl⟩) rfl rfl rfl rfl (hrs.take (by omega) (Nat.le_refl i)) (RS.src (hrs.cut (l := i + 1) (by omega)) (fun u hu => ptrs_one _ u (List.mem_of_mem_drop hu)) (by rw [List.length_drop, ptrs_len, hl, Nat.sub_mul]) ⟨_, _, rfl⟩) (by show i < i + (n - (i + 1)); omega) (by show (i + (n - (i + 1))) * _ ≤ _; omega) (by show i + (n - (i + 1)) ≤ _; omega) ?_
  intro q cc
  refine GH.keep (fun _ s => s.sel [] rfl) ?_
  ((first | refine GH.tk 9 [] ?_ | refine GH.tks 9 [] ?_))
  refine GH.fin (by kernel_rfl) ?_
  (repeat (first | refine GK.run ?_ | (refine GK.box ?_; intro bl) | (refine GK.mkMap ?_; intro bm) | (refine GK.build0 tb ?_; intro bs)))
  have e2 : (i : Int).toNat + (n - (i + 1)) = n - 1 := by show i + (n - (i + 1)) = _; omega
  refine GK.heap (fun w s => ?_) (GQ.end1 rfl rfl ⟨q, cc, ?_, rfl⟩)
  · have e : ptrs (rm l i) = (ptrs l).take (i * 1) ++ (ptrs l).drop ((i + 1) * 1) := by rw [ptrs_take, ptrs_drop]; unfold rm; rw [ptrs_append]
    rw [e2] at s
    rw [e]; exact s
  · rw [e2]
theorem rmP_row (l : List Nat) (hl : l.length = n) (i : Nat) (hi : i < n) (hc : n ≤ c) (hn : n < 1000) :
    FnOk Go.Proofs.Try.prog 43 [.slice p n c, .int .i64 i] [row (.slice p n c) 46 1 n (ptrs l)] hF (fun v Γ' => ∃ q cc, v = .slice q (n - 1) cc ∧ Γ' = [row (.slice q (n - 1) cc) 46 1 (n - 1) (ptrs (rm l i))]) := by
  by_cases h : i + 1 < n
  · refine (rmP_new (Γ := [row (.slice p n c) 46 1 n (ptrs l)]) l hl (RS.row 0 rfl) i h hc hn).weak (fun w s => s) ?_
    rintro v Γ' ⟨q, cc, rfl, rfl⟩ w s
    exact ⟨_, ⟨q, cc, rfl, rfl⟩, s.drop1⟩
  · have hi1 : n = i + 1 := by omega
    subst hi1
    refine FnOk.intro 14 Go.Proofs.Try.func43 rfl rfl fun w0 => ?_
    refine GK.heap (fun w s => Sat.row_front (i := i) (by omega) s) ?_
    (repeat (first | refine GK.run ?_ | (refine GK.box ?_; intro bl) | (refine GK.mkMap ?_; intro bm) | (refine GK.build0 tb ?_; intro bs)))
    refine G.draw [] [] (by kernel_rfl) ?_
    ((first | refine GH.tk 0 [] ?_ | refine GH.tks 0 [] ?_); (first | refine GH.tk 1 [] ?_ | refine GH.tks 1 [] ?_); (first | refine GH.tk 2 [] ?_ | refine GH.tks 2 [] ?_); (first | refine GH.tk 3 [] ?_ | refine GH.tks 3 [] ?_); (first | refine GH.tk 4 [] ?_ | refine GH.tks 4 [] ?_); (first | refine GH.tk 5 [] ?_ | refine GH.tks 5 [] ?_); (first | refine GH.tk 6 [] ?_ | refine GH.tks 6 [] ?_); (first | refine GH.tk 7 [] ?_ | refine GH.tks 7 [] ?_))
    refine GH.step 8 rfl (by kernel_rfl) ?_
    refine Gt.append tb 0 (m := 0) (news := []) (by first | exact Wt.none | exact Wt.some rfl rfl (by first | exact rfl | decide +kernel)) rfl (.inl ⟨_, rfl⟩) rfl rfl rfl rfl rfl ?_ (by omega) (by omega) ?_
    · have : i + 1 - ((i : Int) + 1).toNat = 0 := by show i + 1 - (i + 1) = 0; omega
      rw [this]; exact Src.none
    intro q cc
    refine GH.keep (fun _ s => s.sel [] rfl) ?_
    ((first | refine GH.tk 9 [] ?_ | refine GH.tks 9 [] ?_))
    refine GH.fin (by kernel_rfl) ?_
    (repeat (first | refine GK.run ?_ | (refine GK.box ?_; intro bl) | (refine GK.mkMap ?_; intro bm) | (refine GK.build0 tb ?_; intro bs)))
    refine GK.heap (fun w s => ?_) (GQ.end1 rfl rfl ⟨q, cc, rfl, rfl⟩)
    have e : ptrs (rm l i) = (ptrs l).take (i * 1) ++ [] := by rw [ptrs_take, List.append_nil]; unfold rm; rw [List.drop_eq_nil_of_le (by omega), List.append_nil]
    show Sat (row _ _ _ (i + 1 - 1) (ptrs (rm l i)) :: _) _ _
    rw [e]; exact s

theorem insP_ok (l : List Nat) (hl : l.length = n) (hrs : RS Γ hF (.slice p n c) n 1 (ptrs l)) (i : Nat) (hi : i ≤ n) (hc : n ≤ c) (hn : n < 1000) (x : Nat) :
    FnOk Go.Proofs.Try.prog 40 [.slice p n c, .int .i64 i, nptr x] Γ hF (fun v Γ' => ∃ q cc, v = .slice q (n + 1) cc ∧ Γ' = row (.slice q (n + 1) cc) 46 1 (n + 1) (ptrs (ins l i x)) :: Γ) := by
  refine FnOk.intro 20 Go.Proofs.Try.func40 rfl rfl fun w0 => ?_
  (repeat (first | refine GK.run ?_ | (refine GK.box ?_; intro bl) | (refine GK.mkMap ?_; intro bm) | (refine GK.build0 tb ?_; intro bs)))
  refine GL.cons ?_; refine Gt.buildLit tb (sz := 0) (n := 0) (by first | exact Wt.none | exact Wt.some rfl rfl (by first | exact rfl | decide +kernel)) rfl rfl (by kernel_rfl) rfl rfl rfl rfl rfl rfl ?_
  intro bx
  (repeat (first | refine GK.run ?_ | (refine GK.box ?_; intro bl) | (refine GK.mkMap ?_; intro bm) | (refine GK.build0 tb ?_; intro bs)))
  refine GL.cons ?_
  refine Gt.appendNew tb (k := 1) (by first | exact Wt.none | exact Wt.some rfl rfl (by first | exact rfl | decide +kernel)) rfl (.inl ⟨_, rfl⟩) rfl rfl rfl rfl ((hrs.take hi (Nat.le_refl i)).weak (fun w s => s.drop)) (Src.slice (Rd.blk 0 rfl) (At.all _) rfl (one_of_all rfl)) (by show i < i + 1; omega) (by show (i + 1) * _ ≤ _; omega) (by show i + 1 ≤ _; omega) ?_
  intro q cc
  (repeat (first | refine GK.run ?_ | (refine GK.box ?_; intro bl) | (refine GK.mkMap ?_; intro bm) | (refine GK.build0 tb ?_; intro bs)))
  refine GL.cons ?_
  refine Gt.append tb 0 (by first | exact Wt.none | exact Wt.some rfl rfl (by first | exact rfl | decide +kernel)) rfl (.inl ⟨_, rfl⟩) rfl rfl rfl rfl rfl (RS.src ((hrs.cut hi).weak (fun w s => s.drop.drop)) (fun u hu => ptrs_one _ u (List.mem_of_mem_drop hu)) (by rw [List.length_drop, ptrs_len, hl, Nat.sub_mul]) ⟨_, _, rfl⟩) (by show (i + 1 + (n - i)) * _ ≤ _; omega) (by show i + 1 + (n - i) ≤ _; omega) ?_
  intro q2 c2
  (repeat (first | refine GK.run ?_ | (refine GK.box ?_; intro bl) | (refine GK.mkMap ?_; intro bm) | (refine GK.build0 tb ?_; intro bs)))
  have e2 : (i : Int).toNat + 1 + (n - i) = n + 1 := by show i + 1 + (n - i) = _; omega
  refine GK.heap (fun w s => ?_) (GQ.end1 rfl rfl ⟨q2, c2, ?_, rfl⟩)
  · have e : ptrs (ins l i x) = (ptrs l).take (i * 1) ++ [nptr x] ++ (ptrs l).drop (i * 1) := by
      rw [ptrs_take, ptrs_drop]; unfold ins; rw [ptrs_append]; show _ ++ ptrs ([x] ++ l.drop i) = _; rw [ptrs_append, List.append_assoc]; congr 1; congr 1; unfold ptrs; simp
    have s := s.drop1
    rw [e2] at s
    rw [e]; exact s
  · rw [e2]
abbrev nblk (b : Nat) (lv kv : Value) : HProp := blk b 65 (0, 0) [lv, kv]
variable {H : Hp}
theorem copied_ok {t : T} {b : Nat} {lv kv : Value} {ps : List Nat} (hn : NodeAt H t b lv kv ps) (h1 : t.l.length < 1000) (h2 : t.ks.length < 1000) :
    FnOk Go.Proofs.Try.prog 35 [nptr b] [poolOf H] hF (fun v Γ => ∃ nb p cp q cq, v = nptr nb ∧ Γ = [nblk nb (.slice p t.l.length cp) (.slice q t.ks.length cq), row (.slice p t.l.length cp) 59 2 t.l.length (ents t.l), row (.slice q t.ks.length cq) 46 1 t.ks.length (ptrs ps), poolOf H]) := by
  refine FnOk.intro 16 Go.Proofs.Try.func35 rfl rfl fun w0 => ?_
  have hnd := hn.nd
  have hl := hn.l
  have hk := hn.k
  have hlen := hn.len
  obtain ⟨p, c, rfl, hc, hln, hr⟩ := hn.l.out
  obtain ⟨q, d, rfl, hd, hkn, hs⟩ := hn.k.out
  refine GK.heap (fun w s => s.row_nil (e := 46) (sz := 1)) ?_
  (repeat (first | refine GK.run ?_ | (refine GK.box ?_; intro bl) | (refine GK.mkMap ?_; intro bm) | (refine GK.build0 tb ?_; intro bs)))
  refine G.draw [] [poolOf H] (by kernel_rfl) ?_
  ((first | refine GH.tk 1 [1] ?_ | refine GH.tks 1 [1] ?_); (first | refine GH.tk 2 [1] ?_ | refine GH.tks 2 [1] ?_); (first | refine GH.tk 3 [1] ?_ | refine GH.tks 3 [1] ?_); (first | refine GH.tk 4 [1] ?_ | refine GH.tks 4 [1] ?_); (first | refine GH.tk 6 [1] ?_ | refine GH.tks 6 [1] ?_); (first | refine GH.tk 7 [1] ?_ | refine GH.tks 7 [1] ?_); (first | refine GH.tk 8 [1] ?_ | refine GH.tks 8 [1] ?_); (first | refine GH.tk 9 [1] ?_ | refine GH.tks 9 [1] ?_))
  refine GH.step 0 rfl (by kernel_rfl) ?_
  refine Gt.build0 tb (by first | exact Wt.none | exact Wt.some rfl rfl (by first | exact rfl | decide +kernel)) rfl rfl ?_
  intro bs
  refine GH.keep (fun _ s => s.sel [2] rfl) ?_
  refine GH.step 5 rfl (by kernel_rfl) ?_
  refine Gt.append0 tb 0 (m := t.l.length) (by first | exact Wt.none | exact Wt.some rfl rfl (by first | exact rfl | decide +kernel)) rfl (.inl ⟨_, rfl⟩) rfl rfl rfl rfl rfl (RS.src (RS.pool 2 rfl hl) (ents_one _) hln ⟨_, _, rfl⟩) (by omega) (by omega) ?_
  intro p2 c2
  refine GH.keep (fun _ s => s.sel [2] rfl) ?_
  refine GH.step 10 rfl (by kernel_rfl) ?_
  refine Gt.append0 tb 1 (m := t.ks.length) (by first | exact Wt.none | exact Wt.some rfl rfl (by first | exact rfl | decide +kernel)) rfl (.inl ⟨_, rfl⟩) rfl rfl rfl rfl rfl (RS.src (RS.pool 2 rfl hk) (ptrs_one _) hkn ⟨_, _, rfl⟩) (by omega) (by omega) ?_
  intro p3 c3
  refine GH.keep (fun _ s => s.sel [2] rfl) ?_
  ((first | refine GH.tk 11 [2] ?_ | refine GH.tks 11 [2] ?_))
  refine GH.step 12 rfl (by kernel_rfl) ?_
  refine GO.box (by first | exact Wt.none | exact Wt.some rfl rfl (by first | exact rfl | decide +kernel)) rfl rfl ?_
  intro nb
  refine GH.keep (fun _ s => s.sel [3] rfl) ?_
  ((first | refine GH.tk 13 [3] ?_ | refine GH.tks 13 [3] ?_))
  refine GH.fin (by kernel_rfl) ?_
  (repeat (first | refine GK.run ?_ | (refine GK.box ?_; intro bl) | (refine GK.mkMap ?_; intro bm) | (refine GK.build0 tb ?_; intro bs)))
  exact GK.sel [0, 1, 0, 0] rfl (GQ.end1 rfl rfl ⟨nb, p2, c2, p3, c3, rfl, rfl⟩)
end Go.Tr
