/- The document's Passes, and that both are one. -/
import Derived.Test.YtjphghadogedkaaRvP
set_option linter.unusedSimpArgs false
set_option linter.unusedVariables false
namespace Go.Re
open Go Go.Sl
set_option maxRecDepth 100000
def Rise (l : List By) : Prop := l.Pairwise (· < ·)
theorem lt_irr (a : By) : ¬ a < a := by simp
theorem lt_of_not {a b : By} (h : ¬ a < b) (hne : a ≠ b) : b < a := by
  rcases Std.le_total (a := a) (b := b) with h1 | h1
  · exact absurd (Std.lt_of_le_of_ne h1 hne) h
  · exact Std.lt_of_le_of_ne h1 (Ne.symm hne)
theorem withM_cons (x : By) (r : List By) (s : By) : withM (x :: r) s = if x < s then x :: withM r s else if x = s then x :: r else s :: x :: r := by
  unfold withM
  by_cases h : x < s
  · rw [show low s (x :: r) = low s r + 1 from if_pos h, if_pos h]
    simp only [List.getElem?_cons_succ, List.take_succ_cons, List.drop_succ_cons, List.cons_append]
    split <;> rfl
  · rw [show low s (x :: r) = 0 from if_neg h, if_neg h]
    by_cases h2 : x = s
    · simp [h2]
    · simp [h2]
theorem withM_nil (s : By) : withM [] s = [s] := by simp [withM, low]
theorem mem_withM {s : By} : ∀ (l : List By) (x : By), x ∈ withM l s ↔ x = s ∨ x ∈ l
  | [], x => by simp [withM_nil]
  | y :: r, x => by
    rw [withM_cons]
    split
    · rw [List.mem_cons, mem_withM r x, List.mem_cons]
      constructor
      · rintro (h | h | h) <;> simp [h]
      · rintro (h | h | h) <;> simp [h]
    · split
      · rename_i h; subst h; simp
      · simp
theorem rise_withM {s : By} : ∀ (l : List By), Rise l → Rise (withM l s)
  | [], _ => by rw [withM_nil]; exact List.pairwise_singleton _ _
  | y :: r, h => by
    have h1 := List.pairwise_cons.1 h
    rw [withM_cons]
    split
    · rename_i hy
      refine List.pairwise_cons.2 ⟨fun z hz => ?_, rise_withM r h1.2⟩
      rcases (mem_withM r z).1 hz with rfl | hz
      · exact hy
      · exact h1.1 z hz
    · split
      · exact h
      · rename_i h2 h3
        have hsy := lt_of_not h2 h3
        refine List.pairwise_cons.2 ⟨fun z hz => ?_, h⟩
        rcases List.mem_cons.1 hz with rfl | hz
        · exact hsy
        · exact List.lt_trans hsy (h1.1 z hz)
theorem len_withM {s : By} : ∀ (l : List By), Rise l → (withM l s).length = l.length + (if s ∈ l then 0 else 1)
  | [], _ => by simp [withM_nil]
  | y :: r, h => by
    have h1 := List.pairwise_cons.1 h
    rw [withM_cons]
    split
    · rename_i hy
      have hne : s ≠ y := fun e => lt_irr y (by rw [e] at hy; exact hy)
      rw [List.length_cons, len_withM r h1.2, List.length_cons]
      simp [hne]; omega
    · split
      · rename_i h3; simp [h3]
      · rename_i h2 h3
        have hsy := lt_of_not h2 h3
        have hnr : s ∉ r := fun hm => lt_irr s (List.lt_trans hsy (h1.1 s hm))
        have : s ≠ y := fun e => h3 e.symm
        simp [this, hnr]
/-- A rising list and the keys in their order: the same. -/
def Par (ys ks : List By) : Prop := Rise ys ∧ ys.length = ks.length ∧ ∀ x, x ∈ ys ↔ x ∈ ks
theorem Par.step {ys ks : List By} (h : Par ys ks) (s : By) : Par (withM ys s) (addU ks s) := by
  obtain ⟨h1, h2, h3⟩ := h
  refine ⟨rise_withM _ h1, ?_, fun x => ?_⟩
  · rw [len_withM _ h1]; unfold addU
    by_cases hm : s ∈ ks
    · rw [if_pos ((h3 s).2 hm), if_pos hm]; omega
    · rw [if_neg (fun h => hm ((h3 s).1 h)), if_neg hm]; simp; omega
  · rw [mem_withM]; unfold addU
    split
    · rename_i hm
      rw [h3 x]
      exact ⟨fun h => h.elim (fun e => e ▸ hm) id, .inr⟩
    · rw [List.mem_append, List.mem_singleton, h3 x]; exact Or.comm
def rises (l : List By) : List By := l.foldl withM []
theorem rises_snoc (l : List By) (s : By) : rises (l ++ [s]) = withM (rises l) s := by simp [rises]
theorem par_fold : ∀ (l ys ks : List By), Par ys ks → Par (l.foldl withM ys) (l.foldl addU ks)
  | [], _, _, h => h
  | s :: l, ys, ks, h => par_fold l _ _ (h.step s)
theorem rises_len (l : List By) : (rises l).length = (uniq l).length := (par_fold l [] [] ⟨List.Pairwise.nil, rfl, fun _ => Iff.rfl⟩).2.1
set_option maxRecDepth 100000
set_option maxHeartbeats 4000000
attribute [local irreducible] GK GO Yl Wt Ef Hd GH KH wpListIn Code.wpIn toBody roundQ poolOf rs RS YieldOk IterOk VOk row star exs mp lp Sat pt FnOk Rd bodyPost bodyPostM Lv Ret Exit.then Exit.inBlock Exit.noGoto Int.decLt Int.decLe Int.instDecidableEq
attribute [local irreducible] u8s strs likeTo propC encV prs ptrs sheetC sheets zeroC
set_option pp.deepTerms true
set_option pp.maxSteps 1000000
variable {hF H : Hp}
theorem refPasses_ok {p : Pr} {yv nv tv : Value} {yes no : List By} {n : Int} {ve : Bool} (hy : rs H yv yes.length 1 (strs yes)) (hn : rs H nv no.length 1 (strs no)) (ht : tv.oneCell' = true) (hh : p.h.length = 32)
    (n1 : yes.length ≤ 1000000) (n2 : no.length ≤ 1000000) :
    FnOk Go.Proofs.Try.prog 11 [.agg ⟨propC p yv nv tv⟩, .agg ⟨[.int .i64 n, .bool ve]⟩] [poolOf H] hF (fun v Γ => v = .bool (passM p yes no n ve) ∧ ∃ H', le H H' ∧ Γ = [poolOf H']) := by
  have hn0 := hn
  have hone := propC_one (p := p) hy.one hn.one ht
  have hlen := propC_len (y := yv) (n := nv) (t := tv) hh
  obtain ⟨py, cy, rfl, hcy, hly, hry⟩ := rs.out hy
  obtain ⟨pn, cn, rfl, hcn, hln, hrn⟩ := rs.out hn
  have k0 : (propC p (.slice py yes.length cy) (.slice pn no.length cn) tv)[0 + 1]? = some (str p.a) := propC_a
  have k1 : (propC p (.slice py yes.length cy) (.slice pn no.length cn) tv)[0 + 36]? = some (.slice py yes.length cy) := propC_y hh
  have k2 : (propC p (.slice py yes.length cy) (.slice pn no.length cn) tv)[0 + 37]? = some (.slice pn no.length cn) := propC_n hh
  have k3 : (propC p (.slice py yes.length cy) (.slice pn no.length cn) tv)[0 + 35]? = some (.bool p.o) := propC_o hh
  refine FnOk.intro 59 Go.Proofs.Try.func11 rfl rfl fun w0 => ?_
  (repeat (first | refine GK.ro ?_ | (refine GK.box ?_; intro bl) | (refine GK.mkMap ?_; intro bm) | (refine GK.build0 tb ?_; intro bs)))
  rename_i b1
  generalize hc0 : propC p (.slice py yes.length cy) (.slice pn no.length cn) tv = cells at *
  refine GK.weak (fr' := [(2, .pointer (some ⟨b1, 0, none⟩)), (3, .pointer (some ⟨bl, 0, none⟩)), (5, .slice none 0 0), (6, .int .i64 ((0 : Nat) : Int))])
    (Γ' := [blk bl 29 (0, 0) [.int .i64 n, .bool ve], blk b1 27 (0, 0) cells, poolOf H]) (by repeat (first | exact trivial | refine ⟨rfl, ?_⟩)) (fun _ s => Sat.sub (by repeat (first | exact SubR.nil | apply SubR.cons 0 rfl | apply SubR.cons 1 rfl | apply SubR.cons 2 rfl | apply SubR.cons 3 rfl | apply SubR.cons 4 rfl | apply SubR.cons 5 rfl | apply SubR.cons 6 rfl | apply SubR.cons 7 rfl | apply SubR.cons 8 rfl | apply SubR.cons 9 rfl | apply SubR.cons 10 rfl | apply SubR.cons 11 rfl | apply SubR.cons 12 rfl | apply SubR.cons 13 rfl | apply SubR.cons 14 rfl | apply SubR.cons 15 rfl)) s)
    (G.loopN (X := Nat × Hp × Value) (fun (j, _, _) => yes.length - j) (fun (j, _, v) => [(2, .pointer (some ⟨b1, 0, none⟩)), (3, .pointer (some ⟨bl, 0, none⟩)), (5, v), (6, .int .i64 (j : Int))])
    (fun (_, H', _) => [blk bl 29 (0, 0) [.int .i64 n, .bool ve], blk b1 27 (0, 0) cells, poolOf H'])
    (fun (j, H', v) => j ≤ yes.length ∧ le H H' ∧ rs H' v (rises (others p.a (yes.take j))).length 1 (strs (rises (others p.a (yes.take j))))) (fun x hx q hq => ?_) (0, H, .slice none 0 0) ⟨Nat.zero_le _, le.refl _, by rw [show rises (others p.a (yes.take 0)) = [] from rfl, strs_nil]; exact rs.nil⟩)
  obtain ⟨j, H', v⟩ := x
  obtain ⟨hj, le1, hrs⟩ := hx
  dsimp only at hq
  have hbd : (rises (others p.a (yes.take j))).length ≤ yes.length := by
    rw [rises_len]
    have h1 := uniq_len (others p.a (yes.take j))
    have h2 := others_len p.a (yes.take j)
    rw [List.length_take] at h2; omega
  (repeat (first | refine GK.ro ?_ | (refine GK.box ?_; intro bl) | (refine GK.mkMap ?_; intro bm) | (refine GK.build0 tb ?_; intro bs)))
  (first | refine G.condP rfl (fun hb => ?_) (fun hb => ?_) | refine G.condN rfl (fun hb => ?_) (fun hb => ?_) | refine G.cond rfl (fun hb => ?_) (fun hb => ?_))
  · obtain ⟨x, hx⟩ : ∃ x, yes[j]? = some x := ⟨_, List.getElem?_eq_getElem (by omega)⟩
    have hlt : j < yes.length := by omega
    clear hb
    obtain ⟨b2, o2, cs2, et2, fz2, rfl, hb2, hat2⟩ := hry (by omega)
    have hA : cs2[o2 + (j : Int).toNat * 1]? = some (str x) := by have := hat2 j _ (strs_get hx); simpa using this
    have hb2' := le1 _ _ hb2
    have hot := others_take (a := p.a) hx
    (repeat (first | refine GK.ro ?_ | (refine GK.box ?_; intro bl) | (refine GK.mkMap ?_; intro bm) | (refine GK.build0 tb ?_; intro bs)))
    refine G.draw [] [blk b1 27 (0, 0) cells, poolOf H'] (by kernel_rfl) ?_
    ((first | refine GH.to 0 ?_ | refine GH.tos 0 ?_); (first | refine GH.to 1 ?_ | refine GH.tos 1 ?_); (first | refine GH.to 2 ?_ | refine GH.tos 2 ?_); (first | refine GH.to 3 ?_ | refine GH.tos 3 ?_); (first | refine GH.to 4 ?_ | refine GH.tos 4 ?_); (first | refine GH.to 5 ?_ | refine GH.tos 5 ?_); (first | refine GH.to 6 ?_ | refine GH.tos 6 ?_); (first | refine GH.to 7 ?_ | refine GH.tos 7 ?_))
    refine GH.fin (by kernel_rfl) ?_
    (repeat (first | refine GK.ro ?_ | (refine GK.box ?_; intro bl) | (refine GK.mkMap ?_; intro bm) | (refine GK.build0 tb ?_; intro bs)))
    (first | refine G.condP rfl (fun hb => ?_) (fun hb => ?_) | refine G.condN rfl (fun hb => ?_) (fun hb => ?_) | refine G.cond rfl (fun hb => ?_) (fun hb => ?_))
    · have hb3 : ¬ x = p.a := by simpa using hb
      rw [if_neg hb3] at hot
      (repeat (first | refine GK.ro ?_ | (refine GK.box ?_; intro bl) | (refine GK.mkMap ?_; intro bm) | (refine GK.build0 tb ?_; intro bs)))
      refine GL.cons ?_; refine GO.callA (fun hF' hle hH => with_ok (s := x) hrs (by omega)) (by first | exact Wt.none | exact Wt.some rfl rfl (by first | exact rfl | decide +kernel)) (by kernel_rfl) rfl rfl (by repeat (first | exact SubR.nil | apply SubR.cons 0 rfl | apply SubR.cons 1 rfl | apply SubR.cons 2 rfl | apply SubR.cons 3 rfl | apply SubR.cons 4 rfl | apply SubR.cons 5 rfl | apply SubR.cons 6 rfl | apply SubR.cons 7 rfl | apply SubR.cons 8 rfl | apply SubR.cons 9 rfl | apply SubR.cons 10 rfl | apply SubR.cons 11 rfl | apply SubR.cons 12 rfl | apply SubR.cons 13 rfl | apply SubR.cons 14 rfl | apply SubR.cons 15 rfl)) ?_
      rintro v2 Γ' ⟨H2, le2, hrs2, rfl⟩
      (repeat (first | refine GK.ro ?_ | (refine GK.box ?_; intro bl) | (refine GK.mkMap ?_; intro bm) | (refine GK.build0 tb ?_; intro bs)))
      (refine GQ.againN ((j + 1, H2, v2)) ?_ ?_ ?_ ?_; rotate_left; (first | omega | (dsimp only; omega)); exact (by repeat (first | exact trivial | refine ⟨rfl, ?_⟩)); exact (fun _ s => Sat.sub (by repeat (first | exact SubR.nil | apply SubR.cons 0 rfl | apply SubR.cons 1 rfl | apply SubR.cons 2 rfl | apply SubR.cons 3 rfl | apply SubR.cons 4 rfl | apply SubR.cons 5 rfl | apply SubR.cons 6 rfl | apply SubR.cons 7 rfl | apply SubR.cons 8 rfl | apply SubR.cons 9 rfl | apply SubR.cons 10 rfl | apply SubR.cons 11 rfl | apply SubR.cons 12 rfl | apply SubR.cons 13 rfl | apply SubR.cons 14 rfl | apply SubR.cons 15 rfl)) s))
      refine ⟨by omega, le1.trans le2, ?_⟩
      rw [hot, rises_snoc]; exact hrs2
    · have hb3 : x = p.a := by simpa using hb
      rw [if_pos hb3, List.append_nil] at hot
      (repeat (first | refine GK.ro ?_ | (refine GK.box ?_; intro bl) | (refine GK.mkMap ?_; intro bm) | (refine GK.build0 tb ?_; intro bs)))
      (refine GQ.againN ((j + 1, H', v)) ?_ ?_ ?_ ?_; rotate_left; (first | omega | (dsimp only; omega)); exact (by repeat (first | exact trivial | refine ⟨rfl, ?_⟩)); exact (fun _ s => Sat.sub (by repeat (first | exact SubR.nil | apply SubR.cons 0 rfl | apply SubR.cons 1 rfl | apply SubR.cons 2 rfl | apply SubR.cons 3 rfl | apply SubR.cons 4 rfl | apply SubR.cons 5 rfl | apply SubR.cons 6 rfl | apply SubR.cons 7 rfl | apply SubR.cons 8 rfl | apply SubR.cons 9 rfl | apply SubR.cons 10 rfl | apply SubR.cons 11 rfl | apply SubR.cons 12 rfl | apply SubR.cons 13 rfl | apply SubR.cons 14 rfl | apply SubR.cons 15 rfl)) s))
      refine ⟨by omega, le1, ?_⟩
      rw [hot]; exact hrs
  · have hjl : j = yes.length := by omega
    subst hjl
    rw [List.take_length] at hrs
    rw [rises_len] at hrs
    obtain ⟨vp, vc, rfl, _, _, _⟩ := rs.out hrs
    have hin : ∀ x : List By, others p.a x = [] ↔ ∀ s ∈ x, s = p.a := fun x => by unfold others; simp [List.filter_eq_nil_iff]
    cases ho : p.o with
    | false =>
      rw [ho] at k3
      (repeat (first | refine GK.ro ?_ | (refine GK.box ?_; intro bl) | (refine GK.mkMap ?_; intro bm) | (refine GK.build0 tb ?_; intro bs)))
      refine GQ.fin1 rfl (Rv.tmp rfl) (fun _ s => Sat.sub (by repeat (first | exact SubR.nil | apply SubR.cons 0 rfl | apply SubR.cons 1 rfl | apply SubR.cons 2 rfl | apply SubR.cons 3 rfl | apply SubR.cons 4 rfl | apply SubR.cons 5 rfl | apply SubR.cons 6 rfl | apply SubR.cons 7 rfl | apply SubR.cons 8 rfl | apply SubR.cons 9 rfl | apply SubR.cons 10 rfl | apply SubR.cons 11 rfl | apply SubR.cons 12 rfl | apply SubR.cons 13 rfl | apply SubR.cons 14 rfl | apply SubR.cons 15 rfl)) s) ⟨?_, H', le1, rfl⟩
      simp [passM, ho]
    | true =>
      rw [ho] at k3
      (repeat (first | refine GK.ro ?_ | (refine GK.box ?_; intro bl) | (refine GK.mkMap ?_; intro bm) | (refine GK.build0 tb ?_; intro bs)))
      (first | refine G.condP rfl (fun hb => ?_) (fun hb => ?_) | refine G.condN rfl (fun hb => ?_) (fun hb => ?_) | refine G.cond rfl (fun hb => ?_) (fun hb => ?_))
      · (repeat (first | refine GK.ro ?_ | (refine GK.box ?_; intro bl) | (refine GK.mkMap ?_; intro bm) | (refine GK.build0 tb ?_; intro bs)))
        refine GQ.fin1 rfl (Rv.tmp rfl) (fun _ s => Sat.sub (by repeat (first | exact SubR.nil | apply SubR.cons 0 rfl | apply SubR.cons 1 rfl | apply SubR.cons 2 rfl | apply SubR.cons 3 rfl | apply SubR.cons 4 rfl | apply SubR.cons 5 rfl | apply SubR.cons 6 rfl | apply SubR.cons 7 rfl | apply SubR.cons 8 rfl | apply SubR.cons 9 rfl | apply SubR.cons 10 rfl | apply SubR.cons 11 rfl | apply SubR.cons 12 rfl | apply SubR.cons 13 rfl | apply SubR.cons 14 rfl | apply SubR.cons 15 rfl)) s) ⟨?_, H', le1, rfl⟩
        unfold passM; rw [ho, decide_eq_false (by omega)]; rfl
      have hge : n ≤ (uniq (others p.a yes)).length := by omega
      (repeat (first | refine GK.ro ?_ | (refine GK.box ?_; intro bl) | (refine GK.mkMap ?_; intro bm) | (refine GK.build0 tb ?_; intro bs)))
      refine GK.weak (fr' := [(2, .pointer (some ⟨b1, 0, none⟩)), (3, .pointer (some ⟨bl, 0, none⟩)), (7, .int .i64 ((0 : Nat) : Int))])
        (Γ' := [blk bl 29 (0, 0) [.int .i64 n, .bool ve], blk b1 27 (0, 0) cells, poolOf H']) (by repeat (first | exact trivial | refine ⟨rfl, ?_⟩)) (fun _ s => Sat.sub (by repeat (first | exact SubR.nil | apply SubR.cons 0 rfl | apply SubR.cons 1 rfl | apply SubR.cons 2 rfl | apply SubR.cons 3 rfl | apply SubR.cons 4 rfl | apply SubR.cons 5 rfl | apply SubR.cons 6 rfl | apply SubR.cons 7 rfl | apply SubR.cons 8 rfl | apply SubR.cons 9 rfl | apply SubR.cons 10 rfl | apply SubR.cons 11 rfl | apply SubR.cons 12 rfl | apply SubR.cons 13 rfl | apply SubR.cons 14 rfl | apply SubR.cons 15 rfl)) s)
        (G.loopN (X := Nat) (fun j => no.length - j) (fun j => [(2, .pointer (some ⟨b1, 0, none⟩)), (3, .pointer (some ⟨bl, 0, none⟩)), (7, .int .i64 (j : Int))])
        (fun _ => [blk bl 29 (0, 0) [.int .i64 n, .bool ve], blk b1 27 (0, 0) cells, poolOf H'])
        (fun j => j ≤ no.length ∧ (ve = true → ∀ i < j, ∀ x, no[i]? = some x → x = p.a)) (fun j hj q hq => ?_) 0 ⟨Nat.zero_le _, fun _ i hi => by omega⟩)
      obtain ⟨hj, hall⟩ := hj
      (repeat (first | refine GK.ro ?_ | (refine GK.box ?_; intro bl) | (refine GK.mkMap ?_; intro bm) | (refine GK.build0 tb ?_; intro bs)))
      (first | refine G.condP rfl (fun hb => ?_) (fun hb => ?_) | refine G.condN rfl (fun hb => ?_) (fun hb => ?_) | refine G.cond rfl (fun hb => ?_) (fun hb => ?_))
      · obtain ⟨x, hx⟩ : ∃ x, no[j]? = some x := ⟨_, List.getElem?_eq_getElem (by omega)⟩
        have hlt : j < no.length := by omega
        obtain ⟨b2, o2, cs2, et2, fz2, rfl, hb2, hat2⟩ := hrn (by omega)
        have hA : cs2[o2 + (j : Int).toNat * 1]? = some (str x) := by have := hat2 j _ (strs_get hx); simpa using this
        have hb2' := le1 _ _ hb2
        cases ve with
        | false =>
          (repeat (first | refine GK.ro ?_ | (refine GK.box ?_; intro bl) | (refine GK.mkMap ?_; intro bm) | (refine GK.build0 tb ?_; intro bs)))
          refine G.draw [] [blk bl 29 (0, 0) [.int .i64 n, .bool false], blk b1 27 (0, 0) cells, poolOf H'] (by kernel_rfl) ?_
          ((first | refine GH.to 0 ?_ | refine GH.tos 0 ?_); (first | refine GH.to 1 ?_ | refine GH.tos 1 ?_); (first | refine GH.to 2 ?_ | refine GH.tos 2 ?_); (first | refine GH.to 3 ?_ | refine GH.tos 3 ?_); (first | refine GH.to 4 ?_ | refine GH.tos 4 ?_); (first | refine GH.to 5 ?_ | refine GH.tos 5 ?_); (first | refine GH.to 6 ?_ | refine GH.tos 6 ?_); (first | refine GH.to 7 ?_ | refine GH.tos 7 ?_); (first | refine GH.to 8 ?_ | refine GH.tos 8 ?_); (first | refine GH.to 9 ?_ | refine GH.tos 9 ?_); (first | refine GH.to 10 ?_ | refine GH.tos 10 ?_); (first | refine GH.to 11 ?_ | refine GH.tos 11 ?_))
          refine GH.fin (by kernel_rfl) ?_
          (repeat (first | refine GK.ro ?_ | (refine GK.box ?_; intro bl) | (refine GK.mkMap ?_; intro bm) | (refine GK.build0 tb ?_; intro bs)))
          (refine GQ.againN (j + 1) ?_ ?_ ?_ ?_; rotate_left; (first | omega | (dsimp only; omega)); exact (by repeat (first | exact trivial | refine ⟨rfl, ?_⟩)); exact (fun _ s => Sat.sub (by repeat (first | exact SubR.nil | apply SubR.cons 0 rfl | apply SubR.cons 1 rfl | apply SubR.cons 2 rfl | apply SubR.cons 3 rfl | apply SubR.cons 4 rfl | apply SubR.cons 5 rfl | apply SubR.cons 6 rfl | apply SubR.cons 7 rfl | apply SubR.cons 8 rfl | apply SubR.cons 9 rfl | apply SubR.cons 10 rfl | apply SubR.cons 11 rfl | apply SubR.cons 12 rfl | apply SubR.cons 13 rfl | apply SubR.cons 14 rfl | apply SubR.cons 15 rfl)) s))
          exact ⟨by omega, fun h => by cases h⟩
        | true =>
          (repeat (first | refine GK.ro ?_ | (refine GK.box ?_; intro bl) | (refine GK.mkMap ?_; intro bm) | (refine GK.build0 tb ?_; intro bs)))
          refine G.draw [] [blk bl 29 (0, 0) [.int .i64 n, .bool true], blk b1 27 (0, 0) cells, poolOf H'] (by kernel_rfl) ?_
          ((first | refine GH.to 0 ?_ | refine GH.tos 0 ?_); (first | refine GH.to 1 ?_ | refine GH.tos 1 ?_); (first | refine GH.to 2 ?_ | refine GH.tos 2 ?_); (first | refine GH.to 3 ?_ | refine GH.tos 3 ?_); (first | refine GH.to 4 ?_ | refine GH.tos 4 ?_); (first | refine GH.to 5 ?_ | refine GH.tos 5 ?_); (first | refine GH.to 6 ?_ | refine GH.tos 6 ?_); (first | refine GH.to 7 ?_ | refine GH.tos 7 ?_); (first | refine GH.to 8 ?_ | refine GH.tos 8 ?_); (first | refine GH.to 9 ?_ | refine GH.tos 9 ?_); (first | refine GH.to 10 ?_ | refine GH.tos 10 ?_); (first | refine GH.to 11 ?_ | refine GH.tos 11 ?_))
          refine GH.fin (by kernel_rfl) ?_
          (repeat (first | refine GK.ro ?_ | (refine GK.box ?_; intro bl) | (refine GK.mkMap ?_; intro bm) | (refine GK.build0 tb ?_; intro bs)))
          (first | refine G.condP rfl (fun hb => ?_) (fun hb => ?_) | refine G.condN rfl (fun hb => ?_) (fun hb => ?_) | refine G.cond rfl (fun hb => ?_) (fun hb => ?_))
          · have hb3 : ¬ x = p.a := by simpa using hb
            (repeat (first | refine GK.ro ?_ | (refine GK.box ?_; intro bl) | (refine GK.mkMap ?_; intro bm) | (refine GK.build0 tb ?_; intro bs)))
            refine GQ.fin1 rfl (Rv.tmp rfl) (fun _ s => Sat.sub (by repeat (first | exact SubR.nil | apply SubR.cons 0 rfl | apply SubR.cons 1 rfl | apply SubR.cons 2 rfl | apply SubR.cons 3 rfl | apply SubR.cons 4 rfl | apply SubR.cons 5 rfl | apply SubR.cons 6 rfl | apply SubR.cons 7 rfl | apply SubR.cons 8 rfl | apply SubR.cons 9 rfl | apply SubR.cons 10 rfl | apply SubR.cons 11 rfl | apply SubR.cons 12 rfl | apply SubR.cons 13 rfl | apply SubR.cons 14 rfl | apply SubR.cons 15 rfl)) s) ⟨?_, H', le1, rfl⟩
            have hne : 0 < (others p.a no).length := by
              rcases Nat.eq_zero_or_pos (others p.a no).length with h | h
              · exact absurd ((hin no).1 (List.length_eq_zero_iff.1 h) x (List.mem_of_getElem? hx)) hb3
              · exact h
            unfold passM; rw [decide_eq_true hne]; simp
          · have hb3 : x = p.a := by simpa using hb
            (repeat (first | refine GK.ro ?_ | (refine GK.box ?_; intro bl) | (refine GK.mkMap ?_; intro bm) | (refine GK.build0 tb ?_; intro bs)))
            (refine GQ.againN (j + 1) ?_ ?_ ?_ ?_; rotate_left; (first | omega | (dsimp only; omega)); exact (by repeat (first | exact trivial | refine ⟨rfl, ?_⟩)); exact (fun _ s => Sat.sub (by repeat (first | exact SubR.nil | apply SubR.cons 0 rfl | apply SubR.cons 1 rfl | apply SubR.cons 2 rfl | apply SubR.cons 3 rfl | apply SubR.cons 4 rfl | apply SubR.cons 5 rfl | apply SubR.cons 6 rfl | apply SubR.cons 7 rfl | apply SubR.cons 8 rfl | apply SubR.cons 9 rfl | apply SubR.cons 10 rfl | apply SubR.cons 11 rfl | apply SubR.cons 12 rfl | apply SubR.cons 13 rfl | apply SubR.cons 14 rfl | apply SubR.cons 15 rfl)) s))
            refine ⟨by omega, fun _ i hi y hy => ?_⟩
            rcases Nat.lt_or_ge i j with h | h
            · exact hall rfl i h y hy
            · obtain rfl : i = j := by omega
              rw [hx] at hy; cases hy; exact hb3
      · (repeat (first | refine GK.ro ?_ | (refine GK.box ?_; intro bl) | (refine GK.mkMap ?_; intro bm) | (refine GK.build0 tb ?_; intro bs)))
        refine GQ.fin1 rfl (Rv.tmp rfl) (fun _ s => Sat.sub (by repeat (first | exact SubR.nil | apply SubR.cons 0 rfl | apply SubR.cons 1 rfl | apply SubR.cons 2 rfl | apply SubR.cons 3 rfl | apply SubR.cons 4 rfl | apply SubR.cons 5 rfl | apply SubR.cons 6 rfl | apply SubR.cons 7 rfl | apply SubR.cons 8 rfl | apply SubR.cons 9 rfl | apply SubR.cons 10 rfl | apply SubR.cons 11 rfl | apply SubR.cons 12 rfl | apply SubR.cons 13 rfl | apply SubR.cons 14 rfl | apply SubR.cons 15 rfl)) s) ⟨?_, H', le1, rfl⟩
        unfold passM; rw [ho, decide_eq_true hge]
        cases ve with
        | false => rfl
        | true =>
          have : others p.a no = [] := (hin no).2 fun s hs => by
            obtain ⟨i, hi⟩ := List.getElem?_of_mem hs
            have hil := (List.getElem?_eq_some_iff.1 hi).1
            exact hall rfl i (by omega) s hi
          rw [this]; simp
end Go.Re
