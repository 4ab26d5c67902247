/- A proposal as cells; whether it may be merged. -/
import Derived.Test.YtjphghadogedkaaRvA
set_option linter.unusedSimpArgs false
set_option linter.unusedVariables false
namespace Go.Re
open Go Go.Sl
set_option maxRecDepth 100000
structure Pr where
  id : Int
  a : By
  c : By
  h : By
  o : Bool
def propC (p : Pr) (y n t : Value) : List Value := [.int .i64 p.id, str p.a, str p.c] ++ u8s p.h ++ [.bool p.o, y, n, t]
section cells
variable {p : Pr} {y n t : Value}
theorem u8s_len (h : By) : (u8s h).length = h.length := by unfold u8s; simp
theorem propC_id : (propC p y n t)[0 + 0]? = some (.int .i64 p.id) := by unfold propC; simp
theorem propC_a : (propC p y n t)[0 + 1]? = some (str p.a) := by unfold propC; simp
theorem propC_c : (propC p y n t)[0 + 2]? = some (str p.c) := by unfold propC; simp
theorem propC_back (hh : p.h.length = 32) (i : Nat) : (propC p y n t)[35 + i]? = [Value.bool p.o, y, n, t][i]? := by
  unfold propC
  rw [List.getElem?_append_right (by simp [u8s_len, hh])]
  congr 1; simp [u8s_len, hh]
theorem propC_o (hh : p.h.length = 32) : (propC p y n t)[0 + 35]? = some (.bool p.o) := propC_back hh 0
theorem propC_y (hh : p.h.length = 32) : (propC p y n t)[0 + 36]? = some y := propC_back hh 1
theorem propC_n (hh : p.h.length = 32) : (propC p y n t)[0 + 37]? = some n := propC_back hh 2
theorem propC_t (hh : p.h.length = 32) : (propC p y n t)[0 + 38]? = some t := propC_back hh 3
theorem propC_len (hh : p.h.length = 32) : (propC p y n t).length = 39 := by unfold propC; simp [u8s_len, hh]
theorem propC_one (hy : y.oneCell' = true) (hn : n.oneCell' = true) (ht : t.oneCell' = true) : ∀ u ∈ propC p y n t, u.oneCell' = true := by
  unfold propC
  intro u hu
  simp only [List.mem_append, List.mem_cons, List.not_mem_nil, or_false] at hu
  rcases hu with ((rfl | rfl | rfl) | hu) | (rfl | rfl | rfl | rfl)
  · rfl
  · rfl
  · rfl
  · exact u8s_one _ u hu
  · rfl
  · exact hy
  · exact hn
  · exact ht
theorem at_mid {a b c : List Value} : At (a ++ b ++ c) a.length b := fun j v hv => by
  have hj := (List.getElem?_eq_some_iff.1 hv).1
  rw [List.append_assoc, List.getElem?_append_right (by omega), List.getElem?_append_left (by omega)]
  rw [show a.length + j - a.length = j by omega]; exact hv
theorem propC_h : At (propC p y n t) (0 + 3) (u8s p.h) := by unfold propC; exact at_mid
theorem propC_set {u : Value} (hh : p.h.length = 32) (i : Nat) : (propC p y n t).set (35 + i) u = [.int .i64 p.id, str p.a, str p.c] ++ u8s p.h ++ [Value.bool p.o, y, n, t].set i u := by
  unfold propC
  rw [List.set_append_right _ _ (by simp [u8s_len, hh])]
  congr 2; simp [u8s_len, hh]
theorem propC_setY {u : Value} (hh : p.h.length = 32) : (propC p y n t).set (0 + 36) u = propC p u n t := propC_set hh 1
theorem propC_setN {u : Value} (hh : p.h.length = 32) : (propC p y n t).set (0 + 37) u = propC p y u t := propC_set hh 2
theorem propC_setT {u : Value} (hh : p.h.length = 32) : (propC p y n t).set (0 + 38) u = propC p y n u := propC_set hh 3
theorem propC_setO {b : Bool} (hh : p.h.length = 32) : (propC p y n t).set (0 + 35) (.bool b) = propC { p with o := b } y n t := propC_set hh 0
end cells
/-- Keys, each once, in the order in which they came. -/
def addU (ks : List By) (s : By) : List By := if s ∈ ks then ks else ks ++ [s]
def uniq (l : List By) : List By := l.foldl addU []
theorem uniq_snoc (l : List By) (s : By) : uniq (l ++ [s]) = addU (uniq l) s := by simp [uniq]
theorem mset_keys (es : List (By × Value)) (s : By) (u : Value) : (mset es s u).map (·.1) = addU (es.map (·.1)) s := by
  induction es with
  | nil => simp [mset, addU]
  | cons p r ih =>
    obtain ⟨k, v⟩ := p
    simp only [mset]
    split
    · rename_i e; subst e; simp [addU]
    · rename_i e
      simp only [List.map_cons, ih, addU, List.mem_cons, e, false_or]
      split <;> simp
def others (a : By) (l : List By) : List By := l.filter fun s => !decide (s = a)
def passM (p : Pr) (yes no : List By) (n : Int) (veto : Bool) : Bool := p.o && decide (n ≤ (uniq (others p.a yes)).length) && !(veto && decide (0 < (others p.a no).length))
theorem others_take {a : By} {l : List By} {j : Nat} {x : By} (hx : l[j]? = some x) : others a (l.take (j + 1)) = others a (l.take j) ++ (if x = a then [] else [x]) := by
  obtain ⟨hj, rfl⟩ := List.getElem?_eq_some_iff.1 hx
  unfold others
  rw [List.take_succ_eq_append_getElem hj, List.filter_append]
  congr 1
  by_cases h : l[j] = a <;> simp [h]
theorem uniq_le : ∀ (l ks : List By), (l.foldl addU ks).length ≤ ks.length + l.length
  | [], ks => by simp
  | s :: l, ks => by
    have := uniq_le l (addU ks s)
    have h2 : (addU ks s).length ≤ ks.length + 1 := by unfold addU; split <;> simp
    simp only [List.foldl_cons, List.length_cons]; omega
theorem uniq_len (l : List By) : (uniq l).length ≤ l.length := by
  have := uniq_le l []; simpa [uniq] using this
theorem others_len (a : By) (l : List By) : (others a l).length ≤ l.length := List.length_filter_le _ _
/-- The counts are small. -/
def Cnt (es : List (By × Value)) (j : Nat) : Prop := ∀ k v, mget es k = some v → ∃ n : Nat, v = .int .i64 (n : Int) ∧ n ≤ j
theorem Cnt.get {es : List (By × Value)} {j : Nat} (h : Cnt es j) (s : By) : ∃ n : Nat, (mget es s).getD (.int .i64 0) = .int .i64 (n : Int) ∧ n ≤ j := by
  cases e : mget es s with
  | none => exact ⟨0, rfl, Nat.zero_le _⟩
  | some v => obtain ⟨n, rfl, hn⟩ := h s v e; exact ⟨n, rfl, hn⟩
theorem Cnt.mono {es : List (By × Value)} {j : Nat} (h : Cnt es j) : Cnt es (j + 1) := fun k v hv => by
  obtain ⟨n, rfl, hn⟩ := h k v hv; exact ⟨n, rfl, by omega⟩
theorem Cnt.set {es : List (By × Value)} {j n : Nat} {s : By} (h : Cnt es j) (hn : n ≤ j) : Cnt (mset es s (.int .i64 ((n : Int) + 1))) (j + 1) := fun k v hv => by
  rw [mget_mset] at hv
  split at hv
  · cases hv; exact ⟨n + 1, by simp, by omega⟩
  · exact h.mono k v hv
set_option maxRecDepth 100000
set_option maxHeartbeats 4000000
attribute [local irreducible] GK GO Yl Wt Ef Hd GH KH wpListIn Code.wpIn toBody roundQ poolOf rs RS YieldOk IterOk VOk row star exs mp lp Sat pt FnOk Rd bodyPost bodyPostM Lv Ret Exit.then Exit.inBlock Exit.noGoto Int.decLt Int.decLe Int.instDecidableEq
attribute [local irreducible] u8s strs likeTo propC
set_option pp.deepTerms true
set_option pp.maxSteps 1000000
variable {hF H : Hp}
theorem own_ok {p : Pr} {y n t : Value} {b : Nat} {s : By} : FnOk Go.Proofs.Try.prog 31 [str s, .pointer (some ⟨b, 0, none⟩)] [blk b 27 (0, 0) (propC p y n t)] hF (fun v Γ => v = .bool (decide (s = p.a)) ∧ Γ = [blk b 27 (0, 0) (propC p y n t)]) := by
  have k1 : (propC p y n t)[0 + 1]? = some (str p.a) := propC_a
  refine FnOk.intro 8 Go.Proofs.Try.func31 rfl rfl fun w0 => ?_
  (repeat (first | refine GK.ro ?_ | (refine GK.box ?_; intro bl) | (refine GK.mkMap ?_; intro bm) | (refine GK.build0 tb ?_; intro bs)))
  refine GQ.fin1 rfl (Rv.tmp rfl) (fun _ s => Sat.sub (by repeat (first | exact SubR.nil | apply SubR.cons 0 rfl | apply SubR.cons 1 rfl | apply SubR.cons 2 rfl | apply SubR.cons 3 rfl | apply SubR.cons 4 rfl | apply SubR.cons 5 rfl | apply SubR.cons 6 rfl | apply SubR.cons 7 rfl | apply SubR.cons 8 rfl | apply SubR.cons 9 rfl | apply SubR.cons 10 rfl | apply SubR.cons 11 rfl | apply SubR.cons 12 rfl | apply SubR.cons 13 rfl | apply SubR.cons 14 rfl | apply SubR.cons 15 rfl)) s) ⟨?_, rfl⟩
  congr 1; rw [Bool.eq_iff_iff]; simp
theorem passes_ok {p : Pr} {yv nv tv : Value} {yes no : List By} {n : Int} {ve : Bool} (hy : rs H yv yes.length 1 (strs yes)) (hn : rs H nv no.length 1 (strs no)) (ht : tv.oneCell' = true) (hh : p.h.length = 32)
    (n1 : yes.length ≤ 1099511627776) (n2 : no.length ≤ 1099511627776) :
    FnOk Go.Proofs.Try.prog 10 [.agg ⟨propC p yv nv tv⟩, .agg ⟨[.int .i64 n, .bool ve]⟩] [poolOf H] hF (fun v Γ => v = .bool (passM p yes no n ve) ∧ Γ = [poolOf H]) := by
  have hn0 := hn
  have hone := propC_one (p := p) hy.one hn.one ht
  have hlen := propC_len (y := yv) (n := nv) (t := tv) hh
  obtain ⟨py, cy, rfl, hcy, hly, hry⟩ := rs.out hy
  obtain ⟨pn, cn, rfl, hcn, hln, hrn⟩ := rs.out hn
  have k1 : (propC p (.slice py yes.length cy) (.slice pn no.length cn) tv)[0 + 36]? = some (.slice py yes.length cy) := propC_y hh
  have k2 : (propC p (.slice py yes.length cy) (.slice pn no.length cn) tv)[0 + 37]? = some (.slice pn no.length cn) := propC_n hh
  have k3 : (propC p (.slice py yes.length cy) (.slice pn no.length cn) tv)[0 + 35]? = some (.bool p.o) := propC_o hh
  refine FnOk.intro 52 Go.Proofs.Try.func10 rfl rfl fun w0 => ?_
  (repeat (first | refine GK.ro ?_ | (refine GK.box ?_; intro bl) | (refine GK.mkMap ?_; intro bm) | (refine GK.build0 tb ?_; intro bs)))
  rename_i b1
  generalize hc0 : propC p (.slice py yes.length cy) (.slice pn no.length cn) tv = cells at *
  refine GK.weak (fr' := [(2, .pointer (some ⟨b1, 0, none⟩)), (3, .pointer (some ⟨bl, 0, none⟩)), (5, .func (.func 31) #[] #[.pointer (some ⟨b1, 0, none⟩)]), (6, .map (some bm)), (13, .slice py yes.length cy), (14, .int .i64 (yes.length : Int)), (15, .int .i64 ((0 : Nat) : Int))])
    (Γ' := [mp bm ([] : List (By × Value)), blk bl 29 (0, 0) [.int .i64 n, .bool ve], blk b1 27 (0, 0) cells, poolOf H]) (by repeat (first | exact trivial | refine ⟨rfl, ?_⟩)) (fun w s => Sat.mp_new s)
    (G.loopN (X := Nat × List (By × Value)) (fun (j, _) => yes.length - j) (fun (j, _) => [(2, .pointer (some ⟨b1, 0, none⟩)), (3, .pointer (some ⟨bl, 0, none⟩)), (5, .func (.func 31) #[] #[.pointer (some ⟨b1, 0, none⟩)]), (6, .map (some bm)), (13, .slice py yes.length cy), (14, .int .i64 (yes.length : Int)), (15, .int .i64 (j : Int))])
    (fun (_, es) => [mp bm es, blk bl 29 (0, 0) [.int .i64 n, .bool ve], blk b1 27 (0, 0) cells, poolOf H])
    (fun (j, es) => j ≤ yes.length ∧ es.map (·.1) = uniq (others p.a (yes.take j)) ∧ Cnt es j) (fun x hx q hq => ?_) (0, []) ⟨Nat.zero_le _, by simp [uniq, others], fun k v hv => by simp [mget_nil] at hv⟩)
  obtain ⟨j, es⟩ := x
  obtain ⟨hj, hes, hct⟩ := hx
  dsimp only at hq
  (repeat (first | refine GK.ro ?_ | (refine GK.box ?_; intro bl) | (refine GK.mkMap ?_; intro bm) | (refine GK.build0 tb ?_; intro bs)))
  (first | refine G.condP rfl (fun hb => ?_) (fun hb => ?_) | refine G.condN rfl (fun hb => ?_) (fun hb => ?_) | refine G.cond rfl (fun hb => ?_) (fun hb => ?_))
  · obtain ⟨x, hx⟩ : ∃ x, yes[j]? = some x := ⟨_, List.getElem?_eq_getElem (by omega)⟩
    have hlt : j < yes.length := by omega
    clear hb
    obtain ⟨b2, o2, cs2, et2, fz2, rfl, hb2, hat2⟩ := hry (by omega)
    have hA : cs2[o2 + (j : Int).toNat * 1]? = some (str x) := by have := hat2 j _ (strs_get hx); simpa using this
    have hot := others_take (a := p.a) hx
    (repeat (first | refine GK.ro ?_ | (refine GK.box ?_; intro bl) | (refine GK.mkMap ?_; intro bm) | (refine GK.build0 tb ?_; intro bs)))
    refine GL.cons ?_; refine GO.callA (fun hF' hle hH => own_ok (p := p) (y := .slice (some ⟨b2, o2, none⟩) yes.length cy) (n := .slice pn no.length cn) (t := tv) (b := b1) (s := x)) (by first | exact Wt.none | exact Wt.some rfl rfl (by first | exact rfl | decide +kernel)) (by kernel_rfl) rfl rfl (by rw [hc0]; exact (by repeat (first | exact SubR.nil | apply SubR.cons 0 rfl | apply SubR.cons 1 rfl | apply SubR.cons 2 rfl | apply SubR.cons 3 rfl | apply SubR.cons 4 rfl | apply SubR.cons 5 rfl | apply SubR.cons 6 rfl | apply SubR.cons 7 rfl | apply SubR.cons 8 rfl | apply SubR.cons 9 rfl | apply SubR.cons 10 rfl | apply SubR.cons 11 rfl | apply SubR.cons 12 rfl | apply SubR.cons 13 rfl | apply SubR.cons 14 rfl | apply SubR.cons 15 rfl))) ?_
    rw [hc0]
    rintro v Γ' ⟨rfl, rfl⟩
    (repeat (first | refine GK.ro ?_ | (refine GK.box ?_; intro bl) | (refine GK.mkMap ?_; intro bm) | (refine GK.build0 tb ?_; intro bs)))
    (first | refine G.condP rfl (fun hb => ?_) (fun hb => ?_) | refine G.condN rfl (fun hb => ?_) (fun hb => ?_) | refine G.cond rfl (fun hb => ?_) (fun hb => ?_))
    · obtain ⟨n0, hn0', hn1⟩ := hct.get x
      (repeat (first | refine GK.ro ?_ | (refine GK.box ?_; intro bl) | (refine GK.mkMap ?_; intro bm) | (refine GK.build0 tb ?_; intro bs)))
      refine GL.cons ?_; refine GO.yield (by first | exact Wt.none | exact Wt.some rfl rfl (by first | exact rfl | decide +kernel)) (Yl.look1 1 (KeyT.str rfl) rfl rfl rfl rfl rfl hn0') ?_
      (repeat (first | refine GK.ro ?_ | (refine GK.box ?_; intro bl) | (refine GK.mkMap ?_; intro bm) | (refine GK.build0 tb ?_; intro bs)))
      refine GL.cons ?_; refine GO.mapUpdate 1 (by first | exact Wt.none | exact Wt.some rfl rfl (by first | exact rfl | decide +kernel)) (KeyT.str rfl) rfl rfl rfl rfl rfl ?_
      (repeat (first | refine GK.ro ?_ | (refine GK.box ?_; intro bl) | (refine GK.mkMap ?_; intro bm) | (refine GK.build0 tb ?_; intro bs)))
      (refine GQ.againN ((j + 1, mset es x (.int .i64 ((n0 : Int) + 1)))) ?_ ?_ ?_ ?_; rotate_left; (first | omega | (dsimp only; omega)); exact (by repeat (first | exact trivial | refine ⟨rfl, ?_⟩)); exact (fun _ s => Sat.sub (by repeat (first | exact SubR.nil | apply SubR.cons 0 rfl | apply SubR.cons 1 rfl | apply SubR.cons 2 rfl | apply SubR.cons 3 rfl | apply SubR.cons 4 rfl | apply SubR.cons 5 rfl | apply SubR.cons 6 rfl | apply SubR.cons 7 rfl | apply SubR.cons 8 rfl | apply SubR.cons 9 rfl | apply SubR.cons 10 rfl | apply SubR.cons 11 rfl | apply SubR.cons 12 rfl | apply SubR.cons 13 rfl | apply SubR.cons 14 rfl | apply SubR.cons 15 rfl)) s))
      refine ⟨by omega, ?_, hct.set hn1⟩
      rw [mset_keys, hes, hot, if_neg hb, uniq_snoc]
    · have hxa : x = p.a := by simpa using hb
      (repeat (first | refine GK.ro ?_ | (refine GK.box ?_; intro bl) | (refine GK.mkMap ?_; intro bm) | (refine GK.build0 tb ?_; intro bs)))
      (refine GQ.againN ((j + 1, es)) ?_ ?_ ?_ ?_; rotate_left; (first | omega | (dsimp only; omega)); exact (by repeat (first | exact trivial | refine ⟨rfl, ?_⟩)); exact (fun _ s => Sat.sub (by repeat (first | exact SubR.nil | apply SubR.cons 0 rfl | apply SubR.cons 1 rfl | apply SubR.cons 2 rfl | apply SubR.cons 3 rfl | apply SubR.cons 4 rfl | apply SubR.cons 5 rfl | apply SubR.cons 6 rfl | apply SubR.cons 7 rfl | apply SubR.cons 8 rfl | apply SubR.cons 9 rfl | apply SubR.cons 10 rfl | apply SubR.cons 11 rfl | apply SubR.cons 12 rfl | apply SubR.cons 13 rfl | apply SubR.cons 14 rfl | apply SubR.cons 15 rfl)) s))
      refine ⟨by omega, ?_, hct.mono⟩
      rw [hes, hot, if_pos hxa, List.append_nil]
  · have hjl : j = yes.length := by omega
    subst hjl
    rw [List.take_length] at hes
    have hlen' : es.length = (uniq (others p.a yes)).length := by rw [← hes]; simp
    have u1 := uniq_len (others p.a yes)
    have u2 := others_len p.a yes
    have u3 := others_len p.a no
    (repeat (first | refine GK.ro ?_ | (refine GK.box ?_; intro bl) | (refine GK.mkMap ?_; intro bm) | (refine GK.build0 tb ?_; intro bs)))
    refine GL.cons ?_; refine GO.callA (fun hF' hle hH => clone_ok hn0 n2) (by first | exact Wt.none | exact Wt.some rfl rfl (by first | exact rfl | decide +kernel)) (by kernel_rfl) rfl rfl (by repeat (first | exact SubR.nil | apply SubR.cons 0 rfl | apply SubR.cons 1 rfl | apply SubR.cons 2 rfl | apply SubR.cons 3 rfl | apply SubR.cons 4 rfl | apply SubR.cons 5 rfl | apply SubR.cons 6 rfl | apply SubR.cons 7 rfl | apply SubR.cons 8 rfl | apply SubR.cons 9 rfl | apply SubR.cons 10 rfl | apply SubR.cons 11 rfl | apply SubR.cons 12 rfl | apply SubR.cons 13 rfl | apply SubR.cons 14 rfl | apply SubR.cons 15 rfl)) ?_
    rintro v Γ' rfl
    refine GK.pure (fun w s => (row_len s).1) ?_
    rintro ⟨pw, cw, rfl⟩
    (repeat (first | refine GK.ro ?_ | (refine GK.box ?_; intro bl) | (refine GK.mkMap ?_; intro bm) | (refine GK.build0 tb ?_; intro bs)))
    refine GL.cons ?_; refine GO.callA (fun hF' hle hH => deleteFunc_ok (l := no) (g := fun s => decide (s = p.a)) (X := blk b1 27 (0, 0) cells) (f := 31) (cap := #[.pointer (some ⟨b1, 0, none⟩)]) n2 (by kernel_rfl) (fun s hF2 => by rw [← hc0]; exact own_ok)) (by first | exact Wt.none | exact Wt.some rfl rfl (by first | exact rfl | decide +kernel)) (by kernel_rfl) rfl rfl (by repeat (first | exact SubR.nil | apply SubR.cons 0 rfl | apply SubR.cons 1 rfl | apply SubR.cons 2 rfl | apply SubR.cons 3 rfl | apply SubR.cons 4 rfl | apply SubR.cons 5 rfl | apply SubR.cons 6 rfl | apply SubR.cons 7 rfl | apply SubR.cons 8 rfl | apply SubR.cons 9 rfl | apply SubR.cons 10 rfl | apply SubR.cons 11 rfl | apply SubR.cons 12 rfl | apply SubR.cons 13 rfl | apply SubR.cons 14 rfl | apply SubR.cons 15 rfl)) ?_
    rintro v Γ' ⟨⟨q2, d2, rfl⟩, rfl⟩
    cases ho : p.o with
    | false =>
      rw [ho] at k3
      (repeat' (first | refine GK.ro ?_ | (refine GK.box ?_; intro bl) | (refine GK.mkMap ?_; intro bm) | (refine GK.build0 tb ?_; intro bs) | (first | refine G.condP rfl (fun hb => ?_) (fun hb => ?_) | refine G.condN rfl (fun hb => ?_) (fun hb => ?_) | refine G.cond rfl (fun hb => ?_) (fun hb => ?_)) | ((fail_if_success refine GL.fork (b := true) rfl rfl ?_ ?_); (fail_if_success refine GL.fork (b := false) rfl rfl ?_ ?_); first | refine GL.forkP rfl rfl (fun hb => ?_) (fun hb => ?_) | refine GL.forkN rfl rfl (fun hb => ?_) (fun hb => ?_) | refine GL.fork rfl rfl (fun hb => ?_) (fun hb => ?_)) | ((fail_if_success refine GL.forkPick (b := true) rfl ?_ ?_); (fail_if_success refine GL.forkPick (b := false) rfl ?_ ?_); refine GL.forkPick rfl (fun hb => ?_) (fun hb => ?_))))
      all_goals (refine GQ.fin1 rfl (Rv.tmp rfl) (fun _ s => Sat.sub (by repeat (first | exact SubR.nil | apply SubR.cons 0 rfl | apply SubR.cons 1 rfl | apply SubR.cons 2 rfl | apply SubR.cons 3 rfl | apply SubR.cons 4 rfl | apply SubR.cons 5 rfl | apply SubR.cons 6 rfl | apply SubR.cons 7 rfl | apply SubR.cons 8 rfl | apply SubR.cons 9 rfl | apply SubR.cons 10 rfl | apply SubR.cons 11 rfl | apply SubR.cons 12 rfl | apply SubR.cons 13 rfl | apply SubR.cons 14 rfl | apply SubR.cons 15 rfl)) s) ⟨?_, rfl⟩; simp [passM, ho])
    | true =>
      rw [ho] at k3
      (repeat (first | refine GK.ro ?_ | (refine GK.box ?_; intro bl) | (refine GK.mkMap ?_; intro bm) | (refine GK.build0 tb ?_; intro bs)))
      refine GL.cons ?_; refine GO.yield (by first | exact Wt.none | exact Wt.some rfl rfl (by first | exact rfl | decide +kernel)) (by first | exact Yl.len_map 0 rfl rfl rfl | exact Yl.len_map 1 rfl rfl rfl | exact Yl.len_map 2 rfl rfl rfl | exact Yl.len_map 3 rfl rfl rfl) ?_
      (repeat' (first | refine GK.ro ?_ | (refine GK.box ?_; intro bl) | (refine GK.mkMap ?_; intro bm) | (refine GK.build0 tb ?_; intro bs) | (first | refine G.condP rfl (fun hb => ?_) (fun hb => ?_) | refine G.condN rfl (fun hb => ?_) (fun hb => ?_) | refine G.cond rfl (fun hb => ?_) (fun hb => ?_)) | ((fail_if_success refine GL.fork (b := true) rfl rfl ?_ ?_); (fail_if_success refine GL.fork (b := false) rfl rfl ?_ ?_); first | refine GL.forkP rfl rfl (fun hb => ?_) (fun hb => ?_) | refine GL.forkN rfl rfl (fun hb => ?_) (fun hb => ?_) | refine GL.fork rfl rfl (fun hb => ?_) (fun hb => ?_)) | ((fail_if_success refine GL.forkPick (b := true) rfl ?_ ?_); (fail_if_success refine GL.forkPick (b := false) rfl ?_ ?_); refine GL.forkPick rfl (fun hb => ?_) (fun hb => ?_))))
      all_goals (refine GQ.fin1 rfl (Rv.tmp rfl) (fun _ s => Sat.sub (by repeat (first | exact SubR.nil | apply SubR.cons 0 rfl | apply SubR.cons 1 rfl | apply SubR.cons 2 rfl | apply SubR.cons 3 rfl | apply SubR.cons 4 rfl | apply SubR.cons 5 rfl | apply SubR.cons 6 rfl | apply SubR.cons 7 rfl | apply SubR.cons 8 rfl | apply SubR.cons 9 rfl | apply SubR.cons 10 rfl | apply SubR.cons 11 rfl | apply SubR.cons 12 rfl | apply SubR.cons 13 rfl | apply SubR.cons 14 rfl | apply SubR.cons 15 rfl)) s) ⟨?_, rfl⟩)
      · rename_i h9
        rw [hlen'] at h9
        unfold passM; rw [ho, decide_eq_true h9, hb]; simp [others]
      · rename_i h9
        rw [hlen'] at h9
        unfold passM; rw [ho, decide_eq_true h9, hb]; simp
      · rw [hlen'] at hb
        unfold passM; rw [ho, decide_eq_false hb]; simp
end Go.Re
