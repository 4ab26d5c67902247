/- The tree's nodes in memory; sort.Search; find. -/
import Derived.Test.YtkmdehoofnlkbaaEnZ
import Derived.Test.YtkmdehoofnlkbaaTrP
namespace Go.Tr
open Go Go.Sl
abbrev nptr (b : Nat) : Value := .pointer (some ⟨b, 0, none⟩)
def entC (e : En) : List Value := [str e.1, str e.2]
def ents (l : List En) : List Value := l.flatMap entC
def ptrs (l : List Nat) : List Value := l.flatMap fun b => [nptr b]
theorem ents_len (l : List En) : (ents l).length = l.length * 2 := flatMap_len fun _ => rfl
theorem ptrs_len (l : List Nat) : (ptrs l).length = l.length * 1 := flatMap_len fun _ => rfl
theorem ents_get {l : List En} {i : Nat} {e : En} (h : l[i]? = some e) : (ents l)[i * 2 + 0]? = some (str e.1) ∧ (ents l)[i * 2 + 1]? = some (str e.2) := ⟨flatMap_get (f := entC) (sz := 2) (fun _ => rfl) h rfl, flatMap_get (f := entC) (sz := 2) (fun _ => rfl) h rfl⟩
theorem ents_one (l : List En) : ∀ u ∈ ents l, u.oneCell' = true := by
  intro u hu
  obtain ⟨e, _, he⟩ := List.mem_flatMap.1 hu
  simp [entC] at he
  rcases he with rfl | rfl <;> rfl
theorem ptrs_one (l : List Nat) : ∀ u ∈ ptrs l, u.oneCell' = true := by
  intro u hu
  obtain ⟨e, _, he⟩ := List.mem_flatMap.1 hu
  simp at he
  subst he; rfl
theorem ptrs_get {l : List Nat} {i : Nat} {b : Nat} (h : l[i]? = some b) : (ptrs l)[i * 1]? = some (nptr b) := by have := flatMap_get (f := fun b => [nptr b]) (sz := 1) (fun _ => rfl) h (j := 0) rfl; rw [Nat.add_zero] at this; exact this
/-- At b lies a node with t's entries; its kids lie at ps. -/
structure NodeAt (H : Hp) (t : T) (b : Nat) (lv kv : Value) (ps : List Nat) : Prop where
  nd : H b = some (.cells ⟨[lv, kv]⟩ 65 (0, 0))
  l : rs H lv t.l.length 2 (ents t.l)
  k : rs H kv t.ks.length 1 (ptrs ps)
  len : ps.length = t.ks.length
def TAt (H : Hp) : Nat → T → Nat → Prop
  | 0, t, b => ∃ lv kv ps, NodeAt H t b lv kv ps
  | d + 1, t, b => ∃ lv kv ps, NodeAt H t b lv kv ps ∧ ∀ (i : Nat) p k, ps[i]? = some p → t.ks[i]? = some k → TAt H d k p
def KidsAt (H : Hp) : Nat → List T → List Nat → Prop
  | 0, _, _ => True
  | d + 1, ks, ps => ∀ (i : Nat) p k, ps[i]? = some p → ks[i]? = some k → TAt H d k p
theorem TAt.node {H : Hp} {d : Nat} {t : T} {b : Nat} (h : TAt H d t b) : ∃ lv kv ps, NodeAt H t b lv kv ps ∧ KidsAt H d t.ks ps := by
  cases d with
  | zero => obtain ⟨lv, kv, ps, h⟩ := h; exact ⟨lv, kv, ps, h, trivial⟩
  | succ d => exact h
theorem TAt.mk {H : Hp} {d : Nat} {t : T} {b : Nat} {lv kv : Value} {ps : List Nat} (h : NodeAt H t b lv kv ps) (hk : KidsAt H d t.ks ps) : TAt H d t b := by
  cases d with
  | zero => exact ⟨lv, kv, ps, h⟩
  | succ d => exact ⟨lv, kv, ps, h, hk⟩
theorem NodeAt.mono {H H' : Hp} {t : T} {b : Nat} {lv kv : Value} {ps : List Nat} (h : NodeAt H t b lv kv ps) (hl : le H H') : NodeAt H' t b lv kv ps := ⟨hl _ _ h.nd, h.l.mono hl, h.k.mono hl, h.len⟩
theorem TAt.mono {H H' : Hp} (hl : le H H') : ∀ {d : Nat} {t : T} {b : Nat}, TAt H d t b → TAt H' d t b
  | 0, _, _, ⟨lv, kv, ps, h⟩ => ⟨lv, kv, ps, h.mono hl⟩
  | _ + 1, _, _, ⟨lv, kv, ps, h, hk⟩ => ⟨lv, kv, ps, h.mono hl, fun i p k h1 h2 => (hk i p k h1 h2).mono hl⟩
theorem KidsAt.mono {H H' : Hp} (hl : le H H') {d : Nat} {ks : List T} {ps : List Nat} (h : KidsAt H d ks ps) : KidsAt H' d ks ps := by
  cases d with
  | zero => trivial
  | succ d => exact fun i p k h1 h2 => (h i p k h1 h2).mono hl
theorem half_of (i j : Nat) (h : i + j < 4611686018427387904) : IntKind.i64.wrap ((IntKind.u64.wrap ((i : Int) + (j : Int))).fdiv (2 ^ min (1 : Int).toNat IntKind.u64.bits)) = (((i + j) / 2 : Nat) : Int) := by
  have h1 : IntKind.u64.wrap ((i : Int) + (j : Int)) = ((i + j : Nat) : Int) := by
    simp only [IntKind.wrap, IntKind.bits, IntKind.signed]
    simp
    omega
  rw [h1]
  have h2 : (((i + j : Nat) : Int)).fdiv (2 ^ min (1 : Int).toNat IntKind.u64.bits) = (((i + j) / 2 : Nat) : Int) := by
    show Int.fdiv ((i + j : Nat) : Int) 2 = _
    rw [Int.fdiv_eq_ediv_of_nonneg _ (by omega)]
    omega
  rw [h2, IntWalk.i64_in _ (by omega)]
attribute [local irreducible] GK GO Yl Wt Ef Hd GH KH wpListIn Code.wpIn toBody roundQ poolOf rs RS YieldOk IterOk VOk row star exs mp lp Sat pt FnOk Rd bodyPost bodyPostM Lv Ret Exit.then Exit.inBlock Exit.noGoto Int.decLt Int.decLe Int.instDecidableEq
variable {hF : Hp}
/-- sort.Search over a function that answers p and leaves memory as it was. -/
theorem search_ok (n : Nat) (hn : n < 1000000000000) (fv : Value) (p : Nat → Bool) (Γc : List HProp) (hf : ∀ i hF', i < n → le hF hF' → VOk Go.Proofs.Try.prog fv [.int .i64 i] Γc hF' (fun v Γ => v = .bool (p i) ∧ Γ = Γc)) :
    FnOk Go.Proofs.Try.prog 41 [.int .i64 n, fv] Γc hF (fun v Γ => ∃ i : Nat, v = .int .i64 i ∧ i ≤ n ∧ (∀ j, j + 1 = i → p j = false) ∧ (i < n → p i = true) ∧ Γ = Γc) := by
  refine FnOk.intro 26 Go.Proofs.Try.func41 rfl rfl fun w0 => ?_
  (repeat (first | refine GK.run ?_ | (refine GK.box ?_; intro bl) | (refine GK.mkMap ?_; intro bm) | (refine GK.build0 tb ?_; intro bs)))
  refine GK.weak (by repeat (first | exact trivial | refine ⟨rfl, ?_⟩)) (fun w s => s) (G.loop (fun x : Nat × Nat => x.2 - x.1) (fun x => [(1, fv), (5, .int .i64 x.1), (6, .int .i64 x.2)]) (fun _ => Γc)
    (fun x => x.1 ≤ x.2 ∧ x.2 ≤ n ∧ (∀ j, j + 1 = x.1 → p j = false) ∧ (x.2 < n → p x.2 = true)) (fun x hx => ?_) (0, n) ⟨Nat.zero_le _, Nat.le_refl _, (fun j hj => by cases hj), (fun h => absurd h (Nat.lt_irrefl _))⟩)
  obtain ⟨i, j⟩ := x
  obtain ⟨h1, h2, h3, h4⟩ := hx
  replace h1 : i ≤ j := h1
  replace h2 : j ≤ n := h2
  replace h3 : ∀ k, k + 1 = i → p k = false := h3
  replace h4 : j < n → p j = true := h4
  (repeat (first | refine GK.run ?_ | (refine GK.box ?_; intro bl) | (refine GK.mkMap ?_; intro bm) | (refine GK.build0 tb ?_; intro bs)))
  refine G.cond rfl (fun h => ?_) (fun h => ?_)
  · have h : i < j := by simpa using h
    (repeat (first | refine GK.run ?_ | (refine GK.box ?_; intro bl) | (refine GK.mkMap ?_; intro bm) | (refine GK.build0 tb ?_; intro bs)))
    refine GL.cons ?_
    refine GO.yield (by first | exact Wt.none | exact Wt.some rfl rfl (by first | exact rfl | decide +kernel)) (Yl.shr rfl rfl (by omega)) ?_
    (repeat (first | refine GK.run ?_ | (refine GK.box ?_; intro bl) | (refine GK.mkMap ?_; intro bm) | (refine GK.build0 tb ?_; intro bs)))
    rw [half_of i j (by omega)]
    have hm : (i + j) / 2 < n := by omega
    (repeat (first | refine GK.run ?_ | (refine GK.box ?_; intro bl) | (refine GK.mkMap ?_; intro bm) | (refine GK.build0 tb ?_; intro bs)))
    refine GL.cons ?_
    refine GO.callV (Γr := []) (fun hF' hle _ => hf ((i + j) / 2) hF' hm hle) (by first | exact Wt.none | exact Wt.some rfl rfl (by first | exact rfl | decide +kernel)) rfl rfl (by rw [List.append_nil]) ?_
    rintro v Γ' ⟨rfl, rfl⟩
    rw [List.append_nil]
    (repeat (first | refine GK.run ?_ | (refine GK.box ?_; intro bl) | (refine GK.mkMap ?_; intro bm) | (refine GK.build0 tb ?_; intro bs)))
    refine G.cond rfl (fun hp => ?_) (fun hp => ?_)
    · have hp : p ((i + j) / 2) = false := by simpa using hp
      (repeat (first | refine GK.run ?_ | (refine GK.box ?_; intro bl) | (refine GK.mkMap ?_; intro bm) | (refine GK.build0 tb ?_; intro bs)))
      exact GQ.again ((i + j) / 2 + 1, j) ⟨by omega, h2, by intro k hk; have : k = (i + j) / 2 := by omega
                                                            rw [this]; exact hp, h4⟩ (by show j - ((i + j) / 2 + 1) < j - i; omega) (by repeat (first | exact trivial | refine ⟨rfl, ?_⟩)) (fun w s => s)
    · have hp : p ((i + j) / 2) = true := by simpa using hp
      (repeat (first | refine GK.run ?_ | (refine GK.box ?_; intro bl) | (refine GK.mkMap ?_; intro bm) | (refine GK.build0 tb ?_; intro bs)))
      exact GQ.again (i, (i + j) / 2) ⟨by omega, by omega, h3, fun _ => hp⟩ (by show (i + j) / 2 - i < j - i; omega) (by repeat (first | exact trivial | refine ⟨rfl, ?_⟩)) (fun w s => s)
  · have h : i = j := by simp at h; omega
    subst h
    (repeat (first | refine GK.run ?_ | (refine GK.box ?_; intro bl) | (refine GK.mkMap ?_; intro bm) | (refine GK.build0 tb ?_; intro bs)))
    exact GQ.end1 rfl rfl ⟨i, rfl, h2, h3, h4, rfl⟩
end Go.Tr
