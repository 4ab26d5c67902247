/- A law's acts as plain data; few; lives. -/
import Derived.Test.YtkmdehoofnlkbaaTrW
import Derived.Test.YtkmdehoofnlkbaaEnS
namespace Go.Tr
open Go Go.Sl
structure Ac.Ok (a : Ac) : Prop where
  n : -9223372036854775808 ≤ a.n ∧ a.n ≤ 9223372036854775807
  key : a.key.length ≤ 140737488351232
  val : a.val.length ≤ 140737488351232
def acts (l : List Ac) : List Value := l.flatMap acC
def roActs (hF : Hp) (v : Value) (l : List Ac) : Prop := ro hF v l.length (acts l) ∧ l.length ≤ 140737488351232 ∧ ∀ a ∈ l, a.Ok
theorem acts_at {l : List Ac} {i : Nat} {a : Ac} (h : l[i]? = some a) : At (acts l) (i * 4) (acC a) := flatMap_at (f := acC) (sz := 4) (fun _ => rfl) h
theorem acC_len (a : Ac) : (acC a).length = 4 := rfl
theorem acC_one (a : Ac) : ∀ u ∈ acC a, u.oneCell' = true := cons_one rfl (cons_one rfl (cons_one rfl (cons_one rfl (by simp))))
theorem roActs.mono {hF hF' : Hp} {v : Value} {l : List Ac} (h : roActs hF v l) (hl : le hF hF') : roActs hF' v l := ⟨h.1.mono hl, h.2⟩
theorem acts_of {H : Type} {enc : TypeId × Value → H} {W : World} {cs : List Value} {d : DataW H} (h : Reads enc Go.Proofs.Try.prog W 22 cs d) : ∃ v l, cs = [v] ∧ roActs (mem W) v l := by
  obtain ⟨v, els, h1, h2, h3, h4⟩ := h.slice (e := 29) (sz := 4) rfl (by kernel_rfl) (by omega)
  have hb : (Go.Proofs.Try.prog).bytesOf 29 = 48 := by kernel_rfl
  rw [hb] at h3
  have key : ∀ r ∈ els, ∃ a, r = acC a ∧ a.Ok := fun r hr => by
    obtain ⟨hlen, d', hd⟩ := h4 r hr
    obtain ⟨_, q0⟩ := hd.field rfl 0 rfl
    obtain ⟨_, q1⟩ := hd.field rfl 1 rfl
    obtain ⟨_, q2⟩ := hd.field rfl 2 rfl
    obtain ⟨_, q3⟩ := hd.field rfl 3 rfl
    obtain ⟨kind, e0, w0⟩ := q0.int rfl
    obtain ⟨k, e1, w1⟩ := q1.str rfl
    obtain ⟨v, e2, w2⟩ := q2.str rfl
    obtain ⟨n, e3, w3⟩ := q3.int rfl
    refine ⟨⟨kind, k, v, n⟩, ?_, ⟨i64_of w3, w1, w2⟩⟩
    match r, hlen, e0, e1, e2, e3 with
    | [a0, a1, a2, a3], _, e0, e1, e2, e3 =>
      have e0 : [a0] = [Value.int .i64 kind] := e0
      have e1 : [a1] = [Sl.str k] := e1
      have e2 : [a2] = [Sl.str v] := e2
      have e3 : [a3] = [Value.int .i64 n] := e3
      cases e0; cases e1; cases e2; cases e3; rfl
  obtain ⟨l, hl, ha⟩ := list_of key
  subst hl
  refine ⟨v, l, h1, ?_, ?_, ha⟩
  · have := h2
    rw [List.length_map] at this
    unfold acts
    rw [List.flatMap_def]; exact this
  · rw [List.length_map] at h3
    have : reachBytes = 140737488351232 := rfl
    omega
def wt (a : Ac) : Nat := 1 + (a.key.length + a.val.length) / 50
def fewM (l : List Ac) : Bool := decide ((l.map wt).sum ≤ 400)
theorem fewM_len {l : List Ac} (h : fewM l = true) : l.length ≤ 400 ∧ ∀ a ∈ l, a.key.length < 20050 ∧ a.val.length < 20050 := by
  have h : (l.map wt).sum ≤ 400 := of_decide_eq_true h
  have key : ∀ l : List Ac, l.length ≤ (l.map wt).sum ∧ ∀ a ∈ l, wt a ≤ (l.map wt).sum := by
    intro l
    induction l with
    | nil => simp
    | cons a l ih =>
      obtain ⟨h1, h2⟩ := ih
      simp only [List.map_cons, List.sum_cons, List.length_cons, List.mem_cons, forall_eq_or_imp]
      have : 1 ≤ wt a := by unfold wt; omega
      refine ⟨by omega, by omega, fun x hx => ?_⟩
      have := h2 x hx
      omega
  obtain ⟨h1, h2⟩ := key l
  refine ⟨by omega, fun a ha => ?_⟩
  have := h2 a ha
  have e : wt a = 1 + (a.key.length + a.val.length) / 50 := rfl
  omega
theorem sum_take (l : List Ac) (i : Nat) : ((l.take i).map wt).sum ≤ (l.map wt).sum := by
  have : (l.map wt).sum = ((l.take i).map wt).sum + ((l.drop i).map wt).sum := by rw [← List.sum_append, ← List.map_append, List.take_append_drop]
  omega
def m1 : M := ⟨some (0, .mk [([98], [49])] []), 1⟩
def m2 : M := ⟨some (0, .mk [([97], [50]), ([98], [49])] []), 2⟩
def m3 : M := ⟨some (0, .mk [([97], [51]), ([98], [49])] []), 2⟩
theorem l1 : M.empty.put ([98], [49]) = (m1, false) := rfl
theorem l2 : m1.put ([97], [50]) = (m2, false) := rfl
theorem l3 : m2.put ([97], [51]) = (m3, true) := rfl
theorem l4 : lget m3.ents [97] = some [51] := rfl
theorem l5 : lscan m3.ents [] [98] = [([97], [51])] := rfl
theorem m1_ok : m1.Ok := by have := (M.put_ok M.Ok.empty ([98], [49])).1; rw [l1] at this; exact this
theorem m2_ok : m2.Ok := by have := (M.put_ok m1_ok ([97], [50])).1; rw [l2] at this; exact this
theorem m3_ok : m3.Ok := by have := (M.put_ok m2_ok ([97], [51])).1; rw [l3] at this; exact this
theorem Sat.pool_emp {Γ : List HProp} {hF : Hp} {w : World} (s : Sat Γ hF w) : Sat (poolOf emp :: Γ) hF w := by
  obtain ⟨hs, a, q, c, d⟩ := s
  refine ⟨emp :: hs, ⟨rfl, a⟩, ⟨(apart_emp _).symm, fun k _ => apart_emp _, q⟩, c, fun k hk => ?_⟩
  rcases List.mem_cons.1 hk with rfl | hk
  · intro b o h; cases h
  · exact d k hk
attribute [local irreducible] GK GO Yl Wt Ef Hd GH KH wpListIn Code.wpIn toBody roundQ poolOf rs RS YieldOk IterOk VOk row star exs mp lp Sat pt FnOk Rd bodyPost bodyPostM Lv Ret Exit.then Exit.inBlock Exit.noGoto Int.decLt Int.decLe Int.instDecidableEq
attribute [local irreducible] ents ptrs hasH less dset num M.put M.del bulk acts
set_option pp.deepTerms true
set_option pp.maxSteps 1000000
variable {hF H : Hp}
theorem few_ok {v : Value} {l : List Ac} (hv : roActs hF v l) : FnOk Go.Proofs.Try.prog 8 [v] [] hF (fun r Γ => r = .bool (fewM l) ∧ Γ = []) := by
  obtain ⟨⟨p, c, rfl, hr⟩, hl, hok⟩ := hv
  refine FnOk.intro 26 Go.Proofs.Try.func8 rfl rfl fun w0 => ?_
  (repeat (first | refine GK.run ?_ | (refine GK.box ?_; intro bl) | (refine GK.mkMap ?_; intro bm) | (refine GK.build0 tb ?_; intro bs)))
  refine GK.weak (by repeat (first | exact trivial | refine ⟨rfl, ?_⟩)) (fun w s => s) (G.loop (fun x : Nat => l.length - x) (fun x => [(6, .slice p l.length c), (7, .int .i64 (l.length : Int)), (3, .int .i64 ((((l.take x).map wt).sum : Nat) : Int)), (8, .int .i64 (x : Int))]) (fun _ => []) (fun x => x ≤ l.length ∧ ((l.take x).map wt).sum ≤ 400) (fun i hi => ?_) 0 ⟨Nat.zero_le _, by simp⟩)
  obtain ⟨hi, hs⟩ := hi
  obtain ⟨s, hs0⟩ : ∃ s, ((l.take i).map wt).sum = s := ⟨_, rfl⟩
  rw [hs0] at hs ⊢
  (repeat (first | refine GK.run ?_ | (refine GK.box ?_; intro bl) | (refine GK.mkMap ?_; intro bm) | (refine GK.build0 tb ?_; intro bs)))
  refine G.cond rfl (fun h0 => ?_) (fun h0 => ?_)
  · have h0 : i < l.length := by simpa using h0
    obtain ⟨a, ha⟩ : ∃ a, l[i]? = some a := ⟨_, List.getElem?_eq_getElem h0⟩
    obtain ⟨bb, o, cs, et, fz, rfl, hbb, hat⟩ := hr (by omega)
    have hAt : At cs (o + (i : Int).toNat * 4) (acC a) := at_trans hat (acts_at ha)
    have hlen := acC_len a
    have haok := hok a (List.mem_of_getElem? ha)
    have hk := haok.key
    have hvl := haok.val
    have hnext : ((l.take (i + 1)).map wt).sum = s + wt a := by rw [take_next ha, List.map_append, List.sum_append, hs0]; simp
    have e : IntKind.i64.wrap (((a.key.length : Int) + (a.val.length : Int)).tdiv 50) = (((a.key.length + a.val.length) / 50 : Nat) : Int) := by
      rw [Int.tdiv_eq_ediv_of_nonneg (by omega), IntWalk.i64_in _ (by omega)]
      omega
    (repeat (first | refine GK.run ?_ | (refine GK.box ?_; intro bl) | (refine GK.mkMap ?_; intro bm) | (refine GK.build0 tb ?_; intro bs)))
    refine GL.cons ?_; refine Gt.allocAny tb (by first | exact Wt.none | exact Wt.some rfl rfl (by first | exact rfl | decide +kernel)) (by exact rfl) (by exact rfl) ?_
    intro br lr hlr
    (repeat (first | refine GK.run ?_ | (refine GK.box ?_; intro bl) | (refine GK.mkMap ?_; intro bm) | (refine GK.build0 tb ?_; intro bs)))
    refine GL.cons ?_
    refine Gt.storeAny tb 0 (by first | exact Wt.none | exact Wt.some rfl rfl (by first | exact rfl | decide +kernel)) rfl rfl rfl (acC_len a) (acC_one a) rfl hlr ?_
    (repeat (first | refine GK.run ?_ | (refine GK.box ?_; intro bl) | (refine GK.mkMap ?_; intro bm) | (refine GK.build0 tb ?_; intro bs)))
    rw [e]
    have ew : ((s + wt a : Nat) : Int) = (s : Int) + (1 + (((a.key.length + a.val.length) / 50 : Nat) : Int)) := by unfold wt; omega
    refine G.cond rfl (fun h4 => ?_) (fun h4 => ?_)
    · have h4 : 400 < s + wt a := by
        have h4 : (400 : Int) < (s : Int) + (1 + (((a.key.length + a.val.length) / 50 : Nat) : Int)) := by simpa using h4
        omega
      have hf : fewM l = false := decide_eq_false (by have := sum_take l (i + 1); omega)
      rw [hf]
      (repeat (first | refine GK.run ?_ | (refine GK.box ?_; intro bl) | (refine GK.mkMap ?_; intro bm) | (refine GK.build0 tb ?_; intro bs)))
      exact GQ.fin1 rfl (Rv.tmp rfl) (fun w s => s.drop) ⟨rfl, rfl⟩
    · have h4 : ¬ 400 < s + wt a := by
        have h4 : ¬ (400 : Int) < (s : Int) + (1 + (((a.key.length + a.val.length) / 50 : Nat) : Int)) := by simpa using h4
        omega
      (repeat (first | refine GK.run ?_ | (refine GK.box ?_; intro bl) | (refine GK.mkMap ?_; intro bm) | (refine GK.build0 tb ?_; intro bs)))
      refine GQ.again (i + 1) ⟨by omega, by omega⟩ (by show l.length - (i + 1) < l.length - i; omega) ?_ (fun w s => s.drop)
      show Sub [(6, _), (7, _), (3, .int .i64 ((((l.take (i + 1)).map wt).sum : Nat) : Int)), (8, _)] _
      rw [hnext, ew]
      exact (by repeat (first | exact trivial | refine ⟨rfl, ?_⟩))
  · have h0 : ¬ i < l.length := by simp at h0; omega
    have hf : fewM l = true := decide_eq_true (by rw [List.take_of_length_le (by omega)] at hs0; omega)
    rw [hf]
    (repeat (first | refine GK.run ?_ | (refine GK.box ?_; intro bl) | (refine GK.mkMap ?_; intro bm) | (refine GK.build0 tb ?_; intro bs)))
    exact GQ.fin1 rfl (Rv.tmp rfl) (fun w s => s) ⟨rfl, rfl⟩
theorem lives_ok : FnOk Go.Proofs.Try.prog 9 [] [] hF (fun r Γ => r = .bool true ∧ Γ = []) := by
  refine FnOk.intro 43 Go.Proofs.Try.func9 rfl rfl fun w0 => ?_
  (repeat (first | refine GK.run ?_ | (refine GK.box ?_; intro bl) | (refine GK.mkMap ?_; intro bm) | (refine GK.build0 tb ?_; intro bs)))
  refine GL.cons ?_; refine GO.call [] (fun hF' hle hH => new_ok) (by first | exact Wt.none | exact Wt.some rfl rfl (by first | exact rfl | decide +kernel)) (by kernel_rfl) rfl rfl rfl ?_
  rintro v Γ' ⟨b, rfl, rfl⟩
  refine GK.heap (Γ' := [poolOf emp, mblk b (.pointer none) M.empty.n]) (fun w s => Sat.pool_emp s) ?_
  (repeat (first | refine GK.run ?_ | (refine GK.box ?_; intro bl) | (refine GK.mkMap ?_; intro bm) | (refine GK.build0 tb ?_; intro bs)))
  refine GL.cons ?_; refine GO.call [1,0] (fun hF' hle hH => mput_ok (m := M.empty) M.Ok.empty (rv := .pointer none) rfl (by decide) b ([98], [49])) (by first | exact Wt.none | exact Wt.some rfl rfl (by first | exact rfl | decide +kernel)) (by kernel_rfl) rfl rfl rfl ?_
  rintro v Γ' ⟨H1, rv1, le1, rfl, rfl, hr1⟩
  obtain ⟨q1, rfl⟩ := hr1.ptr
  rw [l1] at hr1 ⊢
  (repeat (first | refine GK.run ?_ | (refine GK.box ?_; intro bl) | (refine GK.mkMap ?_; intro bm) | (refine GK.build0 tb ?_; intro bs)))
  refine GL.cons ?_; refine GO.call [0,0] (fun hF' hle hH => mput_ok m1_ok hr1 (by decide) b ([97], [50])) (by first | exact Wt.none | exact Wt.some rfl rfl (by first | exact rfl | decide +kernel)) (by kernel_rfl) rfl rfl rfl ?_
  rintro v Γ' ⟨H2, rv2, le2, rfl, rfl, hr2⟩
  obtain ⟨q2, rfl⟩ := hr2.ptr
  rw [l2] at hr2 ⊢
  (repeat (first | refine GK.run ?_ | (refine GK.box ?_; intro bl) | (refine GK.mkMap ?_; intro bm) | (refine GK.build0 tb ?_; intro bs)))
  refine GL.cons ?_; refine GO.call [0,0] (fun hF' hle hH => mput_ok m2_ok hr2 (by decide) b ([97], [51])) (by first | exact Wt.none | exact Wt.some rfl rfl (by first | exact rfl | decide +kernel)) (by kernel_rfl) rfl rfl rfl ?_
  rintro v Γ' ⟨H3, rv3, le3, rfl, rfl, hr3⟩
  obtain ⟨q3, rfl⟩ := hr3.ptr
  rw [l3] at hr3 ⊢
  (repeat (first | refine GK.run ?_ | (refine GK.box ?_; intro bl) | (refine GK.mkMap ?_; intro bm) | (refine GK.build0 tb ?_; intro bs)))
  refine GL.cons ?_; refine GO.call [0] (fun hF' hle hH => mlen_ok b) (by first | exact Wt.none | exact Wt.some rfl rfl (by first | exact rfl | decide +kernel)) (by kernel_rfl) rfl rfl rfl ?_
  rintro v Γ' ⟨rfl, rfl⟩
  rw [show ((m3.n : Nat) : Int) = 2 from rfl]
  (repeat (first | refine GK.run ?_ | (refine GK.box ?_; intro bl) | (refine GK.mkMap ?_; intro bm) | (refine GK.build0 tb ?_; intro bs)))
  refine GL.cons ?_; refine GO.call [0,0] (fun hF' hle hH => mdepth_ok m3_ok hr3 b (by decide)) (by first | exact Wt.none | exact Wt.some rfl rfl (by first | exact rfl | decide +kernel)) (by kernel_rfl) rfl rfl rfl ?_
  rintro v Γ' ⟨rfl, rfl⟩
  rw [show ((m3.depth : Nat) : Int) = 1 from rfl]
  (repeat (first | refine GK.run ?_ | (refine GK.box ?_; intro bl) | (refine GK.mkMap ?_; intro bm) | (refine GK.build0 tb ?_; intro bs)))
  refine GL.cons ?_; refine GO.call [0,0] (fun hF' hle hH => mget_ok m3_ok hr3 b [97]) (by first | exact Wt.none | exact Wt.some rfl rfl (by first | exact rfl | decide +kernel)) (by kernel_rfl) rfl rfl rfl ?_
  rintro v Γ' ⟨rfl, rfl⟩
  rw [l4, show answer (some [51]) = .tuple #[str [51], .bool true] from rfl]
  (repeat (first | refine GK.run ?_ | (refine GK.box ?_; intro bl) | (refine GK.mkMap ?_; intro bm) | (refine GK.build0 tb ?_; intro bs)))
  refine GL.cons ?_; refine GO.call [0,0] (fun hF' hle hH => told_ok (A := mblk b (.pointer q3) m3.n) (k := []) (u := [98]) (fun hF' => scan_ok b [] [98]) hr3 m3_ok.root (by decide)) (by first | exact Wt.none | exact Wt.some rfl rfl (by first | exact rfl | decide +kernel)) (by kernel_rfl) rfl rfl rfl ?_
  rintro v Γ' ⟨H4, le4, rfl, hl4⟩
  have h5 : lscan (rflat m3.root) [] [98] = [([97], [51])] := l5
  rw [h5] at hl4
  (repeat (first | refine GK.run ?_ | (refine GK.box ?_; intro bl) | (refine GK.mkMap ?_; intro bm) | (refine GK.build0 tb ?_; intro bs)))
  refine GL.cons ?_
  refine Gt.buildLit tb (sz := 1) (n := 0) (by first | exact Wt.none | exact Wt.some rfl rfl (by first | exact rfl | decide +kernel)) rfl rfl (by kernel_rfl) rfl rfl rfl rfl rfl rfl ?_
  intro bx
  refine GK.sel [2, 0] rfl ?_
  refine GK.absorb fun H5 k5 le5 x5 y5 => ?_
  have hl5 : Lst H5 (.slice (some ⟨bx, 0, none⟩) 1 1) [([97], [51])] := by
    unfold Lst
    rw [ents_single]
    exact rs.mk (by decide) rfl fun _ => ⟨bx, 0, _, _, _, rfl, pt_in x5 y5, At.all _⟩
  (repeat (first | refine GK.run ?_ | (refine GK.box ?_; intro bl) | (refine GK.mkMap ?_; intro bm) | (refine GK.build0 tb ?_; intro bs)))
  refine GL.cons ?_; refine GO.call [0] (fun hF' hle hH => rsame_ok (hl4.mono le5) hl5 (by decide) (by decide)) (by first | exact Wt.none | exact Wt.some rfl rfl (by first | exact rfl | decide +kernel)) (by kernel_rfl) rfl rfl rfl ?_
  rintro v Γ' ⟨rfl, rfl⟩
  rw [beq_self_eq_true]
  (repeat (first | refine GK.run ?_ | (refine GK.box ?_; intro bl) | (refine GK.mkMap ?_; intro bm) | (refine GK.build0 tb ?_; intro bs)))
  exact GQ.fin1 rfl (Rv.tmp rfl) (fun w s => s.drop) ⟨rfl, rfl⟩
end Go.Tr
