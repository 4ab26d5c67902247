/- The library: the first place of a byte in a text; a text cut at a byte. -/
import Derived.Test.YtbbfhchceimflaaDoorEnO
set_option linter.unusedSimpArgs false
set_option linter.unusedVariables false
namespace Go.Lb
open Go Go.Sl
abbrev Ky := List UInt8
/-- The first place of a byte; -1: none. -/
def idxI (s : Ky) (c : UInt8) : Int := match s.findIdx? (· == c) with
  | some i => (i : Int)
  | none => -1
def cutM (s : Ky) (c : UInt8) : Ky × Ky × Bool := match s.findIdx? (· == c) with
  | some i => (s.take i, s.drop (i + 1), true)
  | none => (s, [], false)
theorem ba_get? (s : Ky) (i : Nat) : (⟨⟨s⟩⟩ : ByteArray)[i]? = s[i]? := by
  by_cases h : i < s.length
  · have h' : i < (⟨⟨s⟩⟩ : ByteArray).size := h
    rw [List.getElem?_eq_getElem h, getElem?_pos (⟨⟨s⟩⟩ : ByteArray) i h']; rfl
  · have h' : ¬ i < (⟨⟨s⟩⟩ : ByteArray).size := h
    rw [List.getElem?_eq_none (by omega), getElem?_neg (⟨⟨s⟩⟩ : ByteArray) i h']
theorem ba_get! (s : Ky) (i : Nat) : (⟨⟨s⟩⟩ : ByteArray)[i]! = s[i]?.getD default := by
  rw [getElem!_def, ba_get?]
  cases s[i]? <;> rfl
theorem range_find (s : Ky) (c : UInt8) : ((List.range s.length).find? fun i => (⟨⟨s⟩⟩ : ByteArray)[i]! == c) = s.findIdx? (· == c) := by
  cases h : s.findIdx? (· == c) with
  | none =>
    rw [List.find?_eq_none]
    intro i hi
    have hi : i < s.length := by simpa using hi
    rw [ba_get!, List.getElem?_eq_getElem hi]
    have := List.findIdx?_eq_none_iff.1 h s[i] (List.getElem_mem hi)
    simpa using this
  | some i =>
    obtain ⟨hi, h1, h2⟩ := List.findIdx?_eq_some_iff_getElem.1 h
    rw [List.find?_range_eq_some]
    refine ⟨?_, by simpa using hi, fun j hj => ?_⟩
    · rw [ba_get!, List.getElem?_eq_getElem hi]; simpa using h1
    · rw [ba_get!, List.getElem?_eq_getElem (by omega)]
      have := h2 j hj
      simpa using this
theorem run_indexByte {P : Program} (s : Ky) (c : UInt8) (w : World) : (Extern.BytealgIndexByte.indexByte [str s, .int .u8 c.toNat].toArray).run P w = .ok (.int .i64 (idxI s c)) w := by
  have e : ((c.toNat : Int).toNat).toUInt8 = c := by simp
  have h := range_find s c
  have h0 : Extern.BytealgIndexByte.indexByte [str s, .int .u8 c.toNat].toArray = (do
      let b ← Extern.Bytes.bytesOf (str s)
      let c ← Extern.Bytes.asByte (.int .u8 c.toNat)
      match (List.range b.size).find? fun i => b[i]! == c with
      | some i => pure (goInt i)
      | none => pure (goInt (-1))) := rfl
  have h1 : Extern.Bytes.bytesOf (str s) = pure ⟨⟨s⟩⟩ := rfl
  have h2 : Extern.Bytes.asByte (.int .u8 c.toNat) = pure c := by rw [← e]; simp [Extern.Bytes.asByte]
  rw [h0, h1, h2]
  unfold idxI
  rw [← h]
  cases hf : ((List.range s.length).find? fun i => (⟨⟨s⟩⟩ : ByteArray)[i]! == c) with
  | none =>
    have hf' : ((List.range (⟨⟨s⟩⟩ : ByteArray).size).find? fun i => (⟨⟨s⟩⟩ : ByteArray)[i]! == c) = none := hf
    simp [hf', goInt]
  | some i =>
    have hf' : ((List.range (⟨⟨s⟩⟩ : ByteArray).size).find? fun i => (⟨⟨s⟩⟩ : ByteArray)[i]! == c) = some i := hf
    simp [hf', goInt]
theorem idxI_bound (s : Ky) (c : UInt8) : -1 ≤ idxI s c ∧ idxI s c < s.length := by
  unfold idxI
  cases h : s.findIdx? (· == c) with
  | none => simp; omega
  | some i =>
    obtain ⟨hi, _⟩ := List.findIdx?_eq_some_iff_getElem.1 h
    simp; omega
set_option maxRecDepth 100000
set_option maxHeartbeats 4000000
attribute [local irreducible] GK GO Yl Wt Ef Hd GH KH wpListIn Code.wpIn toBody roundQ poolOf rs RS YieldOk IterOk VOk row star exs mp lp Sat pt FnOk Rd bodyPost bodyPostM Lv Ret Exit.then Exit.inBlock Exit.noGoto Int.decLt Int.decLe Int.instDecidableEq
set_option pp.deepTerms true
set_option pp.maxSteps 1000000
variable {hF : Hp}
theorem indexByte_ok (s : Ky) (c : UInt8) : FnOk Go.Proofs.Tryd.prog 105 [str s, .int .u8 c.toNat] [] hF (fun v Γ => v = .int .i64 (idxI s c) ∧ Γ = []) := by
  refine FnOk.intro 8 Go.Proofs.Tryd.func105 rfl rfl fun w0 => ?_
  (repeat (first | refine GK.run ?_ | (refine GK.box ?_; intro bl) | (refine GK.mkMap ?_; intro bm) | (refine GK.build0 tb ?_; intro bs)))
  refine GL.cons ?_
  refine GO.ext rfl rfl (by decide +kernel) (by kernel_rfl) (by kernel_rfl) (by first | exact Wt.none | exact Wt.some rfl rfl (by first | exact rfl | decide +kernel)) rfl rfl (fun w _ => run_indexByte s c w) ?_
  (repeat (first | refine GK.run ?_ | (refine GK.box ?_; intro bl) | (refine GK.mkMap ?_; intro bm) | (refine GK.build0 tb ?_; intro bs)))
  exact GQ.fin1 rfl (Rv.tmp rfl) (fun _ s => Sat.sub (by repeat (first | exact SubR.nil | apply SubR.cons 0 rfl | apply SubR.cons 1 rfl | apply SubR.cons 2 rfl | apply SubR.cons 3 rfl | apply SubR.cons 4 rfl | apply SubR.cons 5 rfl | apply SubR.cons 6 rfl | apply SubR.cons 7 rfl | apply SubR.cons 8 rfl | apply SubR.cons 9 rfl | apply SubR.cons 10 rfl | apply SubR.cons 11 rfl | apply SubR.cons 12 rfl | apply SubR.cons 13 rfl | apply SubR.cons 14 rfl | apply SubR.cons 15 rfl)) s) ⟨rfl, rfl⟩
theorem sIndexByte_ok (s : Ky) (c : UInt8) : FnOk Go.Proofs.Tryd.prog 96 [str s, .int .u8 c.toNat] [] hF (fun v Γ => v = .int .i64 (idxI s c) ∧ Γ = []) := by
  refine FnOk.intro 8 Go.Proofs.Tryd.func96 rfl rfl fun w0 => ?_
  (repeat (first | refine GK.run ?_ | (refine GK.box ?_; intro bl) | (refine GK.mkMap ?_; intro bm) | (refine GK.build0 tb ?_; intro bs)))
  refine GL.cons ?_; refine GO.callA (fun hF' hle hH => indexByte_ok s c) (by first | exact Wt.none | exact Wt.some rfl rfl (by first | exact rfl | decide +kernel)) (by kernel_rfl) rfl rfl (by repeat (first | exact SubR.nil | apply SubR.cons 0 rfl | apply SubR.cons 1 rfl | apply SubR.cons 2 rfl | apply SubR.cons 3 rfl | apply SubR.cons 4 rfl | apply SubR.cons 5 rfl | apply SubR.cons 6 rfl | apply SubR.cons 7 rfl | apply SubR.cons 8 rfl | apply SubR.cons 9 rfl | apply SubR.cons 10 rfl | apply SubR.cons 11 rfl | apply SubR.cons 12 rfl | apply SubR.cons 13 rfl | apply SubR.cons 14 rfl | apply SubR.cons 15 rfl)) ?_
  rintro v Γ' ⟨rfl, rfl⟩
  (repeat (first | refine GK.run ?_ | (refine GK.box ?_; intro bl) | (refine GK.mkMap ?_; intro bm) | (refine GK.build0 tb ?_; intro bs)))
  exact GQ.fin1 rfl (Rv.tmp rfl) (fun _ s => Sat.sub (by repeat (first | exact SubR.nil | apply SubR.cons 0 rfl | apply SubR.cons 1 rfl | apply SubR.cons 2 rfl | apply SubR.cons 3 rfl | apply SubR.cons 4 rfl | apply SubR.cons 5 rfl | apply SubR.cons 6 rfl | apply SubR.cons 7 rfl | apply SubR.cons 8 rfl | apply SubR.cons 9 rfl | apply SubR.cons 10 rfl | apply SubR.cons 11 rfl | apply SubR.cons 12 rfl | apply SubR.cons 13 rfl | apply SubR.cons 14 rfl | apply SubR.cons 15 rfl)) s) ⟨rfl, rfl⟩
theorem index_ok (s : Ky) (c : UInt8) : FnOk Go.Proofs.Tryd.prog 125 [str s, str [c]] [] hF (fun v Γ => v = .int .i64 (idxI s c) ∧ Γ = []) := by
  refine FnOk.intro 143 Go.Proofs.Tryd.func125 rfl rfl fun w0 => ?_
  (repeat (first | refine GK.run ?_ | (refine GK.box ?_; intro bl) | (refine GK.mkMap ?_; intro bm) | (refine GK.build0 tb ?_; intro bs)))
  rw [show decide ((([c] : Ky).length : Int) = 0) = false from decide_eq_false (by simp)]
  (repeat (first | refine GK.run ?_ | (refine GK.box ?_; intro bl) | (refine GK.mkMap ?_; intro bm) | (refine GK.build0 tb ?_; intro bs)))
  refine G.cond rfl (fun hq => ?_) (fun hq => ?_)
  · have hq : s = [c] := by
      have hq : [c] = s := by simpa using hq
      exact hq.symm
    subst hq
    have e : idxI [c] c = 0 := by simp [idxI]
    rw [e]
    (repeat (first | refine GK.run ?_ | (refine GK.box ?_; intro bl) | (refine GK.mkMap ?_; intro bm) | (refine GK.build0 tb ?_; intro bs)))
    exact GQ.fin1 rfl (Rv.tmp rfl) (fun _ s => Sat.sub (by repeat (first | exact SubR.nil | apply SubR.cons 0 rfl | apply SubR.cons 1 rfl | apply SubR.cons 2 rfl | apply SubR.cons 3 rfl | apply SubR.cons 4 rfl | apply SubR.cons 5 rfl | apply SubR.cons 6 rfl | apply SubR.cons 7 rfl | apply SubR.cons 8 rfl | apply SubR.cons 9 rfl | apply SubR.cons 10 rfl | apply SubR.cons 11 rfl | apply SubR.cons 12 rfl | apply SubR.cons 13 rfl | apply SubR.cons 14 rfl | apply SubR.cons 15 rfl)) s) ⟨rfl, rfl⟩
  · have hc : ([c] : Ky)[((0 : Int)).toNat]? = some c := rfl
    (repeat (first | refine GK.run ?_ | (refine GK.box ?_; intro bl) | (refine GK.mkMap ?_; intro bm) | (refine GK.build0 tb ?_; intro bs)))
    rw [show decide ((([c] : Ky).length : Int) = 1) = true from decide_eq_true (by simp)]
    (repeat (first | refine GK.run ?_ | (refine GK.box ?_; intro bl) | (refine GK.mkMap ?_; intro bm) | (refine GK.build0 tb ?_; intro bs)))
    refine GL.cons ?_; refine GO.callA (fun hF' hle hH => indexByte_ok s c) (by first | exact Wt.none | exact Wt.some rfl rfl (by first | exact rfl | decide +kernel)) (by kernel_rfl) rfl rfl (by repeat (first | exact SubR.nil | apply SubR.cons 0 rfl | apply SubR.cons 1 rfl | apply SubR.cons 2 rfl | apply SubR.cons 3 rfl | apply SubR.cons 4 rfl | apply SubR.cons 5 rfl | apply SubR.cons 6 rfl | apply SubR.cons 7 rfl | apply SubR.cons 8 rfl | apply SubR.cons 9 rfl | apply SubR.cons 10 rfl | apply SubR.cons 11 rfl | apply SubR.cons 12 rfl | apply SubR.cons 13 rfl | apply SubR.cons 14 rfl | apply SubR.cons 15 rfl)) ?_
    rintro v Γ' ⟨rfl, rfl⟩
    (repeat (first | refine GK.run ?_ | (refine GK.box ?_; intro bl) | (refine GK.mkMap ?_; intro bm) | (refine GK.build0 tb ?_; intro bs)))
    exact GQ.fin1 rfl (Rv.tmp rfl) (fun _ s => Sat.sub (by repeat (first | exact SubR.nil | apply SubR.cons 0 rfl | apply SubR.cons 1 rfl | apply SubR.cons 2 rfl | apply SubR.cons 3 rfl | apply SubR.cons 4 rfl | apply SubR.cons 5 rfl | apply SubR.cons 6 rfl | apply SubR.cons 7 rfl | apply SubR.cons 8 rfl | apply SubR.cons 9 rfl | apply SubR.cons 10 rfl | apply SubR.cons 11 rfl | apply SubR.cons 12 rfl | apply SubR.cons 13 rfl | apply SubR.cons 14 rfl | apply SubR.cons 15 rfl)) s) ⟨rfl, rfl⟩
theorem lcut_ok (s : Ky) (c : UInt8) (hs : s.length < 9223372036854775807) : FnOk Go.Proofs.Tryd.prog 117 [str s, str [c]] [] hF (fun v Γ => v = .tuple #[str (cutM s c).1, str (cutM s c).2.1, .bool (cutM s c).2.2] ∧ Γ = []) := by
  refine FnOk.intro 23 Go.Proofs.Tryd.func117 rfl rfl fun w0 => ?_
  (repeat (first | refine GK.run ?_ | (refine GK.box ?_; intro bl) | (refine GK.mkMap ?_; intro bm) | (refine GK.build0 tb ?_; intro bs)))
  refine GL.cons ?_; refine GO.callA (fun hF' hle hH => index_ok s c) (by first | exact Wt.none | exact Wt.some rfl rfl (by first | exact rfl | decide +kernel)) (by kernel_rfl) rfl rfl (by repeat (first | exact SubR.nil | apply SubR.cons 0 rfl | apply SubR.cons 1 rfl | apply SubR.cons 2 rfl | apply SubR.cons 3 rfl | apply SubR.cons 4 rfl | apply SubR.cons 5 rfl | apply SubR.cons 6 rfl | apply SubR.cons 7 rfl | apply SubR.cons 8 rfl | apply SubR.cons 9 rfl | apply SubR.cons 10 rfl | apply SubR.cons 11 rfl | apply SubR.cons 12 rfl | apply SubR.cons 13 rfl | apply SubR.cons 14 rfl | apply SubR.cons 15 rfl)) ?_
  rintro v Γ' ⟨rfl, rfl⟩
  have hb := idxI_bound s c
  cases h : s.findIdx? (· == c) with
  | none =>
    have hi : idxI s c = -1 := by unfold idxI; rw [h]
    have hcut : cutM s c = (s, [], false) := by unfold cutM; rw [h]
    rw [hcut, hi]
    (repeat (first | refine GK.ro ?_ | (refine GK.box ?_; intro bl) | (refine GK.mkMap ?_; intro bm) | (refine GK.build0 tb ?_; intro bs)))
    exact GQ.fin3 rfl (Rv.tmp rfl) (Rv.tmp rfl) (Rv.tmp rfl) (fun _ s => Sat.sub (by repeat (first | exact SubR.nil | apply SubR.cons 0 rfl | apply SubR.cons 1 rfl | apply SubR.cons 2 rfl | apply SubR.cons 3 rfl | apply SubR.cons 4 rfl | apply SubR.cons 5 rfl | apply SubR.cons 6 rfl | apply SubR.cons 7 rfl | apply SubR.cons 8 rfl | apply SubR.cons 9 rfl | apply SubR.cons 10 rfl | apply SubR.cons 11 rfl | apply SubR.cons 12 rfl | apply SubR.cons 13 rfl | apply SubR.cons 14 rfl | apply SubR.cons 15 rfl)) s) ⟨rfl, rfl⟩
  | some i =>
    have hi : idxI s c = i := by unfold idxI; rw [h]
    have hcut : cutM s c = (s.take i, s.drop (i + 1), true) := by unfold cutM; rw [h]
    rw [hi] at hb
    rw [hcut, hi]
    have hc : ([c] : Ky).length = 1 := rfl
    (repeat (first | refine GK.ro ?_ | (refine GK.box ?_; intro bl) | (refine GK.mkMap ?_; intro bm) | (refine GK.build0 tb ?_; intro bs)))
    refine G.draw [] [] (by kernel_rfl) ?_
    ((first | refine GH.to 0 ?_ | refine GH.tos 0 ?_); (first | refine GH.to 1 ?_ | refine GH.tos 1 ?_); (first | refine GH.to 2 ?_ | refine GH.tos 2 ?_); (first | refine GH.to 3 ?_ | refine GH.tos 3 ?_); (first | refine GH.to 4 ?_ | refine GH.tos 4 ?_); (first | refine GH.to 5 ?_ | refine GH.tos 5 ?_); (first | refine GH.to 6 ?_ | refine GH.tos 6 ?_); (first | refine GH.to 7 ?_ | refine GH.tos 7 ?_); (first | refine GH.to 8 ?_ | refine GH.tos 8 ?_); (first | refine GH.to 9 ?_ | refine GH.tos 9 ?_); (first | refine GH.to 10 ?_ | refine GH.tos 10 ?_); (first | refine GH.to 11 ?_ | refine GH.tos 11 ?_))
    refine GH.fin (by kernel_rfl) ?_
    (repeat (first | refine GK.ro ?_ | (refine GK.box ?_; intro bl) | (refine GK.mkMap ?_; intro bm) | (refine GK.build0 tb ?_; intro bs)))
    have e : ((i : Int) + (([c] : Ky).length : Int)).toNat = i + 1 := by omega
    rw [e]
    exact GQ.fin3 rfl (Rv.tmp rfl) (Rv.tmp rfl) (Rv.tmp rfl) (fun _ s => Sat.sub (by repeat (first | exact SubR.nil | apply SubR.cons 0 rfl | apply SubR.cons 1 rfl | apply SubR.cons 2 rfl | apply SubR.cons 3 rfl | apply SubR.cons 4 rfl | apply SubR.cons 5 rfl | apply SubR.cons 6 rfl | apply SubR.cons 7 rfl | apply SubR.cons 8 rfl | apply SubR.cons 9 rfl | apply SubR.cons 10 rfl | apply SubR.cons 11 rfl | apply SubR.cons 12 rfl | apply SubR.cons 13 rfl | apply SubR.cons 14 rfl | apply SubR.cons 15 rfl)) s) ⟨rfl, rfl⟩
theorem cut_ok (s : Ky) (c : UInt8) (hs : s.length < 9223372036854775807) : FnOk Go.Proofs.Tryd.prog 104 [str s, str [c]] [] hF (fun v Γ => v = .tuple #[str (cutM s c).1, str (cutM s c).2.1, .bool (cutM s c).2.2] ∧ Γ = []) := by
  refine FnOk.intro 13 Go.Proofs.Tryd.func104 rfl rfl fun w0 => ?_
  (repeat (first | refine GK.ro ?_ | (refine GK.box ?_; intro bl) | (refine GK.mkMap ?_; intro bm) | (refine GK.build0 tb ?_; intro bs)))
  refine GL.cons ?_; refine GO.callA (fun hF' hle hH => lcut_ok s c hs) (by first | exact Wt.none | exact Wt.some rfl rfl (by first | exact rfl | decide +kernel)) (by kernel_rfl) rfl rfl (by repeat (first | exact SubR.nil | apply SubR.cons 0 rfl | apply SubR.cons 1 rfl | apply SubR.cons 2 rfl | apply SubR.cons 3 rfl | apply SubR.cons 4 rfl | apply SubR.cons 5 rfl | apply SubR.cons 6 rfl | apply SubR.cons 7 rfl | apply SubR.cons 8 rfl | apply SubR.cons 9 rfl | apply SubR.cons 10 rfl | apply SubR.cons 11 rfl | apply SubR.cons 12 rfl | apply SubR.cons 13 rfl | apply SubR.cons 14 rfl | apply SubR.cons 15 rfl)) ?_
  rintro v Γ' ⟨rfl, rfl⟩
  (repeat (first | refine GK.ro ?_ | (refine GK.box ?_; intro bl) | (refine GK.mkMap ?_; intro bm) | (refine GK.build0 tb ?_; intro bs)))
  exact GQ.fin3 rfl (Rv.tmp rfl) (Rv.tmp rfl) (Rv.tmp rfl) (fun _ s => Sat.sub (by repeat (first | exact SubR.nil | apply SubR.cons 0 rfl | apply SubR.cons 1 rfl | apply SubR.cons 2 rfl | apply SubR.cons 3 rfl | apply SubR.cons 4 rfl | apply SubR.cons 5 rfl | apply SubR.cons 6 rfl | apply SubR.cons 7 rfl | apply SubR.cons 8 rfl | apply SubR.cons 9 rfl | apply SubR.cons 10 rfl | apply SubR.cons 11 rfl | apply SubR.cons 12 rfl | apply SubR.cons 13 rfl | apply SubR.cons 14 rfl | apply SubR.cons 15 rfl)) s) ⟨rfl, rfl⟩
end Go.Lb
