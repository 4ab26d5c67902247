/- slices.Sort of texts. -/
import Derived.Test.YtnealcbmgflaaaaLsB
import Derived.Test.YtnealcbmgflaaaaLsS
import Derived.Sort.EveryDepth
set_option linter.unusedSimpArgs false
set_option linter.unusedVariables false
namespace Go.Ls
open Go Go.Sl
variable {hF : Hp}
theorem put_sorted {tail : List Value} {l m : List By} (hm : m.length = l.length) : Go.Sort.putCells Go.Proofs.encStr 0 m.toArray ⟨strs l ++ tail⟩ = ⟨strs m ++ tail⟩ := by
  apply Array.ext_getElem?
  intro k
  unfold Go.Sort.putCells
  rw [Array.getElem?_mapIdx]
  simp only [List.getElem?_toArray, Nat.zero_le, true_and, List.size_toArray, Nat.zero_add, Nat.sub_zero]
  rcases Nat.lt_or_ge k m.length with h | h
  · rw [List.getElem?_append_left (by rw [strs_len]; omega), List.getElem?_append_left (by rw [strs_len]; omega), strs_get (List.getElem?_eq_getElem (h := by omega)), strs_get (List.getElem?_eq_getElem h)]
    simp only [Option.map_some, if_pos h]
    congr 1
    rw [getElem!_pos m.toArray k (by simpa using h)]
    simp [Go.Proofs.encStr, str]
  · rw [List.getElem?_append_right (by rw [strs_len]; omega), List.getElem?_append_right (by rw [strs_len]; omega), strs_len, strs_len, hm]
    cases tail[k - l.length]? with
    | none => rfl
    | some u => simp only [Option.map_some, if_neg (show ¬ k < l.length by omega)]
theorem sort_ok {l : List By} {p : Option Addr} {c : Nat} {e : TypeId} (hl : l.length < 4611686018427387904) :
    FnOk Go.Proofs.Try.prog 56 [.slice p l.length c] [row (.slice p l.length c) e 1 l.length (strs l)] hF (fun v Γ => v = .tuple #[] ∧ Γ = [row (.slice p l.length c) e 1 l.length (strs (sortS l))]) := fun w s => by
  rcases Nat.eq_zero_or_pos l.length with h0 | h0
  · have hl0 : l = [] := List.length_eq_zero_iff.1 h0
    subst hl0
    have := Go.calls_of_every_depth fun D => Go.Proofs.AnyS.slices_Sort_string_none_alone Go.Proofs.Try.laysSort D p c w
    rw [show Go.Proofs.Try.laysSort_ren.f 190 = 56 from rfl] at this
    refine Calls.mono this ?_
    rintro en w' ⟨rfl, rfl⟩
    exact ⟨_, _, rfl, ⟨rfl, rfl⟩, by simpa [sortS] using s, Same.refl _⟩
  · obtain ⟨x, hx, hs⟩ := s.opens
    cases x with
    | none => obtain ⟨_, h2, _⟩ := hx; omega
    | some q =>
      obtain ⟨b, c', tail, fz⟩ := q
      obtain ⟨hv, hnc, htl, hxl, hfr⟩ := hx
      cases hv
      have hb := hs.pt_head
      have hH : Go.Sort.Holds Go.Proofs.encStr w b 0 l.toArray := by
        intro j hj
        have hj' : j < l.length := by simpa using hj
        rw [cell_of hb, frozen_of hb]
        refine ⟨?_, ?_⟩
        · rw [Nat.zero_add, List.getElem?_append_left (by rw [strs_len]; omega), strs_get (List.getElem?_eq_getElem hj')]
          rw [getElem!_pos l.toArray j hj]
          simp [Go.Proofs.encStr, str]
        · have := free_spec hfr j (by simp [strs_len]; omega)
          simpa using this
      have hbl : b < w.heap.size := (Array.getElem?_eq_some_iff.1 hb).1
      have := Go.Proofs.Any.slices_Sort_string Go.Proofs.Try.laysSort b 0 c l w hH hbl hl
      rw [show Go.Proofs.Try.laysSort_ren.f 190 = 56 from rfl] at this
      refine Calls.mono this ?_
      rintro en w' ⟨rfl, n, os, rfl⟩
      have hw : (Go.Sort.putRow Go.Proofs.encStr (Go.Sort.ahead w n) b 0 (sortS l).toArray).heap[b]? = some (.cells ⟨strs (sortS l) ++ tail⟩ e fz) := by
        have hb2 : (Go.Sort.ahead w n).heap[b]? = some (.cells ⟨strs l ++ tail⟩ e fz) := hb
        unfold Go.Sort.putRow Go.Sort.mapBlock
        simp only [Array.getElem?_modify, if_true, hb2, Option.map_some, Go.Sort.onCells]
        exact congrArg (fun c => some (Obj.cells c e fz)) (put_sorted (sortS_len l))
      have ho : ∀ k, k ≠ b → (Go.Sort.putRow Go.Proofs.encStr (Go.Sort.ahead w n) b 0 (sortS l).toArray).heap[k]? = w.heap[k]? := by
        intro k hk
        unfold Go.Sort.putRow Go.Sort.mapBlock
        simp only [Array.getElem?_modify, if_neg (Ne.symm hk)]
        rfl
      have hs2 := hs.write_head hw ho
      refine ⟨_, _, rfl, ⟨rfl, rfl⟩, ?_, ?_⟩
      · refine Sat.row_blk hnc htl (by rw [strs_len, sortS_len, Nat.mul_one]) ?_ (hs2.mono ?_)
        · rw [← hfr]; simp [strs_len, sortS_len]
        · intro k o hk
          show ((Go.Sort.putRow Go.Proofs.encStr (Go.Sort.ahead w n) b 0 (sortS l).toArray).heap ++ os)[k]? = some o
          have hk' : k < _ := (Array.getElem?_eq_some_iff.1 hk).1
          rw [Array.getElem?_append_left hk']; exact hk
      · refine ⟨rfl, rfl, rfl, ?_⟩
        rw [Go.Sort.size_grow]
        show w.heap.size ≤ (w.heap.modify b _).size + _
        rw [Array.size_modify]; omega
end Go.Ls
