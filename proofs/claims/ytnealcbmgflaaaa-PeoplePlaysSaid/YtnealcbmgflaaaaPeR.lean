/- What the laws' arguments hold, as plain data. -/
import Derived.Test.YtnealcbmgflaaaaPeN
import Derived.OpenShut
set_option linter.unusedSimpArgs false
set_option linter.unusedVariables false
namespace Go.Pe
open Go Go.Sl Go.Ls
set_option maxRecDepth 100000
theorem cut_cons {l a : List Value} {o k : Nat} (h : (l.drop o).take k = a) : l.drop o = a ++ l.drop (o + k) := by
  rw [← h, ← List.drop_drop, List.take_append_drop]
section reads
variable {H : Type} {enc : TypeId × Value → H} {W : World} {cs : List Value} {d : DataW H}
theorem roRs {v : Value} {n sz : Nat} {xs : List Value} (h : ro (mem W) v n xs) (hx : xs.length = n * sz) (hc : ∀ p c, v = .slice p n c → n ≤ c) : rs (mem W) v n sz xs := by
  obtain ⟨p, c, rfl, h2⟩ := h
  exact ⟨p, c, rfl, hc p c rfl, hx, h2⟩
theorem Reads.cap {P : Program} {t e : TypeId} {v : Value} (ht : P.underlying t = some (.slice e)) (h : Sl.Reads enc P W t [v] d) : ∀ p n c, v = .slice p n c → n ≤ c := by
  obtain ⟨⟨fuel, ps, h⟩, _⟩ := h
  intro p n c hv
  rcases DataW.trod_slice ht h with ⟨h1, _⟩ | ⟨a, len, cap, elems, rest, m, _, h1, _, _, hl, _⟩
  · rw [hv] at h1; cases h1; exact Nat.le_refl _
  · rw [hv] at h1; cases h1; exact hl
theorem act_of (h : Sl.Reads enc Go.Proofs.Try.prog W 28 cs d) : ∃ x : Ac, cs = actC x ∧ x.Ok := by
  have hlen := h.len rfl
  have hrb : reachBytes = 140737488351232 := rfl
  rw [show (Go.Proofs.Try.prog).cellsOf 28 = 5 by kernel_rfl] at hlen
  obtain ⟨_, q0⟩ := h.field (f := ⟨"Kind", 3, 0, false, "", "", 0⟩) rfl 0 rfl
  obtain ⟨_, q1⟩ := h.field (f := ⟨"Org", 9, 1, false, "", "", 8⟩) rfl 1 rfl
  obtain ⟨_, q2⟩ := h.field (f := ⟨"Team", 9, 2, false, "", "", 24⟩) rfl 2 rfl
  obtain ⟨_, q3⟩ := h.field (f := ⟨"User", 9, 3, false, "", "", 40⟩) rfl 3 rfl
  obtain ⟨_, q4⟩ := h.field (f := ⟨"Role", 3, 4, false, "", "", 56⟩) rfl 4 rfl
  have c1 : (Go.Proofs.Try.prog).cellsOf 3 = 1 := by kernel_rfl
  have c2 : (Go.Proofs.Try.prog).cellsOf 9 = 1 := by kernel_rfl
  replace q0 : Sl.Reads enc Go.Proofs.Try.prog W 3 ((cs.drop 0).take ((Go.Proofs.Try.prog).cellsOf 3)) _ := q0
  replace q1 : Sl.Reads enc Go.Proofs.Try.prog W 9 ((cs.drop 1).take ((Go.Proofs.Try.prog).cellsOf 9)) _ := q1
  replace q2 : Sl.Reads enc Go.Proofs.Try.prog W 9 ((cs.drop 2).take ((Go.Proofs.Try.prog).cellsOf 9)) _ := q2
  replace q3 : Sl.Reads enc Go.Proofs.Try.prog W 9 ((cs.drop 3).take ((Go.Proofs.Try.prog).cellsOf 9)) _ := q3
  replace q4 : Sl.Reads enc Go.Proofs.Try.prog W 3 ((cs.drop 4).take ((Go.Proofs.Try.prog).cellsOf 3)) _ := q4
  rw [c1] at q0 q4
  rw [c2] at q1 q2 q3
  obtain ⟨k, e0, w0⟩ := q0.int (k := .i64) (by kernel_rfl)
  obtain ⟨o, e1, w1⟩ := q1.str (by kernel_rfl)
  obtain ⟨t, e2, w2⟩ := q2.str (by kernel_rfl)
  obtain ⟨u, e3, w3⟩ := q3.str (by kernel_rfl)
  obtain ⟨r, e4, w4⟩ := q4.int (k := .i64) (by kernel_rfl)
  refine ⟨⟨k, o, t, u, r⟩, ?_, ⟨by show o.length ≤ _; omega, by show t.length ≤ _; omega, by show u.length ≤ _; omega⟩⟩
  have d0 := cut_cons e0
  have d1 := cut_cons e1
  have d2 := cut_cons e2
  have d3 := cut_cons e3
  have d4 := cut_cons e4
  have d8 : cs.drop (4 + 1) = [] := List.drop_eq_nil_of_le (by omega)
  have : cs = cs.drop 0 := rfl
  rw [this, d0, d1, d2, d3, d4, d8]
  unfold actC
  simp
theorem acts_of (h : Sl.Reads enc Go.Proofs.Try.prog W 22 cs d) : ∃ (v : Value) (l : List Ac), cs = [v] ∧ rs (mem W) v l.length 5 (acts l) ∧ (∀ x ∈ l, x.Ok) ∧ l.length ≤ 140737488355328 := by
  have h0 := h
  obtain ⟨v, els, h1, h2, h3, h4⟩ := h.slice (e := 28) (sz := 5) rfl (by kernel_rfl) (by omega)
  have hb : (Go.Proofs.Try.prog).bytesOf 28 = 64 := by kernel_rfl
  have hrb : reachBytes = 140737488351232 := rfl
  rw [hb] at h3
  obtain ⟨l, rfl, hl⟩ := list_of (f := actC) (p := fun x : Ac => x.Ok) (fun r hr => by
    obtain ⟨_, d', hd⟩ := h4 r hr
    obtain ⟨x, h1, h2⟩ := act_of hd
    exact ⟨x, h1, h2⟩)
  rw [List.length_map] at h2 h3
  have hf : (l.map actC).flatten = acts l := by unfold acts; rw [List.flatMap_def]
  rw [hf] at h2
  subst h1
  exact ⟨v, l, rfl, roRs h2 (acts_len l) (fun p c hv => Reads.cap (e := 28) rfl h0 p _ c hv), hl, by omega⟩
end reads
end Go.Pe
