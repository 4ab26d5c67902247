/- What the laws' arguments hold, as plain data. -/
import Derived.Test.YtjphghadogedkaaRvC
import Derived.OpenShut
set_option linter.unusedSimpArgs false
set_option linter.unusedVariables false
namespace Go.Re
open Go Go.Sl
set_option maxRecDepth 100000
structure PropA where
  pr : Pr
  yv : Value
  nv : Value
  tv : Value
  yes : List By
  no : List By
def PropA.cells (x : PropA) : List Value := propC x.pr x.yv x.nv x.tv
structure PropA.Ok (x : PropA) (H : Hp) : Prop where
  y : rs H x.yv x.yes.length 1 (strs x.yes)
  n : rs H x.nv x.no.length 1 (strs x.no)
  t : x.tv.oneCell' = true
  h : x.pr.h.length = 32
  ny : x.yes.length ≤ 140737488355328
  nn : x.no.length ≤ 140737488355328
  ly : ∀ s ∈ x.yes, s.length ≤ 140737488355328
  ln : ∀ s ∈ x.no, s.length ≤ 140737488355328
  la : x.pr.a.length ≤ 140737488355328
def polC (x : Int × Bool) : List Value := [.int .i64 x.1, .bool x.2]
structure Act1 where
  kind : Int
  id : Int
  user : By
  text : By
  patch : By
  yes : Bool
def actC (x : Act1) : List Value := [.int .i64 x.kind, .int .i64 x.id, str x.user, str x.text] ++ u8s x.patch ++ [.bool x.yes]
structure Act1.Ok (x : Act1) : Prop where
  p : x.patch.length = 32
  u : x.user.length ≤ 140737488355328
  t : x.text.length ≤ 140737488355328
  k : -9223372036854775808 ≤ x.kind ∧ x.kind ≤ 9223372036854775807
  i : -9223372036854775808 ≤ x.id ∧ x.id ≤ 9223372036854775807
section reads
variable {H : Type} {enc : TypeId × Value → H} {W : World} {cs : List Value} {d : DataW H}
/-- An array of bytes. -/
theorem Reads.hash (h : Sl.Reads enc Go.Proofs.Try.prog W 23 cs d) : ∃ l : By, cs = u8s l ∧ l.length = 32 := by
  obtain ⟨⟨fuel, ps, h⟩, _⟩ := h
  obtain ⟨xs, m, _, _, h3, h4, h5⟩ := DataW.trod_array (P := Go.Proofs.Try.prog) (n := 32) (e := 5) (by kernel_rfl) h
  have hc1 : (Go.Proofs.Try.prog).cellsOf 5 = 1 := by kernel_rfl
  have hc32 : (Go.Proofs.Try.prog).cellsOf 23 = 32 := by kernel_rfl
  rw [hc32] at h3
  have key : ∀ i : Nat, i < 32 → ∃ b : UInt8, cs[i]? = some (.int .u8 b.toNat) := fun i hi => by
    have h6 := h5 i hi
    rw [hc1, List.getElem?_eq_getElem (by omega)] at h6
    obtain ⟨n, h7, _, h8⟩ := DataW.trod_int (P := Go.Proofs.Try.prog) (k := .u8) (by kernel_rfl) h6
    obtain ⟨b, rfl⟩ := u8_of h8
    refine ⟨b, ?_⟩
    have := congrArg (·[0]?) h7
    simpa [List.getElem?_take, List.getElem?_drop] using this
  have key2 : ∀ v ∈ cs, ∃ b : UInt8, v = .int .u8 b.toNat ∧ True := fun v hv => by
    obtain ⟨i, hi⟩ := List.getElem?_of_mem hv
    have hlt := (List.getElem?_eq_some_iff.1 hi).1
    obtain ⟨b, hb⟩ := key i (by omega)
    rw [hi] at hb; cases hb
    exact ⟨b, rfl, trivial⟩
  obtain ⟨l, hl, _⟩ := list_of (f := fun b : UInt8 => Value.int .u8 b.toNat) (p := fun _ => True) key2
  refine ⟨l, by rw [hl]; rfl, ?_⟩
  rw [hl] at h3; simpa using h3
theorem roRs {v : Value} {n sz : Nat} {xs : List Value} (h : ro (mem W) v n xs) (hx : xs.length = n * sz) (hc : ∀ p c, v = .slice p n c → n ≤ c) : rs (mem W) v n sz xs := by
  obtain ⟨p, c, rfl, h2⟩ := h
  exact ⟨p, c, rfl, hc p c rfl, hx, h2⟩
theorem Reads.cap {P : Program} {t e : TypeId} {v : Value} (ht : P.underlying t = some (.slice e)) (h : Sl.Reads enc P W t [v] d) : ∀ p n c, v = .slice p n c → n ≤ c := by
  obtain ⟨⟨fuel, ps, h⟩, _⟩ := h
  intro p n c hv
  rcases DataW.trod_slice ht h with ⟨h1, _⟩ | ⟨a, len, cap, elems, rest, m, _, h1, _, _, hl, _⟩
  · rw [hv] at h1; cases h1; exact Nat.le_refl _
  · rw [hv] at h1; cases h1; exact hl
theorem Reads.texts (h : Sl.Reads enc Go.Proofs.Try.prog W 24 cs d) : ∃ (v : Value) (l : List By), cs = [v] ∧ rs (mem W) v l.length 1 (strs l) ∧ l.length ≤ 140737488355328 ∧ ∀ s ∈ l, s.length ≤ 140737488355328 := by
  have h0 := h
  obtain ⟨v, els, h1, h2, h3, h4⟩ := h.slice (e := 9) (sz := 1) rfl (by kernel_rfl) (by omega)
  have hb : (Go.Proofs.Try.prog).bytesOf 9 = 16 := by kernel_rfl
  have hrb : reachBytes = 140737488351232 := rfl
  rw [hb] at h3
  obtain ⟨l, rfl, hl⟩ := list_of (f := fun s : By => [str s]) (p := fun s => s.length ≤ 140737488355328) (fun r hr => by
    obtain ⟨_, d', hd⟩ := h4 r hr
    obtain ⟨s, e, hs⟩ := hd.str (by kernel_rfl)
    exact ⟨s, e, by omega⟩)
  rw [flatten_single, List.length_map] at h2
  rw [List.length_map] at h3
  subst h1
  exact ⟨v, l, rfl, roRs h2 (by rw [strs_len]; omega) (fun p c hv => Reads.cap (e := 9) rfl h0 p _ c hv), by omega, hl⟩
theorem cut_cons {l a : List Value} {o k : Nat} (h : (l.drop o).take k = a) : l.drop o = a ++ l.drop (o + k) := by
  rw [← h, ← List.drop_drop, List.take_append_drop]
theorem policy_of (h : Sl.Reads enc Go.Proofs.Try.prog W 29 cs d) : ∃ x : Int × Bool, cs = polC x ∧ True := by
  have hlen := h.len rfl
  rw [show (Go.Proofs.Try.prog).cellsOf 29 = 2 by kernel_rfl] at hlen
  obtain ⟨_, q0⟩ := h.field (f := ⟨"Approvals", 3, 0, false, "", "", 0⟩) rfl 0 rfl
  obtain ⟨_, q1⟩ := h.field (f := ⟨"Veto", 4, 1, false, "", "", 8⟩) rfl 1 rfl
  match cs, hlen, q0, q1 with
  | [a0, a1], _, q0, q1 =>
    replace q0 : Sl.Reads enc Go.Proofs.Try.prog W 3 [a0] _ := q0
    replace q1 : Sl.Reads enc Go.Proofs.Try.prog W 4 [a1] _ := q1
    obtain ⟨t, e0, w0⟩ := q0.int (k := .i64) (by kernel_rfl)
    obtain ⟨b, e1⟩ := q1.bool (by kernel_rfl)
    cases e0; cases e1
    exact ⟨(t, b), rfl, trivial⟩
theorem prop_of (h : Sl.Reads enc Go.Proofs.Try.prog W 27 cs d) : ∃ x : PropA, cs = x.cells ∧ x.Ok (mem W) := by
  have hlen := h.len rfl
  have hrb : reachBytes = 140737488351232 := rfl
  rw [show (Go.Proofs.Try.prog).cellsOf 27 = 39 by kernel_rfl] at hlen
  obtain ⟨_, q0⟩ := h.field (f := ⟨"Id", 3, 0, false, "", "", 0⟩) rfl 0 rfl
  obtain ⟨_, q1⟩ := h.field (f := ⟨"Author", 9, 1, false, "", "", 8⟩) rfl 1 rfl
  obtain ⟨_, q2⟩ := h.field (f := ⟨"Channel", 9, 2, false, "", "", 24⟩) rfl 2 rfl
  obtain ⟨_, q3⟩ := h.field (f := ⟨"Patch", 23, 3, false, "", "", 40⟩) rfl 3 rfl
  obtain ⟨_, q4⟩ := h.field (f := ⟨"Open", 4, 35, false, "", "", 72⟩) rfl 4 rfl
  obtain ⟨_, q5⟩ := h.field (f := ⟨"Yes", 24, 36, false, "", "", 80⟩) rfl 5 rfl
  obtain ⟨_, q6⟩ := h.field (f := ⟨"No", 24, 37, false, "", "", 104⟩) rfl 6 rfl
  obtain ⟨_, q7⟩ := h.field (f := ⟨"Talk", 25, 38, false, "", "", 128⟩) rfl 7 rfl
  have c1 : (Go.Proofs.Try.prog).cellsOf 3 = 1 := by kernel_rfl
  have c2 : (Go.Proofs.Try.prog).cellsOf 9 = 1 := by kernel_rfl
  have c3 : (Go.Proofs.Try.prog).cellsOf 23 = 32 := by kernel_rfl
  have c4 : (Go.Proofs.Try.prog).cellsOf 4 = 1 := by kernel_rfl
  have c5 : (Go.Proofs.Try.prog).cellsOf 24 = 1 := by kernel_rfl
  have c6 : (Go.Proofs.Try.prog).cellsOf 25 = 1 := by kernel_rfl
  replace q0 : Sl.Reads enc Go.Proofs.Try.prog W 3 ((cs.drop 0).take ((Go.Proofs.Try.prog).cellsOf 3)) _ := q0
  replace q1 : Sl.Reads enc Go.Proofs.Try.prog W 9 ((cs.drop 1).take ((Go.Proofs.Try.prog).cellsOf 9)) _ := q1
  replace q2 : Sl.Reads enc Go.Proofs.Try.prog W 9 ((cs.drop 2).take ((Go.Proofs.Try.prog).cellsOf 9)) _ := q2
  replace q3 : Sl.Reads enc Go.Proofs.Try.prog W 23 ((cs.drop 3).take ((Go.Proofs.Try.prog).cellsOf 23)) _ := q3
  replace q4 : Sl.Reads enc Go.Proofs.Try.prog W 4 ((cs.drop 35).take ((Go.Proofs.Try.prog).cellsOf 4)) _ := q4
  replace q5 : Sl.Reads enc Go.Proofs.Try.prog W 24 ((cs.drop 36).take ((Go.Proofs.Try.prog).cellsOf 24)) _ := q5
  replace q6 : Sl.Reads enc Go.Proofs.Try.prog W 24 ((cs.drop 37).take ((Go.Proofs.Try.prog).cellsOf 24)) _ := q6
  replace q7 : Sl.Reads enc Go.Proofs.Try.prog W 25 ((cs.drop 38).take ((Go.Proofs.Try.prog).cellsOf 25)) _ := q7
  rw [c1] at q0
  rw [c2] at q1 q2
  rw [c3] at q3
  rw [c4] at q4
  rw [c5] at q5 q6
  rw [c6] at q7
  obtain ⟨i, e0, w0⟩ := q0.int (k := .i64) (by kernel_rfl)
  obtain ⟨a, e1, w1⟩ := q1.str (by kernel_rfl)
  obtain ⟨c, e2, w2⟩ := q2.str (by kernel_rfl)
  obtain ⟨h, e3, w3⟩ := Reads.hash q3
  obtain ⟨o, e4⟩ := q4.bool (by kernel_rfl)
  obtain ⟨yv, yes, e5, r5, b5, g5⟩ := Reads.texts q5
  obtain ⟨nv, no, e6, r6, b6, g6⟩ := Reads.texts q6
  obtain ⟨tv, els, e7, r7, _, _⟩ := q7.slice (e := 67) (sz := 2) rfl (by kernel_rfl) (by omega)
  refine ⟨⟨⟨i, a, c, h, o⟩, yv, nv, tv, yes, no⟩, ?_, ⟨r5, r6, ?_, w3, b5, b6, g5, g6, by show a.length ≤ _; omega⟩⟩
  · have d0 := cut_cons e0
    have d1 := cut_cons e1
    have d2 := cut_cons e2
    have d3 := cut_cons e3
    have d4 := cut_cons e4
    have d5 := cut_cons e5
    have d6 := cut_cons e6
    have d7 := cut_cons e7
    have d8 : cs.drop (38 + 1) = [] := List.drop_eq_nil_of_le (by omega)
    have : cs = cs.drop 0 := rfl
    rw [this, d0, d1, d2, d3, d4, d5, d6, d7, d8]
    unfold PropA.cells propC
    simp
  · obtain ⟨p, c, rfl, _⟩ := r7; rfl
theorem act_of (h : Sl.Reads enc Go.Proofs.Try.prog W 44 cs d) : ∃ x : Act1, cs = actC x ∧ x.Ok := by
  have hlen := h.len rfl
  have hrb : reachBytes = 140737488351232 := rfl
  rw [show (Go.Proofs.Try.prog).cellsOf 44 = 37 by kernel_rfl] at hlen
  obtain ⟨_, q0⟩ := h.field (f := ⟨"Kind", 3, 0, false, "", "", 0⟩) rfl 0 rfl
  obtain ⟨_, q1⟩ := h.field (f := ⟨"Id", 3, 1, false, "", "", 8⟩) rfl 1 rfl
  obtain ⟨_, q2⟩ := h.field (f := ⟨"User", 9, 2, false, "", "", 16⟩) rfl 2 rfl
  obtain ⟨_, q3⟩ := h.field (f := ⟨"Text", 9, 3, false, "", "", 32⟩) rfl 3 rfl
  obtain ⟨_, q4⟩ := h.field (f := ⟨"Patch", 23, 4, false, "", "", 48⟩) rfl 4 rfl
  obtain ⟨_, q5⟩ := h.field (f := ⟨"Yes", 4, 36, false, "", "", 80⟩) rfl 5 rfl
  have c1 : (Go.Proofs.Try.prog).cellsOf 3 = 1 := by kernel_rfl
  have c2 : (Go.Proofs.Try.prog).cellsOf 9 = 1 := by kernel_rfl
  have c3 : (Go.Proofs.Try.prog).cellsOf 23 = 32 := by kernel_rfl
  have c4 : (Go.Proofs.Try.prog).cellsOf 4 = 1 := by kernel_rfl
  replace q0 : Sl.Reads enc Go.Proofs.Try.prog W 3 ((cs.drop 0).take ((Go.Proofs.Try.prog).cellsOf 3)) _ := q0
  replace q1 : Sl.Reads enc Go.Proofs.Try.prog W 3 ((cs.drop 1).take ((Go.Proofs.Try.prog).cellsOf 3)) _ := q1
  replace q2 : Sl.Reads enc Go.Proofs.Try.prog W 9 ((cs.drop 2).take ((Go.Proofs.Try.prog).cellsOf 9)) _ := q2
  replace q3 : Sl.Reads enc Go.Proofs.Try.prog W 9 ((cs.drop 3).take ((Go.Proofs.Try.prog).cellsOf 9)) _ := q3
  replace q4 : Sl.Reads enc Go.Proofs.Try.prog W 23 ((cs.drop 4).take ((Go.Proofs.Try.prog).cellsOf 23)) _ := q4
  replace q5 : Sl.Reads enc Go.Proofs.Try.prog W 4 ((cs.drop 36).take ((Go.Proofs.Try.prog).cellsOf 4)) _ := q5
  rw [c1] at q0 q1
  rw [c2] at q2 q3
  rw [c3] at q4
  rw [c4] at q5
  obtain ⟨k, e0, w0⟩ := q0.int (k := .i64) (by kernel_rfl)
  obtain ⟨i, e1, w1⟩ := q1.int (k := .i64) (by kernel_rfl)
  obtain ⟨u, e2, w2⟩ := q2.str (by kernel_rfl)
  obtain ⟨t, e3, w3⟩ := q3.str (by kernel_rfl)
  obtain ⟨h, e4, w4⟩ := Reads.hash q4
  obtain ⟨o, e5⟩ := q5.bool (by kernel_rfl)
  refine ⟨⟨k, i, u, t, h, o⟩, ?_, ⟨w4, by show u.length ≤ _; omega, by show t.length ≤ _; omega, i64_of w0, i64_of w1⟩⟩
  have d0 := cut_cons e0
  have d1 := cut_cons e1
  have d2 := cut_cons e2
  have d3 := cut_cons e3
  have d4 := cut_cons e4
  have d5 := cut_cons e5
  have d8 : cs.drop (36 + 1) = [] := List.drop_eq_nil_of_le (by omega)
  have : cs = cs.drop 0 := rfl
  rw [this, d0, d1, d2, d3, d4, d5, d8]
  unfold actC
  simp
end reads
end Go.Re
