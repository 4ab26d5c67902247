/- What a law's arguments and the variable bottom hold, as plain data. -/
import Derived.Test.YtbbfhchceimflaaDoorPbI
import Derived.Lib.LaidTab
import Derived.OpenShut
set_option linter.unusedSimpArgs false
set_option linter.unusedVariables false
namespace Go.Pb
open Go Go.Sl Go.Lb Go.Pa Go.Oc
set_option maxRecDepth 100000
section reads
variable {H : Type} {enc : TypeId × Value → H} {W : World} {cs : List Value} {d : DataW H}
/-- An array of bytes. -/
theorem Reads.hash (h : Sl.Reads enc Go.Proofs.Tryd.prog W 37 cs d) : ∃ l : By, cs = u8s l ∧ l.length = 32 := by
  obtain ⟨⟨fuel, ps, h⟩, _⟩ := h
  obtain ⟨xs, m, _, _, h3, h4, h5⟩ := DataW.trod_array (P := Go.Proofs.Tryd.prog) (n := 32) (e := 5) (by kernel_rfl) h
  have hc1 : (Go.Proofs.Tryd.prog).cellsOf 5 = 1 := by kernel_rfl
  have hc32 : (Go.Proofs.Tryd.prog).cellsOf 37 = 32 := by kernel_rfl
  rw [hc32] at h3
  have key : ∀ i : Nat, i < 32 → ∃ b : UInt8, cs[i]? = some (.int .u8 b.toNat) := fun i hi => by
    have h6 := h5 i hi
    rw [hc1, List.getElem?_eq_getElem (by omega)] at h6
    obtain ⟨n, h7, _, h8⟩ := DataW.trod_int (P := Go.Proofs.Tryd.prog) (k := .u8) (by kernel_rfl) h6
    obtain ⟨b, rfl⟩ := u8_of h8
    refine ⟨b, ?_⟩
    have := congrArg (·[0]?) h7
    simpa [List.getElem?_take, List.getElem?_drop] using this
  have key2 : ∀ v ∈ cs, ∃ b : UInt8, v = .int .u8 b.toNat ∧ True := fun v hv => by
    obtain ⟨i, hi⟩ := List.getElem?_of_mem hv
    have hlt := (List.getElem?_eq_some_iff.1 hi).1
    obtain ⟨b, hb⟩ := key i (by omega)
    rw [hi] at hb; cases hb
    exact ⟨b, rfl, trivial⟩
  obtain ⟨l, hl, _⟩ := list_of (f := fun b : UInt8 => Value.int .u8 b.toNat) (p := fun _ => True) key2
  refine ⟨l, by rw [hl]; rfl, ?_⟩
  rw [hl] at h3; simpa using h3
theorem Reads.vx (h : Sl.Reads enc Go.Proofs.Tryd.prog W 57 cs d) : ∃ v : Vx, cs = vxC v ∧ v.Ok := by
  have hlen := h.len rfl
  rw [show (Go.Proofs.Tryd.prog).cellsOf 57 = 33 by kernel_rfl] at hlen
  obtain ⟨_, q0⟩ := h.field (f := ⟨"Patch", 37, 0, false, "", "", 0⟩) rfl 0 rfl
  obtain ⟨_, q1⟩ := h.field (f := ⟨"Line", 3, 32, false, "", "", 32⟩) rfl 1 rfl
  obtain ⟨l, e0, w0⟩ := Reads.hash q0
  obtain ⟨n, e1, w1⟩ := q1.int (k := .i64) (by kernel_rfl)
  rw [show (Go.Proofs.Tryd.prog).cellsOf (⟨"Patch", 37, 0, false, "", "", 0⟩ : Field).type = 32 by kernel_rfl] at e0
  rw [show (Go.Proofs.Tryd.prog).cellsOf (⟨"Line", 3, 32, false, "", "", 32⟩ : Field).type = 1 by kernel_rfl] at e1
  have e0 : cs.take 32 = u8s l := by simpa using e0
  have e1 : (cs.drop 32).take 1 = [.int .i64 n] := e1
  refine ⟨⟨l, n⟩, ?_, ⟨w0, i64_of w1⟩⟩
  have h1 : cs.drop 32 = [.int .i64 n] := by rw [← e1, List.take_of_length_le (by simp; omega)]
  unfold vxC
  show cs = u8s l ++ [.int .i64 n]
  rw [← e0, ← h1, List.take_append_drop]
theorem roRs {v : Value} {n sz : Nat} {xs : List Value} (h : ro (mem W) v n xs) (hx : xs.length = n * sz) (hc : ∀ p c, v = .slice p n c → n ≤ c) : rs (mem W) v n sz xs := by
  obtain ⟨p, c, rfl, h2⟩ := h
  exact ⟨p, c, rfl, hc p c rfl, hx, h2⟩
theorem Reads.cap {P : Program} {t e : TypeId} {v : Value} (ht : P.underlying t = some (.slice e)) (h : Sl.Reads enc P W t [v] d) : ∀ p n c, v = .slice p n c → n ≤ c := by
  obtain ⟨⟨fuel, ps, h⟩, _⟩ := h
  intro p n c hv
  rcases DataW.trod_slice ht h with ⟨h1, _⟩ | ⟨a, len, cap, elems, rest, m, _, h1, _, _, hl, _⟩
  · rw [hv] at h1; cases h1; exact Nat.le_refl _
  · rw [hv] at h1; cases h1; exact hl
theorem cut5 {l : List Value} (hl : l.length = 69) {a b c d e : List Value} (ha : l.take 1 = a) (hb : (l.drop 1).take 1 = b) (hc : (l.drop 2).take 33 = c) (hd : (l.drop 35).take 33 = d) (he : (l.drop 68).take 1 = e) : l = a ++ (b ++ (c ++ (d ++ e))) := by
  subst ha hb hc hd he
  have h1 : l.drop 68 = (l.drop 68).take 1 := by rw [List.take_of_length_le (by simp; omega)]
  have h2 : l.drop 35 = (l.drop 35).take 33 ++ l.drop 68 := by
    have := (List.take_append_drop 33 (l.drop 35)).symm
    rwa [List.drop_drop] at this
  have h3 : l.drop 2 = (l.drop 2).take 33 ++ l.drop 35 := by
    have := (List.take_append_drop 33 (l.drop 2)).symm
    rwa [List.drop_drop] at this
  have h4 : l.drop 1 = (l.drop 1).take 1 ++ l.drop 2 := by
    have := (List.take_append_drop 1 (l.drop 1)).symm
    rwa [List.drop_drop] at this
  have h5 : l = l.take 1 ++ l.drop 1 := (List.take_append_drop 1 l).symm
  rw [← h1, ← h2, ← h3, ← h4, ← h5]
theorem Reads.texts (h : Sl.Reads enc Go.Proofs.Tryd.prog W 53 cs d) : ∃ (v : Value) (l : List By), cs = [v] ∧ rs (mem W) v l.length 1 (strs l) ∧ l.length ≤ 140737488355328 ∧ ∀ s ∈ l, s.length ≤ 140737488355328 := by
  have h0 := h
  obtain ⟨v, els, h1, h2, h3, h4⟩ := h.slice (e := 9) (sz := 1) rfl (by kernel_rfl) (by omega)
  have hb : (Go.Proofs.Tryd.prog).bytesOf 9 = 16 := by kernel_rfl
  have hrb : reachBytes = 140737488351232 := rfl
  rw [hb] at h3
  obtain ⟨l, rfl, hl⟩ := list_of (f := fun s : By => [str s]) (p := fun s => s.length ≤ 140737488355328) (fun r hr => by
    obtain ⟨_, d', hd⟩ := h4 r hr
    obtain ⟨s, e, hs⟩ := hd.str (by kernel_rfl)
    exact ⟨s, e, by omega⟩)
  rw [flatten_single, List.length_map] at h2
  rw [List.length_map] at h3
  subst h1
  exact ⟨v, l, rfl, roRs h2 (by rw [strs_len]; omega) (fun p c hv => Reads.cap (e := 9) rfl h0 p _ c hv), by omega, hl⟩
theorem Reads.op (h : Sl.Reads enc Go.Proofs.Tryd.prog W 59 cs d) : ∃ x : Op1 × Value, cs = opC x ∧ x.1.Big ∧ rs (mem W) x.2 x.1.lines.length 1 (strs x.1.lines) := by
  have hlen := h.len rfl
  rw [show (Go.Proofs.Tryd.prog).cellsOf 59 = 69 by kernel_rfl] at hlen
  have hrb : reachBytes = 140737488351232 := rfl
  obtain ⟨_, q0⟩ := h.field (f := ⟨"Kind", 3, 0, false, "", "", 0⟩) rfl 0 rfl
  obtain ⟨_, q1⟩ := h.field (f := ⟨"Path", 9, 1, false, "", "", 8⟩) rfl 1 rfl
  obtain ⟨_, q2⟩ := h.field (f := ⟨"Up", 57, 2, false, "", "", 24⟩) rfl 2 rfl
  obtain ⟨_, q3⟩ := h.field (f := ⟨"Down", 57, 35, false, "", "", 64⟩) rfl 3 rfl
  obtain ⟨_, q4⟩ := h.field (f := ⟨"Lines", 53, 68, false, "", "", 104⟩) rfl 4 rfl
  have c1 : (Go.Proofs.Tryd.prog).cellsOf 3 = 1 := by kernel_rfl
  have c2 : (Go.Proofs.Tryd.prog).cellsOf 9 = 1 := by kernel_rfl
  have c3 : (Go.Proofs.Tryd.prog).cellsOf 57 = 33 := by kernel_rfl
  have c4 : (Go.Proofs.Tryd.prog).cellsOf 53 = 1 := by kernel_rfl
  replace q0 : Sl.Reads enc Go.Proofs.Tryd.prog W 3 ((cs.drop 0).take ((Go.Proofs.Tryd.prog).cellsOf 3)) _ := q0
  replace q1 : Sl.Reads enc Go.Proofs.Tryd.prog W 9 ((cs.drop 1).take ((Go.Proofs.Tryd.prog).cellsOf 9)) _ := q1
  replace q2 : Sl.Reads enc Go.Proofs.Tryd.prog W 57 ((cs.drop 2).take ((Go.Proofs.Tryd.prog).cellsOf 57)) _ := q2
  replace q3 : Sl.Reads enc Go.Proofs.Tryd.prog W 57 ((cs.drop 35).take ((Go.Proofs.Tryd.prog).cellsOf 57)) _ := q3
  replace q4 : Sl.Reads enc Go.Proofs.Tryd.prog W 53 ((cs.drop 68).take ((Go.Proofs.Tryd.prog).cellsOf 53)) _ := q4
  rw [c1] at q0
  rw [c2] at q1
  rw [c3] at q2 q3
  rw [c4] at q4
  obtain ⟨k, e0, w0⟩ := q0.int (k := .i64) (by kernel_rfl)
  obtain ⟨p, e1, w1⟩ := q1.str (by kernel_rfl)
  obtain ⟨u, e2, w2⟩ := Reads.vx q2
  obtain ⟨v, e3, w3⟩ := Reads.vx q3
  obtain ⟨lv, l, e4, w4, w5, w6⟩ := Reads.texts q4
  refine ⟨(⟨k, p, u, v, l⟩, lv), ?_, ⟨i64_of w0, by show p.length ≤ _; omega, w2, w3, w5, w6⟩, w4⟩
  rw [List.drop_zero] at e0
  have := cut5 hlen e0 e1 e2 e3 e4
  rw [this]; rfl
theorem patch_of (h : Sl.Reads enc Go.Proofs.Tryd.prog W 25 cs d) : ∃ p dv ov, cs = paC p dv ov ∧ PaAt (mem W) p dv ov ∧ p.Big := by
  have hlen := h.len rfl
  rw [show (Go.Proofs.Tryd.prog).cellsOf 25 = 5 by kernel_rfl] at hlen
  have hrb : reachBytes = 140737488351232 := rfl
  obtain ⟨_, q0⟩ := h.field (f := ⟨"Author", 9, 0, false, "", "", 0⟩) rfl 0 rfl
  obtain ⟨_, q1⟩ := h.field (f := ⟨"Time", 3, 1, false, "", "", 16⟩) rfl 1 rfl
  obtain ⟨_, q2⟩ := h.field (f := ⟨"Note", 9, 2, false, "", "", 24⟩) rfl 2 rfl
  obtain ⟨_, q3⟩ := h.field (f := ⟨"Deps", 22, 3, false, "", "", 40⟩) rfl 3 rfl
  obtain ⟨_, q4⟩ := h.field (f := ⟨"Ops", 23, 4, false, "", "", 64⟩) rfl 4 rfl
  match cs, hlen, q0, q1, q2, q3, q4 with
  | [a0, a1, a2, a3, a4], _, q0, q1, q2, q3, q4 =>
    replace q0 : Sl.Reads enc Go.Proofs.Tryd.prog W 9 [a0] _ := q0
    replace q1 : Sl.Reads enc Go.Proofs.Tryd.prog W 3 [a1] _ := q1
    replace q2 : Sl.Reads enc Go.Proofs.Tryd.prog W 9 [a2] _ := q2
    replace q3 : Sl.Reads enc Go.Proofs.Tryd.prog W 22 [a3] _ := q3
    replace q4 : Sl.Reads enc Go.Proofs.Tryd.prog W 23 [a4] _ := q4
    obtain ⟨a, e0, w0⟩ := q0.str (by kernel_rfl)
    obtain ⟨t, e1, w1⟩ := q1.int (k := .i64) (by kernel_rfl)
    obtain ⟨n, e2, w2⟩ := q2.str (by kernel_rfl)
    obtain ⟨v3, els3, e3, r3, b3, g3⟩ := q3.slice (e := 37) (sz := 32) rfl (by kernel_rfl) (by omega)
    obtain ⟨v4, els4, e4, r4, b4, g4⟩ := q4.slice (e := 59) (sz := 69) rfl (by kernel_rfl) (by omega)
    rw [show (Go.Proofs.Tryd.prog).bytesOf 37 = 32 by kernel_rfl] at b3
    rw [show (Go.Proofs.Tryd.prog).bytesOf 59 = 128 by kernel_rfl] at b4
    cases e0; cases e1; cases e2; cases e3; cases e4
    obtain ⟨l, hl, hl2⟩ := list_of (f := u8s) (p := fun h : By => h.length = 32) (fun r hr => by
      obtain ⟨_, d', hd⟩ := g3 r hr
      obtain ⟨l, h1, h2⟩ := Reads.hash hd
      exact ⟨l, h1, h2⟩)
    obtain ⟨xs, hx, hx2⟩ := list_of (f := opC) (p := fun x : Op1 × Value => x.1.Big ∧ rs (mem W) x.2 x.1.lines.length 1 (strs x.1.lines)) (fun r hr => by
      obtain ⟨_, d', hd⟩ := g4 r hr
      obtain ⟨x, h1, h2⟩ := Reads.op hd
      exact ⟨x, h1, h2⟩)
    subst hl hx
    rw [List.length_map] at r3 b3 r4 b4
    have f3 : (l.map u8s).flatten = hs l := by unfold hs; rw [List.flatMap_def]
    have f4 : (xs.map opC).flatten = xs.flatMap opC := by rw [List.flatMap_def]
    rw [f3] at r3
    rw [f4] at r4
    have n3 : (hs l).length = l.length * 32 := by
      unfold hs
      have key : ∀ l : List By, (∀ h ∈ l, h.length = 32) → (l.flatMap u8s).length = l.length * 32 := by
        intro l
        induction l with
        | nil => intro _; simp
        | cons a l ih =>
          intro h
          have h1 := h a (by simp)
          have h2 := ih fun x hx => h x (by simp [hx])
          rw [List.flatMap_cons, List.length_append, u8s_len, List.length_cons]; omega
      exact key l hl2
    have n4 : (xs.flatMap opC).length = xs.length * 69 := by
      have key : ∀ l : List (Op1 × Value), (∀ x ∈ l, x.1.Big) → (l.flatMap opC).length = l.length * 69 := by
        intro l
        induction l with
        | nil => intro _; simp
        | cons a l ih =>
          intro h
          have h1 := opC_len2 (h a (by simp))
          have h2 := ih fun x hx => h x (by simp [hx])
          rw [List.flatMap_cons, List.length_append, List.length_cons]; omega
      exact key xs fun x hx => (hx2 x hx).1
    refine ⟨⟨a, t, n, l, xs.map (·.1)⟩, _, _, rfl, ⟨roRs r3 n3 (fun p c hv => Reads.cap (e := 37) rfl q3 p _ c hv), xs, rfl, ?_, fun x hx => (hx2 x hx).2⟩, ?_⟩
    · show rs (mem W) _ (xs.map (·.1)).length 69 _
      rw [List.length_map]
      exact roRs r4 n4 (fun p c hv => Reads.cap (e := 59) rfl q4 p _ c hv)
    · refine ⟨by show a.length ≤ _; omega, i64_of w1, by show n.length ≤ _; omega, by show l.length ≤ _; omega, hl2, by show (xs.map (·.1)).length ≤ _; rw [List.length_map]; omega, fun o ho => ?_⟩
      obtain ⟨x, hx, rfl⟩ := List.mem_map.1 ho
      exact (hx2 x hx).1
/-- What the row's list gives. -/
theorem bot_of {laid : List (String × DataW Unit)} {d0 : DataW Unit} {rest : List (String × DataW Unit)} (hl : laid = ("ingot/patch.bottom", d0) :: rest) (hd : d0 = .agg [Lib.tabData .u8 (List.replicate 32 0), .lit (.int .i64 1)]) (h : laidMet Go.Proofs.Tryd.prog laid W) : Bot (mem W) := by
  subst hl
  obtain ⟨ps, ⟨g, t, cs, fuel, p, q, hg, ht, hvar, htrod, _, _⟩, _⟩ := h
  obtain rfl : g = 0 := Option.some.inj (hg.symm.trans (show (Go.Proofs.Tryd.prog).globalNamed "ingot/patch.bottom" = some 0 by kernel_rfl))
  obtain rfl : t = 57 := Option.some.inj (ht.symm.trans (show ((Go.Proofs.Tryd.prog).globals[0]?).map (·.type) = some 57 by kernel_rfl))
  obtain ⟨xs, n, _, h2, h3, h4, h5⟩ := DataW.trod_struct (P := Go.Proofs.Tryd.prog) (t := 57) (fs := #[⟨"Patch", 37, 0, false, "", "", 0⟩, ⟨"Line", 3, 32, false, "", "", 32⟩]) (by kernel_rfl) htrod
  rw [show (Go.Proofs.Tryd.prog).cellsOf 57 = 33 by kernel_rfl] at h3
  have k0 := h5 0 ⟨"Patch", 37, 0, false, "", "", 0⟩ rfl
  have k1 := h5 1 ⟨"Line", 3, 32, false, "", "", 32⟩ rfl
  replace k0 : DataW.trod (fun _ => ()) Go.Proofs.Tryd.prog W 0 (fun _ => true) false n 37 ((cs.toList.drop 0).take ((Go.Proofs.Tryd.prog).cellsOf 37)) = xs[0]? := k0
  replace k1 : DataW.trod (fun _ => ()) Go.Proofs.Tryd.prog W 0 (fun _ => true) false n 3 ((cs.toList.drop 32).take ((Go.Proofs.Tryd.prog).cellsOf 3)) = xs[1]? := k1
  rw [show (Go.Proofs.Tryd.prog).cellsOf 37 = 32 by kernel_rfl, List.drop_zero] at k0
  rw [show (Go.Proofs.Tryd.prog).cellsOf 3 = 1 by kernel_rfl] at k1
  have h4' : xs.length = 2 := h4
  match xs, h4', h2, k0, k1 with
  | [x0, x1], _, h2, k0, k1 =>
    injection h2 with h2 _
    rw [hd] at h2
    injection h2 with h2
    simp only [List.map_cons, List.map_nil, List.cons.injEq, and_true] at h2
    obtain ⟨m0, m1⟩ := h2
    obtain ⟨y0, z0⟩ := x0
    obtain ⟨y1, z1⟩ := x1
    simp only at m0 m1
    subst m0 m1
    have e0 := Lib.cells_of_tab (P := Go.Proofs.Tryd.prog) (t := 37) (e := 5) (n := 32) (k := .u8) (by kernel_rfl) (by kernel_rfl) (by kernel_rfl) (by kernel_rfl) k0
    obtain ⟨m, e1, e2, _⟩ := DataW.trod_int (P := Go.Proofs.Tryd.prog) (k := .i64) (by kernel_rfl) k1
    injection e2 with e2 _
    injection e2 with e2
    injection e2 with _ e2
    subst e2
    have hcs : cs.toList = vxC botV := by
      have h6 : cs.toList.drop 32 = [.int .i64 1] := by rw [← e1, List.take_of_length_le (by simp at h3 ⊢; omega)]
      have h7 := List.take_append_drop 32 cs.toList
      rw [e0, h6] at h7
      rw [← h7]; rfl
    unfold World.var? at hvar
    rw [show (Go.Proofs.Tryd.prog).globalNamed "ingot/patch.bottom" = some 0 by kernel_rfl] at hvar
    simp only [Option.bind_some] at hvar
    split at hvar
    · rename_i c e fz hh
      cases hvar
      refine ⟨e, fz, ?_⟩
      show W.heap[0]? = _
      rw [hh, ← hcs]
    · cases hvar
end reads
end Go.Pb
