/- What the row's list of package variables gives: their blocks. -/
import Derived.Test.YtabbonafljochaaGreatDoorShE
import Derived.OpenShut
import Derived.ProofKit
import Derived.Lib.LaidTab
set_option linter.unusedSimpArgs false
set_option linter.unusedVariables false
namespace Go.Ev
open Go Go.Sl Go.Sh
abbrev vtxV : List Value := List.replicate 32 (.int .u8 0) ++ [.int .i64 1]
variable {W : World}
/-- A variable that is listed. -/
def Listed (P : Program) (W : World) (x : String) (d : DataW Unit) : Prop := ∃ g t cs fuel p, P.globalNamed x = some g ∧ (P.globals[g]?).map (·.type) = some t ∧ W.var? P x = some cs ∧ DataW.trod (fun _ => ()) P W 0 (fun _ => true) false fuel t cs.toList = some (d, p)
theorem vertex_of {x : String} {g : Nat} (hx : (Go.Proofs.Tryz.prog).globalNamed x = some g) (ht0 : ((Go.Proofs.Tryz.prog).globals[g]?).map (·.type) = some 61) (h : Listed Go.Proofs.Tryz.prog W x (.agg [Lib.tabData .u8 (List.replicate 32 0), .lit (.int .i64 1)])) : ∃ e fz, mem W g = some (.cells ⟨vtxV⟩ e fz) := by
  obtain ⟨g', t, cs, fuel, p, hg, ht, hvar, htrod⟩ := h
  obtain rfl : g' = g := Option.some.inj (hg.symm.trans hx)
  obtain rfl : t = 61 := Option.some.inj (ht.symm.trans ht0)
  obtain ⟨xs, n, _, h2, h3, h4, h5⟩ := DataW.trod_struct (P := Go.Proofs.Tryz.prog) (t := 61) (fs := #[⟨"Patch", 35, 0, false, "", "", 0⟩, ⟨"Line", 3, 32, false, "", "", 32⟩]) (by kernel_rfl) htrod
  rw [show (Go.Proofs.Tryz.prog).cellsOf 61 = 33 by kernel_rfl] at h3
  have k0 := h5 0 ⟨"Patch", 35, 0, false, "", "", 0⟩ rfl
  have k1 := h5 1 ⟨"Line", 3, 32, false, "", "", 32⟩ rfl
  replace k0 : DataW.trod (fun _ => ()) Go.Proofs.Tryz.prog W 0 (fun _ => true) false n 35 ((cs.toList.drop 0).take ((Go.Proofs.Tryz.prog).cellsOf 35)) = xs[0]? := k0
  replace k1 : DataW.trod (fun _ => ()) Go.Proofs.Tryz.prog W 0 (fun _ => true) false n 3 ((cs.toList.drop 32).take ((Go.Proofs.Tryz.prog).cellsOf 3)) = xs[1]? := k1
  rw [show (Go.Proofs.Tryz.prog).cellsOf 35 = 32 by kernel_rfl, List.drop_zero] at k0
  rw [show (Go.Proofs.Tryz.prog).cellsOf 3 = 1 by kernel_rfl] at k1
  have h4' : xs.length = 2 := h4
  match xs, h4', h2, k0, k1 with
  | [x0, x1], _, h2, k0, k1 =>
    injection h2 with h2 _
    injection h2 with h2
    simp only [List.map_cons, List.map_nil, List.cons.injEq, and_true] at h2
    obtain ⟨m0, m1⟩ := h2
    obtain ⟨y0, z0⟩ := x0
    obtain ⟨y1, z1⟩ := x1
    simp only at m0 m1
    subst m0 m1
    have e0 := Lib.cells_of_tab (P := Go.Proofs.Tryz.prog) (t := 35) (e := 5) (n := 32) (k := .u8) (by kernel_rfl) (by kernel_rfl) (by kernel_rfl) (by kernel_rfl) k0
    obtain ⟨m, e1, e2, _⟩ := DataW.trod_int (P := Go.Proofs.Tryz.prog) (k := .i64) (by kernel_rfl) k1
    injection e2 with e2 _
    injection e2 with e2
    injection e2 with _ e2
    subst e2
    have hcs : cs.toList = vtxV := by
      have h6 : cs.toList.drop 32 = [.int .i64 1] := by rw [← e1, List.take_of_length_le (by simp at h3 ⊢; omega)]
      have h7 := List.take_append_drop 32 cs.toList
      rw [e0, h6] at h7
      rw [← h7]; rfl
    unfold World.var? at hvar
    rw [hx] at hvar
    simp only [Option.bind_some] at hvar
    split at hvar
    · rename_i c e fz hh
      cases hvar
      refine ⟨e, fz, ?_⟩
      show W.heap[g']? = _
      rw [hh, ← hcs]
    · cases hvar
theorem words_listed {x : String} {g : Nat} {K : List Nat} (hx : (Go.Proofs.Tryz.prog).globalNamed x = some g) (ht0 : ((Go.Proofs.Tryz.prog).globals[g]?).map (·.type) = some 149) (hl : K.length = 64) (h : Listed Go.Proofs.Tryz.prog W x (Lib.tabData .u32 (K.map fun n : Nat => (n : Int)))) : ∃ e fz, mem W g = some (.cells ⟨u32s K⟩ e fz) := by
  obtain ⟨g', t, cs, fuel, p, hg, ht, hvar, htrod⟩ := h
  obtain rfl : g' = g := Option.some.inj (hg.symm.trans hx)
  obtain rfl : t = 149 := Option.some.inj (ht.symm.trans ht0)
  have e0 := Lib.cells_of_tab (P := Go.Proofs.Tryz.prog) (t := 149) (e := 147) (n := 64) (k := .u32) (by kernel_rfl) (by kernel_rfl) (by kernel_rfl) (by kernel_rfl) htrod
  unfold World.var? at hvar
  rw [hx] at hvar
  simp only [Option.bind_some] at hvar
  split at hvar
  · rename_i c e fz hh
    cases hvar
    refine ⟨e, fz, ?_⟩
    show W.heap[g']? = _
    have hcs : cs.toList = u32s K := by rw [e0, List.map_map]; rfl
    rw [hh, ← hcs]
  · cases hvar
end Go.Ev
