/- ChannelNobody: the contract; the arguments. -/
import Derived.Test.YtabbonafljochaaGreatDoorCnA
set_option linter.unusedSimpArgs false
set_option linter.unusedVariables false

set_option maxRecDepth 100000
namespace Go.Ev
open Go Go.Sl Go.Sh
/-- A variable's block with other cells. -/
def relay (l : List Value) (o : Obj) : Obj := match o with
  | .cells _ t f => .cells ⟨l⟩ t f
  | o => o
theorem nobody_ok {W : World} {t0 t1 t2 : TypeId} {f0 f1 f2 : Nat × Nat} (h0 : mem W 0 = some (.cells ⟨vtxV⟩ t0 f0)) (h1 : mem W 1 = some (.cells ⟨u32s tabK⟩ t1 f1)) (h2 : mem W 2 = some (.cells ⟨vtxV⟩ t2 f2))
    (s t u : ByteArray) (n : Int) (p q : Option Addr) (n1 c1 n2 c2 : Nat) : FnOk pr 6 [.agg ⟨[.string s, .int .i64 n, .string t, .slice p n1 c1, .slice q n2 c2]⟩, .string u] [] (mem W) (fun v _ => v = .bool true) := fun w hs =>
  Calls.mono (law_true (ρ := ρ0) (by kernel_rfl) (nobody_run t0 t1 t2 s t u n p q n1 c1 n2 c2) (fun w h => rep0 h0 h1 h2 w h) glT_ok rfl w hs) fun e w' ⟨v, Γ, h1, ⟨h2, h3⟩, h4⟩ => ⟨v, Γ, h1, h2, h4⟩
theorem patch_any {H : Type} {enc : TypeId × Value → H} {W : World} {cs : List Value} {d : DataW H} (h : Sl.Reads enc Go.Proofs.Tryz.prog W 33 cs d) : ∃ a t n p n1 c1 q n2 c2, cs = [.string a, .int .i64 t, .string n, .slice p n1 c1, .slice q n2 c2] := by
  have hlen := h.len rfl
  rw [show (Go.Proofs.Tryz.prog).cellsOf 33 = 5 by kernel_rfl] at hlen
  obtain ⟨_, q0⟩ := h.field (f := ⟨"Author", 9, 0, false, "", "", 0⟩) rfl 0 rfl
  obtain ⟨_, q1⟩ := h.field (f := ⟨"Time", 3, 1, false, "", "", 16⟩) rfl 1 rfl
  obtain ⟨_, q2⟩ := h.field (f := ⟨"Note", 9, 2, false, "", "", 24⟩) rfl 2 rfl
  obtain ⟨_, q3⟩ := h.field (f := ⟨"Deps", 30, 3, false, "", "", 40⟩) rfl 3 rfl
  obtain ⟨_, q4⟩ := h.field (f := ⟨"Ops", 31, 4, false, "", "", 64⟩) rfl 4 rfl
  match cs, hlen, q0, q1, q2, q3, q4 with
  | [a0, a1, a2, a3, a4], _, q0, q1, q2, q3, q4 =>
    replace q0 : Sl.Reads enc Go.Proofs.Tryz.prog W 9 [a0] _ := q0
    replace q1 : Sl.Reads enc Go.Proofs.Tryz.prog W 3 [a1] _ := q1
    replace q2 : Sl.Reads enc Go.Proofs.Tryz.prog W 9 [a2] _ := q2
    replace q3 : Sl.Reads enc Go.Proofs.Tryz.prog W 30 [a3] _ := q3
    replace q4 : Sl.Reads enc Go.Proofs.Tryz.prog W 31 [a4] _ := q4
    obtain ⟨a, e0, _⟩ := q0.str (by kernel_rfl)
    obtain ⟨t, e1, _⟩ := q1.int (k := .i64) (by kernel_rfl)
    obtain ⟨n, e2, _⟩ := q2.str (by kernel_rfl)
    obtain ⟨v3, els3, e3, r3, _⟩ := q3.slice (e := 35) (sz := 32) rfl (by kernel_rfl) (by omega)
    obtain ⟨v4, els4, e4, r4, _⟩ := q4.slice (e := 64) (sz := 69) rfl (by kernel_rfl) (by omega)
    obtain ⟨p3, c3, rfl, _⟩ := r3
    obtain ⟨p4, c4, rfl, _⟩ := r4
    cases e0; cases e1; cases e2; cases e3; cases e4
    exact ⟨_, _, _, _, _, _, _, _, _, rfl⟩
end Go.Ev
