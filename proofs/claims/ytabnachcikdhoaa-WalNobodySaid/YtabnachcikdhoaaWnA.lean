/- WalNobody, by the evaluator. -/
import Derived.Test.YtabnachcikdhoaaEvX
set_option maxRecDepth 1000000
namespace Go.Ev
open Go.Sl
noncomputable section
def tb : Tabs pr := ⟨look2 tabT, look2 tabF, fun _ => none, chkT_ok tabT_ok, chkF_ok (k := 0) tabF_16 tabF_le tabF_all tabF_nm, fun _ _ _ _ => false, (fun f vs M k h => by cases h), fun _ => none, (fun f g h => by cases h)⟩
theorem nobody_run (p : Option Addr) (n c : Nat) : callFK tb (ev pr tb 100) 3 [.sym (.slice p n c)] .nil ([] : Env).length isTrue = true := by kernel_rfl
theorem nobody_ok (p : Option Addr) (n c : Nat) (hF : Hp) : FnOk pr 3 [.slice p n c] [] hF (fun v _ => v = .bool true) := fun w hs =>
  Calls.mono (law_true (ρ := []) (by kernel_rfl) (nobody_run p n c) (fun w h => rep_nil h) (by intro g i h; exact absurd (show (none : Option Nat) = some i from h) (by simp)) rfl w hs) fun e w' ⟨v, Γ, h1, ⟨h2, h3⟩, h4⟩ => ⟨v, Γ, h1, h2, h4⟩
end
end Go.Ev
