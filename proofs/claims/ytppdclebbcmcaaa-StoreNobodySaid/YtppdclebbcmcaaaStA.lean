/- StoreNobody, by the evaluator. -/
import Derived.Test.YtppdclebbcmcaaaEvX
set_option linter.unusedSimpArgs false
set_option linter.unusedVariables false
set_option maxRecDepth 1000000
namespace Go.Ev
open Go.Sl
noncomputable section
def tbs : Tabs pr := ⟨look2 tabT, look2 tabF, fun _ => none, chkT_ok tabT_ok, chkF_ok (k := 0) tabF_16 tabF_le tabF_all tabF_nm, xK tabX, xK_ok tabX_ok, fun _ => none, (fun f g h => by cases h)⟩
theorem nobody_run (s t : ByteArray) : callFK tbs (ev pr tbs 100) 4 [.sym (.string s), .sym (.string t)] .nil 0 isTrue = true := by kernel_rfl
theorem nobody_ok (s t : ByteArray) (hF : Hp) : FnOk pr 4 [.string s, .string t] [] hF (fun v _ => v = .bool true) := fun w hs =>
  Calls.mono (law_true (ρ := ⟨[]⟩) (by kernel_rfl) (nobody_run s t) (fun w h => rep_nil h) (by intro g i h; exact absurd (show (none : Option Nat) = some i from h) (by simp)) rfl w hs) fun e w' ⟨v, Γ, h1, ⟨h2, h3⟩, h4⟩ => ⟨v, Γ, h1, h2, h4⟩
end
end Go.Ev
