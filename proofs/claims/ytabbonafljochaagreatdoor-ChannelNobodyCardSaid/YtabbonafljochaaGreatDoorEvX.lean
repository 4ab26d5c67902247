/- This program's tables for the evaluator, checked by the kernel. (Laid by tabs.py.) -/
import Derived.Test.YtabbonafljochaaGreatDoorEvXa
import Derived.Test.YtabbonafljochaaGreatDoorEvU
import Derived.Test.YtabbonafljochaaGreatDoorEvX1
set_option maxRecDepth 100000
namespace Go.Ev
theorem tabT_ok : chkT pr tabT = true := by kernel_rfl
theorem tabF_16 : full16 tabF = true := by kernel_rfl
theorem tabF_le : le16 tabF = true := by kernel_rfl
theorem tabF_all : tabF.flatten = pr.funcs.toList.map some := by kernel_rfl
theorem tabF_nm : pr.funcs.toList.all (fun fn => !(fn.name == "runtime.NumGoroutine")) = true := by kernel_rfl
theorem ext89 : IsExt pr 89 (extOf 2) := ⟨_, Go.Proofs.Tryz.func89, rfl, by decide +kernel, by kernel_rfl, by kernel_rfl⟩
theorem ext141 : IsExt pr 141 (extOf 1) := ⟨_, Go.Proofs.Tryz.func141, rfl, by decide +kernel, by kernel_rfl, by kernel_rfl⟩
theorem ext202 : IsExt pr 202 (extOf 0) := ⟨_, Go.Proofs.Tryz.func202, rfl, by decide +kernel, by kernel_rfl, by kernel_rfl⟩
theorem tabX_ok : ∀ p ∈ tabX, IsExt pr p.1 (extOf p.2) := by
  unfold tabX
  simp only [List.forall_mem_cons, List.not_mem_nil, false_imp_iff, implies_true, and_true]
  exact ⟨ext89, ext141, ext202⟩
end Go.Ev
