/- This program's tables for the evaluator, checked by the kernel. (Laid by tabs.py.) -/
import Derived.Test.YtppdclebbcmcaaaEvXa
import Derived.Test.YtppdclebbcmcaaaEvU
import Derived.Test.YtppdclebbcmcaaaEvX1
set_option maxRecDepth 100000
namespace Go.Ev
theorem tabT_ok : chkT pr tabT = true := by kernel_rfl
theorem tabF_16 : full16 tabF = true := by kernel_rfl
theorem tabF_le : le16 tabF = true := by kernel_rfl
theorem tabF_all : tabF.flatten = pr.funcs.toList.map some := by kernel_rfl
theorem tabF_nm : pr.funcs.toList.all (fun fn => !(fn.name == "runtime.NumGoroutine")) = true := by kernel_rfl
theorem tabX_ok : ∀ p ∈ tabX, IsExt pr p.1 (extOf p.2) := by
  unfold tabX
  simp
end Go.Ev
