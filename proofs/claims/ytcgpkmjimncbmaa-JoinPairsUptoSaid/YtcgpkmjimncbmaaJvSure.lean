/- The chapters' own examples of views and joins, run whole. -/
import Derived.Test.YtcgpkmjimncbmaaAbD
namespace Go.Proofs.Ytcgpkmjimncbmaa.Ab
open Go
set_option maxRecDepth 100000
theorem sure_runs : saysTrue (evCall plainC 60 19 [] emptyH) = true := by kernel_rfl
theorem awake19_runs : saysTrue (evCall plainC 60 13 [] emptyH) = true := by kernel_rfl
end Go.Proofs.Ytcgpkmjimncbmaa.Ab
