/- The machine's code of some functions, written out. -/
import Derived.Test.YthjijjkoeoemgaaAbD
namespace Go.Proofs.Ythjijjkoeoemgaa.Ab
open Go
end Go.Proofs.Ythjijjkoeoemgaa.Ab
