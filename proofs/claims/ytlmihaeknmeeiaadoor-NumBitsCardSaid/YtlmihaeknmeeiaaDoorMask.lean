/-
  The walk of num.Mask.
-/
import Derived.Test.YtlmihaeknmeeiaaDoorBase
import Derived.Test.YtlmihaeknmeeiaaDoorNum
namespace Go.Proofs.YtlmihaeknmeeiaaDoor
open Go.RowKit

end Go.Proofs.YtlmihaeknmeeiaaDoor
