/-
  The walk of num.Mask.
-/
import Derived.Test.YtpbahbigimnboaaDoorBase
import Derived.Test.YtpbahbigimnboaaDoorNum
namespace Go.Proofs.YtpbahbigimnboaaDoor
open Go.RowKit

end Go.Proofs.YtpbahbigimnboaaDoor
