/-
  WALKS OF eqIntS, markIntS, heldIntS: what every statement on slices goes through. No statement of the seat is proved here.
-/
import Derived.Test.YthnpobbpmgjhjaaDoorW1
namespace Go.Proofs.YthnpobbpmgjhjaaDoor
open Go.RowKit

end Go.Proofs.YthnpobbpmgjhjaaDoor
