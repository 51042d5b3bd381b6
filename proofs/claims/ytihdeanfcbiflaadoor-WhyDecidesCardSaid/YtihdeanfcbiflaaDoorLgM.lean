/- The walk of a product of a number of 320 bits and one of 64. -/
import Derived.Test.YtihdeanfcbiflaaDoorLgS
import Derived.Test.YtihdeanfcbiflaaDoorLgH
namespace Go.Proofs.YtihdeanfcbiflaaDoor.Lg
open Go.RowKit Go.Proofs.YtihdeanfcbiflaaDoor.Mk Go.Proofs.YtihdeanfcbiflaaDoor.Ul Go.Proofs.YtihdeanfcbiflaaDoor.Wi
end Go.Proofs.YtihdeanfcbiflaaDoor.Lg
