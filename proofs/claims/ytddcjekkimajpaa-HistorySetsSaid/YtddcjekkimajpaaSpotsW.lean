/- Contract of overdublaw18.spots. -/
import Derived.Test.YtddcjekkimajpaaKeepW
import Derived.Test.YtddcjekkimajpaaExtPure
import Derived.Deep.RegionHeld3
import Derived.Deep.DeepMust
import Derived.IntWalk
namespace Go.Proofs.Ytddcjekkimajpaa.ExtW
open Go.RowKit Go.Ov Go.Proofs.Ytddcjekkimajpaa.Need

/-- small extents -/
def small (e : Ext) : Bool := decide (0 ≤ e.skip) && decide (e.skip ≤ 64) && decide (0 ≤ e.take) && decide (e.take ≤ 64)

end Go.Proofs.Ytddcjekkimajpaa.ExtW
