/- The lists of sectors' numbers of package memory. -/
import Derived.Test.YtogljlloobjeoaaGreatMemC
import Derived.Test.YtogljlloobjeoaaGreatRefA
import Derived.RangeFuncBox
import Derived.Maps.AppendAt
namespace Go.Proofs.YtogljlloobjeoaaGreat
open Go.RowKit Go.Shelf

attribute [local go_sem] Oper.semAt_some

end Go.Proofs.YtogljlloobjeoaaGreat
