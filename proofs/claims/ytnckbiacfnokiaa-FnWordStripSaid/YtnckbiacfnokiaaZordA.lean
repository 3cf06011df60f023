/- What the texts of words stand on, from the texts of rings. No condition. -/
import Derived.Test.YtnckbiacfnokiaaPlain
import Derived.Test.YtnckbiacfnokiaaApp
import Derived.Test.YtnckbiacfnokiaaImplB
import Derived.Test.YtnckbiacfnokiaaConfB
import Derived.Test.YtnckbiacfnokiaaConfC
import Derived.Test.YtnckbiacfnokiaaSpecA
import Derived.Test.YtnckbiacfnokiaaTurnJ
import Derived.Test.YtnckbiacfnokiaaTexts
import Derived.Test.YtnckbiacfnokiaaSeg
import Derived.Test.YtnckbiacfnokiaaBytes
import Derived.Test.YtnckbiacfnokiaaOpenB
import Derived.Test.YtnckbiacfnokiaaDrawA
namespace Go.Proofs.Ytnckbiacfnokiaa
open Go.RowKit
/-- a text as its bytes -/
abbrev Tx := List UInt8
end Go.Proofs.Ytnckbiacfnokiaa
