-- A text of this session's own: written by its program gprint
import Derived.Test.YtolikobhjmnedaaDoorGNSx0
import Derived.Test.YtolikobhjmnedaaDoorGNSx1
import Derived.Test.YtolikobhjmnedaaDoorGNSx2
import Derived.Test.YtolikobhjmnedaaDoorGNSx3
import Derived.Test.YtolikobhjmnedaaDoorGNSx4
import Derived.Test.YtolikobhjmnedaaDoorGNSx5
import Derived.Test.YtolikobhjmnedaaDoorGNSx6
import Derived.Test.YtolikobhjmnedaaDoorGNSx7
import Derived.Test.YtolikobhjmnedaaDoorGNSx8
import Derived.Test.YtolikobhjmnedaaDoorGNSx9
import Derived.Test.YtolikobhjmnedaaDoorGNSx10
-- shrunk
namespace Go.Proofs.YtolikobhjmnedaaDoor.GNS
open Go.RowKit Go.Proofs.YtolikobhjmnedaaDoorW.PrintWords Go.Proofs.YtolikobhjmnedaaDoorW.PrintLast Go.Proofs.YtolikobhjmnedaaDoorW.PrintMore
attribute [local go_sem] max2_int min2_int max_two min_two max_three min_three max_four min_four   -- for this text's walks alone
set_option linter.unusedVariables false
set_option linter.unusedSimpArgs false

end Go.Proofs.YtolikobhjmnedaaDoor.GNS
