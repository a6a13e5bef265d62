-- A text of this session's own: written by its program gprint
import Derived.Test.YtolikobhjmnedaaDoorGNx0
import Derived.Test.YtolikobhjmnedaaDoorGNx1
import Derived.Test.YtolikobhjmnedaaDoorGNx2
import Derived.Test.YtolikobhjmnedaaDoorGNx3
import Derived.Test.YtolikobhjmnedaaDoorGNx4
import Derived.Test.YtolikobhjmnedaaDoorGNx5
import Derived.Test.YtolikobhjmnedaaDoorGNx6
import Derived.Test.YtolikobhjmnedaaDoorGNx7
import Derived.Test.YtolikobhjmnedaaDoorGNx8
import Derived.Test.YtolikobhjmnedaaDoorGNx9
import Derived.Test.YtolikobhjmnedaaDoorGNx11
import Derived.Test.YtolikobhjmnedaaDoorGNx13
import Derived.Test.YtolikobhjmnedaaDoorGNx14
-- shrunk
namespace Go.Proofs.YtolikobhjmnedaaDoor.GN
open Go.RowKit Go.Proofs.YtolikobhjmnedaaDoorW.PrintWords Go.Proofs.YtolikobhjmnedaaDoorW.PrintLast Go.Proofs.YtolikobhjmnedaaDoorW.PrintMore
attribute [local go_sem] max2_int min2_int max_two min_two max_three min_three max_four min_four   -- for this text's walks alone
set_option linter.unusedVariables false
set_option linter.unusedSimpArgs false

end Go.Proofs.YtolikobhjmnedaaDoor.GN
