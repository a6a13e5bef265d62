-- A text of this session's own: written by its program gprint
import Derived.Test.YtolikobhjmnedaaDoorGNCx0
import Derived.Test.YtolikobhjmnedaaDoorGNCx1
import Derived.Test.YtolikobhjmnedaaDoorGNCx2
import Derived.Test.YtolikobhjmnedaaDoorGNCx3
import Derived.Test.YtolikobhjmnedaaDoorGNCx4
import Derived.Test.YtolikobhjmnedaaDoorGNCx5
import Derived.Test.YtolikobhjmnedaaDoorGNCx6
import Derived.Test.YtolikobhjmnedaaDoorGNCx7
import Derived.Test.YtolikobhjmnedaaDoorGNCx8
namespace Go.Proofs.YtolikobhjmnedaaDoor.GNC
open Go.RowKit Go.Proofs.YtolikobhjmnedaaDoorW.PrintWords Go.Proofs.YtolikobhjmnedaaDoorW.PrintLast Go.Proofs.YtolikobhjmnedaaDoorW.PrintMore
attribute [local go_sem] max2_int min2_int max_two min_two max_three min_three max_four min_four   -- for this text's walks alone
set_option linter.unusedVariables false
set_option linter.unusedSimpArgs false

end Go.Proofs.YtolikobhjmnedaaDoor.GNC
