/- The pure statement of NatChecks. -/
import Derived.Test.YtolikobhjmnedaaDoorNatCheck
namespace Go.Proofs.YtolikobhjmnedaaDoor.Pure
open Go.RowKit Go.Proofs.YtolikobhjmnedaaDoor.GNC Go.Proofs.YtolikobhjmnedaaDoorW.PrintWords Go.Proofs.YtolikobhjmnedaaDoorW.PrintLast Go.Proofs.YtolikobhjmnedaaDoor.Aid
theorem NatChecks : gamehalllaw2_NatChecks.Pure := by
  intro s hs
  apply Ev.rounds
  unfold gamehalllaw2_NatChecks.f
  exact Ev.bind1 fact_ev (Ev.yes rfl (Ev.bind1 (check_ev s (by omega)) (Ev.bind1 (rerr_ev s (by omega)) (Ev.now' (by simp)))))
end Go.Proofs.YtolikobhjmnedaaDoor.Pure
