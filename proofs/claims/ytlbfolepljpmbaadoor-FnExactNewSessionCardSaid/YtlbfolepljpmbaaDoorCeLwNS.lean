import Derived.Test.YtlbfolepljpmbaaDoorCeKr2d
import Derived.KernelRfl
namespace Go.CL
set_option linter.all false
open Go Go.CE
theorem newSession_true : N.laws_FnExactNewSession = some ((true, ()), ()) := K.laws_FnExactNewSession.le 40 _ (by kernel_rfl)
end Go.CL
