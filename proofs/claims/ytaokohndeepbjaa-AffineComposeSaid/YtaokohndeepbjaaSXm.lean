import Derived.Test.YtaokohndeepbjaaSLfO
import Derived.Test.YtaokohndeepbjaaSLfS
import Derived.Test.YtaokohndeepbjaaSLfQ
import Derived.Test.YtaokohndeepbjaaProg
import Derived.KernelRfl
namespace Go.Proofs.Ytaokohndeepbjaa
open Go Go.RowKit Go.Vc
set_option linter.unusedVariables false
end Go.Proofs.Ytaokohndeepbjaa
