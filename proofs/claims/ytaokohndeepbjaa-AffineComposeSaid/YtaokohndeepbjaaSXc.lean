import Derived.Test.YtaokohndeepbjaaSMd
import Derived.Test.YtaokohndeepbjaaShelf
namespace Go.Proofs.Ytaokohndeepbjaa
open Go Go.RowKit Go.Vc
set_option linter.unusedVariables false
end Go.Proofs.Ytaokohndeepbjaa
