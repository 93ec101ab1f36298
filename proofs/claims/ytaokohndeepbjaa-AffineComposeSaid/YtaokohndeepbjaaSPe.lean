import Derived.Test.YtaokohndeepbjaaSPd
namespace Go.Proofs.Ytaokohndeepbjaa
open Go Go.RowKit Go.Vc
set_option linter.unusedVariables false
set_option linter.unusedSimpArgs false
def ord (a b : Int) : Int := if a < b then -1 else if b < a then 1 else 0
end Go.Proofs.Ytaokohndeepbjaa
