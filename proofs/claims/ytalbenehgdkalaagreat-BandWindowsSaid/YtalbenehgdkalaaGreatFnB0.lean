/- Texts of the proof. -/
import Derived.Test.YtalbenehgdkalaaGreatFnA10
namespace Go.Proofs.YtalbenehgdkalaaGreat.Fn
set_option maxRecDepth 100000
open Go Go.RowKit Go.Den
end Go.Proofs.YtalbenehgdkalaaGreat.Fn