/- Texts of the proof. -/
import Derived.Test.YtalbenehgdkalaaGreatBandD
namespace Go.Proofs.YtalbenehgdkalaaGreat.Fn
open Go Go.RowKit Go.Den Go.Circ
end Go.Proofs.YtalbenehgdkalaaGreat.Fn