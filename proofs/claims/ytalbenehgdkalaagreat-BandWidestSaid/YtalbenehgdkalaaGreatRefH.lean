/- Texts of the proof. -/
import Derived.Test.YtalbenehgdkalaaGreatRefT
import Derived.Test.YtalbenehgdkalaaGreatTimesC
import Derived.Test.YtalbenehgdkalaaGreatChecksG
namespace Go.Proofs.YtalbenehgdkalaaGreat.Fn
open Go Go.RowKit Go.Den Go.Circ
end Go.Proofs.YtalbenehgdkalaaGreat.Fn