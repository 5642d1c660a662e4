/- Texts of the proof. -/
import Derived.Test.YtalbenehgdkalaaGreatCircFn
namespace Go.Proofs.YtalbenehgdkalaaGreat.Fn
open Go Go.RowKit Go.Den Go.Circ
def mk(n:Nat)(f:Nat→Bool):List Bool:=(List.range n).map f
end Go.Proofs.YtalbenehgdkalaaGreat.Fn