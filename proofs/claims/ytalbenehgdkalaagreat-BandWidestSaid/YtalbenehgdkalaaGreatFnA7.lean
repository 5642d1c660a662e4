/- Texts of the proof. -/
import Derived.Test.YtalbenehgdkalaaGreatFnA6
namespace Go.Proofs.YtalbenehgdkalaaGreat.Fn
set_option maxRecDepth 100000
open Go Go.RowKit Go.Den
def qbc(n:Nat)(x0:Int×Int):Option (Int):=let e0:=Int.tmod x0.1 x0.2;bif !(x0.2==0)then bif decide (e0 < 0)then some (wrap64 (e0+x0.2)) else some e0 else none
end Go.Proofs.YtalbenehgdkalaaGreat.Fn