/- Texts of the proof. -/
import Derived.Test.YtalbenehgdkalaaGreatCirc
namespace Go.Circ
def bt(b:List Bool)(j:Nat):Bool:=b.getD j false
def Wck(P:List (Int×Int)):Int:=(P.map fun p=>p.2 - p.1).sum
end Go.Circ