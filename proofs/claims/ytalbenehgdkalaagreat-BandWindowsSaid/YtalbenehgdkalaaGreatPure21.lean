/- Texts of the proof. -/
import Derived.Test.YtalbenehgdkalaaGreatLaw21
namespace Go.Proofs.YtalbenehgdkalaaGreat.Fn
open Go Go.RowKit Go.Den Go.Circ
theorem Wl7(x0:NetT)(x1:Wh6):Ev (fun n=>qba n (x0.1,x0.2.1,x0.2.2.1,x0.2.2.2.1,x0.2.2.2.2.1,x0.2.2.2.2.2.1,x0.2.2.2.2.2.2.1,x0.2.2.2.2.2.2.2.1,x0.2.2.2.2.2.2.2.2,x1)) true:=Wp2 _ _ _ _ _ _ _ _ _ x1
end Go.Proofs.YtalbenehgdkalaaGreat.Fn