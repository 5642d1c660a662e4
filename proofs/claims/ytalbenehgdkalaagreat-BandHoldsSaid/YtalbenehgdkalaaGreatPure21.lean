/- Texts of the proof. -/
import Derived.Test.YtalbenehgdkalaaGreatLaw21
namespace Go.Proofs.YtalbenehgdkalaaGreat.Fn
open Go Go.RowKit Go.Den Go.Circ
theorem Wpb(x0:NetT)(x1:Wh4)(x2:Int×Int×Int×Int):Ev (fun n=>qba n (x0.1,x0.2.1,x0.2.2.1,x0.2.2.2.1,x0.2.2.2.2.1,x0.2.2.2.2.2.1,x0.2.2.2.2.2.2.1,x0.2.2.2.2.2.2.2.1,x0.2.2.2.2.2.2.2.2,x1.1,x1.2.1,x1.2.2.1,x1.2.2.2.1,x1.2.2.2.2.1,x1.2.2.2.2.2.1,x1.2.2.2.2.2.2.1,x1.2.2.2.2.2.2.2,x2)) true:=Wvp _ _ _ _ _ _ _ _ _ x1 (x2.1,x2.2.1) x2.2.2
end Go.Proofs.YtalbenehgdkalaaGreat.Fn