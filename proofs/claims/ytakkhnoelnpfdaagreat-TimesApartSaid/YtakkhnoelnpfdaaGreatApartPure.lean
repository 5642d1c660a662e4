/- Chapter 18's law of slots that lie apart, as its row asks for it. -/
import Derived.Test.YtakkhnoelnpfdaaGreatApartLaw
import Derived.Test.YtakkhnoelnpfdaaGreatWf
namespace Go.Proofs.YtakkhnoelnpfdaaGreat.Fn
open Go Go.RowKit Go.Den Go.Circ
theorem timesApartPure (x : NetT) (t : TimT) (w : WfA Θ (.agg [.int .i64, .int .i64, .int .i64, .int .i64, .int .i64, .sl 28, .sl 121, .int .i64, .int .i64]) x) : Ev (fun n => law18_TimesApart n (x.1, x.2.1, x.2.2.1, x.2.2.2.1, x.2.2.2.2.1, x.2.2.2.2.2.1, x.2.2.2.2.2.2.1, x.2.2.2.2.2.2.2.1, x.2.2.2.2.2.2.2.2, t)) true := TimesApart_ x t (netSh_of w)
end Go.Proofs.YtakkhnoelnpfdaaGreat.Fn
