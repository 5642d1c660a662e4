/- All laws of chapter 3, as the rows' proofs ask for them. -/
import Derived.Test.YtemhdliapelleaaCircLawsB
namespace Go.Proofs.Ytemhdliapelleaa.Fn
open Go Go.RowKit Go.Den Go.Circ
set_option linter.unusedVariables false
theorem circleSetsPure (x0 : Int) (x1 : List (Int × Int)) (w0 : WfA Θ (.one (.int .i64)) x0) (w1 : WfA Θ (.one (.sl 23)) x1) : Ev (fun n => law03_CircleSets n (x0, x1)) true := CircleSets_ x0 x1
theorem circleMeetsPure (x0 : Int) (x1 x2 : List (Int × Int)) (w0 : WfA Θ (.one (.int .i64)) x0) (w1 : WfA Θ (.one (.sl 23)) x1) (w2 : WfA Θ (.one (.sl 23)) x2) : Ev (fun n => law03_CircleMeets n (x0, x1, x2)) true := CircleMeets_ x0 x1 x2
theorem circleRestsPure (x0 : Int) (x1 x2 : List (Int × Int)) (w0 : WfA Θ (.one (.int .i64)) x0) (w1 : WfA Θ (.one (.sl 23)) x1) (w2 : WfA Θ (.one (.sl 23)) x2) : Ev (fun n => law03_CircleRests n (x0, x1, x2)) true := CircleRests_ x0 x1 x2
theorem circleTurnsPure (x0 : Int) (x1 : List (Int × Int)) (x2 : Int × Int) (w0 : WfA Θ (.one (.int .i64)) x0) (w1 : WfA Θ (.one (.sl 23)) x1) (w2 : WfA Θ (.agg [.int .i64, .int .i64]) x2) : Ev (fun n => law03_CircleTurns n (x0, x1, x2)) true := CircleTurns_ x0 (i64_of w0).2 x1 x2.1 x2.2
theorem circleArcsPure (x0 : Int) (x1 : Int × Int × Int × Int) (x2 : Int) (w0 : WfA Θ (.one (.int .i64)) x0) (w1 : WfA Θ (.agg [.int .i64, .int .i64, .int .i64, .int .i64]) x1) (w2 : WfA Θ (.one (.int .i64)) x2) :
    Ev (fun n => law03_CircleArcs n (x0, x1.1, x1.2.1, x1.2.2.1, x1.2.2.2, x2)) true := CircleArcs_ x0 (x1.1, x1.2.1) (x1.2.2.1, x1.2.2.2) x2
theorem circleFormPure (x0 : Int) (x1 : List (Int × Int)) (x2 : Int) (w0 : WfA Θ (.one (.int .i64)) x0) (w1 : WfA Θ (.one (.sl 23)) x1) (w2 : WfA Θ (.one (.int .i64)) x2) : Ev (fun n => law03_CircleForm n (x0, x1, x2)) true := CircleForm_ x0 x1 x2
theorem circleWidestPure (x0 : Int) (x1 : List (Int × Int)) (x2 : Int × Int) (w0 : WfA Θ (.one (.int .i64)) x0) (w1 : WfA Θ (.one (.sl 23)) x1) (w2 : WfA Θ (.agg [.int .i64, .int .i64]) x2) : Ev (fun n => law03_CircleWidest n (x0, x1, x2)) true := CircleWidest_ x0 x1 x2
end Go.Proofs.Ytemhdliapelleaa.Fn
