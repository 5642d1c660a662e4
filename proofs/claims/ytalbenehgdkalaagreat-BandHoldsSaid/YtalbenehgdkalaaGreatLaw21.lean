/- Texts of the proof. -/
import Derived.Test.YtalbenehgdkalaaGreatAwake21
namespace Go.Proofs.YtalbenehgdkalaaGreat.Fn
open Go Go.RowKit Go.Den Go.Circ
set_option maxRecDepth 100000
theorem Wvp(a b c d e:Int)(ns:List Wa5)(ss:List Wbp)(f g:Int)(p:Wh4)(v w:Int×Int) :
 Ev (fun n=>qba n (a,b,c,d,e,ns,ss,f,g,p.1,p.2.1,p.2.2.1,p.2.2.2.1,p.2.2.2.2.1,p.2.2.2.2.2.1,p.2.2.2.2.2.2.1,p.2.2.2.2.2.2.2,v.1,v.2,w)) true:=by
 unfold qba
 rcases few20_ a b c d e ns ss f g p with⟨hF,hS⟩ | hF
 rotate_left
 ·exact Ev.bind (F:=fun n=>qa8 n _) hF (Ev.yes rfl (Ev.ret _))
 refine Ev.bind (F:=fun n=>qa8 n _) hF ?_
 refine Ev.no rfl ?_
 refine Ev.yes rfl ?_
 refine Ev.bind (Wuk a b c d e ns ss f g p false v hS) ?_
 refine Ev.yes rfl ?_
 refine Ev.bind (Xad a b c d e ns ss f g p false v hS) ?_
 refine Ev.yes (by simp) ?_
 refine Ev.yes rfl ?_
 refine Ev.bind (Wuk a b c d e ns ss f g p true w hS) ?_
 refine Ev.yes rfl ?_
 refine Ev.bind (Xad a b c d e ns ss f g p true w hS) ?_
 refine Ev.yes (by simp) ?_
 exact Ev.bind awake21_ (Ev.ret _)
end Go.Proofs.YtalbenehgdkalaaGreat.Fn