/- Texts of the proof. -/
import Derived.Test.YtalbenehgdkalaaGreatWidest
namespace Go.Proofs.YtalbenehgdkalaaGreat.Fn
open Go Go.RowKit Go.Den Go.Circ
theorem stepIn_(c:Int)(ts:List TimT)(r:Int×Int×Int×Int×Bool×Int)(hl:ts.length < 9223372036854775807)(hb:∀ t∈ts,Bd t.2.2.1) :
 Ev (fun n=>qc8 n (ts,c,ts,r)) (ts.any (fun t=>!(Waq t.2.2.1==c)),c,ts,r):=by
 unfold qc8
 refine Ev.bind (a:=(idxI (fun t:TimT=>!(Waq t.2.2.1==c)) ts,c,ts,r)) ?_ (by rw[← Wec];exact Ev.ret _)
 unfold qdi
 refine Wcl (S:=Int×List TimT×Int×Int×Int×Int×Bool×Int) (ByteArray.mk #[],0,[],0,0) (fun n a s=>qaj n (a.1,a.2.1,a.2.2.1,a.2.2.2.1,a.2.2.2.2,s)) _ ts (c,ts,r) hl fun a ha=>?_
 unfold qaj
 exact Ev.bind (Wsg a (hb a ha)) (Ev.ret _)
end Go.Proofs.YtalbenehgdkalaaGreat.Fn