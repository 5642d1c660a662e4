/- Texts of the proof. -/
import Derived.Test.YtalbenehgdkalaaGreatAwake21
namespace Go.Proofs.YtalbenehgdkalaaGreat.Fn
open Go Go.RowKit Go.Den Go.Circ
set_option maxRecDepth 100000
theorem bsame(a b:Int):(((a==a)&&((b==b)&&true)):Bool)=true:=by simp
set_option maxHeartbeats 1000000 in
theorem Wp2(a b c d e:Int)(ns:List Wa5)(ss:List Wbq)(f g:Int)(p:Wh6):Ev (fun n=>qba n (a,b,c,d,e,ns,ss,f,g,p)) true:=by
 obtain⟨cy,ts,p1,p2,p3,p4,p5,p6⟩:=p
 unfold qba
 rcases few20_ a b c d e ns ss f g (cy,ts,p1,p2,p3,p4,p5,p6)with⟨hF,hS⟩ | hF
 rotate_left
 ·exact Ev.bind (F:=fun n=>qa8 n _) hF (Ev.yes rfl (Ev.ret _))
 refine Ev.bind (F:=fun n=>qa8 n _) hF ?_
 refine Ev.no rfl ?_
 refine Ev.bind (Wup a b c d e ns ss f g (cy,ts,p1,p2,p3,p4,p5,p6) hS) ?_
 refine Ev.bind (Xam a b c d e ns ss f g (cy,ts,p1,p2,p3,p4,p5,p6) hS) ?_
 generalize Wfn (a,b,c,d,e,ns,ss,f,g) (cy,ts,p1,p2,p3,p4,p5,p6).1 (cy,ts,p1,p2,p3,p4,p5,p6).2.1=W
 obtain⟨w1,w2,w3,w4,w5⟩:=W
 refine Ev.loopB (st:=fun i=>(w5,w5,(i:Int),a,b,c,d,e,ns,ss,f,g,cy,ts,p1,p2,p3,p4,p5,p6,w1,w2,w3,w4,w1,w2,w3,w4)) 2 (.inr (w5,w5,w1,w2,w3,w4,w1,w2,w3,w4)) rfl (fun i hi=>?_) ?_ ?_
 ·refine Ev.yes (decide_eq_true (show(i:Int) < 2 by omega)) ?_
  refine Ev.bind (Wn9 a b c d e ns ss f g (cy,ts,p1,p2,p3,p4,p5,p6) ((i:Int)==1) hS) ?_
  refine Ev.bind (Wk2 a b c d e ns ss f g (cy,ts,p1,p2,p3,p4,p5,p6) ((i:Int)==1) hS) ?_
  have hl:=Wdf (x:=(a,b,c,d,e,ns,ss,f,g)) (cy:=cy) (ts:=ts) (isIn:=((i:Int)==1)) hS
  simp only[letJ]
  refine Ev.no (by simp) ?_
  refine Ev.bind (same_ _ _ (by omega)) ?_
  rw[decide_eq_true rfl]
  simp only[Bool.not_true,cond_false,Wad (show i < 9223372036854775807 by omega)]
  exact Ev.ret _
 ·refine Ev.no (decide_eq_false (show ¬((2:Nat):Int) < 2 by omega)) ?_
  exact Ev.ret _
 ·simp only[Sum.elim_inr,letJ,bsame,cond_true,beq_self_eq_true]
  exact Ev.bind awake21_ (Ev.ret _)
end Go.Proofs.YtalbenehgdkalaaGreat.Fn