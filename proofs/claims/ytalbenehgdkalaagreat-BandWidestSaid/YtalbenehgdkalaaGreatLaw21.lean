/- Texts of the proof. -/
import Derived.Test.YtalbenehgdkalaaGreatAwake21
namespace Go.Proofs.YtalbenehgdkalaaGreat.Fn
open Go Go.RowKit Go.Den Go.Circ
set_option maxRecDepth 100000
theorem Wwx{a b c d e:Int}{ns:List Wa5}{ss:List Wbs}{f g:Int}{cy:Int}{ts:List TimT}{isIn:Bool}(h:Small20 ns ss ts)(h0:(Wan (a,b,c,d,e,ns,ss,f,g) cy ts isIn).2=0)(l0 l1:Int)(hl0:0≤l0)(hl1:0≤l1) :
 (1≤cy∧cy≤500)∧
 Wgb (a,b,c,d,e,ns,ss,f,g) cy ts isIn (Int.tmod l0 cy,wrap64 ((Wct cy (Wan (a,b,c,d,e,ns,ss,f,g) cy ts isIn).1).2+1))=false∧
 (0 < (Wct cy (Wan (a,b,c,d,e,ns,ss,f,g) cy ts isIn).1).2→Wgb (a,b,c,d,e,ns,ss,f,g) cy ts isIn (Int.tmod (wrap64 ((Wct cy (Wan (a,b,c,d,e,ns,ss,f,g) cy ts isIn).1).1+Int.tmod l1 (Wct cy (Wan (a,b,c,d,e,ns,ss,f,g) cy ts isIn).1).2)) cy,wrap64 ((Wct cy (Wan (a,b,c,d,e,ns,ss,f,g) cy ts isIn).1).2 - Int.tmod l1 (Wct cy (Wan (a,b,c,d,e,ns,ss,f,g) cy ts isIn).1).2))=true)∧
 Wgb (a,b,c,d,e,ns,ss,f,g) cy ts isIn ((Wct cy (Wan (a,b,c,d,e,ns,ss,f,g) cy ts isIn).1).1,0)=true:=by
 obtain⟨⟨c1,c2⟩,_⟩:=Wga h h0
 unfold Wgb
 rw[decide_eq_true h0]
 generalize (Wan (a,b,c,d,e,ns,ss,f,g) cy ts isIn).1=L
 obtain⟨⟨w1,w2⟩,⟨w3,w4⟩,w5⟩:=Wjw c1 (by omega) L
 have k1:=wider_no c1 (by omega) L (Int.tmod l0 cy)
 have k2:=Wwv c1 (by omega) L
 have k3:=Www c1 (by omega) L (Wct cy L).1
 generalize Wct cy L=W at *
 refine⟨⟨c1,c2⟩,?_,fun hw=>?_,?_⟩
 ·rw[Waq (by omega) (by omega)]
  by_cases h5:W.2+1≤cy
  ·rw[k1 h5];simp
  ·rw[decide_eq_false h5];simp
 ·have m0:=Int.emod_nonneg l1 (b:=W.2) (by omega)
  have m1:=Int.emod_lt_of_pos l1 (b:=W.2) hw
  have e1:Int.tmod l1 W.2=l1 % W.2:=Int.tmod_eq_emod_of_nonneg hl1
  rw[e1,Waq (n:=W.1+l1 % W.2) (by omega) (by omega),Waq (n:=W.2 - l1 % W.2) (by omega) (by omega),Int.tmod_eq_emod_of_nonneg (show 0≤W.1+l1 % W.2 by omega),k2 _ m0]
  have q0:=Int.emod_nonneg (W.1+l1 % W.2) (b:=cy) (by omega)
  have q1:=Int.emod_lt_of_pos (W.1+l1 % W.2) (b:=cy) (by omega)
  simp only[Bool.and_true,Bool.true_and,Bool.and_eq_true,decide_eq_true_eq]
  omega
 ·rw[k3]
  simp only[Bool.and_true,Bool.true_and,Bool.and_eq_true,decide_eq_true_eq]
  omega
set_option maxHeartbeats 4000000 in
theorem Wq6(a b c d e:Int)(ns:List Wa5)(ss:List Wbs)(f g:Int)(p:Wlg)(l0 l1 l2:Int) :
 Ev (fun n=>qba n (a,b,c,d,e,ns,ss,f,g,p.1,p.2.1,p.2.2.1,p.2.2.2.1,p.2.2.2.2.1,p.2.2.2.2.2.1,p.2.2.2.2.2.2.1,p.2.2.2.2.2.2.2,l0,l1,l2)) true:=by
 obtain⟨cy,ts,p1,p2,p3,p4,p5,p6⟩:=p
 have aw:Ev (fun n=>(qbb n ()).bind fun y=>some y) true:=Ev.bind awake21_ (Ev.ret _)
 unfold qba
 simp only[letJ]
 rcases few20_ a b c d e ns ss f g (cy,ts,p1,p2,p3,p4,p5,p6)with⟨hF,hS⟩ | hF
 rotate_left
 ·refine Ev.bind (F:=fun n=>qa8 n _) hF ?_
  refine Ev.yes rfl ?_
  exact Ev.yes rfl aw
 refine Ev.bind (F:=fun n=>qa8 n _) hF ?_
 refine Ev.no rfl ?_
 refine Ev.yes rfl ?_
 refine Ev.ite (fun _=>Ev.yes rfl aw) (fun hl0=>?_)
 refine Ev.yes rfl ?_
 refine Ev.ite (fun _=>aw) (fun hl1=>?_)
 have hl0:0≤l0:=by have:=of_decide_eq_false hl0;omega
 have hl1:0≤l1:=by have:=of_decide_eq_false hl1;omega
 refine Ev.yes rfl ?_
 have hw:=Wtc a b c d e ns ss f g (cy,ts,p1,p2,p3,p4,p5,p6) hS
 have he:=Wh8 (a,b,c,d,e,ns,ss,f,g) cy ts
 simp only at hw
 unfold Wh9 at hw
 by_cases h0:(Wan (a,b,c,d,e,ns,ss,f,g) cy ts false).2=0
 case neg=>
  rw[if_neg h0]at hw
  refine Ev.bind hw ?_
  refine Ev.ite (fun _=>?_) (fun _=>?_)
  ·exact Ev.yes (by simp[h0]) (Ev.yes rfl (Ev.yes rfl aw))
  ·exact Ev.yes (by simp[h0]) (Ev.yes rfl (Ev.yes rfl aw))
 rw[if_pos h0]at hw
 refine Ev.bind hw ?_
 have h0':(Wan (a,b,c,d,e,ns,ss,f,g) cy ts true).2=0:=by rw[← he];exact h0
 refine Ev.ite (fun hin=>?_) (fun hin=>?_)
 ·obtain⟨⟨c1,c2⟩,h1,h2,h3⟩:=Wwx (a:=a) (b:=b) (c:=c) (d:=d) (e:=e) (f:=f) (g:=g) (cy:=cy) (isIn:=true) hS h0' l0 l1 hl0 hl1
  generalize hW:Wct cy (Wan (a,b,c,d,e,ns,ss,f,g) cy ts true).1=W at *
  refine Ev.no (by simp) ?_
  refine Ev.yes rfl ?_
  refine Ev.yes (by simp;omega) ?_
  refine Ev.ite (fun _=>?_) (fun _=>?_)
  ·refine Ev.bind ((Wdr a b c d e ns ss f g (cy,ts,p1,p2,p3,p4,p5,p6) (decide (0 < l2)) (Int.tmod l0 cy,wrap64 (W.2+1)) hS).of_eq (w:=false) (by rw[hin];exact h1)) ?_
   refine Ev.no rfl ?_
   refine Ev.ite (fun hw=>?_) (fun _=>?_)
   ·have hw:0 < W.2:=of_decide_eq_true hw
    refine Ev.yes rfl ?_
    refine Ev.yes (by simp;omega) ?_
    refine Ev.yes (by simp;omega) ?_
    refine Ev.bind ((Wdr a b c d e ns ss f g (cy,ts,p1,p2,p3,p4,p5,p6) (decide (0 < l2)) (Int.tmod (wrap64 (W.1+Int.tmod l1 W.2)) cy,wrap64 (W.2 - Int.tmod l1 W.2)) hS).of_eq (w:=true) (by rw[hin];exact h2 hw)) ?_
    refine Ev.no rfl ?_
    refine Ev.bind ((Wdr a b c d e ns ss f g (cy,ts,p1,p2,p3,p4,p5,p6) (decide (0 < l2)) (W.1,0) hS).of_eq (w:=true) (by rw[hin];exact h3)) ?_
    exact Ev.yes rfl aw
   ·refine Ev.bind ((Wdr a b c d e ns ss f g (cy,ts,p1,p2,p3,p4,p5,p6) (decide (0 < l2)) (W.1,0) hS).of_eq (w:=true) (by rw[hin];exact h3)) ?_
    exact Ev.yes rfl aw
  ·refine Ev.no rfl ?_
   refine Ev.ite (fun hw=>?_) (fun _=>?_)
   ·have hw:0 < W.2:=of_decide_eq_true hw
    refine Ev.yes rfl ?_
    refine Ev.yes (by simp;omega) ?_
    refine Ev.yes (by simp;omega) ?_
    refine Ev.bind ((Wdr a b c d e ns ss f g (cy,ts,p1,p2,p3,p4,p5,p6) (decide (0 < l2)) (Int.tmod (wrap64 (W.1+Int.tmod l1 W.2)) cy,wrap64 (W.2 - Int.tmod l1 W.2)) hS).of_eq (w:=true) (by rw[hin];exact h2 hw)) ?_
    refine Ev.no rfl ?_
    refine Ev.bind ((Wdr a b c d e ns ss f g (cy,ts,p1,p2,p3,p4,p5,p6) (decide (0 < l2)) (W.1,0) hS).of_eq (w:=true) (by rw[hin];exact h3)) ?_
    exact Ev.yes rfl aw
   ·refine Ev.bind ((Wdr a b c d e ns ss f g (cy,ts,p1,p2,p3,p4,p5,p6) (decide (0 < l2)) (W.1,0) hS).of_eq (w:=true) (by rw[hin];exact h3)) ?_
    exact Ev.yes rfl aw
 ·obtain⟨⟨c1,c2⟩,h1,h2,h3⟩:=Wwx (a:=a) (b:=b) (c:=c) (d:=d) (e:=e) (f:=f) (g:=g) (cy:=cy) (isIn:=false) hS h0 l0 l1 hl0 hl1
  generalize hW:Wct cy (Wan (a,b,c,d,e,ns,ss,f,g) cy ts false).1=W at *
  refine Ev.no (by simp) ?_
  refine Ev.yes rfl ?_
  refine Ev.yes (by simp;omega) ?_
  refine Ev.ite (fun _=>?_) (fun _=>?_)
  ·refine Ev.bind ((Wdr a b c d e ns ss f g (cy,ts,p1,p2,p3,p4,p5,p6) (decide (0 < l2)) (Int.tmod l0 cy,wrap64 (W.2+1)) hS).of_eq (w:=false) (by rw[hin];exact h1)) ?_
   refine Ev.no rfl ?_
   refine Ev.ite (fun hw=>?_) (fun _=>?_)
   ·have hw:0 < W.2:=of_decide_eq_true hw
    refine Ev.yes rfl ?_
    refine Ev.yes (by simp;omega) ?_
    refine Ev.yes (by simp;omega) ?_
    refine Ev.bind ((Wdr a b c d e ns ss f g (cy,ts,p1,p2,p3,p4,p5,p6) (decide (0 < l2)) (Int.tmod (wrap64 (W.1+Int.tmod l1 W.2)) cy,wrap64 (W.2 - Int.tmod l1 W.2)) hS).of_eq (w:=true) (by rw[hin];exact h2 hw)) ?_
    refine Ev.no rfl ?_
    refine Ev.bind ((Wdr a b c d e ns ss f g (cy,ts,p1,p2,p3,p4,p5,p6) (decide (0 < l2)) (W.1,0) hS).of_eq (w:=true) (by rw[hin];exact h3)) ?_
    exact Ev.yes rfl aw
   ·refine Ev.bind ((Wdr a b c d e ns ss f g (cy,ts,p1,p2,p3,p4,p5,p6) (decide (0 < l2)) (W.1,0) hS).of_eq (w:=true) (by rw[hin];exact h3)) ?_
    exact Ev.yes rfl aw
  ·refine Ev.no rfl ?_
   refine Ev.ite (fun hw=>?_) (fun _=>?_)
   ·have hw:0 < W.2:=of_decide_eq_true hw
    refine Ev.yes rfl ?_
    refine Ev.yes (by simp;omega) ?_
    refine Ev.yes (by simp;omega) ?_
    refine Ev.bind ((Wdr a b c d e ns ss f g (cy,ts,p1,p2,p3,p4,p5,p6) (decide (0 < l2)) (Int.tmod (wrap64 (W.1+Int.tmod l1 W.2)) cy,wrap64 (W.2 - Int.tmod l1 W.2)) hS).of_eq (w:=true) (by rw[hin];exact h2 hw)) ?_
    refine Ev.no rfl ?_
    refine Ev.bind ((Wdr a b c d e ns ss f g (cy,ts,p1,p2,p3,p4,p5,p6) (decide (0 < l2)) (W.1,0) hS).of_eq (w:=true) (by rw[hin];exact h3)) ?_
    exact Ev.yes rfl aw
   ·refine Ev.bind ((Wdr a b c d e ns ss f g (cy,ts,p1,p2,p3,p4,p5,p6) (decide (0 < l2)) (W.1,0) hS).of_eq (w:=true) (by rw[hin];exact h3)) ?_
    exact Ev.yes rfl aw
end Go.Proofs.YtalbenehgdkalaaGreat.Fn