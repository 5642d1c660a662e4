/- Texts of the proof. -/
import Derived.Test.YtalbenehgdkalaaGreatChecksE
namespace Go.Proofs.YtalbenehgdkalaaGreat.Fn
open Go Go.RowKit Go.Den
theorem Wt6(a b c d e:Int)(ns:List Wa5)(ss:List Wbq)(f g:Int)(k:ByteArray)(hl:ns.length < 9223372036854775807):Ev (fun n=>qeh n (a,b,c,d,e,ns,ss,f,g,k)) (Wa4 ns k):=by
 unfold qeh
 refine Ev.bind (a:=(Wa4 ns k,k)) ?_ (Ev.ret _)
 unfold qdo
 exact Wcl (S:=ByteArray) Wbi (fun n a s=>qei n (a.1,a.2.1,a.2.2.1,a.2.2.2.1,a.2.2.2.2.1,a.2.2.2.2.2.1,a.2.2.2.2.2.2,s)) (fun h=>Wak h.1 k) ns k hl fun a _=>Ev.ret _
theorem Wt7(a:ByteArray)(b:List Wbv)(c:List PedT)(ph:List Was)(e:List (List RowT))(f:List FoeT)(g:Int)(k:ByteArray)(hl:b.length < 9223372036854775807):Ev (fun n=>qed n (a,b,c,ph,e,f,g,k)) (Wa1 b k):=by
 unfold qed
 refine Ev.bind (a:=(Wa1 b k,k)) ?_ (Ev.ret _)
 unfold qdm
 exact Wcl (S:=ByteArray) Wck (fun n a s=>qee n (a.1,a.2.1,a.2.2.1,a.2.2.2.1,a.2.2.2.2.1,a.2.2.2.2.2.1,a.2.2.2.2.2.2.1,a.2.2.2.2.2.2.2.1,a.2.2.2.2.2.2.2.2.1,a.2.2.2.2.2.2.2.2.2.1,a.2.2.2.2.2.2.2.2.2.2,s)) (fun h=>Wak h.1 k) b k hl fun a _=>Ev.ret _
set_option maxHeartbeats 1000000 in
theorem cstops_(x:NetT)(hn:x.2.2.2.2.2.1.length < 9223372036854775807)(hs:Sh x.2.2.2.2.2.2.1)(hh:∀ y∈x.2.2.2.2.2.1,y.2.1.length < 9223372036854775807):Ev (fun n=>qes n x) (resE (Wiw x.2.2.2.2.2.1 x.2.2.2.2.2.2.1) ()):=by
 obtain⟨a,b,c,d,e,ns,ss,f,g⟩:=x
 unfold qes Wiw
 simp only at hn hs hh ⊢
 refine Ev.loopS (st:=fun i=>(ss,((ss.length:Nat):Int),(i:Int),a,b,c,d,e,ns,ss,f,g,nset ((ss.take i).map (·.1)))) ss.length (Wwj ns ss) () rfl (fun i hi _=>?_) (fun _=>?_) (fun h=>?_) (fun h=>?_)
 ·have hz:ss.getD i (ByteArray.mk #[],ByteArray.mk #[],ByteArray.mk #[],0,0,0)=ss.getD i Wba:=rfl
  simp only[Wab hi,cond_true,Waf,hi,decide_true,Wag,hz,Win _ _ _ Wba hi]
  unfold Wwj
  have ht:=Wmc (fun q:Wbq=>q.1) (ss.take i) (ss.getD i Wba).1
  generalize (ss.take i).map (fun x=>x.1)=nm at ht ⊢
  generalize ss.getD i Wba=s at ht ⊢
  obtain⟨s1,s2,s3,s4,s5,s6⟩:=s
  simp only at ht ⊢
  refine Ev.bind (Wt6 _ _ _ _ _ _ _ _ _ _ hn) ?_
  by_cases h1:Wa4 ns s1 < 0
  ·rw[if_pos h1,decide_eq_false (show ¬(0:Int)≤Wa4 ns s1 by omega)]
   exact Ev.ret _
  rw[if_neg h1,decide_eq_true (show(0:Int)≤Wa4 ns s1 by omega)]
  refine Ev.must (fun _=>?_) (fun h=>by cases h)
  refine Ev.bindS (fun n=>Wxw n _ _) ?_
  rw[← ht]
  cases hin:inOf nm s1 with
  | true=>rw[if_pos rfl];exact Ev.ret _
  | false=>
  rw[if_neg Bool.false_ne_true]
  refine Ev.must (fun _=>?_) (fun h=>by cases h)
  have hg:=Wjk (fun h:Wa5=>Wak h.1 s1) ns
  have hlt:Wa4 ns s1 < ns.length:=hg.2
  obtain⟨at_,hat⟩:=Int.eq_ofNat_of_zero_le (show 0≤Wa4 ns s1 by omega)
  rw[hat]at hlt ⊢
  have hal:at_ < ns.length:=by omega
  have hzn:ns.getD at_ (ByteArray.mk #[],[],[],[],[],[],0)=ns.getD at_ Wbi:=rfl
  simp only[Int.toNat_natCast,Waf,hal,decide_true,cond_true,Wag,hzn,letJ]
  have hsh:=hh _ (Wap ns at_ Wbi hal)
  generalize ns.getD at_ Wbi=y at hsh
  unfold Wkk
  simp only
  refine Ev.bind (Wt7 _ _ _ _ _ _ _ _ hsh) ?_
  by_cases h2:Wa1 y.2.1 s2 < 0
  ·rw[if_pos (show Wa1 y.2.1 s2 < 0∨Wa1 y.2.1 s3 < 0 from .inl h2)]
   exact Ev.no (decide_eq_false (by omega)) (Ev.ret _)
  refine Ev.yes (decide_eq_true (by omega)) ?_
  refine Ev.bind (Wt7 _ _ _ _ _ _ _ _ hsh) ?_
  by_cases h3:Wa1 y.2.1 s3 < 0
  ·rw[if_pos (show Wa1 y.2.1 s2 < 0∨Wa1 y.2.1 s3 < 0 from .inr h3),decide_eq_false (show ¬(0:Int)≤Wa1 y.2.1 s3 by omega)]
   exact Ev.ret _
  rw[if_neg (show ¬(Wa1 y.2.1 s2 < 0∨Wa1 y.2.1 s3 < 0) by omega),decide_eq_true (show(0:Int)≤Wa1 y.2.1 s3 by omega)]
  refine Ev.must (fun _=>?_) (fun h=>by cases h)
  refine Ev.bind (Wd7 _ _ _ (by simp)) ?_
  rw[all2]
  cases hr:inR s4 0 6000&&inR s5 0 6000 with
  | false=>rw[if_pos rfl];exact Ev.ret _
  | true=>
  rw[if_neg (show ¬(true=false) by decide)]
  refine Ev.must (fun _=>?_) (fun h=>by cases h)
  have hw:=Wad (show i < 9223372036854775807 by omega)
  by_cases h0:i=0
  ·refine Ev.no (decide_eq_false (by omega)) ?_
   by_cases h4:s4=0
   ·refine Ev.yes (by simp[h4]) ?_
    by_cases h5:s5=0
    ·rw[if_neg (show ¬(i=0∧(s4≠0∨s5≠0)) by simp[h4,h5])]
     refine Ev.must (fun _=>?_) (fun h=>by simp[h5]at h)
     simp only[hw];exact Ev.ret _
    ·rw[if_pos (show i=0∧(s4≠0∨s5≠0) from⟨h0,.inr h5⟩)]
     exact Ev.must (fun h=>by simp[h5]at h) fun _=>Ev.ret _
   ·refine Ev.no (by simp[h4]) ?_
    rw[if_pos (show i=0∧(s4≠0∨s5≠0) from⟨h0,.inl h4⟩)]
    exact Ev.ret _
  ·refine Ev.yes (decide_eq_true (by omega)) ?_
   rw[if_neg (show ¬(i=0∧(s4≠0∨s5≠0)) from fun h=>h0 h.1)]
   refine Ev.must (fun _=>?_) (fun h=>by cases h)
   simp only[hw];exact Ev.ret _
 ·simp only[Waa,cond_false];exact Ev.ret _
 ·rw[Wd6 h];exact Ev.ret _
 ·rw[Waz h];exact Ev.ret _
end Go.Proofs.YtalbenehgdkalaaGreat.Fn