/- Texts of the proof. -/
import Derived.Test.YtalbenehgdkalaaGreatValidB
namespace Go.Proofs.YtalbenehgdkalaaGreat.Fn
open Go Go.RowKit Go.Den Go.Circ
theorem cmpfn_(n:Nat)(a b:Int):qa1 n (a,b)=some (if a < b then -1 else if b < a then 1 else 0):=by
 unfold qa1 qa2
 simp only[beq_self_eq_true,Bool.not_true,Option.bind_some,cond_false]
 by_cases h:a < b
 ·simp[h]
 ·by_cases h':b < a<;>simp[h,h']
theorem maxfn_(a:Int×Int)(r:List (Int×Int))(hl:r.length≤100000):Ev (fun n=>qdr n (a::r)) (Wf4 (a::r)):=by
 unfold qdr
 have c1:decide ((((a::r).length:Nat):Int) < 1)=false:=decide_eq_false (by simp only[List.length_cons];omega)
 have c2:inB 0 (a::r).length=true:=by rw[Wjc];simp
 simp only[c1,c2,cond_true,cond_false]
 refine Ev.loopB (st:=fun i=>(a::r,((i+1:Nat):Int),(0:Int),(0:Int),(r.take i).foldl wide a)) r.length (0,0,r.foldl wide a) (by simp[Wku]) (fun i hi=>?_) ?_ ?_
 ·refine Ev.const fun n=>?_
  have hlt:i+1 < (a::r).length:=by simp only[List.length_cons];omega
  have hg:(a::r).getD (i+1) (0,0)=r.getD i (0,0):=by simp
  simp only[Int.ofNat_lt,hlt,decide_true,cond_true,Waf,Wag,hg,Wad (show i+1 < 9223372036854775807 by omega),qar,cmpfn_,Option.bind_some,Wav r i (0,0) hi,List.foldl_append,List.foldl_cons,List.foldl_nil]
  generalize r.getD i (0,0)=x
  generalize (r.take i).foldl wide a=m
  unfold wide
  by_cases h1:m.2 < x.2
  ·rw[if_neg (by omega),if_pos h1,if_pos h1];rfl
  ·rw[if_neg h1,if_neg h1]
   split<;>rfl
 ·refine Ev.const fun n=>?_
  have:¬(((r.length+1:Nat):Int) < (((a::r).length:Nat):Int)):=by simp only[List.length_cons];omega
  simp[this]
 ·exact Ev.ret _
theorem widest_(C:Int)(l:List (Int×Int))(hl:l.length≤1000):Ev (fun n=>qaq n (C,l)) (Wf4 (Wgj C l)):=by
 unfold qaq
 refine Ev.bind (set_ C l hl) ?_
 have h3:=Wkz C l
 generalize Wgj C l=f at *
 cases f with
 | nil=>exact Ev.const fun n=>rfl
 | cons a r=>
  have c:((((a::r).length:Nat):Int)==0)=false:=by simp only[List.length_cons,beq_eq_false_iff_ne];omega
  simp only[c,cond_false]
  exact Ev.bind (maxfn_ a r (by simp only[List.length_cons]at h3;omega)) (Ev.ret _)
end Go.Proofs.YtalbenehgdkalaaGreat.Fn