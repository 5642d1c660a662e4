/- Texts of the proof. -/
import Derived.Test.YtalbenehgdkalaaGreatFnC0
import Derived.Test.YtalbenehgdkalaaGreatCirc2
namespace Go.Proofs.YtalbenehgdkalaaGreat.Fn
open Go Go.RowKit Go.Den Go.Circ
theorem cycle_(n:Nat)(C:Int):qax n C=some (decide (1≤C∧C≤6000)):=by
 unfold qax;by_cases h:1≤C<;>simp[h]
theorem Wzi(n:Nat)(C:Int):qbc n C=some (decide (1≤C∧C≤6000)):=by
 unfold qbc;by_cases h:1≤C<;>simp[h]
theorem Wzj(n:Nat)(t C:Int)(h1:1≤C)(h2:C≤1000000000):qbf n (t,C)=some (t % C):=by
 unfold qbf
 have m1:=Int.emod_nonneg t (b:=C) (by omega)
 have m2:=Int.emod_lt_of_pos t (b:=C) (by omega)
 have c2:(C==0)=false:=by simp;omega
 simp only[Wpn (show 0 < C by omega),c2,Bool.not_false,cond_true]
 by_cases h:0≤t
 ·rw[if_pos h,decide_eq_false (by omega)];rfl
 ·rw[if_neg h]
  by_cases h0:t % C=0
  ·rw[if_pos h0,h0];rfl
  ·rw[if_neg h0,decide_eq_true (by omega)]
   simp only[cond_true]
   rw[show t % C - C+C=t % C by omega,Wan (by omega) (by omega)]
theorem wmod_(n:Nat)(t C:Int)(h1:1≤C)(h2:C≤9223372036854775807):qex n (t,C)=some (t % C,0):=by
 unfold qex
 have m1:=Int.emod_nonneg t (b:=C) (by omega)
 have m2:=Int.emod_lt_of_pos t (b:=C) (by omega)
 have c1:decide (C < 1)=false:=by simp;omega
 have c2:(C==0)=false:=by simp;omega
 simp only[Wpn (show 0 < C by omega),c1,c2,Bool.not_false,cond_true,cond_false]
 by_cases h:0≤t
 ·rw[if_pos h,decide_eq_false (by omega)];rfl
 ·rw[if_neg h]
  by_cases h0:t % C=0
  ·rw[if_pos h0,h0];rfl
  ·rw[if_neg h0,decide_eq_true (by omega)]
   simp only[cond_true]
   rw[show t % C - C+C=t % C by omega,Wan (by omega) (by omega)]
theorem Wzk(n:Nat)(t C:Int)(h1:1≤C)(h2:C≤9223372036854775807):qay n (t,C)=some (t % C):=by
 unfold qay;rw[wmod_ n t C h1 h2];rfl
theorem norm_(n:Nat)(C:Int)(a:Int×Int):qam n (C,a)=some (Wau C a):=by
 unfold qam Wau
 simp only[letJ,cycle_,Option.bind_some]
 by_cases hc:1≤C∧C≤6000
 ·rw[decide_eq_true hc]
  simp only[Bool.not_true,cond_false]
  by_cases h:a.2 < 1
  ·rw[decide_eq_true h,if_pos (.inr (.inr h))];rfl
  ·rw[decide_eq_false h,if_neg (by omega)]
   simp only[cond_false]
   by_cases h':C≤a.2
   ·rw[decide_eq_true h',if_pos h'];rfl
   ·rw[decide_eq_false h',if_neg h']
    simp only[cond_false]
    rw[Wzk n _ _ (by omega) (by omega)];rfl
 ·rw[decide_eq_false hc,if_pos (by omega)];rfl
theorem rin_(n:Nat)(C:Int)(a:Int×Int)(t:Int):qbe n (C,a.1,a.2,t)=some (decide (1≤C∧C≤6000∧HasT C a t)):=by
 unfold qbe
 simp only[letJ,Wzi,Option.bind_some]
 by_cases hc:1≤C∧C≤6000
 ·rw[decide_eq_true hc]
  have he:(1≤C∧C≤6000∧HasT C a t)↔HasT C a t:=⟨fun h=>h.2.2,fun h=>⟨hc.1,hc.2,h⟩⟩
  rw[decide_eq_decide.2 he]
  simp only[Bool.not_true,cond_false]
  by_cases h:a.2 < 1
  ·rw[decide_eq_true h,decide_eq_false (p:=HasT C a t) (by unfold HasT;omega)];rfl
  ·rw[decide_eq_false h]
   simp only[cond_false]
   by_cases h':C≤a.2
   ·rw[decide_eq_true h',decide_eq_true (p:=HasT C a t) (by unfold HasT;omega)];rfl
   ·rw[decide_eq_false h']
    simp only[cond_false]
    have m1:=Int.emod_nonneg t (b:=C) (by omega)
    have m2:=Int.emod_lt_of_pos t (b:=C) (by omega)
    have p1:=Int.emod_nonneg a.1 (b:=C) (by omega)
    have p2:=Int.emod_lt_of_pos a.1 (b:=C) (by omega)
    rw[Wzj n _ _ hc.1 (by omega),Wzj n _ _ hc.1 (by omega)]
    simp only[Option.bind_some]
    rw[Wan (by omega) (by omega),Wzj n _ _ hc.1 (by omega)]
    simp only[Option.bind_some,Int.emod_sub_emod,Int.sub_emod_emod]
    congr 1
    apply decide_eq_decide.2
    unfold HasT
    omega
 ·rw[decide_eq_false (p:=1≤C∧C≤6000) hc,decide_eq_false (p:=1≤C∧C≤6000∧HasT C a t) (fun h=>hc ⟨h.1,h.2.1⟩)];rfl
theorem round_(n:Nat)(p q:Int)(l:List (Int×Int))(hl:l.length≤1000000):qa0 n (p,q,l)=some (true,l++[(p,q)]):=by
 unfold qa0
 simp only[List.length_cons,List.length_nil]
 rw[Wce (by omega)];rfl
theorem Wv6(C:Int)(l:List (Int×Int))(i:Nat)(h:i < l.length):Wd2 C (l.take (i+1))=Wd2 C (l.take i)++cut1 C (l.getD i (0,0)):=by
 rw[Wav l i (0,0) h];simp[Wd2]
theorem cut1_len(C:Int)(a:Int×Int):(cut1 C a).length≤2:=by
 unfold cut1
 split
 ·simp
 ·split<;>simp
theorem Wit(C:Int)(l:List (Int×Int)):(Wd2 C l).length≤2 * l.length:=by
 induction l with
 | nil=>simp[Wd2]
 | cons a l ih=>
  have:=cut1_len C a
  simp only[Wd2,List.flatMap_cons,List.length_append,List.length_cons]at *
  omega
theorem cutfn_(C:Int)(l:List (Int×Int))(hl:l.length≤1000):Ev (fun n=>qaw n (l,C,[])) (l,C,Wd2 C l):=by
 unfold qaw
 refine Ev.loopB (st:=fun i=>(l,(l.length:Int),(i:Int),l,C,Wd2 C (l.take i))) l.length (.inr (l,C,Wd2 C l)) (by simp[Wd2]) (fun i hi=>?_) ?_ ?_
 ·refine Ev.const fun n=>?_
  have hlen:(Wd2 C (l.take i)).length≤1000000:=by have:=Wit C (l.take i);simp at this;omega
  simp only[Int.ofNat_lt,hi,decide_true,cond_true,Waf,Wag,norm_,Option.bind_some,letJ,Wv6 C l i hi,Wad (show i < 9223372036854775807 by omega)]
  generalize l.getD i (0,0)=a
  by_cases h0:(Wau C a).2=0
  ·have:cut1 C a=[]:=by unfold cut1;rw[if_pos h0]
   simp[h0,this]
  ·have hc:1≤C∧C≤6000:=by
    refine Classical.byContradiction fun h=>h0 ?_
    unfold Wau;rw[if_pos (by omega)]
   obtain⟨n1,n2,n3,n4⟩:=Wf0 hc.1 a
   have hb:((Wau C a).2==0)=false:=by simp[h0]
   rw[hb,Wan (by omega) (by omega)]
   simp only[cond_false]
   rw[round_ n _ _ _ hlen]
   simp only[Option.bind_some,Bool.not_true,cond_false]
   by_cases h1:(Wau C a).1+(Wau C a).2≤C
   ·have:cut1 C a=[((Wau C a).1,(Wau C a).1+(Wau C a).2)]:=by unfold cut1;rw[if_neg h0,if_pos h1]
    rw[decide_eq_false (by omega),this,Xcw,show min ((Wau C a).1+(Wau C a).2) C=(Wau C a).1+(Wau C a).2 by omega]
    rfl
   ·have:cut1 C a=[((Wau C a).1,C),(0,(Wau C a).1+(Wau C a).2 - C)]:=by unfold cut1;rw[if_neg h0,if_neg h1]
    rw[decide_eq_true (by omega),this,Xcw,show min ((Wau C a).1+(Wau C a).2) C=C by omega]
    simp only[cond_true]
    rw[Wan (by omega) (by omega),round_ n _ _ _ (by have:=Wit C (l.take i);simp at this ⊢;omega)]
    simp
 ·exact Ev.const fun n=>by simp
 ·exact Ev.ret _
def Wiu(a b:Int×Int):Int:=Go.Lib.compareInt a.1 b.1
def Wa3(C:Int)(l:List (Int×Int)):List (Int×Int):=Wil (Wh4 (0,0) Wiu (Wd2 C l))
theorem swoC:Go.Sort.SWO (Go.Proofs.ltOf Wiu):=swoPc
theorem Wv7{a b:Int×Int}(h:0≤Wiu a b):b.1≤a.1:=by
 unfold Wiu Go.Lib.compareInt at h
 split at h
 ·omega
 ·omega
theorem sorted_(x:List (Int×Int)):(Wh4 (0,0) Wiu x).Perm x∧(Wh4 (0,0) Wiu x).Pairwise fun p q=>p.1≤q.1:=by
 obtain⟨h1,h2⟩:=Wmt (0,0) Wiu swoC x
 refine⟨h1,List.pairwise_iff_getElem.2 fun i j hi hj hij=>Wv7 (h2 i j hij hj)⟩
theorem Wky{C:Int}(h1:1≤C)(l:List (Int×Int)):PGood C (Wa3 C l)∧∀ j,Cov (Wa3 C l) j↔Cov (Wd2 C l) j:=by
 obtain⟨s1,s2⟩:=sorted_ (Wd2 C l)
 obtain⟨m1,m2⟩:=Wx2 s2 (C:=C) (fun p hp=>Xcy h1 l p (s1.mem_iff.1 hp))
 exact⟨m1,fun j=>(m2 j).trans (Cov.perm s1)⟩
theorem Wbj{C:Int}(h1:1≤C)(h2:C≤6000)(l:List (Int×Int)){j:Int}(hj:0≤j)(hj':j < C):Cov (Wa3 C l) j↔TS C l j:=
 ((Wky h1 l).2 j).trans (Xcz h1 h2 l hj hj')
theorem Wcg(C:Int)(l:List (Int×Int)):(Wa3 C l).length≤2 * l.length:=by
 have h1:=Wsa (Wh4 (0,0) Wiu (Wd2 C l)) []
 have h2:=Wio (0,0) Wiu swoC (Wd2 C l)
 have h3:=Wit C l
 unfold Wa3 Wil
 simp at h1
 omega
theorem Wc1{C:Int}(h:C < 1∨6000 < C)(l:List (Int×Int)):Wa3 C l=[]:=by
 have h3:=Wio (0,0) Wiu swoC (Wd2 C l)
 rw[Wr9 h]at h3
 unfold Wa3
 rw[Wr9 h,List.eq_nil_of_length_eq_zero (l:=Wh4 (0,0) Wiu []) h3]
 rfl
theorem sort_(n:Nat)(x:List (Int×Int))(h:x.length≤1000000):qds n x=some (Wh4 (0,0) Wiu x):=by
 unfold qds Wvt
 rw[if_pos (by omega)]
 rfl
theorem Wzl(p:Int×Int):mstep [] p=[p]:=rfl
theorem Wv8(init:List (Int×Int))(q p:Int×Int):mstep (init++[q]) p=if p.1≤q.2 then init++[(q.1,max q.2 p.2)]else init++[q]++[p]:=by simp[mstep]
theorem Wzm(S:List (Int×Int))(i:Nat)(h:i < S.length):(S.take (i+1)).foldl mstep []=mstep ((S.take i).foldl mstep []) (S.getD i (0,0)):=by
 rw[Wav S i (0,0) h];simp
theorem set_snoc{A:Type}(init:List A)(q v:A):List.set (init++[q]) init.length v=init++[v]:=by simp
theorem Wzn{A:Type}(init:List A)(q d:A):(init++[q]).getD init.length d=q:=by simp
theorem Wjg(C:Int)(l:List (Int×Int))(hl:l.length≤1000):Ev (fun n=>qaz n (C,l)) (Wa3 C l):=by
 unfold qaz
 refine Ev.bindS (a:=(l,C)) (fun n=>rfl) ?_
 simp only[Wt0 Wpr]
 refine Ev.bind (cutfn_ C l hl) ?_
 have hcl:=Wit C l
 refine Ev.bindS (fun n=>sort_ n (Wd2 C l) (by omega)) ?_
 have hSl:=Wio (0,0) Wiu swoC (Wd2 C l)
 unfold Wa3
 generalize Wh4 (0,0) Wiu (Wd2 C l)=S at *
 refine Ev.loopB (st:=fun i=>((S.length:Int),(i:Int),(S.take i).foldl mstep [],S)) S.length (Wil S) (by simp) (fun i hi=>?_) ?_ ?_
 ·refine Ev.const fun n=>?_
  have hlen:=Wsa (S.take i) []
  simp only[List.length_nil,List.length_take,Nat.zero_add]at hlen
  simp only[Int.ofNat_lt,hi,decide_true,cond_true,Waf,Wag,Wzm S i hi,letJ,Wad (show i < 9223372036854775807 by omega)]
  generalize S.getD i (0,0)=p
  generalize (S.take i).foldl mstep []=out at *
  rcases List.eq_nil_or_concat out with rfl | ⟨init,q,rfl⟩
  ·simp[fitB,Wzl]
  ·rw[List.concat_eq_append]at *
   rw[List.length_append]at *
   simp only[List.length_cons,List.length_nil,Nat.zero_add]at *
   have w:wrap64 (((init.length+1:Nat):Int) - 1)=(init.length:Int):=by rw[Wan (by omega) (by omega)];omega
   have hpos:decide ((0:Int) < ((init.length+1:Nat):Int))=true:=decide_eq_true (by omega)
   rw[hpos,w]
   simp only[cond_true,Waf,Wag,Wzn,Int.toNat_natCast,set_snoc,Wv8,show init.length < init.length+1 from Nat.lt_succ_self _,decide_true,Xcv]
   by_cases h:p.1≤q.2
   ·simp[h]
   ·have hf:fitB (init.length+1+1) 16=true:=Wce (by omega)
    simp[h,hf]
 ·exact Ev.const fun n=>by simp[Wil]
 ·exact Ev.ret _
theorem clone_(n:Nat)(x:List (Int×Int))(h:x.length≤1000000):qc6 n x=some x:=by
 unfold qc6
 simp only[Wce (show x.length * 16≤140737488355328 by omega),cond_true]
 cases x with
 | nil=>simp[Xcx]
 | cons a x=>rfl
theorem Wzo(J:List (Int×Int))(hJ:J.length≤1000000)(hb:∀ p∈J,0≤p.1∧p.1≤1000000∧0≤p.2∧p.2≤1000000) :
 Ev (fun n=>(Wao (Y:=(List (Int×Int))) n (fun(x7:(List (Int×Int))×Int×Int×List (Int×Int))=>
  let e3:=atI (0,0) x7.1 x7.2.2.1
  let e4:=e3.1
  let e5:=(e4,wrap64 (e3.2 - e4))::[]
  bif decide (x7.2.2.1 < x7.2.1)then
   bif inB x7.2.2.1 x7.1.length then
    bif fitB (x7.2.2.2.length+e5.length) 16 then
     some (.inl (x7.1,x7.2.1,wrap64 (x7.2.2.1+1),x7.2.2.2++e5))
    else
    none
   else
   none
  else
  some (.inr x7.2.2.2)) (J,((J.length:Nat):Int),0,[])).bind fun(z8:List (Int×Int))=>
  some z8) (J.map fun p=>(p.1,p.2 - p.1)):=by
 refine Ev.loopB (st:=fun i=>(J,(J.length:Int),(i:Int),(J.take i).map fun p=>(p.1,p.2 - p.1))) J.length (J.map fun p=>(p.1,p.2 - p.1)) (by simp) (fun i hi=>?_) ?_ ?_
 ·refine Ev.const fun n=>?_
  have hf:fitB (min i J.length+1) 16=true:=Wce (by omega)
  simp only[Int.ofNat_lt,hi,decide_true,cond_true,Waf,Wag,Wav J i (0,0) hi,Wad (show i < 9223372036854775807 by omega),List.map_append,List.length_map,List.length_take,List.length_cons,List.length_nil,Nat.zero_add,hf]
  have:=hb (J.getD i (0,0)) (by rw[Wbp _ _ _ hi];exact List.getElem_mem hi)
  rw[Wan (by omega) (by omega)]
  rfl
 ·exact Ev.const fun n=>by simp
 ·exact Ev.ret _
theorem arcs_{C:Int}(hC:C≤6000){P:List (Int×Int)}(hg:PGood C P)(hl:P.length≤100000):Ev (fun n=>qas n (C,P)) (Wd3 C P):=by
 unfold qas
 simp only[letJ]
 have hJ:∀ J:List (Int×Int),J.length≤P.length→(∀ p∈J,0≤p.1∧p.1≤1000000∧0≤p.2∧p.2≤1000000)→_:=fun J h1 h2=>Wzo J (by omega) h2
 have hbd:∀ p∈P,0≤p.1∧p.1≤1000000∧0≤p.2∧p.2≤1000000:=fun p hp=>by have:=hg.all p hp;omega
 unfold Wd3
 cases P with
 | nil=>exact Ev.const fun n=>by simp[Whu]
 | cons p r=>
  have hp0:=hg.all p (by simp)
  rcases List.eq_nil_or_concat r with rfl | ⟨mid,q,rfl⟩
  ·have:=hJ [p] (by simp) hbd
   refine Ev.congr (F:=_) this fun n=>?_
   have w:wrap64 (((([p]:List (Int×Int)).length:Nat):Int) - 1)=0:=by rw[Wan]<;>simp
   rw[w]
   simp[Whu]
  ·rw[List.concat_eq_append]at *
   have hq0:=hg.all q (by simp)
   have hlen:(p::(mid++[q])).length=mid.length+2:=by simp
   have w:wrap64 ((((p::(mid++[q])).length:Nat):Int) - 1)=((mid.length+1:Nat):Int):=by rw[hlen,Wan (by rw[hlen]at hl;omega) (by rw[hlen]at hl;omega)];omega
   have g0:(p::(mid++[q])).getD 0 (0,0)=p:=rfl
   have gl:(p::(mid++[q])).getD (mid.length+1) (0,0)=q:=by simp
   have ej:Whu C (p::(mid++[q]))=if p.1=0∧q.2=C then mid++[(q.1,C+p.2)]else p::(mid++[q]):=by simp[Whu]
   have hne:((((p::(mid++[q])).length:Nat):Int)==0)=false:=by rw[hlen];simp;omega
   rw[hlen]at hl
   rw[w,ej]
   simp only[hne,cond_false,Wjc,Waf,Wku,Wag,g0,gl,hlen,show 0 < mid.length+2 by omega,show mid.length+1 < mid.length+2 by omega,decide_true,cond_true,decide_eq_true (show(0:Int) < ((mid.length+1:Nat):Int) by omega)]
   have hno:=hJ (p::(mid++[q])) (Nat.le_refl _) hbd
   rw[hlen]at hno
   by_cases hp:p.1=0
   ·rw[hp]
    simp only[beq_self_eq_true,cond_true]
    by_cases hq:q.2=C
    ·have hb:(q.2==C)=true:=by simp[hq]
     have hcut:Wed (some 1) (some ((mid.length+1:Nat):Int)) (mid.length+2)=true:=by simp[Wed];omega
     have hcl:Wb6 (some 1) (some ((mid.length+1:Nat):Int)) (p::(mid++[q]))=mid:=by simp[Wb6]
     rw[hb,hcut,hcl]
     simp only[cond_true]
     refine Ev.bindS (fun n=>clone_ n mid (by omega)) ?_
     have hf:fitB (mid.length+1) 16=true:=Wce (by omega)
     simp only[List.length_cons,List.length_nil,Nat.zero_add,hf,cond_true]
     rw[Wan (by omega) (by omega),if_pos ⟨trivial,hq⟩]
     have:=hJ (mid++[(q.1,C+p.2)]) (by simp) (fun r hr=>by
      rw[List.mem_append,List.mem_singleton]at hr
      rcases hr with hr | rfl
      ·exact hbd r (by simp[hr])
      ·simp only;omega)
     simpa using this
    ·have hb:(q.2==C)=false:=by simp[hq]
     rw[hb,if_neg (fun h=>hq h.2)]
     simp only[cond_false]
     exact hno
   ·have hb:(p.1==0)=false:=by simp[hp]
    rw[hb,if_neg (fun h=>hp h.1)]
    simp only[cond_false]
    exact hno
theorem Wt8(C:Int):Ev (fun n=>qas n (C,[])) []:=Ev.const fun n=>rfl
def Wgj(C:Int)(l:List (Int×Int)):List (Int×Int):=Wd3 C (Wa3 C l)
theorem Waw(C:Int)(l:List (Int×Int)):PGood C (Wa3 C l):=by
 by_cases h:1≤C
 ·exact(Wky h l).1
 ·rw[Wc1 (.inl (by omega))];exact PGood.nil C
theorem Wsl(C:Int)(l:List (Int×Int))(hl:l.length≤1000):Ev (fun n=>qas n (C,Wa3 C l)) (Wgj C l):=by
 have h3:=Wcg C l
 unfold Wgj
 by_cases h2:C≤6000
 ·exact arcs_ h2 (Waw C l) (by omega)
 ·rw[Wc1 (.inr (by omega))];exact Wt8 C
theorem set_(C:Int)(l:List (Int×Int))(hl:l.length≤1000):Ev (fun n=>qan n (C,l)) (Wgj C l):=by
 unfold qan
 refine Ev.bind (Wjg C l hl) ?_
 exact Ev.bind (Wsl C l hl) (Ev.ret _)
theorem Wkz(C:Int)(l:List (Int×Int)):(Wgj C l).length≤2 * l.length:=by
 have h1:=Wcg C l
 have h2:=Wx5 C (Wa3 C l)
 unfold Wgj;omega
theorem Wmx{C:Int}(h1:1≤C)(h2:C≤6000)(l:List (Int×Int)):Arcs C (TS C l) (Wgj C l):=
 (Wjd (Waw C l)).congr h1 fun j hj hj'=>Wbj h1 h2 l hj hj'
theorem setOf_ts{C:Int}(h1:1≤C)(h2:C≤6000)(l:List (Int×Int)){j:Int}(hj:0≤j)(hj':j < C):TS C (Wgj C l) j↔TS C l j:=
 (Wmb (Waw C l) hj hj').trans (Wbj h1 h2 l hj hj')
theorem Wp5{C:Int}(h:C < 1∨6000 < C)(l:List (Int×Int)):Wgj C l=[]:=by unfold Wgj;rw[Wc1 h];rfl
theorem Wp6(C:Int):∀(P:List (Int×Int)) (at_:Int),between C at_ P=(P.foldl (fun(s:Int×List (Int×Int)) p=>(p.2,s.2++if p.1 > s.1 then [(s.1,p.1)]else [])) (at_,[])).2++(if(P.foldl (fun(s:Int×List (Int×Int)) p=>(p.2,s.2++if p.1 > s.1 then [(s.1,p.1)]else [])) (at_,[])).1 < C then [((P.foldl (fun(s:Int×List (Int×Int)) p=>(p.2,s.2++if p.1 > s.1 then [(s.1,p.1)]else [])) (at_,[])).1,C)]else []):=by
 have gen:∀(P:List (Int×Int)) (at_:Int) (out:List (Int×Int)),P.foldl (fun(s:Int×List (Int×Int)) p=>(p.2,s.2++if p.1 > s.1 then [(s.1,p.1)]else [])) (at_,out)=((P.foldl (fun(s:Int×List (Int×Int)) p=>(p.2,s.2++if p.1 > s.1 then [(s.1,p.1)]else [])) (at_,[])).1,out++(P.foldl (fun(s:Int×List (Int×Int)) p=>(p.2,s.2++if p.1 > s.1 then [(s.1,p.1)]else [])) (at_,[])).2):=by
  intro P
  induction P with
  | nil=>intro at_ out;simp
  | cons p P ih=>
   intro at_ out
   simp only[List.foldl_cons]
   rw[ih p.2 (out++_),ih p.2 ([]++_)]
   simp[List.append_assoc]
 intro P
 induction P with
 | nil=>intro at_;simp[between]
 | cons p P ih=>
  intro at_
  simp only[List.foldl_cons,between]
  rw[gen P p.2 ([]++_),ih p.2]
  simp[List.append_assoc]
theorem between_(C:Int)(P:List (Int×Int))(hl:P.length≤100000):Ev (fun n=>qat n (C,P)) (between C 0 P):=by
 unfold qat
 let F:=fun(s:Int×List (Int×Int)) (p:Int×Int)=>(p.2,s.2++if p.1 > s.1 then [(s.1,p.1)]else [])
 have hlenF:∀(Q:List (Int×Int)) (s:Int×List (Int×Int)),(Q.foldl F s).2.length≤s.2.length+Q.length:=by
  intro Q
  induction Q with
  | nil=>intro s;simp
  | cons p Q ih=>
   intro s
   have:=ih (F s p)
   have h2:(F s p).2.length≤s.2.length+1:=by simp only[F,List.length_append];split<;>simp
   simp only[List.foldl_cons,List.length_cons]
   omega
 refine Ev.loopB (st:=fun i=>(C,((P.take i).foldl F (0,[])).1,P,(P.length:Int),(i:Int),((P.take i).foldl F (0,[])).2)) P.length (C,(P.foldl F (0,[])).1,(P.foldl F (0,[])).2) (by simp) (fun i hi=>?_) ?_ ?_
 ·refine Ev.const fun n=>?_
  have hlen:=hlenF (P.take i) (0,[])
  have htk:(P.take (i+1)).foldl F (0,[])=F ((P.take i).foldl F (0,[])) (P.getD i (0,0)):=by rw[Wav P i (0,0) hi];simp
  simp only[List.length_nil,List.length_take,Nat.zero_add]at hlen
  simp only[Int.ofNat_lt,hi,decide_true,cond_true,Waf,Wag,htk,Wad (show i < 9223372036854775807 by omega)]
  generalize P.getD i (0,0)=p
  generalize (P.take i).foldl F (0,[])=s at *
  have hf:fitB (s.2.length+1) 16=true:=Wce (by omega)
  by_cases h:s.1 < p.1
  ·simp[F,h,hf]
  ·simp[F,h]
 ·exact Ev.const fun n=>by simp
 ·refine Ev.const fun n=>?_
  have hlen:=hlenF P (0,[])
  have hb:=Wp6 C P 0
  simp only[List.length_nil,Nat.zero_add]at hlen
  change between C 0 P=(P.foldl F (0,[])).2++(if(P.foldl F (0,[])).1 < C then [((P.foldl F (0,[])).1,C)]else [])at hb
  rw[hb]
  generalize P.foldl F (0,[])=s at *
  have hf:fitB (s.2.length+1) 16=true:=Wce (by omega)
  by_cases h:s.1 < C
  ·simp[h,hf]
  ·simp[h]
def cstep(s:List (Int×Int)×List (Int×Int)×List (Int×Int)):List (Int×Int)×List (Int×Int)×List (Int×Int):=match s with
 | (a::ar,b::bs,out)=>(if a.2 < b.2 then(ar,b::bs,out++if max a.1 b.1 < min a.2 b.2 then [(max a.1 b.1,min a.2 b.2)]else [])else(a::ar,bs,out++if max a.1 b.1 < min a.2 b.2 then [(max a.1 b.1,min a.2 b.2)]else []))
 | s=>s
theorem Wzp(a b:List (Int×Int))(ha:a.length≤100000)(hb:b.length≤100000):Ev (fun n=>qau n (a,b)) (common a b):=by
 unfold qau
 refine Ev.bind (a:=common a b) ?_ (Ev.ret _)
 refine Ev.iter (fun s=>s.1.length+s.2.1.length+s.2.2.length≤200000) (fun s=>s.1.length+s.2.1.length) (fun s=>s.2.2++common s.1 s.2.1) ?_ (a,b,[]) (by simp;omega)
 rintro⟨a,b,out⟩ hs
 simp only at hs
 simp only[letJ]
 cases a with
 | nil=>
  right
  refine⟨out,Ev.const fun n=>by simp,by simp[common]⟩
 | cons a ar=>
  cases b with
  | nil=>
   right
   refine⟨out,Ev.const fun n=>by simp,by simp[common]⟩
  | cons b bs=>
   left
   simp only[List.length_cons]at hs
   have p1:decide ((0:Int) < (((a::ar).length:Nat):Int))=true:=decide_eq_true (by simp only[List.length_cons];omega)
   have p2:decide ((0:Int) < (((b::bs).length:Nat):Int))=true:=decide_eq_true (by simp only[List.length_cons];omega)
   have i1:inB 0 (a::ar).length=true:=by rw[Wjc];simp
   have i2:inB 0 (b::bs).length=true:=by rw[Wjc];simp
   have c1:Wed (some 1) none (a::ar).length=true:=by simp only[Wed,List.length_cons,Bool.and_eq_true,decide_eq_true_eq];omega
   have c2:Wed (some 1) none (b::bs).length=true:=by simp only[Wed,List.length_cons,Bool.and_eq_true,decide_eq_true_eq];omega
   have hf:fitB (out.length+1) 16=true:=Wce (by omega)
   have l1:Wb6 (some 1) none (a::ar)=ar:=by simp[Wb6]
   have l2:Wb6 (some 1) none (b::bs)=bs:=by simp[Wb6]
   refine⟨cstep (a::ar,b::bs,out),Ev.const fun n=>?_,?_,?_,?_⟩
   ·simp only[p1,p2,i1,i2,c1,c2,l1,l2,cond_true,Wku,List.getD_cons_zero,Xcv,Xcw,cstep]
    by_cases h1:max a.1 b.1 < min a.2 b.2<;>by_cases h2:a.2 < b.2<;>simp[h1,h2,hf]
   ·simp only[cstep]
    by_cases h1:max a.1 b.1 < min a.2 b.2<;>by_cases h2:a.2 < b.2<;>simp[h1,h2]<;>omega
   ·simp only[cstep]
    by_cases h2:a.2 < b.2<;>simp[h2]
   ·simp only[cstep]
    rw[common]
    by_cases h2:a.2 < b.2<;>simp[h2]
theorem Wgq{C:Int}(h1:1≤C){P:List (Int×Int)}(hg:PGood C P):PGood C (between C 0 P)∧∀ j,0≤j→j < C→(Cov (between C 0 P) j↔¬ Cov P j):=by
 obtain⟨b1,_,b3⟩:=Wx6 P 0 hg (by omega) (by omega) (fun p hp=>(hg.all p hp).1)
 exact⟨b1,b3⟩
def Wmy(C:Int)(a b:List (Int×Int)):List (Int×Int):=Wd3 C (common (Wa3 C a) (Wa3 C b))
theorem meet_(C:Int)(a b:List (Int×Int))(ha:a.length≤1000)(hb:b.length≤1000):Ev (fun n=>qal n (C,a,b)) (Wmy C a b):=by
 unfold qal Wmy
 have h1:=Wcg C a
 have h2:=Wcg C b
 have h3:=Wnw _ (Wa3 C a) (Wa3 C b) rfl
 refine Ev.bind (Wjg C a ha) (Ev.bind (Wjg C b hb) (Ev.bind (Wzp _ _ (by omega) (by omega)) ?_))
 by_cases hc:C≤6000
 ·exact Ev.bind (arcs_ hc (Wf1 _ _ _ rfl (Waw C a) (Waw C b)).1 (by omega)) (Ev.ret _)
 ·rw[Wc1 (.inr (by omega)),Wc1 (.inr (by omega)),show common [] []=[] by simp[common]]
  exact Ev.bind (Wt8 C) (Ev.ret _)
theorem Wsm{C:Int}(h1:1≤C)(h2:C≤6000)(a b:List (Int×Int)):Arcs C (fun j=>TS C a j∧TS C b j) (Wmy C a b):=by
 obtain⟨c1,_,c3⟩:=Wf1 _ _ _ rfl (Waw C a) (Waw C b)
 exact(Wjd c1).congr h1 fun j hj hj'=>(c3 j).trans (and_congr (Wbj h1 h2 a hj hj') (Wbj h1 h2 b hj hj'))
theorem Wp7{C:Int}(h1:1≤C)(h2:C≤6000)(a b:List (Int×Int)){j:Int}(hj:0≤j)(hj':j < C):TS C (Wmy C a b) j↔TS C a j∧TS C b j:=by
 obtain⟨c1,_,c3⟩:=Wf1 _ _ _ rfl (Waw C a) (Waw C b)
 exact(Wmb c1 hj hj').trans ((c3 j).trans (and_congr (Wbj h1 h2 a hj hj') (Wbj h1 h2 b hj hj')))
def Wk0(C:Int)(a b:List (Int×Int)):List (Int×Int):=if 1≤C∧C≤6000 then Wd3 C (common (Wa3 C a) (between C 0 (Wa3 C b)))else []
theorem less_(C:Int)(a b:List (Int×Int))(ha:a.length≤1000)(hb:b.length≤1000):Ev (fun n=>qak n (C,a,b)) (Wk0 C a b):=by
 unfold qak Wk0
 have h1:=Wcg C a
 have h2:=Wcg C b
 have h4:=Wt1 C (Wa3 C b) 0
 have h3:=Wnw _ (Wa3 C a) (between C 0 (Wa3 C b)) rfl
 refine Ev.bindS (fun n=>cycle_ n C) ?_
 by_cases hc:1≤C∧C≤6000
 ·rw[decide_eq_true hc,if_pos hc]
  simp only[Bool.not_true,cond_false]
  exact Ev.bind (Wjg C a ha) (Ev.bind (Wjg C b hb) (Ev.bind (between_ C _ (by omega)) (Ev.bind (Wzp _ _ (by omega) (by omega))
   (Ev.bind (arcs_ hc.2 (Wf1 _ _ _ rfl (Waw C a) (Wgq hc.1 (Waw C b)).1).1 (by omega)) (Ev.ret _)))))
 ·rw[decide_eq_false hc,if_neg hc]
  exact Ev.ret _
theorem Wsn{C:Int}(h1:1≤C)(h2:C≤6000)(a b:List (Int×Int)):Arcs C (fun j=>TS C a j∧¬ TS C b j) (Wk0 C a b):=by
 unfold Wk0;rw[if_pos ⟨h1,h2⟩]
 obtain⟨b1,b3⟩:=Wgq h1 (Waw C b)
 obtain⟨c1,_,c3⟩:=Wf1 _ _ _ rfl (Waw C a) b1
 exact(Wjd c1).congr h1 fun j hj hj'=>(c3 j).trans (and_congr (Wbj h1 h2 a hj hj') ((b3 j hj hj').trans (not_congr (Wbj h1 h2 b hj hj'))))
theorem Wp8{C:Int}(h1:1≤C)(h2:C≤6000)(a b:List (Int×Int)){j:Int}(hj:0≤j)(hj':j < C):TS C (Wk0 C a b) j↔TS C a j∧¬ TS C b j:=by
 unfold Wk0;rw[if_pos ⟨h1,h2⟩]
 obtain⟨b1,b3⟩:=Wgq h1 (Waw C b)
 obtain⟨c1,_,c3⟩:=Wf1 _ _ _ rfl (Waw C a) b1
 exact(Wmb c1 hj hj').trans ((c3 j).trans (and_congr (Wbj h1 h2 a hj hj') ((b3 j hj hj').trans (not_congr (Wbj h1 h2 b hj hj')))))
def Wso(C by_:Int)(a:Int×Int):Int×Int:=((Wau C a).1+by_ % max C 1,(Wau C a).2)
def Wju(C:Int)(l:List (Int×Int))(by_:Int):List (Int×Int):=Wgj C (l.map (Wso C by_))
theorem turn_(C:Int)(hC:C≤9223372036854775807)(l:List (Int×Int))(by_:Int)(hl:l.length≤1000):Ev (fun n=>qap n (C,l,by_)) (Wju C l by_):=by
 unfold qap Wju
 refine Ev.loopB (st:=fun i=>(C,by_,l,(l.length:Int),(i:Int),(l.take i).map (Wso C by_))) l.length (C,l.map (Wso C by_)) (by simp) (fun i hi=>?_) ?_ ?_
 ·refine Ev.const fun n=>?_
  have hmx:mx C 1=max C 1:=Xcv _ _
  have hf:fitB (min i l.length+1) 16=true:=Wce (by omega)
  simp only[Int.ofNat_lt,hi,decide_true,cond_true,Waf,Wag,norm_,Option.bind_some,hmx,Wzk n by_ (max C 1) (by omega) (by omega),Wav l i (0,0) hi,Wad (show i < 9223372036854775807 by omega),List.map_append,List.length_map,List.length_take,List.length_cons,List.length_nil,Nat.zero_add,hf]
  generalize l.getD i (0,0)=a
  have q1:=Int.emod_nonneg by_ (b:=max C 1) (by omega)
  have q2:=Int.emod_lt_of_pos by_ (b:=max C 1) (by omega)
  have hw:wrap64 ((Wau C a).1+by_ % max C 1)=(Wau C a).1+by_ % max C 1:=by
   by_cases hc:1≤C∧C≤6000
   ·have:=Wf0 hc.1 a
    exact Wan (by omega) (by omega)
   ·have:Wau C a=(0,0):=by unfold Wau;rw[if_pos (by omega)]
    rw[this]
    exact Wan (by simp only;omega) (by simp only;omega)
  rw[hw]
  rfl
 ·exact Ev.const fun n=>by simp
 ·exact Ev.bind (set_ C _ (by simpa using hl)) (Ev.ret _)
theorem Wp9{C:Int}(h1:1≤C)(h2:C≤6000)(by_:Int)(a:Int×Int)(j:Int):HasT C (Wso C by_ a) j↔HasT C a (j - by_):=by
 rw[← Wma h1 h2 a (j - by_)]
 unfold HasT Wso
 rw[show max C 1=C by omega]
 simp only
 have:(j - ((Wau C a).1+by_ % C)) % C=(j - by_ - (Wau C a).1) % C:=by
  rw[show j - ((Wau C a).1+by_ % C)=j - (Wau C a).1 - by_ % C by omega,Int.sub_emod_emod]
  congr 1;omega
 rw[this]
theorem turn_ts{C:Int}(h1:1≤C)(h2:C≤6000)(by_:Int)(l:List (Int×Int))(j:Int):TS C (l.map (Wso C by_)) j↔TS C l (j - by_):=by
 simp only[TS,List.mem_map]
 constructor
 ·rintro⟨_,⟨a,ha,rfl⟩,h⟩;exact⟨a,ha,(Wp9 h1 h2 by_ a j).1 h⟩
 ·rintro⟨a,ha,h⟩;exact⟨_,⟨a,ha,rfl⟩,(Wp9 h1 h2 by_ a j).2 h⟩
theorem Wzq{C:Int}(h1:1≤C)(h2:C≤6000)(l:List (Int×Int))(by_:Int){j:Int}(hj:0≤j)(hj':j < C):TS C (Wju C l by_) j↔TS C l (j - by_):=
 (setOf_ts h1 h2 _ hj hj').trans (turn_ts h1 h2 by_ l j)
theorem Wv9(C:Int)(l:List (Int×Int))(by_:Int):(Wju C l by_).length≤2 * l.length:=by
 have:=Wkz C (l.map (Wso C by_));unfold Wju;simpa using this
theorem HasT.mod(C:Int)(a:Int×Int)(j:Int):HasT C a (j % C)↔HasT C a j:=by unfold HasT;rw[Int.emod_sub_emod]
theorem TS.mod(C:Int)(l:List (Int×Int))(j:Int):TS C l (j % C)↔TS C l j:=by simp only[TS,HasT.mod]
theorem Wwa(P:List (Int×Int))(i:Nat)(h:i < P.length):Wcx (P.take (i+1))=Wcx (P.take i)+((P.getD i (0,0)).2 - (P.getD i (0,0)).1):=by
 rw[Wav P i (0,0) h];simp[Wcx]
theorem Wsp{P:List (Int×Int)}(hb:∀ p∈P,0≤p.2 - p.1∧p.2 - p.1≤6000):0≤Wcx P∧Wcx P≤6000 * P.length:=by
 induction P with
 | nil=>simp[Wcx]
 | cons p P ih=>
  have:=hb p (by simp)
  have:=ih fun q hq=>hb q (by simp[hq])
  simp only[Wcx,List.map_cons,List.sum_cons,List.length_cons]at *
  omega
theorem totalfn_(C:Int)(l:List (Int×Int))(hl:l.length≤1000):Ev (fun n=>qao n (C,l)) (Wcx (Wa3 C l)):=by
 unfold qao
 refine Ev.bind (Wjg C l hl) ?_
 have h3:=Wcg C l
 have hb:∀ p∈Wa3 C l,(0≤p.1∧p.2≤6000)∧0≤p.2 - p.1∧p.2 - p.1≤6000:=by
  by_cases h:1≤C∧C≤6000
  ·intro p hp;have:=(Waw C l).all p hp;omega
  ·rw[Wc1 (by omega)];intro p hp;cases hp
 generalize Wa3 C l=P at *
 refine Ev.loopB (st:=fun i=>(Wcx (P.take i),(P.length:Int),(i:Int),P)) P.length (Wcx P) (by simp[Wcx]) (fun i hi=>?_) ?_ ?_
 ·refine Ev.const fun n=>?_
  have hp:=hb (P.getD i (0,0)) (by rw[Wbp _ _ _ hi];exact List.getElem_mem hi)
  have ht:=Wsp (P:=P.take i) fun p hp=>(hb p (List.mem_of_mem_take hp)).2
  simp only[List.length_take]at ht
  simp only[Int.ofNat_lt,hi,decide_true,cond_true,Waf,Wag,Wad (show i < 9223372036854775807 by omega),Wwa P i hi]
  generalize P.getD i (0,0)=p at *
  rw[Wan (n:=p.2 - p.1) (by omega) (by omega),Wan (by omega) (by omega)]
 ·exact Ev.const fun n=>by simp
 ·exact Ev.ret _
def wide(m x:Int×Int):Int×Int:=if m.2 < x.2 then x else m
def Wf4:List (Int×Int)→Int×Int
 | []=>(0,0)
 | a::r=>r.foldl wide a
end Go.Proofs.YtalbenehgdkalaaGreat.Fn