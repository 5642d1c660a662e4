/- Texts of the proof. -/
import Derived.Test.YtalbenehgdkalaaGreatBandB
namespace Go.Proofs.YtalbenehgdkalaaGreat.Fn
open Go Go.RowKit Go.Den Go.Circ
def Who(C:Int)(G:Nat→Int×Int)(F:Nat→Int):Nat→List (Int×Int)
 | 0=>[(0,C)]
 | i+1=>Wmy C (Who C G F i) (Wju C [G i] (0 - F i))
def Wjh(C:Int)(G:Nat→Int×Int)(F:Nat→Int)(N:Nat)(j:Int):Prop:=∀ k,k < N→HasT C (G k) (j+F k)
theorem freeL_ts{C:Int}(h1:1≤C)(h2:C≤6000)(G:Nat→Int×Int)(F:Nat→Int):∀ i j,0≤j→j < C→(TS C (Who C G F i) j↔Wjh C G F i j):=by
 intro i
 induction i with
 | zero=>
  intro j h0 h3
  simp only[Who,TS,List.mem_singleton,exists_eq_left,HasT,Wjh]
  constructor
  ·intro _ k hk;omega
  ·intro _;exact⟨h1,.inl (Int.le_refl _)⟩
 | succ i ih=>
  intro j h0 h3
  simp only[Who]
  rw[Wp7 h1 h2 _ _ h0 h3,ih j h0 h3,Wzq h1 h2 _ _ h0 h3]
  simp only[TS,List.mem_singleton,exists_eq_left]
  rw[show j - (0 - F i)=j+F i by omega]
  constructor
  ·rintro⟨h4,h5⟩ k hk
   by_cases he:k=i
   ·rw[he];exact h5
   ·exact h4 k (by omega)
  ·intro h4
   exact⟨fun k hk=>h4 k (by omega),h4 i (by omega)⟩
theorem Wmz{C:Int}(h1:1≤C)(h2:C≤6000)(G:Nat→Int×Int)(F:Nat→Int)(i:Nat):Arcs C (Wjh C G F (i+1)) (Who C G F (i+1)):=by
 refine Arcs.congr h1 (fun j h0 h3=>?_) (Wsm h1 h2 (Who C G F i) (Wju C [G i] (0 - F i)))
 rw[← freeL_ts h1 h2 G F (i+1) j h0 h3]
 simp only[Who]
 rw[Wp7 h1 h2 _ _ h0 h3]
theorem Wqb{C:Int}(h1:1≤C)(h2:C≤500)(G:Nat→Int×Int)(F:Nat→Int)(i:Nat):(Who C G F i).length≤500:=by
 cases i with
 | zero=>simp[Who]
 | succ i=>
  have:=Arcs.len (Wmz h1 (by omega) G F i) (by omega)
  omega
def Wa0(x:NetT)(cy:Int)(ts:List TimT)(isIn:Bool):List (Int×Int)×Int:=
 if(netE x).1=0 then(if Wi8 x cy ts=true then(if x.2.2.2.2.2.2.1.length=0 then([],0)else
  (Who cy (fun i=>Wcy x.2.2.2.2.2.1 ts isIn (x.2.2.2.2.2.2.1.getD i Wba)) (Wdw x.2.2.2.2.2.2.1 isIn) x.2.2.2.2.2.2.1.length,0))else([],180))else([],1)
theorem Wub{ns:List Wa5}{ss:List Wbq}{ts:List TimT}(hl:ss.length≤15)(h:∀ i,i < ss.length→StopOk ns ts (ss.getD i Wba)):AllBd ss:=
 ⟨hl,Wcf fun i hi=>(h i hi).ahead,Wcf fun i hi=>(h i hi).back⟩
set_option maxHeartbeats 2000000 in
theorem Wn9(a b c d e:Int)(ns:List Wa5)(ss:List Wbq)(f g:Int)(p:Wh6)(isIn:Bool)(h:Small20 ns ss p.2.1) :
 Ev (fun n=>qab n (a,b,c,d,e,ns,ss,f,g,p.1,p.2.1,p.2.2.1,p.2.2.2.1,p.2.2.2.2.1,p.2.2.2.2.2.1,p.2.2.2.2.2.2.1,p.2.2.2.2.2.2.2,isIn)) (Wa0 (a,b,c,d,e,ns,ss,f,g) p.1 p.2.1 isIn):=by
 have hst:=step_ a b c d e ns ss f g p h
 obtain⟨cy,ts,p1,p2,p3,p4,p5,p6⟩:=p
 have hnl:=h.nets
 have hsl:=h.stops
 unfold qab Wa0
 refine Ev.bind (Xb8 (a,b,c,d,e,ns,ss,f,g) (h.sh a b c d e f g)) ?_
 by_cases h0:(netE (a,b,c,d,e,ns,ss,f,g)).1=0
 case neg=>rw[if_neg h0];exact Ev.yes (by simp[h0]) (Ev.ret _)
 rw[if_pos h0]
 refine Ev.no (by simp[h0]) ?_
 refine Ev.bind hst ?_
 simp only
 cases hs:Wi8 (a,b,c,d,e,ns,ss,f,g) cy ts with
 | false=>exact Ev.ret _
 | true=>
  obtain⟨⟨c1,c2⟩,hok⟩:=Wk3 h hs
  have hbd:=Wub hsl hok
  simp only[Bool.not_true,cond_false,if_true]
  by_cases hz:ss.length=0
  ·rw[if_pos hz]
   exact Ev.yes (by simp[hz]) (Ev.ret _)
  rw[if_neg hz]
  refine Ev.no (by rw[Woa];exact decide_eq_false hz) ?_
  refine Ev.bind (far_ ss isIn hbd) ?_
  refine Ev.loopB (st:=fun i=>(isIn,Who cy (fun i=>Wcy ns ts isIn (ss.getD i Wba)) (Wdw ss isIn) i,ss,((ss.length:Nat):Int),(i:Int),a,b,c,d,e,ns,ss,f,g,cy,ts,p1,p2,p3,p4,p5,p6,mkI ss.length (Wdw ss isIn))) ss.length (Who cy (fun i=>Wcy ns ts isIn (ss.getD i Wba)) (Wdw ss isIn) ss.length) rfl (fun i hi=>?_) ?_ (Ev.ret _)
  ·have hzs:ss.getD i (ByteArray.mk #[],ByteArray.mk #[],ByteArray.mk #[],0,0,0)=ss.getD i Wba:=rfl
   have hlen:=Wqb c1 c2 (fun i=>Wcy ns ts isIn (ss.getD i Wba)) (Wdw ss isIn) i
   have hfb:=hbd.far isIn i
   have hoki:=hok i hi
   have hgd:=Wss ss.length (Wdw ss isIn) i hi
   have hsucc:Who cy (fun i=>Wcy ns ts isIn (ss.getD i Wba)) (Wdw ss isIn) (i+1)=Wmy cy (Who cy (fun i=>Wcy ns ts isIn (ss.getD i Wba)) (Wdw ss isIn) i) (Wju cy [Wcy ns ts isIn (ss.getD i Wba)] (0 - Wdw ss isIn i)):=rfl
   rw[hsucc]
   simp only[Wab hi,cond_true,Waf,hi,decide_true,Wag,hzs,letJ,Wgt,hgd,Wad (show i < 9223372036854775807 by omega)]
   generalize Who cy (fun i=>Wcy ns ts isIn (ss.getD i Wba)) (Wdw ss isIn) i=A at hlen
   generalize ss.getD i Wba=s at hoki
   generalize Wdw ss isIn i=fr at hfb
   have hwf:wrap64 (0 - fr)=0 - fr:=Wan (by omega) (by omega)
   simp only[hwf]
   refine Ev.bind (Wt6 a b c d e ns ss f g s.1 (by omega)) ?_
   obtain⟨_,_,⟨n0,n1,n2⟩,hh,hf⟩:=hoki
   have hz1:atI (ByteArray.mk #[],[],[],[],[],[],0) ns (Wa4 ns s.1)=ns.getD (Wa4 ns s.1).toNat Wbi:=rfl
   have hz2:atI (ByteArray.mk #[],0,[],0,0) ts (Wa4 ns s.1)=ts.getD (Wa4 ns s.1).toNat zTim:=rfl
   simp only[Wgs n0 n1,Wgs n0 n2,cond_true,hz1,hz2]
   have hg:=green_ (ns.getD (Wa4 ns s.1).toNat Wbi) (ts.getD (Wa4 ns s.1).toNat zTim) (Wge s isIn) (h.node _ (Wap ns _ Wbi n1)).bd (h.tim _ (Wap ts _ zTim n2)).bd hf (hh isIn)
   have hge:Wud (ns.getD (Wa4 ns s.1).toNat Wbi) (ts.getD (Wa4 ns s.1).toNat zTim) (Wge s isIn)=Wcy ns ts isIn s:=rfl
   rw[hge]at hg
   have htl:=Wv9 cy [Wcy ns ts isIn s] (0 - fr)
   simp only[List.length_singleton]at htl
   cases isIn with
   | false=>
    refine Ev.bind hg ?_
    refine Ev.bind (turn_ cy (by omega) _ _ (by simp)) ?_
    refine Ev.bind (meet_ cy A _ (by omega) (by omega)) ?_
    exact Ev.ret _
   | true=>
    refine Ev.bind hg ?_
    refine Ev.bind (turn_ cy (by omega) _ _ (by simp)) ?_
    refine Ev.bind (meet_ cy A _ (by omega) (by omega)) ?_
    exact Ev.ret _
  ·simp only[Waa,cond_false];exact Ev.ret _
theorem Wzt{N i:Nat}(isIn:Bool)(h:i < N):sig N isIn i < N:=by unfold sig;cases isIn<;>simp only[cond_true,cond_false]<;>omega
theorem sig_sig{N i:Nat}(isIn:Bool)(h:i < N):sig N isIn (sig N isIn i)=i:=by unfold sig;cases isIn<;>simp only[cond_true,cond_false];omega
set_option maxHeartbeats 4000000 in
theorem Wk2(a b c d e:Int)(ns:List Wa5)(ss:List Wbq)(f g:Int)(p:Wh6)(isIn:Bool)(h:Small20 ns ss p.2.1) :
 Ev (fun n=>qc0 n (a,b,c,d,e,ns,ss,f,g,p.1,p.2.1,p.2.2.1,p.2.2.2.1,p.2.2.2.2.1,p.2.2.2.2.2.1,p.2.2.2.2.2.2.1,p.2.2.2.2.2.2.2,isIn)) (Wa0 (a,b,c,d,e,ns,ss,f,g) p.1 p.2.1 isIn):=by
 have hst:=rstep_ a b c d e ns ss f g p h
 have hgr:=fun s (hs:StopOk ns p.2.1 s)=>rgreen_ a b c d e ns ss f g p s isIn h hs
 obtain⟨cy,ts,p1,p2,p3,p4,p5,p6⟩:=p
 have hnl:=h.nets
 have hsl:=h.stops
 unfold qc0 Wa0
 refine Ev.bind (net07_ (a,b,c,d,e,ns,ss,f,g) (h.sh a b c d e f g)) ?_
 by_cases h0:(netE (a,b,c,d,e,ns,ss,f,g)).1=0
 case neg=>rw[if_neg h0];exact Ev.yes (by simp[h0]) (Ev.ret _)
 rw[if_pos h0]
 refine Ev.no (by simp[h0]) ?_
 refine Ev.bind hst ?_
 simp only at hgr ⊢
 cases hs:Wi8 (a,b,c,d,e,ns,ss,f,g) cy ts with
 | false=>exact Ev.ret _
 | true=>
  obtain⟨⟨c1,c2⟩,hok⟩:=Wk3 h hs
  have hbd:=Wub hsl hok
  simp only[Bool.not_true,cond_false,if_true]
  by_cases hz:ss.length=0
  ·rw[if_pos hz]
   exact Ev.yes (by simp[hz]) (Ev.ret _)
  rw[if_neg hz]
  refine Ev.no (by rw[Woa];exact decide_eq_false hz) ?_
  refine Ev.bind (way_ a b c d e ns ss f g isIn hbd) ?_
  clear hst hs
  obtain⟨Cn,rfl⟩:=Int.eq_ofNat_of_zero_le (show 0≤cy by omega)
  have hcc:(((Cn:Int)==(Cn:Int))&&decide (0≤(Cn:Int))&&decide ((Cn:Int) * 1≤281474976710656))=true:=by simp;omega
  simp only[hcc,cond_true,Int.toNat_natCast]
  generalize hG:(fun i=>Wcy ns ts isIn (ss.getD i Wba))=G
  generalize hF:Wdw ss isIn=F
  have hFb:∀ i,0≤F i∧F i≤90000:=fun i=>by rw[← hF];exact hbd.far isIn i
  generalize hS:mkI ss.length (fun i=>(sig ss.length isIn i:Int))=S
  generalize hW:(mkI ss.length fun i=>F (sig ss.length isIn i))=W
  refine Ev.bind (a:=(isIn,a,b,c,d,e,ns,ss,f,g,(Cn:Int),ts,p1,p2,p3,p4,p5,p6,S,W,tks Cn fun _=>True)) ?_ ?_
  ·refine Ev.loop (st:=fun t=>(isIn,(t:Int),a,b,c,d,e,ns,ss,f,g,(Cn:Int),ts,p1,p2,p3,p4,p5,p6,S,W,tks Cn fun j=>j < (t:Int))) Cn _ ?_ (fun t ht=>?_) ?_
   ·have e:List.replicate Cn false=tks Cn fun j=>j < ((0:Nat):Int):=by
     rw[Wpy];exact Wb2 fun j h0 _=>⟨fun h=>h.elim,fun h=>by have:(j:Int) < ((0:Nat):Int):=h;omega⟩
    rw[e];rfl
   ·simp only[Wab ht,cond_true,Waf,Wc9,ht,decide_true,Int.toNat_natCast,Wyt,Wad (show t < 9223372036854775807 by omega)]
    refine(Ev.ret _).of_eq ?_
    have e:(tks Cn fun j=>j < (t:Int)∨j=t)=tks Cn fun j=>j < ((t+1:Nat):Int):=Wb2 fun j _ _=>by show(j:Int) < (t:Int)∨(j:Int)=t↔(j:Int) < ((t+1:Nat):Int);omega
    rw[e]
   ·simp only[Waa,cond_false]
    refine(Ev.ret _).of_eq ?_
    have e:(tks Cn fun j=>j < (Cn:Int))=tks Cn fun _=>True:=Wb2 fun j _ _=>by simp[*]
    rw[e]
  refine Ev.bind (a:=tks Cn (Wjh Cn G F ss.length)) ?_ ?_
  ·refine Ev.loop (st:=fun i=>(isIn,(i:Int),a,b,c,d,e,ns,ss,f,g,(Cn:Int),ts,p1,p2,p3,p4,p5,p6,S,W,tks Cn (Wjh Cn (fun k=>G (sig ss.length isIn k)) (fun k=>F (sig ss.length isIn k)) i))) ss.length _ ?_ (fun i hi=>?_) ?_
   ·have e:(tks Cn fun _=>True)=tks Cn (Wjh Cn (fun k=>G (sig ss.length isIn k)) (fun k=>F (sig ss.length isIn k)) 0):=Wb2 fun j _ _=>by simp[Wjh]
    rw[e];rfl
   ·have hσ:=Wzt isIn hi
    have hSl:S.length=ss.length:=by rw[← hS];exact Wgt _ _
    have hWl:W.length=ss.length:=by rw[← hW];exact Wgt _ _
    have hSg:S.getD i 0=(sig ss.length isIn i:Int):=by rw[← hS];exact Wss _ _ i hi
    have hWg:W.getD i 0=F (sig ss.length isIn i):=by rw[← hW];exact Wss _ _ i hi
    have hzs:ss.getD (sig ss.length isIn i) (ByteArray.mk #[],ByteArray.mk #[],ByteArray.mk #[],0,0,0)=ss.getD (sig ss.length isIn i) Wba:=rfl
    have hGi:Wcy ns ts isIn (ss.getD (sig ss.length isIn i) Wba)=G (sig ss.length isIn i):=by rw[← hG]
    have hFi:=hFb (sig ss.length isIn i)
    have hgi:=hgr _ (hok _ hσ)
    rw[hGi]at hgi
    simp only[hSl,Wab hi,cond_true,Waf,hi,hσ,decide_true,Wag,hSg,hzs]
    refine Ev.bind hgi ?_
    have hnext:∀ j,Wjh Cn (fun k=>G (sig ss.length isIn k)) (fun k=>F (sig ss.length isIn k)) (i+1) j↔Wjh Cn (fun k=>G (sig ss.length isIn k)) (fun k=>F (sig ss.length isIn k)) i j∧HasT Cn (G (sig ss.length isIn i)) (j+F (sig ss.length isIn i)):=fun j=>by
     constructor
     ·intro h4;exact⟨fun k hk=>h4 k (by omega),h4 i (by omega)⟩
     ·rintro⟨h4,h5⟩ k hk
      by_cases he:k=i
      ·rw[he];exact h5
      ·exact h4 k (by omega)
    have hnx:tks Cn (Wjh Cn (fun k=>G (sig ss.length isIn k)) (fun k=>F (sig ss.length isIn k)) (i+1))=tks Cn (fun j=>Wjh Cn (fun k=>G (sig ss.length isIn k)) (fun k=>F (sig ss.length isIn k)) i j∧HasT Cn (G (sig ss.length isIn i)) (j+F (sig ss.length isIn i))):=Wb2 fun j _ _=>hnext j
    rw[hnx]
    generalize Wjh Cn (fun k=>G (sig ss.length isIn k)) (fun k=>F (sig ss.length isIn k)) i=T
    generalize F (sig ss.length isIn i)=fr at hWg hFi
    generalize G (sig ss.length isIn i)=gr
    refine Ev.loopB (st:=fun t=>(isIn,(i:Int),(t:Int),a,b,c,d,e,ns,ss,f,g,(Cn:Int),ts,p1,p2,p3,p4,p5,p6,gr.1,gr.2,S,W,tks Cn fun j=>T j∧(j < (t:Int)→HasT Cn gr (j+fr)))) Cn (isIn,(i:Int),a,b,c,d,e,ns,ss,f,g,(Cn:Int),ts,p1,p2,p3,p4,p5,p6,S,W,tks Cn fun j=>T j∧HasT Cn gr (j+fr)) ?_ (fun t ht=>?_) ?_ ?_
    ·have e:tks Cn T=tks Cn fun j=>T j∧(j < ((0:Nat):Int)→HasT Cn gr (j+fr)):=Wb2 fun j h0 _=>⟨fun h=>⟨h,fun h1=>by have:(j:Int) < ((0:Nat):Int):=h1;omega⟩,fun h=>h.1⟩
     rw[← e];rfl
    ·classical
     have hget:=tks_get Cn (fun j=>T j∧(j < (t:Int)→HasT Cn gr (j+fr))) t ht
     have hwi:wrap64 ((t:Int)+fr)=t+fr:=Wan (by omega) (by omega)
     simp only[Wab ht,cond_true,Waf,Wc9,ht,hi,hWl,decide_true,Wag,Int.toNat_natCast,tks_setv,hget,hWg,hwi,Wad (show t < 9223372036854775807 by omega)]
     by_cases hT:T (t:Int)
     ·have hd:decide (T (t:Int)∧((t:Int) < (t:Int)→HasT Cn gr (t+fr)))=true:=decide_eq_true ⟨hT,fun h=>by omega⟩
      simp only[hd,cond_true]
      refine Ev.bindS (fun n=>rin_ n Cn gr _) ?_
      refine(Ev.ret _).of_eq ?_
      congr 1
      have e:(tks Cn fun j=>(j=(t:Int)∧decide (1≤(Cn:Int)∧(Cn:Int)≤6000∧HasT Cn gr (t+fr))=true)∨(j≠t∧T j∧(j < (t:Int)→HasT Cn gr (j+fr))))=tks Cn fun j=>T j∧(j < ((t+1:Nat):Int)→HasT Cn gr (j+fr)):=Wb2 fun j _ _=>by
       rw[decide_eq_true_eq]
       by_cases hj:j=t
       ·subst hj
        constructor
        ·rintro(⟨_,_,_,h4⟩ | ⟨h4,_⟩)
         ·exact⟨hT,fun _=>h4⟩
         ·exact absurd rfl h4
        ·rintro⟨_,h4⟩
         exact .inl ⟨rfl,by omega,by omega,h4 (by omega)⟩
       ·constructor
        ·rintro(⟨h4,_⟩ | ⟨_,h4,h5⟩)
         ·exact absurd h4 (by omega)
         ·exact⟨h4,fun h6=>h5 (by omega)⟩
        ·rintro⟨h4,h5⟩
         exact .inr ⟨by omega,h4,fun h6=>h5 (by omega)⟩
      rw[e]
     ·have hd:decide (T (t:Int)∧((t:Int) < (t:Int)→HasT Cn gr (t+fr)))=false:=decide_eq_false fun h=>hT h.1
      simp only[hd,cond_false]
      refine(Ev.ret _).of_eq ?_
      congr 1
      have e:(tks Cn fun j=>(j=(t:Int)∧false=true)∨(j≠t∧T j∧(j < (t:Int)→HasT Cn gr (j+fr))))=tks Cn fun j=>T j∧(j < ((t+1:Nat):Int)→HasT Cn gr (j+fr)):=Wb2 fun j _ _=>by
       by_cases hj:j=t
       ·subst hj
        constructor
        ·rintro(⟨_,h4⟩ | ⟨h4,_⟩)
         ·cases h4
         ·exact absurd rfl h4
        ·rintro⟨h4,_⟩;exact absurd h4 hT
       ·constructor
        ·rintro(⟨h4,_⟩ | ⟨_,h4,h5⟩)
         ·exact absurd h4 (by omega)
         ·exact⟨h4,fun h6=>h5 (by omega)⟩
        ·rintro⟨h4,h5⟩
         exact .inr ⟨by omega,h4,fun h6=>h5 (by omega)⟩
      rw[e]
    ·simp only[Waa,cond_false]
     refine(Ev.ret _).of_eq ?_
     congr 1
     have e:(tks Cn fun j=>T j∧(j < (Cn:Int)→HasT Cn gr (j+fr)))=tks Cn fun j=>T j∧HasT Cn gr (j+fr):=Wb2 fun j _ h5=>⟨fun h=>⟨h.1,h.2 (by omega)⟩,fun h=>⟨h.1,fun _=>h.2⟩⟩
     rw[e]
    ·simp only[Wad (show i < 9223372036854775807 by omega)]
     exact Ev.ret _
   ·have hSl:S.length=ss.length:=by rw[← hS];exact Wgt _ _
    simp only[hSl,Waa,cond_false]
    refine(Ev.ret _).of_eq ?_
    congr 1
    refine Wb2 fun j _ _=>?_
    constructor
    ·intro h4 k hk
     have:=h4 (sig ss.length isIn k) (Wzt isIn hk)
     simp only[sig_sig isIn hk]at this
     exact this
    ·intro h4 k hk
     exact h4 _ (Wzt isIn hk)
  ·refine Ev.bind (Wys (b:=tks Cn (Wjh Cn G F ss.length)) (by rw[Wc9];omega)) ?_
   obtain⟨m,hm⟩:∃ m,ss.length=m+1:=⟨ss.length - 1,by omega⟩
   rw[hm,Wyy (by omega) (Wmz (by omega) (by omega) G F m)]
   exact Ev.ret _
end Go.Proofs.YtalbenehgdkalaaGreat.Fn