/- Texts of the proof. -/
import Derived.Test.YtalbenehgdkalaaGreatBandA
namespace Go.Proofs.YtalbenehgdkalaaGreat.Fn
open Go Go.RowKit Go.Den Go.Circ
def Wge(s:Wbq)(isIn:Bool):ByteArray:=cond isIn s.2.2.1 s.2.1
structure StopOk (ns:List Wa5) (ts:List TimT) (s:Wbq):Prop where
 ahead:0≤s.2.2.2.1∧s.2.2.2.1≤6000
 back:0≤s.2.2.2.2.1∧s.2.2.2.2.1≤6000
 node:0≤Wa4 ns s.1∧(Wa4 ns s.1).toNat < ns.length∧(Wa4 ns s.1).toNat < ts.length
 head:∀ isIn,0≤Wa1 (ns.getD (Wa4 ns s.1).toNat Wbi).2.1 (Wge s isIn)∧(Wa1 (ns.getD (Wa4 ns s.1).toNat Wbi).2.1 (Wge s isIn)).toNat < (ns.getD (Wa4 ns s.1).toNat Wbi).2.1.length
 fits:Wd8 (ns.getD (Wa4 ns s.1).toNat Wbi).2.2.1 (ns.getD (Wa4 ns s.1).toNat Wbi).2.2.2.2.1 (ts.getD (Wa4 ns s.1).toNat zTim).2.2.1=true
theorem netE_ok{a b c d e:Int}{ns:List Wa5}{ss:List Wbq}{f g:Int}(h:(netE (a,b,c,d,e,ns,ss,f,g)).1=0):ns.length≠0∧(Wiw ns ss).1=0:=by
 unfold netE at h
 simp only at h
 split at h
 ·cases h
 ·split at h
  ·split at h
   ·cases h
   ·rename_i h3
    split at h
    ·exact⟨h3,h⟩
    ·rename_i h4;exact absurd h h4
  ·cases h
theorem stop_ok{ns:List Wa5}{ss:List Wbq}(h:(Wiw ns ss).1=0)(i:Nat)(hi:i < ss.length) :
 0≤Wa4 ns (ss.getD i Wba).1∧(∀ isIn,0≤Wa1 (ns.getD (Wa4 ns (ss.getD i Wba).1).toNat Wbi).2.1 (Wge (ss.getD i Wba) isIn))∧(0≤(ss.getD i Wba).2.2.2.1∧(ss.getD i Wba).2.2.2.1≤6000)∧0≤(ss.getD i Wba).2.2.2.2.1∧(ss.getD i Wba).2.2.2.2.1≤6000:=by
 have h1:=Whd h i hi
 unfold Wwj at h1
 generalize ss.getD i Wba=s at *
 split at h1
 ·cases h1
 ·rename_i hn
  split at h1
  ·cases h1
  ·unfold Wkk at h1
   split at h1
   ·cases h1
   ·rename_i hh
    split at h1
    ·cases h1
    ·rename_i hr
     simp only[Bool.not_eq_false,Bool.and_eq_true,inR,decide_eq_true_eq]at hr
     refine⟨by omega,fun isIn=>?_,hr.1,hr.2⟩
     unfold Wge
     cases isIn<;>simp only[cond_true,cond_false]<;>omega
theorem Wk3{a b c d e:Int}{ns:List Wa5}{ss:List Wbq}{f g:Int}{cy:Int}{ts:List TimT}(hs:Small20 ns ss ts)(h:Wi8 (a,b,c,d,e,ns,ss,f,g) cy ts=true) :
 (1≤cy∧cy≤500)∧∀ i,i < ss.length→StopOk ns ts (ss.getD i Wba):=by
 unfold Wi8 Wfc Wl6 at h
 simp only[Bool.and_eq_true,decide_eq_true_eq,Wbk]at h
 obtain⟨⟨h0,hlen,hp⟩,hc⟩:=h
 obtain⟨hne,hst⟩:=netE_ok h0
 have hfit:∀ k,k < ns.length→Wd8 (ns.getD k Wbi).2.2.1 (ns.getD k Wbi).2.2.2.2.1 (ts.getD k zTim).2.2.1=true:=fun k hk=>by
  have:=hp k hk
  unfold pairOk at this
  simp only[Bool.and_eq_true]at this
  exact this.2
 refine⟨?_,fun i hi=>?_⟩
 ·have h1:=(Wtj (hfit 0 (by omega))).2.2.2
  have hm:ts.getD 0 zTim∈ts:=Wap ts 0 zTim (by omega)
  have h2:=hs.cyc _ hm
  have h3:=List.all_eq_true.1 hc _ hm
  simp only[beq_iff_eq]at h3
  omega
 ·obtain⟨k1,k2,k3,k4⟩:=stop_ok hst i hi
  have k5:=(Wjk (fun h:Wa5=>Wak h.1 (ss.getD i Wba).1) ns).2
  have k6:(Wa4 ns (ss.getD i Wba).1).toNat < ns.length:=by
   have:Wa4 ns (ss.getD i Wba).1 < ns.length:=k5
   omega
  refine⟨k3,k4,⟨k1,k6,by omega⟩,fun isIn=>⟨k2 isIn,?_⟩,hfit _ k6⟩
  have k7:=(Wjk (fun h:Wbv=>Wak h.1 (Wge (ss.getD i Wba) isIn)) (ns.getD (Wa4 ns (ss.getD i Wba).1).toNat Wbi).2.1).2
  have k8:=k2 isIn
  have:Wa1 (ns.getD (Wa4 ns (ss.getD i Wba).1).toNat Wbi).2.1 (Wge (ss.getD i Wba) isIn) < (ns.getD (Wa4 ns (ss.getD i Wba).1).toNat Wbi).2.1.length:=k7
  omega
def zBars:Wmg:=(ByteArray.mk #[],0,0,0,0)
def Wud(x:Wa5)(t:TimT)(name:ByteArray):Int×Int:=
 (((Wdn x.2.1 x.2.2.2.1 t.2.1 t.2.2.1).getD (Wa1 x.2.1 name).toNat zBars).2.1,((Wdn x.2.1 x.2.2.2.1 t.2.1 t.2.2.1).getD (Wa1 x.2.1 name).toNat zBars).2.2.1)
def Wcy(ns:List Wa5)(ts:List TimT)(isIn:Bool)(s:Wbq):Int×Int:=
 Wud (ns.getD (Wa4 ns s.1).toNat Wbi) (ts.getD (Wa4 ns s.1).toNat zTim) (Wge s isIn)
theorem idxI_map{A B:Type}(p:B→Bool)(f:A→B)(l:List A):idxI p (l.map f)=idxI (fun a=>p (f a)) l:=by
 induction l with
 | nil=>rfl
 | cons a l ih=>simp only[List.map_cons,idxI,ih]
theorem green_(x:Wa5)(t:TimT)(name:ByteArray)(hx:NodeBd x)(hb:Bd t.2.2.1)(hf:Wd8 x.2.2.1 x.2.2.2.2.1 t.2.2.1=true)(hh:0≤Wa1 x.2.1 name∧(Wa1 x.2.1 name).toNat < x.2.1.length) :
 Ev (fun n=>qag n (x.1,x.2.1,x.2.2.1,x.2.2.2.1,x.2.2.2.2.1,x.2.2.2.2.2.1,x.2.2.2.2.2.2,t.1,t.2.1,t.2.2.1,t.2.2.2.1,t.2.2.2.2,name)) (Wud x t name):=by
 have h1:=heads_ x t hx hb
 rw[hf,if_pos rfl]at h1
 unfold qag
 refine Ev.bind h1 ?_
 have hlen:(Wdn x.2.1 x.2.2.2.1 t.2.1 t.2.2.1).length=x.2.1.length:=by simp[Wdn]
 have hix:idxI (fun b:Wmg=>Wak b.1 name) (Wdn x.2.1 x.2.2.2.1 t.2.1 t.2.2.1)=Wa1 x.2.1 name:=by
  unfold Wdn Wa1;rw[idxI_map]
 have hhd:=hx.heads
 unfold Wud
 generalize Wdn x.2.1 x.2.2.2.1 t.2.1 t.2.2.1=L at *
 simp only
 refine Ev.bind (a:=(Wa1 x.2.1 name,name)) ?_ ?_
 ·unfold qdh
  rw[← hix]
  exact Wcl (S:=ByteArray) zBars (fun n a s=>qah n (a.1,a.2.1,a.2.2.1,a.2.2.2.1,a.2.2.2.2,s)) (fun b=>Wak b.1 name) L name (by omega) fun a _=>Ev.ret _
 ·have:inB (Wa1 x.2.1 name) L.length=true:=by unfold inB;simp only[Bool.and_eq_true,decide_eq_true_eq];omega
  simp only[this,cond_true]
  exact Ev.ret _
theorem Wgs{i:Int}{n:Nat}(h0:0≤i)(h:i.toNat < n):inB i n=true:=by unfold inB;simp only[Bool.and_eq_true,decide_eq_true_eq];omega
theorem rgreen_(a b c d e:Int)(ns:List Wa5)(ss:List Wbq)(f g:Int)(p:Wh6)(s:Wbq)(isIn:Bool)(h:Small20 ns ss p.2.1)(hs:StopOk ns p.2.1 s) :
 Ev (fun n=>qc2 n (a,b,c,d,e,ns,ss,f,g,p.1,p.2.1,p.2.2.1,p.2.2.2.1,p.2.2.2.2.1,p.2.2.2.2.2.1,p.2.2.2.2.2.2.1,p.2.2.2.2.2.2.2,s.1,s.2.1,s.2.2.1,s.2.2.2.1,s.2.2.2.2.1,s.2.2.2.2.2,isIn)) (Wcy ns p.2.1 isIn s):=by
 obtain⟨cy,ts,p1,p2,p3,p4,p5,p6⟩:=p
 have hnl:=h.nets
 obtain⟨_,_,⟨n0,n1,n2⟩,hh,hf⟩:=hs
 simp only at n2 hf
 unfold qc2 Wcy
 refine Ev.bind (Wn1 a b c d e ns ss f g s.1 (by unfold Sh;omega)) ?_
 have hz:atI (ByteArray.mk #[],[],[],[],[],[],0) ns (Wa4 ns s.1)=ns.getD (Wa4 ns s.1).toNat Wbi:=rfl
 have hz':atI (ByteArray.mk #[],0,[],0,0) ts (Wa4 ns s.1)=ts.getD (Wa4 ns s.1).toNat zTim:=rfl
 simp only[Wgs n0 n1,Wgs n0 n2,cond_true,hz,hz']
 have hm:=Wap ns _ Wbi n1
 have hm':=Wap ts _ zTim n2
 have hhi:=hh isIn
 generalize ns.getD (Wa4 ns s.1).toNat Wbi=x at *
 generalize ts.getD (Wa4 ns s.1).toNat zTim=t at *
 have hxb:=(h.node x hm).bd
 have h1:=rheads_ x t hxb (h.tim t hm')
 rw[hf,if_pos rfl]at h1
 refine Ev.bind h1 ?_
 refine Ev.bind (a:=Wge s isIn) ?_ ?_
 ·unfold qcw Wge
  cases isIn<;>exact Ev.ret _
 ·refine Ev.bind (Wf2 x.1 x.2.1 x.2.2.1 x.2.2.2.1 x.2.2.2.2.1 x.2.2.2.2.2.1 x.2.2.2.2.2.2 (Wge s isIn) (by have:=hxb.heads;unfold Sh;omega)) ?_
  have hlen:(Wdn x.2.1 x.2.2.2.1 t.2.1 t.2.2.1).length=x.2.1.length:=by simp[Wdn]
  simp only[hlen,Wgs hhi.1 hhi.2,cond_true]
  exact Ev.ret _
def sumA(ss:List Wbq)(i:Nat):Int:=((ss.take i).map fun s=>s.2.2.2.1).sum
def sumB(ss:List Wbq)(i:Nat):Int:=((ss.drop i).map fun s=>s.2.2.2.2.1).sum
def Wdw(ss:List Wbq)(isIn:Bool)(i:Nat):Int:=cond isIn (sumB ss (i+1)) (sumA ss (i+1))
theorem Wqe(ss:List Wbq)(i:Nat)(h:i < ss.length):sumA ss (i+1)=sumA ss i+(ss.getD i Wba).2.2.2.1:=by unfold sumA;rw[Web _ ss i Wba h]
theorem Wqf(ss:List Wbq)(i:Nat)(h:i < ss.length):sumB ss i=(ss.getD i Wba).2.2.2.2.1+sumB ss (i+1):=by
 have e:ss.drop i=ss.getD i Wba::ss.drop (i+1):=by rw[Wbp _ _ _ h,List.getElem_cons_drop]
 unfold sumB
 rw[e,List.map_cons,List.sum_cons]
structure AllBd (ss:List Wbq):Prop where
 len:ss.length≤15
 ahead:∀ s∈ss,0≤s.2.2.2.1∧s.2.2.2.1≤6000
 back:∀ s∈ss,0≤s.2.2.2.2.1∧s.2.2.2.2.1≤6000
theorem AllBd.a{ss:List Wbq}(h:AllBd ss)(i:Nat):0≤sumA ss i∧sumA ss i≤90000:=by
 have:=Wkw (fun s:Wbq=>s.2.2.2.1) 6000 (ss.take i) fun s hs=>h.ahead s (List.mem_of_mem_take hs)
 have h2:((ss.take i).length:Int)≤15:=by have:=h.len;simp;omega
 unfold sumA;omega
theorem AllBd.b{ss:List Wbq}(h:AllBd ss)(i:Nat):0≤sumB ss i∧sumB ss i≤90000:=by
 have:=Wkw (fun s:Wbq=>s.2.2.2.2.1) 6000 (ss.drop i) fun s hs=>h.back s (List.mem_of_mem_drop hs)
 have h2:((ss.drop i).length:Int)≤15:=by have:=h.len;simp;omega
 unfold sumB;omega
theorem AllBd.far{ss:List Wbq}(h:AllBd ss)(isIn:Bool)(i:Nat):0≤Wdw ss isIn i∧Wdw ss isIn i≤90000:=by
 unfold Wdw
 cases isIn
 ·exact h.a _
 ·exact h.b _
def mkI(n:Nat)(f:Nat→Int):List Int:=(List.range n).map f
theorem Wgt(n:Nat)(f:Nat→Int):(mkI n f).length=n:=by simp[mkI]
theorem Wob{n:Nat}{f g:Nat→Int}(h:∀ i,i < n→f i=g i):mkI n f=mkI n g:=List.map_congr_left fun i hi=>h i (by simpa using hi)
theorem Wz0(n:Nat)(f:Nat→Int)(i:Nat)(v:Int):List.set (mkI n f) i v=mkI n fun j=>if j=i then v else f j:=by
 refine List.ext_getElem (by simp[mkI]) fun j h1 h2=>?_
 simp only[mkI,List.getElem_set,List.getElem_map,List.getElem_range]
 by_cases h:i=j
 ·rw[if_pos h,if_pos h.symm]
 ·rw[if_neg h,if_neg (Ne.symm h)]
theorem mkI_zero(n:Nat):List.replicate n (0:Int)=mkI n fun _=>0:=by
 refine List.ext_getElem (by simp[mkI]) fun j h1 h2=>?_
 simp[mkI]
theorem Wss(n:Nat)(f:Nat→Int)(i:Nat)(h:i < n):(mkI n f).getD i 0=f i:=by
 rw[Wbp _ _ _ (by rw[Wgt];exact h)];simp[mkI]
theorem Wue(f:Nat→Int)(i:Nat):mkI (i+1) f=mkI i f++[f i]:=by simp[mkI,List.range_succ]
theorem far_(ss:List Wbq)(isIn:Bool)(h:AllBd ss):Ev (fun n=>qae n (ss,isIn)) (mkI ss.length (Wdw ss isIn)):=by
 have hl:=h.len
 unfold qae
 have hcc:((((ss.length:Nat):Int)==((ss.length:Nat):Int))&&decide (0≤((ss.length:Nat):Int))&&decide (((ss.length:Nat):Int) * 8≤281474976710656))=true:=by simp;omega
 simp only[hcc,cond_true,Int.toNat_natCast,mkI_zero]
 cases isIn with
 | false=>
  simp only[Bool.not_false,cond_true]
  refine Ev.loopB (st:=fun i=>(ss,((ss.length:Nat):Int),(i:Int),sumA ss i,mkI ss.length fun j=>if j < i then Wdw ss false j else 0)) ss.length (mkI ss.length (Wdw ss false)) (by simp[sumA]) (fun i hi=>?_) ?_ (Ev.ret _)
  ·have hz:ss.getD i (ByteArray.mk #[],ByteArray.mk #[],ByteArray.mk #[],0,0,0)=ss.getD i Wba:=rfl
   have b1:=h.a i
   have b2:=h.ahead _ (Wap ss i Wba hi)
   have e:=Wqe ss i hi
   have hw:wrap64 (sumA ss i+(ss.getD i Wba).2.2.2.1)=sumA ss (i+1):=by rw[Wan (by omega) (by omega),e]
   simp only[Wab hi,cond_true,Waf,hi,decide_true,Wag,hz,hw,Wgt,Int.toNat_natCast,Wz0,Wad (show i < 9223372036854775807 by omega)]
   refine(Ev.ret _).of_eq ?_
   congr 5
   refine Wob fun j _=>?_
   by_cases h1:j=i
   ·subst h1;rw[if_pos rfl,if_pos (by omega)];rfl
   ·rw[if_neg h1]
    by_cases h2:j < i
    ·rw[if_pos h2,if_pos (by omega)]
    ·rw[if_neg h2,if_neg (by omega)]
  ·simp only[Waa,cond_false]
   refine(Ev.ret _).of_eq ?_
   congr 1
   exact Wob fun j hj=>by rw[if_pos hj]
 | true=>
  simp only[Bool.not_true,cond_false]
  refine Ev.bind (a:=ss) (Ev.const fun n=>rfl) ?_
  refine(Ev.congr · fun n=>Wt0 Wt5 _) ?_
  refine Ev.bind (a:=(sumB ss 0,ss,mkI ss.length (Wdw ss true))) ?_ (Ev.ret _)
  unfold qc4
  refine Ev.loopB (st:=fun i=>((ss.length:Int) - 1 - i,sumB ss (ss.length - i),ss,mkI ss.length fun j=>if ss.length - i≤j then Wdw ss true j else 0)) ss.length (.inr (sumB ss 0,ss,mkI ss.length (Wdw ss true))) ?_ (fun i hi=>?_) ?_ ?_
  ·simp only
   rw[Wan (by omega) (by omega)]
   congr 1
   ·omega
   congr 1
   ·simp[sumB]
   congr 1
   exact Wob fun j hj=>by rw[if_neg (by omega)]
  ·have e1:(ss.length:Int) - 1 - i=((ss.length - 1 - i:Nat):Int):=by omega
   have hlt:ss.length - 1 - i < ss.length:=by omega
   have hz:ss.getD (ss.length - 1 - i) (ByteArray.mk #[],ByteArray.mk #[],ByteArray.mk #[],0,0,0)=ss.getD (ss.length - 1 - i) Wba:=rfl
   have b1:=h.b (ss.length - i)
   have b2:=h.back _ (Wap ss (ss.length - 1 - i) Wba hlt)
   have e:=Wqf ss (ss.length - 1 - i) hlt
   rw[show ss.length - 1 - i+1=ss.length - i by omega]at e
   have hw:wrap64 (sumB ss (ss.length - i)+(ss.getD (ss.length - 1 - i) Wba).2.2.2.2.1)=sumB ss (ss.length - 1 - i):=by rw[Wan (by omega) (by omega),e];omega
   have hw2:wrap64 (((ss.length - 1 - i:Nat):Int) - 1)=(ss.length:Int) - 1 - ((i+1:Nat):Int):=by rw[Wan (by omega) (by omega)];omega
   have h0:(0:Int)≤((ss.length - 1 - i:Nat):Int):=by omega
   unfold qaf
   simp only[e1,h0,decide_true,cond_true,Waf,hlt,Wag,hz,Wgt,Int.toNat_natCast,Wz0,Option.bind_some,Bool.not_true,cond_false,hw,hw2]
   refine(Ev.ret _).of_eq ?_
   congr 2
   rw[show ss.length - (i+1)=ss.length - 1 - i by omega]
   congr 2
   refine Wob fun j hj=>?_
   by_cases h1:j=ss.length - 1 - i
   ·subst h1
    rw[if_pos rfl,if_pos (by omega)]
    show _=sumB ss (ss.length - 1 - i+1)
    rw[show ss.length - 1 - i+1=ss.length - i by omega]
   ·rw[if_neg h1]
    by_cases h2:ss.length - i≤j
    ·rw[if_pos h2,if_pos (by omega)]
    ·rw[if_neg h2,if_neg (by omega)]
  ·have:¬(0:Int)≤(ss.length:Int) - 1 - ((ss.length:Nat):Int):=by omega
   simp only[this,decide_false,cond_false]
   refine(Ev.ret _).of_eq ?_
   congr 2
   rw[Nat.sub_self]
   congr 2
  ·exact Ev.ret _
def sig(N:Nat)(isIn:Bool)(i:Nat):Nat:=cond isIn (N - 1 - i) i
theorem way_(a b c d e:Int)(ns:List Wa5)(ss:List Wbq)(f g:Int)(isIn:Bool)(h:AllBd ss) :
 Ev (fun n=>qcy n (a,b,c,d,e,ns,ss,f,g,isIn)) (mkI ss.length (fun i=>(sig ss.length isIn i:Int)),mkI ss.length fun i=>Wdw ss isIn (sig ss.length isIn i)):=by
 have hl:=h.len
 unfold qcy
 refine Ev.loopB (st:=fun i=>(isIn,cond isIn (if i=0 then 0 else sumB ss (ss.length+1 - i)) (sumA ss i),(i:Int),a,b,c,d,e,ns,ss,f,g,mkI i (fun i=>(sig ss.length isIn i:Int)),mkI i fun i=>Wdw ss isIn (sig ss.length isIn i))) ss.length (mkI ss.length (fun i=>(sig ss.length isIn i:Int)),mkI ss.length fun i=>Wdw ss isIn (sig ss.length isIn i)) ?_ (fun i hi=>?_) ?_ (Ev.ret _)
 ·cases isIn<;>simp[sumA,mkI]
 ·have hf:∀(q:Nat→Int) (v:Int),fitB ((mkI i q).length+[v].length) 8=true:=fun q v=>Wce (by rw[Wgt];simp only[List.length_cons,List.length_nil];omega)
  have hz:∀ k,ss.getD k (ByteArray.mk #[],ByteArray.mk #[],ByteArray.mk #[],0,0,0)=ss.getD k Wba:=fun _=>rfl
  simp only[Wab hi,cond_true,hf,Wad (show i < 9223372036854775807 by omega)]
  rw[Wue,Wue]
  cases isIn with
  | false=>
   have b1:=h.a i
   have b2:=h.ahead _ (Wap ss i Wba hi)
   have e:=Wqe ss i hi
   have hw:wrap64 (sumA ss i+(ss.getD i Wba).2.2.2.1)=sumA ss (i+1):=by rw[Wan (by omega) (by omega),e]
   simp only[cond_false,Waf,hi,decide_true,cond_true,Wag,hz,hw]
   exact Ev.ret _
  | true=>
   simp only[cond_true]
   have w1:wrap64 (((ss.length:Nat):Int) - 1)=((ss.length:Nat):Int) - 1:=Wan (by omega) (by omega)
   have w2:wrap64 (((ss.length:Nat):Int) - 1 - (i:Int))=((ss.length - 1 - i:Nat):Int):=by rw[Wan (by omega) (by omega)];omega
   have w3:=Wad (show ss.length - 1 - i < 9223372036854775807 by omega)
   simp only[w1,w2,w3]
   by_cases h0:i=0
   ·subst h0
    refine Ev.no (by simp) ?_
    refine(Ev.ret _).of_eq ?_
    congr 3
    ·simp only[if_true,Nat.zero_add,Nat.one_ne_zero,if_false]
     rw[show ss.length+1 - 1=ss.length by omega];simp[sumB]
    ·have e0:Wdw ss true (sig ss.length true 0)=0:=by
      show sumB ss (ss.length - 1 - 0+1)=0
      rw[show ss.length - 1 - 0+1=ss.length by omega];simp[sumB]
     rw[e0];rfl
   ·have hp:(0:Int) < (i:Int):=by omega
    have hlt:ss.length - 1 - i+1 < ss.length:=by omega
    have b1:=h.b (ss.length+1 - i)
    have b2:=h.back _ (Wap ss (ss.length - 1 - i+1) Wba hlt)
    have e:=Wqf ss (ss.length - 1 - i+1) hlt
    rw[show ss.length - 1 - i+1+1=ss.length+1 - i by omega]at e
    have hw:wrap64 (sumB ss (ss.length+1 - i)+(ss.getD (ss.length - 1 - i+1) Wba).2.2.2.2.1)=sumB ss (ss.length - 1 - i+1):=by rw[Wan (by omega) (by omega),e];omega
    simp only[hp,decide_true,cond_true,if_neg h0,Waf,hlt,Wag,hz,hw]
    refine(Ev.ret _).of_eq ?_
    congr 3
    rw[if_neg (by omega),show ss.length+1 - (i+1)=ss.length - 1 - i+1 by omega]
 ·simp only[Waa,cond_false];exact Ev.ret _
end Go.Proofs.YtalbenehgdkalaaGreat.Fn