/- Texts of the proof. -/
import Derived.Test.YtalbenehgdkalaaGreatBandA
namespace Go.Proofs.YtalbenehgdkalaaGreat.Fn
open Go Go.RowKit Go.Den Go.Circ
def Wh0(s:Wbs)(isIn:Bool):ByteArray:=cond isIn s.2.2.1 s.2.1
structure StopOk (ns:List Wa5) (ts:List TimT) (s:Wbs):Prop where
 ahead:0≤s.2.2.2.1∧s.2.2.2.1≤6000
 back:0≤s.2.2.2.2.1∧s.2.2.2.2.1≤6000
 node:0≤Wbb ns s.1∧(Wbb ns s.1).toNat < ns.length∧(Wbb ns s.1).toNat < ts.length
 head:∀ isIn,0≤Wbe (ns.getD (Wbb ns s.1).toNat Wbx).2.1 (Wh0 s isIn)∧(Wbe (ns.getD (Wbb ns s.1).toNat Wbx).2.1 (Wh0 s isIn)).toNat < (ns.getD (Wbb ns s.1).toNat Wbx).2.1.length
 fits:Whc (ns.getD (Wbb ns s.1).toNat Wbx).2.2.1 (ns.getD (Wbb ns s.1).toNat Wbx).2.2.2.2.1 (ts.getD (Wbb ns s.1).toNat zTim).2.2.1=true
theorem netE_ok{a b c d e:Int}{ns:List Wa5}{ss:List Wbs}{f g:Int}(h:(netE (a,b,c,d,e,ns,ss,f,g)).1=0):ns.length≠0∧(Wj6 ns ss).1=0:=by
 unfold netE at h
 simp only at h
 split at h
 ·cases h
 ·split at h
  ·split at h
   ·cases h
   ·rename_i h3
    split at h
    ·exact⟨h3,h⟩
    ·rename_i h4;exact absurd h h4
  ·cases h
theorem stop_ok{ns:List Wa5}{ss:List Wbs}(h:(Wj6 ns ss).1=0)(i:Nat)(hi:i < ss.length) :
 0≤Wbb ns (ss.getD i Wbf).1∧(∀ isIn,0≤Wbe (ns.getD (Wbb ns (ss.getD i Wbf).1).toNat Wbx).2.1 (Wh0 (ss.getD i Wbf) isIn))∧(0≤(ss.getD i Wbf).2.2.2.1∧(ss.getD i Wbf).2.2.2.1≤6000)∧0≤(ss.getD i Wbf).2.2.2.2.1∧(ss.getD i Wbf).2.2.2.2.1≤6000:=by
 have h1:=Wh1 h i hi
 unfold stopE at h1
 generalize ss.getD i Wbf=s at *
 split at h1
 ·cases h1
 ·rename_i hn
  split at h1
  ·cases h1
  ·unfold Wm4 at h1
   split at h1
   ·cases h1
   ·rename_i hh
    split at h1
    ·cases h1
    ·rename_i hr
     simp only[Bool.not_eq_false,Bool.and_eq_true,inR,decide_eq_true_eq]at hr
     refine⟨by omega,fun isIn=>?_,hr.1,hr.2⟩
     unfold Wh0
     cases isIn<;>simp only[cond_true,cond_false]<;>omega
theorem Wo6{a b c d e:Int}{ns:List Wa5}{ss:List Wbs}{f g:Int}{cy:Int}{ts:List TimT}(hs:Small20 ns ss ts)(h:Wml (a,b,c,d,e,ns,ss,f,g) cy ts=true) :
 (1≤cy∧cy≤500)∧∀ i,i < ss.length→StopOk ns ts (ss.getD i Wbf):=by
 unfold Wml Wif Woe at h
 simp only[Bool.and_eq_true,decide_eq_true_eq,Wdh]at h
 obtain⟨⟨h0,hlen,hp⟩,hc⟩:=h
 obtain⟨hne,hst⟩:=netE_ok h0
 have hfit:∀ k,k < ns.length→Whc (ns.getD k Wbx).2.2.1 (ns.getD k Wbx).2.2.2.2.1 (ts.getD k zTim).2.2.1=true:=fun k hk=>by
  have:=hp k hk
  unfold pairOk at this
  simp only[Bool.and_eq_true]at this
  exact this.2
 refine⟨?_,fun i hi=>?_⟩
 ·have h1:=(Wy9 (hfit 0 (by omega))).2.2.2
  have hm:ts.getD 0 zTim∈ts:=Wau ts 0 zTim (by omega)
  have h2:=hs.cyc _ hm
  have h3:=List.all_eq_true.1 hc _ hm
  simp only[beq_iff_eq]at h3
  omega
 ·obtain⟨k1,k2,k3,k4⟩:=stop_ok hst i hi
  have k5:=(Wm8 (fun h:Wa5=>Wam h.1 (ss.getD i Wbf).1) ns).2
  have k6:(Wbb ns (ss.getD i Wbf).1).toNat < ns.length:=by
   have:Wbb ns (ss.getD i Wbf).1 < ns.length:=k5
   omega
  refine⟨k3,k4,⟨k1,k6,by omega⟩,fun isIn=>⟨k2 isIn,?_⟩,hfit _ k6⟩
  have k7:=(Wm8 (fun h:Wbu=>Wam h.1 (Wh0 (ss.getD i Wbf) isIn)) (ns.getD (Wbb ns (ss.getD i Wbf).1).toNat Wbx).2.1).2
  have k8:=k2 isIn
  have:Wbe (ns.getD (Wbb ns (ss.getD i Wbf).1).toNat Wbx).2.1 (Wh0 (ss.getD i Wbf) isIn) < (ns.getD (Wbb ns (ss.getD i Wbf).1).toNat Wbx).2.1.length:=k7
  omega
def zBars:Wq4:=(ByteArray.mk #[],0,0,0,0)
def Ws1(x:Wa5)(t:TimT)(name:ByteArray):Int×Int:=
 (((Wfl x.2.1 x.2.2.2.1 t.2.1 t.2.2.1).getD (Wbe x.2.1 name).toNat zBars).2.1,((Wfl x.2.1 x.2.2.2.1 t.2.1 t.2.2.1).getD (Wbe x.2.1 name).toNat zBars).2.2.1)
def Wd6(ns:List Wa5)(ts:List TimT)(isIn:Bool)(s:Wbs):Int×Int:=
 Ws1 (ns.getD (Wbb ns s.1).toNat Wbx) (ts.getD (Wbb ns s.1).toNat zTim) (Wh0 s isIn)
theorem idxI_map{A B:Type}(p:B→Bool)(f:A→B)(l:List A):idxI p (l.map f)=idxI (fun a=>p (f a)) l:=by
 induction l with
 | nil=>rfl
 | cons a l ih=>simp only[List.map_cons,idxI,ih]
theorem green_(x:Wa5)(t:TimT)(name:ByteArray)(hx:NodeBd x)(hb:Bd t.2.2.1)(hf:Whc x.2.2.1 x.2.2.2.2.1 t.2.2.1=true)(hh:0≤Wbe x.2.1 name∧(Wbe x.2.1 name).toNat < x.2.1.length) :
 Ev (fun n=>qag n (x.1,x.2.1,x.2.2.1,x.2.2.2.1,x.2.2.2.2.1,x.2.2.2.2.2.1,x.2.2.2.2.2.2,t.1,t.2.1,t.2.2.1,t.2.2.2.1,t.2.2.2.2,name)) (Ws1 x t name):=by
 have h1:=heads_ x t hx hb
 rw[hf,if_pos rfl]at h1
 unfold qag
 refine Ev.bind h1 ?_
 have hlen:(Wfl x.2.1 x.2.2.2.1 t.2.1 t.2.2.1).length=x.2.1.length:=by simp[Wfl]
 have hix:idxI (fun b:Wq4=>Wam b.1 name) (Wfl x.2.1 x.2.2.2.1 t.2.1 t.2.2.1)=Wbe x.2.1 name:=by
  unfold Wfl Wbe;rw[idxI_map]
 have hhd:=hx.heads
 unfold Ws1
 generalize Wfl x.2.1 x.2.2.2.1 t.2.1 t.2.2.1=L at *
 simp only
 refine Ev.bind (a:=(Wbe x.2.1 name,name)) ?_ ?_
 ·unfold qci
  rw[← hix]
  exact Wcb (S:=ByteArray) zBars (fun n a s=>qah n (a.1,a.2.1,a.2.2.1,a.2.2.2.1,a.2.2.2.2,s)) (fun b=>Wam b.1 name) L name (by omega) fun a _=>Ev.ret _
 ·have:inB (Wbe x.2.1 name) L.length=true:=by unfold inB;simp only[Bool.and_eq_true,decide_eq_true_eq];omega
  simp only[this,cond_true]
  exact Ev.ret _
theorem Wo7{i:Int}{n:Nat}(h0:0≤i)(h:i.toNat < n):inB i n=true:=by unfold inB;simp only[Bool.and_eq_true,decide_eq_true_eq];omega
def sumA(ss:List Wbs)(i:Nat):Int:=((ss.take i).map fun s=>s.2.2.2.1).sum
def sumB(ss:List Wbs)(i:Nat):Int:=((ss.drop i).map fun s=>s.2.2.2.2.1).sum
def Wet(ss:List Wbs)(isIn:Bool)(i:Nat):Int:=cond isIn (sumB ss (i+1)) (sumA ss (i+1))
theorem Wxp(ss:List Wbs)(i:Nat)(h:i < ss.length):sumA ss (i+1)=sumA ss i+(ss.getD i Wbf).2.2.2.1:=by unfold sumA;rw[Wfi _ ss i Wbf h]
theorem Wxq(ss:List Wbs)(i:Nat)(h:i < ss.length):sumB ss i=(ss.getD i Wbf).2.2.2.2.1+sumB ss (i+1):=by
 have e:ss.drop i=ss.getD i Wbf::ss.drop (i+1):=by rw[Wb3 _ _ _ h,List.getElem_cons_drop]
 unfold sumB
 rw[e,List.map_cons,List.sum_cons]
structure AllBd (ss:List Wbs):Prop where
 len:ss.length≤15
 ahead:∀ s∈ss,0≤s.2.2.2.1∧s.2.2.2.1≤6000
 back:∀ s∈ss,0≤s.2.2.2.2.1∧s.2.2.2.2.1≤6000
theorem AllBd.a{ss:List Wbs}(h:AllBd ss)(i:Nat):0≤sumA ss i∧sumA ss i≤90000:=by
 have:=Wjy (fun s:Wbs=>s.2.2.2.1) 6000 (ss.take i) fun s hs=>h.ahead s (List.mem_of_mem_take hs)
 have h2:((ss.take i).length:Int)≤15:=by have:=h.len;simp;omega
 unfold sumA;omega
theorem AllBd.b{ss:List Wbs}(h:AllBd ss)(i:Nat):0≤sumB ss i∧sumB ss i≤90000:=by
 have:=Wjy (fun s:Wbs=>s.2.2.2.2.1) 6000 (ss.drop i) fun s hs=>h.back s (List.mem_of_mem_drop hs)
 have h2:((ss.drop i).length:Int)≤15:=by have:=h.len;simp;omega
 unfold sumB;omega
theorem AllBd.far{ss:List Wbs}(h:AllBd ss)(isIn:Bool)(i:Nat):0≤Wet ss isIn i∧Wet ss isIn i≤90000:=by
 unfold Wet
 cases isIn
 ·exact h.a _
 ·exact h.b _
def mkI(n:Nat)(f:Nat→Int):List Int:=(List.range n).map f
theorem Wm6(n:Nat)(f:Nat→Int):(mkI n f).length=n:=by simp[mkI]
theorem Wm7{n:Nat}{f g:Nat→Int}(h:∀ i,i < n→f i=g i):mkI n f=mkI n g:=List.map_congr_left fun i hi=>h i (by simpa using hi)
theorem Wxr(n:Nat)(f:Nat→Int)(i:Nat)(v:Int):List.set (mkI n f) i v=mkI n fun j=>if j=i then v else f j:=by
 refine List.ext_getElem (by simp[mkI]) fun j h1 h2=>?_
 simp only[mkI,List.getElem_set,List.getElem_map,List.getElem_range]
 by_cases h:i=j
 ·rw[if_pos h,if_pos h.symm]
 ·rw[if_neg h,if_neg (Ne.symm h)]
theorem mkI_zero(n:Nat):List.replicate n (0:Int)=mkI n fun _=>0:=by
 refine List.ext_getElem (by simp[mkI]) fun j h1 h2=>?_
 simp[mkI]
theorem mkI_get(n:Nat)(f:Nat→Int)(i:Nat)(h:i < n):(mkI n f).getD i 0=f i:=by
 rw[Wb3 _ _ _ (by rw[Wm6];exact h)];simp[mkI]
theorem far_(ss:List Wbs)(isIn:Bool)(h:AllBd ss):Ev (fun n=>qae n (ss,isIn)) (mkI ss.length (Wet ss isIn)):=by
 have hl:=h.len
 unfold qae
 have hcc:((((ss.length:Nat):Int)==((ss.length:Nat):Int))&&decide (0≤((ss.length:Nat):Int))&&decide (((ss.length:Nat):Int) * 8≤281474976710656))=true:=by simp;omega
 simp only[hcc,cond_true,Int.toNat_natCast,mkI_zero]
 cases isIn with
 | false=>
  simp only[Bool.not_false,cond_true]
  refine Ev.loopB (st:=fun i=>(ss,((ss.length:Nat):Int),(i:Int),sumA ss i,mkI ss.length fun j=>if j < i then Wet ss false j else 0)) ss.length (mkI ss.length (Wet ss false)) (by simp[sumA]) (fun i hi=>?_) ?_ (Ev.ret _)
  ·have hz:ss.getD i (ByteArray.mk #[],ByteArray.mk #[],ByteArray.mk #[],0,0,0)=ss.getD i Wbf:=rfl
   have b1:=h.a i
   have b2:=h.ahead _ (Wau ss i Wbf hi)
   have e:=Wxp ss i hi
   have hw:wrap64 (sumA ss i+(ss.getD i Wbf).2.2.2.1)=sumA ss (i+1):=by rw[Waq (by omega) (by omega),e]
   simp only[Wac hi,cond_true,Wai,hi,decide_true,Waj,hz,hw,Wm6,Int.toNat_natCast,Wxr,Waf (show i < 9223372036854775807 by omega)]
   refine(Ev.ret _).of_eq ?_
   congr 5
   refine Wm7 fun j _=>?_
   by_cases h1:j=i
   ·subst h1;rw[if_pos rfl,if_pos (by omega)];rfl
   ·rw[if_neg h1]
    by_cases h2:j < i
    ·rw[if_pos h2,if_pos (by omega)]
    ·rw[if_neg h2,if_neg (by omega)]
  ·simp only[Wab,cond_false]
   refine(Ev.ret _).of_eq ?_
   congr 1
   exact Wm7 fun j hj=>by rw[if_pos hj]
 | true=>
  simp only[Bool.not_true,cond_false]
  refine Ev.bind (a:=ss) (Ev.const fun n=>rfl) ?_
  refine(Ev.congr · fun n=>Wso Wsr _) ?_
  refine Ev.bind (a:=(sumB ss 0,ss,mkI ss.length (Wet ss true))) ?_ (Ev.ret _)
  unfold qb5
  refine Ev.loopB (st:=fun i=>((ss.length:Int) - 1 - i,sumB ss (ss.length - i),ss,mkI ss.length fun j=>if ss.length - i≤j then Wet ss true j else 0)) ss.length (.inr (sumB ss 0,ss,mkI ss.length (Wet ss true))) ?_ (fun i hi=>?_) ?_ ?_
  ·simp only
   rw[Waq (by omega) (by omega)]
   congr 1
   ·omega
   congr 1
   ·simp[sumB]
   congr 1
   exact Wm7 fun j hj=>by rw[if_neg (by omega)]
  ·have e1:(ss.length:Int) - 1 - i=((ss.length - 1 - i:Nat):Int):=by omega
   have hlt:ss.length - 1 - i < ss.length:=by omega
   have hz:ss.getD (ss.length - 1 - i) (ByteArray.mk #[],ByteArray.mk #[],ByteArray.mk #[],0,0,0)=ss.getD (ss.length - 1 - i) Wbf:=rfl
   have b1:=h.b (ss.length - i)
   have b2:=h.back _ (Wau ss (ss.length - 1 - i) Wbf hlt)
   have e:=Wxq ss (ss.length - 1 - i) hlt
   rw[show ss.length - 1 - i+1=ss.length - i by omega]at e
   have hw:wrap64 (sumB ss (ss.length - i)+(ss.getD (ss.length - 1 - i) Wbf).2.2.2.2.1)=sumB ss (ss.length - 1 - i):=by rw[Waq (by omega) (by omega),e];omega
   have hw2:wrap64 (((ss.length - 1 - i:Nat):Int) - 1)=(ss.length:Int) - 1 - ((i+1:Nat):Int):=by rw[Waq (by omega) (by omega)];omega
   have h0:(0:Int)≤((ss.length - 1 - i:Nat):Int):=by omega
   unfold qaf
   simp only[e1,h0,decide_true,cond_true,Wai,hlt,Waj,hz,Wm6,Int.toNat_natCast,Wxr,Option.bind_some,Bool.not_true,cond_false,hw,hw2]
   refine(Ev.ret _).of_eq ?_
   congr 2
   rw[show ss.length - (i+1)=ss.length - 1 - i by omega]
   congr 2
   refine Wm7 fun j hj=>?_
   by_cases h1:j=ss.length - 1 - i
   ·subst h1
    rw[if_pos rfl,if_pos (by omega)]
    show _=sumB ss (ss.length - 1 - i+1)
    rw[show ss.length - 1 - i+1=ss.length - i by omega]
   ·rw[if_neg h1]
    by_cases h2:ss.length - i≤j
    ·rw[if_pos h2,if_pos (by omega)]
    ·rw[if_neg h2,if_neg (by omega)]
  ·have:¬(0:Int)≤(ss.length:Int) - 1 - ((ss.length:Nat):Int):=by omega
   simp only[this,decide_false,cond_false]
   refine(Ev.ret _).of_eq ?_
   congr 2
   rw[Nat.sub_self]
   congr 2
  ·exact Ev.ret _
end Go.Proofs.YtalbenehgdkalaaGreat.Fn