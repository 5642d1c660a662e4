/- Texts of the proof. -/
import Derived.Test.YtalbenehgdkalaaGreatRefH
namespace Go.Proofs.YtalbenehgdkalaaGreat.Fn
open Go Go.RowKit Go.Den Go.Circ
theorem EvO.ofB{F:Nat→Option Bool}{b:Bool}{P:Prop}(h:Ev F b)(hp:b=true→P):EvO F true P false:=by
 cases b with
 | true=>exact .inl ⟨h,hp rfl⟩
 | false=>exact .inr h
structure Small20 (ns:List Wa5) (ss:List Wbq) (ts:List TimT):Prop where
 nets:ns.length≤15
 stops:ss.length≤15
 node:∀ y∈ns,SmallN y
 tims:ts.length≤15
 tim:∀ t∈ts,SmallT t.2.2.1
 cyc:∀ t∈ts,Waq t.2.2.1≤500
theorem few20_(a b c d e:Int)(ns:List Wa5)(ss:List Wbq)(f g:Int)(p:Wh6):EvO (fun n=>qa8 n (a,b,c,d,e,ns,ss,f,g,p)) true (Small20 ns ss p.2.1) false:=by
 obtain⟨cy,ts,p1,p2,p3,p4,p5,p6⟩:=p
 unfold qa8
 simp only[letJ]
 refine EvO.bindO (few06_ (a,b,c,d,e,ns,ss,f,g)) (fun h1=>?_) (.no (Ev.ret _))
 simp only[Bool.not_true,cond_false]
 refine EvO.bindO (few17_ (cy,ts,p1,p2,p3,p4,p5,p6)) (fun h2=>?_) (.no (Ev.ret _))
 simp only[Bool.not_true,cond_false]at h1 h2 ⊢
 refine EvO.ofB (b:=ts.all fun t=>!(decide (500 < Waq t.2.2.1))) ?_ fun hb=>⟨h1.1.1,h1.1.2,h1.2,h2.1,h2.2,fun t ht=>by
  have:=List.all_eq_true.1 hb t ht
  simp at this;omega⟩
 refine Ev.loopD (st:=fun i=>((i:Int),cy,ts,p1,p2,p3,p4,p5,p6)) ts.length (fun i=>!(!(decide (500 < Waq (ts.getD i zTim).2.2.1)))) (fun _=>.inl false) (.inr ()) rfl (fun i hi _=>?_) (fun _=>?_) (fun i hi _ hp=>?_) (fun h=>?_)
 ·have hm:=Wap ts i zTim hi
  have hz:ts.getD i (ByteArray.mk #[],0,[],0,0)=ts.getD i zTim:=rfl
  simp only[Wab hi,cond_true,Waf,hi,decide_true,Wag,hz,Wad (show i < 9223372036854775807 by omega)]
  generalize ts.getD i zTim=t at hm
  refine Ev.bind (Wkj t (h2.2 t hm)) ?_
  cases decide (500 < Waq t.2.2.1)<;>exact Ev.ret _
 ·simp only[Waa,cond_false];exact Ev.ret _
 ·rw[Wdc (q:=fun t:TimT=>!(decide (500 < Waq t.2.2.1))) hi hp];exact Ev.ret _
 ·rw[Wcm (q:=fun t:TimT=>!(decide (500 < Waq t.2.2.1))) h];exact Ev.ret _
theorem Small20.sh{ns:List Wa5}{ss:List Wbq}{ts:List TimT}(h:Small20 ns ss ts)(a b c d e f g:Int):NetSh (a,b,c,d,e,ns,ss,f,g):=
 ⟨fun y hy=>by have:=(h.node y hy).heads;unfold Sh;omega,fun y hy p hp=>by have:=(h.node y hy).phase p hp;unfold Sh;omega⟩
def pairOk(x:Wa5)(t:TimT):Bool:=Wak x.1 t.1&&Wd8 x.2.2.1 x.2.2.2.2.1 t.2.2.1
def Wl6(ns:List Wa5)(ts:List TimT):Bool:=decide (ns.length=ts.length)&&(List.range ns.length).all fun i=>pairOk (ns.getD i Wbi) (ts.getD i zTim)
def Wfc(x:NetT)(ts:List TimT):Bool:=decide ((netE x).1=0)&&Wl6 x.2.2.2.2.2.1 ts
theorem serve1_(x:Wa5)(t:TimT)(hx:NodeBd x)(hb:Bd t.2.2.1):Ev (fun n=>qew n (x.1,x.2.1,x.2.2.1,x.2.2.2.1,x.2.2.2.2.1,x.2.2.2.2.2.1,x.2.2.2.2.2.2,t)) (pairOk x t):=by
 unfold qew pairOk
 refine Ev.ite (fun h=>?_) (fun h=>?_)
 ·simp only at h
  rw[h,Bool.true_and];exact Ev.bind (fits_ x t hx hb) (Ev.ret _)
 ·simp only at h
  rw[h,Bool.false_and];exact Ev.ret _
theorem serveL_{ns:List Wa5}{ss:List Wbq}{ts:List TimT}(h:Small20 ns ss ts):Ev (fun n=>qdg n (ns,ts)) (Wl6 ns ts):=by
 have hn:=h.nets
 unfold qdg Wl6
 by_cases hlen:ns.length=ts.length
 case neg=>
  rw[decide_eq_false hlen]
  exact Ev.yes (by simp;omega) (Ev.ret _)
 rw[decide_eq_true hlen,Bool.true_and]
 refine Ev.no (by simp[hlen]) ?_
 refine Ev.loopD (st:=fun i=>(ts,ns,((ns.length:Nat):Int),(i:Int))) ns.length (fun i=>!(pairOk (ns.getD i Wbi) (ts.getD i zTim))) (fun _=>.inl false) (.inr ()) rfl (fun i hi _=>?_) (fun _=>?_) (fun i hi _ hp=>?_) (fun h=>?_)
 ·have hi':i < ts.length:=by omega
  have hm:=Wap ns i Wbi hi
  have hm':=Wap ts i zTim hi'
  have hz:ns.getD i (ByteArray.mk #[],[],[],[],[],[],0)=ns.getD i Wbi:=rfl
  have hz':ts.getD i (ByteArray.mk #[],0,[],0,0)=ts.getD i zTim:=rfl
  simp only[Wab hi,cond_true,Waf,hi,hi',decide_true,Wag,hz,hz',Wad (show i < 9223372036854775807 by omega)]
  generalize ns.getD i Wbi=x at hm
  generalize ts.getD i zTim=t at hm'
  refine Ev.bind (serve1_ x t (h.node x hm).bd (h.tim t hm').bd) ?_
  cases pairOk x t<;>exact Ev.ret _
 ·simp only[Waa,cond_false];exact Ev.ret _
 ·rw[Wci hi (by simpa only[Bool.not_eq_true']using hp)];exact Ev.ret _
 ·rw[(Wbk _ _).2 fun i hi=>by simpa only[Bool.not_eq_false']using h i hi];exact Ev.ret _
theorem serves_(a b c d e:Int)(ns:List Wa5)(ss:List Wbq)(f g:Int)(p:Wh6)(h:Small20 ns ss p.2.1):Ev (fun n=>qev n (a,b,c,d,e,ns,ss,f,g,p)) (Wfc (a,b,c,d,e,ns,ss,f,g) p.2.1):=by
 obtain⟨cy,ts,p1,p2,p3,p4,p5,p6⟩:=p
 unfold qev Wfc
 refine Ev.bind (Xb8 (a,b,c,d,e,ns,ss,f,g) (h.sh a b c d e f g)) ?_
 by_cases h0:(netE (a,b,c,d,e,ns,ss,f,g)).1=0
 ·rw[decide_eq_true h0,Bool.true_and]
  refine Ev.no (by simp[h0]) ?_
  exact Ev.bind (serveL_ h) (Ev.ret _)
 ·rw[decide_eq_false h0,Bool.false_and]
  exact Ev.yes (by simp[h0]) (Ev.ret _)
theorem rserves_(a b c d e:Int)(ns:List Wa5)(ss:List Wbq)(f g:Int)(p:Wh6)(h:Small20 ns ss p.2.1):Ev (fun n=>qcx n (a,b,c,d,e,ns,ss,f,g,p)) (Wfc (a,b,c,d,e,ns,ss,f,g) p.2.1):=by
 obtain⟨cy,ts,p1,p2,p3,p4,p5,p6⟩:=p
 have hn:=h.nets
 unfold qcx Wfc
 simp only[letJ]
 refine Ev.bind (net07_ (a,b,c,d,e,ns,ss,f,g) (h.sh a b c d e f g)) ?_
 by_cases h0:(netE (a,b,c,d,e,ns,ss,f,g)).1=0
 case neg=>
  rw[decide_eq_false h0,Bool.false_and]
  refine Ev.yes (by simp[h0]) ?_
  exact Ev.ret _
 rw[decide_eq_true h0,Bool.true_and]
 refine Ev.no (by simp[h0]) ?_
 unfold Wl6
 simp only at h ⊢
 by_cases hlen:ns.length=ts.length
 case neg=>
  rw[decide_eq_false hlen]
  exact Ev.yes (by simp;omega) (Ev.ret _)
 rw[decide_eq_true hlen,Bool.true_and]
 refine Ev.no (by simp[hlen]) ?_
 refine Ev.loopD (st:=fun i=>((i:Int),a,b,c,d,e,ns,ss,f,g,cy,ts,p1,p2,p3,p4,p5,p6)) ns.length (fun i=>!(pairOk (ns.getD i Wbi) (ts.getD i zTim))) (fun _=>.inl false) (.inr ()) rfl (fun i hi _=>?_) (fun _=>?_) (fun i hi _ hp=>?_) (fun h=>?_)
 ·have hi':i < ts.length:=by omega
  have hm:=Wap ns i Wbi hi
  have hm':=Wap ts i zTim hi'
  have hz:ns.getD i (ByteArray.mk #[],[],[],[],[],[],0)=ns.getD i Wbi:=rfl
  have hz':ts.getD i (ByteArray.mk #[],0,[],0,0)=ts.getD i zTim:=rfl
  simp only[Wab hi,cond_true,Waf,hi,hi',decide_true,Wag,hz,hz',Wad (show i < 9223372036854775807 by omega)]
  generalize ns.getD i Wbi=x at hm
  generalize ts.getD i zTim=t at hm'
  unfold pairOk
  rw[Whc x.1 t.1]
  cases Wak t.1 x.1 with
  | false=>exact Ev.ret _
  | true=>
   simp only[Bool.not_true,cond_false,Bool.true_and]
   refine Ev.bind (rfits_ x t (h.node x hm).bd (h.tim t hm')) ?_
   cases Wd8 x.2.2.1 x.2.2.2.2.1 t.2.2.1<;>exact Ev.ret _
 ·simp only[Waa,cond_false];exact Ev.ret _
 ·rw[Wci hi (by simpa only[Bool.not_eq_true']using hp)];exact Ev.ret _
 ·rw[(Wbk _ _).2 fun i hi=>by simpa only[Bool.not_eq_false']using h i hi];exact Ev.ret _
def Wi8(x:NetT)(cy:Int)(ts:List TimT):Bool:=Wfc x ts&&ts.all fun t=>Waq t.2.2.1==cy
theorem step_(a b c d e:Int)(ns:List Wa5)(ss:List Wbq)(f g:Int)(p:Wh6)(h:Small20 ns ss p.2.1):Ev (fun n=>qai n (a,b,c,d,e,ns,ss,f,g,p)) (Wi8 (a,b,c,d,e,ns,ss,f,g) p.1 p.2.1):=by
 have hsv:=serves_ a b c d e ns ss f g p h
 obtain⟨cy,ts,p1,p2,p3,p4,p5,p6⟩:=p
 have hl:=h.tims
 unfold qai Wi8
 refine Ev.bind hsv ?_
 simp only at hl ⊢
 cases Wfc (a,b,c,d,e,ns,ss,f,g) ts with
 | false=>exact Ev.ret _
 | true=>
  simp only[cond_true,Bool.true_and]
  refine Ev.bind (stepIn_ cy ts (p1,p2,p3,p4,p5,p6) (by omega) fun t ht=>(h.tim t ht).bd) ?_
  refine(Ev.ret _).of_eq ?_
  simp only[List.not_any_eq_all_not,Bool.not_not]
theorem rstep_(a b c d e:Int)(ns:List Wa5)(ss:List Wbq)(f g:Int)(p:Wh6)(h:Small20 ns ss p.2.1):Ev (fun n=>qcz n (a,b,c,d,e,ns,ss,f,g,p)) (Wi8 (a,b,c,d,e,ns,ss,f,g) p.1 p.2.1):=by
 have hsv:=rserves_ a b c d e ns ss f g p h
 obtain⟨cy,ts,p1,p2,p3,p4,p5,p6⟩:=p
 have hl:=h.tims
 unfold qcz Wi8
 refine Ev.bind hsv ?_
 simp only at hl ⊢
 cases Wfc (a,b,c,d,e,ns,ss,f,g) ts with
 | false=>exact Ev.ret _
 | true=>
  simp only[Bool.not_true,cond_false,Bool.true_and]
  refine Ev.loopD (st:=fun i=>((i:Int),cy,ts,p1,p2,p3,p4,p5,p6)) ts.length (fun i=>!(Waq (ts.getD i zTim).2.2.1==cy)) (fun _=>.inl false) (.inr ()) rfl (fun i hi _=>?_) (fun _=>?_) (fun i hi _ hp=>?_) (fun h=>?_)
  ·have hm:=Wap ts i zTim hi
   have hz:ts.getD i (ByteArray.mk #[],0,[],0,0)=ts.getD i zTim:=rfl
   simp only[Wab hi,cond_true,Waf,hi,decide_true,Wag,hz,Wad (show i < 9223372036854775807 by omega)]
   generalize ts.getD i zTim=t at hm
   refine Ev.bind (Wkj t (h.tim t hm)) ?_
   cases Waq t.2.2.1==cy<;>exact Ev.ret _
  ·simp only[Waa,cond_false];exact Ev.ret _
  ·rw[Wdc (q:=fun t:TimT=>Waq t.2.2.1==cy) hi hp];exact Ev.ret _
  ·rw[Wcm (q:=fun t:TimT=>Waq t.2.2.1==cy) h];exact Ev.ret _
end Go.Proofs.YtalbenehgdkalaaGreat.Fn