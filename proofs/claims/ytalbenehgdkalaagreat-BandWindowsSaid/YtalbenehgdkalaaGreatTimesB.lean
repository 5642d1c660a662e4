/- Texts of the proof. -/
import Derived.Test.YtalbenehgdkalaaGreatTimes
namespace Go.Proofs.YtalbenehgdkalaaGreat.Fn
open Go Go.RowKit Go.Den Go.Circ
theorem index_(l:List ByteArray)(k:ByteArray)(hl:l.length < 9223372036854775807):Ev (fun n=>qdq n (l,k)) (idxI (fun x=>Wak k x) l):=by
 unfold qdq
 refine Ev.loopD (st:=fun i=>(l,k,((l.length:Nat):Int),(i:Int))) l.length (fun i=>Wak k (l.getD i (ByteArray.mk #[]))) (fun i=>.inl (i:Int)) (.inr ()) rfl (fun i hi _=>?_) (fun _=>?_) (fun i hi hk hp=>?_) (fun h=>?_)
 ·simp only[Wab hi,cond_true,Waf,hi,decide_true,Wag,Wad (show i < 9223372036854775807 by omega)]
  cases Wak k (l.getD i (ByteArray.mk #[]))<;>exact Ev.ret _
 ·simp only[Waa,cond_false];exact Ev.ret _
 ·rw[We2 _ (ByteArray.mk #[]) l i hi hk hp];exact Ev.ret _
 ·rw[Wep _ (ByteArray.mk #[]) l h];exact Ev.ret _
def inOf(l:List ByteArray)(k:ByteArray):Bool:=l.any fun x=>Wak k x
theorem Xbh(l:List ByteArray)(k:ByteArray)(hl:l.length < 9223372036854775807):Ev (fun n=>qdd n (l,k)) (inOf l k):=by
 unfold qdd
 refine Ev.bind (index_ l k hl) ?_
 rw[Wec];exact Ev.ret _
def Wa9(ph:List Was)(k:ByteArray):Int:=idxI (fun p=>inOf p.2.1 k) ph
theorem home_(a:ByteArray)(b:List Wbv)(c:List PedT)(ph:List Was)(e:List (List RowT))(f:List FoeT)(g:Int)(k:ByteArray)(hl:ph.length < 9223372036854775807)(hp:∀ p∈ph,p.2.1.length < 9223372036854775807) :
 Ev (fun n=>qef n (a,b,c,ph,e,f,g,k)) (Wa9 ph k):=by
 unfold qef
 refine Ev.bind (a:=(Wa9 ph k,k)) ?_ (Ev.ret _)
 unfold qdn
 refine Wcl (ByteArray.mk #[],[],0) (fun n a s=>qeg n (a.1,a.2.1,a.2.2,s)) _ ph k hl fun p hm=>?_
 unfold qeg
 exact Ev.bind (Xbh _ _ (hp p hm)) (Ev.ret _)
def Wa7(peds:List PedT)(k:ByteArray):List ByteArray:=(peds.filter fun p=>Wak p.2.1 k).map (·.1)
theorem equal_(a:List ByteArray)(b:List Wp0)(ha:a.length < 9223372036854775807):Ev (fun n=>qdf n (a,b)) (decide (a=b.map (·.1))):=by
 unfold qdf
 by_cases hlen:a.length=b.length
 ·refine Ev.no (by simp[hlen]) ?_
  have key:a=b.map (·.1)↔∀ k,k < a.length→Wak (a.getD k (ByteArray.mk #[])) (b.getD k (ByteArray.mk #[],0,0)).1=true:=by
   simp only[Wbb]
   constructor
   ·intro h k hk
    rw[Wbp _ _ _ hk,Wbp _ _ _ (by omega:k < b.length)]
    have:a[k]?=(b.map (·.1))[k]?:=by rw[← h]
    rw[List.getElem?_map,List.getElem?_eq_getElem hk,List.getElem?_eq_getElem (by omega:k < b.length)]at this
    simpa using this
   ·intro h
    apply List.ext_getElem (by simpa using hlen)
    intro k h1 h2
    have:=h k h1
    rw[Wbp _ _ _ h1,Wbp _ _ _ (by omega:k < b.length)]at this
    simpa using this
  refine Ev.loopD (st:=fun i=>(b,a,((a.length:Nat):Int),(i:Int))) a.length (fun i=>!(Wak (a.getD i (ByteArray.mk #[])) (b.getD i (ByteArray.mk #[],0,0)).1)) (fun i=>.inl false) (.inr ()) rfl (fun i hi _=>?_) (fun _=>?_) (fun i hi hk hp=>?_) (fun h=>?_)
  ·have hi':i < b.length:=by omega
   simp only[Wab hi,cond_true,Waf,hi,hi',decide_true,Wag,Wad (show i < 9223372036854775807 by omega),qea,Option.bind_some]
   cases Wak (a.getD i (ByteArray.mk #[])) (b.getD i (ByteArray.mk #[],0,0)).1<;>exact Ev.ret _
  ·simp only[Waa,cond_false];exact Ev.ret _
  ·rw[decide_eq_false fun e=>by rw[key.1 e i hi]at hp;cases hp];exact Ev.ret _
  ·rw[decide_eq_true (key.2 fun k hk=>by simpa using h k hk)];exact Ev.ret _
 ·refine Ev.yes (by simp;omega) ?_
  rw[decide_eq_false fun e=>hlen (by rw[e];simp)];exact Ev.ret _
def Wjp(peds:List PedT)(s:Wbn):Bool:=decide (Wa7 peds s.1=s.2.2.2.2.map (·.1))
theorem walks_(a:ByteArray)(b:List Wbv)(peds:List PedT)(ph:List Was)(e:List (List RowT))(f:List FoeT)(g:Int)(s:Wbn)(hl:peds.length≤1000000) :
 Ev (fun n=>qd9 n (a,b,peds,ph,e,f,g,s)) (Wjp peds s):=by
 obtain⟨s1,s2,s3,s4,s5⟩:=s
 unfold qd9
 refine Ev.loopB (st:=fun i=>(peds,((peds.length:Nat):Int),(i:Int),s1,s2,s3,s4,s5,Wa7 (peds.take i) s1)) peds.length (s1,s2,s3,s4,s5,Wa7 peds s1) rfl (fun i hi=>?_) ?_ ?_
 ·have hn:(Wa7 (peds.take i) s1).length≤i:=by
   unfold Wa7
   rw[List.length_map]
   exact Nat.le_trans (List.length_filter_le _ _) (by simp;omega)
  have he:Wa7 (peds.take (i+1)) s1=Wa7 (peds.take i) s1++if Wak (peds.getD i (ByteArray.mk #[],ByteArray.mk #[],0,0,0,0)).2.1 s1 then [(peds.getD i (ByteArray.mk #[],ByteArray.mk #[],0,0,0,0)).1]else []:=by
   rw[Wav peds i (ByteArray.mk #[],ByteArray.mk #[],0,0,0,0) hi]
   generalize peds.getD i (ByteArray.mk #[],ByteArray.mk #[],0,0,0,0)=p
   unfold Wa7
   rw[List.filter_append,List.map_append]
   congr 1
   cases h:Wak p.2.1 s1<;>simp[h]
  simp only[Wab hi,cond_true,Waf,hi,decide_true,Wag,Wad (show i < 9223372036854775807 by omega)]
  rw[he,Wce (by simp only[List.length_cons,List.length_nil];omega)]
  cases Wak (peds.getD i (ByteArray.mk #[],ByteArray.mk #[],0,0,0,0)).2.1 s1 with
  | false=>simp only[cond_false,Bool.false_eq_true,if_false,List.append_nil];exact Ev.ret _
  | true=>simp only[cond_true,if_true];exact Ev.ret _
 ·simp only[Waa,cond_false,List.take_length];exact Ev.ret _
 ·refine Ev.bind (equal_ _ _ ?_) (Ev.ret _)
  unfold Wa7
  rw[List.length_map]
  exact Nat.lt_of_le_of_lt (List.length_filter_le _ _) (by omega)
def Wgf(names:List ByteArray)(l:List Wbn):List ByteArray:=names.filter fun p=>!(l.any fun s=>Wak p s.1)
def Wu4(peds:List PedT)(left:List ByteArray)(s:Wbn):Bool:=(inOf left s.1&&decide (s.2.2.1+s.2.2.2.1 < s.2.1))&&Wjp peds s
def Wbo:Wbn:=(ByteArray.mk #[],0,0,0,[])
def Wj4(peds:List PedT)(names:List ByteArray)(l:List Wbn):Bool:=((List.range l.length).all fun i=>Wu4 peds (Wgf names (l.take i)) (l.getD i Wbo))&&decide (l.length=names.length)
theorem clone1_(l:List ByteArray)(hl:l.length≤1000000):Ev (fun n=>qc7 n l) l:=by
 refine Ev.const fun n=>?_
 unfold qc7
 rw[Wce (by omega)]
 cases l with
 | nil=>simp[both]
 | cons a l=>rfl
theorem Wbk(N:Nat)(q:Nat→Bool):(List.range N).all q=true↔∀ i,i < N→q i=true:=by
 rw[List.all_eq_true];simp[List.mem_range]
theorem Wci{N:Nat}{q:Nat→Bool}{i:Nat}(hi:i < N)(h:q i=false):(List.range N).all q=false:=by
 cases hh:(List.range N).all q with
 | false=>rfl
 | true=>rw[(Wbk N q).1 hh i hi]at h;cases h
theorem ring_(a:ByteArray)(b:List Wbv)(peds:List PedT)(ph:List Was)(e:List (List RowT))(f:List FoeT)(g:Int)(fr:Bool)(names:List ByteArray)(l:List Wbn)(hp:peds.length≤1000000)(hn:names.length≤1000000)(hl:l.length≤1000000)(ht:∀ s∈l,Wbr s=true) :
 Ev (fun n=>qd0 n (a,b,peds,ph,e,f,g,fr,names,l)) (Wj4 peds names l):=by
 unfold qd0
 refine Ev.bind (clone1_ names hn) ?_
 refine Ev.loopD (st:=fun i=>(l,l,((l.length:Nat):Int),(i:Int),a,b,peds,ph,e,f,g,fr,names,Wgf names (l.take i))) l.length (fun i=>!(Wu4 peds (Wgf names (l.take i)) (l.getD i Wbo))) (fun i=>.inl false) (.inr (l,fr,names)) ?_ (fun i hi _=>?_) (fun _=>?_) (fun i hi hk hp=>?_) (fun h=>?_)
 ·have:Wgf names (l.take 0)=names:=by simp[Wgf]
  rw[this];rfl
 ·have hs:=ht _ (Wap l i Wbo hi)
  have hll:(Wgf names (l.take i)).length≤1000000:=Nat.le_trans (List.length_filter_le _ _) hn
  have hnext:Wgf names (l.take (i+1))=(Wgf names (l.take i)).filter fun y=>!(Wak y (l.getD i Wbo).1):=by
   unfold Wgf
   rw[Wav l i Wbo hi,List.filter_filter]
   apply List.filter_congr
   intro p _
   simp[Bool.and_comm]
  rw[hnext]
  generalize Wgf names (l.take i)=left at hll
  have hz:l.getD i (ByteArray.mk #[],0,0,0,[])=l.getD i Wbo:=rfl
  simp only[Wab hi,cond_true,Waf,hi,decide_true,Wag,Wad (show i < 9223372036854775807 by omega),letJ,hz]
  generalize l.getD i Wbo=s at hs
  obtain⟨s1,s2,s3,s4,s5⟩:=s
  obtain⟨_,b3,b4⟩:=Wds hs
  simp only at b3 b4
  refine Ev.bind (index_ left s1 (by omega)) ?_
  rw[Woc]
  unfold Wu4
  simp only
  unfold inOf
  cases hany:left.any (fun x=>Wak s1 x)with
  | false=>exact Ev.ret _
  | true=>
   simp only[Bool.not_true,cond_false,Bool.true_and]
   rw[Wan (by omega) (by omega)]
   by_cases hlt:s3+s4 < s2
   ·rw[decide_eq_true hlt,decide_eq_false (show ¬ s2≤s3+s4 by omega)]
    simp only[cond_false,Bool.true_and]
    refine Ev.bind (walks_ _ _ _ _ _ _ _ _ hp) ?_
    cases Wjp peds (s1,s2,s3,s4,s5)with
    | false=>exact Ev.ret _
    | true=>
     simp only[Bool.not_true,cond_false]
     refine Ev.bind (a:=(s1,s2,s3,s4,s5,left.filter fun y=>!(Wak y s1))) (Ev.const fun n=>?_) (Ev.ret _)
     unfold qde delF
     have:0 < left.length:=by
      cases left with
      | nil=>simp at hany
      | cons _ _=>simp
     rw[if_pos ⟨this,by simp only;omega⟩]
   ·rw[decide_eq_false hlt,decide_eq_true (show s2≤s3+s4 by omega)]
    exact Ev.ret _
 ·simp only[Waa,cond_false];exact Ev.ret _
 ·unfold Wj4
  rw[Wci hi (by simpa using hp)]
  exact Ev.ret _
 ·unfold Wj4
  rw[(Wbk _ _).2 fun i hi=>by simpa using h i hi]
  simp only[Sum.elim_inr,Bool.true_and]
  have e:((((l.length:Nat):Int)==((names.length:Nat):Int)):Bool)=decide (l.length=names.length):=by
   by_cases h:l.length=names.length
   ·simp[h]
   ·rw[decide_eq_false h];simp;omega
  rw[e];exact Ev.ret _
def zRow:RowT:=(false,[])
def Wlq(peds:List PedT)(g:List RowT)(x:Wca):Bool:=decide (x.length=g.length)&&(List.range x.length).all fun k=>Wj4 peds (g.getD k zRow).2 (x.getD k [])
def Wd8(peds:List PedT)(gs:List (List RowT))(spans:List Wca):Bool:=
 (Wc8 spans&&decide (spans.length=gs.length))&&(((List.range spans.length).all fun i=>Wlq peds (gs.getD i []) (spans.getD i []))&&(decide (1≤Waq spans)&&decide (Waq spans≤6000)))
structure NodeBd (x:Wa5):Prop where
 heads:x.2.1.length≤1000000
 peds:x.2.2.1.length≤1000000
 phases:x.2.2.2.1.length≤1000000
 phase:∀ p∈x.2.2.2.1,p.2.1.length≤1000000
 rows:∀ g∈x.2.2.2.2.1,∀ r∈g,r.2.length≤1000000
set_option maxHeartbeats 1000000 in
theorem fits_(x:Wa5)(t:TimT)(hx:NodeBd x)(hb:Bd t.2.2.1):Ev (fun n=>qdt n (x.1,x.2.1,x.2.2.1,x.2.2.2.1,x.2.2.2.2.1,x.2.2.2.2.2.1,x.2.2.2.2.2.2,t)) (Wd8 x.2.2.1 x.2.2.2.2.1 t.2.2.1):=by
 obtain⟨x1,x2,x3,x4,x5,x6,x7⟩:=x
 obtain⟨nm,off,spans,ta,tb⟩:=t
 have hr:=hx.rows
 have hpd:=hx.peds
 simp only at hb hr hpd ⊢
 unfold qdt Wd8
 simp only[letJ]
 refine Ev.bind (sound_ _ hb) ?_
 simp only
 cases hs:Wc8 spans with
 | false=>exact Ev.ret _
 | true=>
  obtain⟨h4,hsp⟩:=Wha hs
  simp only[Bool.not_true,cond_false,Bool.true_and]
  by_cases hlen:spans.length=x5.length
  ·rw[decide_eq_true hlen]
   refine Ev.no (by simp[hlen]) ?_
   simp only[Bool.true_and]
   refine Ev.loopD (st:=fun i=>(spans,((spans.length:Nat):Int),(i:Int),x1,x2,x3,x4,x5,x6,x7,nm,off,spans,ta,tb)) spans.length (fun i=>!(Wlq x3 (x5.getD i []) (spans.getD i []))) (fun i=>.inl false) (.inr (nm,off,spans,ta,tb)) rfl (fun i hi _=>?_) (fun _=>?_) (fun i hi hk hp=>?_) (fun h=>?_)
   ·have hi':i < x5.length:=by omega
    simp only[Wab hi,cond_true,Waf,hi,hi',decide_true,Wag,Wad (show i < 9223372036854775807 by omega)]
    have hm:=hsp _ (Wap spans i [] hi)
    have hmr:=hr _ (Wap x5 i [] hi')
    generalize hgd:x5.getD i []=g at hmr
    generalize spans.getD i []=x at hm
    obtain⟨h2,hln⟩:=Wgp hm
    unfold Wlq
    by_cases hxl:x.length=g.length
    ·rw[decide_eq_true hxl]
     refine Ev.no (by simp[hxl]) ?_
     simp only[Bool.true_and]
     refine Ev.loopD (st:=fun k=>((i:Int),spans,((spans.length:Nat):Int),(i:Int),x,((x.length:Nat):Int),(k:Int),x1,x2,x3,x4,x5,x6,x7,nm,off,spans,ta,tb)) x.length (fun k=>!(Wj4 x3 (g.getD k zRow).2 (x.getD k []))) (fun i=>.inl false) (.inr (spans,((spans.length:Nat):Int),(i:Int),x1,x2,x3,x4,x5,x6,x7,nm,off,spans,ta,tb)) rfl (fun k hk _=>?_) (fun _=>?_) (fun k hk _ hp=>?_) (fun h=>?_)
     ·have hk':k < g.length:=by omega
      have hz:g.getD k (false,[])=g.getD k zRow:=rfl
      simp only[Wab hk,cond_true,Waf,hk,hk',hi',decide_true,Wag,hgd,hz,Wad (show k < 9223372036854775807 by omega)]
      have hml:=hln _ (Wap x k [] hk)
      have hmn:=hmr _ (Wap g k zRow hk')
      generalize g.getD k zRow=r at hmn
      generalize x.getD k []=l at hml
      obtain⟨l4,lt,_⟩:=Wgo hml
      refine Ev.bind (ring_ _ _ _ _ _ _ _ _ _ _ hpd hmn (by omega) lt) ?_
      cases Wj4 x3 r.2 l<;>exact Ev.ret _
     ·simp only[Waa,cond_false];exact Ev.ret _
     ·rw[Wci hk (by simpa using hp)];exact Ev.ret _
     ·rw[(Wbk _ _).2 fun i hi=>by simpa using h i hi]
      simp only[Sum.elim_inr,Wad (show i < 9223372036854775807 by omega)]
      exact Ev.ret _
    ·rw[decide_eq_false hxl]
     refine Ev.yes (by simp;omega) ?_
     exact Ev.ret _
   ·simp only[Waa,cond_false];exact Ev.ret _
   ·rw[Wci hi (by simpa using hp)];exact Ev.ret _
   ·rw[(Wbk _ _).2 fun i hi=>by simpa using h i hi]
    simp only[Sum.elim_inr,Bool.true_and]
    refine Ev.bind (Wsg _ hb) ?_
    simp only
    by_cases h1:1≤Waq spans
    ·rw[decide_eq_true h1];exact Ev.ret _
    ·rw[decide_eq_false h1];exact Ev.ret _
  ·rw[decide_eq_false hlen]
   refine Ev.yes (by simp;omega) ?_
   exact Ev.ret _
theorem Wtj{peds:List PedT}{gs:List (List RowT)}{spans:List Wca}(h:Wd8 peds gs spans=true):Wc8 spans=true∧spans.length=gs.length∧(∀ i,i < spans.length→Wlq peds (gs.getD i []) (spans.getD i [])=true)∧1≤Waq spans∧Waq spans≤6000:=by
 simp only[Wd8,Bool.and_eq_true,decide_eq_true_eq,Wbk]at h
 exact⟨h.1.1,h.1.2,h.2.1,h.2.2.1,h.2.2.2⟩
end Go.Proofs.YtalbenehgdkalaaGreat.Fn