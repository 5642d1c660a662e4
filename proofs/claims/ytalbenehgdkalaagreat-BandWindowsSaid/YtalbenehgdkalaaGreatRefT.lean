/- Texts of the proof. -/
import Derived.Test.YtalbenehgdkalaaGreatWideLaw
namespace Go.Proofs.YtalbenehgdkalaaGreat.Fn
open Go Go.RowKit Go.Den Go.Circ
theorem Wgm(peds:List PedT)(ph:ByteArray)(i:Nat)(h:i < peds.length):Wa7 (peds.take (i+1)) ph=Wa7 (peds.take i) ph++(if Wak (peds.getD i zPed).2.1 ph=true then [(peds.getD i zPed).1]else []):=by
 rw[Wav peds i zPed h]
 unfold Wa7
 rw[List.filter_append,List.map_append]
 congr 1
 generalize peds.getD i zPed=p
 cases hc:Wak p.2.1 ph<;>simp[List.filter_cons,hc]
theorem Wsd(peds:List PedT)(ph:ByteArray)(i:Nat):(Wa7 (peds.take i) ph).length≤i:=by
 unfold Wa7
 rw[List.length_map]
 exact Nat.le_trans (List.length_filter_le _ _) (by simp;omega)
def Wje(peds:List PedT)(ws:List Wp0)(ph:ByteArray)(i:Nat):Bool:=
 Wak (peds.getD i zPed).2.1 ph&&(decide (ws.length≤(Wa7 (peds.take i) ph).length) || !(Wak (ws.getD (Wa7 (peds.take i) ph).length (ByteArray.mk #[],0,0)).1 (peds.getD i zPed).1))
theorem walk_pre(peds:List PedT)(ws:List Wp0)(ph:ByteArray):∀ i,i≤peds.length→(∀ k,k < i→Wje peds ws ph k=false)→
 Wa7 (peds.take i) ph=(ws.map (·.1)).take (Wa7 (peds.take i) ph).length∧(Wa7 (peds.take i) ph).length≤ws.length:=by
 intro i
 induction i with
 | zero=>intro _ _;simp[Wa7]
 | succ i ih=>
  intro hi hk
  obtain⟨e,hl⟩:=ih (by omega) fun k h=>hk k (by omega)
  have hh:=hk i (by omega)
  rw[Wgm peds ph i (by omega)]
  unfold Wje at hh
  cases hm:Wak (peds.getD i zPed).2.1 ph with
  | false=>simp only[Bool.false_eq_true,if_false,List.append_nil];exact⟨e,hl⟩
  | true=>
   rw[hm]at hh
   simp only[Bool.true_and,Bool.or_eq_false_iff,decide_eq_false_iff_not,Bool.not_eq_false']at hh
   obtain⟨h1,h2⟩:=hh
   rw[Wbb]at h2
   simp only[if_true,List.length_append,List.length_singleton]
   generalize Wa7 (peds.take i) ph=N at *
   refine⟨?_,by omega⟩
   rw[Wav _ _ (ByteArray.mk #[]) (by simp;omega),← e]
   congr 2
   rw[← h2]
   simp[List.getD_eq_getElem?_getD,List.getElem?_map]
   rw[List.getElem?_eq_getElem (by omega)];rfl
theorem walk_hit{peds:List PedT}{ws:List Wp0}{ph:ByteArray}{i:Nat}(hi:i < peds.length)(h:Wje peds ws ph i=true):Wa7 peds ph≠ws.map (·.1):=by
 intro e
 unfold Wje at h
 simp only[Bool.and_eq_true,Bool.or_eq_true,decide_eq_true_eq,Bool.not_eq_true']at h
 obtain⟨hm,h⟩:=h
 have e1:Wa7 peds ph=Wa7 (peds.take (i+1)) ph++Wa7 (peds.drop (i+1)) ph:=by
  unfold Wa7;rw[← List.map_append,← List.filter_append,List.take_append_drop]
 rw[Wgm peds ph i hi,hm]at e1
 simp only[if_true,List.append_assoc,List.singleton_append]at e1
 rw[e]at e1
 have e2:(ws.map (·.1))[(Wa7 (peds.take i) ph).length]?=some (peds.getD i zPed).1:=by rw[e1];simp
 rw[List.getElem?_map,Option.map_eq_some_iff]at e2
 obtain⟨w,hw,e3⟩:=e2
 have hlt:=(List.getElem?_eq_some_iff.1 hw).1
 rcases h with h | h
 ·omega
 ·rw[List.getD_eq_getElem?_getD,hw]at h
  simp only[Option.getD_some]at h
  rw[e3,(Wbb _ _).2 rfl]at h
  cases h
def Wpp(peds:List PedT)(s:Wbn):Bool:=Wjp peds s&&s.2.2.2.2.all Whw
set_option maxHeartbeats 1000000 in
theorem rwalks_(a:ByteArray)(b:List Wbv)(peds:List PedT)(ph:List Was)(e:List (List RowT))(f:List FoeT)(g:Int)(s:Wbn)(hl:peds.length≤1000000)(hw:s.2.2.2.2.length≤1000000) :
 Ev (fun n=>qcv n (a,b,peds,ph,e,f,g,s)) (Wpp peds s):=by
 obtain⟨s1,s2,s3,s4,ws⟩:=s
 simp only at hw
 unfold qcv Wpp
 refine Ev.loopD (st:=fun i=>(((Wa7 (peds.take i) s1).length:Int),(i:Int),a,b,peds,ph,e,f,g,s1,s2,s3,s4,ws)) peds.length (Wje peds ws s1) (fun _=>.inl false) (.inr (((Wa7 peds s1).length:Int),s1,s2,s3,s4,ws)) (by simp[Wa7]) (fun i hi _=>?_) (fun _=>?_) (fun i hi _ hp=>?_) (fun h=>?_)
 ·have hk:=Wsd peds s1 i
  have hz:peds.getD i (ByteArray.mk #[],ByteArray.mk #[],0,0,0,0)=peds.getD i zPed:=rfl
  simp only[Wab hi,cond_true,Waf,hi,decide_true,Wag,hz,letJ,Wad (show i < 9223372036854775807 by omega)]
  rw[Wgm peds s1 i hi]
  unfold Wje
  generalize peds.getD i zPed=p
  generalize Wa7 (peds.take i) s1=N at hk
  cases hm:Wak p.2.1 s1 with
  | false=>simp only[Bool.not_false,cond_true,Bool.false_and,cond_false,Bool.false_eq_true,if_false,List.append_nil];exact Ev.ret _
  | true=>
   simp only[Bool.not_true,cond_false,Bool.true_and,if_true,List.length_append,List.length_singleton]
   by_cases hle:ws.length≤N.length
   ·have:((ws.length:Int)≤(N.length:Int)):=by omega
    simp only[this,hle,decide_true,cond_true,Bool.true_or]
    exact Ev.ret _
   ·have h1:¬((ws.length:Int)≤(N.length:Int)):=by omega
    have h2:N.length < ws.length:=by omega
    simp only[h1,hle,h2,decide_false,decide_true,cond_true,cond_false,Bool.false_or]
    rw[Wad (show N.length < 9223372036854775807 by omega)]
    cases Wak (ws.getD N.length (ByteArray.mk #[],0,0)).1 p.1<;>exact Ev.ret _
 ·simp only[Waa,cond_false,List.take_length];exact Ev.ret _
 ·have hne:=walk_hit hi hp
  have:Wjp peds (s1,s2,s3,s4,ws)=false:=decide_eq_false hne
  rw[this];exact Ev.ret _
 ·have hpre:=walk_pre peds ws s1 peds.length (Nat.le_refl _) h
  rw[List.take_length]at hpre
  simp only[Sum.elim_inr]
  refine Ev.loopD (st:=fun q=>(((Wa7 peds s1).length:Int),(q:Int),s1,s2,s3,s4,ws)) ws.length (fun q=>!(Whw (ws.getD q (ByteArray.mk #[],0,0)))) (fun i=>.inl false) (.inr (((Wa7 peds s1).length:Int),s1,s2,s3,s4,ws)) rfl (fun q hq _=>?_) (fun _=>?_) (fun q hq _ hp=>?_) (fun h=>?_)
  ·simp only[Wab hq,cond_true,Waf,hq,decide_true,Wag,Option.bind_some,letJ,Wyp,Wad (show q < 9223372036854775807 by omega)]
   generalize ws.getD q (ByteArray.mk #[],0,0)=w
   unfold Whw
   cases Wbl w.2.1 with
   | false=>exact Ev.ret _
   | true=>cases Wbl w.2.2<;>exact Ev.ret _
  ·simp only[Waa,cond_false];exact Ev.ret _
  ·rw[Wdc hq hp,Bool.and_false];exact Ev.ret _
  ·rw[Wcm h,Bool.and_true]
   refine(Ev.ret _).of_eq ?_
   unfold Wjp
   simp only
   by_cases hN:(Wa7 peds s1).length=ws.length
   ·rw[decide_eq_true]
    ·simp[hN]
    ·have:=hpre.1
     rw[hN,List.take_of_length_le (by simp)]at this
     exact this
   ·rw[decide_eq_false]
    ·simp;omega
    ·intro e
     apply hN
     rw[e];simp
def slotR(peds:List PedT)(names seen:List ByteArray)(s:Wbn):Bool:=
 inOf names s.1&&(!(inOf seen s.1)&&(Wbl s.2.1&&(Wbl s.2.2.1&&(Wbl s.2.2.2.1&&(decide (s.2.2.1+s.2.2.2.1 < s.2.1)&&Wpp peds s)))))
def Wpq(peds:List PedT)(names:List ByteArray)(l:List Wbn):Bool:=
 decide (names.length=l.length)&&(List.range l.length).all fun i=>slotR peds names ((l.take i).map (·.1)) (l.getD i Wbo)
set_option maxHeartbeats 1000000 in
theorem rring_(a:ByteArray)(b:List Wbv)(peds:List PedT)(ph:List Was)(e:List (List RowT))(f:List FoeT)(g:Int)(names:List ByteArray)(l:List Wbn)(hp:peds.length≤1000000)(hn:names.length≤1000000)(hl:l.length≤1000000)(hw:∀ s∈l,s.2.2.2.2.length≤1000000) :
 Ev (fun n=>qct n (a,b,peds,ph,e,f,g,names,l)) (Wpq peds names l):=by
 unfold qct Wpq
 by_cases hlen:names.length=l.length
 case neg=>
  rw[decide_eq_false hlen]
  refine Ev.yes (by simp;omega) (Ev.ret _)
 rw[decide_eq_true hlen,Bool.true_and]
 refine Ev.no (by simp[hlen]) ?_
 refine Ev.loopD (st:=fun i=>(names,l,(i:Int),a,b,peds,ph,e,f,g,(l.take i).map (·.1))) l.length (fun i=>!(slotR peds names ((l.take i).map (·.1)) (l.getD i Wbo))) (fun i=>.inl false) (.inr ()) rfl (fun i hi _=>?_) (fun _=>?_) (fun i hi _ hq=>?_) (fun h=>?_)
 ·have hz:l.getD i (ByteArray.mk #[],0,0,0,[])=l.getD i Wbo:=rfl
  have hws:=hw _ (Wap l i Wbo hi)
  have hsl:((l.take i).map (·.1)).length≤1000000:=by simp;omega
  simp only[Wab hi,cond_true,Waf,hi,decide_true,Wag,hz,letJ,Wad (show i < 9223372036854775807 by omega)]
  rw[Wav l i Wbo hi,List.map_append]
  generalize (l.take i).map (·.1)=seen at hsl
  generalize l.getD i Wbo=s at hws
  obtain⟨s1,s2,s3,s4,s5⟩:=s
  unfold slotR
  simp only at hws ⊢
  refine Ev.bind (Wmu names s1 (by unfold Sh;omega)) ?_
  cases inOf names s1 with
  | false=>exact Ev.ret _
  | true=>
   refine Ev.no rfl ?_
   refine Ev.bind (Wmu seen s1 (by unfold Sh;omega)) ?_
   cases inOf seen s1 with
   | true=>exact Ev.ret _
   | false=>
    refine Ev.no rfl ?_
    simp only[Wyp,Option.bind_some]
    cases h2:Wbl s2 with
    | false=>exact Ev.ret _
    | true=>
     cases h3:Wbl s3 with
     | false=>exact Ev.ret _
     | true=>
      cases h4:Wbl s4 with
      | false=>exact Ev.ret _
      | true=>
       rw[Wmv]at h2 h3 h4
       rw[Wan (by omega) (by omega)]
       by_cases h5:s3+s4 < s2
       ·have h6:¬(s2≤s3+s4):=by omega
        simp only[h5,h6,decide_true,decide_false,Bool.not_true,cond_false,Bool.true_and,Bool.not_false]
        refine Ev.bind (rwalks_ a b peds ph e f g (s1,s2,s3,s4,s5) hp hws) ?_
        cases Wpp peds (s1,s2,s3,s4,s5)with
        | false=>exact Ev.ret _
        | true=>
         simp only[Bool.not_true,cond_false]
         exact Ev.yes (Wce (by simp only[List.length_cons,List.length_nil];omega)) (Ev.ret _)
       ·have h6:s2≤s3+s4:=by omega
        simp only[h5,h6,decide_true,decide_false,Bool.not_true,cond_false,cond_true,Bool.true_and,Bool.not_false,Bool.false_and]
        exact Ev.ret _
 ·simp only[Waa,cond_false];exact Ev.ret _
 ·rw[Wci hi (by simpa using hq)];exact Ev.ret _
 ·rw[(Wbk _ _).2 fun i hi=>by simpa using h i hi]
  exact Ev.ret _
theorem Wya(names:List ByteArray)(l:List Wbn)(k:ByteArray):inOf (Wgf names l) k=(inOf names k&&!(inOf (l.map (·.1)) k)):=by
 unfold inOf Wgf
 rw[Bool.eq_iff_iff]
 simp only[List.any_eq_true,List.mem_filter,Bool.and_eq_true,Bool.not_eq_true',List.any_eq_false,List.mem_map,Wbb]
 constructor
 ·rintro⟨x,⟨hx,hn⟩,rfl⟩
  refine⟨⟨k,hx,rfl⟩,?_⟩
  rintro y ⟨s,hs,rfl⟩ e
  exact hn s hs e
 ·rintro⟨⟨x,hx,rfl⟩,hn⟩
  exact⟨k,⟨hx,fun s hs e=>hn s.1 ⟨s,hs,rfl⟩ e⟩,rfl⟩
theorem ringR_eq(peds:List PedT)(names:List ByteArray)(l:List Wbn)(ht:∀ s∈l,Wbr s=true):Wpq peds names l=Wj4 peds names l:=by
 unfold Wpq Wj4
 rw[Bool.and_comm]
 have e:decide (names.length=l.length)=decide (l.length=names.length):=by
  by_cases h:names.length=l.length
  ·rw[decide_eq_true h,decide_eq_true h.symm]
  ·rw[decide_eq_false h,decide_eq_false (Ne.symm h)]
 rw[e]
 congr 1
 rw[Bool.eq_iff_iff,Wbk,Wbk]
 refine forall_congr' fun i=>forall_congr' fun hi=>?_
 have h1:=ht _ (Wap l i Wbo hi)
 unfold slotR Wu4 Wpp
 rw[Wya]
 unfold Wbr at h1
 simp only[Bool.and_eq_true]at h1 ⊢
 obtain⟨⟨h2,h3,h4⟩,h5⟩:=h1
 simp only[h2,h3,h4,h5,true_and,and_true,and_assoc]
def fitsR(peds:List PedT)(gs:List (List RowT))(spans:List Wca):Bool:=
 decide (spans.length=gs.length)&&(((List.range spans.length).all fun i=>decide ((spans.getD i []).length=(gs.getD i []).length)&&(List.range (spans.getD i []).length).all fun k=>Wpq peds ((gs.getD i []).getD k zRow).2 ((spans.getD i []).getD k []))&&(decide (1≤Waq spans)&&decide (Waq spans≤6000)))
theorem fitsR_eq(peds:List PedT)(gs:List (List RowT))(spans:List Wca):fitsR peds gs spans=Wd8 peds gs spans:=by
 unfold fitsR Wd8
 cases hs:Wc8 spans with
 | false=>
  have:Waq spans=0:=by unfold Waq;rw[hs];rfl
  rw[this];simp
 | true=>
  rw[Bool.true_and]
  congr 2
  rw[Bool.eq_iff_iff,Wbk,Wbk]
  refine forall_congr' fun i=>forall_congr' fun hi=>?_
  have hx:=(Wha hs).2 _ (Wap spans i [] hi)
  unfold Wlq
  simp only[Bool.and_eq_true,Wbk]
  refine and_congr_right fun _=>forall_congr' fun k=>forall_congr' fun hk=>?_
  have hl:=(Wgp hx).2 _ (Wap _ k [] hk)
  rw[ringR_eq _ _ _ (Wgo hl).2.1]
set_option maxHeartbeats 1000000 in
theorem rfits_(x:Wa5)(t:TimT)(hx:NodeBd x)(hb:SmallT t.2.2.1):Ev (fun n=>qcm n (x.1,x.2.1,x.2.2.1,x.2.2.2.1,x.2.2.2.2.1,x.2.2.2.2.2.1,x.2.2.2.2.2.2,t)) (Wd8 x.2.2.1 x.2.2.2.2.1 t.2.2.1):=by
 rw[← fitsR_eq]
 have hlen:=Wkj t hb
 obtain⟨x1,x2,x3,x4,x5,x6,x7⟩:=x
 obtain⟨nm,off,spans,ta,tb⟩:=t
 have hr:=hx.rows
 have hpd:=hx.peds
 have b1:=hb.spans
 have b2:=hb.rings
 have b3:=hb.rows
 have b4:=hb.walks
 simp only at b1 b2 b3 b4 hr hpd hlen ⊢
 unfold qcm fitsR
 by_cases hlen0:spans.length=x5.length
 case neg=>
  rw[decide_eq_false hlen0]
  exact Ev.yes (by simp;omega) (Ev.ret _)
 rw[decide_eq_true hlen0,Bool.true_and]
 refine Ev.no (by simp[hlen0]) ?_
 refine Ev.loopD (st:=fun i=>((i:Int),x1,x2,x3,x4,x5,x6,x7,nm,off,spans,ta,tb)) spans.length (fun i=>!(decide ((spans.getD i []).length=(x5.getD i []).length)&&(List.range (spans.getD i []).length).all fun k=>Wpq x3 ((x5.getD i []).getD k zRow).2 ((spans.getD i []).getD k []))) (fun i=>.inl false) (.inr (nm,off,spans,ta,tb)) rfl (fun i hi _=>?_) (fun _=>?_) (fun i hi hk hp=>?_) (fun h=>?_)
 ·have hi':i < x5.length:=by omega
  have hm:spans.getD i []∈spans:=Wap spans i [] hi
  have hmr:=hr _ (Wap x5 i [] hi')
  simp only[Wab hi,cond_true,Waf,hi,hi',decide_true,Wag,Wad (show i < 9223372036854775807 by omega)]
  generalize hgx:x5.getD i []=g at hmr
  generalize hgs:spans.getD i []=x at hm
  have b2x:=b2 x hm
  by_cases hxl:x.length=g.length
  ·rw[decide_eq_true hxl]
   refine Ev.no (by simp[hxl]) ?_
   simp only[Bool.true_and]
   refine Ev.loopD (st:=fun k=>((i:Int),(k:Int),x1,x2,x3,x4,x5,x6,x7,nm,off,spans,ta,tb)) x.length (fun k=>!(Wpq x3 (g.getD k zRow).2 (x.getD k []))) (fun i=>.inl false) (.inr ((i:Int),x1,x2,x3,x4,x5,x6,x7,nm,off,spans,ta,tb)) rfl (fun k hk _=>?_) (fun _=>?_) (fun k hk _ hp=>?_) (fun h=>?_)
   ·have hk':k < g.length:=by omega
    have hz:g.getD k (false,[])=g.getD k zRow:=rfl
    simp only[Waf,hi,hi',decide_true,cond_true,Wag,hgs,hgx,Wab hk,hk,hk',hz,Wad (show k < 9223372036854775807 by omega)]
    have hml:=Wap x k [] hk
    have hmn:=hmr _ (Wap g k zRow hk')
    generalize g.getD k zRow=r at hmn
    generalize x.getD k []=l at hml
    refine Ev.bind (rring_ _ _ _ _ _ _ _ _ _ hpd hmn (by have:=b3 x hm l hml;omega) fun s hs=>by have:=b4 x hm l hml s hs;omega) ?_
    cases Wpq x3 r.2 l<;>exact Ev.ret _
   ·simp only[Waf,hi,decide_true,cond_true,Wag,hgs,Waa,cond_false];exact Ev.ret _
   ·rw[Wci hk (by simpa using hp)];exact Ev.ret _
   ·rw[(Wbk _ _).2 fun i hi=>by simpa using h i hi]
    simp only[Sum.elim_inr,Wad (show i < 9223372036854775807 by omega)]
    exact Ev.ret _
  ·rw[decide_eq_false hxl]
   exact Ev.yes (by simp;omega) (Ev.ret _)
 ·simp only[Waa,cond_false];exact Ev.ret _
 ·rw[Wci hi (by simpa only[Bool.not_eq_true']using hp)];exact Ev.ret _
 ·rw[(Wbk _ _).2 fun i hi=>by simpa only[Bool.not_eq_false']using h i hi,Bool.true_and]
  simp only[Sum.elim_inr]
  refine Ev.bind hlen ?_
  by_cases h1:1≤Waq spans
  ·rw[decide_eq_true h1];exact Ev.ret _
  ·rw[decide_eq_false h1];exact Ev.ret _
end Go.Proofs.YtalbenehgdkalaaGreat.Fn