/- Texts of the proof. -/
import Derived.Test.YtalbenehgdkalaaGreatRefT
import Derived.Test.YtalbenehgdkalaaGreatTimesC
import Derived.Test.YtalbenehgdkalaaGreatChecksG
namespace Go.Proofs.YtalbenehgdkalaaGreat.Fn
open Go Go.RowKit Go.Den Go.Circ
def fq(ph:ByteArray)(p:Wbn×Int):Bool:=Wak p.1.1 ph
def fx(o:Option (Wbn×Int)):Int×Bool×Wbn:=((o.getD (Wbo,0)).2,true,(o.getD (Wbo,0)).1)
theorem Xc2(b:Int)(l:List Wbn):(Wda b l).map (·.1)=l:=by
 induction l generalizing b with
 | nil=>rfl
 | cons a l ih=>simp only[Wda,List.map_cons,ih]
theorem Wsb{b:Int}{l:List Wbn}{ph:ByteArray}(h:∀ j,j < l.length→Wak (l.getD j Wbo).1 ph=false):(Wda b l).find? (fq ph)=none:=by
 rw[List.find?_eq_none]
 intro p hp
 have hm:p.1∈l:=by rw[← Xc2 b l];exact List.mem_map_of_mem hp
 obtain⟨j,hj,e⟩:=List.getElem_of_mem hm
 have:=h j hj
 rw[Wbp _ _ _ hj,e]at this
 unfold fq;rw[this];simp
theorem line_hit{b:Int}{l:List Wbn}{ph:ByteArray}{j:Nat}(hj:j < l.length)(hk:∀ k,k < j→Wak (l.getD k Wbo).1 ph=false)(h:Wak (l.getD j Wbo).1 ph=true) :
 (Wda b l).find? (fq ph)=some (l.getD j Wbo,b+sumOf (l.take j)):=by
 have e:l=l.take j++(l.getD j Wbo::l.drop (j+1)):=by
  rw[Wbp _ _ _ hj,List.getElem_cons_drop,List.take_append_drop]
 have e2:Wda b l=Wda b (l.take j)++((l.getD j Wbo,b+sumOf (l.take j))::Wda (b+sumOf (l.take j)+(l.getD j Wbo).2.1) (l.drop (j+1))):=by
  conv=>lhs;rw[e]
  rw[Wjv];rfl
 rw[e2,List.find?_append,Wsb (fun k hk'=>by
  have:k < j:=by simp at hk';omega
  rw[Wc7 l j k Wbo this]
  exact hk k this)]
 rw[List.find?_cons]
 unfold fq
 simp only[h,Option.none_or]
theorem Wsc{b:Int}{g:Wca}{ph:ByteArray}(h:∀ k,k < g.length→(Wda b (g.getD k [])).find? (fq ph)=none):(We0 b g).find? (fq ph)=none:=by
 unfold We0
 rw[List.find?_eq_none]
 intro p hp
 obtain⟨l,hl,hpl⟩:=List.mem_flatMap.1 hp
 obtain⟨k,hk,e⟩:=List.getElem_of_mem hl
 have:=h k hk
 rw[Wbp _ _ _ hk,e,List.find?_eq_none]at this
 exact this p hpl
theorem span_hit{b:Int}{g:Wca}{ph:ByteArray}{k:Nat}{p:Wbn×Int}(hk:k < g.length)(hn:∀ j,j < k→(Wda b (g.getD j [])).find? (fq ph)=none)(h:(Wda b (g.getD k [])).find? (fq ph)=some p) :
 (We0 b g).find? (fq ph)=some p:=by
 have e:g=g.take k++(g.getD k []::g.drop (k+1)):=by
  rw[Wbp _ _ _ hk,List.getElem_cons_drop,List.take_append_drop]
 have e2:We0 b g=We0 b (g.take k)++(Wda b (g.getD k [])++We0 b (g.drop (k+1))):=by
  conv=>lhs;rw[e]
  unfold We0
  rw[List.flatMap_append,List.flatMap_cons]
 rw[e2,List.find?_append,Wsc (fun j hj=>by
  have:j < k:=by simp at hj;omega
  rw[Wc7 g k j [] this];exact hn j this),Option.none_or,List.find?_append,h]
 rfl
theorem Wvm{spans:List Wca}{ph:ByteArray}:∀ i,i≤spans.length→(∀ k,k < i→(We0 (Wcb (spans.take k)) (spans.getD k [])).find? (fq ph)=none)→(allP 0 (spans.take i)).find? (fq ph)=none:=by
 intro i
 induction i with
 | zero=>intro _ _;rfl
 | succ i ih=>
  intro hi h
  rw[Wqa 0 spans i (by omega),List.find?_append,ih (by omega) fun k hk=>h k (by omega),Option.none_or,Int.zero_add]
  exact h i (by omega)
theorem all_hit{spans:List Wca}{ph:ByteArray}{i:Nat}{p:Wbn×Int}(hi:i < spans.length)(hn:∀ k,k < i→(We0 (Wcb (spans.take k)) (spans.getD k [])).find? (fq ph)=none)
 (h:(We0 (Wcb (spans.take i)) (spans.getD i [])).find? (fq ph)=some p):Wiv spans ph=some p:=by
 have e:spans=spans.take i++(spans.getD i []::spans.drop (i+1)):=by
  rw[Wbp _ _ _ hi,List.getElem_cons_drop,List.take_append_drop]
 show(allP 0 spans).find? (fq ph)=some p
 have e2:allP 0 spans=allP 0 (spans.take i)++(We0 (0+Wcb (spans.take i)) (spans.getD i [])++allP (0+Wcb (spans.take i)+Wen (spans.getD i [])) (spans.drop (i+1))):=by
  conv=>lhs;rw[e]
  rw[Wk1];rfl
 rw[e2,List.find?_append,Wvm i (by omega) hn,Option.none_or,List.find?_append,Int.zero_add,h]
 rfl
def Xc3(o:Option (Wbn×Int)):ByteArray×Int×Int×Int×List Wp0×Int×Bool:=match o with
 | some p=>(p.1.1,p.1.2.1,p.1.2.2.1,p.1.2.2.2.1,p.1.2.2.2.2,p.2,true)
 | none=>(ByteArray.mk #[],0,0,0,[],0,false)
set_option maxHeartbeats 2000000 in
theorem rslot_(t:TimT)(ph:ByteArray)(hs:Wc8 t.2.2.1=true):Ev (fun n=>qcq n (t.1,t.2.1,t.2.2.1,t.2.2.2.1,t.2.2.2.2,ph)) (Xc3 (Wiv t.2.2.1 ph)):=by
 obtain⟨nm,off,spans,ta,tb⟩:=t
 obtain⟨h4,hx⟩:=Wha hs
 simp only at h4 hx ⊢
 unfold qcq
 refine Ev.loopD (st:=fun i=>(ph,Wcb (spans.take i),(i:Int),nm,off,spans,ta,tb,ByteArray.mk #[],(0:Int),(0:Int),(0:Int))) spans.length (fun i=>((We0 (Wcb (spans.take i)) (spans.getD i [])).find? (fq ph)).isSome) (fun i=>.inl (fx ((We0 (Wcb (spans.take i)) (spans.getD i [])).find? (fq ph)))) (.inr (ByteArray.mk #[],0,0,0)) rfl (fun i hi _=>?_) (fun _=>?_) (fun i hi hk hp=>?_) (fun h=>?_)
 ·have hm:=hx _ (Wap spans i [] hi)
  have htb:=Wyw hx i
  have hlb:=Weo hm
  have htn:Wcb (spans.take (i+1))=Wcb (spans.take i)+Wen (spans.getD i []):=by unfold Wcb;rw[Web _ spans i [] hi]
  rw[htn]
  simp only[Wab hi,cond_true,Waf,hi,decide_true,Wag]
  generalize hgs:spans.getD i []=g at hm hlb
  generalize Wcb (spans.take i)=b at htb
  obtain⟨h2,hln⟩:=Wgp hm
  have hb:0≤b∧b≤96000:=by omega
  refine Ev.loopD (st:=fun k=>(ph,b,(i:Int),(k:Int),nm,off,spans,ta,tb,ByteArray.mk #[],(0:Int),(0:Int),(0:Int))) g.length (fun k=>((Wda b (g.getD k [])).find? (fq ph)).isSome) (fun k=>.inl (fx ((Wda b (g.getD k [])).find? (fq ph)))) (.inr (ph,b,(i:Int),nm,off,spans,ta,tb,ByteArray.mk #[],(0:Int),(0:Int),(0:Int))) rfl (fun k hk _=>?_) (fun _=>?_) (fun k hk hkk hp=>?_) (fun h=>?_)
  ·have hl:=hln _ (Wap g k [] hk)
   simp only[Waf,hi,decide_true,cond_true,Wag,hgs,Wab hk,hk]
   generalize g.getD k []=l at hl
   obtain⟨l4,lt,_⟩:=Wgo hl
   refine Ev.loopD (st:=fun j=>(ph,b,(i:Int),(k:Int),b+sumOf (l.take j),l,(j:Int),nm,off,spans,ta,tb,ByteArray.mk #[],(0:Int),(0:Int),(0:Int))) l.length (fun j=>Wak (l.getD j Wbo).1 ph) (fun j=>.inl (b+sumOf (l.take j),true,l.getD j Wbo)) (.inr (ph,b,(i:Int),(k:Int),nm,off,spans,ta,tb,ByteArray.mk #[],(0:Int),(0:Int),(0:Int))) ?_ (fun j hj _=>?_) (fun _=>?_) (fun j hj hjk hp=>?_) (fun h=>?_)
   ·simp[sumOf]
   ·have hz:l.getD j (ByteArray.mk #[],0,0,0,[])=l.getD j Wbo:=rfl
    have hsn:sumOf (l.take (j+1))=sumOf (l.take j)+(l.getD j Wbo).2.1:=by unfold sumOf;rw[Web _ l j Wbo hj]
    have hbd:=Wua lt j (by omega)
    have hts:=lt _ (Wap l j Wbo hj)
    rw[hsn]
    simp only[Wab hj,cond_true,Waf,hj,decide_true,Wag,hz]
    generalize l.getD j Wbo=s at hts
    generalize sumOf (l.take j)=q at hbd
    have hsb:=(Wds hts).1
    cases Wak s.1 ph with
    | true=>exact Ev.ret _
    | false=>
     simp only[cond_false,Wad (show j < 9223372036854775807 by omega)]
     rw[Wan (by omega) (by omega),Int.add_assoc]
     exact Ev.ret _
   ·simp only[Waa,cond_false];exact Ev.ret _
   ·have:=line_hit (b:=b) hj hjk hp
    rw[this];exact Ev.ret _
   ·rw[Wsb h]
    simp only[Sum.elim_inr,Wad (show k < 9223372036854775807 by omega)]
    exact Ev.ret _
  ·simp only[Waf,hi,decide_true,cond_true,Wag,hgs,Waa,cond_false];exact Ev.ret _
  ·obtain⟨p,hp'⟩:=Option.isSome_iff_exists.1 hp
   have:=span_hit (b:=b) hk (fun j hj=>by have:=hkk j hj;simpa using this) hp'
   rw[this,hp'];exact Ev.ret _
  ·have:=Wsc (b:=b) (g:=g) (ph:=ph) fun k hk=>by have:=h k hk;simpa using this
   rw[this]
   simp only[Sum.elim_inr,Waf,hi,decide_true,cond_true,Wag,hgs,Wad (show i < 9223372036854775807 by omega)]
   refine Ev.bind (rlong_ g hm) ?_
   rw[Wan (by omega) (by omega)]
   exact Ev.ret _
 ·simp only[Waa,cond_false];exact Ev.ret _
 ·obtain⟨p,hp'⟩:=Option.isSome_iff_exists.1 hp
  have:=all_hit hi (fun k hk'=>by have:=hk k hk';simpa using this) hp'
  rw[this,hp'];exact Ev.ret _
 ·have:=Wvm spans.length (Nat.le_refl _) fun k hk=>by have:=h k hk;simpa using this
  rw[List.take_length]at this
  have e:Wiv spans ph=none:=this
  rw[e];exact Ev.ret _
theorem slot_mem{spans:List Wca}{ph:ByteArray}{p:Wbn×Int}(hs:Wc8 spans=true)(h:Wiv spans ph=some p):Wbr p.1=true∧0≤p.2∧p.2≤200000:=by
 obtain⟨h4,hx⟩:=Wha hs
 have hm:p∈allP 0 spans:=List.mem_of_find?_eq_some h
 have key:∀(g:List Wca) (b M:Int),(∀ x∈g,We1 x=true)→0≤b→b≤M→p∈allP b g→Wbr p.1=true∧0≤p.2∧p.2≤M+24000 * (g.length+1):=by
  intro g
  induction g with
  | nil=>intro b M _ _ _ hp;cases hp
  | cons x g ih=>
   intro b M hx hb hM hp
   simp only[allP,List.mem_append]at hp
   have hxx:=hx x (by simp)
   rcases hp with hp | hp
   ·unfold We0 at hp
    obtain⟨l,hl,hpl⟩:=List.mem_flatMap.1 hp
    have hlo:=(Wgp hxx).2 l hl
    obtain⟨l4,lt,_⟩:=Wgo hlo
    have line:∀(l:List Wbn) (c N:Int),(∀ s∈l,Wbr s=true)→0≤c→c≤N→p∈Wda c l→Wbr p.1=true∧0≤p.2∧p.2≤N+6000 * l.length:=by
     intro l
     induction l with
     | nil=>intro c N _ _ _ hp;cases hp
     | cons s l ih=>
      intro c N ht hc hN hp
      have hsb:=(Wds (ht s (by simp))).1
      simp only[Wda,List.mem_cons]at hp
      rcases hp with rfl | hp
      ·refine⟨ht s (by simp),hc,?_⟩
       simp only[List.length_cons];omega
      ·have:=ih (c+s.2.1) (N+6000) (fun s hs=>ht s (by simp[hs])) (by omega) (by omega) hp
       simp only[List.length_cons]
       refine⟨this.1,this.2.1,by omega⟩
    have:=line l b M lt hb hM hpl
    simp only[List.length_cons]
    refine⟨this.1,this.2.1,by omega⟩
   ·have hlb:=Weo hxx
    have:=ih (b+Wen x) (M+24000) (fun x hx'=>hx x (by simp[hx'])) (by omega) (by omega) hp
    simp only[List.length_cons]
    refine⟨this.1,this.2.1,by omega⟩
 have:=key spans 0 0 hx (by omega) (by omega) hm
 refine⟨this.1,this.2.1,by omega⟩
theorem rarc_(t:TimT)(hb:SmallT t.2.2.1)(c1:1≤Waq t.2.2.1)(c2:Waq t.2.2.1≤6000)(a k:Int)(ha:-1000000≤a∧a≤1000000) :
 Ev (fun n=>qcs n (t.1,t.2.1,t.2.2.1,t.2.2.2.1,t.2.2.2.2,a,k)) (Wwd (Waq t.2.2.1) (t.2.1 % Waq t.2.2.1) a k):=by
 obtain⟨nm,off,spans,ta,tb⟩:=t
 have hlen:=Wkj (nm,off,spans,ta,tb) hb
 simp only at c1 c2 hlen ⊢
 unfold qcs
 refine Ev.bind hlen ?_
 refine Ev.bindS (fun n=>Wzj n off _ c1 (by omega)) ?_
 have o1:=Int.emod_nonneg off (b:=Waq spans) (by omega)
 have o2:=Int.emod_lt_of_pos off (b:=Waq spans) (by omega)
 simp only
 rw[Wan (by omega) (by omega)]
 exact Ev.bind (rnorm_ _ _) (Ev.ret _)
set_option maxHeartbeats 1000000 in
theorem rheads_(x:Wa5)(t:TimT)(hx:NodeBd x)(hb:SmallT t.2.2.1):Ev (fun n=>qcn n (x.1,x.2.1,x.2.2.1,x.2.2.2.1,x.2.2.2.2.1,x.2.2.2.2.2.1,x.2.2.2.2.2.2,t)) (if Wd8 x.2.2.1 x.2.2.2.2.1 t.2.2.1 then(0,Wdn x.2.1 x.2.2.2.1 t.2.1 t.2.2.1)else(180,[])):=by
 have hfit:=rfits_ x t hx hb
 obtain⟨x1,x2,x3,x4,x5,x6,x7⟩:=x
 have harc:=rarc_ t hb
 have hslot:=rslot_ t
 obtain⟨nm,off,spans,ta,tb⟩:=t
 unfold qcn
 refine Ev.bind hfit ?_
 have hh:=hx.heads
 have hph:=hx.phases
 have hpp:=hx.phase
 simp only at hb hh hph hpp harc hslot ⊢
 cases hf:Wd8 x3 x5 spans with
 | false=>exact Ev.ret _
 | true=>
  obtain⟨hs,_,_,c1,c2⟩:=Wtj hf
  simp only[Bool.not_true,cond_false,if_true]
  unfold Wdn
  refine Ev.loopB (st:=fun i=>((i:Int),x1,x2,x3,x4,x5,x6,x7,nm,off,spans,ta,tb,(x2.take i).map fun h=>(h.1,Wgr (Waq spans) (off % Waq spans) x4 spans h.1))) x2.length (x2.map fun h=>(h.1,Wgr (Waq spans) (off % Waq spans) x4 spans h.1)) rfl (fun i hi=>?_) ?_ (Ev.ret _)
  ·have hlen:((x2.take i).map fun h:Wbv=>((h.1,Wgr (Waq spans) (off % Waq spans) x4 spans h.1):Wmg)).length≤1000000:=by simp;omega
   rw[Wav x2 i (ByteArray.mk #[],0,0,0,0,0,0,0,0,0,0) hi,List.map_append]
   simp only[Wab hi,cond_true,Waf,hi,decide_true,Wag,Wad (show i < 9223372036854775807 by omega)]
   generalize x2.getD i (ByteArray.mk #[],0,0,0,0,0,0,0,0,0,0)=h
   generalize ((x2.take i).map fun h:Wbv=>((h.1,Wgr (Waq spans) (off % Waq spans) x4 spans h.1):Wmg))=out at hlen
   have hfit1:∀ y:Wmg,fitB (out.length+[y].length) 48=true:=fun y=>Wce (by simp only[List.length_cons,List.length_nil];omega)
   refine Ev.bind (Wip x1 x2 x3 x4 x5 x6 x7 h.1 (by unfold Sh;omega) fun p hp=>by have:=hpp p hp;unfold Sh;omega) ?_
   simp only[hfit1,cond_true,List.map_cons,List.map_nil]
   unfold Wgr
   by_cases hge:0≤Wa9 x4 h.1
   ·have hlt:=(Wjk (fun p:Was=>inOf p.2.1 h.1) x4).2
    have hin:inB (Wa9 x4 h.1) x4.length=true:=by unfold inB;simp only[hge,decide_true,Bool.true_and,decide_eq_true_eq];exact hlt
    simp only[hge,decide_true,cond_true,hin,if_true]
    have hat:(atI (ByteArray.mk #[],[],0) x4 (Wa9 x4 h.1))=x4.getD (Wa9 x4 h.1).toNat (ByteArray.mk #[],[],0):=rfl
    rw[hat]
    refine Ev.bind (hslot _ hs) ?_
    cases ho:Wiv spans (x4.getD (Wa9 x4 h.1).toNat (ByteArray.mk #[],[],0)).1 with
    | none=>
     unfold Xc3
     simp only[cond_false]
     exact Ev.ret _
    | some p=>
     obtain⟨ht,p0,p1⟩:=slot_mem hs ho
     obtain⟨⟨s1,s2,s3,s4,s5⟩,at_⟩:=p
     obtain⟨b1,b2,b3⟩:=Wds ht
     simp only at b1 b2 b3 p0 p1
     unfold Xc3
     simp only[cond_true]
     rw[Wan (n:=s2 - s3) (by omega) (by omega),Wan (n:=s2 - s3 - s4) (by omega) (by omega),Wan (n:=at_+(s2 - s3 - s4)) (by omega) (by omega)]
     refine Ev.bind (harc c1 c2 at_ (s2 - s3 - s4) (by omega)) ?_
     refine Ev.bind (harc c1 c2 (at_+(s2 - s3 - s4)) s3 (by omega)) ?_
     exact Ev.ret _
   ·simp only[hge,decide_false,cond_false,if_false]
    exact Ev.ret _
  ·simp only[Waa,cond_false,List.take_length];exact Ev.ret _
end Go.Proofs.YtalbenehgdkalaaGreat.Fn