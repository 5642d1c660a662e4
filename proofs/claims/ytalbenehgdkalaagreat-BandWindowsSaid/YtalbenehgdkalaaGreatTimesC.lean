/- Texts of the proof. -/
import Derived.Test.YtalbenehgdkalaaGreatTimesB
namespace Go.Proofs.YtalbenehgdkalaaGreat.Fn
open Go Go.RowKit Go.Den Go.Circ
def Wda:Int→List Wbn→List (Wbn×Int)
 | _,[]=>[]
 | at_,s::r=>(s,at_)::Wda (at_+s.2.1) r
def We0(at_:Int)(g:Wca):List (Wbn×Int):=g.flatMap (Wda at_)
def allP:Int→List Wca→List (Wbn×Int)
 | _,[]=>[]
 | at_,g::r=>We0 at_ g++allP (at_+Wen g) r
theorem Wjv(at_:Int)(l m:List Wbn):Wda at_ (l++m)=Wda at_ l++Wda (at_+sumOf l) m:=by
 induction l generalizing at_ with
 | nil=>simp[Wda,sumOf]
 | cons a l ih=>
  simp only[List.cons_append,Wda,ih]
  congr 3
  simp only[sumOf,List.map_cons,List.sum_cons]
  omega
theorem Wk1(at_:Int)(l m:List Wca):allP at_ (l++m)=allP at_ l++allP (at_+Wcb l) m:=by
 induction l generalizing at_ with
 | nil=>simp[allP,Wcb]
 | cons a l ih=>
  simp only[List.cons_append,allP,ih,List.append_assoc]
  congr 3
  simp only[Wcb,List.map_cons,List.sum_cons]
  omega
theorem Wwb(at_:Int)(l:List Wbn)(i:Nat)(h:i < l.length):Wda at_ (l.take (i+1))=Wda at_ (l.take i)++[(l.getD i Wbo,at_+sumOf (l.take i))]:=by
 rw[Wav l i Wbo h,Wjv];rfl
theorem Wwc(at_:Int)(g:Wca)(i:Nat)(h:i < g.length):We0 at_ (g.take (i+1))=We0 at_ (g.take i)++Wda at_ (g.getD i []):=by
 rw[Wav g i [] h];simp[We0,List.flatMap_append]
theorem Wqa(at_:Int)(g:List Wca)(i:Nat)(h:i < g.length):allP at_ (g.take (i+1))=allP at_ (g.take i)++We0 (at_+Wcb (g.take i)) (g.getD i []):=by
 rw[Wav g i [] h,Wk1];simp[allP]
abbrev EntT:=ByteArray×Wmg
def Wwd(c o at_ n:Int):Int×Int:=Wau c (o+at_,n)
def Wn8(s:Wbn):Int:=s.2.1 - s.2.2.1 - s.2.2.2.1
def bars4(c o:Int)(p:Wbn×Int):Int×Int×Int×Int:=((Wwd c o p.2 (Wn8 p.1)).1,(Wwd c o p.2 (Wn8 p.1)).2,(Wwd c o (p.2+Wn8 p.1) p.1.2.2.1).1,(Wwd c o (p.2+Wn8 p.1) p.1.2.2.1).2)
def putS(c o:Int)(m:List EntT)(p:Wbn×Int):List EntT:=if mhas p.1.1 m then m else mput p.1.1 (p.1.1,ByteArray.mk #[],bars4 c o p) m
theorem Wt9{V:Type}(k j:ByteArray)(v:V)(m:List (ByteArray×V)):mhas k (mput j (j,v) m)=(mhas k m || Wak j k):=by
 unfold mhas mput
 induction m with
 | nil=>simp[putP,hasP]
 | cons a m ih=>
  simp only[putP,hasP]
  cases h:Wak a.1 j with
  | true=>
   rw[Wbb]at h
   simp only[cond_true,hasP,h]
   cases h1:Wak j k<;>simp
  | false=>
   simp only[cond_false,hasP,ih]
   cases Wak a.1 k<;>simp
theorem Wzr{V:Type}(k j:ByteArray)(v:V)(z:ByteArray×V)(m:List (ByteArray×V))(hn:mhas j m=false):mfind k z (mput j (j,v) m)=if mhas k m then mfind k z m else if Wak j k then(j,v)else z:=by
 unfold mhas mput mfind at *
 induction m with
 | nil=>simp only[putP,Whp,hasP];cases Wak j k<;>simp
 | cons a m ih=>
  simp only[hasP]at hn
  cases h:Wak a.1 j with
  | true=>rw[h]at hn;cases hn
  | false=>
   rw[h]at hn
   simp only[cond_false]at hn
   simp only[putP,h,cond_false,Whp,hasP]
   by_cases h2:Wak a.1 k=true
   ·simp only[h2,cond_true,if_true]
   ·have h3:Wak a.1 k=false:=by simpa using h2
    simp only[h3,cond_false];exact ih hn
theorem Wwe(c o:Int)(k:ByteArray)(z:EntT):∀(L:List (Wbn×Int)) (m:List EntT),mfind k z (L.foldl (putS c o) m)=if mhas k m then mfind k z m else match L.find? (fun p=>Wak p.1.1 k)with
 | some p=>(p.1.1,ByteArray.mk #[],bars4 c o p)
 | none=>z:=by
 intro L
 induction L with
 | nil=>
  intro m
  simp only[List.foldl_nil,List.find?_nil]
  split
  ·rfl
  ·rename_i h
   unfold mhas at h
   unfold mfind
   induction m with
   | nil=>rfl
   | cons a m ih=>
    simp only[hasP]at h
    cases h2:Wak a.1 k with
    | true=>rw[h2]at h;simp at h
    | false=>
     rw[h2]at h
     simp only[Whp,h2,cond_false]
     exact ih (by simpa using h)
 | cons a L ih=>
  intro m
  rw[List.foldl_cons,ih,List.find?_cons]
  unfold putS
  by_cases h:mhas a.1.1 m=true
  ·rw[if_pos h]
   cases h2:Wak a.1.1 k with
   | false=>rfl
   | true=>rw[Wbb]at h2;rw[← h2,h];simp
  ·rw[if_neg h]
   have hf:mhas a.1.1 m=false:=by simpa using h
   rw[Wt9,Wzr _ _ _ _ _ hf]
   cases h3:mhas k m with
   | true=>simp
   | false=>
    cases h2:Wak a.1.1 k<;>simp
def Wiv(spans:List Wca)(k:ByteArray):Option (Wbn×Int):=(allP 0 spans).find? fun p=>Wak p.1.1 k
def Wzs(c o:Int)(spans:List Wca):List EntT:=(allP 0 spans).foldl (putS c o) []
theorem Wwf(c o:Int)(spans:List Wca)(k:ByteArray)(z:EntT):mfind k z (Wzs c o spans)=match Wiv spans k with
 | some p=>(p.1.1,ByteArray.mk #[],bars4 c o p)
 | none=>z:=by
 unfold Wzs Wiv
 rw[Wwe];rfl
theorem arc_(n:Nat)(c o at_ k:Int)(h:-1000000≤o+at_∧o+at_≤1000000):qdx n (c,o,at_,k)=some (Wwd c o at_ k):=by
 unfold qdx
 simp only
 rw[Wan (by omega) (by omega),norm_];rfl
theorem round18_(n:Nat)(s:Wbn)(at_ c o:Int)(m:List EntT)(hs:Wbr s=true)(ha:0≤at_∧at_≤200000)(ho:0≤o∧o≤6000) :
 qdv n (s.1,s.2.1,s.2.2.1,s.2.2.2.1,s.2.2.2.2,at_,c,o,m)=some (true,c,o,putS c o m (s,at_)):=by
 obtain⟨s1,s2,s3,s4,s5⟩:=s
 obtain⟨b1,b2,b3⟩:=Wds hs
 simp only at b1 b2 b3
 unfold qdv putS
 simp only
 rw[Wan (n:=s2 - s3) (by omega) (by omega),Wan (n:=s2 - s3 - s4) (by omega) (by omega)]
 cases hh:mhas s1 m with
 | true=>rfl
 | false=>
  simp only[cond_false]
  rw[Wan (n:=at_+(s2 - s3 - s4)) (by omega) (by omega),arc_ n c o at_ _ (by omega),arc_ n c o _ _ (by omega)]
  rfl
theorem Wua{l:List Wbn}(h:∀ s∈l,Wbr s=true)(i:Nat)(hi:i≤4):0≤sumOf (l.take i)∧sumOf (l.take i)≤24000:=by
 have:=Wn3 h i
 omega
set_option maxHeartbeats 1000000 in
theorem slots1_(c o:Int)(t:TimT)(hs:Wc8 t.2.2.1=true)(ho:0≤o∧o≤6000):Ev (fun n=>qd2 n (c,o,t.1,t.2.1,t.2.2.1,t.2.2.2.1,t.2.2.2.2,[])) (c,o,t.1,t.2.1,t.2.2.1,t.2.2.2.1,t.2.2.2.2,Wzs c o t.2.2.1):=by
 obtain⟨nm,off,spans,ta,tb⟩:=t
 obtain⟨h4,hx⟩:=Wha hs
 simp only at h4 hx ⊢
 unfold qd2
 refine Ev.loopB (st:=fun i=>(Wcb (spans.take i),spans,((spans.length:Nat):Int),(i:Int),c,o,nm,off,spans,ta,tb,(allP 0 (spans.take i)).foldl (putS c o) [])) spans.length (.inr (c,o,nm,off,spans,ta,tb,Wzs c o spans)) rfl (fun i hi=>?_) ?_ ?_
 ·have hm:=hx _ (Wap spans i [] hi)
  have htb:=Wyw hx i
  have hlb:=Weo hm
  have hsnoc:=Wqa 0 spans i hi
  have htn:Wcb (spans.take (i+1))=Wcb (spans.take i)+Wen (spans.getD i []):=by unfold Wcb;rw[Web _ spans i [] hi]
  rw[hsnoc,htn,List.foldl_append]
  rw[Int.zero_add]
  simp only[Wab hi,cond_true,Waf,hi,decide_true,Wag]
  generalize spans.getD i []=g at hm hlb
  generalize (allP 0 (spans.take i)).foldl (putS c o) []=M
  generalize Wcb (spans.take i)=b at htb
  obtain⟨h2,hln⟩:=Wgp hm
  have hb:0≤b∧b≤96000:=by omega
  refine Ev.loopB (st:=fun k=>(b,spans,((spans.length:Nat):Int),(i:Int),g,((g.length:Nat):Int),(k:Int),c,o,nm,off,spans,ta,tb,g,(We0 b (g.take k)).foldl (putS c o) M)) g.length (.inr (b,spans,((spans.length:Nat):Int),(i:Int),c,o,nm,off,spans,ta,tb,g,(We0 b g).foldl (putS c o) M)) rfl (fun k hk=>?_) ?_ ?_
  ·have hl:=hln _ (Wap g k [] hk)
   rw[Wwc b g k hk,List.foldl_append]
   simp only[Wab hk,cond_true,Waf,hk,decide_true,Wag]
   generalize g.getD k []=l at hl
   generalize (We0 b (g.take k)).foldl (putS c o) M=M2
   obtain⟨l4,lt,_⟩:=Wgo hl
   refine Ev.loopB (st:=fun j=>(b,b+sumOf (l.take j),spans,((spans.length:Nat):Int),(i:Int),g,((g.length:Nat):Int),(k:Int),l,((l.length:Nat):Int),(j:Int),c,o,nm,off,spans,ta,tb,g,(Wda b (l.take j)).foldl (putS c o) M2)) l.length (.inr (b,spans,((spans.length:Nat):Int),(i:Int),g,((g.length:Nat):Int),(k:Int),c,o,nm,off,spans,ta,tb,g,(Wda b l).foldl (putS c o) M2)) ?_ (fun j hj=>?_) ?_ ?_
   ·simp[sumOf,Wda]
   ·have hz:l.getD j (ByteArray.mk #[],0,0,0,[])=l.getD j Wbo:=rfl
    have hsn:sumOf (l.take (j+1))=sumOf (l.take j)+(l.getD j Wbo).2.1:=by unfold sumOf;rw[Web _ l j Wbo hj]
    have hbd:=Wua lt j (by omega)
    have hts:=lt _ (Wap l j Wbo hj)
    rw[Wwb b l j hj,List.foldl_append,hsn]
    simp only[Wab hj,cond_true,Waf,hj,decide_true,Wag,hz]
    generalize (Wda b (l.take j)).foldl (putS c o) M2=M3
    generalize l.getD j Wbo=s at hts
    generalize sumOf (l.take j)=q at hbd
    have hsb:=(Wds hts).1
    refine Ev.bindS (fun n=>round18_ n s (b+q) c o M3 hts (by omega) ho) ?_
    simp only[Bool.not_true,cond_false,Wad (show j < 9223372036854775807 by omega)]
    rw[Wan (by omega) (by omega),Int.add_assoc]
    exact Ev.ret _
   ·simp only[Waa,cond_false,List.take_length];exact Ev.ret _
   ·simp only[Sum.elim_inr,Wad (show k < 9223372036854775807 by omega)]
    exact Ev.ret _
  ·simp only[Waa,cond_false,List.take_length];exact Ev.ret _
  ·simp only[Sum.elim_inr,Wad (show i < 9223372036854775807 by omega)]
   refine Ev.bind (long_ g hm) ?_
   rw[Wan (by omega) (by omega)]
   exact Ev.ret _
 ·simp only[Waa,cond_false,List.take_length];exact Ev.ret _
 ·exact Ev.ret _
theorem clock_(t:TimT)(hb:Bd t.2.2.1)(h1:1≤Waq t.2.2.1)(h2:Waq t.2.2.1≤6000):Ev (fun n=>qdz n t) (Waq t.2.2.1,t.2.1 % Waq t.2.2.1):=by
 obtain⟨nm,off,spans,ta,tb⟩:=t
 unfold qdz
 refine Ev.bind (Wsg _ hb) ?_
 simp only at hb h1 h2 ⊢
 generalize Waq spans=C at h1 h2
 refine Ev.bindS (fun n=>norm_ n C (off,1)) ?_
 have hn:=Wf0 h1 (off,1)
 refine Ev.yes (by simp;omega) ?_
 refine(Ev.ret _).of_eq ?_
 rw[Wpn (by omega),if_pos hn.1]
 congr 1
 unfold Wau
 rw[if_neg (by simp only;omega)]
 split
 ·rename_i h
  simp only at h
  have:C=1:=by omega
  subst this
  simp only;omega
 ·simp only[Int.emod_emod]
def Wgr(c o:Int)(ph:List Was)(spans:List Wca)(k:ByteArray):Int×Int×Int×Int:=
 if 0≤Wa9 ph k then(match Wiv spans (ph.getD (Wa9 ph k).toNat (ByteArray.mk #[],[],0)).1 with
  | some p=>bars4 c o p
  | none=>(0,0,0,0))else(0,0,0,0)
def Wdn(hs:List Wbv)(ph:List Was)(off:Int)(spans:List Wca):List Wmg:=hs.map fun h=>(h.1,Wgr (Waq spans) (off % Waq spans) ph spans h.1)
set_option maxHeartbeats 1000000 in
theorem heads_(x:Wa5)(t:TimT)(hx:NodeBd x)(hb:Bd t.2.2.1):Ev (fun n=>qdu n (x.1,x.2.1,x.2.2.1,x.2.2.2.1,x.2.2.2.2.1,x.2.2.2.2.2.1,x.2.2.2.2.2.2,t)) (if Wd8 x.2.2.1 x.2.2.2.2.1 t.2.2.1 then(0,Wdn x.2.1 x.2.2.2.1 t.2.1 t.2.2.1)else(180,[])):=by
 have hfit:=fits_ x t hx hb
 obtain⟨x1,x2,x3,x4,x5,x6,x7⟩:=x
 obtain⟨nm,off,spans,ta,tb⟩:=t
 unfold qdu
 refine Ev.bind hfit ?_
 have hh:=hx.heads
 have hph:=hx.phases
 have hpp:=hx.phase
 simp only at hb hh hph hpp ⊢
 cases hf:Wd8 x3 x5 spans with
 | false=>exact Ev.ret _
 | true=>
  obtain⟨hs,_,_,c1,c2⟩:=Wtj hf
  simp only[Bool.not_true,cond_false,if_true]
  refine Ev.bind (clock_ (nm,off,spans,ta,tb) hb c1 c2) ?_
  refine Ev.bind (a:=(nm,off,spans,ta,tb)) (Ev.const fun n=>rfl) ?_
  refine(Ev.congr · fun n=>Wt0 Wp3 _) ?_
  have o1:=Int.emod_nonneg off (b:=Waq spans) (by omega)
  have o2:=Int.emod_lt_of_pos off (b:=Waq spans) (by omega)
  refine Ev.bind (slots1_ (Waq spans) (off % Waq spans) (nm,off,spans,ta,tb) hs (by omega)) ?_
  simp only
  unfold Wdn
  generalize Waq spans=c
  generalize off % c=o
  have hfd:=Wwf c o spans
  generalize Wzs c o spans=M at hfd
  refine Ev.loopB (st:=fun i=>(x2,((x2.length:Nat):Int),(i:Int),x1,x2,x3,x4,x5,x6,x7,(x2.take i).map fun h=>(h.1,Wgr c o x4 spans h.1),M)) x2.length (x2.map fun h=>(h.1,Wgr c o x4 spans h.1)) rfl (fun i hi=>?_) ?_ (Ev.ret _)
  ·have hlen:((x2.take i).map fun h:Wbv=>((h.1,Wgr c o x4 spans h.1):Wmg)).length≤1000000:=by simp;omega
   rw[Wav x2 i (ByteArray.mk #[],0,0,0,0,0,0,0,0,0,0) hi,List.map_append]
   simp only[Wab hi,cond_true,Waf,hi,decide_true,Wag,Wad (show i < 9223372036854775807 by omega)]
   generalize x2.getD i (ByteArray.mk #[],0,0,0,0,0,0,0,0,0,0)=h
   generalize ((x2.take i).map fun h:Wbv=>((h.1,Wgr c o x4 spans h.1):Wmg))=out at hlen
   refine Ev.bind (home_ x1 x2 x3 x4 x5 x6 x7 h.1 (by omega) fun p hp=>by have:=hpp p hp;omega) ?_
   have hfit1:∀ y:Wmg,fitB (out.length+[y].length) 48=true:=fun y=>Wce (by simp only[List.length_cons,List.length_nil];omega)
   simp only[hfit1,cond_true,List.map_cons,List.map_nil]
   unfold Wgr
   have hg:=Wjk (fun p:Was=>inOf p.2.1 h.1) x4
   have hge:Wa9 x4 h.1 < x4.length:=hg.2
   by_cases h0:0≤Wa9 x4 h.1
   ·obtain⟨j,hj⟩:=Int.eq_ofNat_of_zero_le h0
    rw[hj]
    have hj4:j < x4.length:=by omega
    simp only[decide_eq_true (Int.natCast_nonneg j),cond_true,Waf,hj4,decide_true,Wag,hfd,Int.natCast_nonneg,if_true,Int.toNat_natCast]
    cases Wiv spans (x4.getD j (ByteArray.mk #[],[],0)).1<;>exact Ev.ret _
   ·simp only[decide_eq_false h0,cond_false,if_neg h0]
    exact Ev.yes (Wce (by simp only[List.length_cons,List.length_nil];omega)) (Ev.ret _)
  ·simp only[Waa,cond_false,List.take_length];exact Ev.ret _
end Go.Proofs.YtalbenehgdkalaaGreat.Fn