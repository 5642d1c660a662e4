/- Texts of the proof. -/
import Derived.Test.YtalbenehgdkalaaGreatTimesB
namespace Go.Proofs.YtalbenehgdkalaaGreat.Fn
open Go Go.RowKit Go.Den Go.Circ
def Whz:Int→List Wcd→List (Wcd×Int)
 | _,[]=>[]
 | at_,s::r=>(s,at_)::Whz (at_+s.2.1) r
def Woz(at_:Int)(g:Wcu):List (Wcd×Int):=g.flatMap (Whz at_)
def allP:Int→List Wcu→List (Wcd×Int)
 | _,[]=>[]
 | at_,g::r=>Woz at_ g++allP (at_+Wfw g) r
theorem Wo0(at_:Int)(l m:List Wcd):Whz at_ (l++m)=Whz at_ l++Whz (at_+sumOf l) m:=by
 induction l generalizing at_ with
 | nil=>simp[Whz,sumOf]
 | cons a l ih=>
  simp only[List.cons_append,Whz,ih]
  congr 3
  simp only[sumOf,List.map_cons,List.sum_cons]
  omega
theorem Wrf(at_:Int)(l m:List Wcu):allP at_ (l++m)=allP at_ l++allP (at_+Wdn l) m:=by
 induction l generalizing at_ with
 | nil=>simp[allP,Wdn]
 | cons a l ih=>
  simp only[List.cons_append,allP,ih,List.append_assoc]
  congr 3
  simp only[Wdn,List.map_cons,List.sum_cons]
  omega
theorem Wuo(at_:Int)(l:List Wcd)(i:Nat)(h:i < l.length):Whz at_ (l.take (i+1))=Whz at_ (l.take i)++[(l.getD i Wc9,at_+sumOf (l.take i))]:=by
 rw[Wa0 l i Wc9 h,Wo0];rfl
theorem Wup(at_:Int)(g:Wcu)(i:Nat)(h:i < g.length):Woz at_ (g.take (i+1))=Woz at_ (g.take i)++Whz at_ (g.getD i []):=by
 rw[Wa0 g i [] h];simp[Woz,List.flatMap_append]
theorem Wxg(at_:Int)(g:List Wcu)(i:Nat)(h:i < g.length):allP at_ (g.take (i+1))=allP at_ (g.take i)++Woz (at_+Wdn (g.take i)) (g.getD i []):=by
 rw[Wa0 g i [] h,Wrf];simp[allP]
abbrev EntT:=ByteArray×Wq4
def Wxh(c o at_ n:Int):Int×Int:=Wax c (o+at_,n)
def Wm2(s:Wcd):Int:=s.2.1 - s.2.2.1 - s.2.2.2.1
def bars4(c o:Int)(p:Wcd×Int):Int×Int×Int×Int:=((Wxh c o p.2 (Wm2 p.1)).1,(Wxh c o p.2 (Wm2 p.1)).2,(Wxh c o (p.2+Wm2 p.1) p.1.2.2.1).1,(Wxh c o (p.2+Wm2 p.1) p.1.2.2.1).2)
def putS(c o:Int)(m:List EntT)(p:Wcd×Int):List EntT:=if mhas p.1.1 m then m else mput p.1.1 (p.1.1,ByteArray.mk #[],bars4 c o p) m
theorem Wsw{V:Type}(k j:ByteArray)(v:V)(m:List (ByteArray×V)):mhas k (mput j (j,v) m)=(mhas k m || Wam j k):=by
 unfold mhas mput
 induction m with
 | nil=>simp[putP,hasP]
 | cons a m ih=>
  simp only[putP,hasP]
  cases h:Wam a.1 j with
  | true=>
   rw[Wbc]at h
   simp only[cond_true,hasP,h]
   cases h1:Wam j k<;>simp
  | false=>
   simp only[cond_false,hasP,ih]
   cases Wam a.1 k<;>simp
theorem Wxi{V:Type}(k j:ByteArray)(v:V)(z:ByteArray×V)(m:List (ByteArray×V))(hn:mhas j m=false):mfind k z (mput j (j,v) m)=if mhas k m then mfind k z m else if Wam j k then(j,v)else z:=by
 unfold mhas mput mfind at *
 induction m with
 | nil=>simp only[putP,Wg0,hasP];cases Wam j k<;>simp
 | cons a m ih=>
  simp only[hasP]at hn
  cases h:Wam a.1 j with
  | true=>rw[h]at hn;cases hn
  | false=>
   rw[h]at hn
   simp only[cond_false]at hn
   simp only[putP,h,cond_false,Wg0,hasP]
   by_cases h2:Wam a.1 k=true
   ·simp only[h2,cond_true,if_true]
   ·have h3:Wam a.1 k=false:=by simpa using h2
    simp only[h3,cond_false];exact ih hn
theorem Wuq(c o:Int)(k:ByteArray)(z:EntT):∀(L:List (Wcd×Int)) (m:List EntT),mfind k z (L.foldl (putS c o) m)=if mhas k m then mfind k z m else match L.find? (fun p=>Wam p.1.1 k)with
 | some p=>(p.1.1,ByteArray.mk #[],bars4 c o p)
 | none=>z:=by
 intro L
 induction L with
 | nil=>
  intro m
  simp only[List.foldl_nil,List.find?_nil]
  split
  ·rfl
  ·rename_i h
   unfold mhas at h
   unfold mfind
   induction m with
   | nil=>rfl
   | cons a m ih=>
    simp only[hasP]at h
    cases h2:Wam a.1 k with
    | true=>rw[h2]at h;simp at h
    | false=>
     rw[h2]at h
     simp only[Wg0,h2,cond_false]
     exact ih (by simpa using h)
 | cons a L ih=>
  intro m
  rw[List.foldl_cons,ih,List.find?_cons]
  unfold putS
  by_cases h:mhas a.1.1 m=true
  ·rw[if_pos h]
   cases h2:Wam a.1.1 k with
   | false=>rfl
   | true=>rw[Wbc]at h2;rw[← h2,h];simp
  ·rw[if_neg h]
   have hf:mhas a.1.1 m=false:=by simpa using h
   rw[Wsw,Wxi _ _ _ _ _ hf]
   cases h3:mhas k m with
   | true=>simp
   | false=>
    cases h2:Wam a.1.1 k<;>simp
def Wsx(spans:List Wcu)(k:ByteArray):Option (Wcd×Int):=(allP 0 spans).find? fun p=>Wam p.1.1 k
def Wxj(c o:Int)(spans:List Wcu):List EntT:=(allP 0 spans).foldl (putS c o) []
theorem Wur(c o:Int)(spans:List Wcu)(k:ByteArray)(z:EntT):mfind k z (Wxj c o spans)=match Wsx spans k with
 | some p=>(p.1.1,ByteArray.mk #[],bars4 c o p)
 | none=>z:=by
 unfold Wxj Wsx
 rw[Wuq];rfl
theorem arc_(n:Nat)(c o at_ k:Int)(h:-1000000≤o+at_∧o+at_≤1000000):qcy n (c,o,at_,k)=some (Wxh c o at_ k):=by
 unfold qcy
 simp only
 rw[Waq (by omega) (by omega),norm_];rfl
theorem round18_(n:Nat)(s:Wcd)(at_ c o:Int)(m:List EntT)(hs:Wb0 s=true)(ha:0≤at_∧at_≤200000)(ho:0≤o∧o≤6000) :
 qcw n (s.1,s.2.1,s.2.2.1,s.2.2.2.1,s.2.2.2.2,at_,c,o,m)=some (true,c,o,putS c o m (s,at_)):=by
 obtain⟨s1,s2,s3,s4,s5⟩:=s
 obtain⟨b1,b2,b3⟩:=Wfj hs
 simp only at b1 b2 b3
 unfold qcw putS
 simp only
 rw[Waq (n:=s2 - s3) (by omega) (by omega),Waq (n:=s2 - s3 - s4) (by omega) (by omega)]
 cases hh:mhas s1 m with
 | true=>rfl
 | false=>
  simp only[cond_false]
  rw[Waq (n:=at_+(s2 - s3 - s4)) (by omega) (by omega),arc_ n c o at_ _ (by omega),arc_ n c o _ _ (by omega)]
  rfl
theorem lineP_bd{l:List Wcd}(h:∀ s∈l,Wb0 s=true)(i:Nat)(hi:i≤4):0≤sumOf (l.take i)∧sumOf (l.take i)≤24000:=by
 have:=Wmw h i
 omega
set_option maxHeartbeats 1000000 in
theorem slots1_(c o:Int)(t:TimT)(hs:Wd5 t.2.2.1=true)(ho:0≤o∧o≤6000):Ev (fun n=>qc3 n (c,o,t.1,t.2.1,t.2.2.1,t.2.2.2.1,t.2.2.2.2,[])) (c,o,t.1,t.2.1,t.2.2.1,t.2.2.2.1,t.2.2.2.2,Wxj c o t.2.2.1):=by
 obtain⟨nm,off,spans,ta,tb⟩:=t
 obtain⟨h4,hx⟩:=Wmx hs
 simp only at h4 hx ⊢
 unfold qc3
 refine Ev.loopB (st:=fun i=>(Wdn (spans.take i),spans,((spans.length:Nat):Int),(i:Int),c,o,nm,off,spans,ta,tb,(allP 0 (spans.take i)).foldl (putS c o) [])) spans.length (.inr (c,o,nm,off,spans,ta,tb,Wxj c o spans)) rfl (fun i hi=>?_) ?_ ?_
 ·have hm:=hx _ (Wau spans i [] hi)
  have htb:=tot_bd hx i
  have hlb:=Wf2 hm
  have hsnoc:=Wxg 0 spans i hi
  have htn:Wdn (spans.take (i+1))=Wdn (spans.take i)+Wfw (spans.getD i []):=by unfold Wdn;rw[Wfi _ spans i [] hi]
  rw[hsnoc,htn,List.foldl_append]
  rw[Int.zero_add]
  simp only[Wac hi,cond_true,Wai,hi,decide_true,Waj]
  generalize spans.getD i []=g at hm hlb
  generalize (allP 0 (spans.take i)).foldl (putS c o) []=M
  generalize Wdn (spans.take i)=b at htb
  obtain⟨h2,hln⟩:=Wj0 hm
  have hb:0≤b∧b≤96000:=by omega
  refine Ev.loopB (st:=fun k=>(b,spans,((spans.length:Nat):Int),(i:Int),g,((g.length:Nat):Int),(k:Int),c,o,nm,off,spans,ta,tb,g,(Woz b (g.take k)).foldl (putS c o) M)) g.length (.inr (b,spans,((spans.length:Nat):Int),(i:Int),c,o,nm,off,spans,ta,tb,g,(Woz b g).foldl (putS c o) M)) rfl (fun k hk=>?_) ?_ ?_
  ·have hl:=hln _ (Wau g k [] hk)
   rw[Wup b g k hk,List.foldl_append]
   simp only[Wac hk,cond_true,Wai,hk,decide_true,Waj]
   generalize g.getD k []=l at hl
   generalize (Woz b (g.take k)).foldl (putS c o) M=M2
   obtain⟨l4,lt,_⟩:=Wjz hl
   refine Ev.loopB (st:=fun j=>(b,b+sumOf (l.take j),spans,((spans.length:Nat):Int),(i:Int),g,((g.length:Nat):Int),(k:Int),l,((l.length:Nat):Int),(j:Int),c,o,nm,off,spans,ta,tb,g,(Whz b (l.take j)).foldl (putS c o) M2)) l.length (.inr (b,spans,((spans.length:Nat):Int),(i:Int),g,((g.length:Nat):Int),(k:Int),c,o,nm,off,spans,ta,tb,g,(Whz b l).foldl (putS c o) M2)) ?_ (fun j hj=>?_) ?_ ?_
   ·simp[sumOf,Whz]
   ·have hz:l.getD j (ByteArray.mk #[],0,0,0,[])=l.getD j Wc9:=rfl
    have hsn:sumOf (l.take (j+1))=sumOf (l.take j)+(l.getD j Wc9).2.1:=by unfold sumOf;rw[Wfi _ l j Wc9 hj]
    have hbd:=lineP_bd lt j (by omega)
    have hts:=lt _ (Wau l j Wc9 hj)
    rw[Wuo b l j hj,List.foldl_append,hsn]
    simp only[Wac hj,cond_true,Wai,hj,decide_true,Waj,hz]
    generalize (Whz b (l.take j)).foldl (putS c o) M2=M3
    generalize l.getD j Wc9=s at hts
    generalize sumOf (l.take j)=q at hbd
    have hsb:=(Wfj hts).1
    refine Ev.bindS (fun n=>round18_ n s (b+q) c o M3 hts (by omega) ho) ?_
    simp only[Bool.not_true,cond_false,Waf (show j < 9223372036854775807 by omega)]
    rw[Waq (by omega) (by omega),Int.add_assoc]
    exact Ev.ret _
   ·simp only[Wab,cond_false,List.take_length];exact Ev.ret _
   ·simp only[Sum.elim_inr,Waf (show k < 9223372036854775807 by omega)]
    exact Ev.ret _
  ·simp only[Wab,cond_false,List.take_length];exact Ev.ret _
  ·simp only[Sum.elim_inr,Waf (show i < 9223372036854775807 by omega)]
   refine Ev.bind (long_ g hm) ?_
   rw[Waq (by omega) (by omega)]
   exact Ev.ret _
 ·simp only[Wab,cond_false,List.take_length];exact Ev.ret _
 ·exact Ev.ret _
theorem clock_(t:TimT)(hb:Bd t.2.2.1)(h1:1≤Wav t.2.2.1)(h2:Wav t.2.2.1≤6000):Ev (fun n=>qc0 n t) (Wav t.2.2.1,t.2.1 % Wav t.2.2.1):=by
 obtain⟨nm,off,spans,ta,tb⟩:=t
 unfold qc0
 refine Ev.bind (Wq5 _ hb) ?_
 simp only at hb h1 h2 ⊢
 generalize Wav spans=C at h1 h2
 refine Ev.bindS (fun n=>norm_ n C (off,1)) ?_
 have hn:=Wgl h1 (off,1)
 refine Ev.yes (by simp;omega) ?_
 refine(Ev.ret _).of_eq ?_
 rw[Wom (by omega),if_pos hn.1]
 congr 1
 unfold Wax
 rw[if_neg (by simp only;omega)]
 split
 ·rename_i h
  simp only at h
  have:C=1:=by omega
  subst this
  simp only;omega
 ·simp only[Int.emod_emod]
def Wlw(c o:Int)(ph:List Wat)(spans:List Wcu)(k:ByteArray):Int×Int×Int×Int:=
 if 0≤Wb8 ph k then(match Wsx spans (ph.getD (Wb8 ph k).toNat (ByteArray.mk #[],[],0)).1 with
  | some p=>bars4 c o p
  | none=>(0,0,0,0))else(0,0,0,0)
def Wfl(hs:List Wbu)(ph:List Wat)(off:Int)(spans:List Wcu):List Wq4:=hs.map fun h=>(h.1,Wlw (Wav spans) (off % Wav spans) ph spans h.1)
set_option maxHeartbeats 1000000 in
theorem heads_(x:Wa5)(t:TimT)(hx:NodeBd x)(hb:Bd t.2.2.1):Ev (fun n=>qcv n (x.1,x.2.1,x.2.2.1,x.2.2.2.1,x.2.2.2.2.1,x.2.2.2.2.2.1,x.2.2.2.2.2.2,t)) (if Whc x.2.2.1 x.2.2.2.2.1 t.2.2.1 then(0,Wfl x.2.1 x.2.2.2.1 t.2.1 t.2.2.1)else(180,[])):=by
 have hfit:=fits_ x t hx hb
 obtain⟨x1,x2,x3,x4,x5,x6,x7⟩:=x
 obtain⟨nm,off,spans,ta,tb⟩:=t
 unfold qcv
 refine Ev.bind hfit ?_
 have hh:=hx.heads
 have hph:=hx.phases
 have hpp:=hx.phase
 simp only at hb hh hph hpp ⊢
 cases hf:Whc x3 x5 spans with
 | false=>exact Ev.ret _
 | true=>
  obtain⟨hs,_,_,c1,c2⟩:=Wy9 hf
  simp only[Bool.not_true,cond_false,if_true]
  refine Ev.bind (clock_ (nm,off,spans,ta,tb) hb c1 c2) ?_
  refine Ev.bind (a:=(nm,off,spans,ta,tb)) (Ev.const fun n=>rfl) ?_
  refine(Ev.congr · fun n=>Wso Wos _) ?_
  have o1:=Int.emod_nonneg off (b:=Wav spans) (by omega)
  have o2:=Int.emod_lt_of_pos off (b:=Wav spans) (by omega)
  refine Ev.bind (slots1_ (Wav spans) (off % Wav spans) (nm,off,spans,ta,tb) hs (by omega)) ?_
  simp only
  unfold Wfl
  generalize Wav spans=c
  generalize off % c=o
  have hfd:=Wur c o spans
  generalize Wxj c o spans=M at hfd
  refine Ev.loopB (st:=fun i=>(x2,((x2.length:Nat):Int),(i:Int),x1,x2,x3,x4,x5,x6,x7,(x2.take i).map fun h=>(h.1,Wlw c o x4 spans h.1),M)) x2.length (x2.map fun h=>(h.1,Wlw c o x4 spans h.1)) rfl (fun i hi=>?_) ?_ (Ev.ret _)
  ·have hlen:((x2.take i).map fun h:Wbu=>((h.1,Wlw c o x4 spans h.1):Wq4)).length≤1000000:=by simp;omega
   rw[Wa0 x2 i (ByteArray.mk #[],0,0,0,0,0,0,0,0,0,0) hi,List.map_append]
   simp only[Wac hi,cond_true,Wai,hi,decide_true,Waj,Waf (show i < 9223372036854775807 by omega)]
   generalize x2.getD i (ByteArray.mk #[],0,0,0,0,0,0,0,0,0,0)=h
   generalize ((x2.take i).map fun h:Wbu=>((h.1,Wlw c o x4 spans h.1):Wq4))=out at hlen
   refine Ev.bind (home_ x1 x2 x3 x4 x5 x6 x7 h.1 (by omega) fun p hp=>by have:=hpp p hp;omega) ?_
   have hfit1:∀ y:Wq4,fitB (out.length+[y].length) 48=true:=fun y=>Wc3 (by simp only[List.length_cons,List.length_nil];omega)
   simp only[hfit1,cond_true,List.map_cons,List.map_nil]
   unfold Wlw
   have hg:=Wm8 (fun p:Wat=>inOf p.2.1 h.1) x4
   have hge:Wb8 x4 h.1 < x4.length:=hg.2
   by_cases h0:0≤Wb8 x4 h.1
   ·obtain⟨j,hj⟩:=Int.eq_ofNat_of_zero_le h0
    rw[hj]
    have hj4:j < x4.length:=by omega
    simp only[decide_eq_true (Int.natCast_nonneg j),cond_true,Wai,hj4,decide_true,Waj,hfd,Int.natCast_nonneg,if_true,Int.toNat_natCast]
    cases Wsx spans (x4.getD j (ByteArray.mk #[],[],0)).1<;>exact Ev.ret _
   ·simp only[decide_eq_false h0,cond_false,if_neg h0]
    exact Ev.yes (Wc3 (by simp only[List.length_cons,List.length_nil];omega)) (Ev.ret _)
  ·simp only[Wab,cond_false,List.take_length];exact Ev.ret _
end Go.Proofs.YtalbenehgdkalaaGreat.Fn