/- Texts of the proof. -/
import Derived.Test.YtalbenehgdkalaaGreatTimesB
namespace Go.Proofs.YtalbenehgdkalaaGreat.Fn
open Go Go.RowKit Go.Den Go.Circ
theorem Wf3(l:List ByteArray):EvO (fun n=>qa5 n l) true (l.length≤50) false:=by
 unfold qa5
 refine EvO.bindO (EvO.loop (st:=fun i=>(l,(i:Int))) (min l.length 50) (fun _=>True) (.inr l) (.inl false) rfl (fun i hi=>?_) ?_) (fun _=>?_) (by exact .no (Ev.ret _))
 ·have h1:i < l.length:=by omega
  simp only[letJ,Wab h1,cond_true,decide_eq_true (show(i:Int) < 50 by omega),Waf,h1,decide_true,Wag,Wad (show i < 9223372036854775807 by omega)]
  exact EvO.cond (fun _=>.no (Ev.ret _)) (fun _=>.yes (Ev.ret _) trivial)
 ·simp only[letJ]
  by_cases h1:l.length≤50
  ·rw[Nat.min_eq_left h1];simp only[Waa,cond_false];exact Ev.ret _
  ·rw[Nat.min_eq_right (by omega)]
   simp only[Wab (show 50 < l.length by omega),cond_true,decide_eq_false (show ¬((50:Nat):Int) < 50 by omega),cond_false];exact Ev.ret _
 ·by_cases h1:l.length≤50
  ·exact .yes ((Ev.ret _).of_eq (decide_eq_true (by omega))) h1
  ·exact .no ((Ev.ret _).of_eq (decide_eq_false (by omega)))
structure SmallN (x:Wa5):Prop where
 heads:x.2.1.length≤50
 peds:x.2.2.1.length≤50
 phases:x.2.2.2.1.length≤50
 groups:x.2.2.2.2.1.length≤50
 foes:x.2.2.2.2.2.1.length≤80
 phase:∀ p∈x.2.2.2.1,p.2.1.length≤50
 rings:∀ g∈x.2.2.2.2.1,g.length≤5
 rows:∀ g∈x.2.2.2.2.1,∀ r∈g,r.2.length≤50
theorem SmallN.bd{x:Wa5}(h:SmallN x):NodeBd x:=
 ⟨by have:=h.heads;omega,by have:=h.peds;omega,by have:=h.phases;omega,fun p hp=>by have:=h.phase p hp;omega,fun g hg r hr=>by have:=h.rows g hg r hr;omega⟩
theorem Wcf{A:Type}{l:List A}{d:A}{Q:A→Prop}(h:∀ i,i < l.length→Q (l.getD i d)):∀ a∈l,Q a:=fun a ha=>by
 obtain⟨i,hi,rfl⟩:=List.getElem_of_mem ha
 have:=h i hi
 rwa [Wbp _ _ _ hi]at this
set_option maxHeartbeats 1000000 in
theorem node06_(x:Wa5):EvO (fun n=>qa4 n x) true (SmallN x) false:=by
 obtain⟨x1,x2,x3,x4,x5,x6,x7⟩:=x
 unfold qa4
 refine EvO.cond (fun _=>.no (Ev.ret _)) (fun h1=>?_)
 refine EvO.cond (fun _=>.no (Ev.ret _)) (fun h2=>?_)
 refine EvO.cond (fun _=>.no (Ev.ret _)) (fun h3=>?_)
 refine EvO.cond (fun _=>.no (Ev.ret _)) (fun h4=>?_)
 refine EvO.cond (fun _=>.no (Ev.ret _)) (fun h5=>?_)
 simp only[decide_eq_false_iff_not]at h1 h2 h3 h4 h5
 have b1:x2.length≤50:=by omega
 have b2:x3.length≤50:=by omega
 have b3:x4.length≤50:=by omega
 have b4:x5.length≤50:=by omega
 have b5:x6.length≤80:=by omega
 refine EvO.bind1 (x:=(x1,x2,x3,x4,x5,x6,x7,x1::x2.map (·.1))) (Ev.loop (st:=fun i=>((i:Int),x1,x2,x3,x4,x5,x6,x7,x1::(x2.take i).map (·.1))) x2.length _ rfl (fun i hi=>?_) ?_) ?_
 ·have hl:(x1::(x2.take i).map (·.1)).length≤1000:=by simp;omega
  rw[Wav x2 i (ByteArray.mk #[],0,0,0,0,0,0,0,0,0,0) hi]
  simp only[Wab hi,cond_true,Waf,hi,decide_true,Wag,Wad (show i < 9223372036854775807 by omega),List.map_append,List.map_cons,List.map_nil]
  refine Ev.yes (Wce ?_) (Ev.ret _)
  simp only[List.length_cons,List.length_nil]at hl ⊢;omega
 ·simp only[Waa,cond_false,List.take_length];exact Ev.ret _
 refine EvO.cond (fun _=>?_) (fun h=>?_)
 rotate_left
 ·exfalso
  simp only[Wed,Xcw,Bool.and_eq_false_iff,decide_eq_false_iff_not]at h
  omega
 refine EvO.bindO (Wf3 _) (fun _=>?_) (.no (Ev.ret _))
 refine EvO.bindO (EvO.loop (st:=fun i=>((i:Int),x1,x2,x3,x4,x5,x6,x7)) x3.length (fun _=>True) (.inr (x1,x2,x3,x4,x5,x6,x7)) (.inl false) rfl (fun i hi=>?_) ?_) (fun _=>?_) (by exact .no (Ev.ret _))
 ·simp only[Wab hi,cond_true,Waf,hi,decide_true,Wag,Wad (show i < 9223372036854775807 by omega)]
  exact EvO.bindO (Wf3 _) (fun _=>.yes (Ev.ret _) trivial) (.no (Ev.ret _))
 ·simp only[Waa,cond_false];exact Ev.ret _
 refine EvO.bindO (EvO.loop (st:=fun i=>((i:Int),x1,x2,x3,x4,x5,x6,x7)) x4.length (fun i=>(x4.getD i (ByteArray.mk #[],[],0)).2.1.length≤50) (.inr (x1,x2,x3,x4,x5,x6,x7)) (.inl false) rfl (fun i hi=>?_) ?_) (fun hph=>?_) (by exact .no (Ev.ret _))
 ·simp only[Wab hi,cond_true,Waf,hi,decide_true,Wag,Wad (show i < 9223372036854775807 by omega),letJ]
  exact EvO.bindO (Wf3 _) (fun _=>EvO.bindO (Wf3 _) (fun h=>.yes (Ev.ret _) h) (.no (Ev.ret _))) (.no (Ev.ret _))
 ·simp only[Waa,cond_false];exact Ev.ret _
 refine EvO.bindO (EvO.loop (st:=fun i=>((i:Int),x1,x2,x3,x4,x5,x6,x7)) x5.length (fun i=>(x5.getD i []).length≤5∧∀ k,k < (x5.getD i []).length→((x5.getD i []).getD k (false,[])).2.length≤50) (.inr (x1,x2,x3,x4,x5,x6,x7)) (.inl false) rfl (fun i hi=>?_) ?_) (fun hgr=>?_) (by exact .no (Ev.ret _))
 ·simp only[Wab hi,cond_true,Waf,hi,decide_true,Wag]
  refine EvO.cond (fun _=>.no (Ev.ret _)) (fun h6=>?_)
  simp only[decide_eq_false_iff_not]at h6
  have b6:(x5.getD i []).length≤5:=by omega
  generalize hg:x5.getD i []=g at b6
  refine EvO.bindO (EvO.loop (st:=fun k=>((i:Int),(k:Int),x1,x2,x3,x4,x5,x6,x7)) g.length (fun k=>(g.getD k (false,[])).2.length≤50) (.inr ((i:Int),x1,x2,x3,x4,x5,x6,x7)) (.inl false) rfl (fun k hk=>?_) ?_) (fun h=>?_) (by exact .no (Ev.ret _))
  ·simp only[Waf,hi,decide_true,cond_true,Wag,hg,Wab hk,hk,Wad (show k < 9223372036854775807 by omega)]
   exact EvO.bindO (Wf3 _) (fun h=>.yes (Ev.ret _) h) (.no (Ev.ret _))
  ·simp only[Waf,hi,decide_true,cond_true,Wag,hg,Waa,cond_false];exact Ev.ret _
  ·simp only[Sum.elim_inr,Wad (show i < 9223372036854775807 by omega)]
   exact .yes (Ev.ret _) ⟨b6,h⟩
 ·simp only[Waa,cond_false];exact Ev.ret _
 refine EvO.bindO (EvO.loop (st:=fun i=>((i:Int),x1,x2,x3,x4,x5,x6,x7)) x6.length (fun _=>True) (.inr ()) (.inl false) rfl (fun i hi=>?_) ?_) (fun _=>?_) (by exact .no (Ev.ret _))
 ·simp only[Wab hi,cond_true,Waf,hi,decide_true,Wag,Wad (show i < 9223372036854775807 by omega)]
  exact EvO.bindO (Wf3 _) (fun _=>.yes (Ev.ret _) trivial) (.no (Ev.ret _))
 ·simp only[Waa,cond_false];exact Ev.ret _
 exact .yes (Ev.ret _) ⟨b1,b2,b3,b4,b5,Wcf hph,Wcf fun i hi=>(hgr i hi).1,Wcf fun i hi=>Wcf fun k hk=>(hgr i hi).2 k hk⟩
abbrev Wbq:=ByteArray×ByteArray×ByteArray×Int×Int×Int
abbrev NetT:=Int×Int×Int×Int×Int×List Wa5×List Wbq×Int×Int
theorem few06_(x:NetT):EvO (fun n=>qa3 n x) true ((x.2.2.2.2.2.1.length≤15∧x.2.2.2.2.2.2.1.length≤15)∧∀ y∈x.2.2.2.2.2.1,SmallN y) false:=by
 obtain⟨a,b,c,d,e,ns,ss,f,g⟩:=x
 unfold qa3
 refine EvO.cond (fun _=>.no (Ev.ret _)) (fun h1=>?_)
 refine EvO.cond (fun _=>.no (Ev.ret _)) (fun h2=>?_)
 simp only[decide_eq_false_iff_not]at h1 h2
 have b1:ns.length≤15:=by omega
 have b2:ss.length≤15:=by omega
 refine EvO.bindO (EvO.loop (st:=fun i=>((i:Int),a,b,c,d,e,ns,ss,f,g)) ns.length (fun i=>SmallN (ns.getD i (ByteArray.mk #[],[],[],[],[],[],0))) (.inr (a,b,c,d,e,ns,ss,f,g)) (.inl false) rfl (fun i hi=>?_) ?_) (fun hn=>?_) (by exact .no (Ev.ret _))
 ·simp only[Wab hi,cond_true,Waf,hi,decide_true,Wag,Wad (show i < 9223372036854775807 by omega)]
  exact EvO.bindO (node06_ _) (fun h=>.yes (Ev.ret _) h) (.no (Ev.ret _))
 ·simp only[Waa,cond_false];exact Ev.ret _
 refine EvO.bindO (EvO.loop (st:=fun i=>((i:Int),a,b,c,d,e,ns,ss,f,g)) ss.length (fun _=>True) (.inr ()) (.inl false) rfl (fun i hi=>?_) ?_) (fun _=>?_) (by exact .no (Ev.ret _))
 ·simp only[Wab hi,cond_true,Waf,hi,decide_true,Wag,Wad (show i < 9223372036854775807 by omega)]
  exact EvO.bindO (Wf3 _) (fun _=>.yes (Ev.ret _) trivial) (.no (Ev.ret _))
 ·simp only[Waa,cond_false];exact Ev.ret _
 exact .yes (Ev.ret _) ⟨⟨b1,b2⟩,Wcf hn⟩
structure SmallT (g:List Wca):Prop where
 spans:g.length≤6
 rings:∀ x∈g,x.length≤6
 rows:∀ x∈g,∀ l∈x,l.length≤8
 walks:∀ x∈g,∀ l∈x,∀ s∈l,s.2.2.2.2.length≤12
theorem SmallT.bd{g:List Wca}(h:SmallT g):Bd g:=fun x hx l hl s hs=>by have:=h.walks x hx l hl s hs;omega
abbrev Wh6:=Int×List TimT×Int×Int×Int×Int×Bool×Int
def zTim:TimT:=(ByteArray.mk #[],0,[],0,0)
set_option maxHeartbeats 1000000 in
theorem few17_(x:Wh6):EvO (fun n=>qa7 n x) true (x.2.1.length≤15∧∀ t∈x.2.1,SmallT t.2.2.1) false:=by
 obtain⟨a,ts,b,c,d,e,f,g⟩:=x
 unfold qa7
 refine EvO.cond (fun _=>.no (Ev.ret _)) (fun h1=>?_)
 simp only[decide_eq_false_iff_not]at h1
 have b1:ts.length≤15:=by omega
 refine EvO.bindO (EvO.loop (st:=fun i=>((i:Int),a,ts,b,c,d,e,f,g)) ts.length (fun i=>SmallT (ts.getD i zTim).2.2.1) (.inr ()) (.inl false) rfl (fun i hi=>?_) ?_) (fun hn=>?_) (by exact .no (Ev.ret _))
 ·have hz:ts.getD i (ByteArray.mk #[],0,[],0,0)=ts.getD i zTim:=rfl
  simp only[Wab hi,cond_true,Waf,hi,decide_true,Wag,hz]
  generalize ts.getD i zTim=t
  obtain⟨nm,off,spans,ta,tb⟩:=t
  refine EvO.cond (fun _=>.no (Ev.ret _)) (fun h2=>?_)
  refine EvO.cond (fun _=>.no (Ev.ret _)) (fun h3=>?_)
  simp only[decide_eq_false_iff_not]at h3
  have b3:spans.length≤6:=by omega
  refine EvO.bindO (EvO.loop (st:=fun k=>((i:Int),(k:Int),a,ts,b,c,d,e,f,g,nm,off,spans,ta,tb)) spans.length (fun k=>(spans.getD k []).length≤6∧∀ m,m < (spans.getD k []).length→((spans.getD k []).getD m []).length≤8∧∀ o,o < ((spans.getD k []).getD m []).length→(((spans.getD k []).getD m []).getD o Wbo).2.2.2.2.length≤12) (.inr ((i:Int),a,ts,b,c,d,e,f,g)) (.inl false) rfl (fun k hk=>?_) ?_) (fun hs=>?_) (by exact .no (Ev.ret _))
  ·simp only[Wab hk,cond_true,Waf,hk,decide_true,Wag]
   refine EvO.cond (fun _=>.no (Ev.ret _)) (fun h4=>?_)
   simp only[decide_eq_false_iff_not]at h4
   have b4:(spans.getD k []).length≤6:=by omega
   generalize hgx:spans.getD k []=x at b4
   refine EvO.bindO (EvO.loop (st:=fun m=>((i:Int),(k:Int),(m:Int),a,ts,b,c,d,e,f,g,nm,off,spans,ta,tb)) x.length (fun m=>(x.getD m []).length≤8∧∀ o,o < (x.getD m []).length→((x.getD m []).getD o Wbo).2.2.2.2.length≤12) (.inr ((i:Int),(k:Int),a,ts,b,c,d,e,f,g,nm,off,spans,ta,tb)) (.inl false) rfl (fun m hm=>?_) ?_) (fun h=>?_) (by exact .no (Ev.ret _))
   ·simp only[Waf,hk,decide_true,cond_true,Wag,hgx,Wab hm,hm]
    refine EvO.cond (fun _=>.no (Ev.ret _)) (fun h5=>?_)
    simp only[decide_eq_false_iff_not]at h5
    have b5:(x.getD m []).length≤8:=by omega
    generalize x.getD m []=l at b5
    refine EvO.bindO (EvO.loop (st:=fun o=>((i:Int),(k:Int),(m:Int),l,(o:Int),a,ts,b,c,d,e,f,g,nm,off,spans,ta,tb)) l.length (fun o=>(l.getD o Wbo).2.2.2.2.length≤12) (.inr ((i:Int),(k:Int),(m:Int),a,ts,b,c,d,e,f,g,nm,off,spans,ta,tb)) (.inl false) rfl (fun o ho=>?_) ?_) (fun h=>?_) (by exact .no (Ev.ret _))
    ·have hz:l.getD o (ByteArray.mk #[],0,0,0,[])=l.getD o Wbo:=rfl
     simp only[Wab ho,cond_true,Waf,ho,decide_true,Wag,hz]
     refine EvO.cond (fun _=>.no (Ev.ret _)) (fun h6=>?_)
     refine EvO.cond (fun _=>.no (Ev.ret _)) (fun h7=>?_)
     simp only[decide_eq_false_iff_not]at h7
     have b7:(l.getD o Wbo).2.2.2.2.length≤12:=by omega
     refine EvO.bindO (EvO.loop (st:=fun q=>((i:Int),(k:Int),(m:Int),l,(o:Int),(q:Int),a,ts,b,c,d,e,f,g,nm,off,spans,ta,tb)) (l.getD o Wbo).2.2.2.2.length (fun _=>True) (.inr ((i:Int),(k:Int),(m:Int),l,(o:Int),a,ts,b,c,d,e,f,g,nm,off,spans,ta,tb)) (.inl false) rfl (fun q hq=>?_) ?_) (fun h=>?_) (by exact .no (Ev.ret _))
     ·simp only[Waf,ho,decide_true,cond_true,Wag,hz,Wab hq,hq,Wad (show q < 9223372036854775807 by omega)]
      exact EvO.cond (fun _=>.no (Ev.ret _)) (fun _=>.yes (Ev.ret _) trivial)
     ·simp only[Waf,ho,decide_true,cond_true,Wag,hz,Waa,cond_false];exact Ev.ret _
     ·simp only[Sum.elim_inr,Wad (show o < 9223372036854775807 by omega)]
      exact .yes (Ev.ret _) b7
    ·simp only[Waa,cond_false];exact Ev.ret _
    ·simp only[Sum.elim_inr,Wad (show m < 9223372036854775807 by omega)]
     exact .yes (Ev.ret _) ⟨b5,h⟩
   ·simp only[Waf,hk,decide_true,cond_true,Wag,hgx,Waa,cond_false];exact Ev.ret _
   ·simp only[Sum.elim_inr,Wad (show k < 9223372036854775807 by omega)]
    exact .yes (Ev.ret _) ⟨b4,h⟩
  ·simp only[Waa,cond_false];exact Ev.ret _
  ·simp only[Sum.elim_inr,Wad (show i < 9223372036854775807 by omega)]
   refine .yes (Ev.ret _) ⟨b3,Wcf fun k hk=>(hs k hk).1,Wcf fun k hk=>Wcf fun m hm=>((hs k hk).2 m hm).1,Wcf fun k hk=>Wcf fun m hm=>Wcf fun o ho=>((hs k hk).2 m hm).2 o ho⟩
 ·simp only[Waa,cond_false];exact Ev.ret _
 exact .yes (Ev.ret _) ⟨b1,Wcf hn⟩
theorem Wyp(n:Nat)(x:Int):qcu n x=some (Wbl x):=by
 unfold qcu Wbl
 by_cases h:0≤x<;>simp[h]
theorem rsum_(l:List Wbn)(hl:l.length≤1000000)(h:∀ s∈l,Wbr s=true):Ev (fun n=>qcr n l) (sumOf l):=by
 unfold qcr
 refine Ev.loopB (st:=fun i=>(l,sumOf (l.take i),(i:Int))) l.length (sumOf l) rfl (fun i hi=>?_) ?_ (Ev.ret _)
 ·have hs:=(Wds (h _ (Wap l i Wbo hi))).1
  have hm:=Wn3 h i
  have hz:l.getD i (ByteArray.mk #[],0,0,0,[])=l.getD i Wbo:=rfl
  simp only[Wab hi,cond_true,Waf,hi,decide_true,Wag,hz,Wad (show i < 9223372036854775807 by omega)]
  rw[Wan (by omega) (by omega)]
  unfold sumOf
  rw[Web _ l i Wbo hi]
  exact Ev.ret _
 ·simp only[Waa,cond_false,List.take_length];exact Ev.ret _
theorem rlong_(g:Wca)(h:We1 g=true):Ev (fun n=>qcp n g) (Wen g):=by
 obtain⟨h2,hl⟩:=Wgp h
 unfold qcp
 refine Ev.loopB (st:=fun i=>((g.take i).foldl (fun m l=>max m (sumOf l)) 0,(i:Int),g)) g.length (Wen g) rfl (fun i hi=>?_) ?_ (Ev.ret _)
 ·have hx:=hl _ (Wap g i [] hi)
  obtain⟨l4,lt,_⟩:=Wgo hx
  simp only[Wab hi,cond_true,Waf,hi,decide_true,Wag,Wad (show i < 9223372036854775807 by omega)]
  refine Ev.bind (rsum_ _ (by omega) lt) ?_
  rw[Wav g i [] hi,List.foldl_append]
  simp only[Xcv,List.foldl_cons,List.foldl_nil]
  exact Ev.ret _
 ·simp only[Waa,cond_false,List.take_length];exact Ev.ret _
set_option maxHeartbeats 1000000 in
theorem Wkj(t:TimT)(hb:SmallT t.2.2.1):Ev (fun n=>qco n t) (Waq t.2.2.1):=by
 obtain⟨nm,off,spans,ta,tb⟩:=t
 have hw:=hb.walks
 have hrw:=hb.rows
 simp only at hw hrw ⊢
 unfold qco Waq Wc8
 by_cases h4:spans.length≤4
 ·refine Ev.no (decide_eq_false (by simp only;omega)) ?_
  rw[decide_eq_true h4,Bool.true_and]
  have htot:∀ i,(∀ k,k < i→(!(We1 (spans.getD k [])))=false)→i≤spans.length→0≤Wcb (spans.take i)∧Wcb (spans.take i)≤24000 * i:=fun i hk hi=>by
   have:=Wkw Wen 24000 (spans.take i) fun s hs=>Weo (by
    obtain⟨k,hk1,rfl⟩:=List.getElem_of_mem hs
    have h5:k < i:=by simp at hk1;omega
    have:=hk k h5
    rw[Wbp _ _ _ (by omega)]at this
    simpa using this)
   unfold Wcb
   have h2:((spans.take i).length:Int)≤i:=by simp;omega
   omega
  refine Ev.loopD (st:=fun i=>(Wcb (spans.take i),(i:Int),nm,off,spans,ta,tb)) spans.length (fun i=>!(We1 (spans.getD i []))) (fun i=>.inl 0) (.inr (Wcb spans)) rfl (fun i hi hpre=>?_) (fun _=>?_) (fun i hi hk hp=>?_) (fun h=>?_)
  ·have hx:spans.getD i []∈spans:=Wap _ _ _ hi
   have ht:=htot i hpre (by omega)
   have htn:Wcb (spans.take (i+1))=Wcb (spans.take i)+Wen (spans.getD i []):=by unfold Wcb;rw[Web _ spans i [] hi]
   rw[htn]
   simp only[Wab hi,cond_true,Waf,hi,decide_true,Wag]
   generalize Wcb (spans.take i)=b at ht
   generalize hgg:spans.getD i []=g at hx
   have hcase:We1 g=(decide (g.length≤2)&&g.all Whx):=rfl
   by_cases h2:g.length≤2
   ·rw[decide_eq_true h2,Bool.true_and]at hcase
    rw[decide_eq_false (show ¬(2:Int) < (g.length:Int) by omega)]
    simp only[cond_false]
    refine Ev.loopD (st:=fun k=>(b,(i:Int),g,(k:Int),nm,off,spans,ta,tb)) g.length (fun k=>!(Whx (g.getD k []))) (fun i=>.inl 0) (.inr (b,(i:Int),nm,off,spans,ta,tb)) rfl (fun k hk _=>?_) (fun _=>?_) (fun k hk _ hp=>?_) (fun h=>?_)
    ·have hl:g.getD k []∈g:=Wap _ _ _ hk
     simp only[Wab hk,cond_true,Waf,hk,decide_true,Wag]
     generalize hll:g.getD k []=l at hl
     have hcl:Whx l=(decide (l.length≤4)&&l.all Wbr):=rfl
     by_cases h3:l.length≤4
     ·rw[decide_eq_true h3,Bool.true_and]at hcl
      rw[decide_eq_false (show ¬(4:Int) < (l.length:Int) by omega)]
      simp only[cond_false]
      refine Ev.loopD (st:=fun m=>(b,(i:Int),g,(k:Int),(m:Int),nm,off,spans,ta,tb)) l.length (fun m=>!(Wbr (l.getD m Wbo))) (fun i=>.inl 0) (.inr (b,(i:Int),g,(k:Int),nm,off,spans,ta,tb)) rfl (fun m hm _=>?_) (fun _=>?_) (fun m hm _ hp=>?_) (fun h=>?_)
      ·have hz:l.getD m (ByteArray.mk #[],0,0,0,[])=l.getD m Wbo:=rfl
       have hsl:=hw g hx l hl _ (Wap l m Wbo hm)
       simp only[Waf,hk,decide_true,cond_true,Wag,hll,Wab hm,hm,hz,Wyp,Option.bind_some]
       generalize l.getD m Wbo=s at hsl
       obtain⟨s1,s2,s3,s4,s5⟩:=s
       unfold Wbr
       simp only at hsl ⊢
       cases Wbl s2 with
       | false=>exact Ev.ret _
       | true=>
        cases Wbl s3 with
        | false=>exact Ev.ret _
        | true=>
         cases Wbl s4 with
         | false=>exact Ev.ret _
         | true=>
          simp only[Bool.true_and]
          refine Ev.loopD (st:=fun q=>(b,(i:Int),g,(k:Int),(m:Int),(q:Int),nm,off,spans,ta,tb,s1,s2,s3,s4,s5)) s5.length (fun q=>!(Whw (s5.getD q (ByteArray.mk #[],0,0)))) (fun i=>.inl 0) (.inr (b,(i:Int),g,(k:Int),(m:Int),nm,off,spans,ta,tb)) rfl (fun q hq _=>?_) (fun _=>?_) (fun q hq _ hp=>?_) (fun h=>?_)
          ·simp only[Wab hq,cond_true,Waf,hq,decide_true,Wag,Option.bind_some,letJ,Wad (show q < 9223372036854775807 by omega)]
           generalize s5.getD q (ByteArray.mk #[],0,0)=w
           unfold Whw
           cases Wbl w.2.1 with
           | false=>exact Ev.ret _
           | true=>cases Wbl w.2.2<;>exact Ev.ret _
          ·simp only[Waa,cond_false];exact Ev.ret _
          ·rw[Wdc hq hp];exact Ev.ret _
          ·rw[Wcm h]
           simp only[Sum.elim_inr,Wad (show m < 9223372036854775807 by omega)]
           exact Ev.ret _
      ·simp only[Waf,hk,decide_true,cond_true,Wag,hll,Waa,cond_false];exact Ev.ret _
      ·rw[hcl,Wdc hm hp];exact Ev.ret _
      ·rw[hcl,Wcm h]
       simp only[Sum.elim_inr,Wad (show k < 9223372036854775807 by omega)]
       exact Ev.ret _
     ·rw[decide_eq_false h3,Bool.false_and]at hcl
      rw[hcl,decide_eq_true (show(4:Int) < (l.length:Int) by omega)]
      exact Ev.ret _
    ·simp only[Waa,cond_false];exact Ev.ret _
    ·rw[hcase,Wdc hk hp];exact Ev.ret _
    ·have hall:=Wcm h
     rw[hall]at hcase
     have hlb:=Weo hcase
     rw[hcase]
     simp only[Sum.elim_inr,Waf,hi,decide_true,cond_true,Wag,hgg]
     refine Ev.bind (rlong_ g hcase) ?_
     simp only[Wad (show i < 9223372036854775807 by omega)]
     rw[Wan (by omega) (by omega)]
     exact Ev.ret _
   ·rw[decide_eq_false h2,Bool.false_and]at hcase
    rw[hcase,decide_eq_true (show(2:Int) < (g.length:Int) by omega)]
    exact Ev.ret _
  ·simp only[Waa,cond_false,List.take_length];exact Ev.ret _
  ·rw[Wdc hi hp];exact Ev.ret _
  ·rw[Wcm h];exact Ev.ret _
 ·refine Ev.yes (decide_eq_true (by simp only;omega)) ?_
  rw[decide_eq_false h4];exact Ev.ret _
end Go.Proofs.YtalbenehgdkalaaGreat.Fn