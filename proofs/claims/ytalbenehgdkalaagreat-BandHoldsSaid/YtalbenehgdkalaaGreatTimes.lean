/- Texts of the proof. -/
import Derived.Test.YtalbenehgdkalaaGreatCircRef
import Derived.Test.YtalbenehgdkalaaGreatLibF
namespace Go.Proofs.YtalbenehgdkalaaGreat.Fn
open Go Go.RowKit Go.Den Go.Circ
abbrev Wpv:=ByteArray×Int×Int
abbrev Wbn:=ByteArray×Int×Int×Int×List Wpv
abbrev Wcb:=List (List Wbn)
abbrev TimT:=ByteArray×Int×List Wcb×Int×Int
abbrev Wbu:=ByteArray×Int×Int×Int×Int×Int×Int×Int×Int×Int×Int
abbrev PedT:=ByteArray×ByteArray×Int×Int×Int×Int
abbrev Was:=ByteArray×List ByteArray×Int
abbrev RowT:=Bool×List ByteArray
abbrev FoeT:=ByteArray×ByteArray×Int
abbrev Wa5:=ByteArray×List Wbu×List PedT×List Was×List (List RowT)×List FoeT×Int
abbrev Wmb:=ByteArray×Int×Int×Int×Int
def Wbl(n:Int):Bool:=decide (0≤n)&&decide (n≤6000)
theorem Wmr{n:Int}:Wbl n=true↔0≤n∧n≤6000:=by simp[Wbl]
theorem times1_(n:Nat)(x:Int):qd4 n x=some (!(Wbl x)):=by
 unfold qd4 Wbl
 by_cases h:0≤x<;>by_cases h':x≤6000<;>simp[h,h',Int.not_lt.2,Int.not_le.1]<;>omega
theorem times_(l:List Int)(hl:l.length < 9223372036854775807):Ev (fun n=>qd3 n l) (l.all Wbl):=by
 unfold qd3 qc7
 refine Ev.bind (a:=l.any fun x=>!(Wbl x)) (Ev.bind (a:=idxI (fun x=>!(Wbl x)) l) ?_ (by rw[Web];exact Ev.ret _)) ?_
 ·unfold qdh
  exact Wgr 0 (fun n a=>qd4 n a) _ l hl fun a _=>Ev.const fun n=>times1_ n a
 ·refine(Ev.ret _).of_eq ?_
  rw[List.not_any_eq_all_not]
  congr 1
  funext x;simp
def Whu(w:Wpv):Bool:=Wbl w.2.1&&Wbl w.2.2
theorem timed1_(w:Wpv):Ev (fun n=>qd2 n w) (!(Whu w)):=by
 unfold qd2
 refine Ev.bind (times_ _ (by simp)) ?_
 refine(Ev.ret _).of_eq ?_
 simp[Whu]
def Wbq(s:Wbn):Bool:=(Wbl s.2.1&&(Wbl s.2.2.1&&Wbl s.2.2.2.1))&&s.2.2.2.2.all Whu
theorem timed_(s:Wbn)(hl:s.2.2.2.2.length < 9223372036854775807):Ev (fun n=>qd1 n s) (Wbq s):=by
 unfold qd1
 refine Ev.bind (times_ _ (by simp)) ?_
 unfold Wbq
 have e:([s.2.1,s.2.2.1,s.2.2.2.1].all Wbl)=(Wbl s.2.1&&(Wbl s.2.2.1&&Wbl s.2.2.2.1)):=by simp
 rw[e]
 cases (Wbl s.2.1&&(Wbl s.2.2.1&&Wbl s.2.2.2.1))with
 | false=>exact Ev.ret _
 | true=>
  simp only[cond_true,Bool.true_and]
  unfold qc6
  refine Ev.bind (a:=s.2.2.2.2.any fun w=>!(Whu w)) (Ev.bind (a:=idxI (fun w=>!(Whu w)) s.2.2.2.2) ?_ (by rw[Web];exact Ev.ret _)) ?_
  ·unfold qdg
   exact Wgr (ByteArray.mk #[],0,0) (fun n a=>qd2 n a) _ _ hl fun a _=>timed1_ a
  ·refine(Ev.ret _).of_eq ?_
   rw[List.not_any_eq_all_not]
   congr 1
   funext x;simp
theorem sound1_(s:Wbn)(hl:s.2.2.2.2.length < 9223372036854775807):Ev (fun n=>qd0 n s) (!(Wbq s)):=by
 unfold qd0;exact Ev.bind (timed_ s hl) (Ev.ret _)
def Bd(g:List Wcb):Prop:=∀ x∈g,∀ l∈x,∀ s∈l,s.2.2.2.2.length < 9223372036854775807
def Whv(l:List Wbn):Bool:=decide (l.length≤4)&&l.all Wbq
theorem line_(l:List Wbn)(h4:l.length < 9223372036854775807)(hb:∀ s∈l,s.2.2.2.2.length < 9223372036854775807):Ev (fun n=>qc5 n l) (!(l.all Wbq)):=by
 unfold qc5
 refine(Ev.bind (a:=idxI (fun w=>!(Wbq w)) l) ?_ (by rw[Web];exact Ev.ret _)).of_eq ?_
 ·unfold qdf
  exact Wgr (ByteArray.mk #[],0,0,0,[]) (fun n a=>qd0 n a) _ _ h4 fun a ha=>sound1_ a (hb a ha)
 ·rw[List.any_eq_not_all_not]
  congr 2
  funext x;simp
def We0(g:Wcb):Bool:=decide (g.length≤2)&&g.all Whv
def Wc7(g:List Wcb):Bool:=decide (g.length≤4)&&g.all We0
theorem sound_(t:TimT)(hb:Bd t.2.2.1):Ev (fun n=>qdz n t) (Wc7 t.2.2.1):=by
 obtain⟨nm,off,spans,a,b⟩:=t
 unfold qdz Wc7
 simp only at hb ⊢
 by_cases h4:spans.length≤4
 ·refine Ev.no (decide_eq_false (by omega)) ?_
  rw[decide_eq_true h4,Bool.true_and]
  refine Ev.loopD (st:=fun i=>(spans,((spans.length:Nat):Int),(i:Int))) spans.length (fun i=>!(We0 (spans.getD i []))) (fun i=>.inl false) (.inr ()) rfl (fun i hi _=>?_) (fun _=>?_) (fun i hi hk hp=>?_) (fun h=>?_)
  ·have hx:spans.getD i []∈spans:=Wap _ _ _ hi
   simp only[Wab hi,cond_true,Waf,hi,decide_true,Wag]
   generalize spans.getD i []=g at hx
   unfold We0
   by_cases h2:g.length≤2
   ·rw[decide_eq_true h2,decide_eq_false (show ¬(2:Int) < (g.length:Int) by omega)]
    simp only[cond_false,Bool.true_and]
    refine Ev.loopD (st:=fun k=>(spans,((spans.length:Nat):Int),(i:Int),g,((g.length:Nat):Int),(k:Int))) g.length (fun k=>!(Whv (g.getD k []))) (fun i=>.inl false) (.inr (spans,((spans.length:Nat):Int),(i:Int))) rfl (fun k hk _=>?_) (fun _=>?_) (fun k hk _ hp=>?_) (fun h=>?_)
    ·have hl:g.getD k []∈g:=Wap _ _ _ hk
     simp only[Wab hk,cond_true,Waf,hk,decide_true,Wag,letJ]
     generalize g.getD k []=l at hl
     unfold Whv
     by_cases h3:l.length≤4
     ·rw[decide_eq_true h3,decide_eq_false (show ¬(4:Int) < (l.length:Int) by omega)]
      simp only[cond_false,Bool.true_and,Wad (show k < 9223372036854775807 by omega)]
      refine Ev.bind (line_ l (by omega) (hb g hx l hl)) ?_
      cases l.all Wbq<;>exact Ev.ret _
     ·rw[decide_eq_false h3,decide_eq_true (show(4:Int) < (l.length:Int) by omega)]
      exact Ev.ret _
    ·simp only[Waa,cond_false];exact Ev.ret _
    ·rw[Wda hk hp];exact Ev.ret _
    ·rw[Wcm h]
     simp only[Sum.elim_inr,Wad (show i < 9223372036854775807 by omega)]
     exact Ev.ret _
   ·rw[decide_eq_false h2,decide_eq_true (show(2:Int) < (g.length:Int) by omega)]
    exact Ev.ret _
  ·simp only[Waa,cond_false];exact Ev.ret _
  ·rw[Wda hi hp];exact Ev.ret _
  ·rw[Wcm h];exact Ev.ret _
 ·refine Ev.yes (decide_eq_true (by omega)) ?_
  rw[decide_eq_false h4];exact Ev.ret _
def sumOf(l:List Wbn):Int:=(l.map fun s=>s.2.1).sum
def Wem(g:Wcb):Int:=g.foldl (fun m l=>max m (sumOf l)) 0
def Wcc(g:List Wcb):Int:=(g.map Wem).sum
def Waq(g:List Wcb):Int:=if Wc7 g then Wcc g else 0
theorem Wea{A:Type}(f:A→Int)(l:List A)(i:Nat)(d:A)(h:i < l.length):((l.take (i+1)).map f).sum=((l.take i).map f).sum+f (l.getD i d):=by
 rw[Wav l i d h];simp[List.sum_append]
theorem Wkr{A:Type}(f:A→Int)(M:Int)(l:List A)(h:∀ a∈l,0≤f a∧f a≤M):0≤(l.map f).sum∧(l.map f).sum≤M * l.length:=by
 induction l with
 | nil=>simp
 | cons a l ih=>
  have h1:=h a (by simp)
  have h2:=ih fun b hb=>h b (by simp[hb])
  simp only[List.map_cons,List.sum_cons,List.length_cons]
  have:M * ((l.length+1:Nat):Int)=M * (l.length:Int)+M:=by rw[Int.natCast_add,Int.mul_add];simp
  rw[this];omega
theorem Wdq{s:Wbn}(h:Wbq s=true):(0≤s.2.1∧s.2.1≤6000)∧(0≤s.2.2.1∧s.2.2.1≤6000)∧(0≤s.2.2.2.1∧s.2.2.2.1≤6000):=by
 simp only[Wbq,Bool.and_eq_true,Wmr]at h
 exact⟨h.1.1,h.1.2.1,h.1.2.2⟩
theorem Wgl{l:List Wbn}(h:Whv l=true):l.length≤4∧(∀ s∈l,Wbq s=true)∧0≤sumOf l∧sumOf l≤24000:=by
 simp only[Whv,Bool.and_eq_true,decide_eq_true_eq,List.all_eq_true]at h
 refine⟨h.1,h.2,?_⟩
 have:=Wkr (fun s:Wbn=>s.2.1) 6000 l fun s hs=>(Wdq (h.2 s hs)).1
 unfold sumOf
 omega
theorem Wnx{l:List Wbn}(h:∀ s∈l,Wbq s=true)(i:Nat):0≤sumOf (l.take i)∧sumOf (l.take i)≤6000 * i:=by
 have:=Wkr (fun s:Wbn=>s.2.1) 6000 (l.take i) fun s hs=>(Wdq (h s (List.mem_of_mem_take hs))).1
 unfold sumOf
 have h2:((l.take i).length:Int)≤i:=by simp;omega
 omega
theorem Wgm{g:Wcb}(h:We0 g=true):g.length≤2∧∀ l∈g,Whv l=true:=by
 simpa only[We0,Bool.and_eq_true,decide_eq_true_eq,List.all_eq_true]using h
theorem long_bd{g:Wcb}(h:∀ l∈g,Whv l=true)(m:Int)(hm:0≤m∧m≤24000):0≤g.foldl (fun m l=>max m (sumOf l)) m∧g.foldl (fun m l=>max m (sumOf l)) m≤24000:=by
 induction g generalizing m with
 | nil=>exact hm
 | cons a g ih=>
  have:=(Wgl (h a (by simp))).2.2
  exact ih (fun l hl=>h l (by simp[hl])) (max m (sumOf a)) (by omega)
theorem Wen{g:Wcb}(h:We0 g=true):0≤Wem g∧Wem g≤24000:=long_bd (Wgm h).2 0 (by omega)
theorem Wg8{g:List Wcb}(h:Wc7 g=true):g.length≤4∧∀ x∈g,We0 x=true:=by
 simpa only[Wc7,Bool.and_eq_true,decide_eq_true_eq,List.all_eq_true]using h
theorem Wyn{g:List Wcb}(h:∀ x∈g,We0 x=true)(i:Nat):0≤Wcc (g.take i)∧Wcc (g.take i)≤24000 * i:=by
 have:=Wkr Wem 24000 (g.take i) fun s hs=>Wen (h s (List.mem_of_mem_take hs))
 unfold Wcc
 have h2:((g.take i).length:Int)≤i:=by simp;omega
 omega
theorem long_(g:Wcb)(h:We0 g=true):Ev (fun n=>qdu n g) (Wem g):=by
 obtain⟨h2,hl⟩:=Wgm h
 unfold qdu
 refine Ev.loopB (st:=fun i=>((g.take i).foldl (fun m l=>max m (sumOf l)) 0,g,((g.length:Nat):Int),(i:Int))) g.length (Wem g) rfl (fun i hi=>?_) ?_ (Ev.ret _)
 ·have hx:=hl _ (Wap g i [] hi)
  simp only[Wab hi,cond_true,Waf,hi,decide_true,Wag]
  rw[Wav g i [] hi,List.foldl_append]
  generalize (g.take i).foldl (fun m l=>max m (sumOf l)) 0=m
  generalize g.getD i []=l at hx
  obtain⟨l4,lt,_⟩:=Wgl hx
  refine Ev.loopB (st:=fun k=>(m,sumOf (l.take k),g,((g.length:Nat):Int),(i:Int),l,((l.length:Nat):Int),(k:Int))) l.length (m,sumOf l,g,((g.length:Nat):Int),(i:Int)) rfl (fun k hk=>?_) ?_ ?_
  ·have hs:=(Wdq (lt _ (Wap l k (ByteArray.mk #[],0,0,0,[]) hk))).1
   have hm:=Wnx lt k
   simp only[Wab hk,cond_true,Waf,hk,decide_true,Wag,Wad (show k < 9223372036854775807 by omega)]
   rw[Wan (by omega) (by omega)]
   unfold sumOf
   rw[Wea _ l k (ByteArray.mk #[],0,0,0,[]) hk]
   exact Ev.ret _
  ·simp only[Waa,cond_false,List.take_length];exact Ev.ret _
  ·simp only[Xck,Wad (show i < 9223372036854775807 by omega),List.foldl_cons,List.foldl_nil];exact Ev.ret _
 ·simp only[Waa,cond_false,List.take_length];exact Ev.ret _
theorem Wsa(t:TimT)(hb:Bd t.2.2.1):Ev (fun n=>qds n t) (Waq t.2.2.1):=by
 obtain⟨nm,off,spans,a,b⟩:=t
 unfold qds
 refine Ev.bind (sound_ _ hb) ?_
 simp only at hb ⊢
 unfold Waq
 cases hs:Wc7 spans with
 | false=>exact Ev.ret _
 | true=>
  simp only[Bool.not_true,cond_false,if_true]
  obtain⟨h4,hx⟩:=Wg8 hs
  refine Ev.loopB (st:=fun i=>(Wcc (spans.take i),spans,((spans.length:Nat):Int),(i:Int))) spans.length (Wcc spans) rfl (fun i hi=>?_) ?_ (Ev.ret _)
  ·have hm:=hx _ (Wap spans i [] hi)
   have h5:=Wyn hx i
   have h6:=Wen hm
   simp only[Wab hi,cond_true,Waf,hi,decide_true,Wag,Wad (show i < 9223372036854775807 by omega)]
   refine Ev.bind (long_ _ hm) ?_
   rw[Wan (by omega) (by omega)]
   unfold Wcc
   rw[Wea _ spans i [] hi]
   exact Ev.ret _
  ·simp only[Waa,cond_false,List.take_length];exact Ev.ret _
end Go.Proofs.YtalbenehgdkalaaGreat.Fn