/- Texts of the proof. -/
import Derived.Test.YtalbenehgdkalaaGreatCircRef
import Derived.Test.YtalbenehgdkalaaGreatLibF
namespace Go.Proofs.YtalbenehgdkalaaGreat.Fn
open Go Go.RowKit Go.Den Go.Circ
abbrev Wp0:=ByteArray×Int×Int
abbrev Wbn:=ByteArray×Int×Int×Int×List Wp0
abbrev Wca:=List (List Wbn)
abbrev TimT:=ByteArray×Int×List Wca×Int×Int
abbrev Wbv:=ByteArray×Int×Int×Int×Int×Int×Int×Int×Int×Int×Int
abbrev PedT:=ByteArray×ByteArray×Int×Int×Int×Int
abbrev Was:=ByteArray×List ByteArray×Int
abbrev RowT:=Bool×List ByteArray
abbrev FoeT:=ByteArray×ByteArray×Int
abbrev Wa5:=ByteArray×List Wbv×List PedT×List Was×List (List RowT)×List FoeT×Int
abbrev Wmg:=ByteArray×Int×Int×Int×Int
def Wbl(n:Int):Bool:=decide (0≤n)&&decide (n≤6000)
theorem Wmv{n:Int}:Wbl n=true↔0≤n∧n≤6000:=by simp[Wbl]
theorem times1_(n:Nat)(x:Int):qd8 n x=some (!(Wbl x)):=by
 unfold qd8 Wbl
 by_cases h:0≤x<;>by_cases h':x≤6000<;>simp[h,h',Int.not_lt.2,Int.not_le.1]<;>omega
theorem times_(l:List Int)(hl:l.length < 9223372036854775807):Ev (fun n=>qd7 n l) (l.all Wbl):=by
 unfold qd7 qdb
 refine Ev.bind (a:=l.any fun x=>!(Wbl x)) (Ev.bind (a:=idxI (fun x=>!(Wbl x)) l) ?_ (by rw[Wec];exact Ev.ret _)) ?_
 ·unfold qdl
  exact Wgu 0 (fun n a=>qd8 n a) _ l hl fun a _=>Ev.const fun n=>times1_ n a
 ·refine(Ev.ret _).of_eq ?_
  rw[List.not_any_eq_all_not]
  congr 1
  funext x;simp
def Whw(w:Wp0):Bool:=Wbl w.2.1&&Wbl w.2.2
theorem timed1_(w:Wp0):Ev (fun n=>qd6 n w) (!(Whw w)):=by
 unfold qd6
 refine Ev.bind (times_ _ (by simp)) ?_
 refine(Ev.ret _).of_eq ?_
 simp[Whw]
def Wbr(s:Wbn):Bool:=(Wbl s.2.1&&(Wbl s.2.2.1&&Wbl s.2.2.2.1))&&s.2.2.2.2.all Whw
theorem timed_(s:Wbn)(hl:s.2.2.2.2.length < 9223372036854775807):Ev (fun n=>qd5 n s) (Wbr s):=by
 unfold qd5
 refine Ev.bind (times_ _ (by simp)) ?_
 unfold Wbr
 have e:([s.2.1,s.2.2.1,s.2.2.2.1].all Wbl)=(Wbl s.2.1&&(Wbl s.2.2.1&&Wbl s.2.2.2.1)):=by simp
 rw[e]
 cases (Wbl s.2.1&&(Wbl s.2.2.1&&Wbl s.2.2.2.1))with
 | false=>exact Ev.ret _
 | true=>
  simp only[cond_true,Bool.true_and]
  unfold qda
  refine Ev.bind (a:=s.2.2.2.2.any fun w=>!(Whw w)) (Ev.bind (a:=idxI (fun w=>!(Whw w)) s.2.2.2.2) ?_ (by rw[Wec];exact Ev.ret _)) ?_
  ·unfold qdk
   exact Wgu (ByteArray.mk #[],0,0) (fun n a=>qd6 n a) _ _ hl fun a _=>timed1_ a
  ·refine(Ev.ret _).of_eq ?_
   rw[List.not_any_eq_all_not]
   congr 1
   funext x;simp
theorem sound1_(s:Wbn)(hl:s.2.2.2.2.length < 9223372036854775807):Ev (fun n=>qd4 n s) (!(Wbr s)):=by
 unfold qd4;exact Ev.bind (timed_ s hl) (Ev.ret _)
def Bd(g:List Wca):Prop:=∀ x∈g,∀ l∈x,∀ s∈l,s.2.2.2.2.length < 9223372036854775807
def Whx(l:List Wbn):Bool:=decide (l.length≤4)&&l.all Wbr
theorem line_(l:List Wbn)(h4:l.length < 9223372036854775807)(hb:∀ s∈l,s.2.2.2.2.length < 9223372036854775807):Ev (fun n=>qc9 n l) (!(l.all Wbr)):=by
 unfold qc9
 refine(Ev.bind (a:=idxI (fun w=>!(Wbr w)) l) ?_ (by rw[Wec];exact Ev.ret _)).of_eq ?_
 ·unfold qdj
  exact Wgu (ByteArray.mk #[],0,0,0,[]) (fun n a=>qd4 n a) _ _ h4 fun a ha=>sound1_ a (hb a ha)
 ·rw[List.any_eq_not_all_not]
  congr 2
  funext x;simp
def We1(g:Wca):Bool:=decide (g.length≤2)&&g.all Whx
def Wc8(g:List Wca):Bool:=decide (g.length≤4)&&g.all We1
theorem sound_(t:TimT)(hb:Bd t.2.2.1):Ev (fun n=>qd3 n t) (Wc8 t.2.2.1):=by
 obtain⟨nm,off,spans,a,b⟩:=t
 unfold qd3 Wc8
 simp only at hb ⊢
 by_cases h4:spans.length≤4
 ·refine Ev.no (decide_eq_false (by omega)) ?_
  rw[decide_eq_true h4,Bool.true_and]
  refine Ev.loopD (st:=fun i=>(spans,((spans.length:Nat):Int),(i:Int))) spans.length (fun i=>!(We1 (spans.getD i []))) (fun i=>.inl false) (.inr ()) rfl (fun i hi _=>?_) (fun _=>?_) (fun i hi hk hp=>?_) (fun h=>?_)
  ·have hx:spans.getD i []∈spans:=Wap _ _ _ hi
   simp only[Wab hi,cond_true,Waf,hi,decide_true,Wag]
   generalize spans.getD i []=g at hx
   unfold We1
   by_cases h2:g.length≤2
   ·rw[decide_eq_true h2,decide_eq_false (show ¬(2:Int) < (g.length:Int) by omega)]
    simp only[cond_false,Bool.true_and]
    refine Ev.loopD (st:=fun k=>(spans,((spans.length:Nat):Int),(i:Int),g,((g.length:Nat):Int),(k:Int))) g.length (fun k=>!(Whx (g.getD k []))) (fun i=>.inl false) (.inr (spans,((spans.length:Nat):Int),(i:Int))) rfl (fun k hk _=>?_) (fun _=>?_) (fun k hk _ hp=>?_) (fun h=>?_)
    ·have hl:g.getD k []∈g:=Wap _ _ _ hk
     simp only[Wab hk,cond_true,Waf,hk,decide_true,Wag,letJ]
     generalize g.getD k []=l at hl
     unfold Whx
     by_cases h3:l.length≤4
     ·rw[decide_eq_true h3,decide_eq_false (show ¬(4:Int) < (l.length:Int) by omega)]
      simp only[cond_false,Bool.true_and,Wad (show k < 9223372036854775807 by omega)]
      refine Ev.bind (line_ l (by omega) (hb g hx l hl)) ?_
      cases l.all Wbr<;>exact Ev.ret _
     ·rw[decide_eq_false h3,decide_eq_true (show(4:Int) < (l.length:Int) by omega)]
      exact Ev.ret _
    ·simp only[Waa,cond_false];exact Ev.ret _
    ·rw[Wdc hk hp];exact Ev.ret _
    ·rw[Wcm h]
     simp only[Sum.elim_inr,Wad (show i < 9223372036854775807 by omega)]
     exact Ev.ret _
   ·rw[decide_eq_false h2,decide_eq_true (show(2:Int) < (g.length:Int) by omega)]
    exact Ev.ret _
  ·simp only[Waa,cond_false];exact Ev.ret _
  ·rw[Wdc hi hp];exact Ev.ret _
  ·rw[Wcm h];exact Ev.ret _
 ·refine Ev.yes (decide_eq_true (by omega)) ?_
  rw[decide_eq_false h4];exact Ev.ret _
def sumOf(l:List Wbn):Int:=(l.map fun s=>s.2.1).sum
def Wen(g:Wca):Int:=g.foldl (fun m l=>max m (sumOf l)) 0
def Wcb(g:List Wca):Int:=(g.map Wen).sum
def Waq(g:List Wca):Int:=if Wc8 g then Wcb g else 0
theorem Web{A:Type}(f:A→Int)(l:List A)(i:Nat)(d:A)(h:i < l.length):((l.take (i+1)).map f).sum=((l.take i).map f).sum+f (l.getD i d):=by
 rw[Wav l i d h];simp[List.sum_append]
theorem Wkw{A:Type}(f:A→Int)(M:Int)(l:List A)(h:∀ a∈l,0≤f a∧f a≤M):0≤(l.map f).sum∧(l.map f).sum≤M * l.length:=by
 induction l with
 | nil=>simp
 | cons a l ih=>
  have h1:=h a (by simp)
  have h2:=ih fun b hb=>h b (by simp[hb])
  simp only[List.map_cons,List.sum_cons,List.length_cons]
  have:M * ((l.length+1:Nat):Int)=M * (l.length:Int)+M:=by rw[Int.natCast_add,Int.mul_add];simp
  rw[this];omega
theorem Wds{s:Wbn}(h:Wbr s=true):(0≤s.2.1∧s.2.1≤6000)∧(0≤s.2.2.1∧s.2.2.1≤6000)∧(0≤s.2.2.2.1∧s.2.2.2.1≤6000):=by
 simp only[Wbr,Bool.and_eq_true,Wmv]at h
 exact⟨h.1.1,h.1.2.1,h.1.2.2⟩
theorem Wgo{l:List Wbn}(h:Whx l=true):l.length≤4∧(∀ s∈l,Wbr s=true)∧0≤sumOf l∧sumOf l≤24000:=by
 simp only[Whx,Bool.and_eq_true,decide_eq_true_eq,List.all_eq_true]at h
 refine⟨h.1,h.2,?_⟩
 have:=Wkw (fun s:Wbn=>s.2.1) 6000 l fun s hs=>(Wds (h.2 s hs)).1
 unfold sumOf
 omega
theorem Wn3{l:List Wbn}(h:∀ s∈l,Wbr s=true)(i:Nat):0≤sumOf (l.take i)∧sumOf (l.take i)≤6000 * i:=by
 have:=Wkw (fun s:Wbn=>s.2.1) 6000 (l.take i) fun s hs=>(Wds (h s (List.mem_of_mem_take hs))).1
 unfold sumOf
 have h2:((l.take i).length:Int)≤i:=by simp;omega
 omega
theorem Wgp{g:Wca}(h:We1 g=true):g.length≤2∧∀ l∈g,Whx l=true:=by
 simpa only[We1,Bool.and_eq_true,decide_eq_true_eq,List.all_eq_true]using h
theorem long_bd{g:Wca}(h:∀ l∈g,Whx l=true)(m:Int)(hm:0≤m∧m≤24000):0≤g.foldl (fun m l=>max m (sumOf l)) m∧g.foldl (fun m l=>max m (sumOf l)) m≤24000:=by
 induction g generalizing m with
 | nil=>exact hm
 | cons a g ih=>
  have:=(Wgo (h a (by simp))).2.2
  exact ih (fun l hl=>h l (by simp[hl])) (max m (sumOf a)) (by omega)
theorem Weo{g:Wca}(h:We1 g=true):0≤Wen g∧Wen g≤24000:=long_bd (Wgp h).2 0 (by omega)
theorem Wha{g:List Wca}(h:Wc8 g=true):g.length≤4∧∀ x∈g,We1 x=true:=by
 simpa only[Wc8,Bool.and_eq_true,decide_eq_true_eq,List.all_eq_true]using h
theorem Wyw{g:List Wca}(h:∀ x∈g,We1 x=true)(i:Nat):0≤Wcb (g.take i)∧Wcb (g.take i)≤24000 * i:=by
 have:=Wkw Wen 24000 (g.take i) fun s hs=>Weo (h s (List.mem_of_mem_take hs))
 unfold Wcb
 have h2:((g.take i).length:Int)≤i:=by simp;omega
 omega
theorem long_(g:Wca)(h:We1 g=true):Ev (fun n=>qdy n g) (Wen g):=by
 obtain⟨h2,hl⟩:=Wgp h
 unfold qdy
 refine Ev.loopB (st:=fun i=>((g.take i).foldl (fun m l=>max m (sumOf l)) 0,g,((g.length:Nat):Int),(i:Int))) g.length (Wen g) rfl (fun i hi=>?_) ?_ (Ev.ret _)
 ·have hx:=hl _ (Wap g i [] hi)
  simp only[Wab hi,cond_true,Waf,hi,decide_true,Wag]
  rw[Wav g i [] hi,List.foldl_append]
  generalize (g.take i).foldl (fun m l=>max m (sumOf l)) 0=m
  generalize g.getD i []=l at hx
  obtain⟨l4,lt,_⟩:=Wgo hx
  refine Ev.loopB (st:=fun k=>(m,sumOf (l.take k),g,((g.length:Nat):Int),(i:Int),l,((l.length:Nat):Int),(k:Int))) l.length (m,sumOf l,g,((g.length:Nat):Int),(i:Int)) rfl (fun k hk=>?_) ?_ ?_
  ·have hs:=(Wds (lt _ (Wap l k (ByteArray.mk #[],0,0,0,[]) hk))).1
   have hm:=Wn3 lt k
   simp only[Wab hk,cond_true,Waf,hk,decide_true,Wag,Wad (show k < 9223372036854775807 by omega)]
   rw[Wan (by omega) (by omega)]
   unfold sumOf
   rw[Web _ l k (ByteArray.mk #[],0,0,0,[]) hk]
   exact Ev.ret _
  ·simp only[Waa,cond_false,List.take_length];exact Ev.ret _
  ·simp only[Xcv,Wad (show i < 9223372036854775807 by omega),List.foldl_cons,List.foldl_nil];exact Ev.ret _
 ·simp only[Waa,cond_false,List.take_length];exact Ev.ret _
theorem Wsg(t:TimT)(hb:Bd t.2.2.1):Ev (fun n=>qdw n t) (Waq t.2.2.1):=by
 obtain⟨nm,off,spans,a,b⟩:=t
 unfold qdw
 refine Ev.bind (sound_ _ hb) ?_
 simp only at hb ⊢
 unfold Waq
 cases hs:Wc8 spans with
 | false=>exact Ev.ret _
 | true=>
  simp only[Bool.not_true,cond_false,if_true]
  obtain⟨h4,hx⟩:=Wha hs
  refine Ev.loopB (st:=fun i=>(Wcb (spans.take i),spans,((spans.length:Nat):Int),(i:Int))) spans.length (Wcb spans) rfl (fun i hi=>?_) ?_ (Ev.ret _)
  ·have hm:=hx _ (Wap spans i [] hi)
   have h5:=Wyw hx i
   have h6:=Weo hm
   simp only[Wab hi,cond_true,Waf,hi,decide_true,Wag,Wad (show i < 9223372036854775807 by omega)]
   refine Ev.bind (long_ _ hm) ?_
   rw[Wan (by omega) (by omega)]
   unfold Wcb
   rw[Web _ spans i [] hi]
   exact Ev.ret _
  ·simp only[Waa,cond_false,List.take_length];exact Ev.ret _
end Go.Proofs.YtalbenehgdkalaaGreat.Fn