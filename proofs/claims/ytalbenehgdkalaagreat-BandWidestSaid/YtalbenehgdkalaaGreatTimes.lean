/- Texts of the proof. -/
import Derived.Test.YtalbenehgdkalaaGreatCircRef
import Derived.Test.YtalbenehgdkalaaGreatLibF
namespace Go.Proofs.YtalbenehgdkalaaGreat.Fn
open Go Go.RowKit Go.Den Go.Circ
abbrev WalkT:=ByteArray×Int×Int
abbrev Wcd:=ByteArray×Int×Int×Int×List WalkT
abbrev Wcu:=List (List Wcd)
abbrev TimT:=ByteArray×Int×List Wcu×Int×Int
abbrev Wbu:=ByteArray×Int×Int×Int×Int×Int×Int×Int×Int×Int×Int
abbrev PedT:=ByteArray×ByteArray×Int×Int×Int×Int
abbrev Wat:=ByteArray×List ByteArray×Int
abbrev RowT:=Bool×List ByteArray
abbrev FoeT:=ByteArray×ByteArray×Int
abbrev Wa5:=ByteArray×List Wbu×List PedT×List Wat×List (List RowT)×List FoeT×Int
abbrev Wq4:=ByteArray×Int×Int×Int×Int
def Wbw(n:Int):Bool:=decide (0≤n)&&decide (n≤6000)
theorem Wud{n:Int}:Wbw n=true↔0≤n∧n≤6000:=by simp[Wbw]
theorem times1_(n:Nat)(x:Int):qc9 n x=some (!(Wbw x)):=by
 unfold qc9 Wbw
 by_cases h:0≤x<;>by_cases h':x≤6000<;>simp[h,h',Int.not_lt.2,Int.not_le.1]<;>omega
theorem times_(l:List Int)(hl:l.length < 9223372036854775807):Ev (fun n=>qc8 n l) (l.all Wbw):=by
 unfold qc8 qcc
 refine Ev.bind (a:=l.any fun x=>!(Wbw x)) (Ev.bind (a:=idxI (fun x=>!(Wbw x)) l) ?_ (by rw[Wdv];exact Ev.ret _)) ?_
 ·unfold qcm
  exact Wf5 0 (fun n a=>qc9 n a) _ l hl fun a _=>Ev.const fun n=>times1_ n a
 ·refine(Ev.ret _).of_eq ?_
  rw[List.not_any_eq_all_not]
  congr 1
  funext x;simp
def Wjx(w:WalkT):Bool:=Wbw w.2.1&&Wbw w.2.2
theorem timed1_(w:WalkT):Ev (fun n=>qc7 n w) (!(Wjx w)):=by
 unfold qc7
 refine Ev.bind (times_ _ (by simp)) ?_
 refine(Ev.ret _).of_eq ?_
 simp[Wjx]
def Wb0(s:Wcd):Bool:=(Wbw s.2.1&&(Wbw s.2.2.1&&Wbw s.2.2.2.1))&&s.2.2.2.2.all Wjx
theorem timed_(s:Wcd)(hl:s.2.2.2.2.length < 9223372036854775807):Ev (fun n=>qc6 n s) (Wb0 s):=by
 unfold qc6
 refine Ev.bind (times_ _ (by simp)) ?_
 unfold Wb0
 have e:([s.2.1,s.2.2.1,s.2.2.2.1].all Wbw)=(Wbw s.2.1&&(Wbw s.2.2.1&&Wbw s.2.2.2.1)):=by simp
 rw[e]
 cases (Wbw s.2.1&&(Wbw s.2.2.1&&Wbw s.2.2.2.1))with
 | false=>exact Ev.ret _
 | true=>
  simp only[cond_true,Bool.true_and]
  unfold qcb
  refine Ev.bind (a:=s.2.2.2.2.any fun w=>!(Wjx w)) (Ev.bind (a:=idxI (fun w=>!(Wjx w)) s.2.2.2.2) ?_ (by rw[Wdv];exact Ev.ret _)) ?_
  ·unfold qcl
   exact Wf5 (ByteArray.mk #[],0,0) (fun n a=>qc7 n a) _ _ hl fun a _=>timed1_ a
  ·refine(Ev.ret _).of_eq ?_
   rw[List.not_any_eq_all_not]
   congr 1
   funext x;simp
theorem sound1_(s:Wcd)(hl:s.2.2.2.2.length < 9223372036854775807):Ev (fun n=>qc5 n s) (!(Wb0 s)):=by
 unfold qc5;exact Ev.bind (timed_ s hl) (Ev.ret _)
def Bd(g:List Wcu):Prop:=∀ x∈g,∀ l∈x,∀ s∈l,s.2.2.2.2.length < 9223372036854775807
def Wg6(l:List Wcd):Bool:=decide (l.length≤4)&&l.all Wb0
theorem line_(l:List Wcd)(h4:l.length < 9223372036854775807)(hb:∀ s∈l,s.2.2.2.2.length < 9223372036854775807):Ev (fun n=>qca n l) (!(l.all Wb0)):=by
 unfold qca
 refine(Ev.bind (a:=idxI (fun w=>!(Wb0 w)) l) ?_ (by rw[Wdv];exact Ev.ret _)).of_eq ?_
 ·unfold qck
  exact Wf5 (ByteArray.mk #[],0,0,0,[]) (fun n a=>qc5 n a) _ _ h4 fun a ha=>sound1_ a (hb a ha)
 ·rw[List.any_eq_not_all_not]
  congr 2
  funext x;simp
def Wez(g:Wcu):Bool:=decide (g.length≤2)&&g.all Wg6
def Wd5(g:List Wcu):Bool:=decide (g.length≤4)&&g.all Wez
theorem sound_(t:TimT)(hb:Bd t.2.2.1):Ev (fun n=>qc4 n t) (Wd5 t.2.2.1):=by
 obtain⟨nm,off,spans,a,b⟩:=t
 unfold qc4 Wd5
 simp only at hb ⊢
 by_cases h4:spans.length≤4
 ·refine Ev.no (decide_eq_false (by omega)) ?_
  rw[decide_eq_true h4,Bool.true_and]
  refine Ev.loopD (st:=fun i=>(spans,((spans.length:Nat):Int),(i:Int))) spans.length (fun i=>!(Wez (spans.getD i []))) (fun i=>.inl false) (.inr ()) rfl (fun i hi _=>?_) (fun _=>?_) (fun i hi hk hp=>?_) (fun h=>?_)
  ·have hx:spans.getD i []∈spans:=Wau _ _ _ hi
   simp only[Wac hi,cond_true,Wai,hi,decide_true,Waj]
   generalize spans.getD i []=g at hx
   unfold Wez
   by_cases h2:g.length≤2
   ·rw[decide_eq_true h2,decide_eq_false (show ¬(2:Int) < (g.length:Int) by omega)]
    simp only[cond_false,Bool.true_and]
    refine Ev.loopD (st:=fun k=>(spans,((spans.length:Nat):Int),(i:Int),g,((g.length:Nat):Int),(k:Int))) g.length (fun k=>!(Wg6 (g.getD k []))) (fun i=>.inl false) (.inr (spans,((spans.length:Nat):Int),(i:Int))) rfl (fun k hk _=>?_) (fun _=>?_) (fun k hk _ hp=>?_) (fun h=>?_)
    ·have hl:g.getD k []∈g:=Wau _ _ _ hk
     simp only[Wac hk,cond_true,Wai,hk,decide_true,Waj,letJ]
     generalize g.getD k []=l at hl
     unfold Wg6
     by_cases h3:l.length≤4
     ·rw[decide_eq_true h3,decide_eq_false (show ¬(4:Int) < (l.length:Int) by omega)]
      simp only[cond_false,Bool.true_and,Waf (show k < 9223372036854775807 by omega)]
      refine Ev.bind (line_ l (by omega) (hb g hx l hl)) ?_
      cases l.all Wb0<;>exact Ev.ret _
     ·rw[decide_eq_false h3,decide_eq_true (show(4:Int) < (l.length:Int) by omega)]
      exact Ev.ret _
    ·simp only[Wab,cond_false];exact Ev.ret _
    ·rw[Wd7 hk hp];exact Ev.ret _
    ·rw[Wc6 h]
     simp only[Sum.elim_inr,Waf (show i < 9223372036854775807 by omega)]
     exact Ev.ret _
   ·rw[decide_eq_false h2,decide_eq_true (show(2:Int) < (g.length:Int) by omega)]
    exact Ev.ret _
  ·simp only[Wab,cond_false];exact Ev.ret _
  ·rw[Wd7 hi hp];exact Ev.ret _
  ·rw[Wc6 h];exact Ev.ret _
 ·refine Ev.yes (decide_eq_true (by omega)) ?_
  rw[decide_eq_false h4];exact Ev.ret _
def sumOf(l:List Wcd):Int:=(l.map fun s=>s.2.1).sum
def Wfw(g:Wcu):Int:=g.foldl (fun m l=>max m (sumOf l)) 0
def Wdn(g:List Wcu):Int:=(g.map Wfw).sum
def Wav(g:List Wcu):Int:=if Wd5 g then Wdn g else 0
theorem Wfi{A:Type}(f:A→Int)(l:List A)(i:Nat)(d:A)(h:i < l.length):((l.take (i+1)).map f).sum=((l.take i).map f).sum+f (l.getD i d):=by
 rw[Wa0 l i d h];simp[List.sum_append]
theorem Wjy{A:Type}(f:A→Int)(M:Int)(l:List A)(h:∀ a∈l,0≤f a∧f a≤M):0≤(l.map f).sum∧(l.map f).sum≤M * l.length:=by
 induction l with
 | nil=>simp
 | cons a l ih=>
  have h1:=h a (by simp)
  have h2:=ih fun b hb=>h b (by simp[hb])
  simp only[List.map_cons,List.sum_cons,List.length_cons]
  have:M * ((l.length+1:Nat):Int)=M * (l.length:Int)+M:=by rw[Int.natCast_add,Int.mul_add];simp
  rw[this];omega
theorem Wfj{s:Wcd}(h:Wb0 s=true):(0≤s.2.1∧s.2.1≤6000)∧(0≤s.2.2.1∧s.2.2.1≤6000)∧(0≤s.2.2.2.1∧s.2.2.2.1≤6000):=by
 simp only[Wb0,Bool.and_eq_true,Wud]at h
 exact⟨h.1.1,h.1.2.1,h.1.2.2⟩
theorem Wjz{l:List Wcd}(h:Wg6 l=true):l.length≤4∧(∀ s∈l,Wb0 s=true)∧0≤sumOf l∧sumOf l≤24000:=by
 simp only[Wg6,Bool.and_eq_true,decide_eq_true_eq,List.all_eq_true]at h
 refine⟨h.1,h.2,?_⟩
 have:=Wjy (fun s:Wcd=>s.2.1) 6000 l fun s hs=>(Wfj (h.2 s hs)).1
 unfold sumOf
 omega
theorem Wmw{l:List Wcd}(h:∀ s∈l,Wb0 s=true)(i:Nat):0≤sumOf (l.take i)∧sumOf (l.take i)≤6000 * i:=by
 have:=Wjy (fun s:Wcd=>s.2.1) 6000 (l.take i) fun s hs=>(Wfj (h s (List.mem_of_mem_take hs))).1
 unfold sumOf
 have h2:((l.take i).length:Int)≤i:=by simp;omega
 omega
theorem Wj0{g:Wcu}(h:Wez g=true):g.length≤2∧∀ l∈g,Wg6 l=true:=by
 simpa only[Wez,Bool.and_eq_true,decide_eq_true_eq,List.all_eq_true]using h
theorem long_bd{g:Wcu}(h:∀ l∈g,Wg6 l=true)(m:Int)(hm:0≤m∧m≤24000):0≤g.foldl (fun m l=>max m (sumOf l)) m∧g.foldl (fun m l=>max m (sumOf l)) m≤24000:=by
 induction g generalizing m with
 | nil=>exact hm
 | cons a g ih=>
  have:=(Wjz (h a (by simp))).2.2
  exact ih (fun l hl=>h l (by simp[hl])) (max m (sumOf a)) (by omega)
theorem Wf2{g:Wcu}(h:Wez g=true):0≤Wfw g∧Wfw g≤24000:=long_bd (Wj0 h).2 0 (by omega)
theorem Wmx{g:List Wcu}(h:Wd5 g=true):g.length≤4∧∀ x∈g,Wez x=true:=by
 simpa only[Wd5,Bool.and_eq_true,decide_eq_true_eq,List.all_eq_true]using h
theorem tot_bd{g:List Wcu}(h:∀ x∈g,Wez x=true)(i:Nat):0≤Wdn (g.take i)∧Wdn (g.take i)≤24000 * i:=by
 have:=Wjy Wfw 24000 (g.take i) fun s hs=>Wf2 (h s (List.mem_of_mem_take hs))
 unfold Wdn
 have h2:((g.take i).length:Int)≤i:=by simp;omega
 omega
theorem long_(g:Wcu)(h:Wez g=true):Ev (fun n=>qcz n g) (Wfw g):=by
 obtain⟨h2,hl⟩:=Wj0 h
 unfold qcz
 refine Ev.loopB (st:=fun i=>((g.take i).foldl (fun m l=>max m (sumOf l)) 0,g,((g.length:Nat):Int),(i:Int))) g.length (Wfw g) rfl (fun i hi=>?_) ?_ (Ev.ret _)
 ·have hx:=hl _ (Wau g i [] hi)
  simp only[Wac hi,cond_true,Wai,hi,decide_true,Waj]
  rw[Wa0 g i [] hi,List.foldl_append]
  generalize (g.take i).foldl (fun m l=>max m (sumOf l)) 0=m
  generalize g.getD i []=l at hx
  obtain⟨l4,lt,_⟩:=Wjz hx
  refine Ev.loopB (st:=fun k=>(m,sumOf (l.take k),g,((g.length:Nat):Int),(i:Int),l,((l.length:Nat):Int),(k:Int))) l.length (m,sumOf l,g,((g.length:Nat):Int),(i:Int)) rfl (fun k hk=>?_) ?_ ?_
  ·have hs:=(Wfj (lt _ (Wau l k (ByteArray.mk #[],0,0,0,[]) hk))).1
   have hm:=Wmw lt k
   simp only[Wac hk,cond_true,Wai,hk,decide_true,Waj,Waf (show k < 9223372036854775807 by omega)]
   rw[Waq (by omega) (by omega)]
   unfold sumOf
   rw[Wfi _ l k (ByteArray.mk #[],0,0,0,[]) hk]
   exact Ev.ret _
  ·simp only[Wab,cond_false,List.take_length];exact Ev.ret _
  ·simp only[Xaj,Waf (show i < 9223372036854775807 by omega),List.foldl_cons,List.foldl_nil];exact Ev.ret _
 ·simp only[Wab,cond_false,List.take_length];exact Ev.ret _
theorem Wq5(t:TimT)(hb:Bd t.2.2.1):Ev (fun n=>qcx n t) (Wav t.2.2.1):=by
 obtain⟨nm,off,spans,a,b⟩:=t
 unfold qcx
 refine Ev.bind (sound_ _ hb) ?_
 simp only at hb ⊢
 unfold Wav
 cases hs:Wd5 spans with
 | false=>exact Ev.ret _
 | true=>
  simp only[Bool.not_true,cond_false,if_true]
  obtain⟨h4,hx⟩:=Wmx hs
  refine Ev.loopB (st:=fun i=>(Wdn (spans.take i),spans,((spans.length:Nat):Int),(i:Int))) spans.length (Wdn spans) rfl (fun i hi=>?_) ?_ (Ev.ret _)
  ·have hm:=hx _ (Wau spans i [] hi)
   have h5:=tot_bd hx i
   have h6:=Wf2 hm
   simp only[Wac hi,cond_true,Wai,hi,decide_true,Waj,Waf (show i < 9223372036854775807 by omega)]
   refine Ev.bind (long_ _ hm) ?_
   rw[Waq (by omega) (by omega)]
   unfold Wdn
   rw[Wfi _ spans i [] hi]
   exact Ev.ret _
  ·simp only[Wab,cond_false,List.take_length];exact Ev.ret _
end Go.Proofs.YtalbenehgdkalaaGreat.Fn