/- Texts of the proof. -/
import Derived.Test.YtalbenehgdkalaaGreatChecksB
namespace Go.Proofs.YtalbenehgdkalaaGreat.Fn
open Go Go.RowKit Go.Den
theorem Wpw{A:Type}(f:A→ByteArray)(l:List A)(k:ByteArray):inOf (l.map f) k=!(decide (idxI (fun h=>Wak (f h) k) l < 0)):=by
 rw[Woc,Bool.not_not,Wgn,List.any_map];rfl
theorem nameE_eq(ph:List Was)(pos:Int)(seen:List ByteArray)(s:ByteArray):Wwh ph pos seen s=if inOf (ph.map (·.1)) s then(if !(inOf seen s)then(0,0)else(71,pos))else(72,pos):=by
 rw[Wpw]
 unfold Wwh Wd4
 by_cases h:idxI (fun h:Was=>Wak h.1 s) ph < 0
 ·rw[if_pos h,decide_eq_true h];rfl
 ·rw[if_neg h,decide_eq_false h]
  cases inOf seen s<;>rfl
set_option maxHeartbeats 1000000 in
theorem crings_(x:Wa5)(hm:MapB)(om:MapI)(hl:Sh x.2.2.2.2.1)(hp:Sh x.2.2.2.1) :
 Ev (fun n=>qem n (x.1,x.2.1,x.2.2.1,x.2.2.2.1,x.2.2.2.2.1,x.2.2.2.2.2.1,x.2.2.2.2.2.2,hm,nset (x.2.2.2.1.map (·.1)),om))
  (resE (Wm0 x.2.2.2.1 x.2.2.2.2.2.2 x.2.2.2.2.1) (x.1,x.2.1,x.2.2.1,x.2.2.2.1,x.2.2.2.2.1,x.2.2.2.2.2.1,x.2.2.2.2.2.2,hm,nset (x.2.2.2.1.map (·.1)),om)):=by
 obtain⟨x1,x2,x3,x4,x5,x6,x7⟩:=x
 unfold qem Wm0
 simp only at hl hp ⊢
 refine Ev.loopS (st:=fun k=>(x7,x5,((x5.length:Nat):Int),(k:Int),x1,x2,x3,x4,x5,x6,x7,hm,nset (x4.map (·.1)),om,nset (Wbc (x5.take k)))) x5.length (fun i=>Wfi x4 x7 (Wbc (x5.take i)) (x5.getD i []))
  (x1,x2,x3,x4,x5,x6,x7,hm,nset (x4.map (·.1)),om,nset (Wbc x5)) rfl (fun i hi _=>?_) (fun _=>?_) (fun h=>?_) (fun h=>?_)
 ·simp only[Wab hi,cond_true,Waf,hi,decide_true,Wag,letJ,Wtw]
  rw[Wf5 _ _ hi]
  generalize Wbc (x5.take i)=seen
  generalize x5.getD i []=g
  unfold Wfi
  by_cases h0:g.length=0
  ·rw[if_pos (show g.length < 1∨2 < g.length from .inl (by omega))]
   refine Ev.no (by simp[h0]) ?_
   exact Ev.ret _
  refine Ev.yes (by simp[h0]) ?_
  by_cases h2:2 < g.length
  ·rw[if_pos (show g.length < 1∨2 < g.length from .inr h2),decide_eq_false (show ¬((g.length:Nat):Int)≤2 by omega)]
   exact Ev.ret _
  rw[if_neg (show ¬(g.length < 1∨2 < g.length) by omega),decide_eq_true (show((g.length:Nat):Int)≤2 by omega)]
  refine Ev.must (fun _=>?_) (fun h=>by cases h)
  refine Ev.loopS (st:=fun k=>(x7,x5,((x5.length:Nat):Int),(i:Int),g,((g.length:Nat):Int),(k:Int),x1,x2,x3,x4,x5,x6,x7,hm,nset (x4.map (·.1)),om,nset (seen++Wcn (g.take k)))) g.length (fun k=>Wh7 x4 x7 (seen++Wcn (g.take k)) (g.getD k zRow))
   (x7,x5,((x5.length:Nat):Int),(i:Int),x1,x2,x3,x4,x5,x6,x7,hm,nset (x4.map (·.1)),om,nset (seen++Wcn g)) (by simp[Wcn]) (fun k hk _=>?_) (fun _=>?_) (fun h=>?_) (fun h=>?_)
  ·have hz:g.getD k (false,[])=g.getD k zRow:=rfl
   simp only[Wab hk,cond_true,Waf,hk,decide_true,Wag,hz]
   rw[Wh8 _ _ hk,← List.append_assoc]
   generalize seen++Wcn (g.take k)=seen2
   generalize g.getD k zRow=r
   obtain⟨r1,r2⟩:=r
   unfold Wh7
   by_cases h0:r2.length=0
   ·rw[if_pos (show r2.length < 1∨4 < r2.length from .inl (by omega))]
    refine Ev.no (by simp[h0]) ?_
    exact Ev.ret _
   refine Ev.yes (by simp[h0]) ?_
   by_cases h4:4 < r2.length
   ·rw[if_pos (show r2.length < 1∨4 < r2.length from .inr h4),decide_eq_false (show ¬((r2.length:Nat):Int)≤4 by omega)]
    exact Ev.ret _
   rw[if_neg (show ¬(r2.length < 1∨4 < r2.length) by omega),decide_eq_true (show((r2.length:Nat):Int)≤4 by omega)]
   refine Ev.must (fun _=>?_) (fun h=>by cases h)
   unfold lineE
   refine Ev.loopS (st:=fun m=>(x7,x5,((x5.length:Nat):Int),(i:Int),g,((g.length:Nat):Int),(k:Int),r2,((r2.length:Nat):Int),(m:Int),x1,x2,x3,x4,x5,x6,x7,hm,nset (x4.map (·.1)),om,nset (seen2++r2.take m))) r2.length (fun m=>Wwh x4 x7 (seen2++r2.take m) (r2.getD m (ByteArray.mk #[])))
    (x7,x5,((x5.length:Nat):Int),(i:Int),g,((g.length:Nat):Int),(k:Int),x1,x2,x3,x4,x5,x6,x7,hm,nset (x4.map (·.1)),om,nset (seen2++r2)) (by simp) (fun m hm' _=>?_) (fun _=>?_) (fun h=>?_) (fun h=>?_)
   ·simp only[Wab hm',cond_true,Waf,hm',decide_true,Wag,Wfx,Wad (show m < 9223372036854775807 by omega)]
    rw[Wav _ _ (ByteArray.mk #[]) hm',← List.append_assoc,nameE_eq]
    refine Ev.mustL (by decide) fun _=>?_
    refine Ev.bindS (fun n=>Wxw n _ _) ?_
    exact Ev.mustL (by decide) fun _=>Ev.ret _
   ·simp only[Waa,cond_false,List.take_length];exact Ev.ret _
   ·rw[if_neg h];exact Ev.ret _
   ·rw[Waz h,if_pos rfl]
    simp only[Sum.elim_inr,Wad (show k < 9223372036854775807 by omega)]
    exact Ev.ret _
  ·simp only[Waa,cond_false,List.take_length];exact Ev.ret _
  ·rw[if_neg h];exact Ev.ret _
  ·rw[Waz h,if_pos rfl]
   simp only[Sum.elim_inr,Wad (show i < 9223372036854775807 by omega)]
   exact Ev.ret _
 ·simp only[Waa,cond_false,List.take_length];exact Ev.ret _
 ·have h':(Wji x4 x7 x5).1≠0:=h
  rw[if_neg h',Wd6 h'];exact Ev.ret _
 ·rw[if_pos (show(Wji x4 x7 x5).1=0 by unfold Wji;rw[Waz h])]
  refine Ev.loopS (st:=fun k=>(x4,((x4.length:Nat):Int),(k:Int),x1,x2,x3,x4,x5,x6,x7,hm,nset (x4.map (·.1)),om,nset (Wbc x5))) x4.length (fun i=>if inOf (Wbc x5) (x4.getD i Wax).1=true then(0,0)else(74,(x4.getD i Wax).2.2))
   (x1,x2,x3,x4,x5,x6,x7,hm,nset (x4.map (·.1)),om) rfl (fun i hi _=>?_) (fun _=>?_) (fun h=>?_) (fun h=>?_)
  ·have hz:x4.getD i (ByteArray.mk #[],[],0)=x4.getD i Wax:=rfl
   simp only[Wab hi,cond_true,Waf,hi,decide_true,Wag,hz,Wfx,Wad (show i < 9223372036854775807 by omega)]
   exact Ev.mustL (by decide) fun _=>Ev.ret _
  ·simp only[Waa,cond_false];exact Ev.ret _
  ·have h':(Wzu x4 (Wbc x5)).1≠0:=h
   rw[Wd6 h'];exact Ev.ret _
  ·rw[Wph (show(Wzu x4 (Wbc x5)).1=0 by unfold Wzu;rw[Waz h])];exact Ev.ret _
end Go.Proofs.YtalbenehgdkalaaGreat.Fn