/- Texts of the proof. -/
import Derived.Test.YtalbenehgdkalaaGreatChecksC
namespace Go.Proofs.YtalbenehgdkalaaGreat.Fn
open Go Go.RowKit Go.Den
theorem Wo4{a b:Err}(h:a.1=0):Wdb a b=b:=if_pos h
theorem Wkr{a b:Err}(h:a.1≠0):Wdb a b=a:=if_neg h
theorem Ev.resT{A B:Type}{F:Nat→Option (Err ⊕ A)}{e r:Err}{v:A}{w:B}{g:Nat→A→Option (Err ⊕ B)}(h:Ev F (resE e v))(hk:e.1=0→Ev (fun n=>g n v) (resE r w)) :
 Ev (fun n=>(F n).bind (Sum.elim (fun y=>some (.inl y)) (g n))) (resE (Wdb e r) w):=by
 refine Ev.res (f:=fun _ y=>some (Sum.inl y)) h (fun h0=>?_) (fun h0=>?_)
 ·rw[Wkr h0,Wd6 h0];exact Ev.ret _
 ·rw[Wo4 h0];exact hk h0
theorem Ev.loopT{X Z B:Type}{L:Nat→X→Option (X ⊕ (Err ⊕ Z))}{g:Nat→Z→Option (Err ⊕ B)}(st:Nat→X)(N:Nat)(f:Nat→Err)(y:Z){x0:X}{r:Err}{w:B}(h0:x0=st 0)
 (h:∀ i,i < N→(∀ k,k < i→(f k).1=0)→Ev (fun n=>L n (st i)) (if(f i).1=0 then .inl (st (i+1))else .inr (.inl (f i))))
 (h3:(∀ k,k < N→(f k).1=0)→Ev (fun n=>L n (st N)) (.inr (.inr y)))
 (he:(∀ k,k < N→(f k).1=0)→Ev (fun n=>g n y) (resE r w)):Ev (fun n=>(Wao n (L n) x0).bind (Sum.elim (fun y=>some (.inl y)) (g n))) (resE (Wdb (Wb0 N f) r) w):=by
 refine Ev.loopS (G:=fun n=>Sum.elim (fun y=>some (.inl y)) (g n)) st N f y h0 h h3 (fun h=>?_) (fun h=>?_)
 ·rw[Wkr h,Wd6 h];exact Ev.ret _
 ·rw[Wo4 (by rw[Waz h])];exact he h
def Wej(ph:List Was):Nat→MapI
 | 0=>[]
 | i+1=>puts i (Wej ph i) (ph.getD i Wax).2.1
def phE2(hsN:List ByteArray)(ph:List Was)(i:Nat):Err:=phE1 hsN ((ph.take i).map (·.1)) (Wej ph i) i (ph.getD i Wax)
def Xbg(hs:List Wbv)(om:MapI)(i:Nat):Err:=if mhas (hs.getD i Wck).1 om then(0,0)else(73,(hs.getD i Wck).2.2.2.2.2.2.2.2.2.2)
def Wu3(x:Wa5):Err:=
 Wdb (Wl5 x) (Wdb (Wt4 x.2.1) (Wdb (Wb0 x.2.2.2.1.length (phE2 (x.2.1.map (·.1)) x.2.2.2.1)) (Wdb (Wb0 x.2.1.length (Xbg x.2.1 (Wej x.2.2.2.1 x.2.2.2.1.length)))
  (Wdb (Wb0 x.2.2.1.length (Wvn x.2.2.1 (x.2.2.2.1.map (·.1)))) (Wdb (Wm0 x.2.2.2.1 x.2.2.2.2.2.2 x.2.2.2.2.1) (Wdb (Wb0 x.2.2.2.2.2.1.length (Wvo x.2.2.2.2.2.1 (x.2.1.map (·.1)) (Wej x.2.2.2.1 x.2.2.2.1.length))) (0,0)))))))
theorem Ev.stepL{X A Z:Type}{F:Nat→Option (Err ⊕ A)}{e:Err}{v:A}{g:Nat→A→Option (X ⊕ (Err ⊕ Z))}{s:X}(h:Ev F (resE e v))(hk:e.1=0→Ev (fun n=>g n v) (.inl s)) :
 Ev (fun n=>(F n).bind (Sum.elim (fun y=>some (.inr (.inl y))) (g n))) (if e.1=0 then .inl s else .inr (.inl e)):=by
 refine Ev.res (f:=fun _ y=>some (Sum.inr (Sum.inl y))) h (fun h0=>?_) (fun h0=>?_)
 ·rw[if_neg h0];exact Ev.ret _
 ·rw[if_pos h0];exact hk h0
theorem Wlp{x:Wa5}(h:(Wl5 x).1=0):x.2.1.length≤16∧x.2.2.2.1.length≤16∧x.2.2.1.length≤8∧x.2.2.2.2.1.length≤4∧x.2.2.2.2.2.1.length≤64:=by
 unfold Wl5 at h
 split at h
 ·rename_i h1
  simp only[Wjj,Bool.not_eq_true',Bool.or_eq_false_iff,decide_eq_false_iff_not,Nat.not_lt]at h1
  exact⟨h1.1,h1.2.1,h1.2.2.1,h1.2.2.2.1,h1.2.2.2.2⟩
 ·cases h
set_option maxHeartbeats 1000000 in
theorem cnode_(x:Wa5)(hpp:∀ p∈x.2.2.2.1,Sh p.2.1):Ev (fun n=>qeq n x) (resE (Wu3 x) ()):=by
 obtain⟨x1,x2,x3,x4,x5,x6,x7⟩:=x
 unfold qeq Wu3
 simp only at hpp ⊢
 refine Ev.resT (sizes_ x1 x2 x3 x4 x5 x6 x7 [] [] []) fun hz=>?_
 obtain⟨s1,s2,s3,s4,s5⟩:=Wlp hz
 simp only at s1 s2 s3 s4 s5
 refine Ev.loopT (st:=fun i=>(x2,((x2.length:Nat):Int),(i:Int),x1,x2,x3,x4,x5,x6,x7,x1,x2,x3,x4,x5,x6,x7,nset ((x2.take i).map (·.1)),([]:MapB),([]:MapI))) x2.length (Wvv x2)
  (x1,x2,x3,x4,x5,x6,x7,x1,x2,x3,x4,x5,x6,x7,nset (x2.map (·.1)),([]:MapB),([]:MapI)) rfl (fun i hi _=>?_) (fun _=>?_) (fun _=>?_)
 ·have hz:x2.getD i (ByteArray.mk #[],0,0,0,0,0,0,0,0,0,0)=x2.getD i Wck:=rfl
  simp only[Wab hi,cond_true,Waf,hi,decide_true,Wag,hz,Wad (show i < 9223372036854775807 by omega),Win _ _ _ Wck hi]
  rw[← Xce _ _ hi]
  have k:=chead_ (x2.getD i Wck) (x1,x2,x3,x4,x5,x6,x7) ((x2.take i).map (·.1)) [] []
  simp only at k
  exact Ev.stepL k fun _=>Ev.ret _
 ·simp only[Waa,cond_false,List.take_length];exact Ev.ret _
 dsimp only
 refine Ev.loopT (st:=fun i=>(x4,((x4.length:Nat):Int),(i:Int),x1,x2,x3,x4,x5,x6,x7,x1,x2,x3,x4,x5,x6,x7,nset (x2.map (·.1)),nset ((x4.take i).map (·.1)),Wej x4 i)) x4.length _
  (x1,x2,x3,x4,x5,x6,x7,x1,x2,x3,x4,x5,x6,x7,nset (x2.map (·.1)),nset (x4.map (·.1)),Wej x4 x4.length) rfl (fun i hi _=>?_) (fun _=>?_) (fun _=>?_)
 ·have hz:x4.getD i (ByteArray.mk #[],[],0)=x4.getD i Wax:=rfl
  simp only[Wab hi,cond_true,Waf,hi,decide_true,Wag,hz,Wad (show i < 9223372036854775807 by omega),Win _ _ _ Wax hi]
  have hp:=hpp _ (Wap _ _ Wax hi)
  rw[show phE2 (x2.map (·.1)) x4 i=phE1 (x2.map (·.1)) ((x4.take i).map (·.1)) (Wej x4 i) i (x4.getD i Wax) from rfl,show Wej x4 (i+1)=puts i (Wej x4 i) (x4.getD i Wax).2.1 from rfl]
  generalize Wej x4 i=om
  generalize (x4.take i).map (·.1)=nm
  generalize x4.getD i Wax=p at hp ⊢
  obtain⟨p1,p2,p3⟩:=p
  have k:=cphase_ (i:Int) (p1,p2,p3) (x1,x2,x3,x4,x5,x6,x7) (x2.map (·.1)) nm om hp
  simp only at k ⊢
  exact Ev.stepL k fun _=>Ev.ret _
 ·simp only[Waa,cond_false,List.take_length];exact Ev.ret _
 dsimp only
 refine Ev.loopT (st:=fun i=>(x2,((x2.length:Nat):Int),(i:Int),x1,x2,x3,x4,x5,x6,x7,nset (x2.map (·.1)),nset (x4.map (·.1)),Wej x4 x4.length)) x2.length _
  (x1,x2,x3,x4,x5,x6,x7,nset (x2.map (·.1)),nset (x4.map (·.1)),Wej x4 x4.length) rfl (fun i hi _=>?_) (fun _=>?_) (fun _=>?_)
 ·have hz:x2.getD i (ByteArray.mk #[],0,0,0,0,0,0,0,0,0,0)=x2.getD i Wck:=rfl
  simp only[Wab hi,cond_true,Waf,hi,decide_true,Wag,hz,Wad (show i < 9223372036854775807 by omega)]
  exact Ev.mustL (by decide) fun _=>Ev.ret _
 ·simp only[Waa,cond_false];exact Ev.ret _
 have k1:=cwalks_ (x1,x2,x3,x4,x5,x6,x7) (x2.map (·.1)) (x4.map (·.1)) (Wej x4 x4.length) (by simp only[Sh];omega)
 have k2:=crings_ (x1,x2,x3,x4,x5,x6,x7) (nset (x2.map (·.1))) (Wej x4 x4.length) (by simp only[Sh];omega) (by simp only[Sh];omega)
 have k3:=cfoes_ (x1,x2,x3,x4,x5,x6,x7) (x2.map (·.1)) (nset (x4.map (·.1))) (Wej x4 x4.length) (by simp only[Sh];omega)
 simp only at k1 k2 k3
 refine Ev.resT k1 fun _=>?_
 refine Ev.resT k2 fun _=>?_
 exact Ev.resT k3 fun _=>Ev.ret _
end Go.Proofs.YtalbenehgdkalaaGreat.Fn