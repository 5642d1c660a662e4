/- Texts of the proof. -/
import Derived.Test.YtalbenehgdkalaaGreatChecks
namespace Go.Proofs.YtalbenehgdkalaaGreat.Fn
open Go Go.RowKit Go.Den
def puts(i:Int)(om:MapI)(l:List ByteArray):MapI:=l.foldl (fun m k=>mput k (k,i) m) om
theorem Wx9(i:Int)(om:MapI)(l:List ByteArray)(k:ByteArray):puts i om (l++[k])=mput k (k,i) (puts i om l):=by simp[puts]
theorem Wpo{V:Type}(k j:ByteArray)(v:V)(m:List (ByteArray×V)):mhas k (mput j (j,v) m)=(mhas k m || Wak j k):=Wt9 k j v m
theorem Wt2(i:Int)(k:ByteArray):∀(l:List ByteArray) (om:MapI),mhas k (puts i om l)=(mhas k om || inOf l k):=by
 intro l
 induction l with
 | nil=>intro om;simp[puts,inOf]
 | cons a l ih=>
  intro om
  have:=ih (mput a (a,i) om)
  unfold puts at this ⊢
  rw[List.foldl_cons,this,Wpo]
  have:inOf (a::l) k=(Wak k a || inOf l k):=by simp[inOf]
  rw[this,Whc k a,Bool.or_assoc]
def phHE(hsN:List ByteArray)(om:MapI)(i:Int)(p:Was)(k:Nat):Err:=
 if inOf hsN (p.2.1.getD k (ByteArray.mk #[]))then(if !(mhas (p.2.1.getD k (ByteArray.mk #[])) (puts i om (p.2.1.take k)))then(0,0)else(71,p.2.2))else(72,p.2.2)
def phE1(hsN phN:List ByteArray)(om:MapI)(i:Int)(p:Was):Err:=
 if !(inOf phN p.1)then(if(Wb0 p.2.1.length (phHE hsN om i p)).1=0 then(if decide (0 < ((p.2.1.length:Nat):Int))then(0,0)else(73,p.2.2))else Wb0 p.2.1.length (phHE hsN om i p))else(71,p.2.2)
theorem Ev.mustL{X A:Type}{b:Bool}{e p:Int}{r:Err}{v:X}{g:Nat→Unit→Option (X ⊕ (Err ⊕ A))}(he:e≠0)(h:b=true→Ev (fun n=>g n ()) (if r.1=0 then .inl v else .inr (.inl r))) :
 Ev (fun n=>(qep n (b,e,p)).bind (Sum.elim (fun y=>some (.inr (.inl y))) (g n))) (if(if b then r else(e,p)).1=0 then .inl v else .inr (.inl (if b then r else(e,p)))):=by
 refine Ev.must (f:=fun _ y=>some (Sum.inr (Sum.inl y))) (fun hb=>?_) (fun hb=>?_)
 ·rw[if_pos hb];exact h hb
 ·rw[if_neg (show ¬ b=true by rw[hb];exact Bool.false_ne_true),if_neg (show ¬((e,p):Err).1=0 from he)];exact Ev.ret _
theorem cphase_(i:Int)(p:Was)(x:Wa5)(hsN phN:List ByteArray)(om:MapI)(hl:Sh p.2.1) :
 Ev (fun n=>qel n (i,p.1,p.2.1,p.2.2,x.1,x.2.1,x.2.2.1,x.2.2.2.1,x.2.2.2.2.1,x.2.2.2.2.2.1,x.2.2.2.2.2.2,nset hsN,nset phN,om))
  (resE (phE1 hsN phN om i p) (x.1,x.2.1,x.2.2.1,x.2.2.2.1,x.2.2.2.2.1,x.2.2.2.2.2.1,x.2.2.2.2.2.2,nset (phN++[p.1]),nset hsN,puts i om p.2.1)):=by
 obtain⟨x1,x2,x3,x4,x5,x6,x7⟩:=x
 obtain⟨a1,a2,a3⟩:=p
 unfold qel
 refine Ev.bindS (fun n=>Wxw n _ _) ?_
 unfold phE1
 refine Ev.mustE (by decide) fun _=>?_
 simp only at hl ⊢
 refine Ev.loopS (st:=fun k=>(i,a2,((a2.length:Nat):Int),(k:Int),x1,x2,x3,x4,x5,x6,x7,a1,a2,a3,nset (phN++[a1]),nset hsN,puts i om (a2.take k))) a2.length (phHE hsN om i (a1,a2,a3)) (x1,x2,x3,x4,x5,x6,x7,a1,a2,a3,nset (phN++[a1]),nset hsN,puts i om a2) rfl (fun k hk _=>?_) (fun _=>?_) (fun h=>?_) (fun h=>?_)
 ·simp only[Wab hk,cond_true,Waf,hk,decide_true,Wag,Wad (show k < 9223372036854775807 by omega),Wfx,Wav _ _ (ByteArray.mk #[]) hk,Wx9]
  unfold phHE
  exact Ev.mustL (by decide) fun _=>Ev.mustL (by decide) fun _=>Ev.ret _
 ·simp only[Waa,cond_false,List.take_length];exact Ev.ret _
 ·rw[if_neg h,Wd6 h];exact Ev.ret _
 ·rw[if_pos (show(Wb0 a2.length (phHE hsN om i (a1,a2,a3))).1=0 by rw[Waz h])]
  exact Ev.mustE (by decide) fun _=>Ev.ret _
def Wvn(ps:List PedT)(phN:List ByteArray)(i:Nat):Err:=
 if !(inOf ((ps.take i).map (·.1)) (ps.getD i zPed).1)then(if inOf phN (ps.getD i zPed).2.1 then(if Wki (ps.getD i zPed)then(0,0)else(70,(ps.getD i zPed).2.2.2.2.2))else(72,(ps.getD i zPed).2.2.2.2.2))else(71,(ps.getD i zPed).2.2.2.2.2)
theorem Win{A B:Type}(f:A→B)(l:List A)(i:Nat)(d:A)(h:i < l.length):(l.take (i+1)).map f=(l.take i).map f++[f (l.getD i d)]:=by rw[Wav _ _ d h,List.map_append];rfl
theorem cwalks_(x:Wa5)(hsN phN:List ByteArray)(om:MapI)(hl:Sh x.2.2.1) :
 Ev (fun n=>qeo n (x.1,x.2.1,x.2.2.1,x.2.2.2.1,x.2.2.2.2.1,x.2.2.2.2.2.1,x.2.2.2.2.2.2,nset hsN,nset phN,om))
  (resE (Wb0 x.2.2.1.length (Wvn x.2.2.1 phN)) (x.1,x.2.1,x.2.2.1,x.2.2.2.1,x.2.2.2.2.1,x.2.2.2.2.2.1,x.2.2.2.2.2.2,nset hsN,nset phN,om)):=by
 obtain⟨x1,x2,x3,x4,x5,x6,x7⟩:=x
 unfold qeo
 simp only at hl ⊢
 refine Ev.loopS (st:=fun k=>(x3,((x3.length:Nat):Int),(k:Int),x1,x2,x3,x4,x5,x6,x7,nset hsN,nset phN,om,nset ((x3.take k).map (·.1)))) x3.length (Wvn x3 phN) (x1,x2,x3,x4,x5,x6,x7,nset hsN,nset phN,om) rfl (fun k hk _=>?_) (fun _=>?_) (fun h=>?_) (fun h=>?_)
 ·have hz:x3.getD k (ByteArray.mk #[],ByteArray.mk #[],0,0,0,0)=x3.getD k zPed:=rfl
  simp only[Wab hk,cond_true,Waf,hk,decide_true,Wag,hz,Wad (show k < 9223372036854775807 by omega),Wfx,Win _ _ _ zPed hk]
  unfold Wvn
  generalize x3.getD k zPed=p
  refine Ev.bindS (fun n=>Wxw n _ _) ?_
  refine Ev.mustL (by decide) fun _=>Ev.mustL (by decide) fun _=>?_
  unfold Wki
  refine Ev.bind (Wd7 _ _ _ (by simp)) ?_
  rw[all1]
  cases inR p.2.2.1 1 100000 with
  | false=>exact Ev.ret _
  | true=>
  refine Ev.bind (Wd7 _ _ _ (by simp)) ?_
  rw[all1]
  cases inR p.2.2.2.1 1 10000 with
  | false=>exact Ev.ret _
  | true=>
  refine Ev.bind (Wd7 _ _ _ (by simp)) ?_
  rw[all1]
  exact Ev.mustL (by decide) fun _=>Ev.ret _
 ·simp only[Waa,cond_false];exact Ev.ret _
 ·rw[Wd6 h];exact Ev.ret _
 ·rw[Waz h];exact Ev.ret _
def Wvo(fs:List FoeT)(hsN:List ByteArray)(om:MapI)(i:Nat):Err:=
 if inOf hsN (fs.getD i zFoe).1&&inOf hsN (fs.getD i zFoe).2.1 then(if !((mfind (fs.getD i zFoe).1 ((fs.getD i zFoe).1,0) om).2==(mfind (fs.getD i zFoe).2.1 ((fs.getD i zFoe).2.1,0) om).2)then(0,0)else(75,(fs.getD i zFoe).2.2))else(72,(fs.getD i zFoe).2.2)
theorem cfoes_(x:Wa5)(hsN:List ByteArray)(b:MapB)(om:MapI)(hl:Sh x.2.2.2.2.2.1) :
 Ev (fun n=>qej n (x.1,x.2.1,x.2.2.1,x.2.2.2.1,x.2.2.2.2.1,x.2.2.2.2.2.1,x.2.2.2.2.2.2,nset hsN,b,om))
  (resE (Wb0 x.2.2.2.2.2.1.length (Wvo x.2.2.2.2.2.1 hsN om)) (x.1,x.2.1,x.2.2.1,x.2.2.2.1,x.2.2.2.2.1,x.2.2.2.2.2.1,x.2.2.2.2.2.2,nset hsN,b,om)):=by
 obtain⟨x1,x2,x3,x4,x5,x6,x7⟩:=x
 unfold qej
 simp only at hl ⊢
 refine Ev.loopS (st:=fun k=>(x6,((x6.length:Nat):Int),(k:Int),x1,x2,x3,x4,x5,x6,x7,nset hsN,b,om)) x6.length (Wvo x6 hsN om) (x1,x2,x3,x4,x5,x6,x7,nset hsN,b,om) rfl (fun k hk _=>?_) (fun _=>?_) (fun h=>?_) (fun h=>?_)
 ·have hz:x6.getD k (ByteArray.mk #[],ByteArray.mk #[],0)=x6.getD k zFoe:=rfl
  simp only[Wab hk,cond_true,Waf,hk,decide_true,Wag,hz,Wad (show k < 9223372036854775807 by omega),Wfx,letJ]
  unfold Wvo
  generalize x6.getD k zFoe=p
  cases inOf hsN p.1 with
  | false=>exact Ev.ret _
  | true=>
  exact Ev.mustL (by decide) fun _=>Ev.mustL (by decide) fun _=>Ev.ret _
 ·simp only[Waa,cond_false];exact Ev.ret _
 ·rw[Wd6 h];exact Ev.ret _
 ·rw[Waz h];exact Ev.ret _
end Go.Proofs.YtalbenehgdkalaaGreat.Fn