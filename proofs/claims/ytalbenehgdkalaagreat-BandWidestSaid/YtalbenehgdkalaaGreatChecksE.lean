/- Texts of the proof. -/
import Derived.Test.YtalbenehgdkalaaGreatChecksD
namespace Go.Proofs.YtalbenehgdkalaaGreat.Fn
open Go Go.RowKit Go.Den
theorem Weg{N:Nat}{f g:Nat→Err}(h:∀ i,i < N→f i=g i):Wbn N f=Wbn N g:=by
 by_cases h0:∀ i,i < N→(f i).1=0
 ·rw[Wbo h0,Wbo fun i hi=>by rw[← h i hi];exact h0 i hi]
 ·have:∃ i,i < N∧(f i).1≠0∧∀ k,k < i→(f k).1=0:=by
   have hex:∃ i,i < N∧(f i).1≠0:=by
    refine Classical.byContradiction fun hn=>h0 fun i hi=>?_
    exact Classical.byContradiction fun hne=>hn ⟨i,hi,hne⟩
   obtain⟨i,hi⟩:=hex
   induction i using Nat.strongRecOn with
   | _ i ih=>
    by_cases hk:∃ k,k < i∧(f k).1≠0
    ·obtain⟨k,hki,hkn⟩:=hk
     exact ih k hki ⟨by omega,hkn⟩
    ·exact⟨i,hi.1,hi.2,fun k hki=>Classical.byContradiction fun hne=>hk ⟨k,hki,hne⟩⟩
  obtain⟨i,hi,hne,hk⟩:=this
  rw[Wj8 hi hne hk,Wj8 (f:=g) hi (by rw[← h i hi];exact hne) fun k hki=>by rw[← h k (by omega)];exact hk k hki]
  exact h i hi
theorem Wlc{A:Type}(f:A→ByteArray)(l:List A)(k:ByteArray):inOf (l.map f) k=l.any fun q=>Wam (f q) k:=by rw[Whw,List.any_map];rfl
theorem pedE1_eq(ps:List PedT)(ph:List Wat)(i:Nat):Wt6 ps (ph.map (·.1)) i=pedE ps ph i:=by
 unfold Wt6 pedE Wil
 rw[Wlc,Wor]
 cases (ps.take i).any fun q=>Wam q.1 (ps.getD i zPed).1 with
 | true=>rfl
 | false=>
  by_cases h:idxI (fun h:Wat=>Wam h.1 (ps.getD i zPed).2.1) ph < 0
  ·rw[if_pos h,decide_eq_true h];rfl
  ·rw[if_neg h,decide_eq_false h];rfl
theorem Wld(ph:List Wat)(k:ByteArray):∀ i,i≤ph.length→mhas k (Wd1 ph i)=(ph.take i).any fun p=>inOf p.2.1 k:=by
 intro i
 induction i with
 | zero=>intro _;simp[Wd1,mhas,hasP]
 | succ i ih=>
  intro hi
  rw[show Wd1 ph (i+1)=puts i (Wd1 ph i) (ph.getD i Wa4).2.1 from rfl,Wsq,ih (by omega),Wa0 _ _ Wa4 (by omega),List.any_append]
  simp
theorem Xap(l:List ByteArray)(j:Nat)(h:j < l.length):inOf l (l.getD j (ByteArray.mk #[]))=true:=by
 rw[Whw]
 exact(Wgo _ (ByteArray.mk #[]) l).2 ⟨j,h,(Wbc _ _).2 rfl⟩
theorem phHE_eq(hs:List Wbu)(ph:List Wat)(i j:Nat)(hi:i < ph.length)(hj:j < (ph.getD i Wa4).2.1.length) :
 phHE (hs.map (·.1)) (Wd1 ph i) i (ph.getD i Wa4) j=Wju hs ph i (ph.getD i Wa4) j:=by
 unfold phHE Wju Wbe Wb8
 rw[Wsq,Wld _ _ _ (by omega),Wor]
 have hk:=Xap _ _ hj
 have h:=Wfe (fun p:Wat=>inOf p.2.1 ((ph.getD i Wa4).2.1.getD j (ByteArray.mk #[]))) Wa4 ph i hi hk
 rw[← h]
 generalize (ph.getD i Wa4).2.1.getD j (ByteArray.mk #[])=k
 by_cases h1:idxI (fun h:Wbu=>Wam h.1 k) hs < 0
 ·rw[if_pos h1,decide_eq_true h1];rfl
 ·rw[if_neg h1,decide_eq_false h1]
  by_cases h2:idxI (fun p:Wat=>inOf p.2.1 k) ph < (i:Int)
  ·rw[if_pos (Or.inl h2),decide_eq_true h2];rfl
  ·rw[decide_eq_false h2]
   cases h3:inOf ((ph.getD i Wa4).2.1.take j) k with
   | true=>rw[if_pos (Or.inr rfl)];rfl
   | false=>
    have hn:¬(idxI (fun p:Wat=>inOf p.2.1 k) ph < (i:Int)∨false=true):=fun h=>h.elim h2 (fun h=>by cases h)
    rw[if_neg hn];rfl
theorem phE2_eq(hs:List Wbu)(ph:List Wat)(i:Nat)(hi:i < ph.length):phE2 (hs.map (·.1)) ph i=Wix hs ph i:=by
 unfold phE2 phE1 Wix Wil
 rw[Weg fun j hj=>phHE_eq hs ph i j hi hj,Wlc]
 have h:=Wfe (fun h:Wat=>Wam h.1 (ph.getD i Wa4).1) Wa4 ph i hi ((Wbc _ _).2 rfl)
 rw[← h,Wsj]
 by_cases h1:idxI (fun h:Wat=>Wam h.1 (ph.getD i Wa4).1) ph < (i:Int)
 ·rw[if_pos h1,decide_eq_true h1];rfl
 ·rw[if_neg h1,decide_eq_false h1]
  by_cases h2:(ph.getD i Wa4).2.1.length=0
  ·rw[if_pos h2,decide_eq_true h2];rfl
  ·rw[if_neg h2,decide_eq_false h2];rfl
theorem Xaq(hs:List Wbu)(ph:List Wat)(i:Nat):Wy6 hs (Wd1 ph ph.length) i=Wuc hs ph i:=by
 unfold Wy6 Wuc Wb8
 rw[Wld _ _ _ (Nat.le_refl _),List.take_length]
 have h:=Wm9 (fun p:Wat=>inOf p.2.1 (hs.getD i Wdu).1) ph
 by_cases h1:idxI (fun p:Wat=>inOf p.2.1 (hs.getD i Wdu).1) ph < 0
 ·rw[if_pos h1]
  rw[decide_eq_true h1]at h
  rw[if_neg (fun e=>by rw[e]at h;cases h)]
 ·rw[if_neg h1]
  rw[decide_eq_false h1]at h
  have hany:(ph.any fun p:Wat=>inOf p.2.1 (hs.getD i Wdu).1)=true:=by
   cases hq:ph.any fun p:Wat=>inOf p.2.1 (hs.getD i Wdu).1 with
   | true=>rfl
   | false=>rw[hq]at h;cases h
  rw[if_pos hany]
def GoodM(ph:List Wat)(m:MapI):Prop:=∀ k z,mhas k m=true→(mfind k z m).2=Wb8 ph k
theorem Wwf(ph:List Wat)(i:Int):∀(l:List ByteArray) (m:MapI),GoodM ph m→(∀ k∈l,Wb8 ph k=i)→GoodM ph (puts i m l):=by
 intro l
 induction l with
 | nil=>intro m h _;exact h
 | cons a l ih=>
  intro m h hl
  have:puts i m (a::l)=puts i (mput a (a,i) m) l:=rfl
  rw[this]
  refine ih _ (fun k z hk=>?_) fun k hk=>hl k (by simp[hk])
  rw[Wmk]
  by_cases e:Wam a k=true
  ·rw[if_pos e]
   rw[Wbc]at e
   subst e
   exact(hl a (by simp)).symm
  ·rw[if_neg e]
   rw[Won]at hk
   exact h k z (by simpa[show Wam a k=false by simpa using e]using hk)
theorem Xar(hs:List Wbu)(ph:List Wat):∀ i,i≤ph.length→(∀ j,j < i→(Wix hs ph j).1=0)→GoodM ph (Wd1 ph i):=by
 intro i
 induction i with
 | zero=>intro _ _ k z h;cases h
 | succ i ih=>
  intro hi h
  refine Wwf ph i _ _ (ih (by omega) fun j hj=>h j (by omega)) fun k hk=>?_
  have hz:=h i (by omega)
  unfold Wix at hz
  split at hz
  ·cases hz
  split at hz
  ·rename_i h1 h2
   obtain⟨j,hj,hjk⟩:=List.mem_iff_getElem.1 hk
   have hd:(ph.getD i Wa4).2.1.getD j (ByteArray.mk #[])=k:=by rw[Wb3 _ _ _ hj];exact hjk
   have h3:=Wh1 h2 j hj
   unfold Wju at h3
   split at h3
   ·cases h3
   split at h3
   ·cases h3
   rename_i h4 h5
   rw[hd]at h5
   have hin:inOf (ph.getD i Wa4).2.1 k=true:=by rw[← hd];exact Xap _ _ hj
   have ha:=Wfe (fun p:Wat=>inOf p.2.1 k) Wa4 ph i (by omega) hin
   have hnl:¬ idxI (fun p:Wat=>inOf p.2.1 k) ph < (i:Int):=fun e=>h5 (.inl e)
   rw[decide_eq_false hnl]at ha
   unfold Wb8
   refine Wji _ Wa4 ph i (by omega) (fun q hq=>?_) hin
   cases hv:inOf (ph.getD q Wa4).2.1 k with
   | false=>rfl
   | true=>
    have:((ph.take i).any fun p=>inOf p.2.1 k)=true:=(Wgo _ Wa4 _).2 ⟨q,by simp;omega,by rw[Wjv _ _ _ _ hq];exact hv⟩
    rw[this]at ha;cases ha
  ·rename_i h1 h2;exact absurd hz h2
theorem foeE1_eq(hs:List Wbu)(ph:List Wat)(fs:List FoeT)(i:Nat)(hp:∀ j,j < ph.length→(Wix hs ph j).1=0)(hh:∀ j,j < hs.length→(Wuc hs ph j).1=0) :
 Wt7 fs (hs.map (·.1)) (Wd1 ph ph.length) i=foeE hs ph fs i:=by
 have good:=Xar hs ph ph.length (Nat.le_refl _) hp
 have find:∀ k,inOf (hs.map (·.1)) k=true→∀ z,(mfind k z (Wd1 ph ph.length)).2=Wb8 ph k:=by
  intro k hk z
  refine good k z ?_
  rw[Wlc]at hk
  obtain⟨j,hj,hjk⟩:=(Wgo _ Wdu hs).1 hk
  rw[Wbc]at hjk
  have:=hh j hj
  unfold Wuc at this
  split at this
  ·cases this
  rename_i h1
  rw[hjk]at h1
  rw[Wld _ _ _ (Nat.le_refl _),List.take_length,← Wdv]
  unfold Wb8 at h1
  exact decide_eq_true (by omega)
 unfold Wt7 foeE Wbe
 generalize fs.getD i zFoe=f
 have e1:=Wor (fun h:Wbu=>h.1) hs f.1
 have e2:=Wor (fun h:Wbu=>h.1) hs f.2.1
 by_cases h1:idxI (fun h:Wbu=>Wam h.1 f.1) hs < 0
 ·rw[if_pos (Or.inl h1),e1,decide_eq_true h1];rfl
 by_cases h2:idxI (fun h:Wbu=>Wam h.1 f.2.1) hs < 0
 ·rw[if_pos (Or.inr h2),e2,decide_eq_true h2,Bool.not_true,Bool.and_false];rfl
 have hn:¬(idxI (fun h:Wbu=>Wam h.1 f.1) hs < 0∨idxI (fun h:Wbu=>Wam h.1 f.2.1) hs < 0):=fun h=>h.elim h1 h2
 rw[if_neg hn]
 have a1:inOf (hs.map (·.1)) f.1=true:=by rw[e1,decide_eq_false h1];rfl
 have a2:inOf (hs.map (·.1)) f.2.1=true:=by rw[e2,decide_eq_false h2];rfl
 rw[find _ a1,find _ a2,a1,a2,if_pos (show(true&&true)=true from rfl)]
 by_cases h3:Wb8 ph f.1=Wb8 ph f.2.1
 ·rw[if_pos (show Wam f.1 f.2.1=true∨Wb8 ph f.1=Wb8 ph f.2.1 from .inr h3),h3];simp
 ·have h4:¬ Wam f.1 f.2.1=true:=fun e=>h3 (by rw[(Wbc _ _).1 e])
  have hn2:¬(Wam f.1 f.2.1=true∨Wb8 ph f.1=Wb8 ph f.2.1):=fun h=>h.elim h4 h3
  rw[if_neg hn2];simp[h3]
theorem Wle(a b c:Err):Wc5 (Wc5 a b) c=Wc5 a (Wc5 b c):=by
 unfold Wc5
 by_cases h:a.1=0
 ·rw[if_pos h,if_pos h]
 ·rw[if_neg h,if_neg h,if_neg h]
theorem Weh{a b c:Err}(h:a.1=0→b=c):Wc5 a b=Wc5 a c:=by
 unfold Wc5
 by_cases h0:a.1=0
 ·rw[if_pos h0,if_pos h0,h h0]
 ·rw[if_neg h0,if_neg h0]
theorem Wwg(N:Nat)(f:Nat→Err):Wc5 (Wbn N f) (0,0)=Wbn N f:=by
 unfold Wc5
 by_cases h:(Wbn N f).1=0
 ·rw[if_pos h,Wlx h]
 ·rw[if_neg h]
theorem Xas(x:Wa5):Wtq x=Wrh x:=by
 unfold Wtq Wrh Wk8
 obtain⟨x1,x2,x3,x4,x5,x6,x7⟩:=x
 by_cases h1:Wj5 (x1,x2,x3,x4,x5,x6,x7)=true
 ·rw[if_pos h1,if_pos h1]
  by_cases h2:Wo3 (x1,x2,x3,x4,x5,x6,x7)=true
  ·rw[if_pos h2,if_pos h2,Wnz rfl]
   simp only[Wle]
   refine Weh fun _=>?_
   rw[Weg fun i hi=>phE2_eq x2 x4 i hi]
   have:Wwu x2 x4=Wc5 (Wbn x4.length (Wix x2 x4)) (Wbn x2.length (Wuc x2 x4)):=rfl
   rw[this,Wle]
   refine Weh fun hp=>?_
   rw[Weg fun i _=>Xaq x2 x4 i]
   refine Weh fun hh=>?_
   rw[Weg fun i _=>pedE1_eq x3 x4 i]
   refine Weh (b:=_) fun _=>Weh fun _=>?_
   rw[Wwg]
   exact Weg fun i _=>foeE1_eq x2 x4 x6 i (Wh1 hp) (Wh1 hh)
  ·rw[if_neg h2,if_neg h2,Wjo (show(73:Int)≠0 by decide)]
 ·rw[if_neg h1,if_neg h1,Wjo (show(4:Int)≠0 by decide)]
theorem cnode07_(x:Wa5)(hpp:∀ p∈x.2.2.2.1,Sh p.2.1):Ev (fun n=>qdr n x) (resE (Wrh x) ()):=by
 rw[← Xas];exact cnode_ x hpp
end Go.Proofs.YtalbenehgdkalaaGreat.Fn