/- Texts of the proof. -/
import Derived.Test.YtalbenehgdkalaaGreatChecksD
namespace Go.Proofs.YtalbenehgdkalaaGreat.Fn
open Go Go.RowKit Go.Den
theorem Wey{N:Nat}{f g:Nat→Err}(h:∀ i,i < N→f i=g i):Wb0 N f=Wb0 N g:=by
 by_cases h0:∀ i,i < N→(f i).1=0
 ·rw[Waz h0,Waz fun i hi=>by rw[← h i hi];exact h0 i hi]
 ·have:∃ i,i < N∧(f i).1≠0∧∀ k,k < i→(f k).1=0:=by
   have hex:∃ i,i < N∧(f i).1≠0:=by
    refine Classical.byContradiction fun hn=>h0 fun i hi=>?_
    exact Classical.byContradiction fun hne=>hn ⟨i,hi,hne⟩
   obtain⟨i,hi⟩:=hex
   induction i using Nat.strongRecOn with
   | _ i ih=>
    by_cases hk:∃ k,k < i∧(f k).1≠0
    ·obtain⟨k,hki,hkn⟩:=hk
     exact ih k hki ⟨by omega,hkn⟩
    ·exact⟨i,hi.1,hi.2,fun k hki=>Classical.byContradiction fun hne=>hk ⟨k,hki,hne⟩⟩
  obtain⟨i,hi,hne,hk⟩:=this
  rw[Wk4 hi hne hk,Wk4 (f:=g) hi (by rw[← h i hi];exact hne) fun k hki=>by rw[← h k (by omega)];exact hk k hki]
  exact h i hi
theorem Wmc{A:Type}(f:A→ByteArray)(l:List A)(k:ByteArray):inOf (l.map f) k=l.any fun q=>Wak (f q) k:=by rw[Wgn,List.any_map];rfl
theorem pedE1_eq(ps:List PedT)(ph:List Was)(i:Nat):Wvn ps (ph.map (·.1)) i=pedE ps ph i:=by
 unfold Wvn pedE Wd4
 rw[Wmc,Wpw]
 cases (ps.take i).any fun q=>Wak q.1 (ps.getD i zPed).1 with
 | true=>rfl
 | false=>
  by_cases h:idxI (fun h:Was=>Wak h.1 (ps.getD i zPed).2.1) ph < 0
  ·rw[if_pos h,decide_eq_true h];rfl
  ·rw[if_neg h,decide_eq_false h];rfl
theorem Wmd(ph:List Was)(k:ByteArray):∀ i,i≤ph.length→mhas k (Wej ph i)=(ph.take i).any fun p=>inOf p.2.1 k:=by
 intro i
 induction i with
 | zero=>intro _;simp[Wej,mhas,hasP]
 | succ i ih=>
  intro hi
  rw[show Wej ph (i+1)=puts i (Wej ph i) (ph.getD i Wax).2.1 from rfl,Wt2,ih (by omega),Wav _ _ Wax (by omega),List.any_append]
  simp
theorem Xc4(l:List ByteArray)(j:Nat)(h:j < l.length):inOf l (l.getD j (ByteArray.mk #[]))=true:=by
 rw[Wgn]
 exact(Wct _ (ByteArray.mk #[]) l).2 ⟨j,h,(Wbb _ _).2 rfl⟩
theorem phHE_eq(hs:List Wbv)(ph:List Was)(i j:Nat)(hi:i < ph.length)(hj:j < (ph.getD i Wax).2.1.length) :
 phHE (hs.map (·.1)) (Wej ph i) i (ph.getD i Wax) j=Wh5 hs ph i (ph.getD i Wax) j:=by
 unfold phHE Wh5 Wa1 Wa9
 rw[Wt2,Wmd _ _ _ (by omega),Wpw]
 have hk:=Xc4 _ _ hj
 have h:=Wfy (fun p:Was=>inOf p.2.1 ((ph.getD i Wax).2.1.getD j (ByteArray.mk #[]))) Wax ph i hi hk
 rw[← h]
 generalize (ph.getD i Wax).2.1.getD j (ByteArray.mk #[])=k
 by_cases h1:idxI (fun h:Wbv=>Wak h.1 k) hs < 0
 ·rw[if_pos h1,decide_eq_true h1];rfl
 ·rw[if_neg h1,decide_eq_false h1]
  by_cases h2:idxI (fun p:Was=>inOf p.2.1 k) ph < (i:Int)
  ·rw[if_pos (Or.inl h2),decide_eq_true h2];rfl
  ·rw[decide_eq_false h2]
   cases h3:inOf ((ph.getD i Wax).2.1.take j) k with
   | true=>rw[if_pos (Or.inr rfl)];rfl
   | false=>
    have hn:¬(idxI (fun p:Was=>inOf p.2.1 k) ph < (i:Int)∨false=true):=fun h=>h.elim h2 (fun h=>by cases h)
    rw[if_neg hn];rfl
theorem phE2_eq(hs:List Wbv)(ph:List Was)(i:Nat)(hi:i < ph.length):phE2 (hs.map (·.1)) ph i=Whv hs ph i:=by
 unfold phE2 phE1 Whv Wd4
 rw[Wey fun j hj=>phHE_eq hs ph i j hi hj,Wmc]
 have h:=Wfy (fun h:Was=>Wak h.1 (ph.getD i Wax).1) Wax ph i hi ((Wbb _ _).2 rfl)
 rw[← h,Wtw]
 by_cases h1:idxI (fun h:Was=>Wak h.1 (ph.getD i Wax).1) ph < (i:Int)
 ·rw[if_pos h1,decide_eq_true h1];rfl
 ·rw[if_neg h1,decide_eq_false h1]
  by_cases h2:(ph.getD i Wax).2.1.length=0
  ·rw[if_pos h2,decide_eq_true h2];rfl
  ·rw[if_neg h2,decide_eq_false h2];rfl
theorem Xc5(hs:List Wbv)(ph:List Was)(i:Nat):Xbg hs (Wej ph ph.length) i=Wpv hs ph i:=by
 unfold Xbg Wpv Wa9
 rw[Wmd _ _ _ (Nat.le_refl _),List.take_length]
 have h:=Woc (fun p:Was=>inOf p.2.1 (hs.getD i Wck).1) ph
 by_cases h1:idxI (fun p:Was=>inOf p.2.1 (hs.getD i Wck).1) ph < 0
 ·rw[if_pos h1]
  rw[decide_eq_true h1]at h
  rw[if_neg (fun e=>by rw[e]at h;cases h)]
 ·rw[if_neg h1]
  rw[decide_eq_false h1]at h
  have hany:(ph.any fun p:Was=>inOf p.2.1 (hs.getD i Wck).1)=true:=by
   cases hq:ph.any fun p:Was=>inOf p.2.1 (hs.getD i Wck).1 with
   | true=>rfl
   | false=>rw[hq]at h;cases h
  rw[if_pos hany]
def GoodM(ph:List Was)(m:MapI):Prop:=∀ k z,mhas k m=true→(mfind k z m).2=Wa9 ph k
theorem Wx7(ph:List Was)(i:Int):∀(l:List ByteArray) (m:MapI),GoodM ph m→(∀ k∈l,Wa9 ph k=i)→GoodM ph (puts i m l):=by
 intro l
 induction l with
 | nil=>intro m h _;exact h
 | cons a l ih=>
  intro m h hl
  have:puts i m (a::l)=puts i (mput a (a,i) m) l:=rfl
  rw[this]
  refine ih _ (fun k z hk=>?_) fun k hk=>hl k (by simp[hk])
  rw[Wnr]
  by_cases e:Wak a k=true
  ·rw[if_pos e]
   rw[Wbb]at e
   subst e
   exact(hl a (by simp)).symm
  ·rw[if_neg e]
   rw[Wpo]at hk
   exact h k z (by simpa[show Wak a k=false by simpa using e]using hk)
theorem Xc6(hs:List Wbv)(ph:List Was):∀ i,i≤ph.length→(∀ j,j < i→(Whv hs ph j).1=0)→GoodM ph (Wej ph i):=by
 intro i
 induction i with
 | zero=>intro _ _ k z h;cases h
 | succ i ih=>
  intro hi h
  refine Wx7 ph i _ _ (ih (by omega) fun j hj=>h j (by omega)) fun k hk=>?_
  have hz:=h i (by omega)
  unfold Whv at hz
  split at hz
  ·cases hz
  split at hz
  ·rename_i h1 h2
   obtain⟨j,hj,hjk⟩:=List.mem_iff_getElem.1 hk
   have hd:(ph.getD i Wax).2.1.getD j (ByteArray.mk #[])=k:=by rw[Wbp _ _ _ hj];exact hjk
   have h3:=Whd h2 j hj
   unfold Wh5 at h3
   split at h3
   ·cases h3
   split at h3
   ·cases h3
   rename_i h4 h5
   rw[hd]at h5
   have hin:inOf (ph.getD i Wax).2.1 k=true:=by rw[← hd];exact Xc4 _ _ hj
   have ha:=Wfy (fun p:Was=>inOf p.2.1 k) Wax ph i (by omega) hin
   have hnl:¬ idxI (fun p:Was=>inOf p.2.1 k) ph < (i:Int):=fun e=>h5 (.inl e)
   rw[decide_eq_false hnl]at ha
   unfold Wa9
   refine We2 _ Wax ph i (by omega) (fun q hq=>?_) hin
   cases hv:inOf (ph.getD q Wax).2.1 k with
   | false=>rfl
   | true=>
    have:((ph.take i).any fun p=>inOf p.2.1 k)=true:=(Wct _ Wax _).2 ⟨q,by simp;omega,by rw[Wc7 _ _ _ _ hq];exact hv⟩
    rw[this]at ha;cases ha
  ·rename_i h1 h2;exact absurd hz h2
theorem foeE1_eq(hs:List Wbv)(ph:List Was)(fs:List FoeT)(i:Nat)(hp:∀ j,j < ph.length→(Whv hs ph j).1=0)(hh:∀ j,j < hs.length→(Wpv hs ph j).1=0) :
 Wvo fs (hs.map (·.1)) (Wej ph ph.length) i=foeE hs ph fs i:=by
 have good:=Xc6 hs ph ph.length (Nat.le_refl _) hp
 have find:∀ k,inOf (hs.map (·.1)) k=true→∀ z,(mfind k z (Wej ph ph.length)).2=Wa9 ph k:=by
  intro k hk z
  refine good k z ?_
  rw[Wmc]at hk
  obtain⟨j,hj,hjk⟩:=(Wct _ Wck hs).1 hk
  rw[Wbb]at hjk
  have:=hh j hj
  unfold Wpv at this
  split at this
  ·cases this
  rename_i h1
  rw[hjk]at h1
  rw[Wmd _ _ _ (Nat.le_refl _),List.take_length,← Wec]
  unfold Wa9 at h1
  exact decide_eq_true (by omega)
 unfold Wvo foeE Wa1
 generalize fs.getD i zFoe=f
 have e1:=Wpw (fun h:Wbv=>h.1) hs f.1
 have e2:=Wpw (fun h:Wbv=>h.1) hs f.2.1
 by_cases h1:idxI (fun h:Wbv=>Wak h.1 f.1) hs < 0
 ·rw[if_pos (Or.inl h1),e1,decide_eq_true h1];rfl
 by_cases h2:idxI (fun h:Wbv=>Wak h.1 f.2.1) hs < 0
 ·rw[if_pos (Or.inr h2),e2,decide_eq_true h2,Bool.not_true,Bool.and_false];rfl
 have hn:¬(idxI (fun h:Wbv=>Wak h.1 f.1) hs < 0∨idxI (fun h:Wbv=>Wak h.1 f.2.1) hs < 0):=fun h=>h.elim h1 h2
 rw[if_neg hn]
 have a1:inOf (hs.map (·.1)) f.1=true:=by rw[e1,decide_eq_false h1];rfl
 have a2:inOf (hs.map (·.1)) f.2.1=true:=by rw[e2,decide_eq_false h2];rfl
 rw[find _ a1,find _ a2,a1,a2,if_pos (show(true&&true)=true from rfl)]
 by_cases h3:Wa9 ph f.1=Wa9 ph f.2.1
 ·rw[if_pos (show Wak f.1 f.2.1=true∨Wa9 ph f.1=Wa9 ph f.2.1 from .inr h3),h3];simp
 ·have h4:¬ Wak f.1 f.2.1=true:=fun e=>h3 (by rw[(Wbb _ _).1 e])
  have hn2:¬(Wak f.1 f.2.1=true∨Wa9 ph f.1=Wa9 ph f.2.1):=fun h=>h.elim h4 h3
  rw[if_neg hn2];simp[h3]
theorem Wme(a b c:Err):Wdb (Wdb a b) c=Wdb a (Wdb b c):=by
 unfold Wdb
 by_cases h:a.1=0
 ·rw[if_pos h,if_pos h]
 ·rw[if_neg h,if_neg h,if_neg h]
theorem Wez{a b c:Err}(h:a.1=0→b=c):Wdb a b=Wdb a c:=by
 unfold Wdb
 by_cases h0:a.1=0
 ·rw[if_pos h0,if_pos h0,h h0]
 ·rw[if_neg h0,if_neg h0]
theorem Wx8(N:Nat)(f:Nat→Err):Wdb (Wb0 N f) (0,0)=Wb0 N f:=by
 unfold Wdb
 by_cases h:(Wb0 N f).1=0
 ·rw[if_pos h,Wm4 h]
 ·rw[if_neg h]
theorem Xc7(x:Wa5):Wu3 x=Wmh x:=by
 unfold Wu3 Wmh Wl5
 obtain⟨x1,x2,x3,x4,x5,x6,x7⟩:=x
 by_cases h1:Wjj (x1,x2,x3,x4,x5,x6,x7)=true
 ·rw[if_pos h1,if_pos h1]
  by_cases h2:Wm3 (x1,x2,x3,x4,x5,x6,x7)=true
  ·rw[if_pos h2,if_pos h2,Wo4 rfl]
   simp only[Wme]
   refine Wez fun _=>?_
   rw[Wey fun i hi=>phE2_eq x2 x4 i hi]
   have:Wn2 x2 x4=Wdb (Wb0 x4.length (Whv x2 x4)) (Wb0 x2.length (Wpv x2 x4)):=rfl
   rw[this,Wme]
   refine Wez fun hp=>?_
   rw[Wey fun i _=>Xc5 x2 x4 i]
   refine Wez fun hh=>?_
   rw[Wey fun i _=>pedE1_eq x3 x4 i]
   refine Wez (b:=_) fun _=>Wez fun _=>?_
   rw[Wx8]
   exact Wey fun i _=>foeE1_eq x2 x4 x6 i (Whd hp) (Whd hh)
  ·rw[if_neg h2,if_neg h2,Wkr (show(73:Int)≠0 by decide)]
 ·rw[if_neg h1,if_neg h1,Wkr (show(4:Int)≠0 by decide)]
theorem cnode07_(x:Wa5)(hpp:∀ p∈x.2.2.2.1,Sh p.2.1):Ev (fun n=>qeq n x) (resE (Wmh x) ()):=by
 rw[← Xc7];exact cnode_ x hpp
end Go.Proofs.YtalbenehgdkalaaGreat.Fn