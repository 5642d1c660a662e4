/- Texts of the proof. -/
import Derived.Test.YtalbenehgdkalaaGreatChecksD
namespace Go.Proofs.YtalbenehgdkalaaGreat.Fn
open Go Go.RowKit Go.Den
theorem Wex{N:Nat}{f g:Nat→Err}(h:∀ i,i < N→f i=g i):Wb0 N f=Wb0 N g:=by
 by_cases h0:∀ i,i < N→(f i).1=0
 ·rw[Wax h0,Wax fun i hi=>by rw[← h i hi];exact h0 i hi]
 ·have:∃ i,i < N∧(f i).1≠0∧∀ k,k < i→(f k).1=0:=by
   have hex:∃ i,i < N∧(f i).1≠0:=by
    refine Classical.byContradiction fun hn=>h0 fun i hi=>?_
    exact Classical.byContradiction fun hne=>hn ⟨i,hi,hne⟩
   obtain⟨i,hi⟩:=hex
   induction i using Nat.strongRecOn with
   | _ i ih=>
    by_cases hk:∃ k,k < i∧(f k).1≠0
    ·obtain⟨k,hki,hkn⟩:=hk
     exact ih k hki ⟨by omega,hkn⟩
    ·exact⟨i,hi.1,hi.2,fun k hki=>Classical.byContradiction fun hne=>hk ⟨k,hki,hne⟩⟩
  obtain⟨i,hi,hne,hk⟩:=this
  rw[Wkx hi hne hk,Wkx (f:=g) hi (by rw[← h i hi];exact hne) fun k hki=>by rw[← h k (by omega)];exact hk k hki]
  exact h i hi
theorem Wl7{A:Type}(f:A→ByteArray)(l:List A)(k:ByteArray):inOf (l.map f) k=l.any fun q=>Wak (f q) k:=by rw[Wgk,List.any_map];rfl
theorem pedE1_eq(ps:List PedT)(ph:List Was)(i:Nat):Wvh ps (ph.map (·.1)) i=pedE ps ph i:=by
 unfold Wvh pedE Wd3
 rw[Wl7,Wpr]
 cases (ps.take i).any fun q=>Wak q.1 (ps.getD i zPed).1 with
 | true=>rfl
 | false=>
  by_cases h:idxI (fun h:Was=>Wak h.1 (ps.getD i zPed).2.1) ph < 0
  ·rw[if_pos h,decide_eq_true h];rfl
  ·rw[if_neg h,decide_eq_false h];rfl
theorem Wl8(ph:List Was)(k:ByteArray):∀ i,i≤ph.length→mhas k (Wei ph i)=(ph.take i).any fun p=>inOf p.2.1 k:=by
 intro i
 induction i with
 | zero=>intro _;simp[Wei,mhas,hasP]
 | succ i ih=>
  intro hi
  rw[show Wei ph (i+1)=puts i (Wei ph i) (ph.getD i Waw).2.1 from rfl,Wtw,ih (by omega),Wav _ _ Waw (by omega),List.any_append]
  simp
theorem Xct(l:List ByteArray)(j:Nat)(h:j < l.length):inOf l (l.getD j (ByteArray.mk #[]))=true:=by
 rw[Wgk]
 exact(Wct _ (ByteArray.mk #[]) l).2 ⟨j,h,(Wbb _ _).2 rfl⟩
theorem phHE_eq(hs:List Wbu)(ph:List Was)(i j:Nat)(hi:i < ph.length)(hj:j < (ph.getD i Waw).2.1.length) :
 phHE (hs.map (·.1)) (Wei ph i) i (ph.getD i Waw) j=Wh3 hs ph i (ph.getD i Waw) j:=by
 unfold phHE Wh3 Wa1 Wa9
 rw[Wtw,Wl8 _ _ _ (by omega),Wpr]
 have hk:=Xct _ _ hj
 have h:=Wfw (fun p:Was=>inOf p.2.1 ((ph.getD i Waw).2.1.getD j (ByteArray.mk #[]))) Waw ph i hi hk
 rw[← h]
 generalize (ph.getD i Waw).2.1.getD j (ByteArray.mk #[])=k
 by_cases h1:idxI (fun h:Wbu=>Wak h.1 k) hs < 0
 ·rw[if_pos h1,decide_eq_true h1];rfl
 ·rw[if_neg h1,decide_eq_false h1]
  by_cases h2:idxI (fun p:Was=>inOf p.2.1 k) ph < (i:Int)
  ·rw[if_pos (Or.inl h2),decide_eq_true h2];rfl
  ·rw[decide_eq_false h2]
   cases h3:inOf ((ph.getD i Waw).2.1.take j) k with
   | true=>rw[if_pos (Or.inr rfl)];rfl
   | false=>
    have hn:¬(idxI (fun p:Was=>inOf p.2.1 k) ph < (i:Int)∨false=true):=fun h=>h.elim h2 (fun h=>by cases h)
    rw[if_neg hn];rfl
theorem phE2_eq(hs:List Wbu)(ph:List Was)(i:Nat)(hi:i < ph.length):phE2 (hs.map (·.1)) ph i=Wht hs ph i:=by
 unfold phE2 phE1 Wht Wd3
 rw[Wex fun j hj=>phHE_eq hs ph i j hi hj,Wl7]
 have h:=Wfw (fun h:Was=>Wak h.1 (ph.getD i Waw).1) Waw ph i hi ((Wbb _ _).2 rfl)
 rw[← h,Wtp]
 by_cases h1:idxI (fun h:Was=>Wak h.1 (ph.getD i Waw).1) ph < (i:Int)
 ·rw[if_pos h1,decide_eq_true h1];rfl
 ·rw[if_neg h1,decide_eq_false h1]
  by_cases h2:(ph.getD i Waw).2.1.length=0
  ·rw[if_pos h2,decide_eq_true h2];rfl
  ·rw[if_neg h2,decide_eq_false h2];rfl
theorem Xcu(hs:List Wbu)(ph:List Was)(i:Nat):Xa6 hs (Wei ph ph.length) i=Wpq hs ph i:=by
 unfold Xa6 Wpq Wa9
 rw[Wl8 _ _ _ (Nat.le_refl _),List.take_length]
 have h:=Wn6 (fun p:Was=>inOf p.2.1 (hs.getD i Wck).1) ph
 by_cases h1:idxI (fun p:Was=>inOf p.2.1 (hs.getD i Wck).1) ph < 0
 ·rw[if_pos h1]
  rw[decide_eq_true h1]at h
  rw[if_neg (fun e=>by rw[e]at h;cases h)]
 ·rw[if_neg h1]
  rw[decide_eq_false h1]at h
  have hany:(ph.any fun p:Was=>inOf p.2.1 (hs.getD i Wck).1)=true:=by
   cases hq:ph.any fun p:Was=>inOf p.2.1 (hs.getD i Wck).1 with
   | true=>rfl
   | false=>rw[hq]at h;cases h
  rw[if_pos hany]
def GoodM(ph:List Was)(m:MapI):Prop:=∀ k z,mhas k m=true→(mfind k z m).2=Wa9 ph k
theorem Wx0(ph:List Was)(i:Int):∀(l:List ByteArray) (m:MapI),GoodM ph m→(∀ k∈l,Wa9 ph k=i)→GoodM ph (puts i m l):=by
 intro l
 induction l with
 | nil=>intro m h _;exact h
 | cons a l ih=>
  intro m h hl
  have:puts i m (a::l)=puts i (mput a (a,i) m) l:=rfl
  rw[this]
  refine ih _ (fun k z hk=>?_) fun k hk=>hl k (by simp[hk])
  rw[Wnl]
  by_cases e:Wak a k=true
  ·rw[if_pos e]
   rw[Wbb]at e
   subst e
   exact(hl a (by simp)).symm
  ·rw[if_neg e]
   rw[Wpj]at hk
   exact h k z (by simpa[show Wak a k=false by simpa using e]using hk)
theorem Xcv(hs:List Wbu)(ph:List Was):∀ i,i≤ph.length→(∀ j,j < i→(Wht hs ph j).1=0)→GoodM ph (Wei ph i):=by
 intro i
 induction i with
 | zero=>intro _ _ k z h;cases h
 | succ i ih=>
  intro hi h
  refine Wx0 ph i _ _ (ih (by omega) fun j hj=>h j (by omega)) fun k hk=>?_
  have hz:=h i (by omega)
  unfold Wht at hz
  split at hz
  ·cases hz
  split at hz
  ·rename_i h1 h2
   obtain⟨j,hj,hjk⟩:=List.mem_iff_getElem.1 hk
   have hd:(ph.getD i Waw).2.1.getD j (ByteArray.mk #[])=k:=by rw[Wby _ _ _ hj];exact hjk
   have h3:=Whb h2 j hj
   unfold Wh3 at h3
   split at h3
   ·cases h3
   split at h3
   ·cases h3
   rename_i h4 h5
   rw[hd]at h5
   have hin:inOf (ph.getD i Waw).2.1 k=true:=by rw[← hd];exact Xct _ _ hj
   have ha:=Wfw (fun p:Was=>inOf p.2.1 k) Waw ph i (by omega) hin
   have hnl:¬ idxI (fun p:Was=>inOf p.2.1 k) ph < (i:Int):=fun e=>h5 (.inl e)
   rw[decide_eq_false hnl]at ha
   unfold Wa9
   refine We1 _ Waw ph i (by omega) (fun q hq=>?_) hin
   cases hv:inOf (ph.getD q Waw).2.1 k with
   | false=>rfl
   | true=>
    have:((ph.take i).any fun p=>inOf p.2.1 k)=true:=(Wct _ Waw _).2 ⟨q,by simp;omega,by rw[Wc6 _ _ _ _ hq];exact hv⟩
    rw[this]at ha;cases ha
  ·rename_i h1 h2;exact absurd hz h2
theorem foeE1_eq(hs:List Wbu)(ph:List Was)(fs:List FoeT)(i:Nat)(hp:∀ j,j < ph.length→(Wht hs ph j).1=0)(hh:∀ j,j < hs.length→(Wpq hs ph j).1=0) :
 Wvi fs (hs.map (·.1)) (Wei ph ph.length) i=foeE hs ph fs i:=by
 have good:=Xcv hs ph ph.length (Nat.le_refl _) hp
 have find:∀ k,inOf (hs.map (·.1)) k=true→∀ z,(mfind k z (Wei ph ph.length)).2=Wa9 ph k:=by
  intro k hk z
  refine good k z ?_
  rw[Wl7]at hk
  obtain⟨j,hj,hjk⟩:=(Wct _ Wck hs).1 hk
  rw[Wbb]at hjk
  have:=hh j hj
  unfold Wpq at this
  split at this
  ·cases this
  rename_i h1
  rw[hjk]at h1
  rw[Wl8 _ _ _ (Nat.le_refl _),List.take_length,← Web]
  unfold Wa9 at h1
  exact decide_eq_true (by omega)
 unfold Wvi foeE Wa1
 generalize fs.getD i zFoe=f
 have e1:=Wpr (fun h:Wbu=>h.1) hs f.1
 have e2:=Wpr (fun h:Wbu=>h.1) hs f.2.1
 by_cases h1:idxI (fun h:Wbu=>Wak h.1 f.1) hs < 0
 ·rw[if_pos (Or.inl h1),e1,decide_eq_true h1];rfl
 by_cases h2:idxI (fun h:Wbu=>Wak h.1 f.2.1) hs < 0
 ·rw[if_pos (Or.inr h2),e2,decide_eq_true h2,Bool.not_true,Bool.and_false];rfl
 have hn:¬(idxI (fun h:Wbu=>Wak h.1 f.1) hs < 0∨idxI (fun h:Wbu=>Wak h.1 f.2.1) hs < 0):=fun h=>h.elim h1 h2
 rw[if_neg hn]
 have a1:inOf (hs.map (·.1)) f.1=true:=by rw[e1,decide_eq_false h1];rfl
 have a2:inOf (hs.map (·.1)) f.2.1=true:=by rw[e2,decide_eq_false h2];rfl
 rw[find _ a1,find _ a2,a1,a2,if_pos (show(true&&true)=true from rfl)]
 by_cases h3:Wa9 ph f.1=Wa9 ph f.2.1
 ·rw[if_pos (show Wak f.1 f.2.1=true∨Wa9 ph f.1=Wa9 ph f.2.1 from .inr h3),h3];simp
 ·have h4:¬ Wak f.1 f.2.1=true:=fun e=>h3 (by rw[(Wbb _ _).1 e])
  have hn2:¬(Wak f.1 f.2.1=true∨Wa9 ph f.1=Wa9 ph f.2.1):=fun h=>h.elim h4 h3
  rw[if_neg hn2];simp[h3]
theorem Wl9(a b c:Err):Wc9 (Wc9 a b) c=Wc9 a (Wc9 b c):=by
 unfold Wc9
 by_cases h:a.1=0
 ·rw[if_pos h,if_pos h]
 ·rw[if_neg h,if_neg h,if_neg h]
theorem Wey{a b c:Err}(h:a.1=0→b=c):Wc9 a b=Wc9 a c:=by
 unfold Wc9
 by_cases h0:a.1=0
 ·rw[if_pos h0,if_pos h0,h h0]
 ·rw[if_neg h0,if_neg h0]
theorem Wx1(N:Nat)(f:Nat→Err):Wc9 (Wb0 N f) (0,0)=Wb0 N f:=by
 unfold Wc9
 by_cases h:(Wb0 N f).1=0
 ·rw[if_pos h,Wmz h]
 ·rw[if_neg h]
theorem Xcw(x:Wa5):Wuy x=Wmd x:=by
 unfold Wuy Wmd Wl0
 obtain⟨x1,x2,x3,x4,x5,x6,x7⟩:=x
 by_cases h1:Wjd (x1,x2,x3,x4,x5,x6,x7)=true
 ·rw[if_pos h1,if_pos h1]
  by_cases h2:Wmy (x1,x2,x3,x4,x5,x6,x7)=true
  ·rw[if_pos h2,if_pos h2,Wox rfl]
   simp only[Wl9]
   refine Wey fun _=>?_
   rw[Wex fun i hi=>phE2_eq x2 x4 i hi]
   have:Wnw x2 x4=Wc9 (Wb0 x4.length (Wht x2 x4)) (Wb0 x2.length (Wpq x2 x4)):=rfl
   rw[this,Wl9]
   refine Wey fun hp=>?_
   rw[Wex fun i _=>Xcu x2 x4 i]
   refine Wey fun hh=>?_
   rw[Wex fun i _=>pedE1_eq x3 x4 i]
   refine Wey (b:=_) fun _=>Wey fun _=>?_
   rw[Wx1]
   exact Wex fun i _=>foeE1_eq x2 x4 x6 i (Whb hp) (Whb hh)
  ·rw[if_neg h2,if_neg h2,Wkl (show(73:Int)≠0 by decide)]
 ·rw[if_neg h1,if_neg h1,Wkl (show(4:Int)≠0 by decide)]
theorem cnode07_(x:Wa5)(hpp:∀ p∈x.2.2.2.1,Sh p.2.1):Ev (fun n=>qem n x) (resE (Wmd x) ()):=by
 rw[← Xcw];exact cnode_ x hpp
end Go.Proofs.YtalbenehgdkalaaGreat.Fn