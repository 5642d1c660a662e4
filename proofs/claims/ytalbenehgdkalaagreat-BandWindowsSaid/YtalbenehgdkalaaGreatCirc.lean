/- Texts of the proof. -/
import Derived.Test.YtalbenehgdkalaaGreatLibE
namespace Go.Circ
def HasT(C:Int)(a:Int×Int)(j:Int):Prop:=1≤a.2∧(C≤a.2∨(j - a.1) % C < a.2)
instance (C:Int) (a:Int×Int) (j:Int):Decidable (HasT C a j):=inferInstanceAs (Decidable (_∧_))
def TS(C:Int)(l:List (Int×Int))(j:Int):Prop:=∃ a∈l,HasT C a j
def Cov(P:List (Int×Int))(j:Int):Prop:=∃ p∈P,p.1≤j∧j < p.2
structure PGood (C:Int) (P:List (Int×Int)):Prop where
 all:∀ p∈P,0≤p.1∧p.1 < p.2∧p.2≤C
 gap:P.Pairwise fun p q=>p.2 < q.1
theorem Cov.nil{j:Int}:¬ Cov [] j:=by rintro⟨p,hp,_⟩;cases hp
theorem Cov.cons{p:Int×Int}{P:List (Int×Int)}{j:Int}:Cov (p::P) j↔(p.1≤j∧j < p.2)∨Cov P j:=by simp[Cov]
theorem Cov.append{P Q:List (Int×Int)}{j:Int}:Cov (P++Q) j↔Cov P j∨Cov Q j:=by
 simp only[Cov,List.mem_append]
 constructor
 ·rintro⟨p,hp | hp,h⟩
  ·exact .inl ⟨p,hp,h⟩
  ·exact .inr ⟨p,hp,h⟩
 ·rintro(⟨p,hp,h⟩ | ⟨p,hp,h⟩)
  ·exact⟨p,.inl hp,h⟩
  ·exact⟨p,.inr hp,h⟩
theorem Cov.perm{P Q:List (Int×Int)}{j:Int}(h:P.Perm Q):Cov P j↔Cov Q j:=by
 simp only[Cov]
 constructor
 ·rintro⟨p,hp,h'⟩;exact⟨p,h.mem_iff.1 hp,h'⟩
 ·rintro⟨p,hp,h'⟩;exact⟨p,h.mem_iff.2 hp,h'⟩
theorem PGood.nil(C:Int):PGood C []:=⟨fun p hp=>(by cases hp),.nil⟩
theorem PGood.tail{C:Int}{p:Int×Int}{P:List (Int×Int)}(h:PGood C (p::P)):PGood C P:=⟨fun q hq=>h.all q (by simp[hq]),(List.pairwise_cons.1 h.gap).2⟩
theorem Wgc{C a j:Int}(ha:0≤a)(ha':a < C)(hj:0≤j)(hj':j < C):(j - a) % C=if a≤j then j - a else j - a+C:=by
 split
 ·exact Int.emod_eq_of_lt (by omega) (by omega)
 ·rw[← Int.add_emod_right,Int.emod_eq_of_lt (by omega) (by omega)]
theorem Wvk{C a k:Int}(ha:0≤a)(ha':a < C)(hk:0≤k)(hk':k≤C):(a+k) % C=if a+k < C then a+k else a+k - C:=by
 split
 ·exact Int.emod_eq_of_lt (by omega) (by omega)
 ·rw[← Int.sub_emod_right,Int.emod_eq_of_lt (by omega) (by omega)]
def Wau(C:Int)(a:Int×Int):Int×Int:=if C < 1∨6000 < C∨a.2 < 1 then(0,0)else if C≤a.2 then(0,C)else(a.1 % C,a.2)
theorem Wf0{C:Int}(h1:1≤C)(a:Int×Int):0≤(Wau C a).1∧(Wau C a).1 < C∧0≤(Wau C a).2∧(Wau C a).2≤C:=by
 unfold Wau
 have m1:=Int.emod_nonneg a.1 (b:=C) (by omega)
 have m2:=Int.emod_lt_of_pos a.1 (b:=C) (by omega)
 split
 ·simp;omega
 ·split<;>simp<;>omega
theorem Wma{C:Int}(h1:1≤C)(h2:C≤6000)(a:Int×Int)(j:Int):HasT C (Wau C a) j↔HasT C a j:=by
 unfold Wau HasT
 split
 ·rename_i h
  rcases h with h | h | h<;>first | omega | (simp;omega)
 ·split
  ·simp;omega
  ·simp only[Int.sub_emod_emod]
def cut1(C:Int)(a:Int×Int):List (Int×Int):=
 if(Wau C a).2=0 then []else if(Wau C a).1+(Wau C a).2≤C then [((Wau C a).1,(Wau C a).1+(Wau C a).2)]else [((Wau C a).1,C),(0,(Wau C a).1+(Wau C a).2 - C)]
theorem cut1_all{C:Int}(h1:1≤C)(a:Int×Int):∀ p∈cut1 C a,0≤p.1∧p.1 < p.2∧p.2≤C:=by
 obtain⟨n1,n2,n3,n4⟩:=Wf0 h1 a
 unfold cut1
 intro p hp
 split at hp
 ·cases hp
 ·split at hp
  ·simp only[List.mem_singleton]at hp;subst hp;simp only;omega
  ·simp only[List.mem_cons,List.not_mem_nil,or_false]at hp
   rcases hp with rfl | rfl<;>simp only<;>omega
theorem Wvl{C:Int}(h1:1≤C)(h2:C≤6000)(a:Int×Int){j:Int}(hj:0≤j)(hj':j < C):Cov (cut1 C a) j↔HasT C a j:=by
 rw[← Wma h1 h2 a j]
 obtain⟨n1,n2,n3,n4⟩:=Wf0 h1 a
 unfold cut1 HasT
 rw[Wgc n1 n2 hj hj']
 have full:(Wau C a).2=C→(Wau C a).1=0:=by
  unfold Wau
  intro h
  split at h
  ·simp at h;omega
  ·split at h
   ·rename_i h3 h4;rw[if_neg h3,if_pos h4]
   ·simp at h;omega
 split
 ·simp only[Cov.nil,false_iff];omega
 ·split
  ·simp only[Cov.cons,Cov.nil,or_false];split<;>omega
  ·simp only[Cov.cons,Cov.nil,or_false];split<;>omega
def Wd2(C:Int)(l:List (Int×Int)):List (Int×Int):=l.flatMap (cut1 C)
theorem Xcy{C:Int}(h1:1≤C)(l:List (Int×Int)):∀ p∈Wd2 C l,0≤p.1∧p.1 < p.2∧p.2≤C:=by
 intro p hp
 simp only[Wd2,List.mem_flatMap]at hp
 obtain⟨a,_,ha⟩:=hp
 exact cut1_all h1 a p ha
theorem Xcz{C:Int}(h1:1≤C)(h2:C≤6000)(l:List (Int×Int)){j:Int}(hj:0≤j)(hj':j < C):Cov (Wd2 C l) j↔TS C l j:=by
 unfold Wd2 TS
 constructor
 ·rintro⟨p,hp,h⟩
  rw[List.mem_flatMap]at hp
  obtain⟨a,ha,hp⟩:=hp
  exact⟨a,ha,(Wvl h1 h2 a hj hj').1 ⟨p,hp,h⟩⟩
 ·rintro⟨a,ha,h⟩
  obtain⟨p,hp,h⟩:=(Wvl h1 h2 a hj hj').2 h
  exact⟨p,List.mem_flatMap.2 ⟨a,ha,hp⟩,h⟩
theorem Wr9{C:Int}(h:C < 1∨6000 < C)(l:List (Int×Int)):Wd2 C l=[]:=by
 unfold Wd2
 rw[List.flatMap_eq_nil_iff]
 intro a _
 have e:Wau C a=(0,0):=by unfold Wau;rw[if_pos (by omega)]
 simp[cut1,e]
def mstep(out:List (Int×Int))(p:Int×Int):List (Int×Int):=match out.getLast? with
 | none=>[p]
 | some q=>if p.1≤q.2 then out.dropLast++[(q.1,max q.2 p.2)]else out++[p]
theorem mstep_ok{C:Int}{out:List (Int×Int)}{p:Int×Int}(hg:PGood C out)(hle:∀ q∈out,q.1≤p.1)(hp:0≤p.1∧p.1 < p.2∧p.2≤C) :
 PGood C (mstep out p)∧(∀ j,Cov (mstep out p) j↔Cov out j∨(p.1≤j∧j < p.2))∧∀ q∈mstep out p,q.1≤p.1:=by
 rcases List.eq_nil_or_concat out with rfl | ⟨init,q,rfl⟩
 ·refine⟨⟨fun q hq=>?_,?_⟩,fun j=>?_,fun q hq=>?_⟩
  ·simp only[mstep,List.getLast?_nil,List.mem_singleton]at hq;subst hq;exact hp
  ·simp[mstep]
  ·simp[mstep,Cov.cons,Cov.nil]
  ·simp only[mstep,List.getLast?_nil,List.mem_singleton]at hq;subst hq;exact Int.le_refl _
 ·rw[List.concat_eq_append]at *
  have hq0:=hg.all q (by simp)
  have hqp:=hle q (by simp)
  have hgap:=List.pairwise_append.1 hg.gap
  have e:mstep (init++[q]) p=if p.1≤q.2 then init++[(q.1,max q.2 p.2)]else init++[q]++[p]:=by simp[mstep]
  rw[e]
  split
  ·rename_i hpq
   refine⟨⟨fun r hr=>?_,?_⟩,fun j=>?_,fun r hr=>?_⟩
   ·rw[List.mem_append,List.mem_singleton]at hr
    rcases hr with hr | rfl
    ·exact hg.all r (by simp[hr])
    ·simp only;omega
   ·refine List.pairwise_append.2 ⟨hgap.1,by simp,fun r hr s hs=>?_⟩
    rw[List.mem_singleton]at hs
    subst hs
    exact hgap.2.2 r hr q (by simp)
   ·simp only[Cov.append,Cov.cons,Cov.nil,or_false]
    constructor
    ·rintro(h | h)
     ·exact .inl (.inl h)
     ·by_cases h3:j < q.2
      ·exact .inl (.inr ⟨h.1,h3⟩)
      ·exact .inr (by omega)
    ·rintro((h | h) | h)
     ·exact .inl h
     ·exact .inr (by omega)
     ·exact .inr (by omega)
   ·rw[List.mem_append,List.mem_singleton]at hr
    rcases hr with hr | rfl
    ·exact hle r (by simp[hr])
    ·exact hqp
  ·rename_i hpq
   refine⟨⟨fun r hr=>?_,?_⟩,fun j=>?_,fun r hr=>?_⟩
   ·rw[List.mem_append,List.mem_singleton]at hr
    rcases hr with hr | rfl
    ·exact hg.all r hr
    ·exact hp
   ·refine List.pairwise_append.2 ⟨hg.gap,by simp,fun r hr s hs=>?_⟩
    rw[List.mem_singleton]at hs
    subst hs
    rw[List.mem_append,List.mem_singleton]at hr
    rcases hr with hr | rfl
    ·have:=hgap.2.2 r hr q (by simp)
     omega
    ·omega
   ·simp only[Cov.append,Cov.cons,Cov.nil,or_false]
   ·rw[List.mem_append,List.mem_singleton]at hr
    rcases hr with hr | rfl
    ·exact hle r hr
    ·exact Int.le_refl _
def Wil(S:List (Int×Int)):List (Int×Int):=S.foldl mstep []
theorem fold_ok{C:Int}:∀(S out:List (Int×Int)),(S.Pairwise fun p q=>p.1≤q.1)→PGood C out→(∀ q∈out,∀ p∈S,q.1≤p.1)→(∀ p∈S,0≤p.1∧p.1 < p.2∧p.2≤C)→
 PGood C (S.foldl mstep out)∧∀ j,Cov (S.foldl mstep out) j↔Cov out j∨Cov S j:=by
 intro S
 induction S with
 | nil=>intro out _ hg _ _;exact⟨hg,fun j=>by simp[Cov.nil]⟩
 | cons p S ih=>
  intro out hs hg hle hall
  obtain⟨h1,h2,h3⟩:=mstep_ok hg (fun q hq=>hle q hq p (by simp)) (hall p (by simp))
  obtain⟨hs1,hs2⟩:=List.pairwise_cons.1 hs
  obtain⟨g1,g2⟩:=ih (mstep out p) hs2 h1 (fun q hq r hr=>Int.le_trans (h3 q hq) (hs1 r hr)) (fun r hr=>hall r (by simp[hr]))
  refine⟨g1,fun j=>?_⟩
  rw[List.foldl_cons,g2 j,h2 j,Cov.cons]
  constructor
  ·rintro((h | h) | h)
   ·exact .inl h
   ·exact .inr (.inl h)
   ·exact .inr (.inr h)
  ·rintro(h | h | h)
   ·exact .inl (.inl h)
   ·exact .inl (.inr h)
   ·exact .inr h
theorem Wx2{C:Int}{S:List (Int×Int)}(hs:S.Pairwise fun p q=>p.1≤q.1)(hall:∀ p∈S,0≤p.1∧p.1 < p.2∧p.2≤C):PGood C (Wil S)∧∀ j,Cov (Wil S) j↔Cov S j:=by
 obtain⟨h1,h2⟩:=fold_ok S [] hs (PGood.nil C) (fun q hq=>(by cases hq)) hall
 exact⟨h1,fun j=>by rw[Wil,h2 j];simp[Cov.nil]⟩
theorem Xc0(out:List (Int×Int))(p:Int×Int):(mstep out p).length≤out.length+1:=by
 unfold mstep
 split
 ·simp
 ·split
  ·simp
  ·simp
theorem Wsa:∀(S out:List (Int×Int)),(S.foldl mstep out).length≤out.length+S.length:=by
 intro S
 induction S with
 | nil=>intro out;simp
 | cons p S ih=>intro out;have:=ih (mstep out p);have:=Xc0 out p;simp only[List.foldl_cons,List.length_cons];omega
def Wim(C:Int)(T:Int→Prop)(x:Int×Int):Prop:=
 0≤x.1∧x.1 < C∧1≤x.2∧x.2≤C∧(∀ k,0≤k→k < x.2→T ((x.1+k) % C))∧((x.2=C∧x.1=0)∨(x.2 < C∧¬ T ((x.1 - 1) % C)∧¬ T ((x.1+x.2) % C)))
structure Arcs (C:Int) (T:Int→Prop) (A:List (Int×Int)):Prop where
 sorted:A.Pairwise fun p q=>p.1 < q.1
 mem:∀ x,x∈A↔Wim C T x
theorem Wim.congr{C:Int}{T T':Int→Prop}(hC:1≤C)(h:∀ j,0≤j→j < C→(T j↔T' j))(x:Int×Int):Wim C T x↔Wim C T' x:=by
 have key:∀ z,T (z % C)↔T' (z % C):=fun z=>h _ (Int.emod_nonneg _ (by omega)) (Int.emod_lt_of_pos _ (by omega))
 unfold Wim
 simp only[key]
theorem Arcs.congr{C:Int}{T T':Int→Prop}{A:List (Int×Int)}(hC:1≤C)(h:∀ j,0≤j→j < C→(T j↔T' j))(hA:Arcs C T A):Arcs C T' A:=
 ⟨hA.sorted,fun x=>(hA.mem x).trans (Wim.congr hC h x)⟩
theorem Wx3:∀(l m:List (Int×Int)),(l.Pairwise fun p q=>p.1 < q.1)→(m.Pairwise fun p q=>p.1 < q.1)→(∀ x,x∈l↔x∈m)→l=m:=by
 intro l
 induction l with
 | nil=>
  intro m _ _ h
  cases m with
  | nil=>rfl
  | cons b m=>exact absurd ((h b).2 (by simp)) (by simp)
 | cons a l ih=>
  intro m hl hm h
  cases m with
  | nil=>exact absurd ((h a).1 (by simp)) (by simp)
  | cons b m=>
   obtain⟨l1,l2⟩:=List.pairwise_cons.1 hl
   obtain⟨m1,m2⟩:=List.pairwise_cons.1 hm
   have hab:a=b:=by
    have ha:=(h a).1 (by simp)
    have hb:=(h b).2 (by simp)
    rw[List.mem_cons]at ha hb
    rcases ha with ha | ha
    ·exact ha
    ·rcases hb with hb | hb
     ·exact hb.symm
     ·have:=m1 a ha;have:=l1 b hb;omega
   subst hab
   congr 1
   refine ih m l2 m2 fun x=>?_
   constructor
   ·intro hx
    have:=(h x).1 (by simp[hx])
    rw[List.mem_cons]at this
    rcases this with rfl | h'
    ·exact absurd (l1 x hx) (by omega)
    ·exact h'
   ·intro hx
    have:=(h x).2 (by simp[hx])
    rw[List.mem_cons]at this
    rcases this with rfl | h'
    ·exact absurd (m1 x hx) (by omega)
    ·exact h'
theorem Arcs.unique{C:Int}{T:Int→Prop}{A B:List (Int×Int)}(hA:Arcs C T A)(hB:Arcs C T B):A=B:=
 Wx3 A B hA.sorted hB.sorted fun x=>(hA.mem x).trans (hB.mem x).symm
theorem Arcs.eq{C:Int}{T T':Int→Prop}{A B:List (Int×Int)}(hC:1≤C)(hA:Arcs C T A)(hB:Arcs C T' B)(h:∀ j,0≤j→j < C→(T j↔T' j)):A=B:=
 (hA.congr hC h).unique hB
theorem Wim.in_{C:Int}{T:Int→Prop}{x:Int×Int}(hx:Wim C T x){j:Int}(hj:0≤j)(hj':j < C)(h:HasT C x j):T j:=by
 obtain⟨h1,h2,h3,h4,h5,_⟩:=hx
 have hlt:(j - x.1) % C < x.2:=by
  rcases h.2 with h | h
  ·have:=Int.emod_lt_of_pos (j - x.1) (b:=C) (by omega);omega
  ·exact h
 have:=h5 ((j - x.1) % C) (Int.emod_nonneg _ (by omega)) hlt
 rw[Int.add_emod_emod,show x.1+(j - x.1)=j by omega,Int.emod_eq_of_lt hj hj']at this
 exact this
theorem Wim.start{C:Int}{T:Int→Prop}{x y:Int×Int}(hx:Wim C T x)(hy:Wim C T y)(h:x.1=y.1):x=y:=by
 obtain⟨a1,a2,a3,a4,a5,a6⟩:=hx
 obtain⟨b1,b2,b3,b4,b5,b6⟩:=hy
 have:x.2=y.2:=by
  rcases Int.lt_trichotomy x.2 y.2 with hlt | he | hlt
  ·have:=b5 x.2 (by omega) hlt
   rw[← h]at this
   rcases a6 with a6 | a6
   ·omega
   ·exact absurd this a6.2.2
  ·exact he
  ·have:=a5 y.2 (by omega) hlt
   rw[h]at this
   rcases b6 with b6 | b6
   ·omega
   ·exact absurd this b6.2.2
 exact Prod.ext h this
def Whu(C:Int):List (Int×Int)→List (Int×Int)
 | []=>[]
 | p::r=>match r.getLast? with
  | none=>[p]
  | some q=>if p.1=0∧q.2=C then r.dropLast++[(q.1,C+p.2)]else p::r
def Wd3(C:Int)(P:List (Int×Int)):List (Int×Int):=(Whu C P).map fun p=>(p.1,p.2 - p.1)
theorem Wg8{C:Int}{P:List (Int×Int)}(hg:PGood C P){p:Int×Int}(hp:p∈P):¬ Cov P (p.1 - 1):=by
 rintro⟨q,hq,h1,h2⟩
 have hq0:=hg.all q hq
 have hp0:=hg.all p hp
 by_cases e:q=p
 ·subst e;omega
 ·rcases List.mem_iff_getElem.1 hp with⟨i,hi,rfl⟩
  rcases List.mem_iff_getElem.1 hq with⟨j,hj,rfl⟩
  rcases Nat.lt_trichotomy i j with h | h | h
  ·have:=List.pairwise_iff_getElem.1 hg.gap i j hi hj h;omega
  ·subst h;exact e rfl
  ·have:=List.pairwise_iff_getElem.1 hg.gap j i hj hi h;omega
theorem Wfd{C:Int}{P:List (Int×Int)}(hg:PGood C P){p:Int×Int}(hp:p∈P):¬ Cov P p.2:=by
 rintro⟨q,hq,h1,h2⟩
 have hq0:=hg.all q hq
 have hp0:=hg.all p hp
 by_cases e:q=p
 ·subst e;omega
 ·rcases List.mem_iff_getElem.1 hp with⟨i,hi,rfl⟩
  rcases List.mem_iff_getElem.1 hq with⟨j,hj,rfl⟩
  rcases Nat.lt_trichotomy i j with h | h | h
  ·have:=List.pairwise_iff_getElem.1 hg.gap i j hi hj h;omega
  ·subst h;exact e rfl
  ·have:=List.pairwise_iff_getElem.1 hg.gap j i hj hi h;omega
theorem Wnv{C:Int}{P:List (Int×Int)}(hg:PGood C P)(hw:∀ p∈P,∀ q∈P,p.1=0→q.2=C→p=q):Arcs C (Cov P) (P.map fun p=>(p.1,p.2 - p.1)):=by
 have one:∀ p∈P,Wim C (Cov P) (p.1,p.2 - p.1):=by
  intro p hp
  have hp0:=hg.all p hp
  refine⟨hp0.1,by simp only;omega,by simp only;omega,by simp only;omega,fun k k1 k2=>?_,?_⟩
  ·simp only at k2 ⊢
   rw[Int.emod_eq_of_lt (by omega) (by omega)]
   exact⟨p,hp,by omega,by omega⟩
  ·simp only
   by_cases hfull:p.1=0∧p.2=C
   ·exact .inl (by omega)
   ·refine .inr ⟨by omega,?_,?_⟩
    ·by_cases h0:p.1=0
     ·have e:(p.1 - 1) % C=C - 1:=by rw[← Int.add_emod_right,Int.emod_eq_of_lt (by omega) (by omega)];omega
      rw[e]
      rintro⟨q,hq,h1,h2⟩
      have hq0:=hg.all q hq
      have:=hw p hp q hq h0 (by omega)
      subst this
      omega
     ·rw[Int.emod_eq_of_lt (by omega) (by omega)]
      exact Wg8 hg hp
    ·rw[show p.1+(p.2 - p.1)=p.2 by omega]
     by_cases hC:p.2=C
     ·rw[hC,Int.emod_self]
      rintro⟨q,hq,h1,h2⟩
      have hq0:=hg.all q hq
      have:=hw q hq p hp (by omega) hC
      subst this
      omega
     ·rw[Int.emod_eq_of_lt (by omega) (by omega)]
      exact Wfd hg hp
 refine⟨?_,fun x=>⟨fun hx=>?_,fun hx=>?_⟩⟩
 ·rw[List.pairwise_map]
  refine(List.Pairwise.and_mem.1 hg.gap).imp fun h=>?_
  have:=hg.all _ h.1
  simp only
  omega
 ·rw[List.mem_map]at hx
  obtain⟨p,hp,rfl⟩:=hx
  exact one p hp
 ·have hx0:=hx
  obtain⟨h1,h2,h3,h4,h5,h6⟩:=hx
  have h0:=h5 0 (by omega) (by omega)
  rw[show x.1+0=x.1 by omega,Int.emod_eq_of_lt h1 h2]at h0
  obtain⟨p,hp,e1,e2⟩:=h0
  have hp0:=hg.all p hp
  have hst:x.1=p.1:=by
   by_cases e:x.1=p.1
   ·exact e
   ·exfalso
    rcases h6 with h6 | h6
    ·omega
    ·apply h6.2.1
     rw[Int.emod_eq_of_lt (by omega) (by omega)]
     exact⟨p,hp,by omega,by omega⟩
  have:=hx0.start (one p hp) hst
  rw[this]
  exact List.mem_map.2 ⟨p,hp,rfl⟩
theorem Wx4{C:Int}{p q:Int×Int}{mid:List (Int×Int)}(hg:PGood C (p::(mid++[q])))(h0:p.1=0)(hC:q.2=C) :
 Arcs C (Cov (p::(mid++[q]))) ((mid++[(q.1,C+p.2)]).map fun p=>(p.1,p.2 - p.1)):=by
 have hp0:=hg.all p (by simp)
 have hq0:=hg.all q (by simp)
 obtain⟨g1,g2⟩:=List.pairwise_cons.1 hg.gap
 have hpq:=g1 q (by simp)
 generalize hP:p::(mid++[q])=P at *
 have hpP:p∈P:=by rw[← hP];simp
 have hqP:q∈P:=by rw[← hP];simp
 have hmP:∀ r∈mid,r∈P:=fun r hr=>by rw[← hP];simp[hr]
 have hmem:∀ r∈P,r=p∨r∈mid∨r=q:=fun r hr=>by rw[← hP]at hr;simpa using hr
 obtain⟨m1,m2,m3⟩:=List.pairwise_append.1 g2
 have hmq:∀ r∈mid,r.2 < q.1:=fun r hr=>m3 r hr q (by simp)
 have hpm:∀ r∈mid,p.2 < r.1:=fun r hr=>g1 r (by simp[hr])
 have covlast:Cov P (C - 1):=⟨q,hqP,by omega,by omega⟩
 have one:∀ r∈mid,Wim C (Cov P) (r.1,r.2 - r.1):=by
  intro r hr
  have hr0:=hg.all r (hmP r hr)
  have a1:=hmq r hr
  have a2:=hpm r hr
  refine⟨hr0.1,by simp only;omega,by simp only;omega,by simp only;omega,fun k k1 k2=>?_,.inr ⟨by simp only;omega,?_,?_⟩⟩
  ·simp only at k2 ⊢
   rw[Int.emod_eq_of_lt (by omega) (by omega)]
   exact⟨r,hmP r hr,by omega,by omega⟩
  ·simp only
   rw[Int.emod_eq_of_lt (by omega) (by omega)]
   exact Wg8 hg (hmP r hr)
  ·simp only
   rw[show r.1+(r.2 - r.1)=r.2 by omega,Int.emod_eq_of_lt (by omega) (by omega)]
   exact Wfd hg (hmP r hr)
 have last:Wim C (Cov P) (q.1,C+p.2 - q.1):=by
  refine⟨hq0.1,by simp only;omega,by simp only;omega,by simp only;omega,fun k k1 k2=>?_,.inr ⟨by simp only;omega,?_,?_⟩⟩
  ·simp only at k2 ⊢
   rw[Wvk (by omega) (by omega) k1 (by omega)]
   split
   ·exact⟨q,hqP,by omega,by omega⟩
   ·exact⟨p,hpP,by omega,by omega⟩
  ·simp only
   rw[Int.emod_eq_of_lt (by omega) (by omega)]
   exact Wg8 hg hqP
  ·simp only
   rw[show q.1+(C+p.2 - q.1)=p.2+C by omega,Int.add_emod_right,Int.emod_eq_of_lt (by omega) (by omega)]
   exact Wfd hg hpP
 refine⟨?_,fun x=>⟨fun hx=>?_,fun hx=>?_⟩⟩
 ·rw[List.pairwise_map]
  refine List.pairwise_append.2 ⟨(List.Pairwise.and_mem.1 m1).imp fun h=>?_,by simp,fun r hr s hs=>?_⟩
  ·have:=hg.all _ (hmP _ h.1)
   simp only
   omega
  ·rw[List.mem_singleton]at hs
   subst hs
   have:=hmq r hr
   have:=hg.all _ (hmP _ hr)
   simp only
   omega
 ·rw[List.mem_map]at hx
  obtain⟨r,hr,rfl⟩:=hx
  rw[List.mem_append,List.mem_singleton]at hr
  rcases hr with hr | rfl
  ·exact one r hr
  ·exact last
 ·have hx0:=hx
  obtain⟨h1,h2,h3,h4,h5,h6⟩:=hx
  have h0':=h5 0 (by omega) (by omega)
  rw[show x.1+0=x.1 by omega,Int.emod_eq_of_lt h1 h2]at h0'
  obtain⟨r,hr,e1,e2⟩:=h0'
  have hr0:=hg.all r hr
  have hnf:¬(x.2=C∧x.1=0):=by
   rintro⟨e3,e4⟩
   have:=h5 p.2 (by omega) (by omega)
   rw[e4,show(0:Int)+p.2=p.2 by omega,Int.emod_eq_of_lt (by omega) (by omega)]at this
   exact Wfd hg hpP this
  have h6':x.2 < C∧¬ Cov P ((x.1 - 1) % C)∧¬ Cov P ((x.1+x.2) % C):=by
   rcases h6 with h | h
   ·exact absurd h hnf
   ·exact h
  have hst:x.1=r.1:=by
   by_cases e:x.1=r.1
   ·exact e
   ·exfalso
    apply h6'.2.1
    rw[Int.emod_eq_of_lt (by omega) (by omega)]
    exact⟨r,hr,by omega,by omega⟩
  rw[List.mem_map]
  rcases hmem r hr with rfl | hm | rfl
  ·exfalso
   apply h6'.2.1
   rw[hst,h0,show(0:Int) - 1=C - 1 - C by omega,Int.sub_emod_right,Int.emod_eq_of_lt (by omega) (by omega)]
   exact covlast
  ·exact⟨r,by simp[hm],(hx0.start (one r hm) hst).symm⟩
  ·exact⟨(r.1,C+p.2),by simp,(hx0.start last hst).symm⟩
theorem Wjd{C:Int}{P:List (Int×Int)}(hg:PGood C P):Arcs C (Cov P) (Wd3 C P):=by
 unfold Wd3
 cases P with
 | nil=>exact⟨by simp[Whu],fun x=>⟨fun h=>by simp[Whu]at h,fun h=>by
  have:=h.2.2.2.2.1 0 (by omega) (by have:=h.2.2.1;omega)
  exact absurd this Cov.nil⟩⟩
 | cons p r=>
  rcases List.eq_nil_or_concat r with rfl | ⟨mid,q,rfl⟩
  ·simp only[Whu,List.getLast?_nil]
   refine Wnv hg fun a ha b hb _ _=>?_
   rw[List.mem_singleton]at ha hb
   rw[ha,hb]
  ·rw[List.concat_eq_append]at *
   have e:Whu C (p::(mid++[q]))=if p.1=0∧q.2=C then mid++[(q.1,C+p.2)]else p::(mid++[q]):=by simp[Whu]
   rw[e]
   split
   ·rename_i h
    exact Wx4 hg h.1 h.2
   ·rename_i h
    refine Wnv hg fun a ha b hb ha0 hbC=>?_
    exfalso
    apply h
    have hp0:=hg.all p (by simp)
    have hq0:=hg.all q (by simp)
    have ha':=hg.all a ha
    have hb':=hg.all b hb
    obtain⟨g1,g2⟩:=List.pairwise_cons.1 hg.gap
    obtain⟨m1,m2,m3⟩:=List.pairwise_append.1 g2
    constructor
    ·rw[List.mem_cons]at ha
     rcases ha with rfl | ha
     ·exact ha0
     ·have:=g1 a ha;omega
    ·rw[List.mem_cons,List.mem_append,List.mem_singleton]at hb
     rcases hb with rfl | hb | rfl
     ·have:=g1 q (by simp);omega
     ·have:=m3 b hb q (by simp);omega
     ·exact hbC
theorem Wmb{C:Int}{P:List (Int×Int)}(hg:PGood C P){j:Int}(hj:0≤j)(hj':j < C):TS C (Wd3 C P) j↔Cov P j:=by
 have hA:=Wjd hg
 constructor
 ·rintro⟨x,hx,h⟩
  exact((hA.mem x).1 hx).in_ hj hj' h
 ·rintro⟨p,hp,h1,h2⟩
  have hp0:=hg.all p hp
  have plain:(p.1,p.2 - p.1)∈Wd3 C P→TS C (Wd3 C P) j:=fun h=>⟨_,h,by
   unfold HasT
   rw[Wgc (by simp only;omega) (by simp only;omega) hj hj']
   simp only
   rw[if_pos h1]
   omega⟩
  cases P with
  | nil=>cases hp
  | cons a r=>
   rcases List.eq_nil_or_concat r with rfl | ⟨mid,q,rfl⟩
   ·apply plain
    rw[List.mem_singleton]at hp
    subst hp
    simp[Wd3,Whu]
   ·rw[List.concat_eq_append]at *
    have e:Whu C (a::(mid++[q]))=if a.1=0∧q.2=C then mid++[(q.1,C+a.2)]else a::(mid++[q]):=by simp[Whu]
    by_cases hw:a.1=0∧q.2=C
    ·rw[if_pos hw]at e
     have ha0:=hg.all a (by simp)
     have hq0:=hg.all q (by simp)
     obtain⟨g1,g2⟩:=List.pairwise_cons.1 hg.gap
     have haq:=g1 q (by simp)
     have hlast:(q.1,C+a.2 - q.1)∈Wd3 C (a::(mid++[q])):=by
      unfold Wd3;rw[e];exact List.mem_map.2 ⟨(q.1,C+a.2),by simp,rfl⟩
     rw[List.mem_cons,List.mem_append,List.mem_singleton]at hp
     rcases hp with rfl | hp | rfl
     ·refine⟨_,hlast,?_⟩
      unfold HasT
      rw[Wgc (by simp only;omega) (by simp only;omega) hj hj']
      simp only
      rw[if_neg (by omega)]
      omega
     ·apply plain
      unfold Wd3;rw[e];exact List.mem_map.2 ⟨p,by simp[hp],rfl⟩
     ·refine⟨_,hlast,?_⟩
      unfold HasT
      rw[Wgc (by simp only;omega) (by simp only;omega) hj hj']
      simp only
      rw[if_pos (by omega)]
      omega
    ·rw[if_neg hw]at e
     apply plain
     unfold Wd3;rw[e];exact List.mem_map.2 ⟨p,hp,rfl⟩
theorem Xc1(C:Int)(P:List (Int×Int)):(Whu C P).length≤P.length:=by
 cases P with
 | nil=>simp[Whu]
 | cons p r=>
  simp only[Whu]
  split
  ·simp
  ·split
   ·simp
   ·simp
theorem Wx5(C:Int)(P:List (Int×Int)):(Wd3 C P).length≤P.length:=by unfold Wd3;simpa using Xc1 C P
def between(C:Int):Int→List (Int×Int)→List (Int×Int)
 | at_,[]=>if at_ < C then [(at_,C)]else []
 | at_,p::P=>(if p.1 > at_ then [(at_,p.1)]else [])++between C p.2 P
theorem Wx6{C:Int}:∀(P:List (Int×Int)) (at_:Int),PGood C P→0≤at_→at_≤C→(∀ p∈P,at_≤p.1)→
 PGood C (between C at_ P)∧(∀ p∈between C at_ P,at_≤p.1)∧∀ j,at_≤j→j < C→(Cov (between C at_ P) j↔¬ Cov P j):=by
 intro P
 induction P with
 | nil=>
  intro at_ _ h0 hC _
  simp only[between]
  split
  ·refine⟨⟨fun p hp=>?_,by simp⟩,fun p hp=>?_,fun j h1 h2=>?_⟩
   ·rw[List.mem_singleton]at hp;subst hp;simp only;omega
   ·rw[List.mem_singleton]at hp;subst hp;exact Int.le_refl _
   ·simp only[Cov.cons,Cov.nil,or_false,not_false_iff,iff_true];omega
  ·refine⟨PGood.nil C,fun p hp=>(by cases hp),fun j h1 h2=>by omega⟩
 | cons p P ih=>
  intro at_ hg h0 hC hle
  have hp0:=hg.all p (by simp)
  have hle0:=hle p (by simp)
  obtain⟨g1,g2⟩:=List.pairwise_cons.1 hg.gap
  obtain⟨i1,i2,i3⟩:=ih p.2 hg.tail (by omega) (by omega) (fun q hq=>by have:=g1 q hq;omega)
  simp only[between]
  have hpre:∀ q∈(if p.1 > at_ then [(at_,p.1)]else []),q=(at_,p.1)∧at_ < p.1:=by
   intro q hq
   split at hq
   ·rw[List.mem_singleton]at hq;exact⟨hq,by omega⟩
   ·cases hq
  refine⟨⟨fun q hq=>?_,?_⟩,fun q hq=>?_,fun j h1 h2=>?_⟩
  ·rw[List.mem_append]at hq
   rcases hq with hq | hq
   ·obtain⟨rfl,h⟩:=hpre q hq;simp only;omega
   ·exact i1.all q hq
  ·refine List.pairwise_append.2 ⟨by split<;>simp,i1.gap,fun q hq r hr=>?_⟩
   obtain⟨rfl,h⟩:=hpre q hq
   have:=i2 r hr
   simp only
   omega
  ·rw[List.mem_append]at hq
   rcases hq with hq | hq
   ·obtain⟨rfl,h⟩:=hpre q hq;exact Int.le_refl _
   ·have:=i2 q hq;omega
  ·rw[Cov.append,Cov.cons]
   have hpc:Cov (if p.1 > at_ then [(at_,p.1)]else []) j↔j < p.1:=by
    split
    ·simp only[Cov.cons,Cov.nil,or_false];omega
    ·simp only[Cov.nil,false_iff];omega
   rw[hpc]
   by_cases hj:p.2≤j
   ·rw[i3 j hj h2]
    constructor
    ·rintro(h | h)
     ·omega
     ·rintro(h' | h')
      ·omega
      ·exact h h'
    ·intro h
     exact .inr fun h'=>h (.inr h')
   ·have n1:¬ Cov P j:=by
     rintro⟨q,hq,a,b⟩
     have:=g1 q hq
     omega
    have n2:¬ Cov (between C p.2 P) j:=by
     rintro⟨q,hq,a,b⟩
     have:=i2 q hq
     omega
    constructor
    ·rintro(h | h)
     ·rintro(h' | h')
      ·omega
      ·exact n1 h'
     ·exact absurd h n2
    ·intro h
     left
     rcases Int.lt_or_le j p.1 with h3 | h3
     ·exact h3
     ·exact absurd (.inl ⟨h3,by omega⟩) h
theorem Wt1(C:Int):∀(P:List (Int×Int)) (at_:Int),(between C at_ P).length≤P.length+1:=by
 intro P
 induction P with
 | nil=>intro at_;simp only[between];split<;>simp
 | cons p P ih=>
  intro at_
  have:=ih p.2
  simp only[between,List.length_append,List.length_cons]
  split<;>simp<;>omega
def common:List (Int×Int)→List (Int×Int)→List (Int×Int)
 | [],_=>[]
 | _::_,[]=>[]
 | a::ar,b::bs=>(if max a.1 b.1 < min a.2 b.2 then [(max a.1 b.1,min a.2 b.2)]else [])++if a.2 < b.2 then common ar (b::bs)else common (a::ar) bs
termination_by a b=>a.length+b.length
theorem Wf1{C:Int}:∀(n:Nat) (a b:List (Int×Int)),a.length+b.length=n→PGood C a→PGood C b→
 PGood C (common a b)∧(∀ p∈common a b,(∃ x∈a,x.1≤p.1)∧(∃ y∈b,y.1≤p.1))∧∀ j,Cov (common a b) j↔Cov a j∧Cov b j:=by
 intro n
 induction n with
 | zero=>
  intro a b hn ha hb
  have ea:a=[]:=List.eq_nil_of_length_eq_zero (by omega)
  subst ea
  simp only[common]
  exact⟨PGood.nil C,fun p hp=>(by cases hp),fun j=>by simp[Cov.nil]⟩
 | succ n ih=>
  intro a b hn ha hb
  cases a with
  | nil=>simp only[common];exact⟨PGood.nil C,fun p hp=>(by cases hp),fun j=>by simp[Cov.nil]⟩
  | cons a ar=>
   cases b with
   | nil=>simp only[common];exact⟨PGood.nil C,fun p hp=>(by cases hp),fun j=>by simp[Cov.nil]⟩
   | cons b bs=>
    have ha0:=ha.all a (by simp)
    have hb0:=hb.all b (by simp)
    obtain⟨ga,_⟩:=List.pairwise_cons.1 ha.gap
    obtain⟨gb,_⟩:=List.pairwise_cons.1 hb.gap
    rw[common]
    obtain⟨rest,hrest⟩:∃ rest,(if a.2 < b.2 then common ar (b::bs)else common (a::ar) bs)=rest:=⟨_,rfl⟩
    rw[hrest]
    obtain⟨r1,r2,r3,r4⟩:PGood C rest∧(∀ p∈rest,(∃ x∈a::ar,x.1≤p.1)∧(∃ y∈b::bs,y.1≤p.1))∧(∀ p∈rest,min a.2 b.2 < p.1)∧(∀ j,Cov rest j↔(Cov (a::ar) j∧Cov (b::bs) j)∧¬(max a.1 b.1≤j∧j < min a.2 b.2)):=by
     have nas:∀ j,j≤a.2→¬ Cov ar j:=by
      rintro j hj ⟨x,hx,h1,h2⟩
      have:=ga x hx
      omega
     have nbs:∀ j,j≤b.2→¬ Cov bs j:=by
      rintro j hj ⟨x,hx,h1,h2⟩
      have:=gb x hx
      omega
     by_cases hlt:a.2 < b.2
     ·rw[if_pos hlt]at hrest
      obtain⟨i1,i2,i3⟩:=ih ar (b::bs) (by simp only[List.length_cons]at hn ⊢;omega) ha.tail hb
      rw[hrest]at i1 i2 i3
      refine⟨i1,fun p hp=>?_,fun p hp=>?_,fun j=>?_⟩
      ·obtain⟨⟨x,hx,hx'⟩,h⟩:=i2 p hp
       exact⟨⟨x,by simp[hx],hx'⟩,h⟩
      ·obtain⟨⟨x,hx,hx'⟩,_⟩:=i2 p hp
       have:=ga x hx
       omega
      ·rw[i3 j,Cov.cons (p:=a)]
       constructor
       ·rintro⟨h1,h2⟩
        refine⟨⟨.inr h1,h2⟩,fun h=>nas j (by omega) h1⟩
       ·rintro⟨⟨h1,h2⟩,h3⟩
        refine⟨?_,h2⟩
        rcases h1 with h1 | h1
        ·exfalso
         apply h3
         rw[Cov.cons]at h2
         rcases h2 with h2 | h2
         ·omega
         ·exact absurd h2 (nbs j (by omega))
        ·exact h1
     ·rw[if_neg hlt]at hrest
      obtain⟨i1,i2,i3⟩:=ih (a::ar) bs (by simp only[List.length_cons]at hn ⊢;omega) ha hb.tail
      rw[hrest]at i1 i2 i3
      refine⟨i1,fun p hp=>?_,fun p hp=>?_,fun j=>?_⟩
      ·obtain⟨h,⟨x,hx,hx'⟩⟩:=i2 p hp
       exact⟨h,⟨x,by simp[hx],hx'⟩⟩
      ·obtain⟨_,⟨x,hx,hx'⟩⟩:=i2 p hp
       have:=gb x hx
       omega
      ·rw[i3 j,Cov.cons (p:=b)]
       constructor
       ·rintro⟨h1,h2⟩
        refine⟨⟨h1,.inr h2⟩,fun h=>nbs j (by omega) h2⟩
       ·rintro⟨⟨h1,h2⟩,h3⟩
        refine⟨h1,?_⟩
        rcases h2 with h2 | h2
        ·exfalso
         apply h3
         rw[Cov.cons]at h1
         rcases h1 with h1 | h1
         ·omega
         ·exact absurd h1 (nas j (by omega))
        ·exact h2
    have hpre:∀ q∈(if max a.1 b.1 < min a.2 b.2 then [(max a.1 b.1,min a.2 b.2)]else []),q=(max a.1 b.1,min a.2 b.2)∧max a.1 b.1 < min a.2 b.2:=by
     intro q hq
     split at hq
     ·rename_i h;rw[List.mem_singleton]at hq;exact⟨hq,h⟩
     ·cases hq
    refine⟨⟨fun q hq=>?_,?_⟩,fun q hq=>?_,fun j=>?_⟩
    ·rw[List.mem_append]at hq
     rcases hq with hq | hq
     ·obtain⟨rfl,h⟩:=hpre q hq;simp only;omega
     ·exact r1.all q hq
    ·refine List.pairwise_append.2 ⟨by split<;>simp,r1.gap,fun q hq r hr=>?_⟩
     obtain⟨rfl,h⟩:=hpre q hq
     exact r3 r hr
    ·rw[List.mem_append]at hq
     rcases hq with hq | hq
     ·obtain⟨rfl,h⟩:=hpre q hq
      exact⟨⟨a,by simp,by simp only;omega⟩,⟨b,by simp,by simp only;omega⟩⟩
     ·exact r2 q hq
    ·rw[Cov.append,r4 j]
     have hpc:Cov (if max a.1 b.1 < min a.2 b.2 then [(max a.1 b.1,min a.2 b.2)]else []) j↔max a.1 b.1≤j∧j < min a.2 b.2:=by
      split
      ·simp only[Cov.cons,Cov.nil,or_false]
      ·simp only[Cov.nil,false_iff];omega
     rw[hpc]
     constructor
     ·rintro(h | h)
      ·exact⟨Cov.cons.2 (.inl (by omega)),Cov.cons.2 (.inl (by omega))⟩
      ·exact h.1
     ·intro h
      by_cases h3:max a.1 b.1≤j∧j < min a.2 b.2
      ·exact .inl h3
      ·exact .inr ⟨h,h3⟩
theorem Wnw:∀(n:Nat) (a b:List (Int×Int)),a.length+b.length=n→(common a b).length≤n:=by
 intro n
 induction n with
 | zero=>
  intro a b hn
  have ea:a=[]:=List.eq_nil_of_length_eq_zero (by omega)
  subst ea
  simp[common]
 | succ n ih=>
  intro a b hn
  cases a with
  | nil=>simp[common]
  | cons a ar=>
   cases b with
   | nil=>simp[common]
   | cons b bs=>
    rw[common,List.length_append]
    have h1:(if max a.1 b.1 < min a.2 b.2 then [(max a.1 b.1,min a.2 b.2)]else []).length≤1:=by split<;>simp
    have h2:(if a.2 < b.2 then common ar (b::bs)else common (a::ar) bs).length≤n:=by
     split
     ·exact ih _ _ (by simp only[List.length_cons]at hn ⊢;omega)
     ·exact ih _ _ (by simp only[List.length_cons]at hn ⊢;omega)
    omega
end Go.Circ