/- Texts of the proof. -/
import Derived.Test.YtalbenehgdkalaaGreatBandD
namespace Go.Proofs.YtalbenehgdkalaaGreat.Fn
open Go Go.RowKit Go.Den Go.Circ
theorem Wjw{C:Int}(h1:1≤C)(h2:C≤6000)(l:List (Int×Int)):(0≤(Wct C l).1∧(Wct C l).1 < C)∧(0≤(Wct C l).2∧(Wct C l).2≤C)∧∀ k,0≤k→k < (Wct C l).2→TS C l ((Wct C l).1+k):=by
 unfold Wct
 by_cases hne:Win C l=[]
 ·rw[hne]
  simp only[Wfk]
  exact⟨⟨by omega,by omega⟩,⟨by omega,by omega⟩,fun k h3 h4=>by omega⟩
 ·obtain⟨b1,b2,b3,b4,b5,_⟩:=((Wlu h1 h2 l).mem _).1 (Wut hne)
  exact⟨⟨b1,b2⟩,⟨by omega,b4⟩,fun k h3 h4=>(TS.mod C l _).1 (b5 k h3 h4)⟩
theorem wider_no{C:Int}(h1:1≤C)(h2:C≤6000)(l:List (Int×Int))(s:Int)(hw:(Wct C l).2+1≤C):Whi C l (s,(Wct C l).2+1)=false:=by
 have h0:=(Wjw h1 h2 l).2.1.1
 rw[Bool.eq_false_iff]
 intro h
 rw[Wfn h1 h2]at h
 have:=run_le ⟨h1,h2⟩ (m:=l) (s:=s) (k:=(Wct C l).2+1) (by omega) hw h
 unfold Wct at this
 omega
theorem Wwv{C:Int}(h1:1≤C)(h2:C≤6000)(l:List (Int×Int))(k:Int)(k0:0≤k):Whi C l (((Wct C l).1+k) % C,(Wct C l).2 - k)=true:=by
 rw[Wfn h1 h2]
 intro t t0 t1
 simp only at t1 ⊢
 have:=(Wjw h1 h2 l).2.2 (k+t) (by omega) (by omega)
 refine(TS.cong ?_).1 this
 rw[Int.emod_add_emod]
 congr 1;omega
theorem Www{C:Int}(h1:1≤C)(h2:C≤6000)(l:List (Int×Int))(s:Int):Whi C l (s,0)=true:=by
 rw[Wfn h1 h2]
 intro t t0 t1
 simp only at t1;omega
end Go.Proofs.YtalbenehgdkalaaGreat.Fn