/- Texts of the proof. -/
import Derived.Test.YtalbenehgdkalaaGreatStep
namespace Go.Proofs.YtalbenehgdkalaaGreat.Fn
open Go Go.RowKit Go.Den Go.Circ
theorem TS.cong{C:Int}{l:List (Int×Int)}{i j:Int}(h:i % C=j % C):TS C l i↔TS C l j:=by rw[← TS.mod C l i,h,TS.mod]
theorem Wo2:∀(r:List (Int×Int)) (a:Int×Int),r.foldl wide a∈a::r∧(∀ x∈a::r,x.2≤(r.foldl wide a).2):=by
 intro r
 induction r with
 | nil=>intro a;exact⟨by simp,fun x hx=>by rw[List.mem_singleton]at hx;subst hx;exact Int.le_refl _⟩
 | cons b r ih=>
  intro a
  simp only[List.foldl_cons]
  obtain⟨h1,h2⟩:=ih (wide a b)
  have hw:wide a b=a∧b.2≤a.2∨wide a b=b∧a.2 < b.2:=by
   unfold wide
   by_cases h:a.2 < b.2
   ·right;rw[if_pos h];exact⟨rfl,h⟩
   ·left;rw[if_neg h];exact⟨rfl,by omega⟩
  refine⟨?_,fun x hx=>?_⟩
  ·rw[List.mem_cons]at h1
   rcases h1 with h1 | h1
   ·rw[h1]
    rcases hw with⟨e,_⟩ | ⟨e,_⟩<;>rw[e]<;>simp
   ·simp[h1]
  ·have h0:=h2 (wide a b) (by simp)
   rw[List.mem_cons,List.mem_cons]at hx
   rcases hx with rfl | rfl | hx
   ·rcases hw with⟨e,_⟩ | ⟨e,h⟩<;>rw[e]at h0 h2 ⊢<;>omega
   ·rcases hw with⟨e,_⟩ | ⟨e,h⟩<;>rw[e]at h0 h2 ⊢<;>omega
   ·exact h2 x (by simp[hx])
theorem Wut{f:List (Int×Int)}(h:f≠[]):Wfk f∈f:=by
 cases f with
 | nil=>exact absurd rfl h
 | cons a r=>exact(Wo2 r a).1
theorem Wxk{f:List (Int×Int)}{x:Int×Int}(h:x∈f):x.2≤(Wfk f).2:=by
 cases f with
 | nil=>cases h
 | cons a r=>exact(Wo2 r a).2 x h
theorem run_le{C:Int}(hc:1≤C∧C≤6000){m:List (Int×Int)}{s k:Int}(hk:1≤k)(hk':k≤C)(h:∀ i,0≤i→i < k→TS C m (s+i)):k≤(Wfk (Win C m)).2:=by
 have h0:=h 0 (by omega) (by omega)
 have m1:=Int.emod_nonneg (s+0) (b:=C) (by omega)
 have m2:=Int.emod_lt_of_pos (s+0) (b:=C) (by omega)
 rw[← TS.mod,← Wsv hc.1 hc.2 m m1 m2]at h0
 obtain⟨y,hy,hty⟩:=h0
 have hyA:=((Wlu hc.1 hc.2 m).mem y).1 hy
 refine Int.le_trans ?_ (Wxk hy)
 obtain⟨b1,b2,b3,b4,b5,b6⟩:=hyA
 rcases b6 with b6 | b6
 ·omega
 ·refine Classical.byContradiction fun hn=>b6.2.2 ?_
  have hd:((s+0) % C - y.1) % C < y.2:=by
   rcases hty.2 with h | h
   ·omega
   ·exact h
  have d0:=Int.emod_nonneg ((s+0) % C - y.1) (b:=C) (by omega)
  have:=h (y.2 - ((s+0) % C - y.1) % C) (by omega) (by omega)
  refine(TS.mod C m (y.1+y.2)).2 ((TS.cong ?_).1 this)
  rw[show s+(y.2 - ((s+0) % C - y.1) % C)=s+y.2 - ((s+0) % C - y.1) % C by omega,Int.sub_emod_emod,show s+y.2 - ((s+0) % C - y.1)=s+(y.2+y.1) - (s+0) % C by omega,Int.sub_emod_emod]
  congr 1;omega
theorem Wuu:∀(A:List (Int×Int)) (lo C:Int),(A.Pairwise fun p q=>p.1 < q.1)→(∀ a∈A,lo≤a.1∧a.1 < C)→lo≤C→(A.length:Int)≤C - lo:=by
 intro A
 induction A with
 | nil=>intro lo C _ _ h;simp;omega
 | cons a A ih=>
  intro lo C hs hb h
  obtain⟨s1,s2⟩:=List.pairwise_cons.1 hs
  have:=hb a (by simp)
  have:=ih (a.1+1) C s2 (fun x hx=>by have:=s1 x hx;have:=hb x (by simp[hx]);omega) (by omega)
  simp only[List.length_cons];omega
theorem Arcs.len{C:Int}{T:Int→Prop}{A:List (Int×Int)}(hA:Arcs C T A)(hC:0≤C):(A.length:Int)≤C:=by
 have:=Wuu A 0 C hA.sorted (fun a ha=>by have:=(hA.mem a).1 ha;exact⟨this.1,this.2.1⟩) hC
 omega
end Go.Proofs.YtalbenehgdkalaaGreat.Fn