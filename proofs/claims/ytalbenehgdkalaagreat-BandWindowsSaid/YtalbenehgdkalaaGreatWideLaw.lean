/- Texts of the proof. -/
import Derived.Test.YtalbenehgdkalaaGreatStep
namespace Go.Proofs.YtalbenehgdkalaaGreat.Fn
open Go Go.RowKit Go.Den Go.Circ
theorem TS.cong{C:Int}{l:List (Int×Int)}{i j:Int}(h:i % C=j % C):TS C l i↔TS C l j:=by rw[← TS.mod C l i,h,TS.mod]
theorem Wwg:∀(A:List (Int×Int)) (lo C:Int),(A.Pairwise fun p q=>p.1 < q.1)→(∀ a∈A,lo≤a.1∧a.1 < C)→lo≤C→(A.length:Int)≤C - lo:=by
 intro A
 induction A with
 | nil=>intro lo C _ _ h;simp;omega
 | cons a A ih=>
  intro lo C hs hb h
  obtain⟨s1,s2⟩:=List.pairwise_cons.1 hs
  have:=hb a (by simp)
  have:=ih (a.1+1) C s2 (fun x hx=>by have:=s1 x hx;have:=hb x (by simp[hx]);omega) (by omega)
  simp only[List.length_cons];omega
theorem Arcs.len{C:Int}{T:Int→Prop}{A:List (Int×Int)}(hA:Arcs C T A)(hC:0≤C):(A.length:Int)≤C:=by
 have:=Wwg A 0 C hA.sorted (fun a ha=>by have:=(hA.mem a).1 ha;exact⟨this.1,this.2.1⟩) hC
 omega
end Go.Proofs.YtalbenehgdkalaaGreat.Fn