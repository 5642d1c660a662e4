/- Texts of the proof. -/
import Derived.Test.YtalbenehgdkalaaGreatFnA5
namespace Go.Proofs.YtalbenehgdkalaaGreat.Fn
set_option maxRecDepth 100000
open Go Go.RowKit Go.Den
def h_qbd:Shape:=⟨sO 2 [(0,.c hS),(1,.c (hL 9))],[],[]⟩
def o_qbd:LT10:=[(.ret,⟨sO 1 [(0,.c hB)],[],[]⟩)]
def qbd(n:Nat)(x0:ByteArray×LBy):Option (Bool):=(Wao (Y:=(Bool) ⊕ (Unit)) n (fun(x1:ByteArray×LBy×Int)=>let e0:=x1.2.1.length;bif decide (x1.2.2 < ((e0:Nat):Int))then bif inB x1.2.2 e0 then bif Wam (atI (ByteArray.mk #[]) x1.2.1 x1.2.2) x1.1 then some (.inr (.inl true)) else some (.inl (x1.1,x1.2.1,wrap64 (x1.2.2+1))) else none else some (.inr (.inr ()))) (x0.1,x0.2,0)).bind (Sum.elim (fun(z2:Bool)=>some z2) (fun(z3:Unit)=>some false))
def p_qbd:Plan:=.two (.leaf) (.two (.two (.leaf) (.one (.loop ⟨sO 18 [(0,.c hS),(1,.c (hL 9)),(5,.c hI)],[],[]⟩ [(.ret,⟨sO 18 [(4,.c hB)],[],[]⟩),(.exit 0,⟨sO 18 [],[],[]⟩)] (.leaf)))) (.leaf))
noncomputable def c_qbd(n:Nat):Cx:=cX [] [] []
theorem d_qbd(n:Nat)(x:h_qbd.X T):denF (c_qbd n) n Tryz.f143 p_qbd h_qbd o_qbd x=qbd n x:=by kernel_rfl
theorem s_qbd(n:Nat):PCalls Tryz.prog Θ 143 ⟨h_qbd,o_qbd,qbd n⟩:=
 Waa (C:=c_qbd n) (n:=n) (p:=p_qbd) (Wal mixed Wak trivial trivial trivial) Tryz.func143 (by kernel_rfl) (by kernel_rfl) (d_qbd n) (by kernel_rfl)
end Go.Proofs.YtalbenehgdkalaaGreat.Fn