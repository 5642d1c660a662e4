/- Texts of the proof. -/
import Derived.Test.YtalbenehgdkalaaGreatFnA2
namespace Go.Proofs.YtalbenehgdkalaaGreat.Fn
set_option maxRecDepth 100000
open Go Go.RowKit Go.Den
def h_qb8:Shape:=⟨sO 1 [(0,.c (hL 9))],[],[]⟩
def o_qb8:LT10:=[(.ret,⟨sO 1 z32,[],[(0,9)]⟩)]
noncomputable def qb8(n:Nat)(x0:List ByteArray):Option (List ByteArray):=let e0:=fitB x0.length 16;bif List.isEmpty x0 then both (some []) (bif e0 then some x0 else none) else bif e0 then some x0 else none
def p_qb8:Plan:=.leaf
noncomputable def c_qb8(n:Nat):Cx:=cX [] [] []
theorem d_qb8(n:Nat)(x:h_qb8.X T):denF (c_qb8 n) n Tryz.f155 p_qb8 h_qb8 o_qb8 x=qb8 n x:=by kernel_rfl
theorem s_qb8(n:Nat):PCalls Tryz.prog Θ 155 ⟨h_qb8,o_qb8,qb8 n⟩:=
 Waa (C:=c_qb8 n) (n:=n) (p:=p_qb8) (Wal mixed Wak trivial trivial trivial) Tryz.func155 (by kernel_rfl) (by kernel_rfl) (d_qb8 n) (by kernel_rfl)
def Ww1:Shape:=⟨sO 2 [(0,.c (hL 9)),(1,.c hS)],[],[]⟩
def o_qcr:LT10:=[(.ret,⟨sO 1 [(0,.c hI)],[],[]⟩)]
def qcr(n:Nat)(x0:LBy×ByteArray):Option (Int):=(Wao (Y:=(Int) ⊕ (Unit)) n (fun(x1:LBy×ByteArray×Int×Int)=>bif decide (x1.2.2.2 < x1.2.2.1)then bif inB x1.2.2.2 x1.1.length then bif Wam x1.2.1 (atI (ByteArray.mk #[]) x1.1 x1.2.2.2)then some (.inr (.inl x1.2.2.2)) else some (.inl (x1.1,x1.2.1,x1.2.2.1,wrap64 (x1.2.2.2+1))) else none else some (.inr (.inr ()))) (x0.1,x0.2,((x0.1.length:Nat):Int),0)).bind (Sum.elim (fun(z2:Int)=>some z2) (fun(z3:Unit)=>some (-1)))
def p_qcr:Plan:=.two (.leaf) (.two (.two (.leaf) (.one (.loop ⟨sO 19 [(0,.c (hL 9)),(1,.c hS),(7,.c hI),(8,.c hI)],[],[]⟩ [(.ret,⟨sO 19 [(4,.c hI)],[],[]⟩),(.exit 0,⟨sO 19 [],[],[]⟩)] (.leaf)))) (.leaf))
noncomputable def c_qcr(n:Nat):Cx:=cX [] [] []
theorem d_qcr(n:Nat)(x:Ww1.X T):denF (c_qcr n) n Tryz.f156 p_qcr Ww1 o_qcr x=qcr n x:=by kernel_rfl
theorem s_qcr(n:Nat):PCalls Tryz.prog Θ 156 ⟨Ww1,o_qcr,qcr n⟩:=
 Waa (C:=c_qcr n) (n:=n) (p:=p_qcr) (Wal mixed Wak trivial trivial trivial) Tryz.func156 (by kernel_rfl) (by kernel_rfl) (d_qcr n) (by kernel_rfl)
def h_qcf:Shape:=⟨sO 2 [(0,.c (.row 1000000)),(1,.c (.fn 159 [1000000]))],[(1000000,110,zc6)],[(1000000,9)]⟩
def o_qcf:LT10:=[(.ret,⟨sO 1 [(0,.c (.row 2000000))],[(1000000,110,zc6)],[(2000000,9)]⟩)]
def qcf(n:Nat)(x:ByteArray×Int×Int×Int×LT6×LBy):Option (ByteArray×Int×Int×Int×LT6×LBy):=delF (fun s y=>Wam y s) x
theorem s_qcf(n:Nat):PCalls Tryz.prog Θ 158 ⟨h_qcf,o_qcf,qcf n⟩:=Wo5
def h_qdb:Shape:=⟨sO 2 [(0,.c hS),(1,.agg [hS,hI,hI])],[],[]⟩
def o_qdb:LT10:=[(.ret,⟨sO 1 [(0,.c hB)],[],[]⟩)]
def qdb(n:Nat)(x0:ByteArray×ByteArray×Int×Int):Option (Bool):=some (Wam x0.1 x0.2.1)
def p_qdb:Plan:=.leaf
noncomputable def c_qdb(n:Nat):Cx:=cX [] [] []
theorem d_qdb(n:Nat)(x:h_qdb.X T):denF (c_qdb n) n Tryz.f206 p_qdb h_qdb o_qdb x=qdb n x:=by kernel_rfl
theorem s_qdb(n:Nat):PCalls Tryz.prog Θ 206 ⟨h_qdb,o_qdb,qdb n⟩:=
 Waa (C:=c_qdb n) (n:=n) (p:=p_qdb) (Wal mixed Wak trivial trivial trivial) Tryz.func206 (by kernel_rfl) (by kernel_rfl) (d_qdb n) (by kernel_rfl)
def h_qcg:Shape:=⟨sO 3 [(0,.c (hL 9)),(1,.c (hL 113)),(2,.c (.fn 206 []))],[],[]⟩
def o_qcg:LT10:=[(.ret,⟨sO 1 [(0,.c hB)],[],[]⟩)]
def qcg(n:Nat)(x0:LBy×LT6):Option (Bool):=let e0:=((x0.1.length:Nat):Int);bif !(e0==((x0.2.length:Nat):Int))then some false else (Wao (Y:=(Bool) ⊕ (Unit)) n (fun(x1:LT6×LBy×Int×Int)=>bif decide (x1.2.2.2 < x1.2.2.1)then bif inB x1.2.2.2 x1.2.1.length then bif inB x1.2.2.2 x1.1.length then (qdb n (atI (ByteArray.mk #[]) x1.2.1 x1.2.2.2,atI (ByteArray.mk #[],0,0) x1.1 x1.2.2.2)).bind fun y2=>bif !y2 then some (.inr (.inl false)) else some (.inl (x1.1,x1.2.1,x1.2.2.1,wrap64 (x1.2.2.2+1))) else none else none else some (.inr (.inr ()))) (x0.2,x0.1,e0,0)).bind (Sum.elim (fun(z3:Bool)=>some z3) (fun(z4:Unit)=>some true))
def p_qcg:Plan:=.two (.leaf) (.two (.leaf) (.two (.two (.leaf) (.one (.loop ⟨sO 32 [(1,.c (hL 113)),(2,.c (.fn 206 [])),(15,.c (hL 9)),(16,.c hI),(17,.c hI)],[],[]⟩ [(.ret,⟨sO 32 [(6,.c hB)],[],[]⟩),(.exit 0,⟨sO 32 [],[],[]⟩)] (.leaf)))) (.leaf)))
noncomputable def c_qcg(n:Nat):Cx:=cX [(206,⟨h_qdb,o_qdb,qdb n⟩)] [] []
theorem d_qcg(n:Nat)(x:h_qcg.X T):denF (c_qcg n) n Tryz.f205 p_qcg h_qcg o_qcg x=qcg n x:=by kernel_rfl
theorem s_qcg(n:Nat):PCalls Tryz.prog Θ 205 ⟨h_qcg,o_qcg,qcg n⟩:=
 Waa (C:=c_qcg n) (n:=n) (p:=p_qcg) (Wal mixed Wak ⟨s_qdb n,trivial⟩ trivial trivial) Tryz.func205 (by kernel_rfl) (by kernel_rfl) (d_qcg n) (by kernel_rfl)
def h_qda:Shape:=⟨sO 2 [(0,.agg zc0),(1,.agg zc6)],[],[]⟩
def o_qda:LT10:=[(.ret,⟨sO 1 [(0,.c hB)],[],[]⟩)]
def qda(n:Nat)(x0:ByteArray×LT8×LT4×LT9×LLT0×LT3×Int×ByteArray×Int×Int×Int×LT6):Option (Bool):=(Wao (Y:=(ByteArray×Int×Int×Int×LT6×LBy)) n (fun(x2:LT4×Int×Int×ByteArray×Int×Int×Int×LT6×LBy)=>let e0:=atI (ByteArray.mk #[],ByteArray.mk #[],0,0,0,0) x2.1 x2.2.2.1;let e1:=e0.1::[];let e2:=wrap64 (x2.2.2.1+1);bif decide (x2.2.2.1 < x2.2.1)then bif inB x2.2.2.1 x2.1.length then bif Wam e0.2.1 x2.2.2.2.1 then bif fitB (x2.2.2.2.2.2.2.2.2.length+e1.length) 16 then some (.inl (x2.1,x2.2.1,e2,x2.2.2.2.1,x2.2.2.2.2.1,x2.2.2.2.2.2.1,x2.2.2.2.2.2.2.1,x2.2.2.2.2.2.2.2.1,x2.2.2.2.2.2.2.2.2++e1)) else none else some (.inl (x2.1,x2.2.1,e2,x2.2.2.2)) else none else some (.inr x2.2.2.2)) (x0.2.2.1,((x0.2.2.1.length:Nat):Int),0,x0.2.2.2.2.2.2.2.1,x0.2.2.2.2.2.2.2.2.1,x0.2.2.2.2.2.2.2.2.2.1,x0.2.2.2.2.2.2.2.2.2.2.1,x0.2.2.2.2.2.2.2.2.2.2.2,[])).bind fun(z3:ByteArray×Int×Int×Int×LT6×LBy)=>(qcg n (z3.2.2.2.2.2,z3.2.2.2.2.1)).bind fun y4=>some y4
def p_qda:Plan:=.two (.leaf) (.two (.leaf) (.two (.two (.leaf) (.one (.loop ⟨sO 30 [(3,.c (.box 3 0)),(5,.c (.row 24)),(9,.c (hL 151)),(10,.c hI),(11,.c hI)],[(3,110,zc6)],[(24,9)]⟩ [(.exit 0,⟨sO 30 [(3,.c (.box 3 0)),(5,.c (.row 24))],[(3,110,zc6)],[(24,9)]⟩)] (.leaf)))) (.leaf)))
noncomputable def c_qda(n:Nat):Cx:=cX [(205,⟨h_qcg,o_qcg,qcg n⟩)] [] []
theorem d_qda(n:Nat)(x:h_qda.X T):denF (c_qda n) n Tryz.f157 p_qda h_qda o_qda x=qda n x:=by kernel_rfl
theorem s_qda(n:Nat):PCalls Tryz.prog Θ 157 ⟨h_qda,o_qda,qda n⟩:=
 Waa (C:=c_qda n) (n:=n) (p:=p_qda) (Wal mixed Wak ⟨s_qcg n,trivial⟩ trivial trivial) Tryz.func157 (by kernel_rfl) (by kernel_rfl) (d_qda n) (by kernel_rfl)
def h_qc1:Shape:=⟨sO 3 [(0,.agg zc0),(1,.agg [hB,hL 9]),(2,.c (hL 110))],[],[]⟩
def o_qc1:LT10:=[(.ret,⟨sO 1 [(0,.c hB)],[],[]⟩)]
noncomputable def qc1(n:Nat)(x0:ByteArray×LT8×LT4×LT9×LLT0×LT3×Int×Bool×LBy×LT13):Option (Bool):=(qb8 n x0.2.2.2.2.2.2.2.2.1).bind fun y1=>(Wao (Y:=(Bool) ⊕ (LT13×Bool×LBy)) n (fun(x2:LT13×LT13×Int×Int×ByteArray×LT8×LT4×LT9×LLT0×LT3×Int×Bool×LBy×LBy)=>let e0:=atI (ByteArray.mk #[],0,0,0,[]) x2.2.1 x2.2.2.2.1;let e1:=e0.1;let e2:=e0.2;let e3:=e0.2.1;let e4:=e0.2.2;let e5:=e0.2.2.1;let e6:=e0.2.2.2;let e7:=e0.2.2.2.1;bif decide (x2.2.2.2.1 < x2.2.2.1)then bif inB x2.2.2.2.1 x2.2.1.length then (qcr n (x2.2.2.2.2.2.2.2.2.2.2.2.2.2,e1)).bind fun y3=>letJ (fun(x5:LT13×LT13×Int×Int×Bool×ByteArray×LT8×LT4×LT9×LLT0×LT3×Int×Bool×LBy×ByteArray×Int×Int×Int×LT6×LBy)=>bif x5.2.2.2.2.1 then some (.inr (.inl false)) else (qcf n x5.2.2.2.2.2.2.2.2.2.2.2.2.2.2).bind fun y7=>some (.inl (x5.1,x5.2.1,x5.2.2.1,wrap64 (x5.2.2.2.1+1),x5.2.2.2.2.2.1,x5.2.2.2.2.2.2.1,x5.2.2.2.2.2.2.2.1,x5.2.2.2.2.2.2.2.2.1,x5.2.2.2.2.2.2.2.2.2.1,x5.2.2.2.2.2.2.2.2.2.2.1,x5.2.2.2.2.2.2.2.2.2.2.2.1,x5.2.2.2.2.2.2.2.2.2.2.2.2.1,x5.2.2.2.2.2.2.2.2.2.2.2.2.2.1,y7.2.2.2.2.2))) fun J6=>bif decide (y3 < 0)then J6 (x2.1,x2.2.1,x2.2.2.1,x2.2.2.2.1,true,x2.2.2.2.2.1,x2.2.2.2.2.2.1,x2.2.2.2.2.2.2.1,x2.2.2.2.2.2.2.2.1,x2.2.2.2.2.2.2.2.2.1,x2.2.2.2.2.2.2.2.2.2.1,x2.2.2.2.2.2.2.2.2.2.2.1,x2.2.2.2.2.2.2.2.2.2.2.2.1,x2.2.2.2.2.2.2.2.2.2.2.2.2.1,e1,e3,e5,e7,e0.2.2.2.2,x2.2.2.2.2.2.2.2.2.2.2.2.2.2) else bif decide (e3≤wrap64 (e5+e7))then J6 (x2.1,x2.2.1,x2.2.2.1,x2.2.2.2.1,true,x2.2.2.2.2.1,x2.2.2.2.2.2.1,x2.2.2.2.2.2.2.1,x2.2.2.2.2.2.2.2.1,x2.2.2.2.2.2.2.2.2.1,x2.2.2.2.2.2.2.2.2.2.1,x2.2.2.2.2.2.2.2.2.2.2.1,x2.2.2.2.2.2.2.2.2.2.2.2.1,x2.2.2.2.2.2.2.2.2.2.2.2.2.1,e1,e3,e5,e7,e0.2.2.2.2,x2.2.2.2.2.2.2.2.2.2.2.2.2.2) else (qda n (x2.2.2.2.2.1,x2.2.2.2.2.2.1,x2.2.2.2.2.2.2.1,x2.2.2.2.2.2.2.2.1,x2.2.2.2.2.2.2.2.2.1,x2.2.2.2.2.2.2.2.2.2.1,x2.2.2.2.2.2.2.2.2.2.2.1,e0)).bind fun y4=>J6 (x2.1,x2.2.1,x2.2.2.1,x2.2.2.2.1,!y4,x2.2.2.2.2.1,x2.2.2.2.2.2.1,x2.2.2.2.2.2.2.1,x2.2.2.2.2.2.2.2.1,x2.2.2.2.2.2.2.2.2.1,x2.2.2.2.2.2.2.2.2.2.1,x2.2.2.2.2.2.2.2.2.2.2.1,x2.2.2.2.2.2.2.2.2.2.2.2.1,x2.2.2.2.2.2.2.2.2.2.2.2.2.1,e1,e3,e5,e7,e0.2.2.2.2,x2.2.2.2.2.2.2.2.2.2.2.2.2.2) else none else some (.inr (.inr (x2.1,x2.2.2.2.2.2.2.2.2.2.2.2.1,x2.2.2.2.2.2.2.2.2.2.2.2.2.1)))) (x0.2.2.2.2.2.2.2.2.2,x0.2.2.2.2.2.2.2.2.2,((x0.2.2.2.2.2.2.2.2.2.length:Nat):Int),0,x0.1,x0.2.1,x0.2.2.1,x0.2.2.2.1,x0.2.2.2.2.1,x0.2.2.2.2.2.1,x0.2.2.2.2.2.2.1,x0.2.2.2.2.2.2.2.1,x0.2.2.2.2.2.2.2.2.1,y1)).bind (Sum.elim (fun(z8:Bool)=>some z8) (fun(z9:LT13×Bool×LBy)=>some (((z9.1.length:Nat):Int)==((z9.2.2.length:Nat):Int))))
def p_qc1:Plan:=.two (.leaf) (.two (.leaf) (.two (.two (.leaf) (.one (.loop ⟨sO 52 [(2,.c (hL 110)),(3,.c (.box 3 0)),(4,.c (.box 4 0)),(7,.c (.row 11300)),(14,.c (hL 110)),(15,.c hI),(16,.c hI)],[(3,89,zc0),(4,166,[hB,hL 9])],[(11300,9)]⟩ [(.ret,⟨sO 52 [(6,.c hB)],[],[]⟩),(.exit 0,⟨sO 52 [(2,.c (hL 110)),(4,.c (.box 4 0))],[(4,166,[hB,hL 9])],[]⟩)] (.two (.leaf) (.two (.leaf) (.two (.one (.two (.leaf) (.two (.leaf) (.two (.two (.join ⟨sO 52 [(2,.c (hL 110)),(3,.c (.box 3 0)),(4,.c (.box 4 0)),(7,.c (.row 11300)),(9,.c (.box 9 0)),(14,.c (hL 110)),(15,.c hI),(16,.c hI),(41,.c hB)],[(3,89,zc0),(4,166,[hB,hL 9]),(9,110,zc6)],[(11300,9)]⟩ (.leaf)) (.leaf)) (.leaf))))) (.leaf))))))) (.leaf)))
noncomputable def c_qc1(n:Nat):Cx:=cX [(158,⟨h_qcf,o_qcf,qcf n⟩),(155,⟨h_qb8,o_qb8,qb8 n⟩),(156,⟨Ww1,o_qcr,qcr n⟩),(157,⟨h_qda,o_qda,qda n⟩)] [] []
theorem d_qc1(n:Nat)(x:h_qc1.X T):denF (c_qc1 n) n Tryz.f95 p_qc1 h_qc1 o_qc1 x=qc1 n x:=by kernel_rfl
theorem s_qc1(n:Nat):PCalls Tryz.prog Θ 95 ⟨h_qc1,o_qc1,qc1 n⟩:=
 Waa (C:=c_qc1 n) (n:=n) (p:=p_qc1) (Wal mixed Wak ⟨s_qcf n,s_qb8 n,s_qcr n,s_qda n,trivial⟩ trivial trivial) Tryz.func95 (by kernel_rfl) (by kernel_rfl) (d_qc1 n) (by kernel_rfl)
def h_qc9:Shape:=⟨sO 1 [(0,.c hI)],[],[]⟩
def o_qc9:LT10:=[(.ret,⟨sO 1 [(0,.c hB)],[],[]⟩)]
def qc9(n:Nat)(x0:Int):Option (Bool):=bif decide (x0 < 0)then some true else some (decide (6000 < x0))
def p_qc9:Plan:=.leaf
noncomputable def c_qc9(n:Nat):Cx:=cX [] [] []
theorem d_qc9(n:Nat)(x:h_qc9.X T):denF (c_qc9 n) n Tryz.f225 p_qc9 h_qc9 o_qc9 x=qc9 n x:=by kernel_rfl
theorem s_qc9(n:Nat):PCalls Tryz.prog Θ 225 ⟨h_qc9,o_qc9,qc9 n⟩:=
 Waa (C:=c_qc9 n) (n:=n) (p:=p_qc9) (Wal mixed Wak trivial trivial trivial) Tryz.func225 (by kernel_rfl) (by kernel_rfl) (d_qc9 n) (by kernel_rfl)
def h_qcm:Shape:=⟨sO 2 [(0,.c (hL 2)),(1,.c (.fn 225 []))],[],[]⟩
def o_qcm:LT10:=[(.ret,⟨sO 1 [(0,.c hI)],[],[]⟩)]
def qcm(n:Nat)(x0:List Int):Option (Int):=(Wao (Y:=(Int) ⊕ (Unit)) n (fun(x1:LIn×Int×Int)=>bif decide (x1.2.2 < x1.2.1)then bif inB x1.2.2 x1.1.length then (qc9 n (atI 0 x1.1 x1.2.2)).bind fun y2=>bif y2 then some (.inr (.inl x1.2.2)) else some (.inl (x1.1,x1.2.1,wrap64 (x1.2.2+1))) else none else some (.inr (.inr ()))) (x0,((x0.length:Nat):Int),0)).bind (Sum.elim (fun(z3:Int)=>some z3) (fun(z4:Unit)=>some (-1)))
def p_qcm:Plan:=.two (.leaf) (.two (.two (.leaf) (.one (.loop ⟨sO 19 [(0,.c (hL 2)),(1,.c (.fn 225 [])),(7,.c hI),(8,.c hI)],[],[]⟩ [(.ret,⟨sO 19 [(4,.c hI)],[],[]⟩),(.exit 0,⟨sO 19 [],[],[]⟩)] (.leaf)))) (.leaf))
noncomputable def c_qcm(n:Nat):Cx:=cX [(225,⟨h_qc9,o_qc9,qc9 n⟩)] [] []
theorem d_qcm(n:Nat)(x:h_qcm.X T):denF (c_qcm n) n Tryz.f200 p_qcm h_qcm o_qcm x=qcm n x:=by kernel_rfl
theorem s_qcm(n:Nat):PCalls Tryz.prog Θ 200 ⟨h_qcm,o_qcm,qcm n⟩:=
 Waa (C:=c_qcm n) (n:=n) (p:=p_qcm) (Wal mixed Wak ⟨s_qc9 n,trivial⟩ trivial trivial) Tryz.func200 (by kernel_rfl) (by kernel_rfl) (d_qcm n) (by kernel_rfl)
def h_qcc:Shape:=⟨sO 2 [(0,.c (hL 2)),(1,.c (.fn 225 []))],[],[]⟩
def o_qcc:LT10:=[(.ret,⟨sO 1 [(0,.c hB)],[],[]⟩)]
def qcc(n:Nat)(x0:List Int):Option (Bool):=(qcm n x0).bind fun y1=>some (decide (0≤y1))
def p_qcc:Plan:=.leaf
noncomputable def c_qcc(n:Nat):Cx:=cX [(200,⟨h_qcm,o_qcm,qcm n⟩)] [] []
theorem d_qcc(n:Nat)(x:h_qcc.X T):denF (c_qcc n) n Tryz.f144 p_qcc h_qcc o_qcc x=qcc n x:=by kernel_rfl
theorem s_qcc(n:Nat):PCalls Tryz.prog Θ 144 ⟨h_qcc,o_qcc,qcc n⟩:=
 Waa (C:=c_qcc n) (n:=n) (p:=p_qcc) (Wal mixed Wak ⟨s_qcm n,trivial⟩ trivial trivial) Tryz.func144 (by kernel_rfl) (by kernel_rfl) (d_qcc n) (by kernel_rfl)
def Ww2:Shape:=⟨sO 1 [(0,.c (hL 2))],[],[]⟩
def o_qc8:LT10:=[(.ret,⟨sO 1 [(0,.c hB)],[],[]⟩)]
def qc8(n:Nat)(x0:List Int):Option (Bool):=(qcc n x0).bind fun y1=>some (!y1)
def p_qc8:Plan:=.leaf
noncomputable def c_qc8(n:Nat):Cx:=cX [(144,⟨h_qcc,o_qcc,qcc n⟩)] [] []
theorem d_qc8(n:Nat)(x:Ww2.X T):denF (c_qc8 n) n Tryz.f202 p_qc8 Ww2 o_qc8 x=qc8 n x:=by kernel_rfl
theorem s_qc8(n:Nat):PCalls Tryz.prog Θ 202 ⟨Ww2,o_qc8,qc8 n⟩:=
 Waa (C:=c_qc8 n) (n:=n) (p:=p_qc8) (Wal mixed Wak ⟨s_qcc n,trivial⟩ trivial trivial) Tryz.func202 (by kernel_rfl) (by kernel_rfl) (d_qc8 n) (by kernel_rfl)
def h_qc7:Shape:=⟨sO 1 [(0,.agg [hS,hI,hI])],[],[]⟩
def o_qc7:LT10:=[(.ret,⟨sO 1 [(0,.c hB)],[],[]⟩)]
def qc7(n:Nat)(x0:ByteArray×Int×Int):Option (Bool):=(qc8 n (x0.2.1::(x0.2.2::[]))).bind fun y1=>some (!y1)
def p_qc7:Plan:=.leaf
noncomputable def c_qc7(n:Nat):Cx:=cX [(202,⟨Ww2,o_qc8,qc8 n⟩)] [] []
theorem d_qc7(n:Nat)(x:h_qc7.X T):denF (c_qc7 n) n Tryz.f204 p_qc7 h_qc7 o_qc7 x=qc7 n x:=by kernel_rfl
theorem s_qc7(n:Nat):PCalls Tryz.prog Θ 204 ⟨h_qc7,o_qc7,qc7 n⟩:=
 Waa (C:=c_qc7 n) (n:=n) (p:=p_qc7) (Wal mixed Wak ⟨s_qc8 n,trivial⟩ trivial trivial) Tryz.func204 (by kernel_rfl) (by kernel_rfl) (d_qc7 n) (by kernel_rfl)
def h_qcl:Shape:=⟨sO 2 [(0,.c (hL 113)),(1,.c (.fn 204 []))],[],[]⟩
def o_qcl:LT10:=[(.ret,⟨sO 1 [(0,.c hI)],[],[]⟩)]
def qcl(n:Nat)(x0:LT6):Option (Int):=(Wao (Y:=(Int) ⊕ (Unit)) n (fun(x1:LT6×Int×Int)=>bif decide (x1.2.2 < x1.2.1)then bif inB x1.2.2 x1.1.length then (qc7 n (atI (ByteArray.mk #[],0,0) x1.1 x1.2.2)).bind fun y2=>bif y2 then some (.inr (.inl x1.2.2)) else some (.inl (x1.1,x1.2.1,wrap64 (x1.2.2+1))) else none else some (.inr (.inr ()))) (x0,((x0.length:Nat):Int),0)).bind (Sum.elim (fun(z3:Int)=>some z3) (fun(z4:Unit)=>some (-1)))
def p_qcl:Plan:=.two (.leaf) (.two (.two (.leaf) (.one (.loop ⟨sO 19 [(0,.c (hL 113)),(1,.c (.fn 204 [])),(7,.c hI),(8,.c hI)],[],[]⟩ [(.ret,⟨sO 19 [(4,.c hI)],[],[]⟩),(.exit 0,⟨sO 19 [],[],[]⟩)] (.leaf)))) (.leaf))
noncomputable def c_qcl(n:Nat):Cx:=cX [(204,⟨h_qc7,o_qc7,qc7 n⟩)] [] []
theorem d_qcl(n:Nat)(x:h_qcl.X T):denF (c_qcl n) n Tryz.f226 p_qcl h_qcl o_qcl x=qcl n x:=by kernel_rfl
theorem s_qcl(n:Nat):PCalls Tryz.prog Θ 226 ⟨h_qcl,o_qcl,qcl n⟩:=
 Waa (C:=c_qcl n) (n:=n) (p:=p_qcl) (Wal mixed Wak ⟨s_qc7 n,trivial⟩ trivial trivial) Tryz.func226 (by kernel_rfl) (by kernel_rfl) (d_qcl n) (by kernel_rfl)
def h_qcb:Shape:=⟨sO 2 [(0,.c (hL 113)),(1,.c (.fn 204 []))],[],[]⟩
def o_qcb:LT10:=[(.ret,⟨sO 1 [(0,.c hB)],[],[]⟩)]
def qcb(n:Nat)(x0:LT6):Option (Bool):=(qcl n x0).bind fun y1=>some (decide (0≤y1))
def p_qcb:Plan:=.leaf
noncomputable def c_qcb(n:Nat):Cx:=cX [(226,⟨h_qcl,o_qcl,qcl n⟩)] [] []
theorem d_qcb(n:Nat)(x:h_qcb.X T):denF (c_qcb n) n Tryz.f203 p_qcb h_qcb o_qcb x=qcb n x:=by kernel_rfl
theorem s_qcb(n:Nat):PCalls Tryz.prog Θ 203 ⟨h_qcb,o_qcb,qcb n⟩:=
 Waa (C:=c_qcb n) (n:=n) (p:=p_qcb) (Wal mixed Wak ⟨s_qcl n,trivial⟩ trivial trivial) Tryz.func203 (by kernel_rfl) (by kernel_rfl) (d_qcb n) (by kernel_rfl)
def h_qc6:Shape:=⟨sO 1 [(0,.agg zc6)],[],[]⟩
def o_qc6:LT10:=[(.ret,⟨sO 1 [(0,.c hB)],[],[]⟩)]
def qc6(n:Nat)(x0:ByteArray×Int×Int×Int×LT6):Option (Bool):=(qc8 n (x0.2.1::(x0.2.2.1::(x0.2.2.2.1::[])))).bind fun y1=>bif y1 then (qcb n x0.2.2.2.2).bind fun y2=>some (!y2) else some false
def p_qc6:Plan:=.leaf
noncomputable def c_qc6(n:Nat):Cx:=cX [(202,⟨Ww2,o_qc8,qc8 n⟩),(203,⟨h_qcb,o_qcb,qcb n⟩)] [] []
theorem d_qc6(n:Nat)(x:h_qc6.X T):denF (c_qc6 n) n Tryz.f154 p_qc6 h_qc6 o_qc6 x=qc6 n x:=by kernel_rfl
theorem s_qc6(n:Nat):PCalls Tryz.prog Θ 154 ⟨h_qc6,o_qc6,qc6 n⟩:=
 Waa (C:=c_qc6 n) (n:=n) (p:=p_qc6) (Wal mixed Wak ⟨s_qc8 n,s_qcb n,trivial⟩ trivial trivial) Tryz.func154 (by kernel_rfl) (by kernel_rfl) (d_qc6 n) (by kernel_rfl)
def h_qc5:Shape:=⟨sO 1 [(0,.agg zc6)],[],[]⟩
def o_qc5:LT10:=[(.ret,⟨sO 1 [(0,.c hB)],[],[]⟩)]
def qc5(n:Nat)(x0:ByteArray×Int×Int×Int×LT6):Option (Bool):=(qc6 n x0).bind fun y1=>some (!y1)
def p_qc5:Plan:=.leaf
noncomputable def c_qc5(n:Nat):Cx:=cX [(154,⟨h_qc6,o_qc6,qc6 n⟩)] [] []
theorem d_qc5(n:Nat)(x:h_qc5.X T):denF (c_qc5 n) n Tryz.f153 p_qc5 h_qc5 o_qc5 x=qc5 n x:=by kernel_rfl
theorem s_qc5(n:Nat):PCalls Tryz.prog Θ 153 ⟨h_qc5,o_qc5,qc5 n⟩:=
 Waa (C:=c_qc5 n) (n:=n) (p:=p_qc5) (Wal mixed Wak ⟨s_qc6 n,trivial⟩ trivial trivial) Tryz.func153 (by kernel_rfl) (by kernel_rfl) (d_qc5 n) (by kernel_rfl)
def h_qck:Shape:=⟨sO 2 [(0,.c (hL 110)),(1,.c (.fn 153 []))],[],[]⟩
def o_qck:LT10:=[(.ret,⟨sO 1 [(0,.c hI)],[],[]⟩)]
def qck(n:Nat)(x0:LT13):Option (Int):=(Wao (Y:=(Int) ⊕ (Unit)) n (fun(x1:LT13×Int×Int)=>bif decide (x1.2.2 < x1.2.1)then bif inB x1.2.2 x1.1.length then (qc5 n (atI (ByteArray.mk #[],0,0,0,[]) x1.1 x1.2.2)).bind fun y2=>bif y2 then some (.inr (.inl x1.2.2)) else some (.inl (x1.1,x1.2.1,wrap64 (x1.2.2+1))) else none else some (.inr (.inr ()))) (x0,((x0.length:Nat):Int),0)).bind (Sum.elim (fun(z3:Int)=>some z3) (fun(z4:Unit)=>some (-1)))
def p_qck:Plan:=.two (.leaf) (.two (.two (.leaf) (.one (.loop ⟨sO 19 [(0,.c (hL 110)),(1,.c (.fn 153 [])),(7,.c hI),(8,.c hI)],[],[]⟩ [(.ret,⟨sO 19 [(4,.c hI)],[],[]⟩),(.exit 0,⟨sO 19 [],[],[]⟩)] (.leaf)))) (.leaf))
noncomputable def c_qck(n:Nat):Cx:=cX [(153,⟨h_qc5,o_qc5,qc5 n⟩)] [] []
theorem d_qck(n:Nat)(x:h_qck.X T):denF (c_qck n) n Tryz.f201 p_qck h_qck o_qck x=qck n x:=by kernel_rfl
theorem s_qck(n:Nat):PCalls Tryz.prog Θ 201 ⟨h_qck,o_qck,qck n⟩:=
 Waa (C:=c_qck n) (n:=n) (p:=p_qck) (Wal mixed Wak ⟨s_qc5 n,trivial⟩ trivial trivial) Tryz.func201 (by kernel_rfl) (by kernel_rfl) (d_qck n) (by kernel_rfl)
def h_qca:Shape:=⟨sO 2 [(0,.c (hL 110)),(1,.c (.fn 153 []))],[],[]⟩
def o_qca:LT10:=[(.ret,⟨sO 1 [(0,.c hB)],[],[]⟩)]
def qca(n:Nat)(x0:LT13):Option (Bool):=(qck n x0).bind fun y1=>some (decide (0≤y1))
def p_qca:Plan:=.leaf
noncomputable def c_qca(n:Nat):Cx:=cX [(201,⟨h_qck,o_qck,qck n⟩)] [] []
theorem d_qca(n:Nat)(x:h_qca.X T):denF (c_qca n) n Tryz.f152 p_qca h_qca o_qca x=qca n x:=by kernel_rfl
theorem s_qca(n:Nat):PCalls Tryz.prog Θ 152 ⟨h_qca,o_qca,qca n⟩:=
 Waa (C:=c_qca n) (n:=n) (p:=p_qca) (Wal mixed Wak ⟨s_qck n,trivial⟩ trivial trivial) Tryz.func152 (by kernel_rfl) (by kernel_rfl) (d_qca n) (by kernel_rfl)
def Ww3:Shape:=⟨sO 1 [(0,.agg zc3)],[],[]⟩
def o_qc4:LT10:=[(.ret,⟨sO 1 [(0,.c hB)],[],[]⟩)]
def qc4(n:Nat)(x0:ByteArray×Int×(List Wah)×Int×Int):Option (Bool):=let e0:=((x0.2.2.1.length:Nat):Int);bif decide (4 < e0)then some false else (Wao (Y:=(Bool) ⊕ (Unit)) n (fun(x1:(List Wah)×Int×Int)=>let e1:=atI [] x1.1 x1.2.2;let e2:=((e1.length:Nat):Int);bif decide (x1.2.2 < x1.2.1)then bif inB x1.2.2 x1.1.length then bif decide (2 < e2)then some (.inr (.inl false)) else (Wao (Y:=(Bool) ⊕ ((List Wah)×Int×Int)) n (fun(x2:(List Wah)×Int×Int×Wah×Int×Int)=>let e3:=atI [] x2.2.2.2.1 x2.2.2.2.2.2;bif decide (x2.2.2.2.2.2 < x2.2.2.2.2.1)then bif inB x2.2.2.2.2.2 x2.2.2.2.1.length then letJ (fun(x4:(List Wah)×Int×Int×Wah×Int×Int×Bool)=>bif x4.2.2.2.2.2.2 then some (.inr (.inl false)) else some (.inl (x4.1,x4.2.1,x4.2.2.1,x4.2.2.2.1,x4.2.2.2.2.1,wrap64 (x4.2.2.2.2.2.1+1)))) fun J5=>bif decide (4 < ((e3.length:Nat):Int))then J5 (x2.1,x2.2.1,x2.2.2.1,x2.2.2.2.1,x2.2.2.2.2.1,x2.2.2.2.2.2,true) else (qca n e3).bind fun y3=>J5 (x2.1,x2.2.1,x2.2.2.1,x2.2.2.2.1,x2.2.2.2.2.1,x2.2.2.2.2.2,y3) else none else some (.inr (.inr (x2.1,x2.2.1,x2.2.2.1)))) (x1.1,x1.2.1,x1.2.2,e1,e2,0)).bind (Sum.elim (fun(z6:Bool)=>some (.inr (.inl z6))) (fun(z7:(List Wah)×Int×Int)=>some (.inl (z7.1,z7.2.1,wrap64 (z7.2.2+1))))) else none else some (.inr (.inr ()))) (x0.2.2.1,e0,0)).bind (Sum.elim (fun(z8:Bool)=>some z8) (fun(z9:Unit)=>some true))
def p_qc4:Plan:=.two (.leaf) (.two (.leaf) (.two (.two (.leaf) (.one (.loop ⟨sO 38 [(12,.c (hL 106)),(13,.c hI),(14,.c hI)],[],[]⟩ [(.ret,⟨sO 38 [(2,.c hB)],[],[]⟩),(.exit 0,⟨sO 38 [],[],[]⟩)] (.two (.leaf) (.two (.leaf) (.two (.one (.two (.leaf) (.two (.leaf) (.two (.leaf) (.one (.loop ⟨sO 38 [(12,.c (hL 106)),(13,.c hI),(14,.c hI),(23,.c (hL 107)),(24,.c hI),(25,.c hI)],[],[]⟩ [(.ret,⟨sO 38 [(2,.c hB)],[],[]⟩),(.exit 2,⟨sO 38 [(12,.c (hL 106)),(13,.c hI),(14,.c hI)],[],[]⟩)] (.two (.leaf) (.two (.leaf) (.two (.one (.two (.leaf) (.two (.join ⟨sO 38 [(12,.c (hL 106)),(13,.c hI),(14,.c hI),(23,.c (hL 107)),(24,.c hI),(25,.c hI),(35,.c hB)],[],[]⟩ (.leaf)) (.leaf)))) (.leaf)))))))))) (.leaf))))))) (.leaf)))
noncomputable def c_qc4(n:Nat):Cx:=cX [(152,⟨h_qca,o_qca,qca n⟩)] [] []
theorem d_qc4(n:Nat)(x:Ww3.X T):denF (c_qc4 n) n Tryz.f94 p_qc4 Ww3 o_qc4 x=qc4 n x:=by kernel_rfl
theorem s_qc4(n:Nat):PCalls Tryz.prog Θ 94 ⟨Ww3,o_qc4,qc4 n⟩:=
 Waa (C:=c_qc4 n) (n:=n) (p:=p_qc4) (Wal mixed Wak ⟨s_qca n,trivial⟩ trivial trivial) Tryz.func94 (by kernel_rfl) (by kernel_rfl) (d_qc4 n) (by kernel_rfl)
def Ww4:Shape:=⟨sO 1 [(0,.agg [hL 107])],[],[]⟩
def o_qcz:LT10:=[(.ret,⟨sO 1 [(0,.c hI)],[],[]⟩)]
def qcz(n:Nat)(x0:Wah):Option (Int):=(Wao (Y:=(Int)) n (fun(x1:Int×Wah×Int×Int)=>let e0:=atI [] x1.2.1 x1.2.2.2;bif decide (x1.2.2.2 < x1.2.2.1)then bif inB x1.2.2.2 x1.2.1.length then (Wao (Y:=(Int×Int×Wah×Int×Int)) n (fun(x2:Int×Int×Wah×Int×Int×LT13×Int×Int)=>bif decide (x2.2.2.2.2.2.2.2 < x2.2.2.2.2.2.2.1)then bif inB x2.2.2.2.2.2.2.2 x2.2.2.2.2.2.1.length then some (.inl (x2.1,wrap64 (x2.2.1+(atI (ByteArray.mk #[],0,0,0,[]) x2.2.2.2.2.2.1 x2.2.2.2.2.2.2.2).2.1),x2.2.2.1,x2.2.2.2.1,x2.2.2.2.2.1,x2.2.2.2.2.2.1,x2.2.2.2.2.2.2.1,wrap64 (x2.2.2.2.2.2.2.2+1))) else none else some (.inr (x2.1,x2.2.1,x2.2.2.1,x2.2.2.2.1,x2.2.2.2.2.1))) (x1.1,0,x1.2.1,x1.2.2.1,x1.2.2.2,e0,((e0.length:Nat):Int),0)).bind fun(z3:Int×Int×Wah×Int×Int)=>some (.inl (mx z3.1 z3.2.1,z3.2.2.1,z3.2.2.2.1,wrap64 (z3.2.2.2.2+1))) else none else some (.inr x1.1)) (0,x0,((x0.length:Nat):Int),0)).bind fun(z4:Int)=>some z4
def p_qcz:Plan:=.two (.leaf) (.two (.leaf) (.two (.two (.leaf) (.one (.loop ⟨sO 32 [(3,.c hI),(10,.c (hL 107)),(11,.c hI),(12,.c hI)],[],[]⟩ [(.exit 0,⟨sO 32 [(3,.c hI)],[],[]⟩)] (.two (.leaf) (.two (.leaf) (.two (.one (.two (.leaf) (.two (.leaf) (.two (.two (.leaf) (.one (.loop ⟨sO 32 [(3,.c hI),(6,.c hI),(10,.c (hL 107)),(11,.c hI),(12,.c hI),(16,.c (hL 110)),(17,.c hI),(18,.c hI)],[],[]⟩ [(.exit 2,⟨sO 32 [(3,.c hI),(6,.c hI),(10,.c (hL 107)),(11,.c hI),(12,.c hI)],[],[]⟩)] (.leaf)))) (.leaf))))) (.leaf))))))) (.leaf)))
noncomputable def c_qcz(n:Nat):Cx:=cX [] [] []
theorem d_qcz(n:Nat)(x:Ww4.X T):denF (c_qcz n) n Tryz.f160 p_qcz Ww4 o_qcz x=qcz n x:=by kernel_rfl
theorem s_qcz(n:Nat):PCalls Tryz.prog Θ 160 ⟨Ww4,o_qcz,qcz n⟩:=
 Waa (C:=c_qcz n) (n:=n) (p:=p_qcz) (Wal mixed Wak trivial trivial trivial) Tryz.func160 (by kernel_rfl) (by kernel_rfl) (d_qcz n) (by kernel_rfl)
def Wug:Shape:=⟨sO 1 [(0,.agg zc3)],[],[]⟩
def Ww5:LT10:=[(.ret,⟨sO 1 [(0,.c hI)],[],[]⟩)]
def qcx(n:Nat)(x0:ByteArray×Int×(List Wah)×Int×Int):Option (Int):=(qc4 n x0).bind fun y1=>bif !y1 then some 0 else (Wao (Y:=(Int)) n (fun(x2:Int×(List Wah)×Int×Int)=>bif decide (x2.2.2.2 < x2.2.2.1)then bif inB x2.2.2.2 x2.2.1.length then (qcz n (atI [] x2.2.1 x2.2.2.2)).bind fun y3=>some (.inl (wrap64 (x2.1+y3),x2.2.1,x2.2.2.1,wrap64 (x2.2.2.2+1))) else none else some (.inr x2.1)) (0,x0.2.2.1,((x0.2.2.1.length:Nat):Int),0)).bind fun(z4:Int)=>some z4
def p_qcx:Plan:=.two (.leaf) (.two (.leaf) (.two (.leaf) (.two (.two (.leaf) (.one (.loop ⟨sO 22 [(3,.c hI),(10,.c (hL 106)),(11,.c hI),(12,.c hI)],[],[]⟩ [(.exit 0,⟨sO 22 [(3,.c hI)],[],[]⟩)] (.leaf)))) (.leaf))))
noncomputable def c_qcx(n:Nat):Cx:=cX [(94,⟨Ww3,o_qc4,qc4 n⟩),(160,⟨Ww4,o_qcz,qcz n⟩)] [] []
theorem d_qcx(n:Nat)(x:Wug.X T):denF (c_qcx n) n Tryz.f96 p_qcx Wug Ww5 x=qcx n x:=by kernel_rfl
theorem s_qcx(n:Nat):PCalls Tryz.prog Θ 96 ⟨Wug,Ww5,qcx n⟩:=
 Waa (C:=c_qcx n) (n:=n) (p:=p_qcx) (Wal mixed Wak ⟨s_qc4 n,s_qcz n,trivial⟩ trivial trivial) Tryz.func96 (by kernel_rfl) (by kernel_rfl) (d_qcx n) (by kernel_rfl)
def Ww6:Shape:=⟨sO 2 [(0,.agg zc0),(1,.agg zc3)],[],[]⟩
def o_qcu:LT10:=[(.ret,⟨sO 1 [(0,.c hB)],[],[]⟩)]
noncomputable def qcu(n:Nat)(x0:ByteArray×LT8×LT4×LT9×LLT0×LT3×Int×ByteArray×Int×(List Wah)×Int×Int):Option (Bool):=letJ (fun(x2:Bool×ByteArray×LT8×LT4×LT9×LLT0×LT3×Int×ByteArray×Int×(List Wah)×Int×Int)=>bif x2.1 then some false else (Wao (Y:=(Bool) ⊕ (ByteArray×Int×(List Wah)×Int×Int)) n (fun(x4:(List Wah)×Int×Int×ByteArray×LT8×LT4×LT9×LLT0×LT3×Int×ByteArray×Int×(List Wah)×Int×Int)=>let e0:=atI [] x4.1 x4.2.2.1;let e1:=((e0.length:Nat):Int);bif decide (x4.2.2.1 < x4.2.1)then bif inB x4.2.2.1 x4.1.length then bif inB x4.2.2.1 x4.2.2.2.2.2.2.2.1.length then bif !(e1==((List.length (atI [] x4.2.2.2.2.2.2.2.1 x4.2.2.1):Nat):Int))then some (.inr (.inl false)) else (Wao (Y:=(Bool) ⊕ ((List Wah)×Int×Int×ByteArray×LT8×LT4×LT9×LLT0×LT3×Int×ByteArray×Int×(List Wah)×Int×Int)) n (fun(x5:Int×(List Wah)×Int×Int×Wah×Int×Int×ByteArray×LT8×LT4×LT9×LLT0×LT3×Int×ByteArray×Int×(List Wah)×Int×Int)=>let e2:=atI [] x5.2.2.2.2.2.2.2.2.2.2.2.1 x5.1;let e3:=atI (false,[]) e2 x5.2.2.2.2.2.2.1;bif decide (x5.2.2.2.2.2.2.1 < x5.2.2.2.2.2.1)then bif inB x5.2.2.2.2.2.2.1 x5.2.2.2.2.1.length then bif inB x5.1 x5.2.2.2.2.2.2.2.2.2.2.2.1.length then bif inB x5.2.2.2.2.2.2.1 e2.length then (qc1 n (x5.2.2.2.2.2.2.2.1,x5.2.2.2.2.2.2.2.2.1,x5.2.2.2.2.2.2.2.2.2.1,x5.2.2.2.2.2.2.2.2.2.2.1,x5.2.2.2.2.2.2.2.2.2.2.2.1,x5.2.2.2.2.2.2.2.2.2.2.2.2.1,x5.2.2.2.2.2.2.2.2.2.2.2.2.2.1,e3.1,e3.2,atI [] x5.2.2.2.2.1 x5.2.2.2.2.2.2.1)).bind fun y6=>bif !y6 then some (.inr (.inl false)) else some (.inl (x5.1,x5.2.1,x5.2.2.1,x5.2.2.2.1,x5.2.2.2.2.1,x5.2.2.2.2.2.1,wrap64 (x5.2.2.2.2.2.2.1+1),x5.2.2.2.2.2.2.2)) else none else none else none else some (.inr (.inr (x5.2.1,x5.2.2.1,x5.2.2.2.1,x5.2.2.2.2.2.2.2)))) (x4.2.2.1,x4.1,x4.2.1,x4.2.2.1,e0,e1,0,x4.2.2.2)).bind (Sum.elim (fun(z7:Bool)=>some (.inr (.inl z7))) (fun(z8:(List Wah)×Int×Int×ByteArray×LT8×LT4×LT9×LLT0×LT3×Int×ByteArray×Int×(List Wah)×Int×Int)=>some (.inl (z8.1,z8.2.1,wrap64 (z8.2.2.1+1),z8.2.2.2)))) else none else none else some (.inr (.inr x4.2.2.2.2.2.2.2.2.2.2))) (x2.2.2.2.2.2.2.2.2.2.2.1,((x2.2.2.2.2.2.2.2.2.2.2.1.length:Nat):Int),0,x2.2)).bind (Sum.elim (fun(z9:Bool)=>some z9) (fun(z10:ByteArray×Int×(List Wah)×Int×Int)=>(qcx n z10).bind fun y11=>bif decide (1≤y11)then some (decide (y11≤6000)) else some false))) fun J3=>(qc4 n x0.2.2.2.2.2.2.2).bind fun y1=>bif !y1 then J3 (true,x0) else J3 (!(((x0.2.2.2.2.2.2.2.2.2.1.length:Nat):Int)==((x0.2.2.2.2.1.length:Nat):Int)),x0)
def p_qcu:Plan:=.two (.leaf) (.two (.two (.join ⟨sO 72 [(2,.c (.box 2 0)),(3,.c (.box 3 0)),(21,.c hB)],z47,[]⟩ (.leaf)) (.leaf)) (.two (.two (.leaf) (.one (.loop ⟨sO 72 z37,z47,[]⟩ [(.ret,⟨sO 72 [(4,.c hB)],[],[]⟩),(.exit 0,⟨sO 72 [(3,.c (.box 3 0))],[(3,53,zc3)],[]⟩)] (.two (.leaf) (.two (.leaf) (.two (.one (.two (.leaf) (.two (.leaf) (.two (.leaf) (.one (.loop ⟨sO 72 [(2,.c (.box 2 0)),(3,.c (.box 3 0)),(5,.c hI),(23,.c (hL 106)),(24,.c hI),(25,.c hI),(42,.c (hL 107)),(43,.c hI),(44,.c hI)],z47,[]⟩ [(.ret,⟨sO 72 [(4,.c hB)],[],[]⟩),(.exit 2,⟨sO 72 z37,z47,[]⟩)] (.leaf))))))) (.leaf))))))) (.leaf)))
noncomputable def c_qcu(n:Nat):Cx:=cX [(94,⟨Ww3,o_qc4,qc4 n⟩),(95,⟨h_qc1,o_qc1,qc1 n⟩),(96,⟨Wug,Ww5,qcx n⟩)] [] []
theorem d_qcu(n:Nat)(x:Ww6.X T):denF (c_qcu n) n Tryz.f47 p_qcu Ww6 o_qcu x=qcu n x:=by kernel_rfl
theorem s_qcu(n:Nat):PCalls Tryz.prog Θ 47 ⟨Ww6,o_qcu,qcu n⟩:=
 Waa (C:=c_qcu n) (n:=n) (p:=p_qcu) (Wal mixed Wak ⟨s_qc4 n,s_qc1 n,s_qcx n,trivial⟩ trivial trivial) Tryz.func47 (by kernel_rfl) (by kernel_rfl) (d_qcu n) (by kernel_rfl)
def h_qdx:Shape:=⟨sO 2 [(0,.agg zc0),(1,.agg zc3)],[],[]⟩
def o_qdx:LT10:=[(.ret,⟨sO 1 [(0,.c hB)],[],[]⟩)]
noncomputable def qdx(n:Nat)(x0:ByteArray×LT8×LT4×LT9×LLT0×LT3×Int×ByteArray×Int×(List Wah)×Int×Int):Option (Bool):=bif Wam x0.1 x0.2.2.2.2.2.2.2.1 then (qcu n x0).bind fun y1=>some y1 else some false
def p_qdx:Plan:=.leaf
noncomputable def c_qdx(n:Nat):Cx:=cX [(47,⟨Ww6,o_qcu,qcu n⟩)] [] []
theorem d_qdx(n:Nat)(x:h_qdx.X T):denF (c_qdx n) n Tryz.f46 p_qdx h_qdx o_qdx x=qdx n x:=by kernel_rfl
theorem s_qdx(n:Nat):PCalls Tryz.prog Θ 46 ⟨h_qdx,o_qdx,qdx n⟩:=
 Waa (C:=c_qdx n) (n:=n) (p:=p_qdx) (Wal mixed Wak ⟨s_qcu n,trivial⟩ trivial trivial) Tryz.func46 (by kernel_rfl) (by kernel_rfl) (d_qdx n) (by kernel_rfl)
def h_qch:Shape:=⟨sO 3 [(0,.c (hL 89)),(1,.c (hL 53)),(2,.c (.fn 46 []))],[],[]⟩
def o_qch:LT10:=[(.ret,⟨sO 1 [(0,.c hB)],[],[]⟩)]
noncomputable def qch(n:Nat)(x0:LT14×List (ByteArray×Int×(List Wah)×Int×Int)):Option (Bool):=let e0:=((x0.1.length:Nat):Int);bif !(e0==((x0.2.length:Nat):Int))then some false else (Wao (Y:=(Bool) ⊕ (Unit)) n (fun(x1:(List (ByteArray×Int×(List Wah)×Int×Int))×LT14×Int×Int)=>let e1:=atI (ByteArray.mk #[],[],[],[],[],[],0) x1.2.1 x1.2.2.2;let e2:=e1.2;let e3:=e1.2.2;let e4:=e1.2.2.2;let e5:=e1.2.2.2.2;let e6:=e1.2.2.2.2.2;bif decide (x1.2.2.2 < x1.2.2.1)then bif inB x1.2.2.2 x1.2.1.length then bif inB x1.2.2.2 x1.1.length then (qdx n (e1.1,e1.2.1,e1.2.2.1,e1.2.2.2.1,e1.2.2.2.2.1,e1.2.2.2.2.2.1,e1.2.2.2.2.2.2,atI (ByteArray.mk #[],0,[],0,0) x1.1 x1.2.2.2)).bind fun y2=>bif !y2 then some (.inr (.inl false)) else some (.inl (x1.1,x1.2.1,x1.2.2.1,wrap64 (x1.2.2.2+1))) else none else none else some (.inr (.inr ()))) (x0.2,x0.1,e0,0)).bind (Sum.elim (fun(z3:Bool)=>some z3) (fun(z4:Unit)=>some true))
def p_qch:Plan:=.two (.leaf) (.two (.leaf) (.two (.two (.leaf) (.one (.loop ⟨sO 32 [(1,.c (hL 53)),(2,.c (.fn 46 [])),(15,.c (hL 89)),(16,.c hI),(17,.c hI)],[],[]⟩ [(.ret,⟨sO 32 [(6,.c hB)],[],[]⟩),(.exit 0,⟨sO 32 [],[],[]⟩)] (.leaf)))) (.leaf)))
noncomputable def c_qch(n:Nat):Cx:=cX [(46,⟨h_qdx,o_qdx,qdx n⟩)] [] []
theorem d_qch(n:Nat)(x:h_qch.X T):denF (c_qch n) n Tryz.f45 p_qch h_qch o_qch x=qch n x:=by kernel_rfl
theorem s_qch(n:Nat):PCalls Tryz.prog Θ 45 ⟨h_qch,o_qch,qch n⟩:=
 Waa (C:=c_qch n) (n:=n) (p:=p_qch) (Wal mixed Wak ⟨s_qdx n,trivial⟩ trivial trivial) Tryz.func45 (by kernel_rfl) (by kernel_rfl) (d_qch n) (by kernel_rfl)
end Go.Proofs.YtalbenehgdkalaaGreat.Fn