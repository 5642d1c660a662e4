/- Texts of the proof. -/
import Derived.Test.YtalbenehgdkalaaGreatFnA2
namespace Go.Proofs.YtalbenehgdkalaaGreat.Fn
set_option maxRecDepth 100000
noncomputable section
open Go Go.RowKit Go.Den
def h_qc7:Shape:=⟨sO 1 [(0,.c (hL 9))],[],[]⟩
def o_qc7:LT10:=[(.ret,⟨sO 1 z38,[],[(0,9)]⟩)]
def qc7(n:Nat)(x0:List ByteArray):Option (List ByteArray):=let e0:=fitB x0.length 16;bif List.isEmpty x0 then both (some []) (bif e0 then some x0 else none) else bif e0 then some x0 else none
def p_qc7:Plan:=.o
def c_qc7(n:Nat):Cx:=cX [] [] []
theorem d_qc7(n:Nat)(x:h_qc7.X T):denF (c_qc7 n) n Tryz.f155 p_qc7 h_qc7 o_qc7 x=qc7 n x:=by kernel_rfl
theorem s_qc7(n:Nat):PCalls Tryz.prog Θ 155 ⟨h_qc7,o_qc7,qc7 n⟩:=
 Wac (C:=c_qc7 n) (n:=n) (p:=p_qc7) (Wam mixed Wal trivial trivial trivial) Tryz.func155 (by kernel_rfl) (by kernel_rfl) (d_qc7 n) (by kernel_rfl)
def Wy8:Shape:=⟨sO 2 [(0,.c (hL 9)),(1,.c hS)],[],[]⟩
def o_qdq:LT10:=[(.ret,⟨sO 1 [(0,.c hI)],[],[]⟩)]
def qdq(n:Nat)(x0:LBy×ByteArray):Option (Int):=(Wao (Y:=(Int) ⊕ (Unit)) n (fun(x1:LBy×ByteArray×Int×Int)=>bif decide (x1.2.2.2 < x1.2.2.1)then bif inB x1.2.2.2 x1.1.length then bif Wak x1.2.1 (atI (ByteArray.mk #[]) x1.1 x1.2.2.2)then some (.inr (.inl x1.2.2.2)) else some (.inl (x1.1,x1.2.1,x1.2.2.1,wrap64 (x1.2.2.2+1))) else none else some (.inr (.inr ()))) (x0.1,x0.2,((x0.1.length:Nat):Int),0)).bind (Sum.elim (fun(z2:Int)=>some z2) (fun(z3:Unit)=>some (-1)))
def p_qdq:Plan:=.two (.o) (.two (.two (.o) (.one (.loop ⟨sO 19 [(0,.c (hL 9)),(1,.c hS),(7,.c hI),(8,.c hI)],[],[]⟩ [(.ret,⟨sO 19 [(4,.c hI)],[],[]⟩),(.exit 0,⟨sO 19 [],[],[]⟩)] (.o)))) (.o))
def c_qdq(n:Nat):Cx:=cX [] [] []
theorem d_qdq(n:Nat)(x:Wy8.X T):denF (c_qdq n) n Tryz.f156 p_qdq Wy8 o_qdq x=qdq n x:=by kernel_rfl
theorem s_qdq(n:Nat):PCalls Tryz.prog Θ 156 ⟨Wy8,o_qdq,qdq n⟩:=
 Wac (C:=c_qdq n) (n:=n) (p:=p_qdq) (Wam mixed Wal trivial trivial trivial) Tryz.func156 (by kernel_rfl) (by kernel_rfl) (d_qdq n) (by kernel_rfl)
def h_qde:Shape:=⟨sO 2 [(0,.c (.row 1000000)),(1,.c (.fn 159 [1000000]))],[(1000000,110,zc5)],[(1000000,9)]⟩
def o_qde:LT10:=[(.ret,⟨sO 1 [(0,.c (.row 2000000))],[(1000000,110,zc5)],[(2000000,9)]⟩)]
def qde(n:Nat)(x:ByteArray×Int×Int×Int×LT6×LBy):Option (ByteArray×Int×Int×Int×LT6×LBy):=delF (fun s y=>Wak y s) x
theorem s_qde(n:Nat):PCalls Tryz.prog Θ 158 ⟨h_qde,o_qde,qde n⟩:=Wqd
def h_qea:Shape:=⟨sO 2 [(0,.c hS),(1,.agg [hS,hI,hI])],[],[]⟩
def o_qea:LT10:=[(.ret,⟨sO 1 [(0,.c hB)],[],[]⟩)]
def qea(n:Nat)(x0:ByteArray×ByteArray×Int×Int):Option (Bool):=some (Wak x0.1 x0.2.1)
def p_qea:Plan:=.o
def c_qea(n:Nat):Cx:=cX [] [] []
theorem d_qea(n:Nat)(x:h_qea.X T):denF (c_qea n) n Tryz.f206 p_qea h_qea o_qea x=qea n x:=by kernel_rfl
theorem s_qea(n:Nat):PCalls Tryz.prog Θ 206 ⟨h_qea,o_qea,qea n⟩:=
 Wac (C:=c_qea n) (n:=n) (p:=p_qea) (Wam mixed Wal trivial trivial trivial) Tryz.func206 (by kernel_rfl) (by kernel_rfl) (d_qea n) (by kernel_rfl)
def h_qdf:Shape:=⟨sO 3 [(0,.c (hL 9)),(1,.c (hL 113)),(2,.c (.fn 206 []))],[],[]⟩
def o_qdf:LT10:=[(.ret,⟨sO 1 [(0,.c hB)],[],[]⟩)]
def qdf(n:Nat)(x0:LBy×LT6):Option (Bool):=let e0:=((x0.1.length:Nat):Int);bif !(e0==((x0.2.length:Nat):Int))then some false else (Wao (Y:=(Bool) ⊕ (Unit)) n (fun(x1:LT6×LBy×Int×Int)=>bif decide (x1.2.2.2 < x1.2.2.1)then bif inB x1.2.2.2 x1.2.1.length then bif inB x1.2.2.2 x1.1.length then (qea n (atI (ByteArray.mk #[]) x1.2.1 x1.2.2.2,atI (ByteArray.mk #[],0,0) x1.1 x1.2.2.2)).bind fun y2=>bif !y2 then some (.inr (.inl false)) else some (.inl (x1.1,x1.2.1,x1.2.2.1,wrap64 (x1.2.2.2+1))) else none else none else some (.inr (.inr ()))) (x0.2,x0.1,e0,0)).bind (Sum.elim (fun(z3:Bool)=>some z3) (fun(z4:Unit)=>some true))
def p_qdf:Plan:=.two (.o) (.two (.o) (.two (.two (.o) (.one (.loop ⟨sO 32 [(1,.c (hL 113)),(2,.c (.fn 206 [])),(15,.c (hL 9)),(16,.c hI),(17,.c hI)],[],[]⟩ [(.ret,⟨sO 32 [(6,.c hB)],[],[]⟩),(.exit 0,⟨sO 32 [],[],[]⟩)] (.o)))) (.o)))
def c_qdf(n:Nat):Cx:=cX [(206,⟨h_qea,o_qea,qea n⟩)] [] []
theorem d_qdf(n:Nat)(x:h_qdf.X T):denF (c_qdf n) n Tryz.f205 p_qdf h_qdf o_qdf x=qdf n x:=by kernel_rfl
theorem s_qdf(n:Nat):PCalls Tryz.prog Θ 205 ⟨h_qdf,o_qdf,qdf n⟩:=
 Wac (C:=c_qdf n) (n:=n) (p:=p_qdf) (Wam mixed Wal ⟨s_qea n,trivial⟩ trivial trivial) Tryz.func205 (by kernel_rfl) (by kernel_rfl) (d_qdf n) (by kernel_rfl)
def h_qd9:Shape:=⟨sO 2 [(0,.agg zc0),(1,.agg zc5)],[],[]⟩
def o_qd9:LT10:=[(.ret,⟨sO 1 [(0,.c hB)],[],[]⟩)]
def qd9(n:Nat)(x0:ByteArray×LT8×LT4×LT9×LLT0×LT3×Int×T22):Option (Bool):=(Wao (Y:=(ByteArray×Int×Int×Int×LT6×LBy)) n (fun(x2:LT4×Int×Int×ByteArray×Int×Int×Int×LT6×LBy)=>let e0:=atI (ByteArray.mk #[],ByteArray.mk #[],0,0,0,0) x2.1 x2.2.2.1;let e1:=e0.1::[];let e2:=wrap64 (x2.2.2.1+1);bif decide (x2.2.2.1 < x2.2.1)then bif inB x2.2.2.1 x2.1.length then bif Wak e0.2.1 x2.2.2.2.1 then bif fitB (x2.2.2.2.2.2.2.2.2.length+e1.length) 16 then some (.inl (x2.1,x2.2.1,e2,x2.2.2.2.1,x2.2.2.2.2.1,x2.2.2.2.2.2.1,x2.2.2.2.2.2.2.1,x2.2.2.2.2.2.2.2.1,x2.2.2.2.2.2.2.2.2++e1)) else none else some (.inl (x2.1,x2.2.1,e2,x2.2.2.2)) else none else some (.inr x2.2.2.2)) (x0.2.2.1,((x0.2.2.1.length:Nat):Int),0,x0.2.2.2.2.2.2.2.1,x0.2.2.2.2.2.2.2.2.1,x0.2.2.2.2.2.2.2.2.2.1,x0.2.2.2.2.2.2.2.2.2.2.1,x0.2.2.2.2.2.2.2.2.2.2.2,[])).bind fun(z3:ByteArray×Int×Int×Int×LT6×LBy)=>(qdf n (z3.2.2.2.2.2,z3.2.2.2.2.1)).bind fun y4=>some y4
def p_qd9:Plan:=.two (.o) (.two (.o) (.two (.two (.o) (.one (.loop ⟨sO 30 [(3,.c (.box 3 0)),(5,.c (.row 24)),(9,.c (hL 151)),(10,.c hI),(11,.c hI)],[(3,110,zc5)],[(24,9)]⟩ [(.exit 0,⟨sO 30 [(3,.c (.box 3 0)),(5,.c (.row 24))],[(3,110,zc5)],[(24,9)]⟩)] (.o)))) (.o)))
def c_qd9(n:Nat):Cx:=cX [(205,⟨h_qdf,o_qdf,qdf n⟩)] [] []
theorem d_qd9(n:Nat)(x:h_qd9.X T):denF (c_qd9 n) n Tryz.f157 p_qd9 h_qd9 o_qd9 x=qd9 n x:=by kernel_rfl
theorem s_qd9(n:Nat):PCalls Tryz.prog Θ 157 ⟨h_qd9,o_qd9,qd9 n⟩:=
 Wac (C:=c_qd9 n) (n:=n) (p:=p_qd9) (Wam mixed Wal ⟨s_qdf n,trivial⟩ trivial trivial) Tryz.func157 (by kernel_rfl) (by kernel_rfl) (d_qd9 n) (by kernel_rfl)
def h_qd0:Shape:=⟨sO 3 [(0,.agg zc0),(1,.agg [hB,hL 9]),(2,.c (hL 110))],[],[]⟩
def o_qd0:LT10:=[(.ret,⟨sO 1 [(0,.c hB)],[],[]⟩)]
def qd0(n:Nat)(x0:ByteArray×LT8×LT4×LT9×LLT0×LT3×Int×Bool×LBy×LT13):Option (Bool):=(qc7 n x0.2.2.2.2.2.2.2.2.1).bind fun y1=>(Wao (Y:=(Bool) ⊕ (LT13×Bool×LBy)) n (fun(x2:LT13×LT13×Int×Int×ByteArray×LT8×LT4×LT9×LLT0×LT3×Int×Bool×LBy×LBy)=>let e0:=atI (ByteArray.mk #[],0,0,0,[]) x2.2.1 x2.2.2.2.1;let e1:=e0.1;let e2:=e0.2;let e3:=e0.2.1;let e4:=e0.2.2;let e5:=e0.2.2.1;let e6:=e0.2.2.2;let e7:=e0.2.2.2.1;bif decide (x2.2.2.2.1 < x2.2.2.1)then bif inB x2.2.2.2.1 x2.2.1.length then (qdq n (x2.2.2.2.2.2.2.2.2.2.2.2.2.2,e1)).bind fun y3=>letJ (fun(x5:LT13×LT13×Int×Int×Bool×ByteArray×LT8×LT4×LT9×LLT0×LT3×Int×Bool×LBy×ByteArray×Int×Int×Int×LT6×LBy)=>bif x5.2.2.2.2.1 then some (.inr (.inl false)) else (qde n x5.2.2.2.2.2.2.2.2.2.2.2.2.2.2).bind fun y7=>some (.inl (x5.1,x5.2.1,x5.2.2.1,wrap64 (x5.2.2.2.1+1),x5.2.2.2.2.2.1,x5.2.2.2.2.2.2.1,x5.2.2.2.2.2.2.2.1,x5.2.2.2.2.2.2.2.2.1,x5.2.2.2.2.2.2.2.2.2.1,x5.2.2.2.2.2.2.2.2.2.2.1,x5.2.2.2.2.2.2.2.2.2.2.2.1,x5.2.2.2.2.2.2.2.2.2.2.2.2.1,x5.2.2.2.2.2.2.2.2.2.2.2.2.2.1,y7.2.2.2.2.2))) fun J6=>bif decide (y3 < 0)then J6 (x2.1,x2.2.1,x2.2.2.1,x2.2.2.2.1,true,x2.2.2.2.2.1,x2.2.2.2.2.2.1,x2.2.2.2.2.2.2.1,x2.2.2.2.2.2.2.2.1,x2.2.2.2.2.2.2.2.2.1,x2.2.2.2.2.2.2.2.2.2.1,x2.2.2.2.2.2.2.2.2.2.2.1,x2.2.2.2.2.2.2.2.2.2.2.2.1,x2.2.2.2.2.2.2.2.2.2.2.2.2.1,e1,e3,e5,e7,e0.2.2.2.2,x2.2.2.2.2.2.2.2.2.2.2.2.2.2) else bif decide (e3≤wrap64 (e5+e7))then J6 (x2.1,x2.2.1,x2.2.2.1,x2.2.2.2.1,true,x2.2.2.2.2.1,x2.2.2.2.2.2.1,x2.2.2.2.2.2.2.1,x2.2.2.2.2.2.2.2.1,x2.2.2.2.2.2.2.2.2.1,x2.2.2.2.2.2.2.2.2.2.1,x2.2.2.2.2.2.2.2.2.2.2.1,x2.2.2.2.2.2.2.2.2.2.2.2.1,x2.2.2.2.2.2.2.2.2.2.2.2.2.1,e1,e3,e5,e7,e0.2.2.2.2,x2.2.2.2.2.2.2.2.2.2.2.2.2.2) else (qd9 n (x2.2.2.2.2.1,x2.2.2.2.2.2.1,x2.2.2.2.2.2.2.1,x2.2.2.2.2.2.2.2.1,x2.2.2.2.2.2.2.2.2.1,x2.2.2.2.2.2.2.2.2.2.1,x2.2.2.2.2.2.2.2.2.2.2.1,e0)).bind fun y4=>J6 (x2.1,x2.2.1,x2.2.2.1,x2.2.2.2.1,!y4,x2.2.2.2.2.1,x2.2.2.2.2.2.1,x2.2.2.2.2.2.2.1,x2.2.2.2.2.2.2.2.1,x2.2.2.2.2.2.2.2.2.1,x2.2.2.2.2.2.2.2.2.2.1,x2.2.2.2.2.2.2.2.2.2.2.1,x2.2.2.2.2.2.2.2.2.2.2.2.1,x2.2.2.2.2.2.2.2.2.2.2.2.2.1,e1,e3,e5,e7,e0.2.2.2.2,x2.2.2.2.2.2.2.2.2.2.2.2.2.2) else none else some (.inr (.inr (x2.1,x2.2.2.2.2.2.2.2.2.2.2.2.1,x2.2.2.2.2.2.2.2.2.2.2.2.2.1)))) (x0.2.2.2.2.2.2.2.2.2,x0.2.2.2.2.2.2.2.2.2,((x0.2.2.2.2.2.2.2.2.2.length:Nat):Int),0,x0.1,x0.2.1,x0.2.2.1,x0.2.2.2.1,x0.2.2.2.2.1,x0.2.2.2.2.2.1,x0.2.2.2.2.2.2.1,x0.2.2.2.2.2.2.2.1,x0.2.2.2.2.2.2.2.2.1,y1)).bind (Sum.elim (fun(z8:Bool)=>some z8) (fun(z9:LT13×Bool×LBy)=>some (((z9.1.length:Nat):Int)==((z9.2.2.length:Nat):Int))))
def p_qd0:Plan:=.two (.o) (.two (.o) (.two (.two (.o) (.one (.loop ⟨sO 52 [(2,.c (hL 110)),(3,.c (.box 3 0)),(4,.c (.box 4 0)),(7,.c (.row 11300)),(14,.c (hL 110)),(15,.c hI),(16,.c hI)],[(3,89,zc0),(4,166,[hB,hL 9])],[(11300,9)]⟩ [(.ret,⟨sO 52 [(6,.c hB)],[],[]⟩),(.exit 0,⟨sO 52 [(2,.c (hL 110)),(4,.c (.box 4 0))],[(4,166,[hB,hL 9])],[]⟩)] (.two (.o) (.two (.o) (.two (.one (.two (.o) (.two (.o) (.two (.two (.join ⟨sO 52 [(2,.c (hL 110)),(3,.c (.box 3 0)),(4,.c (.box 4 0)),(7,.c (.row 11300)),(9,.c (.box 9 0)),(14,.c (hL 110)),(15,.c hI),(16,.c hI),(41,.c hB)],[(3,89,zc0),(4,166,[hB,hL 9]),(9,110,zc5)],[(11300,9)]⟩ (.o)) (.o)) (.o))))) (.o))))))) (.o)))
def c_qd0(n:Nat):Cx:=cX [(158,⟨h_qde,o_qde,qde n⟩),(155,⟨h_qc7,o_qc7,qc7 n⟩),(156,⟨Wy8,o_qdq,qdq n⟩),(157,⟨h_qd9,o_qd9,qd9 n⟩)] [] []
theorem d_qd0(n:Nat)(x:h_qd0.X T):denF (c_qd0 n) n Tryz.f95 p_qd0 h_qd0 o_qd0 x=qd0 n x:=by kernel_rfl
theorem s_qd0(n:Nat):PCalls Tryz.prog Θ 95 ⟨h_qd0,o_qd0,qd0 n⟩:=
 Wac (C:=c_qd0 n) (n:=n) (p:=p_qd0) (Wam mixed Wal ⟨s_qde n,s_qc7 n,s_qdq n,s_qd9 n,trivial⟩ trivial trivial) Tryz.func95 (by kernel_rfl) (by kernel_rfl) (d_qd0 n) (by kernel_rfl)
def h_qd8:Shape:=⟨sO 1 [(0,.c hI)],[],[]⟩
def o_qd8:LT10:=[(.ret,⟨sO 1 [(0,.c hB)],[],[]⟩)]
def qd8(n:Nat)(x0:Int):Option (Bool):=bif decide (x0 < 0)then some true else some (decide (6000 < x0))
def p_qd8:Plan:=.o
def c_qd8(n:Nat):Cx:=cX [] [] []
theorem d_qd8(n:Nat)(x:h_qd8.X T):denF (c_qd8 n) n Tryz.f225 p_qd8 h_qd8 o_qd8 x=qd8 n x:=by kernel_rfl
theorem s_qd8(n:Nat):PCalls Tryz.prog Θ 225 ⟨h_qd8,o_qd8,qd8 n⟩:=
 Wac (C:=c_qd8 n) (n:=n) (p:=p_qd8) (Wam mixed Wal trivial trivial trivial) Tryz.func225 (by kernel_rfl) (by kernel_rfl) (d_qd8 n) (by kernel_rfl)
def h_qdl:Shape:=⟨sO 2 [(0,.c (hL 2)),(1,.c (.fn 225 []))],[],[]⟩
def o_qdl:LT10:=[(.ret,⟨sO 1 [(0,.c hI)],[],[]⟩)]
def qdl(n:Nat)(x0:List Int):Option (Int):=(Wao (Y:=(Int) ⊕ (Unit)) n (fun(x1:LIn×Int×Int)=>bif decide (x1.2.2 < x1.2.1)then bif inB x1.2.2 x1.1.length then (qd8 n (atI 0 x1.1 x1.2.2)).bind fun y2=>bif y2 then some (.inr (.inl x1.2.2)) else some (.inl (x1.1,x1.2.1,wrap64 (x1.2.2+1))) else none else some (.inr (.inr ()))) (x0,((x0.length:Nat):Int),0)).bind (Sum.elim (fun(z3:Int)=>some z3) (fun(z4:Unit)=>some (-1)))
def p_qdl:Plan:=.two (.o) (.two (.two (.o) (.one (.loop ⟨sO 19 [(0,.c (hL 2)),(1,.c (.fn 225 [])),(7,.c hI),(8,.c hI)],[],[]⟩ [(.ret,⟨sO 19 [(4,.c hI)],[],[]⟩),(.exit 0,⟨sO 19 [],[],[]⟩)] (.o)))) (.o))
def c_qdl(n:Nat):Cx:=cX [(225,⟨h_qd8,o_qd8,qd8 n⟩)] [] []
theorem d_qdl(n:Nat)(x:h_qdl.X T):denF (c_qdl n) n Tryz.f200 p_qdl h_qdl o_qdl x=qdl n x:=by kernel_rfl
theorem s_qdl(n:Nat):PCalls Tryz.prog Θ 200 ⟨h_qdl,o_qdl,qdl n⟩:=
 Wac (C:=c_qdl n) (n:=n) (p:=p_qdl) (Wam mixed Wal ⟨s_qd8 n,trivial⟩ trivial trivial) Tryz.func200 (by kernel_rfl) (by kernel_rfl) (d_qdl n) (by kernel_rfl)
def h_qdb:Shape:=⟨sO 2 [(0,.c (hL 2)),(1,.c (.fn 225 []))],[],[]⟩
def o_qdb:LT10:=[(.ret,⟨sO 1 [(0,.c hB)],[],[]⟩)]
def qdb(n:Nat)(x0:List Int):Option (Bool):=(qdl n x0).bind fun y1=>some (decide (0≤y1))
def p_qdb:Plan:=.o
def c_qdb(n:Nat):Cx:=cX [(200,⟨h_qdl,o_qdl,qdl n⟩)] [] []
theorem d_qdb(n:Nat)(x:h_qdb.X T):denF (c_qdb n) n Tryz.f144 p_qdb h_qdb o_qdb x=qdb n x:=by kernel_rfl
theorem s_qdb(n:Nat):PCalls Tryz.prog Θ 144 ⟨h_qdb,o_qdb,qdb n⟩:=
 Wac (C:=c_qdb n) (n:=n) (p:=p_qdb) (Wam mixed Wal ⟨s_qdl n,trivial⟩ trivial trivial) Tryz.func144 (by kernel_rfl) (by kernel_rfl) (d_qdb n) (by kernel_rfl)
def Wy9:Shape:=⟨sO 1 [(0,.c (hL 2))],[],[]⟩
def o_qd7:LT10:=[(.ret,⟨sO 1 [(0,.c hB)],[],[]⟩)]
def qd7(n:Nat)(x0:List Int):Option (Bool):=(qdb n x0).bind fun y1=>some (!y1)
def p_qd7:Plan:=.o
def c_qd7(n:Nat):Cx:=cX [(144,⟨h_qdb,o_qdb,qdb n⟩)] [] []
theorem d_qd7(n:Nat)(x:Wy9.X T):denF (c_qd7 n) n Tryz.f202 p_qd7 Wy9 o_qd7 x=qd7 n x:=by kernel_rfl
theorem s_qd7(n:Nat):PCalls Tryz.prog Θ 202 ⟨Wy9,o_qd7,qd7 n⟩:=
 Wac (C:=c_qd7 n) (n:=n) (p:=p_qd7) (Wam mixed Wal ⟨s_qdb n,trivial⟩ trivial trivial) Tryz.func202 (by kernel_rfl) (by kernel_rfl) (d_qd7 n) (by kernel_rfl)
def h_qd6:Shape:=⟨sO 1 [(0,.agg [hS,hI,hI])],[],[]⟩
def o_qd6:LT10:=[(.ret,⟨sO 1 [(0,.c hB)],[],[]⟩)]
def qd6(n:Nat)(x0:ByteArray×Int×Int):Option (Bool):=(qd7 n (x0.2.1::(x0.2.2::[]))).bind fun y1=>some (!y1)
def p_qd6:Plan:=.o
def c_qd6(n:Nat):Cx:=cX [(202,⟨Wy9,o_qd7,qd7 n⟩)] [] []
theorem d_qd6(n:Nat)(x:h_qd6.X T):denF (c_qd6 n) n Tryz.f204 p_qd6 h_qd6 o_qd6 x=qd6 n x:=by kernel_rfl
theorem s_qd6(n:Nat):PCalls Tryz.prog Θ 204 ⟨h_qd6,o_qd6,qd6 n⟩:=
 Wac (C:=c_qd6 n) (n:=n) (p:=p_qd6) (Wam mixed Wal ⟨s_qd7 n,trivial⟩ trivial trivial) Tryz.func204 (by kernel_rfl) (by kernel_rfl) (d_qd6 n) (by kernel_rfl)
def h_qdk:Shape:=⟨sO 2 [(0,.c (hL 113)),(1,.c (.fn 204 []))],[],[]⟩
def o_qdk:LT10:=[(.ret,⟨sO 1 [(0,.c hI)],[],[]⟩)]
def qdk(n:Nat)(x0:LT6):Option (Int):=(Wao (Y:=(Int) ⊕ (Unit)) n (fun(x1:LT6×Int×Int)=>bif decide (x1.2.2 < x1.2.1)then bif inB x1.2.2 x1.1.length then (qd6 n (atI (ByteArray.mk #[],0,0) x1.1 x1.2.2)).bind fun y2=>bif y2 then some (.inr (.inl x1.2.2)) else some (.inl (x1.1,x1.2.1,wrap64 (x1.2.2+1))) else none else some (.inr (.inr ()))) (x0,((x0.length:Nat):Int),0)).bind (Sum.elim (fun(z3:Int)=>some z3) (fun(z4:Unit)=>some (-1)))
def p_qdk:Plan:=.two (.o) (.two (.two (.o) (.one (.loop ⟨sO 19 [(0,.c (hL 113)),(1,.c (.fn 204 [])),(7,.c hI),(8,.c hI)],[],[]⟩ [(.ret,⟨sO 19 [(4,.c hI)],[],[]⟩),(.exit 0,⟨sO 19 [],[],[]⟩)] (.o)))) (.o))
def c_qdk(n:Nat):Cx:=cX [(204,⟨h_qd6,o_qd6,qd6 n⟩)] [] []
theorem d_qdk(n:Nat)(x:h_qdk.X T):denF (c_qdk n) n Tryz.f226 p_qdk h_qdk o_qdk x=qdk n x:=by kernel_rfl
theorem s_qdk(n:Nat):PCalls Tryz.prog Θ 226 ⟨h_qdk,o_qdk,qdk n⟩:=
 Wac (C:=c_qdk n) (n:=n) (p:=p_qdk) (Wam mixed Wal ⟨s_qd6 n,trivial⟩ trivial trivial) Tryz.func226 (by kernel_rfl) (by kernel_rfl) (d_qdk n) (by kernel_rfl)
def h_qda:Shape:=⟨sO 2 [(0,.c (hL 113)),(1,.c (.fn 204 []))],[],[]⟩
def o_qda:LT10:=[(.ret,⟨sO 1 [(0,.c hB)],[],[]⟩)]
def qda(n:Nat)(x0:LT6):Option (Bool):=(qdk n x0).bind fun y1=>some (decide (0≤y1))
def p_qda:Plan:=.o
def c_qda(n:Nat):Cx:=cX [(226,⟨h_qdk,o_qdk,qdk n⟩)] [] []
theorem d_qda(n:Nat)(x:h_qda.X T):denF (c_qda n) n Tryz.f203 p_qda h_qda o_qda x=qda n x:=by kernel_rfl
theorem s_qda(n:Nat):PCalls Tryz.prog Θ 203 ⟨h_qda,o_qda,qda n⟩:=
 Wac (C:=c_qda n) (n:=n) (p:=p_qda) (Wam mixed Wal ⟨s_qdk n,trivial⟩ trivial trivial) Tryz.func203 (by kernel_rfl) (by kernel_rfl) (d_qda n) (by kernel_rfl)
def h_qd5:Shape:=⟨sO 1 [(0,.agg zc5)],[],[]⟩
def o_qd5:LT10:=[(.ret,⟨sO 1 [(0,.c hB)],[],[]⟩)]
def qd5(n:Nat)(x0:T22):Option (Bool):=(qd7 n (x0.2.1::(x0.2.2.1::(x0.2.2.2.1::[])))).bind fun y1=>bif y1 then (qda n x0.2.2.2.2).bind fun y2=>some (!y2) else some false
def p_qd5:Plan:=.o
def c_qd5(n:Nat):Cx:=cX [(202,⟨Wy9,o_qd7,qd7 n⟩),(203,⟨h_qda,o_qda,qda n⟩)] [] []
theorem d_qd5(n:Nat)(x:h_qd5.X T):denF (c_qd5 n) n Tryz.f154 p_qd5 h_qd5 o_qd5 x=qd5 n x:=by kernel_rfl
theorem s_qd5(n:Nat):PCalls Tryz.prog Θ 154 ⟨h_qd5,o_qd5,qd5 n⟩:=
 Wac (C:=c_qd5 n) (n:=n) (p:=p_qd5) (Wam mixed Wal ⟨s_qd7 n,s_qda n,trivial⟩ trivial trivial) Tryz.func154 (by kernel_rfl) (by kernel_rfl) (d_qd5 n) (by kernel_rfl)
def h_qd4:Shape:=⟨sO 1 [(0,.agg zc5)],[],[]⟩
def o_qd4:LT10:=[(.ret,⟨sO 1 [(0,.c hB)],[],[]⟩)]
def qd4(n:Nat)(x0:T22):Option (Bool):=(qd5 n x0).bind fun y1=>some (!y1)
def p_qd4:Plan:=.o
def c_qd4(n:Nat):Cx:=cX [(154,⟨h_qd5,o_qd5,qd5 n⟩)] [] []
theorem d_qd4(n:Nat)(x:h_qd4.X T):denF (c_qd4 n) n Tryz.f153 p_qd4 h_qd4 o_qd4 x=qd4 n x:=by kernel_rfl
theorem s_qd4(n:Nat):PCalls Tryz.prog Θ 153 ⟨h_qd4,o_qd4,qd4 n⟩:=
 Wac (C:=c_qd4 n) (n:=n) (p:=p_qd4) (Wam mixed Wal ⟨s_qd5 n,trivial⟩ trivial trivial) Tryz.func153 (by kernel_rfl) (by kernel_rfl) (d_qd4 n) (by kernel_rfl)
def h_qdj:Shape:=⟨sO 2 [(0,.c (hL 110)),(1,.c (.fn 153 []))],[],[]⟩
def o_qdj:LT10:=[(.ret,⟨sO 1 [(0,.c hI)],[],[]⟩)]
def qdj(n:Nat)(x0:LT13):Option (Int):=(Wao (Y:=(Int) ⊕ (Unit)) n (fun(x1:LT13×Int×Int)=>bif decide (x1.2.2 < x1.2.1)then bif inB x1.2.2 x1.1.length then (qd4 n (atI (ByteArray.mk #[],0,0,0,[]) x1.1 x1.2.2)).bind fun y2=>bif y2 then some (.inr (.inl x1.2.2)) else some (.inl (x1.1,x1.2.1,wrap64 (x1.2.2+1))) else none else some (.inr (.inr ()))) (x0,((x0.length:Nat):Int),0)).bind (Sum.elim (fun(z3:Int)=>some z3) (fun(z4:Unit)=>some (-1)))
def p_qdj:Plan:=.two (.o) (.two (.two (.o) (.one (.loop ⟨sO 19 [(0,.c (hL 110)),(1,.c (.fn 153 [])),(7,.c hI),(8,.c hI)],[],[]⟩ [(.ret,⟨sO 19 [(4,.c hI)],[],[]⟩),(.exit 0,⟨sO 19 [],[],[]⟩)] (.o)))) (.o))
def c_qdj(n:Nat):Cx:=cX [(153,⟨h_qd4,o_qd4,qd4 n⟩)] [] []
theorem d_qdj(n:Nat)(x:h_qdj.X T):denF (c_qdj n) n Tryz.f201 p_qdj h_qdj o_qdj x=qdj n x:=by kernel_rfl
theorem s_qdj(n:Nat):PCalls Tryz.prog Θ 201 ⟨h_qdj,o_qdj,qdj n⟩:=
 Wac (C:=c_qdj n) (n:=n) (p:=p_qdj) (Wam mixed Wal ⟨s_qd4 n,trivial⟩ trivial trivial) Tryz.func201 (by kernel_rfl) (by kernel_rfl) (d_qdj n) (by kernel_rfl)
def h_qc9:Shape:=⟨sO 2 [(0,.c (hL 110)),(1,.c (.fn 153 []))],[],[]⟩
def o_qc9:LT10:=[(.ret,⟨sO 1 [(0,.c hB)],[],[]⟩)]
def qc9(n:Nat)(x0:LT13):Option (Bool):=(qdj n x0).bind fun y1=>some (decide (0≤y1))
def p_qc9:Plan:=.o
def c_qc9(n:Nat):Cx:=cX [(201,⟨h_qdj,o_qdj,qdj n⟩)] [] []
theorem d_qc9(n:Nat)(x:h_qc9.X T):denF (c_qc9 n) n Tryz.f152 p_qc9 h_qc9 o_qc9 x=qc9 n x:=by kernel_rfl
theorem s_qc9(n:Nat):PCalls Tryz.prog Θ 152 ⟨h_qc9,o_qc9,qc9 n⟩:=
 Wac (C:=c_qc9 n) (n:=n) (p:=p_qc9) (Wam mixed Wal ⟨s_qdj n,trivial⟩ trivial trivial) Tryz.func152 (by kernel_rfl) (by kernel_rfl) (d_qc9 n) (by kernel_rfl)
def Wza:Shape:=⟨sO 1 [(0,.agg zc3)],[],[]⟩
def o_qd3:LT10:=[(.ret,⟨sO 1 [(0,.c hB)],[],[]⟩)]
def qd3(n:Nat)(x0:ByteArray×Int×(List Wai)×Int×Int):Option (Bool):=let e0:=((x0.2.2.1.length:Nat):Int);bif decide (4 < e0)then some false else (Wao (Y:=(Bool) ⊕ (Unit)) n (fun(x1:(List Wai)×Int×Int)=>let e1:=atI [] x1.1 x1.2.2;let e2:=((e1.length:Nat):Int);bif decide (x1.2.2 < x1.2.1)then bif inB x1.2.2 x1.1.length then bif decide (2 < e2)then some (.inr (.inl false)) else (Wao (Y:=(Bool) ⊕ ((List Wai)×Int×Int)) n (fun(x2:(List Wai)×Int×Int×Wai×Int×Int)=>let e3:=atI [] x2.2.2.2.1 x2.2.2.2.2.2;bif decide (x2.2.2.2.2.2 < x2.2.2.2.2.1)then bif inB x2.2.2.2.2.2 x2.2.2.2.1.length then letJ (fun(x4:(List Wai)×Int×Int×Wai×Int×Int×Bool)=>bif x4.2.2.2.2.2.2 then some (.inr (.inl false)) else some (.inl (x4.1,x4.2.1,x4.2.2.1,x4.2.2.2.1,x4.2.2.2.2.1,wrap64 (x4.2.2.2.2.2.1+1)))) fun J5=>bif decide (4 < ((e3.length:Nat):Int))then J5 (x2.1,x2.2.1,x2.2.2.1,x2.2.2.2.1,x2.2.2.2.2.1,x2.2.2.2.2.2,true) else (qc9 n e3).bind fun y3=>J5 (x2.1,x2.2.1,x2.2.2.1,x2.2.2.2.1,x2.2.2.2.2.1,x2.2.2.2.2.2,y3) else none else some (.inr (.inr (x2.1,x2.2.1,x2.2.2.1)))) (x1.1,x1.2.1,x1.2.2,e1,e2,0)).bind (Sum.elim (fun(z6:Bool)=>some (.inr (.inl z6))) (fun(z7:(List Wai)×Int×Int)=>some (.inl (z7.1,z7.2.1,wrap64 (z7.2.2+1))))) else none else some (.inr (.inr ()))) (x0.2.2.1,e0,0)).bind (Sum.elim (fun(z8:Bool)=>some z8) (fun(z9:Unit)=>some true))
def p_qd3:Plan:=.two (.o) (.two (.o) (.two (.two (.o) (.one (.loop ⟨sO 38 [(12,.c (hL 106)),(13,.c hI),(14,.c hI)],[],[]⟩ [(.ret,⟨sO 38 [(2,.c hB)],[],[]⟩),(.exit 0,⟨sO 38 [],[],[]⟩)] (.two (.o) (.two (.o) (.two (.one (.two (.o) (.two (.o) (.two (.o) (.one (.loop ⟨sO 38 [(12,.c (hL 106)),(13,.c hI),(14,.c hI),(23,.c (hL 107)),(24,.c hI),(25,.c hI)],[],[]⟩ [(.ret,⟨sO 38 [(2,.c hB)],[],[]⟩),(.exit 2,⟨sO 38 [(12,.c (hL 106)),(13,.c hI),(14,.c hI)],[],[]⟩)] (.two (.o) (.two (.o) (.two (.one (.two (.o) (.two (.join ⟨sO 38 [(12,.c (hL 106)),(13,.c hI),(14,.c hI),(23,.c (hL 107)),(24,.c hI),(25,.c hI),(35,.c hB)],[],[]⟩ (.o)) (.o)))) (.o)))))))))) (.o))))))) (.o)))
def c_qd3(n:Nat):Cx:=cX [(152,⟨h_qc9,o_qc9,qc9 n⟩)] [] []
theorem d_qd3(n:Nat)(x:Wza.X T):denF (c_qd3 n) n Tryz.f94 p_qd3 Wza o_qd3 x=qd3 n x:=by kernel_rfl
theorem s_qd3(n:Nat):PCalls Tryz.prog Θ 94 ⟨Wza,o_qd3,qd3 n⟩:=
 Wac (C:=c_qd3 n) (n:=n) (p:=p_qd3) (Wam mixed Wal ⟨s_qc9 n,trivial⟩ trivial trivial) Tryz.func94 (by kernel_rfl) (by kernel_rfl) (d_qd3 n) (by kernel_rfl)
def Wzb:Shape:=⟨sO 1 [(0,.agg [hL 107])],[],[]⟩
def o_qdy:LT10:=[(.ret,⟨sO 1 [(0,.c hI)],[],[]⟩)]
def qdy(n:Nat)(x0:Wai):Option (Int):=(Wao (Y:=(Int)) n (fun(x1:Int×Wai×Int×Int)=>let e0:=atI [] x1.2.1 x1.2.2.2;bif decide (x1.2.2.2 < x1.2.2.1)then bif inB x1.2.2.2 x1.2.1.length then (Wao (Y:=(Int×Int×Wai×Int×Int)) n (fun(x2:Int×Int×Wai×Int×Int×LT13×Int×Int)=>bif decide (x2.2.2.2.2.2.2.2 < x2.2.2.2.2.2.2.1)then bif inB x2.2.2.2.2.2.2.2 x2.2.2.2.2.2.1.length then some (.inl (x2.1,wrap64 (x2.2.1+(atI (ByteArray.mk #[],0,0,0,[]) x2.2.2.2.2.2.1 x2.2.2.2.2.2.2.2).2.1),x2.2.2.1,x2.2.2.2.1,x2.2.2.2.2.1,x2.2.2.2.2.2.1,x2.2.2.2.2.2.2.1,wrap64 (x2.2.2.2.2.2.2.2+1))) else none else some (.inr (x2.1,x2.2.1,x2.2.2.1,x2.2.2.2.1,x2.2.2.2.2.1))) (x1.1,0,x1.2.1,x1.2.2.1,x1.2.2.2,e0,((e0.length:Nat):Int),0)).bind fun(z3:Int×Int×Wai×Int×Int)=>some (.inl (mx z3.1 z3.2.1,z3.2.2.1,z3.2.2.2.1,wrap64 (z3.2.2.2.2+1))) else none else some (.inr x1.1)) (0,x0,((x0.length:Nat):Int),0)).bind fun(z4:Int)=>some z4
def p_qdy:Plan:=.two (.o) (.two (.o) (.two (.two (.o) (.one (.loop ⟨sO 32 [(3,.c hI),(10,.c (hL 107)),(11,.c hI),(12,.c hI)],[],[]⟩ [(.exit 0,⟨sO 32 [(3,.c hI)],[],[]⟩)] (.two (.o) (.two (.o) (.two (.one (.two (.o) (.two (.o) (.two (.two (.o) (.one (.loop ⟨sO 32 [(3,.c hI),(6,.c hI),(10,.c (hL 107)),(11,.c hI),(12,.c hI),(16,.c (hL 110)),(17,.c hI),(18,.c hI)],[],[]⟩ [(.exit 2,⟨sO 32 [(3,.c hI),(6,.c hI),(10,.c (hL 107)),(11,.c hI),(12,.c hI)],[],[]⟩)] (.o)))) (.o))))) (.o))))))) (.o)))
def c_qdy(n:Nat):Cx:=cX [] [] []
theorem d_qdy(n:Nat)(x:Wzb.X T):denF (c_qdy n) n Tryz.f160 p_qdy Wzb o_qdy x=qdy n x:=by kernel_rfl
theorem s_qdy(n:Nat):PCalls Tryz.prog Θ 160 ⟨Wzb,o_qdy,qdy n⟩:=
 Wac (C:=c_qdy n) (n:=n) (p:=p_qdy) (Wam mixed Wal trivial trivial trivial) Tryz.func160 (by kernel_rfl) (by kernel_rfl) (d_qdy n) (by kernel_rfl)
def Wv1:Shape:=⟨sO 1 [(0,.agg zc3)],[],[]⟩
def Wzc:LT10:=[(.ret,⟨sO 1 [(0,.c hI)],[],[]⟩)]
def qdw(n:Nat)(x0:ByteArray×Int×(List Wai)×Int×Int):Option (Int):=(qd3 n x0).bind fun y1=>bif !y1 then some 0 else (Wao (Y:=(Int)) n (fun(x2:Int×(List Wai)×Int×Int)=>bif decide (x2.2.2.2 < x2.2.2.1)then bif inB x2.2.2.2 x2.2.1.length then (qdy n (atI [] x2.2.1 x2.2.2.2)).bind fun y3=>some (.inl (wrap64 (x2.1+y3),x2.2.1,x2.2.2.1,wrap64 (x2.2.2.2+1))) else none else some (.inr x2.1)) (0,x0.2.2.1,((x0.2.2.1.length:Nat):Int),0)).bind fun(z4:Int)=>some z4
def p_qdw:Plan:=.two (.o) (.two (.o) (.two (.o) (.two (.two (.o) (.one (.loop ⟨sO 22 [(3,.c hI),(10,.c (hL 106)),(11,.c hI),(12,.c hI)],[],[]⟩ [(.exit 0,⟨sO 22 [(3,.c hI)],[],[]⟩)] (.o)))) (.o))))
def c_qdw(n:Nat):Cx:=cX [(94,⟨Wza,o_qd3,qd3 n⟩),(160,⟨Wzb,o_qdy,qdy n⟩)] [] []
theorem d_qdw(n:Nat)(x:Wv1.X T):denF (c_qdw n) n Tryz.f96 p_qdw Wv1 Wzc x=qdw n x:=by kernel_rfl
theorem s_qdw(n:Nat):PCalls Tryz.prog Θ 96 ⟨Wv1,Wzc,qdw n⟩:=
 Wac (C:=c_qdw n) (n:=n) (p:=p_qdw) (Wam mixed Wal ⟨s_qd3 n,s_qdy n,trivial⟩ trivial trivial) Tryz.func96 (by kernel_rfl) (by kernel_rfl) (d_qdw n) (by kernel_rfl)
def Wzd:Shape:=⟨sO 2 z55,[],[]⟩
def o_qdt:LT10:=[(.ret,⟨sO 1 [(0,.c hB)],[],[]⟩)]
def qdt(n:Nat)(x0:ByteArray×LT8×LT4×LT9×LLT0×LT3×Int×ByteArray×Int×(List Wai)×Int×Int):Option (Bool):=letJ (fun(x2:Bool×ByteArray×LT8×LT4×LT9×LLT0×LT3×Int×ByteArray×Int×(List Wai)×Int×Int)=>bif x2.1 then some false else (Wao (Y:=(Bool) ⊕ (ByteArray×Int×(List Wai)×Int×Int)) n (fun(x4:(List Wai)×Int×Int×ByteArray×LT8×LT4×LT9×LLT0×LT3×Int×ByteArray×Int×(List Wai)×Int×Int)=>let e0:=atI [] x4.1 x4.2.2.1;let e1:=((e0.length:Nat):Int);bif decide (x4.2.2.1 < x4.2.1)then bif inB x4.2.2.1 x4.1.length then bif inB x4.2.2.1 x4.2.2.2.2.2.2.2.1.length then bif !(e1==((List.length (atI [] x4.2.2.2.2.2.2.2.1 x4.2.2.1):Nat):Int))then some (.inr (.inl false)) else (Wao (Y:=(Bool) ⊕ ((List Wai)×Int×Int×ByteArray×LT8×LT4×LT9×LLT0×LT3×Int×ByteArray×Int×(List Wai)×Int×Int)) n (fun(x5:Int×(List Wai)×Int×Int×Wai×Int×Int×ByteArray×LT8×LT4×LT9×LLT0×LT3×Int×ByteArray×Int×(List Wai)×Int×Int)=>let e2:=atI [] x5.2.2.2.2.2.2.2.2.2.2.2.1 x5.1;let e3:=atI (false,[]) e2 x5.2.2.2.2.2.2.1;bif decide (x5.2.2.2.2.2.2.1 < x5.2.2.2.2.2.1)then bif inB x5.2.2.2.2.2.2.1 x5.2.2.2.2.1.length then bif inB x5.1 x5.2.2.2.2.2.2.2.2.2.2.2.1.length then bif inB x5.2.2.2.2.2.2.1 e2.length then (qd0 n (x5.2.2.2.2.2.2.2.1,x5.2.2.2.2.2.2.2.2.1,x5.2.2.2.2.2.2.2.2.2.1,x5.2.2.2.2.2.2.2.2.2.2.1,x5.2.2.2.2.2.2.2.2.2.2.2.1,x5.2.2.2.2.2.2.2.2.2.2.2.2.1,x5.2.2.2.2.2.2.2.2.2.2.2.2.2.1,e3.1,e3.2,atI [] x5.2.2.2.2.1 x5.2.2.2.2.2.2.1)).bind fun y6=>bif !y6 then some (.inr (.inl false)) else some (.inl (x5.1,x5.2.1,x5.2.2.1,x5.2.2.2.1,x5.2.2.2.2.1,x5.2.2.2.2.2.1,wrap64 (x5.2.2.2.2.2.2.1+1),x5.2.2.2.2.2.2.2)) else none else none else none else some (.inr (.inr (x5.2.1,x5.2.2.1,x5.2.2.2.1,x5.2.2.2.2.2.2.2)))) (x4.2.2.1,x4.1,x4.2.1,x4.2.2.1,e0,e1,0,x4.2.2.2)).bind (Sum.elim (fun(z7:Bool)=>some (.inr (.inl z7))) (fun(z8:(List Wai)×Int×Int×ByteArray×LT8×LT4×LT9×LLT0×LT3×Int×ByteArray×Int×(List Wai)×Int×Int)=>some (.inl (z8.1,z8.2.1,wrap64 (z8.2.2.1+1),z8.2.2.2)))) else none else none else some (.inr (.inr x4.2.2.2.2.2.2.2.2.2.2))) (x2.2.2.2.2.2.2.2.2.2.2.1,((x2.2.2.2.2.2.2.2.2.2.2.1.length:Nat):Int),0,x2.2)).bind (Sum.elim (fun(z9:Bool)=>some z9) (fun(z10:ByteArray×Int×(List Wai)×Int×Int)=>(qdw n z10).bind fun y11=>bif decide (1≤y11)then some (decide (y11≤6000)) else some false))) fun J3=>(qd3 n x0.2.2.2.2.2.2.2).bind fun y1=>bif !y1 then J3 (true,x0) else J3 (!(((x0.2.2.2.2.2.2.2.2.2.1.length:Nat):Int)==((x0.2.2.2.2.1.length:Nat):Int)),x0)
def p_qdt:Plan:=.two (.o) (.two (.two (.join ⟨sO 72 [(2,.c (.box 2 0)),(3,.c (.box 3 0)),(21,.c hB)],z37,[]⟩ (.o)) (.o)) (.two (.two (.o) (.one (.loop ⟨sO 72 z49,z37,[]⟩ [(.ret,⟨sO 72 [(4,.c hB)],[],[]⟩),(.exit 0,⟨sO 72 [(3,.c (.box 3 0))],[(3,53,zc3)],[]⟩)] (.two (.o) (.two (.o) (.two (.one (.two (.o) (.two (.o) (.two (.o) (.one (.loop ⟨sO 72 [(2,.c (.box 2 0)),(3,.c (.box 3 0)),(5,.c hI),(23,.c (hL 106)),(24,.c hI),(25,.c hI),(42,.c (hL 107)),(43,.c hI),(44,.c hI)],z37,[]⟩ [(.ret,⟨sO 72 [(4,.c hB)],[],[]⟩),(.exit 2,⟨sO 72 z49,z37,[]⟩)] (.o))))))) (.o))))))) (.o)))
def c_qdt(n:Nat):Cx:=cX [(94,⟨Wza,o_qd3,qd3 n⟩),(95,⟨h_qd0,o_qd0,qd0 n⟩),(96,⟨Wv1,Wzc,qdw n⟩)] [] []
theorem d_qdt(n:Nat)(x:Wzd.X T):denF (c_qdt n) n Tryz.f47 p_qdt Wzd o_qdt x=qdt n x:=by kernel_rfl
theorem s_qdt(n:Nat):PCalls Tryz.prog Θ 47 ⟨Wzd,o_qdt,qdt n⟩:=
 Wac (C:=c_qdt n) (n:=n) (p:=p_qdt) (Wam mixed Wal ⟨s_qd3 n,s_qd0 n,s_qdw n,trivial⟩ trivial trivial) Tryz.func47 (by kernel_rfl) (by kernel_rfl) (d_qdt n) (by kernel_rfl)
def h_qew:Shape:=⟨sO 2 z55,[],[]⟩
def o_qew:LT10:=[(.ret,⟨sO 1 [(0,.c hB)],[],[]⟩)]
def qew(n:Nat)(x0:ByteArray×LT8×LT4×LT9×LLT0×LT3×Int×ByteArray×Int×(List Wai)×Int×Int):Option (Bool):=bif Wak x0.1 x0.2.2.2.2.2.2.2.1 then (qdt n x0).bind fun y1=>some y1 else some false
def p_qew:Plan:=.o
def c_qew(n:Nat):Cx:=cX [(47,⟨Wzd,o_qdt,qdt n⟩)] [] []
theorem d_qew(n:Nat)(x:h_qew.X T):denF (c_qew n) n Tryz.f46 p_qew h_qew o_qew x=qew n x:=by kernel_rfl
theorem s_qew(n:Nat):PCalls Tryz.prog Θ 46 ⟨h_qew,o_qew,qew n⟩:=
 Wac (C:=c_qew n) (n:=n) (p:=p_qew) (Wam mixed Wal ⟨s_qdt n,trivial⟩ trivial trivial) Tryz.func46 (by kernel_rfl) (by kernel_rfl) (d_qew n) (by kernel_rfl)
def h_qdg:Shape:=⟨sO 3 [(0,.c (hL 89)),(1,.c (hL 53)),(2,.c (.fn 46 []))],[],[]⟩
def o_qdg:LT10:=[(.ret,⟨sO 1 [(0,.c hB)],[],[]⟩)]
def qdg(n:Nat)(x0:LT14×List (ByteArray×Int×(List Wai)×Int×Int)):Option (Bool):=let e0:=((x0.1.length:Nat):Int);bif !(e0==((x0.2.length:Nat):Int))then some false else (Wao (Y:=(Bool) ⊕ (Unit)) n (fun(x1:(List (ByteArray×Int×(List Wai)×Int×Int))×LT14×Int×Int)=>let e1:=atI (ByteArray.mk #[],[],[],[],[],[],0) x1.2.1 x1.2.2.2;let e2:=e1.2;let e3:=e1.2.2;let e4:=e1.2.2.2;let e5:=e1.2.2.2.2;let e6:=e1.2.2.2.2.2;bif decide (x1.2.2.2 < x1.2.2.1)then bif inB x1.2.2.2 x1.2.1.length then bif inB x1.2.2.2 x1.1.length then (qew n (e1.1,e1.2.1,e1.2.2.1,e1.2.2.2.1,e1.2.2.2.2.1,e1.2.2.2.2.2.1,e1.2.2.2.2.2.2,atI (ByteArray.mk #[],0,[],0,0) x1.1 x1.2.2.2)).bind fun y2=>bif !y2 then some (.inr (.inl false)) else some (.inl (x1.1,x1.2.1,x1.2.2.1,wrap64 (x1.2.2.2+1))) else none else none else some (.inr (.inr ()))) (x0.2,x0.1,e0,0)).bind (Sum.elim (fun(z3:Bool)=>some z3) (fun(z4:Unit)=>some true))
def p_qdg:Plan:=.two (.o) (.two (.o) (.two (.two (.o) (.one (.loop ⟨sO 32 [(1,.c (hL 53)),(2,.c (.fn 46 [])),(15,.c (hL 89)),(16,.c hI),(17,.c hI)],[],[]⟩ [(.ret,⟨sO 32 [(6,.c hB)],[],[]⟩),(.exit 0,⟨sO 32 [],[],[]⟩)] (.o)))) (.o)))
def c_qdg(n:Nat):Cx:=cX [(46,⟨h_qew,o_qew,qew n⟩)] [] []
theorem d_qdg(n:Nat)(x:h_qdg.X T):denF (c_qdg n) n Tryz.f45 p_qdg h_qdg o_qdg x=qdg n x:=by kernel_rfl
theorem s_qdg(n:Nat):PCalls Tryz.prog Θ 45 ⟨h_qdg,o_qdg,qdg n⟩:=
 Wac (C:=c_qdg n) (n:=n) (p:=p_qdg) (Wam mixed Wal ⟨s_qew n,trivial⟩ trivial trivial) Tryz.func45 (by kernel_rfl) (by kernel_rfl) (d_qdg n) (by kernel_rfl)
end
end Go.Proofs.YtalbenehgdkalaaGreat.Fn