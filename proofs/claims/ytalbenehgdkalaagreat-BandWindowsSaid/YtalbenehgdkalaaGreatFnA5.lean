/- Texts of the proof. -/
import Derived.Test.YtalbenehgdkalaaGreatFnA4
namespace Go.Proofs.YtalbenehgdkalaaGreat.Fn
set_option maxRecDepth 100000
noncomputable section
open Go Go.RowKit Go.Den
def h_qah:Shape:=⟨sO 2 [(0,.agg [hS,hI,hI,hI,hI]),(1,.c (.box 1000000 0))],z6,[]⟩
def o_qah:LT10:=[(.ret,⟨sO 1 [(0,.c hB)],z6,[]⟩)]
def qah(n:Nat)(x0:ByteArray×Int×Int×Int×Int×ByteArray):Option (Bool×ByteArray):=some (Wak x0.1 x0.2.2.2.2.2,x0.2.2.2.2.2)
def p_qah:Plan:=.o
def c_qah(n:Nat):Cx:=cX [] [] []
theorem d_qah(n:Nat)(x:h_qah.X T):denF (c_qah n) n Tryz.f119 p_qah h_qah o_qah x=qah n x:=by kernel_rfl
theorem s_qah(n:Nat):PCalls Tryz.prog Θ 119 ⟨h_qah,o_qah,qah n⟩:=
 Wac (C:=c_qah n) (n:=n) (p:=p_qah) (Wam mixed Wal trivial trivial trivial) Tryz.func119 (by kernel_rfl) (by kernel_rfl) (d_qah n) (by kernel_rfl)
def h_qdh:Shape:=⟨sO 2 [(0,.c (hL 196)),(1,.c (.fn 119 [1000000]))],z6,[]⟩
def o_qdh:LT10:=[(.ret,⟨sO 1 [(0,.c hI)],z6,[]⟩)]
def qdh(n:Nat)(x0:LT7×ByteArray):Option (Int×ByteArray):=(Wao (Y:=(Int×ByteArray) ⊕ (ByteArray)) n (fun(x1:LT7×Int×Int×ByteArray)=>let e0:=atI (ByteArray.mk #[],0,0,0,0) x1.1 x1.2.2.1;let e1:=e0.2;let e2:=e0.2.2;let e3:=e0.2.2.2;bif decide (x1.2.2.1 < x1.2.1)then bif inB x1.2.2.1 x1.1.length then (qah n (e0.1,e0.2.1,e0.2.2.1,e0.2.2.2.1,e0.2.2.2.2,x1.2.2.2)).bind fun y2=>bif y2.1 then some (.inr (.inl (x1.2.2.1,y2.2))) else some (.inl (x1.1,x1.2.1,wrap64 (x1.2.2.1+1),y2.2)) else none else some (.inr (.inr x1.2.2.2))) (x0.1,((x0.1.length:Nat):Int),0,x0.2)).bind (Sum.elim (fun(z3:Int×ByteArray)=>some z3) (fun(z4:ByteArray)=>some ((-1),z4)))
def p_qdh:Plan:=.two (.o) (.two (.two (.o) (.one (.loop ⟨sO 19 [(0,.c (hL 196)),(1,.c (.fn 119 [1000000])),(7,.c hI),(8,.c hI)],z6,[]⟩ [(.ret,⟨sO 19 [(4,.c hI)],z6,[]⟩),(.exit 0,⟨sO 19 [],z6,[]⟩)] (.o)))) (.o))
def c_qdh(n:Nat):Cx:=cX [(119,⟨h_qah,o_qah,qah n⟩)] [] []
theorem d_qdh(n:Nat)(x:h_qdh.X T):denF (c_qdh n) n Tryz.f118 p_qdh h_qdh o_qdh x=qdh n x:=by kernel_rfl
theorem s_qdh(n:Nat):PCalls Tryz.prog Θ 118 ⟨h_qdh,o_qdh,qdh n⟩:=
 Wac (C:=c_qdh n) (n:=n) (p:=p_qdh) (Wam mixed Wal ⟨s_qah n,trivial⟩ trivial trivial) Tryz.func118 (by kernel_rfl) (by kernel_rfl) (d_qdh n) (by kernel_rfl)
def h_qag:Shape:=⟨sO 3 [(0,.agg zc0),(1,.agg zc3),(2,.c hS)],[],[]⟩
def o_qag:LT10:=[(.ret,⟨sO 1 z4,[],[]⟩)]
def qag(n:Nat)(x0:ByteArray×LT8×LT4×LT9×LLT0×LT3×Int×ByteArray×Int×(List Wai)×Int×Int×ByteArray):Option (Int×Int):=(qdu n (x0.1,x0.2.1,x0.2.2.1,x0.2.2.2.1,x0.2.2.2.2.1,x0.2.2.2.2.2.1,x0.2.2.2.2.2.2.1,x0.2.2.2.2.2.2.2.1,x0.2.2.2.2.2.2.2.2.1,x0.2.2.2.2.2.2.2.2.2.1,x0.2.2.2.2.2.2.2.2.2.2.1,x0.2.2.2.2.2.2.2.2.2.2.2.1)).bind fun y1=>(qdh n (y1.2,x0.2.2.2.2.2.2.2.2.2.2.2.2)).bind fun y2=>let e0:=(atI (ByteArray.mk #[],0,0,0,0) y1.2 y2.1).2;bif inB y2.1 y1.2.length then some ((atI (ByteArray.mk #[],0,0,0,0) y1.2 y2.1).2.1,(atI (ByteArray.mk #[],0,0,0,0) y1.2 y2.1).2.2.1) else none
def p_qag:Plan:=.o
def c_qag(n:Nat):Cx:=cX [(117,⟨h_qdu,o_qdu,qdu n⟩),(118,⟨h_qdh,o_qdh,qdh n⟩)] [] []
theorem d_qag(n:Nat)(x:h_qag.X T):denF (c_qag n) n Tryz.f64 p_qag h_qag o_qag x=qag n x:=by kernel_rfl
theorem s_qag(n:Nat):PCalls Tryz.prog Θ 64 ⟨h_qag,o_qag,qag n⟩:=
 Wac (C:=c_qag n) (n:=n) (p:=p_qag) (Wam mixed Wal ⟨s_qdu n,s_qdh n,trivial⟩ trivial trivial) Tryz.func64 (by kernel_rfl) (by kernel_rfl) (d_qag n) (by kernel_rfl)
def h_qav:Shape:=⟨sO 2 z20,[],[]⟩
def o_qav:LT10:=[(.ret,⟨sO 1 [(0,.c (.fn 221 [0,1]))],[(0,56,[hL 116]),(1,2,[hI])],[]⟩)]
def qav(n:Nat)(x0:Int×LT12):Option (LT12×Int):=some (x0.2,x0.1)
def p_qav:Plan:=.o
def c_qav(n:Nat):Cx:=cX [] [] []
theorem d_qav(n:Nat)(x:h_qav.X T):denF (c_qav n) n Tryz.f183 p_qav h_qav o_qav x=qav n x:=by kernel_rfl
theorem s_qav(n:Nat):PCalls Tryz.prog Θ 183 ⟨h_qav,o_qav,qav n⟩:=
 Wac (C:=c_qav n) (n:=n) (p:=p_qav) (Wam mixed Wal trivial trivial trivial) Tryz.func183 (by kernel_rfl) (by kernel_rfl) (d_qav n) (by kernel_rfl)
def h_qa0:Shape:=⟨sO 2 [(0,.agg [hI,hI]),(1,.c (.box 1000000 0))],[(1000000,199,[.row 1000000])],[(1000000,204)]⟩
def o_qa0:LT10:=[(.ret,⟨sO 1 [(0,.c hB)],[(1000000,199,[.row 2000000])],[(2000000,204)]⟩)]
def Wyb:Rng:=rng Tryz.f122 0 [5]
def Wnx:Prop:=Θ.Y 1220=some Wyb
def qa0(n:Nat)(x0:Int×Int×LT12):Option (Bool×LT12):=let e0:=(x0.1,x0.2.1)::[];bif fitB (x0.2.2.length+e0.length) 16 then some (true,x0.2.2++e0) else none
def p_qa0:Plan:=.o
def c_qa0(n:Nat):Cx:=cX [] [] []
theorem d_qa0(n:Nat)(x:h_qa0.X T):denY (c_qa0 n) n Wyb p_qa0 h_qa0 o_qa0 x=qa0 n x:=by kernel_rfl
theorem Wpr:Wnx:=by unfold Wnx;kernel_rfl
theorem s_qa0(n:Nat):PYields Tryz.prog Θ 1220 ⟨h_qa0,o_qa0,qa0 n⟩:=
 Wpk (C:=c_qa0 n) (n:=n) (R:=Wyb) (p:=p_qa0) (Wam mixed Wal trivial trivial trivial) Wpr (by kernel_rfl) (by kernel_rfl) (by kernel_rfl) (by kernel_rfl) (d_qa0 n)
def h_qaw:Shape:=⟨sO 3 [(0,.yld 1220 [.c (.box 1000000 0)]),(1,.c (.box 1000001 0)),(2,.c (.box 1000002 0))],[(1000000,199,[.row 1000000]),(1000001,56,[hL 116]),(1000002,2,[hI])],[(1000000,204)]⟩
def o_qaw:LT10:=[(.ret,⟨sO 0 [],z10,[(2000000,204)]⟩)]
def qaw(n:Nat)(x0:LT12×Int×LT12):Option (LT12×Int×LT12):=(Wao (Y:=(LT12×Int×LT12) ⊕ (LT12×Int×LT12)) n (fun(x7:LT12×Int×Int×LT12×Int×LT12)=>bif decide (x7.2.2.1 < x7.2.1)then bif inB x7.2.2.1 x7.1.length then (qam n (x7.2.2.2.2.1,atI (0,0) x7.1 x7.2.2.1)).bind fun y8=>let e0:=wrap64 (y8.1+y8.2);bif y8.2==0 then some (.inl (x7.1,x7.2.1,wrap64 (x7.2.2.1+1),x7.2.2.2)) else letJ (fun(x11:LT12×Int×Int×Bool×LT12×Int×LT12)=>bif x11.2.2.2.1 then some (.inr (.inl x11.2.2.2.2)) else some (.inl (x11.1,x11.2.1,wrap64 (x11.2.2.1+1),x11.2.2.2.2))) fun J12=>(qa0 n (y8.1,mn e0 x7.2.2.2.2.1,x7.2.2.2.2.2)).bind fun y9=>bif !y9.1 then J12 (x7.1,x7.2.1,x7.2.2.1,true,x7.2.2.2.1,x7.2.2.2.2.1,y9.2) else bif decide (x7.2.2.2.2.1 < e0)then (qa0 n (0,wrap64 (e0 - x7.2.2.2.2.1),y9.2)).bind fun y10=>J12 (x7.1,x7.2.1,x7.2.2.1,!y10.1,x7.2.2.2.1,x7.2.2.2.2.1,y10.2) else J12 (x7.1,x7.2.1,x7.2.2.1,false,x7.2.2.2.1,x7.2.2.2.2.1,y9.2) else none else some (.inr (.inr x7.2.2.2))) (x0.1,((x0.1.length:Nat):Int),0,x0)).bind (Sum.elim (fun(z13:LT12×Int×LT12)=>some z13) (fun(z14:LT12×Int×LT12)=>some z14))
def p_qaw:Plan:=.two (.o) (.one (.loop ⟨sO 48 [(0,.yld 1220 [.c (.box 1000000 0)]),(2,.c (.box 1000002 0)),(7,.c (hL 116)),(8,.c hI),(9,.c hI)],z10,[(2000000,204)]⟩ [(.ret,⟨sO 48 [],z10,[(2000000,204)]⟩),(.exit 0,⟨sO 48 [],z10,[(2000000,204)]⟩)] (.two (.o) (.two (.o) (.two (.one (.two (.o) (.two (.o) (.two (.o) (.two (.o) (.two (.join ⟨sO 48 [(0,.yld 1220 [.c (.box 1000000 0)]),(2,.c (.box 1000002 0)),(7,.c (hL 116)),(8,.c hI),(9,.c hI),(46,.c hB)],z10,[(2000000,204)]⟩ (.o)) (.o))))))) (.o))))))
def c_qaw(n:Nat):Cx:=cX [(123,⟨Wsi,Wvz,qam n⟩)] [(1220,⟨h_qa0,o_qa0,qa0 n⟩)] []
theorem d_qaw(n:Nat)(x:h_qaw.X T):denF (c_qaw n) n Tryz.f221 p_qaw h_qaw o_qaw x=qaw n x:=by kernel_rfl
theorem s_qaw(n:Nat):PCalls Tryz.prog Θ 221 ⟨h_qaw,o_qaw,qaw n⟩:=
 Wac (C:=c_qaw n) (n:=n) (p:=p_qaw) (Wam mixed Wal ⟨s_qam n,trivial⟩ ⟨s_qa0 n,trivial⟩ trivial) Tryz.func221 (by kernel_rfl) (by kernel_rfl) (d_qaw n) (by kernel_rfl)
def h_qds:Shape:=⟨sO 2 [(0,.c (.row 1000000)),(1,.c (.fn 185 []))],[],[(1000000,204)]⟩
def o_qds:LT10:=[(.ret,⟨sO 0 [],[],[(1000000,204)]⟩)]
def qds(n:Nat)(x:LT12):Option (LT12):=Wvt (0,0) (fun a b:Int×Int=>Go.Lib.compareInt a.1 b.1) x
theorem s_qds(n:Nat):PCalls Tryz.prog Θ 184 ⟨h_qds,o_qds,qds n⟩:=Wqc
def Wse:Shape:=⟨sO 2 z20,[],[]⟩
def Wvp:LT10:=[(.ret,⟨sO 1 z38,[],[(0,204)]⟩)]
def qaz(n:Nat)(x0:Int×LT12):Option (LT12):=(qav n x0).bind fun y1=>ifY Wnx ((qaw n (y1.1,y1.2,[])).bind fun y2=>(qds n y2.2.2).bind fun y3=>(Wao (Y:=LT12) n (fun(x5:Int×Int×LT12×LT12)=>bif decide (x5.2.1 < x5.1)then bif inB x5.2.1 x5.2.2.2.length then letJ (fun(x6:Int×Int×Int×Bool×Int×Int×LT12×LT12)=>bif x6.2.2.2.1 then bif inB (wrap64 (x6.1 - 1)) x6.2.2.2.2.2.2.1.length then bif inB (wrap64 (x6.1 - 1)) x6.2.2.2.2.2.2.1.length then some (.inl (x6.2.1,wrap64 (x6.2.2.1+1),List.set x6.2.2.2.2.2.2.1 (Int.toNat (wrap64 (x6.1 - 1))) ((atI (0,0) x6.2.2.2.2.2.2.1 (wrap64 (x6.1 - 1))).1,mx (atI (0,0) x6.2.2.2.2.2.2.1 (wrap64 (x6.1 - 1))).2 x6.2.2.2.2.2.1),x6.2.2.2.2.2.2.2)) else none else none else bif fitB (x6.2.2.2.2.2.2.1.length+(List.length ((x6.2.2.2.2.1,x6.2.2.2.2.2.1)::[]))) 16 then some (.inl (x6.2.1,wrap64 (x6.2.2.1+1),x6.2.2.2.2.2.2.1++((x6.2.2.2.2.1,x6.2.2.2.2.2.1)::[]),x6.2.2.2.2.2.2.2)) else none) fun J7=>bif decide (0 < ((x5.2.2.1.length:Nat):Int))then bif inB (wrap64 (((x5.2.2.1.length:Nat):Int) - 1)) x5.2.2.1.length then J7 (((x5.2.2.1.length:Nat):Int),x5.1,x5.2.1,decide ((atI (0,0) x5.2.2.2 x5.2.1).1≤(atI (0,0) x5.2.2.1 (wrap64 (((x5.2.2.1.length:Nat):Int) - 1))).2),(atI (0,0) x5.2.2.2 x5.2.1).1,(atI (0,0) x5.2.2.2 x5.2.1).2,x5.2.2) else none else J7 (((x5.2.2.1.length:Nat):Int),x5.1,x5.2.1,false,(atI (0,0) x5.2.2.2 x5.2.1).1,(atI (0,0) x5.2.2.2 x5.2.1).2,x5.2.2) else none else some (.inr x5.2.2.1)) (((y3.length:Nat):Int),0,[],y3)).bind fun(z8:LT12)=>some z8)
def p_qaz:Plan:=.two (.o) (.two (.o) (.two (.two (.o) (.one (.range 1220 [5]))) (.two (.o) (.two (.o) (.two (.two (.o) (.one (.loop ⟨sO 62 [(7,.c (.row 59)),(21,.c (.row 910500)),(22,.c hI),(23,.c hI)],[],[(59,204),(910500,204)]⟩ [(.exit 2,⟨sO 62 [(7,.c (.row 59))],[],[(59,204)]⟩)] (.two (.o) (.two (.o) (.two (.one (.two (.o) (.two (.two (.o) (.two (.join ⟨sO 62 [(7,.c (.row 59)),(9,.c (.box 9 0)),(10,.c hI),(21,.c (.row 910500)),(22,.c hI),(23,.c hI),(41,.c hB)],[(9,204,[hI,hI])],[(59,204),(910500,204)]⟩ (.o)) (.o))) (.o)))) (.o))))))) (.o))))))
def c_qaz(n:Nat):Cx:=cX [(184,⟨h_qds,o_qds,qds n⟩),(183,⟨h_qav,o_qav,qav n⟩),(221,⟨h_qaw,o_qaw,qaw n⟩)] [] []
theorem d_qaz(n:Nat)(x:Wse.X T):denF (c_qaz n) n Tryz.f122 p_qaz Wse Wvp x=qaz n x:=by kernel_rfl
theorem s_qaz(n:Nat):PCalls Tryz.prog Θ 122 ⟨Wse,Wvp,qaz n⟩:=
 Wac (C:=c_qaz n) (n:=n) (p:=p_qaz) (Wam mixed Wal ⟨s_qds n,s_qav n,s_qaw n,trivial⟩ trivial trivial) Tryz.func122 (by kernel_rfl) (by kernel_rfl) (d_qaz n) (by kernel_rfl)
def h_qc6:Shape:=⟨sO 1 [(0,.c (hL 204))],[],[]⟩
def o_qc6:LT10:=[(.ret,⟨sO 1 z38,[],[(0,204)]⟩)]
def qc6(n:Nat)(x0:LT12):Option (LT12):=let e0:=fitB x0.length 16;bif List.isEmpty x0 then both (some []) (bif e0 then some x0 else none) else bif e0 then some x0 else none
def p_qc6:Plan:=.o
def c_qc6(n:Nat):Cx:=cX [] [] []
theorem d_qc6(n:Nat)(x:h_qc6.X T):denF (c_qc6 n) n Tryz.f182 p_qc6 h_qc6 o_qc6 x=qc6 n x:=by kernel_rfl
theorem s_qc6(n:Nat):PCalls Tryz.prog Θ 182 ⟨h_qc6,o_qc6,qc6 n⟩:=
 Wac (C:=c_qc6 n) (n:=n) (p:=p_qc6) (Wam mixed Wal trivial trivial trivial) Tryz.func182 (by kernel_rfl) (by kernel_rfl) (d_qc6 n) (by kernel_rfl)
def Wvq:Shape:=⟨sO 2 [(0,.c hI),(1,.c (hL 204))],[],[]⟩
def Wyc:LT10:=[(.ret,⟨sO 1 z38,[],[(0,116)]⟩)]
def qas(n:Nat)(x0:Int×LT12):Option (LT12):=let e0:=x0.2.length;let e1:=((e0:Nat):Int);let e2:=wrap64 (e1 - 1);bif e1==0 then some [] else letJ (fun(x4:LT12)=>(Wao (Y:=LT12) n (fun(x7:LT12×Int×Int×LT12)=>let e3:=atI (0,0) x7.1 x7.2.2.1;let e4:=e3.1;let e5:=(e4,wrap64 (e3.2 - e4))::[];bif decide (x7.2.2.1 < x7.2.1)then bif inB x7.2.2.1 x7.1.length then bif fitB (x7.2.2.2.length+e5.length) 16 then some (.inl (x7.1,x7.2.1,wrap64 (x7.2.2.1+1),x7.2.2.2++e5)) else none else none else some (.inr x7.2.2.2)) (x4,((x4.length:Nat):Int),0,[])).bind fun(z8:LT12)=>some z8) fun J5=>letJ (fun(x1:Int×LT12×Int×Bool)=>let e6:=x1.2.1.length;let e7:=((atI (0,0) x1.2.1 x1.2.2.1).1,wrap64 (x1.1+(atI (0,0) x1.2.1 0).2))::[];bif x1.2.2.2 then bif Wed (some 1) (some x1.2.2.1) e6 then (qc6 n (Wb6 (some 1) (some x1.2.2.1) x1.2.1)).bind fun y3=>bif inB x1.2.2.1 e6 then bif inB 0 e6 then bif fitB (y3.length+e7.length) 16 then J5 (y3++e7) else none else none else none else none else J5 x1.2.1) fun J2=>bif decide (0 < e2)then bif inB 0 e0 then bif (atI (0,0) x0.2 0).1==0 then bif inB e2 e0 then J2 (x0.1,x0.2,e2,(atI (0,0) x0.2 e2).2==x0.1) else none else J2 (x0.1,x0.2,e2,false) else none else J2 (x0.1,x0.2,e2,false)
def p_qas:Plan:=.two (.o) (.two (.o) (.two (.o) (.two (.join ⟨sO 70 [(1,.c (hL 204))],[],[]⟩ (.two (.join ⟨sO 70 [(0,.c hI),(1,.c (hL 204)),(5,.c hI),(32,.c hB)],[],[]⟩ (.o)) (.o))) (.two (.o) (.two (.two (.o) (.one (.loop ⟨sO 70 [(6,.c (.row 67)),(51,.c (hL 204)),(52,.c hI),(53,.c hI)],[],[(67,116)]⟩ [(.exit 0,⟨sO 70 [(6,.c (.row 67))],[],[(67,116)]⟩)] (.o)))) (.o))))))
def c_qas(n:Nat):Cx:=cX [(182,⟨h_qc6,o_qc6,qc6 n⟩)] [] []
theorem d_qas(n:Nat)(x:Wvq.X T):denF (c_qas n) n Tryz.f120 p_qas Wvq Wyc x=qas n x:=by kernel_rfl
theorem s_qas(n:Nat):PCalls Tryz.prog Θ 120 ⟨Wvq,Wyc,qas n⟩:=
 Wac (C:=c_qas n) (n:=n) (p:=p_qas) (Wam mixed Wal ⟨s_qc6 n,trivial⟩ trivial trivial) Tryz.func120 (by kernel_rfl) (by kernel_rfl) (d_qas n) (by kernel_rfl)
def Wyd:Shape:=⟨sO 2 z20,[],[]⟩
def o_qan:LT10:=[(.ret,⟨sO 1 z38,[],[(0,116)]⟩)]
def qan(n:Nat)(x0:Int×LT12):Option (LT12):=(qaz n x0).bind fun y1=>(qas n (x0.1,y1)).bind fun y2=>some y2
def p_qan:Plan:=.o
def c_qan(n:Nat):Cx:=cX [(122,⟨Wse,Wvp,qaz n⟩),(120,⟨Wvq,Wyc,qas n⟩)] [] []
theorem d_qan(n:Nat)(x:Wyd.X T):denF (c_qan n) n Tryz.f107 p_qan Wyd o_qan x=qan n x:=by kernel_rfl
theorem s_qan(n:Nat):PCalls Tryz.prog Θ 107 ⟨Wyd,o_qan,qan n⟩:=
 Wac (C:=c_qan n) (n:=n) (p:=p_qan) (Wam mixed Wal ⟨s_qaz n,s_qas n,trivial⟩ trivial trivial) Tryz.func107 (by kernel_rfl) (by kernel_rfl) (d_qan n) (by kernel_rfl)
def h_qap:Shape:=⟨sO 3 [(0,.c hI),(1,.c (hL 116)),(2,.c hI)],[],[]⟩
def o_qap:LT10:=[(.ret,⟨sO 1 z38,[],[(0,116)]⟩)]
def qap(n:Nat)(x0:Int×LT12×Int):Option (LT12):=(Wao (Y:=(Int×LT12)) n (fun(x4:Int×Int×LT12×Int×Int×LT12)=>bif decide (x4.2.2.2.2.1 < x4.2.2.2.1)then bif inB x4.2.2.2.2.1 x4.2.2.1.length then (qam n (x4.1,atI (0,0) x4.2.2.1 x4.2.2.2.2.1)).bind fun y5=>(qay n (x4.2.1,mx x4.1 1)).bind fun y6=>let e0:=(wrap64 (y5.1+y6),y5.2)::[];bif fitB (x4.2.2.2.2.2.length+e0.length) 16 then some (.inl (x4.1,x4.2.1,x4.2.2.1,x4.2.2.2.1,wrap64 (x4.2.2.2.2.1+1),x4.2.2.2.2.2++e0)) else none else none else some (.inr (x4.1,x4.2.2.2.2.2))) (x0.1,x0.2.2,x0.2.1,((x0.2.1.length:Nat):Int),0,[])).bind fun(z7:Int×LT12)=>(qan n z7).bind fun y8=>some y8
def p_qap:Plan:=.two (.o) (.two (.o) (.two (.two (.o) (.one (.loop ⟨sO 36 [(0,.c hI),(2,.c hI),(7,.c (.row 31)),(10,.c (hL 116)),(11,.c hI),(12,.c hI)],[],[(31,116)]⟩ [(.exit 0,⟨sO 36 [(0,.c hI),(7,.c (.row 31))],[],[(31,116)]⟩)] (.o)))) (.o)))
def c_qap(n:Nat):Cx:=cX [(124,⟨Wy5,o_qay,qay n⟩),(123,⟨Wsi,Wvz,qam n⟩),(107,⟨Wyd,o_qan,qan n⟩)] [] []
theorem d_qap(n:Nat)(x:h_qap.X T):denF (c_qap n) n Tryz.f66 p_qap h_qap o_qap x=qap n x:=by kernel_rfl
theorem s_qap(n:Nat):PCalls Tryz.prog Θ 66 ⟨h_qap,o_qap,qap n⟩:=
 Wac (C:=c_qap n) (n:=n) (p:=p_qap) (Wam mixed Wal ⟨s_qay n,s_qam n,s_qan n,trivial⟩ trivial trivial) Tryz.func66 (by kernel_rfl) (by kernel_rfl) (d_qap n) (by kernel_rfl)
def Wye:Shape:=⟨sO 2 [(0,.c (hL 204)),(1,.c (hL 204))],[],[]⟩
def o_qau:LT10:=[(.ret,⟨sO 1 z38,[],[(0,204)]⟩)]
def qau(n:Nat)(x0:LT12×LT12):Option (LT12):=(Wao (Y:=LT12) n (fun(x6:LT12×LT12×LT12)=>letJ (fun(x7:LT12×LT12×Bool×LT12)=>let e0:=inB 0 x7.1.length;let e1:=inB 0 x7.2.1.length;let e2:=atI (0,0) x7.1 0;let e3:=atI (0,0) x7.2.1 0;let e4:=mx e2.1 e3.1;let e5:=mn e2.2 e3.2;let e6:=(e4,e5)::[];bif x7.2.2.1 then bif e0 then bif e1 then bif e0 then bif e1 then letJ (fun(x9:LT12×LT12×LT12)=>let e7:=x9.1.length;let e8:=x9.2.1.length;bif inB 0 e7 then bif inB 0 e8 then bif decide ((atI (0,0) x9.1 0).2 < (atI (0,0) x9.2.1 0).2)then bif Wed (some 1) none e7 then some (.inl (Wb6 (some 1) none x9.1,x9.2)) else none else bif Wed (some 1) none e8 then some (.inl (x9.1,Wb6 (some 1) none x9.2.1,x9.2.2)) else none else none else none) fun J10=>bif decide (e4 < e5)then bif fitB (x7.2.2.2.length+e6.length) 16 then J10 (x7.1,x7.2.1,x7.2.2.2++e6) else none else J10 (x7.1,x7.2.1,x7.2.2.2) else none else none else none else none else some (.inr x7.2.2.2)) fun J8=>bif decide (0 < ((x6.1.length:Nat):Int))then J8 (x6.1,x6.2.1,decide (0 < ((x6.2.1.length:Nat):Int)),x6.2.2) else J8 (x6.1,x6.2.1,false,x6.2.2)) (x0.1,x0.2,[])).bind fun(z11:LT12)=>some z11
def p_qau:Plan:=.two (.o) (.two (.o) (.two (.one (.loop ⟨sO 57 [(0,.c (hL 204)),(1,.c (hL 204)),(5,.c (.row 42))],[],[(42,204)]⟩ [(.exit 0,⟨sO 57 [(5,.c (.row 42))],[],[(42,204)]⟩)] (.two (.two (.join ⟨sO 57 [(0,.c (hL 204)),(1,.c (hL 204)),(5,.c (.row 42)),(15,.c hB)],[],[(42,204)]⟩ (.o)) (.o)) (.one (.two (.o) (.two (.join ⟨sO 57 [(0,.c (hL 204)),(1,.c (hL 204)),(5,.c (.row 42))],[],[(42,204)]⟩ (.o)) (.o))))))) (.o)))
def c_qau(n:Nat):Cx:=cX [] [] []
theorem d_qau(n:Nat)(x:Wye.X T):denF (c_qau n) n Tryz.f121 p_qau Wye o_qau x=qau n x:=by kernel_rfl
theorem s_qau(n:Nat):PCalls Tryz.prog Θ 121 ⟨Wye,o_qau,qau n⟩:=
 Wac (C:=c_qau n) (n:=n) (p:=p_qau) (Wam mixed Wal trivial trivial trivial) Tryz.func121 (by kernel_rfl) (by kernel_rfl) (d_qau n) (by kernel_rfl)
def h_qal:Shape:=⟨sO 3 [(0,.c hI),(1,.c (hL 116)),(2,.c (hL 116))],[],[]⟩
def o_qal:LT10:=[(.ret,⟨sO 1 z38,[],[(0,116)]⟩)]
def qal(n:Nat)(x0:Int×LT12×LT12):Option (LT12):=(qaz n (x0.1,x0.2.1)).bind fun y1=>(qaz n (x0.1,x0.2.2)).bind fun y2=>(qau n (y1,y2)).bind fun y3=>(qas n (x0.1,y3)).bind fun y4=>some y4
def p_qal:Plan:=.o
def c_qal(n:Nat):Cx:=cX [(122,⟨Wse,Wvp,qaz n⟩),(120,⟨Wvq,Wyc,qas n⟩),(121,⟨Wye,o_qau,qau n⟩)] [] []
theorem d_qal(n:Nat)(x:h_qal.X T):denF (c_qal n) n Tryz.f65 p_qal h_qal o_qal x=qal n x:=by kernel_rfl
theorem s_qal(n:Nat):PCalls Tryz.prog Θ 65 ⟨h_qal,o_qal,qal n⟩:=
 Wac (C:=c_qal n) (n:=n) (p:=p_qal) (Wam mixed Wal ⟨s_qaz n,s_qas n,s_qau n,trivial⟩ trivial trivial) Tryz.func65 (by kernel_rfl) (by kernel_rfl) (d_qal n) (by kernel_rfl)
def Wvr:Shape:=⟨sO 3 [(0,.agg zc1),(1,.agg zc2),(2,.c hB)],[],[]⟩
def Wyf:LT10:=[(.ret,⟨sO 2 [(0,.c (hL 116)),(1,.c hI)],[],[]⟩)]
def qab(n:Nat)(x0:Int×Int×Int×Int×Int×LT14×LT2×Int×Int×Int×(List (ByteArray×Int×(List Wai)×Int×Int))×Int×Int×Int×Int×Bool×Int×Bool):Option (LT12×Int):=let e0:=((x0.2.2.2.2.2.2.1.length:Nat):Int);(qeb n (x0.1,x0.2.1,x0.2.2.1,x0.2.2.2.1,x0.2.2.2.2.1,x0.2.2.2.2.2.1,x0.2.2.2.2.2.2.1,x0.2.2.2.2.2.2.2.1,x0.2.2.2.2.2.2.2.2.1)).bind fun y1=>bif !(y1.1==0)then some ([],1) else (qai n (x0.1,x0.2.1,x0.2.2.1,x0.2.2.2.1,x0.2.2.2.2.1,x0.2.2.2.2.2.1,x0.2.2.2.2.2.2.1,x0.2.2.2.2.2.2.2.1,x0.2.2.2.2.2.2.2.2.1,x0.2.2.2.2.2.2.2.2.2.1,x0.2.2.2.2.2.2.2.2.2.2.1,x0.2.2.2.2.2.2.2.2.2.2.2.1,x0.2.2.2.2.2.2.2.2.2.2.2.2.1,x0.2.2.2.2.2.2.2.2.2.2.2.2.2.1,x0.2.2.2.2.2.2.2.2.2.2.2.2.2.2.1,x0.2.2.2.2.2.2.2.2.2.2.2.2.2.2.2.1,x0.2.2.2.2.2.2.2.2.2.2.2.2.2.2.2.2.1)).bind fun y2=>bif !y2 then some ([],180) else bif e0==0 then some ([],0) else (qae n (x0.2.2.2.2.2.2.1,x0.2.2.2.2.2.2.2.2.2.2.2.2.2.2.2.2.2)).bind fun y3=>(Wao (Y:=LT12) n (fun(x4:Bool×LT12×LT2×Int×Int×Int×Int×Int×Int×Int×LT14×LT2×Int×Int×Int×(List (ByteArray×Int×(List Wai)×Int×Int))×Int×Int×Int×Int×Bool×Int×LIn)=>let e1:=atI (ByteArray.mk #[],ByteArray.mk #[],ByteArray.mk #[],0,0,0) x4.2.2.1 x4.2.2.2.2.1;let e2:=e1.2;bif decide (x4.2.2.2.2.1 < x4.2.2.2.1)then bif inB x4.2.2.2.2.1 x4.2.2.1.length then (qeh n (x4.2.2.2.2.2.1,x4.2.2.2.2.2.2.1,x4.2.2.2.2.2.2.2.1,x4.2.2.2.2.2.2.2.2.1,x4.2.2.2.2.2.2.2.2.2.1,x4.2.2.2.2.2.2.2.2.2.2.1,x4.2.2.2.2.2.2.2.2.2.2.2.1,x4.2.2.2.2.2.2.2.2.2.2.2.2.1,x4.2.2.2.2.2.2.2.2.2.2.2.2.2.1,e1.1)).bind fun y5=>letJ (fun(x6:Bool×LT12×Int×Int×ByteArray×LT2×Int×Int×Int×Int×Int×Int×Int×LT14×LT2×Int×Int×Int×(List (ByteArray×Int×(List Wai)×Int×Int))×Int×Int×Int×Int×Bool×Int×LIn)=>let e3:=atI (ByteArray.mk #[],[],[],[],[],[],0) x6.2.2.2.2.2.2.2.2.2.2.2.2.2.1 x6.2.2.2.1;let e4:=e3.2;let e5:=e3.2.2;let e6:=e3.2.2.2;let e7:=e3.2.2.2.2;let e8:=e3.2.2.2.2.2;let e9:=atI (ByteArray.mk #[],0,[],0,0) x6.2.2.2.2.2.2.2.2.2.2.2.2.2.2.2.2.2.2.1 x6.2.2.2.1;let e10:=e9.2;let e11:=e9.2.2;let e12:=e9.2.2.2;bif inB x6.2.2.2.1 x6.2.2.2.2.2.2.2.2.2.2.2.2.2.1.length then bif inB x6.2.2.2.1 x6.2.2.2.2.2.2.2.2.2.2.2.2.2.2.2.2.2.2.1.length then (qag n (e3.1,e3.2.1,e3.2.2.1,e3.2.2.2.1,e3.2.2.2.2.1,e3.2.2.2.2.2.1,e3.2.2.2.2.2.2,e9.1,e9.2.1,e9.2.2.1,e9.2.2.2.1,e9.2.2.2.2,x6.2.2.2.2.1)).bind fun y8=>bif inB x6.2.2.1 x6.2.2.2.2.2.2.2.2.2.2.2.2.2.2.2.2.2.2.2.2.2.2.2.2.2.length then (qap n (x6.2.2.2.2.2.2.2.2.2.2.2.2.2.2.2.2.2.1,y8::[],wrap64 (0 - (atI 0 x6.2.2.2.2.2.2.2.2.2.2.2.2.2.2.2.2.2.2.2.2.2.2.2.2.2 x6.2.2.1)))).bind fun y9=>(qal n (x6.2.2.2.2.2.2.2.2.2.2.2.2.2.2.2.2.2.1,x6.2.1,y9)).bind fun y10=>some (.inl (x6.1,y10,x6.2.2.2.2.2.1,x6.2.2.2.2.2.2.1,wrap64 (x6.2.2.2.2.2.2.2.1+1),x6.2.2.2.2.2.2.2.2)) else none else none else none) fun J7=>bif x4.1 then J7 (x4.1,x4.2.1,x4.2.2.2.2.1,y5,e1.2.2.1,x4.2.2) else J7 (x4.1,x4.2.1,x4.2.2.2.2.1,y5,e1.2.1,x4.2.2) else none else some (.inr x4.2.1)) (x0.2.2.2.2.2.2.2.2.2.2.2.2.2.2.2.2.2,(0,x0.2.2.2.2.2.2.2.2.2.1)::[],x0.2.2.2.2.2.2.1,e0,0,x0.1,x0.2.1,x0.2.2.1,x0.2.2.2.1,x0.2.2.2.2.1,x0.2.2.2.2.2.1,x0.2.2.2.2.2.2.1,x0.2.2.2.2.2.2.2.1,x0.2.2.2.2.2.2.2.2.1,x0.2.2.2.2.2.2.2.2.2.1,x0.2.2.2.2.2.2.2.2.2.2.1,x0.2.2.2.2.2.2.2.2.2.2.2.1,x0.2.2.2.2.2.2.2.2.2.2.2.2.1,x0.2.2.2.2.2.2.2.2.2.2.2.2.2.1,x0.2.2.2.2.2.2.2.2.2.2.2.2.2.2.1,x0.2.2.2.2.2.2.2.2.2.2.2.2.2.2.2.1,x0.2.2.2.2.2.2.2.2.2.2.2.2.2.2.2.2.1,y3)).bind fun(z11:LT12)=>some (z11,0)
def p_qab:Plan:=.two (.o) (.two (.o) (.two (.o) (.two (.o) (.two (.o) (.two (.two (.o) (.one (.loop ⟨sO 87 [(2,.c hB),(3,.c (.box 3 0)),(4,.c (.box 4 0)),(10,.c (hL 116)),(11,.c (.row 14100)),(43,.c (hL 78)),(44,.c hI),(45,.c hI)],z50,[(14100,2)]⟩ [(.exit 1,⟨sO 87 [(10,.c (hL 116))],[],[]⟩)] (.two (.o) (.two (.o) (.two (.one (.two (.o) (.two (.o) (.two (.o) (.two (.join ⟨sO 87 [(2,.c hB),(3,.c (.box 3 0)),(4,.c (.box 4 0)),(10,.c (hL 116)),(11,.c (.row 14100)),(12,.c hI),(14,.c hI),(15,.c hS),(43,.c (hL 78)),(44,.c hI),(45,.c hI)],z50,[(14100,2)]⟩ (.o)) (.o)))))) (.o))))))) (.o))))))
def c_qab(n:Nat):Cx:=cX [(44,⟨h_qeb,o_qeb,qeb n⟩),(63,⟨Wzh,o_qeh,qeh n⟩),(61,⟨h_qai,o_qai,qai n⟩),(62,⟨h_qae,o_qae,qae n⟩),(64,⟨h_qag,o_qag,qag n⟩),(66,⟨h_qap,o_qap,qap n⟩),(65,⟨h_qal,o_qal,qal n⟩)] [] []
theorem d_qab(n:Nat)(x:Wvr.X T):denF (c_qab n) n Tryz.f25 p_qab Wvr Wyf x=qab n x:=by kernel_rfl
theorem s_qab(n:Nat):PCalls Tryz.prog Θ 25 ⟨Wvr,Wyf,qab n⟩:=
 Wac (C:=c_qab n) (n:=n) (p:=p_qab) (Wam mixed Wal ⟨s_qeb n,s_qeh n,s_qai n,s_qae n,s_qag n,s_qap n,s_qal n,trivial⟩ trivial trivial) Tryz.func25 (by kernel_rfl) (by kernel_rfl) (d_qab n) (by kernel_rfl)
def h_qa2:Shape:=⟨sO 1 [(0,.c hI)],[],[]⟩
def o_qa2:LT10:=[(.ret,⟨sO 1 [(0,.c hB)],[],[]⟩)]
def qa2(n:Nat)(x0:Int):Option (Bool):=some (!(x0==x0))
def p_qa2:Plan:=.o
def c_qa2(n:Nat):Cx:=cX [] [] []
theorem d_qa2(n:Nat)(x:h_qa2.X T):denF (c_qa2 n) n Tryz.f174 p_qa2 h_qa2 o_qa2 x=qa2 n x:=by kernel_rfl
theorem s_qa2(n:Nat):PCalls Tryz.prog Θ 174 ⟨h_qa2,o_qa2,qa2 n⟩:=
 Wac (C:=c_qa2 n) (n:=n) (p:=p_qa2) (Wam mixed Wal trivial trivial trivial) Tryz.func174 (by kernel_rfl) (by kernel_rfl) (d_qa2 n) (by kernel_rfl)
def h_qa1:Shape:=⟨sO 2 z14,[],[]⟩
def o_qa1:LT10:=[(.ret,⟨sO 1 [(0,.c hI)],[],[]⟩)]
def qa1(n:Nat)(x0:Int×Int):Option (Int):=(qa2 n x0.1).bind fun y1=>(qa2 n x0.2).bind fun y2=>bif y1 then bif y2 then some 0 else some (-1) else bif y2 then some 1 else bif decide (x0.1 < x0.2)then some (-1) else bif decide (x0.2 < x0.1)then some 1 else some 0
def p_qa1:Plan:=.o
def c_qa1(n:Nat):Cx:=cX [(174,⟨h_qa2,o_qa2,qa2 n⟩)] [] []
theorem d_qa1(n:Nat)(x:h_qa1.X T):denF (c_qa1 n) n Tryz.f110 p_qa1 h_qa1 o_qa1 x=qa1 n x:=by kernel_rfl
theorem s_qa1(n:Nat):PCalls Tryz.prog Θ 110 ⟨h_qa1,o_qa1,qa1 n⟩:=
 Wac (C:=c_qa1 n) (n:=n) (p:=p_qa1) (Wam mixed Wal ⟨s_qa2 n,trivial⟩ trivial trivial) Tryz.func110 (by kernel_rfl) (by kernel_rfl) (d_qa1 n) (by kernel_rfl)
def h_qar:Shape:=⟨sO 2 [(0,.agg [hI,hI]),(1,.agg [hI,hI])],[],[]⟩
def o_qar:LT10:=[(.ret,⟨sO 1 [(0,.c hI)],[],[]⟩)]
def qar(n:Nat)(x0:Int×T20):Option (Int):=(qa1 n (x0.2.1,x0.2.2.2)).bind fun y1=>some y1
def p_qar:Plan:=.o
def c_qar(n:Nat):Cx:=cX [(110,⟨h_qa1,o_qa1,qa1 n⟩)] [] []
theorem d_qar(n:Nat)(x:h_qar.X T):denF (c_qar n) n Tryz.f109 p_qar h_qar o_qar x=qar n x:=by kernel_rfl
theorem s_qar(n:Nat):PCalls Tryz.prog Θ 109 ⟨h_qar,o_qar,qar n⟩:=
 Wac (C:=c_qar n) (n:=n) (p:=p_qar) (Wam mixed Wal ⟨s_qa1 n,trivial⟩ trivial trivial) Tryz.func109 (by kernel_rfl) (by kernel_rfl) (d_qar n) (by kernel_rfl)
def h_qdr:Shape:=⟨sO 2 [(0,.c (hL 116)),(1,.c (.fn 109 []))],[],[]⟩
def o_qdr:LT10:=[(.ret,⟨sO 1 z4,[],[]⟩)]
def qdr(n:Nat)(x0:LT12):Option (Int×Int):=let e0:=x0.length;bif decide (((e0:Nat):Int) < 1)then none else bif inB 0 e0 then (Wao (Y:=(Int×Int×Int×Int)) n (fun(x1:LT12×Int×Int×T20)=>let e1:=x1.1.length;let e2:=inB x1.2.1 e1;let e3:=atI (0,0) x1.1 x1.2.1;let e4:=wrap64 (x1.2.1+1);bif decide (x1.2.1 < ((e1:Nat):Int))then bif e2 then (qar n (e3.1,e3.2,x1.2.2.2.2)).bind fun y2=>bif decide (0 < y2)then bif e2 then some (.inl (x1.1,e4,x1.2.2.1,x1.2.2.2.1,e3)) else none else some (.inl (x1.1,e4,x1.2.2)) else none else some (.inr x1.2.2)) (x0,1,0,0,atI (0,0) x0 0)).bind fun(z3:Int×T20)=>some z3.2.2 else none
def p_qdr:Plan:=.two (.o) (.two (.o) (.two (.o) (.two (.two (.o) (.one (.loop ⟨sO 33 [(0,.c (hL 116)),(1,.c (.fn 109 [])),(4,.c (.box 4 0)),(5,.c (.box 5 0)),(6,.c hI)],[(4,116,[hI,hI]),(5,116,[hI,hI])],[]⟩ [(.exit 0,⟨sO 33 [(4,.c (.box 4 0)),(5,.c (.box 5 0))],[(4,116,[hI,hI]),(5,116,[hI,hI])],[]⟩)] (.o)))) (.o))))
def c_qdr(n:Nat):Cx:=cX [(109,⟨h_qar,o_qar,qar n⟩)] [] []
theorem d_qdr(n:Nat)(x:h_qdr.X T):denF (c_qdr n) n Tryz.f108 p_qdr h_qdr o_qdr x=qdr n x:=by kernel_rfl
theorem s_qdr(n:Nat):PCalls Tryz.prog Θ 108 ⟨h_qdr,o_qdr,qdr n⟩:=
 Wac (C:=c_qdr n) (n:=n) (p:=p_qdr) (Wam mixed Wal ⟨s_qar n,trivial⟩ trivial trivial) Tryz.func108 (by kernel_rfl) (by kernel_rfl) (d_qdr n) (by kernel_rfl)
def h_qaq:Shape:=⟨sO 2 z20,[],[]⟩
def o_qaq:LT10:=[(.ret,⟨sO 1 z4,[],[]⟩)]
def qaq(n:Nat)(x0:Int×LT12):Option (Int×Int):=(qan n x0).bind fun y1=>bif ((y1.length:Nat):Int)==0 then some (0,0) else (qdr n y1).bind fun y2=>some y2
def p_qaq:Plan:=.o
def c_qaq(n:Nat):Cx:=cX [(107,⟨Wyd,o_qan,qan n⟩),(108,⟨h_qdr,o_qdr,qdr n⟩)] [] []
theorem d_qaq(n:Nat)(x:h_qaq.X T):denF (c_qaq n) n Tryz.f59 p_qaq h_qaq o_qaq x=qaq n x:=by kernel_rfl
theorem s_qaq(n:Nat):PCalls Tryz.prog Θ 59 ⟨h_qaq,o_qaq,qaq n⟩:=
 Wac (C:=c_qaq n) (n:=n) (p:=p_qaq) (Wam mixed Wal ⟨s_qan n,s_qdr n,trivial⟩ trivial trivial) Tryz.func59 (by kernel_rfl) (by kernel_rfl) (d_qaq n) (by kernel_rfl)
def h_qad:Shape:=⟨sO 4 [(0,.c hB),(1,.c (.box 1000000 0)),(2,.c (.box 1000001 0)),(3,.c (.box 1000002 0))],[(1000000,39,[hI]),(1000001,27,zc1),(1000002,32,zc2)],[]⟩
def o_qad:LT10:=[(.ret,⟨sO 1 z4,[(1000000,39,[hI]),(1000001,27,zc1),(1000002,32,zc2)],[]⟩)]
def qad(n:Nat)(x0:Bool×Int×Int×Int×Int×Int×Int×LT14×LT2×Int×Int×Int×(List (ByteArray×Int×(List Wai)×Int×Int))×T17):Option (Int×Int×Int×Int×Int×Int×Int×Int×LT14×LT2×Int×Int×Int×(List (ByteArray×Int×(List Wai)×Int×Int))×T17):=bif !(x0.2.1==0)then some (0,0,x0.2) else (qab n (x0.2.2.1,x0.2.2.2.1,x0.2.2.2.2.1,x0.2.2.2.2.2.1,x0.2.2.2.2.2.2.1,x0.2.2.2.2.2.2.2.1,x0.2.2.2.2.2.2.2.2.1,x0.2.2.2.2.2.2.2.2.2.1,x0.2.2.2.2.2.2.2.2.2.2.1,x0.2.2.2.2.2.2.2.2.2.2.2.1,x0.2.2.2.2.2.2.2.2.2.2.2.2.1,x0.2.2.2.2.2.2.2.2.2.2.2.2.2.1,x0.2.2.2.2.2.2.2.2.2.2.2.2.2.2.1,x0.2.2.2.2.2.2.2.2.2.2.2.2.2.2.2.1,x0.2.2.2.2.2.2.2.2.2.2.2.2.2.2.2.2.1,x0.2.2.2.2.2.2.2.2.2.2.2.2.2.2.2.2.2.1,x0.2.2.2.2.2.2.2.2.2.2.2.2.2.2.2.2.2.2,x0.1)).bind fun y1=>(qaq n (x0.2.2.2.2.2.2.2.2.2.2.2.1,y1.1)).bind fun y2=>some (y2.1,y2.2,y1.2,x0.2.2)
def p_qad:Plan:=.o
def c_qad(n:Nat):Cx:=cX [(25,⟨Wvr,Wyf,qab n⟩),(59,⟨h_qaq,o_qaq,qaq n⟩)] [] []
theorem d_qad(n:Nat)(x:h_qad.X T):denF (c_qad n) n Tryz.f58 p_qad h_qad o_qad x=qad n x:=by kernel_rfl
theorem s_qad(n:Nat):PCalls Tryz.prog Θ 58 ⟨h_qad,o_qad,qad n⟩:=
 Wac (C:=c_qad n) (n:=n) (p:=p_qad) (Wam mixed Wal ⟨s_qab n,s_qaq n,trivial⟩ trivial trivial) Tryz.func58 (by kernel_rfl) (by kernel_rfl) (d_qad n) (by kernel_rfl)
def Wyg:Shape:=⟨sO 2 z34,[],[]⟩
def o_qac:LT10:=[(.ret,⟨sO 3 [(0,.agg [hI,hI]),(1,.agg [hI,hI]),(2,.c hI)],[],[]⟩)]
def qac(n:Nat)(x0:Int×Int×Int×Int×Int×LT14×LT2×Int×Int×Int×(List (ByteArray×Int×(List Wai)×Int×Int))×T17):Option (Int×Int×T20):=(qad n (false,0,x0)).bind fun y1=>(qad n (true,y1.2.2)).bind fun y2=>bif !(y2.2.2.1==0)then some (0,0,0,0,y2.2.2.1) else some (y1.1,y1.2.1,y2.1,y2.2.1,0)
def p_qac:Plan:=.o
def c_qac(n:Nat):Cx:=cX [(58,⟨h_qad,o_qad,qad n⟩)] [] []
theorem d_qac(n:Nat)(x:Wyg.X T):denF (c_qac n) n Tryz.f23 p_qac Wyg o_qac x=qac n x:=by kernel_rfl
theorem s_qac(n:Nat):PCalls Tryz.prog Θ 23 ⟨Wyg,o_qac,qac n⟩:=
 Wac (C:=c_qac n) (n:=n) (p:=p_qac) (Wam mixed Wal ⟨s_qad n,trivial⟩ trivial trivial) Tryz.func23 (by kernel_rfl) (by kernel_rfl) (d_qac n) (by kernel_rfl)
def Wvs:Shape:=⟨sO 2 [(0,.agg zc1),(1,.c hS)],[],[]⟩
def Wyh:LT10:=[(.ret,⟨sO 1 [(0,.c hI)],[],[]⟩)]
def qcc(n:Nat)(x0:Int×Int×Int×Int×Int×LT14×LT2×Int×Int×ByteArray):Option (Int):=(Wao (Y:=(Int) ⊕ (Unit)) n (fun(x1:ByteArray×Int×T18)=>let e0:=x1.2.2.2.2.2.2.2.1.length;bif decide (x1.2.1 < ((e0:Nat):Int))then bif inB x1.2.1 e0 then bif Wak (atI (ByteArray.mk #[],[],[],[],[],[],0) x1.2.2.2.2.2.2.2.1 x1.2.1).1 x1.1 then some (.inr (.inl x1.2.1)) else some (.inl (x1.1,wrap64 (x1.2.1+1),x1.2.2)) else none else some (.inr (.inr ()))) (x0.2.2.2.2.2.2.2.2.2,0,x0.1,x0.2.1,x0.2.2.1,x0.2.2.2.1,x0.2.2.2.2.1,x0.2.2.2.2.2.1,x0.2.2.2.2.2.2.1,x0.2.2.2.2.2.2.2.1,x0.2.2.2.2.2.2.2.2.1)).bind (Sum.elim (fun(z2:Int)=>some z2) (fun(z3:Unit)=>some (-1)))
def p_qcc:Plan:=.two (.o) (.two (.two (.o) (.one (.loop ⟨sO 22 z45,[(2,27,zc1)],[]⟩ [(.ret,⟨sO 22 [(4,.c hI)],[],[]⟩),(.exit 0,⟨sO 22 [],[],[]⟩)] (.o)))) (.o))
def c_qcc(n:Nat):Cx:=cX [] [] []
theorem d_qcc(n:Nat)(x:Wvs.X T):denF (c_qcc n) n Tryz.f38 p_qcc Wvs Wyh x=qcc n x:=by kernel_rfl
theorem s_qcc(n:Nat):PCalls Tryz.prog Θ 38 ⟨Wvs,Wyh,qcc n⟩:=
 Wac (C:=c_qcc n) (n:=n) (p:=p_qcc) (Wam mixed Wal trivial trivial trivial) Tryz.func38 (by kernel_rfl) (by kernel_rfl) (d_qcc n) (by kernel_rfl)
def Wps:Shape:=⟨sO 2 z62,[],[]⟩
def Wsf:LT10:=[(.ret,⟨sO 1 [(0,.c hI)],[],[]⟩)]
def qca(n:Nat)(x0:T25):Option (Int):=(Wao (Y:=(Int) ⊕ (Unit)) n (fun(x1:ByteArray×Int×T15)=>let e0:=x1.2.2.2.1.length;bif decide (x1.2.1 < ((e0:Nat):Int))then bif inB x1.2.1 e0 then bif Wak (atI (ByteArray.mk #[],0,0,0,0,0,0,0,0,0,0) x1.2.2.2.1 x1.2.1).1 x1.1 then some (.inr (.inl x1.2.1)) else some (.inl (x1.1,wrap64 (x1.2.1+1),x1.2.2)) else none else some (.inr (.inr ()))) (x0.2.2.2.2.2.2.2,0,x0.1,x0.2.1,x0.2.2.1,x0.2.2.2.1,x0.2.2.2.2.1,x0.2.2.2.2.2.1,x0.2.2.2.2.2.2.1)).bind (Sum.elim (fun(z2:Int)=>some z2) (fun(z3:Unit)=>some (-1)))
def p_qca:Plan:=.two (.o) (.two (.two (.o) (.one (.loop ⟨sO 22 z45,[(2,89,zc0)],[]⟩ [(.ret,⟨sO 22 [(4,.c hI)],[],[]⟩),(.exit 0,⟨sO 22 [],[],[]⟩)] (.o)))) (.o))
def c_qca(n:Nat):Cx:=cX [] [] []
theorem d_qca(n:Nat)(x:Wps.X T):denF (c_qca n) n Tryz.f42 p_qca Wps Wsf x=qca n x:=by kernel_rfl
theorem Wyi(n:Nat):PCalls Tryz.prog Θ 42 ⟨Wps,Wsf,qca n⟩:=
 Wac (C:=c_qca n) (n:=n) (p:=p_qca) (Wam mixed Wal trivial trivial trivial) Tryz.func42 (by kernel_rfl) (by kernel_rfl) (d_qca n) (by kernel_rfl)
end
end Go.Proofs.YtalbenehgdkalaaGreat.Fn