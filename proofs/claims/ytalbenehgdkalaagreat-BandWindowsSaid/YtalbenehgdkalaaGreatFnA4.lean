/- Texts of the proof. -/
import Derived.Test.YtalbenehgdkalaaGreatFnA3
namespace Go.Proofs.YtalbenehgdkalaaGreat.Fn
set_option maxRecDepth 100000
noncomputable section
open Go Go.RowKit Go.Den
def h_qev:Shape:=⟨sO 2 z34,[],[]⟩
def o_qev:LT10:=[(.ret,⟨sO 1 [(0,.c hB)],[],[]⟩)]
def qev(n:Nat)(x0:Int×Int×Int×Int×Int×LT14×LT2×Int×Int×Int×(List (ByteArray×Int×(List Wai)×Int×Int))×T17):Option (Bool):=(qeb n (x0.1,x0.2.1,x0.2.2.1,x0.2.2.2.1,x0.2.2.2.2.1,x0.2.2.2.2.2.1,x0.2.2.2.2.2.2.1,x0.2.2.2.2.2.2.2.1,x0.2.2.2.2.2.2.2.2.1)).bind fun y1=>bif !(y1.1==0)then some false else (qdg n (x0.2.2.2.2.2.1,x0.2.2.2.2.2.2.2.2.2.2.1)).bind fun y2=>some y2
def p_qev:Plan:=.o
def c_qev(n:Nat):Cx:=cX [(44,⟨h_qeb,o_qeb,qeb n⟩),(45,⟨h_qdg,o_qdg,qdg n⟩)] [] []
theorem d_qev(n:Nat)(x:h_qev.X T):denF (c_qev n) n Tryz.f15 p_qev h_qev o_qev x=qev n x:=by kernel_rfl
theorem s_qev(n:Nat):PCalls Tryz.prog Θ 15 ⟨h_qev,o_qev,qev n⟩:=
 Wac (C:=c_qev n) (n:=n) (p:=p_qev) (Wam mixed Wal ⟨s_qeb n,s_qdg n,trivial⟩ trivial trivial) Tryz.func15 (by kernel_rfl) (by kernel_rfl) (d_qev n) (by kernel_rfl)
def h_qaj:Shape:=⟨sO 2 [(0,.agg zc3),(1,.c (.box 1000000 0))],z43,[]⟩
def o_qaj:LT10:=[(.ret,⟨sO 1 [(0,.c hB)],z43,[]⟩)]
def qaj(n:Nat)(x0:ByteArray×Int×(List Wai)×Int×Int×Int×(List (ByteArray×Int×(List Wai)×Int×Int))×T17):Option (Bool×Int×(List (ByteArray×Int×(List Wai)×Int×Int))×T17):=(qdw n (x0.1,x0.2.1,x0.2.2.1,x0.2.2.2.1,x0.2.2.2.2.1)).bind fun y1=>some (!(y1==x0.2.2.2.2.2.1),x0.2.2.2.2.2)
def p_qaj:Plan:=.o
def c_qaj(n:Nat):Cx:=cX [(96,⟨Wv1,Wzc,qdw n⟩)] [] []
theorem d_qaj(n:Nat)(x:h_qaj.X T):denF (c_qaj n) n Tryz.f113 p_qaj h_qaj o_qaj x=qaj n x:=by kernel_rfl
theorem s_qaj(n:Nat):PCalls Tryz.prog Θ 113 ⟨h_qaj,o_qaj,qaj n⟩:=
 Wac (C:=c_qaj n) (n:=n) (p:=p_qaj) (Wam mixed Wal ⟨s_qdw n,trivial⟩ trivial trivial) Tryz.func113 (by kernel_rfl) (by kernel_rfl) (d_qaj n) (by kernel_rfl)
def h_qdi:Shape:=⟨sO 2 [(0,.c (hL 53)),(1,.c (.fn 113 [1000000]))],z43,[]⟩
def o_qdi:LT10:=[(.ret,⟨sO 1 [(0,.c hI)],z43,[]⟩)]
def qdi(n:Nat)(x0:(List (ByteArray×Int×(List Wai)×Int×Int))×Int×(List (ByteArray×Int×(List Wai)×Int×Int))×T17):Option (Int×Int×(List (ByteArray×Int×(List Wai)×Int×Int))×T17):=(Wao (Y:=(Int×Int×(List (ByteArray×Int×(List Wai)×Int×Int))×Int×Int×Int×Int×Bool×Int) ⊕ (Int×(List (ByteArray×Int×(List Wai)×Int×Int))×Int×Int×Int×Int×Bool×Int)) n (fun(x1:(List (ByteArray×Int×(List Wai)×Int×Int))×Int×Int×Int×(List (ByteArray×Int×(List Wai)×Int×Int))×T17)=>let e0:=atI (ByteArray.mk #[],0,[],0,0) x1.1 x1.2.2.1;let e1:=e0.2;let e2:=e0.2.2;let e3:=e0.2.2.2;bif decide (x1.2.2.1 < x1.2.1)then bif inB x1.2.2.1 x1.1.length then (qaj n (e0.1,e0.2.1,e0.2.2.1,e0.2.2.2.1,e0.2.2.2.2,x1.2.2.2)).bind fun y2=>bif y2.1 then some (.inr (.inl (x1.2.2.1,y2.2))) else some (.inl (x1.1,x1.2.1,wrap64 (x1.2.2.1+1),y2.2)) else none else some (.inr (.inr x1.2.2.2))) (x0.1,((x0.1.length:Nat):Int),0,x0.2)).bind (Sum.elim (fun(z3:Int×Int×(List (ByteArray×Int×(List Wai)×Int×Int))×T17)=>some z3) (fun(z4:Int×(List (ByteArray×Int×(List Wai)×Int×Int))×T17)=>some ((-1),z4)))
def p_qdi:Plan:=.two (.o) (.two (.two (.o) (.one (.loop ⟨sO 19 [(0,.c (hL 53)),(1,.c (.fn 113 [1000000])),(7,.c hI),(8,.c hI)],z43,[]⟩ [(.ret,⟨sO 19 [(4,.c hI)],z43,[]⟩),(.exit 0,⟨sO 19 [],z43,[]⟩)] (.o)))) (.o))
def c_qdi(n:Nat):Cx:=cX [(113,⟨h_qaj,o_qaj,qaj n⟩)] [] []
theorem d_qdi(n:Nat)(x:h_qdi.X T):denF (c_qdi n) n Tryz.f176 p_qdi h_qdi o_qdi x=qdi n x:=by kernel_rfl
theorem s_qdi(n:Nat):PCalls Tryz.prog Θ 176 ⟨h_qdi,o_qdi,qdi n⟩:=
 Wac (C:=c_qdi n) (n:=n) (p:=p_qdi) (Wam mixed Wal ⟨s_qaj n,trivial⟩ trivial trivial) Tryz.func176 (by kernel_rfl) (by kernel_rfl) (d_qdi n) (by kernel_rfl)
def h_qc8:Shape:=⟨sO 2 [(0,.c (hL 53)),(1,.c (.fn 113 [1000000]))],z43,[]⟩
def o_qc8:LT10:=[(.ret,⟨sO 1 [(0,.c hB)],z43,[]⟩)]
def qc8(n:Nat)(x0:(List (ByteArray×Int×(List Wai)×Int×Int))×Int×(List (ByteArray×Int×(List Wai)×Int×Int))×T17):Option (Bool×Int×(List (ByteArray×Int×(List Wai)×Int×Int))×T17):=(qdi n x0).bind fun y1=>some (decide (0≤y1.1),y1.2)
def p_qc8:Plan:=.o
def c_qc8(n:Nat):Cx:=cX [(176,⟨h_qdi,o_qdi,qdi n⟩)] [] []
theorem d_qc8(n:Nat)(x:h_qc8.X T):denF (c_qc8 n) n Tryz.f112 p_qc8 h_qc8 o_qc8 x=qc8 n x:=by kernel_rfl
theorem s_qc8(n:Nat):PCalls Tryz.prog Θ 112 ⟨h_qc8,o_qc8,qc8 n⟩:=
 Wac (C:=c_qc8 n) (n:=n) (p:=p_qc8) (Wam mixed Wal ⟨s_qdi n,trivial⟩ trivial trivial) Tryz.func112 (by kernel_rfl) (by kernel_rfl) (d_qc8 n) (by kernel_rfl)
def h_qai:Shape:=⟨sO 2 z34,[],[]⟩
def o_qai:LT10:=[(.ret,⟨sO 1 [(0,.c hB)],[],[]⟩)]
def qai(n:Nat)(x0:Int×Int×Int×Int×Int×LT14×LT2×Int×Int×Int×(List (ByteArray×Int×(List Wai)×Int×Int))×T17):Option (Bool):=(qev n x0).bind fun y1=>bif y1 then (qc8 n (x0.2.2.2.2.2.2.2.2.2.2.1,x0.2.2.2.2.2.2.2.2.2)).bind fun y2=>some (!y2.1) else some false
def p_qai:Plan:=.o
def c_qai(n:Nat):Cx:=cX [(15,⟨h_qev,o_qev,qev n⟩),(112,⟨h_qc8,o_qc8,qc8 n⟩)] [] []
theorem d_qai(n:Nat)(x:h_qai.X T):denF (c_qai n) n Tryz.f61 p_qai h_qai o_qai x=qai n x:=by kernel_rfl
theorem s_qai(n:Nat):PCalls Tryz.prog Θ 61 ⟨h_qai,o_qai,qai n⟩:=
 Wac (C:=c_qai n) (n:=n) (p:=p_qai) (Wam mixed Wal ⟨s_qev n,s_qc8 n,trivial⟩ trivial trivial) Tryz.func61 (by kernel_rfl) (by kernel_rfl) (d_qai n) (by kernel_rfl)
def h_qc5:Shape:=⟨sO 1 [(0,.c (hL 78))],[],[]⟩
def o_qc5:LT10:=[(.ret,⟨sO 1 [(0,.c (.fn 177 [0]))],[(0,25,[hL 78])],[]⟩)]
def qc5(n:Nat)(x0:LT2):Option (LT2):=some x0
def p_qc5:Plan:=.o
def c_qc5(n:Nat):Cx:=cX [] [] []
theorem d_qc5(n:Nat)(x:h_qc5.X T):denF (c_qc5 n) n Tryz.f114 p_qc5 h_qc5 o_qc5 x=qc5 n x:=by kernel_rfl
theorem s_qc5(n:Nat):PCalls Tryz.prog Θ 114 ⟨h_qc5,o_qc5,qc5 n⟩:=
 Wac (C:=c_qc5 n) (n:=n) (p:=p_qc5) (Wam mixed Wal trivial trivial trivial) Tryz.func114 (by kernel_rfl) (by kernel_rfl) (d_qc5 n) (by kernel_rfl)
def h_qaf:Shape:=⟨sO 4 [(0,.c hI),(1,.agg zc7),(2,.c (.box 1000000 0)),(3,.c (.box 1000001 0))],[(1000000,35,[.row 1000000]),(1000001,2,[hI])],[(1000000,2)]⟩
def o_qaf:LT10:=[(.ret,⟨sO 1 [(0,.c hB)],[(1000000,35,[.row 1000000]),(1000001,2,[hI])],[(1000000,2)]⟩)]
def R_620:Rng:=rng Tryz.f62 0 [5,6]
def Wsh:Prop:=Θ.Y 620=some R_620
def qaf(n:Nat)(x0:Int×ByteArray×ByteArray×ByteArray×Int×Int×Int×Int×LIn):Option (Bool×Int×LIn):=bif inB x0.1 x0.2.2.2.2.2.2.2.2.length then some (true,wrap64 (x0.2.2.2.2.2.2.2.1+x0.2.2.2.2.2.1),List.set x0.2.2.2.2.2.2.2.2 (Int.toNat x0.1) x0.2.2.2.2.2.2.2.1) else none
def p_qaf:Plan:=.o
def c_qaf(n:Nat):Cx:=cX [] [] []
theorem d_qaf(n:Nat)(x:h_qaf.X T):denY (c_qaf n) n R_620 p_qaf h_qaf o_qaf x=qaf n x:=by kernel_rfl
theorem Wt5:Wsh:=by unfold Wsh;kernel_rfl
theorem s_qaf(n:Nat):PYields Tryz.prog Θ 620 ⟨h_qaf,o_qaf,qaf n⟩:=
 Wpk (C:=c_qaf n) (n:=n) (R:=R_620) (p:=p_qaf) (Wam mixed Wal trivial trivial trivial) Wt5 (by kernel_rfl) (by kernel_rfl) (by kernel_rfl) (by kernel_rfl) (d_qaf n)
def h_qc4:Shape:=⟨sO 2 [(0,.yld 620 [.c (.box 1000000 0),.c (.box 1000001 0)]),(1,.c (.box 1000002 0))],z11,[(1000000,2)]⟩
def o_qc4:LT10:=[(.ret,⟨sO 0 [],z11,[(1000000,2)]⟩)]
def qc4(n:Nat)(x0:Int×LT2×LIn):Option (Int×LT2×LIn):=(Wao (Y:=(Int×LT2×LIn) ⊕ (Int×LT2×LIn)) n (fun(x1:Int×Int×LT2×LIn)=>let e0:=atI (ByteArray.mk #[],ByteArray.mk #[],ByteArray.mk #[],0,0,0) x1.2.2.1 x1.1;let e1:=e0.2;let e2:=e0.2.2;let e3:=e0.2.2.2;let e4:=e0.2.2.2.2;bif decide (0≤x1.1)then bif inB x1.1 x1.2.2.1.length then (qaf n (x1.1,e0.1,e0.2.1,e0.2.2.1,e0.2.2.2.1,e0.2.2.2.2.1,e0.2.2.2.2.2,x1.2.1,x1.2.2.2)).bind fun y2=>bif !y2.1 then some (.inr (.inl (y2.2.1,x1.2.2.1,y2.2.2))) else some (.inl (wrap64 (x1.1 - 1),y2.2.1,x1.2.2.1,y2.2.2)) else none else some (.inr (.inr x1.2))) (wrap64 (((x0.2.1.length:Nat):Int) - 1),x0)).bind (Sum.elim (fun(z3:Int×LT2×LIn)=>some z3) (fun(z4:Int×LT2×LIn)=>some z4))
def p_qc4:Plan:=.two (.o) (.one (.loop ⟨sO 19 [(0,.yld 620 [.c (.box 1000000 0),.c (.box 1000001 0)]),(1,.c (.box 1000002 0)),(3,.c hI)],z11,[(1000000,2)]⟩ [(.ret,⟨sO 19 [],z11,[(1000000,2)]⟩),(.exit 0,⟨sO 19 [],z11,[(1000000,2)]⟩)] (.o)))
def c_qc4(n:Nat):Cx:=cX [] [(620,⟨h_qaf,o_qaf,qaf n⟩)] []
theorem d_qc4(n:Nat)(x:h_qc4.X T):denF (c_qc4 n) n Tryz.f177 p_qc4 h_qc4 o_qc4 x=qc4 n x:=by kernel_rfl
theorem s_qc4(n:Nat):PCalls Tryz.prog Θ 177 ⟨h_qc4,o_qc4,qc4 n⟩:=
 Wac (C:=c_qc4 n) (n:=n) (p:=p_qc4) (Wam mixed Wal trivial ⟨s_qaf n,trivial⟩ trivial) Tryz.func177 (by kernel_rfl) (by kernel_rfl) (d_qc4 n) (by kernel_rfl)
def h_qae:Shape:=⟨sO 2 [(0,.c (hL 78)),(1,.c hB)],[],[]⟩
def o_qae:LT10:=[(.ret,⟨sO 1 z38,[],[(0,2)]⟩)]
def qae(n:Nat)(x0:LT2×Bool):Option (List Int):=let e0:=((x0.1.length:Nat):Int);bif e0==e0&&decide (0≤e0)&&decide (e0 * 8≤281474976710656)then bif !x0.2 then (Wao (Y:=LIn) n (fun(x1:LT2×Int×Int×Int×LIn)=>let e1:=wrap64 (x1.2.2.2.1+(atI (ByteArray.mk #[],ByteArray.mk #[],ByteArray.mk #[],0,0,0) x1.1 x1.2.2.1).2.2.2.1);bif decide (x1.2.2.1 < x1.2.1)then bif inB x1.2.2.1 x1.1.length then bif inB x1.2.2.1 x1.2.2.2.2.length then some (.inl (x1.1,x1.2.1,wrap64 (x1.2.2.1+1),e1,List.set x1.2.2.2.2 (Int.toNat x1.2.2.1) e1)) else none else none else some (.inr x1.2.2.2.2)) (x0.1,e0,0,0,List.replicate (Int.toNat e0) 0)).bind fun(z2:List Int)=>some z2 else (qc5 n x0.1).bind fun y3=>ifY Wsh ((qc4 n (0,y3,List.replicate (Int.toNat e0) 0)).bind fun y4=>some y4.2.2) else none
def p_qae:Plan:=.two (.o) (.two (.o) (.two (.o) (.two (.two (.o) (.two (.two (.two (.o) (.one (.loop ⟨sO 46 [(5,.c (.box 5 0)),(6,.c (.box 6 0)),(16,.c (hL 78)),(17,.c hI),(18,.c hI)],[(5,35,[.row 13]),(6,2,[hI])],[(13,2)]⟩ [(.exit 0,⟨sO 46 [(5,.c (.box 5 0))],[(5,35,[.row 13])],[(13,2)]⟩)] (.o)))) (.o)) (.o))) (.two (.two (.o) (.one (.range 620 [5,6]))) (.o)))))
def c_qae(n:Nat):Cx:=cX [(114,⟨h_qc5,o_qc5,qc5 n⟩),(177,⟨h_qc4,o_qc4,qc4 n⟩)] [] []
theorem d_qae(n:Nat)(x:h_qae.X T):denF (c_qae n) n Tryz.f62 p_qae h_qae o_qae x=qae n x:=by kernel_rfl
theorem s_qae(n:Nat):PCalls Tryz.prog Θ 62 ⟨h_qae,o_qae,qae n⟩:=
 Wac (C:=c_qae n) (n:=n) (p:=p_qae) (Wam mixed Wal ⟨s_qc5 n,s_qc4 n,trivial⟩ trivial trivial) Tryz.func62 (by kernel_rfl) (by kernel_rfl) (d_qae n) (by kernel_rfl)
def h_qex:Shape:=⟨sO 2 z14,[],[]⟩
def o_qex:LT10:=[(.ret,⟨sO 2 z14,[],[]⟩)]
def qex(n:Nat)(x0:Int×Int):Option (Int×Int):=let e0:=Int.tmod x0.1 x0.2;bif decide (x0.2 < 1)then some (0,1) else bif !(x0.2==0)then bif decide (e0 < 0)then some (wrap64 (e0+x0.2),0) else some (e0,0) else none
def p_qex:Plan:=.o
def c_qex(n:Nat):Cx:=cX [] [] []
theorem d_qex(n:Nat)(x:h_qex.X T):denF (c_qex n) n Tryz.f186 p_qex h_qex o_qex x=qex n x:=by kernel_rfl
theorem s_qex(n:Nat):PCalls Tryz.prog Θ 186 ⟨h_qex,o_qex,qex n⟩:=
 Wac (C:=c_qex n) (n:=n) (p:=p_qex) (Wam mixed Wal trivial trivial trivial) Tryz.func186 (by kernel_rfl) (by kernel_rfl) (d_qex n) (by kernel_rfl)
def Wy5:Shape:=⟨sO 2 z14,[],[]⟩
def o_qay:LT10:=[(.ret,⟨sO 1 [(0,.c hI)],[],[]⟩)]
def qay(n:Nat)(x0:Int×Int):Option (Int):=(qex n x0).bind fun y1=>some y1.1
def p_qay:Plan:=.o
def c_qay(n:Nat):Cx:=cX [(186,⟨h_qex,o_qex,qex n⟩)] [] []
theorem d_qay(n:Nat)(x:Wy5.X T):denF (c_qay n) n Tryz.f124 p_qay Wy5 o_qay x=qay n x:=by kernel_rfl
theorem s_qay(n:Nat):PCalls Tryz.prog Θ 124 ⟨Wy5,o_qay,qay n⟩:=
 Wac (C:=c_qay n) (n:=n) (p:=p_qay) (Wam mixed Wal ⟨s_qex n,trivial⟩ trivial trivial) Tryz.func124 (by kernel_rfl) (by kernel_rfl) (d_qay n) (by kernel_rfl)
def Wy6:Shape:=⟨sO 1 [(0,.c hI)],[],[]⟩
def o_qax:LT10:=[(.ret,⟨sO 1 [(0,.c hB)],[],[]⟩)]
def qax(n:Nat)(x0:Int):Option (Bool):=bif decide (1≤x0)then some (decide (x0≤6000)) else some false
def p_qax:Plan:=.o
def c_qax(n:Nat):Cx:=cX [] [] []
theorem d_qax(n:Nat)(x:Wy6.X T):denF (c_qax n) n Tryz.f127 p_qax Wy6 o_qax x=qax n x:=by kernel_rfl
theorem s_qax(n:Nat):PCalls Tryz.prog Θ 127 ⟨Wy6,o_qax,qax n⟩:=
 Wac (C:=c_qax n) (n:=n) (p:=p_qax) (Wam mixed Wal trivial trivial trivial) Tryz.func127 (by kernel_rfl) (by kernel_rfl) (d_qax n) (by kernel_rfl)
def Wsi:Shape:=⟨sO 2 [(0,.c hI),(1,.agg [hI,hI])],[],[]⟩
def Wvz:LT10:=[(.ret,⟨sO 1 z4,[],[]⟩)]
def qam(n:Nat)(x0:T20):Option (Int×Int):=letJ (fun(x2:Int×Bool×Int×T20)=>bif x2.2.1 then some (0,0) else bif decide (x2.1≤x2.2.2.2.1)then some (0,x2.1) else (qay n (x2.2.2.1,x2.1)).bind fun y4=>some (y4,x2.2.2.2.1)) fun J3=>(qax n x0.1).bind fun y1=>bif !y1 then J3 (x0.1,true,x0.2.1,x0.2.2,0,0) else J3 (x0.1,decide (x0.2.2 < 1),x0.2.1,x0.2.2,0,0)
def p_qam:Plan:=.two (.o) (.two (.one (.two (.join ⟨sO 29 [(0,.c hI),(3,.c (.box 3 0)),(4,.c (.box 4 0)),(5,.c hB)],[(3,116,[hI,hI]),(4,116,[hI,hI])],[]⟩ (.o)) (.o))) (.o))
def c_qam(n:Nat):Cx:=cX [(127,⟨Wy6,o_qax,qax n⟩),(124,⟨Wy5,o_qay,qay n⟩)] [] []
theorem d_qam(n:Nat)(x:Wsi.X T):denF (c_qam n) n Tryz.f123 p_qam Wsi Wvz x=qam n x:=by kernel_rfl
theorem s_qam(n:Nat):PCalls Tryz.prog Θ 123 ⟨Wsi,Wvz,qam n⟩:=
 Wac (C:=c_qam n) (n:=n) (p:=p_qam) (Wam mixed Wal ⟨s_qax n,s_qay n,trivial⟩ trivial trivial) Tryz.func123 (by kernel_rfl) (by kernel_rfl) (d_qam n) (by kernel_rfl)
def h_qdz:Shape:=⟨sO 1 [(0,.agg zc3)],[],[]⟩
def o_qdz:LT10:=[(.ret,⟨sO 1 z4,[],[]⟩)]
def qdz(n:Nat)(x0:ByteArray×Int×(List Wai)×Int×Int):Option (Int×Int):=(qdw n x0).bind fun y1=>(qam n (y1,x0.2.1,1)).bind fun y2=>bif !(y1==0)then some (y1,Int.tmod y2.1 y1) else none
def p_qdz:Plan:=.o
def c_qdz(n:Nat):Cx:=cX [(96,⟨Wv1,Wzc,qdw n⟩),(123,⟨Wsi,Wvz,qam n⟩)] [] []
theorem d_qdz(n:Nat)(x:h_qdz.X T):denF (c_qdz n) n Tryz.f178 p_qdz h_qdz o_qdz x=qdz n x:=by kernel_rfl
theorem s_qdz(n:Nat):PCalls Tryz.prog Θ 178 ⟨h_qdz,o_qdz,qdz n⟩:=
 Wac (C:=c_qdz n) (n:=n) (p:=p_qdz) (Wam mixed Wal ⟨s_qdw n,s_qam n,trivial⟩ trivial trivial) Tryz.func178 (by kernel_rfl) (by kernel_rfl) (d_qdz n) (by kernel_rfl)
def h_qd1:Shape:=⟨sO 1 [(0,.agg zc3)],[],[]⟩
def o_qd1:LT10:=[(.ret,⟨sO 1 [(0,.c (.fn 217 [0]))],[(0,53,zc3)],[]⟩)]
def qd1(n:Nat)(x0:ByteArray×Int×(List Wai)×Int×Int):Option (ByteArray×Int×(List Wai)×Int×Int):=some x0
def p_qd1:Plan:=.o
def c_qd1(n:Nat):Cx:=cX [] [] []
theorem d_qd1(n:Nat)(x:h_qd1.X T):denF (c_qd1 n) n Tryz.f179 p_qd1 h_qd1 o_qd1 x=qd1 n x:=by kernel_rfl
theorem s_qd1(n:Nat):PCalls Tryz.prog Θ 179 ⟨h_qd1,o_qd1,qd1 n⟩:=
 Wac (C:=c_qd1 n) (n:=n) (p:=p_qd1) (Wam mixed Wal trivial trivial trivial) Tryz.func179 (by kernel_rfl) (by kernel_rfl) (d_qd1 n) (by kernel_rfl)
def h_qdx:Shape:=⟨sO 3 [(0,.agg [hI,hI]),(1,.c hI),(2,.c hI)],[],[]⟩
def o_qdx:LT10:=[(.ret,⟨sO 1 z4,[],[]⟩)]
def qdx(n:Nat)(x0:Int×T20):Option (Int×Int):=(qam n (x0.1,wrap64 (x0.2.1+x0.2.2.1),x0.2.2.2)).bind fun y1=>some y1
def p_qdx:Plan:=.o
def c_qdx(n:Nat):Cx:=cX [(123,⟨Wsi,Wvz,qam n⟩)] [] []
theorem d_qdx(n:Nat)(x:h_qdx.X T):denF (c_qdx n) n Tryz.f180 p_qdx h_qdx o_qdx x=qdx n x:=by kernel_rfl
theorem s_qdx(n:Nat):PCalls Tryz.prog Θ 180 ⟨h_qdx,o_qdx,qdx n⟩:=
 Wac (C:=c_qdx n) (n:=n) (p:=p_qdx) (Wam mixed Wal ⟨s_qam n,trivial⟩ trivial trivial) Tryz.func180 (by kernel_rfl) (by kernel_rfl) (d_qdx n) (by kernel_rfl)
def h_qdv:Shape:=⟨sO 4 [(0,.agg zc5),(1,.c hI),(2,.c (.box 1000000 0)),(3,.c (.box 1000001 0))],[(1000000,256,[hI,hI]),(1000001,258,[.row 1000000])],z26⟩
def o_qdv:LT10:=[(.ret,⟨sO 1 [(0,.c hB)],[(1000000,256,[hI,hI]),(1000001,258,[.row 1000000])],z26⟩)]
def Wy7:Rng:=rng Tryz.f117 0 [6,7]
def Wn4:Prop:=Θ.Y 1170=some Wy7
def qdv(n:Nat)(x0:ByteArray×Int×Int×Int×LT6×Int×Int×Int×LT4):Option (Bool×Int×Int×LT4):=let e0:=wrap64 ((wrap64 (x0.2.1 - x0.2.2.1)) - x0.2.2.2.1);bif mhas x0.1 x0.2.2.2.2.2.2.2.2 then some (true,x0.2.2.2.2.2.2) else (qdx n (x0.2.2.2.2.2.2.1,x0.2.2.2.2.2.2.2.1,x0.2.2.2.2.2.1,e0)).bind fun y1=>(qdx n (x0.2.2.2.2.2.2.1,x0.2.2.2.2.2.2.2.1,wrap64 (x0.2.2.2.2.2.1+e0),x0.2.2.1)).bind fun y2=>some (true,x0.2.2.2.2.2.2.1,x0.2.2.2.2.2.2.2.1,mput x0.1 (x0.1,ByteArray.mk #[],y1.1,y1.2,y2) x0.2.2.2.2.2.2.2.2)
def p_qdv:Plan:=.o
def c_qdv(n:Nat):Cx:=cX [(180,⟨h_qdx,o_qdx,qdx n⟩)] [] []
theorem d_qdv(n:Nat)(x:h_qdv.X T):denY (c_qdv n) n Wy7 p_qdv h_qdv o_qdv x=qdv n x:=by kernel_rfl
theorem Wp3:Wn4:=by unfold Wn4;kernel_rfl
theorem s_qdv(n:Nat):PYields Tryz.prog Θ 1170 ⟨h_qdv,o_qdv,qdv n⟩:=
 Wpk (C:=c_qdv n) (n:=n) (R:=Wy7) (p:=p_qdv) (Wam mixed Wal ⟨s_qdx n,trivial⟩ trivial trivial) Wp3 (by kernel_rfl) (by kernel_rfl) (by kernel_rfl) (by kernel_rfl) (d_qdv n)
def h_qd2:Shape:=⟨sO 2 [(0,.yld 1170 [.c (.box 1000000 0),.c (.box 1000001 0)]),(1,.c (.box 1000002 0))],z7,z26⟩
def o_qd2:LT10:=[(.ret,⟨sO 0 [],z7,z26⟩)]
def qd2(n:Nat)(x0:Int×Int×ByteArray×Int×(List Wai)×Int×Int×LT4):Option (Int×Int×ByteArray×Int×(List Wai)×Int×Int×LT4):=(Wao (Y:=(Int×Int×ByteArray×Int×(List Wai)×Int×Int×LT4) ⊕ (Int×Int×ByteArray×Int×(List Wai)×Int×Int×LT4)) n (fun(x1:Int×(List Wai)×Int×Int×Int×Int×ByteArray×Int×(List Wai)×Int×Int×LT4)=>let e0:=atI [] x1.2.1 x1.2.2.2.1;bif decide (x1.2.2.2.1 < x1.2.2.1)then bif inB x1.2.2.2.1 x1.2.1.length then (Wao (Y:=(Int×Int×ByteArray×Int×(List Wai)×Int×Int×LT4) ⊕ (Int×(List Wai)×Int×Int×Int×Int×ByteArray×Int×(List Wai)×Int×Int×Wai×LT4)) n (fun(x2:Int×(List Wai)×Int×Int×Wai×Int×Int×Int×Int×ByteArray×Int×(List Wai)×Int×Int×Wai×LT4)=>let e1:=atI [] x2.2.2.2.2.1 x2.2.2.2.2.2.2.1;bif decide (x2.2.2.2.2.2.2.1 < x2.2.2.2.2.2.1)then bif inB x2.2.2.2.2.2.2.1 x2.2.2.2.2.1.length then (Wao (Y:=(Int×Int×ByteArray×Int×(List Wai)×Int×Int×LT4) ⊕ (Int×(List Wai)×Int×Int×Wai×Int×Int×Int×Int×ByteArray×Int×(List Wai)×Int×Int×Wai×LT4)) n (fun(x3:Int×Int×(List Wai)×Int×Int×Wai×Int×Int×LT13×Int×Int×Int×Int×ByteArray×Int×(List Wai)×Int×Int×Wai×LT4)=>let e2:=atI (ByteArray.mk #[],0,0,0,[]) x3.2.2.2.2.2.2.2.2.1 x3.2.2.2.2.2.2.2.2.2.2.1;let e3:=e2.2;let e4:=e2.2.1;let e5:=e2.2.2;let e6:=e2.2.2.2;bif decide (x3.2.2.2.2.2.2.2.2.2.2.1 < x3.2.2.2.2.2.2.2.2.2.1)then bif inB x3.2.2.2.2.2.2.2.2.2.2.1 x3.2.2.2.2.2.2.2.2.1.length then (qdv n (e2.1,e4,e2.2.2.1,e2.2.2.2.1,e2.2.2.2.2,x3.2.1,x3.2.2.2.2.2.2.2.2.2.2.2.1,x3.2.2.2.2.2.2.2.2.2.2.2.2.1,x3.2.2.2.2.2.2.2.2.2.2.2.2.2.2.2.2.2.2.2)).bind fun y4=>bif !y4.1 then some (.inr (.inl (y4.2.1,y4.2.2.1,x3.2.2.2.2.2.2.2.2.2.2.2.2.2.1,x3.2.2.2.2.2.2.2.2.2.2.2.2.2.2.1,x3.2.2.2.2.2.2.2.2.2.2.2.2.2.2.2.1,x3.2.2.2.2.2.2.2.2.2.2.2.2.2.2.2.2.1,x3.2.2.2.2.2.2.2.2.2.2.2.2.2.2.2.2.2.1,y4.2.2.2))) else some (.inl (x3.1,wrap64 (x3.2.1+e4),x3.2.2.1,x3.2.2.2.1,x3.2.2.2.2.1,x3.2.2.2.2.2.1,x3.2.2.2.2.2.2.1,x3.2.2.2.2.2.2.2.1,x3.2.2.2.2.2.2.2.2.1,x3.2.2.2.2.2.2.2.2.2.1,wrap64 (x3.2.2.2.2.2.2.2.2.2.2.1+1),y4.2.1,y4.2.2.1,x3.2.2.2.2.2.2.2.2.2.2.2.2.2.1,x3.2.2.2.2.2.2.2.2.2.2.2.2.2.2.1,x3.2.2.2.2.2.2.2.2.2.2.2.2.2.2.2.1,x3.2.2.2.2.2.2.2.2.2.2.2.2.2.2.2.2.1,x3.2.2.2.2.2.2.2.2.2.2.2.2.2.2.2.2.2.1,x3.2.2.2.2.2.2.2.2.2.2.2.2.2.2.2.2.2.2.1,y4.2.2.2)) else none else some (.inr (.inr (x3.1,x3.2.2.1,x3.2.2.2.1,x3.2.2.2.2.1,x3.2.2.2.2.2.1,x3.2.2.2.2.2.2.1,x3.2.2.2.2.2.2.2.1,x3.2.2.2.2.2.2.2.2.2.2.2)))) (x2.1,x2.1,x2.2.1,x2.2.2.1,x2.2.2.2.1,x2.2.2.2.2.1,x2.2.2.2.2.2.1,x2.2.2.2.2.2.2.1,e1,((e1.length:Nat):Int),0,x2.2.2.2.2.2.2.2)).bind (Sum.elim (fun(z5:Int×Int×ByteArray×Int×(List Wai)×Int×Int×LT4)=>some (.inr (.inl z5))) (fun(z6:Int×(List Wai)×Int×Int×Wai×Int×Int×Int×Int×ByteArray×Int×(List Wai)×Int×Int×Wai×LT4)=>some (.inl (z6.1,z6.2.1,z6.2.2.1,z6.2.2.2.1,z6.2.2.2.2.1,z6.2.2.2.2.2.1,wrap64 (z6.2.2.2.2.2.2.1+1),z6.2.2.2.2.2.2.2)))) else none else some (.inr (.inr (x2.1,x2.2.1,x2.2.2.1,x2.2.2.2.1,x2.2.2.2.2.2.2.2)))) (x1.1,x1.2.1,x1.2.2.1,x1.2.2.2.1,e0,((e0.length:Nat):Int),0,x1.2.2.2.2.1,x1.2.2.2.2.2.1,x1.2.2.2.2.2.2.1,x1.2.2.2.2.2.2.2.1,x1.2.2.2.2.2.2.2.2.1,x1.2.2.2.2.2.2.2.2.2.1,x1.2.2.2.2.2.2.2.2.2.2.1,e0,x1.2.2.2.2.2.2.2.2.2.2.2)).bind (Sum.elim (fun(z7:Int×Int×ByteArray×Int×(List Wai)×Int×Int×LT4)=>some (.inr (.inl z7))) (fun(z8:Int×(List Wai)×Int×Int×Int×Int×ByteArray×Int×(List Wai)×Int×Int×Wai×LT4)=>(qdy n z8.2.2.2.2.2.2.2.2.2.2.2.1).bind fun y9=>some (.inl (wrap64 (z8.1+y9),z8.2.1,z8.2.2.1,wrap64 (z8.2.2.2.1+1),z8.2.2.2.2.1,z8.2.2.2.2.2.1,z8.2.2.2.2.2.2.1,z8.2.2.2.2.2.2.2.1,z8.2.2.2.2.2.2.2.2.1,z8.2.2.2.2.2.2.2.2.2.1,z8.2.2.2.2.2.2.2.2.2.2.1,z8.2.2.2.2.2.2.2.2.2.2.2.2)))) else none else some (.inr (.inr x1.2.2.2.2))) (0,x0.2.2.2.2.1,((x0.2.2.2.2.1.length:Nat):Int),0,x0)).bind (Sum.elim (fun(z10:Int×Int×ByteArray×Int×(List Wai)×Int×Int×LT4)=>some z10) (fun(z11:Int×Int×ByteArray×Int×(List Wai)×Int×Int×LT4)=>some z11))
def p_qd2:Plan:=.two (.o) (.two (.o) (.one (.loop ⟨sO 48 [(0,.yld 1170 [.c (.box 1000000 0),.c (.box 1000001 0)]),(3,.c hI),(12,.c (hL 106)),(13,.c hI),(14,.c hI)],z7,z26⟩ [(.ret,⟨sO 48 [],z7,z26⟩),(.exit 0,⟨sO 48 [],z7,z26⟩)] (.two (.o) (.two (.o) (.two (.one (.two (.o) (.two (.two (.o) (.one (.loop ⟨sO 48 z13,z9,z26⟩ [(.ret,⟨sO 48 [],z7,z26⟩),(.exit 2,⟨sO 48 [(0,.yld 1170 [.c (.box 1000000 0),.c (.box 1000001 0)]),(3,.c hI),(5,.c (.box 5 0)),(12,.c (hL 106)),(13,.c hI),(14,.c hI)],z9,z26⟩)] (.two (.o) (.two (.o) (.two (.one (.two (.o) (.two (.o) (.two (.o) (.one (.loop ⟨sO 48 [(0,.yld 1170 [.c (.box 1000000 0),.c (.box 1000001 0)]),(3,.c hI),(5,.c (.box 5 0)),(8,.c hI),(12,.c (hL 106)),(13,.c hI),(14,.c hI),(19,.c (hL 107)),(20,.c hI),(21,.c hI),(26,.c (hL 110)),(27,.c hI),(28,.c hI)],z9,z26⟩ [(.ret,⟨sO 48 [],z7,z26⟩),(.exit 4,⟨sO 48 z13,z9,z26⟩)] (.o))))))) (.o))))))) (.o)))) (.o)))))))
def c_qd2(n:Nat):Cx:=cX [(160,⟨Wzb,o_qdy,qdy n⟩)] [(1170,⟨h_qdv,o_qdv,qdv n⟩)] []
theorem d_qd2(n:Nat)(x:h_qd2.X T):denF (c_qd2 n) n Tryz.f217 p_qd2 h_qd2 o_qd2 x=qd2 n x:=by kernel_rfl
theorem s_qd2(n:Nat):PCalls Tryz.prog Θ 217 ⟨h_qd2,o_qd2,qd2 n⟩:=
 Wac (C:=c_qd2 n) (n:=n) (p:=p_qd2) (Wam mixed Wal ⟨s_qdy n,trivial⟩ ⟨s_qdv n,trivial⟩ trivial) Tryz.func217 (by kernel_rfl) (by kernel_rfl) (d_qd2 n) (by kernel_rfl)
def h_qdd:Shape:=⟨sO 2 [(0,.c (hL 9)),(1,.c hS)],[],[]⟩
def o_qdd:LT10:=[(.ret,⟨sO 1 [(0,.c hB)],[],[]⟩)]
def qdd(n:Nat)(x0:LBy×ByteArray):Option (Bool):=(qdq n x0).bind fun y1=>some (decide (0≤y1))
def p_qdd:Plan:=.o
def c_qdd(n:Nat):Cx:=cX [(156,⟨Wy8,o_qdq,qdq n⟩)] [] []
theorem d_qdd(n:Nat)(x:h_qdd.X T):denF (c_qdd n) n Tryz.f220 p_qdd h_qdd o_qdd x=qdd n x:=by kernel_rfl
theorem s_qdd(n:Nat):PCalls Tryz.prog Θ 220 ⟨h_qdd,o_qdd,qdd n⟩:=
 Wac (C:=c_qdd n) (n:=n) (p:=p_qdd) (Wam mixed Wal ⟨s_qdq n,trivial⟩ trivial trivial) Tryz.func220 (by kernel_rfl) (by kernel_rfl) (d_qdd n) (by kernel_rfl)
def h_qeg:Shape:=⟨sO 2 [(0,.agg [hS,hL 9,hI]),(1,.c (.box 1000000 0))],z6,[]⟩
def o_qeg:LT10:=[(.ret,⟨sO 1 [(0,.c hB)],z6,[]⟩)]
def qeg(n:Nat)(x0:ByteArray×LBy×Int×ByteArray):Option (Bool×ByteArray):=(qdd n (x0.2.1,x0.2.2.2)).bind fun y1=>some (y1,x0.2.2.2)
def p_qeg:Plan:=.o
def c_qeg(n:Nat):Cx:=cX [(220,⟨h_qdd,o_qdd,qdd n⟩)] [] []
theorem d_qeg(n:Nat)(x:h_qeg.X T):denF (c_qeg n) n Tryz.f219 p_qeg h_qeg o_qeg x=qeg n x:=by kernel_rfl
theorem s_qeg(n:Nat):PCalls Tryz.prog Θ 219 ⟨h_qeg,o_qeg,qeg n⟩:=
 Wac (C:=c_qeg n) (n:=n) (p:=p_qeg) (Wam mixed Wal ⟨s_qdd n,trivial⟩ trivial trivial) Tryz.func219 (by kernel_rfl) (by kernel_rfl) (d_qeg n) (by kernel_rfl)
def h_qdn:Shape:=⟨sO 2 [(0,.c (hL 148)),(1,.c (.fn 219 [1000000]))],z6,[]⟩
def o_qdn:LT10:=[(.ret,⟨sO 1 [(0,.c hI)],z6,[]⟩)]
def qdn(n:Nat)(x0:LT9×ByteArray):Option (Int×ByteArray):=(Wao (Y:=(Int×ByteArray) ⊕ (ByteArray)) n (fun(x1:LT9×Int×Int×ByteArray)=>let e0:=atI (ByteArray.mk #[],[],0) x1.1 x1.2.2.1;let e1:=e0.2;bif decide (x1.2.2.1 < x1.2.1)then bif inB x1.2.2.1 x1.1.length then (qeg n (e0.1,e0.2.1,e0.2.2,x1.2.2.2)).bind fun y2=>bif y2.1 then some (.inr (.inl (x1.2.2.1,y2.2))) else some (.inl (x1.1,x1.2.1,wrap64 (x1.2.2.1+1),y2.2)) else none else some (.inr (.inr x1.2.2.2))) (x0.1,((x0.1.length:Nat):Int),0,x0.2)).bind (Sum.elim (fun(z3:Int×ByteArray)=>some z3) (fun(z4:ByteArray)=>some ((-1),z4)))
def p_qdn:Plan:=.two (.o) (.two (.two (.o) (.one (.loop ⟨sO 19 [(0,.c (hL 148)),(1,.c (.fn 219 [1000000])),(7,.c hI),(8,.c hI)],z6,[]⟩ [(.ret,⟨sO 19 [(4,.c hI)],z6,[]⟩),(.exit 0,⟨sO 19 [],z6,[]⟩)] (.o)))) (.o))
def c_qdn(n:Nat):Cx:=cX [(219,⟨h_qeg,o_qeg,qeg n⟩)] [] []
theorem d_qdn(n:Nat)(x:h_qdn.X T):denF (c_qdn n) n Tryz.f218 p_qdn h_qdn o_qdn x=qdn n x:=by kernel_rfl
theorem s_qdn(n:Nat):PCalls Tryz.prog Θ 218 ⟨h_qdn,o_qdn,qdn n⟩:=
 Wac (C:=c_qdn n) (n:=n) (p:=p_qdn) (Wam mixed Wal ⟨s_qeg n,trivial⟩ trivial trivial) Tryz.func218 (by kernel_rfl) (by kernel_rfl) (d_qdn n) (by kernel_rfl)
def h_qef:Shape:=⟨sO 2 z62,[],[]⟩
def o_qef:LT10:=[(.ret,⟨sO 1 [(0,.c hI)],[],[]⟩)]
def qef(n:Nat)(x0:T25):Option (Int):=(qdn n (x0.2.2.2.1,x0.2.2.2.2.2.2.2)).bind fun y1=>some y1.1
def p_qef:Plan:=.o
def c_qef(n:Nat):Cx:=cX [(218,⟨h_qdn,o_qdn,qdn n⟩)] [] []
theorem d_qef(n:Nat)(x:h_qef.X T):denF (c_qef n) n Tryz.f181 p_qef h_qef o_qef x=qef n x:=by kernel_rfl
theorem s_qef(n:Nat):PCalls Tryz.prog Θ 181 ⟨h_qef,o_qef,qef n⟩:=
 Wac (C:=c_qef n) (n:=n) (p:=p_qef) (Wam mixed Wal ⟨s_qdn n,trivial⟩ trivial trivial) Tryz.func181 (by kernel_rfl) (by kernel_rfl) (d_qef n) (by kernel_rfl)
def h_qdu:Shape:=⟨sO 2 z55,[],[]⟩
def o_qdu:LT10:=[(.ret,⟨sO 2 [(0,.c (.row 0)),(1,.c hI)],[],[(0,196)]⟩)]
def qdu(n:Nat)(x0:ByteArray×LT8×LT4×LT9×LLT0×LT3×Int×ByteArray×Int×(List Wai)×Int×Int):Option (Int×LT7):=(qdt n x0).bind fun y1=>bif !y1 then some (180,[]) else (qdz n x0.2.2.2.2.2.2.2).bind fun y2=>(qd1 n x0.2.2.2.2.2.2.2).bind fun y3=>ifY Wn4 ((qd2 n (y2.1,y2.2,y3.1,y3.2.1,y3.2.2.1,y3.2.2.2.1,y3.2.2.2.2,[])).bind fun y4=>(Wao (Y:=LT7) n (fun(x7:LT8×Int×Int×ByteArray×LT8×LT4×LT9×LLT0×LT3×Int×LT7×LT4)=>bif decide (x7.2.2.1 < x7.2.1)then bif inB x7.2.2.1 x7.1.length then (qef n (x7.2.2.2.1,x7.2.2.2.2.1,x7.2.2.2.2.2.1,x7.2.2.2.2.2.2.1,x7.2.2.2.2.2.2.2.1,x7.2.2.2.2.2.2.2.2.1,x7.2.2.2.2.2.2.2.2.2.1,(atI (ByteArray.mk #[],0,0,0,0,0,0,0,0,0,0) x7.1 x7.2.2.1).1)).bind fun y8=>bif decide (0≤y8)then bif inB y8 x7.2.2.2.2.2.2.1.length then bif fitB (x7.2.2.2.2.2.2.2.2.2.2.1.length+(List.length (((atI (ByteArray.mk #[],0,0,0,0,0,0,0,0,0,0) x7.1 x7.2.2.1).1,(mfind (atI (ByteArray.mk #[],[],0) x7.2.2.2.2.2.2.1 y8).1 ((atI (ByteArray.mk #[],[],0) x7.2.2.2.2.2.2.1 y8).1,ByteArray.mk #[],0,0,0,0) x7.2.2.2.2.2.2.2.2.2.2.2).2.2)::[]))) 48 then some (.inl (x7.1,x7.2.1,wrap64 (x7.2.2.1+1),x7.2.2.2.1,x7.2.2.2.2.1,x7.2.2.2.2.2.1,x7.2.2.2.2.2.2.1,x7.2.2.2.2.2.2.2.1,x7.2.2.2.2.2.2.2.2.1,x7.2.2.2.2.2.2.2.2.2.1,x7.2.2.2.2.2.2.2.2.2.2.1++(((atI (ByteArray.mk #[],0,0,0,0,0,0,0,0,0,0) x7.1 x7.2.2.1).1,(mfind (atI (ByteArray.mk #[],[],0) x7.2.2.2.2.2.2.1 y8).1 ((atI (ByteArray.mk #[],[],0) x7.2.2.2.2.2.2.1 y8).1,ByteArray.mk #[],0,0,0,0) x7.2.2.2.2.2.2.2.2.2.2.2).2.2)::[]),x7.2.2.2.2.2.2.2.2.2.2.2)) else none else none else bif fitB (x7.2.2.2.2.2.2.2.2.2.2.1.length+(List.length (((atI (ByteArray.mk #[],0,0,0,0,0,0,0,0,0,0) x7.1 x7.2.2.1).1,0,0,0,0)::[]))) 48 then some (.inl (x7.1,x7.2.1,wrap64 (x7.2.2.1+1),x7.2.2.2.1,x7.2.2.2.2.1,x7.2.2.2.2.2.1,x7.2.2.2.2.2.2.1,x7.2.2.2.2.2.2.2.1,x7.2.2.2.2.2.2.2.2.1,x7.2.2.2.2.2.2.2.2.2.1,x7.2.2.2.2.2.2.2.2.2.2.1++(((atI (ByteArray.mk #[],0,0,0,0,0,0,0,0,0,0) x7.1 x7.2.2.1).1,0,0,0,0)::[]),x7.2.2.2.2.2.2.2.2.2.2.2)) else none else none else some (.inr x7.2.2.2.2.2.2.2.2.2.2.1)) (x0.2.1,((x0.2.1.length:Nat):Int),0,x0.1,x0.2.1,x0.2.2.1,x0.2.2.2.1,x0.2.2.2.2.1,x0.2.2.2.2.2.1,x0.2.2.2.2.2.2.1,[],y4.2.2.2.2.2.2.2)).bind fun(z9:LT7)=>some (0,z9))
def p_qdu:Plan:=.two (.o) (.two (.o) (.two (.o) (.two (.o) (.two (.two (.o) (.one (.range 1170 [6,7]))) (.two (.o) (.two (.two (.o) (.one (.loop ⟨sO 90 [(2,.c (.box 2 0)),(7,.c (.box 7 0)),(13,.c (.row 87)),(61,.c (hL 144)),(62,.c hI),(63,.c hI)],[(2,89,zc0),(7,258,[.row 24])],[(87,196),(24,1000517)]⟩ [(.exit 2,⟨sO 90 [(13,.c (.row 87))],[],[(87,196)]⟩)] (.o)))) (.o)))))))
def c_qdu(n:Nat):Cx:=cX [(47,⟨Wzd,o_qdt,qdt n⟩),(178,⟨h_qdz,o_qdz,qdz n⟩),(179,⟨h_qd1,o_qd1,qd1 n⟩),(217,⟨h_qd2,o_qd2,qd2 n⟩),(181,⟨h_qef,o_qef,qef n⟩)] [] []
theorem d_qdu(n:Nat)(x:h_qdu.X T):denF (c_qdu n) n Tryz.f117 p_qdu h_qdu o_qdu x=qdu n x:=by kernel_rfl
theorem s_qdu(n:Nat):PCalls Tryz.prog Θ 117 ⟨h_qdu,o_qdu,qdu n⟩:=
 Wac (C:=c_qdu n) (n:=n) (p:=p_qdu) (Wam mixed Wal ⟨s_qdt n,s_qdz n,s_qd1 n,s_qd2 n,s_qef n,trivial⟩ trivial trivial) Tryz.func117 (by kernel_rfl) (by kernel_rfl) (d_qdu n) (by kernel_rfl)
end
end Go.Proofs.YtalbenehgdkalaaGreat.Fn