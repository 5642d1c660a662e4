/- Texts of the proof. -/
import Derived.Test.YtalbenehgdkalaaGreatFnA3
namespace Go.Proofs.YtalbenehgdkalaaGreat.Fn
set_option maxRecDepth 100000
open Go Go.RowKit Go.Den
def h_qdw:Shape:=⟨sO 2 z45,[],[]⟩
def o_qdw:LT10:=[(.ret,⟨sO 1 [(0,.c hB)],[],[]⟩)]
noncomputable def qdw(n:Nat)(x0:Int×Int×Int×Int×Int×LT14×LT2×Int×Int×Int×(List (ByteArray×Int×(List Wah)×Int×Int))×T16):Option (Bool):=(qdc n (x0.1,x0.2.1,x0.2.2.1,x0.2.2.2.1,x0.2.2.2.2.1,x0.2.2.2.2.2.1,x0.2.2.2.2.2.2.1,x0.2.2.2.2.2.2.2.1,x0.2.2.2.2.2.2.2.2.1)).bind fun y1=>bif !(y1.1==0)then some false else (qch n (x0.2.2.2.2.2.1,x0.2.2.2.2.2.2.2.2.2.2.1)).bind fun y2=>some y2
def p_qdw:Plan:=.leaf
noncomputable def c_qdw(n:Nat):Cx:=cX [(44,⟨h_qdc,o_qdc,qdc n⟩),(45,⟨h_qch,o_qch,qch n⟩)] [] []
theorem d_qdw(n:Nat)(x:h_qdw.X T):denF (c_qdw n) n Tryz.f15 p_qdw h_qdw o_qdw x=qdw n x:=by kernel_rfl
theorem s_qdw(n:Nat):PCalls Tryz.prog Θ 15 ⟨h_qdw,o_qdw,qdw n⟩:=
 Waa (C:=c_qdw n) (n:=n) (p:=p_qdw) (Wal mixed Wak ⟨s_qdc n,s_qch n,trivial⟩ trivial trivial) Tryz.func15 (by kernel_rfl) (by kernel_rfl) (d_qdw n) (by kernel_rfl)
def h_qaj:Shape:=⟨sO 2 [(0,.agg zc3),(1,.c (.box 1000000 0))],z33,[]⟩
def o_qaj:LT10:=[(.ret,⟨sO 1 [(0,.c hB)],z33,[]⟩)]
def qaj(n:Nat)(x0:ByteArray×Int×(List Wah)×Int×Int×Int×(List (ByteArray×Int×(List Wah)×Int×Int))×T16):Option (Bool×Int×(List (ByteArray×Int×(List Wah)×Int×Int))×T16):=(qcx n (x0.1,x0.2.1,x0.2.2.1,x0.2.2.2.1,x0.2.2.2.2.1)).bind fun y1=>some (!(y1==x0.2.2.2.2.2.1),x0.2.2.2.2.2)
def p_qaj:Plan:=.leaf
noncomputable def c_qaj(n:Nat):Cx:=cX [(96,⟨Wug,Ww5,qcx n⟩)] [] []
theorem d_qaj(n:Nat)(x:h_qaj.X T):denF (c_qaj n) n Tryz.f113 p_qaj h_qaj o_qaj x=qaj n x:=by kernel_rfl
theorem s_qaj(n:Nat):PCalls Tryz.prog Θ 113 ⟨h_qaj,o_qaj,qaj n⟩:=
 Waa (C:=c_qaj n) (n:=n) (p:=p_qaj) (Wal mixed Wak ⟨s_qcx n,trivial⟩ trivial trivial) Tryz.func113 (by kernel_rfl) (by kernel_rfl) (d_qaj n) (by kernel_rfl)
def h_qcj:Shape:=⟨sO 2 [(0,.c (hL 53)),(1,.c (.fn 113 [1000000]))],z33,[]⟩
def o_qcj:LT10:=[(.ret,⟨sO 1 [(0,.c hI)],z33,[]⟩)]
def qcj(n:Nat)(x0:(List (ByteArray×Int×(List Wah)×Int×Int))×Int×(List (ByteArray×Int×(List Wah)×Int×Int))×T16):Option (Int×Int×(List (ByteArray×Int×(List Wah)×Int×Int))×T16):=(Wao (Y:=(Int×Int×(List (ByteArray×Int×(List Wah)×Int×Int))×Int×Int×Int×Int×Bool×Int) ⊕ (Int×(List (ByteArray×Int×(List Wah)×Int×Int))×Int×Int×Int×Int×Bool×Int)) n (fun(x1:(List (ByteArray×Int×(List Wah)×Int×Int))×Int×Int×Int×(List (ByteArray×Int×(List Wah)×Int×Int))×T16)=>let e0:=atI (ByteArray.mk #[],0,[],0,0) x1.1 x1.2.2.1;let e1:=e0.2;let e2:=e0.2.2;let e3:=e0.2.2.2;bif decide (x1.2.2.1 < x1.2.1)then bif inB x1.2.2.1 x1.1.length then (qaj n (e0.1,e0.2.1,e0.2.2.1,e0.2.2.2.1,e0.2.2.2.2,x1.2.2.2)).bind fun y2=>bif y2.1 then some (.inr (.inl (x1.2.2.1,y2.2))) else some (.inl (x1.1,x1.2.1,wrap64 (x1.2.2.1+1),y2.2)) else none else some (.inr (.inr x1.2.2.2))) (x0.1,((x0.1.length:Nat):Int),0,x0.2)).bind (Sum.elim (fun(z3:Int×Int×(List (ByteArray×Int×(List Wah)×Int×Int))×T16)=>some z3) (fun(z4:Int×(List (ByteArray×Int×(List Wah)×Int×Int))×T16)=>some ((-1),z4)))
def p_qcj:Plan:=.two (.leaf) (.two (.two (.leaf) (.one (.loop ⟨sO 19 [(0,.c (hL 53)),(1,.c (.fn 113 [1000000])),(7,.c hI),(8,.c hI)],z33,[]⟩ [(.ret,⟨sO 19 [(4,.c hI)],z33,[]⟩),(.exit 0,⟨sO 19 [],z33,[]⟩)] (.leaf)))) (.leaf))
noncomputable def c_qcj(n:Nat):Cx:=cX [(113,⟨h_qaj,o_qaj,qaj n⟩)] [] []
theorem d_qcj(n:Nat)(x:h_qcj.X T):denF (c_qcj n) n Tryz.f176 p_qcj h_qcj o_qcj x=qcj n x:=by kernel_rfl
theorem s_qcj(n:Nat):PCalls Tryz.prog Θ 176 ⟨h_qcj,o_qcj,qcj n⟩:=
 Waa (C:=c_qcj n) (n:=n) (p:=p_qcj) (Wal mixed Wak ⟨s_qaj n,trivial⟩ trivial trivial) Tryz.func176 (by kernel_rfl) (by kernel_rfl) (d_qcj n) (by kernel_rfl)
def h_qb9:Shape:=⟨sO 2 [(0,.c (hL 53)),(1,.c (.fn 113 [1000000]))],z33,[]⟩
def o_qb9:LT10:=[(.ret,⟨sO 1 [(0,.c hB)],z33,[]⟩)]
def qb9(n:Nat)(x0:(List (ByteArray×Int×(List Wah)×Int×Int))×Int×(List (ByteArray×Int×(List Wah)×Int×Int))×T16):Option (Bool×Int×(List (ByteArray×Int×(List Wah)×Int×Int))×T16):=(qcj n x0).bind fun y1=>some (decide (0≤y1.1),y1.2)
def p_qb9:Plan:=.leaf
noncomputable def c_qb9(n:Nat):Cx:=cX [(176,⟨h_qcj,o_qcj,qcj n⟩)] [] []
theorem d_qb9(n:Nat)(x:h_qb9.X T):denF (c_qb9 n) n Tryz.f112 p_qb9 h_qb9 o_qb9 x=qb9 n x:=by kernel_rfl
theorem s_qb9(n:Nat):PCalls Tryz.prog Θ 112 ⟨h_qb9,o_qb9,qb9 n⟩:=
 Waa (C:=c_qb9 n) (n:=n) (p:=p_qb9) (Wal mixed Wak ⟨s_qcj n,trivial⟩ trivial trivial) Tryz.func112 (by kernel_rfl) (by kernel_rfl) (d_qb9 n) (by kernel_rfl)
def h_qai:Shape:=⟨sO 2 z45,[],[]⟩
def o_qai:LT10:=[(.ret,⟨sO 1 [(0,.c hB)],[],[]⟩)]
noncomputable def qai(n:Nat)(x0:Int×Int×Int×Int×Int×LT14×LT2×Int×Int×Int×(List (ByteArray×Int×(List Wah)×Int×Int))×T16):Option (Bool):=(qdw n x0).bind fun y1=>bif y1 then (qb9 n (x0.2.2.2.2.2.2.2.2.2.2.1,x0.2.2.2.2.2.2.2.2.2)).bind fun y2=>some (!y2.1) else some false
def p_qai:Plan:=.leaf
noncomputable def c_qai(n:Nat):Cx:=cX [(15,⟨h_qdw,o_qdw,qdw n⟩),(112,⟨h_qb9,o_qb9,qb9 n⟩)] [] []
theorem d_qai(n:Nat)(x:h_qai.X T):denF (c_qai n) n Tryz.f61 p_qai h_qai o_qai x=qai n x:=by kernel_rfl
theorem s_qai(n:Nat):PCalls Tryz.prog Θ 61 ⟨h_qai,o_qai,qai n⟩:=
 Waa (C:=c_qai n) (n:=n) (p:=p_qai) (Wal mixed Wak ⟨s_qdw n,s_qb9 n,trivial⟩ trivial trivial) Tryz.func61 (by kernel_rfl) (by kernel_rfl) (d_qai n) (by kernel_rfl)
def h_qb6:Shape:=⟨sO 1 [(0,.c (hL 78))],[],[]⟩
def o_qb6:LT10:=[(.ret,⟨sO 1 [(0,.c (.fn 177 [0]))],[(0,25,[hL 78])],[]⟩)]
def qb6(n:Nat)(x0:LT2):Option (LT2):=some x0
def p_qb6:Plan:=.leaf
noncomputable def c_qb6(n:Nat):Cx:=cX [] [] []
theorem d_qb6(n:Nat)(x:h_qb6.X T):denF (c_qb6 n) n Tryz.f114 p_qb6 h_qb6 o_qb6 x=qb6 n x:=by kernel_rfl
theorem s_qb6(n:Nat):PCalls Tryz.prog Θ 114 ⟨h_qb6,o_qb6,qb6 n⟩:=
 Waa (C:=c_qb6 n) (n:=n) (p:=p_qb6) (Wal mixed Wak trivial trivial trivial) Tryz.func114 (by kernel_rfl) (by kernel_rfl) (d_qb6 n) (by kernel_rfl)
def h_qaf:Shape:=⟨sO 4 [(0,.c hI),(1,.agg [hS,hS,hS,hI,hI,hI]),(2,.c (.box 1000000 0)),(3,.c (.box 1000001 0))],[(1000000,35,[.row 1000000]),(1000001,2,[hI])],[(1000000,2)]⟩
def o_qaf:LT10:=[(.ret,⟨sO 1 [(0,.c hB)],[(1000000,35,[.row 1000000]),(1000001,2,[hI])],[(1000000,2)]⟩)]
noncomputable def R_620:Rng:=rng Tryz.f62 0 [5,6]
def Wq7:Prop:=Θ.Y 620=some R_620
def qaf(n:Nat)(x0:Int×ByteArray×ByteArray×ByteArray×Int×Int×Int×Int×LIn):Option (Bool×Int×LIn):=bif inB x0.1 x0.2.2.2.2.2.2.2.2.length then some (true,wrap64 (x0.2.2.2.2.2.2.2.1+x0.2.2.2.2.2.1),List.set x0.2.2.2.2.2.2.2.2 (Int.toNat x0.1) x0.2.2.2.2.2.2.2.1) else none
def p_qaf:Plan:=.leaf
noncomputable def c_qaf(n:Nat):Cx:=cX [] [] []
theorem d_qaf(n:Nat)(x:h_qaf.X T):denY (c_qaf n) n R_620 p_qaf h_qaf o_qaf x=qaf n x:=by kernel_rfl
theorem Wsr:Wq7:=by unfold Wq7;kernel_rfl
theorem s_qaf(n:Nat):PYields Tryz.prog Θ 620 ⟨h_qaf,o_qaf,qaf n⟩:=
 Woh (C:=c_qaf n) (n:=n) (R:=R_620) (p:=p_qaf) (Wal mixed Wak trivial trivial trivial) Wsr (by kernel_rfl) (by kernel_rfl) (by kernel_rfl) (by kernel_rfl) (d_qaf n)
def h_qb5:Shape:=⟨sO 2 [(0,.yld 620 [.c (.box 1000000 0),.c (.box 1000001 0)]),(1,.c (.box 1000002 0))],z11,[(1000000,2)]⟩
def o_qb5:LT10:=[(.ret,⟨sO 0 [],z11,[(1000000,2)]⟩)]
def qb5(n:Nat)(x0:Int×LT2×LIn):Option (Int×LT2×LIn):=(Wao (Y:=(Int×LT2×LIn) ⊕ (Int×LT2×LIn)) n (fun(x1:Int×Int×LT2×LIn)=>let e0:=atI (ByteArray.mk #[],ByteArray.mk #[],ByteArray.mk #[],0,0,0) x1.2.2.1 x1.1;let e1:=e0.2;let e2:=e0.2.2;let e3:=e0.2.2.2;let e4:=e0.2.2.2.2;bif decide (0≤x1.1)then bif inB x1.1 x1.2.2.1.length then (qaf n (x1.1,e0.1,e0.2.1,e0.2.2.1,e0.2.2.2.1,e0.2.2.2.2.1,e0.2.2.2.2.2,x1.2.1,x1.2.2.2)).bind fun y2=>bif !y2.1 then some (.inr (.inl (y2.2.1,x1.2.2.1,y2.2.2))) else some (.inl (wrap64 (x1.1 - 1),y2.2.1,x1.2.2.1,y2.2.2)) else none else some (.inr (.inr x1.2))) (wrap64 (((x0.2.1.length:Nat):Int) - 1),x0)).bind (Sum.elim (fun(z3:Int×LT2×LIn)=>some z3) (fun(z4:Int×LT2×LIn)=>some z4))
def p_qb5:Plan:=.two (.leaf) (.one (.loop ⟨sO 19 [(0,.yld 620 [.c (.box 1000000 0),.c (.box 1000001 0)]),(1,.c (.box 1000002 0)),(3,.c hI)],z11,[(1000000,2)]⟩ [(.ret,⟨sO 19 [],z11,[(1000000,2)]⟩),(.exit 0,⟨sO 19 [],z11,[(1000000,2)]⟩)] (.leaf)))
noncomputable def c_qb5(n:Nat):Cx:=cX [] [(620,⟨h_qaf,o_qaf,qaf n⟩)] []
theorem d_qb5(n:Nat)(x:h_qb5.X T):denF (c_qb5 n) n Tryz.f177 p_qb5 h_qb5 o_qb5 x=qb5 n x:=by kernel_rfl
theorem s_qb5(n:Nat):PCalls Tryz.prog Θ 177 ⟨h_qb5,o_qb5,qb5 n⟩:=
 Waa (C:=c_qb5 n) (n:=n) (p:=p_qb5) (Wal mixed Wak trivial ⟨s_qaf n,trivial⟩ trivial) Tryz.func177 (by kernel_rfl) (by kernel_rfl) (d_qb5 n) (by kernel_rfl)
def h_qae:Shape:=⟨sO 2 [(0,.c (hL 78)),(1,.c hB)],[],[]⟩
def o_qae:LT10:=[(.ret,⟨sO 1 z32,[],[(0,2)]⟩)]
noncomputable def qae(n:Nat)(x0:LT2×Bool):Option (List Int):=let e0:=((x0.1.length:Nat):Int);bif e0==e0&&decide (0≤e0)&&decide (e0 * 8≤281474976710656)then bif !x0.2 then (Wao (Y:=LIn) n (fun(x1:LT2×Int×Int×Int×LIn)=>let e1:=wrap64 (x1.2.2.2.1+(atI (ByteArray.mk #[],ByteArray.mk #[],ByteArray.mk #[],0,0,0) x1.1 x1.2.2.1).2.2.2.1);bif decide (x1.2.2.1 < x1.2.1)then bif inB x1.2.2.1 x1.1.length then bif inB x1.2.2.1 x1.2.2.2.2.length then some (.inl (x1.1,x1.2.1,wrap64 (x1.2.2.1+1),e1,List.set x1.2.2.2.2 (Int.toNat x1.2.2.1) e1)) else none else none else some (.inr x1.2.2.2.2)) (x0.1,e0,0,0,List.replicate (Int.toNat e0) 0)).bind fun(z2:List Int)=>some z2 else (qb6 n x0.1).bind fun y3=>ifY Wq7 ((qb5 n (0,y3,List.replicate (Int.toNat e0) 0)).bind fun y4=>some y4.2.2) else none
def p_qae:Plan:=.two (.leaf) (.two (.leaf) (.two (.leaf) (.two (.two (.leaf) (.two (.two (.two (.leaf) (.one (.loop ⟨sO 46 [(5,.c (.box 5 0)),(6,.c (.box 6 0)),(16,.c (hL 78)),(17,.c hI),(18,.c hI)],[(5,35,[.row 13]),(6,2,[hI])],[(13,2)]⟩ [(.exit 0,⟨sO 46 [(5,.c (.box 5 0))],[(5,35,[.row 13])],[(13,2)]⟩)] (.leaf)))) (.leaf)) (.leaf))) (.two (.two (.leaf) (.one (.range 620 [5,6]))) (.leaf)))))
noncomputable def c_qae(n:Nat):Cx:=cX [(114,⟨h_qb6,o_qb6,qb6 n⟩),(177,⟨h_qb5,o_qb5,qb5 n⟩)] [] []
theorem d_qae(n:Nat)(x:h_qae.X T):denF (c_qae n) n Tryz.f62 p_qae h_qae o_qae x=qae n x:=by kernel_rfl
theorem s_qae(n:Nat):PCalls Tryz.prog Θ 62 ⟨h_qae,o_qae,qae n⟩:=
 Waa (C:=c_qae n) (n:=n) (p:=p_qae) (Wal mixed Wak ⟨s_qb6 n,s_qb5 n,trivial⟩ trivial trivial) Tryz.func62 (by kernel_rfl) (by kernel_rfl) (d_qae n) (by kernel_rfl)
def h_qdy:Shape:=⟨sO 2 z41,[],[]⟩
def o_qdy:LT10:=[(.ret,⟨sO 2 z41,[],[]⟩)]
def qdy(n:Nat)(x0:Int×Int):Option (Int×Int):=let e0:=Int.tmod x0.1 x0.2;bif decide (x0.2 < 1)then some (0,1) else bif !(x0.2==0)then bif decide (e0 < 0)then some (wrap64 (e0+x0.2),0) else some (e0,0) else none
def p_qdy:Plan:=.leaf
noncomputable def c_qdy(n:Nat):Cx:=cX [] [] []
theorem d_qdy(n:Nat)(x:h_qdy.X T):denF (c_qdy n) n Tryz.f186 p_qdy h_qdy o_qdy x=qdy n x:=by kernel_rfl
theorem s_qdy(n:Nat):PCalls Tryz.prog Θ 186 ⟨h_qdy,o_qdy,qdy n⟩:=
 Waa (C:=c_qdy n) (n:=n) (p:=p_qdy) (Wal mixed Wak trivial trivial trivial) Tryz.func186 (by kernel_rfl) (by kernel_rfl) (d_qdy n) (by kernel_rfl)
def Wwy:Shape:=⟨sO 2 z41,[],[]⟩
def o_qay:LT10:=[(.ret,⟨sO 1 [(0,.c hI)],[],[]⟩)]
def qay(n:Nat)(x0:Int×Int):Option (Int):=(qdy n x0).bind fun y1=>some y1.1
def p_qay:Plan:=.leaf
noncomputable def c_qay(n:Nat):Cx:=cX [(186,⟨h_qdy,o_qdy,qdy n⟩)] [] []
theorem d_qay(n:Nat)(x:Wwy.X T):denF (c_qay n) n Tryz.f124 p_qay Wwy o_qay x=qay n x:=by kernel_rfl
theorem s_qay(n:Nat):PCalls Tryz.prog Θ 124 ⟨Wwy,o_qay,qay n⟩:=
 Waa (C:=c_qay n) (n:=n) (p:=p_qay) (Wal mixed Wak ⟨s_qdy n,trivial⟩ trivial trivial) Tryz.func124 (by kernel_rfl) (by kernel_rfl) (d_qay n) (by kernel_rfl)
def Wwz:Shape:=⟨sO 1 [(0,.c hI)],[],[]⟩
def o_qax:LT10:=[(.ret,⟨sO 1 [(0,.c hB)],[],[]⟩)]
def qax(n:Nat)(x0:Int):Option (Bool):=bif decide (1≤x0)then some (decide (x0≤6000)) else some false
def p_qax:Plan:=.leaf
noncomputable def c_qax(n:Nat):Cx:=cX [] [] []
theorem d_qax(n:Nat)(x:Wwz.X T):denF (c_qax n) n Tryz.f127 p_qax Wwz o_qax x=qax n x:=by kernel_rfl
theorem s_qax(n:Nat):PCalls Tryz.prog Θ 127 ⟨Wwz,o_qax,qax n⟩:=
 Waa (C:=c_qax n) (n:=n) (p:=p_qax) (Wal mixed Wak trivial trivial trivial) Tryz.func127 (by kernel_rfl) (by kernel_rfl) (d_qax n) (by kernel_rfl)
def Wq8:Shape:=⟨sO 2 [(0,.c hI),(1,.agg [hI,hI])],[],[]⟩
def Wue:LT10:=[(.ret,⟨sO 1 z5,[],[]⟩)]
def qam(n:Nat)(x0:Int×Int×Int):Option (Int×Int):=letJ (fun(x2:Int×Bool×T20)=>bif x2.2.1 then some (0,0) else bif decide (x2.1≤x2.2.2.2.1)then some (0,x2.1) else (qay n (x2.2.2.1,x2.1)).bind fun y4=>some (y4,x2.2.2.2.1)) fun J3=>(qax n x0.1).bind fun y1=>bif !y1 then J3 (x0.1,true,x0.2.1,x0.2.2,0,0) else J3 (x0.1,decide (x0.2.2 < 1),x0.2.1,x0.2.2,0,0)
def p_qam:Plan:=.two (.leaf) (.two (.one (.two (.join ⟨sO 29 [(0,.c hI),(3,.c (.box 3 0)),(4,.c (.box 4 0)),(5,.c hB)],[(3,116,[hI,hI]),(4,116,[hI,hI])],[]⟩ (.leaf)) (.leaf))) (.leaf))
noncomputable def c_qam(n:Nat):Cx:=cX [(127,⟨Wwz,o_qax,qax n⟩),(124,⟨Wwy,o_qay,qay n⟩)] [] []
theorem d_qam(n:Nat)(x:Wq8.X T):denF (c_qam n) n Tryz.f123 p_qam Wq8 Wue x=qam n x:=by kernel_rfl
theorem s_qam(n:Nat):PCalls Tryz.prog Θ 123 ⟨Wq8,Wue,qam n⟩:=
 Waa (C:=c_qam n) (n:=n) (p:=p_qam) (Wal mixed Wak ⟨s_qax n,s_qay n,trivial⟩ trivial trivial) Tryz.func123 (by kernel_rfl) (by kernel_rfl) (d_qam n) (by kernel_rfl)
def h_qc0:Shape:=⟨sO 1 [(0,.agg zc3)],[],[]⟩
def o_qc0:LT10:=[(.ret,⟨sO 1 z5,[],[]⟩)]
def qc0(n:Nat)(x0:ByteArray×Int×(List Wah)×Int×Int):Option (Int×Int):=(qcx n x0).bind fun y1=>(qam n (y1,x0.2.1,1)).bind fun y2=>bif !(y1==0)then some (y1,Int.tmod y2.1 y1) else none
def p_qc0:Plan:=.leaf
noncomputable def c_qc0(n:Nat):Cx:=cX [(96,⟨Wug,Ww5,qcx n⟩),(123,⟨Wq8,Wue,qam n⟩)] [] []
theorem d_qc0(n:Nat)(x:h_qc0.X T):denF (c_qc0 n) n Tryz.f178 p_qc0 h_qc0 o_qc0 x=qc0 n x:=by kernel_rfl
theorem s_qc0(n:Nat):PCalls Tryz.prog Θ 178 ⟨h_qc0,o_qc0,qc0 n⟩:=
 Waa (C:=c_qc0 n) (n:=n) (p:=p_qc0) (Wal mixed Wak ⟨s_qcx n,s_qam n,trivial⟩ trivial trivial) Tryz.func178 (by kernel_rfl) (by kernel_rfl) (d_qc0 n) (by kernel_rfl)
def h_qc2:Shape:=⟨sO 1 [(0,.agg zc3)],[],[]⟩
def o_qc2:LT10:=[(.ret,⟨sO 1 [(0,.c (.fn 217 [0]))],[(0,53,zc3)],[]⟩)]
def qc2(n:Nat)(x0:ByteArray×Int×(List Wah)×Int×Int):Option (ByteArray×Int×(List Wah)×Int×Int):=some x0
def p_qc2:Plan:=.leaf
noncomputable def c_qc2(n:Nat):Cx:=cX [] [] []
theorem d_qc2(n:Nat)(x:h_qc2.X T):denF (c_qc2 n) n Tryz.f179 p_qc2 h_qc2 o_qc2 x=qc2 n x:=by kernel_rfl
theorem s_qc2(n:Nat):PCalls Tryz.prog Θ 179 ⟨h_qc2,o_qc2,qc2 n⟩:=
 Waa (C:=c_qc2 n) (n:=n) (p:=p_qc2) (Wal mixed Wak trivial trivial trivial) Tryz.func179 (by kernel_rfl) (by kernel_rfl) (d_qc2 n) (by kernel_rfl)
def h_qcy:Shape:=⟨sO 3 [(0,.agg [hI,hI]),(1,.c hI),(2,.c hI)],[],[]⟩
def o_qcy:LT10:=[(.ret,⟨sO 1 z5,[],[]⟩)]
def qcy(n:Nat)(x0:T20):Option (Int×Int):=(qam n (x0.1,wrap64 (x0.2.1+x0.2.2.1),x0.2.2.2)).bind fun y1=>some y1
def p_qcy:Plan:=.leaf
noncomputable def c_qcy(n:Nat):Cx:=cX [(123,⟨Wq8,Wue,qam n⟩)] [] []
theorem d_qcy(n:Nat)(x:h_qcy.X T):denF (c_qcy n) n Tryz.f180 p_qcy h_qcy o_qcy x=qcy n x:=by kernel_rfl
theorem s_qcy(n:Nat):PCalls Tryz.prog Θ 180 ⟨h_qcy,o_qcy,qcy n⟩:=
 Waa (C:=c_qcy n) (n:=n) (p:=p_qcy) (Wal mixed Wak ⟨s_qam n,trivial⟩ trivial trivial) Tryz.func180 (by kernel_rfl) (by kernel_rfl) (d_qcy n) (by kernel_rfl)
def h_qcw:Shape:=⟨sO 4 [(0,.agg zc6),(1,.c hI),(2,.c (.box 1000000 0)),(3,.c (.box 1000001 0))],[(1000000,256,[hI,hI]),(1000001,258,[.row 1000000])],z22⟩
def o_qcw:LT10:=[(.ret,⟨sO 1 [(0,.c hB)],[(1000000,256,[hI,hI]),(1000001,258,[.row 1000000])],z22⟩)]
noncomputable def Ww0:Rng:=rng Tryz.f117 0 [6,7]
def Wmy:Prop:=Θ.Y 1170=some Ww0
def qcw(n:Nat)(x0:ByteArray×Int×Int×Int×LT6×Int×Int×Int×LT4):Option (Bool×Int×Int×LT4):=let e0:=wrap64 ((wrap64 (x0.2.1 - x0.2.2.1)) - x0.2.2.2.1);bif mhas x0.1 x0.2.2.2.2.2.2.2.2 then some (true,x0.2.2.2.2.2.2) else (qcy n (x0.2.2.2.2.2.2.1,x0.2.2.2.2.2.2.2.1,x0.2.2.2.2.2.1,e0)).bind fun y1=>(qcy n (x0.2.2.2.2.2.2.1,x0.2.2.2.2.2.2.2.1,wrap64 (x0.2.2.2.2.2.1+e0),x0.2.2.1)).bind fun y2=>some (true,x0.2.2.2.2.2.2.1,x0.2.2.2.2.2.2.2.1,mput x0.1 (x0.1,ByteArray.mk #[],y1.1,y1.2,y2) x0.2.2.2.2.2.2.2.2)
def p_qcw:Plan:=.leaf
noncomputable def c_qcw(n:Nat):Cx:=cX [(180,⟨h_qcy,o_qcy,qcy n⟩)] [] []
theorem d_qcw(n:Nat)(x:h_qcw.X T):denY (c_qcw n) n Ww0 p_qcw h_qcw o_qcw x=qcw n x:=by kernel_rfl
theorem Wos:Wmy:=by unfold Wmy;kernel_rfl
theorem s_qcw(n:Nat):PYields Tryz.prog Θ 1170 ⟨h_qcw,o_qcw,qcw n⟩:=
 Woh (C:=c_qcw n) (n:=n) (R:=Ww0) (p:=p_qcw) (Wal mixed Wak ⟨s_qcy n,trivial⟩ trivial trivial) Wos (by kernel_rfl) (by kernel_rfl) (by kernel_rfl) (by kernel_rfl) (d_qcw n)
def h_qc3:Shape:=⟨sO 2 [(0,.yld 1170 [.c (.box 1000000 0),.c (.box 1000001 0)]),(1,.c (.box 1000002 0))],z7,z22⟩
def o_qc3:LT10:=[(.ret,⟨sO 0 [],z7,z22⟩)]
def qc3(n:Nat)(x0:Int×Int×ByteArray×Int×(List Wah)×Int×Int×LT4):Option (Int×Int×ByteArray×Int×(List Wah)×Int×Int×LT4):=(Wao (Y:=(Int×Int×ByteArray×Int×(List Wah)×Int×Int×LT4) ⊕ (Int×Int×ByteArray×Int×(List Wah)×Int×Int×LT4)) n (fun(x1:Int×(List Wah)×Int×Int×Int×Int×ByteArray×Int×(List Wah)×Int×Int×LT4)=>let e0:=atI [] x1.2.1 x1.2.2.2.1;bif decide (x1.2.2.2.1 < x1.2.2.1)then bif inB x1.2.2.2.1 x1.2.1.length then (Wao (Y:=(Int×Int×ByteArray×Int×(List Wah)×Int×Int×LT4) ⊕ (Int×(List Wah)×Int×Int×Int×Int×ByteArray×Int×(List Wah)×Int×Int×Wah×LT4)) n (fun(x2:Int×(List Wah)×Int×Int×Wah×Int×Int×Int×Int×ByteArray×Int×(List Wah)×Int×Int×Wah×LT4)=>let e1:=atI [] x2.2.2.2.2.1 x2.2.2.2.2.2.2.1;bif decide (x2.2.2.2.2.2.2.1 < x2.2.2.2.2.2.1)then bif inB x2.2.2.2.2.2.2.1 x2.2.2.2.2.1.length then (Wao (Y:=(Int×Int×ByteArray×Int×(List Wah)×Int×Int×LT4) ⊕ (Int×(List Wah)×Int×Int×Wah×Int×Int×Int×Int×ByteArray×Int×(List Wah)×Int×Int×Wah×LT4)) n (fun(x3:Int×Int×(List Wah)×Int×Int×Wah×Int×Int×LT13×Int×Int×Int×Int×ByteArray×Int×(List Wah)×Int×Int×Wah×LT4)=>let e2:=atI (ByteArray.mk #[],0,0,0,[]) x3.2.2.2.2.2.2.2.2.1 x3.2.2.2.2.2.2.2.2.2.2.1;let e3:=e2.2;let e4:=e2.2.1;let e5:=e2.2.2;let e6:=e2.2.2.2;bif decide (x3.2.2.2.2.2.2.2.2.2.2.1 < x3.2.2.2.2.2.2.2.2.2.1)then bif inB x3.2.2.2.2.2.2.2.2.2.2.1 x3.2.2.2.2.2.2.2.2.1.length then (qcw n (e2.1,e4,e2.2.2.1,e2.2.2.2.1,e2.2.2.2.2,x3.2.1,x3.2.2.2.2.2.2.2.2.2.2.2.1,x3.2.2.2.2.2.2.2.2.2.2.2.2.1,x3.2.2.2.2.2.2.2.2.2.2.2.2.2.2.2.2.2.2.2)).bind fun y4=>bif !y4.1 then some (.inr (.inl (y4.2.1,y4.2.2.1,x3.2.2.2.2.2.2.2.2.2.2.2.2.2.1,x3.2.2.2.2.2.2.2.2.2.2.2.2.2.2.1,x3.2.2.2.2.2.2.2.2.2.2.2.2.2.2.2.1,x3.2.2.2.2.2.2.2.2.2.2.2.2.2.2.2.2.1,x3.2.2.2.2.2.2.2.2.2.2.2.2.2.2.2.2.2.1,y4.2.2.2))) else some (.inl (x3.1,wrap64 (x3.2.1+e4),x3.2.2.1,x3.2.2.2.1,x3.2.2.2.2.1,x3.2.2.2.2.2.1,x3.2.2.2.2.2.2.1,x3.2.2.2.2.2.2.2.1,x3.2.2.2.2.2.2.2.2.1,x3.2.2.2.2.2.2.2.2.2.1,wrap64 (x3.2.2.2.2.2.2.2.2.2.2.1+1),y4.2.1,y4.2.2.1,x3.2.2.2.2.2.2.2.2.2.2.2.2.2.1,x3.2.2.2.2.2.2.2.2.2.2.2.2.2.2.1,x3.2.2.2.2.2.2.2.2.2.2.2.2.2.2.2.1,x3.2.2.2.2.2.2.2.2.2.2.2.2.2.2.2.2.1,x3.2.2.2.2.2.2.2.2.2.2.2.2.2.2.2.2.2.1,x3.2.2.2.2.2.2.2.2.2.2.2.2.2.2.2.2.2.2.1,y4.2.2.2)) else none else some (.inr (.inr (x3.1,x3.2.2.1,x3.2.2.2.1,x3.2.2.2.2.1,x3.2.2.2.2.2.1,x3.2.2.2.2.2.2.1,x3.2.2.2.2.2.2.2.1,x3.2.2.2.2.2.2.2.2.2.2.2)))) (x2.1,x2.1,x2.2.1,x2.2.2.1,x2.2.2.2.1,x2.2.2.2.2.1,x2.2.2.2.2.2.1,x2.2.2.2.2.2.2.1,e1,((e1.length:Nat):Int),0,x2.2.2.2.2.2.2.2)).bind (Sum.elim (fun(z5:Int×Int×ByteArray×Int×(List Wah)×Int×Int×LT4)=>some (.inr (.inl z5))) (fun(z6:Int×(List Wah)×Int×Int×Wah×Int×Int×Int×Int×ByteArray×Int×(List Wah)×Int×Int×Wah×LT4)=>some (.inl (z6.1,z6.2.1,z6.2.2.1,z6.2.2.2.1,z6.2.2.2.2.1,z6.2.2.2.2.2.1,wrap64 (z6.2.2.2.2.2.2.1+1),z6.2.2.2.2.2.2.2)))) else none else some (.inr (.inr (x2.1,x2.2.1,x2.2.2.1,x2.2.2.2.1,x2.2.2.2.2.2.2.2)))) (x1.1,x1.2.1,x1.2.2.1,x1.2.2.2.1,e0,((e0.length:Nat):Int),0,x1.2.2.2.2.1,x1.2.2.2.2.2.1,x1.2.2.2.2.2.2.1,x1.2.2.2.2.2.2.2.1,x1.2.2.2.2.2.2.2.2.1,x1.2.2.2.2.2.2.2.2.2.1,x1.2.2.2.2.2.2.2.2.2.2.1,e0,x1.2.2.2.2.2.2.2.2.2.2.2)).bind (Sum.elim (fun(z7:Int×Int×ByteArray×Int×(List Wah)×Int×Int×LT4)=>some (.inr (.inl z7))) (fun(z8:Int×(List Wah)×Int×Int×Int×Int×ByteArray×Int×(List Wah)×Int×Int×Wah×LT4)=>(qcz n z8.2.2.2.2.2.2.2.2.2.2.2.1).bind fun y9=>some (.inl (wrap64 (z8.1+y9),z8.2.1,z8.2.2.1,wrap64 (z8.2.2.2.1+1),z8.2.2.2.2.1,z8.2.2.2.2.2.1,z8.2.2.2.2.2.2.1,z8.2.2.2.2.2.2.2.1,z8.2.2.2.2.2.2.2.2.1,z8.2.2.2.2.2.2.2.2.2.1,z8.2.2.2.2.2.2.2.2.2.2.1,z8.2.2.2.2.2.2.2.2.2.2.2.2)))) else none else some (.inr (.inr x1.2.2.2.2))) (0,x0.2.2.2.2.1,((x0.2.2.2.2.1.length:Nat):Int),0,x0)).bind (Sum.elim (fun(z10:Int×Int×ByteArray×Int×(List Wah)×Int×Int×LT4)=>some z10) (fun(z11:Int×Int×ByteArray×Int×(List Wah)×Int×Int×LT4)=>some z11))
def p_qc3:Plan:=.two (.leaf) (.two (.leaf) (.one (.loop ⟨sO 48 [(0,.yld 1170 [.c (.box 1000000 0),.c (.box 1000001 0)]),(3,.c hI),(12,.c (hL 106)),(13,.c hI),(14,.c hI)],z7,z22⟩ [(.ret,⟨sO 48 [],z7,z22⟩),(.exit 0,⟨sO 48 [],z7,z22⟩)] (.two (.leaf) (.two (.leaf) (.two (.one (.two (.leaf) (.two (.two (.leaf) (.one (.loop ⟨sO 48 z13,z9,z22⟩ [(.ret,⟨sO 48 [],z7,z22⟩),(.exit 2,⟨sO 48 [(0,.yld 1170 [.c (.box 1000000 0),.c (.box 1000001 0)]),(3,.c hI),(5,.c (.box 5 0)),(12,.c (hL 106)),(13,.c hI),(14,.c hI)],z9,z22⟩)] (.two (.leaf) (.two (.leaf) (.two (.one (.two (.leaf) (.two (.leaf) (.two (.leaf) (.one (.loop ⟨sO 48 [(0,.yld 1170 [.c (.box 1000000 0),.c (.box 1000001 0)]),(3,.c hI),(5,.c (.box 5 0)),(8,.c hI),(12,.c (hL 106)),(13,.c hI),(14,.c hI),(19,.c (hL 107)),(20,.c hI),(21,.c hI),(26,.c (hL 110)),(27,.c hI),(28,.c hI)],z9,z22⟩ [(.ret,⟨sO 48 [],z7,z22⟩),(.exit 4,⟨sO 48 z13,z9,z22⟩)] (.leaf))))))) (.leaf))))))) (.leaf)))) (.leaf)))))))
noncomputable def c_qc3(n:Nat):Cx:=cX [(160,⟨Ww4,o_qcz,qcz n⟩)] [(1170,⟨h_qcw,o_qcw,qcw n⟩)] []
theorem d_qc3(n:Nat)(x:h_qc3.X T):denF (c_qc3 n) n Tryz.f217 p_qc3 h_qc3 o_qc3 x=qc3 n x:=by kernel_rfl
theorem s_qc3(n:Nat):PCalls Tryz.prog Θ 217 ⟨h_qc3,o_qc3,qc3 n⟩:=
 Waa (C:=c_qc3 n) (n:=n) (p:=p_qc3) (Wal mixed Wak ⟨s_qcz n,trivial⟩ ⟨s_qcw n,trivial⟩ trivial) Tryz.func217 (by kernel_rfl) (by kernel_rfl) (d_qc3 n) (by kernel_rfl)
def h_qce:Shape:=⟨sO 2 [(0,.c (hL 9)),(1,.c hS)],[],[]⟩
def o_qce:LT10:=[(.ret,⟨sO 1 [(0,.c hB)],[],[]⟩)]
def qce(n:Nat)(x0:LBy×ByteArray):Option (Bool):=(qcr n x0).bind fun y1=>some (decide (0≤y1))
def p_qce:Plan:=.leaf
noncomputable def c_qce(n:Nat):Cx:=cX [(156,⟨Ww1,o_qcr,qcr n⟩)] [] []
theorem d_qce(n:Nat)(x:h_qce.X T):denF (c_qce n) n Tryz.f220 p_qce h_qce o_qce x=qce n x:=by kernel_rfl
theorem s_qce(n:Nat):PCalls Tryz.prog Θ 220 ⟨h_qce,o_qce,qce n⟩:=
 Waa (C:=c_qce n) (n:=n) (p:=p_qce) (Wal mixed Wak ⟨s_qcr n,trivial⟩ trivial trivial) Tryz.func220 (by kernel_rfl) (by kernel_rfl) (d_qce n) (by kernel_rfl)
def h_qdh:Shape:=⟨sO 2 [(0,.agg [hS,hL 9,hI]),(1,.c (.box 1000000 0))],z6,[]⟩
def o_qdh:LT10:=[(.ret,⟨sO 1 [(0,.c hB)],z6,[]⟩)]
def qdh(n:Nat)(x0:ByteArray×LBy×Int×ByteArray):Option (Bool×ByteArray):=(qce n (x0.2.1,x0.2.2.2)).bind fun y1=>some (y1,x0.2.2.2)
def p_qdh:Plan:=.leaf
noncomputable def c_qdh(n:Nat):Cx:=cX [(220,⟨h_qce,o_qce,qce n⟩)] [] []
theorem d_qdh(n:Nat)(x:h_qdh.X T):denF (c_qdh n) n Tryz.f219 p_qdh h_qdh o_qdh x=qdh n x:=by kernel_rfl
theorem s_qdh(n:Nat):PCalls Tryz.prog Θ 219 ⟨h_qdh,o_qdh,qdh n⟩:=
 Waa (C:=c_qdh n) (n:=n) (p:=p_qdh) (Wal mixed Wak ⟨s_qce n,trivial⟩ trivial trivial) Tryz.func219 (by kernel_rfl) (by kernel_rfl) (d_qdh n) (by kernel_rfl)
def h_qco:Shape:=⟨sO 2 [(0,.c (hL 148)),(1,.c (.fn 219 [1000000]))],z6,[]⟩
def o_qco:LT10:=[(.ret,⟨sO 1 [(0,.c hI)],z6,[]⟩)]
def qco(n:Nat)(x0:LT9×ByteArray):Option (Int×ByteArray):=(Wao (Y:=(Int×ByteArray) ⊕ (ByteArray)) n (fun(x1:LT9×Int×Int×ByteArray)=>let e0:=atI (ByteArray.mk #[],[],0) x1.1 x1.2.2.1;let e1:=e0.2;bif decide (x1.2.2.1 < x1.2.1)then bif inB x1.2.2.1 x1.1.length then (qdh n (e0.1,e0.2.1,e0.2.2,x1.2.2.2)).bind fun y2=>bif y2.1 then some (.inr (.inl (x1.2.2.1,y2.2))) else some (.inl (x1.1,x1.2.1,wrap64 (x1.2.2.1+1),y2.2)) else none else some (.inr (.inr x1.2.2.2))) (x0.1,((x0.1.length:Nat):Int),0,x0.2)).bind (Sum.elim (fun(z3:Int×ByteArray)=>some z3) (fun(z4:ByteArray)=>some ((-1),z4)))
def p_qco:Plan:=.two (.leaf) (.two (.two (.leaf) (.one (.loop ⟨sO 19 [(0,.c (hL 148)),(1,.c (.fn 219 [1000000])),(7,.c hI),(8,.c hI)],z6,[]⟩ [(.ret,⟨sO 19 [(4,.c hI)],z6,[]⟩),(.exit 0,⟨sO 19 [],z6,[]⟩)] (.leaf)))) (.leaf))
noncomputable def c_qco(n:Nat):Cx:=cX [(219,⟨h_qdh,o_qdh,qdh n⟩)] [] []
theorem d_qco(n:Nat)(x:h_qco.X T):denF (c_qco n) n Tryz.f218 p_qco h_qco o_qco x=qco n x:=by kernel_rfl
theorem s_qco(n:Nat):PCalls Tryz.prog Θ 218 ⟨h_qco,o_qco,qco n⟩:=
 Waa (C:=c_qco n) (n:=n) (p:=p_qco) (Wal mixed Wak ⟨s_qdh n,trivial⟩ trivial trivial) Tryz.func218 (by kernel_rfl) (by kernel_rfl) (d_qco n) (by kernel_rfl)
def h_qdg:Shape:=⟨sO 2 [(0,.agg zc0),(1,.c hS)],[],[]⟩
def o_qdg:LT10:=[(.ret,⟨sO 1 [(0,.c hI)],[],[]⟩)]
def qdg(n:Nat)(x0:ByteArray×LT8×LT4×LT9×LLT0×LT3×Int×ByteArray):Option (Int):=(qco n (x0.2.2.2.1,x0.2.2.2.2.2.2.2)).bind fun y1=>some y1.1
def p_qdg:Plan:=.leaf
noncomputable def c_qdg(n:Nat):Cx:=cX [(218,⟨h_qco,o_qco,qco n⟩)] [] []
theorem d_qdg(n:Nat)(x:h_qdg.X T):denF (c_qdg n) n Tryz.f181 p_qdg h_qdg o_qdg x=qdg n x:=by kernel_rfl
theorem s_qdg(n:Nat):PCalls Tryz.prog Θ 181 ⟨h_qdg,o_qdg,qdg n⟩:=
 Waa (C:=c_qdg n) (n:=n) (p:=p_qdg) (Wal mixed Wak ⟨s_qco n,trivial⟩ trivial trivial) Tryz.func181 (by kernel_rfl) (by kernel_rfl) (d_qdg n) (by kernel_rfl)
def h_qcv:Shape:=⟨sO 2 [(0,.agg zc0),(1,.agg zc3)],[],[]⟩
def o_qcv:LT10:=[(.ret,⟨sO 2 [(0,.c (.row 0)),(1,.c hI)],[],[(0,196)]⟩)]
noncomputable def qcv(n:Nat)(x0:ByteArray×LT8×LT4×LT9×LLT0×LT3×Int×ByteArray×Int×(List Wah)×Int×Int):Option (Int×LT7):=(qcu n x0).bind fun y1=>bif !y1 then some (180,[]) else (qc0 n x0.2.2.2.2.2.2.2).bind fun y2=>(qc2 n x0.2.2.2.2.2.2.2).bind fun y3=>ifY Wmy ((qc3 n (y2.1,y2.2,y3.1,y3.2.1,y3.2.2.1,y3.2.2.2.1,y3.2.2.2.2,[])).bind fun y4=>(Wao (Y:=LT7) n (fun(x7:LT8×Int×Int×ByteArray×LT8×LT4×LT9×LLT0×LT3×Int×LT7×LT4)=>bif decide (x7.2.2.1 < x7.2.1)then bif inB x7.2.2.1 x7.1.length then (qdg n (x7.2.2.2.1,x7.2.2.2.2.1,x7.2.2.2.2.2.1,x7.2.2.2.2.2.2.1,x7.2.2.2.2.2.2.2.1,x7.2.2.2.2.2.2.2.2.1,x7.2.2.2.2.2.2.2.2.2.1,(atI (ByteArray.mk #[],0,0,0,0,0,0,0,0,0,0) x7.1 x7.2.2.1).1)).bind fun y8=>bif decide (0≤y8)then bif inB y8 x7.2.2.2.2.2.2.1.length then bif fitB (x7.2.2.2.2.2.2.2.2.2.2.1.length+(List.length (((atI (ByteArray.mk #[],0,0,0,0,0,0,0,0,0,0) x7.1 x7.2.2.1).1,(mfind (atI (ByteArray.mk #[],[],0) x7.2.2.2.2.2.2.1 y8).1 ((atI (ByteArray.mk #[],[],0) x7.2.2.2.2.2.2.1 y8).1,ByteArray.mk #[],0,0,0,0) x7.2.2.2.2.2.2.2.2.2.2.2).2.2)::[]))) 48 then some (.inl (x7.1,x7.2.1,wrap64 (x7.2.2.1+1),x7.2.2.2.1,x7.2.2.2.2.1,x7.2.2.2.2.2.1,x7.2.2.2.2.2.2.1,x7.2.2.2.2.2.2.2.1,x7.2.2.2.2.2.2.2.2.1,x7.2.2.2.2.2.2.2.2.2.1,x7.2.2.2.2.2.2.2.2.2.2.1++(((atI (ByteArray.mk #[],0,0,0,0,0,0,0,0,0,0) x7.1 x7.2.2.1).1,(mfind (atI (ByteArray.mk #[],[],0) x7.2.2.2.2.2.2.1 y8).1 ((atI (ByteArray.mk #[],[],0) x7.2.2.2.2.2.2.1 y8).1,ByteArray.mk #[],0,0,0,0) x7.2.2.2.2.2.2.2.2.2.2.2).2.2)::[]),x7.2.2.2.2.2.2.2.2.2.2.2)) else none else none else bif fitB (x7.2.2.2.2.2.2.2.2.2.2.1.length+(List.length (((atI (ByteArray.mk #[],0,0,0,0,0,0,0,0,0,0) x7.1 x7.2.2.1).1,0,0,0,0)::[]))) 48 then some (.inl (x7.1,x7.2.1,wrap64 (x7.2.2.1+1),x7.2.2.2.1,x7.2.2.2.2.1,x7.2.2.2.2.2.1,x7.2.2.2.2.2.2.1,x7.2.2.2.2.2.2.2.1,x7.2.2.2.2.2.2.2.2.1,x7.2.2.2.2.2.2.2.2.2.1,x7.2.2.2.2.2.2.2.2.2.2.1++(((atI (ByteArray.mk #[],0,0,0,0,0,0,0,0,0,0) x7.1 x7.2.2.1).1,0,0,0,0)::[]),x7.2.2.2.2.2.2.2.2.2.2.2)) else none else none else some (.inr x7.2.2.2.2.2.2.2.2.2.2.1)) (x0.2.1,((x0.2.1.length:Nat):Int),0,x0.1,x0.2.1,x0.2.2.1,x0.2.2.2.1,x0.2.2.2.2.1,x0.2.2.2.2.2.1,x0.2.2.2.2.2.2.1,[],y4.2.2.2.2.2.2.2)).bind fun(z9:LT7)=>some (0,z9))
def p_qcv:Plan:=.two (.leaf) (.two (.leaf) (.two (.leaf) (.two (.leaf) (.two (.two (.leaf) (.one (.range 1170 [6,7]))) (.two (.leaf) (.two (.two (.leaf) (.one (.loop ⟨sO 90 [(2,.c (.box 2 0)),(7,.c (.box 7 0)),(13,.c (.row 87)),(61,.c (hL 144)),(62,.c hI),(63,.c hI)],[(2,89,zc0),(7,258,[.row 24])],[(87,196),(24,1000517)]⟩ [(.exit 2,⟨sO 90 [(13,.c (.row 87))],[],[(87,196)]⟩)] (.leaf)))) (.leaf)))))))
noncomputable def c_qcv(n:Nat):Cx:=cX [(47,⟨Ww6,o_qcu,qcu n⟩),(178,⟨h_qc0,o_qc0,qc0 n⟩),(179,⟨h_qc2,o_qc2,qc2 n⟩),(217,⟨h_qc3,o_qc3,qc3 n⟩),(181,⟨h_qdg,o_qdg,qdg n⟩)] [] []
theorem d_qcv(n:Nat)(x:h_qcv.X T):denF (c_qcv n) n Tryz.f117 p_qcv h_qcv o_qcv x=qcv n x:=by kernel_rfl
theorem s_qcv(n:Nat):PCalls Tryz.prog Θ 117 ⟨h_qcv,o_qcv,qcv n⟩:=
 Waa (C:=c_qcv n) (n:=n) (p:=p_qcv) (Wal mixed Wak ⟨s_qcu n,s_qc0 n,s_qc2 n,s_qc3 n,s_qdg n,trivial⟩ trivial trivial) Tryz.func117 (by kernel_rfl) (by kernel_rfl) (d_qcv n) (by kernel_rfl)
end Go.Proofs.YtalbenehgdkalaaGreat.Fn