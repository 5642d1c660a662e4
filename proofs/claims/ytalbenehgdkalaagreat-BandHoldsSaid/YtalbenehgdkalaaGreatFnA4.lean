/- Texts of the proof. -/
import Derived.Test.YtalbenehgdkalaaGreatFnA3
namespace Go.Proofs.YtalbenehgdkalaaGreat.Fn
set_option maxRecDepth 100000
open Go Go.RowKit Go.Den
def h_qer:Shape:=⟨sO 2 z41,[],[]⟩
def o_qer:LT10:=[(.ret,⟨sO 1 [(0,.c hB)],[],[]⟩)]
noncomputable def qer(n:Nat)(x0:Int×Int×Int×Int×Int×LT14×LT2×Int×Int×Int×(List (ByteArray×Int×(List Wai)×Int×Int))×T17):Option (Bool):=(qd7 n (x0.1,x0.2.1,x0.2.2.1,x0.2.2.2.1,x0.2.2.2.2.1,x0.2.2.2.2.2.1,x0.2.2.2.2.2.2.1,x0.2.2.2.2.2.2.2.1,x0.2.2.2.2.2.2.2.2.1)).bind fun y1=>bif !(y1.1==0)then some false else (qdc n (x0.2.2.2.2.2.1,x0.2.2.2.2.2.2.2.2.2.2.1)).bind fun y2=>some y2
def p_qer:Plan:=.leaf
noncomputable def c_qer(n:Nat):Cx:=cX [(44,⟨h_qd7,o_qd7,qd7 n⟩),(45,⟨h_qdc,o_qdc,qdc n⟩)] [] []
theorem d_qer(n:Nat)(x:h_qer.X T):denF (c_qer n) n Tryz.f15 p_qer h_qer o_qer x=qer n x:=by kernel_rfl
theorem s_qer(n:Nat):PCalls Tryz.prog Θ 15 ⟨h_qer,o_qer,qer n⟩:=
 Wac (C:=c_qer n) (n:=n) (p:=p_qer) (Wam mixed Wal ⟨s_qd7 n,s_qdc n,trivial⟩ trivial trivial) Tryz.func15 (by kernel_rfl) (by kernel_rfl) (d_qer n) (by kernel_rfl)
def h_qaj:Shape:=⟨sO 2 [(0,.agg zc3),(1,.c (.box 1000000 0))],z42,[]⟩
def o_qaj:LT10:=[(.ret,⟨sO 1 [(0,.c hB)],z42,[]⟩)]
def qaj(n:Nat)(x0:ByteArray×Int×(List Wai)×Int×Int×Int×(List (ByteArray×Int×(List Wai)×Int×Int))×T17):Option (Bool×Int×(List (ByteArray×Int×(List Wai)×Int×Int))×T17):=(qds n (x0.1,x0.2.1,x0.2.2.1,x0.2.2.2.1,x0.2.2.2.2.1)).bind fun y1=>some (!(y1==x0.2.2.2.2.2.1),x0.2.2.2.2.2)
def p_qaj:Plan:=.leaf
noncomputable def c_qaj(n:Nat):Cx:=cX [(96,⟨Wvt,Wy1,qds n⟩)] [] []
theorem d_qaj(n:Nat)(x:h_qaj.X T):denF (c_qaj n) n Tryz.f113 p_qaj h_qaj o_qaj x=qaj n x:=by kernel_rfl
theorem s_qaj(n:Nat):PCalls Tryz.prog Θ 113 ⟨h_qaj,o_qaj,qaj n⟩:=
 Wac (C:=c_qaj n) (n:=n) (p:=p_qaj) (Wam mixed Wal ⟨s_qds n,trivial⟩ trivial trivial) Tryz.func113 (by kernel_rfl) (by kernel_rfl) (d_qaj n) (by kernel_rfl)
def h_qde:Shape:=⟨sO 2 [(0,.c (hL 53)),(1,.c (.fn 113 [1000000]))],z42,[]⟩
def o_qde:LT10:=[(.ret,⟨sO 1 [(0,.c hI)],z42,[]⟩)]
def qde(n:Nat)(x0:(List (ByteArray×Int×(List Wai)×Int×Int))×Int×(List (ByteArray×Int×(List Wai)×Int×Int))×T17):Option (Int×Int×(List (ByteArray×Int×(List Wai)×Int×Int))×T17):=(Wao (Y:=(Int×Int×(List (ByteArray×Int×(List Wai)×Int×Int))×Int×Int×Int×Int×Bool×Int) ⊕ (Int×(List (ByteArray×Int×(List Wai)×Int×Int))×Int×Int×Int×Int×Bool×Int)) n (fun(x1:(List (ByteArray×Int×(List Wai)×Int×Int))×Int×Int×Int×(List (ByteArray×Int×(List Wai)×Int×Int))×T17)=>let e0:=atI (ByteArray.mk #[],0,[],0,0) x1.1 x1.2.2.1;let e1:=e0.2;let e2:=e0.2.2;let e3:=e0.2.2.2;bif decide (x1.2.2.1 < x1.2.1)then bif inB x1.2.2.1 x1.1.length then (qaj n (e0.1,e0.2.1,e0.2.2.1,e0.2.2.2.1,e0.2.2.2.2,x1.2.2.2)).bind fun y2=>bif y2.1 then some (.inr (.inl (x1.2.2.1,y2.2))) else some (.inl (x1.1,x1.2.1,wrap64 (x1.2.2.1+1),y2.2)) else none else some (.inr (.inr x1.2.2.2))) (x0.1,((x0.1.length:Nat):Int),0,x0.2)).bind (Sum.elim (fun(z3:Int×Int×(List (ByteArray×Int×(List Wai)×Int×Int))×T17)=>some z3) (fun(z4:Int×(List (ByteArray×Int×(List Wai)×Int×Int))×T17)=>some ((-1),z4)))
def p_qde:Plan:=.two (.leaf) (.two (.two (.leaf) (.one (.loop ⟨sO 19 [(0,.c (hL 53)),(1,.c (.fn 113 [1000000])),(7,.c hI),(8,.c hI)],z42,[]⟩ [(.ret,⟨sO 19 [(4,.c hI)],z42,[]⟩),(.exit 0,⟨sO 19 [],z42,[]⟩)] (.leaf)))) (.leaf))
noncomputable def c_qde(n:Nat):Cx:=cX [(113,⟨h_qaj,o_qaj,qaj n⟩)] [] []
theorem d_qde(n:Nat)(x:h_qde.X T):denF (c_qde n) n Tryz.f176 p_qde h_qde o_qde x=qde n x:=by kernel_rfl
theorem s_qde(n:Nat):PCalls Tryz.prog Θ 176 ⟨h_qde,o_qde,qde n⟩:=
 Wac (C:=c_qde n) (n:=n) (p:=p_qde) (Wam mixed Wal ⟨s_qaj n,trivial⟩ trivial trivial) Tryz.func176 (by kernel_rfl) (by kernel_rfl) (d_qde n) (by kernel_rfl)
def h_qc4:Shape:=⟨sO 2 [(0,.c (hL 53)),(1,.c (.fn 113 [1000000]))],z42,[]⟩
def o_qc4:LT10:=[(.ret,⟨sO 1 [(0,.c hB)],z42,[]⟩)]
def qc4(n:Nat)(x0:(List (ByteArray×Int×(List Wai)×Int×Int))×Int×(List (ByteArray×Int×(List Wai)×Int×Int))×T17):Option (Bool×Int×(List (ByteArray×Int×(List Wai)×Int×Int))×T17):=(qde n x0).bind fun y1=>some (decide (0≤y1.1),y1.2)
def p_qc4:Plan:=.leaf
noncomputable def c_qc4(n:Nat):Cx:=cX [(176,⟨h_qde,o_qde,qde n⟩)] [] []
theorem d_qc4(n:Nat)(x:h_qc4.X T):denF (c_qc4 n) n Tryz.f112 p_qc4 h_qc4 o_qc4 x=qc4 n x:=by kernel_rfl
theorem s_qc4(n:Nat):PCalls Tryz.prog Θ 112 ⟨h_qc4,o_qc4,qc4 n⟩:=
 Wac (C:=c_qc4 n) (n:=n) (p:=p_qc4) (Wam mixed Wal ⟨s_qde n,trivial⟩ trivial trivial) Tryz.func112 (by kernel_rfl) (by kernel_rfl) (d_qc4 n) (by kernel_rfl)
def h_qai:Shape:=⟨sO 2 z41,[],[]⟩
def o_qai:LT10:=[(.ret,⟨sO 1 [(0,.c hB)],[],[]⟩)]
noncomputable def qai(n:Nat)(x0:Int×Int×Int×Int×Int×LT14×LT2×Int×Int×Int×(List (ByteArray×Int×(List Wai)×Int×Int))×T17):Option (Bool):=(qer n x0).bind fun y1=>bif y1 then (qc4 n (x0.2.2.2.2.2.2.2.2.2.2.1,x0.2.2.2.2.2.2.2.2.2)).bind fun y2=>some (!y2.1) else some false
def p_qai:Plan:=.leaf
noncomputable def c_qai(n:Nat):Cx:=cX [(15,⟨h_qer,o_qer,qer n⟩),(112,⟨h_qc4,o_qc4,qc4 n⟩)] [] []
theorem d_qai(n:Nat)(x:h_qai.X T):denF (c_qai n) n Tryz.f61 p_qai h_qai o_qai x=qai n x:=by kernel_rfl
theorem s_qai(n:Nat):PCalls Tryz.prog Θ 61 ⟨h_qai,o_qai,qai n⟩:=
 Wac (C:=c_qai n) (n:=n) (p:=p_qai) (Wam mixed Wal ⟨s_qer n,s_qc4 n,trivial⟩ trivial trivial) Tryz.func61 (by kernel_rfl) (by kernel_rfl) (d_qai n) (by kernel_rfl)
def h_qc1:Shape:=⟨sO 1 [(0,.c (hL 78))],[],[]⟩
def o_qc1:LT10:=[(.ret,⟨sO 1 [(0,.c (.fn 177 [0]))],[(0,25,[hL 78])],[]⟩)]
def qc1(n:Nat)(x0:LT2):Option (LT2):=some x0
def p_qc1:Plan:=.leaf
noncomputable def c_qc1(n:Nat):Cx:=cX [] [] []
theorem d_qc1(n:Nat)(x:h_qc1.X T):denF (c_qc1 n) n Tryz.f114 p_qc1 h_qc1 o_qc1 x=qc1 n x:=by kernel_rfl
theorem s_qc1(n:Nat):PCalls Tryz.prog Θ 114 ⟨h_qc1,o_qc1,qc1 n⟩:=
 Wac (C:=c_qc1 n) (n:=n) (p:=p_qc1) (Wam mixed Wal trivial trivial trivial) Tryz.func114 (by kernel_rfl) (by kernel_rfl) (d_qc1 n) (by kernel_rfl)
def h_qaf:Shape:=⟨sO 4 [(0,.c hI),(1,.agg zc7),(2,.c (.box 1000000 0)),(3,.c (.box 1000001 0))],[(1000000,35,[.row 1000000]),(1000001,2,[hI])],[(1000000,2)]⟩
def o_qaf:LT10:=[(.ret,⟨sO 1 [(0,.c hB)],[(1000000,35,[.row 1000000]),(1000001,2,[hI])],[(1000000,2)]⟩)]
noncomputable def R_620:Rng:=rng Tryz.f62 0 [5,6]
def Wsb:Prop:=Θ.Y 620=some R_620
def qaf(n:Nat)(x0:Int×ByteArray×ByteArray×ByteArray×Int×Int×Int×Int×LIn):Option (Bool×Int×LIn):=bif inB x0.1 x0.2.2.2.2.2.2.2.2.length then some (true,wrap64 (x0.2.2.2.2.2.2.2.1+x0.2.2.2.2.2.1),List.set x0.2.2.2.2.2.2.2.2 (Int.toNat x0.1) x0.2.2.2.2.2.2.2.1) else none
def p_qaf:Plan:=.leaf
noncomputable def c_qaf(n:Nat):Cx:=cX [] [] []
theorem d_qaf(n:Nat)(x:h_qaf.X T):denY (c_qaf n) n R_620 p_qaf h_qaf o_qaf x=qaf n x:=by kernel_rfl
theorem Wtz:Wsb:=by unfold Wsb;kernel_rfl
theorem s_qaf(n:Nat):PYields Tryz.prog Θ 620 ⟨h_qaf,o_qaf,qaf n⟩:=
 Wpe (C:=c_qaf n) (n:=n) (R:=R_620) (p:=p_qaf) (Wam mixed Wal trivial trivial trivial) Wtz (by kernel_rfl) (by kernel_rfl) (by kernel_rfl) (by kernel_rfl) (d_qaf n)
def h_qc0:Shape:=⟨sO 2 [(0,.yld 620 [.c (.box 1000000 0),.c (.box 1000001 0)]),(1,.c (.box 1000002 0))],z11,[(1000000,2)]⟩
def o_qc0:LT10:=[(.ret,⟨sO 0 [],z11,[(1000000,2)]⟩)]
def qc0(n:Nat)(x0:Int×LT2×LIn):Option (Int×LT2×LIn):=(Wao (Y:=(Int×LT2×LIn) ⊕ (Int×LT2×LIn)) n (fun(x1:Int×Int×LT2×LIn)=>let e0:=atI (ByteArray.mk #[],ByteArray.mk #[],ByteArray.mk #[],0,0,0) x1.2.2.1 x1.1;let e1:=e0.2;let e2:=e0.2.2;let e3:=e0.2.2.2;let e4:=e0.2.2.2.2;bif decide (0≤x1.1)then bif inB x1.1 x1.2.2.1.length then (qaf n (x1.1,e0.1,e0.2.1,e0.2.2.1,e0.2.2.2.1,e0.2.2.2.2.1,e0.2.2.2.2.2,x1.2.1,x1.2.2.2)).bind fun y2=>bif !y2.1 then some (.inr (.inl (y2.2.1,x1.2.2.1,y2.2.2))) else some (.inl (wrap64 (x1.1 - 1),y2.2.1,x1.2.2.1,y2.2.2)) else none else some (.inr (.inr x1.2))) (wrap64 (((x0.2.1.length:Nat):Int) - 1),x0)).bind (Sum.elim (fun(z3:Int×LT2×LIn)=>some z3) (fun(z4:Int×LT2×LIn)=>some z4))
def p_qc0:Plan:=.two (.leaf) (.one (.loop ⟨sO 19 [(0,.yld 620 [.c (.box 1000000 0),.c (.box 1000001 0)]),(1,.c (.box 1000002 0)),(3,.c hI)],z11,[(1000000,2)]⟩ [(.ret,⟨sO 19 [],z11,[(1000000,2)]⟩),(.exit 0,⟨sO 19 [],z11,[(1000000,2)]⟩)] (.leaf)))
noncomputable def c_qc0(n:Nat):Cx:=cX [] [(620,⟨h_qaf,o_qaf,qaf n⟩)] []
theorem d_qc0(n:Nat)(x:h_qc0.X T):denF (c_qc0 n) n Tryz.f177 p_qc0 h_qc0 o_qc0 x=qc0 n x:=by kernel_rfl
theorem s_qc0(n:Nat):PCalls Tryz.prog Θ 177 ⟨h_qc0,o_qc0,qc0 n⟩:=
 Wac (C:=c_qc0 n) (n:=n) (p:=p_qc0) (Wam mixed Wal trivial ⟨s_qaf n,trivial⟩ trivial) Tryz.func177 (by kernel_rfl) (by kernel_rfl) (d_qc0 n) (by kernel_rfl)
def h_qae:Shape:=⟨sO 2 [(0,.c (hL 78)),(1,.c hB)],[],[]⟩
def o_qae:LT10:=[(.ret,⟨sO 1 z36,[],[(0,2)]⟩)]
noncomputable def qae(n:Nat)(x0:LT2×Bool):Option (List Int):=let e0:=((x0.1.length:Nat):Int);bif e0==e0&&decide (0≤e0)&&decide (e0 * 8≤281474976710656)then bif !x0.2 then (Wao (Y:=LIn) n (fun(x1:LT2×Int×Int×Int×LIn)=>let e1:=wrap64 (x1.2.2.2.1+(atI (ByteArray.mk #[],ByteArray.mk #[],ByteArray.mk #[],0,0,0) x1.1 x1.2.2.1).2.2.2.1);bif decide (x1.2.2.1 < x1.2.1)then bif inB x1.2.2.1 x1.1.length then bif inB x1.2.2.1 x1.2.2.2.2.length then some (.inl (x1.1,x1.2.1,wrap64 (x1.2.2.1+1),e1,List.set x1.2.2.2.2 (Int.toNat x1.2.2.1) e1)) else none else none else some (.inr x1.2.2.2.2)) (x0.1,e0,0,0,List.replicate (Int.toNat e0) 0)).bind fun(z2:List Int)=>some z2 else (qc1 n x0.1).bind fun y3=>ifY Wsb ((qc0 n (0,y3,List.replicate (Int.toNat e0) 0)).bind fun y4=>some y4.2.2) else none
def p_qae:Plan:=.two (.leaf) (.two (.leaf) (.two (.leaf) (.two (.two (.leaf) (.two (.two (.two (.leaf) (.one (.loop ⟨sO 46 [(5,.c (.box 5 0)),(6,.c (.box 6 0)),(16,.c (hL 78)),(17,.c hI),(18,.c hI)],[(5,35,[.row 13]),(6,2,[hI])],[(13,2)]⟩ [(.exit 0,⟨sO 46 [(5,.c (.box 5 0))],[(5,35,[.row 13])],[(13,2)]⟩)] (.leaf)))) (.leaf)) (.leaf))) (.two (.two (.leaf) (.one (.range 620 [5,6]))) (.leaf)))))
noncomputable def c_qae(n:Nat):Cx:=cX [(114,⟨h_qc1,o_qc1,qc1 n⟩),(177,⟨h_qc0,o_qc0,qc0 n⟩)] [] []
theorem d_qae(n:Nat)(x:h_qae.X T):denF (c_qae n) n Tryz.f62 p_qae h_qae o_qae x=qae n x:=by kernel_rfl
theorem s_qae(n:Nat):PCalls Tryz.prog Θ 62 ⟨h_qae,o_qae,qae n⟩:=
 Wac (C:=c_qae n) (n:=n) (p:=p_qae) (Wam mixed Wal ⟨s_qc1 n,s_qc0 n,trivial⟩ trivial trivial) Tryz.func62 (by kernel_rfl) (by kernel_rfl) (d_qae n) (by kernel_rfl)
def h_qet:Shape:=⟨sO 2 z14,[],[]⟩
def o_qet:LT10:=[(.ret,⟨sO 2 z14,[],[]⟩)]
def qet(n:Nat)(x0:Int×Int):Option (Int×Int):=let e0:=Int.tmod x0.1 x0.2;bif decide (x0.2 < 1)then some (0,1) else bif !(x0.2==0)then bif decide (e0 < 0)then some (wrap64 (e0+x0.2),0) else some (e0,0) else none
def p_qet:Plan:=.leaf
noncomputable def c_qet(n:Nat):Cx:=cX [] [] []
theorem d_qet(n:Nat)(x:h_qet.X T):denF (c_qet n) n Tryz.f186 p_qet h_qet o_qet x=qet n x:=by kernel_rfl
theorem s_qet(n:Nat):PCalls Tryz.prog Θ 186 ⟨h_qet,o_qet,qet n⟩:=
 Wac (C:=c_qet n) (n:=n) (p:=p_qet) (Wam mixed Wal trivial trivial trivial) Tryz.func186 (by kernel_rfl) (by kernel_rfl) (d_qet n) (by kernel_rfl)
def Wyu:Shape:=⟨sO 2 z14,[],[]⟩
def o_qay:LT10:=[(.ret,⟨sO 1 [(0,.c hI)],[],[]⟩)]
def qay(n:Nat)(x0:Int×Int):Option (Int):=(qet n x0).bind fun y1=>some y1.1
def p_qay:Plan:=.leaf
noncomputable def c_qay(n:Nat):Cx:=cX [(186,⟨h_qet,o_qet,qet n⟩)] [] []
theorem d_qay(n:Nat)(x:Wyu.X T):denF (c_qay n) n Tryz.f124 p_qay Wyu o_qay x=qay n x:=by kernel_rfl
theorem s_qay(n:Nat):PCalls Tryz.prog Θ 124 ⟨Wyu,o_qay,qay n⟩:=
 Wac (C:=c_qay n) (n:=n) (p:=p_qay) (Wam mixed Wal ⟨s_qet n,trivial⟩ trivial trivial) Tryz.func124 (by kernel_rfl) (by kernel_rfl) (d_qay n) (by kernel_rfl)
def Wyv:Shape:=⟨sO 1 [(0,.c hI)],[],[]⟩
def o_qax:LT10:=[(.ret,⟨sO 1 [(0,.c hB)],[],[]⟩)]
def qax(n:Nat)(x0:Int):Option (Bool):=bif decide (1≤x0)then some (decide (x0≤6000)) else some false
def p_qax:Plan:=.leaf
noncomputable def c_qax(n:Nat):Cx:=cX [] [] []
theorem d_qax(n:Nat)(x:Wyv.X T):denF (c_qax n) n Tryz.f127 p_qax Wyv o_qax x=qax n x:=by kernel_rfl
theorem s_qax(n:Nat):PCalls Tryz.prog Θ 127 ⟨Wyv,o_qax,qax n⟩:=
 Wac (C:=c_qax n) (n:=n) (p:=p_qax) (Wam mixed Wal trivial trivial trivial) Tryz.func127 (by kernel_rfl) (by kernel_rfl) (d_qax n) (by kernel_rfl)
def Wsc:Shape:=⟨sO 2 [(0,.c hI),(1,.agg [hI,hI])],[],[]⟩
def Wvr:LT10:=[(.ret,⟨sO 1 z5,[],[]⟩)]
def qam(n:Nat)(x0:T20):Option (Int×Int):=letJ (fun(x2:Int×Bool×Int×T20)=>bif x2.2.1 then some (0,0) else bif decide (x2.1≤x2.2.2.2.1)then some (0,x2.1) else (qay n (x2.2.2.1,x2.1)).bind fun y4=>some (y4,x2.2.2.2.1)) fun J3=>(qax n x0.1).bind fun y1=>bif !y1 then J3 (x0.1,true,x0.2.1,x0.2.2,0,0) else J3 (x0.1,decide (x0.2.2 < 1),x0.2.1,x0.2.2,0,0)
def p_qam:Plan:=.two (.leaf) (.two (.one (.two (.join ⟨sO 29 [(0,.c hI),(3,.c (.box 3 0)),(4,.c (.box 4 0)),(5,.c hB)],[(3,116,[hI,hI]),(4,116,[hI,hI])],[]⟩ (.leaf)) (.leaf))) (.leaf))
noncomputable def c_qam(n:Nat):Cx:=cX [(127,⟨Wyv,o_qax,qax n⟩),(124,⟨Wyu,o_qay,qay n⟩)] [] []
theorem d_qam(n:Nat)(x:Wsc.X T):denF (c_qam n) n Tryz.f123 p_qam Wsc Wvr x=qam n x:=by kernel_rfl
theorem s_qam(n:Nat):PCalls Tryz.prog Θ 123 ⟨Wsc,Wvr,qam n⟩:=
 Wac (C:=c_qam n) (n:=n) (p:=p_qam) (Wam mixed Wal ⟨s_qax n,s_qay n,trivial⟩ trivial trivial) Tryz.func123 (by kernel_rfl) (by kernel_rfl) (d_qam n) (by kernel_rfl)
def h_qdv:Shape:=⟨sO 1 [(0,.agg zc3)],[],[]⟩
def o_qdv:LT10:=[(.ret,⟨sO 1 z5,[],[]⟩)]
def qdv(n:Nat)(x0:ByteArray×Int×(List Wai)×Int×Int):Option (Int×Int):=(qds n x0).bind fun y1=>(qam n (y1,x0.2.1,1)).bind fun y2=>bif !(y1==0)then some (y1,Int.tmod y2.1 y1) else none
def p_qdv:Plan:=.leaf
noncomputable def c_qdv(n:Nat):Cx:=cX [(96,⟨Wvt,Wy1,qds n⟩),(123,⟨Wsc,Wvr,qam n⟩)] [] []
theorem d_qdv(n:Nat)(x:h_qdv.X T):denF (c_qdv n) n Tryz.f178 p_qdv h_qdv o_qdv x=qdv n x:=by kernel_rfl
theorem s_qdv(n:Nat):PCalls Tryz.prog Θ 178 ⟨h_qdv,o_qdv,qdv n⟩:=
 Wac (C:=c_qdv n) (n:=n) (p:=p_qdv) (Wam mixed Wal ⟨s_qds n,s_qam n,trivial⟩ trivial trivial) Tryz.func178 (by kernel_rfl) (by kernel_rfl) (d_qdv n) (by kernel_rfl)
def h_qdx:Shape:=⟨sO 1 [(0,.agg zc3)],[],[]⟩
def o_qdx:LT10:=[(.ret,⟨sO 1 [(0,.c (.fn 217 [0]))],[(0,53,zc3)],[]⟩)]
def qdx(n:Nat)(x0:ByteArray×Int×(List Wai)×Int×Int):Option (ByteArray×Int×(List Wai)×Int×Int):=some x0
def p_qdx:Plan:=.leaf
noncomputable def c_qdx(n:Nat):Cx:=cX [] [] []
theorem d_qdx(n:Nat)(x:h_qdx.X T):denF (c_qdx n) n Tryz.f179 p_qdx h_qdx o_qdx x=qdx n x:=by kernel_rfl
theorem s_qdx(n:Nat):PCalls Tryz.prog Θ 179 ⟨h_qdx,o_qdx,qdx n⟩:=
 Wac (C:=c_qdx n) (n:=n) (p:=p_qdx) (Wam mixed Wal trivial trivial trivial) Tryz.func179 (by kernel_rfl) (by kernel_rfl) (d_qdx n) (by kernel_rfl)
def h_qdt:Shape:=⟨sO 3 [(0,.agg [hI,hI]),(1,.c hI),(2,.c hI)],[],[]⟩
def o_qdt:LT10:=[(.ret,⟨sO 1 z5,[],[]⟩)]
def qdt(n:Nat)(x0:Int×T20):Option (Int×Int):=(qam n (x0.1,wrap64 (x0.2.1+x0.2.2.1),x0.2.2.2)).bind fun y1=>some y1
def p_qdt:Plan:=.leaf
noncomputable def c_qdt(n:Nat):Cx:=cX [(123,⟨Wsc,Wvr,qam n⟩)] [] []
theorem d_qdt(n:Nat)(x:h_qdt.X T):denF (c_qdt n) n Tryz.f180 p_qdt h_qdt o_qdt x=qdt n x:=by kernel_rfl
theorem s_qdt(n:Nat):PCalls Tryz.prog Θ 180 ⟨h_qdt,o_qdt,qdt n⟩:=
 Wac (C:=c_qdt n) (n:=n) (p:=p_qdt) (Wam mixed Wal ⟨s_qam n,trivial⟩ trivial trivial) Tryz.func180 (by kernel_rfl) (by kernel_rfl) (d_qdt n) (by kernel_rfl)
def h_qdr:Shape:=⟨sO 4 [(0,.agg zc5),(1,.c hI),(2,.c (.box 1000000 0)),(3,.c (.box 1000001 0))],[(1000000,256,[hI,hI]),(1000001,258,[.row 1000000])],z25⟩
def o_qdr:LT10:=[(.ret,⟨sO 1 [(0,.c hB)],[(1000000,256,[hI,hI]),(1000001,258,[.row 1000000])],z25⟩)]
noncomputable def Wyw:Rng:=rng Tryz.f117 0 [6,7]
def Wny:Prop:=Θ.Y 1170=some Wyw
def qdr(n:Nat)(x0:ByteArray×Int×Int×Int×LT6×Int×Int×Int×LT4):Option (Bool×Int×Int×LT4):=let e0:=wrap64 ((wrap64 (x0.2.1 - x0.2.2.1)) - x0.2.2.2.1);bif mhas x0.1 x0.2.2.2.2.2.2.2.2 then some (true,x0.2.2.2.2.2.2) else (qdt n (x0.2.2.2.2.2.2.1,x0.2.2.2.2.2.2.2.1,x0.2.2.2.2.2.1,e0)).bind fun y1=>(qdt n (x0.2.2.2.2.2.2.1,x0.2.2.2.2.2.2.2.1,wrap64 (x0.2.2.2.2.2.1+e0),x0.2.2.1)).bind fun y2=>some (true,x0.2.2.2.2.2.2.1,x0.2.2.2.2.2.2.2.1,mput x0.1 (x0.1,ByteArray.mk #[],y1.1,y1.2,y2) x0.2.2.2.2.2.2.2.2)
def p_qdr:Plan:=.leaf
noncomputable def c_qdr(n:Nat):Cx:=cX [(180,⟨h_qdt,o_qdt,qdt n⟩)] [] []
theorem d_qdr(n:Nat)(x:h_qdr.X T):denY (c_qdr n) n Wyw p_qdr h_qdr o_qdr x=qdr n x:=by kernel_rfl
theorem Wpx:Wny:=by unfold Wny;kernel_rfl
theorem s_qdr(n:Nat):PYields Tryz.prog Θ 1170 ⟨h_qdr,o_qdr,qdr n⟩:=
 Wpe (C:=c_qdr n) (n:=n) (R:=Wyw) (p:=p_qdr) (Wam mixed Wal ⟨s_qdt n,trivial⟩ trivial trivial) Wpx (by kernel_rfl) (by kernel_rfl) (by kernel_rfl) (by kernel_rfl) (d_qdr n)
def h_qdy:Shape:=⟨sO 2 [(0,.yld 1170 [.c (.box 1000000 0),.c (.box 1000001 0)]),(1,.c (.box 1000002 0))],z7,z25⟩
def o_qdy:LT10:=[(.ret,⟨sO 0 [],z7,z25⟩)]
def qdy(n:Nat)(x0:Int×Int×ByteArray×Int×(List Wai)×Int×Int×LT4):Option (Int×Int×ByteArray×Int×(List Wai)×Int×Int×LT4):=(Wao (Y:=(Int×Int×ByteArray×Int×(List Wai)×Int×Int×LT4) ⊕ (Int×Int×ByteArray×Int×(List Wai)×Int×Int×LT4)) n (fun(x1:Int×(List Wai)×Int×Int×Int×Int×ByteArray×Int×(List Wai)×Int×Int×LT4)=>let e0:=atI [] x1.2.1 x1.2.2.2.1;bif decide (x1.2.2.2.1 < x1.2.2.1)then bif inB x1.2.2.2.1 x1.2.1.length then (Wao (Y:=(Int×Int×ByteArray×Int×(List Wai)×Int×Int×LT4) ⊕ (Int×(List Wai)×Int×Int×Int×Int×ByteArray×Int×(List Wai)×Int×Int×Wai×LT4)) n (fun(x2:Int×(List Wai)×Int×Int×Wai×Int×Int×Int×Int×ByteArray×Int×(List Wai)×Int×Int×Wai×LT4)=>let e1:=atI [] x2.2.2.2.2.1 x2.2.2.2.2.2.2.1;bif decide (x2.2.2.2.2.2.2.1 < x2.2.2.2.2.2.1)then bif inB x2.2.2.2.2.2.2.1 x2.2.2.2.2.1.length then (Wao (Y:=(Int×Int×ByteArray×Int×(List Wai)×Int×Int×LT4) ⊕ (Int×(List Wai)×Int×Int×Wai×Int×Int×Int×Int×ByteArray×Int×(List Wai)×Int×Int×Wai×LT4)) n (fun(x3:Int×Int×(List Wai)×Int×Int×Wai×Int×Int×LT13×Int×Int×Int×Int×ByteArray×Int×(List Wai)×Int×Int×Wai×LT4)=>let e2:=atI (ByteArray.mk #[],0,0,0,[]) x3.2.2.2.2.2.2.2.2.1 x3.2.2.2.2.2.2.2.2.2.2.1;let e3:=e2.2;let e4:=e2.2.1;let e5:=e2.2.2;let e6:=e2.2.2.2;bif decide (x3.2.2.2.2.2.2.2.2.2.2.1 < x3.2.2.2.2.2.2.2.2.2.1)then bif inB x3.2.2.2.2.2.2.2.2.2.2.1 x3.2.2.2.2.2.2.2.2.1.length then (qdr n (e2.1,e4,e2.2.2.1,e2.2.2.2.1,e2.2.2.2.2,x3.2.1,x3.2.2.2.2.2.2.2.2.2.2.2.1,x3.2.2.2.2.2.2.2.2.2.2.2.2.1,x3.2.2.2.2.2.2.2.2.2.2.2.2.2.2.2.2.2.2.2)).bind fun y4=>bif !y4.1 then some (.inr (.inl (y4.2.1,y4.2.2.1,x3.2.2.2.2.2.2.2.2.2.2.2.2.2.1,x3.2.2.2.2.2.2.2.2.2.2.2.2.2.2.1,x3.2.2.2.2.2.2.2.2.2.2.2.2.2.2.2.1,x3.2.2.2.2.2.2.2.2.2.2.2.2.2.2.2.2.1,x3.2.2.2.2.2.2.2.2.2.2.2.2.2.2.2.2.2.1,y4.2.2.2))) else some (.inl (x3.1,wrap64 (x3.2.1+e4),x3.2.2.1,x3.2.2.2.1,x3.2.2.2.2.1,x3.2.2.2.2.2.1,x3.2.2.2.2.2.2.1,x3.2.2.2.2.2.2.2.1,x3.2.2.2.2.2.2.2.2.1,x3.2.2.2.2.2.2.2.2.2.1,wrap64 (x3.2.2.2.2.2.2.2.2.2.2.1+1),y4.2.1,y4.2.2.1,x3.2.2.2.2.2.2.2.2.2.2.2.2.2.1,x3.2.2.2.2.2.2.2.2.2.2.2.2.2.2.1,x3.2.2.2.2.2.2.2.2.2.2.2.2.2.2.2.1,x3.2.2.2.2.2.2.2.2.2.2.2.2.2.2.2.2.1,x3.2.2.2.2.2.2.2.2.2.2.2.2.2.2.2.2.2.1,x3.2.2.2.2.2.2.2.2.2.2.2.2.2.2.2.2.2.2.1,y4.2.2.2)) else none else some (.inr (.inr (x3.1,x3.2.2.1,x3.2.2.2.1,x3.2.2.2.2.1,x3.2.2.2.2.2.1,x3.2.2.2.2.2.2.1,x3.2.2.2.2.2.2.2.1,x3.2.2.2.2.2.2.2.2.2.2.2)))) (x2.1,x2.1,x2.2.1,x2.2.2.1,x2.2.2.2.1,x2.2.2.2.2.1,x2.2.2.2.2.2.1,x2.2.2.2.2.2.2.1,e1,((e1.length:Nat):Int),0,x2.2.2.2.2.2.2.2)).bind (Sum.elim (fun(z5:Int×Int×ByteArray×Int×(List Wai)×Int×Int×LT4)=>some (.inr (.inl z5))) (fun(z6:Int×(List Wai)×Int×Int×Wai×Int×Int×Int×Int×ByteArray×Int×(List Wai)×Int×Int×Wai×LT4)=>some (.inl (z6.1,z6.2.1,z6.2.2.1,z6.2.2.2.1,z6.2.2.2.2.1,z6.2.2.2.2.2.1,wrap64 (z6.2.2.2.2.2.2.1+1),z6.2.2.2.2.2.2.2)))) else none else some (.inr (.inr (x2.1,x2.2.1,x2.2.2.1,x2.2.2.2.1,x2.2.2.2.2.2.2.2)))) (x1.1,x1.2.1,x1.2.2.1,x1.2.2.2.1,e0,((e0.length:Nat):Int),0,x1.2.2.2.2.1,x1.2.2.2.2.2.1,x1.2.2.2.2.2.2.1,x1.2.2.2.2.2.2.2.1,x1.2.2.2.2.2.2.2.2.1,x1.2.2.2.2.2.2.2.2.2.1,x1.2.2.2.2.2.2.2.2.2.2.1,e0,x1.2.2.2.2.2.2.2.2.2.2.2)).bind (Sum.elim (fun(z7:Int×Int×ByteArray×Int×(List Wai)×Int×Int×LT4)=>some (.inr (.inl z7))) (fun(z8:Int×(List Wai)×Int×Int×Int×Int×ByteArray×Int×(List Wai)×Int×Int×Wai×LT4)=>(qdu n z8.2.2.2.2.2.2.2.2.2.2.2.1).bind fun y9=>some (.inl (wrap64 (z8.1+y9),z8.2.1,z8.2.2.1,wrap64 (z8.2.2.2.1+1),z8.2.2.2.2.1,z8.2.2.2.2.2.1,z8.2.2.2.2.2.2.1,z8.2.2.2.2.2.2.2.1,z8.2.2.2.2.2.2.2.2.1,z8.2.2.2.2.2.2.2.2.2.1,z8.2.2.2.2.2.2.2.2.2.2.1,z8.2.2.2.2.2.2.2.2.2.2.2.2)))) else none else some (.inr (.inr x1.2.2.2.2))) (0,x0.2.2.2.2.1,((x0.2.2.2.2.1.length:Nat):Int),0,x0)).bind (Sum.elim (fun(z10:Int×Int×ByteArray×Int×(List Wai)×Int×Int×LT4)=>some z10) (fun(z11:Int×Int×ByteArray×Int×(List Wai)×Int×Int×LT4)=>some z11))
def p_qdy:Plan:=.two (.leaf) (.two (.leaf) (.one (.loop ⟨sO 48 [(0,.yld 1170 [.c (.box 1000000 0),.c (.box 1000001 0)]),(3,.c hI),(12,.c (hL 106)),(13,.c hI),(14,.c hI)],z7,z25⟩ [(.ret,⟨sO 48 [],z7,z25⟩),(.exit 0,⟨sO 48 [],z7,z25⟩)] (.two (.leaf) (.two (.leaf) (.two (.one (.two (.leaf) (.two (.two (.leaf) (.one (.loop ⟨sO 48 z13,z9,z25⟩ [(.ret,⟨sO 48 [],z7,z25⟩),(.exit 2,⟨sO 48 [(0,.yld 1170 [.c (.box 1000000 0),.c (.box 1000001 0)]),(3,.c hI),(5,.c (.box 5 0)),(12,.c (hL 106)),(13,.c hI),(14,.c hI)],z9,z25⟩)] (.two (.leaf) (.two (.leaf) (.two (.one (.two (.leaf) (.two (.leaf) (.two (.leaf) (.one (.loop ⟨sO 48 [(0,.yld 1170 [.c (.box 1000000 0),.c (.box 1000001 0)]),(3,.c hI),(5,.c (.box 5 0)),(8,.c hI),(12,.c (hL 106)),(13,.c hI),(14,.c hI),(19,.c (hL 107)),(20,.c hI),(21,.c hI),(26,.c (hL 110)),(27,.c hI),(28,.c hI)],z9,z25⟩ [(.ret,⟨sO 48 [],z7,z25⟩),(.exit 4,⟨sO 48 z13,z9,z25⟩)] (.leaf))))))) (.leaf))))))) (.leaf)))) (.leaf)))))))
noncomputable def c_qdy(n:Nat):Cx:=cX [(160,⟨Wy0,o_qdu,qdu n⟩)] [(1170,⟨h_qdr,o_qdr,qdr n⟩)] []
theorem d_qdy(n:Nat)(x:h_qdy.X T):denF (c_qdy n) n Tryz.f217 p_qdy h_qdy o_qdy x=qdy n x:=by kernel_rfl
theorem s_qdy(n:Nat):PCalls Tryz.prog Θ 217 ⟨h_qdy,o_qdy,qdy n⟩:=
 Wac (C:=c_qdy n) (n:=n) (p:=p_qdy) (Wam mixed Wal ⟨s_qdu n,trivial⟩ ⟨s_qdr n,trivial⟩ trivial) Tryz.func217 (by kernel_rfl) (by kernel_rfl) (d_qdy n) (by kernel_rfl)
def h_qc9:Shape:=⟨sO 2 [(0,.c (hL 9)),(1,.c hS)],[],[]⟩
def o_qc9:LT10:=[(.ret,⟨sO 1 [(0,.c hB)],[],[]⟩)]
def qc9(n:Nat)(x0:LBy×ByteArray):Option (Bool):=(qdm n x0).bind fun y1=>some (decide (0≤y1))
def p_qc9:Plan:=.leaf
noncomputable def c_qc9(n:Nat):Cx:=cX [(156,⟨Wyx,o_qdm,qdm n⟩)] [] []
theorem d_qc9(n:Nat)(x:h_qc9.X T):denF (c_qc9 n) n Tryz.f220 p_qc9 h_qc9 o_qc9 x=qc9 n x:=by kernel_rfl
theorem s_qc9(n:Nat):PCalls Tryz.prog Θ 220 ⟨h_qc9,o_qc9,qc9 n⟩:=
 Wac (C:=c_qc9 n) (n:=n) (p:=p_qc9) (Wam mixed Wal ⟨s_qdm n,trivial⟩ trivial trivial) Tryz.func220 (by kernel_rfl) (by kernel_rfl) (d_qc9 n) (by kernel_rfl)
def h_qec:Shape:=⟨sO 2 [(0,.agg [hS,hL 9,hI]),(1,.c (.box 1000000 0))],z6,[]⟩
def o_qec:LT10:=[(.ret,⟨sO 1 [(0,.c hB)],z6,[]⟩)]
def qec(n:Nat)(x0:ByteArray×LBy×Int×ByteArray):Option (Bool×ByteArray):=(qc9 n (x0.2.1,x0.2.2.2)).bind fun y1=>some (y1,x0.2.2.2)
def p_qec:Plan:=.leaf
noncomputable def c_qec(n:Nat):Cx:=cX [(220,⟨h_qc9,o_qc9,qc9 n⟩)] [] []
theorem d_qec(n:Nat)(x:h_qec.X T):denF (c_qec n) n Tryz.f219 p_qec h_qec o_qec x=qec n x:=by kernel_rfl
theorem s_qec(n:Nat):PCalls Tryz.prog Θ 219 ⟨h_qec,o_qec,qec n⟩:=
 Wac (C:=c_qec n) (n:=n) (p:=p_qec) (Wam mixed Wal ⟨s_qc9 n,trivial⟩ trivial trivial) Tryz.func219 (by kernel_rfl) (by kernel_rfl) (d_qec n) (by kernel_rfl)
def h_qdj:Shape:=⟨sO 2 [(0,.c (hL 148)),(1,.c (.fn 219 [1000000]))],z6,[]⟩
def o_qdj:LT10:=[(.ret,⟨sO 1 [(0,.c hI)],z6,[]⟩)]
def qdj(n:Nat)(x0:LT9×ByteArray):Option (Int×ByteArray):=(Wao (Y:=(Int×ByteArray) ⊕ (ByteArray)) n (fun(x1:LT9×Int×Int×ByteArray)=>let e0:=atI (ByteArray.mk #[],[],0) x1.1 x1.2.2.1;let e1:=e0.2;bif decide (x1.2.2.1 < x1.2.1)then bif inB x1.2.2.1 x1.1.length then (qec n (e0.1,e0.2.1,e0.2.2,x1.2.2.2)).bind fun y2=>bif y2.1 then some (.inr (.inl (x1.2.2.1,y2.2))) else some (.inl (x1.1,x1.2.1,wrap64 (x1.2.2.1+1),y2.2)) else none else some (.inr (.inr x1.2.2.2))) (x0.1,((x0.1.length:Nat):Int),0,x0.2)).bind (Sum.elim (fun(z3:Int×ByteArray)=>some z3) (fun(z4:ByteArray)=>some ((-1),z4)))
def p_qdj:Plan:=.two (.leaf) (.two (.two (.leaf) (.one (.loop ⟨sO 19 [(0,.c (hL 148)),(1,.c (.fn 219 [1000000])),(7,.c hI),(8,.c hI)],z6,[]⟩ [(.ret,⟨sO 19 [(4,.c hI)],z6,[]⟩),(.exit 0,⟨sO 19 [],z6,[]⟩)] (.leaf)))) (.leaf))
noncomputable def c_qdj(n:Nat):Cx:=cX [(219,⟨h_qec,o_qec,qec n⟩)] [] []
theorem d_qdj(n:Nat)(x:h_qdj.X T):denF (c_qdj n) n Tryz.f218 p_qdj h_qdj o_qdj x=qdj n x:=by kernel_rfl
theorem s_qdj(n:Nat):PCalls Tryz.prog Θ 218 ⟨h_qdj,o_qdj,qdj n⟩:=
 Wac (C:=c_qdj n) (n:=n) (p:=p_qdj) (Wam mixed Wal ⟨s_qec n,trivial⟩ trivial trivial) Tryz.func218 (by kernel_rfl) (by kernel_rfl) (d_qdj n) (by kernel_rfl)
def h_qeb:Shape:=⟨sO 2 z62,[],[]⟩
def o_qeb:LT10:=[(.ret,⟨sO 1 [(0,.c hI)],[],[]⟩)]
def qeb(n:Nat)(x0:T25):Option (Int):=(qdj n (x0.2.2.2.1,x0.2.2.2.2.2.2.2)).bind fun y1=>some y1.1
def p_qeb:Plan:=.leaf
noncomputable def c_qeb(n:Nat):Cx:=cX [(218,⟨h_qdj,o_qdj,qdj n⟩)] [] []
theorem d_qeb(n:Nat)(x:h_qeb.X T):denF (c_qeb n) n Tryz.f181 p_qeb h_qeb o_qeb x=qeb n x:=by kernel_rfl
theorem s_qeb(n:Nat):PCalls Tryz.prog Θ 181 ⟨h_qeb,o_qeb,qeb n⟩:=
 Wac (C:=c_qeb n) (n:=n) (p:=p_qeb) (Wam mixed Wal ⟨s_qdj n,trivial⟩ trivial trivial) Tryz.func181 (by kernel_rfl) (by kernel_rfl) (d_qeb n) (by kernel_rfl)
def h_qdq:Shape:=⟨sO 2 z55,[],[]⟩
def o_qdq:LT10:=[(.ret,⟨sO 2 [(0,.c (.row 0)),(1,.c hI)],[],[(0,196)]⟩)]
noncomputable def qdq(n:Nat)(x0:ByteArray×LT8×LT4×LT9×LLT0×LT3×Int×ByteArray×Int×(List Wai)×Int×Int):Option (Int×LT7):=(qdp n x0).bind fun y1=>bif !y1 then some (180,[]) else (qdv n x0.2.2.2.2.2.2.2).bind fun y2=>(qdx n x0.2.2.2.2.2.2.2).bind fun y3=>ifY Wny ((qdy n (y2.1,y2.2,y3.1,y3.2.1,y3.2.2.1,y3.2.2.2.1,y3.2.2.2.2,[])).bind fun y4=>(Wao (Y:=LT7) n (fun(x7:LT8×Int×Int×ByteArray×LT8×LT4×LT9×LLT0×LT3×Int×LT7×LT4)=>bif decide (x7.2.2.1 < x7.2.1)then bif inB x7.2.2.1 x7.1.length then (qeb n (x7.2.2.2.1,x7.2.2.2.2.1,x7.2.2.2.2.2.1,x7.2.2.2.2.2.2.1,x7.2.2.2.2.2.2.2.1,x7.2.2.2.2.2.2.2.2.1,x7.2.2.2.2.2.2.2.2.2.1,(atI (ByteArray.mk #[],0,0,0,0,0,0,0,0,0,0) x7.1 x7.2.2.1).1)).bind fun y8=>bif decide (0≤y8)then bif inB y8 x7.2.2.2.2.2.2.1.length then bif fitB (x7.2.2.2.2.2.2.2.2.2.2.1.length+(List.length (((atI (ByteArray.mk #[],0,0,0,0,0,0,0,0,0,0) x7.1 x7.2.2.1).1,(mfind (atI (ByteArray.mk #[],[],0) x7.2.2.2.2.2.2.1 y8).1 ((atI (ByteArray.mk #[],[],0) x7.2.2.2.2.2.2.1 y8).1,ByteArray.mk #[],0,0,0,0) x7.2.2.2.2.2.2.2.2.2.2.2).2.2)::[]))) 48 then some (.inl (x7.1,x7.2.1,wrap64 (x7.2.2.1+1),x7.2.2.2.1,x7.2.2.2.2.1,x7.2.2.2.2.2.1,x7.2.2.2.2.2.2.1,x7.2.2.2.2.2.2.2.1,x7.2.2.2.2.2.2.2.2.1,x7.2.2.2.2.2.2.2.2.2.1,x7.2.2.2.2.2.2.2.2.2.2.1++(((atI (ByteArray.mk #[],0,0,0,0,0,0,0,0,0,0) x7.1 x7.2.2.1).1,(mfind (atI (ByteArray.mk #[],[],0) x7.2.2.2.2.2.2.1 y8).1 ((atI (ByteArray.mk #[],[],0) x7.2.2.2.2.2.2.1 y8).1,ByteArray.mk #[],0,0,0,0) x7.2.2.2.2.2.2.2.2.2.2.2).2.2)::[]),x7.2.2.2.2.2.2.2.2.2.2.2)) else none else none else bif fitB (x7.2.2.2.2.2.2.2.2.2.2.1.length+(List.length (((atI (ByteArray.mk #[],0,0,0,0,0,0,0,0,0,0) x7.1 x7.2.2.1).1,0,0,0,0)::[]))) 48 then some (.inl (x7.1,x7.2.1,wrap64 (x7.2.2.1+1),x7.2.2.2.1,x7.2.2.2.2.1,x7.2.2.2.2.2.1,x7.2.2.2.2.2.2.1,x7.2.2.2.2.2.2.2.1,x7.2.2.2.2.2.2.2.2.1,x7.2.2.2.2.2.2.2.2.2.1,x7.2.2.2.2.2.2.2.2.2.2.1++(((atI (ByteArray.mk #[],0,0,0,0,0,0,0,0,0,0) x7.1 x7.2.2.1).1,0,0,0,0)::[]),x7.2.2.2.2.2.2.2.2.2.2.2)) else none else none else some (.inr x7.2.2.2.2.2.2.2.2.2.2.1)) (x0.2.1,((x0.2.1.length:Nat):Int),0,x0.1,x0.2.1,x0.2.2.1,x0.2.2.2.1,x0.2.2.2.2.1,x0.2.2.2.2.2.1,x0.2.2.2.2.2.2.1,[],y4.2.2.2.2.2.2.2)).bind fun(z9:LT7)=>some (0,z9))
def p_qdq:Plan:=.two (.leaf) (.two (.leaf) (.two (.leaf) (.two (.leaf) (.two (.two (.leaf) (.one (.range 1170 [6,7]))) (.two (.leaf) (.two (.two (.leaf) (.one (.loop ⟨sO 90 [(2,.c (.box 2 0)),(7,.c (.box 7 0)),(13,.c (.row 87)),(61,.c (hL 144)),(62,.c hI),(63,.c hI)],[(2,89,zc0),(7,258,[.row 24])],[(87,196),(24,1000517)]⟩ [(.exit 2,⟨sO 90 [(13,.c (.row 87))],[],[(87,196)]⟩)] (.leaf)))) (.leaf)))))))
noncomputable def c_qdq(n:Nat):Cx:=cX [(47,⟨Wy2,o_qdp,qdp n⟩),(178,⟨h_qdv,o_qdv,qdv n⟩),(179,⟨h_qdx,o_qdx,qdx n⟩),(217,⟨h_qdy,o_qdy,qdy n⟩),(181,⟨h_qeb,o_qeb,qeb n⟩)] [] []
theorem d_qdq(n:Nat)(x:h_qdq.X T):denF (c_qdq n) n Tryz.f117 p_qdq h_qdq o_qdq x=qdq n x:=by kernel_rfl
theorem s_qdq(n:Nat):PCalls Tryz.prog Θ 117 ⟨h_qdq,o_qdq,qdq n⟩:=
 Wac (C:=c_qdq n) (n:=n) (p:=p_qdq) (Wam mixed Wal ⟨s_qdp n,s_qdv n,s_qdx n,s_qdy n,s_qeb n,trivial⟩ trivial trivial) Tryz.func117 (by kernel_rfl) (by kernel_rfl) (d_qdq n) (by kernel_rfl)
end Go.Proofs.YtalbenehgdkalaaGreat.Fn