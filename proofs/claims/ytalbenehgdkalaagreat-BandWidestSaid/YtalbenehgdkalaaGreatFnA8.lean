/- Texts of the proof. -/
import Derived.Test.YtalbenehgdkalaaGreatFnA7
namespace Go.Proofs.YtalbenehgdkalaaGreat.Fn
set_option maxRecDepth 100000
open Go Go.RowKit Go.Den
def h_qbk:Shape:=⟨sO 2 z43,[],[]⟩
def o_qbk:LT10:=[(.ret,⟨sO 1 [(0,.c hI)],[],[]⟩)]
def qbk(n:Nat)(x0:LIn×Int):Option (Int):=(Wao (Y:=(Int) ⊕ (Int)) n (fun(x1:LIn×Int)=>let e0:=x1.1.length;let e1:=inB x1.2 e0;let e2:=atI 0 x1.1 x1.2;bif decide (x1.2 < ((e0:Nat):Int))then bif e1 then bif e2==35 then (Wao (Y:=(LIn×Int)) n (fun(x2:LIn×Int)=>let e3:=x2.1.length;letJ (fun(x3:LIn×Int×Bool)=>bif x3.2.2 then some (.inl (x3.1,wrap64 (x3.2.1+1))) else some (.inr (x3.1,x3.2.1))) fun J4=>bif decide (x2.2 < ((e3:Nat):Int))then bif inB x2.2 e3 then J4 (x2.1,x2.2,!((atI 0 x2.1 x2.2)==10)) else none else J4 (x2.1,x2.2,false)) x1).bind fun(z5:LIn×Int)=>some (.inl z5) else letJ (fun(x6:LIn×Int×Bool)=>bif x6.2.2 then some (.inl (x6.1,wrap64 (x6.2.1+1))) else some (.inr (.inl x6.2.1))) fun J7=>bif e1 then bif e2==32 then J7 (x1.1,x1.2,true) else bif e1 then bif e2==9 then J7 (x1.1,x1.2,true) else bif e1 then bif e2==10 then J7 (x1.1,x1.2,true) else bif e1 then J7 (x1.1,x1.2,e2==13) else none else none else none else none else none else some (.inr (.inr x1.2))) x0).bind (Sum.elim (fun(z8:Int)=>some z8) (fun(z9:Int)=>some z9))
def p_qbk:Plan:=.two (.leaf) (.two (.one (.loop ⟨sO 57 z43,[],[]⟩ [(.ret,⟨sO 57 [(4,.c hI)],[],[]⟩),(.exit 0,⟨sO 57 [(1,.c hI)],[],[]⟩)] (.two (.leaf) (.one (.two (.leaf) (.two (.one (.loop ⟨sO 57 z43,[],[]⟩ [(.exit 2,⟨sO 57 z43,[],[]⟩)] (.two (.two (.join ⟨sO 57 [(0,.c (hL 5)),(1,.c hI),(24,.c hB)],[],[]⟩ (.leaf)) (.leaf)) (.leaf)))) (.two (.join ⟨sO 57 [(0,.c (hL 5)),(1,.c hI),(52,.c hB)],[],[]⟩ (.leaf)) (.leaf)))))))) (.leaf))
noncomputable def c_qbk(n:Nat):Cx:=cX [] [] []
theorem d_qbk(n:Nat)(x:h_qbk.X T):denF (c_qbk n) n Tryz.f208 p_qbk h_qbk o_qbk x=qbk n x:=by kernel_rfl
theorem s_qbk(n:Nat):PCalls Tryz.prog Θ 208 ⟨h_qbk,o_qbk,qbk n⟩:=
 Waa (C:=c_qbk n) (n:=n) (p:=p_qbk) (Wal mixed Wak trivial trivial trivial) Tryz.func208 (by kernel_rfl) (by kernel_rfl) (d_qbk n) (by kernel_rfl)
def h_qbl:Shape:=⟨sO 1 [(0,.c (hU))],[],[]⟩
def o_qbl:LT10:=[(.ret,⟨sO 1 [(0,.c hB)],[],[]⟩)]
def qbl(n:Nat)(x0:Int):Option (Bool):=bif decide (97≤x0)then some (decide (x0≤122)) else some false
def p_qbl:Plan:=.leaf
noncomputable def c_qbl(n:Nat):Cx:=cX [] [] []
theorem d_qbl(n:Nat)(x:h_qbl.X T):denF (c_qbl n) n Tryz.f227 p_qbl h_qbl o_qbl x=qbl n x:=by kernel_rfl
theorem s_qbl(n:Nat):PCalls Tryz.prog Θ 227 ⟨h_qbl,o_qbl,qbl n⟩:=
 Waa (C:=c_qbl n) (n:=n) (p:=p_qbl) (Wal mixed Wak trivial trivial trivial) Tryz.func227 (by kernel_rfl) (by kernel_rfl) (d_qbl n) (by kernel_rfl)
def h_qbh:Shape:=⟨sO 1 [(0,.c (hU))],[],[]⟩
def o_qbh:LT10:=[(.ret,⟨sO 1 [(0,.c hB)],[],[]⟩)]
def qbh(n:Nat)(x0:Int):Option (Bool):=bif decide (48≤x0)then some (decide (x0≤57)) else some false
def p_qbh:Plan:=.leaf
noncomputable def c_qbh(n:Nat):Cx:=cX [] [] []
theorem d_qbh(n:Nat)(x:h_qbh.X T):denF (c_qbh n) n Tryz.f228 p_qbh h_qbh o_qbh x=qbh n x:=by kernel_rfl
theorem s_qbh(n:Nat):PCalls Tryz.prog Θ 228 ⟨h_qbh,o_qbh,qbh n⟩:=
 Waa (C:=c_qbh n) (n:=n) (p:=p_qbh) (Wal mixed Wak trivial trivial trivial) Tryz.func228 (by kernel_rfl) (by kernel_rfl) (d_qbh n) (by kernel_rfl)
def h_qbj:Shape:=⟨sO 1 [(0,.c (hU))],[],[]⟩
def o_qbj:LT10:=[(.ret,⟨sO 1 [(0,.c hB)],[],[]⟩)]
def qbj(n:Nat)(x0:Int):Option (Bool):=letJ (fun(x1:Bool)=>some x1) fun J2=>bif x0==123 then J2 true else bif x0==125 then J2 true else bif x0==44 then J2 true else bif x0==59 then J2 true else bif x0==58 then J2 true else bif x0==47 then J2 true else J2 (x0==45)
def p_qbj:Plan:=.two (.leaf) (.two (.join ⟨sO 29 [(2,.c hB)],[],[]⟩ (.leaf)) (.leaf))
noncomputable def c_qbj(n:Nat):Cx:=cX [] [] []
theorem d_qbj(n:Nat)(x:h_qbj.X T):denF (c_qbj n) n Tryz.f229 p_qbj h_qbj o_qbj x=qbj n x:=by kernel_rfl
theorem s_qbj(n:Nat):PCalls Tryz.prog Θ 229 ⟨h_qbj,o_qbj,qbj n⟩:=
 Waa (C:=c_qbj n) (n:=n) (p:=p_qbj) (Wal mixed Wak trivial trivial trivial) Tryz.func229 (by kernel_rfl) (by kernel_rfl) (d_qbj n) (by kernel_rfl)
def h_qbi:Shape:=⟨sO 2 z43,[],[]⟩
def o_qbi:LT10:=[(.ret,⟨sO 2 [(0,.agg zc7),(1,.c hI)],[],[]⟩)]
def qbi(n:Nat)(x0:LIn×Int):Option (Int×ByteArray×Int×Int×Int):=let e0:=x0.1.length;let e1:=inB x0.2 e0;let e2:=atI 0 x0.1 x0.2;bif e1 then (qbl n e2).bind fun y1=>bif y1 then (Wao (Y:=(LIn×Int×Int×Int×ByteArray×Int×Int)) n (fun(x2:LIn×Int×Int×Int×ByteArray×Int×Int)=>let e3:=x2.1.length;let e4:=inB x2.2.2.1 e3;let e5:=atI 0 x2.1 x2.2.2.1;letJ (fun(x5:LIn×Int×Int×Bool×Int×ByteArray×Int×Int)=>bif x5.2.2.2.1 then some (.inl (x5.1,x5.2.1,wrap64 (x5.2.2.1+1),x5.2.2.2.2)) else some (.inr (x5.1,x5.2.1,x5.2.2.1,x5.2.2.2.2))) fun J6=>bif decide (x2.2.2.1 < ((e3:Nat):Int))then bif e4 then (qbl n e5).bind fun y3=>bif y3 then J6 (x2.1,x2.2.1,x2.2.2.1,true,x2.2.2.2) else bif e4 then (qbh n e5).bind fun y4=>bif y4 then J6 (x2.1,x2.2.1,x2.2.2.1,true,x2.2.2.2) else bif e4 then J6 (x2.1,x2.2.1,x2.2.2.1,e5==95,x2.2.2.2) else none else none else none else J6 (x2.1,x2.2.1,x2.2.2.1,false,x2.2.2.2)) (x0.1,x0.2,x0.2,0,ByteArray.mk #[],0,0)).bind fun(z7:LIn×Int×Int×Int×ByteArray×Int×Int)=>bif decide (24 < wrap64 (z7.2.2.1 - z7.2.1))then some (0,ByteArray.mk #[],0,0,4) else bif Weu (some z7.2.1) (some z7.2.2.1) z7.1.length then some (1,bstr (Wb7 (some z7.2.1) (some z7.2.2.1) z7.1),0,z7.2.1,0) else none else bif e1 then (qbh n e2).bind fun y8=>bif y8 then (Wao (Y:=(LIn×Int×Int×Int×Int×ByteArray×Int×Int)) n (fun(x9:LIn×Int×Int×Int×Int×ByteArray×Int×Int)=>let e6:=x9.1.length;letJ (fun(x11:LIn×Int×Int×Int×Bool×Int×ByteArray×Int×Int)=>let e7:=wrap64 (x11.2.2.1+1);bif x11.2.2.2.2.1 then bif decide (wrap64 (x11.2.2.1 - x11.2.1) < 18)then bif inB x11.2.2.1 x11.1.length then some (.inl (x11.1,x11.2.1,e7,wrap64 ((wrap64 (10 * x11.2.2.2.1))+(wrap64 (IntKind.wrap .u8 ((atI 0 x11.1 x11.2.2.1) - 48)))),x11.2.2.2.2.2)) else none else some (.inl (x11.1,x11.2.1,e7,x11.2.2.2.1,x11.2.2.2.2.2)) else some (.inr (x11.1,x11.2.1,x11.2.2.1,x11.2.2.2.1,x11.2.2.2.2.2))) fun J12=>bif decide (x9.2.2.1 < ((e6:Nat):Int))then bif inB x9.2.2.1 e6 then (qbh n (atI 0 x9.1 x9.2.2.1)).bind fun y10=>J12 (x9.1,x9.2.1,x9.2.2.1,x9.2.2.2.1,y10,x9.2.2.2.2) else none else J12 (x9.1,x9.2.1,x9.2.2.1,x9.2.2.2.1,false,x9.2.2.2.2)) (x0.1,x0.2,x0.2,0,0,ByteArray.mk #[],0,0)).bind fun(z13:LIn×Int×Int×Int×Int×ByteArray×Int×Int)=>bif decide (18 < wrap64 (z13.2.2.1 - z13.2.1))then some (0,ByteArray.mk #[],0,0,4) else bif Weu (some z13.2.1) (some z13.2.2.1) z13.1.length then some (2,bstr (Wb7 (some z13.2.1) (some z13.2.2.1) z13.1),z13.2.2.2.1,z13.2.1,0) else none else bif e1 then (qbj n e2).bind fun y14=>bif y14 then bif Weu (some x0.2) (some (wrap64 (x0.2+1))) e0 then some (3,bstr (Wb7 (some x0.2) (some (wrap64 (x0.2+1))) x0.1),0,x0.2,0) else none else some (0,ByteArray.mk #[],0,0,40) else none else none else none
def p_qbi:Plan:=.two (.leaf) (.two (.leaf) (.two (.one (.two (.leaf) (.two (.two (.one (.loop ⟨sO 114 [(0,.c (hL 5)),(1,.c hI),(4,.c (.box 4 0)),(6,.c hI)],[(4,244,zc7)],[]⟩ [(.exit 1,⟨sO 114 [(0,.c (hL 5)),(1,.c hI),(4,.c (.box 4 0)),(6,.c hI)],[(4,244,zc7)],[]⟩)] (.two (.two (.join ⟨sO 114 [(0,.c (hL 5)),(1,.c hI),(4,.c (.box 4 0)),(6,.c hI),(39,.c hB)],[(4,244,zc7)],[]⟩ (.leaf)) (.leaf)) (.leaf)))) (.leaf)) (.two (.leaf) (.two (.two (.leaf) (.two (.one (.loop ⟨sO 114 z42,[(4,244,zc7)],[]⟩ [(.exit 3,⟨sO 114 z42,[(4,244,zc7)],[]⟩)] (.two (.two (.join ⟨sO 114 [(0,.c (hL 5)),(1,.c hI),(4,.c (.box 4 0)),(6,.c hI),(7,.c hI),(70,.c hB)],[(4,244,zc7)],[]⟩ (.leaf)) (.leaf)) (.leaf)))) (.leaf))) (.leaf)))))) (.leaf)))
noncomputable def c_qbi(n:Nat):Cx:=cX [(227,⟨h_qbl,o_qbl,qbl n⟩),(228,⟨h_qbh,o_qbh,qbh n⟩),(229,⟨h_qbj,o_qbj,qbj n⟩)] [] []
theorem d_qbi(n:Nat)(x:h_qbi.X T):denF (c_qbi n) n Tryz.f209 p_qbi h_qbi o_qbi x=qbi n x:=by kernel_rfl
theorem s_qbi(n:Nat):PCalls Tryz.prog Θ 209 ⟨h_qbi,o_qbi,qbi n⟩:=
 Waa (C:=c_qbi n) (n:=n) (p:=p_qbi) (Wal mixed Wak ⟨s_qbl n,s_qbh n,s_qbj n,trivial⟩ trivial trivial) Tryz.func209 (by kernel_rfl) (by kernel_rfl) (d_qbi n) (by kernel_rfl)
def h_qbf:Shape:=⟨sO 1 [(0,.c (hL 5))],[],[]⟩
def o_qbf:LT10:=[(.ret,⟨sO 3 [(0,.c (hL 244)),(1,.c hI),(2,.c hI)],[],[]⟩)]
def qbf(n:Nat)(x0:List Int):Option (T19):=bif decide (65536 < ((x0.length:Nat):Int))then some ([],4,65536) else (qbk n (x0,0)).bind fun y1=>(Wao (Y:=(Int×Int) ⊕ (Int×LT11)) n (fun(x5:LIn×Int×LT11)=>bif decide (x5.2.1 < ((x5.1.length:Nat):Int))then (qbi n (x5.1,x5.2.1)).bind fun y6=>let e0:=(y6.1,y6.2.1,y6.2.2.1,y6.2.2.2.1)::[];bif !(y6.2.2.2.2==0)then some (.inr (.inl (y6.2.2.2.2,x5.2.1))) else bif fitB (x5.2.2.length+e0.length) 40 then (qbk n (x5.1,wrap64 (x5.2.1+((ByteArray.size y6.2.1:Nat):Int)))).bind fun y7=>some (.inl (x5.1,y7,x5.2.2++e0)) else none else some (.inr (.inr x5.2))) (x0,y1,[])).bind (Sum.elim (fun(z8:Int×Int)=>some ([],z8)) (fun(z9:Int×LT11)=>let e1:=(0,ByteArray.mk #[],0,z9.1)::[];bif fitB (z9.2.length+e1.length) 40 then some (z9.2++e1,0,0) else none))
def p_qbf:Plan:=.two (.leaf) (.two (.leaf) (.two (.leaf) (.two (.leaf) (.two (.one (.loop ⟨sO 44 [(0,.c (hL 5)),(5,.c (.row 31)),(6,.c hI)],[],[(31,244)]⟩ [(.ret,⟨sO 44 [(2,.c (.nil)),(3,.c hI),(4,.c hI)],[],[]⟩),(.exit 0,⟨sO 44 [(5,.c (.row 31)),(6,.c hI)],[],[(31,244)]⟩)] (.leaf))) (.leaf)))))
noncomputable def c_qbf(n:Nat):Cx:=cX [(208,⟨h_qbk,o_qbk,qbk n⟩),(209,⟨h_qbi,o_qbi,qbi n⟩)] [] []
theorem d_qbf(n:Nat)(x:h_qbf.X T):denF (c_qbf n) n Tryz.f162 p_qbf h_qbf o_qbf x=qbf n x:=by kernel_rfl
theorem s_qbf(n:Nat):PCalls Tryz.prog Θ 162 ⟨h_qbf,o_qbf,qbf n⟩:=
 Waa (C:=c_qbf n) (n:=n) (p:=p_qbf) (Wal mixed Wak ⟨s_qbk n,s_qbi n,trivial⟩ trivial trivial) Tryz.func162 (by kernel_rfl) (by kernel_rfl) (d_qbf n) (by kernel_rfl)
end Go.Proofs.YtalbenehgdkalaaGreat.Fn