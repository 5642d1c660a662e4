/- Texts of the proof. -/
import Derived.Test.YtalbenehgdkalaaGreatLibE
import Derived.Test.YtalbenehgdkalaaGreatProg
namespace Go.Proofs.YtalbenehgdkalaaGreat.Fn
set_option maxRecDepth 100000
open Go Go.RowKit Go.Den
noncomputable def tys:List (Nat×Ent):=[(2,⟨Int,(0)⟩),
 (3,⟨Int,(0)⟩),
 (4,⟨Bool,(false)⟩),
 (5,⟨Int,(0)⟩),
 (9,⟨ByteArray,(ByteArray.empty)⟩),
 (53,⟨ByteArray×Int×List (List (List (ByteArray×Int×Int×Int×List (ByteArray×Int×Int))))×Int×Int,(ByteArray.empty,0,[],0,0)⟩),
 (78,⟨ByteArray×ByteArray×ByteArray×Int×Int×Int,(ByteArray.empty,ByteArray.empty,ByteArray.empty,0,0,0)⟩),
 (89,⟨ByteArray×List (ByteArray×Int×Int×Int×Int×Int×Int×Int×Int×Int×Int)×List (ByteArray×ByteArray×Int×Int×Int×Int)×List (ByteArray×List (ByteArray)×Int)×List (List (Bool×List (ByteArray)))×List (ByteArray×ByteArray×Int)×Int,(ByteArray.empty,[],[],[],[],[],0)⟩),
 (106,⟨List (List (ByteArray×Int×Int×Int×List (ByteArray×Int×Int))),([])⟩),
 (107,⟨List (ByteArray×Int×Int×Int×List (ByteArray×Int×Int)),([])⟩),
 (110,⟨ByteArray×Int×Int×Int×List (ByteArray×Int×Int),(ByteArray.empty,0,0,0,[])⟩),
 (113,⟨ByteArray×Int×Int,(ByteArray.empty,0,0)⟩),
 (116,⟨Int×Int,(0,0)⟩),
 (144,⟨ByteArray×Int×Int×Int×Int×Int×Int×Int×Int×Int×Int,(ByteArray.empty,0,0,0,0,0,0,0,0,0,0)⟩),
 (148,⟨ByteArray×List (ByteArray)×Int,(ByteArray.empty,[],0)⟩),
 (151,⟨ByteArray×ByteArray×Int×Int×Int×Int,(ByteArray.empty,ByteArray.empty,0,0,0,0)⟩),
 (163,⟨List (Bool×List (ByteArray)),([])⟩),
 (166,⟨Bool×List (ByteArray),(false,[])⟩),
 (180,⟨Int×Int×List (ByteArray×Int×Int×Int×List (ByteArray×Int×Int)),(0,0,[])⟩),
 (196,⟨ByteArray×Int×Int×Int×Int,(ByteArray.empty,0,0,0,0)⟩),
 (204,⟨Int×Int,(0,0)⟩),
 (207,⟨ByteArray×ByteArray×Int,(ByteArray.empty,ByteArray.empty,0)⟩),
 (244,⟨Int×ByteArray×Int×Int,(0,ByteArray.empty,0,0)⟩),
 (1000312,⟨ByteArray×Bool,(ByteArray.empty,false)⟩),
 (1000438,⟨ByteArray×Int,(ByteArray.empty,0)⟩),
 (1000517,⟨ByteArray×ByteArray×Int×Int×Int×Int,(ByteArray.empty,ByteArray.empty,0,0,0,0)⟩)]
abbrev T(e:TypeId):Type:=(Wr5 tys e).A
noncomputable def Θ:Tab:=⟨T,lookE tys [⟨2,⟨[.int .i64],fun(x:Int)=>x,fun(x:Int)=>x,fun _=>rfl,((0):Int)⟩⟩,
 ⟨3,⟨[.int .i64],fun(x:Int)=>x,fun(x:Int)=>x,fun _=>rfl,((0):Int)⟩⟩,
 ⟨4,⟨[.bool],fun(x:Bool)=>x,fun(x:Bool)=>x,fun _=>rfl,((false):Bool)⟩⟩,
 ⟨5,⟨[.int .u8],fun(x:Int)=>x,fun(x:Int)=>x,fun _=>rfl,((0):Int)⟩⟩,
 ⟨9,⟨[.str],fun(x:ByteArray)=>x,fun(x:ByteArray)=>x,fun _=>rfl,((ByteArray.empty):ByteArray)⟩⟩,
 ⟨53,⟨[.str,.int .i64,.sl 106,.int .i64,.int .i64],fun(x:ByteArray×Int×List (List (List (ByteArray×Int×Int×Int×List (ByteArray×Int×Int))))×Int×Int)=>x,fun(x:ByteArray×Int×List (List (List (ByteArray×Int×Int×Int×List (ByteArray×Int×Int))))×Int×Int)=>x,fun _=>rfl,((ByteArray.empty,0,[],0,0):ByteArray×Int×List (List (List (ByteArray×Int×Int×Int×List (ByteArray×Int×Int))))×Int×Int)⟩⟩,
 ⟨78,⟨[.str,.str,.str,.int .i64,.int .i64,.int .i64],fun(x:ByteArray×ByteArray×ByteArray×Int×Int×Int)=>x,fun(x:ByteArray×ByteArray×ByteArray×Int×Int×Int)=>x,fun _=>rfl,((ByteArray.empty,ByteArray.empty,ByteArray.empty,0,0,0):ByteArray×ByteArray×ByteArray×Int×Int×Int)⟩⟩,
 ⟨89,⟨[.str,.sl 144,.sl 151,.sl 148,.sl 163,.sl 207,.int .i64],fun(x:ByteArray×List (ByteArray×Int×Int×Int×Int×Int×Int×Int×Int×Int×Int)×List (ByteArray×ByteArray×Int×Int×Int×Int)×List (ByteArray×List (ByteArray)×Int)×List (List (Bool×List (ByteArray)))×List (ByteArray×ByteArray×Int)×Int)=>x,fun(x:ByteArray×List (ByteArray×Int×Int×Int×Int×Int×Int×Int×Int×Int×Int)×List (ByteArray×ByteArray×Int×Int×Int×Int)×List (ByteArray×List (ByteArray)×Int)×List (List (Bool×List (ByteArray)))×List (ByteArray×ByteArray×Int)×Int)=>x,fun _=>rfl,((ByteArray.empty,[],[],[],[],[],0):ByteArray×List (ByteArray×Int×Int×Int×Int×Int×Int×Int×Int×Int×Int)×List (ByteArray×ByteArray×Int×Int×Int×Int)×List (ByteArray×List (ByteArray)×Int)×List (List (Bool×List (ByteArray)))×List (ByteArray×ByteArray×Int)×Int)⟩⟩,
 ⟨106,⟨[.sl 107],fun(x:List (List (ByteArray×Int×Int×Int×List (ByteArray×Int×Int))))=>x,fun(x:List (List (ByteArray×Int×Int×Int×List (ByteArray×Int×Int))))=>x,fun _=>rfl,(([]):List (List (ByteArray×Int×Int×Int×List (ByteArray×Int×Int))))⟩⟩,
 ⟨107,⟨[.sl 110],fun(x:List (ByteArray×Int×Int×Int×List (ByteArray×Int×Int)))=>x,fun(x:List (ByteArray×Int×Int×Int×List (ByteArray×Int×Int)))=>x,fun _=>rfl,(([]):List (ByteArray×Int×Int×Int×List (ByteArray×Int×Int)))⟩⟩,
 ⟨110,⟨[.str,.int .i64,.int .i64,.int .i64,.sl 113],fun(x:ByteArray×Int×Int×Int×List (ByteArray×Int×Int))=>x,fun(x:ByteArray×Int×Int×Int×List (ByteArray×Int×Int))=>x,fun _=>rfl,((ByteArray.empty,0,0,0,[]):ByteArray×Int×Int×Int×List (ByteArray×Int×Int))⟩⟩,
 ⟨113,⟨[.str,.int .i64,.int .i64],fun(x:ByteArray×Int×Int)=>x,fun(x:ByteArray×Int×Int)=>x,fun _=>rfl,((ByteArray.empty,0,0):ByteArray×Int×Int)⟩⟩,
 ⟨116,⟨[.int .i64,.int .i64],fun(x:Int×Int)=>x,fun(x:Int×Int)=>x,fun _=>rfl,((0,0):Int×Int)⟩⟩,
 ⟨144,⟨[.str,.int .i64,.int .i64,.int .i64,.int .i64,.int .i64,.int .i64,.int .i64,.int .i64,.int .i64,.int .i64],fun(x:ByteArray×Int×Int×Int×Int×Int×Int×Int×Int×Int×Int)=>x,fun(x:ByteArray×Int×Int×Int×Int×Int×Int×Int×Int×Int×Int)=>x,fun _=>rfl,((ByteArray.empty,0,0,0,0,0,0,0,0,0,0):ByteArray×Int×Int×Int×Int×Int×Int×Int×Int×Int×Int)⟩⟩,
 ⟨148,⟨[.str,.sl 9,.int .i64],fun(x:ByteArray×List (ByteArray)×Int)=>x,fun(x:ByteArray×List (ByteArray)×Int)=>x,fun _=>rfl,((ByteArray.empty,[],0):ByteArray×List (ByteArray)×Int)⟩⟩,
 ⟨151,⟨[.str,.str,.int .i64,.int .i64,.int .i64,.int .i64],fun(x:ByteArray×ByteArray×Int×Int×Int×Int)=>x,fun(x:ByteArray×ByteArray×Int×Int×Int×Int)=>x,fun _=>rfl,((ByteArray.empty,ByteArray.empty,0,0,0,0):ByteArray×ByteArray×Int×Int×Int×Int)⟩⟩,
 ⟨163,⟨[.sl 166],fun(x:List (Bool×List (ByteArray)))=>x,fun(x:List (Bool×List (ByteArray)))=>x,fun _=>rfl,(([]):List (Bool×List (ByteArray)))⟩⟩,
 ⟨166,⟨[.bool,.sl 9],fun(x:Bool×List (ByteArray))=>x,fun(x:Bool×List (ByteArray))=>x,fun _=>rfl,((false,[]):Bool×List (ByteArray))⟩⟩,
 ⟨180,⟨[.int .i64,.int .i64,.sl 110],fun(x:Int×Int×List (ByteArray×Int×Int×Int×List (ByteArray×Int×Int)))=>x,fun(x:Int×Int×List (ByteArray×Int×Int×Int×List (ByteArray×Int×Int)))=>x,fun _=>rfl,((0,0,[]):Int×Int×List (ByteArray×Int×Int×Int×List (ByteArray×Int×Int)))⟩⟩,
 ⟨196,⟨[.str,.int .i64,.int .i64,.int .i64,.int .i64],fun(x:ByteArray×Int×Int×Int×Int)=>x,fun(x:ByteArray×Int×Int×Int×Int)=>x,fun _=>rfl,((ByteArray.empty,0,0,0,0):ByteArray×Int×Int×Int×Int)⟩⟩,
 ⟨204,⟨[.int .i64,.int .i64],fun(x:Int×Int)=>x,fun(x:Int×Int)=>x,fun _=>rfl,((0,0):Int×Int)⟩⟩,
 ⟨207,⟨[.str,.str,.int .i64],fun(x:ByteArray×ByteArray×Int)=>x,fun(x:ByteArray×ByteArray×Int)=>x,fun _=>rfl,((ByteArray.empty,ByteArray.empty,0):ByteArray×ByteArray×Int)⟩⟩,
 ⟨244,⟨[.int .i64,.str,.int .i64,.int .i64],fun(x:Int×ByteArray×Int×Int)=>x,fun(x:Int×ByteArray×Int×Int)=>x,fun _=>rfl,((0,ByteArray.empty,0,0):Int×ByteArray×Int×Int)⟩⟩,
 ⟨1000312,⟨[.str,.bool],fun(x:ByteArray×Bool)=>x,fun(x:ByteArray×Bool)=>x,fun _=>rfl,((ByteArray.empty,false):ByteArray×Bool)⟩⟩,
 ⟨1000438,⟨[.str,.int .i64],fun(x:ByteArray×Int)=>x,fun(x:ByteArray×Int)=>x,fun _=>rfl,((ByteArray.empty,0):ByteArray×Int)⟩⟩,
 ⟨1000517,⟨[.str,.str,.int .i64,.int .i64,.int .i64,.int .i64],fun(x:ByteArray×ByteArray×Int×Int×Int×Int)=>x,fun(x:ByteArray×ByteArray×Int×Int×Int×Int)=>x,fun _=>rfl,((ByteArray.empty,ByteArray.empty,0,0,0,0):ByteArray×ByteArray×Int×Int×Int×Int)⟩⟩],fun y=>if y=620 then some (rng Go.Proofs.Tryz.f62 0 [5,6])else if y=1170 then some (rng Go.Proofs.Tryz.f117 0 [6,7])else if y=1220 then some (rng Go.Proofs.Tryz.f122 0 [5])else none,[4000131,6100131,800131,600171,500171],[]⟩
theorem mixed:Go.Proofs.Tryz.prog.follows .mixedOrders=true:=by kernel_rfl
theorem eq23:EqT Go.Proofs.Tryz.prog 23:=Wvh (by kernel_rfl) (by kernel_rfl) (by kernel_rfl) (by kernel_rfl)
theorem eq30:EqT Go.Proofs.Tryz.prog 30:=Wvh (by kernel_rfl) (by kernel_rfl) (by kernel_rfl) (by kernel_rfl)
theorem eq116:EqT Go.Proofs.Tryz.prog 116:=Wvh (by kernel_rfl) (by kernel_rfl) (by kernel_rfl) (by kernel_rfl)
theorem eq204:EqT Go.Proofs.Tryz.prog 204:=Wvh (by kernel_rfl) (by kernel_rfl) (by kernel_rfl) (by kernel_rfl)
theorem Wal:∀ t∈([23,30,116,204]:List TypeId),EqT Go.Proofs.Tryz.prog t:=by
 intro t h
 simp only[List.mem_cons,List.not_mem_nil,or_false]at h
 rcases h with rfl | rfl | rfl | rfl
 ·exact eq23
 ·exact eq30
 ·exact eq116
 ·exact eq204
abbrev hI:CT:=.hole (.int .i64)
abbrev hB:CT:=.hole .bool
abbrev hS:CT:=.hole .str
abbrev hU:CT:=.hole (.int .u8)
abbrev hL(e:Nat):CT:=.hole (.sl e)
abbrev sO:=slotsOf
abbrev zc0:List CT:=[hS,hL 144,hL 151,hL 148,hL 163,hL 207,hI]
abbrev zc1:List CT:=[hI,hI,hI,hI,hI,hL 89,hL 78,hI,hI]
abbrev zc2:List CT:=[hI,hL 53,hI,hI,hI,hI,hB,hI]
abbrev zc3:List CT:=[hS,hI,hL 106,hI,hI]
abbrev zc4:List CT:=[hL 244,hI,hI]
abbrev zc5:List CT:=[hS,hI,hI,hI,hL 113]
abbrev zc6:List CT:=[hS,hI,hI,hI,hI,hI,hI,hI,hI,hI,hI]
abbrev zc7:List CT:=[hS,hS,hS,hI,hI,hI]
abbrev zc8:List CT:=[hI,hS,hI,hI]
abbrev LBy:=List ByteArray
abbrev LIn:=List Int
abbrev LBo:=List Bool
abbrev T0:=Bool×LBy
abbrev LT0:=List T0
abbrev T1:=ByteArray×Bool
abbrev LT1:=List T1
abbrev T2:=ByteArray×ByteArray×ByteArray×Int×Int×Int
abbrev LT2:=List T2
abbrev T3:=ByteArray×ByteArray×Int
abbrev LT3:=List T3
abbrev T4:=ByteArray×ByteArray×Int×Int×Int×Int
abbrev LT4:=List T4
abbrev T5:=ByteArray×Int
abbrev LT5:=List T5
abbrev T6:=ByteArray×Int×Int
abbrev LT6:=List T6
abbrev T7:=ByteArray×Int×Int×Int×Int
abbrev LT7:=List T7
abbrev T8:=ByteArray×Int×Int×Int×Int×Int×Int×Int×Int×Int×Int
abbrev LT8:=List T8
abbrev T9:=ByteArray×LBy×Int
abbrev LT9:=List T9
abbrev T10:=Ex×Shape
abbrev LT10:=List T10
abbrev T11:=Int×ByteArray×Int×Int
abbrev LT11:=List T11
abbrev T12:=Int×Int
abbrev LT12:=List T12
abbrev LLT0:=List LT0
abbrev T13:=ByteArray×Int×Int×Int×LT6
abbrev LT13:=List T13
abbrev T14:=ByteArray×LT8×LT4×LT9×LLT0×LT3×Int
abbrev LT14:=List T14
abbrev Wai:=List LT13
abbrev T15:=ByteArray×LT8×LT4×LT9×LLT0×LT3×Int
abbrev T16:=ByteArray×LT8×LT4×LT9×LLT0×LT3×Int×LT1×LT1×LT5
abbrev T17:=Int×Int×Int×Int×Bool×Int
abbrev T18:=Int×Int×Int×Int×Int×LT14×LT2×Int×Int
abbrev T19:=ByteArray×LT8×LT4×LT9×LLT0×LT3×Int×LBy
abbrev T20:=Int×Int×Int
abbrev T21:=Int×Int×ByteArray×LT8×LT4×LT9×LLT0×LT3×Int×LT1×LT1×LT5×LT1
abbrev T22:=ByteArray×Int×Int×Int×LT6
abbrev T23:=LT11×Int×Int
abbrev T24:=Int×Int×Int×Int×Int×LT14×LT2×Int×Int×ByteArray×ByteArray×ByteArray×T20
abbrev T25:=ByteArray×LT8×LT4×LT9×LLT0×LT3×Int×ByteArray
abbrev z0:List (Nat×Nat×List CT):=[(1000000,221,[hS,hL 144,hL 151,hL 148,hL 163,hL 207,hI,.row 1000000,.row 1000001,.row 1000002])]
abbrev z1:List (Nat×Nat):=[(1000000,1000312),(1000001,1000312),(1000002,1000438)]
abbrev z2:List (Nat×AT):=[(0,.c (.box 1000000 0)),(2,.c (.box 2 0)),(3,.c (.box 3 0))]
abbrev z3:List (Nat×Nat×List CT):=[(1000000,237,zc4)]
abbrev z4:List (Nat×AT):=[(0,.agg [hI,hI])]
abbrev z5:List (Nat×Nat):=[(1000000,1000312),(1000001,1000312),(1000002,1000438),(12,1000312)]
abbrev z6:List (Nat×Nat×List CT):=[(1000000,9,[hS])]
abbrev z7:List (Nat×Nat×List CT):=[(1000000,256,[hI,hI]),(1000001,258,[.row 1000000]),(1000002,53,zc3)]
abbrev z8:List (Nat×Nat×List CT):=[(1,89,zc0),(16,221,[hS,hL 144,hL 151,hL 148,hL 163,hL 207,hI,.row 12,.row 13,.row 14])]
abbrev z9:List (Nat×Nat×List CT):=[(1000000,256,[hI,hI]),(1000001,258,[.row 1000000]),(1000002,53,zc3),(5,106,[hL 107])]
abbrev z10:List (Nat×Nat×List CT):=[(1000000,199,[.row 2000000]),(1000001,56,[hL 116]),(1000002,2,[hI])]
abbrev z11:List (Nat×Nat×List CT):=[(1000000,35,[.row 1000000]),(1000001,2,[hI]),(1000002,25,[hL 78])]
abbrev z12:List (Nat×Nat×List CT):=[(1000000,27,zc1),(1000001,39,[hI]),(1000002,3,[hI])]
abbrev z13:List (Nat×AT):=[(0,.yld 1170 [.c (.box 1000000 0),.c (.box 1000001 0)]),(3,.c hI),(5,.c (.box 5 0)),(12,.c (hL 106)),(13,.c hI),(14,.c hI),(19,.c (hL 107)),(20,.c hI),(21,.c hI)]
abbrev z14:List (Nat×AT):=[(0,.c hI),(1,.c hI)]
abbrev z15:List (Nat×Nat×List CT):=[(1000000,2,[hI]),(1000001,2,[hI])]
abbrev z16:List (Nat×AT):=[(0,.c (.box 1000000 0))]
abbrev z17:List (Nat×AT):=[(2,.c hI),(3,.c hI)]
abbrev z18:List (Nat×AT):=[(1,.c (.box 1000000 0)),(2,.c (.box 1000001 0)),(3,.c (.box 1000002 0))]
abbrev z19:List (Nat×AT):=[(0,.c (.box 1000000 0)),(2,.c (.row 12)),(3,.c hI),(22,.c (hL 163)),(23,.c hI),(24,.c hI),(41,.c (hL 166)),(42,.c hI),(43,.c hI)]
abbrev z20:List (Nat×AT):=[(0,.c hI),(1,.c (hL 116))]
abbrev z21:List (Nat×Nat):=[(12,1000312),(13,1000312),(14,1000438)]
abbrev z22:List (Nat×Nat×List CT):=[(1000000,237,zc4),(2,89,[hS,.nil,.nil,.nil,.nil,.nil,hI]),(3,89,[hS,.row 29,.row 41,.row 68,.row 80,.row 107,hI])]
abbrev z23:List (Nat×Nat×List CT):=[(1000000,221,[hS,hL 144,hL 151,hL 148,hL 163,hL 207,hI,.row 1000000,.row 1000001,.row 1000002]),(5,148,[hS,hL 9,hI])]
abbrev z24:List (Nat×AT):=[(2,.c hB),(3,.c (.box 3 0)),(4,.c (.box 4 0)),(10,.c (.row 13500)),(11,.c (.row 13501)),(12,.c (.row 40)),(14,.c hI)]
abbrev z25:List (Nat×Nat×List CT):=[(1000000,237,zc4),(2,89,[hS,.nil,.nil,.nil,.nil,.nil,hI]),(3,89,[hS,.row 29,.row 41,.row 68,.row 80,.nil,hI])]
abbrev z26:List (Nat×Nat):=[(1000000,1000517)]
abbrev z27:List (Nat×Nat×List CT):=[(1000000,237,zc4),(2,89,[hS,.nil,.nil,.nil,.nil,.nil,hI]),(3,89,[hS,.row 29,.row 41,.row 68,.nil,.nil,hI])]
abbrev z28:List (Nat×Nat×List CT):=[(1,32,zc2),(4,53,zc3)]
abbrev z29:List (Nat×Nat×List CT):=[(1000000,237,zc4),(2,89,[hS,.nil,.nil,.nil,.nil,.nil,hI]),(3,89,[hS,.row 29,.row 41,.nil,.nil,.nil,hI])]
abbrev z30:List (Nat×Nat×List CT):=[(1000000,237,zc4),(2,89,[hS,.nil,.nil,.nil,.nil,.nil,hI]),(3,89,[hS,.row 29,.nil,.nil,.nil,.nil,hI])]
abbrev z31:List (Nat×AT):=[(2,.c (.box 2 0)),(8,.c (.box 26 0)),(9,.c (.box 9 0))]
abbrev z32:List (Nat×Nat×List CT):=[(2,27,[hI,hI,hI,hI,hI,.nil,.nil,hI,hI]),(26,237,zc4),(9,27,[hI,hI,hI,hI,hI,.row 53,hL 78,hI,hI])]
abbrev z33:List (Nat×Nat×List CT):=[(2,27,[hI,hI,hI,hI,hI,.nil,.nil,hI,hI]),(26,237,zc4),(9,27,[hI,hI,hI,hI,hI,.row 53,.nil,hI,hI])]
abbrev z34:List (Nat×AT):=[(0,.agg zc1),(1,.agg zc2)]
abbrev z35:List (Nat×Nat×List CT):=[(2,53,zc3),(4,110,[hS,hI,hI,hI,.nil])]
abbrev z36:List (Nat×AT):=[(1,.c (.box 1 0)),(4,.c hI)]
abbrev z37:List (Nat×Nat×List CT):=[(2,89,zc0),(3,53,zc3)]
abbrev z38:List (Nat×AT):=[(0,.c (.row 0))]
abbrev z39:List (Nat×AT):=[(1,.c (.box 1 0)),(3,.c hI),(4,.c (.box 4 0)),(5,.c hI),(6,.c hI),(7,.c (hL 110)),(8,.c hI)]
abbrev z40:List (Nat×Nat×List CT):=[(2,27,zc1),(3,32,zc2),(5,30,[hI,hI]),(6,30,[hI,hI]),(8,30,[hI,hI]),(9,30,[hI,hI])]
abbrev z41:List (Nat×AT):=[(0,.c (.box 1000000 0)),(2,.c (.row 12)),(3,.c hI),(22,.c (hL 163)),(23,.c hI),(24,.c hI)]
abbrev z42:List (Nat×AT):=[(1,.c (.box 1 0)),(4,.c hI),(5,.c (.box 5 0)),(6,.c hI)]
abbrev z43:List (Nat×Nat×List CT):=[(1000000,32,zc2)]
abbrev z44:List (Nat×Nat):=[(1000001,1000312),(1000000,1000312),(1000002,1000438)]
abbrev z45:List (Nat×AT):=[(1,.c hS),(2,.c (.box 2 0)),(5,.c hI)]
abbrev z46:List (Nat×AT):=[(1,.c hS),(2,.c (.box 2 0)),(4,.c (.box 4 0)),(7,.c hI),(8,.c hI),(9,.c hI)]
abbrev z47:List (Nat×Nat×List CT):=[(16,221,[hS,hL 144,hL 151,hL 148,hL 163,hL 207,hI,.row 12,.row 13,.row 14])]
abbrev z48:List (Nat×AT):=[(1,.c (.box 1 0)),(3,.c hI),(4,.c hI),(5,.c (hL 107)),(6,.c hI),(7,.c hI)]
abbrev z49:List (Nat×AT):=[(2,.c (.box 2 0)),(3,.c (.box 3 0)),(23,.c (hL 106)),(24,.c hI),(25,.c hI)]
abbrev z50:List (Nat×Nat×List CT):=[(3,27,zc1),(4,32,zc2)]
abbrev z51:List (Nat×Nat):=[(13500,3),(13501,2),(40,4)]
abbrev z52:List (Nat×AT):=[(1,.c (.box 1 0)),(4,.c (.row 90)),(5,.c hI),(6,.c (hL 166)),(7,.c hI)]
abbrev z53:List (Nat×AT):=[(1,.c hS),(2,.c (.box 2 0)),(4,.c (.box 4 0)),(7,.c hI),(8,.c hI)]
abbrev z54:List (Nat×AT):=[(1,.c (.box 1 0)),(3,.c hI),(4,.c (.box 4 0)),(5,.c hI),(6,.c hI)]
abbrev z55:List (Nat×AT):=[(0,.agg zc0),(1,.agg zc3)]
abbrev z56:List (Nat×Nat×List CT):=[(1,89,zc0),(5,151,[hS,hS,hI,hI,hI,hI])]
abbrev z57:List (Nat×AT):=[(1,.c (.box 1 0)),(3,.c hI),(4,.c hI),(5,.c (hL 107)),(6,.c hI)]
abbrev z58:List (Nat×AT):=[(0,.c (hL 5)),(1,.c hI),(4,.c (.box 4 0)),(6,.c hI),(7,.c hI)]
abbrev z59:List (Nat×AT):=[(0,.c (hL 4)),(3,.c hI),(6,.c (.row 68)),(7,.c hI),(8,.c hI)]
abbrev z60:List (Nat×AT):=[(0,.c (hL 5)),(1,.c hI)]
abbrev z61:List (Nat×Nat×List CT):=[(1,27,zc1),(5,78,zc7)]
abbrev z62:List (Nat×AT):=[(0,.agg zc0),(1,.c hS)]
abbrev z63:List (Nat×AT):=[(0,.agg zc0)]
abbrev z64:List (Nat×AT):=[(4,.c (.box 4 0)),(5,.c hI),(6,.c hB)]
abbrev z65:List (Nat×AT):=[(1,.c (.box 1 0)),(3,.c hI),(4,.c hI)]
abbrev z66:List (Nat×AT):=[(1,.c (.box 1 0)),(4,.c hI),(5,.c hI)]
abbrev z67:List (Nat×AT):=[(3,.c (.box 3 0)),(5,.c hI)]
abbrev z68:List (Nat×AT):=[(1,.c (.box 1 0))]
abbrev z69:List (Nat×Nat×List CT):=[(1,89,zc0),(5,148,[hS,hL 9,hI])]
abbrev z70:List (Nat×AT):=[(0,.c (.box 1000000 0)),(1,.c hS)]
noncomputable abbrev cX(g d:List (Nat×Go.Den.Spec Θ.T))(k:List (Nat×Nat×Nat)):Cx:=⟨Go.Proofs.Tryz.prog,Θ,[23,30,116,204],g,d,[],k⟩
end Go.Proofs.YtalbenehgdkalaaGreat.Fn