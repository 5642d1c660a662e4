/- Texts of the proof. -/
import Derived.Test.YtalbenehgdkalaaGreatBandB
namespace Go.Proofs.YtalbenehgdkalaaGreat.Fn
open Go Go.RowKit Go.Den Go.Circ
def Wgz(C:Int)(G:Nat→Int×Int)(F:Nat→Int):Nat→List (Int×Int)
 | 0=>[(0,C)]
 | i+1=>Wlv C (Wgz C G F i) (Wiy C [G i] (0 - F i))
def FreeT(C:Int)(G:Nat→Int×Int)(F:Nat→Int)(N:Nat)(j:Int):Prop:=∀ k,k < N→HasT C (G k) (j+F k)
theorem freeL_ts{C:Int}(h1:1≤C)(h2:C≤6000)(G:Nat→Int×Int)(F:Nat→Int):∀ i j,0≤j→j < C→(TS C (Wgz C G F i) j↔FreeT C G F i j):=by
 intro i
 induction i with
 | zero=>
  intro j h0 h3
  simp only[Wgz,TS,List.mem_singleton,exists_eq_left,HasT,FreeT]
  constructor
  ·intro _ k hk;omega
  ·intro _;exact⟨h1,.inl (Int.le_refl _)⟩
 | succ i ih=>
  intro j h0 h3
  simp only[Wgz]
  rw[Wow h1 h2 _ _ h0 h3,ih j h0 h3,Wxf h1 h2 _ _ h0 h3]
  simp only[TS,List.mem_singleton,exists_eq_left]
  rw[show j - (0 - F i)=j+F i by omega]
  constructor
  ·rintro⟨h4,h5⟩ k hk
   by_cases he:k=i
   ·rw[he];exact h5
   ·exact h4 k (by omega)
  ·intro h4
   exact⟨fun k hk=>h4 k (by omega),h4 i (by omega)⟩
theorem Wus{C:Int}(h1:1≤C)(h2:C≤6000)(G:Nat→Int×Int)(F:Nat→Int)(i:Nat):Arcs C (FreeT C G F (i+1)) (Wgz C G F (i+1)):=by
 refine Arcs.congr h1 (fun j h0 h3=>?_) (Wrb h1 h2 (Wgz C G F i) (Wiy C [G i] (0 - F i)))
 rw[← freeL_ts h1 h2 G F (i+1) j h0 h3]
 simp only[Wgz]
 rw[Wow h1 h2 _ _ h0 h3]
theorem Wo1{C:Int}(h1:1≤C)(h2:C≤500)(G:Nat→Int×Int)(F:Nat→Int)(i:Nat):(Wgz C G F i).length≤500:=by
 cases i with
 | zero=>simp[Wgz]
 | succ i=>
  have:=Arcs.len (Wus h1 (by omega) G F i) (by omega)
  omega
def Wan(x:NetT)(cy:Int)(ts:List TimT)(isIn:Bool):List (Int×Int)×Int:=
 if(netE x).1=0 then(if Wml x cy ts=true then(if x.2.2.2.2.2.2.1.length=0 then([],0)else
  (Wgz cy (fun i=>Wd6 x.2.2.2.2.2.1 ts isIn (x.2.2.2.2.2.2.1.getD i Wbf)) (Wet x.2.2.2.2.2.2.1 isIn) x.2.2.2.2.2.2.1.length,0))else([],180))else([],1)
theorem allBd_of{ns:List Wa5}{ss:List Wbs}{ts:List TimT}(hl:ss.length≤15)(h:∀ i,i < ss.length→StopOk ns ts (ss.getD i Wbf)):AllBd ss:=
 ⟨hl,Wb4 fun i hi=>(h i hi).ahead,Wb4 fun i hi=>(h i hi).back⟩
set_option maxHeartbeats 2000000 in
theorem Wsy(a b c d e:Int)(ns:List Wa5)(ss:List Wbs)(f g:Int)(p:Wlg)(isIn:Bool)(h:Small20 ns ss p.2.1) :
 Ev (fun n=>qab n (a,b,c,d,e,ns,ss,f,g,p.1,p.2.1,p.2.2.1,p.2.2.2.1,p.2.2.2.2.1,p.2.2.2.2.2.1,p.2.2.2.2.2.2.1,p.2.2.2.2.2.2.2,isIn)) (Wan (a,b,c,d,e,ns,ss,f,g) p.1 p.2.1 isIn):=by
 have hst:=step_ a b c d e ns ss f g p h
 obtain⟨cy,ts,p1,p2,p3,p4,p5,p6⟩:=p
 have hnl:=h.nets
 have hsl:=h.stops
 unfold qab Wan
 refine Ev.bind (Wz0 (a,b,c,d,e,ns,ss,f,g) (h.sh a b c d e f g)) ?_
 by_cases h0:(netE (a,b,c,d,e,ns,ss,f,g)).1=0
 case neg=>rw[if_neg h0];exact Ev.yes (by simp[h0]) (Ev.ret _)
 rw[if_pos h0]
 refine Ev.no (by simp[h0]) ?_
 refine Ev.bind hst ?_
 simp only
 cases hs:Wml (a,b,c,d,e,ns,ss,f,g) cy ts with
 | false=>exact Ev.ret _
 | true=>
  obtain⟨⟨c1,c2⟩,hok⟩:=Wo6 h hs
  have hbd:=allBd_of hsl hok
  simp only[Bool.not_true,cond_false,if_true]
  by_cases hz:ss.length=0
  ·rw[if_pos hz]
   exact Ev.yes (by simp[hz]) (Ev.ret _)
  rw[if_neg hz]
  refine Ev.no (by rw[len_eq0];exact decide_eq_false hz) ?_
  refine Ev.bind (far_ ss isIn hbd) ?_
  refine Ev.loopB (st:=fun i=>(isIn,Wgz cy (fun i=>Wd6 ns ts isIn (ss.getD i Wbf)) (Wet ss isIn) i,ss,((ss.length:Nat):Int),(i:Int),a,b,c,d,e,ns,ss,f,g,cy,ts,p1,p2,p3,p4,p5,p6,mkI ss.length (Wet ss isIn))) ss.length (Wgz cy (fun i=>Wd6 ns ts isIn (ss.getD i Wbf)) (Wet ss isIn) ss.length) rfl (fun i hi=>?_) ?_ (Ev.ret _)
  ·have hzs:ss.getD i (ByteArray.mk #[],ByteArray.mk #[],ByteArray.mk #[],0,0,0)=ss.getD i Wbf:=rfl
   have hlen:=Wo1 c1 c2 (fun i=>Wd6 ns ts isIn (ss.getD i Wbf)) (Wet ss isIn) i
   have hfb:=hbd.far isIn i
   have hoki:=hok i hi
   have hgd:=mkI_get ss.length (Wet ss isIn) i hi
   have hsucc:Wgz cy (fun i=>Wd6 ns ts isIn (ss.getD i Wbf)) (Wet ss isIn) (i+1)=Wlv cy (Wgz cy (fun i=>Wd6 ns ts isIn (ss.getD i Wbf)) (Wet ss isIn) i) (Wiy cy [Wd6 ns ts isIn (ss.getD i Wbf)] (0 - Wet ss isIn i)):=rfl
   rw[hsucc]
   simp only[Wac hi,cond_true,Wai,hi,decide_true,Waj,hzs,letJ,Wm6,hgd,Waf (show i < 9223372036854775807 by omega)]
   generalize Wgz cy (fun i=>Wd6 ns ts isIn (ss.getD i Wbf)) (Wet ss isIn) i=A at hlen
   generalize ss.getD i Wbf=s at hoki
   generalize Wet ss isIn i=fr at hfb
   have hwf:wrap64 (0 - fr)=0 - fr:=Waq (by omega) (by omega)
   simp only[hwf]
   refine Ev.bind (Wss a b c d e ns ss f g s.1 (by omega)) ?_
   obtain⟨_,_,⟨n0,n1,n2⟩,hh,hf⟩:=hoki
   have hz1:atI (ByteArray.mk #[],[],[],[],[],[],0) ns (Wbb ns s.1)=ns.getD (Wbb ns s.1).toNat Wbx:=rfl
   have hz2:atI (ByteArray.mk #[],0,[],0,0) ts (Wbb ns s.1)=ts.getD (Wbb ns s.1).toNat zTim:=rfl
   simp only[Wo7 n0 n1,Wo7 n0 n2,cond_true,hz1,hz2]
   have hg:=green_ (ns.getD (Wbb ns s.1).toNat Wbx) (ts.getD (Wbb ns s.1).toNat zTim) (Wh0 s isIn) (h.node _ (Wau ns _ Wbx n1)).bd (h.tim _ (Wau ts _ zTim n2)).bd hf (hh isIn)
   have hge:Ws1 (ns.getD (Wbb ns s.1).toNat Wbx) (ts.getD (Wbb ns s.1).toNat zTim) (Wh0 s isIn)=Wd6 ns ts isIn s:=rfl
   rw[hge]at hg
   have htl:=Wum cy [Wd6 ns ts isIn s] (0 - fr)
   simp only[List.length_singleton]at htl
   cases isIn with
   | false=>
    refine Ev.bind hg ?_
    refine Ev.bind (turn_ cy (by omega) _ _ (by simp)) ?_
    refine Ev.bind (meet_ cy A _ (by omega) (by omega)) ?_
    exact Ev.ret _
   | true=>
    refine Ev.bind hg ?_
    refine Ev.bind (turn_ cy (by omega) _ _ (by simp)) ?_
    refine Ev.bind (meet_ cy A _ (by omega) (by omega)) ?_
    exact Ev.ret _
  ·simp only[Wab,cond_false];exact Ev.ret _
end Go.Proofs.YtalbenehgdkalaaGreat.Fn