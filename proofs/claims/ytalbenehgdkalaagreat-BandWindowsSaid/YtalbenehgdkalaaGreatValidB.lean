/- Texts of the proof. -/
import Derived.Test.YtalbenehgdkalaaGreatValid
namespace Go.Proofs.YtalbenehgdkalaaGreat.Fn
open Go Go.RowKit Go.Den Go.Circ
def Wcn(g:List RowT):List ByteArray:=g.flatMap (·.2)
def Wbc(gs:List (List RowT)):List ByteArray:=gs.flatMap Wcn
def Wwh(ph:List Was)(pos:Int)(seen:List ByteArray)(s:ByteArray):Err:=if Wd4 ph s < 0 then(72,pos)else if inOf seen s=true then(71,pos)else(0,0)
def lineE(ph:List Was)(pos:Int)(seen names:List ByteArray):Err:=Wb0 names.length fun m=>Wwh ph pos (seen++names.take m) (names.getD m (ByteArray.mk #[]))
def Wh7(ph:List Was)(pos:Int)(seen:List ByteArray)(r:RowT):Err:=if r.2.length < 1∨4 < r.2.length then(74,pos)else lineE ph pos seen r.2
def Wfi(ph:List Was)(pos:Int)(seen:List ByteArray)(g:List RowT):Err:=if g.length < 1∨2 < g.length then(74,pos)else Wb0 g.length fun k=>Wh7 ph pos (seen++Wcn (g.take k)) (g.getD k zRow)
def Wji(ph:List Was)(pos:Int)(gs:List (List RowT)):Err:=Wb0 gs.length fun i=>Wfi ph pos (Wbc (gs.take i)) (gs.getD i [])
def Wzu(ph:List Was)(names:List ByteArray):Err:=Wb0 ph.length fun i=>if inOf names (ph.getD i Wax).1=true then(0,0)else(74,(ph.getD i Wax).2.2)
def Wm0(ph:List Was)(pos:Int)(gs:List (List RowT)):Err:=if(Wji ph pos gs).1=0 then Wzu ph (Wbc gs)else Wji ph pos gs
theorem Wh8(g:List RowT)(k:Nat)(h:k < g.length):Wcn (g.take (k+1))=Wcn (g.take k)++(g.getD k zRow).2:=by
 rw[Wav g k zRow h];simp[Wcn,List.flatMap_append]
theorem Wf5(gs:List (List RowT))(k:Nat)(h:k < gs.length):Wbc (gs.take (k+1))=Wbc (gs.take k)++Wcn (gs.getD k []):=by
 rw[Wav gs k [] h];simp[Wbc,List.flatMap_append]
theorem Wm1{a b:Int}(h:a≠0):((a,b):Err).1≠0:=h
theorem Wzv{ph:List Was}{pos:Int}{seen:List ByteArray}{r:RowT}(h:(Wh7 ph pos seen r).1=0):1≤r.2.length∧r.2.length≤4:=by
 unfold Wh7 at h
 split at h
 ·exact absurd h (Wm1 (show(74:Int)≠0 by decide))
 ·omega
theorem Wm2{ph:List Was}{pos:Int}{seen:List ByteArray}{g:List RowT}(k:Nat)(hk:k≤g.length)(h:∀ j,j < k→(Wh7 ph pos (seen++Wcn (g.take j)) (g.getD j zRow)).1=0):(Wcn (g.take k)).length≤4 * k:=by
 induction k with
 | zero=>simp[Wcn]
 | succ k ih=>
  rw[Wh8 g k (by omega),List.length_append]
  have:=ih (by omega) fun j hj=>h j (by omega)
  have:=(Wzv (h k (by omega))).2
  omega
theorem Wwi{ph:List Was}{pos:Int}{seen:List ByteArray}{g:List RowT}(h:(Wfi ph pos seen g).1=0):(1≤g.length∧g.length≤2)∧∀ k,k < g.length→(Wh7 ph pos (seen++Wcn (g.take k)) (g.getD k zRow)).1=0:=by
 unfold Wfi at h
 split at h
 ·exact absurd h (Wm1 (show(74:Int)≠0 by decide))
 ·exact⟨by omega,Whd h⟩
theorem Wjw{ph:List Was}{pos:Int}{gs:List (List RowT)}(i:Nat)(hi:i≤gs.length)(h:∀ j,j < i→(Wfi ph pos (Wbc (gs.take j)) (gs.getD j [])).1=0):(Wbc (gs.take i)).length≤8 * i:=by
 induction i with
 | zero=>simp[Wbc]
 | succ i ih=>
  rw[Wf5 gs i (by omega),List.length_append]
  have h1:=ih (by omega) fun j hj=>h j (by omega)
  obtain⟨h2,h3⟩:=Wwi (h i (by omega))
  have h4:=Wm2 _ (Nat.le_refl _) h3
  rw[List.take_length]at h4
  omega
set_option maxHeartbeats 1000000 in
theorem rings07_(x:Wa5)(hp:Sh x.2.2.2.1)(hg:x.2.2.2.2.1.length≤1000):Ev (fun n=>qcj n x) (Wm0 x.2.2.2.1 x.2.2.2.2.2.2 x.2.2.2.2.1):=by
 obtain⟨x1,x2,x3,x4,x5,x6,x7⟩:=x
 unfold qcj Wm0 Wji
 simp only at hp hg ⊢
 refine Ev.loopS (st:=fun i=>((i:Int),x1,x2,x3,x4,x5,x6,x7,Wbc (x5.take i))) x5.length (fun i=>Wfi x4 x7 (Wbc (x5.take i)) (x5.getD i [])) (x1,x2,x3,x4,x5,x6,x7,Wbc x5) rfl (fun i hi hpre=>?_) (fun _=>?_) (fun h=>?_) (fun h=>?_)
 ·have hal:=Wjw i (by omega) hpre
  rw[Wf5 x5 i hi]
  generalize Wbc (x5.take i)=seen at hal
  simp only[Wab hi,cond_true,Waf,hi,decide_true,Wag,letJ]
  generalize x5.getD i []=g
  by_cases h1:g.length < 1
  ·have e:Wfi x4 x7 seen g=(74,x7):=by unfold Wfi;rw[if_pos (.inl h1)]
   rw[e,if_neg (Wm1 (by decide))]
   exact Ev.yes (decide_eq_true (by omega)) (Ev.ret _)
  ·refine Ev.no (decide_eq_false (by omega)) ?_
   by_cases h2:2 < g.length
   ·have e:Wfi x4 x7 seen g=(74,x7):=by unfold Wfi;rw[if_pos (.inr h2)]
    rw[e,if_neg (Wm1 (by decide)),decide_eq_true (show(2:Int) < (g.length:Int) by omega)]
    exact Ev.ret _
   ·have e:Wfi x4 x7 seen g=Wb0 g.length fun k=>Wh7 x4 x7 (seen++Wcn (g.take k)) (g.getD k zRow):=by unfold Wfi;rw[if_neg (by omega)]
    rw[e,decide_eq_false (show ¬(2:Int) < (g.length:Int) by omega)]
    simp only[cond_false]
    refine Ev.loopS (st:=fun k=>((i:Int),g,(k:Int),x1,x2,x3,x4,x5,x6,x7,seen++Wcn (g.take k))) g.length (fun k=>Wh7 x4 x7 (seen++Wcn (g.take k)) (g.getD k zRow)) ((i:Int),x1,x2,x3,x4,x5,x6,x7,seen++Wcn g) (by simp[Wcn]) (fun k hk hpre2=>?_) (fun _=>?_) (fun h=>?_) (fun h=>?_)
    ·have hnl:=Wm2 k (by omega) hpre2
     have hz:g.getD k (false,[])=g.getD k zRow:=rfl
     rw[Wh8 g k hk,← List.append_assoc]
     have hsl:(seen++Wcn (g.take k)).length≤100000:=by rw[List.length_append];omega
     generalize seen++Wcn (g.take k)=seen2 at hsl
     simp only[Wab hk,cond_true,Waf,hk,decide_true,Wag,hz]
     generalize hr:g.getD k zRow=r
     by_cases h3:r.2.length < 1
     ·have e:Wh7 x4 x7 seen2 r=(74,x7):=by unfold Wh7;rw[if_pos (.inl h3)]
      rw[e,if_neg (Wm1 (by decide))]
      exact Ev.yes (decide_eq_true (by omega)) (Ev.ret _)
     ·refine Ev.no (decide_eq_false (by omega)) ?_
      by_cases h4:4 < r.2.length
      ·have e:Wh7 x4 x7 seen2 r=(74,x7):=by unfold Wh7;rw[if_pos (.inr h4)]
       rw[e,if_neg (Wm1 (by decide)),decide_eq_true (show(4:Int) < (r.2.length:Int) by omega)]
       exact Ev.ret _
      ·have e:Wh7 x4 x7 seen2 r=lineE x4 x7 seen2 r.2:=by unfold Wh7;rw[if_neg (by omega)]
       rw[e,decide_eq_false (show ¬(4:Int) < (r.2.length:Int) by omega)]
       unfold lineE
       simp only[cond_false]
       refine Ev.loopS (st:=fun m=>((i:Int),g,(k:Int),(m:Int),x1,x2,x3,x4,x5,x6,x7,seen2++r.2.take m)) r.2.length (fun m=>Wwh x4 x7 (seen2++r.2.take m) (r.2.getD m (ByteArray.mk #[]))) ((i:Int),g,(k:Int),x1,x2,x3,x4,x5,x6,x7,seen2++r.2) (by simp) (fun m hm _=>?_) (fun _=>?_) (fun h=>?_) (fun h=>?_)
       ·have hsl3:(seen2++r.2.take m).length≤100010:=by rw[List.length_append];simp;omega
        rw[Wav r.2 m (ByteArray.mk #[]) hm,← List.append_assoc]
        generalize seen2++r.2.take m=seen3 at hsl3
        simp only[Waf,hk,decide_true,cond_true,Wag,hz,hr,Wab hm,hm,Wad (show m < 9223372036854775807 by omega)]
        generalize r.2.getD m (ByteArray.mk #[])=s
        unfold Wwh
        refine Ev.bind (Wkv _ _ _ _ _ _ _ _ hp) ?_
        by_cases h5:Wd4 x4 s < 0
        ·rw[if_pos h5]
         exact Ev.yes (decide_eq_true h5) (Ev.ret _)
        ·rw[if_neg h5]
         refine Ev.no (decide_eq_false h5) ?_
         refine Ev.bind (Wmu _ s (by show seen3.length≤_;omega)) ?_
         cases hin:inOf seen3 s with
         | true=>exact Ev.ret _
         | false=>
          rw[Wce (by simp only[List.length_cons,List.length_nil];omega)]
          exact Ev.ret _
       ·simp only[Waf,hk,decide_true,cond_true,Wag,hz,hr,Waa,cond_false,List.take_length];exact Ev.ret _
       ·rw[if_neg h];exact Ev.ret _
       ·rw[Waz h]
        simp only[Sum.elim_inr,if_true,Wad (show k < 9223372036854775807 by omega)]
        exact Ev.ret _
    ·simp only[Waa,cond_false,List.take_length];exact Ev.ret _
    ·rw[if_neg h];exact Ev.ret _
    ·rw[Waz h]
     simp only[Sum.elim_inr,if_true,Wad (show i < 9223372036854775807 by omega)]
     exact Ev.ret _
 ·simp only[Waa,cond_false,List.take_length];exact Ev.ret _
 ·rw[if_neg h];exact Ev.ret _
 ·have hal:=Wjw x5.length (Nat.le_refl _) h
  rw[List.take_length]at hal
  rw[Waz h]
  simp only[Sum.elim_inr,if_true]
  unfold Wzu
  refine Ev.loopS (st:=fun i=>((i:Int),x1,x2,x3,x4,x5,x6,x7,Wbc x5)) x4.length (fun i=>if inOf (Wbc x5) (x4.getD i Wax).1=true then(0,0)else(74,(x4.getD i Wax).2.2)) () rfl (fun i hi _=>?_) (fun _=>?_) (fun _=>Ev.ret _) (fun h=>by rw[Waz h];exact Ev.ret _)
  ·have hz:x4.getD i (ByteArray.mk #[],[],0)=x4.getD i Wax:=rfl
   simp only[Wab hi,cond_true,Waf,hi,decide_true,Wag,hz,Wad (show i < 9223372036854775807 by omega)]
   refine Ev.bind (Wmu _ _ (by show(Wbc x5).length≤_;omega)) ?_
   cases inOf (Wbc x5) (x4.getD i Wax).1<;>exact Ev.ret _
  ·simp only[Waa,cond_false];exact Ev.ret _
def Wdb(a b:Err):Err:=if a.1=0 then b else a
def Wjj(x:Wa5):Bool:=!(decide (16 < x.2.1.length) || (decide (16 < x.2.2.2.1.length) || (decide (8 < x.2.2.1.length) || (decide (4 < x.2.2.2.2.1.length) || decide (64 < x.2.2.2.2.2.1.length)))))
def Wm3(x:Wa5):Bool:=!(decide (x.2.1.length=0) || (decide (x.2.2.2.1.length=0) || decide (x.2.2.2.2.1.length=0)))
def Wmh(x:Wa5):Err:=
 if Wjj x then(if Wm3 x then Wdb (Wdb (Wdb (Wdb (Wt4 x.2.1) (Wn2 x.2.1 x.2.2.2.1)) (pedsE x.2.2.1 x.2.2.2.1)) (Wm0 x.2.2.2.1 x.2.2.2.2.2.2 x.2.2.2.2.1)) (foesE x.2.1 x.2.2.2.1 x.2.2.2.2.2.1)else(73,x.2.2.2.2.2.2))else(4,x.2.2.2.2.2.2)
theorem Ev.thenE_{F:Nat→Option Err}{B:Type}{K:Nat→Err→Option B}{a b:Err}{v:B}(h:a.1=0→Ev F b)(hK:Ev (fun n=>K n (Wdb a b)) v) :
 Ev (fun n=>bif a.1==0 then(F n).bind (K n)else K n a) v:=by
 unfold Wdb at hK
 by_cases h0:a.1=0
 ·rw[if_pos h0]at hK
  exact Ev.yes (by simp[h0]) (Ev.bind (h h0) hK)
 ·rw[if_neg h0]at hK
  exact Ev.no (by simp[h0]) hK
theorem Woa{A:Type}(l:List A):((((l.length:Nat):Int)==0):Bool)=decide (l.length=0):=by
 by_cases h:l.length=0
 ·rw[h];rfl
 ·rw[decide_eq_false h];simp;intro e;exact h (by simp[e])
theorem Wfj(k n:Nat):decide ((k:Int) < ((n:Nat):Int))=decide (k < n):=by
 by_cases h:k < n
 ·rw[decide_eq_true h];simp[h]
 ·rw[decide_eq_false h];simp;omega
set_option maxHeartbeats 1000000 in
theorem node07_(x:Wa5)(hpp:∀ p∈x.2.2.2.1,Sh p.2.1):Ev (fun n=>qch n x) (Wmh x):=by
 have k1:=heads07_ x
 have k2:=Wyo x
 have k3:=walks07_ x
 have k4:=rings07_ x
 have k5:=foes07_ x
 obtain⟨x1,x2,x3,x4,x5,x6,x7⟩:=x
 simp only at hpp k1 k2 k3 k4 k5 ⊢
 unfold qch Wmh Wjj
 simp only[letJ]
 by_cases h1:16 < x2.length
 ·rw[decide_eq_true h1];exact Ev.yes (decide_eq_true (by omega)) (Ev.ret _)
 refine Ev.no (decide_eq_false (by omega)) ?_
 rw[decide_eq_false h1]
 by_cases h2:16 < x4.length
 ·rw[decide_eq_true h2];exact Ev.yes (decide_eq_true (by omega)) (Ev.ret _)
 refine Ev.no (decide_eq_false (by omega)) ?_
 rw[decide_eq_false h2]
 by_cases h3:8 < x3.length
 ·rw[decide_eq_true h3];exact Ev.yes (decide_eq_true (by omega)) (Ev.ret _)
 refine Ev.no (decide_eq_false (by omega)) ?_
 rw[decide_eq_false h3]
 by_cases h4:4 < x5.length
 ·rw[decide_eq_true h4];exact Ev.yes (decide_eq_true (by omega)) (Ev.ret _)
 refine Ev.no (decide_eq_false (by omega)) ?_
 rw[decide_eq_false h4]
 by_cases h5:64 < x6.length
 ·rw[decide_eq_true h5];exact Ev.yes (decide_eq_true (by omega)) (Ev.ret _)
 refine Ev.no (decide_eq_false (by omega)) ?_
 rw[decide_eq_false h5]
 simp only[Bool.false_or,Bool.not_false,if_true]
 unfold Wm3
 simp only[Woa]
 by_cases g1:x2.length=0
 ·rw[decide_eq_true g1];exact Ev.ret _
 rw[decide_eq_false g1]
 simp only[cond_false]
 by_cases g2:x4.length=0
 ·rw[decide_eq_true g2];exact Ev.ret _
 rw[decide_eq_false g2]
 simp only[cond_false]
 by_cases g3:x5.length=0
 ·rw[decide_eq_true g3];exact Ev.ret _
 rw[decide_eq_false g3]
 simp only[cond_false,Bool.false_or,Bool.not_false,if_true]
 have s1:Sh x2:=by show x2.length≤_;omega
 have s2:Sh x4:=by show x4.length≤_;omega
 have s3:Sh x3:=by show x3.length≤_;omega
 have s4:Sh x6:=by show x6.length≤_;omega
 refine Ev.bind (k1 s1) ?_
 refine Ev.thenE_ (K:=fun n y=>_) (fun _=>k2 s1 s2 hpp) ?_
 refine Ev.thenE_ (K:=fun n y=>_) (fun _=>k3 s3 s2) ?_
 refine Ev.thenE_ (K:=fun n y=>_) (fun _=>k4 s2 (by omega)) ?_
 exact Ev.thenE_ (K:=fun n y=>some y) (fun _=>k5 s1 s2 hpp s4) (Ev.ret _)
def Wkk(hs:List Wbv)(s:Wbq)(i:Nat):Err:=
 if Wa1 hs s.2.1 < 0∨Wa1 hs s.2.2.1 < 0 then(72,s.2.2.2.2.2)
 else if(inR s.2.2.2.1 0 6000&&inR s.2.2.2.2.1 0 6000)=false then(70,s.2.2.2.2.2)
 else if i=0∧(s.2.2.2.1≠0∨s.2.2.2.2.1≠0)then(76,s.2.2.2.2.2)else(0,0)
def Wwj(ns:List Wa5)(ss:List Wbq)(i:Nat):Err:=
 if Wa4 ns (ss.getD i Wba).1 < 0 then(72,(ss.getD i Wba).2.2.2.2.2)else if(ss.take i).any (fun q=>Wak q.1 (ss.getD i Wba).1)=true then(71,(ss.getD i Wba).2.2.2.2.2)
 else Wkk (ns.getD (Wa4 ns (ss.getD i Wba).1).toNat Wbi).2.1 (ss.getD i Wba) i
def Wiw(ns:List Wa5)(ss:List Wbq):Err:=Wb0 ss.length (Wwj ns ss)
set_option maxHeartbeats 1000000 in
theorem stops07_(x:NetT)(hn:Sh x.2.2.2.2.2.1)(hs:Sh x.2.2.2.2.2.2.1)(hh:∀ y∈x.2.2.2.2.2.1,Sh y.2.1):Ev (fun n=>qck n x) (Wiw x.2.2.2.2.2.1 x.2.2.2.2.2.2.1):=by
 obtain⟨a,b,c,d,e,ns,ss,f,g⟩:=x
 unfold qck Wiw
 simp only at hn hs hh ⊢
 refine Ev.loopS (st:=fun i=>((i:Int),a,b,c,d,e,ns,ss,f,g)) ss.length (Wwj ns ss) () rfl (fun i hi _=>?_) (fun _=>?_) (fun _=>Ev.ret _) (fun h=>by rw[Waz h];exact Ev.ret _)
 ·have hz:∀ k,ss.getD k (ByteArray.mk #[],ByteArray.mk #[],ByteArray.mk #[],0,0,0)=ss.getD k Wba:=fun _=>rfl
  simp only[Wab hi,cond_true,Waf,hi,decide_true,Wag,hz]
  unfold Wwj
  generalize hse:ss.getD i Wba=s
  obtain⟨s1,s2,s3,s4,s5,s6⟩:=s
  simp only
  refine Ev.bind (Wn1 _ _ _ _ _ _ _ _ _ _ hn) ?_
  by_cases h1:Wa4 ns s1 < 0
  ·rw[if_pos h1];exact Ev.yes (decide_eq_true h1) (Ev.ret _)
  rw[if_neg h1]
  refine Ev.no (decide_eq_false h1) ?_
  have hg:=Wjk (fun h:Wa5=>Wak h.1 s1) ns
  have hlt:Wa4 ns s1 < ns.length:=hg.2
  obtain⟨at_,hat⟩:=Int.eq_ofNat_of_zero_le (show 0≤Wa4 ns s1 by omega)
  rw[hat]at hlt ⊢
  have hal:at_ < ns.length:=by omega
  simp only[Int.toNat_natCast]
  have hlt2:(ss.take i).length=i:=by simp;omega
  refine Ev.loopD (st:=fun k=>((i:Int),(at_:Int),(k:Int),a,b,c,d,e,ns,ss,f,g,s1,s2,s3,s4,s5,s6)) i (fun k=>Wak (ss.getD k Wba).1 s1) (fun _=>.inl (71,s6)) (.inr ((i:Int),(at_:Int),a,b,c,d,e,ns,ss,f,g,s1,s2,s3,s4,s5,s6)) rfl (fun k hk _=>?_) (fun _=>?_) (fun k hk _ hp=>?_) (fun h=>?_)
  ·have hk3:k < ss.length:=by omega
   simp only[Wab hk,cond_true,Waf,hk3,decide_true,Wag,hz,Wad (show k < 9223372036854775807 by omega)]
   cases Wak (ss.getD k Wba).1 s1<;>exact Ev.ret _
  ·simp only[Waa,cond_false];exact Ev.ret _
  ·have:(ss.take i).any (fun q=>Wak q.1 s1)=true:=(Wct _ Wba _).2 ⟨k,by omega,by rw[Wc7 _ _ _ _ hk];exact hp⟩
   rw[if_pos this]
   exact Ev.ret _
  ·have:¬(ss.take i).any (fun q=>Wak q.1 s1)=true:=fun hq=>by
    obtain⟨k,hk,hp⟩:=(Wct _ Wba _).1 hq
    rw[Wc7 _ _ _ _ (by omega),h k (by omega)]at hp;cases hp
   rw[if_neg this]
   have hzn:ns.getD at_ (ByteArray.mk #[],[],[],[],[],[],0)=ns.getD at_ Wbi:=rfl
   simp only[Sum.elim_inr,letJ,Waf,hal,decide_true,cond_true,Wag,hzn,Wt3,Option.bind_some,Wad (show i < 9223372036854775807 by omega)]
   have hsh:=hh _ (Wap ns at_ Wbi hal)
   generalize ns.getD at_ Wbi=y at hsh
   unfold Wkk
   simp only
   refine Ev.bind (Wf2 _ _ _ _ _ _ _ _ hsh) ?_
   by_cases h2:Wa1 y.2.1 s2 < 0
   ·rw[if_pos (show Wa1 y.2.1 s2 < 0∨Wa1 y.2.1 s3 < 0 from .inl h2)]
    exact Ev.yes (decide_eq_true h2) (Ev.ret _)
   refine Ev.no (decide_eq_false h2) ?_
   refine Ev.bind (Wf2 _ _ _ _ _ _ _ _ hsh) ?_
   by_cases h3:Wa1 y.2.1 s3 < 0
   ·rw[if_pos (show Wa1 y.2.1 s2 < 0∨Wa1 y.2.1 s3 < 0 from .inr h3)]
    exact Ev.yes (decide_eq_true h3) (Ev.ret _)
   rw[if_neg (show ¬(Wa1 y.2.1 s2 < 0∨Wa1 y.2.1 s3 < 0) by omega)]
   refine Ev.no (decide_eq_false h3) ?_
   cases h4:inR s4 0 6000 with
   | false=>exact Ev.ret _
   | true=>
    cases h5:inR s5 0 6000 with
    | false=>exact Ev.ret _
    | true=>
     simp only[Bool.not_true,cond_false,Bool.and_self,Bool.true_eq_false,if_false]
     by_cases h6:i=0
     ·subst h6
      refine Ev.yes rfl ?_
      by_cases h7:s4=0
      ·subst h7
       refine Ev.no rfl ?_
       by_cases h8:s5=0
       ·subst h8
        rw[if_neg (show ¬(0=0∧((0:Int)≠0∨(0:Int)≠0)) by simp)]
        exact Ev.ret _
       ·rw[if_pos (show 0=0∧((0:Int)≠0∨s5≠0) from⟨rfl,.inr h8⟩)]
        have:(!(s5==0))=true:=by simp[h8]
        rw[this];exact Ev.ret _
      ·rw[if_pos (show 0=0∧(s4≠0∨s5≠0) from⟨rfl,.inl h7⟩)]
       refine Ev.yes (by simp[h7]) (Ev.ret _)
     ·rw[if_neg (show ¬(i=0∧(s4≠0∨s5≠0)) from fun h=>h6 h.1)]
      exact Ev.no (by simp;omega) (Ev.ret _)
 ·simp only[Waa,cond_false];exact Ev.ret _
def Wdt(ns:List Wa5)(i:Nat):Err:=if Wa4 ns (ns.getD i Wbi).1 < i then(71,(ns.getD i Wbi).2.2.2.2.2.2)else Wmh (ns.getD i Wbi)
def Wkl(x:NetT):Bool:=!(decide (x.1 < 1) || (decide (x.2.1 < x.1) || (decide (6000 < x.2.1) || decide (x.2.2.1 < 1))))&&(inR x.2.2.2.1 1 1000000000&&(inR x.2.2.2.2.1 1 1000000000&&(inR x.2.2.2.2.2.2.2.1 0 1000000000&&inR x.2.2.2.2.2.2.2.2 0 1000000000)))
def netE(x:NetT):Err:=
 if 12 < x.2.2.2.2.2.1.length∨12 < x.2.2.2.2.2.2.1.length then(4,0)else if Wkl x then(if x.2.2.2.2.2.1.length=0 then(73,0)else if(Wb0 x.2.2.2.2.2.1.length (Wdt x.2.2.2.2.2.1)).1=0 then Wiw x.2.2.2.2.2.1 x.2.2.2.2.2.2.1 else Wb0 x.2.2.2.2.2.1.length (Wdt x.2.2.2.2.2.1))else(70,0)
structure NetSh (x:NetT):Prop where
 heads:∀ y∈x.2.2.2.2.2.1,Sh y.2.1
 phase:∀ y∈x.2.2.2.2.2.1,∀ p∈y.2.2.2.1,Sh p.2.1
set_option maxHeartbeats 1000000 in
theorem net07_(x:NetT)(hx:NetSh x):Ev (fun n=>qb9 n x) (netE x):=by
 have hh:=hx.heads
 have hpp:=hx.phase
 have k1:=stops07_ x
 obtain⟨a,b,c,d,e,ns,ss,f,g⟩:=x
 unfold qb9 netE
 simp only[letJ]at hh hpp k1 ⊢
 by_cases h1:12 < ns.length
 ·rw[if_pos (show 12 < ns.length∨12 < ss.length from .inl h1)]
  exact Ev.yes (decide_eq_true (by omega)) (Ev.ret _)
 refine Ev.no (decide_eq_false (by omega)) ?_
 by_cases h2:12 < ss.length
 ·rw[if_pos (show 12 < ns.length∨12 < ss.length from .inr h2)]
  exact Ev.yes (decide_eq_true (by omega)) (Ev.ret _)
 rw[if_neg (show ¬(12 < ns.length∨12 < ss.length) by omega)]
 refine Ev.no (decide_eq_false (by omega)) ?_
 unfold Wkl
 simp only[Wt3,Option.bind_some]
 cases h3:decide (a < 1)with
 | true=>exact Ev.ret _
 | false=>
 cases h4:decide (b < a)with
 | true=>exact Ev.ret _
 | false=>
 cases h5:decide (6000 < b)with
 | true=>exact Ev.ret _
 | false=>
 cases h6:decide (c < 1)with
 | true=>exact Ev.ret _
 | false=>
 cases h7:inR d 1 1000000000 with
 | false=>exact Ev.ret _
 | true=>
 cases h8:inR e 1 1000000000 with
 | false=>exact Ev.ret _
 | true=>
 cases h9:inR f 0 1000000000 with
 | false=>exact Ev.ret _
 | true=>
 cases h10:inR g 0 1000000000 with
 | false=>exact Ev.ret _
 | true=>
 simp only[cond_false,Bool.not_true,Bool.not_false,Bool.or_self,Bool.and_self,if_true,Woa]
 by_cases h11:ns.length=0
 ·rw[decide_eq_true h11,if_pos h11];exact Ev.ret _
 rw[decide_eq_false h11,if_neg h11]
 simp only[cond_false]
 have sn:Sh ns:=by show ns.length≤_;omega
 have sss:Sh ss:=by show ss.length≤_;omega
 refine Ev.loopS (st:=fun i=>((i:Int),a,b,c,d,e,ns,ss,f,g)) ns.length (Wdt ns) (a,b,c,d,e,ns,ss,f,g) rfl (fun i hi _=>?_) (fun _=>?_) (fun h=>?_) (fun h=>?_)
 ·have hz:ns.getD i (ByteArray.mk #[],[],[],[],[],[],0)=ns.getD i Wbi:=rfl
  simp only[Wab hi,cond_true,Waf,hi,decide_true,Wag,hz,Wad (show i < 9223372036854775807 by omega)]
  refine Ev.bind (Wn1 _ _ _ _ _ _ _ _ _ _ sn) ?_
  unfold Wdt
  by_cases g1:Wa4 ns (ns.getD i Wbi).1 < i
  ·rw[if_pos g1];exact Ev.yes (decide_eq_true g1) (Ev.ret _)
  rw[if_neg g1]
  refine Ev.no (decide_eq_false g1) ?_
  refine Ev.bind (node07_ _ (hpp _ (Wap ns i Wbi hi))) ?_
  by_cases g2:(Wmh (ns.getD i Wbi)).1=0
  ·rw[if_pos g2];exact Ev.no (by rw[g2];rfl) (Ev.ret _)
  ·rw[if_neg g2];exact Ev.yes (by rw[beq_eq_false_iff_ne.2 g2];rfl) (Ev.ret _)
 ·simp only[Waa,cond_false];exact Ev.ret _
 ·rw[if_neg h];exact Ev.ret _
 ·rw[Waz h]
  simp only[if_true,Sum.elim_inr]
  exact Ev.bind (k1 sn sss hh) (Ev.ret _)
end Go.Proofs.YtalbenehgdkalaaGreat.Fn