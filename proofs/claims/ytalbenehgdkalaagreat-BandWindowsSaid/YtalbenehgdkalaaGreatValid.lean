/- Texts of the proof. -/
import Derived.Test.YtalbenehgdkalaaGreatTimesB
import Derived.Test.YtalbenehgdkalaaGreatFew
namespace Go.Proofs.YtalbenehgdkalaaGreat.Fn
open Go Go.RowKit Go.Den Go.Circ
abbrev Err:=Int×Int
def Wck:Wbv:=(ByteArray.mk #[],0,0,0,0,0,0,0,0,0,0)
def Wax:Was:=(ByteArray.mk #[],[],0)
def zPed:PedT:=(ByteArray.mk #[],ByteArray.mk #[],0,0,0,0)
def zFoe:FoeT:=(ByteArray.mk #[],ByteArray.mk #[],0)
def Wba:Wbq:=(ByteArray.mk #[],ByteArray.mk #[],ByteArray.mk #[],0,0,0)
def Wbi:Wa5:=(ByteArray.mk #[],[],[],[],[],[],0)
abbrev Sh{A:Type}(l:List A):Prop:=l.length≤9223372036854775807
def Wa1(hs:List Wbv)(k:ByteArray):Int:=idxI (fun h=>Wak h.1 k) hs
def Wd4(ph:List Was)(k:ByteArray):Int:=idxI (fun h=>Wak h.1 k) ph
def Wa4(ns:List Wa5)(k:ByteArray):Int:=idxI (fun h=>Wak h.1 k) ns
theorem Wgn(l:List ByteArray)(k:ByteArray):inOf l k=l.any fun x=>Wak x k:=by
 unfold inOf
 congr 1
 funext x;exact Whc k x
theorem Wmu(l:List ByteArray)(k:ByteArray)(hl:Sh l):Ev (fun n=>qbl n (k,l)) (inOf l k):=by
 rw[Wgn]
 unfold qbl
 refine Ev.loopD (st:=fun i=>(k,l,(i:Int))) l.length (fun i=>Wak (l.getD i (ByteArray.mk #[])) k) (fun _=>.inl true) (.inr ()) rfl (fun i hi _=>?_) (fun _=>?_) (fun i hi hk hp=>?_) (fun h=>?_)
 ·simp only[Wab hi,cond_true,Waf,hi,decide_true,Wag,Wad (show i < 9223372036854775807 by omega)]
  cases Wak (l.getD i (ByteArray.mk #[])) k<;>exact Ev.ret _
 ·simp only[Waa,cond_false];exact Ev.ret _
 ·rw[(Wct _ (ByteArray.mk #[]) l).2 ⟨i,hi,hp⟩];exact Ev.ret _
 ·have:(l.any fun x=>Wak x k)=false:=by
   cases hq:l.any fun x=>Wak x k with
   | false=>rfl
   | true=>
    obtain⟨i,hi,hp⟩:=(Wct _ (ByteArray.mk #[]) l).1 hq
    rw[h i hi]at hp;cases hp
  rw[this];exact Ev.ret _
theorem Wf2(a:ByteArray)(b:List Wbv)(c:List PedT)(ph:List Was)(e:List (List RowT))(f:List FoeT)(g:Int)(k:ByteArray)(hl:Sh b):Ev (fun n=>qca n (a,b,c,ph,e,f,g,k)) (Wa1 b k):=by
 unfold qca
 refine Ev.loopD (st:=fun i=>(k,(i:Int),a,b,c,ph,e,f,g)) b.length (fun i=>Wak (b.getD i Wck).1 k) (fun i=>.inl (i:Int)) (.inr ()) rfl (fun i hi _=>?_) (fun _=>?_) (fun i hi hk hp=>?_) (fun h=>?_)
 ·have hz:b.getD i (ByteArray.mk #[],0,0,0,0,0,0,0,0,0,0)=b.getD i Wck:=rfl
  simp only[Wab hi,cond_true,Waf,hi,decide_true,Wag,hz,Wad (show i < 9223372036854775807 by omega)]
  cases Wak (b.getD i Wck).1 k<;>exact Ev.ret _
 ·simp only[Waa,cond_false];exact Ev.ret _
 ·unfold Wa1;rw[We2 _ Wck b i hi hk hp];exact Ev.ret _
 ·unfold Wa1;rw[Wep _ Wck b h];exact Ev.ret _
theorem Wkv(a:ByteArray)(b:List Wbv)(c:List PedT)(ph:List Was)(e:List (List RowT))(f:List FoeT)(g:Int)(k:ByteArray)(hl:Sh ph):Ev (fun n=>qcd n (a,b,c,ph,e,f,g,k)) (Wd4 ph k):=by
 unfold qcd
 refine Ev.loopD (st:=fun i=>(k,(i:Int),a,b,c,ph,e,f,g)) ph.length (fun i=>Wak (ph.getD i Wax).1 k) (fun i=>.inl (i:Int)) (.inr ()) rfl (fun i hi _=>?_) (fun _=>?_) (fun i hi hk hp=>?_) (fun h=>?_)
 ·have hz:ph.getD i (ByteArray.mk #[],[],0)=ph.getD i Wax:=rfl
  simp only[Wab hi,cond_true,Waf,hi,decide_true,Wag,hz,Wad (show i < 9223372036854775807 by omega)]
  cases Wak (ph.getD i Wax).1 k<;>exact Ev.ret _
 ·simp only[Waa,cond_false];exact Ev.ret _
 ·unfold Wd4;rw[We2 _ Wax ph i hi hk hp];exact Ev.ret _
 ·unfold Wd4;rw[Wep _ Wax ph h];exact Ev.ret _
theorem Wn1(a b c d e:Int)(ns:List Wa5)(ss:List Wbq)(f g:Int)(k:ByteArray)(hl:Sh ns):Ev (fun n=>qcc n (a,b,c,d,e,ns,ss,f,g,k)) (Wa4 ns k):=by
 unfold qcc
 refine Ev.loopD (st:=fun i=>(k,(i:Int),a,b,c,d,e,ns,ss,f,g)) ns.length (fun i=>Wak (ns.getD i Wbi).1 k) (fun i=>.inl (i:Int)) (.inr ()) rfl (fun i hi _=>?_) (fun _=>?_) (fun i hi hk hp=>?_) (fun h=>?_)
 ·have hz:ns.getD i (ByteArray.mk #[],[],[],[],[],[],0)=ns.getD i Wbi:=rfl
  simp only[Wab hi,cond_true,Waf,hi,decide_true,Wag,hz,Wad (show i < 9223372036854775807 by omega)]
  cases Wak (ns.getD i Wbi).1 k<;>exact Ev.ret _
 ·simp only[Waa,cond_false];exact Ev.ret _
 ·unfold Wa4;rw[We2 _ Wbi ns i hi hk hp];exact Ev.ret _
 ·unfold Wa4;rw[Wep _ Wbi ns h];exact Ev.ret _
theorem Wip(a:ByteArray)(b:List Wbv)(c:List PedT)(ph:List Was)(e:List (List RowT))(f:List FoeT)(g:Int)(k:ByteArray)(hl:Sh ph)(hp:∀ p∈ph,Sh p.2.1):Ev (fun n=>qcb n (a,b,c,ph,e,f,g,k)) (Wa9 ph k):=by
 unfold qcb
 refine Ev.loopD (st:=fun i=>(k,(i:Int),a,b,c,ph,e,f,g)) ph.length (fun i=>inOf (ph.getD i Wax).2.1 k) (fun i=>.inl (i:Int)) (.inr ()) rfl (fun i hi _=>?_) (fun _=>?_) (fun i hi hk hp=>?_) (fun h=>?_)
 ·have hz:ph.getD i (ByteArray.mk #[],[],0)=ph.getD i Wax:=rfl
  simp only[Wab hi,cond_true,Waf,hi,decide_true,Wag,hz,Wad (show i < 9223372036854775807 by omega)]
  refine Ev.bind (Wmu _ k (hp _ (Wap ph i Wax hi))) ?_
  cases inOf (ph.getD i Wax).2.1 k<;>exact Ev.ret _
 ·simp only[Waa,cond_false];exact Ev.ret _
 ·unfold Wa9;rw[We2 _ Wax ph i hi hk hp];exact Ev.ret _
 ·unfold Wa9;rw[Wep _ Wax ph h];exact Ev.ret _
def inR(a lo hi:Int):Bool:=decide (lo≤a)&&decide (a≤hi)
theorem Wt3(n:Nat)(a lo hi:Int):qcg n (a,lo,hi)=some (inR a lo hi):=by
 unfold qcg inR
 by_cases h:lo≤a<;>simp[h]
def Wiq(h:Wbv):Bool:=inR h.2.1 0 1000000000&&(inR h.2.2.1 1 1000000000&&(inR h.2.2.2.1 1 1000000000&&(inR h.2.2.2.2.1 1 1000000000&&(inR h.2.2.2.2.2.1 1 10000&&(inR h.2.2.2.2.2.2.1 (-200) 200&&(inR h.2.2.2.2.2.2.2.1 0 100000&&(inR h.2.2.2.2.2.2.2.2.1 0 100000&&inR h.2.2.2.2.2.2.2.2.2.1 1 6000)))))))
def Wvv(hs:List Wbv)(i:Nat):Err:=if Wa1 hs (hs.getD i Wck).1 < i then(71,(hs.getD i Wck).2.2.2.2.2.2.2.2.2.2)else if Wiq (hs.getD i Wck)then(0,0)else(70,(hs.getD i Wck).2.2.2.2.2.2.2.2.2.2)
def Wt4(hs:List Wbv):Err:=Wb0 hs.length (Wvv hs)
theorem heads07_(x:Wa5)(hl:Sh x.2.1):Ev (fun n=>qcf n x) (Wt4 x.2.1):=by
 obtain⟨x1,x2,x3,x4,x5,x6,x7⟩:=x
 unfold qcf Wt4
 simp only at hl ⊢
 refine Ev.loopS (st:=fun i=>((i:Int),x1,x2,x3,x4,x5,x6,x7)) x2.length (Wvv x2) () rfl (fun i hi _=>?_) (fun _=>?_) (fun _=>Ev.ret _) (fun h=>by rw[Waz h];exact Ev.ret _)
 ·have hz:x2.getD i (ByteArray.mk #[],0,0,0,0,0,0,0,0,0,0)=x2.getD i Wck:=rfl
  simp only[Wab hi,cond_true,Waf,hi,decide_true,Wag,hz,Wad (show i < 9223372036854775807 by omega)]
  refine Ev.bind (Wf2 _ _ _ _ _ _ _ _ hl) ?_
  unfold Wvv
  by_cases h1:Wa1 x2 (x2.getD i Wck).1 < i
  ·rw[if_pos h1]
   exact Ev.yes (decide_eq_true h1) (Ev.ret _)
  ·rw[if_neg h1]
   refine Ev.no (decide_eq_false h1) ?_
   generalize x2.getD i Wck=h
   simp only[letJ,Wt3,Option.bind_some,Wad (show i < 9223372036854775807 by omega)]
   unfold Wiq
   cases inR h.2.1 0 1000000000 with
   | false=>exact Ev.ret _
   | true=>cases inR h.2.2.1 1 1000000000 with
    | false=>exact Ev.ret _
    | true=>cases inR h.2.2.2.1 1 1000000000 with
     | false=>exact Ev.ret _
     | true=>cases inR h.2.2.2.2.1 1 1000000000 with
      | false=>exact Ev.ret _
      | true=>cases inR h.2.2.2.2.2.1 1 10000 with
       | false=>exact Ev.ret _
       | true=>cases inR h.2.2.2.2.2.2.1 (-200) 200 with
        | false=>exact Ev.ret _
        | true=>cases inR h.2.2.2.2.2.2.2.1 0 100000 with
         | false=>exact Ev.ret _
         | true=>cases inR h.2.2.2.2.2.2.2.2.1 0 100000 with
          | false=>exact Ev.ret _
          | true=>cases inR h.2.2.2.2.2.2.2.2.2.1 1 6000<;>exact Ev.ret _
 ·simp only[Waa,cond_false];exact Ev.ret _
def Wh5(hs:List Wbv)(ph:List Was)(i:Nat)(p:Was)(k:Nat):Err:=
 if Wa1 hs (p.2.1.getD k (ByteArray.mk #[])) < 0 then(72,p.2.2)else if Wa9 ph (p.2.1.getD k (ByteArray.mk #[])) < i∨inOf (p.2.1.take k) (p.2.1.getD k (ByteArray.mk #[]))=true then(71,p.2.2)else(0,0)
def Whv(hs:List Wbv)(ph:List Was)(i:Nat):Err:=
 if Wd4 ph (ph.getD i Wax).1 < i then(71,(ph.getD i Wax).2.2)else if(Wb0 (ph.getD i Wax).2.1.length (Wh5 hs ph i (ph.getD i Wax))).1=0 then(if(ph.getD i Wax).2.1.length=0 then(73,(ph.getD i Wax).2.2)else(0,0))else Wb0 (ph.getD i Wax).2.1.length (Wh5 hs ph i (ph.getD i Wax))
def Wpv(hs:List Wbv)(ph:List Was)(i:Nat):Err:=if Wa9 ph (hs.getD i Wck).1 < 0 then(73,(hs.getD i Wck).2.2.2.2.2.2.2.2.2.2)else(0,0)
def Wn2(hs:List Wbv)(ph:List Was):Err:=if(Wb0 ph.length (Whv hs ph)).1=0 then Wb0 hs.length (Wpv hs ph)else Wb0 ph.length (Whv hs ph)
set_option maxHeartbeats 1000000 in
theorem Wyo(x:Wa5)(hh:Sh x.2.1)(hp:Sh x.2.2.2.1)(hpp:∀ p∈x.2.2.2.1,Sh p.2.1):Ev (fun n=>qci n x) (Wn2 x.2.1 x.2.2.2.1):=by
 obtain⟨x1,x2,x3,x4,x5,x6,x7⟩:=x
 unfold qci Wn2
 simp only at hh hp hpp ⊢
 refine Ev.loopS (st:=fun i=>((i:Int),x1,x2,x3,x4,x5,x6,x7)) x4.length (Whv x2 x4) (x1,x2,x3,x4,x5,x6,x7) rfl (fun i hi _=>?_) (fun _=>?_) (fun h=>?_) (fun h=>?_)
 ·have hz:x4.getD i (ByteArray.mk #[],[],0)=x4.getD i Wax:=rfl
  simp only[Wab hi,cond_true,Waf,hi,decide_true,Wag,hz]
  refine Ev.bind (Wkv _ _ _ _ _ _ _ _ hp) ?_
  unfold Whv
  have hsp:=hpp _ (Wap x4 i Wax hi)
  generalize x4.getD i Wax=p at hsp
  by_cases h1:Wd4 x4 p.1 < i
  ·rw[if_pos h1]
   exact Ev.yes (decide_eq_true h1) (Ev.ret _)
  ·rw[if_neg h1]
   refine Ev.no (decide_eq_false h1) ?_
   obtain⟨p1,p2,p3⟩:=p
   simp only at hsp ⊢
   refine Ev.loopS (st:=fun k=>((i:Int),(k:Int),x1,x2,x3,x4,x5,x6,x7,p1,p2,p3)) p2.length (Wh5 x2 x4 i (p1,p2,p3)) ((i:Int),x1,x2,x3,x4,x5,x6,x7,p1,p2,p3) rfl (fun k hk _=>?_) (fun _=>?_) (fun h=>?_) (fun h=>?_)
   ·simp only[Wab hk,cond_true,Waf,hk,decide_true,Wag,Wad (show k < 9223372036854775807 by omega)]
    unfold Wh5
    simp only
    have hcut:Wed none (some (k:Int)) p2.length=true:=by simp[Wed];omega
    have hcl:Wb6 none (some (k:Int)) p2=p2.take k:=by simp[Wb6]
    generalize p2.getD k (ByteArray.mk #[])=nm
    refine Ev.bind (Wf2 _ _ _ _ _ _ _ _ hh) ?_
    by_cases h2:Wa1 x2 nm < 0
    ·rw[if_pos h2]
     exact Ev.yes (decide_eq_true h2) (Ev.ret _)
    ·rw[if_neg h2]
     refine Ev.no (decide_eq_false h2) ?_
     simp only[letJ]
     refine Ev.bind (Wip _ _ _ _ _ _ _ _ hp hpp) ?_
     by_cases h3:Wa9 x4 nm < i
     ·rw[if_pos (show Wa9 x4 nm < i∨inOf (p2.take k) nm=true from .inl h3)]
      exact Ev.yes (decide_eq_true h3) (Ev.ret _)
     ·refine Ev.no (decide_eq_false h3) ?_
      rw[hcut,hcl]
      simp only[cond_true]
      refine Ev.bind (Wmu _ nm (by have:(p2.take k).length≤p2.length:=by simp;omega
                                   show(p2.take k).length≤_
                                   omega)) ?_
      cases hi4:inOf (p2.take k) nm with
      | true=>rw[if_pos (show Wa9 x4 nm < i∨true=true from .inr rfl)];exact Ev.ret _
      | false=>
       rw[if_neg (show ¬(Wa9 x4 nm < i∨false=true) by simp[h3])]
       simp only[cond_false,if_true,Wad (show k < 9223372036854775807 by omega)]
       exact Ev.ret _
   ·simp only[Waa,cond_false];exact Ev.ret _
   ·rw[if_neg h,if_neg h];exact Ev.ret _
   ·rw[Waz h]
    simp only[Sum.elim_inr,if_true,Wad (show i < 9223372036854775807 by omega)]
    by_cases h2:p2.length=0
    ·rw[if_pos h2]
     exact Ev.yes (by simp[h2]) (Ev.ret _)
    ·rw[if_neg h2]
     exact Ev.no (by simp;intro e;exact h2 (by simp[e])) (Ev.ret _)
 ·simp only[Waa,cond_false];exact Ev.ret _
 ·rw[if_neg h];exact Ev.ret _
 ·rw[Waz h]
  simp only[if_true,Sum.elim_inr]
  refine Ev.loopS (st:=fun i=>((i:Int),x1,x2,x3,x4,x5,x6,x7)) x2.length (Wpv x2 x4) () rfl (fun i hi _=>?_) (fun _=>?_) (fun h=>Ev.ret _) (fun h=>by rw[Waz h];exact Ev.ret _)
  ·have hz:x2.getD i (ByteArray.mk #[],0,0,0,0,0,0,0,0,0,0)=x2.getD i Wck:=rfl
   simp only[Wab hi,cond_true,Waf,hi,decide_true,Wag,hz,Wad (show i < 9223372036854775807 by omega)]
   refine Ev.bind (Wip _ _ _ _ _ _ _ _ hp hpp) ?_
   unfold Wpv
   by_cases h2:Wa9 x4 (x2.getD i Wck).1 < 0
   ·rw[if_pos h2];exact Ev.yes (decide_eq_true h2) (Ev.ret _)
   ·rw[if_neg h2];exact Ev.no (decide_eq_false h2) (Ev.ret _)
  ·simp only[Waa,cond_false];exact Ev.ret _
def Wki(p:PedT):Bool:=inR p.2.2.1 1 100000&&(inR p.2.2.2.1 1 10000&&inR p.2.2.2.2.1 1 6000)
def pedE(ps:List PedT)(ph:List Was)(i:Nat):Err:=
 if(ps.take i).any (fun q=>Wak q.1 (ps.getD i zPed).1)then(71,(ps.getD i zPed).2.2.2.2.2)else if Wd4 ph (ps.getD i zPed).2.1 < 0 then(72,(ps.getD i zPed).2.2.2.2.2)else if Wki (ps.getD i zPed)then(0,0)else(70,(ps.getD i zPed).2.2.2.2.2)
def pedsE(ps:List PedT)(ph:List Was):Err:=Wb0 ps.length (pedE ps ph)
theorem Wc7{A:Type}(l:List A)(i k:Nat)(d:A)(h:k < i):(l.take i).getD k d=l.getD k d:=by
 simp[List.getD_eq_getElem?_getD,List.getElem?_take_of_lt h]
theorem walks07_(x:Wa5)(hd:Sh x.2.2.1)(hp:Sh x.2.2.2.1):Ev (fun n=>qcl n x) (pedsE x.2.2.1 x.2.2.2.1):=by
 obtain⟨x1,x2,x3,x4,x5,x6,x7⟩:=x
 unfold qcl pedsE
 simp only at hd hp ⊢
 refine Ev.loopS (st:=fun i=>((i:Int),x1,x2,x3,x4,x5,x6,x7)) x3.length (pedE x3 x4) () rfl (fun i hi _=>?_) (fun _=>?_) (fun _=>Ev.ret _) (fun h=>by rw[Waz h];exact Ev.ret _)
 ·have hz:∀ k,x3.getD k (ByteArray.mk #[],ByteArray.mk #[],0,0,0,0)=x3.getD k zPed:=fun _=>rfl
  simp only[Wab hi,cond_true,Waf,hi,decide_true,Wag,hz]
  unfold pedE
  generalize hpe:x3.getD i zPed=p
  obtain⟨p1,p2,p3,p4,p5,p6⟩:=p
  simp only
  have hlt:(x3.take i).length=i:=by simp;omega
  refine Ev.loopD (st:=fun k=>((i:Int),(k:Int),x1,x2,x3,x4,x5,x6,x7,p1,p2,p3,p4,p5,p6)) i (fun k=>Wak (x3.getD k zPed).1 p1) (fun _=>.inl (71,p6)) (.inr ((i:Int),x1,x2,x3,x4,x5,x6,x7,p1,p2,p3,p4,p5,p6)) rfl (fun k hk _=>?_) (fun _=>?_) (fun k hk _ hp=>?_) (fun h=>?_)
  ·have hk3:k < x3.length:=by omega
   simp only[Wab hk,cond_true,Waf,hk3,decide_true,Wag,hz,Wad (show k < 9223372036854775807 by omega)]
   cases Wak (x3.getD k zPed).1 p1<;>exact Ev.ret _
  ·simp only[Waa,cond_false];exact Ev.ret _
  ·have:(x3.take i).any (fun q=>Wak q.1 p1)=true:=(Wct _ zPed _).2 ⟨k,by omega,by rw[Wc7 _ _ _ _ hk];exact hp⟩
   rw[if_pos this]
   exact Ev.ret _
  ·have:¬(x3.take i).any (fun q=>Wak q.1 p1)=true:=fun hq=>by
    obtain⟨k,hk,hp⟩:=(Wct _ zPed _).1 hq
    rw[Wc7 _ _ _ _ (by omega),h k (by omega)]at hp;cases hp
   rw[if_neg this]
   simp only[Sum.elim_inr]
   refine Ev.bind (Wkv _ _ _ _ _ _ _ _ hp) ?_
   by_cases h2:Wd4 x4 p2 < 0
   ·rw[if_pos h2];exact Ev.yes (decide_eq_true h2) (Ev.ret _)
   ·rw[if_neg h2]
    refine Ev.no (decide_eq_false h2) ?_
    simp only[letJ,Wt3,Option.bind_some,Wad (show i < 9223372036854775807 by omega)]
    unfold Wki
    simp only
    cases inR p3 1 100000 with
    | false=>exact Ev.ret _
    | true=>cases inR p4 1 10000 with
     | false=>exact Ev.ret _
     | true=>cases inR p5 1 6000<;>exact Ev.ret _
 ·simp only[Waa,cond_false];exact Ev.ret _
def foeE(hs:List Wbv)(ph:List Was)(fs:List FoeT)(i:Nat):Err:=
 if Wa1 hs (fs.getD i zFoe).1 < 0∨Wa1 hs (fs.getD i zFoe).2.1 < 0 then(72,(fs.getD i zFoe).2.2)else if Wak (fs.getD i zFoe).1 (fs.getD i zFoe).2.1=true∨Wa9 ph (fs.getD i zFoe).1=Wa9 ph (fs.getD i zFoe).2.1 then(75,(fs.getD i zFoe).2.2)else(0,0)
def foesE(hs:List Wbv)(ph:List Was)(fs:List FoeT):Err:=Wb0 fs.length (foeE hs ph fs)
theorem foes07_(x:Wa5)(hh:Sh x.2.1)(hp:Sh x.2.2.2.1)(hpp:∀ p∈x.2.2.2.1,Sh p.2.1)(hf:Sh x.2.2.2.2.2.1):Ev (fun n=>qce n x) (foesE x.2.1 x.2.2.2.1 x.2.2.2.2.2.1):=by
 obtain⟨x1,x2,x3,x4,x5,x6,x7⟩:=x
 unfold qce foesE
 simp only at hh hp hpp hf ⊢
 refine Ev.loopS (st:=fun i=>((i:Int),x1,x2,x3,x4,x5,x6,x7)) x6.length (foeE x2 x4 x6) () rfl (fun i hi _=>?_) (fun _=>?_) (fun _=>Ev.ret _) (fun h=>by rw[Waz h];exact Ev.ret _)
 ·have hz:x6.getD i (ByteArray.mk #[],ByteArray.mk #[],0)=x6.getD i zFoe:=rfl
  simp only[Wab hi,cond_true,Waf,hi,decide_true,Wag,hz,Wad (show i < 9223372036854775807 by omega),letJ]
  unfold foeE
  generalize x6.getD i zFoe=f
  obtain⟨f1,f2,f3⟩:=f
  simp only
  refine Ev.bind (Wf2 _ _ _ _ _ _ _ _ hh) ?_
  by_cases h1:Wa1 x2 f1 < 0
  ·rw[if_pos (show Wa1 x2 f1 < 0∨Wa1 x2 f2 < 0 from .inl h1)]
   exact Ev.yes (decide_eq_true h1) (Ev.ret _)
  ·refine Ev.no (decide_eq_false h1) ?_
   refine Ev.bind (Wf2 _ _ _ _ _ _ _ _ hh) ?_
   by_cases h2:Wa1 x2 f2 < 0
   ·rw[if_pos (show Wa1 x2 f1 < 0∨Wa1 x2 f2 < 0 from .inr h2)]
    refine Ev.yes (decide_eq_true h2) (Ev.ret _)
   ·rw[if_neg (show ¬(Wa1 x2 f1 < 0∨Wa1 x2 f2 < 0) by omega)]
    refine Ev.no (decide_eq_false h2) ?_
    cases h3:Wak f1 f2 with
    | true=>rw[if_pos (show true=true∨Wa9 x4 f1=Wa9 x4 f2 from .inl rfl)];exact Ev.ret _
    | false=>
     simp only[cond_false]
     refine Ev.bind (Wip _ _ _ _ _ _ _ _ hp hpp) ?_
     refine Ev.bind (Wip _ _ _ _ _ _ _ _ hp hpp) ?_
     by_cases h4:Wa9 x4 f1=Wa9 x4 f2
     ·rw[if_pos (show false=true∨Wa9 x4 f1=Wa9 x4 f2 from .inr h4)]
      refine Ev.yes (by simp[h4]) (Ev.ret _)
     ·rw[if_neg (show ¬(false=true∨Wa9 x4 f1=Wa9 x4 f2) by simp[h4])]
      refine Ev.no (by simp[h4]) (Ev.ret _)
 ·simp only[Waa,cond_false];exact Ev.ret _
end Go.Proofs.YtalbenehgdkalaaGreat.Fn