/- Texts of the proof. -/
import Derived.Test.YtalbenehgdkalaaGreatCircFn
namespace Go.Proofs.YtalbenehgdkalaaGreat.Fn
open Go Go.RowKit Go.Den Go.Circ
theorem Wpx(a b:Nat):((a:Int) % (b:Int))=((a % b:Nat):Int):=rfl
theorem Wyq(b:List Bool)(i:Nat):atI false b (i:Int)=bt b i:=by simp[atI,bt]
def runL(x13:(List Bool)×Int×Int×Int×List (Int×Int)):Option (((List Bool)×Int×Int×Int×List (Int×Int)) ⊕ ((List Bool)×Int×Int×Int×List (Int×Int))):=
 let e3:=Int.tmod (wrap64 (x13.2.2.1+x13.2.2.2.1)) x13.2.1
 bif !(x13.2.1==0)then
  bif inB e3 x13.1.length then
   bif atI false x13.1 e3 then
    some (.inl (x13.1,x13.2.1,x13.2.2.1,wrap64 (x13.2.2.2.1+1),x13.2.2.2.2))
   else
   some (.inr x13)
  else
  none
 else
 none
theorem Wyr{b:List Bool}(hb:b.length≤1000000){im k:Nat}(hi:im < b.length)(hk:k < b.length)(out:List (Int×Int)) :
 runL (b,(b.length:Int),(im:Int),(k:Int),out)=if bt b ((im+k) % b.length)then some (.inl (b,(b.length:Int),(im:Int),((k+1:Nat):Int),out))else some (.inr (b,(b.length:Int),(im:Int),(k:Int),out)):=by
 have w3:wrap64 ((im:Int)+k)=((im+k:Nat):Int):=by rw[Wan (by omega) (by omega)];omega
 have w4:wrap64 ((k:Int)+1)=((k+1:Nat):Int):=by rw[Wan (by omega) (by omega)];omega
 have hm3:Int.tmod (((im+k:Nat):Int)) (b.length:Int)=(((im+k) % b.length:Nat):Int):=(Int.tmod_eq_emod_of_nonneg (Int.natCast_nonneg _)).trans (Wpx _ _)
 have hlt3:(im+k) % b.length < b.length:=Nat.mod_lt _ (by omega)
 generalize hr:(im+k) % b.length=r at *
 have hin3:inB (r:Int) b.length=true:=by unfold inB;simp only[Bool.and_eq_true,decide_eq_true_eq];omega
 have hc0:((b.length:Int)==0)=false:=by rw[beq_eq_false_iff_ne];omega
 unfold runL
 simp only[w3,w4,hm3,hc0,Bool.not_false,cond_true,hin3,Wyq]
 cases bt b r<;>rfl
theorem run_ok{b:List Bool}(hb:b.length≤1000000){im:Nat}(hi:im < b.length)(out:List (Int×Int))(hp:bt b ((im+b.length - 1) % b.length)=false) :
 Ev (fun n=>Wao n runL (b,(b.length:Int),(im:Int),0,out)) (b,(b.length:Int),(im:Int),(rl b im b.length:Int),out):=by
 obtain⟨y,h1,K,h2,hK,h3,h4⟩:=Ev.iterP (L:=fun(_:Nat)=>runL)
  (fun x=>∃ k:Nat,x=(b,(b.length:Int),(im:Int),(k:Int),out)∧k < b.length∧∀ m,m < k→bt b ((im+m) % b.length)=true)
  (fun x=>(b.length - x.2.2.2.1).toNat)
  (fun y=>∃ K:Nat,y=(b,(b.length:Int),(im:Int),(K:Int),out)∧K < b.length∧(∀ m,m < K→bt b ((im+m) % b.length)=true)∧bt b ((im+K) % b.length)=false)
  (by
    rintro _ ⟨k,rfl,hk,hall⟩
    cases hkv:bt b ((im+k) % b.length)with
    | true=>
     left
     have hall':∀ m,m < k+1→bt b ((im+m) % b.length)=true:=fun m hm=>by
      by_cases e:m=k
      ·rw[e];exact hkv
      ·exact hall m (by omega)
     have hk1:k+1 < b.length:=by
      rcases Nat.lt_or_ge (k+1) b.length with h | h
      ·exact h
      ·exfalso
       have:=hall' (b.length - 1) (by omega)
       rw[show im+(b.length - 1)=im+b.length - 1 by omega,hp]at this
       cases this
     refine⟨(b,(b.length:Int),(im:Int),((k+1:Nat):Int),out),Ev.const fun n=>?_,⟨k+1,rfl,hk1,hall'⟩,?_⟩
     ·rw[Wyr hb hi hk,if_pos hkv]
     ·simp only;omega
    | false=>
     right
     refine⟨(b,(b.length:Int),(im:Int),(k:Int),out),Ev.const fun n=>?_,k,rfl,hk,hall,hkv⟩
     rw[Wyr hb hi hk,if_neg (by rw[hkv];simp)])
  (b,(b.length:Int),(im:Int),0,out) ⟨0,rfl,by omega,fun m hm=>by omega⟩
 subst h2
 rw[rl_of K im b.length hK h3 h4]
 exact h1
theorem Wys{b:List Bool}(hb:b.length≤1000000):Ev (fun n=>qbd n b) (frm b):=by
 have main:∃ y,Ev (fun n=>qbd n b) y∧y=frm b:=by
  unfold qbd
  refine Ev.bindE (Q:=fun y:List Bool×Int×Int=>y=(b,(b.length:Int),(b.count true:Int))) (Ev.iterP
   (fun x:List Bool×Int×Int×Int=>x.1=b∧x.2.1=b.length∧0≤x.2.2.2∧x.2.2.2≤b.length∧x.2.2.1=((b.take x.2.2.2.toNat).count true:Int))
   (fun x=>(b.length - x.2.2.2).toNat) _ ?_ _ ?_) ?_
  ·rintro⟨b',c',k,i⟩ ⟨h1',h2',i1,i2,h3'⟩
   simp only at h1' h2' i1 i2 h3'
   subst h1' h2' h3'
   simp only
   obtain⟨im,rfl⟩:=Int.eq_ofNat_of_zero_le i1
   simp only[Int.toNat_natCast]at *
   have hcnt:(b'.take im).count true≤b'.length:=Nat.le_trans List.count_le_length (by simp;omega)
   by_cases h0:(im:Int) < (b'.length:Int)
   ·left
    have hlt:im < b'.length:=by omega
    have hin:inB (im:Int) b'.length=true:=by simp[inB];omega
    have w1:wrap64 ((im:Int)+1)=((im+1:Nat):Int):=by rw[Wan (by omega) (by omega)];omega
    have hbt:bt b' im=b'[im]:=by simp[bt,hlt]
    have htake:(b'.take (im+1)).count true=(b'.take im).count true+if b'[im]then 1 else 0:=by
     rw[List.take_succ_eq_append_getElem hlt,List.count_append]
     congr 1
     cases b'[im]<;>simp
    simp only[h0,decide_true,cond_true,hin,Wyq,w1]
    cases hv:bt b' im with
    | true=>
     rw[hbt]at hv
     rw[hv]at htake
     have w2:wrap64 (((b'.take im).count true:Int)+1)=(((b'.take im).count true+1:Nat):Int):=by rw[Wan (by omega) (by omega)];omega
     refine⟨(b',(b'.length:Int),(((b'.take im).count true+1:Nat):Int),((im+1:Nat):Int)),Ev.const fun n=>by rw[w2];rfl,⟨rfl,rfl,by simp only;omega,by simp only;omega,?_⟩,by simp only;omega⟩
     simp only[Int.toNat_natCast]
     rw[htake];simp
    | false=>
     rw[hbt]at hv
     rw[hv]at htake
     refine⟨(b',(b'.length:Int),((b'.take im).count true:Int),((im+1:Nat):Int)),Ev.const fun n=>rfl,⟨rfl,rfl,by simp only;omega,by simp only;omega,?_⟩,by simp only;omega⟩
     simp only[Int.toNat_natCast]
     rw[htake];simp
   ·right
    refine⟨(b',(b'.length:Int),((b'.take im).count true:Int)),Ev.const fun n=>by simp[h0],?_⟩
    have:b'.take im=b':=List.take_of_length_le (by omega)
    rw[this]
  ·exact⟨rfl,rfl,Int.le_refl _,by simp,by simp⟩
  ·rintro _ rfl
   simp only[letJ]
   have rest:∀ hno:b.count true≠b.length∨b.length=0,∃ y,Ev (fun n=>(Wao (Y:=(List (Int×Int))) n (fun(x10:(List Bool)×Int×Int×List (Int×Int))=>
    let e1:=x10.1.length
    let e2:=Int.tmod (wrap64 ((wrap64 (x10.2.2.1+x10.2.1)) - 1)) x10.2.1
    bif decide (x10.2.2.1 < x10.2.1)then
     letJ (fun(x11:(List Bool)×Int×Int×Bool×List (Int×Int))=>
      bif x11.2.2.2.1 then
       some (.inl (x11.1,x11.2.1,wrap64 (x11.2.2.1+1),x11.2.2.2.2))
      else
      (Wao (Y:=((List Bool)×Int×Int×Int×List (Int×Int))) n (fun(x13:(List Bool)×Int×Int×Int×List (Int×Int))=>
        let e3:=Int.tmod (wrap64 (x13.2.2.1+x13.2.2.2.1)) x13.2.1
        bif !(x13.2.1==0)then
         bif inB e3 x13.1.length then
          bif atI false x13.1 e3 then
           some (.inl (x13.1,x13.2.1,x13.2.2.1,wrap64 (x13.2.2.2.1+1),x13.2.2.2.2))
          else
          some (.inr x13)
         else
         none
        else
        none) (x11.1,x11.2.1,x11.2.2.1,0,x11.2.2.2.2)).bind fun(z14:(List Bool)×Int×Int×Int×List (Int×Int))=>
        let e4:=(z14.2.2.1,z14.2.2.2.1)::[]
        bif fitB (z14.2.2.2.2.length+e4.length) 16 then
         some (.inl (z14.1,z14.2.1,wrap64 (z14.2.2.1+1),z14.2.2.2.2++e4))
        else
        none) fun J12=>
     bif inB x10.2.2.1 e1 then
      bif !(atI false x10.1 x10.2.2.1)then
       J12 (x10.1,x10.2.1,x10.2.2.1,true,x10.2.2.2)
      else
      bif !(x10.2.1==0)then
       bif inB e2 e1 then
        J12 (x10.1,x10.2.1,x10.2.2.1,atI false x10.1 e2,x10.2.2.2)
       else
       none
      else
      none
     else
     none
    else
    some (.inr x10.2.2.2)) (b,(b.length:Int),0,[])).bind fun(z15:List (Int×Int))=>
    some z15) y∧y=(List.range b.length).filterMap fun(i:Nat)=>if begins b i then some ((i:Int),(rl b i b.length:Int))else none:=by
    intro hno
    refine Ev.bindE (Q:=fun y=>y=(List.range b.length).filterMap fun(i:Nat)=>if begins b i then some ((i:Int),(rl b i b.length:Int))else none) (Ev.iterP
     (fun x:List Bool×Int×Int×List (Int×Int)=>x.1=b∧x.2.1=b.length∧0≤x.2.2.1∧x.2.2.1≤b.length∧x.2.2.2=(List.range x.2.2.1.toNat).filterMap fun(i:Nat)=>if begins b i then some ((i:Int),(rl b i b.length:Int))else none)
     (fun x=>(b.length - x.2.2.1).toNat) _ ?_ _ ?_) (fun y hy=>Ev.retE _ hy)
    ·rintro⟨b',c',i,out⟩ ⟨h1',h2',i1,i2,h3'⟩
     simp only at h1' h2' i1 i2 h3'
     subst h1' h2' h3'
     simp only
     obtain⟨im,rfl⟩:=Int.eq_ofNat_of_zero_le i1
     simp only[Int.toNat_natCast]at *
     by_cases h0:(im:Int) < (b'.length:Int)
     ·left
      have hlt:im < b'.length:=by omega
      have hc0:((b'.length:Int)==0)=false:=by rw[beq_eq_false_iff_ne];omega
      have hin:inB (im:Int) b'.length=true:=by simp[inB];omega
      have w1:wrap64 ((im:Int)+1)=((im+1:Nat):Int):=by rw[Wan (by omega) (by omega)];omega
      have w2:wrap64 (wrap64 ((im:Int)+b'.length) - 1)=((im+b'.length - 1:Nat):Int):=by
       rw[Wan (n:=(im:Int)+b'.length) (by omega) (by omega),Wan (by omega) (by omega)];omega
      have hm:Int.tmod (((im+b'.length - 1:Nat):Int)) (b'.length:Int)=(((im+b'.length - 1) % b'.length:Nat):Int):=(Int.tmod_eq_emod_of_nonneg (Int.natCast_nonneg _)).trans (Wpx _ _)
      have hlt2:(im+b'.length - 1) % b'.length < b'.length:=Nat.mod_lt _ (by omega)
      have hin2:inB (((im+b'.length - 1) % b'.length:Nat):Int) b'.length=true:=by unfold inB;simp only[Bool.and_eq_true,decide_eq_true_eq];omega
      have hsucc:∀ g:Nat→Option (Int×Int),(List.range (im+1)).filterMap g=(List.range im).filterMap g++(g im).toList:=by
       intro g
       rw[List.range_succ,List.filterMap_append]
       cases h:g im<;>simp[h]
      have hoLen:((List.range im).filterMap fun(i:Nat)=>if begins b' i then some ((i:Int),(rl b' i b'.length:Int))else none).length≤im:=by
       have:=List.length_filterMap_le (fun(i:Nat)=>if begins b' i then some ((i:Int),(rl b' i b'.length:Int))else none) (List.range im)
       simpa using this
      generalize ho:((List.range im).filterMap fun(i:Nat)=>if begins b' i then some ((i:Int),(rl b' i b'.length:Int))else none)=out at *
      have skip:begins b' im=false→out=(List.range (im+1)).filterMap fun(i:Nat)=>if begins b' i then some ((i:Int),(rl b' i b'.length:Int))else none:=by
       intro hbeg
       rw[hsucc,ho];simp[hbeg]
      simp only[h0,decide_true,cond_true,hin,Wyq,w1,w2,hm,hc0,Bool.not_false,hin2,letJ]
      cases hv:bt b' im with
      | false=>
       refine⟨(b',(b'.length:Int),((im+1:Nat):Int),out),Ev.const fun n=>rfl,⟨rfl,rfl,by simp only;omega,by simp only;omega,by simpa using skip (by simp[begins,hv])⟩,by simp only;omega⟩
      | true=>
       cases hp:bt b' ((im+b'.length - 1) % b'.length)with
       | true=>
        refine⟨(b',(b'.length:Int),((im+1:Nat):Int),out),Ev.const fun n=>rfl,⟨rfl,rfl,by simp only;omega,by simp only;omega,by simpa using skip (by simp[begins,hp])⟩,by simp only;omega⟩
       | false=>
        have hrun:=run_ok hb hlt out hp
        generalize hrl:rl b' im b'.length=K at hrun
        refine⟨(b',(b'.length:Int),((im+1:Nat):Int),out++[((im:Int),(K:Int))]),?_,⟨rfl,rfl,by simp only;omega,by simp only;omega,?_⟩,by simp only;omega⟩
        ·refine Ev.bind hrun ?_
         have hfit:fitB (out.length+[((im:Int),(K:Int))].length) 16=true:=by unfold fitB;simp;omega
         simp only[hfit,cond_true,w1]
         exact Ev.ret _
        ·simp only[Int.toNat_natCast]
         rw[hsucc,ho]
         have hbeg:begins b' im=true:=by simp[begins,hv,hp]
         simp[hbeg,hrl]
     ·right
      refine⟨_,Ev.const fun n=>by simp[h0];rfl,?_⟩
      have:im=b'.length:=by omega
      rw[this]
    ·exact⟨rfl,rfl,Int.le_refl _,by simp,by simp⟩
   by_cases hall:b.count true=b.length
   ·by_cases hpos:0 < b.length
    ·have e1:((b.count true:Int)==(b.length:Int))=true:=by rw[hall];simp
     have e2:decide (0 < (b.length:Int))=true:=by simp;omega
     refine Ev.eqE (v:=[(0,(b.length:Int))]) (fun n=>by simp only[e1,e2,cond_true]) ?_
     unfold frm
     rw[if_pos ⟨hall,hpos⟩]
    ·have e1:((b.count true:Int)==(b.length:Int))=true:=by rw[hall];simp
     have e2:decide (0 < (b.length:Int))=false:=decide_eq_false (by omega)
     obtain⟨y,h1,h2⟩:=rest (.inr (by omega))
     refine⟨y,?_,?_⟩
     ·simp only[e1,e2,cond_true,cond_false];exact h1
     ·rw[h2];unfold frm;rw[if_neg fun h=>hpos h.2]
   ·have e1:((b.count true:Int)==(b.length:Int))=false:=by simp;omega
    obtain⟨y,h1,h2⟩:=rest (.inl hall)
    refine⟨y,?_,?_⟩
    ·simp only[e1,cond_false];exact h1
    ·rw[h2];unfold frm;rw[if_neg fun h=>hall h.1]
 obtain⟨y,h3,rfl⟩:=main
 exact h3
theorem tks_get(C:Nat)(T:Int→Prop) [DecidablePred T](i:Nat)(h:i < C):(tks C T).getD i false=decide (T i):=by
 have:=Wp1 C T (j:=(i:Int)) (by omega) (by omega)
 simp only[BT,bt,Int.toNat_natCast]at this
 by_cases hT:T i
 ·rw[this.2 hT,decide_eq_true hT]
 ·rw[decide_eq_false hT]
  exact Bool.eq_false_iff.2 fun e=>hT (this.1 e)
theorem Wpy(C:Nat):List.replicate C false=tks C fun _=>False:=Wis (by simp) fun j hj=>by simp[bt,List.getD_eq_getElem?_getD,hj]
theorem Wyt(C:Nat)(T:Int→Prop)(i:Nat):List.set (tks C T) i true=tks C fun j=>T j∨j=i:=by
 refine Wis (by simp[Wc9]) fun j hj=>?_
 have:=Wp1 C T (j:=(j:Int)) (by omega) (by omega)
 simp only[BT,bt,Int.toNat_natCast]at this
 simp only[bt,List.getD_eq_getElem?_getD,List.getElem?_set]at this ⊢
 by_cases h:i=j
 ·subst h;simp[Wc9,hj]
 ·rw[if_neg h,this]
  constructor
  ·exact fun h=>.inl h
  ·rintro(h' | h')
   ·exact h'
   ·omega
noncomputable def Wjf(C:Int)(l:List (Int×Int)):List Bool:=if 1≤C∧C≤6000 then tks C.toNat (TS C l)else []
theorem ticks_(C:Int)(l:List (Int×Int))(hl:l.length≤1000):Ev (fun n=>qbj n (C,l)) (Wjf C l):=by
 unfold qbj Wjf
 refine Ev.bindS (fun n=>Wzi n C) ?_
 by_cases hc:1≤C∧C≤6000
 case neg=>rw[decide_eq_false hc,if_neg hc];exact Ev.ret _
 rw[decide_eq_true hc,if_pos hc]
 have hcc:(C==C&&decide (0≤C)&&decide (C * 1≤281474976710656))=true:=by simp;omega
 obtain⟨Cn,rfl⟩:=Int.eq_ofNat_of_zero_le (show 0≤C by omega)
 simp only[Bool.not_true,cond_false,hcc,cond_true]
 refine Ev.loopB (st:=fun i=>((Cn:Int),l,(i:Int),tks Cn (TS Cn (l.take i)))) l.length (tks Cn (TS Cn l)) ?_ (fun i hi=>?_) ?_ ?_
 ·have e:tks Cn (TS Cn [])=tks Cn fun _=>False:=Wb2 fun j _ _=>by simp[TS]
  simp[e,Wpy]
 ·have hin:inB (i:Int) l.length=true:=by rw[Waf];simp[hi]
  simp only[Int.ofNat_lt,hi,decide_true,cond_true,hin,Wag]
  have htk:∀ j,TS Cn (l.take (i+1)) j↔TS Cn (l.take i) j∨HasT Cn (l.getD i (0,0)) j:=fun j=>by
   rw[Wav l i (0,0) hi]
   simp only[TS,List.mem_append,List.mem_singleton]
   constructor
   ·rintro⟨a,ha | rfl,h⟩
    ·exact .inl ⟨a,ha,h⟩
    ·exact .inr h
   ·rintro(⟨a,ha,h⟩ | h)
    ·exact⟨a,.inl ha,h⟩
    ·exact⟨_,.inr rfl,h⟩
  generalize l.getD i (0,0)=A at *
  have m1:=Int.emod_nonneg A.1 (b:=Cn) (by omega)
  have m2:=Int.emod_lt_of_pos A.1 (b:=Cn) (by omega)
  refine Ev.bindS (fun n=>Wzj n A.1 Cn hc.1 (by omega)) ?_
  rw[Xcw]
  refine Ev.loopB (st:=fun k=>((Cn:Int),l,(i:Int),min A.2 Cn,A.1 % Cn,(k:Int),tks Cn (fun j=>TS Cn (l.take i) j∨(j - A.1 % Cn) % Cn < (k:Int)))) (min A.2 Cn).toNat ((Cn:Int),l,(i:Int),tks Cn (TS Cn (l.take (i+1)))) ?_ (fun k hk=>?_) ?_ ?_
  ·have e:tks Cn (fun j=>TS Cn (l.take i) j∨(j - A.1 % Cn) % Cn < ((0:Nat):Int))=tks Cn (TS Cn (l.take i)):=Wb2 fun j _ _=>by
    have:=Int.emod_nonneg (j - A.1 % Cn) (b:=Cn) (by omega)
    constructor
    ·rintro(h | h)
     ·exact h
     ·omega
    ·exact .inl
   simp only[e];rfl
  ·refine Ev.const fun n=>?_
   have hk':(k:Int) < min A.2 Cn:=by omega
   have q1:=Int.emod_nonneg (A.1 % Cn+k) (b:=Cn) (by omega)
   have q2:=Int.emod_lt_of_pos (A.1 % Cn+k) (b:=Cn) (by omega)
   have hc0:((Cn:Int)==0)=false:=by simp;omega
   have hw:wrap64 (A.1 % Cn+k)=A.1 % Cn+k:=Wan (by omega) (by omega)
   have ht:Int.tmod (A.1 % Cn+k) Cn=(A.1 % Cn+k) % Cn:=Int.tmod_eq_emod_of_nonneg (by omega)
   have hin2:inB ((A.1 % Cn+k) % Cn) (tks Cn (fun j=>TS Cn (l.take i) j∨(j - A.1 % Cn) % Cn < (k:Int))).length=true:=by
    unfold inB;rw[Wc9];simp only[Bool.and_eq_true,decide_eq_true_eq];omega
   simp only[hk',decide_true,cond_true,hc0,Bool.not_false,hw,ht,hin2,Wad (show k < 9223372036854775807 by omega),Wyt]
   congr 2
   simp only[Prod.mk.injEq,true_and]
   refine Wb2 fun j hj hj'=>?_
   have e1:=Wvk m1 m2 (k:=(k:Int)) (by omega) (by omega)
   have e2:=Wgc m1 m2 (j:=(j:Int)) (by omega) (by omega)
   rw[show(((A.1 % Cn+k) % Cn).toNat:Int)=(A.1 % Cn+k) % Cn by omega,e1,e2]
   constructor
   ·rintro((h | h) | h)
    ·exact .inl h
    ·right;omega
    ·right;split at h<;>split<;>omega
   ·rintro(h | h)
    ·exact .inl (.inl h)
    ·by_cases h3:(if A.1 % (Cn:Int)≤j then j - A.1 % Cn else j - A.1 % Cn+Cn) < (k:Int)
     ·exact .inl (.inr h3)
     ·right;split at h<;>split at h3<;>split<;>omega
  ·refine Ev.const fun n=>?_
   have hk':¬(((min A.2 Cn).toNat:Nat):Int) < min A.2 Cn:=by omega
   simp only[hk',decide_false,cond_false]
   congr 2
   simp only[Prod.mk.injEq,true_and]
   refine Wb2 fun j hj hj'=>?_
   rw[htk j]
   refine or_congr Iff.rfl ?_
   unfold HasT
   rw[Int.sub_emod_emod]
   have q1:=Int.emod_nonneg (j - A.1) (b:=Cn) (by omega)
   have q2:=Int.emod_lt_of_pos (j - A.1) (b:=Cn) (by omega)
   omega
  ·simp only[Wad (show i < 9223372036854775807 by omega)]
   exact Ev.ret _
 ·refine Ev.const fun n=>?_
  simp
 ·exact Ev.ret _
noncomputable def Wir(C:Int)(T:Int→Prop):List (Int×Int):=if 1≤C∧C≤6000 then frm (tks C.toNat T)else []
theorem Wpz{C:Int}{T:Int→Prop}{A:List (Int×Int)}(hc:1≤C∧C≤6000)(hA:Arcs C T A):Wir C T=A:=by
 unfold Wir;rw[if_pos hc]
 have e:((C.toNat:Nat):Int)=C:=by omega
 exact Wyy (by omega) (by rw[e];exact hA)
theorem rset_(C:Int)(l:List (Int×Int))(hl:l.length≤1000):Ev (fun n=>qbi n (C,l)) (Wir C (TS C l)):=by
 unfold qbi
 refine Ev.bind (ticks_ C l hl) ?_
 unfold Wjf Wir
 split
 ·rename_i hc
  exact Ev.bind (Wys (by rw[Wc9];omega)) (Ev.ret _)
 ·exact Ev.bind (by have:=Wys (b:=[]) (by simp);rwa [Wyx]at this) (Ev.ret _)
theorem Wvw(C:Int)(l:List (Int×Int)):Wir C (TS C l)=Wgj C l:=by
 by_cases hc:1≤C∧C≤6000
 ·exact Wpz hc (Wmx hc.1 hc.2 l)
 ·unfold Wir;rw[if_neg hc,Wp5 (by omega)]
theorem rnorm_(C:Int)(a:Int×Int):Ev (fun n=>qbg n (C,a)) (Wau C a):=by
 unfold qbg
 refine Ev.bind (ticks_ C [a] (by simp)) ?_
 by_cases hc:1≤C∧C≤6000
 ·have hf:Ev (fun n=>qbd n (Wjf C [a])) (Wir C (TS C [a])):=by
   unfold Wjf Wir;rw[if_pos hc,if_pos hc];exact Wys (by rw[Wc9];omega)
  refine Ev.bind hf ?_
  have hts:∀ j,TS C [a] j↔HasT C (Wau C a) j:=fun j=>by rw[Wma hc.1 hc.2];simp[TS]
  obtain⟨n1,n2,n3,n4⟩:=Wf0 hc.1 a
  have full:(Wau C a).2=C→(Wau C a).1=0:=by
   unfold Wau
   intro h
   split at h
   ·simp at h;omega
   ·split at h
    ·rename_i h3 h4;rw[if_neg h3,if_pos h4]
    ·simp at h;omega
  have hA:Wir C (TS C [a])=if(Wau C a).2=0 then []else [Wau C a]:=by
   refine Wpz hc ((?_:Arcs C (fun j=>HasT C (Wau C a) j) _).congr hc.1 fun j _ _=>(hts j).symm)
   revert n1 n2 n3 n4 full
   generalize Wau C a=N
   intro n1 n2 n3 n4 full
   have hz:∀ z,HasT C N (z % C)↔HasT C N z:=fun z=>HasT.mod C N z
   split
   ·rename_i h0
    refine⟨by simp,fun x=>⟨fun h=>(by cases h),fun h=>?_⟩⟩
    have:HasT C N ((x.1+0) % C):=h.2.2.2.2.1 0 (by omega) (by have:=h.2.2.1;omega)
    rw[hz]at this
    have:=this.1
    omega
   ·rename_i h0
    have hone:Wim C (fun j=>HasT C N j) N:=by
     refine⟨n1,n2,by omega,n4,fun k k1 k2=>?_,?_⟩
     ·show HasT C N _
      rw[hz]
      refine⟨by omega,.inr ?_⟩
      rw[show N.1+k - N.1=k by omega,Int.emod_eq_of_lt k1 (by omega)];exact k2
     ·by_cases hC:N.2=C
      ·exact .inl ⟨hC,full hC⟩
      ·refine .inr ⟨by omega,?_,?_⟩
       ·show ¬ HasT C N _
        rw[hz]
        rintro⟨_,h | h⟩
        ·omega
        ·rw[show N.1 - 1 - N.1=C - 1 - C by omega,Int.sub_emod_right,Int.emod_eq_of_lt (by omega) (by omega)]at h;omega
       ·show ¬ HasT C N _
        rw[hz]
        rintro⟨_,h | h⟩
        ·omega
        ·rw[show N.1+N.2 - N.1=N.2 by omega,Int.emod_eq_of_lt (by omega) (by omega)]at h;omega
    refine⟨by simp,fun x=>?_⟩
    rw[List.mem_singleton]
    constructor
    ·rintro rfl;exact hone
    ·intro hx
     refine hx.start hone ?_
     have hx0:HasT C N ((x.1+0) % C):=hx.2.2.2.2.1 0 (by omega) (by have:=hx.2.2.1;omega)
     rw[hz,show x.1+0=x.1 by omega]at hx0
     rcases hx.2.2.2.2.2 with h | h
     ·
      have:HasT C N ((x.1+(N.1+N.2) % C) % C):=hx.2.2.2.2.1 ((N.1+N.2) % C) (Int.emod_nonneg _ (by omega)) (by rw[h.1];exact Int.emod_lt_of_pos _ (by omega))
      rw[hz,h.2,show(0:Int)+(N.1+N.2) % C=(N.1+N.2) % C by omega,hz]at this
      rcases this.2 with h3 | h3
      ·have:=full (by omega);omega
      ·rw[show N.1+N.2 - N.1=N.2 by omega]at h3
       by_cases hC:N.2=C
       ·have:=full hC;omega
       ·rw[Int.emod_eq_of_lt (by omega) (by omega)]at h3;omega
     ·have h4:¬ HasT C N ((x.1 - 1) % C):=h.2.1
      rw[hz]at h4
      unfold HasT at hx0 h4
      by_cases hC:C≤N.2
      ·exact absurd ⟨by omega,.inl hC⟩ h4
      ·have a1:(x.1 - N.1) % C < N.2:=by rcases hx0.2 with h | h<;>omega
       have a2:¬(x.1 - 1 - N.1) % C < N.2:=fun h5=>h4 ⟨by omega,.inr h5⟩
       rw[Wgc n1 n2 hx.1 hx.2.1]at a1
       by_cases he:x.1=N.1
       ·exact he
       ·exfalso
        apply a2
        by_cases hx1:x.1=0
        ·rw[hx1,show(0:Int) - 1 - N.1=C - 1 - N.1 - C by omega,Int.sub_emod_right,Int.emod_eq_of_lt (by omega) (by omega)]
         rw[hx1]at a1
         split at a1<;>omega
        ·rw[Wgc n1 n2 (by have:=hx.1;omega) (by have:=hx.2.1;omega)]
         split at a1<;>split<;>omega
  rw[hA]
  refine Ev.const fun n=>?_
  split
  ·rename_i h0
   have:Wau C a=(0,0):=by
    unfold Wau at h0 ⊢
    split
    ·rfl
    ·rename_i h3
     rw[if_neg h3]at h0
     split at h0
     ·simp only at h0;omega
     ·simp only at h0;omega
   simp[this]
  ·simp[Wjc,Wku]
 ·have e:Wau C a=(0,0):=by unfold Wau;rw[if_pos (by omega)]
  unfold Wjf
  rw[if_neg hc,e]
  exact Ev.bind (by have:=Wys (b:=[]) (by simp);rwa [Wyx]at this) (Ev.const fun n=>rfl)
theorem Wyu(P:Nat→Bool):∀ n,(∀ i,i < n→P i=true)∨∃ i,i < n∧P i=false∧∀ k,k < i→P k=true:=by
 intro n
 induction n with
 | zero=>exact .inl fun i h=>by omega
 | succ n ih=>
  rcases ih with h | ⟨i,h1,h2,h3⟩
  ·cases hp:P n with
   | true=>
    refine .inl fun i hi=>?_
    by_cases e:i=n
    ·rw[e];exact hp
    ·exact h i (by omega)
   | false=>exact .inr ⟨n,by omega,hp,h⟩
  ·exact .inr ⟨i,by omega,h2,h3⟩
theorem same_(a b:List (Int×Int))(hl:a.length≤1000000000):Ev (fun n=>qbh n (a,b)) (decide (a=b)):=by
 unfold qbh
 by_cases hlen:a.length=b.length
 ·have e:(((a.length:Nat):Int)==((b.length:Nat):Int))=true:=by simp[hlen]
  simp only[e,Bool.not_true,cond_false]
  have step:∀ i,i < a.length→a.getD i (0,0)=b.getD i (0,0)→∀ n:Nat,(fun(n:Nat) (x1:(List (Int×Int))×(List (Int×Int))×Int)=>
   let e0:=x1.1.length
   let e1:=atI (0,0) x1.1 x1.2.2
   let e2:=atI (0,0) x1.2.1 x1.2.2
   bif decide (x1.2.2 < ((e0:Nat):Int))then
    bif inB x1.2.2 e0 then
     bif inB x1.2.2 x1.2.1.length then
      bif !((e1.1==e2.1)&&((e1.2==e2.2)&&true))then
       (some (.inr (.inl false)):Option (((List (Int×Int))×(List (Int×Int))×Int) ⊕ (Bool ⊕ Unit)))
      else
      some (.inl (x1.1,x1.2.1,wrap64 (x1.2.2+1)))
     else
     none
    else
    none
   else
   some (.inr (.inr ()))) n (a,b,(i:Int))=some (.inl (a,b,((i+1:Nat):Int))):=by
   intro i hi he n
   have hi':i < b.length:=by omega
   simp only[Int.ofNat_lt,hi,hi',decide_true,cond_true,Waf,Wag,he,beq_self_eq_true,Bool.and_true,Bool.not_true,cond_false,Wad (show i < 9223372036854775807 by omega)]
  rcases Wyu (fun i=>decide (a.getD i (0,0)=b.getD i (0,0))) a.length with h | ⟨i,h1,h2,h3⟩
  ·have hab:a=b:=List.ext_getElem hlen fun i h1 h2=>by
    have:=h i h1
    rw[decide_eq_true_eq,Wbp _ _ _ h1,Wbp _ _ _ h2]at this
    exact this
   rw[decide_eq_true hab]
   refine Ev.loopB (st:=fun i=>(a,b,(i:Int))) a.length (.inr ()) rfl (fun i hi=>Ev.const fun n=>step i hi (of_decide_eq_true (h i hi)) n) (Ev.const fun n=>by simp) ?_
   exact Ev.ret _
  ·have hab:a≠b:=fun e=>by rw[e]at h2;simp at h2
   rw[decide_eq_false hab]
   refine Ev.loopB (st:=fun i=>(a,b,(i:Int))) i (.inl false) rfl (fun k hk=>Ev.const fun n=>step k (by omega) (of_decide_eq_true (h3 k hk)) n) (Ev.const fun n=>?_) ?_
   case refine_2=>exact Ev.ret _
   have hi':i < b.length:=by omega
   have hne:((a.getD i (0,0)).1==(b.getD i (0,0)).1&&((a.getD i (0,0)).2==(b.getD i (0,0)).2&&true))=false:=by
    have h4:=of_decide_eq_false h2
    rw[Bool.and_true,Bool.and_eq_false_iff]
    by_cases h5:(a.getD i (0,0)).1=(b.getD i (0,0)).1
    ·right;rw[beq_eq_false_iff_ne];exact fun h6=>h4 (Prod.ext h5 h6)
    ·left;rw[beq_eq_false_iff_ne];exact h5
   simp only[Int.ofNat_lt,h1,hi',decide_true,cond_true,Waf,Wag,hne,Bool.not_false]
 ·have e:(((a.length:Nat):Int)==((b.length:Nat):Int))=false:=by rw[beq_eq_false_iff_ne];omega
  rw[decide_eq_false (fun h=>hlen (by rw[h]))]
  simp only[e,Bool.not_false,cond_true]
  exact Ev.ret _
def mk(n:Nat)(f:Nat→Bool):List Bool:=(List.range n).map f
theorem Wyv{C:Int}{T:Int→Prop}{f:List (Int×Int)}(hf:Arcs C T f):f.foldl wide (0,0)=Wf4 f:=by
 cases f with
 | nil=>rfl
 | cons a r=>
  have:=((hf.mem a).1 (by simp)).2.2.1
  have e:wide (0,0) a=a:=by unfold wide;rw[if_pos (by simp only;omega)]
  simp only[List.foldl_cons,e,Wf4]
theorem rwidest_(C:Int)(l:List (Int×Int))(hl:l.length≤1000):Ev (fun n=>qbk n (C,l)) (Wf4 (Wgj C l)):=by
 unfold qbk
 have hs:=rset_ C l hl
 rw[Wvw]at hs
 refine Ev.bind hs ?_
 have hlen:=Wkz C l
 have hw:(Wgj C l).foldl wide (0,0)=Wf4 (Wgj C l):=by
  by_cases hc:1≤C∧C≤6000
  ·exact Wyv (Wmx hc.1 hc.2 l)
  ·rw[Wp5 (by omega)];rfl
 rw[← hw]
 generalize Wgj C l=f at *
 refine Ev.loopB (st:=fun i=>(f,(i:Int),(0:Int),(0:Int),(f.take i).foldl wide (0,0))) f.length (0,0,f.foldl wide (0,0)) (by simp) (fun i hi=>?_) (Ev.const fun n=>by simp) (Ev.ret _)
 refine Ev.const fun n=>?_
 simp only[Int.ofNat_lt,hi,decide_true,cond_true,Waf,Wag,Wad (show i < 9223372036854775807 by omega),Wav f i (0,0) hi,List.foldl_append,List.foldl_cons,List.foldl_nil]
 generalize f.getD i (0,0)=x
 generalize (f.take i).foldl wide (0,0)=m
 unfold wide
 by_cases h1:m.2 < x.2<;>simp[h1]
theorem tks_setv(C:Nat)(T:Int→Prop)(i:Nat)(v:Bool):List.set (tks C T) i v=tks C fun j=>(j=i∧v=true)∨(j≠i∧T j):=by
 refine Wis (by simp[Wc9]) fun j hj=>?_
 have:=Wp1 C T (j:=(j:Int)) (by omega) (by omega)
 simp only[BT,bt,Int.toNat_natCast]at this
 simp only[bt,List.getD_eq_getElem?_getD,List.getElem?_set]at this ⊢
 by_cases h:i=j
 ·subst h;simp[Wc9,hj]
 ·rw[if_neg h,this]
  constructor
  ·exact fun h'=>.inr ⟨by omega,h'⟩
  ·rintro(h' | h')
   ·omega
   ·exact h'.2
end Go.Proofs.YtalbenehgdkalaaGreat.Fn