/- Texts of the proof. -/
import Derived.Test.YtalbenehgdkalaaGreatCirc
namespace Go.Circ
def bt(b:List Bool)(j:Nat):Bool:=b.getD j false
def rl(b:List Bool):Nat→Nat→Nat
 | _,0=>0
 | i,f+1=>if bt b (i % b.length)then rl b (i+1) f+1 else 0
def begins(b:List Bool)(i:Nat):Bool:=bt b i&&!(bt b ((i+b.length - 1) % b.length))
def frm(b:List Bool):List (Int×Int):=if b.count true=b.length∧0 < b.length then [(0,(b.length:Int))]
 else(List.range b.length).filterMap fun(i:Nat)=>if begins b i then some ((i:Int),(rl b i b.length:Int))else none
theorem rl_of{b:List Bool}:∀(K i f:Nat),K < f→(∀ m,m < K→bt b ((i+m) % b.length)=true)→bt b ((i+K) % b.length)=false→rl b i f=K:=by
 intro K
 induction K with
 | zero=>
  intro i f hf _ h
  cases f with
  | zero=>omega
  | succ f=>simp only[rl];rw[Nat.add_zero]at h;simp[h]
 | succ K ih=>
  intro i f hf h h'
  cases f with
  | zero=>omega
  | succ f=>
   have h0:=h 0 (by omega)
   rw[Nat.add_zero]at h0
   simp only[rl]
   rw[if_pos h0,ih (i+1) f (by omega) (fun m hm=>by have:=h (m+1) (by omega);rwa [show i+(m+1)=i+1+m by omega]at this) (by rwa [show i+(K+1)=i+1+K by omega]at h')]
theorem rl_spec{b:List Bool}:∀(f i:Nat),rl b i f≤f∧(∀ m,m < rl b i f→bt b ((i+m) % b.length)=true)∧(rl b i f < f→bt b ((i+rl b i f) % b.length)=false):=by
 intro f
 induction f with
 | zero=>intro i;simp[rl]
 | succ f ih=>
  intro i
  simp only[rl]
  split
  ·rename_i h
   obtain⟨h1,h2,h3⟩:=ih (i+1)
   refine⟨by omega,fun m hm=>?_,fun hlt=>?_⟩
   ·cases m with
    | zero=>simpa using h
    | succ m=>have:=h2 m (by omega);rwa [show i+(m+1)=i+1+m by omega]
   ·have:=h3 (by omega);rwa [show i+(rl b (i+1) f+1)=i+1+rl b (i+1) f by omega]
  ·rename_i h
   exact⟨by omega,fun m hm=>by omega,fun _=>by simpa using h⟩
def BT(b:List Bool)(j:Int):Prop:=bt b j.toNat=true
theorem Wmw{b:List Bool}:b.count true=b.length↔∀ i,i < b.length→bt b i=true:=by
 rw[List.count_eq_length]
 constructor
 ·intro h i hi
  have:=h b[i] (List.getElem_mem hi)
  simp[bt,List.getD_eq_getElem?_getD,hi,← this]
 ·intro h x hx
  obtain⟨i,hi,rfl⟩:=List.mem_iff_getElem.1 hx
  have:=h i hi
  simp[bt,List.getD_eq_getElem?_getD,hi]at this
  exact this.symm
theorem Whb(i n:Nat):((i:Int) % (n:Int)).toNat=i % n:=by
 rw[show((i:Int) % (n:Int))=((i % n:Nat):Int) from rfl,Int.toNat_natCast]
theorem frm_arcs{b:List Bool}(hb:0 < b.length):Arcs (b.length:Int) (BT b) (frm b):=by
 by_cases hf:b.count true=b.length
 ·have hall:=Wmw.1 hf
  have e:frm b=[(0,(b.length:Int))]:=by unfold frm;rw[if_pos ⟨hf,hb⟩]
  rw[e]
  have hT:∀ j:Int,BT b (j % (b.length:Int)):=fun j=>by
   have h1:=Int.emod_nonneg j (b:=(b.length:Int)) (by omega)
   have h2:=Int.emod_lt_of_pos j (b:=(b.length:Int)) (by omega)
   exact hall _ (by omega)
  refine⟨by simp,fun x=>?_⟩
  rw[List.mem_singleton]
  constructor
  ·rintro rfl
   exact⟨by simp only;omega,by simp only;omega,by simp only;omega,by simp only;omega,fun k _ _=>hT _,.inl ⟨rfl,rfl⟩⟩
  ·rintro⟨h1,h2,h3,h4,h5,h6⟩
   rcases h6 with h6 | h6
   ·exact Prod.ext h6.2 h6.1
   ·exact absurd (hT _) h6.2.1
 ·have e:frm b=(List.range b.length).filterMap fun(i:Nat)=>if begins b i then some ((i:Int),(rl b i b.length:Int))else none:=by unfold frm;rw[if_neg fun h=>hf h.1]
  rw[e]
  refine⟨?_,fun x=>?_⟩
  ·rw[List.pairwise_filterMap]
   refine List.pairwise_lt_range.imp fun {i j} hij x hx y hy=>?_
   split at hx<;>try(cases hx;done)
   split at hy<;>try(cases hy;done)
   cases hx
   cases hy
   simp only
   omega
  ·rw[List.mem_filterMap]
   constructor
   ·rintro⟨i,hi,hx⟩
    rw[List.mem_range]at hi
    split at hx<;>try(cases hx;done)
    rename_i hbg
    cases hx
    simp only[begins,Bool.and_eq_true,Bool.not_eq_true']at hbg
    obtain⟨h1,h2,h3⟩:=rl_spec (b:=b) b.length i
    have hpos:0 < rl b i b.length:=by
     rcases Nat.eq_zero_or_pos (rl b i b.length)with h0 | h0
     ·have:=h3 (by omega)
      rw[h0,Nat.add_zero,Nat.mod_eq_of_lt hi,hbg.1]at this
      cases this
     ·exact h0
    have hlt:rl b i b.length < b.length:=by
     rcases Nat.lt_or_ge (rl b i b.length) b.length with h0 | h0
     ·exact h0
     ·have:=h2 (b.length - 1) (by omega)
      rw[show i+(b.length - 1)=i+b.length - 1 by omega,hbg.2]at this
      cases this
    refine⟨by simp only;omega,by simp only;omega,by simp only;omega,by simp only;omega,fun k k1 k2=>?_,.inr ⟨by simp only;omega,?_,?_⟩⟩
    ·simp only at k2 ⊢
     obtain⟨m,rfl⟩:=Int.eq_ofNat_of_zero_le k1
     have:=h2 m (by omega)
     unfold BT
     rw[show((i:Int)+(m:Int))=((i+m:Nat):Int) by omega,Whb]
     exact this
    ·simp only
     unfold BT
     rw[show((i:Int) - 1) % (b.length:Int)=((i+b.length - 1:Nat):Int) % (b.length:Int) by rw[← Int.add_emod_right];congr 1;omega,Whb,hbg.2]
     simp
    ·simp only
     unfold BT
     rw[show((i:Int)+(rl b i b.length:Int))=((i+rl b i b.length:Nat):Int) by omega,Whb,h3 hlt]
     simp
   ·rintro⟨h1,h2,h3,h4,h5,h6⟩
    obtain⟨i,hi⟩:=Int.eq_ofNat_of_zero_le h1
    obtain⟨K,hK⟩:=Int.eq_ofNat_of_zero_le (show 0≤x.2 by omega)
    have hT:∀ m:Nat,m < K→bt b ((i+m) % b.length)=true:=fun m hm=>by
     have:=h5 m (by omega) (by omega)
     unfold BT at this
     rwa [hi,show((i:Int)+(m:Int))=((i+m:Nat):Int) by omega,Whb]at this
    have hnf:¬ K=b.length:=by
     intro hKn
     apply hf
     rw[Wmw]
     intro j hj
     have:=hT ((j+b.length - i) % b.length) (by rw[hKn];exact Nat.mod_lt _ hb)
     rw[Nat.add_mod_mod,show i+(j+b.length - i)=j+b.length by omega,Nat.add_mod_right,Nat.mod_eq_of_lt hj]at this
     exact this
    have h6':x.2 < b.length∧¬ BT b ((x.1 - 1) % b.length)∧¬ BT b ((x.1+x.2) % b.length):=by
     rcases h6 with h | h
     ·omega
     ·exact h
    refine⟨i,List.mem_range.2 (by omega),?_⟩
    have hb1:bt b i=true:=by
     have:=hT 0 (by omega)
     rwa [Nat.add_zero,Nat.mod_eq_of_lt (by omega)]at this
    have hb2:bt b ((i+b.length - 1) % b.length)=false:=by
     have:=h6'.2.1
     unfold BT at this
     rw[hi,show((i:Int) - 1) % (b.length:Int)=((i+b.length - 1:Nat):Int) % (b.length:Int) by rw[← Int.add_emod_right];congr 1;omega,Whb]at this
     simpa using this
    have hb3:bt b ((i+K) % b.length)=false:=by
     have:=h6'.2.2
     unfold BT at this
     rw[hi,hK,show((i:Int)+(K:Int))=((i+K:Nat):Int) by omega,Whb]at this
     simpa using this
    have hrl:=rl_of K i b.length (by omega) hT hb3
    rw[if_pos (by simp[begins,hb1,hb2]),hrl]
    exact congrArg some (Prod.ext hi.symm hK.symm)
theorem Wyx:frm []=[]:=by simp[frm]
open Classical in
noncomputable def tks(C:Nat)(T:Int→Prop):List Bool:=(List.range C).map fun(j:Nat)=>decide (T (j:Int))
theorem Wc9(C:Nat)(T:Int→Prop):(tks C T).length=C:=by simp[tks]
theorem Wp1(C:Nat)(T:Int→Prop){j:Int}(h:0≤j)(h':j < C):BT (tks C T) j↔T j:=by
 obtain⟨m,rfl⟩:=Int.eq_ofNat_of_zero_le h
 have:m < C:=by omega
 simp[BT,bt,tks,List.getD_eq_getElem?_getD,this]
theorem Wis{b:List Bool}{C:Nat}{T:Int→Prop}(hl:b.length=C)(h:∀ j:Nat,j < C→(bt b j=true↔T j)):b=tks C T:=by
 apply List.ext_getElem (by rw[hl,Wc9])
 intro i hi hi'
 have:=h i (by omega)
 simp only[bt,List.getD_eq_getElem?_getD,List.getElem?_eq_getElem hi,Option.getD_some]at this
 simp only[tks,List.getElem_map,List.getElem_range]
 by_cases ht:T i
 ·rw[this.2 ht];simp[ht]
 ·cases hb:b[i]with
  | false=>simp[ht]
  | true=>exact absurd (this.1 hb) ht
theorem Wyy{C:Nat}{T:Int→Prop}{A:List (Int×Int)}(hC:1≤C)(hA:Arcs C T A):frm (tks C T)=A:=by
 have h:=frm_arcs (b:=tks C T) (by rw[Wc9];omega)
 rw[Wc9]at h
 exact h.eq (by omega) hA fun j h1 h2=>Wp1 C T h1 h2
def Wcx(P:List (Int×Int)):Int:=(P.map fun p=>p.2 - p.1).sum
theorem Wb2{C:Nat}{T T':Int→Prop}(h:∀ j,0≤j→j < C→(T j↔T' j)):tks C T=tks C T':=
 Wis (Wc9 C T) fun j hj=>by
  have:=Wp1 C T (j:=(j:Int)) (by omega) (by omega)
  simp only[BT,Int.toNat_natCast]at this
  rw[this];exact h j (by omega) (by omega)
end Go.Circ