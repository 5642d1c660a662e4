/- Texts of the proof. -/
import Derived.Shelf.SlSortCmp.NoneTotal
import Derived.Shelf.SlicesE.DeleteFunc
import Derived.Shelf.Spec.TrailingZeros
import Derived.Shelf.Spec.BitsCarry
import Derived.RecoverIn
import Derived.Test.YtalbenehgdkalaaGreatLibD
namespace Go.Den
open Go Go.RowKit Go.Proofs Go.Shelf Go.Lib Go.Sort
def Wny{T:TypeId→Type}:PV T→Value
 | .int k n=>.int k n
 | .bool b=>.bool b
 | .str s=>.string s
 | .sl _ _=>undef
def Wgd{T:TypeId→Type}:PV T→Bool
 | .sl _ _=>false
 | _=>true
section
variable{Θ:Tab}{W:World}{F:Nat→Prop}
theorem rep_pv{u:Value}{p:PV Θ.T}(h:Rep Θ W F u p)(hp:Wgd p=true):u=Wny p:=by
 cases h<;>first | rfl | (simp[Wgd]at hp)
theorem pv_rep{p:PV Θ.T}(hp:Wgd p=true):Rep Θ W F (Wny p) p:=by
 cases p<;>first | constructor | (simp[Wgd]at hp)
theorem pv_one{p:PV Θ.T}(hp:Wgd p=true):(Wny p).oneCell'=true:=by
 cases p<;>first | rfl | (simp[Wgd]at hp)
theorem Wpt{T:TypeId→Type}:∀(ls:List Leaf) (x:HT (Leaf.Ty T) ls),ls.all Leaf.flat=true→∀ p∈HT.list Leaf.mk ls x,Wgd p=true
 | [],_,_,p,hp=>by simp[HT.list]at hp
 | [l],x,h,p,hp=>by
  simp only[HT.list,List.mem_singleton]at hp
  subst hp
  cases l<;>first | rfl | (simp[Leaf.flat]at h)
 | a::b::r,x,h,p,hp=>by
  simp only[List.all_cons,Bool.and_eq_true]at h
  simp only[HT.list,List.mem_cons]at hp
  rcases hp with rfl | hp
  ·cases a<;>first | rfl | (simp[Leaf.flat]at h)
  ·exact Wpt (b::r) x.2 (by simpa using h.2) p hp
theorem Wnz{e:TypeId}(h:(Θ.E e).leaves.all Leaf.flat=true)(x:Θ.T e):∀ p∈Θ.enc e x,Wgd p=true:=Wpt _ _ h
def encV(Θ:Tab)(e:TypeId)(x:Θ.T e):List Value:=(Θ.enc e x).map Wny
theorem encV_len(e:TypeId)(x:Θ.T e):(encV Θ e x).length=Θ.sz e:=by simp[encV,Θ.length_enc]
theorem Wyj{ps:List (PV Θ.T)}{us:List Value}(hf:∀ p∈ps,Wgd p=true)(h:All2 (fun x u=>Rep Θ W F u x) ps us):us=ps.map Wny:=by
 induction h with
 | nil=>rfl
 | cons h t ih=>rw[List.map_cons,rep_pv h (hf _ (by simp)),ih fun p hp=>hf p (by simp[hp])]
theorem Wyk{ps:List (PV Θ.T)}(hf:∀ p∈ps,Wgd p=true):All2 (fun x u=>Rep Θ W F u x) ps (ps.map Wny):=by
 induction ps with
 | nil=>exact .nil
 | cons p ps ih=>exact .cons (pv_rep (hf p (by simp))) (ih fun q hq=>hf q (by simp[hq]))
end
theorem flat_get{α:Type}(enc:α→List Value)(k:Nat)(hk0:0 < k)(hk:∀ x,(enc x).length=k):∀(l:List α) (t:Nat),(l.flatMap enc)[t]?=(l[t / k]?).bind fun x=>(enc x)[t % k]?:=by
 intro l
 induction l with
 | nil=>intro t;simp
 | cons a l ih=>
  intro t
  rw[List.flatMap_cons,List.getElem?_append,hk]
  by_cases h:t < k
  ·rw[if_pos h,Nat.div_eq_of_lt h,Nat.mod_eq_of_lt h];simp
  ·rw[if_neg h,ih]
   have e1:t / k=(t - k) / k+1:=by rw[Nat.div_eq_sub_div hk0 (by omega)]
   have e2:t % k=(t - k) % k:=Nat.mod_eq_sub_mod (by omega)
   rw[e1,e2];simp
theorem Wg9{α:Type}(enc:α→List Value)(k:Nat)(hk:∀ x,(enc x).length=k)(l:List α):(l.flatMap enc).length=l.length * k:=by
 induction l with
 | nil=>simp
 | cons a l ih=>rw[List.flatMap_cons,List.length_append,ih,hk,List.length_cons,Nat.add_mul];omega
theorem flatK_eq{α:Type} [Inhabited α](enc:α→List Value)(k:Nat)(hk0:0 < k)(hk:∀ x,(enc x).length=k)(d:Array α):flatK enc k d=(d.toList.flatMap enc).toArray:=by
 refine ext_get! (by simp only[size_flatK,List.size_toArray];rw[Wg9 enc k hk];simp) fun t ht=>?_
 rw[size_flatK]at ht
 rw[get_flatK _ _ _ _ ht]
 have hlt:t / k < d.size:=(Nat.div_lt_iff_lt_mul hk0).2 ht
 have h:=flat_get enc k hk0 hk d.toList t
 have e1:d.toList[t / k]?=some d[t / k]!:=by rw[getElem!_pos d _ hlt];simp[hlt]
 rw[e1]at h
 have hm:t % k < (enc d[t / k]!).length:=by rw[hk];exact Nat.mod_lt _ hk0
 simp only[Option.bind_some]at h
 rw[List.getElem?_eq_getElem hm]at h
 rw[getElem!_pos (enc d[t / k]!) (t % k) hm]
 have hs:t < (d.toList.flatMap enc).toArray.size:=by rw[List.size_toArray,Wg9 enc k hk];simpa using ht
 rw[getElem!_pos (d.toList.flatMap enc).toArray t hs]
 have h2:(d.toList.flatMap enc)[t]?=some ((d.toList.flatMap enc)[t]'(by simpa using hs)):=List.getElem?_eq_getElem _
 rw[h2]at h
 injection h with h
 rw[← h];simp
def Wh4{α:Type}(d:α)(cf:α→α→Int)(x:List α):List α:=
 letI:Inhabited α:=⟨d⟩
 (pdq (ltOf cf) x.toArray 0 x.length (Lib.bitLen x.length) true true).toList
section
variable{α:Type}(d:α)(cf:α→α→Int)(hO:SWO (ltOf cf))(x:List α)
include hO
theorem Wmt:(Wh4 d cf x).Perm x∧∀ i j (hi:i < j) (hj:j < (Wh4 d cf x).length),0≤cf ((Wh4 d cf x)[j]) ((Wh4 d cf x)[i]):=by
 letI:Inhabited α:=⟨d⟩
 have h:=pdq_sorts (ltOf cf) hO x.toArray 0 x.length (Lib.bitLen x.length) true true (Nat.zero_le _) (by simp) (Or.inl rfl)
 have e:Wh4 d cf x=(pdq (ltOf cf) x.toArray 0 x.length (Lib.bitLen x.length) true true).toList:=rfl
 generalize pdq (ltOf cf) x.toArray 0 x.length (Lib.bitLen x.length) true true=z at h e
 obtain⟨⟨h1,h2,h3⟩,h4⟩:=h
 have hs:z.size=x.length:=by simpa using h1
 have key:∀ q:List α,q=z.toList→q.Perm x∧∀ i j (hi:i < j) (hj:j < q.length),0≤cf (q[j]) (q[i]):=by
  rintro q rfl
  refine⟨?_,fun i j hij hj=>?_⟩
  ·have ez:z.extract 0 x.length=z:=by rw[← hs];simp
   have ex:x.toArray.extract 0 x.length=x.toArray:=by
    have:x.length=x.toArray.size:=by simp
    rw[this];simp
   rw[ez,ex]at h3
   simpa using h3
  ·have hj':j < z.size:=by simpa using hj
   have:=h4 i j (Nat.zero_le _) hij (by omega)
   rw[getElem!_pos z j hj',getElem!_pos z i (by omega)]at this
   simp only[ltOf,decide_eq_false_iff_not]at this
   simp only[Array.getElem_toList]
   omega
 exact key _ e
end
theorem Wio{α:Type}(d:α)(cf:α→α→Int)(hO:SWO (ltOf cf))(x:List α):(Wh4 d cf x).length=x.length:=(Wmt d cf hO x).1.length_eq
def Wyl(e g:Nat):Shape:=⟨[.c (.row pin),.c (.fn g [])],[],[(pin,e)]⟩
def Wn0(e:Nat):Shape:=⟨[],[],[(pin,e)]⟩
def Wvt{α:Type}(d:α)(cf:α→α→Int)(x:List α):Option (List α):=if x.length < 4611686018427387904 then some (Wh4 d cf x)else none
theorem Wvu{P:Program}{ρ:Ren}{Θ:Tab}(L:SlLaysF0.n6 P ρ)(e k:Nat)(hk0:0 < k)(hk1:k≠1)(hsl:slE e=true)(hsz:Θ.sz e=k)(hfl:(Θ.E e).leaves.all Leaf.flat=true)(aE:∀ w,(isAgg (ρ.t 24)).run P w=.ok true w)(zE:∀ w,(Go.sizeOf (ρ.t 24)).run P w=.ok k w)
 (cf:Θ.T e→Θ.T e→Int) (hO:SWO (ltOf cf)) (g:Nat) (eg:∀ args w,(callFunc g args).run P w=.ok (.enter g args) w) (ef:Enters P (ρ.f 6))
 (hcmp:∀ blk off size w,letI:Inhabited (Θ.T e):=⟨(Θ.E e).dft⟩;CmpLays P g #[] (encV Θ e) k cf blk off size w):PCalls P Θ (ρ.f 6) ⟨Wyl e g,[(.ret,Wn0 e)],fun x=>Wvt (Θ.E e).dft cf x⟩:=by
 refine⟨ef,rfl,?_⟩
 intro(x:List (Θ.T e)) (z:List (Θ.T e)) hx E vs bx rw_ hD hS
 letI hInh:Inhabited (Θ.T e):=⟨(Θ.E e).dft⟩
 have hx':Wvt (Θ.E e).dft cf x=some z:=hx
 have hlo:∀ y:List (Θ.T e),Wh2 (T:=Θ.T) e (.sl e y)=y:=fun y=>by simp[Wh2]
 have hst:(Wyl e g).st x=⟨[.c (.row pin 0),.c (.fn g [])],[],[(pin,⟨0,e,x⟩)]⟩:=by
  show(⟨[.c (.row pin 0),.c (.fn g [])],[],[(pin,⟨0,e,Wh2 (T:=Θ.T) e (.sl e x)⟩)]⟩:St Θ.T)=_
  rw[hlo]
 have hst2:∀ y:List (Θ.T e),(Wn0 e).st y=⟨[],[],[(pin,⟨0,e,y⟩)]⟩:=fun y=>by
  show(⟨[],[],[(pin,⟨0,e,Wh2 (T:=Θ.T) e (.sl e y)⟩)]⟩:St Θ.T)=_
  rw[hlo]
 simp only at hS ⊢
 rw[hst]at hS
 have hlen:=hS.len
 obtain⟨v0,v1,rfl⟩:∃ v0 v1,vs=[v0,v1]:=by
  cases vs with
  | nil=>simp at hlen
  | cons a l=>cases l with
   | nil=>simp at hlen
   | cons b l=>cases l with
    | nil=>exact⟨a,b,rfl⟩
    | cons c l=>simp at hlen
 have h0:v0=rw_ pin 0:=hS.slots 0
 have h1:v1=.func (.func g) #[] #[]:=hS.slots 1
 obtain⟨r1,us,r2,r3⟩:=hS.rows pin ⟨0,e,x⟩ (by simp[look])
 have hflat:∀ y:List (Θ.T e),∀ p∈y.flatMap (Θ.enc e),Wgd p=true:=fun y p hp=>by
  rw[List.mem_flatMap]at hp
  obtain⟨q,_,hq⟩:=hp
  exact Wnz hfl q p hq
 have hus:=Wyj (hflat x) r3
 have hmap:∀ y:List (Θ.T e),(y.flatMap (Θ.enc e)).map Wny=y.flatMap (encV Θ e):=fun y=>by rw[List.map_flatMap];rfl
 rw[hmap]at hus
 subst hus
 simp only at r1 r2
 rw[← h0]at r1 r2
 rw[hsz]at r2
 have r20:=r2
 replace r2:=r2.s hsl
 have hencl:∀ q,(encV Θ e q).length=k:=fun q=>by rw[encV_len,hsz]
 unfold Wvt at hx'
 split at hx'<;>try(cases hx';done)
 rename_i hlt
 injection hx' with hz
 have hzl:z.length=x.length:=by rw[← hz];exact Wio _ _ hO x
 have fin:∀ w':World,Keeps E w'→(∀ b,ob v0=some b→b < w'.heap.size)→(∀ b,b < E.w0.heap.size→ob v0≠some b→w'.heap[b]?=E.w0.heap[b]?)→Wcz w' e k v0 z.length (z.flatMap (encV Θ e))→
  Post Θ E [(.ret,Wn0 e)] z (.returned (.tuple #[])) w':=by
  intro w' hK hlt' hbl hO'
  show Ex.ret=Ex.ret∧_
  refine⟨rfl,[],bx,rw_,rfl,?_⟩
  rw[hst2]
  refine⟨hK,hS.glob,fun k b h=>⟨(hS.pinB k b h).1,fun B hB=>by simp[look]at hB⟩,fun r v h=>⟨(hS.pinR r v h).1,fun R hR hg=>?_⟩,hS.rwsl,fun k B hB=>by simp[look]at hB,fun r R hR=>?_,fun k B k' B' hB=>by simp[look]at hB,?_,fun k B r R hB=>by simp[look]at hB,rfl,fun i=>?_⟩
  ·simp only[look]at hR
   split at hR
   ·rename_i hr;subst hr;exact(hS.pinR _ v h).2 ⟨0,e,x⟩ (by simp[look]) rfl
   ·cases hR
  ·simp only[look]at hR
   split at hR<;>try(cases hR;done)
   rename_i hr
   subst hr
   injection hR with hR
   subst hR
   simp only
   rw[← h0,hsz]
   refine⟨r1,_,.inl ⟨hsl,hO'⟩,?_⟩
   rw[← hmap]
   exact Wyk (hflat z)
  ·intro r R r' R' b hR hR' hb hb'
   simp only[look]at hR hR'
   split at hR<;>try(cases hR;done)
   split at hR'<;>try(cases hR';done)
   rename_i e1 e2
   rw[← e1,← e2]
  ·simp[St.at_,RAV]
 rw[h1]
 by_cases hne:x=[]
 ·subst hne
  have hz0:z=[]:=List.eq_nil_of_length_eq_zero hzl
  subst hz0
  obtain⟨A,m,c,hv⟩:=r2.slice
  have hm:m=0:=by
   rcases r2 with h | ⟨ad,h,_,_⟩ | h
   ·rcases h.2 with⟨h,_⟩ | ⟨g',cap,cur,h,_⟩
    ·rw[hv]at h;cases h;rfl
    ·rw[hv]at h;cases h;rfl
   ·rw[hv]at h;cases h;rfl
   ·exact absurd h.1.2.2.1 hk1
  subst hm
  have hc:=AnyF.slices_SortFunc_none L A c (.func (.func g) #[] #[]) E.w0
  rw[← hv]at hc
  refine hc.mono fun en w' ⟨he,hw⟩=>?_
  subst he hw
  exact fin _ hS.below (fun b hb=>r20.lt hb) (fun b _ _=>rfl) (by simpa using r2)
 ·have hpos:0 < x.length:=List.length_pos_iff.2 hne
  have hw:E.w0.ownsRow 0 e k v0 x.length (x.flatMap (encV Θ e)):=by
   rcases r2 with hw | ⟨ad,_,h,_⟩ | h
   ·exact hw
   ·simp at h;exact absurd h hne
   ·exact absurd h.1.2.2.1 hk1
  rcases hw.2 with⟨_,h⟩ | ⟨b,cap,cur,hv,_,hb,hnc,hcm,hcs,htk⟩
  ·simp at h;exact absurd h hne
  have hob:ob v0=some b:=by rw[hv];simp only[ob];rw[if_neg (by omega)]
  have hblt:b < E.w0.heap.size:=by
   rcases Nat.lt_or_ge b E.w0.heap.size with h | h
   ·exact h
   ·rw[Array.getElem?_eq_none h]at hb;cases hb
  have hx0:x.toArray.size=x.length:=by simp
  have hfK:∀ y:List (Θ.T e),flatK (encV Θ e) k y.toArray=(y.flatMap (encV Θ e)).toArray:=fun y=>flatK_eq _ k hk0 hencl _
  have hH:HoldsK (encV Θ e) k E.w0 b 0 x.toArray:=by
   intro j hj
   rw[hfK]at hj ⊢
   have hj':j < (x.flatMap (encV Θ e)).length:=by simpa using hj
   have hj2:j < x.length * k:=by rwa [Wg9 _ k hencl]at hj'
   have hcj:cur[j]?=some ((x.flatMap (encV Θ e)).toArray[j]!):=by
    rw[getElem!_pos (x.flatMap (encV Θ e)).toArray j hj]
    have:(cur.toList.take (x.length * k))[j]?=(x.flatMap (encV Θ e))[j]?:=by rw[htk]
    rw[List.getElem?_take_of_lt hj2]at this
    rw[List.getElem?_eq_getElem hj']at this
    simpa using this
   constructor
   ·simp only[World.cell?,hb]
    simpa using hcj
   ·simp[World.frozen?,hb]
  have hc:=AnyQ.slices_SortFunc_eq L k aE zE (encV Θ e) hencl (fun q v hv=>by
   simp only[encV,List.mem_map]at hv
   obtain⟨p,hp,rfl⟩:=hv
   exact pv_one (Wnz hfl q p hp)) cf hO g #[] b 0 cap x.toArray E.w0 eg (hcmp _ _ _ _) hH hblt (by simpa using hlt)
  rw[hx0,← hv]at hc
  refine hc.mono fun en w' ⟨he,n,os,hw⟩=>?_
  subst he
  have ez:pdq (ltOf cf) x.toArray 0 x.length (Lib.bitLen x.length) true true=z.toArray:=by
   rw[← hz];unfold Wh4;simp
  rw[ez]at hw
  have hsize:w'.heap.size=E.w0.heap.size+os.size:=by
   rw[hw];unfold sortWorldK;rw[size_grow,size_putRowK];rfl
  have hother:∀ c,c < E.w0.heap.size→c≠b→w'.heap[c]?=E.w0.heap[c]?:=by
   intro c hc hcb
   rw[hw]
   unfold sortWorldK
   rw[heap_grow_old _ _ (by rw[size_putRowK];exact hc)]
   unfold putRowK putRow mapBlock Sort.ahead
   simp[Array.getElem?_modify,Ne.symm hcb]
  have hblock:w'.heap[b]?=some (.cells (putCells id 0 (flatK (encV Θ e) k z.toArray) cur) e (0,0)):=by
   rw[hw]
   unfold sortWorldK
   rw[heap_grow_old _ _ (by rw[size_putRowK];exact hblt)]
   unfold putRowK putRow mapBlock Sort.ahead
   simp[Array.getElem?_modify,hb,onCells]
  refine fin w' ⟨?_,?_,?_,?_,?_⟩ (fun c hc=>?_) (fun c hc hcb=>hother c hc fun ee=>hcb (by rw[ee];exact hob)) (.inl ⟨Wg9 _ k hencl _,.inr ⟨b,cap,_,?_,Nat.zero_le _,hblock,by rw[hzl];exact hnc,hcm,?_,?_⟩⟩)
  ·rw[hw];exact hS.below.os
  ·rw[hw];exact hS.below.tape
  ·rw[hw];exact hS.below.output
  ·omega
  ·intro c hc hcz
   refine hother c hc fun ee=>hcz ?_
   subst ee
   rcases r1 c hob with h | h
   ·exact h
   ·omega
  ·rw[hob]at hc;cases hc;omega
  ·rw[hv,hzl]
  ·simp[putCells,hcs]
  ·rw[hfK]
   apply List.ext_getElem?
   intro t
   by_cases ht:t < z.length * k
   ·rw[List.getElem?_take_of_lt ht]
    have hle:z.length * k≤cur.size:=by rw[hcs,hzl];exact Nat.mul_le_mul_right _ hnc
    have hfl':(z.flatMap (encV Θ e)).length=z.length * k:=Wg9 _ k hencl _
    have ht2:t < (z.flatMap (encV Θ e)).length:=by omega
    simp only[putCells,Array.toList_mapIdx,List.getElem?_mapIdx,Array.getElem?_toList]
    rw[Array.getElem?_eq_getElem (by omega),List.getElem?_eq_getElem ht2]
    simp only[Option.map_some,id_eq,Nat.zero_le,true_and,Nat.zero_add,Nat.sub_zero,List.size_toArray]
    rw[if_pos ht2,getElem!_pos (z.flatMap (encV Θ e)).toArray t (by rw[List.size_toArray];exact ht2)]
    simp
   ·rw[List.getElem?_eq_none (by simp;omega),List.getElem?_eq_none (by rw[Wg9 _ k hencl];omega)]
end Go.Den
namespace Go.Den
open Go Go.RowKit Go.Proofs Go.Shelf Go.Lib Go.Sort
def delIn(e g bt w:Nat):Shape:=⟨[.c (.row pin),.c (.fn g [pin])],[(pin,bt,[.hole .str,.hole (.int .i64),.hole (.int .i64),.hole (.int .i64),.hole (.sl w)])],[(pin,e)]⟩
def delOut(e bt w:Nat):Shape:=⟨[.c (.row (pin+pin))],[(pin,bt,[.hole .str,.hole (.int .i64),.hole (.int .i64),.hole (.int .i64),.hole (.sl w)])],[(pin+pin,e)]⟩
def delF{α β:Type}(q:ByteArray→α→Bool)(x:ByteArray×Int×Int×Int×β×List α):Option (ByteArray×Int×Int×Int×β×List α):=
 if 0 < x.2.2.2.2.2.length∧x.2.2.2.2.2.length < 4611686018427387904 then some (x.1,x.2.1,x.2.2.1,x.2.2.2.1,x.2.2.2.2.1,x.2.2.2.2.2.filter fun y=>!q x.1 y)else none
theorem Wym{P:Program}{ρ:Ren}{Θ:Tab}(L:SlLaysH.n10 P ρ)(e g bt w:Nat)(enc:Θ.T e→Value)(zr:Θ.T e)(hsl:slE e=true)(hsz:Θ.sz e=1)(hfl:(Θ.E e).leaves.all Leaf.flat=true)(he:∀ x,encV Θ e x=[enc x])(hO:OneCell enc)(hnb:∀ x (c:Int),enc x≠.int .u8 c)
 (q:ByteArray→Θ.T e→Bool) (eg:∀ args w,(callFunc g args).run P w=.ok (.enter g args) w) (v23:∀ w,(zeroValue (ρ.t 23)).run P w=.ok (enc zr) w) (ef:Enters P (ρ.f 10))
 (hcl:∀(s:ByteArray) (B:Nat) (W:World) (x:Θ.T e),W.cell? ⟨B,0,none⟩=some (.string s)→FnGives P g #[.pointer (some ⟨B,0,none⟩)] #[enc x] (.bool (q s x)) W) :
 PCalls P Θ (ρ.f 10) ⟨delIn e g bt w,[(.ret,delOut e bt w)],fun x=>delF q x⟩:=by
 refine⟨ef,rfl,?_⟩
 intro(x:ByteArray×Int×Int×Int×List (Θ.T w)×List (Θ.T e)) (z:ByteArray×Int×Int×Int×List (Θ.T w)×List (Θ.T e)) hx E vs bx rw_ hD hS
 letI hInh:Inhabited (Θ.T e):=⟨(Θ.E e).dft⟩
 obtain⟨s0,n1,n2,n3,l4,l⟩:=x
 have hx':delF q (s0,n1,n2,n3,l4,l)=some z:=hx
 unfold delF at hx'
 simp only at hx'
 split at hx'<;>try(cases hx';done)
 rename_i hlen
 obtain⟨hpos,hlt⟩:=hlen
 injection hx' with hz
 subst hz
 have hlo:∀ y:List (Θ.T e),Wh2 (T:=Θ.T) e (.sl e y)=y:=fun y=>by simp[Wh2]
 let B0:BoxS Θ.T:=⟨0,bt,[.v (.str s0),.v (.int .i64 n1),.v (.int .i64 n2),.v (.int .i64 n3),.v (.sl w l4)]⟩
 replace hS:Sim Θ E (⟨[.c (.row pin 0),.c (.fn g [(pin,0)])],[(pin,B0)],[(pin,⟨0,e,Wh2 (T:=Θ.T) e (.sl e l)⟩)]⟩:St Θ.T) vs.toArray E.w0 bx rw_:=hS
 rw[hlo]at hS
 have hln:=hS.len
 obtain⟨v0,v1,rfl⟩:∃ v0 v1,vs=[v0,v1]:=by
  cases vs with
  | nil=>simp at hln
  | cons a l=>cases l with
   | nil=>simp at hln
   | cons b l=>cases l with
    | nil=>exact⟨a,b,rfl⟩
    | cons c l=>simp at hln
 have h0:v0=rw_ pin 0:=hS.slots 0
 have h1:v1=.func (.func g) #[] #[.pointer (some ⟨bx pin 0,0,none⟩)]:=hS.slots 1
 obtain⟨r1,us,r2,r3⟩:=hS.rows pin ⟨0,e,l⟩ (by simp[look])
 obtain⟨bo,cs,bh,bc⟩:=hS.boxes pin B0 (by simp[look])
 have hbr:=hS.br pin B0 pin ⟨0,e,l⟩ (by simp[look]) (by simp[look])
 have hgen:B0.gen=0:=rfl
 rw[hgen]at bo bh hbr
 simp only at r1 r2 hbr
 have hflat:∀ y:List (Θ.T e),∀ p∈y.flatMap (Θ.enc e),Wgd p=true:=fun y p hp=>by
  rw[List.mem_flatMap]at hp
  obtain⟨q,_,hq⟩:=hp
  exact Wnz hfl q p hq
 have hus:=Wyj (hflat l) r3
 have hmap:∀ y:List (Θ.T e),(y.flatMap (Θ.enc e)).map Wny=y.map enc:=fun y=>by
  rw[List.map_flatMap]
  have:(fun b=>List.map Wny (Θ.enc e b))=fun b=>[enc b]:=by funext b;exact he b
  rw[this]
  clear this
  induction y with
  | nil=>rfl
  | cons a y ih=>simp[List.flatMap_cons,ih]
 rw[hmap]at hus
 subst hus
 rw[← h0]at r1 r2 hbr
 rw[hsz]at r2
 replace r2:=r2.s hsl
 have hcs0:∃ cs',cs=.string s0::cs':=by
  have bc':All2 (RCV Θ E.w0 _ bx rw_) [.v (.str s0),.v (.int .i64 n1),.v (.int .i64 n2),.v (.int .i64 n3),.v (.sl w l4)] cs:=bc
  cases bc' with
  | cons h t=>cases h;exact⟨_,rfl⟩
 obtain⟨cs',hcs'⟩:=hcs0
 have hw:E.w0.ownsRow 0 e 1 v0 l.length (l.map enc):=by
  rcases r2 with hw | ⟨ad,_,h,_⟩ | h
  ·exact hw
  ·have:l.length=0:=h
   omega
  ·exfalso
   have h2:=h.1.2.2.2
   cases l with
   | nil=>exact absurd h.1.2.1 (Nat.lt_irrefl 0)
   | cons x r=>
    obtain⟨c,hc⟩:=h2 (enc x) (by simp)
    exact hnb x c hc
 rcases hw.2 with⟨_,h⟩ | ⟨b,cap,cur,hv,_,hb,hnc,hcm,hcz,htk⟩
 ·have:l.length=0:=h
  omega
 have hob:ob v0=some b:=by rw[hv];simp only[ob];rw[if_neg (by omega)]
 have hblt:b < E.w0.heap.size:=(Array.getElem?_eq_some_iff.1 hb).1
 have hBlt:bx pin 0 < E.w0.heap.size:=(Array.getElem?_eq_some_iff.1 bh).1
 have hne:bx pin 0≠b:=fun ee=>hbr (by rw[hob,ee])
 have hcell:E.w0.cell? ⟨bx pin 0,0,none⟩=some (.string s0):=by
  simp only[World.cell?,bh,hcs']
  rfl
 have hH:Holds enc E.w0 b 0 l.toArray:=by
  intro j hj
  have hj':j < l.length:=by simpa using hj
  have hcj:cur[j]?=some (enc (l.toArray[j]!)):=by
   rw[getElem!_pos l.toArray j hj]
   have h3:(cur.toList.take (l.length * 1))[j]?=(l.map enc)[j]?:=by rw[htk]
   rw[List.getElem?_take_of_lt (by omega)]at h3
   rw[List.getElem?_map,List.getElem?_eq_getElem hj']at h3
   simpa using h3
  constructor
  ·simp only[World.cell?,hb]
   simpa using hcj
  ·simp[World.frozen?,hb]
 have hPA:PredAt P g #[.pointer (some ⟨bx pin 0,0,none⟩)] enc (q s0) E.w0:=fun W y hbl=>hcl s0 _ W y ((hbl.cell (p:=⟨bx pin 0,0,none⟩) hBlt).trans hcell)
 have hPO:PredOver P g #[.pointer (some ⟨bx pin 0,0,none⟩)] enc (q s0) b 0 l.toArray.size E.w0:=fun n os dk y _=>hcl s0 _ _ y (by
  unfold sortWorld
  rw[cell?_grow _ _ _ (by show bx pin 0 < (putRow _ _ _ _ _).heap.size;rw[Go.Proofs.size_putRow];exact hBlt),cell?_putRow_other _ _ b 0 _ _ (Or.inl hne)]
  exact hcell)
 have hcon:=AnyE.slices_DeleteFunc L enc hO (q s0) g #[.pointer (some ⟨bx pin 0,0,none⟩)] eg zr v23 b 0 cap l.toArray E.w0 hPA hPO hH (by simp;omega) (by simpa using hnc)
 have e1:l.toArray.size=l.length:=by simp
 have e2:l.toArray.toList=l:=by simp
 rw[e1,e2,← hv]at hcon
 generalize hf:(l.filter fun x=>!q s0 x)=r at hcon ⊢
 have hrl:r.length≤l.length:=by rw[← hf];exact List.length_filter_le _ _
 rw[h1]
 refine hcon.mono fun en w' ⟨hen,qd,hw'⟩=>?_
 subst hen
 generalize hd:(r++List.replicate (l.length - r.length) zr).toArray=d at hw'
 have hds:d.size=l.length:=by rw[← hd];simp;omega
 have hsize:w'.heap.size=E.w0.heap.size:=by rw[hw',Go.Proofs.size_putRow];rfl
 have hother:∀ c,c≠b→w'.heap[c]?=E.w0.heap[c]?:=by
  intro c hcb
  rw[hw']
  unfold putRow mapBlock Sort.ahead
  simp[Array.getElem?_modify,Ne.symm hcb]
 have hblock:w'.heap[b]?=some (.cells (putCells enc 0 d cur) e (0,0)):=by
  rw[hw']
  unfold putRow mapBlock Sort.ahead
  simp[Array.getElem?_modify,hb,onCells]
 let rw':Nat→Nat→Value:=fun k j=>if k=pin+pin∧j=0 then .slice (some ⟨b,0,none⟩) r.length cap else rw_ k j
 have hrw1:rw' (pin+pin) 0=.slice (some ⟨b,0,none⟩) r.length cap:=by simp[rw']
 have hob':ob (rw' (pin+pin) 0)=some b:=by rw[hrw1];simp only[ob];rw[if_neg (by omega)]
 let S':St Θ.T:=⟨[.c (.row (pin+pin) 0)],[(pin,B0)],[(pin+pin,⟨0,e,r⟩)]⟩
 have lookB:∀ k B,look S'.boxes k=some B→k=pin∧B=B0:=fun k B h=>by
  simp only[S',look]at h
  split at h
  ·rename_i hk;cases h;exact⟨hk.symm,rfl⟩
  ·cases h
 have lookR:∀ k (R:RowS Θ.T),look S'.rows k=some R→k=pin+pin∧R=⟨0,e,r⟩:=fun k B h=>by
  simp only[S',look]at h
  split at h
  ·rename_i hk;cases h;exact⟨hk.symm,rfl⟩
  ·cases h
 have hmut:∀ c,Mut S' bx rw' c→Mut (⟨[.c (.row pin 0),.c (.fn g [(pin,0)])],[(pin,B0)],[(pin,⟨0,e,l⟩)]⟩:St Θ.T) bx rw_ c:=by
  rintro c (⟨k,B,h,h'⟩ | ⟨k,R,h,h'⟩)
  ·obtain⟨rfl,rfl⟩:=lookB k B h
   exact .inl ⟨pin,B0,by simp[look],h'⟩
  ·obtain⟨rfl,rfl⟩:=lookR k R h
   rw[hob']at h'
   cases h'
   exact .inr ⟨pin,⟨0,e,l⟩,by simp[look],by rw[← h0];exact hob⟩
 have hFF:∀ c,FF E (⟨[.c (.row pin 0),.c (.fn g [(pin,0)])],[(pin,B0)],[(pin,⟨0,e,l⟩)]⟩:St Θ.T) bx rw_ E.w0 c→FF E S' bx rw' w' c:=fun c ⟨h1,h2,h3⟩=>⟨h1,by omega,fun h=>h3 (hmut c h)⟩
 have hnb:∀ c,FF E (⟨[.c (.row pin 0),.c (.fn g [(pin,0)])],[(pin,B0)],[(pin,⟨0,e,l⟩)]⟩:St Θ.T) bx rw_ E.w0 c→w'.heap[c]?=E.w0.heap[c]?:=fun c ⟨_,_,h3⟩=>hother c fun ee=>h3 (.inr ⟨pin,⟨0,e,l⟩,by simp[look],by rw[← h0,ee];exact hob⟩)
 show Ex.ret=Ex.ret∧_
 refine⟨rfl,[.slice (some ⟨b,0,none⟩) r.length cap],bx,rw',rfl,?_⟩
 show Sim Θ E (⟨[.c (.row (pin+pin) 0)],[(pin,B0)],[(pin+pin,⟨0,e,Wh2 (T:=Θ.T) e (.sl e r)⟩)]⟩:St Θ.T) _ w' bx rw'
 rw[hlo]
 refine⟨⟨?_,?_,?_,?_,?_⟩,hS.glob,fun k c h=>⟨(hS.pinB k c h).1,fun B hB hg=>?_⟩,fun k v h=>⟨(hS.pinR k v h).1,fun R hR=>?_⟩,fun k j=>?_,fun k B hB=>?_,fun k R hR=>?_,fun k B k' B' hB hB' _=>?_,fun k R k' R' c hR hR' _ _=>?_,fun k B j R hB hR=>?_,rfl,fun i=>?_⟩
 ·rw[hw'];exact hS.below.os
 ·rw[hw'];exact hS.below.tape
 ·rw[hw'];exact hS.below.output
 ·omega
 ·intro c hc hcz
  refine hother c fun ee=>hcz ?_
  subst ee
  rcases r1 c hob with h | h
  ·exact h
  ·omega
 ·obtain⟨rfl,rfl⟩:=lookB k B hB
  exact(hS.pinB _ c h).2 B0 (by simp[look]) hg
 ·obtain⟨rfl,rfl⟩:=lookR k R hR
  exfalso
  have:=(hS.pinR _ v h).1
  exact absurd this (by decide)
 ·simp only[rw']
  split
  ·exact .inl ⟨_,_,_,rfl⟩
  ·exact hS.rwsl k j
 ·obtain⟨rfl,rfl⟩:=lookB k B hB
  refine⟨bo,cs,?_,?_⟩
  ·rw[hgen,hother _ hne];exact bh
  ·have bc':All2 (RCV Θ E.w0 (FF E (⟨[.c (.row pin 0),.c (.fn g [(pin,0)])],[(pin,B0)],[(pin,⟨0,e,l⟩)]⟩:St Θ.T) bx rw_ E.w0) bx rw_) [.v (.str s0),.v (.int .i64 n1),.v (.int .i64 n2),.v (.int .i64 n3),.v (.sl w l4)] cs:=bc
   have key:∀(x:PV Θ.T) u,RCV Θ E.w0 (FF E (⟨[.c (.row pin 0),.c (.fn g [(pin,0)])],[(pin,B0)],[(pin,⟨0,e,l⟩)]⟩:St Θ.T) bx rw_ E.w0) bx rw_ (.v x) u→RCV Θ w' (FF E S' bx rw' w') bx rw' (.v x) u:=fun x u h=>Rep.mono h hFF hnb
   cases bc' with | cons h1 t=>cases t with | cons h2 t=>cases t with | cons h3 t=>cases t with | cons h4 t=>cases t with | cons h5 t=>
   cases t
   exact .cons (key _ _ h1) (.cons (key _ _ h2) (.cons (key _ _ h3) (.cons (key _ _ h4) (.cons (key _ _ h5) .nil))))
 ·obtain⟨rfl,rfl⟩:=lookR k R hR
  refine⟨fun c hc=>?_,r.map enc,.inl ⟨hsl,.inl ⟨by simp[hsz],.inr ⟨b,cap,_,hrw1,Nat.zero_le _,hblock,(show r.length≤cap by omega),hcm,?_,?_⟩⟩⟩,?_⟩
  ·simp only at hc
   rw[hob']at hc
   cases hc
   exact r1 b hob
  ·simp[putCells,hcz,hsz]
  ·show List.take (r.length * Θ.sz e) _=_
   simp only[hsz,Nat.mul_one]at htk ⊢
   apply List.ext_getElem?
   intro t
   by_cases ht:t < r.length
   ·rw[List.getElem?_take_of_lt ht]
    simp only[putCells,Array.toList_mapIdx,List.getElem?_mapIdx,Array.getElem?_toList]
    rw[Array.getElem?_eq_getElem (by omega)]
    simp only[Option.map_some,Nat.zero_le,true_and,Nat.zero_add,Nat.sub_zero]
    rw[if_pos (by omega),List.getElem?_map,List.getElem?_eq_getElem ht]
    simp only[Option.map_some]
    congr 2
    rw[getElem!_pos d t (by omega)]
    subst hd
    simp[ht]
   ·rw[List.getElem?_eq_none (by simp[putCells];omega),List.getElem?_eq_none (by simp;omega)]
  ·rw[← hmap]
   exact Wyk (hflat r)
 ·rw[(lookB k B hB).1,(lookB k' B' hB').1]
 ·rw[(lookR k R hR).1,(lookR k' R' hR').1]
 ·obtain⟨rfl,rfl⟩:=lookB k B hB
  obtain⟨rfl,rfl⟩:=lookR j R hR
  simp only
  rw[hob',hgen]
  intro ee
  cases ee
  exact hne rfl
 ·cases i with
  | zero=>exact hrw1.symm
  | succ i=>simp[St.at_,RAV]
end Go.Den
namespace Go.Den
open Go Go.RowKit
section
variable{P:Program}{Θ:Tab}{E:Env}{s:St Θ.T}{tm:Array Value}{bx:Nat→Nat→Nat}{rw_:Nat→Nat→Value}
theorem flat_end(hS:Sim Θ E s tm E.w0 bx rw_){W:World}(hK:Keeps E W){avs:List (AV Θ.T)}{us:List Value}(h:∀ F:Nat→Prop,All2 (RAV Θ W F bx rw_) avs us):Sim Θ E ⟨avs,[],[]⟩ us.toArray W bx rw_:=by
 have h2:=h (FF E (⟨avs,[],[]⟩:St Θ.T) bx rw_ W)
 refine⟨hK,hS.glob,fun k b hkb=>⟨(hS.pinB k b hkb).1,fun B hB=>by cases hB⟩,fun r v hrv=>⟨(hS.pinR r v hrv).1,fun R hR=>by cases hR⟩,hS.rwsl,fun k B hB=>(by cases hB),fun r R hR=>(by cases hR),fun k B k' B' hB=>(by cases hB),fun r R r' R' b hR=>(by cases hR),fun k B r R hB=>(by cases hB),by simp[h2.length],fun i=>?_⟩
 simp only[St.at_,List.getD_eq_getElem?_getD,Array.getD_eq_getD_getElem?,List.getElem?_toArray]
 cases hi:avs[i]? with
 | none=>exact trivial
 | some v=>
  obtain⟨u,hu,hr⟩:=h2.get i hi
  simp only[hu,Option.getD_some]
  exact hr
end
end Go.Den
namespace Go.Den
open Go Go.RowKit
section
variable{C:Cx}{n m:Nat}
theorem Wpu{E E2:Env}{s:St C.Θ.T}{tm tms:Array Value}{W:World}{bx:Nat→Nat→Nat}{rw_:Nat→Nat→Value}{fn:Func}{R:Ending→World→Prop}{md:FrameMode}{tl:List Deferred}(hG0:Globs C.Θ E)(hbs:Rebase E E2)(hS:Sim C.Θ E2 s tm W bx rw_)(hED:E.D=tl)(hmd:md≠.run)
 (hfin:∀ w',Sim C.Θ E s tm w' bx rw_→(∀ k,k < E.w0.heap.size→w'.heap[k]?=W.heap[k]?)→LeavesInM Fence.wide m C.P fn tms R tl md w'):LeavesInM Fence.wide m C.P fn tms R E2.D md W:=by
 obtain⟨Ds,hDs,hnd,hD⟩:=hbs.marks
 have hmlt:∀ b,Mut s bx rw_ b→b < W.heap.size:=by
  rintro b (⟨k,B,hB,e⟩ | ⟨q,R',hR,e⟩)
  ·obtain⟨_,cv,hh,_⟩:=hS.boxes k B hB
   rw[← e];exact(Array.getElem?_eq_some_iff.1 hh).1
  ·obtain⟨_,us,hown,_⟩:=hS.rows q R' hR
   exact hown.lt e
 have hmown:∀ b,Mut s bx rw_ b→E2.Own b:=by
  rintro b (⟨k,B,hB,e⟩ | ⟨q,R',hR,e⟩)
  ·rw[← e];exact(hS.boxes k B hB).1
  ·exact(hS.rows q R' hR).1 b e
 have hS0:Sim C.Θ ⟨W,fun b=>E2.Own b∧b < W.heap.size,E2.F,E2.PB,E2.PR,[]⟩ s tm W bx rw_:=by
  refine hS.move (row:=none) ⟨rfl,rfl,rfl,Nat.le_refl _,fun _ _ _=>rfl⟩ ⟨rfl,rfl,rfl,Nat.le_refl _,fun _ _ _=>rfl⟩ (hS.glob.step (row:=none) hS.below ⟨rfl,rfl,rfl,Nat.le_refl _,fun _ _ _=>rfl⟩ (fun q e=>by cases e) rfl fun b h=>h.1) rfl rfl (fun b hm ho=>.inl ⟨ho,hmlt b hm⟩) (fun b hb'=>⟨?_,hb'.2.1,hb'.2.2⟩) (fun q e=>by cases e)
  rcases hb'.1 with h1 | h1
  ·exact .inl h1
  ·exact .inr (.inl ⟨h1,hb'.2.1⟩)
 rw[hDs,hED]
 refine Wpj (E2:=E2) (tms:=tms) hmd Ds W hS0 hnd (fun D hm=>?_) (fun w' hS' e1 e2 e3 e4 e5=>?_)
 ·obtain⟨⟨d1,d2,d3⟩,d4,d5⟩:=hD D hm
  refine⟨fun h=>?_,d4,(hS.below.block D d1 d2).trans d3⟩
  rcases h with h | h
  ·exact d2 h
  ·omega
 have hKE:=hbs.keeps hS.below
 have hK':Keeps E w':=⟨e1.trans hKE.os,e2.trans hKE.tape,e3.trans hKE.output,by rw[e4];exact hKE.size,fun k hk hz=>by
  rw[e5 k fun hm=>by have:=(hD k hm).2.2;omega]
  exact hKE.block k hk hz⟩
 have hSE:Sim C.Θ E s tm w' bx rw_:=by
  refine hS'.move (row:=none) ⟨rfl,rfl,rfl,Nat.le_refl _,fun _ _ _=>rfl⟩ hK' hG0 hbs.PB.symm hbs.PR.symm (fun b hm _=>hbs.own b (hmown b hm)) (fun b hb'=>⟨?_,hb'.2.1,hb'.2.2⟩) (fun q e=>by cases e)
  rcases hb'.1 with h1 | h1
  ·exact hbs.F b h1
  ·rcases h1 with h1 | h1
   ·exact .inr (hbs.own b h1.1)
   ·have h1:w'.heap.size≤b:=h1
    have:=hb'.2.1;omega
 exact hfin w' hSE fun k hk=>e5 k fun hm=>by have:=(hD k hm).2.2;omega
def allV{T:TypeId→Type}(cs:List (CV T)):Bool:=cs.all fun c=>match c with
 | .v _=>true
 | _=>false
def Wmf{T:TypeId→Type}(nt:Nat)(tb t2 t3:TypeId)(cs:List (CV T)):St T:=
 ⟨[.undef,.c (.box pin 0 0),.c (.box (pin+1) 0 0),.c (.box (pin+2) 0 0)]++List.replicate (nt - 4) .undef,[(pin,⟨0,tb,cs⟩),(pin+1,⟨0,t2,[.v (.int .i64 0)]⟩),(pin+2,⟨0,t3,[.v (.int .i64 0)]⟩)],[]⟩
def recW(W:World)(tb t2 t3:TypeId)(us:Array Value):World:=((W.alloc (.cells us tb)).alloc (.cells #[.int .i64 0] t2)).alloc (.cells #[.int .i64 0] t3)
def recD(cl:FuncId)(b:Nat):Deferred:={ target:=.fn (.func cl) #[.pointer (some ⟨b+1,0,none⟩),.pointer (some ⟨b+2,0,none⟩)],args:=#[] }
def Whn(b k g:Nat):Nat:=if g=0 then(if k=pin then b else if k=pin+1 then b+1 else b+2)else b
noncomputable def recK(C:Cx)(fn:Func)(outs:List (Ex×Shape))(e:Ex)(s:St C.Θ.T):Option (Outs C.Θ.T outs):=match e with
 | .exit _=>none
 | .normal=>Wd1 C fn outs s
 | .ret=>Wd1 C fn outs s
 | .pan t=>Wij outs (.pan t) s
theorem Wyn{E:Env}{cs:List (CV C.Θ.T)}{v0:Value}{bx:Nat→Nat→Nat}{rw_:Nat→Nat→Value}{nt:Nat}{tb t2 t3:TypeId}{tm:Array Value}{D:List Deferred}(hnt:4≤nt)(hcs:allV cs=true)
 (hS:Sim C.Θ E ⟨[.agg cs],[],[]⟩ #[v0] E.w0 bx rw_) (htm:tm.size=nt) (h1:tm.getD 1 undef=.pointer (some ⟨E.w0.heap.size,0,none⟩)) (h2:tm.getD 2 undef=.pointer (some ⟨E.w0.heap.size+1,0,none⟩)) (h3:tm.getD 3 undef=.pointer (some ⟨E.w0.heap.size+2,0,none⟩)) :
 ∃ us:Array Value,v0=.agg us∧us.size=cs.length∧Sim C.Θ ⟨recW E.w0 tb t2 t3 us,fun b=>b=E.w0.heap.size∨b=E.w0.heap.size+1∨b=E.w0.heap.size+2,fun b=>E.F b∨E.Own b,fun k b=>(k=pin∧b=E.w0.heap.size)∨(k=pin+1∧b=E.w0.heap.size+1)∨(k=pin+2∧b=E.w0.heap.size+2),fun _ _=>False,D⟩
  (Wmf nt tb t2 t3 cs) tm (recW E.w0 tb t2 t3 us) (Whn E.w0.heap.size) (fun _ _=>.slice none 0 0):=by
 obtain⟨us,e,ha⟩:∃ us:List Value,v0=.agg us.toArray∧All2 (RCV C.Θ E.w0 (FF E ⟨[.agg cs],[],[]⟩ bx rw_ E.w0) bx rw_) cs us:=hS.slots 0
 refine⟨us.toArray,e,by simpa using ha.length.symm,?_⟩
 obtain⟨b,hb⟩:∃ b,E.w0.heap.size=b:=⟨_,rfl⟩
 have hW0:(recW E.w0 tb t2 t3 us.toArray).heap[b]?=some (.cells us.toArray tb (0,0)):=by
  unfold recW
  rw[Below.heap_alloc _ _ _ (by simp;omega),Below.heap_alloc _ _ _ (by simp;omega),← hb]
  exact World.alloc_heap_new _ _
 have hW1:(recW E.w0 tb t2 t3 us.toArray).heap[b+1]?=some (.cells #[.int .i64 0] t2 (0,0)):=by
  unfold recW
  rw[Below.heap_alloc _ _ _ (by simp;omega)]
  have:=World.alloc_heap_new (E.w0.alloc (.cells us.toArray tb)) (.cells #[.int .i64 0] t2)
  rwa [World.size_alloc,hb]at this
 have hW2:(recW E.w0 tb t2 t3 us.toArray).heap[b+2]?=some (.cells #[.int .i64 0] t3 (0,0)):=by
  unfold recW
  have:=World.alloc_heap_new ((E.w0.alloc (.cells us.toArray tb)).alloc (.cells #[.int .i64 0] t2)) (.cells #[.int .i64 0] t3)
  rwa [World.size_alloc,World.size_alloc,hb]at this
 have hsz:(recW E.w0 tb t2 t3 us.toArray).heap.size=b+3:=by unfold recW;simp[hb]
 have hold:∀ k,k < b→(recW E.w0 tb t2 t3 us.toArray).heap[k]?=E.w0.heap[k]?:=fun k hk=>by
  unfold recW
  rw[Below.heap_alloc _ _ _ (by simp;omega),Below.heap_alloc _ _ _ (by simp;omega),Below.heap_alloc _ _ _ (by omega)]
 have hbel:Below E.w0.heap.size E.w0 (recW E.w0 tb t2 t3 us.toArray):=by
  unfold recW
  exact(((Below.refl _ E.w0).alloc (Nat.le_refl _) _).alloc (by simp) _).alloc (by simp;omega) _
 have hg:E.w0.grownBy (recW E.w0 tb t2 t3 us.toArray) none:=⟨hbel.os,hbel.tape,hbel.output,hbel.size,fun k hk _=>hbel.block k hk⟩
 have hlook:∀ k B,look (Wmf nt tb t2 t3 cs).boxes k=some B→(k=pin∧B=⟨0,tb,cs⟩)∨(k=pin+1∧B=⟨0,t2,[.v (.int .i64 0)]⟩)∨(k=pin+2∧B=⟨0,t3,[.v (.int .i64 0)]⟩):=by
  intro k B h
  simp only[Wmf,look]at h
  split at h
  ·rename_i e;cases h;exact .inl ⟨e.symm,rfl⟩
  ·split at h
   ·rename_i e;cases h;exact .inr (.inl ⟨e.symm,rfl⟩)
   ·split at h
    ·rename_i e;cases h;exact .inr (.inr ⟨e.symm,rfl⟩)
    ·cases h
 have hpin:pin=1000000:=rfl
 rw[hb]at h1 h2 h3 ⊢
 refine⟨⟨rfl,rfl,rfl,Nat.le_refl _,fun _ _ _=>rfl⟩,hS.glob.step hS.below hg (fun q e=>by cases e) rfl (fun k hk=>.inr (by rw[hb];rcases hk with h | h | h<;>omega)),?_,fun r v h=>h.elim,fun r g=>.inl ⟨_,_,_,rfl⟩,?_,(fun r R h=>nomatch h),?_,(fun r R r' R' b h=>nomatch h),(fun k B r R _ h=>nomatch h),by simp[Wmf,htm];omega,?_⟩
 ·rintro k b' (⟨rfl,rfl⟩ | ⟨rfl,rfl⟩ | ⟨rfl,rfl⟩)
  ·exact⟨Nat.le_refl _,fun B _ _=>by simp[Whn]⟩
  ·exact⟨by omega,fun B _ _=>by simp[Whn]⟩
  ·exact⟨by omega,fun B _ _=>by simp[Whn]⟩
 ·intro k B h
  rcases hlook k B h with⟨rfl,rfl⟩ | ⟨rfl,rfl⟩ | ⟨rfl,rfl⟩
  ·refine⟨.inl (.inl (by simp[Whn])),us,by simpa[Whn]using hW0,?_⟩
   simp only
   have hm:∀ b',FF E (⟨[.agg cs],[],[]⟩:St C.Θ.T) bx rw_ E.w0 b'→FF ⟨recW E.w0 tb t2 t3 us.toArray,fun b'=>b'=b∨b'=b+1∨b'=b+2,fun b=>E.F b∨E.Own b,fun k b'=>(k=pin∧b'=b)∨(k=pin+1∧b'=b+1)∨(k=pin+2∧b'=b+2),fun _ _=>False,D⟩ (Wmf nt tb t2 t3 cs) (Whn b) (fun _ _=>.slice none 0 0) (recW E.w0 tb t2 t3 us.toArray) b':=by
    rintro b' ⟨f1,f2,_⟩
    rw[hb]at f2
    refine⟨.inl f1,by omega,?_⟩
    rintro(⟨k,B,hB,e'⟩ | ⟨r,R,hR,_⟩)
    ·rcases hlook k B hB with⟨rfl,rfl⟩ | ⟨rfl,rfl⟩ | ⟨rfl,rfl⟩<;>simp[Whn]at e'<;>omega
    ·cases hR
   have hw:∀ b',FF E (⟨[.agg cs],[],[]⟩:St C.Θ.T) bx rw_ E.w0 b'→(recW E.w0 tb t2 t3 us.toArray).heap[b']?=E.w0.heap[b']?:=fun b' h=>hold b' (by rw[← hb];exact h.2.1)
   revert hm hw
   generalize FF _ (Wmf nt tb t2 t3 cs) _ _ _=F1
   generalize FF E (⟨[.agg cs],[],[]⟩:St C.Θ.T) bx rw_ E.w0=F0 at ha ⊢
   intro hm hw
   generalize recW E.w0 tb t2 t3 us.toArray=W1 at hw ⊢
   clear hS e hW0 hW1 hW2 hsz hold hbel hg hlook h
   revert hcs
   induction ha with
   | nil=>intro _;exact .nil
   | cons h1 _ ih=>
    intro hcs
    simp only[allV,List.all_cons,Bool.and_eq_true]at hcs
    refine .cons ?_ (ih hcs.2)
    have:=hcs.1
    split at this
    ·exact Rep.mono h1 hm hw
    ·cases this
  ·refine⟨.inl (.inr (.inl (by simp[Whn]))),[.int .i64 0],by simpa[Whn]using hW1,.cons (.int _ _) .nil⟩
  ·refine⟨.inl (.inr (.inr (by simp[Whn]))),[.int .i64 0],by simpa[Whn]using hW2,.cons (.int _ _) .nil⟩
 ·intro k B k' B' h h' he
  rcases hlook k B h with⟨rfl,rfl⟩ | ⟨rfl,rfl⟩ | ⟨rfl,rfl⟩<;>rcases hlook k' B' h' with⟨rfl,rfl⟩ | ⟨rfl,rfl⟩ | ⟨rfl,rfl⟩<;>simp[Whn]at he ⊢
 ·intro i
  match i with
  | 0=>exact trivial
  | 1=>show tm.getD 1 undef=_;rw[h1];simp[Whn]
  | 2=>show tm.getD 2 undef=_;rw[h2];simp[Whn]
  | 3=>show tm.getD 3 undef=_;rw[h3];simp[Whn]
  | i+4=>
   have:(Wmf nt tb t2 t3 cs:St C.Θ.T).at_ (i+4)=.undef:=by
    simp only[Wmf,St.at_,List.getD_eq_getElem?_getD]
    rw[List.getElem?_append_right (by simp)]
    cases hq:(List.replicate (nt - 4) (AV.undef:AV C.Θ.T))[i+4 - [AV.undef,AV.c (CV.box pin 0 0),AV.c (CV.box (pin+1) 0 0),(AV.c (CV.box (pin+2) 0 0):AV C.Θ.T)].length]? with
    | none=>rfl
    | some v=>have:=List.mem_of_getElem? hq;rw[List.mem_replicate]at this;rw[this.2];rfl
   rw[this];exact trivial
theorem rec_run(hC:C.Ok){g cl:FuncId}{fn:Func}{c rest:Code}{p:Plan}{tb t2 t3 tst:TypeId}{outs:List (Ex×Shape)}{nt q:Nat}(hf:C.P.funcs[g]?=some fn)(hb:fn.body=some c)(hnt:fn.ntmps=nt)(h4:4≤nt)
 (hpre:∀(us:Array Value) (W:World) (Q:Exit→Act→World→Prop),us.size=q→(∀ tm:Array Value,tm.size=nt→tm.getD 1 undef=.pointer (some ⟨W.heap.size,0,none⟩)→tm.getD 2 undef=.pointer (some ⟨W.heap.size+1,0,none⟩)→tm.getD 3 undef=.pointer (some ⟨W.heap.size+2,0,none⟩)→rest.wp C.P Q ⟨tm,[recD cl W.heap.size]⟩ (recW W tb t2 t3 us))→c.wp C.P Q ⟨#[.agg us]++Array.replicate (nt - 1) undef,[]⟩ W)
 (hcl:Go.Proofs.Enters C.P cl) (hidle:∀ m a b w,CallsDIn Fence.wide m C.P cl #[a,b] .returning w fun e u' w'=>e=.returned (.tuple #[])∧u'=.returning∧w'=w)
 (hpanic:∀ m b1 b2 x1 x2 e1 e2 (w:World),w.heap[b1]?=some (.cells #[.int .i64 x1] t2 (0,0))→w.heap[b2]?=some (.cells #[.int .i64 x2] t3 (0,0))→b1≠b2→
   CallsDIn Fence.wide m C.P cl #[.pointer (some ⟨b1,0,none⟩),.pointer (some ⟨b2,0,none⟩)] (.panicking [{ v:=.iface tst (.agg #[.int .i64 e1,.int .i64 e2]),recovered:=false }]) w fun e u' w'=>
    e=.returned (.tuple #[])∧u'=.panicking [{ v:=.iface tst (.agg #[.int .i64 e1,.int .i64 e2]),recovered:=true }]∧
    w'.os=w.os∧w'.tape=w.tape∧w'.output=w.output∧w.heap.size≤w'.heap.size∧w'.heap[b1]?=some (.cells #[.int .i64 e1] t2 (0,0))∧w'.heap[b2]?=some (.cells #[.int .i64 e2] t3 (0,0))∧∀ k,k < w.heap.size→k≠b1→k≠b2→w'.heap[k]?=w.heap[k]?)
 (hload:∀(w:World) (tm:Array Value) (b1 b2:Nat) (e a:Int),tm.getD 2 undef=.pointer (some ⟨b1,0,none⟩)→tm.getD 3 undef=.pointer (some ⟨b2,0,none⟩)→w.heap[b1]?=some (.cells #[.int .i64 e] t2 (0,0))→w.heap[b2]?=some (.cells #[.int .i64 a] t3 (0,0))→(results fn tm).run C.P w=.ok (.tuple #[.int .i64 e,.int .i64 a]) w)
 (hkeep:C.keep=[(2,pin+1,t2),(3,pin+2,t3)]) {E:Env} {v0:Value} {cs:List (CV C.Θ.T)} {bx:Nat→Nat→Nat} {rw_:Nat→Nat→Value} (hcs:allV cs=true) (hcq:cs.length=q) (hS:Sim C.Θ E ⟨[.agg cs],[],[]⟩ #[v0] E.w0 bx rw_)
 {z:Outs C.Θ.T outs} (hz:Wdl C n rest p (Wmf nt tb t2 t3 cs) (recK C fn outs)=some z) {e1 e2:Int}
 (hout:Wgk outs (fun ex _ t=>(∀ ty,ex=.pan ty→ty=tst∧t.slots=[.agg [.v (.int .i64 e1),.v (.int .i64 e2)]])∧(ex=.ret→t.slots=[.c (.v (.int .i64 e1)),.c (.v (.int .i64 e2))])) z) :
 Calls C.P g #[v0] E.w0 fun e w'=>∃ bx rw_,e=.returned (.tuple #[.int .i64 e1,.int .i64 e2])∧Sim C.Θ E ⟨[.c (.v (.int .i64 e1)),.c (.v (.int .i64 e2))],[],[]⟩ #[.int .i64 e1,.int .i64 e2] w' bx rw_:=by
 obtain⟨us0,rfl,husz,_⟩:=Wyn (nt:=nt) (tb:=tb) (t2:=t2) (t3:=t3) (tm:=(((Array.replicate nt undef).setIfInBounds 1 (.pointer (some ⟨E.w0.heap.size,0,none⟩))).setIfInBounds 2 (.pointer (some ⟨E.w0.heap.size+1,0,none⟩))).setIfInBounds 3 (.pointer (some ⟨E.w0.heap.size+2,0,none⟩))) (D:=[]) h4 hcs hS (by simp)
  (by simp[Array.getD_eq_getD_getElem?];omega) (by simp[Array.getD_eq_getD_getElem?];omega) (by simp[Array.getD_eq_getD_getElem?];omega)
 refine callsIn_wide.1 (callsIn_of_wp_marks (n:=0) hf hb trivial (wpIn_wide.2 ?_))
 rw[hnt]
 refine hpre us0 E.w0 _ (by rw[husz,hcq]) fun tm htm a1 a2 a3=>?_
 obtain⟨us,hus,_,hS1⟩:=Wyn (tb:=tb) (t2:=t2) (t3:=t3) (D:=[recD cl E.w0.heap.size]) h4 hcs hS htm a1 a2 a3
 cases hus
 obtain⟨b,hbs0⟩:∃ b,E.w0.heap.size=b:=⟨_,rfl⟩
 have fin:∀ {s:St C.Θ.T} {tm':Array Value} {w':World} {bx':Nat→Nat→Nat} {rw':Nat→Nat→Value} {W2:World},Keeps ⟨recW E.w0 tb t2 t3 us0,fun b=>b=E.w0.heap.size∨b=E.w0.heap.size+1∨b=E.w0.heap.size+2,fun b=>E.F b∨E.Own b,fun k b=>(k=pin∧b=E.w0.heap.size)∨(k=pin+1∧b=E.w0.heap.size+1)∨(k=pin+2∧b=E.w0.heap.size+2),fun _ _=>False,[recD cl E.w0.heap.size]⟩ w'→
  W2.os=w'.os→W2.tape=w'.tape→W2.output=w'.output→w'.heap.size≤W2.heap.size→(∀ k,k < b→W2.heap[k]?=w'.heap[k]?)→
  ∃ bx rw_,(Ending.returned (Value.tuple #[.int .i64 e1,.int .i64 e2]))=.returned (.tuple #[.int .i64 e1,.int .i64 e2])∧Sim C.Θ E ⟨[.c (.v (.int .i64 e1)),.c (.v (.int .i64 e2))],[],[]⟩ #[.int .i64 e1,.int .i64 e2] W2 bx rw_:=by
  intro _ _ w' _ _ W2 hK k1 k2 k3 k4 k5
  have hbel:Below E.w0.heap.size E.w0 (recW E.w0 tb t2 t3 us0):=by
   unfold recW
   exact(((Below.refl _ E.w0).alloc (Nat.le_refl _) _).alloc (by simp) _).alloc (by simp;omega) _
  have hKE:Keeps E W2:=by
   refine⟨k1.trans (hK.os.trans hbel.os),k2.trans (hK.tape.trans hbel.tape),k3.trans (hK.output.trans hbel.output),Nat.le_trans hbel.size (Nat.le_trans hK.size k4),fun k hk hz=>?_⟩
   rw[k5 k (by omega),hK.block k (Nat.lt_of_lt_of_le hk hbel.size) (fun h=>by rcases h with h | h | h<;>omega)]
   exact hbel.block k hk
  exact⟨bx,rw_,rfl,flat_end hS hKE (us:=[.int .i64 e1,.int .i64 e2]) fun F=>.cons (Rep.int _ _) (.cons (Rep.int _ _) .nil)⟩
 have hent:∀ w,(invoke (recD cl E.w0.heap.size).target (recD cl E.w0.heap.size).args).run C.P w=.ok (.enter cl #[.pointer (some ⟨E.w0.heap.size+1,0,none⟩),.pointer (some ⟨E.w0.heap.size+2,0,none⟩)]) w:=fun w=>by
  have:=hcl #[.pointer (some ⟨E.w0.heap.size+1,0,none⟩),.pointer (some ⟨E.w0.heap.size+2,0,none⟩)] w
  unfold invoke recD
  simpa using this
 refine wpIn_wide.1 (Wpi (m:=0) (F:=Fence.wide) hC (.inl rfl) rest p _ _ z (.inl rfl) hz _ _ _ _ (Rebase.refl _) ⟨rfl,_,_,hS1⟩ ⟨fun E2 e s a W hp hbs he h0=>?_,fun E2 ty s u a W hbs he hd hSu hfr=>?_⟩)
 ·
  obtain⟨hd,bx2,rw2,hS2⟩:=h0
  have ends:Wd1 C fn outs s=some z→LeavesInM Fence.wide 0 C.P fn a.tmps (fun e w'=>∃ bx rw_,e=.returned (.tuple #[.int .i64 e1,.int .i64 e2])∧Sim C.Θ E ⟨[.c (.v (.int .i64 e1)),.c (.v (.int .i64 e2))],[],[]⟩ #[.int .i64 e1,.int .i64 e2] w' bx rw_) a.defers .returning W:=by
   intro hh
   rw[hd]
   refine Wpu hS1.glob hbs hS2 rfl (by simp) fun w' hSE _=>?_
   refine⟨by simp,.inr ⟨(fun h=>nomatch h),.func cl,_,cl,_,rfl,hent w',fun _ _=>trivial,(hidle _ _ _ w').mono ?_⟩⟩
   rintro e' u' w2 ⟨rfl,rfl,rfl⟩
   unfold Wd1 at hh
   split at hh<;>try(cases hh;done)
   rename_i hc
   obtain⟨us,g1,g2⟩:=Wnt hSE fn.results.toList (Wke hc)
   have mk3:∀ {E3:Env},Sim C.Θ E3 s a.tmps w2 bx2 rw2→All2 (RAV C.Θ w2 (FF E3 s bx2 rw2 w2) bx2 rw2) (fn.results.toList.map (Wek C s)) us→Sim C.Θ E3 ⟨fn.results.toList.map (Wek C s),s.boxes,s.rows⟩ us.toArray w2 bx2 rw2:=by
    intro E3 hSE g2
    refine⟨hSE.below,hSE.glob,hSE.pinB,hSE.pinR,hSE.rwsl,hSE.boxes,hSE.rows,hSE.bb,hSE.rr,hSE.br,by simpa using g2.length,fun i=>?_⟩
    simp only[St.at_,List.getD_eq_getElem?_getD,Array.getD_eq_getD_getElem?,List.getElem?_toArray]
    cases hi:(fn.results.toList.map (Wek C s))[i]? with
    | none=>exact trivial
    | some v=>
     obtain⟨u,hu,hr⟩:=g2.get i hi
     simp only[hu,Option.getD_some]
     exact hr
   have hS3:=mk3 hSE g2
   obtain⟨sh,x',hx',hto⟩:=Wkc _ _ _ _ hh
   obtain⟨bx',rw',hS4⟩:=Wlu hS3 hx'
   rw[hto]at hout
   have hsl:=hout.2 rfl
   have hlen:=hS4.len
   rw[hsl]at hlen
   have hl2:us.length=2:=by simpa using hlen.symm
   obtain⟨u1,u2,rfl⟩:∃ u1 u2,us=[u1,u2]:=by
    match us,hl2 with
    | [u1,u2],_=>exact⟨u1,u2,rfl⟩
   have r1:=hS4.slots 0
   have r2:=hS4.slots 1
   unfold St.at_ at r1 r2
   rw[hsl]at r1 r2
   have r1':Rep C.Θ w2 _ u1 (.int .i64 e1):=r1
   have r2':Rep C.Θ w2 _ u2 (.int .i64 e2):=r2
   cases r1'
   cases r2'
   have hr:(results fn a.tmps).run C.P w2=.ok (.tuple #[.int .i64 e1,.int .i64 e2]) w2:=by
    rw[Wns,Sem.run_bind,g1]
    rfl
   exact⟨_,hr,fin (s:=s) (tm':=tm) (bx':=bx) (rw':=rw_) hSE.below rfl rfl rfl (Nat.le_refl _) fun _ _=>rfl⟩
  cases e with
  | exit i=>cases he
  | normal=>exact ends he
  | ret=>exact ends he
  | pan ty=>exact absurd rfl (hp ty)
 ·
  obtain⟨bx2,rw2,hS2⟩:=hSu
  obtain⟨sh,x',hx',hto⟩:=Wkc _ _ _ _ he
  obtain⟨bx',rw',hS4⟩:=Wlu hS2 hx'
  rw[hto]at hout
  obtain⟨rfl,hsl⟩:=hout.1 ty rfl
  have r1:=hS4.slots 0
  unfold St.at_ at r1
  rw[hsl]at r1
  obtain⟨us,hu,ha⟩:∃ us:List Value,u=.agg us.toArray∧All2 (RCV C.Θ W _ bx' rw') [.v (.int .i64 e1),.v (.int .i64 e2)] us:=r1
  have hus:us=[.int .i64 e1,.int .i64 e2]:=by
   cases ha with
   | cons q1 t=>cases t with
    | cons q2 t=>
     cases t
     cases q1
     cases q2
     rfl
  subst hus
  subst hu
  have kp:∀ k t j,(k,pin+j,t)∈C.keep→(j=1∨j=2)→a.tmps.getD k undef=.pointer (some ⟨E.w0.heap.size+j,0,none⟩)∧∃ x,W.heap[E.w0.heap.size+j]?=some (.cells #[.int .i64 x] t (0,0)):=by
   intro k t j hm hj
   obtain⟨s0,bx0,rw0,x,hS0,g1,g2⟩:=hfr _ hm
   have hpb:bx0 (pin+j) 0=E.w0.heap.size+j:=by
    refine(hS0.pinB (pin+j) (E.w0.heap.size+j) ?_).2 _ g2 rfl
    rw[hbs.PB]
    rcases hj with rfl | rfl
    ·exact .inr (.inl ⟨rfl,rfl⟩)
    ·exact .inr (.inr ⟨rfl,rfl⟩)
   have g3:=hS0.slots k
   rw[g1]at g3
   obtain⟨_,cs0,g4,g5⟩:=hS0.boxes _ _ g2
   simp only at g4 g5
   rw[hpb]at g4
   refine⟨?_,x,?_⟩
   ·have:a.tmps.getD k undef=.pointer (some ⟨bx0 (pin+j) 0,0,none⟩):=g3
    rw[this,hpb]
   ·cases g5 with
    | cons q1 t=>
     cases t
     cases q1
     exact g4
  obtain⟨p2,x1,w1⟩:=kp 2 t2 1 (by rw[hkeep];simp) (.inl rfl)
  obtain⟨p3,x2,w2⟩:=kp 3 t3 2 (by rw[hkeep];simp) (.inr rfl)
  show LeavesInM Fence.wide 0 C.P fn a.tmps _ a.defers _ W
  rw[hd]
  refine Wpu hS1.glob hbs hS2 rfl (by simp) fun w' hSE hold=>?_
  have hsz1:(recW E.w0 tb t2 t3 us0).heap.size=E.w0.heap.size+3:=by unfold recW;simp
  have v1:w'.heap[E.w0.heap.size+1]?=some (.cells #[.int .i64 x1] t2 (0,0)):=(hold _ (by simp only[hsz1];omega)).trans w1
  have v2:w'.heap[E.w0.heap.size+2]?=some (.cells #[.int .i64 x2] t3 (0,0)):=(hold _ (by simp only[hsz1];omega)).trans w2
  refine⟨by simp,.inr ⟨(fun h=>nomatch h),.func cl,_,cl,_,rfl,hent w',fun _ _=>trivial,(hpanic _ _ _ x1 x2 e1 e2 w' v1 v2 (by omega)).mono ?_⟩⟩
  rintro e' u' W3 ⟨rfl,rfl,k1,k2,k3,k4,k5,k6,k7⟩
  have hlt:E.w0.heap.size+3≤w'.heap.size:=by have:=hSE.below.size;simp only[hsz1]at this;exact this
  exact⟨_,hload W3 a.tmps _ _ e1 e2 p2 p3 k5 k6,fin (s:=s) (tm':=tm) (bx':=bx) (rw':=rw_) hSE.below k1 k2 k3 k4 fun k hk=>k7 k (by omega) (by omega) (by omega)⟩
end
end Go.Den