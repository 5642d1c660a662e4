/- Texts of the proof. -/
import Derived.Test.YtalbenehgdkalaaGreatValidB
import Derived.Test.YtalbenehgdkalaaGreatTimesC
namespace Go.Proofs.YtalbenehgdkalaaGreat.Fn
open Go Go.RowKit Go.Den
def resE{A:Type}(e:Err)(v:A):Err ⊕ A:=if e.1=0 then .inr v else .inl e
theorem Wph{A:Type}{e:Err}{v:A}(h:e.1=0):resE e v=.inr v:=if_pos h
theorem Wd6{A:Type}{e:Err}{v:A}(h:e.1≠0):resE e v=.inl e:=if_neg h
theorem Ev.res{A B:Type}{F:Nat→Option (Err ⊕ A)}{e:Err}{v:A}{f:Nat→Err→Option B}{g:Nat→A→Option B}{w:B}(h:Ev F (resE e v))(h1:e.1≠0→Ev (fun n=>f n e) w)(h2:e.1=0→Ev (fun n=>g n v) w) :
 Ev (fun n=>(F n).bind (Sum.elim (f n) (g n))) w:=by
 by_cases h0:e.1=0
 ·rw[Wph h0]at h;exact Ev.bind h (h2 h0)
 ·rw[Wd6 h0]at h;exact Ev.bind h (h1 h0)
theorem Ev.must{b:Bool}{e p:Int}{B:Type}{f:Nat→Err→Option B}{g:Nat→Unit→Option B}{v:B}(h1:b=true→Ev (fun n=>g n ()) v)(h2:b=false→Ev (fun n=>f n (e,p)) v) :
 Ev (fun n=>(qep n (b,e,p)).bind (Sum.elim (f n) (g n))) v:=by
 cases b with
 | true=>exact(h1 rfl).congr fun n=>rfl
 | false=>exact(h2 rfl).congr fun n=>rfl
theorem Ev.mustE{A:Type}{b:Bool}{e p:Int}{r:Err}{v:A}{g:Nat→Unit→Option (Err ⊕ A)}(he:e≠0)(h:b=true→Ev (fun n=>g n ()) (resE r v)) :
 Ev (fun n=>(qep n (b,e,p)).bind (Sum.elim (fun y=>some (.inl y)) (g n))) (resE (if b then r else(e,p)) v):=by
 refine Ev.must (f:=fun _ y=>some (Sum.inl y)) (fun hb=>?_) (fun hb=>?_)
 ·rw[if_pos hb];exact h hb
 ·rw[if_neg (by rw[hb];exact Bool.false_ne_true),Wd6 he];exact Ev.ret _
theorem within1_(n:Nat)(a lo hi:Int):qeu n (a,lo,hi)=some (!(inR a lo hi),lo,hi):=by
 unfold qeu inR
 by_cases h:lo≤a<;>by_cases h':a≤hi<;>simp[h,h',Int.not_lt.2,Int.not_le.1]<;>omega
theorem Wd7(lo hi:Int)(l:List Int)(hl:l.length < 9223372036854775807):Ev (fun n=>qet n (lo,hi,l)) (l.all fun a=>inR a lo hi):=by
 unfold qet qdc
 refine Ev.bind (a:=(l.any (fun a=>!(inR a lo hi)),lo,hi)) (Ev.bind (a:=(idxI (fun a=>!(inR a lo hi)) l,lo,hi)) ?_ (by rw[← Wec];exact Ev.ret _)) ?_
 ·unfold qdp
  exact Wcl (S:=Int×Int) 0 (fun n a s=>qeu n (a,s)) _ l (lo,hi) hl fun a _=>Ev.const fun n=>within1_ n a lo hi
 ·refine(Ev.ret _).of_eq ?_
  rw[List.not_any_eq_all_not]
  congr 1
  funext x;simp
theorem Wnr{V:Type}(k j:ByteArray)(v:V)(z:ByteArray×V)(m:List (ByteArray×V)):mfind k z (mput j (j,v) m)=if Wak j k then(j,v)else mfind k z m:=by
 unfold mput mfind
 induction m with
 | nil=>simp only[putP,Whp];cases Wak j k<;>simp
 | cons a m ih=>
  simp only[putP]
  cases h:Wak a.1 j with
  | true=>
   rw[Wbb]at h
   simp only[cond_true,Whp,h]
   cases Wak j k<;>simp
  | false=>
   simp only[cond_false,Whp,ih]
   by_cases h1:Wak a.1 k=true
   ·have:Wak j k=false:=by
     cases h2:Wak j k with
     | false=>rfl
     | true=>rw[Wbb]at h1 h2;rw[h1,← h2,(Wbb j j).2 rfl]at h;cases h
    simp[h1,this]
   ·have h1':Wak a.1 k=false:=by simpa using h1
    simp[h1']
def nset(l:List ByteArray):List (ByteArray×Bool):=l.foldl (fun m k=>mput k (k,true) m) []
theorem Xcc(l:List ByteArray)(k:ByteArray):nset (l++[k])=mput k (k,true) (nset l):=by simp[nset]
theorem Xcd(k:ByteArray):∀(l:List ByteArray) (m:List (ByteArray×Bool)),(mfind k (k,false) (l.foldl (fun m k=>mput k (k,true) m) m)).2=(inOf l k || (mfind k (k,false) m).2):=by
 intro l
 induction l with
 | nil=>intro m;rfl
 | cons a l ih=>
  intro m
  rw[List.foldl_cons,ih,Wnr]
  have:inOf (a::l) k=(Wak k a || inOf l k):=by simp[inOf]
  rw[this,Whc k a]
  cases Wak a k<;>simp
theorem Wfx(l:List ByteArray)(k:ByteArray):(mfind k (k,false) (nset l)).2=inOf l k:=by
 unfold nset
 rw[Xcd]
 simp[mfind,Whp]
theorem Wxw(n:Nat)(l:List ByteArray)(k:ByteArray):qer n (k,nset l)=some (!(inOf l k),nset (l++[k])):=by
 unfold qer
 rw[Wfx,Xcc]
theorem Wfy{A:Type}(p:A→Bool)(d:A)(l:List A)(i:Nat)(hi:i < l.length)(hp:p (l.getD i d)=true):decide (idxI p l < (i:Int))=(l.take i).any p:=by
 have h0:0≤idxI p l:=by
  have:=Wec p l
  rw[(Wct p d l).2 ⟨i,hi,hp⟩]at this
  simpa using this
 obtain⟨j,hj,hjl,hpj,hk⟩:=Wz1 p d l h0
 rw[hj]
 by_cases h:j < i
 ·rw[decide_eq_true (by omega)]
  refine((Wct p d _).2 ⟨j,by simp;omega,?_⟩).symm
  rw[Wc7 _ _ _ _ h];exact hpj
 ·rw[decide_eq_false (by omega)]
  cases h2:(l.take i).any p with
  | false=>rfl
  | true=>
   obtain⟨k,hk1,hk2⟩:=(Wct p d _).1 h2
   have hki:k < i:=by simp at hk1;omega
   rw[Wc7 _ _ _ _ hki,hk k (by omega)]at hk2;cases hk2
abbrev MapB:=List (ByteArray×Bool)
abbrev MapI:=List (ByteArray×Int)
def Wl5(x:Wa5):Err:=if Wjj x then(if Wm3 x then(0,0)else(73,x.2.2.2.2.2.2))else(4,x.2.2.2.2.2.2)
theorem Wtw{A:Type}(l:List A):decide (0 < ((l.length:Nat):Int))=!(decide (l.length=0)):=by
 by_cases h:l.length=0
 ·simp[h]
 ·rw[decide_eq_true (by omega),decide_eq_false h];rfl
theorem sizes_(x1:ByteArray)(x2:List Wbv)(x3:List PedT)(x4:List Was)(x5:List (List RowT))(x6:List FoeT)(x7:Int)(a b:MapB)(c:MapI) :
 Ev (fun n=>qen n (x1,x2,x3,x4,x5,x6,x7,a,b,c)) (resE (Wl5 (x1,x2,x3,x4,x5,x6,x7)) (x1,x2,x3,x4,x5,x6,x7,a,b,c)):=by
 have key:∀ q:Bool,Ev (fun n=>(qep n (!q,4,x7)).bind (Sum.elim (fun(y4:Int×Int)=>some (.inl y4)) (fun(y5:Unit)=>
  bif decide (0 < ((x2.length:Nat):Int))then
   bif decide (0 < ((x4.length:Nat):Int))then
    (qep n (decide (0 < ((x5.length:Nat):Int)),73,x7)).bind (Sum.elim (fun(y7:Int×Int)=>some (.inl y7)) (fun(y8:Unit)=>some (.inr (x1,x2,x3,x4,x5,x6,x7,a,b,c))))
   else(qep n (false,73,x7)).bind (Sum.elim (fun(y10:Int×Int)=>some (.inl y10)) (fun(y11:Unit)=>some (.inr (x1,x2,x3,x4,x5,x6,x7,a,b,c))))
  else(qep n (false,73,x7)).bind (Sum.elim (fun(y13:Int×Int)=>some (.inl y13)) (fun(y14:Unit)=>some (.inr (x1,x2,x3,x4,x5,x6,x7,a,b,c)))))))
  (resE (if !q then(if Wm3 (x1,x2,x3,x4,x5,x6,x7)then(0,0)else(73,x7))else(4,x7)) (x1,x2,x3,x4,x5,x6,x7,a,b,c)):=by
  intro q
  refine Ev.mustE (by decide) fun _=>?_
  unfold Wm3
  simp only[Wtw]
  cases decide (x2.length=0)with
  | true=>exact Ev.ret _
  | false=>cases decide (x4.length=0)with
   | true=>exact Ev.ret _
   | false=>cases decide (x5.length=0)<;>exact Ev.ret _
 unfold qen
 simp only[letJ]
 unfold Wl5 Wjj
 have h1:=Wfj 16 x2.length
 have h2:=Wfj 16 x4.length
 have h3:=Wfj 8 x3.length
 have h4:=Wfj 4 x5.length
 have h5:=Wfj 64 x6.length
 simp only[show((16:Nat):Int)=16 from rfl,show((8:Nat):Int)=8 from rfl,show((4:Nat):Int)=4 from rfl,show((64:Nat):Int)=64 from rfl]at h1 h2 h3 h4 h5
 simp only[h1,h2,h3,h4,h5]
 cases decide (16 < x2.length)with
 | true=>exact key true
 | false=>cases decide (16 < x4.length)with
  | true=>exact key true
  | false=>cases decide (8 < x3.length)with
   | true=>exact key true
   | false=>cases decide (4 < x5.length)with
    | true=>exact key true
    | false=>exact key (decide (64 < x6.length))
def Wvd(names:List ByteArray)(h:Wbv):Err:=if !(inOf names h.1)then(if Wiq h then(0,0)else(70,h.2.2.2.2.2.2.2.2.2.2))else(71,h.2.2.2.2.2.2.2.2.2.2)
theorem all1(a lo hi:Int):([a].all fun a=>inR a lo hi)=inR a lo hi:=by simp
theorem all2(a b lo hi:Int):([a,b].all fun a=>inR a lo hi)=(inR a lo hi&&inR b lo hi):=by simp
theorem all3(a b c lo hi:Int):([a,b,c].all fun a=>inR a lo hi)=(inR a lo hi&&(inR b lo hi&&inR c lo hi)):=by simp
theorem chead_(h:Wbv)(x:Wa5)(names:List ByteArray)(b:MapB)(c:MapI) :
 Ev (fun n=>qek n (h.1,h.2.1,h.2.2.1,h.2.2.2.1,h.2.2.2.2.1,h.2.2.2.2.2.1,h.2.2.2.2.2.2.1,h.2.2.2.2.2.2.2.1,h.2.2.2.2.2.2.2.2.1,h.2.2.2.2.2.2.2.2.2.1,h.2.2.2.2.2.2.2.2.2.2,x.1,x.2.1,x.2.2.1,x.2.2.2.1,x.2.2.2.2.1,x.2.2.2.2.2.1,x.2.2.2.2.2.2,nset names,b,c))
  (resE (Wvd names h) (x.1,x.2.1,x.2.2.1,x.2.2.2.1,x.2.2.2.2.1,x.2.2.2.2.2.1,x.2.2.2.2.2.2,nset (names++[h.1]),b,c)):=by
 obtain⟨x1,x2,x3,x4,x5,x6,x7⟩:=x
 obtain⟨a1,a2,a3,a4,a5,a6,a7,a8,a9,a10,a11⟩:=h
 unfold qek
 refine Ev.bindS (fun n=>Wxw n _ _) ?_
 unfold Wvd
 refine Ev.mustE (by decide) fun _=>?_
 have key:∀ q:Bool,Ev (fun n=>(qep n (q,70,a11)).bind (Sum.elim (fun(y14:Int×Int)=>some (.inl y14)) (fun(y15:Unit)=>some (.inr (x1,x2,x3,x4,x5,x6,x7,nset (names++[a1]),b,c)))))
  (resE (if q then(0,0)else(70,a11)) (x1,x2,x3,x4,x5,x6,x7,nset (names++[a1]),b,c)):=fun q=>Ev.mustE (by decide) fun _=>Ev.ret _
 simp only[letJ]
 unfold Wiq
 refine Ev.bind (Wd7 _ _ _ (by simp)) ?_
 rw[all1]
 simp only
 cases inR a2 0 1000000000 with
 | false=>exact key false
 | true=>
 refine Ev.bind (Wd7 _ _ _ (by simp)) ?_
 rw[all3]
 simp only[Bool.true_and]
 cases inR a3 1 1000000000 with
 | false=>exact key false
 | true=>cases inR a4 1 1000000000 with
  | false=>exact key false
  | true=>cases inR a5 1 1000000000 with
   | false=>exact key false
   | true=>
   refine Ev.bind (Wd7 _ _ _ (by simp)) ?_
   rw[all1]
   simp only[Bool.true_and]
   cases inR a6 1 10000 with
   | false=>exact key false
   | true=>
   refine Ev.bind (Wd7 _ _ _ (by simp)) ?_
   rw[all1]
   simp only[Bool.true_and]
   cases inR a7 (-200) 200 with
   | false=>exact key false
   | true=>
   refine Ev.bind (Wd7 _ _ _ (by simp)) ?_
   rw[all2]
   simp only[Bool.true_and]
   cases inR a8 0 100000 with
   | false=>exact key false
   | true=>cases inR a9 0 100000 with
    | false=>exact key false
    | true=>
    refine Ev.bind (Wd7 _ _ _ (by simp)) ?_
    rw[all1]
    simp only[Bool.true_and]
    exact key _
theorem Xce(hs:List Wbv)(i:Nat)(hi:i < hs.length):Wvd ((hs.take i).map (·.1)) (hs.getD i Wck)=Wvv hs i:=by
 unfold Wvd Wvv Wa1
 have h:=Wfy (fun h:Wbv=>Wak h.1 (hs.getD i Wck).1) Wck hs i hi ((Wbb _ _).2 rfl)
 have h2:inOf ((hs.take i).map (·.1)) (hs.getD i Wck).1=(hs.take i).any fun h:Wbv=>Wak h.1 (hs.getD i Wck).1:=by rw[Wgn,List.any_map];rfl
 rw[h2,← h]
 by_cases h3:idxI (fun h:Wbv=>Wak h.1 (hs.getD i Wck).1) hs < (i:Int)
 ·rw[if_pos h3,decide_eq_true h3];rfl
 ·rw[if_neg h3,decide_eq_false h3];rfl
end Go.Proofs.YtalbenehgdkalaaGreat.Fn