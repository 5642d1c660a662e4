/- Texts of the proof. -/
import Derived.Test.YtalbenehgdkalaaGreatBandC
namespace Go.Proofs.YtalbenehgdkalaaGreat.Fn
open Go Go.RowKit Go.Den Go.Circ
theorem Wjz{a b c d e:Int}{ns:List Wa5}{ss:List Wbq}{f g:Int}{cy:Int}{ts:List TimT}{isIn:Bool}(h:Small20 ns ss ts)(h0:(Wa0 (a,b,c,d,e,ns,ss,f,g) cy ts isIn).2=0) :
 (1≤cy∧cy≤500)∧Wa0 (a,b,c,d,e,ns,ss,f,g) cy ts isIn=(if ss.length=0 then([],0)else(Who cy (fun i=>Wcy ns ts isIn (ss.getD i Wba)) (Wdw ss isIn) ss.length,0)):=by
 unfold Wa0 at h0 ⊢
 split at h0
 ·rename_i h1
  rw[if_pos h1]
  split at h0
  ·rename_i h2
   rw[if_pos h2]
   exact⟨(Wk3 h h2).1,rfl⟩
  ·cases h0
 ·cases h0
theorem Wdf{x:NetT}{cy:Int}{ts:List TimT}{isIn:Bool}(h:Small20 x.2.2.2.2.2.1 x.2.2.2.2.2.2.1 ts):(Wa0 x cy ts isIn).1.length≤500:=by
 obtain⟨a,b,c,d,e,ns,ss,f,g⟩:=x
 by_cases h0:(Wa0 (a,b,c,d,e,ns,ss,f,g) cy ts isIn).2=0
 ·obtain⟨hc,e⟩:=Wjz h h0
  rw[e]
  split
  ·simp
  ·exact Wqb hc.1 hc.2 _ _ _
 ·unfold Wa0 at h0 ⊢
  split
  ·rename_i h1
   rw[if_pos h1]at h0
   split
   ·rename_i h2
    rw[if_pos h2]at h0
    split at h0<;>exact absurd rfl h0
   ·simp
  ·simp
theorem Wi2(x:NetT)(cy:Int)(ts:List TimT):(Wa0 x cy ts false).2=(Wa0 x cy ts true).2:=by
 unfold Wa0
 split
 ·split
  ·split<;>rfl
  ·rfl
 ·rfl
def Wsu(cy:Int)(l:List (Int×Int)):Int×Int:=Wf4 (Wgj cy l)
def Wfn(x:NetT)(cy:Int)(ts:List TimT):Int×Int×Int×Int×Int:=
 if(Wa0 x cy ts false).2=0 then((Wsu cy (Wa0 x cy ts false).1).1,(Wsu cy (Wa0 x cy ts false).1).2,(Wsu cy (Wa0 x cy ts true).1).1,(Wsu cy (Wa0 x cy ts true).1).2,0)else(0,0,0,0,(Wa0 x cy ts false).2)
theorem win1_(a b c d e:Int)(ns:List Wa5)(ss:List Wbq)(f g:Int)(p:Wh6)(isIn:Bool)(h:Small20 ns ss p.2.1) :
 Ev (fun n=>qad n (isIn,0,a,b,c,d,e,ns,ss,f,g,p)) ((Wsu p.1 (Wa0 (a,b,c,d,e,ns,ss,f,g) p.1 p.2.1 isIn).1).1,(Wsu p.1 (Wa0 (a,b,c,d,e,ns,ss,f,g) p.1 p.2.1 isIn).1).2,(Wa0 (a,b,c,d,e,ns,ss,f,g) p.1 p.2.1 isIn).2,a,b,c,d,e,ns,ss,f,g,p):=by
 unfold qad
 refine Ev.no (by simp) ?_
 refine Ev.bind (Wn9 a b c d e ns ss f g p isIn h) ?_
 have hl:=Wdf (x:=(a,b,c,d,e,ns,ss,f,g)) (cy:=p.1) (isIn:=isIn) h
 exact Ev.bind (widest_ p.1 _ (by omega)) (Ev.ret _)
theorem Wup(a b c d e:Int)(ns:List Wa5)(ss:List Wbq)(f g:Int)(p:Wh6)(h:Small20 ns ss p.2.1) :
 Ev (fun n=>qac n (a,b,c,d,e,ns,ss,f,g,p)) (Wfn (a,b,c,d,e,ns,ss,f,g) p.1 p.2.1):=by
 have h1:=win1_ a b c d e ns ss f g p false h
 have h2:=win1_ a b c d e ns ss f g p true h
 have he:=Wi2 (a,b,c,d,e,ns,ss,f,g) p.1 p.2.1
 unfold qac Wfn
 refine Ev.bind h1 ?_
 simp only
 rw[← he]at h2
 by_cases h0:(Wa0 (a,b,c,d,e,ns,ss,f,g) p.1 p.2.1 false).2=0
 ·rw[if_pos h0]
  rw[h0]at h2 ⊢
  refine Ev.bind h2 ?_
  exact Ev.no (by simp) (Ev.ret _)
 ·rw[if_neg h0]
  refine Ev.bind (a:=(0,0,(Wa0 (a,b,c,d,e,ns,ss,f,g) p.1 p.2.1 false).2,a,b,c,d,e,ns,ss,f,g,p)) ?_ ?_
  ·unfold qad
   exact Ev.yes (by simp[h0]) (Ev.ret _)
  ·exact Ev.yes (by simp[h0]) (Ev.ret _)
theorem Wnc(C:Int)(l:List (Int×Int))(hl:l.length≤1000):Ev (fun n=>qc3 n (C,l)) (Wsu C l):=by
 unfold qc3
 exact Ev.bind (rwidest_ C l hl) (Ev.ret _)
theorem Xam(a b c d e:Int)(ns:List Wa5)(ss:List Wbq)(f g:Int)(p:Wh6)(h:Small20 ns ss p.2.1) :
 Ev (fun n=>qc1 n (a,b,c,d,e,ns,ss,f,g,p)) (Wfn (a,b,c,d,e,ns,ss,f,g) p.1 p.2.1):=by
 have h1:=Wk2 a b c d e ns ss f g p false h
 have h2:=Wk2 a b c d e ns ss f g p true h
 have he:=Wi2 (a,b,c,d,e,ns,ss,f,g) p.1 p.2.1
 have l1:=Wdf (x:=(a,b,c,d,e,ns,ss,f,g)) (cy:=p.1) (isIn:=false) h
 have l2:=Wdf (x:=(a,b,c,d,e,ns,ss,f,g)) (cy:=p.1) (isIn:=true) h
 unfold qc1 Wfn
 refine Ev.bind h1 ?_
 by_cases h0:(Wa0 (a,b,c,d,e,ns,ss,f,g) p.1 p.2.1 false).2=0
 ·rw[if_pos h0]
  refine Ev.no (by simp[h0]) ?_
  refine Ev.bind h2 ?_
  refine Ev.no (by simp[← he,h0]) ?_
  refine Ev.bind (Wnc p.1 _ (by omega)) ?_
  exact Ev.bind (Wnc p.1 _ (by omega)) (Ev.ret _)
 ·rw[if_neg h0]
  exact Ev.yes (by simp[h0]) (Ev.ret _)
theorem Wwv{P:List (Int×Int)}(h:∀ p∈P,0≤p.1∧p.1 < p.2∧p.2≤6000){p:Int×Int}(hp:p∈P):1≤Wcx P:=by
 unfold Wcx
 induction P with
 | nil=>cases hp
 | cons q P ih=>
  have hq:=h q (by simp)
  have hs:=Wkw (fun p:Int×Int=>p.2 - p.1) 6000 P fun x hx=>by have:=h x (by simp[hx]);omega
  simp only[List.map_cons,List.sum_cons]
  omega
theorem Www{C:Int}(h1:1≤C)(h2:C≤6000)(m:List (Int×Int)):Wcx (Wa3 C m)=0↔∀ j,0≤j→j < C→¬ TS C m j:=by
 have hg:=Waw C m
 have hb:∀ p∈Wa3 C m,0≤p.1∧p.1 < p.2∧p.2≤6000:=fun p hp=>by have:=hg.all p hp;omega
 constructor
 ·intro h0 j j0 j1 ht
  rw[← Wbj h1 h2 m j0 j1]at ht
  obtain⟨p,hp,_⟩:=ht
  have:=Wwv hb hp
  omega
 ·intro h0
  cases hP:Wa3 C m with
  | nil=>rfl
  | cons p P=>
   exfalso
   have hp:p∈Wa3 C m:=by rw[hP];simp
   have hpb:=hg.all p hp
   refine h0 p.1 hpb.1 (by omega) ?_
   rw[← Wbj h1 h2 m hpb.1 (by omega)]
   exact⟨p,hp,Int.le_refl _,hpb.2.1⟩
def Woo(C:Int)(l:List (Int×Int))(w:Int×Int):Bool:=(List.range w.2.toNat).all fun t=>l.any fun a=>decide (1≤C∧C≤6000∧HasT C a (w.1+(t:Int)))
theorem Wsv{C:Int}(h1:1≤C)(h2:C≤6000)(l:List (Int×Int))(w:Int×Int):Woo C l w=true↔∀ t,0≤t→t < w.2→TS C l (w.1+t):=by
 unfold Woo
 rw[Wbk]
 simp only[List.any_eq_true,decide_eq_true_eq]
 constructor
 ·intro h t t0 t1
  obtain⟨a,ha,_,_,hh⟩:=h t.toNat (by omega)
  rw[show((t.toNat:Nat):Int)=t by omega]at hh
  exact⟨a,ha,hh⟩
 ·intro h t ht
  obtain⟨a,ha,hh⟩:=h (t:Int) (by omega) (by omega)
  exact⟨a,ha,h1,h2,hh⟩
theorem Xan{C:Int}(h1:1≤C)(h2:C≤6000)(l:List (Int×Int))(w:Int×Int)(hw:w.2≤C):(Wcx (Wa3 C (Wk0 C [w] l))==0)=Woo C l w:=by
 rw[Bool.eq_iff_iff,beq_iff_eq,Www h1 h2,Wsv h1 h2]
 constructor
 ·intro h t t0 t1
  have m0:=Int.emod_nonneg (w.1+t) (b:=C) (by omega)
  have m1:=Int.emod_lt_of_pos (w.1+t) (b:=C) (by omega)
  have:=h _ m0 m1
  rw[Wp8 h1 h2 _ _ m0 m1,TS.mod,TS.mod]at this
  refine Classical.byContradiction fun hn=>this ⟨⟨w,by simp,by omega,.inr ?_⟩,hn⟩
  rw[show w.1+t - w.1=t by omega,Int.emod_eq_of_lt t0 (by omega)];exact t1
 ·intro h j j0 j1 hj
  rw[Wp8 h1 h2 _ _ j0 j1]at hj
  obtain⟨⟨a,ha,hh⟩,hn⟩:=hj
  rw[List.mem_singleton]at ha
  subst ha
  apply hn
  have m0:=Int.emod_nonneg (j - a.1) (b:=C) (by omega)
  have m1:=Int.emod_lt_of_pos (j - a.1) (b:=C) (by omega)
  have:=h ((j - a.1) % C) m0 (by rcases hh.2 with h3 | h3<;>omega)
  refine(TS.cong ?_).1 this
  rw[Int.add_emod_emod]
  congr 1;omega
def Wop(x:NetT)(cy:Int)(ts:List TimT)(isIn:Bool)(w:Int×Int):Bool:=
 decide ((Wa0 x cy ts isIn).2=0)&&(decide (0≤w.1)&&(decide (w.1 < cy)&&(decide (0≤w.2)&&(decide (w.2≤cy)&&Woo cy (Wa0 x cy ts isIn).1 w))))
theorem holds_(a b c d e:Int)(ns:List Wa5)(ss:List Wbq)(f g:Int)(p:Wh6)(isIn:Bool)(w:Int×Int)(h:Small20 ns ss p.2.1) :
 Ev (fun n=>qaa n (a,b,c,d,e,ns,ss,f,g,p.1,p.2.1,p.2.2.1,p.2.2.2.1,p.2.2.2.2.1,p.2.2.2.2.2.1,p.2.2.2.2.2.2.1,p.2.2.2.2.2.2.2,isIn,w)) (Wop (a,b,c,d,e,ns,ss,f,g) p.1 p.2.1 isIn w):=by
 have h1:=Wn9 a b c d e ns ss f g p isIn h
 have l1:=Wdf (x:=(a,b,c,d,e,ns,ss,f,g)) (cy:=p.1) (isIn:=isIn) h
 have hok:=Wjz (a:=a) (b:=b) (c:=c) (d:=d) (e:=e) (f:=f) (g:=g) (cy:=p.1) (isIn:=isIn) h
 obtain⟨cy,ts,p1,p2,p3,p4,p5,p6⟩:=p
 unfold qaa Wop
 refine Ev.bind h1 ?_
 simp only at l1 hok ⊢
 generalize Wa0 (a,b,c,d,e,ns,ss,f,g) cy ts isIn=L at *
 simp only[letJ]
 by_cases h0:L.2=0
 case neg=>rw[decide_eq_false h0];exact Ev.yes (by simp[h0]) (Ev.ret _)
 obtain⟨hc,_⟩:=hok h0
 rw[decide_eq_true h0,Bool.true_and]
 refine Ev.no (by simp[h0]) ?_
 by_cases k1:0≤w.1
 case neg=>rw[decide_eq_false k1];exact Ev.yes (decide_eq_true (show w.1 < 0 by omega)) (Ev.ret _)
 rw[decide_eq_true k1,Bool.true_and]
 refine Ev.no (decide_eq_false (show ¬ w.1 < 0 by omega)) ?_
 by_cases k2:w.1 < cy
 case neg=>rw[decide_eq_false k2];exact Ev.yes (decide_eq_true (show cy≤w.1 by omega)) (Ev.ret _)
 rw[decide_eq_true k2,Bool.true_and]
 refine Ev.no (decide_eq_false (show ¬ cy≤w.1 by omega)) ?_
 by_cases k3:0≤w.2
 case neg=>rw[decide_eq_false k3];exact Ev.yes (decide_eq_true (show w.2 < 0 by omega)) (Ev.ret _)
 rw[decide_eq_true k3,Bool.true_and]
 refine Ev.no (decide_eq_false (show ¬ w.2 < 0 by omega)) ?_
 by_cases k4:w.2≤cy
 case neg=>rw[decide_eq_false k4];exact Ev.yes (decide_eq_true (show cy < w.2 by omega)) (Ev.ret _)
 rw[decide_eq_true k4,Bool.true_and]
 refine Ev.no (decide_eq_false (show ¬ cy < w.2 by omega)) ?_
 rw[← Xan hc.1 (by omega) L.1 w k4]
 refine Ev.bind (less_ cy [w] L.1 (by simp) (by omega)) ?_
 have hll:=Arcs.len (Wsn hc.1 (by omega) [w] L.1) (by omega)
 exact Ev.bind (totalfn_ cy _ (by omega)) (Ev.ret _)
end Go.Proofs.YtalbenehgdkalaaGreat.Fn