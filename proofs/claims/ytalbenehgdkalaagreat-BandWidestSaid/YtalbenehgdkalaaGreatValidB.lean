/- Texts of the proof. -/
import Derived.Test.YtalbenehgdkalaaGreatValid
namespace Go.Proofs.YtalbenehgdkalaaGreat.Fn
open Go Go.RowKit Go.Den Go.Circ
def Wf4(g:List RowT):List ByteArray:=g.flatMap (·.2)
def Wca(gs:List (List RowT)):List ByteArray:=gs.flatMap Wf4
def nameE(ph:List Wat)(pos:Int)(seen:List ByteArray)(s:ByteArray):Err:=if Wil ph s < 0 then(72,pos)else if inOf seen s=true then(71,pos)else(0,0)
def lineE(ph:List Wat)(pos:Int)(seen names:List ByteArray):Err:=Wbn names.length fun m=>nameE ph pos (seen++names.take m) (names.getD m (ByteArray.mk #[]))
def ringE(ph:List Wat)(pos:Int)(seen:List ByteArray)(r:RowT):Err:=if r.2.length < 1∨4 < r.2.length then(74,pos)else lineE ph pos seen r.2
def Wxl(ph:List Wat)(pos:Int)(seen:List ByteArray)(g:List RowT):Err:=if g.length < 1∨2 < g.length then(74,pos)else Wbn g.length fun k=>ringE ph pos (seen++Wf4 (g.take k)) (g.getD k zRow)
def Wj4(ph:List Wat)(pos:Int)(gs:List (List RowT)):Err:=Wbn gs.length fun i=>Wxl ph pos (Wca (gs.take i)) (gs.getD i [])
def seenE(ph:List Wat)(names:List ByteArray):Err:=Wbn ph.length fun i=>if inOf names (ph.getD i Wa4).1=true then(0,0)else(74,(ph.getD i Wa4).2.2)
def Wsz(ph:List Wat)(pos:Int)(gs:List (List RowT)):Err:=if(Wj4 ph pos gs).1=0 then seenE ph (Wca gs)else Wj4 ph pos gs
theorem Wrg(g:List RowT)(k:Nat)(h:k < g.length):Wf4 (g.take (k+1))=Wf4 (g.take k)++(g.getD k zRow).2:=by
 rw[Wa0 g k zRow h];simp[Wf4,List.flatMap_append]
theorem Wm3(gs:List (List RowT))(k:Nat)(h:k < gs.length):Wca (gs.take (k+1))=Wca (gs.take k)++Wf4 (gs.getD k []):=by
 rw[Wa0 gs k [] h];simp[Wca,List.flatMap_append]
def Wc5(a b:Err):Err:=if a.1=0 then b else a
def Wj5(x:Wa5):Bool:=!(decide (16 < x.2.1.length) || (decide (16 < x.2.2.2.1.length) || (decide (8 < x.2.2.1.length) || (decide (4 < x.2.2.2.2.1.length) || decide (64 < x.2.2.2.2.2.1.length)))))
def Wo3(x:Wa5):Bool:=!(decide (x.2.1.length=0) || (decide (x.2.2.2.1.length=0) || decide (x.2.2.2.2.1.length=0)))
def Wrh(x:Wa5):Err:=
 if Wj5 x then(if Wo3 x then Wc5 (Wc5 (Wc5 (Wc5 (headsE x.2.1) (Wwu x.2.1 x.2.2.2.1)) (pedsE x.2.2.1 x.2.2.2.1)) (Wsz x.2.2.2.1 x.2.2.2.2.2.2 x.2.2.2.2.1)) (foesE x.2.1 x.2.2.2.1 x.2.2.2.2.2.1)else(73,x.2.2.2.2.2.2))else(4,x.2.2.2.2.2.2)
theorem len_eq0{A:Type}(l:List A):((((l.length:Nat):Int)==0):Bool)=decide (l.length=0):=by
 by_cases h:l.length=0
 ·rw[h];rfl
 ·rw[decide_eq_false h];simp;intro e;exact h (by simp[e])
theorem We0(k n:Nat):decide ((k:Int) < ((n:Nat):Int))=decide (k < n):=by
 by_cases h:k < n
 ·rw[decide_eq_true h];simp[h]
 ·rw[decide_eq_false h];simp;omega
def Wm4(hs:List Wbu)(s:Wbs)(i:Nat):Err:=
 if Wbe hs s.2.1 < 0∨Wbe hs s.2.2.1 < 0 then(72,s.2.2.2.2.2)
 else if(inR s.2.2.2.1 0 6000&&inR s.2.2.2.2.1 0 6000)=false then(70,s.2.2.2.2.2)
 else if i=0∧(s.2.2.2.1≠0∨s.2.2.2.2.1≠0)then(76,s.2.2.2.2.2)else(0,0)
def stopE(ns:List Wa5)(ss:List Wbs)(i:Nat):Err:=
 if Wbb ns (ss.getD i Wbf).1 < 0 then(72,(ss.getD i Wbf).2.2.2.2.2)else if(ss.take i).any (fun q=>Wam q.1 (ss.getD i Wbf).1)=true then(71,(ss.getD i Wbf).2.2.2.2.2)
 else Wm4 (ns.getD (Wbb ns (ss.getD i Wbf).1).toNat Wbx).2.1 (ss.getD i Wbf) i
def Wj6(ns:List Wa5)(ss:List Wbs):Err:=Wbn ss.length (stopE ns ss)
def Wei(ns:List Wa5)(i:Nat):Err:=if Wbb ns (ns.getD i Wbx).1 < i then(71,(ns.getD i Wbx).2.2.2.2.2.2)else Wrh (ns.getD i Wbx)
def Wm5(x:NetT):Bool:=!(decide (x.1 < 1) || (decide (x.2.1 < x.1) || (decide (6000 < x.2.1) || decide (x.2.2.1 < 1))))&&(inR x.2.2.2.1 1 1000000000&&(inR x.2.2.2.2.1 1 1000000000&&(inR x.2.2.2.2.2.2.2.1 0 1000000000&&inR x.2.2.2.2.2.2.2.2 0 1000000000)))
def netE(x:NetT):Err:=
 if 12 < x.2.2.2.2.2.1.length∨12 < x.2.2.2.2.2.2.1.length then(4,0)else if Wm5 x then(if x.2.2.2.2.2.1.length=0 then(73,0)else if(Wbn x.2.2.2.2.2.1.length (Wei x.2.2.2.2.2.1)).1=0 then Wj6 x.2.2.2.2.2.1 x.2.2.2.2.2.2.1 else Wbn x.2.2.2.2.2.1.length (Wei x.2.2.2.2.2.1))else(70,0)
structure NetSh (x:NetT):Prop where
 heads:∀ y∈x.2.2.2.2.2.1,Sh y.2.1
 phase:∀ y∈x.2.2.2.2.2.1,∀ p∈y.2.2.2.1,Sh p.2.1
end Go.Proofs.YtalbenehgdkalaaGreat.Fn