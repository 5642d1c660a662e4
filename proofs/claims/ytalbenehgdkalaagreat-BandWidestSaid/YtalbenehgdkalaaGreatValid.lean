/- Texts of the proof. -/
import Derived.Test.YtalbenehgdkalaaGreatTimesB
import Derived.Test.YtalbenehgdkalaaGreatFew
namespace Go.Proofs.YtalbenehgdkalaaGreat.Fn
open Go Go.RowKit Go.Den Go.Circ
abbrev Err:=Int×Int
def Wdu:Wbu:=(ByteArray.mk #[],0,0,0,0,0,0,0,0,0,0)
def Wa4:Wat:=(ByteArray.mk #[],[],0)
def zPed:PedT:=(ByteArray.mk #[],ByteArray.mk #[],0,0,0,0)
def zFoe:FoeT:=(ByteArray.mk #[],ByteArray.mk #[],0)
def Wbf:Wbs:=(ByteArray.mk #[],ByteArray.mk #[],ByteArray.mk #[],0,0,0)
def Wbx:Wa5:=(ByteArray.mk #[],[],[],[],[],[],0)
abbrev Sh{A:Type}(l:List A):Prop:=l.length≤9223372036854775807
def Wbe(hs:List Wbu)(k:ByteArray):Int:=idxI (fun h=>Wam h.1 k) hs
def Wil(ph:List Wat)(k:ByteArray):Int:=idxI (fun h=>Wam h.1 k) ph
def Wbb(ns:List Wa5)(k:ByteArray):Int:=idxI (fun h=>Wam h.1 k) ns
theorem Whw(l:List ByteArray)(k:ByteArray):inOf l k=l.any fun x=>Wam x k:=by
 unfold inOf
 congr 1
 funext x;exact Wio k x
def inR(a lo hi:Int):Bool:=decide (lo≤a)&&decide (a≤hi)
def Wjt(h:Wbu):Bool:=inR h.2.1 0 1000000000&&(inR h.2.2.1 1 1000000000&&(inR h.2.2.2.1 1 1000000000&&(inR h.2.2.2.2.1 1 1000000000&&(inR h.2.2.2.2.2.1 1 10000&&(inR h.2.2.2.2.2.2.1 (-200) 200&&(inR h.2.2.2.2.2.2.2.1 0 100000&&(inR h.2.2.2.2.2.2.2.2.1 0 100000&&inR h.2.2.2.2.2.2.2.2.2.1 1 6000)))))))
def headE(hs:List Wbu)(i:Nat):Err:=if Wbe hs (hs.getD i Wdu).1 < i then(71,(hs.getD i Wdu).2.2.2.2.2.2.2.2.2.2)else if Wjt (hs.getD i Wdu)then(0,0)else(70,(hs.getD i Wdu).2.2.2.2.2.2.2.2.2.2)
def headsE(hs:List Wbu):Err:=Wbn hs.length (headE hs)
def Wju(hs:List Wbu)(ph:List Wat)(i:Nat)(p:Wat)(k:Nat):Err:=
 if Wbe hs (p.2.1.getD k (ByteArray.mk #[])) < 0 then(72,p.2.2)else if Wb8 ph (p.2.1.getD k (ByteArray.mk #[])) < i∨inOf (p.2.1.take k) (p.2.1.getD k (ByteArray.mk #[]))=true then(71,p.2.2)else(0,0)
def Wix(hs:List Wbu)(ph:List Wat)(i:Nat):Err:=
 if Wil ph (ph.getD i Wa4).1 < i then(71,(ph.getD i Wa4).2.2)else if(Wbn (ph.getD i Wa4).2.1.length (Wju hs ph i (ph.getD i Wa4))).1=0 then(if(ph.getD i Wa4).2.1.length=0 then(73,(ph.getD i Wa4).2.2)else(0,0))else Wbn (ph.getD i Wa4).2.1.length (Wju hs ph i (ph.getD i Wa4))
def Wuc(hs:List Wbu)(ph:List Wat)(i:Nat):Err:=if Wb8 ph (hs.getD i Wdu).1 < 0 then(73,(hs.getD i Wdu).2.2.2.2.2.2.2.2.2.2)else(0,0)
def Wwu(hs:List Wbu)(ph:List Wat):Err:=if(Wbn ph.length (Wix hs ph)).1=0 then Wbn hs.length (Wuc hs ph)else Wbn ph.length (Wix hs ph)
def Wmv(p:PedT):Bool:=inR p.2.2.1 1 100000&&(inR p.2.2.2.1 1 10000&&inR p.2.2.2.2.1 1 6000)
def pedE(ps:List PedT)(ph:List Wat)(i:Nat):Err:=
 if(ps.take i).any (fun q=>Wam q.1 (ps.getD i zPed).1)then(71,(ps.getD i zPed).2.2.2.2.2)else if Wil ph (ps.getD i zPed).2.1 < 0 then(72,(ps.getD i zPed).2.2.2.2.2)else if Wmv (ps.getD i zPed)then(0,0)else(70,(ps.getD i zPed).2.2.2.2.2)
def pedsE(ps:List PedT)(ph:List Wat):Err:=Wbn ps.length (pedE ps ph)
theorem Wjv{A:Type}(l:List A)(i k:Nat)(d:A)(h:k < i):(l.take i).getD k d=l.getD k d:=by
 simp[List.getD_eq_getElem?_getD,List.getElem?_take_of_lt h]
def foeE(hs:List Wbu)(ph:List Wat)(fs:List FoeT)(i:Nat):Err:=
 if Wbe hs (fs.getD i zFoe).1 < 0∨Wbe hs (fs.getD i zFoe).2.1 < 0 then(72,(fs.getD i zFoe).2.2)else if Wam (fs.getD i zFoe).1 (fs.getD i zFoe).2.1=true∨Wb8 ph (fs.getD i zFoe).1=Wb8 ph (fs.getD i zFoe).2.1 then(75,(fs.getD i zFoe).2.2)else(0,0)
def foesE(hs:List Wbu)(ph:List Wat)(fs:List FoeT):Err:=Wbn fs.length (foeE hs ph fs)
end Go.Proofs.YtalbenehgdkalaaGreat.Fn