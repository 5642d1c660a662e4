/- Texts of the proof. -/
import Derived.Test.YtalbenehgdkalaaGreatBandE
import Derived.Test.YtalbenehgdkalaaGreatFnC0
namespace Go.Proofs.YtalbenehgdkalaaGreat.Fn
open Go Go.RowKit Go.Den Go.Circ
set_option maxRecDepth 100000
def awN:List Wa5:=[(ByteArray.mk #[97],[(ByteArray.mk #[110],400,1800,1,1,1500,0,1800,600,10,48),(ByteArray.mk #[101],300,1700,1,1,1000,-20,2000,600,8,135)],[(ByteArray.mk #[119],ByteArray.mk #[112],300,120,5,223)],[(ByteArray.mk #[112],[ByteArray.mk #[110]],265),(ByteArray.mk #[113],[ByteArray.mk #[101]],277)],[[(true,[ByteArray.mk #[112],ByteArray.mk #[113]])]],[(ByteArray.mk #[110],ByteArray.mk #[101],313)],39)]
def awS:List Wbq:=[(ByteArray.mk #[97],ByteArray.mk #[110],ByteArray.mk #[110],0,0,334)]
def Wkf:List TimT:=[(ByteArray.mk #[97],10,[[[(ByteArray.mk #[112],100,35,16,[(ByteArray.mk #[119],5,25)]),(ByteArray.mk #[113],100,30,26,[])]]],1,2)]
theorem sampleAt(n:Nat):qa6 (n+150) ()=some (30,200,10,9,10,awS,1,1,awN):=by kernel_rfl
theorem sample_:Ev (fun n=>qa6 n ()) (30,200,10,9,10,awS,1,1,awN):=⟨150,fun n hn=>by
 obtain⟨m,rfl⟩:=Nat.exists_eq_add_of_le' hn
 exact sampleAt m⟩
theorem Wv0:Wfn (30,200,10,9,10,awN,awS,1,1) 200 Wkf=(10,49,10,49,0):=by decide +kernel
theorem aw_holds:Wop (30,200,10,9,10,awN,awS,1,1) 200 Wkf false (20,39)=true:=by decide +kernel
theorem aw_not:Wop (30,200,10,9,10,awN,awS,1,1) 200 Wkf false (20,40)=false:=by decide +kernel
theorem aw_len:Waq (Wkf.getD 0 zTim).2.2.1≤500:=by decide +kernel
theorem Wn5:Small20 awN awS Wkf:=by
 refine⟨by decide,by decide,fun y hy=>?_,by decide,fun t ht=>?_,fun t ht=>?_⟩
 ·simp only[awN,List.mem_cons,List.not_mem_nil,or_false]at hy
  subst hy
  refine⟨by decide,by decide,by decide,by decide,by decide,fun p hp=>?_,fun g hg=>?_,fun g hg r hr=>?_⟩
  ·simp only[List.mem_cons,List.not_mem_nil,or_false]at hp
   rcases hp with rfl | rfl<;>decide
  ·simp only[List.mem_cons,List.not_mem_nil,or_false]at hg
   subst hg;decide
  ·simp only[List.mem_cons,List.not_mem_nil,or_false]at hg
   subst hg
   simp only[List.mem_cons,List.not_mem_nil,or_false]at hr
   subst hr;decide
 ·simp only[Wkf,List.mem_cons,List.not_mem_nil,or_false]at ht
  subst ht
  refine⟨by decide,fun x hx=>?_,fun x hx l hl=>?_,fun x hx l hl s hs=>?_⟩
  ·simp only[List.mem_cons,List.not_mem_nil,or_false]at hx
   subst hx;decide
  ·simp only[List.mem_cons,List.not_mem_nil,or_false]at hx
   subst hx
   simp only[List.mem_cons,List.not_mem_nil,or_false]at hl
   subst hl;decide
  ·simp only[List.mem_cons,List.not_mem_nil,or_false]at hx
   subst hx
   simp only[List.mem_cons,List.not_mem_nil,or_false]at hl
   subst hl
   simp only[List.mem_cons,List.not_mem_nil,or_false]at hs
   rcases hs with rfl | rfl<;>decide
 ·have e:t=Wkf.getD 0 zTim:=by
   simp only[Wkf,List.mem_cons,List.not_mem_nil,or_false]at ht
   rw[ht];rfl
  rw[e];exact aw_len
theorem awake21_:Ev (fun n=>qbb n ()) true:=by
 unfold qbb
 refine Ev.bind sample_ ?_
 refine Ev.bind (a:=(200,Wkf,0,0,0,0,false,0)) (Ev.const fun n=>rfl) ?_
 have h1:=Wup 30 200 10 9 10 awN awS 1 1 (200,Wkf,0,0,0,0,false,0) Wn5
 have h2:=holds_ 30 200 10 9 10 awN awS 1 1 (200,Wkf,0,0,0,0,false,0) false (20,39) Wn5
 have h3:=holds_ 30 200 10 9 10 awN awS 1 1 (200,Wkf,0,0,0,0,false,0) false (20,40) Wn5
 refine Ev.bind (h1.of_eq Wv0) ?_
 simp only[letJ]
 refine Ev.yes rfl ?_
 refine Ev.yes rfl ?_
 refine Ev.yes rfl ?_
 refine Ev.bind (h2.of_eq aw_holds) ?_
 refine Ev.yes rfl ?_
 refine Ev.bind (h3.of_eq aw_not) ?_
 exact Ev.ret _
end Go.Proofs.YtalbenehgdkalaaGreat.Fn