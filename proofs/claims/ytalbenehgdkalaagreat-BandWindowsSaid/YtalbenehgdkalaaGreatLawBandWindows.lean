/- Proved: the law BandWindows of chapter 21 returns true for every input, and its arguments read behind the call as before; no condition. -/
import Derived.Test.YtalbenehgdkalaaGreatRows
import Derived.Test.YtalbenehgdkalaaGreatPure21
import Derived.WalkKit
import Derived.ProofKit
import Derived.OpenShut
import Derived.ShutString
import Derived.ChangeOld
import Derived.Below
import Derived.Carry
import Derived.SizedLaws
namespace Go.Proofs.YtalbenehgdkalaaGreat.bandWindows
open Go Go.ChangeShapes Go.WideShapes Go.ChangeAt Go.RowKit Go.Den Go.Proofs.YtalbenehgdkalaaGreat.Fn
theorem own:ownKnob Tryz.prog.godebug=none:=by kernel_rfl
theorem laidOut:laidOutB Tryz.prog=true:=by kernel_rfl
set_option maxRecDepth 100000 in
theorem lifted(os:Os)(started:os.Started)(H:Type)(enc:TypeId×Value→H) :
 ReturnsInHanded {} Tryz.checked os 7 .any (Rows.bandWindowsSpec.pre6 enc Tryz.prog Tryz.f7 Rows.bandWindowsRow.domain false) (Rows.bandWindowsSpec.post enc Tryz.prog Tryz.f7 false true false false):=by
 refine returnsInHanded_of_change_sized (C:=Tryz.checked) own started (by kernel_rfl) Tryz.func7
  (ChangeSpec.witness6 (enc:=enc) (C:=Tryz.checked) false ⟨#[],#[.agg #[.int .i64 0,.int .i64 0,.int .i64 0,.int .i64 0,.int .i64 0,.slice none 0 0,.slice none 0 0,.int .i64 0,.int .i64 0],.agg #[.int .i64 0,.slice none 0 0,.int .i64 0,.int .i64 0,.int .i64 0,.int .i64 0,.bool false,.int .i64 0]],[]⟩ 8 (by kernel_rfl) (by kernel_rfl) (by kernel_rfl) (by kernel_rfl)) ?_
 intro W base args ds gs before hval0 hW hcnd hsz0 _
 have hval:∀(j:Nat) t v,Tryz.f7.params[j]?=some t→args[j]?=some v→Value.okWide Tryz.prog W .any base t v:=hval0
 have hW':=hW
 obtain⟨p,q,hA0,hV,rfl,hfz,hnd⟩:=hW
 have hA:DataW.TrodAll enc Tryz.prog W 0 (fun _=>true) true Tryz.f7.params.toList args.toList ds p:=hA0
 rw[Tryz.params7]at hA hval
 obtain⟨v0,vs0,d0,ds0,p0,q0,hargs,rfl,rfl,h0,r0⟩:=trodAll_cons hA
 obtain⟨v1,vs1,d1,ds1,p1,q1,rfl,rfl,rfl,h1,r1⟩:=trodAll_cons r0
 obtain⟨rfl,rfl,rfl⟩:=trodAll_nil r1
 obtain rfl:args=#[v0,v1]:=by cases args;simp_all
 obtain⟨rfl,rfl⟩:=trodVars_none hV
 have k0:=h0
 have lt0:∀ x∈p0,x.block < W.heap.size:=by obtain⟨m,hm⟩:=k0;exact DataW.trod_lt m _ _ _ hm
 obtain⟨x0,o0,w0⟩:=Wvj (Θ:=Θ) (p:=.agg [.int .i64,.int .i64,.int .i64,.int .i64,.int .i64,.sl 89,.sl 78,.int .i64,.int .i64]) (by kernel_rfl) (hval 0 27 v0 rfl rfl) h0
 have k1:=h1
 have lt1:∀ x∈p1,x.block < W.heap.size:=by obtain⟨m,hm⟩:=k1;exact DataW.trod_lt m _ _ _ hm
 obtain⟨x1,o1,w1⟩:=Wvj (Θ:=Θ) (p:=.agg [.int .i64,.sl 53,.int .i64,.int .i64,.int .i64,.int .i64,.bool,.int .i64]) (by kernel_rfl) (hval 1 32 v1 rfl rfl) h1
 clear hA0 hval0 hsz0
 obtain⟨n,hn⟩:=Ev.some_at (Wl7 x0 x1 )
 have hst:(h_qba.st (T:=T) (x0.1,x0.2.1,x0.2.2.1,x0.2.2.2.1,x0.2.2.2.2.1,x0.2.2.2.2.2.1,x0.2.2.2.2.2.2.1,x0.2.2.2.2.2.2.2.1,x0.2.2.2.2.2.2.2.2,x1)).slots=[pdAV (.agg [.int .i64,.int .i64,.int .i64,.int .i64,.int .i64,.sl 89,.sl 78,.int .i64,.int .i64]) x0,pdAV (.agg [.int .i64,.sl 53,.int .i64,.int .i64,.int .i64,.int .i64,.bool,.int .i64]) x1]:=by kernel_rfl
 refine(law_ok (s_qba n) rfl rfl hn (hg:=fun p hp=>nomatch hp) (vs:=[v0,v1]) (@Eq.mpr _ _ (congrArg (fun s=>All2 (RAV Θ W (fun b=>b < W.heap.size) (fun _ _=>0) (fun _ _=>.slice none 0 0)) s [v0,v1]) hst) (.cons (Xcq o0) (.cons (Xcq o1) .nil)))).mono fun e W1 he=>?_
 obtain⟨rfl,bel⟩:=he
 exact⟨_,rfl,_,_,_,[],_,[],hW',trodAll_mk1 (shut_bool Tryz.underlying4 _),(trodAll_cons_mk (Below.trod laidOut (by kernel_rfl) (of_decide_eq_true (by kernel_rfl)) k0 bel lt0) (trodAll_cons_mk (Below.trod laidOut (by kernel_rfl) (of_decide_eq_true (by kernel_rfl)) k1 bel lt1) trodAll_mk0)),rfl,bel.frame _,fun h=>by cases h⟩
theorem Wcw{a b:Bool}(ha:a=true)(hb:b=true):(a&&b)=true:=by rw[ha,hb];rfl
theorem fact0:Rows.bandWindowsRow.wf (OpenSpec.ofChange Rows.bandWindowsSpec)=true:=by kernel_rfl
theorem fact1:laidOutB Tryz.prog=true:=by kernel_rfl
theorem fact2:mapsRowed Tryz.prog=true:=by kernel_rfl
theorem fact3:Tryz.f7.params.all (Tryz.prog.readableRec ·)=true:=by kernel_rfl
theorem fact4:namedTie Tryz.prog Rows.bandWindowsRow.named Rows.bandWindowsSpec.vars=true:=by kernel_rfl
theorem fact5:(Rows.bandWindowsRow.stops==[])=true:=by kernel_rfl
theorem fact6:(Tryz.prog.stops==[])=true:=by kernel_rfl
theorem fact7:(Rows.bandWindowsRow.knobs==[])=true:=by kernel_rfl
theorem fact8:(Tryz.prog.stopKnobs==[])=true:=by kernel_rfl
theorem fact9:(Rows.bandWindowsRow.inPlace==Tryz.prog.inPlace 7)=true:=by kernel_rfl
theorem fact10:(Rows.bandWindowsRow.unfollowed==Tryz.prog.unfollowed 7)=true:=by kernel_rfl
theorem fact11:(Rows.bandWindowsRow.recurses==Tryz.prog.recurses 7)=true:=by kernel_rfl
theorem fact12:(Rows.bandWindowsRow.named==Tryz.prog.varsNamed 7)=true:=by kernel_rfl
theorem fact13:(Rows.bandWindowsRow.maps==(Tryz.f7.params.toList++Rows.bandWindowsSpec.plain.varTypes Tryz.prog).any (Tryz.prog.mapsRec ·))=true:=by kernel_rfl
theorem fact14:(Rows.bandWindowsRow.ifaces==(Tryz.f7.params.toList++Rows.bandWindowsSpec.plain.varTypes Tryz.prog).any (Tryz.prog.ifacesRec ·))=true:=by kernel_rfl
theorem fact15:(Rows.bandWindowsRow.mapsOut==Tryz.prog.mapsAmong Tryz.f7.resultTypes.toList)=true:=by kernel_rfl
theorem fact16:(Rows.bandWindowsRow.loops==(Tryz.f7.params.toList++Rows.bandWindowsSpec.plain.varTypes Tryz.prog).any (Tryz.prog.loopsFrom ·))=true:=by kernel_rfl
theorem fact17:(Rows.bandWindowsRow.wideKeys==(Tryz.f7.params.toList++Rows.bandWindowsSpec.plain.varTypes Tryz.prog++Tryz.f7.resultTypes.toList).any (Tryz.prog.wideKeysFrom ·))=true:=by kernel_rfl
theorem fact18:Rows.bandWindowsSpec.vars.all (Tryz.prog.varReadable ·)=true:=by kernel_rfl
theorem fact19:Tryz.f7.resultTypes.all (fun t=>Tryz.prog.readableRec t&&decide (t < Tryz.prog.types.size))=true:=by kernel_rfl
theorem fact20:(Rows.bandWindowsRow.ifacesOut==Tryz.f7.resultTypes.toList.any (Tryz.prog.ifacesRec ·))=true:=by kernel_rfl
theorem fact21:(Rows.bandWindowsRow.loopsOut==Tryz.f7.resultTypes.toList.any (Tryz.prog.loopsFrom ·))=true:=by kernel_rfl
theorem fact22:(Rows.bandWindowsRow.plainKeys==Tryz.prog.plainKeys)=true:=by kernel_rfl
theorem fact23:Rows.bandWindowsRow.shortTexts.isNone=true:=by kernel_rfl
theorem fact24:Tryz.prog.stopsHeard=true:=by kernel_rfl
theorem fact25:Tryz.prog.mayEnter=true:=by kernel_rfl
theorem fact26:(Rows.bandWindowsRow.lifted==Tryz.prog.liftsFinal)=true:=by kernel_rfl
theorem fact27:(Tryz.prog.make==some Rows.bandWindowsRow.make)=true:=by kernel_rfl
theorem fact28:(Rows.bandWindowsRow.kinds==(if Rows.bandWindowsRow.domain.isEmpty then []else Tryz.f7.params.toList.map fun t=>match Tryz.prog.underlying t with | some (.int k)=>some k | _=>none))=true:=by kernel_rfl
theorem fact29:(Rows.bandWindowsRow.pinned==Rows.bandWindowsRow.pinnedBy)=true:=by kernel_rfl
theorem fact30:(Rows.bandWindowsRow.veiled==(Tryz.f7.params.toList++Rows.bandWindowsSpec.plain.varTypes Tryz.prog++Tryz.f7.resultTypes.toList).any (Tryz.prog.veiledRec ·))=true:=by kernel_rfl
theorem fact31:Rows.bandWindowsRow.veiledFits Tryz.prog Tryz.f7.params.toList (Tryz.f7.params.toList++Rows.bandWindowsSpec.plain.varTypes Tryz.prog++Tryz.f7.resultTypes.toList)=true:=by kernel_rfl
set_option maxRecDepth 100000 in
theorem closed:joinedFacts Tryz.prog 7 Tryz.f7 Rows.bandWindowsSpec Rows.bandWindowsRow=true:=by unfold joinedFacts;exact(Wcw (Wcw (Wcw (Wcw (Wcw (Wcw (Wcw (Wcw (Wcw (Wcw (Wcw (Wcw (Wcw (Wcw (Wcw (Wcw (Wcw (Wcw (Wcw (Wcw (Wcw (Wcw (Wcw (Wcw (Wcw (Wcw (Wcw (Wcw (Wcw (Wcw (Wcw fact0 fact1) fact2) fact3) fact4) fact5) fact6) fact7) fact8) fact9) fact10) fact11) fact12) fact13) fact14) fact15) fact16) fact17) fact18) fact19) fact20) fact21) fact22) fact23) fact24) fact25) fact26) fact27) fact28) fact29) fact30) fact31)
theorem named:Tryz.pinned.checked.prog.funcNamed Rows.bandWindowsRow.func=some 7:=by kernel_rfl
theorem instOk:Tryz.f7.isInstance Tryz.pinned.checked.prog Rows.bandWindowsRow.origin Rows.bandWindowsRow.targs:=of_decide_eq_true (by kernel_rfl)
theorem wrapOk:Tryz.f7.isWrapper Tryz.pinned.checked.prog Rows.bandWindowsRow.wrapper Rows.bandWindowsRow.mainSum:=by unfold Func.isWrapper;first | (rw[if_pos (by decide +kernel)];kernel_rfl) | (rw[if_neg (by decide +kernel)];exact⟨rfl,rfl⟩)
theorem over:Rows.bandWindowsRow.holds Tryz.pinned (OpenSpec.ofChange Rows.bandWindowsSpec):=
 OpenClaim.holds_of_wide 7 Tryz.f7 rfl rfl rfl rfl rfl rfl rfl ⟨rfl,rfl,rfl,rfl,rfl⟩ rfl rfl rfl rfl rfl named Tryz.func7 closed instOk wrapOk
  (fun os started H enc _=>lifted os started H enc)
theorem proved:Rows.BandWindowsSaid:=over
#print axioms proved
end Go.Proofs.YtalbenehgdkalaaGreat.bandWindows
namespace Go.Proofs.YtalbenehgdkalaaGreat
theorem bandWindows_holds:Rows.BandWindowsSaid:=bandWindows.proved
end Go.Proofs.YtalbenehgdkalaaGreat