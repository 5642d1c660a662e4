/- Code, loops, whole functions: the machine does what 'den' says. -/
import Derived.Test.YthkcpgiibmajhaaDenN
import Derived.LoopN
import Derived.Laws.Sem
namespace Go.Den
open Go Go.RowKit

/-- The machine's way out. -/
def Ex.exit_ : Ex → Exit
  | .normal => .normal
  | .exit i => .exit i
  | .ret => .ret
section
variable {C : Cx} {n : Nat} {w0 : World} {F0 : Nat → Prop}
theorem At.ext {s : St C.Θ.T} {a : Act} {W : World} (h0 : At C.Θ w0 F0 s a W) {h : Shape} {x : h.X C.Θ.T} (hx : h.ext s = some x) : At C.Θ w0 F0 (h.st x) a W := by
  obtain ⟨hd, bx, rw_, hS⟩ := h0
  obtain ⟨bx', rw', hS'⟩ := ext_ok hS hx
  exact ⟨hd, bx', rw', hS'⟩
/-- What must hold where a code ends, for 'den' to have said r. -/
def Ends {R : Type} (K : Ex → St C.Θ.T → Option R) (r : R) (w0 : World) (F0 : Nat → Prop) (Q : Exit → Act → World → Prop) : Prop :=
  ∀ e s a W, K e s = some r → At C.Θ w0 F0 s a W → Q e.exit_ a W
theorem joined_ok {R : Type} {p : Plan} {K : Ex → St C.Θ.T → Option R} {f : (Ex → St C.Θ.T → Option R) → Option R} {r : R} (h : joined C p K f = some r) {Q : Exit → Act → World → Prop} (hK : Ends K r w0 F0 Q) :
    ∃ K', f K' = some r ∧ Ends K' r w0 F0 Q := by
  unfold joined at h
  split at h
  · exact ⟨K, h, hK⟩
  · rename_i hsh _
    refine ⟨_, h, ?_⟩
    intro e s a W he h0
    cases e with
    | normal =>
      simp only at he
      split at he <;> try (cases he; done)
      rename_i x hx
      exact hK .normal _ a W he (h0.ext hx)
    | exit i => exact hK (.exit i) s a W he h0
    | ret => exact hK .ret s a W he h0
theorem same_eq {e e' : Ex} (h : e.same e' = true) : e = e' := by
  cases e <;> cases e' <;> simp_all [Ex.same]
theorem out_ok {R : Type} (K : Ex → St C.Θ.T → Option R) : ∀ (es : List (Ex × Shape)) (e : Ex) (s : St C.Θ.T) (y : Outs C.Θ.T es), outOf es e s = some y → ∃ h : Shape, ∃ x, h.ext s = some x ∧ outTo es K y = K e (h.st x) := by
  intro es
  induction es with
  | nil => intro e s y h; cases h
  | cons a es ih =>
    intro e s y h
    cases es with
    | nil =>
      have h' : (if a.1.same e = true then a.2.ext s else none : Option (a.2.X C.Θ.T)) = some y := h
      by_cases hs : a.1.same e = true
      · rw [if_pos hs] at h'
        exact ⟨a.2, y, h', by rw [← same_eq hs]; rfl⟩
      · rw [if_neg hs] at h'; cases h'
    | cons b es =>
      simp only [outOf] at h
      split at h
      · rename_i hs
        split at h <;> try (cases h; done)
        rename_i x hx
        cases h
        exact ⟨a.2, x, hx, by rw [← same_eq hs]; rfl⟩
      · split at h <;> try (cases h; done)
        rename_i z hz
        cases h
        obtain ⟨sh, x, h1, h2⟩ := ih e s z hz
        exact ⟨sh, x, h1, h2⟩
theorem exit_then {e : Ex} {next : Act → World → Prop} {Q : Exit → Act → World → Prop} {a : Act} {W : World} : Exit.then next Q e.exit_ a W = match e with
    | .normal => next a W
    | .exit i => Q (.exit i) a W
    | .ret => Q .ret a W := by cases e <;> rfl
theorem code_ok (hC : C.Ok) : ∀ (c : Code) {R : Type} (p : Plan) (s : St C.Θ.T) (K : Ex → St C.Θ.T → Option R) (r : R), codeC C n c p s K = some r → ∀ (a : Act) (W : World) (Q : Exit → Act → World → Prop), At C.Θ w0 F0 s a W → Ends K r w0 F0 Q → c.wp C.P Q a W := by
  intro c
  induction c with
  | skip =>
    intro R p s K r h a W Q h0 hK
    exact wp_skip (hK .normal s a W (by simpa only [codeC] using h) h0)
  | region id ops draw =>
    intro R p s K r hc a W Q h0 hK
    simp only [codeC] at hc
    obtain ⟨K', hj, hK'⟩ := joined_ok hc hK
    split at hj
    · cases hj
    · rename_i hdr
      rw [opsC_eq ops _ [] s _ (fun d b hb => by simp [look] at hb)] at hj
      cases ho : opsD C ops ops.toList s with
      | none => simp [ho] at hj
      | some s' =>
        simp only [ho, Option.bind_some] at hj
        cases draw with
        | true =>
          have hdr' : drawOk C ops = true := by simpa using hdr
          exact draw_ok hC hdr' h0 ho fun a' w' h' => hK' .normal s' a' w' hj h'
        | false =>
          exact wp_region (ops_ok hC _ _ s s' a W (range_map ops) h0 ho fun a' w' h' => hK' .normal s' a' w' hj h')
  | seq x y ihx ihy =>
    intro R p s K r h a W Q h0 hK
    simp only [codeC] at h
    obtain ⟨K', h, hK'⟩ := joined_ok h hK
    refine wp_seq (ihx _ s _ r h a W _ h0 ?_)
    intro e s' a' W' he h'
    rw [exit_then]
    cases e with
    | normal => exact ihy _ s' K' r he a' W' Q h' hK'
    | exit i => exact hK' (.exit i) s' a' W' he h'
    | ret => exact hK' .ret s' a' W' he h'
  | cond c x y ihx ihy =>
    intro R p s K r h a W Q h0 hK
    simp only [codeC] at h
    obtain ⟨K', h, hK'⟩ := joined_ok h hK
    split at h <;> try (cases h; done)
    rename_i t ht
    have hc : a.eval c = .bool t := by
      obtain ⟨hd, bx, rw_, hS⟩ := h0
      have := hS.ev a rfl c
      rw [ht] at this
      generalize a.eval c = u at this ⊢
      cases this
      rfl
    refine wp_cond hc ?_
    cases t with
    | true => exact ihx _ s K' r h a W Q h0 hK'
    | false => exact ihy _ s K' r h a W Q h0 hK'
  | block id c ih =>
    intro R p s K r h a W Q h0 hK
    simp only [codeC] at h
    obtain ⟨K', h, hK'⟩ := joined_ok h hK
    refine wp_block (ih _ s _ r h a W _ h0 ?_)
    intro e s' a' W' he h'
    cases e with
    | normal => exact hK' .normal s' a' W' he h'
    | exit i =>
      simp only at he
      simp only [Ex.exit_, Exit.inBlock]
      by_cases hi : i = id
      · rw [if_pos hi] at he ⊢
        exact hK' .normal s' a' W' he h'
      · rw [if_neg hi] at he ⊢
        exact hK' (.exit i) s' a' W' he h'
    | ret => exact hK' .ret s' a' W' he h'
  | loop c ih =>
    intro R p s K r h a W Q h0 hK
    simp only [codeC] at h
    split at h <;> try (cases h; done)
    rename_i hd es p
    split at h <;> try (cases h; done)
    rename_i x hx
    refine wp_loop_rounds n ?_
    have h0' := h0.ext hx
    revert h h0'
    generalize hL : (fun x => codeC C n c p (hd.st x) fun e s' => match e with
      | .normal => match hd.ext s' with
        | some x' => some (.inl x')
        | none => none
      | .exit i => match outOf es (.exit i) s' with
        | some y => some (.inr y)
        | none => none
      | .ret => match outOf es .ret s' with
        | some y => some (.inr y)
        | none => none : hd.X C.Θ.T → Option (hd.X C.Θ.T ⊕ Outs C.Θ.T es)) = L
    have key : ∀ (m : Nat) (x : hd.X C.Θ.T) (a : Act) (W : World), (iterL m L x).bind (outTo es K) = some r → At C.Θ w0 F0 (hd.st x) a W → Code.rounds C.P c Q m a W := by
      intro m
      induction m with
      | zero => intro x a W h _; cases h
      | succ m ihm =>
        intro x a W h h0
        rw [rounds_succ]
        simp only [iterL] at h
        cases hz : L x with
        | none => simp [hz] at h
        | some z =>
          simp only [hz, Option.bind_some] at h
          rw [← hL] at hz
          refine ih p (hd.st x) _ z hz a W _ h0 ?_
          intro e s' a' W' he h'
          rw [exit_then]
          cases e with
          | normal =>
            simp only at he
            split at he <;> try (cases he; done)
            rename_i x' hx'
            cases he
            exact ihm x' a' W' h (h'.ext hx')
          | exit i =>
            simp only at he
            split at he <;> try (cases he; done)
            rename_i y hy
            cases he
            obtain ⟨sh, x', h1, h2⟩ := out_ok K es (.exit i) s' y hy
            simp only [Option.bind_some] at h
            rw [h2] at h
            exact hK (.exit i) _ a' W' h (h'.ext h1)
          | ret =>
            simp only at he
            split at he <;> try (cases he; done)
            rename_i y hy
            cases he
            obtain ⟨sh, x', h1, h2⟩ := out_ok K es .ret s' y hy
            simp only [Option.bind_some] at h
            rw [h2] at h
            exact hK .ret _ a' W' h (h'.ext h1)
    exact fun h h0' => key n x a W h h0'
  | exit id =>
    intro R p s K r h a W Q h0 hK
    exact wp_exit (hK (.exit id) s a W (by simpa only [codeC] using h) h0)
  | ret =>
    intro R p s K r h a W Q h0 hK
    exact wp_ret (hK .ret s a W (by simpa only [codeC] using h) h0)
  | rangeFunc f ps a b iha ihb => intro R p s K r h; simp [codeC] at h
  | scope b ih => intro R p s K r h; simp [codeC] at h
  | label l => intro R p s K r h; simp [codeC] at h
  | goto l => intro R p s K r h; simp [codeC] at h
  | refuse w => intro R p s K r h; simp [codeC] at h
/-! ### A function -/
theorem loadVar_of {P : Program} {t : TypeId} {u r : Value} {W : World} (h : (Instr.loadAt t u).run P W = .ok r W) : (do loadVar t (← asAddr u) : Sem Value).run P W = .ok r W := by
  unfold Instr.loadAt Instr.sureAddr at h
  split at h
  · simpa [asAddr] using h
  · simp [stuck] at h
def resSem (tm : Array Value) (r : ResultVar) : Sem Value := match r with
  | .tmp t => pure (tm.getD t undef)
  | .cell a t => do loadVar t (← asAddr (tm.getD a undef))
theorem results_eq (fn : Func) (tm : Array Value) : results fn tm = (do let vs ← fn.results.toList.mapM (resSem tm); pure (if h : vs.toArray.size = 1 then vs.toArray[0] else .tuple vs.toArray)) := by
  unfold results
  rw [Array.mapM_eq_mapM_toList]
  have : (fun r : ResultVar => (match r with | .tmp t => pure (tm.getD t undef) | .cell a t => do loadVar t (← asAddr (tm.getD a undef)) : Sem Value)) = resSem tm := by
    funext r; cases r <;> rfl
  rw [bind_map_left]
  congr 1
theorem results_ok {s : St C.Θ.T} {tm : Array Value} {W : World} {bx : Nat → Nat → Nat} {rw_ : Nat → Nat → Value} (hS : Sim C.Θ w0 F0 s tm W bx rw_) {F' : Nat → Prop} (hF : ∀ b, FF w0 F0 s bx rw_ W b → F' b) (hrow : ∀ r R b, look s.rows r = some R → (rw_ r R.gen).ownBlock = some b → F' b) :
    ∀ (l : List ResultVar) (rds : List PD) (y : HT (PD.Ty C.Θ.T) rds), HT.get s.pget rds (l.map (resultAV C s)) = some y →
    ∃ us : List Value, (l.mapM (resSem tm)).run C.P W = .ok us W ∧ us.length = l.length ∧ All2 (RelP C.Θ W F') (sig C.Θ rds y) us := by
  have one : ∀ (rv : ResultVar) (pd : PD) (x : pd.Ty C.Θ.T), s.pget pd (resultAV C s rv) = some x → ∃ u, (resSem tm rv).run C.P W = .ok u W ∧ RelP C.Θ W F' ⟨pd, x⟩ u := by
    intro rv pd x h
    cases rv with
    | tmp t => exact ⟨_, rfl, pget_ok hS hF h (hS.slots t) fun q hq R b hR hb => hrow _ R b hR hb⟩
    | cell a t =>
      simp only [resultAV] at h
      split at h
      · rename_i v hv
        obtain ⟨u, h1, h2⟩ := load_ok (P := C.P) hS hv (hS.slots a)
        exact ⟨u, loadVar_of h1, pget_ok hS hF h h2 fun q hq R b hR hb => hrow _ R b hR hb⟩
      · exact absurd h (by cases pd <;> (intro hh; cases hh))
  intro l
  induction l with
  | nil =>
    intro rds y h
    have := HT.get_len _ _ _ _ h
    cases rds with
    | nil => exact ⟨[], by simp, rfl, .nil⟩
    | cons c cs => simp at this
  | cons rv l ih =>
    intro rds y h
    have hlen := HT.get_len _ _ _ _ h
    cases rds with
    | nil => simp at hlen
    | cons pd rds =>
      simp only [List.map_cons] at h
      cases rds with
      | nil =>
        cases l with
        | cons c2 cs => simp at hlen
        | nil =>
          simp only [List.map_nil] at h
          rw [HT.get_one] at h
          obtain ⟨u, h1, h2⟩ := one rv pd y h
          exact ⟨[u], by simp [List.mapM_cons, h1], rfl, .cons h2 .nil⟩
      | cons pd2 rds =>
        rw [HT.get_cons] at h
        split at h <;> try (cases h; done)
        rename_i x hx
        split at h <;> try (cases h; done)
        rename_i xs hxs
        cases h
        obtain ⟨u, h1, h2⟩ := one rv pd x hx
        obtain ⟨us, h3, h4, h5⟩ := ih (pd2 :: rds) xs hxs
        exact ⟨u :: us, by simp [List.mapM_cons, h1, h3], by simp [h4], .cons h2 h5⟩
theorem sig_len (ps : List PD) (x : HT (PD.Ty C.Θ.T) ps) : (sig C.Θ ps x).length = ps.length := HT.length_list _ _ _
theorem entry_at {w : World} {F : Nat → Prop} (hF : ∀ b, F b → b < w.heap.size) {fn : Func} {pds : List PD} {x : HT (PD.Ty C.Θ.T) pds} {vs : List Value} (hvs : All2 (RelP C.Θ w F) (sig C.Θ pds x) vs) :
    At C.Θ w F (entry C fn pds x) { tmps := vs.toArray ++ Array.replicate (fn.ntmps - vs.toArray.size) undef, defers := [] } w := by
  have hl : vs.length = pds.length := by rw [← hvs.length, sig_len]
  refine ⟨rfl, fun _ _ => 0, fun _ _ => .slice none 0 0, ⟨rfl, rfl, rfl, Nat.le_refl _, fun _ _ => rfl⟩, fun _ _ => ⟨_, _, _, rfl⟩, fun k B h => by simp [entry, look] at h, fun r R h => by simp [entry, look] at h, fun k B k' B' h => by simp [entry, look] at h,
    fun r R r' R' b h => by simp [entry, look] at h, fun k B r R h => by simp [entry, look] at h, ?_, fun i => ?_⟩
  · simp [entry, HT.length_list, hl]
  · have hFF : ∀ b, F b → FF w F (entry C fn pds x) (fun _ _ => 0) (fun _ _ => .slice none 0 0) w b := fun b hb => ⟨.inl hb, hF b hb, by rintro (⟨k, B, h, _⟩ | ⟨r, R, h, _⟩) <;> simp [entry, look] at h⟩
    have hp : All2 (RAV C.Θ w (FF w F (entry C fn pds x) (fun _ _ => 0) (fun _ _ => .slice none 0 0) w) (fun _ _ => 0) (fun _ _ => .slice none 0 0)) ((HT.list pdAV pds x).map sumAV) vs := by
      rw [list_sig]
      exact sums_args (All2.map_left (hvs.mono fun q u hq => pdAV_ok (relP_mono hFF (fun _ _ => rfl) hq)))
    have hpl : ((HT.list pdAV pds x).map sumAV).length = vs.length := hp.length
    unfold entry St.at_
    simp only
    rw [List.getD_eq_getElem?_getD]
    by_cases hi : i < vs.length
    · rw [List.getElem?_append_left (by omega)]
      have e2 : (vs.toArray ++ Array.replicate (fn.ntmps - vs.toArray.size) undef).getD i undef = vs[i] := by
        simp [Array.getD_eq_getD_getElem?, Array.getElem?_append_left, hi]
      obtain ⟨v, h1, h2⟩ := hp.get' i (List.getElem?_eq_getElem hi)
      rw [h1, e2]
      exact h2
    · rw [List.getElem?_append_right (by omega)]
      cases hq : (List.replicate (fn.ntmps - pds.length) (AV.undef : AV C.Θ.T))[i - ((HT.list pdAV pds x).map sumAV).length]? with
      | none => exact trivial
      | some v =>
        have := List.mem_of_getElem? hq
        rw [List.mem_replicate] at this
        rw [this.2]
        exact trivial
/-- A function does what 'den' says of its code. -/
theorem func_ok' (hC : C.Ok) {g : FuncId} {fn : Func} {p : Plan} {pds rds : List PD} {F : HT (PD.Ty C.Θ.T) pds → Option (HT (PD.Ty C.Θ.T) rds)} (hf : C.P.funcs[g]? = some fn) (hname : (fn.name == "runtime.NumGoroutine") = false)
    (h : ∀ x, denF C n fn p pds rds x = F x) (hb : fn.body.isSome = true) : PCalls C.P C.Θ g ⟨pds, rds, F⟩ := by
  obtain ⟨c, hb⟩ := Option.isSome_iff_exists.1 hb
  refine ⟨Go.Proofs.enters_of hf hname hb, ?_⟩
  intro x y hy w F1 vs hF hvs
  have hy : denF C n fn p pds rds x = some y := by rw [h]; exact hy
  unfold denF at hy
  simp only [hb] at hy
  refine calls_of_wp hf hb (code_ok hC c p _ _ y hy _ w _ (entry_at hF hvs) ?_)
  intro e s a W he h0
  obtain ⟨hd, bx, rw_, hS⟩ := h0
  have fin : ∀ hh : handsBack C fn rds s = some y, a.defers = [] ∧ ∃ v, (results fn a.tmps).run C.P W = .ok v W ∧
      (∃ u, Ending.returned v = .returned u ∧ RelRes C.Θ W (fun b => (F1 b ∨ w.heap.size ≤ b) ∧ b < W.heap.size) (sig C.Θ rds y) u ∧ Below w.heap.size w W) := by
    intro hh
    refine ⟨hd, ?_⟩
    obtain ⟨us, h1, h2, h3⟩ := results_ok hS (F' := fun b => (F1 b ∨ w.heap.size ≤ b) ∧ b < W.heap.size) (fun b hb => ⟨hb.1, hb.2.1⟩) (fun r R b hR hb => ⟨.inr (Sim.rowlt hS hR hb).1, (Sim.rowlt hS hR hb).2⟩) _ _ y hh
    have hr : (results fn a.tmps).run C.P W = .ok (if h : us.toArray.size = 1 then us.toArray[0] else .tuple us.toArray) W := by
      rw [results_eq, Sem.run_bind, h1]
      rfl
    refine ⟨_, hr, _, rfl, ?_, hS.below⟩
    revert h3
    generalize sig C.Θ rds y = l
    intro h3
    cases h3 with
    | nil => exact ⟨[], rfl, .nil⟩
    | cons a t =>
      cases t with
      | nil => exact a
      | cons b t => exact ⟨_, rfl, .cons a (.cons b t)⟩
  cases e with
  | exit i => cases he
  | normal => exact fin he
  | ret => exact fin he
end
end Go.Den
