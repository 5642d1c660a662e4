/- Operations that only compute or read: what 'den' says of them is what the machine does. -/
import Derived.Test.YtemhdliapelleaaDenC
import Derived.Laws.Cells
import Derived.Laws.Strings
namespace Go.Den
open Go Go.RowKit

section
variable {Θ : Tab} {E : Env} {s : St Θ.T} {tm : Array Value} {W : World} {bx : Nat → Nat → Nat} {rw_ : Nat → Nat → Value} {P : Program} {F : Nat → Prop}

theorem rav_int {k : IntKind} {n : Int} {u : Value} (h : RAV Θ W F bx rw_ (.c (.v (.int k n))) u) : u = .int k n := rcv_int (bx := bx) (rw_ := rw_) h
theorem rav_bool {b : Bool} {u : Value} (h : RAV Θ W F bx rw_ (.c (.v (.bool b))) u) : u = .bool b := rcv_bool (bx := bx) (rw_ := rw_) h
theorem rav_str {b : ByteArray} {u : Value} (h : RAV Θ W F bx rw_ (.c (.v (.str b))) u) : u = .string b := rcv_str (bx := bx) (rw_ := rw_) h
theorem sizeT_ok {t n : Nat} (h : sizeT P t = some n) : ∃ i, P.info? t = some i ∧ i.size = n := by
  unfold sizeT at h
  cases hi : P.info? t with
  | none => simp [hi] at h
  | some i => exact ⟨i, rfl, by simpa [hi] using h⟩
theorem isAgg_run {t : TypeId} {b : Bool} (h : isAggT P t = some b) : (isAgg t).run P W = .ok b W := by
  unfold isAggT at h
  cases hu : P.underlying t with
  | none => simp [hu] at h
  | some d => cases d <;> simp [hu] at h <;> subst h <;> simp [isAgg, run_underlying hu]
theorem fieldOff_ok {t : TypeId} {f off ft n : Nat} (h : fieldOff P t f = some (off, ft, n)) :
    ∃ fs d i, P.underlying t = some (.struct fs) ∧ fs[f]? = some d ∧ P.info? d.type = some i ∧ i.size ≠ 0 ∧ d.offset = off ∧ d.type = ft ∧ i.size = n := by
  unfold fieldOff at h
  split at h <;> try (cases h; done)
  rename_i fs hu
  split at h <;> try (cases h; done)
  rename_i d hd
  split at h <;> try (cases h; done)
  rename_i i hi
  split at h <;> try (cases h; done)
  rename_i hz
  cases h
  exact ⟨fs, d, i, hu, hd, hi, hz, rfl, rfl, rfl⟩
theorem ofCells_ok {t : TypeId} {cs : List (CV Θ.T)} {v : AV Θ.T} (h : ofCells P t cs = some v) :
    (isAggT P t = some true ∧ v = .agg cs) ∨ (isAggT P t = some false ∧ ∃ c, cs = [c] ∧ v = .c c) := by
  unfold ofCells at h
  split at h
  · cases h; exact .inl ⟨by assumption, rfl⟩
  · split at h
    · cases h; exact .inr ⟨by assumption, _, rfl, rfl⟩
    · cases h
  · cases h

theorem un_ok {op : UnOp} {x : AV Θ.T} {u : Value} {c : Bool} {v : AV Θ.T} (h : vUn op x = some (c, v)) (hr : RAV Θ W F bx rw_ x u) :
    ∃ r, (Op.unary op u).run P W = .ok r W ∧ RAV Θ W F bx rw_ v r := by
  unfold vUn at h
  split at h <;> try (cases h; done)
  · rename_i k n
    split at h <;> try (cases h; done)
    cases h
    rw [rav_int hr]
    exact ⟨_, by simp [Op.unary, Op.intArith]; rfl, by rw [wr_eq, Int.zero_sub]; exact .int _ _⟩
  · rename_i b
    split at h <;> try (cases h; done)
    cases h
    rw [rav_bool hr]
    exact ⟨_, by simp [Op.unary], .bool _⟩
theorem eq_slice (d : Nat) (t e : TypeId) (A : Option Addr) (n c m k : Nat) (hu : P.underlying t = some (.slice e)) : (Op.equalIn (d + 1) t (.slice A n c) (.slice none m k)).run P W = .ok A.isNone W := by
  cases A <;> simp [Op.equalIn, run_underlying hu]
theorem eq_ptr (d : Nat) (t e : TypeId) (A : Option Addr) (hu : P.underlying t = some (.pointer e)) : (Op.equalIn (d + 1) t (.pointer A) (.pointer none)).run P W = .ok A.isNone W := by
  cases A <;> simp [Op.equalIn, run_underlying hu]
theorem bin_ok {eqs : List TypeId} (he : ∀ t ∈ eqs, EqT P t) {op : BinOp} {t : TypeId} {x y : AV Θ.T} {a b : Value} {ox oy : Operand} {v : AV Θ.T} (h : vBin P Θ eqs op t x y = some (true, v))
    (hx : RAV Θ W F bx rw_ x a) (hy : RAV Θ W F bx rw_ y b) :
    ∃ r, (do eqGuard op t ox oy a b; binOp op t a b : Sem Value).run P W = .ok r W ∧ RAV Θ W F bx rw_ v r := by
  unfold vBin at h
  split at h <;> try (cases h; done)
  · rename_i k m k' m'
    rw [rav_int hx, rav_int hy]
    split at h
    · cases hs : shift2 (T := Θ.T) op k m m' with
      | none => simp [hs] at h
      | some q =>
        obtain ⟨q1, q2⟩ := q
        simp [hs] at h
        obtain ⟨rfl, rfl⟩ := h
        obtain ⟨h1, h2⟩ := run_shift2 (P := P) (W := W) (t := t) (x := ox) (y := oy) (k' := k') hs rfl
        exact ⟨_, h1, rcv_flat h2⟩
    · split at h <;> try (cases h; done)
      rename_i hk
      subst hk
      cases hs : int2 (T := Θ.T) op k m m' with
      | none => simp [hs] at h
      | some q =>
        obtain ⟨q1, q2⟩ := q
        simp [hs] at h
        obtain ⟨rfl, rfl⟩ := h
        obtain ⟨h1, h2⟩ := run_int2 (P := P) (W := W) (t := t) (x := ox) (y := oy) hs rfl
        exact ⟨_, h1, rcv_flat h2⟩
  · rename_i m m'
    rw [rav_bool hx, rav_bool hy]
    split at h <;> try (cases h; done)
    rename_i hu
    split at h <;> try (cases h; done)
    all_goals
      cases h
      have he : (Op.equal t (.bool m) (.bool m')).run P W = .ok (m == m') W := run_equalIn_bool' W 9999 t m m' hu
      exact ⟨_, by simp [eqGuard, binOp, he], .bool _⟩
  · rename_i m m'
    rw [rav_str hx, rav_str hy]
    cases hs : str2 (T := Θ.T) op m m' with
    | none => simp [hs] at h
    | some q =>
      obtain ⟨q1, q2⟩ := q
      simp [hs] at h
      obtain ⟨rfl, rfl⟩ := h
      obtain ⟨h1, h2⟩ := run_str2 (P := P) (W := W) (t := t) (x := ox) (y := oy) hs rfl
      exact ⟨_, h1, rcv_flat h2⟩
  · rename_i e l
    split at h <;> try (cases h; done)
    rename_i e' hu
    split at h <;> try (cases h; done)
    cases h
    have hy' : b = .slice none 0 0 := hy
    subst hy'
    have hx' : Rep Θ W F a (.sl e l) := hx
    cases hx' with
    | sl _ _ A n cap us hn hc hz hA hr =>
      cases A with
      | none =>
        have hs : (Op.equal t (.slice none n cap) (.slice none 0 0)).run P W = .ok true W := eq_slice 9999 t _ none n cap 0 0 hu
        refine ⟨_, by simp [eqGuard, binOp, hs], true, rfl, fun he => ?_⟩
        have h0 := hz rfl
        have : l = [] := List.eq_nil_of_length_eq_zero (by omega)
        subst this
        simp at he
      | some ad =>
        have hs : (Op.equal t (.slice (some ad) n cap) (.slice none 0 0)).run P W = .ok false W := eq_slice 9999 t _ (some ad) n cap 0 0 hu
        exact ⟨_, by simp [eqGuard, binOp, hs], false, rfl, fun _ => rfl⟩
  · split at h <;> try (cases h; done)
    rename_i e' hu
    have hx' : a = .slice none 0 0 := hx
    have hy' : b = .slice none 0 0 := hy
    subst hx' hy'
    have hs : (Op.equal t (.slice none 0 0) (.slice none 0 0)).run P W = .ok true W := eq_slice 9999 t _ none 0 0 0 0 hu
    split at h <;> try (cases h; done)
    all_goals
      cases h
      exact ⟨_, by simp [eqGuard, binOp, hs], .bool _⟩
  · split at h <;> try (cases h; done)
    rename_i e' hu
    have hx' : a = .pointer none := hx
    have hy' : b = .pointer none := hy
    subst hx' hy'
    have hs : (Op.equal t (.pointer none) (.pointer none)).run P W = .ok true W := eq_ptr 9999 t _ none hu
    split at h <;> try (cases h; done)
    all_goals
      cases h
      exact ⟨_, by simp [eqGuard, binOp, hs], .bool _⟩
  · split at h <;> try (cases h; done)
    rename_i e' hu
    have hy' : b = .pointer none := hy
    subst hy'
    cases hx
    have hs : ∀ ad, (Op.equal t (.pointer (some ad)) (.pointer none)).run P W = .ok false W := fun ad => eq_ptr 9999 t _ (some ad) hu
    split at h <;> try (cases h; done)
    all_goals
      cases h
      exact ⟨_, by simp [eqGuard, binOp, hs], .bool _⟩
  · split at h <;> try (cases h; done)
    rename_i e' hu
    have hy' : b = .pointer none := hy
    subst hy'
    obtain ⟨bb, n, cap, _, _, _, rfl⟩ := hx
    have hs : ∀ ad, (Op.equal t (.pointer (some ad)) (.pointer none)).run P W = .ok false W := fun ad => eq_ptr 9999 t _ (some ad) hu
    split at h <;> try (cases h; done)
    all_goals
      cases h
      exact ⟨_, by simp [eqGuard, binOp, hs], .bool _⟩
  · rename_i as bs
    obtain ⟨us, rfl, hu⟩ := hx
    obtain ⟨vs, rfl, hv⟩ := hy
    split at h <;> try (cases h; done)
    rename_i hc
    simp only [Bool.and_eq_true, List.contains_iff_mem, beq_iff_eq] at hc
    have hl : (P.info? t).map (·.size) = some us.length := by rw [← hu.length]; exact hc.2
    have hkv := kindsV_of _ _ _ hc.1.2 hu
    split at h <;> try (cases h; done)
    · cases hq : eqCells as bs with
      | none => simp [hq] at h
      | some r =>
        simp [hq] at h
        subst h
        exact ⟨_, (he t hc.1.1).eql us vs r ox oy W hl hkv (eqVals_of as bs r us vs hq hu hv), .bool _⟩
    · cases hq : eqCells as bs with
      | none => simp [hq] at h
      | some r =>
        simp [hq] at h
        subst h
        exact ⟨_, (he t hc.1.1).neq us vs r ox oy W hl hkv (eqVals_of as bs r us vs hq hu hv), .bool _⟩
theorem conv_ok {src dst : TypeId} {x : AV Θ.T} {u : Value} {c : Bool} {v : AV Θ.T} (h : vConv P Θ src dst x = some (c, v)) (hr : RAV Θ W F bx rw_ x u) :
    ∃ r, (convert src dst u).run P W = .ok r W ∧ RAV Θ W F bx rw_ v r := by
  unfold vConv at h
  split at h <;> try (cases h; done)
  · split at h <;> try (cases h; done)
    rename_i hs hd
    cases h
    rw [rav_int hr]
    exact ⟨_, by simp [convert, run_underlying hs, run_underlying hd, Conv.intToInt]; rfl, by rw [wr_eq]; exact .int _ _⟩
  · split at h <;> try (cases h; done)
    rename_i d hs hd
    cases h
    rw [rav_str hr]
    exact ⟨_, by simp [convert, run_underlying hs, run_underlying hd], .str _⟩
theorem extract_ok {i : Nat} {x : AV Θ.T} {u : Value} {c : Bool} {v : AV Θ.T} (h : vExtract i x = some (c, v)) (hr : RAV Θ W F bx rw_ x u) :
    ∃ r, (Instr.extract u i).run P W = .ok r W ∧ RAV Θ W F bx rw_ v r := by
  unfold vExtract at h
  split at h <;> try (cases h; done)
  rename_i l
  obtain ⟨us, rfl, ha⟩ := hr
  split at h <;> try (cases h; done)
  all_goals
    rename_i hi
    cases h
    obtain ⟨b, hb, hr⟩ := ha.get _ hi
    exact ⟨b, by simp [Instr.extract, hb], hr⟩
theorem nil_ok {x : AV Θ.T} {u : Value} {c : Bool} {v : AV Θ.T} (h : vNil x = some (c, v)) (hr : RAV Θ W F bx rw_ x u) : v = x ∧ ∃ ad, u = .pointer (some ad) := by
  unfold vNil at h
  split at h <;> try (cases h; done)
  · cases h; cases hr; exact ⟨rfl, _, rfl⟩
  · cases h; obtain ⟨ad, rfl, _⟩ := hr; exact ⟨rfl, _, rfl⟩
  · cases h; obtain ⟨b, n, cap, _, _, _, rfl⟩ := hr; exact ⟨rfl, _, rfl⟩
theorem fieldAddr_ok {t : TypeId} {f : Nat} {x : AV Θ.T} {u : Value} {c : Bool} {v : AV Θ.T} (h : vFieldAddr P t f x = some (c, v)) (hr : RAV Θ W F bx rw_ x u) :
    ∃ r, (Instr.fieldAt t u f).run P W = .ok r W ∧ RAV Θ W F bx rw_ v r := by
  unfold vFieldAddr at h
  split at h <;> try (cases h; done)
  rename_i off ft n hf
  cases hm : moved off x with
  | none => simp [hm] at h
  | some q =>
    simp [hm] at h
    obtain ⟨rfl, rfl⟩ := h
    obtain ⟨ad, rfl, hs, hr'⟩ := moved_ok hm hr
    obtain ⟨fs, d, i, hu, hd, hi, hz, rfl, rfl, rfl⟩ := fieldOff_ok hf
    exact ⟨_, by simp [Instr.fieldAt, run_underlying hu, hd, Instr.sureAddr, fieldPlace, sizeOf, typeInfo, hi, hz], hr'⟩
theorem part_ok {t : TypeId} {i : TypeInfo} {us : List Value} {off : Nat} {cs : List (CV Θ.T)} {v : AV Θ.T} (hi : P.info? t = some i) (h : ofCells P t ((cs.drop off).take i.size) = some v) 
    (ha : All2 (RCV Θ W F bx rw_) cs us) : ∃ r, (part t us.toArray off).run P W = .ok r W ∧ RAV Θ W F bx rw_ v r := by
  have hd := (ha.drop off).take i.size
  rcases ofCells_ok h with ⟨h1, rfl⟩ | ⟨h1, c, hc, rfl⟩
  · refine ⟨.agg (us.toArray.extract off (off + i.size)), by simp [part, isAgg_run h1, sizeOf, typeInfo, hi], (us.drop off).take i.size, ?_, hd⟩
    congr 1
    apply Array.ext'
    simp
  · rw [hc] at hd
    obtain ⟨b, hb, hr⟩ := hd.get 0 (a := c) (by simp)
    refine ⟨b, ?_, hr⟩
    have hb' : us[off]? = some b := by
      rw [List.getElem?_take] at hb
      split at hb
      · simpa using hb
      · cases hb
    simp [part, isAgg_run h1, hb']
theorem field_ok {t : TypeId} {f : Nat} {x : AV Θ.T} {u : Value} {c : Bool} {v : AV Θ.T} (h : vField P t f x = some (c, v)) (hr : RAV Θ W F bx rw_ x u) :
    ∃ r, (Instr.field t u f).run P W = .ok r W ∧ RAV Θ W F bx rw_ v r := by
  unfold vField at h
  split at h <;> try (cases h; done)
  rename_i cs
  split at h <;> try (cases h; done)
  rename_i off ft n hf
  split at h <;> try (cases h; done)
  rename_i hle
  cases hm : ofCells P ft ((cs.drop off).take n) with
  | none => simp [hm] at h
  | some q =>
    simp [hm] at h
    obtain ⟨rfl, rfl⟩ := h
    obtain ⟨us, rfl, ha⟩ := hr
    obtain ⟨fs, d, i, hu, hd, hi, hz, rfl, rfl, rfl⟩ := fieldOff_ok hf
    obtain ⟨r, h1, h2⟩ := part_ok hi hm ha
    exact ⟨r, by simp [Instr.field, run_underlying hu, hd, asAgg, h1], h2⟩
theorem load_ok (hS : Sim Θ E s tm W bx rw_) {t : TypeId} {x : AV Θ.T} {u : Value} {c : Bool} {v : AV Θ.T} (h : vLoad P Θ s t x = some (c, v)) (hr : RAV Θ W (FF E s bx rw_ W) bx rw_ x u) :
    ∃ r, (Instr.loadAt t u).run P W = .ok r W ∧ RAV Θ W (FF E s bx rw_ W) bx rw_ v r := by
  unfold vLoad at h
  split at h <;> try (cases h; done)
  rename_i n hn
  split at h <;> try (cases h; done)
  rename_i cs hcs
  split at h <;> try (cases h; done)
  rename_i hle
  obtain ⟨i, hi, rfl⟩ := sizeT_ok hn
  obtain ⟨ad, us, rfl, ha, hc⟩ := cellsAt_ok hS hcs hr
  cases hm : ofCells P t (cs.take i.size) with
  | none => simp [hm] at h
  | some q =>
    simp [hm] at h
    obtain ⟨rfl, rfl⟩ := h
    have hd := ha.take i.size
    have hl : (us.take i.size).length = i.size := by rw [List.length_take, ← ha.length]; omega
    rcases ofCells_ok hm with ⟨h1, rfl⟩ | ⟨h1, c, hc', rfl⟩
    · refine ⟨.agg (us.take i.size).toArray, ?_, us.take i.size, rfl, hd⟩
      have := run_loadCells_list (P := P) (w := W) ad (us.take i.size) (fun j v hj => hc j v (by
        rw [List.getElem?_take] at hj
        split at hj
        · exact hj
        · cases hj))
      rw [hl] at this
      simp [Instr.loadAt, Instr.sureAddr, loadVar, isAgg_run h1, sizeOf, typeInfo, hi, this]
    · rw [hc'] at hd
      obtain ⟨b, hb, hr⟩ := hd.get 0 (a := c) (by simp)
      refine ⟨b, ?_, hr⟩
      have hb' : W.cell? ad = some b := by
        have := hc 0 b (by
          rw [List.getElem?_take] at hb
          split at hb
          · exact hb
          · cases hb)
        simpa [Addr.add] using this
      simp [Instr.loadAt, Instr.sureAddr, loadVar, isAgg_run h1, hb']
theorem inB_ok {i : Int} {n : Nat} (h : inB i n = true) : 0 ≤ i ∧ i < (n : Int) := by simpa [inB] using h
theorem indexAddr_ok (hS : Sim Θ E s tm W bx rw_) {t : TypeId} {x y : AV Θ.T} {u i : Value} {v : AV Θ.T} (h : vIndexAddr P Θ s t x y = some (true, v)) (hx : RAV Θ W (FF E s bx rw_ W) bx rw_ x u)
    (hy : RAV Θ W (FF E s bx rw_ W) bx rw_ y i) :
    ∃ r, (Instr.indexAt t u i).run P W = .ok r W ∧ RAV Θ W (FF E s bx rw_ W) bx rw_ v r := by
  unfold vIndexAddr at h
  split at h <;> try (cases h; done)
  rename_i k j
  rw [rav_int hy]
  split at h <;> try (cases h; done)
  · rename_i e hu
    split at h <;> try (cases h; done)
    rename_i hz
    obtain ⟨inf, hi, hz'⟩ := sizeT_ok hz
    split at h <;> try (cases h; done)
    · rename_i e' l
      split at h <;> try (cases h; done)
      rename_i he
      simp only [Option.some.injEq, Prod.mk.injEq] at h
      obtain ⟨hb, rfl⟩ := h
      subst he
      obtain ⟨h0, h1⟩ := inB_ok hb
      cases hx with
      | sl _ _ A n cap us hn _ _ hA hr =>
        have hne : l ≠ [] := by intro h'; subst h'; simp at h1; omega
        obtain ⟨ad, rfl, hs, hf, hc⟩ := hA hne
        have hin : j.toNat < l.length := by omega
        refine ⟨.pointer (some (ad.add (j.toNat * Θ.sz e))), ?_, ad.add (j.toNat * Θ.sz e), rfl, add_spot hs _, fun hne => by rw [Addr.add_block]; exact hf (by rw [← Θ.length_enc e (elAt Θ e l j)]; exact List.length_pos_iff.2 hne), fun q y hy => ?_⟩
        · have hc1 : 0 ≤ j ∧ j < (n : Int) := ⟨h0, by omega⟩
          simp [Instr.indexAt, asIntOf, run_underlying hu, hc1, sizeOf, typeInfo, hi, hz']
        · have hq : q < Θ.sz e := by
            have := (List.getElem?_eq_some_iff.1 hy).1
            rwa [Θ.length_enc] at this
          exact ⟨us j.toNat q, by rw [add_add hs]; exact hc j.toNat q hin hq, hr j.toNat q _ y (elAt_get h0 h1) hy⟩
    · rename_i r g
      split at h <;> try (cases h; done)
      rename_i R hR
      split at h <;> try (cases h; done)
      rename_i hg
      split at h <;> try (cases h; done)
      rename_i he
      simp only [Option.some.injEq, Prod.mk.injEq] at h
      obtain ⟨hb, rfl⟩ := h
      subst hg
      subst he
      obtain ⟨h0, h1⟩ := inB_ok hb
      have hx' : u = rw_ r R.gen := hx
      subst hx'
      obtain ⟨_, us, hown, ha⟩ := hS.rows r R hR
      obtain ⟨b, cap, hv, _⟩ := hown.form.2 (by omega)
      · refine ⟨.pointer (some ((⟨b, 0, none⟩ : Addr).add (j.toNat * Θ.sz R.e))), ?_, b, R.l.length, cap, hv, h0, h1, by rw [plain_add]; simp⟩
        have hc1 : 0 ≤ j ∧ j < (R.l.length : Int) := ⟨h0, h1⟩
        simp [Instr.indexAt, asIntOf, run_underlying hu, hv, hc1, sizeOf, typeInfo, hi, hz']
  · rename_i n e hu
    split at h <;> try (cases h; done)
    rename_i z hz
    split at h <;> try (cases h; done)
    rename_i k g off
    simp only [Option.some.injEq, Prod.mk.injEq] at h
    obtain ⟨hb, rfl⟩ := h
    obtain ⟨inf, hi, rfl⟩ := sizeT_ok hz
    have hc1 := inB_ok hb
    cases hx
    exact ⟨_, by simp [Instr.indexAt, asIntOf, run_underlying hu, Instr.sureAddr, hc1, sizeOf, typeInfo, hi]; rfl, by rw [plain_add]; rfl⟩
theorem index_ok {t : TypeId} {x y : AV Θ.T} {u i : Value} {v : AV Θ.T} (h : vIndex P Θ t x y = some (true, v)) (hx : RAV Θ W F bx rw_ x u) (hy : RAV Θ W F bx rw_ y i) :
    ∃ r, (Instr.index t u i).run P W = .ok r W ∧ RAV Θ W F bx rw_ v r := by
  unfold vIndex at h
  split at h <;> try (cases h; done)
  rename_i k j
  rw [rav_int hy]
  split at h <;> try (cases h; done)
  rename_i hu
  split at h <;> try (cases h; done)
  rename_i b
  simp only [Option.some.injEq, Prod.mk.injEq] at h
  obtain ⟨hb, rfl⟩ := h
  rw [rav_str hx]
  obtain ⟨h0, h1⟩ := inB_ok hb
  have hin : j.toNat < b.size := by omega
  refine ⟨.int .u8 (byteAt b j), ?_, .int _ _⟩
  have hget : b[j.toNat]? = some (b[j.toNat]'hin) := getElem?_pos b j.toNat hin
  have hbyte : byteAt b j = ((b[j.toNat]'hin).toNat : Int) := by
    have : j.toNat < b.data.size := hin
    simp [byteAt, Array.getD_eq_getD_getElem?, Array.getElem?_eq_getElem this]
    rfl
  simp [Instr.index, asIntOf, run_underlying hu, h0, hget, hbyte]
theorem bound_ok (a : Act) (ha : ∀ x, RAV Θ W F bx rw_ (s.ev x) (a.eval x)) {o : Option Operand} {r : Option Int} (h : vBound s o = some r) :
    (o = none ∧ r = none) ∨ ∃ x k n, o = some x ∧ r = some n ∧ a.eval x = .int k n := by
  cases o with
  | none => simp [vBound] at h; exact .inl ⟨rfl, h.symm⟩
  | some x =>
    simp only [vBound] at h
    split at h <;> try (cases h; done)
    rename_i k n hx
    cases h
    have := ha x
    rw [hx] at this
    exact .inr ⟨x, k, n, rfl, rfl, rav_int this⟩
/-- Cut bounds that hold are those that the machine takes. -/
theorem bounds_ok (sl : Bool) (n cap : Nat) (hcap : n ≤ cap) (a : Act) (ha : ∀ x, RAV Θ W F bx rw_ (s.ev x) (a.eval x)) {lo hi : Option Operand} {l h : Option Int} (hl : vBound s lo = some l) (hh : vBound s hi = some h) (hc : cutOk l h n = true) :
    ∃ x y : Nat, (Instr.sliceBounds sl n cap (lo.map a.eval) (hi.map a.eval) none).run P W = .ok (x, y, cap) W ∧ x ≤ y ∧ y ≤ n ∧ x = (l.getD 0).toNat ∧ y = (h.getD n).toNat := by
  rcases bound_ok a ha hl with ⟨rfl, rfl⟩ | ⟨xl, kl, nl, rfl, rfl, el⟩ <;> rcases bound_ok a ha hh with ⟨rfl, rfl⟩ | ⟨xh, kh, nh, rfl, rfl, eh⟩
  · exact ⟨0, n, by simp [Instr.sliceBounds], Nat.zero_le _, Nat.le_refl _, by simp, by simp⟩
  · simp only [cutOk, Bool.and_eq_true, decide_eq_true_eq] at hc
    have h1 : 0 ≤ nh ∧ nh ≤ (cap : Int) := by omega
    exact ⟨0, nh.toNat, by simp [Instr.sliceBounds, Instr.sliceBound, eh, asIntOf, h1], Nat.zero_le _, by omega, by simp, by simp⟩
  · simp only [cutOk, Bool.and_eq_true, decide_eq_true_eq] at hc
    have h1 : 0 ≤ nl ∧ nl ≤ (n : Int) := by omega
    exact ⟨nl.toNat, n, by simp [Instr.sliceBounds, Instr.sliceBound, el, asIntOf, h1], by omega, Nat.le_refl _, by simp, by simp⟩
  · simp only [cutOk, Bool.and_eq_true, decide_eq_true_eq] at hc
    have h1 : 0 ≤ nh ∧ nh ≤ (cap : Int) := by omega
    have h2 : 0 ≤ nl ∧ nl ≤ max nh 0 := by omega
    exact ⟨nl.toNat, nh.toNat, by simp [Instr.sliceBounds, Instr.sliceBound, el, eh, asIntOf, h1, h2], by omega, by omega, by simp, by simp⟩
theorem cutStr_eq (l h : Option Int) (b : ByteArray) : cutStr l h b = b.extract (l.getD 0).toNat (h.getD b.size).toNat := by
  cases l <;> cases h <;> simp [cutStr, cut]
theorem cutList_eq {A : Type} (l h : Option Int) (a : List A) : cutList l h a = (a.take (h.getD a.length).toNat).drop (l.getD 0).toNat := by
  cases l <;> cases h <;> simp [cutList]
theorem slice_ok (a : Act) (ha : ∀ x, RAV Θ W F bx rw_ (s.ev x) (a.eval x)) {t : TypeId} {x : AV Θ.T} {u : Value} {lo hi mx : Option Operand} {v : AV Θ.T} (h : vSlice P Θ s t x lo hi mx = some (true, v)) (hx : RAV Θ W F bx rw_ x u) :
    ∃ r, (Instr.sliceAt t u (lo.map a.eval) (hi.map a.eval) (mx.map a.eval)).run P W = .ok r W ∧ RAV Θ W F bx rw_ v r := by
  unfold vSlice at h
  split at h <;> try (cases h; done)
  split at h <;> try (cases h; done)
  rename_i l hh hl' hh'
  split at h <;> try (cases h; done)
  · rename_i hu
    split at h <;> try (cases h; done)
    rename_i b
    simp only [Option.some.injEq, Prod.mk.injEq] at h
    obtain ⟨hc, rfl⟩ := h
    rw [rav_str hx]
    obtain ⟨p, q, hb, h1, h2, rfl, rfl⟩ := bounds_ok (P := P) (W := W) false b.size b.size (Nat.le_refl _) a ha hl' hh' hc
    exact ⟨_, by simp [Instr.sliceAt, Instr.slice, run_underlying hu, hb]; rfl, by rw [cutStr_eq]; exact .str _⟩
  · rename_i e hu
    split at h <;> try (cases h; done)
    rename_i hz
    obtain ⟨inf, hi', hz'⟩ := sizeT_ok hz
    split at h <;> try (cases h; done)
    rename_i e' y
    split at h <;> try (cases h; done)
    rename_i he
    subst he
    simp only [Option.some.injEq, Prod.mk.injEq] at h
    obtain ⟨hc, rfl⟩ := h
    cases hx with
    | sl _ _ A n cap us hn hcap hzn hA hr =>
      subst hn
      obtain ⟨p, q, hb, h1, h2, hp, hq⟩ := bounds_ok (P := P) (W := W) true y.length cap hcap a ha hl' hh' hc
      refine ⟨_, by simp [Instr.sliceAt, Instr.slice, run_underlying hu, hb, sizeOf, typeInfo, hi']; rfl, ?_⟩
      rw [cutList_eq, ← hp, ← hq]
      refine .sl e _ _ _ _ (fun i j => us (p + i) j) (by simp; omega) (by omega) (fun hnone => by
        have : cap = 0 := by
          by_cases hcp : cap = p
          · rw [if_pos hcp] at hnone; exact hzn hnone
          · rw [if_neg hcp] at hnone; exact hzn (by simpa using hnone)
        omega) (fun hne => ?_) (fun i j z x hy hx => ?_)
      · have hlt : p < q := by
          rcases Nat.lt_or_ge p q with h | h
          · exact h
          · exact absurd (List.drop_eq_nil_of_le (by simp; omega)) hne
        have hy0 : y ≠ [] := by intro h'; subst h'; simp at h2; omega
        obtain ⟨ad, rfl, hs, hf, hcell⟩ := hA hy0
        have hcp : ¬ cap = p := by omega
        refine ⟨ad.add (p * inf.size), by simp [hcp], add_spot hs _, by rw [Addr.add_block]; exact hf, fun i j hi hj => ?_⟩
        rw [add_add hs, hz', show p * Θ.sz e + (i * Θ.sz e + j) = (p + i) * Θ.sz e + j by rw [Nat.add_mul]; omega]
        exact hcell (p + i) j (by simp at hi; omega) hj
      · refine hr (p + i) j z x ?_ hx
        rw [List.getElem?_drop, List.getElem?_take] at hy
        split at hy
        · exact hy
        · cases hy
theorem caps_ok (a : Act) (ha : ∀ x, RAV Θ W F bx rw_ (s.ev x) (a.eval x)) : ∀ (l : List Operand) (r : List (Nat × Nat)), capsOf s l = some r → l.map a.eval = r.map fun kg => Value.pointer (some ⟨bx kg.1 kg.2, 0, none⟩) := by
  intro l
  induction l with
  | nil => intro r h; simp [capsOf] at h; subst h; rfl
  | cons x l ih =>
    intro r h
    simp only [capsOf] at h
    split at h <;> try (cases h; done)
    rename_i k g hx
    split at h <;> try (cases h; done)
    rename_i r' hr'
    cases h
    have := ha x
    rw [hx] at this
    have hv : a.eval x = .pointer (some ⟨bx k g, 0, none⟩) := this
    simp [ih r' hr', hv]
theorem sums_ok (a : Act) (ha : ∀ x, RAV Θ W F bx rw_ (s.ev x) (a.eval x)) : ∀ (l : List Operand) (r : List (CV Θ.T ⊕ List (CV Θ.T))), sumsOf s l = some r → All2 (RSum Θ W F bx rw_) r (l.map a.eval) := by
  intro l
  induction l with
  | nil => intro r h; cases h; exact .nil
  | cons x l ih =>
    intro r h
    have hx := ha x
    simp only [sumsOf] at h
    cases hv : s.ev x with
    | c c =>
      rw [hv] at hx
      simp only [hv] at h
      split at h <;> try (cases h; done)
      rename_i l' hl
      cases h
      exact .cons hx (ih _ hl)
    | agg cs =>
      rw [hv] at hx
      simp only [hv] at h
      split at h <;> try (cases h; done)
      rename_i l' hl
      cases h
      exact .cons hx (ih _ hl)
    | _ => simp [hv] at h
theorem func_ok (a : Act) (ha : ∀ x, RAV Θ W F bx rw_ (s.ev x) (a.eval x)) {fn : Fn} {first caps : Array Operand} {c : Bool} {v : AV Θ.T} (h : vFunc s fn first caps = some (c, v)) :
    ∃ r, (Instr.makeFunc fn (first.map a.eval) (caps.map a.eval)).run P W = .ok r W ∧ RAV Θ W F bx rw_ v r := by
  unfold vFunc at h
  split at h <;> try (cases h; done)
  rename_i f
  split at h
  · rename_i hf
    split at h <;> try (cases h; done)
    rename_i l hl
    cases h
    have hf' : first = #[] := by apply Array.ext'; simpa using hf
    subst hf'
    have hc : caps.map a.eval = (l.map fun kg => Value.pointer (some ⟨bx kg.1 kg.2, 0, none⟩)).toArray := by
      apply Array.ext'
      rw [Array.toList_map, caps_ok a ha _ _ hl]
    exact ⟨_, by simp [Instr.makeFunc, hc], rfl⟩
  · split at h <;> try (cases h; done)
    rename_i hc
    split at h <;> try (cases h; done)
    rename_i l hl
    cases h
    have hc' : caps = #[] := by apply Array.ext'; simpa using hc
    subst hc'
    have := sums_ok (Θ := Θ) (W := W) (F := F) (bx := bx) (rw_ := rw_) a ha _ _ hl
    exact ⟨.func (.func f) (first.map a.eval) #[], by simp [Instr.makeFunc], (first.toList.map a.eval), by congr 1; apply Array.ext'; simp, this⟩
theorem constCells_ok : ∀ (l : List Value) (cs : List (CV Θ.T)), constCells l = some cs → All2 (RCV Θ W F bx rw_) cs l := by
  intro l
  induction l with
  | nil => intro cs h; simp [constCells] at h; subst h; exact .nil
  | cons v l ih =>
    intro cs h
    simp only [constCells] at h
    split at h <;> try (cases h; done)
    rename_i c r hc hr
    cases h
    exact .cons (rcv_const hc) (ih r hr)
theorem zeroCells_ok {t : TypeId} {cs : List (CV Θ.T)} (h : zeroCells P t = some cs) : ∃ i z, P.info? t = some i ∧ i.zero = some z ∧ All2 (RCV Θ W F bx rw_) cs z.cells.toList := by
  unfold zeroCells at h
  split at h <;> try (cases h; done)
  rename_i i hi
  split at h <;> try (cases h; done)
  rename_i z hz
  exact ⟨i, z, hi, hz, constCells_ok _ _ h⟩
theorem cellsOfAV_ok (hr : ∀ r g, ∃ A n c, rw_ r g = .slice A n c) {x : AV Θ.T} {cs : List (CV Θ.T)} {u : Value} (h : cellsOfAV x = some cs) (hx : RAV Θ W F bx rw_ x u) : All2 (RCV Θ W F bx rw_) cs u.cells.toList := by
  unfold cellsOfAV at h
  split at h <;> try (cases h; done)
  · rename_i c
    cases h
    have hx' : RCV Θ W F bx rw_ c u := hx
    rw [(RCV.cells hr hx').1]
    exact .cons hx' .nil
  · cases h
    obtain ⟨us, rfl, ha⟩ := hx
    simpa [Value.cells] using ha
theorem foldl_set (vs : List Value) : ∀ (cells : Array Value) (off n : Nat), ((vs.zipIdx n).foldl (fun cs (c, j) => cs.setIfInBounds (off + j) c) cells).toList = (List.range vs.length).foldl (fun l j => l.set (off + (n + j)) (vs.getD j undef)) cells.toList := by
  induction vs with
  | nil => intro cells off n; simp
  | cons v vs ih =>
    intro cells off n
    simp only [List.zipIdx_cons, List.foldl_cons, List.length_cons, List.range_succ_eq_map, List.foldl_map]
    rw [ih]
    simp only [Array.toList_setIfInBounds, List.getD_cons_zero, Nat.add_zero]
    congr 1
    funext l j
    simp only [List.getD_cons_succ]
    congr 1
    omega
theorem set_run (vs : List Value) : ∀ (l : List Value) (off : Nat), off + vs.length ≤ l.length → (List.range vs.length).foldl (fun l j => l.set (off + j) (vs.getD j undef)) l = l.take off ++ vs ++ l.drop (off + vs.length) := by
  induction vs with
  | nil => intro l off h; simp
  | cons v vs ih =>
    intro l off h
    simp only [List.length_cons, List.range_succ_eq_map, List.foldl_cons, List.foldl_map, List.getD_cons_zero, Nat.add_zero, List.getD_cons_succ]
    have := ih (l.set off v) (off + 1) (by simp at h ⊢; omega)
    rw [show (fun (l : List Value) (j : Nat) => l.set (off + j.succ) (vs.getD j undef)) = fun l j => l.set (off + 1 + j) (vs.getD j undef) by funext l j; congr 1; omega]
    rw [this]
    have ho : off < l.length := by simp at h; omega
    rw [List.take_add_one, List.take_set_of_le (Nat.le_refl _), List.drop_set_of_lt (by omega)]
    simp [ho]
    rw [show off + 1 + vs.length = off + (vs.length + 1) by omega]
theorem fill_run (place : Nat → Option (Nat × Nat)) (cells : List Value) (i off : Nat) (v : Value) (rest : List (Nat × Value)) (hp : place i = some (off, v.cells.size)) (hl : off + v.cells.size ≤ cells.length) :
    Instr.fill place cells.toArray ((i, v) :: rest) = Instr.fill place (cells.take off ++ v.cells.toList ++ cells.drop (off + v.cells.size)).toArray rest := by
  have hf : (v.cells.zipIdx.foldl (fun cs (c, j) => cs.setIfInBounds (off + j) c) cells.toArray) = (cells.take off ++ v.cells.toList ++ cells.drop (off + v.cells.size)).toArray := by
    apply Array.ext'
    rw [← Array.foldl_toList, Array.toList_zipIdx]
    rw [foldl_set v.cells.toList cells.toArray off 0]
    simp only [Nat.zero_add]
    rw [set_run v.cells.toList cells off (by simpa using hl)]
    simp
  simp only [Instr.fill, hp, List.size_toArray]
  rw [if_neg (by simp; omega)]
  exact congrArg (fun c => Instr.fill place c rest) hf
theorem parts_ok (hrw : ∀ r g, ∃ A n c, rw_ r g = .slice A n c) (a : Act) (ha : ∀ x, RAV Θ W F bx rw_ (s.ev x) (a.eval x)) {t : TypeId} (place : Nat → Option (Nat × Nat))
    (hpl : ∀ f off ft n, fieldOff P t f = some (off, ft, n) → place f = some (off, n)) : ∀ (l : List (Nat × Operand)) (cs rs : List (CV Θ.T)) (us : List Value), fillParts P s t l cs = some rs → All2 (RCV Θ W F bx rw_) cs us →
    ∃ vs : List Value, Instr.fill place us.toArray (l.map fun p => (p.1, a.eval p.2)) = some vs.toArray ∧ All2 (RCV Θ W F bx rw_) rs vs := by
  intro l
  induction l with
  | nil => intro cs rs us h hu; simp [fillParts] at h; subst h; exact ⟨us, rfl, hu⟩
  | cons p l ih =>
    intro cs rs us h hu
    obtain ⟨f, x⟩ := p
    simp only [fillParts] at h
    split at h <;> try (cases h; done)
    rename_i off ft n hf
    split at h <;> try (cases h; done)
    rename_i vs hvs
    split at h <;> try (cases h; done)
    rename_i hc
    obtain ⟨hn, hle⟩ := hc
    have hv := cellsOfAV_ok hrw hvs (ha x)
    have hsz : (a.eval x).cells.size = n := by rw [← hn, hv.length, Array.length_toList]
    have hul : off + (a.eval x).cells.size ≤ us.length := by rw [hsz, ← hu.length]; exact hle
    simp only [List.map_cons]
    rw [fill_run place us f off (a.eval x) _ (by rw [hsz]; exact hpl f off ft n hf) hul]
    refine ih _ _ _ h ?_
    have := ((hu.take off).append hv).append (hu.drop (off + n))
    rw [hsz]
    exact this
theorem mapM_run {A B : Type} (f : A → Sem B) (g : A → B) (l : List A) (h : ∀ x ∈ l, (f x).run P W = .ok (g x) W) : (l.mapM f).run P W = .ok (l.map g) W := by
  induction l with
  | nil => simp
  | cons x l ih =>
    rw [List.mapM_cons]
    simp [h x (by simp), ih (fun y hy => h y (by simp [hy]))]
theorem build_ok (hrw : ∀ r g, ∃ A n c, rw_ r g = .slice A n c) (a : Act) (ha : ∀ x, RAV Θ W F bx rw_ (s.ev x) (a.eval x)) {t : TypeId} {parts : Array (Nat × Operand)} {c : Bool} {v : AV Θ.T} (h : vBuild P s t parts = some (c, v)) :
    ∃ r, (Instr.build t (parts.map fun (i, x) => (i, a.eval x))).run P W = .ok r W ∧ RAV Θ W F bx rw_ v r := by
  unfold vBuild at h
  split at h <;> try (cases h; done)
  rename_i hst
  obtain ⟨fs, hu, hall⟩ : ∃ fs, P.underlying t = some (.struct fs) ∧ ∀ d ∈ fs, (P.info? d.type).isSome = true := by
    unfold structOk at hst
    split at hst
    · rename_i fs hu
      exact ⟨fs, hu, fun d hd => by simpa using (List.all_eq_true.1 hst) d (by simpa using hd)⟩
    · cases hst
  split at h <;> try (cases h; done)
  rename_i zs hz
  split at h <;> try (cases h; done)
  rename_i cs hcs
  cases h
  obtain ⟨i, z, hi, hiz, hza⟩ := zeroCells_ok (W := W) (F := F) (bx := bx) (rw_ := rw_) hz
  let g : Field → Nat × Nat := fun d => (d.offset, P.cellsOf d.type)
  have hm : (fs.mapM fun f => Prod.mk f.offset <$> sizeOf f.type : Sem (Array (Nat × Nat))).run P W = .ok (fs.map g) W := by
    rw [Array.mapM_eq_mapM_toList]
    have := mapM_run (P := P) (W := W) (fun f : Field => (Prod.mk f.offset <$> sizeOf f.type : Sem (Nat × Nat))) g fs.toList (fun d hd => by
      obtain ⟨i, hi⟩ := Option.isSome_iff_exists.1 (hall d (by simpa using hd))
      simp [sizeOf, typeInfo, hi, g, Program.cellsOf])
    simp only [Sem.run_map, this, Result.andThen_ok]
    exact congrArg (fun a => Result.ok a W) (by apply Array.ext'; simp)
  have hpl : ∀ f off ft n, fieldOff P t f = some (off, ft, n) → ((fs.map g)[f]?) = some (off, n) := by
    intro f off ft n hf
    obtain ⟨fs', d, i, hu', hd, hi, _, rfl, rfl, rfl⟩ := fieldOff_ok hf
    rw [hu] at hu'
    cases hu'
    simp [hd, g, Program.cellsOf, hi]
  obtain ⟨vs, h1, h2⟩ := parts_ok hrw a ha (fun j => (fs.map g)[j]?) hpl _ _ _ _ hcs hza
  refine ⟨.agg vs.toArray, ?_, vs, rfl, h2⟩
  have h1' : Instr.fill (fun j => Option.map g fs[j]?) z.cells (parts.toList.map fun p => (p.1, a.eval p.2)) = some vs.toArray := by simpa using h1
  simp [Instr.build, zeroValue, typeInfo, hi, hiz, run_underlying hu, hm, h1']
theorem len_ok (hS : Sim Θ E s tm W bx rw_) {t ty : TypeId} {x : AV Θ.T} {u : Value} {c : Bool} {v : AV Θ.T} (ts : Array TypeId) (hts : ts[0]? = some t) (h : vLen P Θ s t x = some (c, v)) (hr : RAV Θ W (FF E s bx rw_ W) bx rw_ x u) :
    ∃ r, (Builtin.len_ ts ty #[u]).run P W = .ok r W ∧ RAV Θ W (FF E s bx rw_ W) bx rw_ v r := by
  unfold vLen at h
  split at h <;> try (cases h; done)
  · split at h <;> try (cases h; done)
    rename_i b _ hu
    cases h
    rw [rav_str hr]
    exact ⟨_, by simp [Builtin.len_, hts, run_underlying hu]; rfl, .int _ _⟩
  · split at h <;> try (cases h; done)
    rename_i hu
    cases h
    have hr' : u = .slice none 0 0 := hr
    rw [hr']
    exact ⟨_, by simp [Builtin.len_, hts, run_underlying hu]; rfl, .int _ _⟩
  · split at h <;> try (cases h; done)
    rename_i hu
    cases h
    cases hr with
    | sl _ _ A n cap us hn hcap _ hA hr => subst hn; exact ⟨_, by simp [Builtin.len_, hts, run_underlying hu]; rfl, .int _ _⟩
  · split at h <;> try (cases h; done)
    rename_i hu
    split at h <;> try (cases h; done)
    rename_i R hR
    split at h <;> try (cases h; done)
    rename_i hg
    cases h
    subst hg
    have hr' : u = rw_ _ R.gen := hr
    obtain ⟨_, us, hown, ha⟩ := hS.rows _ R hR
    obtain ⟨A, c, hv⟩ := hown.form.1
    rw [hr', hv]
    exact ⟨_, by simp [Builtin.len_, hts, run_underlying hu]; rfl, .int _ _⟩
theorem best_ok (f : Int → Int → Int) (g : Value → Value → Sem Value) (hg : ∀ k k' x y, g (.int k x) (.int k' y) = pure (.int k (f x y))) {l : List (AV Θ.T)} {us : List Value} {c : Bool} {v : AV Θ.T} (h : vBest f l = some (c, v)) (hr : All2 (RAV Θ W F bx rw_) l us) :
    ∃ x rest r, us = x :: rest ∧ (rest.foldlM g x).run P W = .ok r W ∧ RAV Θ W F bx rw_ v r := by
  unfold vBest at h
  split at h <;> try (cases h; done)
  · cases h
    cases hr with | cons h1 t1 =>
    cases t1 with | cons h2 t2 =>
    cases t2
    rw [rav_int h1, rav_int h2]
    exact ⟨_, _, _, rfl, by simp [hg], .int _ _⟩
  · cases h
    cases hr with | cons h1 t1 =>
    cases t1 with | cons h2 t2 =>
    cases t2 with | cons h3 t3 =>
    cases t3
    rw [rav_int h1, rav_int h2, rav_int h3]
    exact ⟨_, _, _, rfl, by simp [hg], .int _ _⟩
theorem all2_map_ev (a : Act) (ha : ∀ x, RAV Θ W F bx rw_ (s.ev x) (a.eval x)) (l : List Operand) : All2 (RAV Θ W F bx rw_) (l.map s.ev) (l.map a.eval) := by
  induction l with
  | nil => exact .nil
  | cons x l ih => exact .cons (ha x) ih
/-- An operation that only computes or reads. -/
theorem opV_ok (hS : Sim Θ E s tm W bx rw_) (a : Act) (hat : a.tmps = tm) {eqs : List TypeId} (he : ∀ t ∈ eqs, EqT P t) {o : Oper} {v : AV Θ.T} (h : opV P Θ eqs s o.op = some (true, v)) :
    ∃ r, (execOp a.eval o).run P W = .ok (.value r) W ∧ RAV Θ W (FF E s bx rw_ W) bx rw_ v r := by
  have ha := hS.ev a hat
  obtain ⟨dst, op, ty, pos, after, guard⟩ := o
  simp only at h
  unfold opV at h
  split at h <;> try (cases h; done)
  · cases h; exact ⟨_, by simp [execOp], ha _⟩
  · cases h; exact ⟨_, by simp [execOp], ha _⟩
  · obtain ⟨r, h1, h2⟩ := un_ok (P := P) (W := W) h (ha _)
    exact ⟨r, by simp [execOp, h1], h2⟩
  · rename_i bop xT x y yT
    obtain ⟨r, h1, h2⟩ := bin_ok (P := P) (W := W) (ox := x) (oy := y) he h (ha _) (ha _)
    simp only [Sem.run_bind] at h1
    refine ⟨r, ?_, h2⟩
    cases hq : (eqGuard bop xT x y (a.eval x) (a.eval y)).run P W with
    | ok u w1 => rw [hq] at h1; simp only [Result.andThen_ok] at h1; simp [execOp, hq, h1]
    | halt q w1 => rw [hq] at h1; simp at h1
  · obtain ⟨r, h1, h2⟩ := conv_ok (P := P) (W := W) h (ha _)
    exact ⟨r, by simp [execOp, h1], h2⟩
  · obtain ⟨r, h1, h2⟩ := extract_ok (P := P) (W := W) h (ha _)
    exact ⟨r, by simp [execOp, h1], h2⟩
  · rename_i x
    obtain ⟨hv, ad, hu⟩ := nil_ok (W := W) h (ha _)
    subst hv
    refine ⟨a.eval x, by simp [execOp, hu], ha x⟩
  · obtain ⟨r, h1, h2⟩ := fieldAddr_ok (P := P) (W := W) h (ha _)
    exact ⟨r, by simp [execOp, h1], h2⟩
  · obtain ⟨r, h1, h2⟩ := field_ok (P := P) (W := W) h (ha _)
    exact ⟨r, by simp [execOp, h1], h2⟩
  · obtain ⟨r, h1, h2⟩ := load_ok (P := P) hS h (ha _)
    exact ⟨r, by simp [execOp, h1], h2⟩
  · obtain ⟨r, h1, h2⟩ := indexAddr_ok (P := P) hS h (ha _) (ha _)
    exact ⟨r, by simp [execOp, h1], h2⟩
  · obtain ⟨r, h1, h2⟩ := index_ok (P := P) (W := W) h (ha _) (ha _)
    exact ⟨r, by simp [execOp, h1], h2⟩
  · obtain ⟨r, h1, h2⟩ := slice_ok (P := P) (W := W) a ha h (ha _)
    exact ⟨r, by simp [execOp, h1], h2⟩
  · obtain ⟨r, h1, h2⟩ := func_ok (P := P) (W := W) a ha h
    exact ⟨r, by simp [execOp, h1], h2⟩
  · obtain ⟨r, h1, h2⟩ := build_ok (P := P) (W := W) hS.rwsl a ha h
    exact ⟨r, by simp [execOp, h1], h2⟩
  · rename_i c
    obtain ⟨callee, args, ats⟩ := c
    simp only at h
    split at h <;> try (cases h; done)
    · rename_i hcal
      split at h <;> try (cases h; done)
      rename_i x t rest hx ht
      have hx' : args = #[x] := by apply Array.ext'; simpa using hx
      have ht' : ats[0]? = some t := by rw [← Array.getElem?_toList, ht]; rfl
      subst hx'
      obtain ⟨r, h1, h2⟩ := len_ok (P := P) (ty := ty) hS ats ht' h (ha _)
      exact ⟨r, by simp [execOp, resolve, invoke, builtin, h1], h2⟩
    · obtain ⟨x, rest, r, h1, h2, h3⟩ := best_ok (P := P) (W := W) mx Builtin.max2 (fun _ _ _ _ => rfl) h (all2_map_ev a ha _)
      exact ⟨r, by simp [execOp, resolve, invoke, builtin, Builtin.max_, h1, h2], h3⟩
    · obtain ⟨x, rest, r, h1, h2, h3⟩ := best_ok (P := P) (W := W) mn Builtin.min2 (fun _ _ _ _ => rfl) h (all2_map_ev a ha _)
      exact ⟨r, by simp [execOp, resolve, invoke, builtin, Builtin.min_, h1, h2], h3⟩
end
end Go.Den
