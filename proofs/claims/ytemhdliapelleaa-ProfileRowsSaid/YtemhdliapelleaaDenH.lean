/- Rows: append, make, literals. -/
import Derived.Test.YtemhdliapelleaaDenG
namespace Go.Den
open Go Go.RowKit

section
variable {Θ : Tab} {E : Env} {s : St Θ.T} {a : Act} {W : World} {bx : Nat → Nat → Nat} {rw_ : Nat → Nat → Value} {P : Program}
/-- append to an empty slice without room. -/
theorem run_append_e0 (W : World) (t ty e : TypeId) (i : TypeInfo) (z : Value) (size : Nat) (ht : P.underlying t = some (.slice e)) (hi : P.info? e = some i) (hz : i.zero = some z)
    (hsize : i.size = size) (hzs : z.cells.size = size) (hsz : 0 < size) (ad : Addr) (a : Addr) (m c : Nat) (news : List Value) (hl : news.length = m * size) (hnews : ∀ j u, news[j]? = some u → W.cell? (a.add j) = some u)
    (h63 : m ≤ maxLen) (hbytes : m * i.bytes ≤ 140737488355328) :
    ∃ v' W', (Builtin.append_ #[t, t] ty #[.slice (some ad) 0 0, .slice (some a) m c]).run P W = .ok v' W' ∧ Owns W' e size v' m news ∧ W.grownBy W' none ∧ (ob v' = none ∨ ob v' = some W.heap.size) := by
  subst hsize
  by_cases hm : m = 0
  · subst hm
    have hn : news = [] := List.eq_nil_of_length_eq_zero (by simpa using hl)
    subst hn
    refine ⟨.slice (some ad) 0 0, W, ?_, .inr ⟨ad, rfl, rfl, rfl⟩, ⟨rfl, rfl, rfl, Nat.le_refl _, fun _ _ _ => rfl⟩, .inl rfl⟩
    simp [Builtin.append_, run_underlying ht, sizeOf, typeInfo, hi, Builtin.lenOf, Builtin.firstCells, loadCells, loadCellsFrom, storeCells]
  · have hsmall : m ≤ 9223372036854775807 := by simp only [maxLen] at h63; omega
    have hr := run_append_grow (P := P) W t ty e i z ht hi hz ad 0 0 [] (by simp) (fun j u h => by simp at h) a m c news hl hnews (by omega) (by omega) (growslice_fits (by omega) (by simpa using hbytes))
    have hge := grownCap_ge W m 0 e
    have hcm : grownCap W m 0 e ≤ maxLen := grownCap_le_maxLen W m 0 e h63
    have hown : (W.drew.alloc (.cells (([] : List Value).toArray ++ news.toArray ++ Builtin.zeroCells z.cells (grownCap W (0 + m) 0 e - (0 + m))) e)).ownsRow 0 e i.size (.slice (some ⟨W.heap.size, 0, none⟩) (0 + m) (grownCap W (0 + m) 0 e)) m news := by
      simp only [Nat.zero_add]
      refine ⟨hl, .inr ⟨W.heap.size, _, _, rfl, Nat.zero_le _, heap_alloc_new W.drew _, hge, hcm, ?_, ?_⟩⟩
      · simp only [Array.size_append, List.size_toArray, size_zeroCells, hzs, hl, List.length_nil, Nat.zero_add, ← Nat.add_mul]
        congr 1
        omega
      · simp only [Array.toList_append, List.nil_append]
        rw [← hl]
        exact List.take_left
    refine ⟨_, _, hr, .inl hown, ⟨rfl, rfl, rfl, by simp, fun k hk _ => heap_alloc_old W.drew _ hk⟩, ?_⟩
    simp only [ob]
    split <;> simp
/-- append to a row of the call's own. -/
theorem run_append_owns (W : World) (t ty e : TypeId) (i : TypeInfo) (z : Value) (size : Nat) (ht : P.underlying t = some (.slice e)) (hi : P.info? e = some i) (hz : i.zero = some z)
    (hsize : i.size = size) (hzs : z.cells.size = size) (hsz : 0 < size) (v : Value) (n : Nat) (xs : List Value) (hown : Owns W e size v n xs) (a : Addr) (m c : Nat) (news : List Value) (hl : news.length = m * size)
    (hnews : ∀ j u, news[j]? = some u → W.cell? (a.add j) = some u) (h1 : ∀ u ∈ news, u.oneCell' = true) (h63 : n + m ≤ maxLen) (hbytes : (n + m) * i.bytes ≤ 140737488355328) :
    ∃ v' W', (Builtin.append_ #[t, t] ty #[v, .slice (some a) m c]).run P W = .ok v' W' ∧ Owns W' e size v' (n + m) (xs ++ news) ∧ W.grownBy W' (ob v) ∧ (∀ b, ob v' = some b → ob v = some b ∨ W.heap.size ≤ b) := by
  have zero : ∀ ad, v = .slice (some ad) 0 0 → n = 0 → xs = [] → ∃ v' W', (Builtin.append_ #[t, t] ty #[v, .slice (some a) m c]).run P W = .ok v' W' ∧ Owns W' e size v' (n + m) (xs ++ news) ∧ W.grownBy W' (ob v) ∧ (∀ b, ob v' = some b → ob v = some b ∨ W.heap.size ≤ b) := by
    rintro ad rfl rfl rfl
    obtain ⟨v', W', h1, h2, h3, h4⟩ := run_append_e0 (P := P) W t ty e i z size ht hi hz hsize hzs hsz ad a m c news hl hnews (by omega) (by simpa using hbytes)
    refine ⟨v', W', h1, by simpa using h2, ⟨h3.os, h3.tape, h3.output, h3.size, fun k hk _ => h3.block k hk (by simp)⟩, fun b hb => .inr ?_⟩
    rcases h4 with h | h
    · rw [h] at hb; cases hb
    · rw [h] at hb; cases hb; exact Nat.le_refl _
  rcases hown with hown | ⟨ad, hv, hn, hx⟩
  · have fin : v.ownBlock = ob v → ∃ v' W', (Builtin.append_ #[t, t] ty #[v, .slice (some a) m c]).run P W = .ok v' W' ∧ Owns W' e size v' (n + m) (xs ++ news) ∧ W.grownBy W' (ob v) ∧ (∀ b, ob v' = some b → ob v = some b ∨ W.heap.size ≤ b) := by
      intro hob
      obtain ⟨v', w', hrun, ho', hg, _, hat⟩ := run_append_own_at (P := P) W 0 t ty e i z size i.bytes ht hi hz hsize rfl hzs hsz v n xs hown a m c news hl hnews h1 h63 hbytes (Nat.zero_le _)
      refine ⟨v', w', hrun, .inl ho', by rw [← hob]; exact hg, fun b hb => ?_⟩
      have := ob_of_own ho' hb
      rcases hat with h | h
      · exact .inl (by rw [← hob, ← h]; exact this)
      · rw [h] at this; cases this; exact .inr (Nat.le_refl _)
    have h0 := hown
    rcases hown.2 with ⟨rfl, rfl⟩ | ⟨g, cap, cur, rfl, _, _, hnc, _⟩
    · exact fin rfl
    · by_cases hc : cap = 0
      · subst hc
        have hn : n = 0 := by omega
        subst hn
        exact zero _ rfl rfl (List.eq_nil_of_length_eq_zero (by simpa using h0.1))
      · exact fin (by simp [ob, hc, Value.ownBlock])
  · exact zero ad hv hn hx
theorem run_append_owns_none (W : World) (t ty e : TypeId) (i : TypeInfo) (size : Nat) (ht : P.underlying t = some (.slice e)) (hi : P.info? e = some i) (v : Value) (n : Nat) (xs : List Value) (hown : Owns W e size v n xs) :
    (Builtin.append_ #[t, t] ty #[v, .slice none 0 0]).run P W = .ok v W := by
  rcases hown with hown | ⟨ad, rfl, _⟩
  · exact run_append_owned_none (P := P) W 0 t ty e i size ht hi v n xs hown
  · simp [Builtin.append_, run_underlying ht, sizeOf, typeInfo, hi, Builtin.lenOf, Builtin.firstCells, storeCells]
theorem rep_flat {F : Nat → Prop} {xs : List (PV Θ.T)} {us : List Value} (h : All2 (fun p u => Rep Θ W F u p) xs us) : xs.length = us.length := h.length
/-- append: a row of the call's own, or none yet, and what comes behind it. -/
theorem append_run (hS : Sim Θ E s a.tmps W bx rw_) {o : Oper} {d t e : Nat} {x y : Operand} (hd : o.dst = some d) (ho : o.op = .call { callee := .builtin .append, args := #[x, y], argTypes := #[t, t] })
    (ht : P.underlying t = some (.slice e)) {i : TypeInfo} (hi : P.info? e = some i) (hsz : i.size = Θ.sz e) (h0 : 0 < i.size) (hb0 : 0 < i.bytes) (hz : (i.zero.map fun z => z.cells.size) = some i.size)
    {ys : List (Θ.T e)} (hy : rowOf Θ s e (s.ev y) = some ys) {r : Nat} {l : List (Θ.T e)} {us : List Value} {v : Value} (hv : a.eval x = v) (hown : Owns W e (Θ.sz e) v l.length us)
    (hrep : All2 (fun x u => Rep Θ W (FF E s bx rw_ W) u x) (l.flatMap (Θ.enc e)) us) (hblk : ∀ b, ob v = some b → ∃ R, look s.rows r = some R ∧ ob (rw_ r R.gen) = some b)
    (hfit : fitB (l.length + ys.length) i.bytes = true) {s' : St Θ.T} (h : s.newRow Θ d r e (l ++ ys) = some s') : Comes1 Θ P E o a W s' := by
  obtain ⟨hn, rfl⟩ := St.newRow_eq h
  have hfit' : (l.length + ys.length) * i.bytes ≤ 140737488355328 := by simpa [fitB] using hfit
  have hle : l.length + ys.length ≤ 140737488355328 := Nat.le_trans (Nat.le_mul_of_pos_right _ hb0) hfit'
  obtain ⟨z, hzz, hzs⟩ : ∃ z, i.zero = some z ∧ z.cells.size = i.size := by
    cases hq : i.zero with
    | none => simp [hq] at hz
    | some z => exact ⟨z, rfl, by simpa [hq] using hz⟩
  have hyr := hS.ev a rfl y
  rcases rowOf_ok hS hy hyr with ⟨hu, rfl⟩ | ⟨ad, n, c, news, hu, hnl, hlen, hnr, hcell⟩
  · have hrun := run_append_owns_none (P := P) W t o.type e i (Θ.sz e) ht hi v l.length us hown
    obtain ⟨rw', hS'⟩ := hS.newRow (d := d) (l := l ++ []) (v' := v) (W' := W) (us := us) (blk := ob v) hn.1 hn.2 (by simpa using hown) (by simpa using hrep)
      ⟨rfl, rfl, rfl, Nat.le_refl _, fun _ _ _ => rfl⟩ hblk (fun b hb => .inl hb)
    refine comes_value (W' := W) hd ?_ hS'
    simp [execOp, ho, resolve, invoke, builtin, hv, hu, hrun]
  · obtain ⟨v', w', hrun, ho', hg, hat⟩ := run_append_owns (P := P) W t o.type e i z (Θ.sz e) ht hi hzz hsz (by rw [hzs, hsz]) (by omega) v l.length us hown
      ad n c news hlen hcell (one_of_rep hnr) (by simp only [maxLen]; omega) (by rw [hnl]; exact hfit')
    obtain ⟨rw', hS'⟩ := hS.newRow (d := d) (l := l ++ ys) (v' := v') (W' := w') (us := us ++ news) (blk := ob v) hn.1 hn.2 (by rw [List.length_append, ← hnl]; exact ho')
      (by rw [List.flatMap_append]; exact hrep.append hnr) hg hblk hat
    refine comes_value (W' := w') hd ?_ hS'
    simp [execOp, ho, resolve, invoke, builtin, hv, hu, hrun]
theorem append_ok (hS : Sim Θ E s a.tmps W bx rw_) {o : Oper} {d t : Nat} {x y : Operand} (hd : o.dst = some d) (ho : o.op = .call { callee := .builtin .append, args := #[x, y], argTypes := #[t, t] })
    {s' : St Θ.T} (h : aAppend P Θ s d t (s.ev x) (s.ev y) = some (true, s')) : Comes1 Θ P E o a W s' := by
  unfold aAppend at h
  split at h <;> try (cases h; done)
  rename_i e he
  have ht := sliceElem_ok he
  split at h <;> try (cases h; done)
  rename_i i hi
  split at h <;> try (cases h; done)
  rename_i hc
  obtain ⟨hsz, h0, hb0, hz⟩ := hc
  split at h <;> try (cases h; done)
  rename_i ys hys
  have hx := hS.ev a rfl x
  split at h <;> try (cases h; done)
  · rename_i hev
    rw [hev] at hx
    have hx' : a.eval x = .slice none 0 0 := hx
    cases hn : s.newRow Θ d d e ys with
    | none => simp [hn] at h
    | some s1 =>
      simp [hn] at h
      obtain ⟨hfit, rfl⟩ := h
      exact append_run (r := d) (l := []) (us := []) hS hd ho ht hi hsz h0 hb0 hz hys hx' Owns.nil .nil (fun b hb => by simp [ob] at hb) (by simpa using hfit) (by simpa using hn)
  · rename_i hev
    rw [hev] at hx
    obtain ⟨A, hx'⟩ := hx
    cases hn : s.newRow Θ d d e ys with
    | none => simp [hn] at h
    | some s1 =>
      simp [hn] at h
      obtain ⟨hfit, rfl⟩ := h
      refine append_run (r := d) (l := []) (us := []) hS hd ho ht hi hsz h0 hb0 hz hys hx' ?_ .nil (fun b hb => by cases A <;> simp [ob] at hb) (by simpa using hfit) (by simpa using hn)
      cases A with
      | none => exact Owns.nil
      | some ad => exact .inr ⟨ad, rfl, rfl, rfl⟩
  · rename_i r g hev
    rw [hev] at hx
    have hx' : a.eval x = rw_ r g := hx
    split at h <;> try (cases h; done)
    rename_i R hR
    split at h <;> try (cases h; done)
    rename_i hge
    obtain ⟨g0, e0, l0⟩ := R
    obtain ⟨hg, he0⟩ := hge
    simp only at hg he0
    subst hg
    subst he0
    obtain ⟨_, us, hown, hrep⟩ := hS.rows r _ hR
    cases hn : s.newRow Θ d r e0 (l0 ++ ys) with
    | none => simp [hn] at h
    | some s1 =>
      simp [hn] at h
      obtain ⟨hfit, rfl⟩ := h
      exact append_run (r := r) (l := l0) (us := us) hS hd ho ht hi hsz h0 hb0 hz hys hx' hown hrep (fun b hb => ⟨_, hR, hb⟩) hfit hn
theorem flatMap_replicate {A B : Type} (f : A → List B) (y : A) (n : Nat) : (List.replicate n y).flatMap f = (List.replicate n (f y)).flatten := by
  induction n with
  | zero => rfl
  | succ n ih => simp only [List.replicate_succ, List.flatMap_cons, ih, List.flatten_cons]
theorem madeCells_get (c : Array Value) (n k : Nat) (h : k < n * c.size) : (madeCells c (n * c.size)).toList[k]? = c.toList[k % c.size]? := by
  have hpos : 0 < c.size := by
    rcases Nat.eq_zero_or_pos c.size with h' | h'
    · rw [h'] at h; omega
    · exact h'
  have hm : k % c.size < c.size := Nat.mod_lt _ hpos
  simp [madeCells, h, hm]
theorem make_ok (hS : Sim Θ E s a.tmps W bx rw_) {o : Oper} {d t : Nat} {x y : Operand} (hd : o.dst = some d) (ho : o.op = .makeSlice t x y) {s' : St Θ.T} (h : aMake P Θ s d t (s.ev x) (s.ev y) = some (true, s')) : Comes1 Θ P E o a W s' := by
  unfold aMake at h
  split at h <;> try (cases h; done)
  rename_i k n k' m hex hey
  have hx := hS.ev a rfl x
  have hy := hS.ev a rfl y
  rw [hex] at hx
  rw [hey] at hy
  replace hx := rav_int hx
  replace hy := rav_int hy
  split at h <;> try (cases h; done)
  rename_i e he
  have ht := sliceElem_ok he
  split at h <;> try (cases h; done)
  rename_i i hi
  split at h <;> try (cases h; done)
  rename_i hc
  obtain ⟨hsz, hb0⟩ := hc
  split at h <;> try (cases h; done)
  rename_i z hz
  cases hn : s.newRow Θ d d e (List.replicate n.toNat z) with
  | none => simp [hn] at h
  | some s1 =>
    simp [hn] at h
    obtain ⟨⟨⟨rfl, h0⟩, hle⟩, rfl⟩ := h
    obtain ⟨hnr, rfl⟩ := St.newRow_eq hn
    unfold zeroElem at hz
    split at hz <;> try (cases hz; done)
    rename_i cs hcs
    split at hz <;> try (cases hz; done)
    rename_i hcl
    obtain ⟨hcl, hpl⟩ := hcl
    obtain ⟨i', zv, hi', hzv, hzr⟩ := zeroCells_ok (W := W) (F := FF E s bx rw_ W) (bx := bx) (rw_ := rw_) hcs
    rw [hi] at hi'
    cases hi'
    have hzz := elem_plain hpl hz hzr
    have hzsz : zv.cells.size = Θ.sz e := by rw [← Array.length_toList, ← hzr.length]; exact hcl
    obtain ⟨q, rfl⟩ := Int.eq_ofNat_of_zero_le h0
    have hle' : i.bytes * q ≤ 281474976710656 := by
      have : ((q * i.bytes : Nat) : Int) ≤ 281474976710656 := by rw [Int.natCast_mul]; exact hle
      rw [Nat.mul_comm]; omega
    have hq : q ≤ maxLen := by
      have := Nat.le_mul_of_pos_left q hb0
      simp only [maxLen]; omega
    obtain ⟨W', hrun, hown, hg⟩ := run_make_full (P := P) W 0 t e i zv (Θ.sz e) ht hi hzv hsz k k' q hle' hq (Nat.zero_le _)
    obtain ⟨rw', hS'⟩ := hS.newRow (d := d) (l := List.replicate q z) (W' := W') (blk := none) hnr.1 hnr.2 (.inl (by simpa using hown)) (by
        refine All2.of_get ?_ (fun j x u hx hu => ?_)
        · rw [flatMap_length (Θ.enc e) (Θ.sz e) (Θ.length_enc e), hown.1]; simp
        · have hj : j < q * Θ.sz e := by
            have := (List.getElem?_eq_some_iff.1 hx).1
            rw [flatMap_length (Θ.enc e) (Θ.sz e) (Θ.length_enc e)] at this
            simpa using this
          have hpos : 0 < Θ.sz e := by
            rcases Nat.eq_zero_or_pos (Θ.sz e) with h | h
            · rw [h] at hj; omega
            · exact h
          have hd1 : j / Θ.sz e < q := (Nat.div_lt_iff_lt_mul hpos).2 hj
          have hd2 : j % Θ.sz e < Θ.sz e := Nat.mod_lt _ hpos
          have hfm := flatMap_get (Θ.enc e) (Θ.sz e) (Θ.length_enc e) (List.replicate q z) (j / Θ.sz e) (j % Θ.sz e) z (by simp [hd1]) hd2
          rw [show j / Θ.sz e * Θ.sz e + j % Θ.sz e = j by rw [Nat.mul_comm]; exact Nat.div_add_mod j _, hx] at hfm
          obtain ⟨u2, hu2, hr⟩ := hzz.get _ hfm.symm
          have := madeCells_get zv.cells q j (by rw [hzsz]; exact hj)
          rw [hzsz] at this
          rw [this] at hu
          rw [hu2] at hu
          cases hu
          exact hr) hg (fun b hb => by cases hb) (fun b hb => by simp [ob] at hb; exact .inr (by omega))
    refine comes_value (W' := W') hd ?_ (by simpa using hS')
    simp [execOp, ho, hx, hy, hrun]
/-- The cells of a literal's elements, one behind the other. -/
theorem lit_run (hS : Sim Θ E s a.tmps W bx rw_) (e size : Nat) (hsz : size = Θ.sz e) : ∀ (parts : List (Nat × Operand)) (j : Nat) (l : List (Θ.T e)) (pre rest : List Value), litElems Θ s e j parts = some l → pre.length = j * size → rest.length = parts.length * size →
    ∃ us : List Value, Instr.fill (fun i => some (i * size, size)) (pre ++ rest).toArray (parts.map fun p => (p.1, a.eval p.2)) = some (pre ++ us).toArray ∧ us.length = parts.length * size ∧ l.length = parts.length ∧
      All2 (fun p u => Rep Θ W (FF E s bx rw_ W) u p) (l.flatMap (Θ.enc e)) us := by
  intro parts
  induction parts with
  | nil =>
    intro j l pre rest h hp hr
    simp [litElems] at h
    subst h
    have : rest = [] := List.eq_nil_of_length_eq_zero (by simpa using hr)
    subst this
    exact ⟨[], rfl, by simp, rfl, .nil⟩
  | cons p parts ih =>
    intro j l pre rest h hp hr
    obtain ⟨i, x⟩ := p
    simp only [litElems] at h
    split at h <;> try (cases h; done)
    rename_i hij
    subst hij
    split at h <;> try (cases h; done)
    rename_i cs hcs
    split at h <;> try (cases h; done)
    rename_i hc
    obtain ⟨hcl, hpl⟩ := hc
    split at h <;> try (cases h; done)
    rename_i y l' hy hl'
    cases h
    have hv := cellsOfAV_ok hS.rwsl hcs (hS.ev a rfl x)
    have hvs : (a.eval x).cells.size = size := by rw [hsz, ← hcl, hv.length, Array.length_toList]
    have hr' : rest.length = parts.length * size + size := by rw [hr, List.length_cons, Nat.succ_mul]
    have hfill := fill_run (fun i => some (i * size, size)) (pre ++ rest) i (i * size) (a.eval x) (parts.map fun p => (p.1, a.eval p.2)) (by simp only [hvs]) (by rw [hvs, List.length_append, hp, hr']; omega)
    have hcut : (pre ++ rest).take (i * size) ++ (a.eval x).cells.toList ++ (pre ++ rest).drop (i * size + (a.eval x).cells.size) = (pre ++ (a.eval x).cells.toList) ++ rest.drop size := by
      rw [hvs, ← hp, List.take_left, List.drop_append, List.drop_of_length_le (l := pre) (by omega), show pre.length + size - pre.length = size by omega]
      simp
    rw [hcut] at hfill
    obtain ⟨us, h1, h2, h3, h4⟩ := ih (i + 1) l' (pre ++ (a.eval x).cells.toList) (rest.drop size) hl' (by rw [List.length_append, hp, Array.length_toList, hvs, Nat.succ_mul]) (by rw [List.length_drop, hr']; omega)
    refine ⟨(a.eval x).cells.toList ++ us, ?_, ?_, by simp [h3], ?_⟩
    · simp only [List.map_cons]
      rw [hfill, h1, List.append_assoc]
    · rw [List.length_append, Array.length_toList, hvs, h2, List.length_cons, Nat.succ_mul]; omega
    · rw [List.flatMap_cons]
      exact (elem_plain hpl hy hv).append h4
/-- Time passes: blocks are made, nothing else. -/
theorem Sim.later {tm : Array Value} (hS : Sim Θ E s tm W bx rw_) {W' : World} (h : Below W.heap.size W W') : Sim Θ E s tm W' bx rw_ := by
  have hlt : ∀ k B, look s.boxes k = some B → bx k B.gen < W.heap.size := fun k B hB => by
    obtain ⟨_, cv, hh, _⟩ := hS.boxes k B hB
    exact (Array.getElem?_eq_some_iff.1 hh).1
  have hF : ∀ b, FF E s bx rw_ W b → FF E s bx rw_ W' b := fun b hb => ⟨hb.1, Nat.lt_of_lt_of_le hb.2.1 h.size, hb.2.2⟩
  have hW : ∀ b, FF E s bx rw_ W b → W'.heap[b]? = W.heap[b]? := fun b hb => h.block b hb.2.1
  have hg : W.grownBy W' none := ⟨h.os, h.tape, h.output, h.size, fun b hb _ => h.block b hb⟩
  refine ⟨hS.below.grown hg (fun k e => by cases e), hS.pinB, hS.pinR, hS.rwsl, fun k B hB => ?_, fun r R hR => ?_, hS.bb, hS.rr, hS.br, hS.len, fun i => RAV.trans hF hW (fun _ _ => rfl) (fun _ _ => rfl) (hS.slots i)⟩
  · obtain ⟨h1, cv, hh, ha⟩ := hS.boxes k B hB
    exact ⟨h1, cv, by rw [h.block _ (hlt k B hB)]; exact hh, RCs.trans hF hW (fun _ _ => rfl) (fun _ _ => rfl) ha⟩
  · obtain ⟨h1, us, ho, ha⟩ := hS.rows r R hR
    exact ⟨h1, us, ho.kept hg (by cases ob (rw_ r R.gen) <;> simp), ha.mono fun x u hx => Rep.mono hx hF hW⟩
theorem lit_ok (hS : Sim Θ E s a.tmps W bx rw_) {o : Oper} {d t len : Nat} {parts : Array (Nat × Operand)} (hd : o.dst = some d) (ho : o.op = .buildSlice t len parts) {s' : St Θ.T} (h : aLit P Θ s d t len parts = some (true, s')) : Comes1 Θ P E o a W s' := by
  unfold aLit at h
  split at h <;> try (cases h; done)
  rename_i e he
  have ht := sliceElem_ok he
  split at h <;> try (cases h; done)
  rename_i i hi
  split at h <;> try (cases h; done)
  rename_i hc
  obtain ⟨hsz, h0, hz, hpl, hcap⟩ := hc
  split at h <;> try (cases h; done)
  rename_i l hl
  simp only [Option.some.injEq, Prod.mk.injEq, true_and] at h
  subst h
  · skip
    obtain ⟨z, hzz, hzs⟩ : ∃ z, i.zero = some z ∧ z.cells.size = i.size := by
      cases hq : i.zero with
      | none => simp [hq] at hz
      | some z => exact ⟨z, rfl, by simpa [hq] using hz⟩
    -- the zero cells that the machine lays first
    have hzero : ∃ zs : List Value, zs.length = len * i.size ∧ ∀ W : World, (do
        let zero ← (if len * i.size = 0 then pure #[] else do pure (← zeroValue e).cells : Sem (Array Value))
        pure ((Array.range (len * i.size)).map (zero[· % zero.size]!)) : Sem (Array Value)).run P W = .ok zs.toArray W := by
      by_cases h00 : len * i.size = 0
      · exact ⟨[], by simp [h00], fun W => by simp [h00]⟩
      · exact ⟨((Array.range (len * i.size)).map (z.cells[· % z.cells.size]!)).toList, by simp, fun W => by rw [Array.toArray_toList]; simp only [h00, if_false, zeroValue, typeInfo, Sem.run_bind, Sem.run_pure, Result.andThen_ok, hi, hzz, run_program]⟩
    obtain ⟨zs, hzl, hzr⟩ := hzero
    obtain ⟨us, h1, h2, h3, h4⟩ := lit_run hS e i.size hsz parts.toList 0 l [] zs hl (by simp) (by rw [hzl, hpl])
    simp only [List.nil_append] at h1
    have hown := World.ownsRow_lit (base := 0) (e := e) (size := Θ.sz e) W us.toArray len (Nat.zero_le _) (by
      have : len ≤ len * i.size := Nat.le_mul_of_pos_right _ h0
      simp only [maxLen]; omega) (by simp; rw [h2, hpl, hsz])
    have hll : l.length = len := by rw [h3, hpl]
    have hbel : Below W.heap.size W (W.alloc (.cells us.toArray e)) := (Below.refl _ W).alloc (Nat.le_refl _) _
    have hS1 := hS.later hbel
    have hF1 : ∀ b, FF E s bx rw_ W b → FF E s bx rw_ (W.alloc (.cells us.toArray e)) b := fun b hb => ⟨hb.1, Nat.lt_of_lt_of_le hb.2.1 hbel.size, hb.2.2⟩
    have hnew : FF E s bx rw_ (W.alloc (.cells us.toArray e)) W.heap.size := by
      refine ⟨.inr (Env.own_new hS.below (Nat.le_refl _)), by simp, ?_⟩
      rintro (⟨k, B, hB, hb⟩ | ⟨r, R, hR, hb⟩)
      · obtain ⟨_, cv, hh, _⟩ := hS.boxes k B hB
        have := (Array.getElem?_eq_some_iff.1 hh).1
        omega
      · obtain ⟨_, vs, ho, _⟩ := hS.rows r R hR
        have := ho.lt hb
        omega
    have hul : us.length = l.length * Θ.sz e := by rw [h2, hpl, hll, hsz]
    have hrep : Rep Θ (W.alloc (.cells us.toArray e)) (FF E s bx rw_ (W.alloc (.cells us.toArray e))) (.slice (some ⟨W.heap.size, 0, none⟩) len len) (.sl e l) := by
      refine .sl e l _ _ _ (fun i j => us.getD (i * Θ.sz e + j) undef) hll (Nat.le_refl _) (fun h => by cases h) (fun hne => ⟨⟨W.heap.size, 0, none⟩, rfl, rfl, fun _ => hnew, fun i j hi hj => ?_⟩) (fun i j y x hy hx => ?_)
      · have hlen : i * Θ.sz e + j < us.length := by
          rw [hul]
          have := Nat.mul_le_mul_right (Θ.sz e) hi
          rw [Nat.succ_mul] at this
          omega
        rw [plain_add, cell_of_row _ W.heap.size _ us.toArray e (0, 0) (heap_alloc_new W _), List.getD_eq_getElem?_getD]
        simp [hlen]
      · have hj : j < Θ.sz e := by
          have := (List.getElem?_eq_some_iff.1 hx).1
          rwa [Θ.length_enc] at this
        have hfm := flatMap_get (Θ.enc e) (Θ.sz e) (Θ.length_enc e) l i j y hy hj
        rw [hx] at hfm
        obtain ⟨u, hu, hr⟩ := h4.get _ hfm
        rw [List.getD_eq_getElem?_getD, hu]
        exact Rep.mono hr hF1 (fun b hb => hbel.block b hb.2.1)
    have hS' : Sim Θ E (s.put (some d) (if parts.isEmpty then .c .e0 else .c (.v (.sl e l)))) (a.tmps.setIfInBounds d (.slice (some ⟨W.heap.size, 0, none⟩) len len)) (W.alloc (.cells us.toArray e)) bx rw_ := by
      refine Sim.put hS1 d ?_
      split
      · rename_i hpe
        have : len = 0 := by rw [← hpl]; simp at hpe; simp [hpe]
        rw [this]; exact ⟨_, rfl⟩
      · exact hrep
    refine comes_value (W' := W.alloc (.cells us.toArray e)) hd ?_ hS'
    have hz1 := hzr W
    have hcap' : ¬ 16777216 < len * i.size := by omega
    by_cases h00 : len * i.size = 0
    · simp only [h00, if_true, Sem.run_bind, Sem.run_pure, Result.andThen_ok] at hz1
      have hz2 : zs = [] := List.eq_nil_of_length_eq_zero (by rw [hzl, h00])
      subst hz2
      have h1' : Instr.fill (fun i_1 => some (i_1 * i.size, i.size)) #[] (List.map (fun x => (x.fst, a.eval x.snd)) parts.toList) = some us.toArray := h1
      have hr0 : Array.map (fun _ => (default : Value)) (Array.range 0) = #[] := by apply Array.ext'; simp
      simp [execOp, ho, Instr.buildSlice, run_underlying ht, sizeOf, typeInfo, hi, h00, hr0, h1', newRow]
    · have hzs' : ((Array.range (len * i.size)).map (z.cells[· % z.cells.size]!)) = zs.toArray := by
        simp [h00, zeroValue, typeInfo, hi, hzz] at hz1
        exact hz1
      have h1' : Instr.fill (fun i_1 => some (i_1 * i.size, i.size)) zs.toArray (List.map (fun x => (x.fst, a.eval x.snd)) parts.toList) = some us.toArray := h1
      simp [execOp, ho, Instr.buildSlice, run_underlying ht, sizeOf, typeInfo, hi, h00, hcap', zeroValue, hzz, hzs', h1', newRow]
/-- An operation that makes or writes memory. -/
theorem opA_ok (hS : Sim Θ E s a.tmps W bx rw_) {o : Oper} {s' : St Θ.T} (h : opA P Θ s o = some (true, s')) : Comes1 Θ P E o a W s' := by
  unfold opA at h
  split at h
  · rename_i d hd
    split at h <;> try (cases h; done)
    · rename_i ho; exact alloc_ok hS hd ho h
    · rename_i ho; exact box_ok hS hd ho h
    · rename_i ho; exact make_ok hS hd ho h
    · rename_i ho; exact lit_ok hS hd ho h
    · rename_i c ho
      obtain ⟨callee, args, ats⟩ := c
      simp only at h
      split at h <;> try (cases h; done)
      rename_i x y t t' harg hat
      split at h <;> try (cases h; done)
      rename_i htt
      subst htt
      have e1 : args = #[x, y] := by apply Array.ext'; simpa using harg
      have e2 : ats = #[t, t] := by apply Array.ext'; simpa using hat
      subst e1
      subst e2
      exact append_ok hS hd ho h
  · rename_i hd
    split at h <;> try (cases h; done)
    rename_i ho
    exact store_ok hS hd ho h
end
end Go.Den
