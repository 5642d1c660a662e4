/- Signs of a chart, plain: rows that are marked, which signs two arcs come to, and how many of each there are. -/
import Derived.Test.YtoafplpdjmiolaaCirc2
namespace Go.Circ
open Go Go.Den Go.RowKit
/-- A row, marked where p holds. -/
def mkP (p : Nat → Bool) (g : Int) (row : List Int) : List Int := row.mapIdx fun j v => if p j = true then g else v
theorem mkP_len (p : Nat → Bool) (g : Int) (row : List Int) : (mkP p g row).length = row.length := by simp [mkP]
theorem mkP_congr {p q : Nat → Bool} {g : Int} {row : List Int} (h : ∀ j, j < row.length → p j = q j) : mkP p g row = mkP q g row := by
  refine List.ext_getElem? fun j => ?_
  simp only [mkP, List.getElem?_mapIdx]
  by_cases hj : j < row.length
  · rw [List.getElem?_eq_getElem hj]; simp [h j hj]
  · rw [List.getElem?_eq_none (by omega)]; rfl
theorem mkP_none {p : Nat → Bool} {g : Int} {row : List Int} (h : ∀ j, j < row.length → p j = false) : mkP p g row = row := by
  refine List.ext_getElem? fun j => ?_
  simp only [mkP, List.getElem?_mapIdx]
  by_cases hj : j < row.length
  · rw [List.getElem?_eq_getElem hj]; simp [h j hj]
  · rw [List.getElem?_eq_none (by omega)]; rfl
theorem mkP_or (p q : Nat → Bool) (g : Int) (row : List Int) : mkP p g (mkP q g row) = mkP (fun j => q j || p j) g row := by
  refine List.ext_getElem? fun j => ?_
  simp only [mkP, List.getElem?_mapIdx]
  cases row[j]? <;> simp
  cases p j <;> cases q j <;> simp
theorem mkP_set {p q : Nat → Bool} {g : Int} {row : List Int} {i : Nat} (hi : p i = true) (h : ∀ j, j < row.length → j ≠ i → p j = q j) : mkP q g (List.set row i g) = mkP p g row := by
  refine List.ext_getElem? fun j => ?_
  simp only [mkP, List.getElem?_mapIdx, List.getElem?_set]
  by_cases hj : j < row.length
  · by_cases e : i = j
    · subst e
      rw [List.getElem?_eq_getElem hj]
      simp [hj, hi]
    · rw [if_neg e, List.getElem?_eq_getElem hj]
      simp [h j hj (fun e' => e e'.symm)]
  · rw [List.getElem?_eq_none (by omega)]
    by_cases e : i = j
    · subst e; simp [hj]
    · simp [e]
/-- How many signs: the places of ticks 0, s, 2s, .. below c. -/
def nSig (c s : Int) : Nat := ((c + s - 1) / s).toNat
theorem nSig_lt {c s : Int} (hc : 1 ≤ c) (hs : 1 ≤ s) (j : Nat) : j < nSig c s ↔ (j : Int) * s < c := by
  unfold nSig
  have h0 : 0 ≤ (c + s - 1) / s := Int.ediv_nonneg (by omega) (by omega)
  rw [Int.lt_toNat]
  constructor
  · intro h
    have h1 : (j : Int) + 1 ≤ (c + s - 1) / s := by omega
    have h2 := (Int.le_ediv_iff_mul_le (by omega : 0 < s)).1 h1
    rw [Int.add_mul, Int.one_mul] at h2
    omega
  · intro h
    have h1 : ((j : Int) + 1) * s ≤ c + s - 1 := by rw [Int.add_mul, Int.one_mul]; omega
    have h2 := (Int.le_ediv_iff_mul_le (by omega : 0 < s)).2 h1
    omega
/-- The sign of a tick that the one has, and the other one. -/
def sgI (a b : Bool) : Int := if a && b then 35 else if a then 62 else if b then 60 else 46
def sgB (a b : Bool) : UInt8 := if a && b then 35 else if a then 62 else if b then 60 else 46
theorem sg_eq (a b : Bool) : UInt8.ofNat (sgI a b).toNat = sgB a b := by cases a <;> cases b <;> rfl
theorem sgI_ok (a b : Bool) : 0 ≤ sgI a b ∧ sgI a b < 256 := by cases a <;> cases b <;> decide
def rowI (c s : Int) (p q : Int → Bool) : List Int := (List.range (nSig c s)).map fun (j : Nat) => sgI (p ((j : Int) * s)) (q ((j : Int) * s))
def rowB (c s : Int) (p q : Int → Bool) : List UInt8 := (List.range (nSig c s)).map fun (j : Nat) => sgB (p ((j : Int) * s)) (q ((j : Int) * s))
theorem row_eq (c s : Int) (p q : Int → Bool) : ((rowI c s p q).map fun y => UInt8.ofNat y.toNat) = rowB c s p q := by
  unfold rowI rowB; rw [List.map_map]; exact List.map_congr_left fun j _ => sg_eq _ _
theorem row_all (c s : Int) (p q : Int → Bool) : ((rowI c s p q).all fun y => decide (0 ≤ y) && decide (y < 256)) = true := by
  rw [List.all_eq_true]
  intro y hy
  obtain ⟨j, _, rfl⟩ := List.mem_map.1 hy
  have := sgI_ok (p ((j : Int) * s)) (q ((j : Int) * s))
  simp [this.1, this.2]
/-- Three marks over dots are the row of signs. -/
theorem marks_row (c s : Int) (p q r : Int → Bool) (hr : ∀ j : Nat, j < nSig c s → r ((j : Int) * s) = (p ((j : Int) * s) && q ((j : Int) * s))) :
    mkP (fun j => r ((j : Int) * s)) 35 (mkP (fun j => q ((j : Int) * s)) 60 (mkP (fun j => p ((j : Int) * s)) 62 (List.replicate (nSig c s) 46))) = rowI c s p q := by
  refine List.ext_getElem? fun j => ?_
  simp only [mkP, rowI, List.getElem?_mapIdx, List.getElem?_replicate, List.getElem?_map]
  by_cases hj : j < nSig c s
  · rw [if_pos hj, List.getElem?_eq_getElem (by simpa using hj)]
    simp only [Option.map_some, List.getElem_range, hr j hj]
    unfold sgI
    by_cases hx : p ((j : Int) * s) = true <;> by_cases hy : q ((j : Int) * s) = true <;> simp [hx, hy]
  · rw [if_neg hj, List.getElem?_eq_none (by simpa using Nat.le_of_not_lt hj)]; rfl
/-- Which places an arc's two stretches mark. -/
theorem two_marks {c : Int} {a : Int × Int} (h0 : 0 ≤ a.1) (h1 : a.1 < c) (h2 : 1 ≤ a.2) (h3 : a.2 ≤ c) {t : Int} (ht : 0 ≤ t) (ht' : t < c) :
    ((a.1 ≤ t ∧ t < a.1 + a.2) ∨ (a.1 - c ≤ t ∧ t < a.1 - c + a.2)) ↔ HasT c a t := by
  unfold HasT
  rw [emod_sub h0 h1 ht ht']
  split <;> omega
/-! ### How many -/
theorem count_rowB (c s : Int) (p q : Int → Bool) (g : UInt8) : (rowB c s p q).count g = (List.range (nSig c s)).countP fun (j : Nat) => sgB (p ((j : Int) * s)) (q ((j : Int) * s)) == g := by
  unfold rowB
  rw [List.count_eq_countP, List.countP_map]; rfl
theorem count_split (p q : Nat → Bool) (l : List Nat) :
    (l.countP fun j => sgB (p j) (q j) == 35) + (l.countP fun j => sgB (p j) (q j) == 62) = l.countP p ∧
    (l.countP fun j => sgB (p j) (q j) == 35) + (l.countP fun j => sgB (p j) (q j) == 60) = l.countP q ∧
    (l.countP fun j => sgB (p j) (q j) == 46) + l.countP p + l.countP q = l.length + (l.countP fun j => sgB (p j) (q j) == 35) := by
  induction l with
  | nil => simp
  | cons a l ih =>
    obtain ⟨i1, i2, i3⟩ := ih
    simp only [List.countP_cons, List.length_cons]
    have s1 : ∀ g : UInt8, (if (sgB true true == g) = true then 1 else 0) = if (35 : UInt8) = g then 1 else 0 := fun g => by simp [sgB]
    have s2 : ∀ g : UInt8, (if (sgB true false == g) = true then 1 else 0) = if (62 : UInt8) = g then 1 else 0 := fun g => by simp [sgB]
    have s3 : ∀ g : UInt8, (if (sgB false true == g) = true then 1 else 0) = if (60 : UInt8) = g then 1 else 0 := fun g => by simp [sgB]
    have s4 : ∀ g : UInt8, (if (sgB false false == g) = true then 1 else 0) = if (46 : UInt8) = g then 1 else 0 := fun g => by simp [sgB]
    generalize (List.countP (fun j => sgB (p j) (q j) == 35) l) = n1 at *
    generalize (List.countP (fun j => sgB (p j) (q j) == 62) l) = n2 at *
    generalize (List.countP (fun j => sgB (p j) (q j) == 60) l) = n3 at *
    generalize (List.countP (fun j => sgB (p j) (q j) == 46) l) = n4 at *
    cases hp : p a <;> cases hq : q a <;> simp only [s1, s2, s3, s4] <;> simp <;> omega
/-- An arc has as many ticks as it is long. -/
theorem norm_count {C : Nat} (h1 : 1 ≤ C) (h2 : C ≤ 6000) (a : Int × Int) : ((List.range C).countP fun (j : Nat) => decide (HasT C a j) : Nat) = (normOf C a).2.toNat := by
  have hn := normOf_at (C := (C : Int)) (by omega) a
  have hcov : ∀ j : Nat, j < C → (HasT C a j ↔ Cov (cut1 C a) j) := fun j hj => (cut1_cov (by omega) (by omega) a (by omega) (by omega)).symm
  have e0 : ((List.range C).countP fun (j : Nat) => decide (HasT C a j)) = (List.range C).countP fun (j : Nat) => (cut1 C a).any fun p => decide (p.1 ≤ (j : Int)) && decide ((j : Int) < p.2) := by
    refine List.countP_congr fun j hj => ?_
    rw [decide_eq_true_iff, hcov j (by simpa using hj)]
    simp [Cov]
  rw [e0]
  unfold cut1
  split
  · rename_i hz
    simp [hz]
  · rename_i hz
    split
    · rename_i hle
      have := count_piece (C := C) (p := ((normOf C a).1, (normOf C a).1 + (normOf C a).2)) hn.1 (by simp; omega) hle
      simp only [List.any_cons, List.any_nil, Bool.or_false]
      rw [this]
      simp only
      congr 1; omega
    · rename_i hle
      have p1 := count_piece (C := C) (p := ((normOf C a).1, (C : Int))) hn.1 (by simp; omega) (Int.le_refl _)
      have p2 := count_piece (C := C) (p := ((0 : Int), (normOf C a).1 + (normOf C a).2 - C)) (Int.le_refl _) (by simp; omega) (by simp; omega)
      simp only [List.any_cons, List.any_nil, Bool.or_false]
      rw [countP_or _ _ _ (fun x _ => by simp; omega), p1, p2]
      simp only
      omega
/-! ### One stretch of marks -/
theorem set_mkP (p : Nat → Bool) (g : Int) (row : List Int) (i : Nat) : List.set (mkP p g row) i g = mkP (fun j => p j || j == i) g row := by
  refine List.ext_getElem? fun j => ?_
  simp only [mkP, List.getElem?_mapIdx, List.getElem?_set, List.length_mapIdx]
  by_cases hj : j < row.length
  · by_cases e : i = j
    · subst e; simp [hj]
    · rw [if_neg e]
      have : (j == i) = false := by simp; omega
      simp [this]
  · rw [List.getElem?_eq_none (by omega)]
    by_cases e : i = j
    · subst e; simp [hj]
    · simp [e]
def stretch (f len s : Int) (j : Nat) : Bool := decide (f ≤ (j : Int) * s ∧ (j : Int) * s < f + len)
/-- The first place of a stretch. -/
def fst0 (f s : Int) : Nat := ((f + s - 1) / s).toNat
theorem fst0_le {f s : Int} (hs : 1 ≤ s) (j : Nat) : fst0 f s ≤ j ↔ f ≤ (j : Int) * s := by
  unfold fst0
  rw [Int.toNat_le]
  have h1 : (f + s - 1) / s ≤ j ↔ (f + s - 1) / s < (j : Int) + 1 := by omega
  rw [h1, Int.ediv_lt_iff_lt_mul (by omega), Int.add_mul, Int.one_mul]
  omega
theorem first_ {f s : Int} (hf : -6000 ≤ f) (hf' : f ≤ 6000) (hs : 1 ≤ s) (hs' : s ≤ 6000) : mx 0 (wrap64 ((wrap64 (Int.tdiv (wrap64 ((wrap64 (f + s)) - 1)) s)) * s)) = ((fst0 f s : Nat) : Int) * s := by
  rw [wrap64_id (n := f + s) (by omega) (by omega), wrap64_id (n := f + s - 1) (by omega) (by omega), mx_eq]
  unfold fst0
  by_cases h : 0 ≤ f + s - 1
  · rw [Int.tdiv_eq_ediv_of_nonneg h]
    have h1 : 0 ≤ (f + s - 1) / s := Int.ediv_nonneg h (by omega)
    have h2 : (f + s - 1) / s * s ≤ f + s - 1 := Int.ediv_mul_le _ (by omega)
    have h3 : (f + s - 1) / s ≤ f + s - 1 := Int.ediv_le_self _ h
    have h4 : 0 ≤ (f + s - 1) / s * s := Int.mul_nonneg h1 (by omega)
    rw [wrap64_id (n := (f + s - 1) / s) (by omega) (by omega), wrap64_id (by omega) (by omega), Int.toNat_of_nonneg h1]
    omega
  · obtain ⟨b, hb⟩ : ∃ b : Int, f + s - 1 = -b := ⟨-(f + s - 1), by omega⟩
    have hb0 : 0 ≤ b := by omega
    rw [hb, Int.neg_tdiv, Int.tdiv_eq_ediv_of_nonneg hb0]
    have h1 : 0 ≤ b / s := Int.ediv_nonneg hb0 (by omega)
    have h2 : b / s * s ≤ b := Int.ediv_mul_le _ (by omega)
    have h3 : b / s ≤ b := Int.ediv_le_self _ hb0
    have h4 : 0 ≤ b / s * s := Int.mul_nonneg h1 (by omega)
    have h5 : -b / s ≤ 0 := by
      have : -b / s < 1 := (Int.ediv_lt_iff_lt_mul (by omega)).2 (by omega)
      omega
    rw [wrap64_id (n := -(b / s)) (by omega) (by omega), Int.neg_mul, wrap64_id (by omega) (by omega), Int.toNat_of_nonpos h5]
    simp; omega
/-- How many places a stretch has, below c. -/
def many (f len c s : Int) : Nat := if 1 ≤ min (f + len) c then nSig (min (f + len) c) s - fst0 f s else 0
theorem many_lt {f len c s : Int} (hs : 1 ≤ s) (i : Nat) : i < many f len c s ↔ ((fst0 f s + i : Nat) : Int) * s < min (f + len) c := by
  unfold many
  split
  · rename_i h
    rw [← nSig_lt h hs]; omega
  · rename_i h
    have : 0 ≤ ((fst0 f s + i : Nat) : Int) * s := Int.mul_nonneg (by omega) (by omega)
    omega
theorem stretch_eq {f len c s : Int} (hc : 1 ≤ c) (hs : 1 ≤ s) {j : Nat} (hj : j < nSig c s) : (decide (fst0 f s ≤ j) && decide (j < fst0 f s + many f len c s)) = stretch f len s j := by
  have h1 := (nSig_lt hc hs j).1 hj
  unfold stretch
  have h0 := fst0_le (f := f) hs j
  by_cases h : fst0 f s ≤ j
  · obtain ⟨i, hi⟩ := Nat.exists_eq_add_of_le h
    have := many_lt (f := f) (len := len) (c := c) hs i
    rw [← hi] at this
    by_cases h2 : i < many f len c s
    · have := this.1 h2
      have h4 := h0.1 h
      rw [decide_eq_true h, decide_eq_true (by omega), decide_eq_true (by omega)]; rfl
    · have h3 : ¬ _ := fun e => h2 (this.2 e)
      rw [decide_eq_true h, decide_eq_false (by omega), decide_eq_false (by omega)]; rfl
  · have h4 : ¬ _ := fun e => h (h0.2 e)
    rw [decide_eq_false h, decide_eq_false (p := f ≤ (j : Int) * s ∧ (j : Int) * s < f + len) (fun e => h4 e.1)]; rfl
/-- A row behind some stretches. -/
def rowk (fr : Nat → Int) (len s g : Int) (R : List Int) : Nat → List Int
  | 0 => R
  | k + 1 => mkP (stretch (fr k) len s) g (rowk fr len s g R k)
theorem rowk_len (fr : Nat → Int) (len s g : Int) (R : List Int) : ∀ k, (rowk fr len s g R k).length = R.length
  | 0 => rfl
  | k + 1 => by rw [rowk, mkP_len, rowk_len fr len s g R k]
end Go.Circ
