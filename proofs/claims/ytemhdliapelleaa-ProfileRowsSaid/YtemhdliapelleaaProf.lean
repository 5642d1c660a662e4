/- Queues at a light, in plain Lean: rounds of a cycle, the least queue that is there again, turned rounds. -/
import Derived.Test.YtemhdliapelleaaCirc2
namespace Go.Circ

/-- One tick: what came so far, the queue, what waits; x: what comes, and what can go. -/
def qstep (s : List Int × Int × Int) (x : Int × Int) : List Int × Int × Int := (s.1 ++ [min (s.2.1 + x.1) x.2], s.2.1 + x.1 - min (s.2.1 + x.1) x.2, s.2.2 + (s.2.1 + x.1 - min (s.2.1 + x.1) x.2))
def qrun (q : Int) (L : List (Int × Int)) : List Int × Int × Int := L.foldl qstep ([], q, 0)
/-- The queue behind some ticks. -/
def fq : Int → List (Int × Int) → Int
  | q, [] => q
  | q, x :: L => fq (q + x.1 - min (q + x.1) x.2) L
def gn : Int → List (Int × Int) → List Int
  | _, [] => []
  | q, x :: L => min (q + x.1) x.2 :: gn (q + x.1 - min (q + x.1) x.2) L
def wt : Int → List (Int × Int) → Int
  | _, [] => 0
  | q, x :: L => (q + x.1 - min (q + x.1) x.2) + wt (q + x.1 - min (q + x.1) x.2) L
theorem qrun_gen : ∀ (L : List (Int × Int)) (g : List Int) (q w : Int), L.foldl qstep (g, q, w) = (g ++ gn q L, fq q L, w + wt q L) := by
  intro L
  induction L with
  | nil => intro g q w; simp [gn, fq, wt]
  | cons x L ih =>
    intro g q w
    rw [List.foldl_cons]
    show L.foldl qstep (g ++ [min (q + x.1) x.2], q + x.1 - min (q + x.1) x.2, w + (q + x.1 - min (q + x.1) x.2)) = _
    rw [ih]
    simp [gn, fq, wt, List.append_assoc, Int.add_assoc]
theorem qrun_eq (q : Int) (L : List (Int × Int)) : qrun q L = (gn q L, fq q L, wt q L) := by
  unfold qrun; rw [qrun_gen]; simp
theorem fq_append (q : Int) (L M : List (Int × Int)) : fq q (L ++ M) = fq (fq q L) M := by
  induction L generalizing q with
  | nil => rfl
  | cons x L ih => exact ih _
theorem gn_append (q : Int) (L M : List (Int × Int)) : gn q (L ++ M) = gn q L ++ gn (fq q L) M := by
  induction L generalizing q with
  | nil => rfl
  | cons x L ih => show _ :: gn _ (L ++ M) = _ :: (gn _ L ++ _); rw [ih]; rfl
theorem wt_append (q : Int) (L M : List (Int × Int)) : wt q (L ++ M) = wt q L + wt (fq q L) M := by
  induction L generalizing q with
  | nil => simp [wt, fq]
  | cons x L ih =>
    show _ + wt _ (L ++ M) = (_ + wt _ L) + _
    rw [ih]
    show _ + (_ + wt (fq _ L) M) = _ + _ + wt (fq _ L) M
    omega
theorem gn_len (q : Int) (L : List (Int × Int)) : (gn q L).length = L.length := by
  induction L generalizing q with
  | nil => rfl
  | cons x L ih => simp [gn, ih]
/-- Numbers that may be. -/
def Fine (L : List (Int × Int)) : Prop := ∀ x ∈ L, (0 ≤ x.1 ∧ x.1 ≤ 1000000000) ∧ 0 ≤ x.2 ∧ x.2 ≤ 1000000000
theorem Fine.tail {x : Int × Int} {L : List (Int × Int)} (h : Fine (x :: L)) : Fine L := fun y hy => h y (by simp [hy])
theorem fq_nonneg {L : List (Int × Int)} (hL : Fine L) {q : Int} (hq : 0 ≤ q) : 0 ≤ fq q L := by
  induction L generalizing q with
  | nil => exact hq
  | cons x L ih => have := hL x (by simp); exact ih hL.tail (by omega)
theorem fq_bound {L : List (Int × Int)} (hL : Fine L) {q : Int} (hq : 0 ≤ q) : fq q L ≤ q + 1000000000 * L.length := by
  induction L generalizing q with
  | nil => simp [fq]
  | cons x L ih =>
    have hx := hL x (by simp)
    have := ih hL.tail (q := q + x.1 - min (q + x.1) x.2) (by omega)
    simp only [fq, List.length_cons]
    omega
theorem wt_bound {L : List (Int × Int)} (hL : Fine L) {B : Int} : ∀ {q : Int}, 0 ≤ q → q + 1000000000 * L.length ≤ B → 0 ≤ wt q L ∧ wt q L ≤ B * L.length := by
  induction L with
  | nil => intro q _ _; simp [wt]
  | cons x L ih =>
    intro q hq hB
    have hx := hL x (by simp)
    simp only [List.length_cons] at hB ⊢
    have := ih hL.tail (q := q + x.1 - min (q + x.1) x.2) (by omega) (by omega)
    simp only [wt]
    have e : B * ((L.length + 1 : Nat) : Int) = B * (L.length : Int) + B := by rw [Int.natCast_add]; simp [Int.mul_add]
    omega
def Dl (L : List (Int × Int)) : Int := (L.map fun x => x.1 - x.2).sum
def Nl : List (Int × Int) → Int
  | [] => 0
  | _ :: L => max (Dl L) (Nl L)
/-- The greatest of what is left over of the last ticks. -/
def Ml (L : List (Int × Int)) : Int × Int := L.foldr (fun x s => (max s.1 (s.2 + (x.1 - x.2)), s.2 + (x.1 - x.2))) (0, 0)
theorem Ml_snd (L : List (Int × Int)) : (Ml L).2 = Dl L := by
  induction L with
  | nil => rfl
  | cons x L ih => simp only [Ml, List.foldr_cons, Dl, List.map_cons, List.sum_cons] at *; rw [ih]; omega
theorem Ml_cons (x : Int × Int) (L : List (Int × Int)) : (Ml (x :: L)).1 = max (Ml L).1 (Dl (x :: L)) := by
  have h := Ml_snd L
  simp only [Ml, List.foldr_cons, Dl, List.map_cons, List.sum_cons] at *
  rw [h]
  congr 1; omega
theorem Ml_fst (L : List (Int × Int)) : (Ml L).1 = max (Dl L) (Nl L) := by
  induction L with
  | nil => rfl
  | cons x L ih => rw [Ml_cons, ih]; simp only [Nl]; omega
theorem Nl_nonneg (L : List (Int × Int)) : 0 ≤ Nl L := by
  induction L with
  | nil => exact Int.le_refl _
  | cons x L ih => simp only [Nl]; omega
theorem fq_max {L : List (Int × Int)} (hL : Fine L) {q : Int} (hq : 0 ≤ q) : fq q L = max (q + Dl L) (Nl L) := by
  induction L generalizing q with
  | nil => simp [fq, Dl, Nl]; omega
  | cons x L ih =>
    have hx := hL x (by simp)
    simp only [fq]
    rw [ih hL.tail (by omega)]
    simp only [Dl, List.map_cons, List.sum_cons, Nl]
    simp only [Dl] at *
    omega
/-- Where no more comes than can go, the least queue that is there again. -/
theorem Ml_least {L : List (Int × Int)} (hD : Dl L ≤ 0) : (Ml L).1 = Nl L := by rw [Ml_fst]; have := Nl_nonneg L; omega
theorem fq_zero {L : List (Int × Int)} (hL : Fine L) (hD : Dl L ≤ 0) : fq 0 L = Nl L := by rw [fq_max hL (by omega)]; have := Nl_nonneg L; omega
theorem fq_fix {L : List (Int × Int)} (hL : Fine L) (hD : Dl L ≤ 0) : fq (Nl L) L = Nl L := by rw [fq_max hL (Nl_nonneg L)]; omega
theorem fq_least {L : List (Int × Int)} (hL : Fine L) {q : Int} (hq : 0 ≤ q) (h : fq q L = q) : Nl L ≤ q := by rw [fq_max hL hq] at h; omega
theorem fq_mono {L : List (Int × Int)} (hL : Fine L) {p q : Int} (hp : 0 ≤ p) (h : p ≤ q) : fq p L ≤ fq q L := by rw [fq_max hL hp, fq_max hL (by omega)]; omega
theorem Nl_bound {L : List (Int × Int)} (hL : Fine L) : Nl L ≤ 1000000000 * L.length := by
  have hD : ∀ L : List (Int × Int), Fine L → Dl L ≤ 1000000000 * L.length := by
    intro L
    induction L with
    | nil => intro _; simp [Dl]
    | cons x L ih =>
      intro h
      have hx := h x (by simp)
      have := ih h.tail
      simp only [Dl, List.map_cons, List.sum_cons, List.length_cons] at *
      omega
  induction L with
  | nil => simp [Nl]
  | cons x L ih =>
    have h1 := ih hL.tail
    have h2 := hD L hL.tail
    simp only [Nl, List.length_cons]
    omega
theorem Dl_append (L M : List (Int × Int)) : Dl (L ++ M) = Dl L + Dl M := by simp [Dl]
/-- The least queue of a turned round is the queue where it begins. -/
theorem turned {A B : List (Int × Int)} (hA : Fine A) (hB : Fine B) (hD : Dl (A ++ B) ≤ 0) : Nl (B ++ A) = fq (Nl (A ++ B)) A := by
  have hAB : Fine (A ++ B) := fun x hx => (List.mem_append.1 hx).elim (hA x) (hB x)
  have hBA : Fine (B ++ A) := fun x hx => (List.mem_append.1 hx).elim (hB x) (hA x)
  have hD' : Dl (B ++ A) ≤ 0 := by rw [Dl_append] at *; omega
  have n1 := Nl_nonneg (A ++ B)
  have n2 := Nl_nonneg (B ++ A)
  have f1 := fq_fix hAB hD
  have f2 := fq_fix hBA hD'
  rw [fq_append] at f1 f2
  have p0 := fq_nonneg hA n1
  have q0 := fq_nonneg hB n2
  -- what stands at the turn is there again
  have g1 : Nl (B ++ A) ≤ fq (Nl (A ++ B)) A := fq_least hBA p0 (by rw [fq_append, f1])
  have g2 : Nl (A ++ B) ≤ fq (Nl (B ++ A)) B := fq_least hAB q0 (by rw [fq_append, f2])
  have g3 : fq (Nl (B ++ A)) B ≤ fq (fq (Nl (A ++ B)) A) B := fq_mono hB n2 g1
  rw [f1] at g3
  have e : fq (Nl (B ++ A)) B = Nl (A ++ B) := by omega
  rw [e] at f2
  exact f2.symm
/-- What goes, tick by tick. -/
theorem gn_fine {L : List (Int × Int)} (hL : Fine L) {q : Int} (hq : 0 ≤ q) : ∀ g ∈ gn q L, 0 ≤ g ∧ g ≤ 1000000000 := by
  induction L generalizing q with
  | nil => intro g h; cases h
  | cons x L ih =>
    have hx := hL x (by simp)
    intro g hg
    simp only [gn, List.mem_cons] at hg
    rcases hg with rfl | hg
    · omega
    · exact ih hL.tail (by omega) g hg
theorem gn_sum {L : List (Int × Int)} (q : Int) : (gn q L).sum = q + (L.map (·.1)).sum - fq q L := by
  induction L generalizing q with
  | nil => simp [gn, fq]
  | cons x L ih => simp only [gn, List.sum_cons, ih, List.map_cons, fq]; omega
theorem getD_take {A : Type} (l : List A) (i : Nat) (d : A) (h : i < l.length) : l.take (i + 1) = l.take i ++ [l.getD i d] := by
  have : l.getD i d = l[i] := by simp [List.getD_eq_getElem?_getD, h]
  rw [this]; exact List.take_succ_eq_append_getElem h
theorem gn_get (q : Int) (L : List (Int × Int)) (i : Nat) (h : i < L.length) : (gn q L).getD i 0 = min (fq q (L.take i) + (L.getD i (0, 0)).1) (L.getD i (0, 0)).2 := by
  induction L generalizing q i with
  | nil => simp at h
  | cons x L ih =>
    cases i with
    | zero => simp [gn, fq]
    | succ i => simp only [gn, List.getD_cons_succ, List.take_succ_cons, fq]; exact ih _ i (by simpa using h)
theorem fq_snoc (q : Int) (L : List (Int × Int)) (i : Nat) (h : i < L.length) : fq q (L.take (i + 1)) = fq q (L.take i) + (L.getD i (0, 0)).1 - min (fq q (L.take i) + (L.getD i (0, 0)).1) (L.getD i (0, 0)).2 := by
  rw [getD_take L i (0, 0) h, fq_append]; rfl
theorem gn_snoc (q : Int) (L : List (Int × Int)) (i : Nat) (h : i < L.length) : gn q (L.take (i + 1)) = gn q (L.take i) ++ [min (fq q (L.take i) + (L.getD i (0, 0)).1) (L.getD i (0, 0)).2] := by
  rw [getD_take L i (0, 0) h, gn_append]; rfl
theorem wt_snoc (q : Int) (L : List (Int × Int)) (i : Nat) (h : i < L.length) : wt q (L.take (i + 1)) = wt q (L.take i) + (fq q (L.take i) + (L.getD i (0, 0)).1 - min (fq q (L.take i) + (L.getD i (0, 0)).1) (L.getD i (0, 0)).2) := by
  rw [getD_take L i (0, 0) h, wt_append]; simp [wt]
theorem Fine.take {L : List (Int × Int)} (h : Fine L) (i : Nat) : Fine (L.take i) := fun x hx => h x (List.mem_of_mem_take hx)
theorem Fine.drop {L : List (Int × Int)} (h : Fine L) (i : Nat) : Fine (L.drop i) := fun x hx => h x (List.mem_of_mem_drop hx)
end Go.Circ
