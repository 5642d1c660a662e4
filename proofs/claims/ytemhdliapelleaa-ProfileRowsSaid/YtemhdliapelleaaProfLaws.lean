/- The laws of chapter 34, on plain functions. -/
import Derived.Test.YtemhdliapelleaaProfRef
namespace Go.Proofs.Ytemhdliapelleaa.Fn
open Go Go.RowKit Go.Den Go.Circ
set_option linter.unusedVariables false

theorem ticksOf_eval {C : Int} (hc : 1 ≤ C ∧ C ≤ 6000) (l : List (Int × Int)) : ticksOf C l = mk C.toNat fun j => l.any fun a => decide (HasT C a j) := by
  unfold ticksOf
  rw [if_pos hc, mk_tks hc (T := TS C l) fun i _ => by simp [TS]]
theorem awake34_ : Ev (fun n => law34_awake n ()) true := by
  unfold law34_awake
  have e1 : passOf 4 (2, 2) 3 [1, 1, 1, 1] = (0, 3, 0, [0, 0, 3, 1]) := by
    unfold passOf; rw [ticksOf_eval (by omega)]; decide
  have e2 : sumOf [0, 0, 3, 1] = 4 := by decide
  have e3 : rotOf [1, 2, 3] 1 = [3, 1, 2] := by decide
  have h1 := pass_ 4 (2, 2) 3 [1, 1, 1, 1] (by simp)
  have h2 := psum_ [0, 0, 3, 1] (by simp)
  rw [e1] at h1
  rw [e2] at h2
  refine Ev.bind h1 ?_
  simp only [letJ]
  refine Ev.bind (longs_ [0, 0, 3, 1] [0, 0, 3, 1] (by simp)) ?_
  refine Ev.bind h2 ?_
  show Ev (fun n => (profile_Turn n ([1, 2, 3], 1)).bind fun y4 => (ref10_Longs n (y4, [3, 1, 2])).bind fun y5 => some y5) true
  refine Ev.bindS (fun n => pturn_ n [1, 2, 3] 1 (by simp)) ?_
  rw [e3]
  refine Ev.bind (longs_ [3, 1, 2] [3, 1, 2] (by simp)) ?_
  exact Ev.ret _
theorem passOf_len (C : Int) (a : Int × Int) (sat : Int) (come : List Int) : (passOf C a sat come).2.2.2.length ≤ come.length := by
  unfold passOf
  split
  · split
    · simp
    · simp only; rw [gn_len, pairs_len]; exact Nat.le_refl _
  · simp
theorem ProfilePass_ (C : Int) (a : Int × Int) (sat : Int) (come : List Int) : Ev (fun n => law34_ProfilePass n (C, a.1, a.2, sat, come)) true := by
  unfold law34_ProfilePass
  by_cases h : 300 < come.length
  · have : (300 : Int) < ((come.length : Nat) : Int) := by omega
    simp only [this, decide_true, cond_true]
    exact Ev.ret _
  have hno : ¬ (300 : Int) < ((come.length : Nat) : Int) := by omega
  simp only [hno, decide_false, cond_false, letJ]
  have hlen := passOf_len C a sat come
  refine Ev.bind (pass_ C a sat come (by omega)) (Ev.bind (rpass_ C a sat come (by omega)) ?_)
  refine Ev.bind (longs_ _ _ (by omega)) ?_
  simp only [decide_true, cond_true, beq_self_eq_true]
  exact Ev.bind awake34_ (Ev.ret _)
theorem ProfileRows_ (p q : List Int) (b : Int) : Ev (fun n => law34_ProfileRows n (p, q, b)) true := by
  unfold law34_ProfileRows
  simp only [letJ]
  by_cases h : 300 < p.length
  · have : (300 : Int) < ((p.length : Nat) : Int) := by omega
    simp only [this, decide_true, cond_true]
    exact Ev.ret _
  have hno : ¬ (300 : Int) < ((p.length : Nat) : Int) := by omega
  simp only [hno, decide_false, cond_false]
  by_cases h' : 300 < q.length
  · have : (300 : Int) < ((q.length : Nat) : Int) := by omega
    simp only [this, decide_true, cond_true]
    exact Ev.ret _
  have hno' : ¬ (300 : Int) < ((q.length : Nat) : Int) := by omega
  simp only [hno', decide_false, cond_false]
  refine Ev.bind (padd_ p q (by omega) (by omega)) (Ev.bind (radd_ p q (by omega) (by omega)) ?_)
  refine Ev.bindS (fun n => pturn_ n p b (by omega)) (Ev.bind (rturn34_ p b (by omega)) (Ev.bind (longs_ _ _ (by rw [rotOf_len]; omega)) ?_))
  simp only [decide_true, cond_true]
  have hal : (addOf p q).2.length ≤ 1000 := by
    unfold addOf
    split
    · split
      · simp; omega
      · simp
    · simp
  refine Ev.bind (longs_ _ _ (by omega)) ?_
  simp only [decide_true, cond_true, beq_self_eq_true]
  refine Ev.bind (psum_ p (by omega)) (Ev.bind (rsum_ p (by omega)) ?_)
  simp only [cond_true, beq_self_eq_true]
  exact Ev.bind awake34_ (Ev.ret _)
/-- Where something goes. -/
theorem passOf_ok {C : Int} {a : Int × Int} {sat : Int} {come : List Int} (h : (passOf C a sat come).2.2.1 = 0) :
    ((1 ≤ C ∧ C ≤ 6000) ∧ (come.length : Int) = C ∧ FewP come ∧ 0 ≤ sat ∧ sat ≤ 1000000000) ∧ come.sum ≤ sat * (normOf C a).2 ∧
    passOf C a sat come = (Nl (pairsOf come (ticksOf C [a]) sat), wt (Nl (pairsOf come (ticksOf C [a]) sat)) (pairsOf come (ticksOf C [a]) sat), 0, gn (Nl (pairsOf come (ticksOf C [a]) sat)) (pairsOf come (ticksOf C [a]) sat)) := by
  unfold passOf at h ⊢
  split at h
  · rename_i h1
    split at h
    · simp at h
    · rename_i h2
      rw [if_pos h1, if_neg h2]
      exact ⟨⟨h1.1.1, h1.1.2.1, h1.1.2.2, h1.2.1, h1.2.2⟩, by omega, rfl⟩
  · simp at h
theorem passOf_bad {C : Int} {a : Int × Int} {sat : Int} {come : List Int} (h : (passOf C a sat come).2.2.1 ≠ 0) : (passOf C a sat come).1 = 0 ∧ (passOf C a sat come).2.1 = 0 ∧ (passOf C a sat come).2.2.2 = [] := by
  unfold passOf at h ⊢
  split
  · rename_i h1
    split
    · exact ⟨rfl, rfl, rfl⟩
    · rename_i h2
      rw [if_pos h1, if_neg h2] at h
      exact absurd rfl h
  · exact ⟨rfl, rfl, rfl⟩
theorem few_gn {L : List (Int × Int)} (hL : Fine L) {q : Int} (hq : 0 ≤ q) : FewP (gn q L) := fun g hg => gn_fine hL hq g hg
set_option maxHeartbeats 1000000 in
theorem ProfileKeeps_ (C : Int) (a : Int × Int) (sat : Int) (come : List Int) : Ev (fun n => law34_ProfileKeeps n (C, a.1, a.2, sat, come)) true := by
  unfold law34_ProfileKeeps
  by_cases h : 300 < come.length
  · have : (300 : Int) < ((come.length : Nat) : Int) := by omega
    simp only [this, decide_true, cond_true]
    exact Ev.ret _
  have hno : ¬ (300 : Int) < ((come.length : Nat) : Int) := by omega
  simp only [hno, decide_false, cond_false]
  refine Ev.bind (pass_ C a sat come (by omega)) ?_
  by_cases he : (passOf C a sat come).2.2.1 = 0
  case neg =>
    obtain ⟨b1, b2, b3⟩ := passOf_bad he
    have : ((passOf C a sat come).2.2.1 == 0) = false := beq_eq_false_iff_ne.2 he
    simp only [this, Bool.not_false, cond_true, letJ, b1, b2, b3, List.length_nil, beq_self_eq_true, show (((0 : Nat) : Int) == 0) = true from rfl]
    exact Ev.bind awake34_ (Ev.ret _)
  obtain ⟨⟨hc, hl, hf, hs1, hs2⟩, hle, heq⟩ := passOf_ok he
  rw [heq]
  simp only [beq_self_eq_true, Bool.not_true, cond_false, letJ]
  have hD := Dl_pairs hc a come sat hl
  have hgl := ticksOf_len C [a] hc
  have hin := fun t h => ticks_in hc a t h
  generalize ticksOf C [a] = g at *
  have hL := pairs_fine (g := g) hf (show 0 ≤ sat ∧ sat ≤ 1000000000 by omega)
  have hpl := pairs_len come g sat
  have hpf := pairs_fst come g sat
  have hpg := fun i h => pairs_get come g sat i h
  clear heq he
  generalize pairsOf come g sat = L at *
  have hN0 := Nl_nonneg L
  have hNb := Nl_bound hL
  have hfix := fq_fix hL (by omega)
  generalize Nl L = M at *
  have hgnl := gn_len M L
  have hgs := gn_sum (L := L) M
  rw [hfix, hpf] at hgs
  have hfew := few_gn hL hN0
  have hs1' : sumOf (gn M L) = (gn M L).sum := by unfold sumOf; rw [if_neg (by simp [hfew]; omega)]
  have hs2' : sumOf come = come.sum := by unfold sumOf; rw [if_neg (by simp [hf]; omega)]
  have p1 := psum_ (gn M L) (by omega)
  have p2 := psum_ come (by omega)
  rw [hs1'] at p1
  rw [hs2'] at p2
  have e0 : (((gn M L).length : Nat) : Int) == C := by simp; omega
  simp only [e0, Bool.not_true, cond_false]
  refine Ev.bind p1 (Ev.bind p2 ?_)
  have e1 : ((gn M L).sum == come.sum) = true := by simp; omega
  simp only [e1, Bool.not_true, cond_false]
  refine Ev.loopB (st := fun i => (C, M, wt M L, fq M (L.take i), wt M (L.take i), (i : Int), a.1, a.2, sat, come, gn M L)) come.length (.inr (M, wt M L, M, wt M L)) (by simp [fq, wt]) (fun i hi => Ev.const fun n => ?_) (Ev.const fun n => ?_) ?_
  · have hiL : i < L.length := by omega
    have hig : i < (gn M L).length := by omega
    have hq0 := fq_nonneg (hL.take i) hN0
    have hqb := fq_bound (hL.take i) hN0
    have hwb := wt_bound (hL.take i) (B := 12000000000000) hN0 (by rw [List.length_take]; omega)
    rw [List.length_take] at hqb hwb
    have hx := hL (L.getD i (0, 0)) (by rw [getD_lt _ _ _ hiL]; exact List.getElem_mem hiL)
    have hgi := gn_get M L i hiL
    have hfs := fq_snoc M L i hiL
    have hws := wt_snoc M L i hiL
    rw [hpg i hi] at hx hgi hfs hws
    simp only at hx hgi hfs hws
    rw [hfs, hws]
    simp only [Int.ofNat_lt, hi, hig, decide_true, cond_true, inB_nat, atI_nat, hgi, rin_, hin i (by omega), Option.bind_some, wrap_succ (show i < 9223372036854775807 by omega)]
    generalize come.getD i 0 = x at *
    generalize fq M (L.take i) = q at *
    generalize wt M (L.take i) = w at *
    cases hb : g.getD i false with
    | true =>
      rw [hb] at hx
      simp only [if_true] at hx ⊢
      rw [wrap64_id (n := x - min (q + x) sat) (by omega) (by omega), wrap64_id (n := q + (x - min (q + x) sat)) (by omega) (by omega), wrap64_id (n := w + (q + (x - min (q + x) sat))) (by omega) (by omega)]
      rw [show q + (x - min (q + x) sat) = q + x - min (q + x) sat by omega]
      have c1 : ¬ q + x - min (q + x) sat < 0 := by omega
      have c2 : ¬ min (q + x) sat < 0 := by omega
      have c3 : ¬ sat < min (q + x) sat := by omega
      simp only [c1, c2, c3, decide_false, cond_false, Bool.not_true]
      by_cases c4 : 0 < q + x - min (q + x) sat
      · have c5 : min (q + x) sat = sat := by omega
        simp only [c4, decide_true, cond_true, c5, beq_self_eq_true, Bool.not_true, cond_false]
        by_cases c6 : 0 < sat <;> simp [c6, show 0 < q + x - sat by omega]
      · simp only [c4, decide_false, cond_false]
        by_cases c6 : 0 < min (q + x) sat <;> simp [c6]
    | false =>
      have e : min (q + x) 0 = 0 := by omega
      simp only [Bool.false_eq_true, if_false, e, Int.sub_zero, Int.lt_irrefl, decide_false, cond_false, show ¬ sat < 0 by omega]
      rw [wrap64_id (n := x) (by omega) (by omega), wrap64_id (n := q + x) (by omega) (by omega), wrap64_id (n := w + (q + x)) (by omega) (by omega)]
      have c1 : ¬ q + x < 0 := by omega
      simp only [c1, decide_false, cond_false]
      by_cases c4 : 0 < q + x <;> simp [c4]
  · have h1 : L.take come.length = L := List.take_of_length_le (by omega)
    have hno : ¬ (((come.length : Nat) : Int) < (((gn M L).length : Nat) : Int)) := by omega
    simp only [h1, hno, decide_false, cond_false, hfix]
  · show Ev (fun n => bif M == M then _ else _) true
    simp only [beq_self_eq_true, cond_true]
    exact Ev.bind awake34_ (Ev.ret _)
/-! ### Who comes later -/
theorem sum_rot (p : List Int) (b : Int) : (rotOf p b).sum = p.sum := by
  unfold rotOf
  split
  · rename_i h; rw [h]
  · rw [List.sum_append, Int.add_comm, ← List.sum_append, List.take_append_drop]
theorem few_rot {p : List Int} (h : FewP p) (b : Int) : FewP (rotOf p b) := by
  unfold rotOf
  split
  · intro x hx; cases hx
  · intro x hx
    rw [List.mem_append] at hx
    rcases hx with hx | hx
    · exact h x (List.mem_of_mem_drop hx)
    · exact h x (List.mem_of_mem_take hx)
theorem norm_norm {C : Int} (hc : 1 ≤ C ∧ C ≤ 6000) (a : Int × Int) (x : Int) : (normOf C (x, (normOf C a).2)).2 = (normOf C a).2 := by
  obtain ⟨n1, n2, n3, n4⟩ := normOf_at hc.1 a
  generalize (normOf C a).2 = N at *
  unfold normOf
  simp only
  split
  · simp only; omega
  · split <;> simp only <;> omega
theorem pairs_rot {C : Int} (hc : 1 ≤ C ∧ C ≤ 6000) (a : Int × Int) (sat : Int) (come : List Int) (b : Int) (hl : (come.length : Int) = C) :
    pairsOf (rotOf come b) (ticksOf C [((normOf C a).1 + b % C, (normOf C a).2)]) sat = (pairsOf come (ticksOf C [a]) sat).drop (come.length - (b % C).toNat) ++ (pairsOf come (ticksOf C [a]) sat).take (come.length - (b % C).toNat) := by
  subst hl
  have m1 := Int.emod_nonneg b (b := (come.length : Int)) (by omega)
  have m2 := Int.emod_lt_of_pos b (b := (come.length : Int)) (by omega)
  have hpl := pairs_len come (ticksOf (come.length : Int) [a]) sat
  have hpg := fun i h => pairs_get come (ticksOf (come.length : Int) [a]) sat i h
  apply List.ext_getElem
  · rw [pairs_len, rotOf_len, List.length_append, List.length_drop, List.length_take, hpl]; omega
  intro j h1 h2
  have hj : j < come.length := by rw [pairs_len, rotOf_len] at h1; exact h1
  have hl1 := pairs_get (rotOf come b) (ticksOf (come.length : Int) [((normOf (come.length : Int) a).1 + b % (come.length : Int), (normOf (come.length : Int) a).2)]) sat j (by rw [rotOf_len]; exact hj)
  rw [getD_lt _ _ _ h1] at hl1
  rw [hl1, rot_get come b j hj]
  have hs := sig (n := come.length) (by omega) b j hj
  have hs1 := Int.emod_nonneg ((j : Int) - b) (b := (come.length : Int)) (by omega)
  have hs2 := Int.emod_lt_of_pos ((j : Int) - b) (b := (come.length : Int)) (by omega)
  have hσ : (((j : Int) - b) % (come.length : Int)).toNat < come.length := by omega
  have hright : ((pairsOf come (ticksOf (come.length : Int) [a]) sat).drop (come.length - (b % (come.length : Int)).toNat) ++ (pairsOf come (ticksOf (come.length : Int) [a]) sat).take (come.length - (b % (come.length : Int)).toNat))[j] = (pairsOf come (ticksOf (come.length : Int) [a]) sat).getD (((j : Int) - b) % (come.length : Int)).toNat (0, 0) := by
    rw [hs, List.getD_eq_getElem?_getD]
    by_cases h : j < (b % (come.length : Int)).toNat
    · rw [if_pos h, List.getElem_append_left (by rw [List.length_drop, hpl]; omega), List.getElem_drop, List.getElem?_eq_getElem (by rw [hpl]; omega)]
      rfl
    · rw [if_neg h, List.getElem_append_right (by rw [List.length_drop, hpl]; omega), List.getElem_take, List.getElem?_eq_getElem (by rw [hpl]; omega)]
      simp only [List.length_drop, hpl, Option.getD_some]
      congr 1; omega
  rw [hright, hpg _ hσ]
  have hb : (ticksOf (come.length : Int) [((normOf (come.length : Int) a).1 + b % (come.length : Int), (normOf (come.length : Int) a).2)]).getD j false = (ticksOf (come.length : Int) [a]).getD (((j : Int) - b) % (come.length : Int)).toNat false := by
    rw [Bool.eq_iff_iff, ticksOf_getD hc _ j (by omega), ticksOf_getD hc _ _ (by omega)]
    rw [Int.toNat_of_nonneg hs1, TS.mod]
    have ht := turn1_has hc.1 hc.2 b a (j : Int)
    unfold turn1 at ht
    rw [show max (come.length : Int) 1 = (come.length : Int) by omega] at ht
    simp only [TS, List.mem_singleton, exists_eq_left]
    exact ht
  rw [hb]
theorem ProfileTurn_ (C : Int) (a : Int × Int) (sat : Int) (come : List Int) : Ev (fun n => law34_ProfileTurn n (C, a.1, a.2, sat, come)) true := by
  unfold law34_ProfileTurn
  by_cases h : 300 < come.length
  · have : (300 : Int) < ((come.length : Nat) : Int) := by omega
    simp only [this, decide_true, cond_true]
    exact Ev.ret _
  have hno : ¬ (300 : Int) < ((come.length : Nat) : Int) := by omega
  simp only [hno, decide_false, cond_false]
  refine Ev.bind (pass_ C a sat come (by omega)) ?_
  by_cases he : (passOf C a sat come).2.2.1 = 0
  case neg =>
    have : ((passOf C a sat come).2.2.1 == 0) = false := beq_eq_false_iff_ne.2 he
    simp only [this, Bool.not_false, cond_true]
    exact Ev.bind awake34_ (Ev.ret _)
  obtain ⟨⟨hc, hl, hf, hs1, hs2⟩, hle, heq⟩ := passOf_ok he
  have hb0 : ((passOf C a sat come).2.2.1 == 0) = true := by rw [he]; rfl
  simp only [hb0, Bool.not_true, cond_false, letJ]
  obtain ⟨n1, n2, n3, n4⟩ := normOf_at hc.1 a
  have m1 := Int.emod_nonneg sat (b := C) (by omega)
  have m2 := Int.emod_lt_of_pos sat (b := C) (by omega)
  have hmm : sat % C % C = sat % C := Int.emod_emod_of_dvd _ (Int.dvd_refl C)
  refine Ev.bindS (fun n => rmod_ n sat C hc.1 (by omega)) (Ev.bind (rnorm_ C a) (Ev.bindS (fun n => pturn_ n come (sat % C) (by omega)) ?_))
  rw [wrap64_id (by omega) (by omega)]
  refine Ev.bind (pass_ C ((normOf C a).1 + sat % C, (normOf C a).2) sat (rotOf come (sat % C)) (by rw [rotOf_len]; omega)) ?_
  -- what is told of who comes later
  have hpr := pairs_rot hc a sat come (sat % C) hl
  rw [hmm] at hpr
  have hL := pairs_fine (g := ticksOf C [a]) hf (show 0 ≤ sat ∧ sat ≤ 1000000000 by omega)
  have hD := Dl_pairs hc a come sat hl
  have hpl := pairs_len come (ticksOf C [a]) sat
  have e1 : passOf C ((normOf C a).1 + sat % C, (normOf C a).2) sat (rotOf come (sat % C)) = (Nl (pairsOf (rotOf come (sat % C)) (ticksOf C [((normOf C a).1 + sat % C, (normOf C a).2)]) sat), wt (Nl (pairsOf (rotOf come (sat % C)) (ticksOf C [((normOf C a).1 + sat % C, (normOf C a).2)]) sat)) (pairsOf (rotOf come (sat % C)) (ticksOf C [((normOf C a).1 + sat % C, (normOf C a).2)]) sat), 0, gn (Nl (pairsOf (rotOf come (sat % C)) (ticksOf C [((normOf C a).1 + sat % C, (normOf C a).2)]) sat)) (pairsOf (rotOf come (sat % C)) (ticksOf C [((normOf C a).1 + sat % C, (normOf C a).2)]) sat)) := by
    unfold passOf
    rw [if_pos ⟨⟨hc, by rw [rotOf_len]; exact hl, few_rot hf _⟩, hs1, hs2⟩, norm_norm hc, sum_rot, if_neg (by omega)]
  rw [e1, hpr, heq]
  generalize hk : come.length - (sat % C).toNat = k at *
  generalize pairsOf come (ticksOf C [a]) sat = L at *
  have hA : Fine (L.take k) := hL.take k
  have hB : Fine (L.drop k) := hL.drop k
  have hsplit : L.take k ++ L.drop k = L := List.take_append_drop k L
  have ht := turned hA hB (by rw [hsplit]; omega)
  rw [hsplit] at ht
  have hfix := fq_fix hL (by omega)
  have hN0 := Nl_nonneg L
  generalize Nl L = M at *
  have hfix2 : fq (fq M (L.take k)) (L.drop k) = M := by rw [← fq_append, hsplit]; exact hfix
  rw [ht]
  have hg : gn (fq M (L.take k)) (L.drop k ++ L.take k) = rotOf (gn M L) (sat % C) := by
    rw [gn_append, hfix2]
    have hne : gn M L ≠ [] := by
      intro h0
      have := gn_len M L
      rw [h0] at this
      simp at this
      omega
    have hgl := gn_len M L
    have hsp : gn M L = gn M (L.take k) ++ gn (fq M (L.take k)) (L.drop k) := by rw [← gn_append, hsplit]
    have hal : (gn M (L.take k)).length = k := by rw [gn_len, List.length_take]; omega
    unfold rotOf
    rw [if_neg hne, hgl, hpl, hl, hmm, hk]
    have d1 : (gn M L).drop k = gn (fq M (L.take k)) (L.drop k) := by
      rw [hsp, List.drop_append, hal, Nat.sub_self, List.drop_zero, List.drop_eq_nil_of_le (by omega), List.nil_append]
    have d2 : (gn M L).take k = gn M (L.take k) := by
      rw [hsp, List.take_append, hal, Nat.sub_self, List.take_zero, List.append_nil, List.take_of_length_le (by omega)]
    rw [d1, d2]
  have hw : wt (fq M (L.take k)) (L.drop k ++ L.take k) = wt M L := by
    rw [wt_append, hfix2]
    have : wt M L = wt M (L.take k) + wt (fq M (L.take k)) (L.drop k) := by rw [← wt_append, hsplit]
    omega
  rw [hg, hw]
  simp only [beq_self_eq_true, cond_true]
  refine Ev.bindS (fun n => pturn_ n (gn M L) (sat % C) (by rw [gn_len]; omega)) (Ev.bind (longs_ _ _ (by rw [rotOf_len, gn_len]; omega)) ?_)
  simp only [decide_true, cond_true]
  exact Ev.bind awake34_ (Ev.ret _)
/-! ### As the rows' proofs ask for them -/
theorem profilePassPure (x0 : Int) (x1 : Int × Int) (x2 : Int × List Int) (w0 : WfA Θ (.one (.int .i64)) x0) (w1 : WfA Θ (.agg [.int .i64, .int .i64]) x1) (w2 : WfA Θ (.agg [.int .i64, .sl 2]) x2) : Ev (fun n => law34_ProfilePass n (x0, x1.1, x1.2, x2)) true := ProfilePass_ x0 x1 x2.1 x2.2
theorem profileKeepsPure (x0 : Int) (x1 : Int × Int) (x2 : Int × List Int) (w0 : WfA Θ (.one (.int .i64)) x0) (w1 : WfA Θ (.agg [.int .i64, .int .i64]) x1) (w2 : WfA Θ (.agg [.int .i64, .sl 2]) x2) : Ev (fun n => law34_ProfileKeeps n (x0, x1.1, x1.2, x2)) true := ProfileKeeps_ x0 x1 x2.1 x2.2
theorem profileTurnPure (x0 : Int) (x1 : Int × Int) (x2 : Int × List Int) (w0 : WfA Θ (.one (.int .i64)) x0) (w1 : WfA Θ (.agg [.int .i64, .int .i64]) x1) (w2 : WfA Θ (.agg [.int .i64, .sl 2]) x2) : Ev (fun n => law34_ProfileTurn n (x0, x1.1, x1.2, x2)) true := ProfileTurn_ x0 x1 x2.1 x2.2
theorem profileRowsPure (x0 x1 : List Int) (x2 : Int) (w0 : WfA Θ (.one (.sl 2)) x0) (w1 : WfA Θ (.one (.sl 2)) x1) (w2 : WfA Θ (.one (.int .i64)) x2) : Ev (fun n => law34_ProfileRows n (x0, x1, x2)) true := ProfileRows_ x0 x1 x2
end Go.Proofs.Ytemhdliapelleaa.Fn
