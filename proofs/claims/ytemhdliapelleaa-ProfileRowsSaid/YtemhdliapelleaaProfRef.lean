/- Chapter 34: the document's answer; turns and sums of profiles. -/
import Derived.Test.YtemhdliapelleaaProfPass
namespace Go.Proofs.Ytemhdliapelleaa.Fn
open Go Go.RowKit Go.Den Go.Circ
set_option linter.unusedVariables false

theorem ticks_in {C : Int} (hc : 1 ≤ C ∧ C ≤ 6000) (a : Int × Int) (t : Nat) (h : (t : Int) < C) : decide (1 ≤ C ∧ C ≤ 6000 ∧ HasT C a (t : Int)) = (ticksOf C [a]).getD t false := by
  have := ticksOf_getD hc [a] t h
  rw [Bool.eq_iff_iff, this, decide_eq_true_eq]
  simp [TS, hc.1, hc.2]
theorem round34_ {C : Int} (hc : 1 ≤ C ∧ C ≤ 6000) (a : Int × Int) (sat : Int) (come : List Int) (q : Int) (hl : (come.length : Int) = C) (hf : FewP come) (hs : 0 ≤ sat ∧ sat ≤ 1000000000) (hq : 0 ≤ q) (hqb : q ≤ 6000000000000) :
    Ev (fun n => ref34_round n (C, a.1, a.2, sat, come, q)) (fq q (pairsOf come (ticksOf C [a]) sat), wt q (pairsOf come (ticksOf C [a]) sat), gn q (pairsOf come (ticksOf C [a]) sat)) := by
  unfold ref34_round
  have hgl := ticksOf_len C [a] hc
  have hin := fun t h => ticks_in hc a t h
  generalize ticksOf C [a] = g at *
  have hL := pairs_fine (g := g) hf hs
  have hpl := pairs_len come g sat
  have hpg := fun i h => pairs_get come g sat i h
  generalize pairsOf come g sat = L at *
  subst hl
  refine Ev.loopB (st := fun i => ((come.length : Int), sat, come, fq q (L.take i), wt q (L.take i), (i : Int), a.1, a.2, gn q (L.take i))) come.length (fq q L, wt q L, gn q L) (by simp [wt, fq, gn]) (fun i hi => Ev.const fun n => ?_) (Ev.const fun n => ?_) (Ev.ret _)
  · have hiL : i < L.length := by omega
    have hq0 := fq_nonneg (hL.take i) hq
    have hqb' := fq_bound (hL.take i) hq
    have hwb := wt_bound (hL.take i) (B := 12000000000000) hq (by rw [List.length_take]; omega)
    rw [List.length_take] at hqb' hwb
    have hx := hL (L.getD i (0, 0)) (by rw [getD_lt _ _ _ hiL]; exact List.getElem_mem hiL)
    have hglen : (gn q (L.take i)).length = i := by rw [gn_len, List.length_take]; omega
    have hgs := gn_snoc q L i hiL
    have hfs := fq_snoc q L i hiL
    have hws := wt_snoc q L i hiL
    rw [hpg i hi] at hx hgs hfs hws
    simp only at hx hgs hfs hws
    have hfit : fitB (i + 1) 8 = true := fitB_ok (by omega)
    rw [hgs, hfs, hws]
    simp only [Int.ofNat_lt, hi, decide_true, cond_true, inB_nat, atI_nat, rin_, hin i (by omega), Option.bind_some, hglen, List.length_cons, List.length_nil, Nat.zero_add, hfit, wrap_succ (show i < 9223372036854775807 by omega), mn_eq]
    generalize come.getD i 0 = x at *
    generalize fq q (L.take i) = p at *
    generalize wt q (L.take i) = w at *
    cases hb : g.getD i false with
    | true =>
      rw [hb] at hx
      simp only [if_true] at hx ⊢
      simp only [cond_true]
      rw [wrap64_id (n := p + x) (by omega) (by omega), wrap64_id (n := p + x - min (p + x) sat) (by omega) (by omega), wrap64_id (by omega) (by omega)]
    | false =>
      have e : min (p + x) 0 = 0 := by omega
      simp only [Bool.false_eq_true, if_false, cond_false, e, Int.sub_zero]
      rw [wrap64_id (n := p + x) (by omega) (by omega), wrap64_id (n := p + x) (by omega) (by omega), wrap64_id (by omega) (by omega)]
  · have h1 : L.take come.length = L := List.take_of_length_le (by omega)
    simp [h1]
theorem rpass_ (C : Int) (a : Int × Int) (sat : Int) (come : List Int) (hl : come.length ≤ 6000) : Ev (fun n => ref34_Pass n (C, a.1, a.2, sat, come)) (passOf C a sat come) := by
  unfold ref34_Pass passOf
  simp only [letJ]
  refine Ev.bind (rright_ C come (by omega)) ?_
  by_cases h4 : (1 ≤ C ∧ C ≤ 6000) ∧ (come.length : Int) = C ∧ FewP come
  case neg => rw [decide_eq_false h4, if_neg (fun h => h4 h.1)]; exact Ev.ret _
  rw [decide_eq_true h4]
  simp only [Bool.not_true, cond_false]
  by_cases h5 : sat < 0
  · rw [if_neg (by omega)]; simp only [h5, decide_true, cond_true]; exact Ev.ret _
  by_cases h6 : 1000000000 < sat
  · rw [if_neg (by omega)]; simp only [h5, h6, decide_true, decide_false, cond_true, cond_false]; exact Ev.ret _
  obtain ⟨hc, h3, h4⟩ := h4
  rw [if_pos ⟨⟨hc, h3, h4⟩, by omega, by omega⟩]
  simp only [h5, h6, decide_false, cond_false]
  have hsum : sumOf come = come.sum := by unfold sumOf; rw [if_neg (by simp [h4]; omega)]
  have hps := rsum_ come (by omega)
  rw [hsum] at hps
  obtain ⟨n1, n2, n3, n4⟩ := normOf_at hc.1 a
  have hm := mul_le (s := sat) (N := (normOf C a).2) (by omega) (by omega) n3 (by omega)
  refine Ev.bind hps (Ev.bind (rnorm_ C a) ?_)
  rw [wrap64_id (by omega) (by omega)]
  by_cases h7 : sat * (normOf C a).2 < come.sum
  · rw [if_pos h7, decide_eq_true h7]; exact Ev.ret _
  rw [if_neg h7, decide_eq_false h7]
  simp only [cond_false]
  have hD := Dl_pairs hc a come sat h3
  have hL := pairs_fine (g := ticksOf C [a]) h4 (show 0 ≤ sat ∧ sat ≤ 1000000000 by omega)
  have hpl := pairs_len come (ticksOf C [a]) sat
  have hN0 := Nl_nonneg (pairsOf come (ticksOf C [a]) sat)
  have hNb := Nl_bound hL
  have f0 := fq_zero hL (by omega)
  have f1 := fq_fix hL (by omega)
  have r0 := round34_ hc a sat come 0 h3 h4 (by omega) (by omega) (by omega)
  have r1 := round34_ hc a sat come (Nl (pairsOf come (ticksOf C [a]) sat)) h3 h4 (by omega) hN0 (by omega)
  rw [f0] at r0
  rw [f1] at r1
  generalize pairsOf come (ticksOf C [a]) sat = L at *
  by_cases hz : Nl L = 0
  · rw [hz] at r0 ⊢
    refine Ev.loopB (st := fun _ => (C, sat, come, 0, a.1, a.2)) 0 (0, wt 0 L, 0, gn 0 L) rfl (fun i hi => by omega) (Ev.bind r0 ?_) (Ev.ret _)
    simp only [beq_self_eq_true, cond_true]
    exact Ev.ret _
  · have hne : (Nl L == 0) = false := beq_eq_false_iff_ne.2 hz
    refine Ev.loopB (st := fun i => (C, sat, come, if i = 0 then 0 else Nl L, a.1, a.2)) 1 (Nl L, wt (Nl L) L, 0, gn (Nl L) L) rfl (fun i hi => ?_) (Ev.bind r1 ?_) (Ev.ret _)
    · obtain rfl : i = 0 := by omega
      refine Ev.bind r0 ?_
      simp only [if_true, hne, cond_false]
      exact Ev.ret _
    · simp only [beq_self_eq_true, cond_true, Nat.one_ne_zero, if_false]
      exact Ev.ret _
/-! ### Turns -/
/-- Where a turned row's place was. -/
theorem sig {n : Nat} (hn : 1 ≤ n) (b : Int) (j : Nat) (hj : j < n) : (((j : Int) - b) % (n : Int)).toNat = if j < (b % (n : Int)).toNat then n - (b % (n : Int)).toNat + j else j - (b % (n : Int)).toNat := by
  have m1 := Int.emod_nonneg b (b := (n : Int)) (by omega)
  have m2 := Int.emod_lt_of_pos b (b := (n : Int)) (by omega)
  rw [← Int.sub_emod_emod, emod_sub m1 m2 (by omega) (by omega)]
  split <;> split <;> omega
theorem rot_get (p : List Int) (b : Int) (j : Nat) (hj : j < p.length) : (rotOf p b).getD j 0 = p.getD (((j : Int) - b) % (p.length : Int)).toNat 0 := by
  have hne : p ≠ [] := by intro h; subst h; simp at hj
  have hpos : 1 ≤ p.length := by omega
  have m1 := Int.emod_nonneg b (b := (p.length : Int)) (by omega)
  have m2 := Int.emod_lt_of_pos b (b := (p.length : Int)) (by omega)
  unfold rotOf
  rw [if_neg hne, sig hpos b j hj]
  generalize hk : (b % (p.length : Int)).toNat = k
  have hkn : k < p.length := by omega
  rw [List.getD_eq_getElem?_getD, List.getD_eq_getElem?_getD]
  by_cases h : j < k
  · rw [if_pos h, List.getElem?_append_left (by rw [List.length_drop]; omega), List.getElem?_drop]
  · rw [if_neg h, List.getElem?_append_right (by rw [List.length_drop]; omega), List.length_drop, List.getElem?_take]
    rw [if_pos (by omega)]
    congr 2; omega
theorem rturn34_ (p : List Int) (b : Int) (hl : p.length ≤ 1000000) : Ev (fun n => ref34_Turn n (p, b)) (rotOf p b) := by
  unfold ref34_Turn
  have hcc : ((((p.length : Nat) : Int) == ((p.length : Nat) : Int)) && decide ((0 : Int) ≤ ((p.length : Nat) : Int)) && decide (((p.length : Nat) : Int) * 8 ≤ 281474976710656)) = true := by simp; omega
  simp only [hcc, cond_true, Int.toNat_natCast]
  let W : Nat → List Int := fun i => (List.range p.length).map fun (j : Nat) => if ((j : Int) - b) % (p.length : Int) < (i : Int) then p.getD (((j : Int) - b) % (p.length : Int)).toNat 0 else 0
  have hW : ∀ i, (W i).length = p.length := fun i => by simp [W]
  have hW0 : List.replicate p.length (0 : Int) = W 0 := by
    apply List.ext_getElem (by simp [W])
    intro j h1 h2
    have hj : j < p.length := by simpa using h1
    have := Int.emod_nonneg ((j : Int) - b) (b := (p.length : Int)) (by omega)
    simp only [W, List.getElem_replicate, List.getElem_map, List.getElem_range]
    rw [if_neg (by omega)]
  have hWn : W p.length = rotOf p b := by
    apply List.ext_getElem (by rw [hW, rotOf_len])
    intro j h1 h2
    have hj : j < p.length := by rw [hW] at h1; exact h1
    have := Int.emod_lt_of_pos ((j : Int) - b) (b := (p.length : Int)) (by omega)
    have hr := rot_get p b j hj
    rw [getD_lt _ _ _ h2] at hr
    simp only [W, List.getElem_map, List.getElem_range]
    rw [if_pos this, hr]
  refine Ev.loopB (st := fun i => (p, b, (i : Int), W i)) p.length (rotOf p b) (by rw [hW0]; rfl) (fun i hi => Ev.const fun n => ?_) (Ev.const fun n => by simp [hWn]) (Ev.ret _)
  have q1 := Int.emod_nonneg b (b := (p.length : Int)) (by omega)
  have q2 := Int.emod_lt_of_pos b (b := (p.length : Int)) (by omega)
  have p1 := Int.emod_nonneg ((i : Int) + b % (p.length : Int)) (b := (p.length : Int)) (by omega)
  have p2 := Int.emod_lt_of_pos ((i : Int) + b % (p.length : Int)) (b := (p.length : Int)) (by omega)
  have hw : wrap64 ((i : Int) + b % (p.length : Int)) = (i : Int) + b % (p.length : Int) := wrap64_id (by omega) (by omega)
  have hin2 : inB (((i : Int) + b % (p.length : Int)) % (p.length : Int)) p.length = true := by unfold inB; simp only [Bool.and_eq_true, decide_eq_true_eq]; omega
  simp only [Int.ofNat_lt, hi, decide_true, cond_true, inB_nat, atI_nat, rmod_ n b (p.length : Int) (by omega) (by omega), Option.bind_some, hw, rmod_ n ((i : Int) + b % (p.length : Int)) (p.length : Int) (by omega) (by omega), hW, hin2, wrap_succ (show i < 9223372036854775807 by omega)]
  refine congrArg some (congrArg Sum.inl ?_)
  simp only [Prod.mk.injEq, true_and]
  apply List.ext_getElem (by simp [W])
  intro j h1 h2
  have hj : j < p.length := by rw [hW] at h2; exact h2
  have e1 := emod_add q1 q2 (k := (i : Int)) (by omega) (by omega)
  have e2 : ((j : Int) - b) % (p.length : Int) = if b % (p.length : Int) ≤ j then (j : Int) - b % (p.length : Int) else j - b % (p.length : Int) + p.length := by
    rw [← Int.sub_emod_emod]; exact emod_sub q1 q2 (by omega) (by omega)
  rw [Int.add_comm] at p1 p2
  rw [List.getElem_set]
  simp only [W, List.getElem_map, List.getElem_range]
  by_cases hi2 : ((j : Int) - b) % (p.length : Int) = i
  · have : (((i : Int) + b % (p.length : Int)) % (p.length : Int)).toNat = j := by
      rw [Int.add_comm, e1]; rw [e2] at hi2; split at hi2 <;> split <;> omega
    rw [if_pos this, hi2, if_pos (by omega), Int.toNat_natCast]
  · have : ¬ (((i : Int) + b % (p.length : Int)) % (p.length : Int)).toNat = j := by
      rw [Int.add_comm, e1]; rw [e2] at hi2; split at hi2 <;> split <;> omega
    rw [if_neg this]
    by_cases hlt : ((j : Int) - b) % (p.length : Int) < (i : Int)
    · rw [if_pos hlt, if_pos (by omega)]
    · rw [if_neg hlt, if_neg (by omega)]
theorem pturn_ (n : Nat) (p : List Int) (b : Int) (hl : p.length ≤ 1000000) : profile_Turn n (p, b) = some (rotOf p b) := by
  unfold profile_Turn turnF; rw [if_pos hl]
/-! ### Sums of two -/
def addOf (p q : List Int) : Int × List Int := if p.length = q.length ∧ FewP p ∧ FewP q then (if ∀ i, i < p.length → p.getD i 0 + q.getD i 0 ≤ 1000000000 then (0, List.zipWith (· + ·) p q) else (70, [])) else (1, [])
theorem zip_get (p q : List Int) (i : Nat) (hp : i < p.length) (hq : i < q.length) : (List.zipWith (· + ·) p q).getD i 0 = p.getD i 0 + q.getD i 0 := by
  rw [getD_lt _ _ _ (by simp; omega), getD_lt _ _ _ hp, getD_lt _ _ _ hq]; simp
theorem clone34_ (n : Nat) (x : List Int) (h : x.length ≤ 1000000) : slices_Clone_1 n x = some x := by
  unfold slices_Clone_1
  simp only [fitB_ok (show x.length * 8 ≤ 140737488355328 by omega), cond_true]
  cases x with
  | nil => simp [both_self]
  | cons a x => rfl
theorem padd_ (p q : List Int) (hp : p.length ≤ 1000000) (hq : q.length ≤ 1000000) : Ev (fun n => profile_Add n (p, q)) (addOf p q) := by
  unfold profile_Add addOf
  simp only [letJ]
  by_cases h1 : p.length = q.length
  case neg =>
    have : (((p.length : Nat) : Int) == ((q.length : Nat) : Int)) = false := by rw [beq_eq_false_iff_ne]; omega
    rw [if_neg (fun h => h1 h.1)]
    simp only [this, Bool.not_false, cond_true]
    exact Ev.ret _
  have hb : (((p.length : Nat) : Int) == ((q.length : Nat) : Int)) = true := by simp [h1]
  simp only [hb, Bool.not_true, cond_false]
  refine Ev.bind (pfew_ p hp) ?_
  by_cases h2 : FewP p
  case neg => rw [decide_eq_false h2, if_neg (fun h => h2 h.2.1)]; exact Ev.ret _
  rw [decide_eq_true h2]
  simp only [Bool.not_true, cond_false]
  refine Ev.bind (pfew_ q hq) ?_
  by_cases h3 : FewP q
  case neg => rw [decide_eq_false h3, if_neg (fun h => h3 h.2.2)]; exact Ev.ret _
  rw [decide_eq_true h3, if_pos ⟨h1, h2, h3⟩]
  simp only [Bool.not_true, cond_false]
  refine Ev.bindS (fun n => clone34_ n p hp) ?_
  have hZl : (List.zipWith (· + ·) p q).length = p.length := by simp [h1]
  have hst : ∀ i, i < p.length → List.set ((List.zipWith (· + ·) p q).take i ++ p.drop i) i (p.getD i 0 + q.getD i 0) = (List.zipWith (· + ·) p q).take (i + 1) ++ p.drop (i + 1) := fun i hi => by
    rw [take_snoc (List.zipWith (· + ·) p q) i 0 (by omega), zip_get p q i hi (by omega), List.drop_eq_getElem_cons hi]
    have : ((List.zipWith (· + ·) p q).take i).length = i := by rw [List.length_take]; omega
    rw [List.set_append_right _ _ (by omega), this, Nat.sub_self, List.set_cons_zero, List.append_assoc]
    rfl
  have hgt : ∀ i, i < p.length → ((List.zipWith (· + ·) p q).take i ++ p.drop i).getD i 0 = p.getD i 0 := fun i hi => by
    have : ((List.zipWith (· + ·) p q).take i).length = i := by rw [List.length_take]; omega
    rw [List.getD_eq_getElem?_getD, List.getElem?_append_right (by omega), this]
    simp
  have hgt2 : ∀ i, i < p.length → ((List.zipWith (· + ·) p q).take (i + 1) ++ p.drop (i + 1)).getD i 0 = p.getD i 0 + q.getD i 0 := fun i hi => by
    have : ((List.zipWith (· + ·) p q).take (i + 1)).length = i + 1 := by rw [List.length_take]; omega
    rw [← zip_get p q i hi (by omega), List.getD_eq_getElem?_getD, List.getElem?_append_left (by omega), List.getElem?_take, if_pos (by omega), List.getD_eq_getElem?_getD]
  have hln : ∀ i, i ≤ p.length → ((List.zipWith (· + ·) p q).take i ++ p.drop i).length = p.length := fun i hi => by
    rw [List.length_append, List.length_take, List.length_drop]; omega
  generalize List.zipWith (· + ·) p q = Z at *
  have body : ∀ i, i < p.length → ∀ n : Nat, (fun (n : Nat) (x6 : (List Int) × Int × Int × List Int) =>
      let e0 := inB x6.2.2.1 x6.2.2.2.length
      let e1 := List.set x6.2.2.2 (Int.toNat x6.2.2.1) (wrap64 ((atI 0 x6.2.2.2 x6.2.2.1) + (atI 0 x6.1 x6.2.2.1)))
      bif decide (x6.2.2.1 < x6.2.1) then
        bif inB x6.2.2.1 x6.1.length then
          bif e0 then
            bif e0 then
              bif inB x6.2.2.1 e1.length then
                bif decide (1000000000 < atI 0 e1 x6.2.2.1) then
                  (some (.inr (.inl 70)) : Option (((List Int) × Int × Int × List Int) ⊕ (Int ⊕ List Int)))
                else
                some (.inl (x6.1, x6.2.1, wrap64 (x6.2.2.1 + 1), e1))
              else
              none
            else
            none
          else
          none
        else
        none
      else
      some (.inr (.inr x6.2.2.2))) n (q, (q.length : Int), (i : Int), Z.take i ++ p.drop i) = if decide (p.getD i 0 + q.getD i 0 ≤ 1000000000) = true then some (.inl (q, (q.length : Int), ((i + 1 : Nat) : Int), Z.take (i + 1) ++ p.drop (i + 1))) else some (.inr (.inl 70)) := by
    intro i hi n
    have hiq : i < q.length := by omega
    have hx := h2.get hi
    have hy := h3.get hiq
    have l1 := hln i (by omega)
    have l2 := hln (i + 1) (by omega)
    simp only [Int.ofNat_lt, hiq, hi, decide_true, cond_true, inB_nat, atI_nat, Int.toNat_natCast, l1, hgt i hi, wrap_succ (show i < 9223372036854775807 by omega)]
    rw [wrap64_id (n := p.getD i 0 + q.getD i 0) (by omega) (by omega), hst i hi, hgt2 i hi, l2]
    simp only [hi, decide_true, cond_true]
    by_cases hle : p.getD i 0 + q.getD i 0 ≤ 1000000000
    · have : ¬ 1000000000 < p.getD i 0 + q.getD i 0 := by omega
      simp only [hle, this, decide_true, decide_false, cond_true, cond_false, if_true]
    · have : 1000000000 < p.getD i 0 + q.getD i 0 := by omega
      simp only [hle, this, decide_true, decide_false, cond_true, cond_false, Bool.false_eq_true, if_false]
  rcases first_bad (fun i => decide (p.getD i 0 + q.getD i 0 ≤ 1000000000)) p.length with h | ⟨i, i1, i2, i3⟩
  · rw [if_pos (fun i hi => of_decide_eq_true (h i hi))]
    refine Ev.loopB (st := fun i => (q, (q.length : Int), (i : Int), Z.take i ++ p.drop i)) p.length (.inr Z) (by simp) (fun i hi => Ev.const fun n => (body i hi n).trans (if_pos (h i hi))) (Ev.const fun n => ?_) ?_
    · have hz : Z.take p.length = Z := List.take_of_length_le (by omega)
      have hno : ¬ (((p.length : Nat) : Int) < ((q.length : Nat) : Int)) := by omega
      simp [hz, hno]
    · exact Ev.ret _
  · rw [if_neg (fun h => of_decide_eq_false i2 (h i i1))]
    refine Ev.loopB (st := fun i => (q, (q.length : Int), (i : Int), Z.take i ++ p.drop i)) i (.inl 70) (by simp) (fun k hk => Ev.const fun n => (body k (by omega) n).trans (if_pos (i3 k hk))) (Ev.const fun n => (body i i1 n).trans (if_neg (by rw [i2]; simp))) ?_
    exact Ev.ret _
theorem radd_ (p q : List Int) (hp : p.length ≤ 1000000) (hq : q.length ≤ 1000000) : Ev (fun n => ref34_Add n (p, q)) (addOf p q) := by
  unfold ref34_Add addOf
  simp only [letJ]
  by_cases h1 : p.length = q.length
  case neg =>
    have : (((p.length : Nat) : Int) == ((q.length : Nat) : Int)) = false := by rw [beq_eq_false_iff_ne]; omega
    rw [if_neg (fun h => h1 h.1)]
    simp only [this, Bool.not_false, cond_true]
    exact Ev.ret _
  have hb : (((p.length : Nat) : Int) == ((q.length : Nat) : Int)) = true := by simp [h1]
  simp only [hb, Bool.not_true, cond_false]
  refine Ev.bind (rfew_ p hp) ?_
  by_cases h2 : FewP p
  case neg => rw [decide_eq_false h2, if_neg (fun h => h2 h.2.1)]; exact Ev.ret _
  rw [decide_eq_true h2]
  simp only [Bool.not_true, cond_false]
  refine Ev.bind (rfew_ q hq) ?_
  by_cases h3 : FewP q
  case neg => rw [decide_eq_false h3, if_neg (fun h => h3 h.2.2)]; exact Ev.ret _
  rw [decide_eq_true h3, if_pos ⟨h1, h2, h3⟩]
  simp only [Bool.not_true, cond_false]
  have hZl : (List.zipWith (· + ·) p q).length = p.length := by simp [h1]
  have hzs : ∀ i, i < p.length → (List.zipWith (· + ·) p q).take (i + 1) = (List.zipWith (· + ·) p q).take i ++ [p.getD i 0 + q.getD i 0] := fun i hi => by
    rw [take_snoc (List.zipWith (· + ·) p q) i 0 (by omega), zip_get p q i hi (by omega)]
  generalize List.zipWith (· + ·) p q = Z at *
  have body : ∀ i, i < p.length → ∀ n : Nat, (fun (n : Nat) (x6 : (List Int) × (List Int) × Int × List Int) =>
      let e0 := x6.1.length
      let e1 := inB x6.2.2.1 e0
      let e2 := inB x6.2.2.1 x6.2.1.length
      let e3 := wrap64 ((atI 0 x6.1 x6.2.2.1) + (atI 0 x6.2.1 x6.2.2.1))
      let e4 := e3 :: []
      bif decide (x6.2.2.1 < ((e0 : Nat) : Int)) then
        bif e1 then
          bif e2 then
            bif decide (1000000000 < e3) then
              (some (.inr (.inl 70)) : Option (((List Int) × (List Int) × Int × List Int) ⊕ (Int ⊕ List Int)))
            else
            bif e1 then
              bif e2 then
                bif fitB (x6.2.2.2.length + e4.length) 8 then
                  some (.inl (x6.1, x6.2.1, wrap64 (x6.2.2.1 + 1), x6.2.2.2 ++ e4))
                else
                none
              else
              none
            else
            none
          else
          none
        else
        none
      else
      some (.inr (.inr x6.2.2.2))) n (p, q, (i : Int), Z.take i) = if decide (p.getD i 0 + q.getD i 0 ≤ 1000000000) = true then some (.inl (p, q, ((i + 1 : Nat) : Int), Z.take (i + 1))) else some (.inr (.inl 70)) := by
    intro i hi n
    have hiq : i < q.length := by omega
    have hx := h2.get hi
    have hy := h3.get hiq
    have hf : fitB (min i Z.length + 1) 8 = true := fitB_ok (by omega)
    simp only [Int.ofNat_lt, hiq, hi, decide_true, cond_true, inB_nat, atI_nat, wrap_succ (show i < 9223372036854775807 by omega), hzs i hi, List.length_take, List.length_cons, List.length_nil, Nat.zero_add, hf]
    rw [wrap64_id (n := p.getD i 0 + q.getD i 0) (by omega) (by omega)]
    by_cases hle : p.getD i 0 + q.getD i 0 ≤ 1000000000
    · have : ¬ 1000000000 < p.getD i 0 + q.getD i 0 := by omega
      simp only [hle, this, decide_true, decide_false, cond_true, cond_false, if_true]
    · have : 1000000000 < p.getD i 0 + q.getD i 0 := by omega
      simp only [hle, this, decide_true, decide_false, cond_true, cond_false, Bool.false_eq_true, if_false]
  rcases first_bad (fun i => decide (p.getD i 0 + q.getD i 0 ≤ 1000000000)) p.length with h | ⟨i, i1, i2, i3⟩
  · rw [if_pos (fun i hi => of_decide_eq_true (h i hi))]
    refine Ev.loopB (st := fun i => (p, q, (i : Int), Z.take i)) p.length (.inr Z) (by simp) (fun i hi => Ev.const fun n => (body i hi n).trans (if_pos (h i hi))) (Ev.const fun n => ?_) ?_
    · have hz : Z.take p.length = Z := List.take_of_length_le (by omega)
      simp [hz]
    · exact Ev.ret _
  · rw [if_neg (fun h => of_decide_eq_false i2 (h i i1))]
    refine Ev.loopB (st := fun i => (p, q, (i : Int), Z.take i)) i (.inl 70) (by simp) (fun k hk => Ev.const fun n => (body k (by omega) n).trans (if_pos (i3 k hk))) (Ev.const fun n => (body i i1 n).trans (if_neg (by rw [i2]; simp))) ?_
    exact Ev.ret _
end Go.Proofs.Ytemhdliapelleaa.Fn
