/- Chapter 34: what goes at a light, by the program and by the document. -/
import Derived.Test.YtemhdliapelleaaProfFn
namespace Go.Proofs.Ytemhdliapelleaa.Fn
open Go Go.RowKit Go.Den Go.Circ
set_option linter.unusedVariables false

theorem count_norm {C : Int} (hc : 1 ≤ C ∧ C ≤ 6000) (a : Int × Int) : ((ticksOf C [a]).count true : Int) = (normOf C a).2 := by
  obtain ⟨n1, n2, n3, n4⟩ := normOf_at hc.1 a
  have e : ((C.toNat : Nat) : Int) = C := by omega
  have hT : ∀ P : List (Int × Int), (∀ j, 0 ≤ j → j < C → (Cov P j ↔ Cov (cut1 C a) j)) → ticksOf C [a] = tks C.toNat (Cov P) := fun P h => by
    unfold ticksOf
    rw [if_pos hc]
    refine tks_congr fun j _ hj => ?_
    rw [h j (by omega) (by omega), cut1_cov hc.1 hc.2 a (by omega) (by omega)]
    simp [TS]
  have full : (normOf C a).2 = C → (normOf C a).1 = 0 := by
    unfold normOf
    intro h
    split at h
    · simp at h; omega
    · split at h
      · rename_i h3 h4; rw [if_neg h3, if_pos h4]
      · simp at h; omega
  have fin : ∀ P, PGood C P → (∀ j, 0 ≤ j → j < C → (Cov P j ↔ Cov (cut1 C a) j)) → totalOf P = (normOf C a).2 → ((ticksOf C [a]).count true : Int) = (normOf C a).2 := by
    intro P hg h1 h2
    rw [hT P h1, ← h2]
    rw [← e] at hg
    exact (total_ok hg).symm
  by_cases h0 : (normOf C a).2 = 0
  · have hcut : cut1 C a = [] := by unfold cut1; rw [if_pos h0]
    refine fin [] (PGood.nil C) (fun j _ _ => by rw [hcut]) ?_
    rw [h0]; rfl
  · by_cases h1 : (normOf C a).1 + (normOf C a).2 ≤ C
    · have hcut : cut1 C a = [((normOf C a).1, (normOf C a).1 + (normOf C a).2)] := by unfold cut1; rw [if_neg h0, if_pos h1]
      refine fin [((normOf C a).1, (normOf C a).1 + (normOf C a).2)] ⟨fun p hp => ?_, by simp⟩ (fun j _ _ => by rw [hcut]) ?_
      · rw [List.mem_singleton] at hp; subst hp; simp only; omega
      · simp [totalOf]; omega
    · have hcut : cut1 C a = [((normOf C a).1, C), (0, (normOf C a).1 + (normOf C a).2 - C)] := by unfold cut1; rw [if_neg h0, if_neg h1]
      have hn : (normOf C a).2 < C := by
        rcases Int.lt_or_le (normOf C a).2 C with h | h
        · exact h
        · have := full (by omega); omega
      refine fin [(0, (normOf C a).1 + (normOf C a).2 - C), ((normOf C a).1, C)] ⟨fun p hp => ?_, ?_⟩ (fun j _ _ => by rw [hcut]; simp only [Cov.cons, Cov.nil, or_false]; omega) ?_
      · simp only [List.mem_cons, List.not_mem_nil, or_false] at hp
        rcases hp with rfl | rfl <;> simp only <;> omega
      · simp; omega
      · simp [totalOf]; omega
theorem sum_rooms (g : List Bool) (sat : Int) : (g.map fun b => if b then sat else (0 : Int)).sum = sat * (g.count true : Int) := by
  induction g with
  | nil => simp
  | cons b g ih =>
    rw [List.map_cons, List.sum_cons, ih, List.count_cons]
    cases b with
    | true => simp [Int.mul_add]; omega
    | false => simp
theorem pairs_fst (come : List Int) (g : List Bool) (sat : Int) : (pairsOf come g sat).map (·.1) = come := by
  unfold pairsOf
  rw [List.map_map]
  apply List.ext_getElem (by simp)
  intro i h1 h2
  simp [List.getD_eq_getElem?_getD, h2]
theorem pairs_snd (come : List Int) (g : List Bool) (sat : Int) (hg : g.length = come.length) : (pairsOf come g sat).map (·.2) = g.map fun b => if b then sat else (0 : Int) := by
  unfold pairsOf
  rw [List.map_map]
  apply List.ext_getElem (by simp [hg])
  intro i h1 h2
  have : i < g.length := by simpa using h2
  simp [List.getD_eq_getElem?_getD, this]
theorem Dl_sub (L : List (Int × Int)) : Dl L = (L.map (·.1)).sum - (L.map (·.2)).sum := by
  induction L with
  | nil => rfl
  | cons x L ih => simp only [Dl, List.map_cons, List.sum_cons] at *; omega
theorem Dl_pairs {C : Int} (hc : 1 ≤ C ∧ C ≤ 6000) (a : Int × Int) (come : List Int) (sat : Int) (hl : (come.length : Int) = C) : Dl (pairsOf come (ticksOf C [a]) sat) = come.sum - sat * (normOf C a).2 := by
  rw [Dl_sub, pairs_fst, pairs_snd _ _ _ (by rw [ticksOf_len _ _ hc]; omega), sum_rooms, count_norm hc]
/-- What is told of a light. -/
noncomputable def passOf (C : Int) (a : Int × Int) (sat : Int) (come : List Int) : Int × Int × Int × List Int :=
  if ((1 ≤ C ∧ C ≤ 6000) ∧ (come.length : Int) = C ∧ FewP come) ∧ 0 ≤ sat ∧ sat ≤ 1000000000 then
    (if sat * (normOf C a).2 < come.sum then (0, 0, 150, [])
    else (Nl (pairsOf come (ticksOf C [a]) sat), wt (Nl (pairsOf come (ticksOf C [a]) sat)) (pairsOf come (ticksOf C [a]) sat), 0, gn (Nl (pairsOf come (ticksOf C [a]) sat)) (pairsOf come (ticksOf C [a]) sat)))
  else (0, 0, 1, [])
theorem set_fill (A : List Int) (k : Nat) (v : Int) : List.set (A ++ List.replicate (k + 1) 0) A.length v = (A ++ [v]) ++ List.replicate k 0 := by
  rw [List.replicate_succ]; simp
theorem mul_le {s N : Int} (h1 : 0 ≤ s) (h2 : s ≤ 1000000000) (h3 : 0 ≤ N) (h4 : N ≤ 6000) : 0 ≤ s * N ∧ s * N ≤ 6000000000000 := by
  refine ⟨Int.mul_nonneg h1 h3, Int.le_trans (Int.mul_le_mul h2 h4 h3 (by omega)) (by decide)⟩
theorem pass_ (C : Int) (a : Int × Int) (sat : Int) (come : List Int) (hl : come.length ≤ 6000) : Ev (fun n => profile_Pass n (C, a.1, a.2, sat, come)) (passOf C a sat come) := by
  unfold profile_Pass passOf
  simp only [letJ]
  by_cases h1 : C < 1
  · rw [if_neg (by omega)]; simp only [h1, decide_true, cond_true]; exact Ev.ret _
  by_cases h2 : 6000 < C
  · rw [if_neg (by omega)]; simp only [h1, h2, decide_true, decide_false, cond_true, cond_false]; exact Ev.ret _
  by_cases h3 : (come.length : Int) = C
  case neg =>
    rw [if_neg (fun h => h3 h.1.2.1)]
    have : (((come.length : Nat) : Int) == C) = false := beq_eq_false_iff_ne.2 h3
    simp only [h1, h2, this, decide_false, cond_false, Bool.not_false, cond_true]
    exact Ev.ret _
  have hb3 : (((come.length : Nat) : Int) == C) = true := by simp [h3]
  simp only [h1, h2, hb3, decide_false, cond_false, Bool.not_true]
  refine Ev.bind (pfew_ come (by omega)) ?_
  by_cases h4 : FewP come
  case neg => rw [decide_eq_false h4, if_neg (fun h => h4 h.1.2.2)]; exact Ev.ret _
  rw [decide_eq_true h4]
  simp only [Bool.not_true, cond_false]
  by_cases h5 : sat < 0
  · rw [if_neg (by omega)]; simp only [h5, decide_true, cond_true]; exact Ev.ret _
  by_cases h6 : 1000000000 < sat
  · rw [if_neg (by omega)]; simp only [h5, h6, decide_true, decide_false, cond_true, cond_false]; exact Ev.ret _
  have hc : 1 ≤ C ∧ C ≤ 6000 := by omega
  rw [if_pos ⟨⟨hc, h3, h4⟩, by omega, by omega⟩]
  simp only [h5, h6, decide_false, cond_false]
  have hsum : sumOf come = come.sum := by unfold sumOf; rw [if_neg (by simp [h4]; omega)]
  have hps := psum_ come (by omega)
  rw [hsum] at hps
  obtain ⟨n1, n2, n3, n4⟩ := normOf_at hc.1 a
  have hm := mul_le (s := sat) (N := (normOf C a).2) (by omega) (by omega) n3 (by omega)
  refine Ev.bind hps (Ev.bindS (fun n => norm_ n C a) ?_)
  rw [wrap64_id (by omega) (by omega)]
  by_cases h7 : sat * (normOf C a).2 < come.sum
  · rw [if_pos h7, decide_eq_true h7]; exact Ev.ret _
  rw [if_neg h7, decide_eq_false h7]
  simp only [cond_false]
  have hD := Dl_pairs hc a come sat h3
  have hgl := ticksOf_len C [a] hc
  refine Ev.bind (light_ C hc a sat) ?_
  generalize ticksOf C [a] = g at *
  have hst := steady_ C come g sat hl h3 (by omega) h4 (by omega)
  have hL := pairs_fine (g := g) h4 (show 0 ≤ sat ∧ sat ≤ 1000000000 by omega)
  have hpl := pairs_len come g sat
  have hpg := fun i h => pairs_get come g sat i h
  generalize pairsOf come g sat = L at *
  rw [Ml_least (by omega)] at hst
  refine Ev.bind hst ?_
  have hN0 := Nl_nonneg L
  have hNb := Nl_bound hL
  generalize Nl L = M at *
  have hcc : (C == C && decide (0 ≤ C) && decide (C * 8 ≤ 281474976710656)) = true := by simp; omega
  simp only [hcc, cond_true]
  have hCn : C.toNat = come.length := by omega
  rw [hCn]
  refine Ev.loopB (st := fun i => (M, wt M (L.take i), fq M (L.take i), come, (come.length : Int), (i : Int), C, sat, gn M (L.take i) ++ List.replicate (come.length - i) 0, g)) come.length (M, wt M L, gn M L) (by simp [wt, fq, gn]) (fun i hi => Ev.const fun n => ?_) (Ev.const fun n => ?_) (Ev.ret _)
  · have hiL : i < L.length := by omega
    have hgi : i < g.length := by omega
    have hq0 := fq_nonneg (hL.take i) hN0
    have hqb := fq_bound (hL.take i) hN0
    have hwb := wt_bound (hL.take i) (B := 12000000000000) hN0 (by rw [List.length_take]; omega)
    rw [List.length_take] at hqb hwb
    have hx := hL (L.getD i (0, 0)) (by rw [getD_lt _ _ _ hiL]; exact List.getElem_mem hiL)
    have hglen : (gn M (L.take i)).length = i := by rw [gn_len, List.length_take]; omega
    have hsplit : come.length - i = (come.length - (i + 1)) + 1 := by omega
    have hgs := gn_snoc M L i hiL
    have hfs := fq_snoc M L i hiL
    have hws := wt_snoc M L i hiL
    rw [hpg i hi] at hx hgs hfs hws
    simp only at hx hgs hfs hws
    have hset : ∀ v, List.set (gn M (L.take i) ++ List.replicate (come.length - i) 0) i v = (gn M (L.take i) ++ [v]) ++ List.replicate (come.length - (i + 1)) 0 := fun v => by
      have := set_fill (gn M (L.take i)) (come.length - (i + 1)) v
      rw [hglen] at this
      rw [hsplit]; exact this
    have hgl2 : (gn M (L.take i) ++ List.replicate (come.length - i) 0).length = come.length := by rw [List.length_append, hglen, List.length_replicate]; omega
    have hgl3 : ∀ v, ((gn M (L.take i) ++ [v]) ++ List.replicate (come.length - (i + 1)) 0).length = come.length := fun v => by
      rw [List.length_append, List.length_append, hglen, List.length_replicate]; simp; omega
    have hget : ∀ v, ((gn M (L.take i) ++ [v]) ++ List.replicate (come.length - (i + 1)) 0).getD i 0 = v := fun v => by
      rw [List.getD_eq_getElem?_getD, List.getElem?_append_left (by rw [List.length_append, hglen]; simp), List.getElem?_append_right (by omega), hglen]; simp
    rw [hgs, hfs, hws]
    simp only [Int.ofNat_lt, hi, decide_true, cond_true, inB_nat, atI_nat, room_ n C g sat i hgi, Option.bind_some, Int.toNat_natCast, hset, hgl2, hgl3, hget, mn_eq, wrap_succ (show i < 9223372036854775807 by omega)]
    generalize come.getD i 0 = x at *
    generalize (if g.getD i false = true then sat else 0) = r at *
    generalize fq M (L.take i) = q at *
    generalize wt M (L.take i) = w at *
    rw [wrap64_id (n := q + x) (by omega) (by omega), wrap64_id (n := x - min (q + x) r) (by omega) (by omega), wrap64_id (n := q + (x - min (q + x) r)) (by omega) (by omega), wrap64_id (n := w + (q + (x - min (q + x) r))) (by omega) (by omega)]
    rw [show q + (x - min (q + x) r) = q + x - min (q + x) r by omega]
  · have h1 : L.take come.length = L := List.take_of_length_le (by omega)
    simp [h1]
end Go.Proofs.Ytemhdliapelleaa.Fn
