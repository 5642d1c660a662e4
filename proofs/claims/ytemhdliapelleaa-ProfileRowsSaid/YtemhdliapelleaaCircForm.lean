/- Chapter 3 of the document's answer: the arcs in form that have just some ticks. -/
import Derived.Test.YtemhdliapelleaaCircFnC
namespace Go.Proofs.Ytemhdliapelleaa.Fn
open Go Go.RowKit Go.Den Go.Circ
set_option linter.unusedVariables false
theorem mod_cast_ (a b : Nat) : ((a : Int) % (b : Int)) = ((a % b : Nat) : Int) := rfl
theorem atI_bt (b : List Bool) (i : Nat) : atI false b (i : Int) = bt b i := by simp [atI, bt]
def runL (x13 : (List Bool) × Int × Int × Int × List (Int × Int)) : Option (((List Bool) × Int × Int × Int × List (Int × Int)) ⊕ ((List Bool) × Int × Int × Int × List (Int × Int))) :=
  let e3 := Int.tmod (wrap64 (x13.2.2.1 + x13.2.2.2.1)) x13.2.1
  bif !(x13.2.1 == 0) then
    bif inB e3 x13.1.length then
      bif atI false x13.1 e3 then
        some (.inl (x13.1, x13.2.1, x13.2.2.1, wrap64 (x13.2.2.2.1 + 1), x13.2.2.2.2))
      else
      some (.inr x13)
    else
    none
  else
  none
theorem runStep {b : List Bool} (hb : b.length ≤ 1000000) {im k : Nat} (hi : im < b.length) (hk : k < b.length) (out : List (Int × Int)) :
    runL (b, (b.length : Int), (im : Int), (k : Int), out) = if bt b ((im + k) % b.length) then some (.inl (b, (b.length : Int), (im : Int), ((k + 1 : Nat) : Int), out)) else some (.inr (b, (b.length : Int), (im : Int), (k : Int), out)) := by
  have w3 : wrap64 ((im : Int) + k) = ((im + k : Nat) : Int) := by rw [wrap64_id (by omega) (by omega)]; omega
  have w4 : wrap64 ((k : Int) + 1) = ((k + 1 : Nat) : Int) := by rw [wrap64_id (by omega) (by omega)]; omega
  have hm3 : Int.tmod (((im + k : Nat) : Int)) (b.length : Int) = (((im + k) % b.length : Nat) : Int) := (Int.tmod_eq_emod_of_nonneg (Int.natCast_nonneg _)).trans (mod_cast_ _ _)
  have hlt3 : (im + k) % b.length < b.length := Nat.mod_lt _ (by omega)
  generalize hr : (im + k) % b.length = r at *
  have hin3 : inB (r : Int) b.length = true := by unfold inB; simp only [Bool.and_eq_true, decide_eq_true_eq]; omega
  have hc0 : ((b.length : Int) == 0) = false := by rw [beq_eq_false_iff_ne]; omega
  unfold runL
  simp only [w3, w4, hm3, hc0, Bool.not_false, cond_true, hin3, atI_bt]
  cases bt b r <;> rfl
theorem run_ok {b : List Bool} (hb : b.length ≤ 1000000) {im : Nat} (hi : im < b.length) (out : List (Int × Int)) (hp : bt b ((im + b.length - 1) % b.length) = false) :
    Ev (fun n => iterL n runL (b, (b.length : Int), (im : Int), 0, out)) (b, (b.length : Int), (im : Int), (rl b im b.length : Int), out) := by
  obtain ⟨y, h1, K, h2, hK, h3, h4⟩ := Ev.iterP (L := fun (_ : Nat) => runL)
    (fun x => ∃ k : Nat, x = (b, (b.length : Int), (im : Int), (k : Int), out) ∧ k < b.length ∧ ∀ m, m < k → bt b ((im + m) % b.length) = true)
    (fun x => (b.length - x.2.2.2.1).toNat)
    (fun y => ∃ K : Nat, y = (b, (b.length : Int), (im : Int), (K : Int), out) ∧ K < b.length ∧ (∀ m, m < K → bt b ((im + m) % b.length) = true) ∧ bt b ((im + K) % b.length) = false)
    (by
      rintro _ ⟨k, rfl, hk, hall⟩
      cases hkv : bt b ((im + k) % b.length) with
      | true =>
        left
        have hall' : ∀ m, m < k + 1 → bt b ((im + m) % b.length) = true := fun m hm => by
          by_cases e : m = k
          · rw [e]; exact hkv
          · exact hall m (by omega)
        have hk1 : k + 1 < b.length := by
          rcases Nat.lt_or_ge (k + 1) b.length with h | h
          · exact h
          · exfalso
            have := hall' (b.length - 1) (by omega)
            rw [show im + (b.length - 1) = im + b.length - 1 by omega, hp] at this
            cases this
        refine ⟨(b, (b.length : Int), (im : Int), ((k + 1 : Nat) : Int), out), Ev.const fun n => ?_, ⟨k + 1, rfl, hk1, hall'⟩, ?_⟩
        · rw [runStep hb hi hk, if_pos hkv]
        · simp only; omega
      | false =>
        right
        refine ⟨(b, (b.length : Int), (im : Int), (k : Int), out), Ev.const fun n => ?_, k, rfl, hk, hall, hkv⟩
        rw [runStep hb hi hk, if_neg (by rw [hkv]; simp)])
    (b, (b.length : Int), (im : Int), 0, out) ⟨0, rfl, by omega, fun m hm => by omega⟩
  subst h2
  rw [rl_of K im b.length hK h3 h4]
  exact h1
theorem form_ {b : List Bool} (hb : b.length ≤ 1000000) : Ev (fun n => ref03_Form n b) (frm b) := by
  have main : ∃ y, Ev (fun n => ref03_Form n b) y ∧ y = frm b := by
    unfold ref03_Form
    refine Ev.bindE (Q := fun y : List Bool × Int × Int => y = (b, (b.length : Int), (b.count true : Int))) (Ev.iterP
      (fun x : List Bool × Int × Int × Int => x.1 = b ∧ x.2.1 = b.length ∧ 0 ≤ x.2.2.2 ∧ x.2.2.2 ≤ b.length ∧ x.2.2.1 = ((b.take x.2.2.2.toNat).count true : Int))
      (fun x => (b.length - x.2.2.2).toNat) _ ?_ _ ?_) ?_
    · rintro ⟨b', c', k, i⟩ ⟨h1', h2', i1, i2, h3'⟩
      simp only at h1' h2' i1 i2 h3'
      subst h1' h2' h3'
      simp only
      obtain ⟨im, rfl⟩ := Int.eq_ofNat_of_zero_le i1
      simp only [Int.toNat_natCast] at *
      have hcnt : (b'.take im).count true ≤ b'.length := Nat.le_trans List.count_le_length (by simp; omega)
      by_cases h0 : (im : Int) < (b'.length : Int)
      · left
        have hlt : im < b'.length := by omega
        have hin : inB (im : Int) b'.length = true := by simp [inB]; omega
        have w1 : wrap64 ((im : Int) + 1) = ((im + 1 : Nat) : Int) := by rw [wrap64_id (by omega) (by omega)]; omega
        have hbt : bt b' im = b'[im] := by simp [bt, hlt]
        have htake : (b'.take (im + 1)).count true = (b'.take im).count true + if b'[im] then 1 else 0 := by
          rw [List.take_succ_eq_append_getElem hlt, List.count_append]
          congr 1
          cases b'[im] <;> simp
        simp only [h0, decide_true, cond_true, hin, atI_bt, w1]
        cases hv : bt b' im with
        | true =>
          rw [hbt] at hv
          rw [hv] at htake
          have w2 : wrap64 (((b'.take im).count true : Int) + 1) = (((b'.take im).count true + 1 : Nat) : Int) := by rw [wrap64_id (by omega) (by omega)]; omega
          refine ⟨(b', (b'.length : Int), (((b'.take im).count true + 1 : Nat) : Int), ((im + 1 : Nat) : Int)), Ev.const fun n => by rw [w2]; rfl, ⟨rfl, rfl, by simp only; omega, by simp only; omega, ?_⟩, by simp only; omega⟩
          simp only [Int.toNat_natCast]
          rw [htake]; simp
        | false =>
          rw [hbt] at hv
          rw [hv] at htake
          refine ⟨(b', (b'.length : Int), ((b'.take im).count true : Int), ((im + 1 : Nat) : Int)), Ev.const fun n => rfl, ⟨rfl, rfl, by simp only; omega, by simp only; omega, ?_⟩, by simp only; omega⟩
          simp only [Int.toNat_natCast]
          rw [htake]; simp
      · right
        refine ⟨(b', (b'.length : Int), ((b'.take im).count true : Int)), Ev.const fun n => by simp [h0], ?_⟩
        have : b'.take im = b' := List.take_of_length_le (by omega)
        rw [this]
    · exact ⟨rfl, rfl, Int.le_refl _, by simp, by simp⟩
    · rintro _ rfl
      simp only [letJ]
      -- what follows where not all ticks are set
      have rest : ∀ hno : b.count true ≠ b.length ∨ b.length = 0, ∃ y, Ev (fun n => (iterL (Y := (List (Int × Int))) n (fun (x10 : (List Bool) × Int × Int × List (Int × Int)) =>
          let e1 := x10.1.length
          let e2 := Int.tmod (wrap64 ((wrap64 (x10.2.2.1 + x10.2.1)) - 1)) x10.2.1
          bif decide (x10.2.2.1 < x10.2.1) then
            letJ (fun (x11 : (List Bool) × Int × Int × Bool × List (Int × Int)) =>
              bif x11.2.2.2.1 then
                some (.inl (x11.1, x11.2.1, wrap64 (x11.2.2.1 + 1), x11.2.2.2.2))
              else
              (iterL (Y := ((List Bool) × Int × Int × Int × List (Int × Int))) n (fun (x13 : (List Bool) × Int × Int × Int × List (Int × Int)) =>
                let e3 := Int.tmod (wrap64 (x13.2.2.1 + x13.2.2.2.1)) x13.2.1
                bif !(x13.2.1 == 0) then
                  bif inB e3 x13.1.length then
                    bif atI false x13.1 e3 then
                      some (.inl (x13.1, x13.2.1, x13.2.2.1, wrap64 (x13.2.2.2.1 + 1), x13.2.2.2.2))
                    else
                    some (.inr x13)
                  else
                  none
                else
                none) (x11.1, x11.2.1, x11.2.2.1, 0, x11.2.2.2.2)).bind fun (z14 : (List Bool) × Int × Int × Int × List (Int × Int)) =>
                let e4 := (z14.2.2.1, z14.2.2.2.1) :: []
                bif fitB (z14.2.2.2.2.length + e4.length) 16 then
                  some (.inl (z14.1, z14.2.1, wrap64 (z14.2.2.1 + 1), z14.2.2.2.2 ++ e4))
                else
                none) fun J12 =>
            bif inB x10.2.2.1 e1 then
              bif !(atI false x10.1 x10.2.2.1) then
                J12 (x10.1, x10.2.1, x10.2.2.1, true, x10.2.2.2)
              else
              bif !(x10.2.1 == 0) then
                bif inB e2 e1 then
                  J12 (x10.1, x10.2.1, x10.2.2.1, atI false x10.1 e2, x10.2.2.2)
                else
                none
              else
              none
            else
            none
          else
          some (.inr x10.2.2.2)) (b, (b.length : Int), 0, [])).bind fun (z15 : List (Int × Int)) =>
          some z15) y ∧ y = (List.range b.length).filterMap fun (i : Nat) => if begins b i then some ((i : Int), (rl b i b.length : Int)) else none := by
        intro hno
        refine Ev.bindE (Q := fun y => y = (List.range b.length).filterMap fun (i : Nat) => if begins b i then some ((i : Int), (rl b i b.length : Int)) else none) (Ev.iterP
          (fun x : List Bool × Int × Int × List (Int × Int) => x.1 = b ∧ x.2.1 = b.length ∧ 0 ≤ x.2.2.1 ∧ x.2.2.1 ≤ b.length ∧ x.2.2.2 = (List.range x.2.2.1.toNat).filterMap fun (i : Nat) => if begins b i then some ((i : Int), (rl b i b.length : Int)) else none)
          (fun x => (b.length - x.2.2.1).toNat) _ ?_ _ ?_) (fun y hy => Ev.retE _ hy)
        · rintro ⟨b', c', i, out⟩ ⟨h1', h2', i1, i2, h3'⟩
          simp only at h1' h2' i1 i2 h3'
          subst h1' h2' h3'
          simp only
          obtain ⟨im, rfl⟩ := Int.eq_ofNat_of_zero_le i1
          simp only [Int.toNat_natCast] at *
          by_cases h0 : (im : Int) < (b'.length : Int)
          · left
            have hlt : im < b'.length := by omega
            have hc0 : ((b'.length : Int) == 0) = false := by rw [beq_eq_false_iff_ne]; omega
            have hin : inB (im : Int) b'.length = true := by simp [inB]; omega
            have w1 : wrap64 ((im : Int) + 1) = ((im + 1 : Nat) : Int) := by rw [wrap64_id (by omega) (by omega)]; omega
            have w2 : wrap64 (wrap64 ((im : Int) + b'.length) - 1) = ((im + b'.length - 1 : Nat) : Int) := by
              rw [wrap64_id (n := (im : Int) + b'.length) (by omega) (by omega), wrap64_id (by omega) (by omega)]; omega
            have hm : Int.tmod (((im + b'.length - 1 : Nat) : Int)) (b'.length : Int) = (((im + b'.length - 1) % b'.length : Nat) : Int) := (Int.tmod_eq_emod_of_nonneg (Int.natCast_nonneg _)).trans (mod_cast_ _ _)
            have hlt2 : (im + b'.length - 1) % b'.length < b'.length := Nat.mod_lt _ (by omega)
            have hin2 : inB (((im + b'.length - 1) % b'.length : Nat) : Int) b'.length = true := by unfold inB; simp only [Bool.and_eq_true, decide_eq_true_eq]; omega
            have hsucc : ∀ g : Nat → Option (Int × Int), (List.range (im + 1)).filterMap g = (List.range im).filterMap g ++ (g im).toList := by
              intro g
              rw [List.range_succ, List.filterMap_append]
              cases h : g im <;> simp [h]
            have hoLen : ((List.range im).filterMap fun (i : Nat) => if begins b' i then some ((i : Int), (rl b' i b'.length : Int)) else none).length ≤ im := by
              have := List.length_filterMap_le (fun (i : Nat) => if begins b' i then some ((i : Int), (rl b' i b'.length : Int)) else none) (List.range im)
              simpa using this
            generalize ho : ((List.range im).filterMap fun (i : Nat) => if begins b' i then some ((i : Int), (rl b' i b'.length : Int)) else none) = out at *
            have skip : begins b' im = false → out = (List.range (im + 1)).filterMap fun (i : Nat) => if begins b' i then some ((i : Int), (rl b' i b'.length : Int)) else none := by
              intro hbeg
              rw [hsucc, ho]; simp [hbeg]
            simp only [h0, decide_true, cond_true, hin, atI_bt, w1, w2, hm, hc0, Bool.not_false, hin2, letJ]
            cases hv : bt b' im with
            | false =>
              refine ⟨(b', (b'.length : Int), ((im + 1 : Nat) : Int), out), Ev.const fun n => rfl, ⟨rfl, rfl, by simp only; omega, by simp only; omega, by simpa using skip (by simp [begins, hv])⟩, by simp only; omega⟩
            | true =>
              cases hp : bt b' ((im + b'.length - 1) % b'.length) with
              | true =>
                refine ⟨(b', (b'.length : Int), ((im + 1 : Nat) : Int), out), Ev.const fun n => rfl, ⟨rfl, rfl, by simp only; omega, by simp only; omega, by simpa using skip (by simp [begins, hp])⟩, by simp only; omega⟩
              | false =>
                -- the run
                have hrun := run_ok hb hlt out hp
                generalize hrl : rl b' im b'.length = K at hrun
                refine ⟨(b', (b'.length : Int), ((im + 1 : Nat) : Int), out ++ [((im : Int), (K : Int))]), ?_, ⟨rfl, rfl, by simp only; omega, by simp only; omega, ?_⟩, by simp only; omega⟩
                · refine Ev.bind hrun ?_
                  have hfit : fitB (out.length + [((im : Int), (K : Int))].length) 16 = true := by unfold fitB; simp; omega
                  simp only [hfit, cond_true, w1]
                  exact Ev.ret _
                · simp only [Int.toNat_natCast]
                  rw [hsucc, ho]
                  have hbeg : begins b' im = true := by simp [begins, hv, hp]
                  simp [hbeg, hrl]
          · right
            refine ⟨_, Ev.const fun n => by simp [h0]; rfl, ?_⟩
            have : im = b'.length := by omega
            rw [this]
        · exact ⟨rfl, rfl, Int.le_refl _, by simp, by simp⟩
      by_cases hall : b.count true = b.length
      · by_cases hpos : 0 < b.length
        · have e1 : ((b.count true : Int) == (b.length : Int)) = true := by rw [hall]; simp
          have e2 : decide (0 < (b.length : Int)) = true := by simp; omega
          refine Ev.eqE (v := [(0, (b.length : Int))]) (fun n => by simp only [e1, e2, cond_true]) ?_
          unfold frm
          rw [if_pos ⟨hall, hpos⟩]
        · have e1 : ((b.count true : Int) == (b.length : Int)) = true := by rw [hall]; simp
          have e2 : decide (0 < (b.length : Int)) = false := decide_eq_false (by omega)
          obtain ⟨y, h1, h2⟩ := rest (.inr (by omega))
          refine ⟨y, ?_, ?_⟩
          · simp only [e1, e2, cond_true, cond_false]; exact h1
          · rw [h2]; unfold frm; rw [if_neg fun h => hpos h.2]
      · have e1 : ((b.count true : Int) == (b.length : Int)) = false := by simp; omega
        obtain ⟨y, h1, h2⟩ := rest (.inl hall)
        refine ⟨y, ?_, ?_⟩
        · simp only [e1, cond_false]; exact h1
        · rw [h2]; unfold frm; rw [if_neg fun h => hall h.1]
  obtain ⟨y, h3, rfl⟩ := main
  exact h3
end Go.Proofs.Ytemhdliapelleaa.Fn
