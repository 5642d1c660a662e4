/- Differences, order, and trimming of numbers by parts. -/
import Derived.Test.YtiildimlelphhaaGreatDoorPartsB
namespace Go.Proofs.YtiildimlelphhaaGreatDoor.Fn
set_option linter.unusedVariables false
open Go Go.RowKit Go.Den Go.Circ

theorem Sg_le {f : Nat → Nat} {m n : Nat} (h : m ≤ n) : Sg f m ≤ Sg f n := by
  induction n with
  | zero => rw [show m = 0 by omega]; exact Nat.le_refl _
  | succ n ih =>
    by_cases e : m = n + 1
    · rw [e]; exact Nat.le_refl _
    · exact Nat.le_trans (ih (by omega)) (by simp only [Sg]; exact Nat.le_add_right _ _)
/-- A number that is less than B^m has its parts below m. -/
theorem val_low {b : List Nat} {m : Nat} (h : val b < 65536 ^ m) : Sg (dg b) m = val b := by
  by_cases hl : b.length ≤ m
  · exact val_at b hl
  · obtain ⟨k, hk⟩ : ∃ k, b.length = m + k := ⟨b.length - m, by omega⟩
    have e : val b = Sg (dg b) m + 65536 ^ m * Sg (fun j => dg b (m + j)) k := by unfold val; rw [hk, Sg_split]
    have h0 : Sg (fun j => dg b (m + j)) k = 0 := by
      apply Nat.eq_zero_of_not_pos
      intro hp
      have := Nat.mul_le_mul_left (65536 ^ m) (show 1 ≤ Sg (fun j => dg b (m + j)) k from hp)
      generalize 65536 ^ m * Sg (fun j => dg b (m + j)) k = z at e this
      rw [Nat.mul_one] at this
      generalize 65536 ^ m = w at h this
      omega
    rw [e, h0, Nat.mul_zero, Nat.add_zero]
theorem minus_ (a b : List Nat) (ha : Okd a) (hb : Okd b) (la : a.length ≤ 10000) (hle : val b ≤ val a) :
    ∃ c, (Okd c ∧ val c = val a - val b ∧ c.length = a.length) ∧ Ev (fun n => ref01_Minus n (Dl a, Dl b)) (Dl c) := by
  have loop := Ev.iterP (L := fun n (x4 : List Int × List Int × Int × Int × List Int) =>
    let e0 := x4.2.1.length
    bif decide (x4.2.2.2.1 < ((x4.1.length : Nat) : Int)) then
      letJ (fun (x5 : List Int × List Int × Int × Int × List Int) =>
        let e1 := inB x5.2.2.1 x5.1.length
        let e2 := x5.2.2.2.2.length
        let e3 := atI 0 x5.1 x5.2.2.1
        let e4 := (IntKind.wrap .u64 (e3 - x5.2.2.2.1)) :: []
        let e5 := (IntKind.wrap .u64 ((IntKind.wrap .u64 (e3 + 65536)) - x5.2.2.2.1)) :: []
        let e6 := wrap64 (x5.2.2.1 + 1)
        bif e1 then
          bif decide (x5.2.2.2.1 ≤ e3) then
            bif e1 then
              bif fitB (e2 + e4.length) 8 then
                some (.inl (x5.1, x5.2.1, 0, e6, x5.2.2.2.2 ++ e4))
              else
              none
            else
            none
          else
            bif e1 then
              bif fitB (e2 + e5.length) 8 then
                some (.inl (x5.1, x5.2.1, 1, e6, x5.2.2.2.2 ++ e5))
              else
              none
            else
            none
        else
        none) fun J6 =>
      bif decide (x4.2.2.2.1 < ((e0 : Nat) : Int)) then
        bif inB x4.2.2.2.1 e0 then
          J6 (x4.1, x4.2.1, x4.2.2.2.1, IntKind.wrap .u64 (x4.2.2.1 + (atI 0 x4.2.1 x4.2.2.2.1)), x4.2.2.2.2)
        else
        none
      else
      J6 (x4.1, x4.2.1, x4.2.2.2.1, x4.2.2.1, x4.2.2.2.2)
    else
    some (.inr x4.2.2.2.2))
    (fun x => ∃ (c : List Nat) (y : Nat), x = (Dl a, Dl b, (y : Int), (c.length : Int), Dl c) ∧ Okd c ∧ y ≤ 1 ∧ val c + Sg (dg b) c.length = Sg (dg a) c.length + y * 65536 ^ c.length ∧ c.length ≤ a.length)
    (fun x => a.length - x.2.2.2.1.toNat) (fun z => ∃ c, z = Dl c ∧ (Okd c ∧ val c = val a - val b ∧ c.length = a.length)) ?_ (Dl a, Dl b, 0, 0, [])
    ⟨[], 0, rfl, (show Okd [] from fun x hx => nomatch hx), by decide, by simp [val, Sg], by simp⟩
  · obtain ⟨z, h1, c, rfl, h2⟩ := loop
    exact ⟨c, h2, Ev.bind h1 (Ev.ret _)⟩
  · rintro x ⟨c, y, rfl, hc, hy, hv, hl⟩
    have hfin : c.length = a.length → val c = val a - val b := by
      intro h0
      have hbl : val b < 65536 ^ c.length := by rw [h0]; exact Nat.lt_of_le_of_lt hle (val_lt ha)
      rw [val_low hbl, h0, val_at a (Nat.le_refl _)] at hv
      have hcl := val_lt hc
      rw [h0] at hcl
      rcases Nat.eq_zero_or_pos y with e | e
      · rw [e, Nat.zero_mul] at hv; clear hcl hbl; omega
      · have : y = 1 := by clear hv; omega
        rw [this, Nat.one_mul] at hv
        generalize 65536 ^ a.length = w at hv hcl
        omega
    have step : ∀ (d y' : Nat), d < 65536 → y' ≤ 1 → d + (y + dg b c.length) = dg a c.length + 65536 * y' → c.length < a.length →
        (∃ (c' : List Nat) (z : Nat), ((Dl a, Dl b, (y' : Int), ((c.length + 1 : Nat) : Int), Dl (c ++ [d])) : List Int × List Int × Int × Int × List Int) = (Dl a, Dl b, (z : Int), (c'.length : Int), Dl c') ∧ Okd c' ∧ z ≤ 1 ∧ val c' + Sg (dg b) c'.length = Sg (dg a) c'.length + z * 65536 ^ c'.length ∧ c'.length ≤ a.length) := by
      intro d y' hd hy' he hlt
      refine ⟨c ++ [d], y', by simp, ok_snoc hc hd, hy', ?_, by simp; omega⟩
      rw [val_snoc]
      simp only [List.length_append, List.length_singleton, Sg]
      have e1 : d * 65536 ^ c.length + (y * 65536 ^ c.length + dg b c.length * 65536 ^ c.length) = dg a c.length * 65536 ^ c.length + y' * 65536 ^ (c.length + 1) := by
        rw [← Nat.add_mul, ← Nat.add_mul, he, Nat.add_mul, Nat.pow_succ, Nat.mul_comm (65536 ^ c.length) 65536, ← Nat.mul_assoc, Nat.mul_comm 65536 y']
      generalize d * 65536 ^ c.length = z1 at e1 ⊢
      generalize y * 65536 ^ c.length = z2 at e1 hv
      generalize dg b c.length * 65536 ^ c.length = z3 at e1 ⊢
      generalize dg a c.length * 65536 ^ c.length = z4 at e1 ⊢
      generalize y' * 65536 ^ (c.length + 1) = z5 at e1 ⊢
      clear hfin
      omega
    clear hv
    have u1 := dg_lt ha c.length
    have v1 := dg_lt hb c.length
    have w6 : wrap64 ((c.length : Int) + 1) = ((c.length + 1 : Nat) : Int) := wrap_succ (by omega)
    have f8 : ∀ d : Int, fitB (c.length + [d].length) 8 = true := fun d => fit8 (by simp; omega)
    by_cases hla : c.length < a.length
    · left
      -- what is taken away at this part
      have body : ∀ t : Nat, t = y + dg b c.length → ∃ x' : List Int × List Int × Int × Int × List Int, (∀ _ : Nat, (
        let e1 := inB (c.length : Int) (Dl a).length
        let e2 := (Dl c).length
        let e3 := atI 0 (Dl a) (c.length : Int)
        let e4 := (IntKind.wrap .u64 (e3 - (t : Int))) :: []
        let e5 := (IntKind.wrap .u64 ((IntKind.wrap .u64 (e3 + 65536)) - (t : Int))) :: []
        let e6 := wrap64 ((c.length : Int) + 1)
        bif e1 then
          bif decide ((t : Int) ≤ e3) then
            bif e1 then
              bif fitB (e2 + e4.length) 8 then
                some (.inl (Dl a, Dl b, 0, e6, Dl c ++ e4))
              else
              none
            else
            none
          else
            bif e1 then
              bif fitB (e2 + e5.length) 8 then
                some (.inl (Dl a, Dl b, 1, e6, Dl c ++ e5))
              else
              none
            else
            none
        else
        none : Option ((List Int × List Int × Int × Int × List Int) ⊕ List Int)) = some (.inl x')) ∧ (∃ (c' : List Nat) (z : Nat), x' = (Dl a, Dl b, (z : Int), (c'.length : Int), Dl c') ∧ Okd c' ∧ z ≤ 1 ∧ val c' + Sg (dg b) c'.length = Sg (dg a) c'.length + z * 65536 ^ c'.length ∧ c'.length ≤ a.length) ∧ x'.2.2.2.1 = ((c.length + 1 : Nat) : Int) := by
        intro t ht
        simp only [Dl_len, inB_nat, decide_eq_true hla, cond_true, atI_Dl, w6, f8]
        by_cases hge : t ≤ dg a c.length
        · have e1 : decide ((t : Int) ≤ (dg a c.length : Int)) = true := decide_eq_true (by omega)
          have e2 : IntKind.wrap .u64 ((dg a c.length : Int) - (t : Int)) = ((dg a c.length - t : Nat) : Int) := by rw [wu64]; omega
          refine ⟨_, fun n => (by simp only [e1, e2, cond_true, Dl_snoc]; rfl), step (dg a c.length - t) 0 (by omega) (by omega) (by omega) hla, rfl⟩
        · have e1 : decide ((t : Int) ≤ (dg a c.length : Int)) = false := decide_eq_false (by omega)
          have e2 : IntKind.wrap .u64 ((dg a c.length : Int) + 65536) = ((dg a c.length + 65536 : Nat) : Int) := by rw [wu64]; omega
          have e3 : IntKind.wrap .u64 (((dg a c.length + 65536 : Nat) : Int) - (t : Int)) = ((dg a c.length + 65536 - t : Nat) : Int) := by rw [wu64]; omega
          refine ⟨_, fun n => (by simp only [e1, e2, e3, cond_false, Dl_snoc]; rfl), step (dg a c.length + 65536 - t) 1 (by omega) (by omega) (by omega) hla, rfl⟩
      by_cases hlb : c.length < b.length
      · obtain ⟨x', hx1, hx2, hx3⟩ := body (y + dg b c.length) rfl
        have w : IntKind.wrap .u64 ((y : Int) + (dg b c.length : Int)) = ((y + dg b c.length : Nat) : Int) := by rw [show (y : Int) + (dg b c.length : Int) = ((y + dg b c.length : Nat) : Int) by omega]; exact wun (by omega)
        refine ⟨x', Ev.const fun n => ?_, hx2, by simp only [hx3, Int.toNat_natCast]; omega⟩
        rw [← hx1 n]
        simp only [letJ, Dl_len, ofNat_lt_true hla, ofNat_lt_true hlb, cond_true, inB_nat, decide_eq_true hlb, atI_Dl, w]
      · obtain ⟨x', hx1, hx2, hx3⟩ := body y (by rw [dg_out (l := b) (by omega)]; rfl)
        have db : decide ((c.length : Int) < (b.length : Int)) = false := decide_eq_false (by omega)
        refine ⟨x', Ev.const fun n => ?_, hx2, by simp only [hx3, Int.toNat_natCast]; omega⟩
        rw [← hx1 n]
        simp only [letJ, Dl_len, ofNat_lt_true hla, db, cond_true, cond_false, atI_Dl]
    · right
      have da : decide ((c.length : Int) < (a.length : Int)) = false := decide_eq_false (by omega)
      refine ⟨Dl c, Ev.const fun n => ?_, c, rfl, hc, hfin (by omega), by omega⟩
      simp only [Dl_len, da, cond_false]
theorem dg_take (a : List Nat) (k i : Nat) : dg (a.take k) i = if i < k then dg a i else 0 := by
  unfold dg
  rw [List.getD_eq_getElem?_getD, List.getD_eq_getElem?_getD, List.getElem?_take]
  by_cases h : i < k
  · rw [if_pos h, if_pos h]
  · rw [if_neg h, if_neg h]; rfl
theorem trim_ (a : List Nat) (ha : Okd a) (la : a.length ≤ 10001) : ∃ c, (Okd c ∧ val c = val a ∧ c.length ≤ a.length) ∧ Ev (fun n => ref02_trim n (Dl a)) (Dl c) := by
  have loop := Ev.iterP (L := fun n (x1 : List Int × Int) =>
    let e0 := wrap64 (x1.2 - 1)
    letJ (fun (x2 : List Int × Int × Bool) =>
      bif x2.2.2 then
        some (.inl (x2.1, wrap64 (x2.2.1 - 1)))
      else
      some (.inr (x2.1, x2.2.1))) fun J3 =>
    bif decide (0 < x1.2) then
      bif inB e0 x1.1.length then
        J3 (x1.1, x1.2, (atI 0 x1.1 e0) == 0)
      else
      none
    else
    J3 (x1.1, x1.2, false))
    (fun x => ∃ k : Nat, x = (Dl a, (k : Int)) ∧ k ≤ a.length ∧ ∀ j, k ≤ j → dg a j = 0) (fun x => x.2.toNat) (fun z => ∃ k : Nat, z = (Dl a, (k : Int)) ∧ k ≤ a.length ∧ ∀ j, k ≤ j → dg a j = 0) ?_ (Dl a, ((a.length : Nat) : Int))
    ⟨a.length, rfl, Nat.le_refl _, fun j hj => dg_out hj⟩
  · obtain ⟨z, h1, k, rfl, hk, hz⟩ := loop
    refine ⟨a.take k, ⟨fun x hx => ha x (List.mem_of_mem_take hx), ?_, by simp; omega⟩, ?_⟩
    · rw [← val_at (a.take k) (n := a.length) (by simp; omega), ← val_at a (n := a.length) (Nat.le_refl _)]
      refine Sg_congr _ fun j _ => ?_
      rw [dg_take]
      by_cases h : j < k
      · rw [if_pos h]
      · rw [if_neg h, hz j (by omega)]
    · unfold ref02_trim
      rw [← Dl_len a] at h1
      refine Ev.bind h1 ?_
      have c1 : cutOk none (some (k : Int)) (Dl a).length = true := by unfold cutOk; rw [Dl_len]; simp; omega
      have c2 : cutList none (some (k : Int)) (Dl a) = Dl (a.take k) := by unfold cutList Dl; simp only [Int.toNat_natCast, List.map_take]
      have c3 : fitB (Dl (a.take k)).length 8 = true := by rw [Dl_len]; exact fit8 (by simp; omega)
      simp only [c1, cond_true, c2, c3]
      exact Ev.ret _
  · rintro x ⟨k, rfl, hk, hz⟩
    by_cases h0 : 0 < k
    · have w : wrap64 ((k : Int) - 1) = ((k - 1 : Nat) : Int) := by rw [wrap64_id (by omega) (by omega)]; omega
      have d0 : decide ((0 : Int) < (k : Int)) = true := decide_eq_true (by omega)
      have hk1 : k - 1 < a.length := by omega
      by_cases hd : dg a (k - 1) = 0
      · left
        have e : (((dg a (k - 1) : Nat) : Int) == 0) = true := by rw [hd]; rfl
        refine ⟨(Dl a, ((k - 1 : Nat) : Int)), Ev.const fun n => ?_, ⟨k - 1, rfl, by omega, fun j hj => ?_⟩, by simp only [Int.toNat_natCast]; omega⟩
        · simp only [letJ, w, d0, cond_true, Dl_len, inB_nat, decide_eq_true hk1, atI_Dl, e]
        · by_cases ej : j = k - 1
          · rw [ej]; exact hd
          · exact hz j (by omega)
      · right
        have e : (((dg a (k - 1) : Nat) : Int) == 0) = false := by rw [beq_eq_false_iff_ne]; omega
        refine ⟨(Dl a, (k : Int)), Ev.const fun n => ?_, k, rfl, hk, hz⟩
        simp only [letJ, w, d0, cond_true, cond_false, Dl_len, inB_nat, decide_eq_true hk1, atI_Dl, e]
    · right
      have d0 : decide ((0 : Int) < (k : Int)) = false := decide_eq_false (by omega)
      refine ⟨(Dl a, (k : Int)), Ev.const fun n => ?_, k, rfl, hk, hz⟩
      simp only [letJ, d0, cond_false]
def ordF (x y : Nat) : Int := if x < y then -1 else if y < x then 1 else 0
theorem order_ (a b : List Nat) (ha : Okd a) (hb : Okd b) (la : a.length ≤ 100000) (lb : b.length ≤ 100000) : Ev (fun n => ref01_Order n (Dl a, Dl b)) (ordF (val a) (val b)) := by
  obtain ⟨N, hN⟩ : ∃ N, max a.length b.length = N := ⟨_, rfl⟩
  have va : Sg (dg a) N = val a := val_at a (by omega)
  have vb : Sg (dg b) N = val b := val_at b (by omega)
  have loop := Ev.iterP (Y := Int ⊕ Unit) (L := fun n (x1 : List Int × List Int × Int) =>
    let e0 := x1.1.length
    bif decide (0 ≤ x1.2.2) then
      letJ (fun (x2 : List Int × List Int × Int × Int × Int) =>
        let e1 := x2.2.1.length
        letJ (fun (x4 : List Int × List Int × Int × Int × Int) =>
          bif decide (x4.2.2.2.1 < x4.2.2.2.2) then
            some (.inr (.inl (-1)))
          else
          bif decide (x4.2.2.2.2 < x4.2.2.2.1) then
            some (.inr (.inl 1))
          else
          some (.inl (x4.1, x4.2.1, wrap64 (x4.2.2.1 - 1)))) fun J5 =>
        bif decide (x2.2.2.1 < ((e1 : Nat) : Int)) then
          bif inB x2.2.2.1 e1 then
            J5 (x2.1, x2.2.1, x2.2.2.1, x2.2.2.2.1, atI 0 x2.2.1 x2.2.2.1)
          else
          none
        else
        J5 x2) fun J3 =>
      bif decide (x1.2.2 < ((e0 : Nat) : Int)) then
        bif inB x1.2.2 e0 then
          J3 (x1.1, x1.2.1, x1.2.2, atI 0 x1.1 x1.2.2, 0)
        else
        none
      else
      J3 (x1.1, x1.2.1, x1.2.2, 0, 0)
    else
    some (.inr (.inr ())))
    (fun x => ∃ k : Nat, k ≤ N ∧ x = (Dl a, Dl b, (k : Int) - 1) ∧ ∀ j, k ≤ j → j < N → dg a j = dg b j) (fun x => (x.2.2 + 1).toNat)
    (fun z => (z = .inl (ordF (val a) (val b))) ∨ (z = .inr () ∧ ordF (val a) (val b) = 0)) ?_ (Dl a, Dl b, (N : Int) - 1) ⟨N, Nat.le_refl _, rfl, fun j h1 h2 => by omega⟩
  · obtain ⟨z, h1, h2⟩ := loop
    unfold ref01_Order
    have w : wrap64 ((mx (((Dl a).length : Nat) : Int) (((Dl b).length : Nat) : Int)) - 1) = (N : Int) - 1 := by
      rw [mx_eq, Dl_len, Dl_len, wrap64_id (by omega) (by omega)]; omega
    rw [w]
    refine Ev.bind h1 ?_
    rcases h2 with rfl | ⟨rfl, h2⟩
    · exact Ev.const fun n => rfl
    · rw [h2]; exact Ev.const fun n => rfl
  · rintro x ⟨k, hk, rfl, he⟩
    by_cases h0 : 0 < k
    · have e0 : (k : Int) - 1 = ((k - 1 : Nat) : Int) := by omega
      have d0 : decide ((0 : Int) ≤ ((k - 1 : Nat) : Int)) = true := decide_eq_true (by omega)
      have w : wrap64 (((k - 1 : Nat) : Int) - 1) = ((k - 1 : Nat) : Int) - 1 := wrap64_id (by omega) (by omega)
      rw [e0]
      -- the round, by the two parts
      have body : ∀ _ : Nat, (
        letJ (fun (x4 : List Int × List Int × Int × Int × Int) =>
          bif decide (x4.2.2.2.1 < x4.2.2.2.2) then
            some (.inr (.inl (-1)))
          else
          bif decide (x4.2.2.2.2 < x4.2.2.2.1) then
            some (.inr (.inl 1))
          else
          some (.inl (x4.1, x4.2.1, wrap64 (x4.2.2.1 - 1)))) (fun J5 => J5 (Dl a, Dl b, ((k - 1 : Nat) : Int), ((dg a (k - 1) : Nat) : Int), ((dg b (k - 1) : Nat) : Int))) : Option ((List Int × List Int × Int) ⊕ (Int ⊕ Unit))) =
        (let e0 := (Dl a).length
    bif decide (0 ≤ ((k - 1 : Nat) : Int)) then
      letJ (fun (x2 : List Int × List Int × Int × Int × Int) =>
        let e1 := x2.2.1.length
        letJ (fun (x4 : List Int × List Int × Int × Int × Int) =>
          bif decide (x4.2.2.2.1 < x4.2.2.2.2) then
            some (.inr (.inl (-1)))
          else
          bif decide (x4.2.2.2.2 < x4.2.2.2.1) then
            some (.inr (.inl 1))
          else
          some (.inl (x4.1, x4.2.1, wrap64 (x4.2.2.1 - 1)))) fun J5 =>
        bif decide (x2.2.2.1 < ((e1 : Nat) : Int)) then
          bif inB x2.2.2.1 e1 then
            J5 (x2.1, x2.2.1, x2.2.2.1, x2.2.2.2.1, atI 0 x2.2.1 x2.2.2.1)
          else
          none
        else
        J5 x2) fun J3 =>
      bif decide (((k - 1 : Nat) : Int) < ((e0 : Nat) : Int)) then
        bif inB ((k - 1 : Nat) : Int) e0 then
          J3 (Dl a, Dl b, ((k - 1 : Nat) : Int), atI 0 (Dl a) ((k - 1 : Nat) : Int), 0)
        else
        none
      else
      J3 (Dl a, Dl b, ((k - 1 : Nat) : Int), 0, 0)
    else
    some (.inr (.inr ()))) := by
        intro n
        by_cases hla : k - 1 < a.length
        · by_cases hlb : k - 1 < b.length
          · simp only [letJ, d0, cond_true, Dl_len, ofNat_lt_true hla, ofNat_lt_true hlb, inB_nat, decide_eq_true hla, decide_eq_true hlb, atI_Dl]
          · have db : decide (((k - 1 : Nat) : Int) < (b.length : Int)) = false := decide_eq_false (by omega)
            have hb0 : dg b (k - 1) = 0 := dg_out (by omega)
            simp only [letJ, d0, cond_true, cond_false, Dl_len, ofNat_lt_true hla, db, inB_nat, decide_eq_true hla, atI_Dl, hb0]
            rfl
        · have da : decide (((k - 1 : Nat) : Int) < (a.length : Int)) = false := decide_eq_false (by omega)
          have ha0 : dg a (k - 1) = 0 := dg_out (by omega)
          by_cases hlb : k - 1 < b.length
          · simp only [letJ, d0, cond_true, cond_false, Dl_len, ofNat_lt_true hlb, da, inB_nat, decide_eq_true hlb, atI_Dl, ha0]
            rfl
          · have db : decide (((k - 1 : Nat) : Int) < (b.length : Int)) = false := decide_eq_false (by omega)
            have hb0 : dg b (k - 1) = 0 := dg_out (by omega)
            simp only [letJ, d0, cond_true, cond_false, Dl_len, da, db, ha0, hb0]
            rfl
      have hi : k - 1 < N := by omega
      by_cases h1 : dg a (k - 1) < dg b (k - 1)
      · right
        have hlt := Sg_lex (fun j => dg_lt ha j) (fun j => dg_lt hb j) hi (fun j h2 h3 => he j (by omega) h3) h1
        rw [va, vb] at hlt
        refine ⟨.inl (-1), Ev.const fun n => ?_, .inl (by unfold ordF; rw [if_pos hlt])⟩
        simp only
        rw [← body n]
        have : decide (((dg a (k - 1) : Nat) : Int) < ((dg b (k - 1) : Nat) : Int)) = true := decide_eq_true (by omega)
        simp only [letJ, this, cond_true]
      · by_cases h2 : dg b (k - 1) < dg a (k - 1)
        · right
          have hlt := Sg_lex (fun j => dg_lt hb j) (fun j => dg_lt ha j) hi (fun j h3 h4 => (he j (by omega) h4).symm) h2
          rw [va, vb] at hlt
          refine ⟨.inl 1, Ev.const fun n => ?_, .inl (by unfold ordF; rw [if_neg (by clear va vb body; omega), if_pos hlt])⟩
          simp only
          rw [← body n]
          have e1 : decide (((dg a (k - 1) : Nat) : Int) < ((dg b (k - 1) : Nat) : Int)) = false := decide_eq_false (by omega)
          have e2 : decide (((dg b (k - 1) : Nat) : Int) < ((dg a (k - 1) : Nat) : Int)) = true := decide_eq_true (by omega)
          simp only [letJ, e1, e2, cond_true, cond_false]
        · left
          refine ⟨(Dl a, Dl b, ((k - 1 : Nat) : Int) - 1), Ev.const fun n => ?_, ⟨k - 1, by omega, rfl, fun j h3 h4 => ?_⟩, by simp only; omega⟩
          · simp only
            rw [← body n]
            have e1 : decide (((dg a (k - 1) : Nat) : Int) < ((dg b (k - 1) : Nat) : Int)) = false := decide_eq_false (by omega)
            have e2 : decide (((dg b (k - 1) : Nat) : Int) < ((dg a (k - 1) : Nat) : Int)) = false := decide_eq_false (by omega)
            simp only [letJ, e1, e2, cond_false, w]
          · by_cases ej : j = k - 1
            · rw [ej]; omega
            · exact he j (by omega) h4
    · right
      have hk0 : k = 0 := by omega
      have d0 : decide ((0 : Int) ≤ (k : Int) - 1) = false := decide_eq_false (by omega)
      refine ⟨.inr (), Ev.const fun n => by simp only [d0, cond_false], .inr ⟨rfl, ?_⟩⟩
      have : Sg (dg a) N = Sg (dg b) N := Sg_congr N fun j hj => he j (by omega) hj
      rw [va, vb] at this
      unfold ordF
      rw [this, if_neg (Nat.lt_irrefl _), if_neg (Nat.lt_irrefl _)]
end Go.Proofs.YtiildimlelphhaaGreatDoor.Fn
