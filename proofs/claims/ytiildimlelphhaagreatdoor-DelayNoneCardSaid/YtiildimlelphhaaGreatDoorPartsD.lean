/- Parts of a number, and products of numbers by parts. -/
import Derived.Test.YtiildimlelphhaaGreatDoorPartsC
namespace Go.Proofs.YtiildimlelphhaaGreatDoor.Fn
set_option linter.unusedVariables false
open Go Go.RowKit Go.Den Go.Circ

theorem fitS {k : Nat} (h : k ≤ 1000) (d : Int) : fitB (k + [d].length) 8 = true := fit8 (by simp; omega)
theorem part_step (v y L : Nat) : v + y % 65536 * 65536 ^ L + y / 65536 * 65536 ^ (L + 1) = v + y * 65536 ^ L := by
  rw [Nat.pow_succ, Nat.mul_comm (65536 ^ L) 65536, ← Nat.mul_assoc, Nat.add_assoc, ← Nat.add_mul]
  congr 2; omega
theorem parts_ (x : Nat) (hx : x < 18446744073709551616) : ∃ c, (Okd c ∧ val c = x ∧ c.length = 4) ∧ Ev (fun n => ref01_Parts n (x : Int)) (Dl c) := by
  have loop := Ev.iterP (L := fun n (x2 : Int × Int × List Int) =>
    let e0 := (Int.tmod x2.1 65536) :: []
    bif decide (x2.2.1 < 4) then
      bif !((65536 : Int) == 0) then
        bif fitB (x2.2.2.length + e0.length) 8 then
          bif !((65536 : Int) == 0) then
            some (.inl (IntKind.wrap .u64 (Int.tdiv x2.1 65536), wrap64 (x2.2.1 + 1), x2.2.2 ++ e0))
          else
          none
        else
        none
      else
      none
    else
    some (.inr x2.2.2))
    (fun s => ∃ (c : List Nat) (y : Nat), s = ((y : Int), (c.length : Int), Dl c) ∧ Okd c ∧ c.length ≤ 4 ∧ val c + y * 65536 ^ c.length = x ∧ y < 65536 ^ (4 - c.length))
    (fun s => 4 - s.2.1.toNat) (fun z => ∃ c, z = Dl c ∧ (Okd c ∧ val c = x ∧ c.length = 4)) ?_ ((x : Int), 0, [])
    ⟨[], x, rfl, (show Okd [] from fun x hx => nomatch hx), by simp, by simp [val, Sg], by simpa using hx⟩
  · obtain ⟨z, h1, c, rfl, h2⟩ := loop
    exact ⟨c, h2, Ev.bind h1 (Ev.ret _)⟩
  · rintro s ⟨c, y, rfl, hc, hl, hv, hy⟩
    by_cases h4 : c.length < 4
    · left
      have hyb : y < 18446744073709551616 := Nat.lt_of_lt_of_le hy (Nat.pow_le_pow_right (by decide) (show 4 - c.length ≤ 4 by omega))
      have nxt : ∃ (c' : List Nat) (y' : Nat), ((((y / 65536 : Nat) : Int), ((c.length + 1 : Nat) : Int), Dl (c ++ [y % 65536])) : Int × Int × List Int) = ((y' : Int), (c'.length : Int), Dl c') ∧ Okd c' ∧ c'.length ≤ 4 ∧ val c' + y' * 65536 ^ c'.length = x ∧ y' < 65536 ^ (4 - c'.length) := by
        refine ⟨c ++ [y % 65536], y / 65536, by simp, ok_snoc hc (Nat.mod_lt _ (by decide)), by simp; omega, ?_, ?_⟩
        · rw [val_snoc, List.length_append, List.length_singleton, part_step]; exact hv
        · rw [List.length_append, List.length_singleton]
          rw [show 4 - c.length = (4 - (c.length + 1)) + 1 by omega, Nat.pow_succ] at hy
          exact Nat.div_lt_of_lt_mul (by rw [Nat.mul_comm]; exact hy)
      clear hv hy
      refine ⟨_, Ev.const fun n => ?_, nxt, by simp only [Int.toNat_natCast]; omega⟩
      have d4 : decide ((c.length : Int) < 4) = true := decide_eq_true (by omega)
      have f8 : ∀ d : Int, fitB (c.length + [d].length) 8 = true := fitS (by omega)
      have wd16 : IntKind.wrap .u64 (Int.tdiv (y : Int) 65536) = ((y / 65536 : Nat) : Int) := by rw [tdiv16]; exact wun (by omega)
      have w6 : wrap64 ((c.length : Int) + 1) = ((c.length + 1 : Nat) : Int) := wrap_succ (by omega)
      simp only [d4, cond_true, n16, Dl_len, f8, tmod16, wd16, w6, Dl_snoc]
    · right
      have e4 : c.length = 4 := by omega
      rw [e4] at hy hv
      have hy0 : y = 0 := by simpa using hy
      have d4 : decide ((c.length : Int) < 4) = false := decide_eq_false (by omega)
      refine ⟨Dl c, Ev.const fun n => by simp only [d4, cond_false], c, rfl, hc, ?_, e4⟩
      rw [hy0, Nat.zero_mul, Nat.add_zero] at hv; exact hv

theorem val_zeros (k : Nat) : val (List.replicate k 0) = 0 ∧ Okd (List.replicate k 0) := by
  refine ⟨?_, fun x hx => by rw [(List.mem_replicate.1 hx).2]; decide⟩
  induction k with
  | zero => rfl
  | succ k ih => rw [List.replicate_succ', val_snoc, ih]; omega
theorem Dl_zeros (k : Nat) : List.replicate (Int.toNat (k : Int)) (0 : Int) = Dl (List.replicate k 0) := by simp [Dl, List.map_replicate]

/-- One row of the product. -/
theorem row_ (a b : List Nat) (acc : List Int) (ha : Okd a) (hb : Okd b) (la : a.length = 4) (lb : b.length = 4) (i : Nat) (hi : i < 4) : ∃ (r : List Nat) (y : Nat), (Okd r ∧ y < 65536 ∧ r.length = i + 4 ∧ val r + y * 65536 ^ (i + 4) = dg a i * val b * 65536 ^ i) ∧
    Ev (fun n => (iterL (Y := (Int × Int × (List Int) × (List Int) × (List Int) × List Int)) n (fun (x8 : Int × Int × Int × (List Int) × (List Int) × (List Int) × List Int) =>
          let e0 := IntKind.wrap .u64 ((IntKind.wrap .u64 ((atI 0 x8.2.2.2.1 x8.1) * (atI 0 x8.2.2.2.2.1 x8.2.2.1))) + x8.2.1)
          let e1 := (Int.tmod e0 65536) :: []
          bif decide (x8.2.2.1 < 4) then
            bif inB x8.1 x8.2.2.2.1.length then
              bif inB x8.2.2.1 x8.2.2.2.2.1.length then
                bif !((65536 : Int) == 0) then
                  bif fitB (x8.2.2.2.2.2.2.length + e1.length) 8 then
                    bif !((65536 : Int) == 0) then
                      some (.inl (x8.1, IntKind.wrap .u64 (Int.tdiv e0 65536), wrap64 (x8.2.2.1 + 1), x8.2.2.2.1, x8.2.2.2.2.1, x8.2.2.2.2.2.1, x8.2.2.2.2.2.2 ++ e1))
                    else
                    none
                  else
                  none
                else
                none
              else
              none
            else
            none
          else
          some (.inr (x8.1, x8.2.1, x8.2.2.2))) ((i : Int), 0, 0, Dl a, Dl b, acc, Dl (List.replicate i 0)))) ((i : Int), (y : Int), Dl a, Dl b, acc, Dl r) := by
  have loop := Ev.iterP (Y := (Int × Int × (List Int) × (List Int) × (List Int) × List Int)) (L := fun n (x8 : Int × Int × Int × (List Int) × (List Int) × (List Int) × List Int) =>
          let e0 := IntKind.wrap .u64 ((IntKind.wrap .u64 ((atI 0 x8.2.2.2.1 x8.1) * (atI 0 x8.2.2.2.2.1 x8.2.2.1))) + x8.2.1)
          let e1 := (Int.tmod e0 65536) :: []
          bif decide (x8.2.2.1 < 4) then
            bif inB x8.1 x8.2.2.2.1.length then
              bif inB x8.2.2.1 x8.2.2.2.2.1.length then
                bif !((65536 : Int) == 0) then
                  bif fitB (x8.2.2.2.2.2.2.length + e1.length) 8 then
                    bif !((65536 : Int) == 0) then
                      some (.inl (x8.1, IntKind.wrap .u64 (Int.tdiv e0 65536), wrap64 (x8.2.2.1 + 1), x8.2.2.2.1, x8.2.2.2.2.1, x8.2.2.2.2.2.1, x8.2.2.2.2.2.2 ++ e1))
                    else
                    none
                  else
                  none
                else
                none
              else
              none
            else
            none
          else
          some (.inr (x8.1, x8.2.1, x8.2.2.2)))
    (fun s => ∃ (j : Nat) (r : List Nat) (y : Nat), s = ((i : Int), (y : Int), (j : Int), Dl a, Dl b, acc, Dl r) ∧ Okd r ∧ y < 65536 ∧ j ≤ 4 ∧ r.length = i + j ∧ val r + y * 65536 ^ r.length = dg a i * Sg (dg b) j * 65536 ^ i)
    (fun s => 4 - s.2.2.1.toNat) (fun z => ∃ (r : List Nat) (y : Nat), z = ((i : Int), (y : Int), Dl a, Dl b, acc, Dl r) ∧ (Okd r ∧ y < 65536 ∧ r.length = i + 4 ∧ val r + y * 65536 ^ (i + 4) = dg a i * val b * 65536 ^ i)) ?_ ((i : Int), 0, 0, Dl a, Dl b, acc, Dl (List.replicate i 0))
    ⟨0, List.replicate i 0, 0, rfl, (val_zeros i).2, by decide, by decide, by simp, by simp [(val_zeros i).1, Sg]⟩
  · obtain ⟨z, h1, r, y, rfl, h2⟩ := loop
    exact ⟨r, y, h2, h1⟩
  · rintro s ⟨j, r, y, rfl, hr, hy, hj, hl, hv⟩
    by_cases h4 : j < 4
    · left
      have u1 := dg_lt ha i
      have v1 := dg_lt hb j
      have hz : ∃ z, z = dg a i * dg b j + y := ⟨_, rfl⟩
      obtain ⟨z, hz⟩ := hz
      have hzb : z < 4294967296 := by
        have := Nat.mul_le_mul (show dg a i ≤ 65535 by omega) (show dg b j ≤ 65535 by omega)
        generalize dg a i * dg b j = w at hz this
        omega
      have nxt : ∃ (j' : Nat) (r' : List Nat) (y' : Nat), (((i : Int), ((z / 65536 : Nat) : Int), ((j + 1 : Nat) : Int), Dl a, Dl b, acc, Dl (r ++ [z % 65536])) : Int × Int × Int × (List Int) × (List Int) × (List Int) × List Int) = ((i : Int), (y' : Int), (j' : Int), Dl a, Dl b, acc, Dl r') ∧ Okd r' ∧ y' < 65536 ∧ j' ≤ 4 ∧ r'.length = i + j' ∧ val r' + y' * 65536 ^ r'.length = dg a i * Sg (dg b) j' * 65536 ^ i := by
        refine ⟨j + 1, r ++ [z % 65536], z / 65536, rfl, ok_snoc hr (Nat.mod_lt _ (by decide)), by clear hv; omega, h4, by simp; omega, ?_⟩
        rw [val_snoc, List.length_append, List.length_singleton, part_step, hz, Nat.add_mul]
        simp only [Sg]
        rw [Nat.mul_add, Nat.add_mul, ← hv, hl, Nat.pow_add, ← Nat.mul_assoc]
        rw [show dg a i * (dg b j * 65536 ^ j) * 65536 ^ i = dg a i * dg b j * 65536 ^ i * 65536 ^ j by
          rw [← Nat.mul_assoc, Nat.mul_assoc (dg a i * dg b j), Nat.mul_comm (65536 ^ j), ← Nat.mul_assoc]]
        generalize dg a i * dg b j * 65536 ^ i * 65536 ^ j = p
        generalize y * (65536 ^ i * 65536 ^ j) = q
        generalize val r = v
        clear hv hz hzb
        omega
      clear hv
      refine ⟨_, Ev.const fun n => ?_, nxt, by simp only [Int.toNat_natCast]; omega⟩
      have d4 : decide ((j : Int) < 4) = true := decide_eq_true (by omega)
      have f8 : ∀ d : Int, fitB (r.length + [d].length) 8 = true := fitS (by omega)
      have wz1 : IntKind.wrap .u64 ((dg a i : Int) * (dg b j : Int)) = ((dg a i * dg b j : Nat) : Int) := by
        rw [← Int.natCast_mul]
        exact wun (by generalize dg a i * dg b j = w at hz ⊢; omega)
      have wz : IntKind.wrap .u64 (((dg a i * dg b j : Nat) : Int) + (y : Int)) = (z : Int) := by
        rw [← Int.natCast_add, ← hz]; exact wun (by omega)
      have wd16 : IntKind.wrap .u64 (Int.tdiv (z : Int) 65536) = ((z / 65536 : Nat) : Int) := by rw [tdiv16]; exact wun (by omega)
      have ia : decide (i < a.length) = true := decide_eq_true (by omega)
      have ib : decide (j < b.length) = true := decide_eq_true (by omega)
      have w6 : wrap64 ((j : Int) + 1) = ((j + 1 : Nat) : Int) := wrap_succ (by omega)
      simp only [d4, cond_true, n16, Dl_len, inB_nat, ia, ib, atI_Dl, wz1, wz, f8, tmod16, wd16, w6, Dl_snoc]
    · right
      have e4 : j = 4 := by omega
      subst e4
      have d4 : decide (((4 : Nat) : Int) < 4) = false := rfl
      refine ⟨_, Ev.const fun n => by simp only [d4, cond_false], r, y, rfl, hr, hy, hl, ?_⟩
      rw [hl, show Sg (dg b) 4 = val b by unfold val; rw [lb]] at hv
      exact hv
theorem times_ (x y : Nat) (hx : x < 18446744073709551616) (hy : y < 18446744073709551616) : ∃ c, (Okd c ∧ val c = x * y ∧ c.length ≤ 14) ∧ Ev (fun n => ref01_Times n ((x : Int), (y : Int))) (Dl c) := by
  obtain ⟨a, ⟨ha, va, la⟩, pa⟩ := parts_ x hx
  obtain ⟨b, ⟨hb, vb, lb⟩, pb⟩ := parts_ y hy
  have loop := Ev.iterP (L := fun n (x7 : Int × (List Int) × (List Int) × List Int) =>
    bif decide (x7.1 < 4) then
      bif x7.1 == x7.1 && decide (0 ≤ x7.1) && decide (x7.1 * 8 ≤ 281474976710656) then
        (iterL (Y := (Int × Int × (List Int) × (List Int) × (List Int) × List Int)) n (fun (x8 : Int × Int × Int × (List Int) × (List Int) × (List Int) × List Int) =>
          let e0 := IntKind.wrap .u64 ((IntKind.wrap .u64 ((atI 0 x8.2.2.2.1 x8.1) * (atI 0 x8.2.2.2.2.1 x8.2.2.1))) + x8.2.1)
          let e1 := (Int.tmod e0 65536) :: []
          bif decide (x8.2.2.1 < 4) then
            bif inB x8.1 x8.2.2.2.1.length then
              bif inB x8.2.2.1 x8.2.2.2.2.1.length then
                bif !((65536 : Int) == 0) then
                  bif fitB (x8.2.2.2.2.2.2.length + e1.length) 8 then
                    bif !((65536 : Int) == 0) then
                      some (.inl (x8.1, IntKind.wrap .u64 (Int.tdiv e0 65536), wrap64 (x8.2.2.1 + 1), x8.2.2.2.1, x8.2.2.2.2.1, x8.2.2.2.2.2.1, x8.2.2.2.2.2.2 ++ e1))
                    else
                    none
                  else
                  none
                else
                none
              else
              none
            else
            none
          else
          some (.inr (x8.1, x8.2.1, x8.2.2.2))) (x7.1, 0, 0, x7.2.1, x7.2.2.1, x7.2.2.2, List.replicate (Int.toNat x7.1) 0)).bind fun (z9 : Int × Int × (List Int) × (List Int) × (List Int) × List Int) =>
          let e2 := z9.2.1 :: []
          bif fitB (z9.2.2.2.2.2.length + e2.length) 8 then
            (ref01_Plus n (z9.2.2.2.2.1, z9.2.2.2.2.2 ++ e2)).bind fun y10 =>
            some (.inl (wrap64 (z9.1 + 1), z9.2.2.1, z9.2.2.2.1, y10))
          else
          none
      else
      none
    else
    some (.inr x7.2.2.2))
    (fun s => ∃ (i : Nat) (c : List Nat), s = ((i : Int), Dl a, Dl b, Dl c) ∧ Okd c ∧ i ≤ 4 ∧ c.length ≤ 10 + i ∧ val c = Sg (dg a) i * val b)
    (fun s => 4 - s.1.toNat) (fun z => ∃ c, z = Dl c ∧ (Okd c ∧ val c = x * y ∧ c.length ≤ 14)) ?_ (0, Dl a, Dl b, [])
    ⟨0, [], rfl, (show Okd [] from fun x hx => nomatch hx), by decide, by simp, by simp [val, Sg]⟩
  · obtain ⟨z, h1, c, rfl, h2⟩ := loop
    exact ⟨c, h2, Ev.bind pa (Ev.bind pb (Ev.bind h1 (Ev.ret _)))⟩
  · rintro s ⟨i, c, rfl, hc, hi, hl, hv⟩
    by_cases h4 : i < 4
    · left
      obtain ⟨r, w, ⟨hr, hw, hrl, hrv⟩, er⟩ := row_ a b (Dl c) ha hb la lb i h4
      have hr' : Okd (r ++ [w]) := ok_snoc hr hw
      have lr' : (r ++ [w]).length = i + 5 := by simp; omega
      have vr' : val (r ++ [w]) = dg a i * val b * 65536 ^ i := by rw [val_snoc, hrl]; exact hrv
      clear hrv
      obtain ⟨c', ⟨hc', hv', hl'⟩, ep⟩ := plus_ c (r ++ [w]) hc hr' (by omega) (by omega)
      have nxt : val c' = Sg (dg a) (i + 1) * val b := by
        rw [hv', hv, vr']; simp only [Sg]; rw [Nat.add_mul]
        congr 1
        rw [Nat.mul_assoc, Nat.mul_comm (val b), ← Nat.mul_assoc]
      clear hv vr' hv'
      refine ⟨(((i + 1 : Nat) : Int), Dl a, Dl b, Dl c'), ?_, ⟨i + 1, c', rfl, hc', h4, by rw [lr'] at hl'; omega, nxt⟩, by simp only [Int.toNat_natCast]; omega⟩
      have d4 : decide ((i : Int) < 4) = true := decide_eq_true (by omega)
      have dg8 : ((i : Int) == (i : Int) && decide ((0 : Int) ≤ (i : Int)) && decide ((i : Int) * 8 ≤ 281474976710656)) = true := by
        rw [decide_eq_true (show (0 : Int) ≤ (i : Int) by omega), decide_eq_true (show (i : Int) * 8 ≤ 281474976710656 by omega)]; simp
      have f8 : ∀ d : Int, fitB ((Dl r).length + [d].length) 8 = true := fitS (by rw [Dl_len]; omega)
      have w6 : wrap64 ((i : Int) + 1) = ((i + 1 : Nat) : Int) := wrap_succ (by omega)
      simp only [d4, dg8, cond_true, Dl_zeros]
      refine Ev.bind er ?_
      simp only [f8, cond_true, Dl_snoc, w6]
      exact Ev.bind ep (Ev.ret _)
    · right
      have e4 : i = 4 := by omega
      subst e4
      have d4 : decide (((4 : Nat) : Int) < 4) = false := rfl
      refine ⟨_, Ev.const fun n => by simp only [d4, cond_false], c, rfl, hc, ?_, by omega⟩
      rw [hv, show Sg (dg a) 4 = val a by unfold val; rw [la], va, vb]
end Go.Proofs.YtiildimlelphhaaGreatDoor.Fn
