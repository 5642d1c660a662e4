/- Sums of numbers by parts. -/
import Derived.Test.YtiildimlelphhaaGreatDoorParts
namespace Go.Proofs.YtiildimlelphhaaGreatDoor.Fn
set_option linter.unusedVariables false
open Go Go.RowKit Go.Den Go.Circ
/-! ### Sums -/
theorem plus_ (a b : List Nat) (ha : Okd a) (hb : Okd b) (la : a.length ≤ 10000) (lb : b.length ≤ 10000) :
    ∃ c, (Okd c ∧ val c = val a + val b ∧ c.length ≤ max a.length b.length + 1) ∧ Ev (fun n => ref01_Plus n (Dl a, Dl b)) (Dl c) := by
  have loop := Ev.iterP (L := fun n (x6 : List Int × List Int × Int × Int × List Int) =>
    letJ (fun (x7 : List Int × List Int × Int × Int × Bool × List Int) =>
      let e0 := x7.1.length
      bif x7.2.2.2.2.1 then
        letJ (fun (x9 : List Int × List Int × Int × Int × List Int) =>
          let e1 := x9.2.1.length
          let e2 := x9.2.2.2.2.length
          let e3 := IntKind.wrap .u64 (x9.2.2.2.1 + (atI 0 x9.2.1 x9.2.2.1))
          let e4 := (Int.tmod e3 65536) :: []
          let e5 := (Int.tmod x9.2.2.2.1 65536) :: []
          let e6 := wrap64 (x9.2.2.1 + 1)
          bif decide (x9.2.2.1 < ((e1 : Nat) : Int)) then
            bif inB x9.2.2.1 e1 then
              bif !((65536 : Int) == 0) then
                bif fitB (e2 + e4.length) 8 then
                  bif !((65536 : Int) == 0) then
                    some (.inl (x9.1, x9.2.1, IntKind.wrap .u64 (Int.tdiv e3 65536), e6, x9.2.2.2.2 ++ e4))
                  else
                  none
                else
                none
              else
              none
            else
            none
          else
            bif !((65536 : Int) == 0) then
              bif fitB (e2 + e5.length) 8 then
                bif !((65536 : Int) == 0) then
                  some (.inl (x9.1, x9.2.1, IntKind.wrap .u64 (Int.tdiv x9.2.2.2.1 65536), e6, x9.2.2.2.2 ++ e5))
                else
                none
              else
              none
            else
            none) fun J10 =>
        bif decide (x7.2.2.2.1 < ((e0 : Nat) : Int)) then
          bif inB x7.2.2.2.1 e0 then
            J10 (x7.1, x7.2.1, x7.2.2.2.1, IntKind.wrap .u64 (x7.2.2.1 + (atI 0 x7.1 x7.2.2.2.1)), x7.2.2.2.2.2)
          else
          none
        else
        J10 (x7.1, x7.2.1, x7.2.2.2.1, x7.2.2.1, x7.2.2.2.2.2)
      else
      some (.inr x7.2.2.2.2.2)) fun J8 =>
    bif decide (x6.2.2.2.1 < ((x6.1.length : Nat) : Int)) then
      J8 (x6.1, x6.2.1, x6.2.2.1, x6.2.2.2.1, true, x6.2.2.2.2)
    else
    bif decide (x6.2.2.2.1 < ((x6.2.1.length : Nat) : Int)) then
      J8 (x6.1, x6.2.1, x6.2.2.1, x6.2.2.2.1, true, x6.2.2.2.2)
    else
    J8 (x6.1, x6.2.1, x6.2.2.1, x6.2.2.2.1, decide (0 < x6.2.2.1), x6.2.2.2.2))
    (fun x => ∃ (c : List Nat) (y : Nat), x = (Dl a, Dl b, (y : Int), (c.length : Int), Dl c) ∧ Okd c ∧ y ≤ 1 ∧ val c + y * 65536 ^ c.length = Sg (dg a) c.length + Sg (dg b) c.length ∧ (c.length ≤ max a.length b.length ∨ (c.length = max a.length b.length + 1 ∧ y = 0)))
    (fun x => max a.length b.length + 2 - x.2.2.2.1.toNat) (fun z => ∃ c, z = Dl c ∧ (Okd c ∧ val c = val a + val b ∧ c.length ≤ max a.length b.length + 1)) ?_ (Dl a, Dl b, 0, 0, [])
    ⟨[], 0, rfl, (show Okd [] from fun x hx => nomatch hx), by decide, by simp [val, Sg], .inl (by simp)⟩
  · obtain ⟨z, h1, c, rfl, h2⟩ := loop
    exact ⟨c, h2, Ev.bind h1 (Ev.ret _)⟩
  · rintro x ⟨c, y, rfl, hc, hy, hv, hl⟩
    have step : ∀ (u v : Nat), u = dg a c.length → v = dg b c.length → (c.length < a.length ∨ c.length < b.length ∨ 0 < y) →
        (∃ (c' : List Nat) (y' : Nat), ((Dl a, Dl b, (((y + u + v) / 65536 : Nat) : Int), ((c.length + 1 : Nat) : Int), Dl (c ++ [(y + u + v) % 65536])) : List Int × List Int × Int × Int × List Int) = (Dl a, Dl b, (y' : Int), (c'.length : Int), Dl c') ∧ Okd c' ∧ y' ≤ 1 ∧ val c' + y' * 65536 ^ c'.length = Sg (dg a) c'.length + Sg (dg b) c'.length ∧ (c'.length ≤ max a.length b.length ∨ (c'.length = max a.length b.length + 1 ∧ y' = 0))) := by
      intro u v hu hv2 hgo
      have u1 := dg_lt ha c.length
      have v1 := dg_lt hb c.length
      rw [← hu] at u1
      rw [← hv2] at v1
      refine ⟨c ++ [(y + u + v) % 65536], (y + u + v) / 65536, by simp, ok_snoc hc (by omega), by omega, ?_, ?_⟩
      · rw [val_snoc]
        simp only [List.length_append, List.length_singleton, Sg]
        rw [← hu, ← hv2]
        have e : (y + u + v) % 65536 * 65536 ^ c.length + (y + u + v) / 65536 * 65536 ^ (c.length + 1) = (y + u + v) * 65536 ^ c.length := by
          rw [Nat.pow_succ, Nat.mul_comm (65536 ^ c.length) 65536, ← Nat.mul_assoc, ← Nat.add_mul]
          congr 1; omega
        have e2 : (y + u + v) * 65536 ^ c.length = y * 65536 ^ c.length + u * 65536 ^ c.length + v * 65536 ^ c.length := by rw [Nat.add_mul, Nat.add_mul]
        omega
      · simp only [List.length_append, List.length_singleton]
        by_cases hm : c.length < max a.length b.length
        · left; omega
        · right
          have hu0 : u = 0 := by rw [hu]; exact dg_out (by omega)
          have hv0 : v = 0 := by rw [hv2]; exact dg_out (by omega)
          refine ⟨by omega, by omega⟩
    have hfin : y = 0 → a.length ≤ c.length → b.length ≤ c.length → val c = val a + val b := by
      intro h0 h1 h2
      rw [h0, Nat.zero_mul, Nat.add_zero, val_at a h1, val_at b h2] at hv
      exact hv
    clear hv
    have u1 := dg_lt ha c.length
    have v1 := dg_lt hb c.length
    have hcl : c.length ≤ 10001 := by omega
    have w6 : wrap64 ((c.length : Int) + 1) = ((c.length + 1 : Nat) : Int) := wrap_succ (by omega)
    have f8 : ∀ d : Int, fitB (c.length + [d].length) 8 = true := fun d => fit8 (by simp; omega)
    have wa : IntKind.wrap .u64 ((y : Int) + (dg a c.length : Int)) = ((y + dg a c.length : Nat) : Int) := by rw [show (y : Int) + (dg a c.length : Int) = ((y + dg a c.length : Nat) : Int) by omega]; exact wun (by omega)
    have wb : ∀ z : Nat, z ≤ 65536 → IntKind.wrap .u64 ((z : Int) + (dg b c.length : Int)) = ((z + dg b c.length : Nat) : Int) := fun z hz => by rw [show (z : Int) + (dg b c.length : Int) = ((z + dg b c.length : Nat) : Int) by omega]; exact wun (by omega)
    have wd16 : ∀ z : Nat, z < 18446744073709551616 → IntKind.wrap .u64 (Int.tdiv (z : Int) 65536) = ((z / 65536 : Nat) : Int) := fun z hz => by rw [tdiv16]; exact wun (by omega)
    by_cases hla : c.length < a.length
    · left
      by_cases hlb : c.length < b.length
      · refine ⟨(Dl a, Dl b, (((y + dg a c.length + dg b c.length) / 65536 : Nat) : Int), ((c.length + 1 : Nat) : Int), Dl (c ++ [(y + dg a c.length + dg b c.length) % 65536])), Ev.const fun n => ?_, step _ _ rfl rfl (.inl hla), by simp only [Int.toNat_natCast]; omega⟩
        simp only [letJ, Dl_len, ofNat_lt_true hla, ofNat_lt_true hlb, cond_true, inB_nat, decide_eq_true hla, decide_eq_true hlb, atI_Dl, wa, wb _ (show y + dg a c.length ≤ 65536 by omega), n16, tmod16, wd16 _ (show y + dg a c.length + dg b c.length < 18446744073709551616 by omega), w6, Dl_snoc, f8]
      · have hb0 : dg b c.length = 0 := dg_out (by omega)
        refine ⟨(Dl a, Dl b, (((y + dg a c.length + dg b c.length) / 65536 : Nat) : Int), ((c.length + 1 : Nat) : Int), Dl (c ++ [(y + dg a c.length + dg b c.length) % 65536])), Ev.const fun n => ?_, step _ _ rfl rfl (.inl hla), by simp only [Int.toNat_natCast]; omega⟩
        have db : decide ((c.length : Int) < (b.length : Int)) = false := decide_eq_false (by omega)
        simp only [letJ, Dl_len, ofNat_lt_true hla, db, cond_true, cond_false, inB_nat, decide_eq_true hla, atI_Dl, wa, n16, tmod16, wd16 _ (show y + dg a c.length < 18446744073709551616 by omega), w6, Dl_snoc, hb0, Nat.add_zero, f8]
    · have da : decide ((c.length : Int) < (a.length : Int)) = false := decide_eq_false (by omega)
      have ha0 : dg a c.length = 0 := dg_out (by omega)
      by_cases hlb : c.length < b.length
      · left
        refine ⟨(Dl a, Dl b, (((y + dg a c.length + dg b c.length) / 65536 : Nat) : Int), ((c.length + 1 : Nat) : Int), Dl (c ++ [(y + dg a c.length + dg b c.length) % 65536])), Ev.const fun n => ?_, step _ _ rfl rfl (.inr (.inl hlb)), by simp only [Int.toNat_natCast]; omega⟩
        simp only [letJ, Dl_len, da, ofNat_lt_true hlb, cond_true, cond_false, inB_nat, decide_eq_true hlb, atI_Dl, wb _ (show y ≤ 65536 by omega), n16, tmod16, wd16 _ (show y + dg b c.length < 18446744073709551616 by omega), w6, Dl_snoc, ha0, Nat.add_zero, f8]
      · have db : decide ((c.length : Int) < (b.length : Int)) = false := decide_eq_false (by omega)
        have hb0 : dg b c.length = 0 := dg_out (by omega)
        by_cases hy0 : 0 < y
        · left
          have dy : decide ((0 : Int) < (y : Int)) = true := decide_eq_true (by omega)
          refine ⟨(Dl a, Dl b, (((y + dg a c.length + dg b c.length) / 65536 : Nat) : Int), ((c.length + 1 : Nat) : Int), Dl (c ++ [(y + dg a c.length + dg b c.length) % 65536])), Ev.const fun n => ?_, step _ _ rfl rfl (.inr (.inr hy0)), by simp only [Int.toNat_natCast]; omega⟩
          simp only [letJ, Dl_len, da, db, dy, cond_true, cond_false, n16, tmod16, wd16 _ (show y < 18446744073709551616 by omega), w6, Dl_snoc, ha0, hb0, Nat.add_zero, f8]
        · right
          have dy : decide ((0 : Int) < (y : Int)) = false := decide_eq_false (by omega)
          refine ⟨Dl c, Ev.const fun n => ?_, c, rfl, hc, hfin (by omega) (by omega) (by omega), by omega⟩
          simp only [letJ, Dl_len, da, db, dy, cond_false]
end Go.Proofs.YtiildimlelphhaaGreatDoor.Fn
