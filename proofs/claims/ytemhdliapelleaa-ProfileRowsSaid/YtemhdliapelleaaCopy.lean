/- The contract of profile.Turn, which copies. -/
import Derived.Test.YtemhdliapelleaaGiven
import Derived.Test.YtemhdliapelleaaDenAF
import Derived.Laws.CopyOwn
import Derived.Deep.RegionLaw
namespace Go.Proofs.Ytemhdliapelleaa.Fn
open Go Go.RowKit Go.Den
set_option linter.unusedVariables false
set_option maxRecDepth 1000000 in
theorem mod_calls (t C : Int) (h1 : 1 ≤ C) (h2 : C ≤ 9223372036854775807) (W : World) : Calls Try.prog 66 #[.int .i64 t, .int .i64 C] W fun e w' => e = .returned (.tuple #[.int .i64 (t % C), .int .i64 0]) ∧ Below W.heap.size W w' := by
  have m1 := Int.emod_nonneg t (b := C) (by omega)
  have m2 := Int.emod_lt_of_pos t (b := C) (by omega)
  have c1 : ¬ C < 1 := by omega
  have c2 : ¬ C = 0 := by omega
  have ht := tmod_pos (a := t) (show 0 < C by omega)
  by_cases h : 0 ≤ t
  · rw [if_pos h] at ht
    have c3 : ¬ t % C < 0 := by omega
    go_enter Try.func66, Try.ntmps66
    go_wp2
    go_ret2
    exact ⟨rfl, Below.refl _ _⟩
  · rw [if_neg h] at ht
    by_cases h0 : t % C = 0
    · rw [if_pos h0] at ht
      rw [h0]
      go_enter Try.func66, Try.ntmps66
      go_wp2
      go_ret2
      exact ⟨rfl, Below.refl _ _⟩
    · rw [if_neg h0] at ht
      have c3 : t % C - C < 0 := by omega
      have hw : wrap64 (t % C - C + C) = t % C := by rw [show t % C - C + C = t % C by omega, wrap64_id (by omega) (by omega)]
      have hw2 : IntKind.i64.wrap (t % C - C + C) = t % C := by rw [IntWalk.i64_left]; exact hw
      go_enter Try.func66, Try.ntmps66
      go_wp2
      go_ret2
      exact ⟨rfl, Below.refl _ _⟩
/-- A row, turned by some places. -/
def rotOf (l : List Int) (b : Int) : List Int := if l = [] then [] else l.drop (l.length - (b % (l.length : Int)).toNat) ++ l.take (l.length - (b % (l.length : Int)).toNat)
theorem rotOf_len (l : List Int) (b : Int) : (rotOf l b).length = l.length := by
  unfold rotOf
  split
  · rename_i h; rw [h]
  · simp
theorem made_row {W w0 : World} {n : Nat} {xs : List Value} (h : w0.ownsRow W.heap.size 2 1 (.slice (some ⟨W.heap.size, 0, none⟩) n n) n xs) (hg : W.grownBy w0 none) (h1 : 1 ≤ n) :
    ∃ Z : List Value, Hid (w0.heap[W.heap.size]? = some (.cells Z.toArray 2 (0, 0))) ∧ Z.length = n ∧ W.heap.size < w0.heap.size ∧ Below W.heap.size W w0 := by
  obtain ⟨_, h | ⟨g, cap', cur, hv, _, hh, _, _, hs, _⟩⟩ := h
  · cases h.1
  · cases hv
    refine ⟨cur.toList, hh, by simpa using hs, ?_, hg.os, hg.tape, hg.output, hg.size, fun k hk => hg.block k hk (by simp)⟩
    exact (Array.getElem?_eq_some_iff.1 hh).1
theorem kept_row {w0 w1 : World} {g : Nat} {o : Obj} (h : Hid (w0.heap[g]? = some o)) (hl : g < w0.heap.size) (hb : Below w0.heap.size w0 w1) : Hid (w1.heap[g]? = some o) := (hb.block g hl).trans h
theorem kept_below {W w0 w1 : World} (h : Below W.heap.size W w0) (hl : W.heap.size < w0.heap.size) (hb : Below w0.heap.size w0 w1) : Below W.heap.size W w1 :=
  ⟨hb.os.trans h.os, hb.tape.trans h.tape, hb.output.trans h.output, Nat.le_trans h.size hb.size, fun k hk => (hb.block k (by omega)).trans (h.block k hk)⟩
set_option maxHeartbeats 1000000 in
set_option maxRecDepth 1000000 in
theorem turn_walk (A : Option Addr) (n cap : Nat) (l : List Int) (b : Int) (W : World) (hl : l.length = n) (hn : n ≤ 1000000) (hcap : n ≤ cap)
    (hA : l ≠ [] → ∃ ad, A = some ad ∧ ad.spot = none ∧ ∀ j v, l[j]? = some v → W.cell? (ad.add j) = some (.int .i64 v)) :
    Calls Try.prog 44 #[.slice A n cap, .int .i64 b] W fun e w' => e = .returned (.slice (some ⟨W.heap.size, 0, none⟩) n n) ∧ w'.heap[W.heap.size]? = some (.cells ((rotOf l b).map (Value.int .i64)).toArray 2 (0, 0)) ∧ Below W.heap.size W w' := by
  have hmod := fun (h : 1 ≤ n) W' => mod_calls b (n : Int) (by omega) (by omega) W'
  obtain ⟨i0, hi, hz0, hz1, hz2⟩ : ∃ i, Try.prog.info? 2 = some i ∧ i.zero = some (.int .i64 0) ∧ i.size = 1 ∧ i.bytes = 8 := by
    have h : (Try.prog.info? 2).map (fun i => (i.zero, i.size, i.bytes)) = some (some (.int .i64 0), 1, 8) := by kernel_rfl
    cases hh : Try.prog.info? 2 with
    | none => simp [hh] at h
    | some i => simp [hh] at h; exact ⟨i, rfl, h.1, h.2.1, h.2.2⟩
  go_enter Try.func44, Try.ntmps44
  by_cases h0 : n = 0
  · subst h0
    go_wp2_with (first
      | (at_make; refine wpList_make_full _ rfl _ _ 47 rfl W.heap.size 2 i0 (.int .i64 0) 1 Try.underlying47 hi hz0 hz1 .i64 .i64 _ _ 0 rfl rfl rfl rfl (by rw [hz2]; omega) (by unfold maxLen; omega) (Nat.le_refl _) ?_; intro w0 hown0 hgrow0))
    go_ret
    obtain ⟨_, h | ⟨g, cap', cur, hv, _, hh, _, _, hs, _⟩⟩ := hown0
    · cases h.1
    · cases hv
      have e : l = [] := List.eq_nil_of_length_eq_zero hl
      subst e
      exact ⟨rfl, by rw [hh, Array.eq_empty_of_size_eq_zero (show cur.size = 0 by simpa using hs)]; rfl, ⟨hgrow0.os, hgrow0.tape, hgrow0.output, hgrow0.size, fun k hk => hgrow0.block k hk (by simp)⟩⟩
  · have m1 := Int.emod_nonneg b (b := (n : Int)) (by omega)
    have m2 := Int.emod_lt_of_pos b (b := (n : Int)) (by omega)
    obtain ⟨k, hk⟩ := Int.eq_ofNat_of_zero_le m1
    rw [hk] at hmod m2
    have hkn : k < n := by omega
    have hz : ((n : Int) == 0) = false := beq_eq_false_iff_ne.2 (by omega)
    have hw : wrap64 ((n : Int) - (k : Int)) = ((n - k : Nat) : Int) := by rw [wrap64_id (by omega) (by omega)]; omega
    obtain ⟨X1, hX1⟩ : ∃ X1 : List Value, Hid (X1 = (l.take (n - k)).map (Value.int .i64)) := ⟨_, rfl⟩
    obtain ⟨X2, hX2⟩ : ∃ X2 : List Value, Hid (X2 = (l.drop (n - k)).map (Value.int .i64)) := ⟨_, rfl⟩
    have l1 : X1.length = n - k := by rw [show X1 = _ from hX1]; simp; omega
    have l2 : X2.length = k := by rw [show X2 = _ from hX2]; simp; omega
    have o1 : ∀ v ∈ X1, v.oneCell' = true := by
      rw [show X1 = _ from hX1]; intro v hv; rw [List.mem_map] at hv; obtain ⟨z, _, rfl⟩ := hv; rfl
    have o2 : ∀ v ∈ X2, v.oneCell' = true := by
      rw [show X2 = _ from hX2]; intro v hv; rw [List.mem_map] at hv; obtain ⟨z, _, rfl⟩ := hv; rfl
    obtain ⟨ad, hAd, hsp, hcell⟩ := hA (by intro h; subst h; simp at hl; omega)
    have hsz2 : (Try.prog.info? 2).map (·.size) = some 1 := by rw [hi]; simp [hz1]
    have c1 : ∀ w', Below W.heap.size W w' → ∀ j v, X1[j]? = some v → w'.cell? (ad.add j) = some v := by
      intro w' hb j v hj
      rw [show X1 = _ from hX1, List.getElem?_map, List.getElem?_take] at hj
      split at hj
      · cases hv : l[j]? with
        | none => simp [hv] at hj
        | some z =>
          simp [hv] at hj
          subst hj
          have h0 := hcell j z hv
          rw [hb.cell (World.block_lt_of_cell? W _ h0)]; exact h0
      · simp at hj
    have c2 : ∀ w', Below W.heap.size W w' → ∀ j v, X2[j]? = some v → w'.cell? ((ad.add (n - k)).add j) = some v := by
      intro w' hb j v hj
      rw [show X2 = _ from hX2, List.getElem?_map, List.getElem?_drop] at hj
      cases hv : l[n - k + j]? with
      | none => simp [hv] at hj
      | some z =>
        simp [hv] at hj
        subst hj
        have h0 := hcell _ z hv
        have e : (ad.add (n - k)).add j = ad.add (n - k + j) := by
          unfold Addr.add
          by_cases h1 : j = 0 <;> by_cases h2 : n - k = 0 <;> simp [h1, h2, Nat.add_assoc]
        rw [e, hb.cell (World.block_lt_of_cell? W _ h0)]; exact h0
    subst hAd
    go_wp2_with (first
      | (at_make; refine wpList_make_full _ rfl _ _ 47 rfl W.heap.size 2 i0 (.int .i64 0) 1 Try.underlying47 hi hz0 hz1 .i64 .i64 _ _ n rfl rfl rfl rfl (by rw [hz2]; omega) (by unfold maxLen; omega) (Nat.le_refl _) ?_; intro w0 hown0 hgrow0;
          obtain ⟨Z, hZ, hZl, hlt0, hB0⟩ : ∃ Z : List Value, Hid (w0.heap[W.heap.size]? = some (.cells Z.toArray 2 (0, 0))) ∧ Z.length = n ∧ W.heap.size < w0.heap.size ∧ Below W.heap.size W w0 := made_row hown0 hgrow0 (by omega); clear hown0 hgrow0)
      | (go_at_call 66; refine (hmod (by omega) _).mono ?_; rintro e w1 ⟨rfl, hb1⟩; have hg1 := kept_row hZ hlt0 hb1; have hB1 := kept_below hB0 hlt0 hb1; clear hb1)
      | (with_reducible (refine (id (?_ : wpList _ _ _ (⟨some 26, _, _, _, _, _⟩ :: _) _ _))); go_loud (refine wpList_copy_splice rfl _ _ 47 47 rfl 2 Try.underlying47 hsz2 _ _ _ _ _ _ rfl rfl W.heap.size k Z 2 hg1.out X1 (by rw [l1]; simp) (fun _ => ⟨rfl, ad, rfl, c1 _ hB1⟩) (by omega) o1 W.heap.size W hB1 (Nat.le_refl _) ?_); intro w2 HG2 hB2; clear hg1 hB1))
    have hkc : (k : Int) ≤ (n : Int) := by omega
    have hk0 : (0 : Int) ≤ (k : Int) := by omega
    have hw' : IntKind.i64.wrap ((n : Int) - (k : Int)) = ((n - k : Nat) : Int) := by rw [IntWalk.i64_left]; exact hw
    have hnk0 : (0 : Int) ≤ ((n - k : Nat) : Int) := by omega
    have hnk1 : ((n - k : Nat) : Int) ≤ (n : Int) := by omega
    obtain ⟨Z2, hZ2⟩ : ∃ Z2 : List Value, Hid (Z2 = splice Z k X1) := ⟨_, rfl⟩
    have z2l : Z2.length = n := by rw [show Z2 = _ from hZ2, length_splice _ _ _ (by omega)]; exact hZl
    have HG2' : w2.drew.heap[W.heap.size]? = some (.cells Z2.toArray 2 (0, 0)) := by rw [show Z2 = _ from hZ2]; exact HG2.out
    have hB2' : Below W.heap.size W w2.drew := ⟨hB2.os, hB2.tape, hB2.output, hB2.size, hB2.block⟩
    have c2' := c2 _ hB2'
    have hrot : splice Z2 0 X2 = (rotOf l b).map (Value.int .i64) := by
      have hne : l ≠ [] := by intro h; subst h; simp at hl; omega
      have e1 : rotOf l b = l.drop (n - k) ++ l.take (n - k) := by
        unfold rotOf; rw [if_neg hne, hl, hk, Int.toNat_natCast]
      rw [e1, List.map_append, ← show X1 = _ from hX1, ← show X2 = _ from hX2, show Z2 = _ from hZ2]
      unfold splice
      have e2 : (Z.take k ++ (X1 ++ Z.drop (k + X1.length))).drop (0 + X2.length) = X1 := by
        rw [l1, l2, Nat.zero_add, show k + (n - k) = Z.length by omega, List.drop_length, List.append_nil]
        have : (Z.take k).length = k := by simp; omega
        rw [List.drop_append, this, Nat.sub_self, List.drop_zero, List.drop_eq_nil_of_le (by omega), List.nil_append]
      rw [e2]; simp
    clear HG2 hB2 c1 c2
    by_cases hcapk : cap = n - k
    · subst hcapk
      go_region_law (refine step_copy_splice rfl (.tmp 29) (.tmp 35) 47 47 rfl 2 Try.underlying47 hsz2 (some ⟨W.heap.size, 0, none⟩) (some ad) k n (n - (n - k)) 0 (by simp [Act.eval, Act.put]) (by simp [Act.eval, Act.put]; try omega) W.heap.size 0 Z2 2 HG2' X2 (by rw [l2]; show k = min (n - (n - k)) k; omega) (fun h => by omega) (by omega) o2 W.heap.size W hB2' (Nat.le_refl _) ?_; intro w3 HG3 hB3)
      go_wp2
      go_ret
      exact ⟨rfl, by rw [← hrot]; exact HG3.out, hB3⟩
    · go_region_law (refine step_copy_splice rfl (.tmp 29) (.tmp 35) 47 47 rfl 2 Try.underlying47 hsz2 (some ⟨W.heap.size, 0, none⟩) (some (ad.add (n - k))) k n (n - (n - k)) (cap - (n - k)) (by simp [Act.eval, Act.put]) (by simp [Act.eval, Act.put]) W.heap.size 0 Z2 2 HG2' X2 (by rw [l2]; show k = min (n - (n - k)) k; omega) (fun _ => ⟨rfl, _, rfl, c2'⟩) (by omega) o2 W.heap.size W hB2' (Nat.le_refl _) ?_; intro w3 HG3 hB3)
      go_wp2
      go_ret
      exact ⟨rfl, by rw [← hrot]; exact HG3.out, hB3⟩
/-- What a call hands back that made one row, and turned nothing. -/
theorem fresh_post {Θ : Tab} {E : Env} {e : TypeId} {z : List (Θ.T e)} {v : Value} {w' : World} (hs : ∃ A n c, v = .slice A n c) (hg : Below E.w0.heap.size E.w0 w') (ho : w'.ownsRow E.w0.heap.size e (Θ.sz e) v z.length (z.flatMap (encV Θ e))) (hfl : (Θ.E e).leaves.all Leaf.flat = true)
    (hPB : ∀ k b, E.PB k b → pin ≤ k) (hPR : ∀ r v, E.PR r v → pinned r = true) : Post Θ E [(.ret, ⟨[.c (.row 0)], [], [(0, e)]⟩)] z (.returned v) w' := by
  show Ex.ret = Ex.ret ∧ _
  refine ⟨rfl, [v], fun _ _ => 0, fun _ _ => v, rfl, ?_⟩
  have hst : (⟨[.c (.row 0)], [], [(0, e)]⟩ : Shape).st (T := Θ.T) z = ⟨[.c (.row 0 0)], [], [(0, ⟨0, e, z⟩)]⟩ := by
    show (⟨[.c (.row 0 0)], [], [(0, ⟨0, e, listOf (T := Θ.T) e (.sl e z)⟩)]⟩ : St Θ.T) = _
    simp [listOf]
  show Sim Θ E ((⟨[.c (.row 0)], [], [(0, e)]⟩ : Shape).st (T := Θ.T) z) _ _ _ _
  rw [hst]
  obtain ⟨A, n0, c0, hv⟩ := hs
  have ho0 : w'.ownsRow 0 e (Θ.sz e) v z.length (z.flatMap (encV Θ e)) := by
    obtain ⟨h1, h2 | ⟨g, cap, cur, h3, _, h4⟩⟩ := ho
    · exact ⟨h1, .inl h2⟩
    · exact ⟨h1, .inr ⟨g, cap, cur, h3, Nat.zero_le _, h4⟩⟩
  have hown : ∀ b, ob v = some b → E.w0.heap.size ≤ b := fun b hb => (ho.lt b (ob_of_own ho0 hb)).1
  have hflat : ∀ p ∈ z.flatMap (Θ.enc e), pvFlat p = true := fun p hp => by
    rw [List.mem_flatMap] at hp
    obtain ⟨q, _, hq⟩ := hp
    exact flat_enc hfl q p hq
  have hmap : (z.flatMap (Θ.enc e)).map pvVal = z.flatMap (encV Θ e) := by rw [List.map_flatMap]; rfl
  refine ⟨⟨hg.os, hg.tape, hg.output, hg.size, fun k hk _ => hg.block k hk⟩, fun k b h => ⟨hPB k b h, fun B hB => by simp [Go.Den.look] at hB⟩, fun r u h => ⟨hPR r u h, fun R hR _ => ?_⟩, fun _ _ => ⟨A, n0, c0, hv⟩, fun k B hB => by simp [Go.Den.look] at hB, fun r R hR => ?_, fun k B k' B' hB => by simp [Go.Den.look] at hB, ?_, fun k B r R hB => by simp [Go.Den.look] at hB, rfl, fun i => ?_⟩
  · simp only [Go.Den.look] at hR
    split at hR
    · rename_i h0; subst h0; have := hPR _ u h; simp [pinned] at this
    · cases hR
  · simp only [Go.Den.look] at hR
    split at hR <;> try (cases hR; done)
    injection hR with hR
    subst hR
    exact ⟨fun b hb => .inr (hown b hb), _, .inl ho0, by rw [← hmap]; exact us_flat hflat⟩
  · intro r R r' R' b hR hR' _ _
    simp only [Go.Den.look] at hR hR'
    split at hR <;> try (cases hR; done)
    split at hR' <;> try (cases hR'; done)
    rename_i e1 e2
    rw [← e1, ← e2]
  · cases i with
    | zero => exact rfl
    | succ i => exact trivial
theorem encl : ∀ l : List Int, (l.flatMap fun (q : Int) => encV Θ 2 q) = l.map (Value.int .i64)
  | [] => rfl
  | a :: l => by
    show encV Θ 2 a ++ (l.flatMap fun (q : Int) => encV Θ 2 q) = _
    rw [encl l]; rfl
/-- profile.Turn, as a plain function. -/
def turnF (x : List Int × Int) : Option (List Int) := if x.1.length ≤ 1000000 then some (rotOf x.1 x.2) else none
theorem turn_calls : PCalls Try.prog Θ 44 ⟨⟨[.c (.hole (.sl 2)), .c (.hole (.int .i64))], [], []⟩, [(.ret, ⟨[.c (.row 0)], [], [(0, 2)]⟩)], turnF⟩ := by
  refine ⟨enters_of Try.func44 (by kernel_rfl) rfl, rfl, ?_⟩
  intro (x : List Int × Int) (z : List Int) hx E vs bx rw_ hD hS
  have hx' : turnF x = some z := hx
  unfold turnF at hx'
  split at hx' <;> try (cases hx'; done)
  rename_i hlen
  injection hx' with hz
  have hst : ((⟨[.c (.hole (.sl 2)), .c (.hole (.int .i64))], [], []⟩ : Shape).st (T := Θ.T) x) = ⟨[.c (.v (.sl 2 x.1)), .c (.v (.int .i64 x.2))], [], []⟩ := rfl
  simp only at hS ⊢
  rw [hst] at hS
  have hl := hS.len
  obtain ⟨v0, v1, rfl⟩ : ∃ v0 v1, vs = [v0, v1] := by
    cases vs with
    | nil => simp at hl
    | cons a l => cases l with
      | nil => simp at hl
      | cons b l => cases l with
        | nil => exact ⟨a, b, rfl⟩
        | cons c l => simp at hl
  have h0 : Rep Θ E.w0 _ v0 (.sl 2 x.1) := hS.slots 0
  have h1 : RCV Θ E.w0 _ bx rw_ (.v (.int .i64 x.2)) v1 := hS.slots 1
  have e1 := rcv_int (bx := bx) (rw_ := rw_) h1
  subst e1
  cases h0 with
  | sl e l A n cap us hn hc hzc hA hr =>
  have hcells : x.1 ≠ [] → ∃ ad, A = some ad ∧ ad.spot = none ∧ ∀ j v, x.1[j]? = some v → E.w0.cell? (ad.add j) = some (.int .i64 v) := by
    intro hne
    obtain ⟨ad, a1, a2, _, a4⟩ := hA hne
    refine ⟨ad, a1, a2, fun j v hj => ?_⟩
    have hjl : j < x.1.length := by
      rcases Nat.lt_or_ge j x.1.length with h | h
      · exact h
      · rw [List.getElem?_eq_none h] at hj; cases hj
    have hsz : Θ.sz 2 = 1 := by kernel_rfl
    have hc := a4 j 0 hjl (by rw [hsz]; omega)
    have hrr := hr j 0 v (.int .i64 v) hj (by rfl)
    rw [hsz] at hc
    rw [show j * 1 + 0 = j by omega] at hc
    rw [hc]
    have := rcv_int (Θ := Θ) (bx := bx) (rw_ := rw_) (show RCV Θ E.w0 _ bx rw_ (.v (.int .i64 v)) (us j 0) from hrr)
    rw [this]
  refine (turn_walk A n cap x.1 x.2 E.w0 hn (by have h2 : x.1.length = n := hn; omega) hc hcells).mono fun en w' ⟨he, hh, hb⟩ => ?_
  subst he
  have hsz : Θ.sz 2 = 1 := by kernel_rfl
  have hn' : (show List Int from x.1).length = n := hn
  have hn2 : x.1.length = n := hn'
  have henc : List.flatMap (encV Θ 2) z = z.map (Value.int .i64) := encl z
  have hzl : z.length = n := by rw [← hz, rotOf_len]; exact hn2
  refine fresh_post (Θ := Θ) (e := 2) (z := z) ⟨_, _, _, rfl⟩ hb ⟨?_, .inr ⟨E.w0.heap.size, n, _, ?_, Nat.le_refl _, hh, ?_, ?_, ?_, ?_⟩⟩ (by kernel_rfl) (fun k b h => (hS.pinB k b h).1) (fun r v h => (hS.pinR r v h).1)
  · rw [henc, hsz, List.length_map, Nat.mul_one]; rfl
  · exact congrArg (fun m => Value.slice (some ⟨E.w0.heap.size, 0, none⟩) m n) hzl.symm
  · exact Nat.le_of_eq hzl
  · unfold maxLen; omega
  · rw [hsz, List.size_toArray, List.length_map, rotOf_len]; omega
  · rw [henc, hsz, hz]
    exact List.take_of_length_le (Nat.le_of_eq (by rw [List.length_map, Nat.mul_one]; rfl))
end Go.Proofs.Ytemhdliapelleaa.Fn
