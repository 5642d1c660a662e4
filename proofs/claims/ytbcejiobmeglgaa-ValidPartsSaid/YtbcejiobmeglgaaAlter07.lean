/- What a network is behind the store of one text into a row of texts. -/
import Derived.Test.YtbcejiobmeglgaaAwake07A
namespace Go.Proofs.Ytbcejiobmeglgaa.Fn
set_option linter.unusedVariables false
set_option maxRecDepth 100000
open Go Go.RowKit Go.Den
section
variable {b : Nat}
theorem alt_list {e : TypeId} {l l' : List ((Θ b).T e)} (h : AltP (Θ b) 9 tN (.sl e l) (.sl e l')) : l'.length = l.length ∧ ∀ (i j : Nat) (y y' : (Θ b).T e) (x x' : PV (Θ b).T), l[i]? = some y → l'[i]? = some y' → ((Θ b).enc e y)[j]? = some x → ((Θ b).enc e y')[j]? = some x' → ¬ (e = 9 ∧ x' = .str tN) → AltP (Θ b) 9 tN x x' := by
  cases h with
  | sl _ _ _ hl h => exact ⟨hl, h⟩
theorem alt_str {a a' : ByteArray} (h : AltP (Θ b) 9 tN (.str a) (.str a')) : a' = a := by cases h; rfl
theorem alt_int {k k' : IntKind} {a a' : Int} (h : AltP (Θ b) 9 tN (.int k a) (.int k' a')) : a' = a := by cases h; rfl
theorem alt_bool {a a' : Bool} (h : AltP (Θ b) 9 tN (.bool a) (.bool a')) : a' = a := by cases h; rfl
theorem alt_flat {e : TypeId} {l l' : List ((Θ b).T e)} (he : e ≠ 9) (hinj : ∀ u v : (Θ b).T e, ((Θ b).E e).to u = ((Θ b).E e).to v → u = v) (hf : ((Θ b).E e).leaves.all Leaf.flat = true) (h : AltP (Θ b) 9 tN (.sl e l) (.sl e l')) : l' = l := by
  have := h.flat he hinj hf
  injection this
theorem len1 {A : Type} {l : List A} (h : l.length = 1) : ∃ a, l = [a] := List.length_eq_one_iff.1 h
theorem len2 {A : Type} {l : List A} (h : l.length = 2) : ∃ a c, l = [a, c] := by
  match l, h with
  | [a, c], _ => exact ⟨a, c, rfl⟩
theorem alt_text {l l' : List ByteArray} (h : AltP (Θ b) 9 tN (.sl 9 l) (.sl 9 l')) {i : Nat} {t t' : ByteArray} (h1 : l[i]? = some t) (h2 : l'[i]? = some t') : t' = t ∨ t' = tN := by
  by_cases hn : t' = tN
  · exact .inr hn
  · left
    have := (alt_list h).2 i 0 t t' (.str t) (.str t') h1 h2 rfl rfl (fun hh => hn (by have := hh.2; injection this))
    exact alt_str this
theorem alt_node {t1 t2 r1 r2 : ByteArray} {ns : List NodeT0} (h : AltP (Θ b) 9 tN (.sl 39 [awNode t1 t2 r1 r2]) (.sl 39 ns)) :
    ∃ u1 u2 q1 q2, ns = [awNode u1 u2 q1 q2] ∧ (u1 = t1 ∨ u1 = tN) ∧ (u2 = t2 ∨ u2 = tN) ∧ (q1 = r1 ∨ q1 = tN) ∧ (q2 = r2 ∨ q2 = tN) := by
  obtain ⟨hl, h0⟩ := alt_list h
  obtain ⟨n', rfl⟩ := len1 hl
  have h1 := fun j x x' => h0 0 j (awNode t1 t2 r1 r2) n' x x' rfl rfl
  obtain ⟨a', hs', ps', ph', gs', fs', pos'⟩ := n'
  have e0 := alt_str (h1 0 (.str (ByteArray.mk #[97])) (.str a') rfl rfl (fun hh => by cases hh.1))
  have e1 := alt_flat (b := b) (e := 44) (by decide) (fun u v h => h) rfl (h1 1 (.sl 44 (awNode t1 t2 r1 r2).2.1) (.sl 44 hs') rfl rfl (fun hh => by cases hh.1))
  have e2 := alt_flat (b := b) (e := 78) (by decide) (fun u v h => h) rfl (h1 2 (.sl 78 (awNode t1 t2 r1 r2).2.2.1) (.sl 78 ps') rfl rfl (fun hh => by cases hh.1))
  have h3 := h1 3 (.sl 42 (awNode t1 t2 r1 r2).2.2.2.1) (.sl 42 ph') rfl rfl (fun hh => by cases hh.1)
  have h4 := h1 4 (.sl 67 (awNode t1 t2 r1 r2).2.2.2.2.1) (.sl 67 gs') rfl rfl (fun hh => by cases hh.1)
  have e5 := alt_flat (b := b) (e := 47) (by decide) (fun u v h => h) rfl (h1 5 (.sl 47 (awNode t1 t2 r1 r2).2.2.2.2.2.1) (.sl 47 fs') rfl rfl (fun hh => by cases hh.1))
  have e6 := alt_int (h1 6 (.int .i64 39) (.int .i64 pos') rfl rfl (fun hh => by cases hh.1))
  clear h1 h0 hl h
  obtain ⟨hl3, h3⟩ := alt_list h3
  obtain ⟨p1, p2, rfl⟩ := len2 hl3
  obtain ⟨pa, pb, pc⟩ := p1
  obtain ⟨qa, qb, qc⟩ := p2
  have f0 := alt_str (h3 0 0 (ByteArray.mk #[112], [t1], 265) (pa, pb, pc) (.str (ByteArray.mk #[112])) (.str pa) rfl rfl rfl rfl (fun hh => by cases hh.1))
  have f1 := h3 0 1 (ByteArray.mk #[112], [t1], 265) (pa, pb, pc) (.sl 9 [t1]) (.sl 9 pb) rfl rfl rfl rfl (fun hh => by cases hh.1)
  have f2 := alt_int (h3 0 2 (ByteArray.mk #[112], [t1], 265) (pa, pb, pc) (.int .i64 265) (.int .i64 pc) rfl rfl rfl rfl (fun hh => by cases hh.1))
  have g0 := alt_str (h3 1 0 (ByteArray.mk #[113], [t2], 277) (qa, qb, qc) (.str (ByteArray.mk #[113])) (.str qa) rfl rfl rfl rfl (fun hh => by cases hh.1))
  have g1 := h3 1 1 (ByteArray.mk #[113], [t2], 277) (qa, qb, qc) (.sl 9 [t2]) (.sl 9 qb) rfl rfl rfl rfl (fun hh => by cases hh.1)
  have g2 := alt_int (h3 1 2 (ByteArray.mk #[113], [t2], 277) (qa, qb, qc) (.int .i64 277) (.int .i64 qc) rfl rfl rfl rfl (fun hh => by cases hh.1))
  obtain ⟨u1, rfl⟩ := len1 (alt_list f1).1
  obtain ⟨u2, rfl⟩ := len1 (alt_list g1).1
  have k1 := alt_text f1 (i := 0) rfl rfl
  have k2 := alt_text g1 (i := 0) rfl rfl
  obtain ⟨hl4, h4⟩ := alt_list h4
  obtain ⟨gr, rfl⟩ := len1 hl4
  have m0 := h4 0 0 [(true, [r1, r2])] gr (.sl 69 [(true, [r1, r2])]) (.sl 69 gr) rfl rfl rfl rfl (fun hh => by cases hh.1)
  obtain ⟨hl5, h5⟩ := alt_list m0
  obtain ⟨row, rfl⟩ := len1 hl5
  obtain ⟨fr, nm⟩ := row
  have m1 := alt_bool (h5 0 0 (true, [r1, r2]) (fr, nm) (.bool true) (.bool fr) rfl rfl rfl rfl (fun hh => by cases hh.1))
  have m2 := h5 0 1 (true, [r1, r2]) (fr, nm) (.sl 9 [r1, r2]) (.sl 9 nm) rfl rfl rfl rfl (fun hh => by cases hh.1)
  obtain ⟨q1, q2, rfl⟩ := len2 (alt_list m2).1
  have k3 := alt_text m2 (i := 0) rfl rfl
  have k4 := alt_text m2 (i := 1) rfl rfl
  subst e0 e1 e2 e5 e6 f0 f2 g0 g2 m1
  exact ⟨u1, u2, q1, q2, rfl, k1, k2, k3, k4⟩
end
end Go.Proofs.Ytbcejiobmeglgaa.Fn
