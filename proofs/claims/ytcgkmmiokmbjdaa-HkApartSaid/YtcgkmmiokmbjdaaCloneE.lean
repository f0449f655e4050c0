/-
  slices.Clone, for slices of hk.entry.
-/
import Derived.Test.YtcgkmmiokmbjdaaForms
import Derived.Test.YtcgkmmiokmbjdaaHeap
namespace Go.Proofs.Ytcgkmmiokmbjdaa
open Go Go.Sh Go.Proofs
set_option linter.unusedVariables false
set_option linter.unusedSimpArgs false
theorem elemChkentry : Elem Try.prog 66 5 56 := Elem.of (v := (.agg #[.int .i64 0, .int .i64 0, .bool false, .slice none 0 0, .int .i64 0])) (by kernel_rfl) rfl (by decide)
theorem clone_hkentry {w : World} {a : Option Addr} {n : Nat} (c : Nat) {vs : List Value} (hr : Rd w a vs) (hl : vs.length = n * 5) (h1 : ∀ u ∈ vs, one u = true) (hn : n ≤ 1000000) :
    Does Try.prog 28 #[.slice a n c] w fun v w' => ∃ a' c', v = .slice a' n c' ∧ Own w' 66 5 a' n c' vs ∧ Mod [] w w' ∧ ∀ x ∈ fp a', w.heap.size ≤ x := by
  apply w28
  unfold F28
  refine iteI (fun h => ?_) (fun h => ?_)
  · have ha : a = none := by cases a; rfl; simp at h
    subst ha
    have hv : vs = [] := by rcases hr with h | ⟨p, h, _⟩; exact h; cases h
    subst hv
    have hn0 : n = 0 := by simp at hl; omega
    subst hn0
    exact ⟨none, 0, rfl, Own.nil, Mod.refl _, by simp [fp]⟩
  · refine New.use fun w1 h1' m1 z1 => ?_
    obtain ⟨a', c', w2, run, o2, m2, f2⟩ := append_own (d := c) Try.underlying45 elemChkentry 45 (Own.blk (n := 0) h1' rfl (by decide)) (hr.mod m1 (by simp)) hl h1 (by omega) (by omega)
    rw [Nat.zero_add] at run o2
    rw [List.nil_append] at o2
    refine ⟨_, _, _, w2, run, a', c', rfl, o2, m1.trans m2 (fun x hx => .inr (by simp [fp, base] at hx; omega)), fun x hx => ?_⟩
    rcases f2 with h | h <;> rw [h] at hx <;> simp [fp, base] at hx <;> omega
end Go.Proofs.Ytcgkmmiokmbjdaa
