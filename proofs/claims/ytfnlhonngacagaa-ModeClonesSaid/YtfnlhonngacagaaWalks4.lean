/-
  The contracts of chapter 45: the reference's calls, step, agrees, Clone.
-/
import Derived.Test.YtfnlhonngacagaaWalks3
namespace Go.Proofs.Ytfnlhonngacagaa
open Go Go.Sh Go.Proofs
set_option linter.unusedVariables false

section
variable {w : World} {g : Nat} {S : List Nat} {s : Ms} (h : Rm w g S s) (hg : s.good)
include h hg
theorem refSafe_ok (now : Int) : Does Try.prog 20 #[.pointer (some (base g)), .int .i64 now] w fun v w' => v = .tuple #[] ∧ ∃ S', Rm w' g S' (s.safe now) ∧ Mod [g] w w' ∧ ∀ y ∈ S', y ∈ S ∨ w.heap.size ≤ y := by
  have hgS : g ∈ S := by obtain ⟨_, _, rfl, _⟩ := h; simp
  apply w20
  unfold F20
  refine (refClock_ok h now).mono ?_
  rintro _ w1 ⟨rfl, h1, m1⟩
  have G1 := Ms.pass_good hg now
  refine ⟨rfl, _, rfl, ?_⟩
  have h1' := h1
  obtain ⟨a, c, hS, _, _, hb, _⟩ := h1'
  refine ⟨_, hb.cell0, ?_⟩
  unfold Ms.safe
  by_cases hm : (s.pass now).mode = 1
  · rw [if_neg (by simpa using hm), if_pos hm]
    exact ⟨rfl, _, h1, m1, fun y hy => .inl hy⟩
  · rw [if_pos hm, if_neg hm]
    refine (refChange_ok h1 G1 1).mono ?_
    rintro _ w3 ⟨rfl, S3, h3, m3, f3⟩
    have := m1.size
    exact ⟨rfl, rfl, S3, h3, m1.same m3, fun y hy => by
      rcases f3 y hy with h | h
      · subst h; exact .inl hgS
      · right; omega⟩
theorem refRequest_ok (to now : Int) : Does Try.prog 21 #[.pointer (some (base g)), .int .i64 to, .int .i64 now] w fun v w' => v = .int .i64 (s.req to now).1 ∧ ∃ S', Rm w' g S' (s.req to now).2 ∧ Mod [g] w w' ∧ ∀ y ∈ S', y ∈ S ∨ w.heap.size ≤ y := by
  have hgS : g ∈ S := by obtain ⟨_, _, rfl, _⟩ := h; simp
  apply w21
  unfold F21
  refine (refClock_ok h now).mono ?_
  rintro _ w1 ⟨rfl, h1, m1⟩
  have G1 := Ms.pass_good hg now
  refine ⟨rfl, ?_⟩
  unfold Ms.req
  have bad : isM to = false → (Value.int .i64 1 = .int .i64 (if isM to = false then ((1 : Int), s.pass now) else if can (s.pass now).mode to = false then (11, s.pass now) else (0, (s.pass now).change to)).1 ∧ ∃ S', Rm w1 g S' (if isM to = false then ((1 : Int), s.pass now) else if can (s.pass now).mode to = false then (11, s.pass now) else (0, (s.pass now).change to)).2 ∧ Mod [g] w w1 ∧ ∀ y ∈ S', y ∈ S ∨ w.heap.size ≤ y) := by
    intro hi
    rw [if_pos hi]
    exact ⟨rfl, S, h1, m1, fun y hy => .inl hy⟩
  by_cases h0 : to < 0
  · rw [if_pos h0]
    exact bad (by unfold isM; rw [decide_eq_false (by omega)])
  rw [if_neg h0]
  by_cases h5 : 5 ≤ to
  · rw [if_pos h5]
    exact bad (by unfold isM; rw [decide_eq_false (by omega)])
  rw [if_neg h5]
  have hi : isM to = true := by unfold isM; rw [decide_eq_true (by omega)]
  have h1' := h1
  obtain ⟨a, c, hS, _, _, hb, _⟩ := h1'
  refine ⟨_, rfl, _, hb.cell0, ?_⟩
  refine (refCan_ok _ to w1).mono ?_
  rintro _ _ ⟨rfl, rfl⟩
  refine ⟨_, rfl, ?_⟩
  cases hc : can (s.pass now).mode to with
  | false =>
    rw [if_pos (by simp), hi, if_neg (by simp), if_pos rfl]
    exact ⟨rfl, _, h1, m1, fun y hy => .inl hy⟩
  | true =>
    rw [if_neg (by simp), hi, if_neg (by simp), if_neg (by simp)]
    refine (refChange_ok h1 G1 to).mono ?_
    rintro _ w3 ⟨rfl, S3, h3, m3, f3⟩
    have := m1.size
    exact ⟨rfl, rfl, S3, h3, m1.same m3, fun y hy => by
      rcases f3 y hy with h | h
      · subst h; exact .inl hgS
      · right; omega⟩
end
end Go.Proofs.Ytfnlhonngacagaa
