/-
  The first index of a list at which something holds.
-/
import Derived.Test.YtcgkmmiokmbjdaaHeap
namespace Go.Proofs.Ytcgkmmiokmbjdaa
open Go Go.Sh Go.Proofs
def fidx {α : Type} (p : α → Bool) : List α → Nat
  | [] => 0
  | x :: l => if p x = true then 0 else fidx p l + 1
theorem fidx_le {α : Type} (p : α → Bool) : ∀ l : List α, fidx p l ≤ l.length
  | [] => Nat.le_refl _
  | x :: l => by unfold fidx; have := fidx_le p l; split <;> simp <;> omega
theorem fidx_at {α : Type} (p : α → Bool) : ∀ (l : List α) (i : Nat) (h : i < l.length), p l[i] = true → (∀ j (hj : j < i), p (l[j]'(by omega)) = false) → fidx p l = i
  | [], i, h, _, _ => by simp at h
  | x :: l, i, h, h1, h2 => by
    unfold fidx
    cases i with
    | zero => rw [if_pos (by simpa using h1)]
    | succ i =>
      have h0 := h2 0 (by omega)
      simp only [List.getElem_cons_zero] at h0
      rw [if_neg (by simp [h0]), fidx_at p l i (by simpa using h) (by simpa using h1) (fun j hj => by have := h2 (j + 1) (by omega); simpa using this)]
theorem fidx_none {α : Type} (p : α → Bool) : ∀ (l : List α), (∀ j (hj : j < l.length), p l[j] = false) → fidx p l = l.length
  | [], _ => rfl
  | x :: l, h => by
    unfold fidx
    have h0 := h 0 (by simp)
    simp only [List.getElem_cons_zero] at h0
    rw [if_neg (by simp [h0]), fidx_none p l (fun j hj => by have := h (j + 1) (by simpa using hj); simpa using this)]
    simp
theorem fidx_before {α : Type} (p : α → Bool) : ∀ (l : List α) (j : Nat) (hl : j < l.length), j < fidx p l → p l[j] = false
  | [], _, hl, _ => by simp at hl
  | x :: l, j, hl, hj => by
    unfold fidx at hj
    split at hj
    · omega
    · rename_i hx
      cases j with
      | zero => simpa using hx
      | succ j =>
        have := fidx_before p l j (by simpa using hl) (by omega)
        simpa using this
theorem fidx_here {α : Type} (p : α → Bool) : ∀ (l : List α) (h : fidx p l < l.length), p l[fidx p l] = true
  | [], h => by simp at h
  | x :: l, h => by
    by_cases hx : p x = true
    · have : fidx p (x :: l) = 0 := by show (if p x = true then 0 else fidx p l + 1) = _; rw [if_pos hx]
      simp only [this, List.getElem_cons_zero]
      exact hx
    · have : fidx p (x :: l) = fidx p l + 1 := by show (if p x = true then 0 else fidx p l + 1) = _; rw [if_neg hx]
      simp only [this, List.getElem_cons_succ]
      exact fidx_here p l (by rw [this] at h; simpa using h)
end Go.Proofs.Ytcgkmmiokmbjdaa
