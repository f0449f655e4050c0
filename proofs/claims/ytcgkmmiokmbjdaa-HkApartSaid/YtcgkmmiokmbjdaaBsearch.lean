/-
  slices.BinarySearch of a sorted list of ints.
-/
import Derived.Test.YtcgkmmiokmbjdaaForms
import Derived.Test.YtcgkmmiokmbjdaaFidx
import Derived.Test.YtcgkmmiokmbjdaaHeap
namespace Go.Proofs.Ytcgkmmiokmbjdaa
open Go Go.Sh Go.Proofs
set_option linter.unusedVariables false
set_option linter.unusedSimpArgs false

theorem half {i j : Nat} (h : i + j < 2 ^ 62) : IntKind.i64.wrap (shr .u64 (IntKind.u64.wrap (IntKind.i64.wrap ((i : Int) + (j : Int)))) 1) = (((i + j) / 2 : Nat) : Int) := by
  have e1 : IntKind.i64.wrap ((i : Int) + (j : Int)) = ((i + j : Nat) : Int) := by rw [wi64 (by omega)]; omega
  rw [e1, wrapU_lt rfl (by show _ < 2 ^ 64; omega), show (1 : Int) = ((1 : Nat) : Int) from rfl, shrN .u64 _ 1 (by decide), Nat.shiftRight_eq_div_pow, wi64 (by omega)]
def geq (t : Int) (x : Int) : Bool := decide (t ≤ x)
theorem fidx_cut {α : Type} (p : α → Bool) (l : List α) (i : Nat) (hi : i ≤ l.length) (h1 : ∀ j (hj : j < i), p (l[j]'(by omega)) = false) (h2 : ∀ h : i < l.length, p l[i] = true) : fidx p l = i := by
  by_cases h : i < l.length
  · exact fidx_at p l i h (h2 h) h1
  · have : i = l.length := by omega
    subst this
    exact fidx_none p l (fun j hj => h1 j hj)
theorem less_int (x y : Int) (w : World) : Does Try.prog 55 #[.int .i64 x, .int .i64 y] w fun v w' => v = .bool (decide (x < y)) ∧ w = w' := by
  have nan : ∀ (x : Int) (w : World), Does Try.prog 57 #[.int .i64 x] w fun v w' => v = .bool false ∧ w = w' := by
    intro x w
    apply w57
    unfold F57
    exact ⟨by simp, rfl⟩
  apply w55
  unfold F55
  refine (nan x w).mono ?_
  rintro _ _ ⟨rfl, rfl⟩
  exact ⟨_, rfl, by rw [if_neg (by simp)]; exact ⟨rfl, rfl⟩⟩
theorem bsearch_ok {w : World} {a : Option Addr} {l : List Int} (c : Nat) (t : Int) (hr : Rd w a (l.map (Value.int .i64))) (hl : l.length ≤ 1000000) (hs : l.Pairwise (· ≤ ·)) :
    Does Try.prog 54 #[.slice a l.length c, .int .i64 t] w fun v w' => v = .tuple #[.int .i64 (fidx (geq t) l : Int), .bool (decide (∃ h : fidx (geq t) l < l.length, l[fidx (geq t) l] = t))] ∧ w = w' := by
  have hmono : ∀ (i j : Nat) (hi : i < l.length) (hj : j < l.length), i ≤ j → l[i] ≤ l[j] := by
    intro i j hi hj hij
    by_cases h : i = j
    · subst h; exact Int.le_refl _
    · exact List.pairwise_iff_getElem.1 hs i j hi hj (by omega)
  apply w54
  unfold F54
  refine LoopP.of (fun (x : Int × Int) w' => ∃ i j : Nat, i ≤ j ∧ j ≤ l.length ∧ x = ((i : Int), (j : Int)) ∧ w = w' ∧ (∀ k (hk : k < i) (hkl : k < l.length), l[k] < t) ∧ (∀ k (hk : j ≤ k) (hkl : k < l.length), t ≤ l[k])) (fun x _ => (x.2 - x.1).toNat) ⟨0, l.length, by omega, by omega, rfl, rfl, by omega, fun k hk hkl => by omega⟩ ?_
  rintro _ _ ⟨i, j, hij, hj, rfl, rfl, h1, h2⟩
  unfold F54_b1
  dsimp only
  refine iteI (fun hlt => ?_) (fun hlt => ?_)
  · rw [half (by omega)]
    have hm : (i + j) / 2 < l.length := by omega
    obtain ⟨p, rfl, hc⟩ := rd_get hr hm
    refine ⟨p, rfl, by omega, by omega, _, hc, ?_⟩
    refine (less_int l[(i + j) / 2] t w).mono ?_
    rintro _ _ ⟨rfl, rfl⟩
    refine ⟨_, rfl, iteI (fun h => ?_) (fun h => ?_)⟩
    · have e1 : IntKind.i64.wrap ((((i + j) / 2 : Nat) : Int) + 1) = (((i + j) / 2 + 1 : Nat) : Int) := by rw [wi64 (by omega)]; omega
      rw [e1]
      have h := of_decide_eq_true h
      refine ⟨_, by omega, ⟨(i + j) / 2 + 1, j, by omega, hj, rfl, rfl, fun k hk hkl => ?_, h2⟩, rfl⟩
      have := hmono k _ hkl hm (by omega)
      omega
    · have h : ¬ l[(i + j) / 2] < t := fun hh => h (decide_eq_true hh)
      refine ⟨_, by omega, ⟨i, (i + j) / 2, by omega, by omega, rfl, rfl, h1, fun k hk hkl => ?_⟩, rfl⟩
      have := hmono _ k hm hkl hk
      omega
  · have hij : i = j := by omega
    subst hij
    have e : fidx (geq t) l = i := fidx_cut _ l i hj (fun k hk => by have := h1 k hk (by omega); simp [geq]; omega) (fun h => by have := h2 i (Nat.le_refl _) h; simp [geq]; omega)
    refine iteI (fun hlt => ?_) (fun hlt => ?_)
    · have hlt : i < l.length := by omega
      obtain ⟨p, rfl, hc⟩ := rd_get hr hlt
      refine ⟨p, rfl, by omega, by omega, _, hc, iteI (fun he => ?_) (fun he => ?_)⟩
      · refine ⟨?_, rfl⟩
        rw [e]
        congr 3
        rw [decide_eq_true (p := ∃ h : i < l.length, l[i] = t) ⟨hlt, he⟩]
      · refine ⟨by omega, by omega, _, hc, ?_⟩
        have nan : Does Try.prog 56 #[.int .i64 l[i]] w fun v w' => v = .bool false ∧ w = w' := by
          apply w56
          unfold F56
          exact ⟨by simp, rfl⟩
        refine nan.mono ?_
        rintro _ _ ⟨rfl, rfl⟩
        refine ⟨_, rfl, ?_⟩
        rw [if_neg (by simp)]
        refine ⟨?_, rfl⟩
        rw [e]
        congr 3
        rw [decide_eq_false (p := ∃ h : i < l.length, l[i] = t) (fun ⟨_, h⟩ => he h)]
    · refine ⟨?_, rfl⟩
      rw [e]
      congr 3
      rw [decide_eq_false (p := ∃ h : i < l.length, l[i] = t) (fun ⟨h, _⟩ => by omega)]
end Go.Proofs.Ytcgkmmiokmbjdaa
