/-
  slices.Delete, for slices of hk.entry.
-/
import Derived.Test.YtcgkmmiokmbjdaaForms
import Derived.Test.YtcgkmmiokmbjdaaHeap
namespace Go.Proofs.Ytcgkmmiokmbjdaa
open Go Go.Sh Go.Proofs
set_option linter.unusedVariables false
set_option linter.unusedSimpArgs false
theorem elemDhkentry : Elem Try.prog 66 5 56 := Elem.of (v := (.agg #[.int .i64 0, .int .i64 0, .bool false, .slice none 0 0, .int .i64 0])) (by kernel_rfl) rfl (by decide)
theorem delete_hkentry {w : World} {a : Option Addr} {n c i j : Nat} {vs : List Value} (ho : Win w 66 5 a n c vs) (h1 : ∀ u ∈ vs, one u = true) (hij : i ≤ j) (hjn : j ≤ n) :
    Does Try.prog 25 #[.slice a n c, .int .i64 (i : Int), .int .i64 (j : Int)] w fun v w' => v = .slice a (i + (n - j)) c ∧ Win w' 66 5 a (i + (n - j)) c (vs.take (i * 5) ++ vs.drop (j * 5)) ∧ Mod (fp a) w w' := by
  apply w25
  unfold F25
  have hle := ho.2.1
  simp only [Int.toNat_natCast]
  refine ⟨by omega, by omega, by omega, by omega, iteI (fun h => ?_) (fun h => ?_)⟩
  · have : i = j := by omega
    subst this
    rw [show i + (n - i) = n by omega, List.take_append_drop]
    exact ⟨rfl, ho, Mod.refl _⟩
  · obtain ⟨w1, run1, w2, run2, o2, m2⟩ := win_delete (ty := 45) Try.underlying45 elemDhkentry Try.zeroValue66 rfl (by simp [Value.cells, one]) (ho.mod (Mod.drew (S := []) w) (by simp)) h1 hij hjn
    exact ⟨by omega, by omega, by omega, by omega, _, _, _, w1, run1, by omega, by omega, by omega, w2, run2, rfl, o2, ((Mod.drew (S := []) w).weaken (by simp)).trans m2 (fun x hx => .inl hx)⟩
end Go.Proofs.Ytcgkmmiokmbjdaa
