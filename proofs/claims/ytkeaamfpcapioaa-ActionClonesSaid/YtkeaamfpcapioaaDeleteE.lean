/-
  slices.Delete, for slices of action.entry.
-/
import Derived.Test.YtkeaamfpcapioaaForms
import Derived.Test.YtkeaamfpcapioaaHeap
namespace Go.Proofs.Ytkeaamfpcapioaa
open Go Go.Sh Go.Proofs
set_option linter.unusedVariables false
set_option linter.unusedSimpArgs false
theorem elemDactionentry : Elem Try.prog 54 7 88 := Elem.of (v := (.agg #[.int .i64 0, .bool false, .int .i64 0, .int .i64 0, .int .i64 0, .slice none 0 0, .slice none 0 0])) (by kernel_rfl) rfl (by decide)
theorem delete_actionentry {w : World} {a : Option Addr} {n c i j : Nat} {vs : List Value} (ho : Win w 54 7 a n c vs) (h1 : ∀ u ∈ vs, one u = true) (hij : i ≤ j) (hjn : j ≤ n) :
    Does Try.prog 28 #[.slice a n c, .int .i64 (i : Int), .int .i64 (j : Int)] w fun v w' => v = .slice a (i + (n - j)) c ∧ Win w' 54 7 a (i + (n - j)) c (vs.take (i * 7) ++ vs.drop (j * 7)) ∧ Mod (fp a) w w' := by
  apply w28
  unfold F28
  have hle := ho.2.1
  simp only [Int.toNat_natCast]
  refine ⟨by omega, by omega, by omega, by omega, iteI (fun h => ?_) (fun h => ?_)⟩
  · have : i = j := by omega
    subst this
    rw [show i + (n - i) = n by omega, List.take_append_drop]
    exact ⟨rfl, ho, Mod.refl _⟩
  · obtain ⟨w1, run1, w2, run2, o2, m2⟩ := win_delete (ty := 49) Try.underlying49 elemDactionentry Try.zeroValue54 rfl (by simp [Value.cells, one]) (ho.mod (Mod.drew (S := []) w) (by simp)) h1 hij hjn
    exact ⟨by omega, by omega, by omega, by omega, _, _, _, w1, run1, by omega, by omega, by omega, w2, run2, rfl, o2, ((Mod.drew (S := []) w).weaken (by simp)).trans m2 (fun x hx => .inl hx)⟩
end Go.Proofs.Ytkeaamfpcapioaa
