/-
  The contract of bytes.Equal.
-/
import Derived.Test.YtpioadkiomcdlaaForms
import Derived.Test.YtpioadkiomcdlaaHeap
namespace Go.Proofs.Ytpioadkiomcdlaa
open Go Go.Sh Go.Proofs
set_option linter.unusedVariables false
theorem bytesEqual_ok {w : World} {a b : Option Addr} {l m : List UInt8} (c d : Nat) (ha : Rd w a (l.map bv)) (hb : Rd w b (m.map bv)) : Does Try.prog 35 #[.slice a l.length c, .slice b m.length d] w fun v w' => v = .bool (l == m) ∧ w = w' := by
  apply w35
  unfold F35
  refine ⟨_, toStr_ok c ha, _, toStr_ok d hb, ?_, rfl⟩
  rw [strEq]
end Go.Proofs.Ytpioadkiomcdlaa
