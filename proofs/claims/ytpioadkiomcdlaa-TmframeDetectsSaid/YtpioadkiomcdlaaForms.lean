/-
  The forms of the functions, and their walks: written by a program of this claim (gen.py) off the elaborated translation.
-/
import Derived.Test.YtpioadkiomcdlaaProg
import Derived.Test.YtpioadkiomcdlaaBase
import Derived.KernelRfl
import Derived.Test.YtpioadkiomcdlaaFormsP0
import Derived.Test.YtpioadkiomcdlaaFormsP1
namespace Go.Proofs.Ytpioadkiomcdlaa
open Go Go.Sh Go.Proofs
set_option linter.unusedVariables false
/-- spacecraft spacecraftref01.bit -/
def F50 (b_a1 : Option Addr) (b_n2 : Nat) (b_c3 : Nat) (i4 : Int) (w5 : World) (k : Value → World → Prop) : Prop :=
  ∃ (p8 : Addr), b_a1 = some p8 ∧ (0 : Int) ≤ IntKind.i64.wrap (Int.tdiv i4 8) ∧ IntKind.i64.wrap (Int.tdiv i4 8) < (b_n2 : Int) ∧ ∃ (x10 : Int), w5.cell? (p8.add ((IntKind.i64.wrap (Int.tdiv i4 8)).toNat)) = some (.int .u8 x10) ∧ (0 : Int) ≤ IntKind.i64.wrap (7 - (Int.tmod i4 8)) ∧ k (.int .i64 (Int.tmod (shr .i64 (IntKind.i64.wrap x10) (IntKind.i64.wrap (7 - (Int.tmod i4 8)))) 2)) w5
set_option maxRecDepth 100000 in
set_option maxHeartbeats 2000000 in
theorem w50 (b_a1 : Option Addr) (b_n2 : Nat) (b_c3 : Nat) (i4 : Int) (w5 : World) (k : Value → World → Prop) (h : F50 b_a1 b_n2 b_c3 i4 w5 k) : Does Try.prog 50 #[.slice b_a1 b_n2 b_c3, .int .i64 i4] w5 k := by
  refine enter 16 Try.func50 rfl rfl rfl ?_
  intro ρ hρ
  have e0 := hρ 0 _ rfl
  have e1 := hρ 1 _ rfl
  unfold F50 at h
  refine WC_seq ?_
  refine WC_region ?_
  refine WL_val gd0 ((o_assign (v := .int .i64 0) rfl) _) rfl ?_
  refine WL_nil ?_
  refine nrm ?_
  refine WC_seq ?_
  refine WC_region ?_
  refine WL_val gd0 ((o_move (v := .slice b_a1 b_n2 b_c3) (by exact e0)) _) rfl ?_
  refine WL_val gd0 ((o_move (v := .int .i64 i4) (by exact e1)) _) rfl ?_
  refine WL_val gd0 ((fun w => o_quo rfl rfl w (by decide)) _) rfl ?_
  obtain ⟨p8, q9, h⟩ := h
  obtain ⟨l6, u7, h⟩ := h
  refine WL_val gd0 ((o_indexAddr1 Try.underlying22 Try.sizeOf5 (by exact (congrArg (fun z => Value.slice z b_n2 b_c3) q9)) rfl l6 u7) _) rfl ?_
  obtain ⟨x10, hc11, h⟩ := h
  refine WL_val gd0 (o_load Try.isAgg5 rfl hc11) rfl ?_
  refine WL_val gd0 ((o_conv Try.underlying5 Try.underlying3 rfl) _) rfl ?_
  refine WL_val gd0 ((o_move (v := .int .i64 i4) (by exact e1)) _) rfl ?_
  refine WL_val gd0 ((fun w => o_rem rfl rfl w (by decide)) _) rfl ?_
  refine WL_val gd0 ((o_sub rfl rfl) _) rfl ?_
  obtain ⟨c12, h⟩ := h
  refine WL_val gd0 ((o_shr rfl rfl c12) _) rfl ?_
  refine WL_val gd0 ((fun w => o_rem rfl rfl w (by decide)) _) rfl ?_
  refine WL_val gd0 ((o_assign (v := .int .i64 (Int.tmod (shr .i64 (IntKind.i64.wrap x10) (IntKind.i64.wrap (7 - (Int.tmod i4 8)))) 2)) rfl) _) rfl ?_
  refine WL_nil ?_
  refine nrm ?_
  refine WC_ret ?_
  refine rtE ?_
  exact gv1 rfl rfl h


end Go.Proofs.Ytpioadkiomcdlaa
