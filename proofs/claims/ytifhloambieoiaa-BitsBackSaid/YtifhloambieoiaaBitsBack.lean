/-
  BitsBack: from the law's contract to the given statement.
-/
import Derived.Test.YtifhloambieoiaaLaws3
import Derived.Test.YtifhloambieoiaaOpen
import Derived.Test.YtifhloambieoiaaRows
import Derived.Below
namespace Go.Proofs.Ytifhloambieoiaa
open Go Go.Sh Go.ChangeShapes Go.WideShapes Go.ChangeAt Go.RowKit
set_option linter.unusedVariables false

theorem own : ownKnob Try.prog.godebug = none := by kernel_rfl
theorem laidOut : laidOutB Try.prog = true := by kernel_rfl

theorem bitsBack_walk (a : Option Addr) (l : List (Nat × Int)) (cap : Nat) (w : World) (hr : Rd w a (l.flatMap fv)) (h1 : l.length ≤ cap) (h2 : cap ≤ maxLen) (hq : ∀ y ∈ l, y.1 < 2 ^ 64 ∧ (Lit.int .i64 y.2).wf = true) :
    Does Try.prog 4 #[.slice a l.length cap] w fun v w' => v = .bool true ∧ Mod [] w w' := bitsBack_ok a l cap w (fun f hf => (hq f hf).1) hr

def cells33 (y : Nat × Int) : List Value := [.int .u64 (y.1 : Int), .int .i64 y.2]
def good33 (y : Nat × Int) : Prop := y.1 < 2 ^ 64 ∧ (Lit.int .i64 y.2).wf = true
theorem el33 {W : World} {H : Type} {enc : TypeId × Value → H} (n : Nat) (cs : List Value) (x : DataW H × List MemPlace) (hl : cs.length = 2) (h : DataW.trod enc Try.prog W 0 (fun _ => true) true n 33 cs = some x) : ∃ y : Nat × Int, cs = cells33 y ∧ good33 y := by
  obtain ⟨xs, m, hk, hxy, _, hxl, hf⟩ := DataW.trod_struct Try.underlying33 h
  match xs, hxl, cs, hl with
  | [y0, y1], _, [v0, v1], _ =>
    have c3 : Try.prog.cellsOf 3 = 1 := by kernel_rfl
    have c31 : Try.prog.cellsOf 31 = 1 := by kernel_rfl
    have g0 := hf 0 _ rfl
    simp [c31] at g0
    obtain ⟨z0, e0, _, w0⟩ := DataW.trod_int Try.underlying31 g0
    obtain ⟨m0, rfl, b0⟩ := nat_of_wf rfl w0
    simp at e0
    have g1 := hf 1 _ rfl
    simp [c3] at g1
    obtain ⟨z1, e1, _, w1⟩ := DataW.trod_int Try.underlying3 g1
    simp at e1
    exact ⟨(m0, z1), by simp [cells33, e0, e1], ⟨b0, w1⟩⟩

set_option maxRecDepth 100000 in
theorem bitsBack_lifted (os : Os) (started : os.Started) (H : Type) (enc : TypeId × Value → H) :
    ReturnsInHanded {} Try.checked os 4 .any (Rows.bitsBackSpec.pre6 enc Try.prog Try.f4 Rows.bitsBackRow.domain false) (Rows.bitsBackSpec.post enc Try.prog Try.f4 false true false false) := by
  refine returnsInHanded_of_change (C := Try.checked) own started (by kernel_rfl) Try.func4
    (ChangeSpec.witness6 (enc := enc) (C := Try.checked) false ⟨#[], #[.slice none 0 0], []⟩ 8 (by kernel_rfl) (by kernel_rfl) (by kernel_rfl) (by kernel_rfl)) ?_
  intro W base args ds gs before hval0 hW hcnd _
  have hval : ∀ (j : Nat) t v, Try.f4.params[j]? = some t → args[j]? = some v → Value.okWide Try.prog W .any base t v := hval0
  have hW' := hW
  obtain ⟨p, q, hA0, hV, rfl, hfz, hnd⟩ := hW
  have hA : DataW.TrodAll enc Try.prog W 0 (fun _ => true) true Try.f4.params.toList args.toList ds p := hA0
  rw [Try.params4] at hA hval
  obtain ⟨v0, vs0, d0, ds0, p0, q0, hargs, rfl, rfl, h0, r0⟩ := trodAll_cons hA
  obtain ⟨rfl, rfl, rfl⟩ := trodAll_nil r0
  obtain rfl : args = #[v0] := by cases args; simp_all
  obtain ⟨rfl, rfl⟩ := trodVars_none hV
  obtain ⟨a0, len0, cap0, rfl⟩ := okWide_slice Try.underlying22 (hval 0 22 v0 rfl rfl)
  have k0 := h0
  have lt0 : ∀ x ∈ p0, x.block < W.heap.size := by obtain ⟨m, hm⟩ := k0; exact DataW.trod_lt m _ _ _ hm
  obtain ⟨l0, rfl, rd0, le0, mx0, qs0⟩ := open_slice_of cells33 good33 Try.underlying22 (by kernel_rfl) (fun n cs x hl h => el33 n cs x hl h) h0
  clear hA0 hval0
  refine Calls.mono (bitsBack_walk a0 l0 cap0 W rd0 le0 mx0 (fun y hy => (qs0 y hy).1)) fun e W' he => ?_
  obtain ⟨v, rfl, rfl, hm⟩ := he
  have bel := hm.below
  exact ⟨_, rfl, _, _, _, [], _, [], hW', trodAll_mk1 (shut_bool Try.underlying4 _), (trodAll_cons_mk (Below.trod laidOut (by kernel_rfl) (of_decide_eq_true (by kernel_rfl)) k0 bel lt0) trodAll_mk0), rfl, bel.frame _, fun h => by cases h⟩

theorem bitsBack_holds : Rows.BitsBackSaid :=
  OpenClaim.holds_of_wide 4 Try.f4 rfl rfl rfl rfl rfl rfl rfl ⟨rfl, rfl, rfl, rfl, rfl⟩ rfl rfl rfl rfl rfl (by kernel_rfl) Try.func4 (by kernel_rfl)
    (of_decide_eq_true (by kernel_rfl)) (by unfold Func.isWrapper; rw [if_neg (of_decide_eq_false (by kernel_rfl))]; exact ⟨rfl, rfl⟩)
    (fun os started H enc _ => bitsBack_lifted os started H enc)
#print axioms bitsBack_holds
end Go.Proofs.Ytifhloambieoiaa
