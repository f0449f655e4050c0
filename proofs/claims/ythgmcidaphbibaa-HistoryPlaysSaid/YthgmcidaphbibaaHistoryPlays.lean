/-
  HistoryPlays: from the law's contract to the given statement.
-/
import Derived.Test.YthgmcidaphbibaaLaws
import Derived.Test.YthgmcidaphbibaaOpen
import Derived.Test.YthgmcidaphbibaaRows
import Derived.Below
namespace Go.Proofs.Ythgmcidaphbibaa
open Go Go.Sh Go.ChangeShapes Go.WideShapes Go.ChangeAt Go.RowKit
set_option linter.unusedVariables false

theorem own : ownKnob Try.prog.godebug = none := by kernel_rfl
theorem laidOut : laidOutB Try.prog = true := by kernel_rfl

theorem historyPlays_walk (n : Int) (b : Option Addr) (fs : List (Bool × Int)) (cap : Nat) (w : World) (wn : (Lit.int .i64 n).wf = true) (hr : Rd w b (fs.flatMap sv)) (h3 : fs.length ≤ cap) (h4 : cap ≤ maxLen) (hq : ∀ y ∈ fs, True ∧ (Lit.int .i64 y.2).wf = true) :
    Does Try.prog 3 #[.int .i64 n, .slice b fs.length cap] w fun v w' => v = .bool true ∧ Mod [] w w' := historyPlays_ok n b fs cap w hr

def cells31 (y : Bool × Int) : List Value := [.bool y.1, .int .i64 y.2]
def good31 (y : Bool × Int) : Prop := True ∧ (Lit.int .i64 y.2).wf = true
theorem el31 {W : World} {H : Type} {enc : TypeId × Value → H} (n : Nat) (cs : List Value) (x : DataW H × List MemPlace) (hl : cs.length = 2) (h : DataW.trod enc Try.prog W 0 (fun _ => true) true n 31 cs = some x) : ∃ y : Bool × Int, cs = cells31 y ∧ good31 y := by
  obtain ⟨xs, m, hk, hxy, _, hxl, hf⟩ := DataW.trod_struct Try.underlying31 h
  match xs, hxl, cs, hl with
  | [y0, y1], _, [v0, v1], _ =>
    have c3 : Try.prog.cellsOf 3 = 1 := by kernel_rfl
    have c4 : Try.prog.cellsOf 4 = 1 := by kernel_rfl
    have g0 := hf 0 _ rfl
    simp [c4] at g0
    obtain ⟨z0, e0, _⟩ := DataW.trod_bool Try.underlying4 g0
    simp at e0
    have g1 := hf 1 _ rfl
    simp [c3] at g1
    obtain ⟨z1, e1, _, w1⟩ := DataW.trod_int Try.underlying3 g1
    simp at e1
    exact ⟨(z0, z1), by simp [cells31, e0, e1], ⟨trivial, w1⟩⟩

set_option maxRecDepth 100000 in
theorem historyPlays_lifted (os : Os) (started : os.Started) (H : Type) (enc : TypeId × Value → H) :
    ReturnsInHanded {} Try.checked os 3 .any (Rows.historyPlaysSpec.pre6 enc Try.prog Try.f3 Rows.historyPlaysRow.domain false) (Rows.historyPlaysSpec.post enc Try.prog Try.f3 false true false false) := by
  refine returnsInHanded_of_change (C := Try.checked) own started (by kernel_rfl) Try.func3
    (ChangeSpec.witness6 (enc := enc) (C := Try.checked) false ⟨#[], #[.int .i64 0, .slice none 0 0], []⟩ 8 (by kernel_rfl) (by kernel_rfl) (by kernel_rfl) (by kernel_rfl)) ?_
  intro W base args ds gs before hval0 hW hcnd _
  have hval : ∀ (j : Nat) t v, Try.f3.params[j]? = some t → args[j]? = some v → Value.okWide Try.prog W .any base t v := hval0
  have hW' := hW
  obtain ⟨p, q, hA0, hV, rfl, hfz, hnd⟩ := hW
  have hA : DataW.TrodAll enc Try.prog W 0 (fun _ => true) true Try.f3.params.toList args.toList ds p := hA0
  rw [Try.params3] at hA hval
  obtain ⟨v0, vs0, d0, ds0, p0, q0, hargs, rfl, rfl, h0, r0⟩ := trodAll_cons hA
  obtain ⟨v1, vs1, d1, ds1, p1, q1, rfl, rfl, rfl, h1, r1⟩ := trodAll_cons r0
  obtain ⟨rfl, rfl, rfl⟩ := trodAll_nil r1
  obtain rfl : args = #[v0, v1] := by cases args; simp_all
  obtain ⟨rfl, rfl⟩ := trodVars_none hV
  obtain ⟨n0, rfl, rfl, rfl, w0⟩ := open_int Try.underlying3 (hval 0 3 v0 rfl rfl) h0
  obtain ⟨a1, len1, cap1, rfl⟩ := okWide_slice Try.underlying22 (hval 1 22 v1 rfl rfl)
  have k1 := h1
  have lt1 : ∀ x ∈ p1, x.block < W.heap.size := by obtain ⟨m, hm⟩ := k1; exact DataW.trod_lt m _ _ _ hm
  obtain ⟨l1, rfl, rd1, le1, mx1, qs1⟩ := open_slice_of cells31 good31 Try.underlying22 (by kernel_rfl) (fun n cs x hl h => el31 n cs x hl h) h1
  clear hA0 hval0
  refine Calls.mono (historyPlays_walk n0 a1 l1 cap1 W w0 rd1 le1 mx1 (fun y hy => (qs1 y hy).1)) fun e W' he => ?_
  obtain ⟨v, rfl, rfl, hm⟩ := he
  have bel := hm.below
  exact ⟨_, rfl, _, _, _, [], _, [], hW', trodAll_mk1 (shut_bool Try.underlying4 _), (trodAll_cons_mk (shut_int Try.underlying3 w0) (trodAll_cons_mk (Below.trod laidOut (by kernel_rfl) (of_decide_eq_true (by kernel_rfl)) k1 bel lt1) trodAll_mk0)), rfl, bel.frame _, fun h => by cases h⟩

theorem historyPlays_holds : Rows.HistoryPlaysSaid :=
  OpenClaim.holds_of_wide 3 Try.f3 rfl rfl rfl rfl rfl rfl rfl ⟨rfl, rfl, rfl, rfl, rfl⟩ rfl rfl rfl rfl rfl (by kernel_rfl) Try.func3 (by kernel_rfl)
    (of_decide_eq_true (by kernel_rfl)) (by unfold Func.isWrapper; rw [if_neg (of_decide_eq_false (by kernel_rfl))]; exact ⟨rfl, rfl⟩)
    (fun os started H enc _ => historyPlays_lifted os started H enc)
#print axioms historyPlays_holds
end Go.Proofs.Ythgmcidaphbibaa
