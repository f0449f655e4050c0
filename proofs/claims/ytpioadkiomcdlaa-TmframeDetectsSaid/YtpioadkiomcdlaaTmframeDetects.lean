/-
  TmframeDetects: from the law's contract to the given statement.
-/
import Derived.Test.YtpioadkiomcdlaaLaws2
import Derived.Test.YtpioadkiomcdlaaOpen
import Derived.Test.YtpioadkiomcdlaaRows
import Derived.Below
namespace Go.Proofs.Ytpioadkiomcdlaa
open Go Go.Sh Go.ChangeShapes Go.WideShapes Go.ChangeAt Go.RowKit
set_option linter.unusedVariables false

theorem own : ownKnob Try.prog.godebug = none := by kernel_rfl
theorem laidOut : laidOutB Try.prog = true := by kernel_rfl

theorem tmframeDetects_walk (y : Int × Int × Int × Int × Int × (Option Addr × List UInt8 × Nat) × (Int × Bool × Bool × Bool × Int × Int)) (b : Int) (w : World) (hy : (Lit.int .i64 y.1).wf = true ∧ (Lit.int .i64 y.2.1).wf = true ∧ (Lit.int .i64 y.2.2.1).wf = true ∧ (Lit.int .i64 y.2.2.2.1).wf = true ∧ (Lit.int .i64 y.2.2.2.2.1).wf = true ∧ (Rd w y.2.2.2.2.2.1.1 (y.2.2.2.2.2.1.2.1.map bv) ∧ y.2.2.2.2.2.1.2.1.length ≤ y.2.2.2.2.2.1.2.2 ∧ y.2.2.2.2.2.1.2.2 ≤ maxLen) ∧ ((Lit.int .i64 y.2.2.2.2.2.2.1).wf = true ∧ True ∧ True ∧ True ∧ (Lit.int .i64 y.2.2.2.2.2.2.2.2.2.2.1).wf = true ∧ (Lit.int .i64 y.2.2.2.2.2.2.2.2.2.2.2).wf = true)) (hb : (Lit.int .i64 b).wf = true) :
    Does Try.prog 7 #[.agg #[.int .i64 y.1, .int .i64 y.2.1, .int .i64 y.2.2.1, .int .i64 y.2.2.2.1, .int .i64 y.2.2.2.2.1, .slice y.2.2.2.2.2.1.1 y.2.2.2.2.2.1.2.1.length y.2.2.2.2.2.1.2.2, .int .i64 y.2.2.2.2.2.2.1, .bool y.2.2.2.2.2.2.2.1, .bool y.2.2.2.2.2.2.2.2.1, .bool y.2.2.2.2.2.2.2.2.2.1, .int .i64 y.2.2.2.2.2.2.2.2.2.2.1, .int .i64 y.2.2.2.2.2.2.2.2.2.2.2], .int .i64 b] w fun v w' => v = .bool true ∧ Mod [] w w' := tmframeDetects_ok ⟨y.1, y.2.1, y.2.2.1, y.2.2.2.1, y.2.2.2.2.1, y.2.2.2.2.2.1.2.1, ⟨y.2.2.2.2.2.2.1, y.2.2.2.2.2.2.2.1, y.2.2.2.2.2.2.2.2.1, y.2.2.2.2.2.2.2.2.2.1, y.2.2.2.2.2.2.2.2.2.2.1, y.2.2.2.2.2.2.2.2.2.2.2⟩⟩ b (i64_of_wf hb) hy.2.2.2.2.2.1.1

def cells24 (y : Int × Bool × Bool × Bool × Int × Int) : List Value := [.int .i64 y.1, .bool y.2.1, .bool y.2.2.1, .bool y.2.2.2.1, .int .i64 y.2.2.2.2.1, .int .i64 y.2.2.2.2.2]
def good24 (W : World) (y : Int × Bool × Bool × Bool × Int × Int) : Prop := (Lit.int .i64 y.1).wf = true ∧ True ∧ True ∧ True ∧ (Lit.int .i64 y.2.2.2.2.1).wf = true ∧ (Lit.int .i64 y.2.2.2.2.2).wf = true
theorem el24 {W : World} {H : Type} {enc : TypeId × Value → H} (n : Nat) (cs : List Value) (x : DataW H × List MemPlace) (hl : cs.length = 6) (h : DataW.trod enc Try.prog W 0 (fun _ => true) true n 24 cs = some x) : ∃ y : Int × Bool × Bool × Bool × Int × Int, cs = cells24 y ∧ good24 W y := by
  obtain ⟨xs, m, hk, hxy, _, hxl, hf⟩ := DataW.trod_struct Try.underlying24 h
  match xs, hxl, cs, hl with
  | [y0, y1, y2, y3, y4, y5], _, [v0, v1, v2, v3, v4, v5], _ =>
    have c3 : Try.prog.cellsOf 3 = 1 := by kernel_rfl
    have c4 : Try.prog.cellsOf 4 = 1 := by kernel_rfl
    have g0 := hf 0 _ rfl
    simp [c3] at g0
    obtain ⟨z0, e0, _, w0⟩ := DataW.trod_int Try.underlying3 g0
    simp at e0
    have g1 := hf 1 _ rfl
    simp [c4] at g1
    obtain ⟨z1, e1, _⟩ := DataW.trod_bool Try.underlying4 g1
    simp at e1
    have g2 := hf 2 _ rfl
    simp [c4] at g2
    obtain ⟨z2, e2, _⟩ := DataW.trod_bool Try.underlying4 g2
    simp at e2
    have g3 := hf 3 _ rfl
    simp [c4] at g3
    obtain ⟨z3, e3, _⟩ := DataW.trod_bool Try.underlying4 g3
    simp at e3
    have g4 := hf 4 _ rfl
    simp [c3] at g4
    obtain ⟨z4, e4, _, w4⟩ := DataW.trod_int Try.underlying3 g4
    simp at e4
    have g5 := hf 5 _ rfl
    simp [c3] at g5
    obtain ⟨z5, e5, _, w5⟩ := DataW.trod_int Try.underlying3 g5
    simp at e5
    exact ⟨(z0, z1, z2, z3, z4, z5), by simp [cells24, e0, e1, e2, e3, e4, e5], ⟨w0, trivial, trivial, trivial, w4, w5⟩⟩

def cells26 (y : Int × Int × Int × Int × Int × (Option Addr × List UInt8 × Nat) × (Int × Bool × Bool × Bool × Int × Int)) : List Value := [.int .i64 y.1, .int .i64 y.2.1, .int .i64 y.2.2.1, .int .i64 y.2.2.2.1, .int .i64 y.2.2.2.2.1, .slice y.2.2.2.2.2.1.1 y.2.2.2.2.2.1.2.1.length y.2.2.2.2.2.1.2.2] ++ cells24 y.2.2.2.2.2.2
def good26 (W : World) (y : Int × Int × Int × Int × Int × (Option Addr × List UInt8 × Nat) × (Int × Bool × Bool × Bool × Int × Int)) : Prop := (Lit.int .i64 y.1).wf = true ∧ (Lit.int .i64 y.2.1).wf = true ∧ (Lit.int .i64 y.2.2.1).wf = true ∧ (Lit.int .i64 y.2.2.2.1).wf = true ∧ (Lit.int .i64 y.2.2.2.2.1).wf = true ∧ (Rd W y.2.2.2.2.2.1.1 (y.2.2.2.2.2.1.2.1.map bv) ∧ y.2.2.2.2.2.1.2.1.length ≤ y.2.2.2.2.2.1.2.2 ∧ y.2.2.2.2.2.1.2.2 ≤ maxLen) ∧ good24 W y.2.2.2.2.2.2
theorem el26 {W : World} {H : Type} {enc : TypeId × Value → H} (n : Nat) (cs : List Value) (x : DataW H × List MemPlace) (hl : cs.length = 12) (h : DataW.trod enc Try.prog W 0 (fun _ => true) true n 26 cs = some x) : ∃ y : Int × Int × Int × Int × Int × (Option Addr × List UInt8 × Nat) × (Int × Bool × Bool × Bool × Int × Int), cs = cells26 y ∧ good26 W y := by
  obtain ⟨xs, m, hk, hxy, _, hxl, hf⟩ := DataW.trod_struct Try.underlying26 h
  match xs, hxl, cs, hl with
  | [y0, y1, y2, y3, y4, y5, y6], _, [v0, v1, v2, v3, v4, v5, v6, v7, v8, v9, v10, v11], _ =>
    have c3 : Try.prog.cellsOf 3 = 1 := by kernel_rfl
    have c22 : Try.prog.cellsOf 22 = 1 := by kernel_rfl
    have c24 : Try.prog.cellsOf 24 = 6 := by kernel_rfl
    have g0 := hf 0 _ rfl
    simp [c3] at g0
    obtain ⟨z0, e0, _, w0⟩ := DataW.trod_int Try.underlying3 g0
    simp at e0
    have g1 := hf 1 _ rfl
    simp [c3] at g1
    obtain ⟨z1, e1, _, w1⟩ := DataW.trod_int Try.underlying3 g1
    simp at e1
    have g2 := hf 2 _ rfl
    simp [c3] at g2
    obtain ⟨z2, e2, _, w2⟩ := DataW.trod_int Try.underlying3 g2
    simp at e2
    have g3 := hf 3 _ rfl
    simp [c3] at g3
    obtain ⟨z3, e3, _, w3⟩ := DataW.trod_int Try.underlying3 g3
    simp at e3
    have g4 := hf 4 _ rfl
    simp [c3] at g4
    obtain ⟨z4, e4, _, w4⟩ := DataW.trod_int Try.underlying3 g4
    simp at e4
    have g5 := hf 5 _ rfl
    simp [c22] at g5
    obtain ⟨a5, l5, q5, e5, r5, u5, x5⟩ := open_bytes1 Try.underlying22 Try.underlying5 (by kernel_rfl) g5
    simp at e5
    have g6 := hf 6 _ rfl
    simp [c24] at g6
    obtain ⟨z6, e6, w6⟩ := el24 _ _ _ rfl g6
    exact ⟨(z0, z1, z2, z3, z4, (a5, l5, q5), z6), by simp [cells26, e0, e1, e2, e3, e4, e5, ← e6], ⟨w0, w1, w2, w3, w4, ⟨r5, u5, x5⟩, w6⟩⟩

set_option maxRecDepth 100000 in
theorem tmframeDetects_lifted (os : Os) (started : os.Started) (H : Type) (enc : TypeId × Value → H) :
    ReturnsInHanded {} Try.checked os 7 .any (Rows.tmframeDetectsSpec.pre6 enc Try.prog Try.f7 Rows.tmframeDetectsRow.domain false) (Rows.tmframeDetectsSpec.post enc Try.prog Try.f7 false true false false) := by
  refine returnsInHanded_of_change (C := Try.checked) own started (by kernel_rfl) Try.func7
    (ChangeSpec.witness6 (enc := enc) (C := Try.checked) false ⟨#[], #[.agg #[.int .i64 0, .int .i64 0, .int .i64 0, .int .i64 0, .int .i64 0, .slice none 0 0, .int .i64 0, .bool false, .bool false, .bool false, .int .i64 0, .int .i64 0], .int .i64 0], []⟩ 8 (by kernel_rfl) (by kernel_rfl) (by kernel_rfl) (by kernel_rfl)) ?_
  intro W base args ds gs before hval0 hW hcnd _
  have hval : ∀ (j : Nat) t v, Try.f7.params[j]? = some t → args[j]? = some v → Value.okWide Try.prog W .any base t v := hval0
  have hW' := hW
  obtain ⟨p, q, hA0, hV, rfl, hfz, hnd⟩ := hW
  have hA : DataW.TrodAll enc Try.prog W 0 (fun _ => true) true Try.f7.params.toList args.toList ds p := hA0
  rw [Try.params7] at hA hval
  obtain ⟨v0, vs0, d0, ds0, p0, q0, hargs, rfl, rfl, h0, r0⟩ := trodAll_cons hA
  obtain ⟨v1, vs1, d1, ds1, p1, q1, rfl, rfl, rfl, h1, r1⟩ := trodAll_cons r0
  obtain ⟨rfl, rfl, rfl⟩ := trodAll_nil r1
  obtain rfl : args = #[v0, v1] := by cases args; simp_all
  obtain ⟨rfl, rfl⟩ := trodVars_none hV
  obtain ⟨⟨cs0⟩, rfl, sz0⟩ := okWide_struct Try.underlying26 (hval 0 26 v0 rfl rfl)
  have k0 := h0
  have lt0 : ∀ x ∈ p0, x.block < W.heap.size := by obtain ⟨m, hm⟩ := k0; exact DataW.trod_lt m _ _ _ hm
  obtain ⟨u0, hu0⟩ := h0
  obtain ⟨y0, rfl, qs0⟩ := el26 u0 cs0 _ ((show cs0.length = _ from sz0).trans (show Try.prog.cellsOf 26 = 12 by kernel_rfl)) hu0
  obtain ⟨n1, rfl, rfl, rfl, w1⟩ := open_int Try.underlying3 (hval 1 3 v1 rfl rfl) h1
  clear hA0 hval0
  refine Calls.mono (tmframeDetects_walk y0 n1 W qs0 w1) fun e W' he => ?_
  obtain ⟨v, rfl, rfl, hm⟩ := he
  have bel := hm.below
  exact ⟨_, rfl, _, _, _, [], _, [], hW', trodAll_mk1 (shut_bool Try.underlying4 _), (trodAll_cons_mk (Below.trod laidOut (by kernel_rfl) (of_decide_eq_true (by kernel_rfl)) k0 bel lt0) (trodAll_cons_mk (shut_int Try.underlying3 w1) trodAll_mk0)), rfl, bel.frame _, fun h => by cases h⟩

theorem tmframeDetects_holds : Rows.TmframeDetectsSaid :=
  OpenClaim.holds_of_wide 7 Try.f7 rfl rfl rfl rfl rfl rfl rfl ⟨rfl, rfl, rfl, rfl, rfl⟩ rfl rfl rfl rfl rfl (by kernel_rfl) Try.func7 (by kernel_rfl)
    (of_decide_eq_true (by kernel_rfl)) (by unfold Func.isWrapper; rw [if_neg (of_decide_eq_false (by kernel_rfl))]; exact ⟨rfl, rfl⟩)
    (fun os started H enc _ => tmframeDetects_lifted os started H enc)
#print axioms tmframeDetects_holds
end Go.Proofs.Ytpioadkiomcdlaa
