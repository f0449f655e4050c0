/-
  ParamsPlays: from the law's contract to the given statement.
-/
import Derived.Test.YtcdnljibefpchaaLaws3
import Derived.Test.YtcdnljibefpchaaOpen
import Derived.Test.YtcdnljibefpchaaRows
import Derived.Below
namespace Go.Proofs.Ytcdnljibefpchaa
open Go Go.Sh Go.ChangeShapes Go.WideShapes Go.ChangeAt Go.RowKit
set_option linter.unusedVariables false

theorem own : ownKnob Try.prog.godebug = none := by kernel_rfl
theorem laidOut : laidOutB Try.prog = true := by kernel_rfl

theorem paramsPlays_walk (a : Option Addr) (l : List (Int × Int × Bool × Int)) (ca : Nat) (ao : Option Addr) (O : List (Int × Int × Int × (Option Addr × List Int × Nat))) (co : Nat) (w : World)
    (hr : Rd w a (l.flatMap pv)) (h1 : l.length ≤ ca) (h2 : ca ≤ maxLen) (hq : ∀ y ∈ l, (Lit.int .i64 y.1).wf = true ∧ (Lit.int .i64 y.2.1).wf = true ∧ True ∧ (Lit.int .i64 y.2.2.2).wf = true)
    (ho : Rd w ao (O.flatMap ov)) (h3 : O.length ≤ co) (h4 : co ≤ maxLen) (hoq : ∀ y ∈ O, (Lit.int .i64 y.1).wf = true ∧ (Lit.int .i64 y.2.1).wf = true ∧ (Lit.int .i64 y.2.2.1).wf = true ∧ (Rd w y.2.2.2.1 (y.2.2.2.2.1.map (Value.int .i64)) ∧ y.2.2.2.2.1.length ≤ y.2.2.2.2.2 ∧ y.2.2.2.2.2 ≤ maxLen ∧ ∀ n ∈ y.2.2.2.2.1, (Lit.int .i64 n).wf = true)) :
    Does Try.prog 7 #[.slice a l.length ca, .slice ao O.length co] w fun v w' => v = .bool true ∧ Mod [] w w' := paramsPlays_ok ca co hr ho (fun y hy => (hoq y hy).2.2.2.1)

def cells43 (y : Int × Int × Bool × Int) : List Value := [.int .i64 y.1, .int .i64 y.2.1, .bool y.2.2.1, .int .i64 y.2.2.2]
def good43 (W : World) (y : Int × Int × Bool × Int) : Prop := (Lit.int .i64 y.1).wf = true ∧ (Lit.int .i64 y.2.1).wf = true ∧ True ∧ (Lit.int .i64 y.2.2.2).wf = true
theorem el43 {W : World} {H : Type} {enc : TypeId × Value → H} (n : Nat) (cs : List Value) (x : DataW H × List MemPlace) (hl : cs.length = 4) (h : DataW.trod enc Try.prog W 0 (fun _ => true) true n 43 cs = some x) : ∃ y : Int × Int × Bool × Int, cs = cells43 y ∧ good43 W y := by
  obtain ⟨xs, m, hk, hxy, _, hxl, hf⟩ := DataW.trod_struct Try.underlying43 h
  match xs, hxl, cs, hl with
  | [y0, y1, y2, y3], _, [v0, v1, v2, v3], _ =>
    have c3 : Try.prog.cellsOf 3 = 1 := by kernel_rfl
    have c4 : Try.prog.cellsOf 4 = 1 := by kernel_rfl
    have g0 := hf 0 _ rfl
    simp [c3] at g0
    obtain ⟨z0, e0, _, w0⟩ := DataW.trod_int Try.underlying3 g0
    simp at e0
    have g1 := hf 1 _ rfl
    simp [c3] at g1
    obtain ⟨z1, e1, _, w1⟩ := DataW.trod_int Try.underlying3 g1
    simp at e1
    have g2 := hf 2 _ rfl
    simp [c4] at g2
    obtain ⟨z2, e2, _⟩ := DataW.trod_bool Try.underlying4 g2
    simp at e2
    have g3 := hf 3 _ rfl
    simp [c3] at g3
    obtain ⟨z3, e3, _, w3⟩ := DataW.trod_int Try.underlying3 g3
    simp at e3
    exact ⟨(z0, z1, z2, z3), by simp [cells43, e0, e1, e2, e3], ⟨w0, w1, trivial, w3⟩⟩

def cells54 (y : Int × Int × Int × (Option Addr × List Int × Nat)) : List Value := [.int .i64 y.1, .int .i64 y.2.1, .int .i64 y.2.2.1, .slice y.2.2.2.1 y.2.2.2.2.1.length y.2.2.2.2.2]
def good54 (W : World) (y : Int × Int × Int × (Option Addr × List Int × Nat)) : Prop := (Lit.int .i64 y.1).wf = true ∧ (Lit.int .i64 y.2.1).wf = true ∧ (Lit.int .i64 y.2.2.1).wf = true ∧ (Rd W y.2.2.2.1 (y.2.2.2.2.1.map (Value.int .i64)) ∧ y.2.2.2.2.1.length ≤ y.2.2.2.2.2 ∧ y.2.2.2.2.2 ≤ maxLen ∧ ∀ n ∈ y.2.2.2.2.1, (Lit.int .i64 n).wf = true)
theorem el54 {W : World} {H : Type} {enc : TypeId × Value → H} (n : Nat) (cs : List Value) (x : DataW H × List MemPlace) (hl : cs.length = 4) (h : DataW.trod enc Try.prog W 0 (fun _ => true) true n 54 cs = some x) : ∃ y : Int × Int × Int × (Option Addr × List Int × Nat), cs = cells54 y ∧ good54 W y := by
  obtain ⟨xs, m, hk, hxy, _, hxl, hf⟩ := DataW.trod_struct Try.underlying54 h
  match xs, hxl, cs, hl with
  | [y0, y1, y2, y3], _, [v0, v1, v2, v3], _ =>
    have c3 : Try.prog.cellsOf 3 = 1 := by kernel_rfl
    have c23 : Try.prog.cellsOf 23 = 1 := by kernel_rfl
    have g0 := hf 0 _ rfl
    simp [c3] at g0
    obtain ⟨z0, e0, _, w0⟩ := DataW.trod_int Try.underlying3 g0
    simp at e0
    have g1 := hf 1 _ rfl
    simp [c3] at g1
    obtain ⟨z1, e1, _, w1⟩ := DataW.trod_int Try.underlying3 g1
    simp at e1
    have g2 := hf 2 _ rfl
    simp [c3] at g2
    obtain ⟨z2, e2, _, w2⟩ := DataW.trod_int Try.underlying3 g2
    simp at e2
    have g3 := hf 3 _ rfl
    simp [c23] at g3
    obtain ⟨a3, l3, q3, e3, r3⟩ := open_ints1 Try.underlying23 Try.underlying3 (by kernel_rfl) g3
    simp at e3
    exact ⟨(z0, z1, z2, (a3, l3, q3)), by simp [cells54, e0, e1, e2, e3], ⟨w0, w1, w2, r3⟩⟩

set_option maxRecDepth 100000 in
theorem paramsPlays_lifted (os : Os) (started : os.Started) (H : Type) (enc : TypeId × Value → H) :
    ReturnsInHanded {} Try.checked os 7 .any (Rows.paramsPlaysSpec.pre6 enc Try.prog Try.f7 Rows.paramsPlaysRow.domain false) (Rows.paramsPlaysSpec.post enc Try.prog Try.f7 false true false false) := by
  refine returnsInHanded_of_change (C := Try.checked) own started (by kernel_rfl) Try.func7
    (ChangeSpec.witness6 (enc := enc) (C := Try.checked) false ⟨#[], #[.slice none 0 0, .slice none 0 0], []⟩ 8 (by kernel_rfl) (by kernel_rfl) (by kernel_rfl) (by kernel_rfl)) ?_
  intro W base args ds gs before hval0 hW hcnd _
  have hval : ∀ (j : Nat) t v, Try.f7.params[j]? = some t → args[j]? = some v → Value.okWide Try.prog W .any base t v := hval0
  have hW' := hW
  obtain ⟨p, q, hA0, hV, rfl, hfz, hnd⟩ := hW
  have hA : DataW.TrodAll enc Try.prog W 0 (fun _ => true) true Try.f7.params.toList args.toList ds p := hA0
  rw [Try.params7] at hA hval
  obtain ⟨v0, vs0, d0, ds0, p0, q0, hargs, rfl, rfl, h0, r0⟩ := trodAll_cons hA
  obtain ⟨v1, vs1, d1, ds1, p1, q1, rfl, rfl, rfl, h1, r1⟩ := trodAll_cons r0
  obtain ⟨rfl, rfl, rfl⟩ := trodAll_nil r1
  obtain rfl : args = #[v0, v1] := by cases args; simp_all
  obtain ⟨rfl, rfl⟩ := trodVars_none hV
  obtain ⟨a0, len0, cap0, rfl⟩ := okWide_slice Try.underlying22 (hval 0 22 v0 rfl rfl)
  have k0 := h0
  have lt0 : ∀ x ∈ p0, x.block < W.heap.size := by obtain ⟨m, hm⟩ := k0; exact DataW.trod_lt m _ _ _ hm
  obtain ⟨l0, rfl, rd0, le0, mx0, qs0⟩ := open_slice_of cells43 (good43 W) Try.underlying22 (by kernel_rfl) (fun n cs x hl h => el43 n cs x hl h) h0
  obtain ⟨a1, len1, cap1, rfl⟩ := okWide_slice Try.underlying48 (hval 1 48 v1 rfl rfl)
  have k1 := h1
  have lt1 : ∀ x ∈ p1, x.block < W.heap.size := by obtain ⟨m, hm⟩ := k1; exact DataW.trod_lt m _ _ _ hm
  obtain ⟨l1, rfl, rd1, le1, mx1, qs1⟩ := open_slice_of cells54 (good54 W) Try.underlying48 (by kernel_rfl) (fun n cs x hl h => el54 n cs x hl h) h1
  clear hA0 hval0
  refine Calls.mono (paramsPlays_walk a0 l0 cap0 a1 l1 cap1 W rd0 le0 mx0 (fun y hy => (qs0 y hy).1) rd1 le1 mx1 (fun y hy => (qs1 y hy).1)) fun e W' he => ?_
  obtain ⟨v, rfl, rfl, hm⟩ := he
  have bel := hm.below
  exact ⟨_, rfl, _, _, _, [], _, [], hW', trodAll_mk1 (shut_bool Try.underlying4 _), (trodAll_cons_mk (Below.trod laidOut (by kernel_rfl) (of_decide_eq_true (by kernel_rfl)) k0 bel lt0) (trodAll_cons_mk (Below.trod laidOut (by kernel_rfl) (of_decide_eq_true (by kernel_rfl)) k1 bel lt1) trodAll_mk0)), rfl, bel.frame _, fun h => by cases h⟩

theorem paramsPlays_holds : Rows.ParamsPlaysSaid :=
  OpenClaim.holds_of_wide 7 Try.f7 rfl rfl rfl rfl rfl rfl rfl ⟨rfl, rfl, rfl, rfl, rfl⟩ rfl rfl rfl rfl rfl (by kernel_rfl) Try.func7 (by kernel_rfl)
    (of_decide_eq_true (by kernel_rfl)) (by unfold Func.isWrapper; rw [if_neg (of_decide_eq_false (by kernel_rfl))]; exact ⟨rfl, rfl⟩)
    (fun os started H enc _ => paramsPlays_lifted os started H enc)
#print axioms paramsPlays_holds
end Go.Proofs.Ytcdnljibefpchaa
