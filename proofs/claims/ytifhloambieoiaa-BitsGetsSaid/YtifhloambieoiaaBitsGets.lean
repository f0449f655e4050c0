/-
  BitsGets: from the law's contract to the given statement.
-/
import Derived.Test.YtifhloambieoiaaLaws3
import Derived.Test.YtifhloambieoiaaOpen
import Derived.Test.YtifhloambieoiaaRows
import Derived.Below
namespace Go.Proofs.Ytifhloambieoiaa
open Go Go.Sh Go.ChangeShapes Go.WideShapes Go.ChangeAt Go.RowKit
set_option linter.unusedVariables false

theorem own : ownKnob Try.prog.godebug = none := by kernel_rfl
theorem laidOut : laidOutB Try.prog = true := by kernel_rfl

theorem bitsGets_walk (a : Option Addr) (l : List UInt8) (cap : Nat) (b : Option Addr) (fs : List (Bool × Int)) (cap2 : Nat) (w : World) (hr : Rd w a (l.map bv)) (h1 : l.length ≤ cap) (h2 : cap ≤ maxLen) (hr' : Rd w b (fs.flatMap sv)) (h3 : fs.length ≤ cap2) (h4 : cap2 ≤ maxLen) (hq : ∀ y ∈ fs, True ∧ (Lit.int .i64 y.2).wf = true) :
    Does Try.prog 6 #[.slice a l.length cap, .slice b fs.length cap2] w fun v w' => v = .bool true ∧ Mod [] w w' := bitsGets_ok a b l fs cap cap2 w hr hr'

def cells49 (y : Bool × Int) : List Value := [.bool y.1, .int .i64 y.2]
def good49 (y : Bool × Int) : Prop := True ∧ (Lit.int .i64 y.2).wf = true
theorem el49 {W : World} {H : Type} {enc : TypeId × Value → H} (n : Nat) (cs : List Value) (x : DataW H × List MemPlace) (hl : cs.length = 2) (h : DataW.trod enc Try.prog W 0 (fun _ => true) true n 49 cs = some x) : ∃ y : Bool × Int, cs = cells49 y ∧ good49 y := by
  obtain ⟨xs, m, hk, hxy, _, hxl, hf⟩ := DataW.trod_struct Try.underlying49 h
  match xs, hxl, cs, hl with
  | [y0, y1], _, [v0, v1], _ =>
    have c3 : Try.prog.cellsOf 3 = 1 := by kernel_rfl
    have c4 : Try.prog.cellsOf 4 = 1 := by kernel_rfl
    have g0 := hf 0 _ rfl
    simp [c4] at g0
    obtain ⟨z0, e0, _⟩ := DataW.trod_bool Try.underlying4 g0
    simp at e0
    have g1 := hf 1 _ rfl
    simp [c3] at g1
    obtain ⟨z1, e1, _, w1⟩ := DataW.trod_int Try.underlying3 g1
    simp at e1
    exact ⟨(z0, z1), by simp [cells49, e0, e1], ⟨trivial, w1⟩⟩

set_option maxRecDepth 100000 in
theorem bitsGets_lifted (os : Os) (started : os.Started) (H : Type) (enc : TypeId × Value → H) :
    ReturnsInHanded {} Try.checked os 6 .any (Rows.bitsGetsSpec.pre6 enc Try.prog Try.f6 Rows.bitsGetsRow.domain false) (Rows.bitsGetsSpec.post enc Try.prog Try.f6 false true false false) := by
  refine returnsInHanded_of_change (C := Try.checked) own started (by kernel_rfl) Try.func6
    (ChangeSpec.witness6 (enc := enc) (C := Try.checked) false ⟨#[], #[.slice none 0 0, .slice none 0 0], []⟩ 8 (by kernel_rfl) (by kernel_rfl) (by kernel_rfl) (by kernel_rfl)) ?_
  intro W base args ds gs before hval0 hW hcnd _
  have hval : ∀ (j : Nat) t v, Try.f6.params[j]? = some t → args[j]? = some v → Value.okWide Try.prog W .any base t v := hval0
  have hW' := hW
  obtain ⟨p, q, hA0, hV, rfl, hfz, hnd⟩ := hW
  have hA : DataW.TrodAll enc Try.prog W 0 (fun _ => true) true Try.f6.params.toList args.toList ds p := hA0
  rw [Try.params6] at hA hval
  obtain ⟨v0, vs0, d0, ds0, p0, q0, hargs, rfl, rfl, h0, r0⟩ := trodAll_cons hA
  obtain ⟨v1, vs1, d1, ds1, p1, q1, rfl, rfl, rfl, h1, r1⟩ := trodAll_cons r0
  obtain ⟨rfl, rfl, rfl⟩ := trodAll_nil r1
  obtain rfl : args = #[v0, v1] := by cases args; simp_all
  obtain ⟨rfl, rfl⟩ := trodVars_none hV
  obtain ⟨a0, len0, cap0, rfl⟩ := okWide_slice Try.underlying27 (hval 0 27 v0 rfl rfl)
  have k0 := h0
  have lt0 : ∀ x ∈ p0, x.block < W.heap.size := by obtain ⟨m, hm⟩ := k0; exact DataW.trod_lt m _ _ _ hm
  obtain ⟨l0, rfl, rd0, le0, mx0⟩ := open_bytes Try.underlying27 Try.underlying5 (by kernel_rfl) h0
  obtain ⟨a1, len1, cap1, rfl⟩ := okWide_slice Try.underlying45 (hval 1 45 v1 rfl rfl)
  have k1 := h1
  have lt1 : ∀ x ∈ p1, x.block < W.heap.size := by obtain ⟨m, hm⟩ := k1; exact DataW.trod_lt m _ _ _ hm
  obtain ⟨l1, rfl, rd1, le1, mx1, qs1⟩ := open_slice_of cells49 good49 Try.underlying45 (by kernel_rfl) (fun n cs x hl h => el49 n cs x hl h) h1
  clear hA0 hval0
  refine Calls.mono (bitsGets_walk a0 l0 cap0 a1 l1 cap1 W rd0 le0 mx0 rd1 le1 mx1 (fun y hy => (qs1 y hy).1)) fun e W' he => ?_
  obtain ⟨v, rfl, rfl, hm⟩ := he
  have bel := hm.below
  exact ⟨_, rfl, _, _, _, [], _, [], hW', trodAll_mk1 (shut_bool Try.underlying4 _), (trodAll_cons_mk (Below.trod laidOut (by kernel_rfl) (of_decide_eq_true (by kernel_rfl)) k0 bel lt0) (trodAll_cons_mk (Below.trod laidOut (by kernel_rfl) (of_decide_eq_true (by kernel_rfl)) k1 bel lt1) trodAll_mk0)), rfl, bel.frame _, fun h => by cases h⟩

theorem bitsGets_holds : Rows.BitsGetsSaid :=
  OpenClaim.holds_of_wide 6 Try.f6 rfl rfl rfl rfl rfl rfl rfl ⟨rfl, rfl, rfl, rfl, rfl⟩ rfl rfl rfl rfl rfl (by kernel_rfl) Try.func6 (by kernel_rfl)
    (of_decide_eq_true (by kernel_rfl)) (by unfold Func.isWrapper; rw [if_neg (of_decide_eq_false (by kernel_rfl))]; exact ⟨rfl, rfl⟩)
    (fun os started H enc _ => bitsGets_lifted os started H enc)
#print axioms bitsGets_holds
end Go.Proofs.Ytifhloambieoiaa
