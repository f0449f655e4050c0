/-
  MuxShares: from the law's contract to the given statement.
-/
import Derived.Test.YtjjhghcaecodpaaLaws3
import Derived.Test.YtjjhghcaecodpaaOpen
import Derived.Test.YtjjhghcaecodpaaRows
import Derived.Below
namespace Go.Proofs.Ytjjhghcaecodpaa
open Go Go.Sh Go.ChangeShapes Go.WideShapes Go.ChangeAt Go.RowKit
set_option linter.unusedVariables false

theorem own : ownKnob Try.prog.godebug = none := by kernel_rfl
theorem laidOut : laidOutB Try.prog = true := by kernel_rfl

abbrev Tp := Int × Int × Int
def tup (y : Tp) : Ch := ⟨y.1, y.2.1, y.2.2, 0, 0⟩

theorem muxShares_walk (a : Option Addr) (l : List Tp) (cap : Nat) (n : Int) (w : World) (hr : Rd w a (l.flatMap fun y => chc (tup y))) (h1 : l.length ≤ cap) (h2 : cap ≤ maxLen) (hq : ∀ y ∈ l, (Lit.int .i64 y.1).wf = true ∧ (Lit.int .i64 y.2.1).wf = true ∧ (Lit.int .i64 y.2.2).wf = true) (hn : (Lit.int .i64 n).wf = true) : Does Try.prog 4 #[.slice a l.length cap, .int .i64 n] w fun v w' => v = .bool true ∧ Mod [] w w' := by
  have e : l.length = (l.map tup).length := by simp
  rw [e]
  exact muxShares_ok cap (by rw [List.flatMap_map]; exact hr) n

def cells35 (y : Int × Int × Int) : List Value := [.int .i64 y.1, .int .i64 y.2.1, .int .i64 y.2.2]
def good35 (W : World) (y : Int × Int × Int) : Prop := (Lit.int .i64 y.1).wf = true ∧ (Lit.int .i64 y.2.1).wf = true ∧ (Lit.int .i64 y.2.2).wf = true
theorem el35 {W : World} {H : Type} {enc : TypeId × Value → H} (n : Nat) (cs : List Value) (x : DataW H × List MemPlace) (hl : cs.length = 3) (h : DataW.trod enc Try.prog W 0 (fun _ => true) true n 35 cs = some x) : ∃ y : Int × Int × Int, cs = cells35 y ∧ good35 W y := by
  obtain ⟨xs, m, hk, hxy, _, hxl, hf⟩ := DataW.trod_struct Try.underlying35 h
  match xs, hxl, cs, hl with
  | [y0, y1, y2], _, [v0, v1, v2], _ =>
    have c3 : Try.prog.cellsOf 3 = 1 := by kernel_rfl
    have g0 := hf 0 _ rfl
    simp [c3] at g0
    obtain ⟨z0, e0, _, w0⟩ := DataW.trod_int Try.underlying3 g0
    simp at e0
    have g1 := hf 1 _ rfl
    simp [c3] at g1
    obtain ⟨z1, e1, _, w1⟩ := DataW.trod_int Try.underlying3 g1
    simp at e1
    have g2 := hf 2 _ rfl
    simp [c3] at g2
    obtain ⟨z2, e2, _, w2⟩ := DataW.trod_int Try.underlying3 g2
    simp at e2
    exact ⟨(z0, z1, z2), by simp [cells35, e0, e1, e2], ⟨w0, w1, w2⟩⟩

set_option maxRecDepth 100000 in
theorem muxShares_lifted (os : Os) (started : os.Started) (H : Type) (enc : TypeId × Value → H) :
    ReturnsInHanded {} Try.checked os 4 .any (Rows.muxSharesSpec.pre6 enc Try.prog Try.f4 Rows.muxSharesRow.domain false) (Rows.muxSharesSpec.post enc Try.prog Try.f4 false true false false) := by
  refine returnsInHanded_of_change (C := Try.checked) own started (by kernel_rfl) Try.func4
    (ChangeSpec.witness6 (enc := enc) (C := Try.checked) false ⟨#[], #[.slice none 0 0, .int .i64 0], []⟩ 8 (by kernel_rfl) (by kernel_rfl) (by kernel_rfl) (by kernel_rfl)) ?_
  intro W base args ds gs before hval0 hW hcnd _
  have hval : ∀ (j : Nat) t v, Try.f4.params[j]? = some t → args[j]? = some v → Value.okWide Try.prog W .any base t v := hval0
  have hW' := hW
  obtain ⟨p, q, hA0, hV, rfl, hfz, hnd⟩ := hW
  have hA : DataW.TrodAll enc Try.prog W 0 (fun _ => true) true Try.f4.params.toList args.toList ds p := hA0
  rw [Try.params4] at hA hval
  obtain ⟨v0, vs0, d0, ds0, p0, q0, hargs, rfl, rfl, h0, r0⟩ := trodAll_cons hA
  obtain ⟨v1, vs1, d1, ds1, p1, q1, rfl, rfl, rfl, h1, r1⟩ := trodAll_cons r0
  obtain ⟨rfl, rfl, rfl⟩ := trodAll_nil r1
  obtain rfl : args = #[v0, v1] := by cases args; simp_all
  obtain ⟨rfl, rfl⟩ := trodVars_none hV
  obtain ⟨a0, len0, cap0, rfl⟩ := okWide_slice Try.underlying22 (hval 0 22 v0 rfl rfl)
  have k0 := h0
  have lt0 : ∀ x ∈ p0, x.block < W.heap.size := by obtain ⟨m, hm⟩ := k0; exact DataW.trod_lt m _ _ _ hm
  obtain ⟨l0, rfl, rd0, le0, mx0, qs0⟩ := open_slice_of cells35 (good35 W) Try.underlying22 (by kernel_rfl) (fun n cs x hl h => el35 n cs x hl h) h0
  obtain ⟨n1, rfl, rfl, rfl, w1⟩ := open_int Try.underlying3 (hval 1 3 v1 rfl rfl) h1
  clear hA0 hval0
  refine Calls.mono (muxShares_walk a0 l0 cap0 n1 W rd0 le0 mx0 (fun y hy => (qs0 y hy).1) w1) fun e W' he => ?_
  obtain ⟨v, rfl, rfl, hm⟩ := he
  have bel := hm.below
  exact ⟨_, rfl, _, _, _, [], _, [], hW', trodAll_mk1 (shut_bool Try.underlying4 _), (trodAll_cons_mk (Below.trod laidOut (by kernel_rfl) (of_decide_eq_true (by kernel_rfl)) k0 bel lt0) (trodAll_cons_mk (shut_int Try.underlying3 w1) trodAll_mk0)), rfl, bel.frame _, fun h => by cases h⟩

theorem muxShares_holds : Rows.MuxSharesSaid :=
  OpenClaim.holds_of_wide 4 Try.f4 rfl rfl rfl rfl rfl rfl rfl ⟨rfl, rfl, rfl, rfl, rfl⟩ rfl rfl rfl rfl rfl (by kernel_rfl) Try.func4 (by kernel_rfl)
    (of_decide_eq_true (by kernel_rfl)) (by unfold Func.isWrapper; rw [if_neg (of_decide_eq_false (by kernel_rfl))]; exact ⟨rfl, rfl⟩)
    (fun os started H enc _ => muxShares_lifted os started H enc)
#print axioms muxShares_holds
end Go.Proofs.Ytjjhghcaecodpaa
