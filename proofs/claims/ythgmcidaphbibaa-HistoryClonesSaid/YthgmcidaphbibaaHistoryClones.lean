/-
  HistoryClones: from the law's contract to the given statement.
-/
import Derived.Test.YthgmcidaphbibaaLaws3
import Derived.Test.YthgmcidaphbibaaOpen
import Derived.Test.YthgmcidaphbibaaRows
import Derived.Below
namespace Go.Proofs.Ythgmcidaphbibaa
open Go Go.Sh Go.ChangeShapes Go.WideShapes Go.ChangeAt Go.RowKit
set_option linter.unusedVariables false

theorem own : ownKnob Try.prog.godebug = none := by kernel_rfl
theorem laidOut : laidOutB Try.prog = true := by kernel_rfl

theorem historyClones_walk (n : Int) (a : Option Addr) (l : List Int) (ca : Nat) (b : Option Addr) (m : List Int) (cb : Nat) (w : World) (wn : (Lit.int .i64 n).wf = true) (hr : Rd w a (l.map (Value.int .i64))) (h1 : l.length ≤ ca) (h2 : ca ≤ maxLen) (hq : ∀ y ∈ l, (Lit.int .i64 y).wf = true) (hr' : Rd w b (m.map (Value.int .i64))) (h3 : m.length ≤ cb) (h4 : cb ≤ maxLen) (hq' : ∀ y ∈ m, (Lit.int .i64 y).wf = true) :
    Does Try.prog 5 #[.int .i64 n, .slice a l.length ca, .slice b m.length cb] w fun v w' => v = .bool true ∧ Mod [] w w' := historyClones_ok n a b l m ca cb w (by omega) (by omega) hr hr'

set_option maxRecDepth 100000 in
theorem historyClones_lifted (os : Os) (started : os.Started) (H : Type) (enc : TypeId × Value → H) :
    ReturnsInHanded {} Try.checked os 5 .any (Rows.historyClonesSpec.pre6 enc Try.prog Try.f5 Rows.historyClonesRow.domain false) (Rows.historyClonesSpec.post enc Try.prog Try.f5 false true false false) := by
  refine returnsInHanded_of_change (C := Try.checked) own started (by kernel_rfl) Try.func5
    (ChangeSpec.witness6 (enc := enc) (C := Try.checked) false ⟨#[], #[.int .i64 0, .slice none 0 0, .slice none 0 0], []⟩ 8 (by kernel_rfl) (by kernel_rfl) (by kernel_rfl) (by kernel_rfl)) ?_
  intro W base args ds gs before hval0 hW hcnd _
  have hval : ∀ (j : Nat) t v, Try.f5.params[j]? = some t → args[j]? = some v → Value.okWide Try.prog W .any base t v := hval0
  have hW' := hW
  obtain ⟨p, q, hA0, hV, rfl, hfz, hnd⟩ := hW
  have hA : DataW.TrodAll enc Try.prog W 0 (fun _ => true) true Try.f5.params.toList args.toList ds p := hA0
  rw [Try.params5] at hA hval
  obtain ⟨v0, vs0, d0, ds0, p0, q0, hargs, rfl, rfl, h0, r0⟩ := trodAll_cons hA
  obtain ⟨v1, vs1, d1, ds1, p1, q1, rfl, rfl, rfl, h1, r1⟩ := trodAll_cons r0
  obtain ⟨v2, vs2, d2, ds2, p2, q2, rfl, rfl, rfl, h2, r2⟩ := trodAll_cons r1
  obtain ⟨rfl, rfl, rfl⟩ := trodAll_nil r2
  obtain rfl : args = #[v0, v1, v2] := by cases args; simp_all
  obtain ⟨rfl, rfl⟩ := trodVars_none hV
  obtain ⟨n0, rfl, rfl, rfl, w0⟩ := open_int Try.underlying3 (hval 0 3 v0 rfl rfl) h0
  obtain ⟨a1, len1, cap1, rfl⟩ := okWide_slice Try.underlying25 (hval 1 25 v1 rfl rfl)
  have k1 := h1
  have lt1 : ∀ x ∈ p1, x.block < W.heap.size := by obtain ⟨m, hm⟩ := k1; exact DataW.trod_lt m _ _ _ hm
  obtain ⟨z1, rfl, rd1, le1, mx1, wf1⟩ := open_slice_ints Try.underlying25 Try.underlying3 (by kernel_rfl) h1
  obtain ⟨a2, len2, cap2, rfl⟩ := okWide_slice Try.underlying25 (hval 2 25 v2 rfl rfl)
  have k2 := h2
  have lt2 : ∀ x ∈ p2, x.block < W.heap.size := by obtain ⟨m, hm⟩ := k2; exact DataW.trod_lt m _ _ _ hm
  obtain ⟨z2, rfl, rd2, le2, mx2, wf2⟩ := open_slice_ints Try.underlying25 Try.underlying3 (by kernel_rfl) h2
  clear hA0 hval0
  refine Calls.mono (historyClones_walk n0 a1 z1 cap1 a2 z2 cap2 W w0 rd1 le1 mx1 wf1 rd2 le2 mx2 wf2) fun e W' he => ?_
  obtain ⟨v, rfl, rfl, hm⟩ := he
  have bel := hm.below
  exact ⟨_, rfl, _, _, _, [], _, [], hW', trodAll_mk1 (shut_bool Try.underlying4 _), (trodAll_cons_mk (shut_int Try.underlying3 w0) (trodAll_cons_mk (Below.trod laidOut (by kernel_rfl) (of_decide_eq_true (by kernel_rfl)) k1 bel lt1) (trodAll_cons_mk (Below.trod laidOut (by kernel_rfl) (of_decide_eq_true (by kernel_rfl)) k2 bel lt2) trodAll_mk0))), rfl, bel.frame _, fun h => by cases h⟩

theorem historyClones_holds : Rows.HistoryClonesSaid :=
  OpenClaim.holds_of_wide 5 Try.f5 rfl rfl rfl rfl rfl rfl rfl ⟨rfl, rfl, rfl, rfl, rfl⟩ rfl rfl rfl rfl rfl (by kernel_rfl) Try.func5 (by kernel_rfl)
    (of_decide_eq_true (by kernel_rfl)) (by unfold Func.isWrapper; rw [if_neg (of_decide_eq_false (by kernel_rfl))]; exact ⟨rfl, rfl⟩)
    (fun os started H enc _ => historyClones_lifted os started H enc)
#print axioms historyClones_holds
end Go.Proofs.Ythgmcidaphbibaa
