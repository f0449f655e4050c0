/-
  TopPackets: from the law's contract to the given statement.
-/
import Derived.Test.YtnaomgfdcadncaaLaw
import Derived.Test.YtnaomgfdcadncaaOpen
import Derived.Test.YtnaomgfdcadncaaRows
import Derived.Below
namespace Go.Proofs.Ytnaomgfdcadncaa
open Go Go.Sh Go.ChangeShapes Go.WideShapes Go.ChangeAt Go.RowKit
set_option linter.unusedVariables false

theorem own : ownKnob Try.prog.godebug = none := by kernel_rfl
theorem laidOut : laidOutB Try.prog = true := by kernel_rfl

theorem topPackets_walk (size : Int) (a1 : Option Addr) (z1 : List Int) (cap1 : Nat) (a2 : Option Addr) (l2 : List Bool) (cap2 : Nat) (W : World) (h0 : (Lit.int .i64 size).wf = true)
    (rd1 : Rd W a1 (z1.map (Value.int .i64))) (le1 : z1.length ≤ cap1) (mx1 : cap1 ≤ maxLen) (wf1 : ∀ n ∈ z1, (Lit.int .i64 n).wf = true) (rd2 : Rd W a2 (l2.flatMap fun y => [Value.bool y])) (le2 : l2.length ≤ cap2) (mx2 : cap2 ≤ maxLen) (q2 : ∀ y ∈ l2, True) :
    Does Try.prog 3 #[.int .i64 size, .slice a1 z1.length cap1, .slice a2 l2.length cap2] W fun v w' => v = .bool true ∧ Mod [] W w' := by
  have fm : ∀ (l : List Bool), (l.flatMap fun y => [Value.bool y]) = l.map Value.bool := fun l => by induction l with
    | nil => rfl
    | cons x l ih => rw [List.flatMap_cons, ih]; rfl
  rw [fm] at rd2
  exact topPackets_ok size cap1 cap2 rd1 rd2

def cells4 (y : Bool) : List Value := [.bool y]
def good4 (W : World) (y : Bool) : Prop := True
theorem el4 {W : World} {H : Type} {enc : TypeId × Value → H} (n : Nat) (cs : List Value) (x : DataW H × List MemPlace) (hl : cs.length = 1) (h : DataW.trod enc Try.prog W 0 (fun _ => true) true n 4 cs = some x) : ∃ y : Bool, cs = cells4 y ∧ good4 W y := by
  obtain ⟨z, e, _⟩ := DataW.trod_bool Try.underlying4 h
  exact ⟨z, e, trivial⟩

set_option maxRecDepth 100000 in
theorem topPackets_lifted (os : Os) (started : os.Started) (H : Type) (enc : TypeId × Value → H) :
    ReturnsInHanded {} Try.checked os 3 .any (Rows.topPacketsSpec.pre6 enc Try.prog Try.f3 Rows.topPacketsRow.domain false) (Rows.topPacketsSpec.post enc Try.prog Try.f3 false true false false) := by
  refine returnsInHanded_of_change (C := Try.checked) own started (by kernel_rfl) Try.func3
    (ChangeSpec.witness6 (enc := enc) (C := Try.checked) false ⟨#[], #[.int .i64 0, .slice none 0 0, .slice none 0 0], []⟩ 8 (by kernel_rfl) (by kernel_rfl) (by kernel_rfl) (by kernel_rfl)) ?_
  intro W base args ds gs before hval0 hW hcnd _
  have hval : ∀ (j : Nat) t v, Try.f3.params[j]? = some t → args[j]? = some v → Value.okWide Try.prog W .any base t v := hval0
  have hW' := hW
  obtain ⟨p, q, hA0, hV, rfl, hfz, hnd⟩ := hW
  have hA : DataW.TrodAll enc Try.prog W 0 (fun _ => true) true Try.f3.params.toList args.toList ds p := hA0
  rw [Try.params3] at hA hval
  obtain ⟨v0, vs0, d0, ds0, p0, q0, hargs, rfl, rfl, h0, r0⟩ := trodAll_cons hA
  obtain ⟨v1, vs1, d1, ds1, p1, q1, rfl, rfl, rfl, h1, r1⟩ := trodAll_cons r0
  obtain ⟨v2, vs2, d2, ds2, p2, q2, rfl, rfl, rfl, h2, r2⟩ := trodAll_cons r1
  obtain ⟨rfl, rfl, rfl⟩ := trodAll_nil r2
  obtain rfl : args = #[v0, v1, v2] := by cases args; simp_all
  obtain ⟨rfl, rfl⟩ := trodVars_none hV
  obtain ⟨n0, rfl, rfl, rfl, w0⟩ := open_int Try.underlying3 (hval 0 3 v0 rfl rfl) h0
  obtain ⟨a1, len1, cap1, rfl⟩ := okWide_slice Try.underlying22 (hval 1 22 v1 rfl rfl)
  have k1 := h1
  have lt1 : ∀ x ∈ p1, x.block < W.heap.size := by obtain ⟨m, hm⟩ := k1; exact DataW.trod_lt m _ _ _ hm
  obtain ⟨z1, rfl, rd1, le1, mx1, wf1⟩ := open_slice_ints Try.underlying22 Try.underlying3 (by kernel_rfl) h1
  obtain ⟨a2, len2, cap2, rfl⟩ := okWide_slice Try.underlying23 (hval 2 23 v2 rfl rfl)
  have k2 := h2
  have lt2 : ∀ x ∈ p2, x.block < W.heap.size := by obtain ⟨m, hm⟩ := k2; exact DataW.trod_lt m _ _ _ hm
  obtain ⟨l2, rfl, rd2, le2, mx2, qs2⟩ := open_slice_of cells4 (good4 W) Try.underlying23 (by kernel_rfl) (fun n cs x hl h => el4 n cs x hl h) h2
  clear hA0 hval0
  refine Calls.mono (topPackets_walk n0 a1 z1 cap1 a2 l2 cap2 W w0 rd1 le1 mx1 wf1 rd2 le2 mx2 (fun y hy => (qs2 y hy).1)) fun e W' he => ?_
  obtain ⟨v, rfl, rfl, hm⟩ := he
  have bel := hm.below
  exact ⟨_, rfl, _, _, _, [], _, [], hW', trodAll_mk1 (shut_bool Try.underlying4 _), (trodAll_cons_mk (shut_int Try.underlying3 w0) (trodAll_cons_mk (Below.trod laidOut (by kernel_rfl) (of_decide_eq_true (by kernel_rfl)) k1 bel lt1) (trodAll_cons_mk (Below.trod laidOut (by kernel_rfl) (of_decide_eq_true (by kernel_rfl)) k2 bel lt2) trodAll_mk0))), rfl, bel.frame _, fun h => by cases h⟩

theorem topPackets_holds : Rows.TopPacketsSaid :=
  OpenClaim.holds_of_wide 3 Try.f3 rfl rfl rfl rfl rfl rfl rfl ⟨rfl, rfl, rfl, rfl, rfl⟩ rfl rfl rfl rfl rfl (by kernel_rfl) Try.func3 (by kernel_rfl)
    (of_decide_eq_true (by kernel_rfl)) (by unfold Func.isWrapper; rw [if_neg (of_decide_eq_false (by kernel_rfl))]; exact ⟨rfl, rfl⟩)
    (fun os started H enc _ => topPackets_lifted os started H enc)
#print axioms topPackets_holds
end Go.Proofs.Ytnaomgfdcadncaa
