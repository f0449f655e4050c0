/-
  TopSequence: from the law's contract to the given statement.
-/
import Derived.Test.YthcebibacphblaaLaw
import Derived.Test.YthcebibacphblaaOpen
import Derived.Test.YthcebibacphblaaRows
import Derived.Below
namespace Go.Proofs.Ythcebibacphblaa
open Go Go.Sh Go.ChangeShapes Go.WideShapes Go.ChangeAt Go.RowKit
set_option linter.unusedVariables false

theorem own : ownKnob Try.prog.godebug = none := by kernel_rfl
theorem laidOut : laidOutB Try.prog = true := by kernel_rfl

abbrev Tq := Option Addr × List UInt8 × Nat
def dtOf (y : Tq) : Dt := ⟨y.1, y.2.1, y.2.2⟩
theorem topSequence_walk (a0 : Option Addr) (l0 : List Tq) (cap0 : Nat) (a1 : Option Addr) (l1 : List Bool) (cap1 : Nat) (a2 : Option Addr) (l2 : List Bool) (cap2 : Nat) (W : World)
    (rd0 : Rd W a0 (l0.flatMap fun y => [Value.slice y.1 y.2.1.length y.2.2])) (le0 : l0.length ≤ cap0) (mx0 : cap0 ≤ maxLen) (q0 : ∀ y ∈ l0, Rd W y.1 (y.2.1.map bv) ∧ y.2.1.length ≤ y.2.2 ∧ y.2.2 ≤ maxLen)
    (rd1 : Rd W a1 (l1.flatMap fun y => [Value.bool y])) (le1 : l1.length ≤ cap1) (mx1 : cap1 ≤ maxLen) (q1 : ∀ y ∈ l1, True) (rd2 : Rd W a2 (l2.flatMap fun y => [Value.bool y])) (le2 : l2.length ≤ cap2) (mx2 : cap2 ≤ maxLen) (q2 : ∀ y ∈ l2, True) :
    Does Try.prog 3 #[.slice a0 l0.length cap0, .slice a1 l1.length cap1, .slice a2 l2.length cap2] W fun v w' => v = .bool true ∧ Mod [] W w' := by
  have e : l0.length = (l0.map dtOf).length := by simp
  have fm : ∀ (l : List Bool), (l.flatMap fun y => [Value.bool y]) = l.map Value.bool := fun l => by induction l with
    | nil => rfl
    | cons x l ih => rw [List.flatMap_cons, ih]; rfl
  have fd : ∀ (l : List Tq), (l.flatMap fun y => [Value.slice y.1 y.2.1.length y.2.2]) = (l.map dtOf).map Dt.val := fun l => by induction l with
    | nil => rfl
    | cons x l ih => rw [List.flatMap_cons, ih]; rfl
  rw [fd] at rd0
  rw [fm] at rd1 rd2
  rw [e]
  refine topSequence_ok cap0 cap1 cap2 rd0 (fun d hd => ?_) rd1 rd2
  obtain ⟨y, hy, rfl⟩ := List.mem_map.1 hd
  exact (q0 y hy).1

def cells28 (y : Option Addr × List UInt8 × Nat) : List Value := [.slice y.1 y.2.1.length y.2.2]
def good28 (W : World) (y : Option Addr × List UInt8 × Nat) : Prop := Rd W y.1 (y.2.1.map bv) ∧ y.2.1.length ≤ y.2.2 ∧ y.2.2 ≤ maxLen
theorem el28 {W : World} {H : Type} {enc : TypeId × Value → H} (n : Nat) (cs : List Value) (x : DataW H × List MemPlace) (hl : cs.length = 1) (h : DataW.trod enc Try.prog W 0 (fun _ => true) true n 28 cs = some x) : ∃ y : Option Addr × List UInt8 × Nat, cs = cells28 y ∧ good28 W y := by
  obtain ⟨a, l, q, e, r⟩ := open_bytes1 Try.underlying28 Try.underlying5 (by kernel_rfl) h
  exact ⟨(a, l, q), e, r⟩

def cells4 (y : Bool) : List Value := [.bool y]
def good4 (W : World) (y : Bool) : Prop := True
theorem el4 {W : World} {H : Type} {enc : TypeId × Value → H} (n : Nat) (cs : List Value) (x : DataW H × List MemPlace) (hl : cs.length = 1) (h : DataW.trod enc Try.prog W 0 (fun _ => true) true n 4 cs = some x) : ∃ y : Bool, cs = cells4 y ∧ good4 W y := by
  obtain ⟨z, e, _⟩ := DataW.trod_bool Try.underlying4 h
  exact ⟨z, e, trivial⟩

set_option maxRecDepth 100000 in
theorem topSequence_lifted (os : Os) (started : os.Started) (H : Type) (enc : TypeId × Value → H) :
    ReturnsInHanded {} Try.checked os 3 .any (Rows.topSequenceSpec.pre6 enc Try.prog Try.f3 Rows.topSequenceRow.domain false) (Rows.topSequenceSpec.post enc Try.prog Try.f3 false true false false) := by
  refine returnsInHanded_of_change (C := Try.checked) own started (by kernel_rfl) Try.func3
    (ChangeSpec.witness6 (enc := enc) (C := Try.checked) false ⟨#[], #[.slice none 0 0, .slice none 0 0, .slice none 0 0], []⟩ 8 (by kernel_rfl) (by kernel_rfl) (by kernel_rfl) (by kernel_rfl)) ?_
  intro W base args ds gs before hval0 hW hcnd _
  have hval : ∀ (j : Nat) t v, Try.f3.params[j]? = some t → args[j]? = some v → Value.okWide Try.prog W .any base t v := hval0
  have hW' := hW
  obtain ⟨p, q, hA0, hV, rfl, hfz, hnd⟩ := hW
  have hA : DataW.TrodAll enc Try.prog W 0 (fun _ => true) true Try.f3.params.toList args.toList ds p := hA0
  rw [Try.params3] at hA hval
  obtain ⟨v0, vs0, d0, ds0, p0, q0, hargs, rfl, rfl, h0, r0⟩ := trodAll_cons hA
  obtain ⟨v1, vs1, d1, ds1, p1, q1, rfl, rfl, rfl, h1, r1⟩ := trodAll_cons r0
  obtain ⟨v2, vs2, d2, ds2, p2, q2, rfl, rfl, rfl, h2, r2⟩ := trodAll_cons r1
  obtain ⟨rfl, rfl, rfl⟩ := trodAll_nil r2
  obtain rfl : args = #[v0, v1, v2] := by cases args; simp_all
  obtain ⟨rfl, rfl⟩ := trodVars_none hV
  obtain ⟨a0, len0, cap0, rfl⟩ := okWide_slice Try.underlying22 (hval 0 22 v0 rfl rfl)
  have k0 := h0
  have lt0 : ∀ x ∈ p0, x.block < W.heap.size := by obtain ⟨m, hm⟩ := k0; exact DataW.trod_lt m _ _ _ hm
  obtain ⟨l0, rfl, rd0, le0, mx0, qs0⟩ := open_slice_of cells28 (good28 W) Try.underlying22 (by kernel_rfl) (fun n cs x hl h => el28 n cs x hl h) h0
  obtain ⟨a1, len1, cap1, rfl⟩ := okWide_slice Try.underlying23 (hval 1 23 v1 rfl rfl)
  have k1 := h1
  have lt1 : ∀ x ∈ p1, x.block < W.heap.size := by obtain ⟨m, hm⟩ := k1; exact DataW.trod_lt m _ _ _ hm
  obtain ⟨l1, rfl, rd1, le1, mx1, qs1⟩ := open_slice_of cells4 (good4 W) Try.underlying23 (by kernel_rfl) (fun n cs x hl h => el4 n cs x hl h) h1
  obtain ⟨a2, len2, cap2, rfl⟩ := okWide_slice Try.underlying23 (hval 2 23 v2 rfl rfl)
  have k2 := h2
  have lt2 : ∀ x ∈ p2, x.block < W.heap.size := by obtain ⟨m, hm⟩ := k2; exact DataW.trod_lt m _ _ _ hm
  obtain ⟨l2, rfl, rd2, le2, mx2, qs2⟩ := open_slice_of cells4 (good4 W) Try.underlying23 (by kernel_rfl) (fun n cs x hl h => el4 n cs x hl h) h2
  clear hA0 hval0
  refine Calls.mono (topSequence_walk a0 l0 cap0 a1 l1 cap1 a2 l2 cap2 W rd0 le0 mx0 (fun y hy => (qs0 y hy).1) rd1 le1 mx1 (fun y hy => (qs1 y hy).1) rd2 le2 mx2 (fun y hy => (qs2 y hy).1)) fun e W' he => ?_
  obtain ⟨v, rfl, rfl, hm⟩ := he
  have bel := hm.below
  exact ⟨_, rfl, _, _, _, [], _, [], hW', trodAll_mk1 (shut_bool Try.underlying4 _), (trodAll_cons_mk (Below.trod laidOut (by kernel_rfl) (of_decide_eq_true (by kernel_rfl)) k0 bel lt0) (trodAll_cons_mk (Below.trod laidOut (by kernel_rfl) (of_decide_eq_true (by kernel_rfl)) k1 bel lt1) (trodAll_cons_mk (Below.trod laidOut (by kernel_rfl) (of_decide_eq_true (by kernel_rfl)) k2 bel lt2) trodAll_mk0))), rfl, bel.frame _, fun h => by cases h⟩

theorem topSequence_holds : Rows.TopSequenceSaid :=
  OpenClaim.holds_of_wide 3 Try.f3 rfl rfl rfl rfl rfl rfl rfl ⟨rfl, rfl, rfl, rfl, rfl⟩ rfl rfl rfl rfl rfl (by kernel_rfl) Try.func3 (by kernel_rfl)
    (of_decide_eq_true (by kernel_rfl)) (by unfold Func.isWrapper; rw [if_neg (of_decide_eq_false (by kernel_rfl))]; exact ⟨rfl, rfl⟩)
    (fun os started H enc _ => topSequence_lifted os started H enc)
#print axioms topSequence_holds
end Go.Proofs.Ythcebibacphblaa
