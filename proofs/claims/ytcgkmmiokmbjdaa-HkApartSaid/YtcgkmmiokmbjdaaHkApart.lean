/-
  HkApart: from the law's contract to the given statement.
-/
import Derived.Test.YtcgkmmiokmbjdaaApart
import Derived.Test.YtcgkmmiokmbjdaaOpen
import Derived.Test.YtcgkmmiokmbjdaaRows
import Derived.Below
namespace Go.Proofs.Ytcgkmmiokmbjdaa
open Go Go.Sh Go.ChangeShapes Go.WideShapes Go.ChangeAt Go.RowKit
set_option linter.unusedVariables false

theorem own : ownKnob Try.prog.godebug = none := by kernel_rfl
theorem laidOut : laidOutB Try.prog = true := by kernel_rfl

theorem hkApart_walk (a b c : Int) (p : Option Addr) (l : List UInt8) (cap : Nat) (w : World) (ha : (Lit.int .u8 a).wf = true) (hb : (Lit.int .u8 b).wf = true) (hc : (Lit.int .u8 c).wf = true) (hr : Rd w p (l.map bv)) (h1 : l.length ≤ cap) (h2 : cap ≤ maxLen) :
    Does Try.prog 5 #[.agg #[.int .u8 a, .int .u8 b, .int .u8 c], .slice p l.length cap] w fun v w' => v = .bool true ∧ Mod [] w w' := by
  obtain ⟨a, rfl, ga⟩ := nat_of_wf rfl ha
  obtain ⟨b, rfl, gb⟩ := nat_of_wf rfl hb
  obtain ⟨c, rfl, gc⟩ := nat_of_wf rfl hc
  have e : l.length = (l.map (·.toNat)).length := by simp
  rw [e]
  refine hkApart_ok a b c ga gb gc cap (fun z hz => ?_) (by rw [List.map_map]; exact hr)
  obtain ⟨y, _, rfl⟩ := List.mem_map.1 hz
  exact y.toNat_lt

set_option maxRecDepth 100000 in
theorem hkApart_lifted (os : Os) (started : os.Started) (H : Type) (enc : TypeId × Value → H) :
    ReturnsInHanded {} Try.checked os 5 .any (Rows.hkApartSpec.pre6 enc Try.prog Try.f5 Rows.hkApartRow.domain false) (Rows.hkApartSpec.post enc Try.prog Try.f5 false true false false) := by
  refine returnsInHanded_of_change (C := Try.checked) own started (by kernel_rfl) Try.func5
    (ChangeSpec.witness6 (enc := enc) (C := Try.checked) false ⟨#[], #[.agg #[.int .u8 0, .int .u8 0, .int .u8 0], .slice none 0 0], []⟩ 8 (by kernel_rfl) (by kernel_rfl) (by kernel_rfl) (by kernel_rfl)) ?_
  intro W base args ds gs before hval0 hW hcnd _
  have hval : ∀ (j : Nat) t v, Try.f5.params[j]? = some t → args[j]? = some v → Value.okWide Try.prog W .any base t v := hval0
  have hW' := hW
  obtain ⟨p, q, hA0, hV, rfl, hfz, hnd⟩ := hW
  have hA : DataW.TrodAll enc Try.prog W 0 (fun _ => true) true Try.f5.params.toList args.toList ds p := hA0
  rw [Try.params5] at hA hval
  obtain ⟨v0, vs0, d0, ds0, p0, q0, hargs, rfl, rfl, h0, r0⟩ := trodAll_cons hA
  obtain ⟨v1, vs1, d1, ds1, p1, q1, rfl, rfl, rfl, h1, r1⟩ := trodAll_cons r0
  obtain ⟨rfl, rfl, rfl⟩ := trodAll_nil r1
  obtain rfl : args = #[v0, v1] := by cases args; simp_all
  obtain ⟨rfl, rfl⟩ := trodVars_none hV
  have k0 := h0
  have lt0 : ∀ x ∈ p0, x.block < W.heap.size := by obtain ⟨m, hm⟩ := k0; exact DataW.trod_lt m _ _ _ hm
  obtain ⟨n0_0, n0_1, n0_2, rfl, w0_0, w0_1, w0_2⟩ := open_arr3 Try.underlying42 Try.underlying5 (by kernel_rfl) (by kernel_rfl) (hval 0 42 v0 rfl rfl) h0
  obtain ⟨a1, len1, cap1, rfl⟩ := okWide_slice Try.underlying38 (hval 1 38 v1 rfl rfl)
  have k1 := h1
  have lt1 : ∀ x ∈ p1, x.block < W.heap.size := by obtain ⟨m, hm⟩ := k1; exact DataW.trod_lt m _ _ _ hm
  obtain ⟨l1, rfl, rd1, le1, mx1⟩ := open_bytes Try.underlying38 Try.underlying5 (by kernel_rfl) h1
  clear hA0 hval0
  refine Calls.mono (hkApart_walk n0_0 n0_1 n0_2 a1 l1 cap1 W w0_0 w0_1 w0_2 rd1 le1 mx1) fun e W' he => ?_
  obtain ⟨v, rfl, rfl, hm⟩ := he
  have bel := hm.below
  exact ⟨_, rfl, _, _, _, [], _, [], hW', trodAll_mk1 (shut_bool Try.underlying4 _), (trodAll_cons_mk (Below.trod laidOut (by kernel_rfl) (of_decide_eq_true (by kernel_rfl)) k0 bel lt0) (trodAll_cons_mk (Below.trod laidOut (by kernel_rfl) (of_decide_eq_true (by kernel_rfl)) k1 bel lt1) trodAll_mk0)), rfl, bel.frame _, fun h => by cases h⟩

theorem hkApart_holds : Rows.HkApartSaid :=
  OpenClaim.holds_of_wide 5 Try.f5 rfl rfl rfl rfl rfl rfl rfl ⟨rfl, rfl, rfl, rfl, rfl⟩ rfl rfl rfl rfl rfl (by kernel_rfl) Try.func5 (by kernel_rfl)
    (of_decide_eq_true (by kernel_rfl)) (by unfold Func.isWrapper; rw [if_neg (of_decide_eq_false (by kernel_rfl))]; exact ⟨rfl, rfl⟩)
    (fun os started H enc _ => hkApart_lifted os started H enc)
#print axioms hkApart_holds
end Go.Proofs.Ytcgkmmiokmbjdaa
