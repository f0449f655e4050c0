/-
  CrcContinues: from the law's contract to the given statement.
-/
import Derived.Test.YtmgolpbonleekaaLaws2
import Derived.Test.YtmgolpbonleekaaOpen
import Derived.Test.YtmgolpbonleekaaRows
import Derived.Below
namespace Go.Proofs.Ytmgolpbonleekaa
open Go Go.Sh Go.ChangeShapes Go.WideShapes Go.ChangeAt Go.RowKit
set_option linter.unusedVariables false

theorem own : ownKnob Try.prog.godebug = none := by kernel_rfl
theorem laidOut : laidOutB Try.prog = true := by kernel_rfl

theorem crcContinues_walk (a : Option Addr) (l : List UInt8) (cap : Nat) (b : Option Addr) (m : List UInt8) (cap2 : Nat) (c d : Int) (w : World)
    (hr : Rd w a (l.map bv)) (h1 : l.length ≤ cap) (h2 : cap ≤ maxLen) (hr' : Rd w b (m.map bv)) (h3 : m.length ≤ cap2) (h4 : cap2 ≤ maxLen) (wc : (Lit.int .u16 c).wf = true) (wd : (Lit.int .u32 d).wf = true) :
    Does Try.prog 5 #[.slice a l.length cap, .slice b m.length cap2, .int .u16 c, .int .u32 d] w fun v w' => v = .bool true ∧ Mod [] w w' := by
  obtain ⟨m1, rfl, hm⟩ := nat_of_wf rfl wc
  obtain ⟨n, rfl, hn⟩ := nat_of_wf rfl wd
  have e1 : (BitVec.ofNat 16 m1).toNat = m1 := by rw [BitVec.toNat_ofNat]; exact Nat.mod_eq_of_lt hm
  have e2 : (BitVec.ofNat 32 n).toNat = n := by rw [BitVec.toNat_ofNat]; exact Nat.mod_eq_of_lt hn
  have := crcContinues_ok a b l m cap cap2 (BitVec.ofNat 16 m1) (BitVec.ofNat 32 n) w hr hr'
  rw [e1, e2] at this
  exact this

set_option maxRecDepth 100000 in
theorem crcContinues_lifted (os : Os) (started : os.Started) (H : Type) (enc : TypeId × Value → H) :
    ReturnsInHanded {} Try.checked os 5 .any (Rows.crcContinuesSpec.pre6 enc Try.prog Try.f5 Rows.crcContinuesRow.domain false) (Rows.crcContinuesSpec.post enc Try.prog Try.f5 false true false false) := by
  refine returnsInHanded_of_change (C := Try.checked) own started (by kernel_rfl) Try.func5
    (ChangeSpec.witness6 (enc := enc) (C := Try.checked) false ⟨#[], #[.slice none 0 0, .slice none 0 0, .int .u16 0, .int .u32 0], []⟩ 8 (by kernel_rfl) (by kernel_rfl) (by kernel_rfl) (by kernel_rfl)) ?_
  intro W base args ds gs before hval0 hW hcnd _
  have hval : ∀ (j : Nat) t v, Try.f5.params[j]? = some t → args[j]? = some v → Value.okWide Try.prog W .any base t v := hval0
  have hW' := hW
  obtain ⟨p, q, hA0, hV, rfl, hfz, hnd⟩ := hW
  have hA : DataW.TrodAll enc Try.prog W 0 (fun _ => true) true Try.f5.params.toList args.toList ds p := hA0
  rw [Try.params5] at hA hval
  obtain ⟨v0, vs0, d0, ds0, p0, q0, hargs, rfl, rfl, h0, r0⟩ := trodAll_cons hA
  obtain ⟨v1, vs1, d1, ds1, p1, q1, rfl, rfl, rfl, h1, r1⟩ := trodAll_cons r0
  obtain ⟨v2, vs2, d2, ds2, p2, q2, rfl, rfl, rfl, h2, r2⟩ := trodAll_cons r1
  obtain ⟨v3, vs3, d3, ds3, p3, q3, rfl, rfl, rfl, h3, r3⟩ := trodAll_cons r2
  obtain ⟨rfl, rfl, rfl⟩ := trodAll_nil r3
  obtain rfl : args = #[v0, v1, v2, v3] := by cases args; simp_all
  obtain ⟨rfl, rfl⟩ := trodVars_none hV
  obtain ⟨a0, len0, cap0, rfl⟩ := okWide_slice Try.underlying22 (hval 0 22 v0 rfl rfl)
  have k0 := h0
  have lt0 : ∀ x ∈ p0, x.block < W.heap.size := by obtain ⟨m, hm⟩ := k0; exact DataW.trod_lt m _ _ _ hm
  obtain ⟨l0, rfl, rd0, le0, mx0⟩ := open_bytes Try.underlying22 Try.underlying5 (by kernel_rfl) h0
  obtain ⟨a1, len1, cap1, rfl⟩ := okWide_slice Try.underlying22 (hval 1 22 v1 rfl rfl)
  have k1 := h1
  have lt1 : ∀ x ∈ p1, x.block < W.heap.size := by obtain ⟨m, hm⟩ := k1; exact DataW.trod_lt m _ _ _ hm
  obtain ⟨l1, rfl, rd1, le1, mx1⟩ := open_bytes Try.underlying22 Try.underlying5 (by kernel_rfl) h1
  obtain ⟨n2, rfl, rfl, rfl, w2⟩ := open_int Try.underlying23 (hval 2 23 v2 rfl rfl) h2
  obtain ⟨n3, rfl, rfl, rfl, w3⟩ := open_int Try.underlying24 (hval 3 24 v3 rfl rfl) h3
  clear hA0 hval0
  refine Calls.mono (crcContinues_walk a0 l0 cap0 a1 l1 cap1 n2 n3 W rd0 le0 mx0 rd1 le1 mx1 w2 w3) fun e W' he => ?_
  obtain ⟨v, rfl, rfl, hm⟩ := he
  have bel := hm.below
  exact ⟨_, rfl, _, _, _, [], _, [], hW', trodAll_mk1 (shut_bool Try.underlying4 _), (trodAll_cons_mk (Below.trod laidOut (by kernel_rfl) (of_decide_eq_true (by kernel_rfl)) k0 bel lt0) (trodAll_cons_mk (Below.trod laidOut (by kernel_rfl) (of_decide_eq_true (by kernel_rfl)) k1 bel lt1) (trodAll_cons_mk (shut_int Try.underlying23 w2) (trodAll_cons_mk (shut_int Try.underlying24 w3) trodAll_mk0)))), rfl, bel.frame _, fun h => by cases h⟩

theorem crcContinues_holds : Rows.CrcContinuesSaid :=
  OpenClaim.holds_of_wide 5 Try.f5 rfl rfl rfl rfl rfl rfl rfl ⟨rfl, rfl, rfl, rfl, rfl⟩ rfl rfl rfl rfl rfl (by kernel_rfl) Try.func5 (by kernel_rfl)
    (of_decide_eq_true (by kernel_rfl)) (by unfold Func.isWrapper; rw [if_neg (of_decide_eq_false (by kernel_rfl))]; exact ⟨rfl, rfl⟩)
    (fun os started H enc _ => crcContinues_lifted os started H enc)
#print axioms crcContinues_holds
end Go.Proofs.Ytmgolpbonleekaa
