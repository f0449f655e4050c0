/-
  The contracts of the functions of chapter 1, third part: Check16, the examples.
-/
import Derived.Test.YtpioadkiomcdlaaCrcW2
namespace Go.Proofs.Ytpioadkiomcdlaa
open Go Go.Sh Go.Proofs
set_option linter.unusedVariables false

section
variable (a : Option Addr) (l : List UInt8) (c : Nat) (w : World) (hl : l.length ≤ 1000000) (hc : l.length ≤ c) (hr : Rd w a (l.map bv))
include hl hr hc
theorem check16_ok : Does Try.prog 29 #[.slice a l.length c] w fun v w' => v = .bool (chk16 l) ∧ w.drew = w' := by
  apply w29
  unfold F29
  rw [wi64 (n := (l.length : Int) - 2) (by omega)]
  by_cases h2 : 2 ≤ l.length
  · obtain ⟨p, rfl, hc1⟩ := rd_at hr (show l.length - 2 < l.length by omega)
    obtain ⟨p', hp', hc2⟩ := rd_at hr (show l.length - 1 < l.length by omega)
    cases hp'
    have e1 : ((l.length : Int) - 2).toNat = l.length - 2 := by omega
    have e2 : ((l.length : Int) - 2 + 1).toNat = l.length - 1 := by omega
    rw [if_pos (by omega), wi64 (n := (l.length : Int) - 2 + 1) (by omega), e1, e2]
    refine ⟨by omega, by omega, p, rfl, by omega, by omega, _, hc1, by omega, by omega, _, hc2, ?_⟩
    have hlen : (l.take (l.length - 2)).length = l.length - 2 := by simp
    have hs := sum16_ok (some p) (l.take (l.length - 2)) c w.drew (by omega) (by rw [List.map_take]; exact hr.drew.take _)
    rw [hlen] at hs
    refine hs.mono ?_
    rintro _ _ ⟨rfl, rfl⟩
    refine ⟨_, rfl, hc1, hc2, ?_, rfl⟩
    rw [chk16_iff h2]
    congr 1
    generalize sum16 (l.take (l.length - 2)) = S
    generalize l.getD (l.length - 2) 0 = x
    generalize l.getD (l.length - 1) 0 = y
    have hx := u8lt x
    have hy := u8lt y
    have hS := S.isLt
    have h1 : IntKind.u16.wrap (x.toNat : Int) = (x.toNat : Int) := wrapU_lt rfl (by show _ < 65536; omega)
    have h3 : IntKind.u16.wrap (y.toNat : Int) = (y.toNat : Int) := wrapU_lt rfl (by show _ < 65536; omega)
    have h4 : shl .u16 (x.toNat : Int) 8 = ((x.toNat <<< 8 % 65536 : Nat) : Int) := shlU rfl _ 8 (by decide)
    rw [h1, h3, h4, borU rfl (by show _ < 65536; omega) (by show _ < 65536; omega)]
    have h5 : (x.toNat <<< 8 % 65536) ||| y.toNat = x.toNat * 256 + y.toNat := by
      rw [Nat.mod_eq_of_lt (by rw [Nat.shiftLeft_eq]; omega), ← Nat.shiftLeft_add_eq_or_of_lt (by omega), Nat.shiftLeft_eq]
    rw [h5, decide_eq_decide]
    have hx' : hi16 S = x ↔ S.toNat / 256 = x.toNat := by
      unfold hi16
      rw [← UInt8.toNat_inj, UInt8.toNat_ofNat', Nat.mod_eq_of_lt (by omega)]
    have hy' : lo16 S = y ↔ S.toNat % 256 = y.toNat := by
      unfold lo16
      rw [← UInt8.toNat_inj, UInt8.toNat_ofNat', Nat.mod_mod]
    rw [hx', hy']
    omega
  · rw [if_neg (by omega)]
    refine ⟨?_, rfl⟩
    have : chk16 l = false := by unfold chk16; simp [h2]
    rw [this]
end

/-! ### the examples -/
end Go.Proofs.Ytpioadkiomcdlaa
