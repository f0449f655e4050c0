/-
  The laws CrcChecks and CrcContinues, as contracts.
-/
import Derived.Test.YtmgolpbonleekaaLaws
namespace Go.Proofs.Ytmgolpbonleekaa
open Go Go.Sh Go.Proofs
set_option linter.unusedVariables false

/-! ### CrcChecks -/
theorem crcChecks_ok (a : Option Addr) (l : List UInt8) (c : Nat) (w : World) (hr : Rd w a (l.map bv)) (hc : l.length ≤ c) :
    Does Try.prog 4 #[.slice a l.length c] w fun v w' => v = .bool true ∧ Mod [] w w' := by
  apply w4
  unfold F4
  by_cases hl : 2000 < l.length
  · rw [if_pos (by omega)]
    refine (alive_ok w).mono ?_
    rintro _ w' ⟨rfl, hm⟩
    exact ⟨_, rfl, rfl, hm⟩
  · have hl' : l.length ≤ 1000000 := by omega
    rw [if_neg (by omega)]
    refine (append16_ok a l c w.drew hl' hr.drew).mono ?_
    rintro _ w1 ⟨a1, c1, rfl, ho1, hm1, hf1⟩
    have hm1' : Mod [] w w1 := (Mod.drew w).none hm1
    have hlen : (app16 l).length = l.length + 2 := by simp [app16]
    have hs1 := toStr_ok (P := Try.prog) c1 ho1.rd
    rw [hlen] at hs1
    refine ⟨_, _, _, rfl, _, hs1, ?_⟩
    refine (refAppend16_ok a l c w1 hl' (hr.mod hm1' (by simp))).mono ?_
    rintro _ w2 ⟨a2, c2, rfl, ho2, hm2, hf2⟩
    have hs2 := toStr_ok (P := Try.prog) c2 ho2.rd
    have hs1' := toStr_ok (P := Try.prog) c1 (ho1.rd.mod hm2 (by simp))
    rw [hlen] at hs2 hs1'
    refine ⟨_, _, _, rfl, hs1', _, hs2, ?_⟩
    rw [if_pos (by simp)]
    have hm12 : Mod [] w w2 := hm1'.none hm2
    refine (check16_ok a l c w2 hl' hc (hr.mod hm12 (by simp))).mono ?_
    rintro _ _ ⟨rfl, rfl⟩
    have hm3 : Mod [] w w2.drew := hm12.none (Mod.drew _)
    refine ⟨_, rfl, (refCheck16_ok a l c w2.drew hl' hc (hr.mod hm3 (by simp))).mono ?_⟩
    rintro _ w3 ⟨rfl, hm⟩
    refine ⟨_, rfl, ?_⟩
    rw [if_pos (by simp)]
    refine (alive_ok w3).mono ?_
    rintro _ w' ⟨rfl, hm'⟩
    exact ⟨_, rfl, rfl, (hm3.none hm).none hm'⟩

/-! ### CrcContinues -/
theorem com32_com (r : BitVec 32) : com32 (com32 r) = r := by unfold com32; rw [BitVec.xor_assoc, BitVec.xor_self, BitVec.xor_zero]
theorem upd16_eq (r : BitVec 16) (l m : List UInt8) : crc16 (crc16 r l) m = crc16 r (l ++ m) := (crc16_append r l m).symm

theorem crcContinues_ok (a b : Option Addr) (l m : List UInt8) (c d : Nat) (r16 : BitVec 16) (r32 : BitVec 32) (w : World) (hr : Rd w a (l.map bv)) (hr' : Rd w b (m.map bv)) :
    Does Try.prog 5 #[.slice a l.length c, .slice b m.length d, .int .u16 (r16.toNat : Int), .int .u32 (r32.toNat : Int)] w fun v w' => v = .bool true ∧ Mod [] w w' := by
  apply w5
  unfold F5
  have hmain : ∀ t : Bool, (t = false → l.length ≤ 2000 ∧ m.length ≤ 2000) → F5_j1 a l.length c b m.length d (r16.toNat : Int) (r32.toNat : Int) t w (fun v w' => v = .bool true ∧ Mod [] w w') := by
    intro t ht
    unfold F5_j1
    cases t with
    | true =>
      rw [if_pos rfl]
      refine (alive_ok w).mono ?_
      rintro _ w' ⟨rfl, hm⟩
      exact ⟨_, rfl, rfl, hm⟩
    | false =>
      obtain ⟨hl, hl2⟩ := ht rfl
      rw [if_neg (by simp)]
      unfold New
      have hm0 := Mod.push (S := []) w 5 []
      have ho : Own (push w 5 []) 5 1 (some (fresh w)) 0 0 [] := Own.blk (Blk.new w 5 []) rfl (by decide)
      obtain ⟨a1, c1, w1, hrun1, ho1, hmod1, hfp1⟩ := append_own (d := c) Try.underlying22 elem5 22 ho (hr.mod hm0 (by simp)) (m := l.length) (by simp) (bv_one l) (by omega) (by omega)
      rw [Nat.zero_add] at hrun1 ho1
      have hm1 : Mod [] w w1 := hm0.trans hmod1 (by simp [fp, fresh])
      have hf1 : ∀ g ∈ fp a1, w.heap.size ≤ g := by rcases hfp1 with h | h <;> rw [h] <;> simp [fp_fresh, size_push]
      refine ⟨_, _, _, _, hrun1, ?_⟩
      obtain ⟨a2, c2, w2, hrun2, ho2, hmod2, hfp2⟩ := append_own (d := d) Try.underlying22 elem5 22 ho1 (hr'.mod hm1 (by simp)) (m := m.length) (by simp) (bv_one m) (by omega) (by omega)
      have hm2 : Mod [] w w2 := hm1.trans hmod2 (fun g hg => .inr (hf1 g hg))
      refine ⟨_, _, _, _, hrun2, ?_⟩
      have hra : Rd w2 a (l.map bv) := hr.mod hm2 (by simp)
      have hrb : Rd w2 b (m.map bv) := hr'.mod hm2 (by simp)
      have hrc : Rd w2 a2 ((l ++ m).map bv) := by simpa using ho2.rd
      have hlen : (l ++ m).length = l.length + m.length := by simp
      have k16 := fun r => update16_ok r a2 (l ++ m) c2 w2 (by omega) hrc
      have k32 := fun r => update32_ok r a2 (l ++ m) c2 w2 (by omega) hrc
      have ks16 := sum16_ok a2 (l ++ m) c2 w2 (by omega) hrc
      have ks32 := sum32_ok a2 (l ++ m) c2 w2 (by omega) hrc
      rw [hlen] at ks16 ks32
      simp only [hlen] at k16 k32
      refine (sum16_ok a l c w2 (by omega) hra).mono ?_
      rintro _ _ ⟨rfl, rfl⟩
      refine ⟨_, rfl, (update16_ok _ b m d w2 (by omega) hrb).mono ?_⟩
      rintro _ _ ⟨rfl, rfl⟩
      refine ⟨_, rfl, ks16.mono ?_⟩
      rintro _ _ ⟨rfl, rfl⟩
      refine ⟨_, rfl, ?_⟩
      rw [if_pos (by rw [sum16, sum16, crc16_append])]
      refine (sum32_ok a l c w2 (by omega) hra).mono ?_
      rintro _ _ ⟨rfl, rfl⟩
      refine ⟨_, rfl, (update32_ok _ b m d w2 (by omega) hrb).mono ?_⟩
      rintro _ _ ⟨rfl, rfl⟩
      refine ⟨_, rfl, ks32.mono ?_⟩
      rintro _ _ ⟨rfl, rfl⟩
      refine ⟨_, rfl, ?_⟩
      rw [if_pos (by rw [sum32, sum32, com32_com, crc32_append])]
      refine (update16_ok r16 a l c w2 (by omega) hra).mono ?_
      rintro _ _ ⟨rfl, rfl⟩
      refine ⟨_, rfl, (update16_ok _ b m d w2 (by omega) hrb).mono ?_⟩
      rintro _ _ ⟨rfl, rfl⟩
      refine ⟨_, rfl, (k16 r16).mono ?_⟩
      rintro _ _ ⟨rfl, rfl⟩
      refine ⟨_, rfl, ?_⟩
      rw [if_pos (by rw [crc16_append])]
      refine (update32_ok r32 a l c w2 (by omega) hra).mono ?_
      rintro _ _ ⟨rfl, rfl⟩
      refine ⟨_, rfl, (update32_ok _ b m d w2 (by omega) hrb).mono ?_⟩
      rintro _ _ ⟨rfl, rfl⟩
      refine ⟨_, rfl, (k32 r32).mono ?_⟩
      rintro _ _ ⟨rfl, rfl⟩
      refine ⟨_, rfl, ?_⟩
      rw [if_pos (by rw [com32_com, crc32_append])]
      refine (alive_ok w2).mono ?_
      rintro _ w' ⟨rfl, hm'⟩
      exact ⟨_, rfl, rfl, hm2.none hm'⟩
  by_cases h : 2000 < l.length
  · rw [if_pos (by omega)]
    exact hmain true (by simp)
  · rw [if_neg (by omega)]
    exact hmain _ (fun h' => ⟨by omega, by have := of_decide_eq_false h'; omega⟩)
end Go.Proofs.Ytmgolpbonleekaa
