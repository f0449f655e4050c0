/-
  The function that inverts bits, and the law CrcAppends, as contracts.
-/
import Derived.Test.YtdbckjadafpenaaBurst
namespace Go.Proofs.Ytdbckjadafpenaa
open Go Go.Sh Go.Proofs
set_option linter.unusedVariables false

theorem pat_bit (p : BitVec 16) {k : Nat} (hk : k < 16) : Int.tmod (shr .u16 (p.toNat : Int) (IntKind.i64.wrap (15 - (k : Int)))) 2 = 1 ↔ p.getMsbD k = true := by
  rw [wi64 (by omega), show (15 : Int) - (k : Int) = ((15 - k : Nat) : Int) by omega, shrN .u16 _ _ (by show _ ≤ 16; omega), Int.tmod_eq_emod_of_nonneg (Int.natCast_nonneg _)]
  rw [BitVec.getMsbD, BitVec.getLsbD, Nat.testBit, Nat.and_comm, Nat.and_one_is_mod]
  rw [show 16 - 1 - k = 15 - k by omega]
  generalize p.toNat >>> (15 - k) = q
  have h6 : q % 2 = 0 ∨ q % 2 = 1 := by omega
  rcases h6 with h6 | h6 <;> simp [hk, h6] <;> omega
theorem flip_val (x : UInt8) {r : Nat} (hr : r < 8) : Value.int .u8 (bxor .u8 (x.toNat : Int) (shl .u8 1 (7 - (r : Int)))) = bv (flipB x r) := by
  have hx := u8lt x
  rw [show (7 : Int) - (r : Int) = ((7 - r : Nat) : Int) by omega, show (1 : Int) = ((1 : Nat) : Int) from rfl, shlU rfl _ _ (by show _ ≤ 8; omega), bxorU rfl (by exact hx) (Nat.mod_lt _ (by decide)), bv, flipB]
  rw [show (UInt8.ofBitVec (x.toBitVec ^^^ 1#8 <<< (7 - r))).toNat = (x.toBitVec ^^^ 1#8 <<< (7 - r)).toNat from rfl, BitVec.toNat_xor, BitVec.toNat_shiftLeft]
  rfl

def Chg (s : List UInt8) (i : Nat) (p : BitVec 16) (a : Option Addr) (c : Nat) (w0 : World) (x : Int) (w : World) : Prop :=
  ∃ k : Nat, k ≤ 16 ∧ x = (k : Int) ∧ Own w 5 1 a s.length c ((chg s i p k).map bv) ∧ Mod [] w0 w

theorem changed_ok (a : Option Addr) (s : List UInt8) (c i : Nat) (p : BitVec 16) (w : World) (hl : s.length ≤ 1000000) (hi : i < 8 * s.length) (hr : Rd w a (s.map bv)) :
    Does Try.prog 22 #[.slice a s.length c, .int .i64 (i : Int), .int .u16 (p.toNat : Int)] w fun v w' => ∃ a' c', v = .slice a' s.length c' ∧ Own w' 5 1 a' s.length c' ((chg s i p 16).map bv) ∧ Mod [] w w' := by
  apply w22
  unfold F22 New
  have hm := Mod.push (S := []) w 5 []
  have ho : Own (push w 5 []) 5 1 (some (fresh w)) 0 0 [] := Own.blk (Blk.new w 5 []) rfl (by decide)
  obtain ⟨a', c', w1, hrun, hown, hmod, hfp⟩ := append_own (d := c) Try.underlying22 elem5 22 ho (hr.mod hm (by simp)) (m := s.length) (by simp) (bv_one s) (by omega) (by omega)
  rw [Nat.zero_add] at hrun hown
  have hm1 : Mod [] w w1 := hm.trans hmod (by simp [fp, fresh])
  have hf1 : ∀ g ∈ fp a', w.heap.size ≤ g := by rcases hfp with h | h <;> rw [h] <;> simp [fp_fresh, size_push]
  refine ⟨_, _, _, _, hrun, ?_⟩
  refine LoopP.of (Chg s i p a' c' w) (fun x _ => 16 - x.toNat) ⟨0, by omega, rfl, by simpa [chg] using hown, hm1⟩ ?_
  rintro _ w2 ⟨k, hk, rfl, ho2, hm2⟩
  unfold F22_b1
  by_cases hlt : k < 16
  · rw [if_pos (by omega)]
    refine ⟨by rw [wi64 (by omega)]; omega, ?_⟩
    have e1 : IntKind.i64.wrap ((i : Int) + (k : Int)) = ((i + k : Nat) : Int) := by rw [wi64 (by omega)]; omega
    have e2 : IntKind.i64.wrap (8 * (s.length : Int)) = ((8 * s.length : Nat) : Int) := by rw [wi64 (by omega)]; omega
    have e3 : IntKind.i64.wrap ((k : Int) + 1) = ((k + 1 : Nat) : Int) := by rw [wi64 (by omega)]; omega
    have hlen := chg_len s i p k
    have hP := pat_bit p hlt
    have hdone : ∀ w3, Own w3 5 1 a' s.length c' ((chg s i p (k + 1)).map bv) → Mod [] w w3 → ∃ m, m < 16 - (k : Int).toNat ∧ (Chg s i p a' c' w ((k + 1 : Nat) : Int) w3 ∧ 16 - ((k + 1 : Nat) : Int).toNat = m) :=
      fun w3 h1 h2 => ⟨_, by omega, ⟨k + 1, by omega, rfl, h1, h2⟩, rfl⟩
    by_cases hp : p.getMsbD k = true
    · rw [if_pos (hP.2 hp)]
      unfold F22_j2
      rw [e1, e2, e3]
      by_cases hlim : i + k < 8 * s.length
      · have hc : chg s i p (k + 1) = flip (chg s i p k) (i + k) := by rw [chg, if_pos ⟨hp, hlim⟩]
        rw [if_pos (by simp; omega)]
        have e4 : IntKind.i64.wrap (Int.tdiv ((i + k : Nat) : Int) 8) = (((i + k) / 8 : Nat) : Int) := by rw [Int.tdiv_eq_ediv_of_nonneg (by omega), wi64 (by omega)]; omega
        have e5 : IntKind.i64.wrap (7 - Int.tmod ((i + k : Nat) : Int) 8) = 7 - (((i + k) % 8 : Nat) : Int) := by rw [Int.tmod_eq_emod_of_nonneg (by omega), wi64 (by omega)]; omega
        rw [e4, e5, Int.toNat_natCast]
        have hin : (i + k) / 8 < (chg s i p k).length := by omega
        obtain ⟨q, rfl, hcell⟩ := rd_at ho2.rd hin
        obtain ⟨q', hq, hwr, ho3, hm3⟩ := ho2.drew.setAt (i := (i + k) / 8) (by simpa using hin) (bv (flipB ((chg s i p k).getD ((i + k) / 8) 0) ((i + k) % 8)))
        cases hq
        refine ⟨q, rfl, by omega, by omega, _, hcell, by omega, by omega, by omega, ?_⟩
        rw [flip_val _ (by omega)]
        refine ⟨hwr, hdone _ ?_ (hm2.trans ((Mod.drew w2).same hm3) (fun g hg => .inr (hf1 g hg)))⟩
        rw [hc, flip, List.map_set]
        exact ho3
      · have hc : chg s i p (k + 1) = chg s i p k := by rw [chg, if_neg (fun h => hlim h.2)]
        rw [if_neg (by simp; omega)]
        exact hdone _ (by rw [hc]; exact ho2) hm2
    · rw [if_neg (fun h => hp (hP.1 h))]
      unfold F22_j2
      have hc : chg s i p (k + 1) = chg s i p k := by rw [chg, if_neg (fun h => hp h.1)]
      rw [e3, if_neg (by simp)]
      exact hdone _ (by rw [hc]; exact ho2) hm2
  · have : k = 16 := by omega
    subst this
    rw [if_neg (by omega)]
    exact ⟨_, _, rfl, ho2, hm2⟩

/-! ### CrcAppends -/
end Go.Proofs.Ytdbckjadafpenaa
