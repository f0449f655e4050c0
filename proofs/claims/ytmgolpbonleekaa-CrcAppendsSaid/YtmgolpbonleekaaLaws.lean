/-
  The examples of chapter 1, and the five laws, as contracts: each returns true and changes nothing that was there.
-/
import Derived.Test.YtmgolpbonleekaaWalks3
namespace Go.Proofs.Ytmgolpbonleekaa
open Go Go.Sh Go.Proofs
set_option linter.unusedVariables false

theorem alive_ok (w : World) : Does Try.prog 8 #[] w fun v w' => v = .bool true ∧ Mod [] w w' := by
  apply w8
  unfold F8 New
  let l : List UInt8 := [49, 50, 51, 52, 53, 54, 55, 56, 57]
  have hb : Blk (push w 5 (l.map bv)) w.heap.size 5 (l.map bv) := Blk.new _ _ _
  obtain ⟨w1, hrun, hr, hm1⟩ := same_ok hb 9 9
  have hm : Mod [] w w1 := (Mod.push w 5 _).trans hm1 (by simp)
  refine ⟨_, _, _, _, hrun, ?_⟩
  refine (sum16_ok _ l 9 w1 (by decide) hr).mono ?_
  rintro _ _ ⟨rfl, rfl⟩
  refine ⟨_, rfl, ?_⟩
  rw [if_pos (by rw [num_sum16]; decide)]
  refine (sum32_ok _ l 9 w1 (by decide) hr).mono ?_
  rintro _ _ ⟨rfl, rfl⟩
  refine ⟨_, rfl, ?_⟩
  rw [if_pos (by rw [num_sum32]; decide)]
  refine (sum16_ok none [] 0 w1 (by decide) Rd.nil).mono ?_
  rintro _ _ ⟨rfl, rfl⟩
  refine ⟨_, rfl, ?_⟩
  rw [if_pos (by decide)]
  refine (sum32_ok none [] 0 w1 (by decide) Rd.nil).mono ?_
  rintro _ _ ⟨rfl, rfl⟩
  refine ⟨_, rfl, ?_⟩
  rw [if_pos (by decide)]
  have hb2 : Blk (push w1 5 [.int .u8 0]) w1.heap.size 5 ([(0 : UInt8)].map bv) := Blk.new _ _ _
  refine (append16_ok _ [0] 1 _ (by decide) (Rd.blk hb2)).mono ?_
  rintro _ w2 ⟨a2, c2, rfl, ho, hm2, _⟩
  refine ⟨_, _, _, rfl, ?_⟩
  rw [num_app] at ho
  refine ⟨_, toStr_ok (l := [0, 225, 240]) c2 ho.rd, ?_⟩
  rw [if_pos (by rw [str_list]; rfl)]
  have hb3 : Blk (push w2 5 [.int .u8 0, .int .u8 225, .int .u8 240]) w2.heap.size 5 ([(0 : UInt8), 225, 240].map bv) := Blk.new _ _ _
  refine (check16_ok _ [0, 225, 240] 3 _ (by decide) (by decide) (Rd.blk hb3)).mono ?_
  rintro _ _ ⟨rfl, rfl⟩
  refine ⟨_, rfl, by rw [num_chk], ?_⟩
  exact (((hm.none (Mod.push _ _ _)).none hm2).none (Mod.push _ _ _)).none (Mod.drew _)

/-! ### CrcSums -/
theorem crcSums_ok (a : Option Addr) (l : List UInt8) (c : Nat) (r16 : BitVec 16) (r32 : BitVec 32) (w : World) (hr : Rd w a (l.map bv)) :
    Does Try.prog 3 #[.slice a l.length c, .int .u16 (r16.toNat : Int), .int .u32 (r32.toNat : Int)] w fun v w' => v = .bool true ∧ Mod [] w w' := by
  apply w3
  unfold F3
  by_cases hl : 2000 < l.length
  · rw [if_pos (by omega)]
    refine (alive_ok w).mono ?_
    rintro _ w' ⟨rfl, hm⟩
    exact ⟨_, rfl, rfl, hm⟩
  · have hl' : l.length ≤ 1000000 := by omega
    rw [if_neg (by omega)]
    refine (sum16_ok a l c w hl' hr).mono ?_
    rintro _ _ ⟨rfl, rfl⟩
    refine ⟨_, rfl, (refSum16_ok a l c w hl' hr).mono ?_⟩
    rintro _ _ ⟨rfl, rfl⟩
    refine ⟨_, rfl, ?_⟩
    rw [if_pos rfl]
    refine (update16_ok r16 a l c w hl' hr).mono ?_
    rintro _ _ ⟨rfl, rfl⟩
    refine ⟨_, rfl, (refUpdate16_ok r16 a l c w hl' hr).mono ?_⟩
    rintro _ _ ⟨rfl, rfl⟩
    refine ⟨_, rfl, ?_⟩
    rw [if_pos rfl]
    refine (sum32_ok a l c w hl' hr).mono ?_
    rintro _ _ ⟨rfl, rfl⟩
    refine ⟨_, rfl, (refSum32_ok a l c w hl' hr).mono ?_⟩
    rintro _ _ ⟨rfl, rfl⟩
    refine ⟨_, rfl, ?_⟩
    rw [if_pos rfl]
    refine (update32_ok r32 a l c w hl' hr).mono ?_
    rintro _ _ ⟨rfl, rfl⟩
    refine ⟨_, rfl, (refUpdate32_ok r32 a l c w hl' hr).mono ?_⟩
    rintro _ _ ⟨rfl, rfl⟩
    refine ⟨_, rfl, ?_⟩
    rw [if_pos rfl]
    refine (alive_ok w).mono ?_
    rintro _ w' ⟨rfl, hm⟩
    exact ⟨_, rfl, rfl, hm⟩
end Go.Proofs.Ytmgolpbonleekaa
