/-
  The contracts of the functions of chapter 1: what each returns, off its form.
-/
import Derived.Test.YtpioadkiomcdlaaForms
import Derived.Test.YtpioadkiomcdlaaCrc
import Derived.Test.YtpioadkiomcdlaaBitsW
import Derived.Test.YtpioadkiomcdlaaHeap
namespace Go.Proofs.Ytpioadkiomcdlaa
open Go Go.Sh Go.Proofs
set_option linter.unusedVariables false

theorem take_step {l : List UInt8} {i : Nat} (hi : i < l.length) : l.take (i + 1) = l.take i ++ [l.getD i 0] := by
  rw [List.take_succ_eq_append_getElem hi]
  simp [List.getD, List.getElem?_eq_getElem hi]
theorem u16lt (r : BitVec 16) : r.toNat < 2 ^ IntKind.u16.bits := r.isLt
theorem u32lt (r : BitVec 32) : r.toNat < 2 ^ IntKind.u32.bits := r.isLt
/-! ### crc.Update16 -/
theorem enter16 (R : BitVec 16) (x : UInt8) : bxor .u16 (R.toNat : Int) (shl .u16 (IntKind.u16.wrap (x.toNat : Int)) 8) = ((R ^^^ (x.toBitVec.setWidth 16 <<< 8)).toNat : Int) := by
  have hx := u8lt x
  have h1 : IntKind.u16.wrap (x.toNat : Int) = (x.toNat : Int) := wrapU_lt rfl (by show _ < 65536; omega)
  have h2 : shl .u16 (x.toNat : Int) 8 = ((x.toNat <<< 8 % 65536 : Nat) : Int) := shlU rfl _ 8 (by decide)
  rw [h1, h2, bxorU rfl (u16lt R) (by show _ < 65536; omega), BitVec.toNat_xor, BitVec.toNat_shiftLeft, BitVec.toNat_setWidth]
  have : x.toBitVec.toNat = x.toNat := rfl
  rw [this, Nat.mod_eq_of_lt (show x.toNat < 2 ^ 16 by omega)]
theorem round16 (r : BitVec 16) : ((f16 r).toNat : Int) = if shr .u16 (r.toNat : Int) 15 = 1 then bxor .u16 (shl .u16 (r.toNat : Int) 1) 4129 else shl .u16 (r.toNat : Int) 1 := by
  have h1 : shr .u16 (r.toNat : Int) 15 = ((r.toNat >>> 15 : Nat) : Int) := shrN .u16 _ 15 (by decide)
  have h2 : shl .u16 (r.toNat : Int) 1 = ((r.toNat <<< 1 % 65536 : Nat) : Int) := shlU rfl _ 1 (by decide)
  have h3 : bxor .u16 ((r.toNat <<< 1 % 65536 : Nat) : Int) 4129 = (((r.toNat <<< 1 % 65536) ^^^ 0x1021 : Nat) : Int) := bxorU (y := 4129) rfl (by show _ < 65536; omega) (by decide)
  rw [h1, h2, h3, f16_nat]
  by_cases h : r.toNat >>> 15 = 1
  · rw [if_pos h, if_pos (by omega)]
  · rw [if_neg h, if_neg (by omega)]

def I16 (r0 : BitVec 16) (l : List UInt8) (w0 : World) (s : Int × Int) (w : World) : Prop :=
  ∃ i : Nat, i ≤ l.length ∧ s = (((crc16 r0 (l.take i)).toNat : Int), (i : Int)) ∧ w0 = w
def I16b (r : BitVec 16) (w0 : World) (s : Int × Int) (w : World) : Prop :=
  ∃ j : Nat, j ≤ 8 ∧ s = (((iter16 j r).toNat : Int), (j : Int)) ∧ w0 = w

theorem update16_ok (r0 : BitVec 16) (a : Option Addr) (l : List UInt8) (c : Nat) (w : World) (hl : l.length ≤ 1000000) (hr : Rd w a (l.map bv)) :
    Does Try.prog 49 #[.int .u16 (r0.toNat : Int), .slice a l.length c] w fun v w' => v = .int .u16 ((crc16 r0 l).toNat : Int) ∧ w = w' := by
  apply w49
  unfold F49
  refine LoopP.of (I16 r0 l w) (fun s _ => l.length - s.2.toNat) ⟨0, Nat.zero_le _, rfl, rfl⟩ ?_
  rintro _ _ ⟨i, hi, rfl, rfl⟩
  unfold F49_b1
  dsimp only
  by_cases hlt : i < l.length
  · obtain ⟨p, rfl, hc⟩ := rd_at hr hlt
    rw [if_pos (by omega)]
    refine ⟨p, rfl, by omega, by omega, _, hc, ?_⟩
    rw [enter16]
    refine LoopP.of (I16b (crc16 r0 (l.take i) ^^^ ((l.getD i 0).toBitVec.setWidth 16 <<< 8)) w) (fun s _ => 8 - s.2.toNat) ⟨0, Nat.zero_le _, rfl, rfl⟩ ?_
    rintro _ _ ⟨j, hj, rfl, rfl⟩
    unfold F49_b2
    dsimp only
    by_cases h8 : j < 8
    · rw [if_pos (by omega), wi64 (by omega)]
      have hr := round16 (iter16 j (crc16 r0 (l.take i) ^^^ ((l.getD i 0).toBitVec.setWidth 16 <<< 8)))
      split <;> rename_i h
      · rw [if_pos h] at hr
        rw [← hr]
        exact ⟨_, by omega, ⟨j + 1, by omega, by rw [iter16]; rfl, rfl⟩, rfl⟩
      · rw [if_neg h] at hr
        rw [← hr]
        exact ⟨_, by omega, ⟨j + 1, by omega, by rw [iter16]; rfl, rfl⟩, rfl⟩
    · have : j = 8 := by omega
      subst this
      rw [if_neg (by omega), wi64 (by omega), byte16_iter, ← crc16_snoc, ← take_step hlt]
      exact ⟨_, by omega, ⟨i + 1, by omega, rfl, rfl⟩, rfl⟩
  · have : i = l.length := by omega
    subst this
    rw [if_neg (by omega), List.take_length]
    exact ⟨rfl, rfl⟩
/-! ### crc.Update32 -/
def com32 (r : BitVec 32) : BitVec 32 := r ^^^ 0xffffffff#32
theorem com32_nat (r : BitVec 32) : bxor .u32 (if IntKind.u32.signed = true then -1 else IntKind.u32.max) (r.toNat : Int) = ((com32 r).toNat : Int) := by
  have : (if IntKind.u32.signed = true then -1 else IntKind.u32.max) = ((0xffffffff : Nat) : Int) := by decide
  rw [this, bxorU rfl (by decide) (u32lt r), com32, BitVec.toNat_xor, Nat.xor_comm]
  rfl
theorem enter32 (R : BitVec 32) (x : UInt8) : bxor .u32 (R.toNat : Int) (IntKind.u32.wrap (x.toNat : Int)) = ((R ^^^ x.toBitVec.setWidth 32).toNat : Int) := by
  have hx := u8lt x
  have h1 : IntKind.u32.wrap (x.toNat : Int) = (x.toNat : Int) := wrapU_lt rfl (by show _ < 4294967296; omega)
  rw [h1, bxorU rfl (u32lt R) (by show _ < 4294967296; omega), BitVec.toNat_xor, BitVec.toNat_setWidth]
  have : x.toBitVec.toNat = x.toNat := rfl
  rw [this, Nat.mod_eq_of_lt (show x.toNat < 2 ^ 32 by omega)]
theorem round32 (r : BitVec 32) : ((f32 r).toNat : Int) = if band .u32 (r.toNat : Int) 1 = 1 then bxor .u32 (shr .u32 (r.toNat : Int) 1) 2197175160 else shr .u32 (r.toNat : Int) 1 := by
  have h1 : band .u32 (r.toNat : Int) 1 = ((r.toNat &&& 1 : Nat) : Int) := bandU (y := 1) rfl (u32lt r) (by decide)
  have h2 : shr .u32 (r.toNat : Int) 1 = ((r.toNat >>> 1 : Nat) : Int) := shrN .u32 _ 1 (by decide)
  have hlt : r.toNat >>> 1 < 4294967296 := by have := r.isLt; rw [Nat.shiftRight_eq_div_pow]; omega
  have h3 : bxor .u32 ((r.toNat >>> 1 : Nat) : Int) 2197175160 = (((r.toNat >>> 1) ^^^ 0x82f63b78 : Nat) : Int) := bxorU (y := 2197175160) rfl hlt (by decide)
  rw [h1, h2, h3, f32_nat]
  by_cases h : r.toNat &&& 1 = 1
  · rw [if_pos h, if_pos (by omega)]
  · rw [if_neg h, if_neg (by omega)]

def I32 (r0 : BitVec 32) (l : List UInt8) (w0 : World) (s : Int × Int) (w : World) : Prop :=
  ∃ i : Nat, i ≤ l.length ∧ s = (((crc32 r0 (l.take i)).toNat : Int), (i : Int)) ∧ w0 = w
def I32b (r : BitVec 32) (w0 : World) (s : Int × Int) (w : World) : Prop :=
  ∃ j : Nat, j ≤ 8 ∧ s = (((iter32 j r).toNat : Int), (j : Int)) ∧ w0 = w

/-! ### the reference's -/
theorem bit_ok (a : Option Addr) (l : List UInt8) (c : Nat) (i : Nat) (w : World) (hl : l.length ≤ 1000000) (hr : Rd w a (l.map bv)) (hi : i < 8 * l.length) :
    Does Try.prog 50 #[.slice a l.length c, .int .i64 (i : Int)] w fun v w' => v = .int .i64 (if bit l i = true then 1 else 0) ∧ w = w' := by
  apply w50
  unfold F50
  have hq : IntKind.i64.wrap (Int.tdiv (i : Int) 8) = ((i / 8 : Nat) : Int) := by rw [Int.tdiv_eq_ediv_of_nonneg (by omega), wi64 (by omega)]; omega
  have hm : IntKind.i64.wrap (7 - Int.tmod (i : Int) 8) = ((7 - i % 8 : Nat) : Int) := by rw [Int.tmod_eq_emod_of_nonneg (by omega), wi64 (by omega)]; omega
  obtain ⟨p, rfl, hc⟩ := rd_at hr (show i / 8 < l.length by omega)
  rw [hq, hm]
  refine ⟨p, rfl, by omega, by omega, _, hc, by omega, ?_, rfl⟩
  have hx := u8lt (l.getD (i / 8) 0)
  have h1 : IntKind.i64.wrap ((l.getD (i / 8) 0).toNat : Int) = ((l.getD (i / 8) 0).toNat : Int) := wi64 (by omega)
  rw [h1, shrN .i64 _ _ (by show _ ≤ 64; omega)]
  have hb : bit l i = true ↔ (l.getD (i / 8) 0).toNat >>> (7 - i % 8) % 2 = 1 := by
    unfold bit
    rw [BitVec.getMsbD, BitVec.getLsbD]
    have e : (l.getD (i / 8) 0).toBitVec.toNat = (l.getD (i / 8) 0).toNat := rfl
    rw [e, Nat.testBit, Nat.and_comm, Nat.and_one_is_mod, show 8 - 1 - i % 8 = 7 - i % 8 by omega]
    simp
    omega
  congr 1
  rw [Int.tmod_eq_emod_of_nonneg (Int.natCast_nonneg _)]
  generalize (l.getD (i / 8) 0).toNat >>> (7 - i % 8) = q at *
  by_cases h : bit l i = true
  · rw [if_pos h]; have := hb.1 h; omega
  · rw [if_neg h]; have : ¬ q % 2 = 1 := fun h' => h (hb.2 h'); omega
end Go.Proofs.Ytpioadkiomcdlaa
