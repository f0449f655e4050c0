/-
  The two checksums, as functions of a register and a list of bytes: bit by bit; and what the program's byte step comes to. No program in sight.
-/
import Derived.Test.YtpioadkiomcdlaaBits
import Derived.Test.YtpioadkiomcdlaaHeap
namespace Go.Proofs.Ytpioadkiomcdlaa
set_option linter.unusedVariables false

theorem xor4 {n : Nat} (a b p : BitVec n) : (a ^^^ p) ^^^ (b ^^^ p) = a ^^^ b := by
  rw [BitVec.xor_comm b p, ← BitVec.xor_assoc, BitVec.xor_assoc a p p, BitVec.xor_self, BitVec.xor_zero]
theorem xor_right {n : Nat} (a b p : BitVec n) : (a ^^^ p) ^^^ b = (a ^^^ b) ^^^ p := by
  rw [BitVec.xor_assoc, BitVec.xor_comm p b, ← BitVec.xor_assoc]

/-! ### CRC-16: the most significant bit first -/
def g16 (r : BitVec 16) (b : Bool) : BitVec 16 := if (r.msb != b) = true then (r <<< 1) ^^^ 0x1021#16 else r <<< 1
/-- One round of the program. -/
def f16 (r : BitVec 16) : BitVec 16 := if r.msb = true then (r <<< 1) ^^^ 0x1021#16 else r <<< 1
def bits16 (r : BitVec 16) (x : BitVec 8) : Nat → BitVec 16
  | 0 => r
  | k + 1 => g16 (bits16 r x k) (x.getMsbD k)
def byte16 (r : BitVec 16) (b : UInt8) : BitVec 16 := bits16 r b.toBitVec 8
def crc16 (r : BitVec 16) (l : List UInt8) : BitVec 16 := l.foldl byte16 r

def iter16 : Nat → BitVec 16 → BitVec 16
  | 0, r => r
  | k + 1, r => f16 (iter16 k r)

theorem f16_xor (x y : BitVec 16) : f16 (x ^^^ y) = f16 x ^^^ f16 y := by
  unfold f16
  rw [BitVec.msb_xor, BitVec.shiftLeft_xor_distrib]
  cases x.msb <;> cases y.msb <;> simp
  · rw [BitVec.xor_assoc]
  · rw [xor_right]
  · rw [xor4]
theorem g16_f16 (r : BitVec 16) (b : Bool) : g16 r b = f16 r ^^^ (if b = true then 0x1021#16 else 0) := by
  unfold g16 f16
  cases r.msb <;> cases b <;> simp
  rw [BitVec.xor_assoc, BitVec.xor_self, BitVec.xor_zero]

def top16 (x : BitVec 8) (k : Nat) : BitVec 16 := (x <<< k).setWidth 16 <<< 8
theorem top16_f : ∀ x : BitVec 8, ∀ k : Fin 8, f16 (top16 x k.1) = top16 x (k.1 + 1) ^^^ (if x.getMsbD k.1 = true then 0x1021#16 else 0) := by decide +kernel
theorem top16_8 : ∀ x : BitVec 8, top16 x 8 = 0#16 := by decide +kernel

/-- Behind k rounds the register is what the bits have made of it, and the bits still to come, at the top. -/
theorem rounds16 (r : BitVec 16) (x : BitVec 8) : ∀ k, k ≤ 8 → iter16 k (r ^^^ top16 x 0) = bits16 r x k ^^^ top16 x k := by
  intro k
  induction k with
  | zero => intro _; rfl
  | succ k ih =>
    intro hk
    have h := top16_f x ⟨k, by omega⟩
    simp only at h
    rw [iter16, ih (by omega), f16_xor, h, bits16, g16_f16]
    rw [BitVec.xor_comm (top16 x (k + 1)), ← BitVec.xor_assoc]
theorem byte16_iter (r : BitVec 16) (b : UInt8) : iter16 8 (r ^^^ (b.toBitVec.setWidth 16 <<< 8)) = byte16 r b := by
  have := rounds16 r b.toBitVec 8 (Nat.le_refl _)
  rw [top16_8, BitVec.xor_zero] at this
  rw [byte16, ← this, top16, BitVec.shiftLeft_zero]

theorem crc16_append (r : BitVec 16) (a b : List UInt8) : crc16 r (a ++ b) = crc16 (crc16 r a) b := List.foldl_append
theorem crc16_snoc (r : BitVec 16) (a : List UInt8) (x : UInt8) : crc16 r (a ++ [x]) = byte16 (crc16 r a) x := by rw [crc16_append]; rfl

def run16 (r : BitVec 16) (l : List UInt8) : Nat → BitVec 16
  | 0 => r
  | i + 1 => g16 (run16 r l i) (bit l i)
theorem run16_bits (r : BitVec 16) (l : List UInt8) (n : Nat) : ∀ k, k ≤ 8 → run16 r l (8 * n + k) = bits16 (run16 r l (8 * n)) (l.getD n 0).toBitVec k := by
  intro k
  induction k with
  | zero => intro _; rfl
  | succ k ih =>
    intro hk
    rw [← Nat.add_assoc, run16, ih (by omega), bits16]
    congr 1
    unfold bit
    rw [show (8 * n + k) / 8 = n by omega, show (8 * n + k) % 8 = k by omega]
theorem run16_take (r : BitVec 16) (l : List UInt8) : ∀ n, n ≤ l.length → run16 r l (8 * n) = crc16 r (l.take n) := by
  intro n
  induction n with
  | zero => intro _; rfl
  | succ n ih =>
    intro hn
    rw [List.take_succ_eq_append_getElem (by omega), crc16_snoc, ← ih (by omega), Nat.mul_succ, run16_bits r l n 8 (Nat.le_refl _)]
    simp [byte16, List.getD, List.getElem?_eq_getElem (show n < l.length by omega)]
theorem run16_all (r : BitVec 16) (l : List UInt8) : run16 r l (8 * l.length) = crc16 r l := by
  rw [run16_take r l _ (Nat.le_refl _), List.take_length]

/-! ### CRC-32C: the least significant bit first -/
def g32 (r : BitVec 32) (b : Bool) : BitVec 32 := if (r.getLsbD 0 != b) = true then (r >>> 1) ^^^ 0x82f63b78#32 else r >>> 1
def f32 (r : BitVec 32) : BitVec 32 := if r.getLsbD 0 = true then (r >>> 1) ^^^ 0x82f63b78#32 else r >>> 1
def bits32 (r : BitVec 32) (x : BitVec 8) : Nat → BitVec 32
  | 0 => r
  | k + 1 => g32 (bits32 r x k) (x.getLsbD k)
def byte32 (r : BitVec 32) (b : UInt8) : BitVec 32 := bits32 r b.toBitVec 8
/-- The register, not complemented. -/
def crc32 (r : BitVec 32) (l : List UInt8) : BitVec 32 := l.foldl byte32 r
def iter32 : Nat → BitVec 32 → BitVec 32
  | 0, r => r
  | k + 1, r => f32 (iter32 k r)
theorem f32_xor (x y : BitVec 32) : f32 (x ^^^ y) = f32 x ^^^ f32 y := by
  unfold f32
  rw [BitVec.getLsbD_xor, BitVec.ushiftRight_xor_distrib]
  cases x.getLsbD 0 <;> cases y.getLsbD 0 <;> simp
  · rw [BitVec.xor_assoc]
  · rw [xor_right]
  · rw [xor4]
theorem g32_f32 (r : BitVec 32) (b : Bool) : g32 r b = f32 r ^^^ (if b = true then 0x82f63b78#32 else 0) := by
  unfold g32 f32
  cases r.getLsbD 0 <;> cases b <;> simp
  rw [BitVec.xor_assoc, BitVec.xor_self, BitVec.xor_zero]
def low32 (x : BitVec 8) (k : Nat) : BitVec 32 := (x >>> k).setWidth 32
theorem low32_f : ∀ x : BitVec 8, ∀ k : Fin 8, f32 (low32 x k.1) = low32 x (k.1 + 1) ^^^ (if x.getLsbD k.1 = true then 0x82f63b78#32 else 0) := by decide +kernel
theorem low32_8 : ∀ x : BitVec 8, low32 x 8 = 0#32 := by decide +kernel
theorem rounds32 (r : BitVec 32) (x : BitVec 8) : ∀ k, k ≤ 8 → iter32 k (r ^^^ low32 x 0) = bits32 r x k ^^^ low32 x k := by
  intro k
  induction k with
  | zero => intro _; rfl
  | succ k ih =>
    intro hk
    have h := low32_f x ⟨k, by omega⟩
    simp only at h
    rw [iter32, ih (by omega), f32_xor, h, bits32, g32_f32]
    rw [BitVec.xor_comm (low32 x (k + 1)), ← BitVec.xor_assoc]
theorem byte32_iter (r : BitVec 32) (b : UInt8) : iter32 8 (r ^^^ b.toBitVec.setWidth 32) = byte32 r b := by
  have := rounds32 r b.toBitVec 8 (Nat.le_refl _)
  rw [low32_8, BitVec.xor_zero] at this
  rw [byte32, ← this, low32, BitVec.ushiftRight_zero]
theorem crc32_append (r : BitVec 32) (a b : List UInt8) : crc32 r (a ++ b) = crc32 (crc32 r a) b := List.foldl_append
theorem crc32_snoc (r : BitVec 32) (a : List UInt8) (x : UInt8) : crc32 r (a ++ [x]) = byte32 (crc32 r a) x := by rw [crc32_append]; rfl

/-! ### One round in numbers -/
theorem f16_nat (r : BitVec 16) : (f16 r).toNat = if r.toNat >>> 15 = 1 then (r.toNat <<< 1 % 65536) ^^^ 0x1021 else r.toNat <<< 1 % 65536 := by
  unfold f16
  have hm : r.msb = true ↔ r.toNat >>> 15 = 1 := by
    rw [BitVec.msb_eq_decide, Nat.shiftRight_eq_div_pow]
    have := r.isLt
    simp
    omega
  by_cases h : r.msb = true
  · rw [if_pos h, if_pos (hm.1 h)]; simp [BitVec.toNat_xor, BitVec.toNat_shiftLeft]
  · rw [if_neg h, if_neg (fun h' => h (hm.2 h'))]; simp [BitVec.toNat_shiftLeft]
theorem f32_nat (r : BitVec 32) : (f32 r).toNat = if r.toNat &&& 1 = 1 then (r.toNat >>> 1) ^^^ 0x82f63b78 else r.toNat >>> 1 := by
  unfold f32
  have hm : r.getLsbD 0 = true ↔ r.toNat &&& 1 = 1 := by
    rw [BitVec.getLsbD, Nat.testBit_zero, Nat.and_one_is_mod]
    simp
  by_cases h : r.getLsbD 0 = true
  · rw [if_pos h, if_pos (hm.1 h)]; simp [BitVec.toNat_xor, BitVec.toNat_ushiftRight]
  · rw [if_neg h, if_neg (fun h' => h (hm.2 h'))]; simp [BitVec.toNat_ushiftRight]
end Go.Proofs.Ytpioadkiomcdlaa
