/-
  Bit fields as numbers: what a writer's bytes are, and what a reader reads, by division and remainder.
-/
import Derived.Test.YtcgkmmiokmbjdaaBits
namespace Go.Proofs.Ytcgkmmiokmbjdaa
open Go Go.Sh Go.Proofs
set_option linter.unusedVariables false
set_option linter.unusedSimpArgs false

def val (l : List UInt8) : Nat := l.foldl (fun n b => n * 256 + b.toNat) 0
theorem val_snoc (l : List UInt8) (b : UInt8) : val (l ++ [b]) = val l * 256 + b.toNat := by simp [val]
theorem msb_testBit (b : UInt8) {r : Nat} (hr : r < 8) : b.toBitVec.getMsbD r = b.toNat.testBit (7 - r) := by
  rw [BitVec.getMsbD]
  simp [hr, BitVec.getLsbD]
theorem bit_ofval (l : List UInt8) : ∀ i, i < 8 * l.length → bit l i = (val l).testBit (8 * l.length - 1 - i) := by
  refine snoc_ind (P := fun l => ∀ i, i < 8 * l.length → bit l i = (val l).testBit (8 * l.length - 1 - i)) ?_ ?_ l
  · intro i hi; simp at hi
  · intro l b ih i hi
    rw [val_snoc, Nat.mul_comm (val l), show (256 : Nat) = 2 ^ 8 from rfl, Nat.testBit_two_pow_mul_add _ (by have := b.toNat_lt; exact this)]
    simp only [List.length_append, List.length_cons, List.length_nil] at hi ⊢
    by_cases h : i < 8 * l.length
    · rw [if_neg (by omega), show 8 * (l.length + (0 + 1)) - 1 - i - 8 = 8 * l.length - 1 - i by omega, ← ih i h]
      unfold bit
      rw [List.getD_eq_getElem?_getD, List.getD_eq_getElem?_getD, List.getElem?_append_left (by omega)]
    · rw [if_pos (by omega)]
      unfold bit
      rw [List.getD_eq_getElem?_getD, List.getElem?_append_right (by omega), show i / 8 - l.length = 0 by omega]
      simp only [List.getElem?_cons_zero, Option.getD_some]
      rw [msb_testBit _ (by omega)]
      congr 1
      omega
theorem val_lt (l : List UInt8) : val l < 2 ^ (8 * l.length) := by
  refine snoc_ind (P := fun l => val l < 2 ^ (8 * l.length)) ?_ ?_ l
  · simp [val]
  · intro l b ih
    have := b.toNat_lt
    rw [val_snoc]
    simp only [List.length_append, List.length_cons, List.length_nil]
    rw [show 8 * (l.length + (0 + 1)) = 8 * l.length + 8 by omega, Nat.pow_add]
    omega
theorem bits_ext {l m : List UInt8} (hl : l.length = m.length) (h : val l = val m) : l = m := by
  have : ∀ l : List UInt8, ∀ m : List UInt8, l.length = m.length → val l = val m → l = m := by
    intro l
    refine snoc_ind (P := fun l => ∀ m : List UInt8, l.length = m.length → val l = val m → l = m) ?_ ?_ l
    · intro m h _; exact (List.eq_nil_of_length_eq_zero h.symm).symm
    · intro l b ih m
      refine snoc_ind (P := fun m => (l ++ [b]).length = m.length → val (l ++ [b]) = val m → l ++ [b] = m) ?_ ?_ m
      · intro h; simp at h
      · intro m c _ hl hv
        rw [val_snoc, val_snoc] at hv
        have h1 := b.toNat_lt
        have h2 := c.toNat_lt
        have e1 : b.toNat = c.toNat := by omega
        rw [ih m (by simpa using hl) (by omega), UInt8.toNat_inj.1 e1]
  exact this l m hl h

/-- The last k bytes of a number, the most significant first. -/
def be (n : Nat) : Nat → List UInt8
  | 0 => []
  | k + 1 => be (n / 256) k ++ [UInt8.ofNat n]
theorem be_len (n k : Nat) : (be n k).length = k := by
  induction k generalizing n with
  | zero => rfl
  | succ k ih => simp [be, ih]
theorem val_be (n k : Nat) : val (be n k) = n % 2 ^ (8 * k) := by
  induction k generalizing n with
  | zero => simp [be, val, Nat.mod_one]
  | succ k ih =>
    rw [be, val_snoc, ih, UInt8.toNat_ofNat', show 8 * (k + 1) = 8 + 8 * k by omega, Nat.pow_add, Nat.mod_mul, show (2 : Nat) ^ 8 = 256 from rfl]
    generalize 2 ^ (8 * k) = q
    generalize n / 256 % q = x
    omega
theorem be_val (l : List UInt8) : be (val l) l.length = l :=
  bits_ext (be_len _ _) (by rw [val_be, Nat.mod_eq_of_lt (val_lt l)])
theorem val_of_bits (l : List UInt8) (n : Nat) (h : ∀ i, i < 8 * l.length → bit l i = n.testBit (8 * l.length - 1 - i)) : val l = n % 2 ^ (8 * l.length) := by
  apply Nat.eq_of_testBit_eq
  intro j
  rw [Nat.testBit_mod_two_pow]
  by_cases hj : j < 8 * l.length
  · have h1 := bit_ofval l (8 * l.length - 1 - j) (by omega)
    have h2 := h (8 * l.length - 1 - j) (by omega)
    rw [show 8 * l.length - 1 - (8 * l.length - 1 - j) = j by omega] at h1 h2
    rw [← h1, h2]; simp [hj]
  · rw [Nat.testBit_lt_two_pow (Nat.lt_of_lt_of_le (val_lt l) (Nat.pow_le_pow_right (by decide) (by omega)))]
    simp [hj]
theorem pack_field (n k : Nat) : pack (field n (8 * k)) = be n k := by
  have hl : (pack (field n (8 * k))).length = k := by rw [pack_len, field_len]; omega
  refine bits_ext (by rw [hl, be_len]) ?_
  rw [val_be, val_of_bits _ n ?_, hl]
  intro i hi
  rw [hl] at hi ⊢
  rw [pack_bit]
  simp [field, List.getD, hi]
theorem field_cat (a b : Nat) (x y : Nat) (hb : b < 2 ^ y) : field a x ++ field b y = field (a * 2 ^ y + b) (x + y) := by
  rw [field_split]
  have h1 : (a * 2 ^ y + b) >>> y = a := by
    rw [Nat.shiftRight_eq_div_pow, Nat.mul_comm, Nat.mul_add_div (Nat.two_pow_pos y), Nat.div_eq_of_lt hb, Nat.add_zero]
  rw [h1]
  congr 1
  unfold field
  apply List.map_congr_left
  intro i hi
  rw [List.mem_range] at hi
  rw [Nat.mul_comm, Nat.testBit_two_pow_mul_add _ hb, if_pos (by omega)]
theorem num_val (l : List UInt8) (p k : Nat) (h : p + k ≤ 8 * l.length) : num l p k = val l / 2 ^ (8 * l.length - p - k) % 2 ^ k := by
  rw [num_field l p (val l) (8 * l.length - p) ?_ k (by omega), Nat.shiftRight_eq_div_pow]
  intro i hi
  rw [bit_ofval l _ (by omega)]
  congr 1
  omega
theorem num_take (l : List UInt8) (m p : Nat) : ∀ k, p + k ≤ 8 * m → num l p k = num (l.take m) p k
  | 0, _ => rfl
  | k + 1, h => by
    rw [num, num, num_take l m p k (by omega)]
    congr 2
    unfold bit
    rw [List.getD_eq_getElem?_getD, List.getD_eq_getElem?_getD, List.getElem?_take, if_pos (by omega)]
end Go.Proofs.Ytcgkmmiokmbjdaa
