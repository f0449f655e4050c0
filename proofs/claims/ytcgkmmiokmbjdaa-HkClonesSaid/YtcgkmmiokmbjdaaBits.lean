/-
  Bits in bytes, the most significant first: adding a bit at the end, fields, numbers out of bits. No program in sight.
-/
import Derived.Test.YtcgkmmiokmbjdaaHeap
namespace Go.Proofs.Ytcgkmmiokmbjdaa
open Go Go.Sh
set_option linter.unusedVariables false

theorem snoc_ind {α : Type} {P : List α → Prop} (h0 : P []) (h1 : ∀ l x, P l → P (l ++ [x])) (l : List α) : P l := by
  have : ∀ m : List α, P m.reverse := by
    intro m
    induction m with
    | nil => exact h0
    | cons x m ih => rw [List.reverse_cons]; exact h1 _ _ ih
  have := this l.reverse
  rwa [List.reverse_reverse] at this

def bit (l : List UInt8) (i : Nat) : Bool := (l.getD (i / 8) 0).toBitVec.getMsbD (i % 8)
def setB (x : UInt8) (r : Nat) (b : Bool) : UInt8 := ⟨x.toBitVec ||| ((if b then 1#8 else 0#8) <<< (7 - r))⟩
theorem setB_bit (x : UInt8) (b : Bool) {r r' : Nat} (h : r < 8) (h' : r' < 8) : (setB x r b).toBitVec.getMsbD r' = (x.toBitVec.getMsbD r' || (b && decide (r = r'))) := by
  have hd : ∀ a b : Fin 8, (1#8 <<< (7 - a.1)).getMsbD b.1 = decide (a.1 = b.1) := by decide
  have := hd ⟨r, h⟩ ⟨r', h'⟩
  simp only at this
  unfold setB
  rw [BitVec.getMsbD_or]
  cases b <;> simp [this]
/-- The bytes that the n-th bit goes into: a new one at the border of two bytes. -/
def room (l : List UInt8) (n : Nat) : List UInt8 := if n % 8 = 0 then l ++ [0] else l
def addBit (l : List UInt8) (n : Nat) (b : Bool) : List UInt8 := (room l n).set (n / 8) (setB ((room l n).getD (n / 8) 0) (n % 8) b)
def packs (L : List Bool) : List UInt8 × Nat := L.foldl (fun s b => (addBit s.1 s.2 b, s.2 + 1)) ([], 0)
def pack (L : List Bool) : List UInt8 := (packs L).1
theorem packs_snoc (L : List Bool) (b : Bool) : packs (L ++ [b]) = (addBit (packs L).1 (packs L).2 b, (packs L).2 + 1) := by unfold packs; rw [List.foldl_append]; rfl
theorem packs_n (L : List Bool) : (packs L).2 = L.length := by
  induction L using snoc_ind with
  | h0 => rfl
  | h1 l x ih => rw [packs_snoc]; simp [ih]
theorem pack_snoc (L : List Bool) (b : Bool) : pack (L ++ [b]) = addBit (pack L) L.length b := by unfold pack; rw [packs_snoc, packs_n]
theorem pack_nil : pack [] = [] := rfl
theorem room_len (l : List UInt8) (n : Nat) (h : l.length = (n + 7) / 8) : (room l n).length = (n + 8) / 8 := by
  unfold room
  split <;> simp <;> omega
theorem addBit_len (l : List UInt8) (n : Nat) (b : Bool) (h : l.length = (n + 7) / 8) : (addBit l n b).length = (n + 8) / 8 := by
  unfold addBit
  rw [List.length_set, room_len l n h]
theorem pack_len (L : List Bool) : (pack L).length = (L.length + 7) / 8 := by
  induction L using snoc_ind with
  | h0 => rfl
  | h1 l x ih => rw [pack_snoc, addBit_len _ _ _ ih]; simp; omega
theorem room_bit (l : List UInt8) (n i : Nat) : bit (room l n) i = bit l i := by
  unfold room bit
  split
  · congr 2
    simp only [List.getD, List.getElem?_append]
    split
    · rfl
    · rename_i h
      rw [List.getElem?_eq_none (show l.length ≤ i / 8 by omega)]
      by_cases h2 : i / 8 - l.length = 0
      · simp [h2]
      · rw [List.getElem?_eq_none (by simp; omega)]
  · rfl
theorem addBit_bit (l : List UInt8) (n : Nat) (b : Bool) (h : l.length = (n + 7) / 8) (i : Nat) : bit (addBit l n b) i = (bit l i || (b && decide (n = i))) := by
  have hr := room_len l n h
  rw [← room_bit l n i]
  unfold addBit
  by_cases hi : n / 8 = i / 8
  · unfold bit
    have : ((room l n).set (n / 8) (setB ((room l n).getD (n / 8) 0) (n % 8) b)).getD (i / 8) 0 = setB ((room l n).getD (i / 8) 0) (n % 8) b := by
      rw [hi]
      simp [List.getD, show i / 8 < (room l n).length by omega]
    rw [this, setB_bit _ _ (by omega) (by omega)]
    congr 2
    rw [decide_eq_decide]
    omega
  · unfold bit
    have : ((room l n).set (n / 8) (setB ((room l n).getD (n / 8) 0) (n % 8) b)).getD (i / 8) 0 = (room l n).getD (i / 8) 0 := by
      simp [List.getD, hi]
    rw [this, decide_eq_false (by rintro rfl; exact hi rfl)]
    simp
/-- The bits of packed bits: no others are set. -/
theorem pack_bit (L : List Bool) (i : Nat) : bit (pack L) i = L.getD i false := by
  induction L using snoc_ind with
  | h0 => simp [pack_nil, bit]
  | h1 l x ih =>
    rw [pack_snoc, addBit_bit _ _ _ (pack_len l), ih]
    simp only [List.getD, List.getElem?_append]
    by_cases h : i < l.length
    · rw [if_pos h, decide_eq_false (by omega)]; simp
    · rw [if_neg h, List.getElem?_eq_none (show l.length ≤ i by omega)]
      by_cases h2 : l.length = i
      · simp [h2]
      · rw [decide_eq_false h2, List.getElem?_eq_none (by simp; omega)]; simp
/-- The place of the next bit is free: to set it is to add it. -/
theorem setB_all : ∀ x : BitVec 8, ∀ r : Fin 8, x.getMsbD r.1 = false → (x ||| (1#8 <<< (7 - r.1))).toNat = x.toNat + 2 ^ (7 - r.1) := by decide +kernel
theorem setB_add (x : UInt8) {r : Nat} (hr : r < 8) (hz : x.toBitVec.getMsbD r = false) : (setB x r true).toNat = x.toNat + 2 ^ (7 - r) := setB_all x.toBitVec ⟨r, hr⟩ hz
theorem setB_false (x : UInt8) (r : Nat) : setB x r false = x := by
  unfold setB
  simp

/-- A field: the low bits of a number, the most significant first. -/
def field (n w : Nat) : List Bool := (List.range w).map fun i => n.testBit (w - 1 - i)
theorem field_len (n w : Nat) : (field n w).length = w := by simp [field]
theorem field_take (n w : Nat) {i : Nat} (hi : i < w) : (field n w).take (i + 1) = (field n w).take i ++ [n.testBit (w - 1 - i)] := by
  rw [List.take_succ_eq_append_getElem (by rw [field_len]; exact hi)]
  simp [field]
theorem field_split (n x y : Nat) : field n (x + y) = field (n >>> y) x ++ field n y := by
  apply List.ext_getElem
  · simp [field_len]
  · intro i h1 h2
    rw [field_len] at h1
    rw [List.getElem_append]
    split
    · rename_i h
      rw [field_len] at h
      simp [field, Nat.testBit_shiftRight]
      congr 1
      omega
    · rename_i h
      rw [field_len] at h
      simp [field]
      congr 1
      omega
/-- The number that the bits from a place on are. -/
def num (l : List UInt8) (p : Nat) : Nat → Nat
  | 0 => 0
  | k + 1 => 2 * num l p k + (bit l (p + k)).toNat
theorem num_lt (l : List UInt8) (p : Nat) : ∀ k, num l p k < 2 ^ k
  | 0 => by simp [num]
  | k + 1 => by
    have := num_lt l p k
    have hb : (bit l (p + k)).toNat ≤ 1 := by cases bit l (p + k) <;> simp
    rw [num, Nat.pow_succ]
    omega
theorem num_field (l : List UInt8) (p n w : Nat) (h : ∀ i, i < w → bit l (p + i) = n.testBit (w - 1 - i)) : ∀ k, k ≤ w → num l p k = (n >>> (w - k)) % 2 ^ k := by
  intro k
  induction k with
  | zero => intro _; simp [num, Nat.mod_one]
  | succ k ih =>
    intro hk
    rw [num, ih (by omega), h k (by omega), Nat.testBit, Nat.and_comm, Nat.and_one_is_mod, show w - 1 - k = w - (k + 1) by omega]
    have h1 : n >>> (w - k) = (n >>> (w - (k + 1))) / 2 := by
      rw [show w - k = w - (k + 1) + 1 by omega, Nat.shiftRight_add]
      rfl
    rw [h1]
    generalize n >>> (w - (k + 1)) = m
    rw [Nat.pow_succ, Nat.mul_comm (2 ^ k) 2, Nat.mod_mul]
    have h6 : m % 2 = 0 ∨ m % 2 = 1 := by omega
    rcases h6 with h6 | h6 <;> simp [h6] <;> omega
theorem num_zero (l : List UInt8) (p : Nat) (h : ∀ i, p ≤ i → bit l i = false) : ∀ k, num l p k = 0
  | 0 => rfl
  | k + 1 => by rw [num, num_zero l p h k, h _ (by omega)]; rfl
end Go.Proofs.Ytcgkmmiokmbjdaa
