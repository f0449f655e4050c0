/-
  What a checked message with errors within 16 consecutive bits comes to: the check fails. No program in sight.
-/
import Derived.Test.YtpioadkiomcdlaaCrcW3
namespace Go.Proofs.Ytpioadkiomcdlaa
open Go Go.Sh Go.Proofs
set_option linter.unusedVariables false

theorem f16_inj {x : BitVec 16} (h : f16 x = 0#16) : x = 0#16 := by
  unfold f16 at h
  by_cases hm : x.msb = true
  · rw [if_pos hm] at h
    have := congrArg (·.getLsbD 0) h
    simp at this
  · rw [if_neg hm] at h
    have h1 := congrArg BitVec.toNat h
    rw [BitVec.msb_eq_decide] at hm
    rw [BitVec.toNat_shiftLeft, Nat.shiftLeft_eq] at h1
    have := x.isLt
    apply BitVec.eq_of_toNat_eq
    simp at hm h1 ⊢
    omega
theorem iterx : ∀ (k : Nat) (x y : BitVec 16), iter16 k (x ^^^ y) = iter16 k x ^^^ iter16 k y
  | 0, _, _ => rfl
  | k + 1, x, y => by rw [iter16, iterx k, f16_xor]; rfl
theorem iter16_inj : ∀ (k : Nat) {x : BitVec 16}, iter16 k x = 0#16 → x = 0#16
  | 0, _, h => h
  | k + 1, _, h => iter16_inj k (f16_inj h)

def word (h l : UInt8) : BitVec 16 := (h.toBitVec.setWidth 16 <<< 8) ^^^ l.toBitVec.setWidth 16
theorem low8 : ∀ l : BitVec 8, iter16 8 (l.setWidth 16) = l.setWidth 16 <<< 8 := by decide +kernel
theorem two_bytes (r : BitVec 16) (h l : UInt8) : crc16 r [h, l] = iter16 8 (iter16 8 (r ^^^ word h l)) := by
  show byte16 (byte16 r h) l = _
  rw [← byte16_iter, ← byte16_iter, word, ← BitVec.xor_assoc, iterx 8 (r ^^^ _) (l.toBitVec.setWidth 16), low8]
theorem word_toNat (h l : UInt8) : (word h l).toNat = h.toNat * 256 + l.toNat := by
  have hx := h.toNat_lt
  have hl := l.toNat_lt
  have h1 : word h l = h.toBitVec ++ l.toBitVec := by
    unfold word
    apply BitVec.eq_of_getLsbD_eq
    intro i hi
    rw [BitVec.getLsbD_append]
    by_cases h8 : i < 8
    · simp [h8]
      intro _; exact hi
    · have := BitVec.getLsbD_of_ge l.toBitVec i (by omega)
      simp [h8, hi, this]
  rw [h1, BitVec.toNat_append, ← Nat.shiftLeft_add_eq_or_of_lt (by exact hl), Nat.shiftLeft_eq]
  rfl
theorem word_iff (r : BitVec 16) (h l : UInt8) : r = word h l ↔ hi16 r = h ∧ lo16 r = l := by
  have hx := h.toNat_lt
  have hl := l.toNat_lt
  have hr := r.isLt
  rw [← BitVec.toNat_inj, word_toNat, hi16, lo16, ← UInt8.toNat_inj, ← UInt8.toNat_inj, UInt8.toNat_ofNat', UInt8.toNat_ofNat']
  omega
theorem xor_zero_iff {n : Nat} (x y : BitVec n) : x ^^^ y = 0#n ↔ x = y := by
  constructor
  · intro h
    have := congrArg (· ^^^ y) h
    simpa [BitVec.xor_assoc] using this
  · rintro rfl; exact BitVec.xor_self
theorem iter16_zero : ∀ k : Nat, iter16 k 0#16 = 0#16
  | 0 => rfl
  | k + 1 => by rw [iter16, iter16_zero k]; rfl
theorem two_zero (r : BitVec 16) (h l : UInt8) : crc16 r [h, l] = 0#16 ↔ hi16 r = h ∧ lo16 r = l := by
  rw [two_bytes, ← word_iff, ← xor_zero_iff r]
  exact ⟨fun e => iter16_inj _ (iter16_inj _ e), fun e => by rw [e, iter16_zero, iter16_zero]⟩
/-- A message is accepted if, and only if, the register behind all of it is zero. -/
theorem chk16_zero {l : List UInt8} (h : 2 ≤ l.length) : chk16 l = true ↔ crc16 0xffff#16 l = 0#16 := by
  rw [chk16_iff h, decide_eq_true_iff]
  conv => rhs; rw [chk16_two h]
  rw [crc16_append, two_zero, sum16]
theorem chk16_app (l : List UInt8) : chk16 (app16 l) = true := by
  unfold chk16
  simp [app16]

/-! ### bits of a list -/
theorem u8_msb (x y : UInt8) (h : ∀ i, i < 8 → x.toBitVec.getMsbD i = y.toBitVec.getMsbD i) : x = y := by
  apply UInt8.toBitVec_inj.1
  apply BitVec.eq_of_getMsbD_eq
  intro i hi
  exact h i hi
theorem bits_ext2 {x s : List UInt8} (hl : x.length = s.length) (h : ∀ j, j < 8 * s.length → bit x j = bit s j) : x = s := by
  apply List.ext_getElem hl
  intro i h1 h2
  apply u8_msb
  intro k hk
  have := h (8 * i + k) (by omega)
  unfold bit at this
  rw [show (8 * i + k) / 8 = i by omega, show (8 * i + k) % 8 = k by omega] at this
  simpa [List.getD, List.getElem?_eq_getElem h1, List.getElem?_eq_getElem h2] using this
def flipB (x : UInt8) (r : Nat) : UInt8 := ⟨x.toBitVec ^^^ (1#8 <<< (7 - r))⟩
theorem flipB_bit (x : UInt8) : ∀ r r' : Nat, r < 8 → r' < 8 → (flipB x r).toBitVec.getMsbD r' = (x.toBitVec.getMsbD r' != decide (r = r')) := by
  intro r r' h h'
  have hd : ∀ a b : Fin 8, (1#8 <<< (7 - a.1)).getMsbD b.1 = decide (a.1 = b.1) := by decide
  have := hd ⟨r, h⟩ ⟨r', h'⟩
  unfold flipB
  rw [BitVec.getMsbD_xor, this]
def flip (l : List UInt8) (j : Nat) : List UInt8 := l.set (j / 8) (flipB (l.getD (j / 8) 0) (j % 8))
theorem flip_len (l : List UInt8) (j : Nat) : (flip l j).length = l.length := by simp [flip]
theorem flip_bit (l : List UInt8) {j : Nat} (hj : j < 8 * l.length) (i : Nat) : bit (flip l j) i = (bit l i != decide (j = i)) := by
  unfold bit flip
  by_cases h : j / 8 = i / 8
  · have : ((l.set (j / 8) (flipB (l.getD (j / 8) 0) (j % 8))).getD (i / 8) 0) = flipB (l.getD (i / 8) 0) (j % 8) := by
      rw [h]
      simp [List.getD, show i / 8 < l.length by omega]
    rw [this, flipB_bit _ _ _ (by omega) (by omega)]
    congr 1
    rw [decide_eq_decide]
    omega
  · have : ((l.set (j / 8) (flipB (l.getD (j / 8) 0) (j % 8))).getD (i / 8) 0) = l.getD (i / 8) 0 := by
      simp [List.getD, h]
    rw [this, decide_eq_false (by rintro rfl; exact h rfl)]
    simp
/-- The first k bits of a pattern, inverted in a list from bit i on. -/
def chg (l : List UInt8) (i : Nat) (p : BitVec 16) : Nat → List UInt8
  | 0 => l
  | k + 1 => if p.getMsbD k = true ∧ i + k < 8 * l.length then flip (chg l i p k) (i + k) else chg l i p k
theorem chg_len (l : List UInt8) (i : Nat) (p : BitVec 16) : ∀ k, (chg l i p k).length = l.length
  | 0 => rfl
  | k + 1 => by
    rw [chg]
    split
    · rw [flip_len, chg_len l i p k]
    · exact chg_len l i p k
theorem chg_bit (l : List UInt8) (i : Nat) (p : BitVec 16) : ∀ k j, j < 8 * l.length → bit (chg l i p k) j = (bit l j != (decide (i ≤ j ∧ j < i + k) && p.getMsbD (j - i)))
  | 0, j, hj => by
    rw [chg, decide_eq_false (by omega)]
    simp
  | k + 1, j, hj => by
    have ih := chg_bit l i p k j hj
    rw [chg]
    by_cases hj' : j = i + k
    · subst hj'
      rw [decide_eq_false (by omega)] at ih
      rw [decide_eq_true (by omega), Nat.add_sub_cancel_left]
      by_cases hp : p.getMsbD k = true
      · rw [if_pos ⟨hp, hj⟩, flip_bit _ (by rw [chg_len]; exact hj), ih, hp]
        simp
      · rw [if_neg (fun h => hp h.1), ih]
        simp [hp]
    · have hd : decide (i ≤ j ∧ j < i + (k + 1)) = decide (i ≤ j ∧ j < i + k) := by rw [decide_eq_decide]; omega
      rw [hd, ← ih]
      split
      · rename_i h
        rw [flip_bit _ (by rw [chg_len]; exact h.2), decide_eq_false (fun e => hj' e.symm)]
        simp
      · rfl

/-! ### the register of the errors -/
def lin (e : Nat → Bool) : Nat → BitVec 16
  | 0 => 0#16
  | i + 1 => f16 (lin e i) ^^^ (if e i = true then 0x1021#16 else 0)
theorem diff_run (r : BitVec 16) (x s : List UInt8) : ∀ i, run16 r x i ^^^ run16 r s i = lin (fun j => bit x j != bit s j) i
  | 0 => BitVec.xor_self
  | i + 1 => by
    rw [run16, run16, g16_f16, g16_f16, lin, ← diff_run r x s i, f16_xor]
    generalize f16 (run16 r x i) = A
    generalize f16 (run16 r s i) = B
    cases bit x i <;> cases bit s i <;> simp
    · rw [BitVec.xor_assoc]
    · rw [xor_right]
    · rw [xor4]
theorem lin_zero (e : Nat → Bool) : ∀ i, (∀ j, j < i → e j = false) → lin e i = 0#16
  | 0, _ => rfl
  | i + 1, h => by
    rw [lin, lin_zero e i (fun j hj => h j (by omega)), h i (by omega)]
    rfl
theorem lin_tail (e : Nat → Bool) (q : Nat) : ∀ t, (∀ j, q ≤ j → j < q + t → e j = false) → lin e (q + t) = iter16 t (lin e q)
  | 0, _ => rfl
  | t + 1, h => by
    rw [← Nat.add_assoc, lin, lin_tail e q t (fun j h1 h2 => h j h1 (by omega)), h (q + t) (by omega) (by omega), iter16]
    simp
theorem f16_top (E : BitVec 16) (k : Nat) : f16 (E <<< k) = E <<< (k + 1) ^^^ (if E.getMsbD k = true then 0x1021#16 else 0) := by
  unfold f16
  have : (E <<< k).msb = E.getMsbD k := by rw [BitVec.msb_shiftLeft]
  rw [this, ← BitVec.shiftLeft_add]
  cases E.getMsbD k <;> simp
theorem lin_burst (e : Nat → Bool) (p : Nat) (h0 : lin e p = 0#16) (E : BitVec 16) : ∀ m, (∀ k, k < m → e (p + k) = E.getMsbD k) → lin e (p + m) = iter16 m E ^^^ E <<< m
  | 0, _ => by rw [iter16, Nat.add_zero, h0, BitVec.shiftLeft_zero, BitVec.xor_self]
  | m + 1, h => by
    have ih := lin_burst e p h0 E m (fun k hk => h k (by omega))
    rw [← Nat.add_assoc, lin, ih, f16_xor, f16_top, h m (by omega), iter16, BitVec.xor_assoc, BitVec.xor_assoc, BitVec.xor_self, BitVec.xor_zero]
/-- Errors within 16 bits that leave the register at zero are none. -/
theorem lin_none (e : Nat → Bool) (i m N : Nat) (p : BitVec 16) (hm : m ≤ 16) (hN : i + m ≤ N) (he : ∀ j, j < N → e j = (decide (i ≤ j ∧ j < i + m) && p.getMsbD (j - i))) (hz : lin e N = 0#16) :
    ∀ j, j < N → e j = false := by
  have h1 : lin e i = 0#16 := lin_zero e i fun j hj => by rw [he j (by omega), decide_eq_false (by omega)]; rfl
  let E : BitVec 16 := (p >>> (16 - m)) <<< (16 - m)
  have hE : ∀ k, k < m → E.getMsbD k = p.getMsbD k := by
    intro k hk
    show ((p >>> (16 - m)) <<< (16 - m)).getMsbD k = _
    rw [BitVec.getMsbD_shiftLeft, BitVec.getMsbD_ushiftRight]
    simp [show k + (16 - m) < 16 by omega, show ¬ k + (16 - m) < 16 - m by omega]
  have h2 := lin_burst e i h1 E m (fun k hk => by rw [hE k hk, he (i + k) (by omega), decide_eq_true (by omega), Nat.add_sub_cancel_left]; simp)
  have h3 : E <<< m = 0#16 := by
    show ((p >>> (16 - m)) <<< (16 - m)) <<< m = _
    rw [← BitVec.shiftLeft_add, show 16 - m + m = 16 by omega, BitVec.shiftLeft_eq_zero (by omega)]
  rw [h3, BitVec.xor_zero] at h2
  have h4 := lin_tail e (i + m) (N - (i + m)) (fun j hj hj' => by rw [he j (by omega), decide_eq_false (by omega)]; rfl)
  rw [show i + m + (N - (i + m)) = N by omega, hz, h2] at h4
  have h5 : E = 0#16 := iter16_inj _ (iter16_inj _ h4.symm)
  intro j hj
  rw [he j hj]
  by_cases hr : i ≤ j ∧ j < i + m
  · rw [← hE (j - i) (by omega), h5]
    simp
  · rw [decide_eq_false hr]; rfl

/-- ERRORS WITHIN 16 CONSECUTIVE BITS ARE DETECTED. -/
theorem burst16 (s : List UInt8) (i : Nat) (p : BitVec 16) (h2 : 2 ≤ s.length) (hi : i < 8 * s.length) (hs : chk16 s = true) (hx : chk16 (chg s i p 16) = true) : chg s i p 16 = s := by
  have hl := chg_len s i p 16
  have z1 := (chk16_zero h2).1 hs
  have z2 := (chk16_zero (by omega)).1 hx
  rw [← run16_all] at z1 z2
  rw [hl] at z2
  have hd := diff_run 0xffff#16 (chg s i p 16) s (8 * s.length)
  rw [z1, z2, BitVec.xor_self] at hd
  apply bits_ext2 hl
  intro j hj
  have hn := lin_none _ i (min 16 (8 * s.length - i)) (8 * s.length) p (by omega) (by omega) (fun k hk => by
    rw [chg_bit s i p 16 k hk]
    have : decide (i ≤ k ∧ k < i + 16) = decide (i ≤ k ∧ k < i + min 16 (8 * s.length - i)) := by rw [decide_eq_decide]; omega
    rw [this]
    generalize (decide (i ≤ k ∧ k < i + min 16 (8 * s.length - i)) && p.getMsbD (k - i)) = B
    cases bit s k <;> cases B <;> rfl) hd.symm j hj
  simpa using hn
end Go.Proofs.Ytpioadkiomcdlaa
