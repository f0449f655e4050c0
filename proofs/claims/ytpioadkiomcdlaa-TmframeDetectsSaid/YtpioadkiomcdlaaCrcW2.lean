/-
  The contracts of the functions of chapter 1, second part: the reference's loops, Clone, Append16, Check16.
-/
import Derived.Test.YtpioadkiomcdlaaCrcW
namespace Go.Proofs.Ytpioadkiomcdlaa
open Go Go.Sh Go.Proofs
set_option linter.unusedVariables false

/-! ### the reference's loops -/
theorem step16 (r : BitVec 16) (b : Bool) : ((g16 r b).toNat : Int) =
    if Int.tmod (IntKind.i64.wrap (shr .i64 (r.toNat : Int) 15 + (if b = true then 1 else 0))) 2 = 1 then bxor .i64 (Int.tmod (IntKind.i64.wrap ((r.toNat : Int) * 2)) 65536) 4129
    else Int.tmod (IntKind.i64.wrap ((r.toNat : Int) * 2)) 65536 := by
  have hr := r.isLt
  have h1 : shr .i64 (r.toNat : Int) 15 = ((r.toNat / 32768 : Nat) : Int) := by rw [← show r.toNat >>> 15 = r.toNat / 32768 from Nat.shiftRight_eq_div_pow _ _]; exact shrN .i64 _ 15 (by decide)
  have h2 : Int.tmod (IntKind.i64.wrap ((r.toNat : Int) * 2)) 65536 = ((r.toNat <<< 1 % 65536 : Nat) : Int) := by
    rw [wi64 (by omega), Int.tmod_eq_emod_of_nonneg (by omega), Nat.shiftLeft_eq]; omega
  have h3 : bxor .i64 ((r.toNat <<< 1 % 65536 : Nat) : Int) 4129 = (((r.toNat <<< 1 % 65536) ^^^ 0x1021 : Nat) : Int) := bxorI (y := 4129) (by omega) (by decide)
  have hm : (r.msb != b) = true ↔ Int.tmod (((r.toNat / 32768 : Nat) : Int) + (if b = true then 1 else 0)) 2 = 1 := by
    rw [BitVec.msb_eq_decide, Int.tmod_eq_emod_of_nonneg (by split <;> omega)]
    cases b <;> simp <;> omega
  rw [h1, h2, h3, wi64 (by split <;> omega)]
  unfold g16
  by_cases h : (r.msb != b) = true
  · rw [if_pos h, if_pos (hm.1 h), BitVec.toNat_xor, BitVec.toNat_shiftLeft]; rfl
  · rw [if_neg h, if_neg (fun h' => h (hm.2 h')), BitVec.toNat_shiftLeft]
theorem step32 (r : BitVec 32) (x : UInt8) (j : Nat) (hj : j < 8) : ((g32 r (x.toBitVec.getLsbD j)).toNat : Int) =
    if Int.tmod (IntKind.i64.wrap ((r.toNat : Int) + shr .i64 (IntKind.i64.wrap (x.toNat : Int)) (j : Int))) 2 = 1 then bxor .i64 (IntKind.i64.wrap (Int.tdiv (r.toNat : Int) 2)) 2197175160
    else IntKind.i64.wrap (Int.tdiv (r.toNat : Int) 2) := by
  have hr := r.isLt
  have hx := u8lt x
  have h1 : shr .i64 (IntKind.i64.wrap (x.toNat : Int)) (j : Int) = ((x.toNat >>> j : Nat) : Int) := by rw [wi64 (by omega)]; exact shrN .i64 _ j (by show _ ≤ 64; omega)
  have h2 : IntKind.i64.wrap (Int.tdiv (r.toNat : Int) 2) = ((r.toNat >>> 1 : Nat) : Int) := by
    rw [Int.tdiv_eq_ediv_of_nonneg (by omega), wi64 (by omega), Nat.shiftRight_eq_div_pow]; omega
  have hlt : r.toNat >>> 1 < 4294967296 := by rw [Nat.shiftRight_eq_div_pow]; omega
  have h3 : bxor .i64 ((r.toNat >>> 1 : Nat) : Int) 2197175160 = (((r.toNat >>> 1) ^^^ 0x82f63b78 : Nat) : Int) := bxorI (y := 2197175160) (by omega) (by decide)
  have hs : x.toNat >>> j < 256 := by rw [Nat.shiftRight_eq_div_pow]; exact Nat.lt_of_le_of_lt (Nat.div_le_self _ _) hx
  have hm : (r.getLsbD 0 != x.toBitVec.getLsbD j) = true ↔ Int.tmod ((r.toNat : Int) + ((x.toNat >>> j : Nat) : Int)) 2 = 1 := by
    rw [Int.tmod_eq_emod_of_nonneg (by have := Int.natCast_nonneg (x.toNat >>> j); omega), BitVec.getLsbD, BitVec.getLsbD, Nat.testBit_zero, Nat.testBit, Nat.and_comm, Nat.and_one_is_mod]
    rw [show x.toBitVec.toNat = x.toNat from rfl]
    generalize x.toNat >>> j = q
    have h5 : r.toNat % 2 = 0 ∨ r.toNat % 2 = 1 := by omega
    have h6 : q % 2 = 0 ∨ q % 2 = 1 := by omega
    rcases h5 with h5 | h5 <;> rcases h6 with h6 | h6 <;> simp [h5, h6] <;> omega
  rw [h1, h2, h3, wi64 (by have := Int.natCast_nonneg (x.toNat >>> j); omega)]
  unfold g32
  by_cases h : (r.getLsbD 0 != x.toBitVec.getLsbD j) = true
  · rw [if_pos h, if_pos (hm.1 h), BitVec.toNat_xor, BitVec.toNat_ushiftRight]; rfl
  · rw [if_neg h, if_neg (fun h' => h (hm.2 h')), BitVec.toNat_ushiftRight]

def R16 (r0 : BitVec 16) (l : List UInt8) (w0 : World) (s : Int × Int) (w : World) : Prop :=
  ∃ i : Nat, i ≤ 8 * l.length ∧ s = (((run16 r0 l i).toNat : Int), (i : Int)) ∧ w0 = w

theorem refUpdate16_ok (r0 : BitVec 16) (a : Option Addr) (l : List UInt8) (c : Nat) (w : World) (hl : l.length ≤ 1000000) (hr : Rd w a (l.map bv)) :
    Does Try.prog 45 #[.int .u16 (r0.toNat : Int), .slice a l.length c] w fun v w' => v = .int .u16 ((crc16 r0 l).toNat : Int) ∧ w = w' := by
  apply w45
  unfold F45
  have h0 := r0.isLt
  rw [wi64 (by omega)]
  refine LoopP.of (R16 r0 l w) (fun s _ => 8 * l.length - s.2.toNat) ⟨0, Nat.zero_le _, rfl, rfl⟩ ?_
  rintro _ _ ⟨i, hi, rfl, rfl⟩
  unfold F45_b1
  dsimp only
  have hR := (run16 r0 l i).isLt
  rw [wi64 (n := 8 * (l.length : Int)) (by omega)]
  by_cases hlt : i < 8 * l.length
  · rw [if_pos (by omega)]
    refine (bit_ok a l c i w hl hr hlt).mono ?_
    rintro _ _ ⟨rfl, rfl⟩
    refine ⟨_, rfl, ?_⟩
    have hs := step16 (run16 r0 l i) (bit l i)
    rw [wi64 (n := (i : Int) + 1) (by omega)]
    by_cases h : Int.tmod (IntKind.i64.wrap (shr .i64 ((run16 r0 l i).toNat : Int) 15 + (if bit l i = true then 1 else 0))) 2 = 1
    · rw [if_pos h] at hs
      rw [if_pos h, ← hs]
      exact ⟨_, by omega, ⟨i + 1, by omega, by rw [run16]; rfl, rfl⟩, rfl⟩
    · rw [if_neg h] at hs
      rw [if_neg h, ← hs]
      exact ⟨_, by omega, ⟨i + 1, by omega, by rw [run16]; rfl, rfl⟩, rfl⟩
  · have : i = 8 * l.length := by omega
    subst this
    rw [if_neg (by omega), run16_all, wrapU_lt rfl (u16lt _)]
    exact ⟨rfl, rfl⟩

def R32b (r : BitVec 32) (x : UInt8) (w0 : World) (s : Int × Int) (w : World) : Prop :=
  ∃ j : Nat, j ≤ 8 ∧ s = (((bits32 r x.toBitVec j).toNat : Int), (j : Int)) ∧ w0 = w


/-! ### sums -/
def sum16 (l : List UInt8) : BitVec 16 := crc16 0xffff#16 l
def sum32 (l : List UInt8) : BitVec 32 := com32 (crc32 (com32 0#32) l)
section
variable (a : Option Addr) (l : List UInt8) (c : Nat) (w : World) (hl : l.length ≤ 1000000) (hr : Rd w a (l.map bv))
include hl hr
theorem sum16_ok : Does Try.prog 41 #[.slice a l.length c] w fun v w' => v = .int .u16 ((sum16 l).toNat : Int) ∧ w = w' := by
  apply w41
  refine (update16_ok 0xffff#16 a l c w hl hr).mono ?_
  rintro _ _ ⟨rfl, rfl⟩
  exact ⟨_, rfl, rfl, rfl⟩
theorem refSum16_ok : Does Try.prog 25 #[.slice a l.length c] w fun v w' => v = .int .u16 ((sum16 l).toNat : Int) ∧ w = w' := by
  apply w25
  refine (refUpdate16_ok 0xffff#16 a l c w hl hr).mono ?_
  rintro _ _ ⟨rfl, rfl⟩
  exact ⟨_, rfl, rfl, rfl⟩
/-! ### Clone, Append16 -/

omit hl in
theorem clone_ok (hl2 : l.length ≤ 100000000) : Does Try.prog 42 #[.slice a l.length c] w fun v w' => ∃ a' c', v = .slice a' l.length c' ∧ Own w' 5 1 a' l.length c' (l.map bv) ∧ Mod [] w w' ∧ ∀ g ∈ fp a', w.heap.size ≤ g := by
  apply w42
  unfold F42
  cases a with
  | none =>
    have : l = [] := by rcases hr with h | ⟨p, h, _⟩; simpa using h; cases h
    subst this
    rw [if_pos (show (none : Option Addr).isNone = true from rfl)]
    exact ⟨_, _, rfl, Own.nil, Mod.refl _, by simp [fp]⟩
  | some p =>
    rw [if_neg (by simp)]
    unfold New
    have hm := Mod.push (S := []) w 5 []
    have ho : Own (push w 5 []) 5 1 (some (fresh w)) 0 0 [] := Own.blk (Blk.new w 5 []) rfl (by decide)
    obtain ⟨a', c', w', hrun, hown, hmod, hfp⟩ := append_own (d := c) Try.underlying22 elem5 22 ho (hr.mod hm (by simp)) (m := l.length) (by simp) (bv_one l) (by omega) (by omega)
    rw [Nat.zero_add] at hrun hown
    exact ⟨_, _, _, _, hrun, _, _, rfl, by simpa using hown, hm.trans hmod (by simp [fp, fresh]), by rcases hfp with h | h <;> rw [h] <;> simp [fp_fresh, size_push]⟩
end
def hi16 (r : BitVec 16) : UInt8 := UInt8.ofNat (r.toNat / 256)
def lo16 (r : BitVec 16) : UInt8 := UInt8.ofNat (r.toNat % 256)
theorem hi16_bv (r : BitVec 16) : Value.int .u8 (IntKind.u8.wrap (shr .u16 (r.toNat : Int) 8)) = bv (hi16 r) := by
  have hr := r.isLt
  have h : shr .u16 (r.toNat : Int) 8 = ((r.toNat / 256 : Nat) : Int) := by rw [← show r.toNat >>> 8 = r.toNat / 256 from Nat.shiftRight_eq_div_pow _ _]; exact shrN .u16 _ 8 (by decide)
  rw [h, wrapU_lt rfl (by show _ < 256; omega), bv, hi16, UInt8.toNat_ofNat', Nat.mod_eq_of_lt (by omega)]
theorem lo16_bv (r : BitVec 16) : Value.int .u8 (IntKind.u8.wrap (r.toNat : Int)) = bv (lo16 r) := by
  rw [wrapU rfl, bv, lo16, UInt8.toNat_ofNat', Nat.mod_mod]
  rfl
theorem hi16_ref (r : BitVec 16) : Value.int .u8 (IntKind.u8.wrap (IntKind.u16.wrap (Int.tdiv (r.toNat : Int) 256))) = bv (hi16 r) := by
  have hr := r.isLt
  rw [Int.tdiv_eq_ediv_of_nonneg (by omega), show (r.toNat : Int) / 256 = ((r.toNat / 256 : Nat) : Int) from rfl, wrapU_lt rfl (by show _ < 65536; omega), wrapU_lt rfl (by show _ < 256; omega), bv, hi16, UInt8.toNat_ofNat', Nat.mod_eq_of_lt (by omega)]
theorem lo16_ref (r : BitVec 16) : Value.int .u8 (IntKind.u8.wrap (Int.tmod (r.toNat : Int) 256)) = bv (lo16 r) := by
  have hr := r.isLt
  rw [Int.tmod_eq_emod_of_nonneg (by omega), show (r.toNat : Int) % 256 = ((r.toNat % 256 : Nat) : Int) from rfl, wrapU_lt rfl (by show _ < 256; omega), bv, lo16, UInt8.toNat_ofNat', Nat.mod_mod]
/-- The bytes, and their checksum behind them. -/
def app16 (l : List UInt8) : List UInt8 := l ++ [hi16 (sum16 l), lo16 (sum16 l)]

section
variable (a : Option Addr) (l : List UInt8) (c : Nat) (w : World) (hl : l.length ≤ 1000000) (hr : Rd w a (l.map bv))
include hl hr
theorem append16_ok : Does Try.prog 19 #[.slice a l.length c] w fun v w' => ∃ a' c', v = .slice a' (l.length + 2) c' ∧ Own w' 5 1 a' (l.length + 2) c' ((app16 l).map bv) ∧ Mod [] w w' ∧ ∀ g ∈ fp a', w.heap.size ≤ g := by
  apply w19
  unfold F19
  refine (sum16_ok a l c w hl hr).mono ?_
  rintro _ _ ⟨rfl, rfl⟩
  refine ⟨_, rfl, ?_⟩
  refine (clone_ok a l c w hr (by omega)).mono ?_
  rintro _ w1 ⟨a1, c1, rfl, ho, hm, hf⟩
  refine ⟨_, _, _, rfl, ?_⟩
  unfold New
  rw [hi16_bv, lo16_bv]
  have hm2 := Mod.push (S := []) w1 5 [bv (hi16 (sum16 l)), bv (lo16 (sum16 l))]
  have hb := Blk.new w1 5 [bv (hi16 (sum16 l)), bv (lo16 (sum16 l))]
  obtain ⟨a', c', w', hrun, hown, hmod, hfp⟩ := append_own (d := 2) Try.underlying22 elem5 22 (ho.mod hm2 (by simp)) (Rd.blk hb) (m := 2) rfl (by simp [bv, one]) (by omega) (by omega)
  have hs := hm.size
  refine ⟨_, _, _, _, hrun, _, _, rfl, by simpa [app16] using hown, (hm.none hm2).trans hmod (fun g hg => .inr (hf g hg)), ?_⟩
  rcases hfp with h | h <;> rw [h]
  · exact hf
  · simp [size_push]; omega
end

/-! ### Check16 -/
def chk16 (l : List UInt8) : Bool := decide (2 ≤ l.length ∧ app16 (l.take (l.length - 2)) = l)
theorem chk16_two {l : List UInt8} (h : 2 ≤ l.length) : l = l.take (l.length - 2) ++ [l.getD (l.length - 2) 0, l.getD (l.length - 1) 0] := by
  conv => lhs; rw [← List.take_append_drop (l.length - 2) l]
  congr 1
  apply List.ext_getElem
  · simp; omega
  · intro i h1 h2
    simp at h1 h2
    have : i = 0 ∨ i = 1 := by omega
    rcases this with rfl | rfl
    · simp [List.getD, List.getElem?_eq_getElem (show l.length - 2 < l.length by omega)]
    · simp [List.getD, List.getElem?_eq_getElem (show l.length - 1 < l.length by omega)]
      congr 1
      omega
theorem chk16_iff {l : List UInt8} (h : 2 ≤ l.length) : chk16 l = decide (hi16 (sum16 (l.take (l.length - 2))) = l.getD (l.length - 2) 0 ∧ lo16 (sum16 (l.take (l.length - 2))) = l.getD (l.length - 1) 0) := by
  unfold chk16 app16
  have h2 := chk16_two h
  rw [decide_eq_decide]
  constructor
  · rintro ⟨_, e⟩
    have := List.append_cancel_left (e.trans h2)
    simpa using this
  · rintro ⟨h3, h4⟩
    exact ⟨h, by rw [h3, h4]; exact h2.symm⟩
end Go.Proofs.Ytpioadkiomcdlaa
