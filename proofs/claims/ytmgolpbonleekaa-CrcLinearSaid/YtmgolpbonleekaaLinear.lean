/-
  CrcLinear: the checksums are affine; and the law's contract.
-/
import Derived.Test.YtmgolpbonleekaaLaws2
namespace Go.Proofs.Ytmgolpbonleekaa
open Go Go.Sh Go.Proofs
set_option linter.unusedVariables false

theorem iter16_xor : ∀ (k : Nat) (x y : BitVec 16), iter16 k (x ^^^ y) = iter16 k x ^^^ iter16 k y
  | 0, _, _ => rfl
  | k + 1, x, y => by rw [iter16, iter16_xor k, f16_xor]; rfl
theorem iter32_xor : ∀ (k : Nat) (x y : BitVec 32), iter32 k (x ^^^ y) = iter32 k x ^^^ iter32 k y
  | 0, _, _ => rfl
  | k + 1, x, y => by rw [iter32, iter32_xor k, f32_xor]; rfl
theorem xor22 {n : Nat} (a b c d : BitVec n) : (a ^^^ b) ^^^ (c ^^^ d) = (a ^^^ c) ^^^ (b ^^^ d) := by
  rw [BitVec.xor_assoc, BitVec.xor_assoc, ← BitVec.xor_assoc b, BitVec.xor_comm b c, BitVec.xor_assoc c]
theorem byte16_xor (r s : BitVec 16) (x y : UInt8) : byte16 (r ^^^ s) (x ^^^ y) = byte16 r x ^^^ byte16 s y := by
  rw [← byte16_iter, ← byte16_iter, ← byte16_iter, ← iter16_xor, xor22]
  congr 1
  rw [UInt8.toBitVec_xor, BitVec.setWidth_xor, BitVec.shiftLeft_xor_distrib]
theorem byte32_xor (r s : BitVec 32) (x y : UInt8) : byte32 (r ^^^ s) (x ^^^ y) = byte32 r x ^^^ byte32 s y := by
  rw [← byte32_iter, ← byte32_iter, ← byte32_iter, ← iter32_xor, xor22]
  congr 1

def x3 (l m n : List UInt8) (k : Nat) : List UInt8 := (List.range k).map fun j => l.getD j 0 ^^^ m.getD j 0 ^^^ n.getD j 0
theorem x3_len (l m n : List UInt8) (k : Nat) : (x3 l m n k).length = k := by simp [x3]
theorem x3_succ (l m n : List UInt8) (k : Nat) : x3 l m n (k + 1) = x3 l m n k ++ [l.getD k 0 ^^^ m.getD k 0 ^^^ n.getD k 0] := by simp [x3, List.range_succ]
theorem take_snoc (l : List UInt8) {k : Nat} (h : k < l.length) : l.take (k + 1) = l.take k ++ [l.getD k 0] := by
  rw [List.take_succ_eq_append_getElem h]
  simp [List.getD, List.getElem?_eq_getElem h]

theorem crc16_x3 (r s t : BitVec 16) (l m n : List UInt8) : ∀ k, k ≤ l.length → k ≤ m.length → k ≤ n.length →
    crc16 (r ^^^ s ^^^ t) (x3 l m n k) = crc16 r (l.take k) ^^^ crc16 s (m.take k) ^^^ crc16 t (n.take k) := by
  intro k
  induction k with
  | zero => intro _ _ _; rfl
  | succ k ih =>
    intro h1 h2 h3
    rw [x3_succ, take_snoc l h1, take_snoc m h2, take_snoc n h3, crc16_snoc, crc16_snoc, crc16_snoc, crc16_snoc, ih (by omega) (by omega) (by omega), byte16_xor, byte16_xor]
theorem crc32_x3 (r s t : BitVec 32) (l m n : List UInt8) : ∀ k, k ≤ l.length → k ≤ m.length → k ≤ n.length →
    crc32 (r ^^^ s ^^^ t) (x3 l m n k) = crc32 r (l.take k) ^^^ crc32 s (m.take k) ^^^ crc32 t (n.take k) := by
  intro k
  induction k with
  | zero => intro _ _ _; rfl
  | succ k ih =>
    intro h1 h2 h3
    rw [x3_succ, take_snoc l h1, take_snoc m h2, take_snoc n h3, crc32_snoc, crc32_snoc, crc32_snoc, crc32_snoc, ih (by omega) (by omega) (by omega), byte32_xor, byte32_xor]
theorem sum16_x3 (l m n : List UInt8) (k : Nat) (h1 : k ≤ l.length) (h2 : k ≤ m.length) (h3 : k ≤ n.length) :
    sum16 (x3 l m n k) = sum16 (l.take k) ^^^ sum16 (m.take k) ^^^ sum16 (n.take k) := by
  have := crc16_x3 0xffff#16 0xffff#16 0xffff#16 l m n k h1 h2 h3
  rw [show 0xffff#16 ^^^ 0xffff#16 ^^^ 0xffff#16 = 0xffff#16 by decide] at this
  exact this
theorem com32_3 (a b c : BitVec 32) : com32 (a ^^^ b ^^^ c) = com32 a ^^^ com32 b ^^^ com32 c := by
  unfold com32
  rw [xor22 a _ b, BitVec.xor_self, BitVec.xor_zero, ← BitVec.xor_assoc]
theorem sum32_x3 (l m n : List UInt8) (k : Nat) (h1 : k ≤ l.length) (h2 : k ≤ m.length) (h3 : k ≤ n.length) :
    sum32 (x3 l m n k) = sum32 (l.take k) ^^^ sum32 (m.take k) ^^^ sum32 (n.take k) := by
  have := crc32_x3 (com32 0#32) (com32 0#32) (com32 0#32) l m n k h1 h2 h3
  rw [show com32 0#32 ^^^ com32 0#32 ^^^ com32 0#32 = com32 0#32 by decide] at this
  rw [sum32, this, com32_3]
  rfl
theorem bxorB16 (x y : BitVec 16) : bxor .u16 (x.toNat : Int) (y.toNat : Int) = ((x ^^^ y).toNat : Int) := by
  rw [bxorU (k := .u16) rfl x.isLt y.isLt, BitVec.toNat_xor]
theorem bxorB32 (x y : BitVec 32) : bxor .u32 (x.toNat : Int) (y.toNat : Int) = ((x ^^^ y).toNat : Int) := by
  rw [bxorU (k := .u32) rfl x.isLt y.isLt, BitVec.toNat_xor]
theorem u8xor3 (x y z : UInt8) : Value.int .u8 (bxor .u8 (bxor .u8 (x.toNat : Int) (y.toNat : Int)) (z.toNat : Int)) = bv (x ^^^ y ^^^ z) := by
  have hx := u8lt x
  have hy := u8lt y
  have hz := u8lt z
  rw [bxorU rfl (by exact hx) (by exact hy), bxorU rfl (Nat.xor_lt_two_pow hx hy) (by exact hz), bv]
  simp [UInt8.toNat_xor]

def Lin (l m n : List UInt8) (w0 : World) (s : Option Addr × Nat × Nat × Int) (w : World) : Prop :=
  ∃ (a : Option Addr) (i c : Nat), i ≤ min (min l.length m.length) n.length ∧ s = (a, i, c, (i : Int)) ∧ Own w 5 1 a i c ((x3 l m n i).map bv) ∧ Mod [] w0 w ∧ ∀ g ∈ fp a, w0.heap.size ≤ g

theorem crcLinear_ok (a b c : Option Addr) (l m n : List UInt8) (ca cb cc : Nat) (w : World) (hra : Rd w a (l.map bv)) (hrb : Rd w b (m.map bv)) (hrc : Rd w c (n.map bv))
    (hla : l.length ≤ ca) (hlb : m.length ≤ cb) (hlc : n.length ≤ cc) :
    Does Try.prog 7 #[.slice a l.length ca, .slice b m.length cb, .slice c n.length cc] w fun v w' => v = .bool true ∧ Mod [] w w' := by
  apply w7
  unfold F7
  have hmin : (min (min (l.length : Int) (m.length : Int)) (n.length : Int)) = ((min (min l.length m.length) n.length : Nat) : Int) := by omega
  rw [hmin]
  by_cases hl : 2000 < min (min l.length m.length) n.length
  · rw [if_pos (by omega)]
    refine (alive_ok w).mono ?_
    rintro _ w' ⟨rfl, hm⟩
    exact ⟨_, rfl, rfl, hm⟩
  · rw [if_neg (by omega)]
    refine LoopP.of (Lin l m n w) (fun s _ => min (min l.length m.length) n.length - s.2.2.2.toNat) ⟨none, 0, 0, Nat.zero_le _, rfl, Own.nil, Mod.refl _, by simp [fp]⟩ ?_
    rintro _ w1 ⟨x, i, cx, hi, rfl, ho, hm, hf⟩
    unfold F7_b1
    dsimp only
    rw [hmin]
    generalize hK : min (min l.length m.length) n.length = K at *
    by_cases hlt : i < K
    · rw [if_pos (by omega)]
      obtain ⟨pa, ea, ha⟩ := rd_at (hra.mod hm (by simp)) (show i < l.length by omega)
      obtain ⟨pb, eb, hb⟩ := rd_at (hrb.mod hm (by simp)) (show i < m.length by omega)
      obtain ⟨pc, ec, hc⟩ := rd_at (hrc.mod hm (by simp)) (show i < n.length by omega)
      rw [Int.toNat_natCast]
      refine ⟨pa, ea, by omega, by omega, _, ha, pb, eb, by omega, by omega, _, hb, pc, ec, by omega, by omega, _, hc, ?_⟩
      rw [u8xor3]
      unfold New
      have hm2 := Mod.push (S := []) w1.drew 5 [bv (l.getD i 0 ^^^ m.getD i 0 ^^^ n.getD i 0)]
      have hbk := Blk.new w1.drew 5 [bv (l.getD i 0 ^^^ m.getD i 0 ^^^ n.getD i 0)]
      obtain ⟨a', c', w', hrun, hown, hmod, hfp⟩ := append_own (d := 1) Try.underlying22 elem5 22 (ho.drew.mod hm2 (by simp)) (Rd.blk hbk) (m := 1) rfl (by simp [bv, one]) (by omega) (by omega)
      rw [wi64 (by omega)]
      have hsz := hm.size
      refine ⟨_, _, _, _, hrun, _, by omega, ⟨a', i + 1, c', by omega, rfl, ?_, ?_, ?_⟩, rfl⟩
      · rw [x3_succ, List.map_append]; exact hown
      · exact ((hm.none (Mod.drew w1)).none hm2).trans hmod (fun g hg => .inr (hf g hg))
      · rcases hfp with h | h <;> rw [h]
        · exact hf
        · simp [size_push, size_drew]; omega
    · have : i = K := by omega
      subst this
      rw [if_neg (by omega), Int.toNat_natCast]
      refine ⟨by omega, by omega, by omega, by omega, by omega, by omega, ?_⟩
      have ka : Rd w1 a ((l.take i).map bv) := by rw [List.map_take]; exact (hra.mod hm (by simp)).take _
      have kb : Rd w1 b ((m.take i).map bv) := by rw [List.map_take]; exact (hrb.mod hm (by simp)).take _
      have kc : Rd w1 c ((n.take i).map bv) := by rw [List.map_take]; exact (hrc.mod hm (by simp)).take _
      have la : (l.take i).length = i := by simp; omega
      have lb : (m.take i).length = i := by simp; omega
      have lc : (n.take i).length = i := by simp; omega
      have lx := x3_len l m n i
      have kx := ho.rd
      have sx := sum16_ok x (x3 l m n i) cx w1.drew (by omega) kx.drew
      have sa := sum16_ok a (l.take i) ca w1.drew (by omega) ka.drew
      have sb := sum16_ok b (m.take i) cb w1.drew (by omega) kb.drew
      have sc := sum16_ok c (n.take i) cc w1.drew (by omega) kc.drew
      have tx := sum32_ok x (x3 l m n i) cx w1.drew (by omega) kx.drew
      have ta := sum32_ok a (l.take i) ca w1.drew (by omega) ka.drew
      have tb := sum32_ok b (m.take i) cb w1.drew (by omega) kb.drew
      have tc := sum32_ok c (n.take i) cc w1.drew (by omega) kc.drew
      rw [lx] at sx tx
      rw [la] at sa ta
      rw [lb] at sb tb
      rw [lc] at sc tc
      refine sx.mono ?_
      rintro _ _ ⟨rfl, rfl⟩
      refine ⟨_, rfl, sa.mono ?_⟩
      rintro _ _ ⟨rfl, rfl⟩
      refine ⟨_, rfl, sb.mono ?_⟩
      rintro _ _ ⟨rfl, rfl⟩
      refine ⟨_, rfl, sc.mono ?_⟩
      rintro _ _ ⟨rfl, rfl⟩
      refine ⟨_, rfl, ?_⟩
      rw [if_pos (by
        rw [sum16_x3 l m n i (by omega) (by omega) (by omega), bxorB16, bxorB16])]
      refine ⟨by omega, by omega, by omega, by omega, by omega, by omega, ?_⟩
      refine tx.mono ?_
      rintro _ _ ⟨rfl, rfl⟩
      refine ⟨_, rfl, ta.mono ?_⟩
      rintro _ _ ⟨rfl, rfl⟩
      refine ⟨_, rfl, tb.mono ?_⟩
      rintro _ _ ⟨rfl, rfl⟩
      refine ⟨_, rfl, tc.mono ?_⟩
      rintro _ _ ⟨rfl, rfl⟩
      refine ⟨_, rfl, ?_⟩
      rw [if_pos (by
        rw [sum32_x3 l m n i (by omega) (by omega) (by omega), bxorB32, bxorB32])]
      refine (alive_ok _).mono ?_
      rintro _ w' ⟨rfl, hm'⟩
      exact ⟨_, rfl, rfl, (hm.none (Mod.drew w1)).none hm'⟩
end Go.Proofs.Ytmgolpbonleekaa
