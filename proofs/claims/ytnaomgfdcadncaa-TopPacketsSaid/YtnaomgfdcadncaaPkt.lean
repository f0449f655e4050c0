/-
  The packets of this law: Encode, Decode, Idle, the length of a packet.
-/
import Derived.Test.YtnaomgfdcadncaaByt
namespace Go.Proofs.Ytnaomgfdcadncaa
open Go Go.Sh Go.Proofs
set_option linter.unusedVariables false
set_option linter.unusedSimpArgs false
set_option linter.unusedSectionVars false

/-- The first six bytes: an idle packet or not, its count, the length of its data. -/
def hdr (id : Bool) (i m : Nat) : List UInt8 := [if id then 7 else 0, if id then 255 else 7, 192, UInt8.ofNat i, UInt8.ofNat ((m - 1) / 256), UInt8.ofNat ((m - 1) % 256)]
def pk (id : Bool) (i : Nat) (d : List UInt8) : List UInt8 := hdr id i d.length ++ d
def apid (id : Bool) : Int := if id then 2047 else 7
theorem pk_len (id : Bool) (i : Nat) (d : List UInt8) : (pk id i d).length = 6 + d.length := by simp [pk, hdr]; omega
theorem bv_ofNat (m : Nat) : bv (UInt8.ofNat m) = .int .u8 ((m % 256 : Nat) : Int) := by simp [bv]

theorem secN : ∀ i : Fin 20, IntKind.u8.wrap (shr .i64 (bor .i64 (shl .i64 3 14) ((i.val : Nat) : Int)) 8) = 192 ∧ IntKind.u8.wrap (bor .i64 (shl .i64 3 14) ((i.val : Nat) : Int)) = ((i.val : Nat) : Int) := by decide
theorem secD : ∀ i : Fin 20, shr .i64 (bor .i64 (shl .i64 (IntKind.i64.wrap 192) 8) (IntKind.i64.wrap ((i.val : Nat) : Int))) 14 = 3 ∧ band .i64 (bor .i64 (shl .i64 (IntKind.i64.wrap 192) 8) (IntKind.i64.wrap ((i.val : Nat) : Int))) 16383 = ((i.val : Nat) : Int) := by decide
theorem hdr_vals (id : Bool) (i m : Nat) (hi : i < 20) (hm : 1 ≤ m ∧ m ≤ 4090) : (hdr id i m).map bv = [.int .u8 (IntKind.u8.wrap (shr .i64 (bor .i64 (bor .i64 0 0) (apid id)) 8)), .int .u8 (IntKind.u8.wrap (bor .i64 (bor .i64 0 0) (apid id))), .int .u8 (IntKind.u8.wrap (shr .i64 (bor .i64 (shl .i64 3 14) (i : Int)) 8)), .int .u8 (IntKind.u8.wrap (bor .i64 (shl .i64 3 14) (i : Int))), .int .u8 (IntKind.u8.wrap (shr .i64 (IntKind.i64.wrap ((m : Int) - 1)) 8)), .int .u8 (IntKind.u8.wrap (IntKind.i64.wrap ((m : Int) - 1)))] := by
  obtain ⟨s1, s2⟩ := secN ⟨i, hi⟩
  simp only at s1 s2
  rw [s1, s2]
  have e : IntKind.i64.wrap ((m : Int) - 1) = ((m - 1 : Nat) : Int) := by rw [wi64 (by omega)]; omega
  have e2 : shr .i64 ((m - 1 : Nat) : Int) 8 = (((m - 1) / 256 : Nat) : Int) := by
    have := shrN .i64 (m - 1) 8 (by decide)
    rw [show ((8 : Nat) : Int) = 8 from rfl] at this
    rw [this, Nat.shiftRight_eq_div_pow]
  rw [e, e2]
  have a1 : IntKind.u8.wrap (shr .i64 (bor .i64 (bor .i64 0 0) (apid id)) 8) = if id then 7 else 0 := by cases id <;> decide
  have a2 : IntKind.u8.wrap (bor .i64 (bor .i64 0 0) (apid id)) = if id then 255 else 7 := by cases id <;> decide
  rw [a1, a2, wu8, wu8]
  unfold hdr
  simp only [List.map_cons, List.map_nil, bv_ofNat]
  have b1 : bv (if id then 7 else 0) = .int .u8 (if id then 7 else 0) := by cases id <;> rfl
  have b2 : bv (if id then 255 else 7) = .int .u8 (if id then 255 else 7) := by cases id <;> rfl
  have b3 : bv 192 = .int .u8 192 := rfl
  have c1 : (((m - 1) / 256 % 256 : Nat) : Int) = (((m - 1) / 256 : Nat) : Int) % 256 := by omega
  have c2 : (((m - 1) % 256 % 256 : Nat) : Int) = ((m - 1 : Nat) : Int) % 256 := by omega
  rw [b1, b2, b3, c1, c2, Nat.mod_eq_of_lt (show i < 256 by omega)]

theorem flag_ok (n : Int) (w : World) : Does Try.prog 13 #[.bool false, .int .i64 n] w fun v w' => v = .int .i64 0 ∧ w = w' := by
  apply w13
  unfold F13
  rw [if_neg (by simp)]
  exact ⟨rfl, rfl⟩
abbrev pval (id : Bool) (i : Nat) (a : Option Addr) (m c : Nat) : Value := .agg #[.bool false, .bool false, .int .i64 (apid id), .int .i64 3, .int .i64 (i : Int), .slice a m c]

theorem idle_ok {w : World} {a : Option Addr} (m c : Nat) (hr : Rd w a ((List.replicate m (0 : UInt8)).map bv)) : Does Try.prog 24 #[pval true 0 a m c] w fun v w' => v = .bool true ∧ Mod [] w w' := by
  apply w24
  unfold F24
  refine New.use fun w1 hb m1 z1 => ?_
  have hb := hb.drew
  refine ⟨_, hb.cell0, ?_⟩
  rw [if_pos (by simp)]
  refine ⟨_, hb.cell (i := 1) rfl, ?_⟩
  rw [if_pos (by simp)]
  refine ⟨_, hb.cell (i := 3) rfl, ?_⟩
  rw [if_pos rfl]
  refine ⟨_, hb.cell (i := 4) rfl, ?_⟩
  rw [if_pos (show ((0 : Nat) : Int) = 0 from rfl)]
  refine ⟨_, _, _, hb.cell (i := 5) rfl, _, _, _, hb.cell (i := 5) rfl, New.use fun w2 hb2 m2 z2 => ?_⟩
  have hB := hb.mod m2 (by simp)
  refine ⟨hB.cell (i := 5) rfl, hB.cell (i := 5) rfl, ?_⟩
  have M2 : Mod [] w w2 := (m1.none (Mod.drew w1)).none m2
  have key : Does Try.prog 32 #[.slice a m c, .slice (some (base w1.drew.heap.size)) 1 1] w2 fun v w' => v = .int .i64 (m : Int) ∧ w2 = w' := by
    apply w32
    unfold F32
    rw [if_neg (by decide), if_pos (by decide)]
    refine ⟨_, rfl, by decide, by decide, _, by rw [show ((0 : Int).toNat) = 0 from rfl, add_zero]; exact hb2.cell0, _, _, countZ m c (hr.mod M2 (by simp)), rfl, rfl⟩
  refine key.mono ?_
  rintro _ _ ⟨rfl, rfl⟩
  refine ⟨_, rfl, hB.cell (i := 5) rfl, ?_, M2⟩
  rw [decide_eq_true rfl]

theorem valid_ok {w : World} {a : Option Addr} (id : Bool) (i : Nat) {d : List UInt8} (c : Nat) (hi : i < 20) (hd : 1 ≤ d.length ∧ d.length ≤ 4090) (hz : id = true → i = 0 ∧ d = List.replicate d.length 0) (hr : Rd w a (d.map bv)) : Does Try.prog 12 #[pval id i a d.length c] w fun v w' => v = .bool true ∧ Mod [] w w' := by
  apply w12
  unfold F12
  refine New.use fun w1 hb m1 z1 => ?_
  refine ⟨_, hb.cell (i := 2) rfl, ?_⟩
  rw [if_neg (by cases id <;> decide)]
  refine ⟨_, hb.cell (i := 2) rfl, ?_⟩
  rw [if_neg (by cases id <;> decide)]
  refine ⟨_, hb.cell (i := 3) rfl, ?_⟩
  rw [if_neg (by decide)]
  refine ⟨_, hb.cell (i := 3) rfl, ?_⟩
  rw [if_neg (by decide)]
  refine ⟨_, hb.cell (i := 4) rfl, ?_⟩
  rw [if_neg (by omega)]
  refine ⟨_, hb.cell (i := 4) rfl, ?_⟩
  rw [if_neg (by omega)]
  refine ⟨_, _, _, hb.cell (i := 5) rfl, ?_⟩
  rw [if_neg (by omega)]
  refine ⟨_, _, _, hb.cell (i := 5) rfl, ?_⟩
  rw [if_neg (by omega)]
  refine ⟨_, hb.cell (i := 2) rfl, ?_⟩
  cases id with
  | false =>
    rw [if_pos (by decide)]
    exact ⟨rfl, m1⟩
  | true =>
    rw [if_neg (by decide)]
    obtain ⟨rfl, hz'⟩ := hz rfl
    refine ⟨_, _, _, _, _, _, _, _, hb.cells, ?_⟩
    have hr' : Rd w1 a ((List.replicate d.length (0 : UInt8)).map bv) := by rw [← hz']; exact hr.mod m1 (by simp)
    refine (idle_ok d.length c hr').mono ?_
    rintro _ w2 ⟨rfl, m2⟩
    exact ⟨_, rfl, rfl, m1.none m2⟩

theorem encode_ok {w : World} {a : Option Addr} (id : Bool) (i : Nat) {d : List UInt8} (c : Nat) (hi : i < 20) (hd : 1 ≤ d.length ∧ d.length ≤ 4090) (hz : id = true → i = 0 ∧ d = List.replicate d.length 0) (hr : Rd w a (d.map bv)) : Does Try.prog 6 #[pval id i a d.length c] w fun v w' => ∃ x k, v = .tuple #[.slice x (pk id i d).length k, .int .i64 0] ∧ Own w' 5 1 x (pk id i d).length k ((pk id i d).map bv) ∧ Mod [] w w' ∧ (∀ y ∈ fp x, w.heap.size ≤ y) := by
  apply w6
  unfold F6
  refine New.use fun w1 hb m1 z1 => ?_
  refine ⟨_, _, _, _, _, _, _, _, hb.cells, ?_⟩
  refine (valid_ok id i c hi hd hz (hr.mod m1 (by simp))).mono ?_
  rintro _ w2 ⟨rfl, m2⟩
  refine ⟨_, rfl, ?_⟩
  rw [if_neg (by simp)]
  have hb2 := (hb.mod m2 (by simp)).drew
  refine ⟨_, hb2.cell0, _, hb2.cell (i := 1) rfl, _, hb2.cell (i := 2) rfl, ?_⟩
  refine (flag_ok 4096 _).mono ?_
  rintro _ _ ⟨rfl, rfl⟩
  refine ⟨_, rfl, hb2.cell (i := 1) rfl, hb2.cell (i := 2) rfl, ?_⟩
  refine (flag_ok 2048 _).mono ?_
  rintro _ _ ⟨rfl, rfl⟩
  refine ⟨_, rfl, hb2.cell (i := 2) rfl, _, hb2.cell (i := 3) rfl, _, hb2.cell (i := 4) rfl, _, _, _, hb2.cell (i := 5) rfl, ?_⟩
  refine New.use fun w3 hb3 m3 z3 => ?_
  have M3 : Mod [] w w3 := ((m1.none m2).none (Mod.drew w2)).none m3
  refine ⟨_, _, _, (hb2.mod m3 (by simp)).cell (i := 5) rfl, ?_⟩
  rw [← hdr_vals id i d.length hi hd] at hb3
  obtain ⟨a', c', w4, run, o4, m4, f4⟩ := append_own (m := d.length) (d := c) Try.underlying29 elem5 29 (Own.blk (n := 6) hb3 (by simp [hdr]) (by decide)) (hr.mod M3 (by simp)) (by simp) (bv_one d) (by omega) (by omega)
  have e : (pk id i d).length = 6 + d.length := pk_len id i d
  have zd : w2.drew.heap.size = w2.heap.size := rfl
  have hs : w.heap.size ≤ w2.drew.heap.size := ((m1.none m2).none (Mod.drew w2)).size
  refine ⟨_, _, _, w4, run, a', c', by rw [e], ?_, M3.trans m4 (fun x hx => .inr (by simp [fp, base] at hx; omega)), fun y hy => ?_⟩
  · rw [e]
    unfold pk
    rw [List.map_append]
    exact o4
  · have := m3.size
    rcases f4 with h | h <;> rw [h] at hy <;> simp [fp, base] at hy <;> omega

/-! ### Reading -/
theorem word_ok {w : World} {a : Option Addr} {l : List UInt8} (n c : Nat) (hr : Rd w a (l.map bv)) (hl : 2 ≤ l.length) (hn : n = l.length) : Does Try.prog 26 #[.slice a n c] w fun v w' => v = .int .i64 (bor .i64 (shl .i64 (IntKind.i64.wrap (l[0].toNat : Int)) 8) (IntKind.i64.wrap (l[1].toNat : Int))) ∧ w' = w.drew := by
  subst hn
  apply w26
  unfold F26
  have hr := hr.drew
  obtain ⟨p, rfl, h0⟩ := rd_get hr (i := 0) (by omega)
  obtain ⟨q, hq, h1⟩ := rd_get hr (i := 1) (by omega)
  cases hq
  exact ⟨p, rfl, by omega, by omega, _, h0, by omega, by omega, _, h1, rfl, rfl⟩
/-- A packet's head at the front of some bytes. -/
structure Head (l : List UInt8) (n : Nat) : Prop where
  six : 6 ≤ l.length
  ver : (l[0]'(by omega)).toNat < 32
  len : 7 + (l[4]'(by omega)).toNat * 256 + (l[5]'(by omega)).toNat = n
  max : n ≤ 4096
theorem shr5 : ∀ i : Fin 32, shr .u8 ((i.val : Nat) : Int) 5 = 0 := by decide
set_option maxRecDepth 100000 in
theorem shl8 : ∀ x : Fin 256, shl .i64 ((x.val : Nat) : Int) 8 = ((x.val * 256 : Nat) : Int) := by decide
theorem lenN (x y : Nat) (hx : x < 256) (hy : y < 256) : IntKind.i64.wrap ((IntKind.i64.wrap (7 + (shl .i64 (IntKind.i64.wrap (x : Int)) 8))) + (IntKind.i64.wrap (y : Int))) = ((7 + x * 256 + y : Nat) : Int) := by
  rw [wi64 (n := (x : Int)) (by omega), wi64 (n := (y : Int)) (by omega)]
  have e : shl .i64 (x : Int) 8 = ((x * 256 : Nat) : Int) := shl8 ⟨x, hx⟩
  rw [e, wi64 (n := 7 + ((x * 256 : Nat) : Int)) (by omega), wi64 (by omega)]
  omega
theorem length_ok {w : World} {a : Option Addr} {l : List UInt8} {n : Nat} (m c : Nat) (hm : m = l.length) (hr : Rd w a (l.map bv)) (h : Head l n) : Does Try.prog 30 #[.slice a m c] w fun v w' => v = .tuple #[.int .i64 (n : Int), .bool true] ∧ w' = w.drew := by
  subst hm
  apply w30
  unfold F30
  have hr := hr.drew
  have h6 := h.six
  obtain ⟨p, rfl, h0⟩ := rd_get hr (i := 0) (by omega)
  obtain ⟨q, hq, h4⟩ := rd_get hr (i := 4) (by omega)
  cases hq
  obtain ⟨q, hq, h5⟩ := rd_get hr (i := 5) (by omega)
  cases hq
  refine ⟨p, rfl, by omega, by omega, _, h4, by omega, by omega, _, h5, by omega, by omega, _, h0, ?_⟩
  rw [if_pos (shr5 ⟨_, h.ver⟩), lenN _ _ (l[4].toNat_lt) (l[5].toNat_lt), h.len]
  have := h.max
  rw [decide_eq_true (by omega)]
  exact ⟨rfl, rfl⟩
end Go.Proofs.Ytnaomgfdcadncaa
