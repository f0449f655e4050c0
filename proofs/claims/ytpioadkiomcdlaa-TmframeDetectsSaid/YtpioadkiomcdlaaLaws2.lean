/-
  The laws of chapter 18, as contracts: TmframeBack, TmframeOnce, TmframeDetects.
-/
import Derived.Test.YtpioadkiomcdlaaLaws
namespace Go.Proofs.Ytpioadkiomcdlaa
open Go Go.Sh Go.Proofs
set_option linter.unusedVariables false
set_option linter.unusedSimpArgs false

theorem tmframeBack_ok (f : Tm) {a : Option Addr} {c : Nat} {w : World} (hr : Rd w a (f.d.map bv)) : Does Try.prog 5 #[f.val a c] w fun v w' => v = .bool true ∧ Mod [] w w' := by
  apply w5
  unfold F5
  refine New.use fun w1 h1 m1 _ => ?_
  have live : ∀ {w' : World}, Mod [] w w' → Does Try.prog 8 #[] w' (fun v w'' => ∃ (x : Bool), v = .bool x ∧ (Value.bool x = .bool true ∧ Mod [] w w'')) := fun M => (lives_ok _).mono fun v w' h => ⟨_, h.1, rfl, M.none h.2⟩
  have r1 := hr.mod m1 (by simp)
  refine ⟨_, _, _, _, _, _, _, _, _, _, _, _, _, _, h1.cells, ?_⟩
  refine (tmEncode_ok f a c r1).mono ?_
  rintro _ w2 ⟨x2, k2, rfl, r2, c2, m2, s2⟩
  have M2 := m1.none m2
  have h2 := h1.mod m2 (by simp)
  refine ⟨_, _, _, _, rfl, ?_⟩
  unfold Tm.out Tm.err at *
  by_cases hok : f.ok = true
  · rw [if_pos hok] at r2 c2 ⊢
    rw [if_pos hok, if_neg (by simp)]
    refine (tmDecode_ok c2 r2).mono ?_
    rintro _ w3 ⟨x3, k3, rfl, o3, m3, s3⟩
    rw [tm_back f hok] at o3 ⊢
    refine ⟨_, _, _, _, _, _, _, _, _, _, _, _, _, _, _, rfl, ?_⟩
    refine New.put rfl fun w4 h4 m4 z4 => ?_
    have hlen := f.enc_len
    have hrr := (Tm.okr hok).1
    have N4 := m3.none m4
    refine ⟨_, _, _, (h2.mod N4 (by simp)).cell (i := 5) rfl, ?_⟩
    rw [if_pos (by rw [hlen, wi64 (by omega)]; simp), if_pos rfl]
    refine ⟨_, _, _, _, _, _, _, _, _, _, _, _, _, _, h4.cells, _, _, _, _, _, _, _, _, _, _, _, _, _, _, (h2.mod N4 (by simp)).cells, ?_⟩
    refine (tmSame_ok f f (o3.rd.mod m4 (by simp)) ((r1.mod m2 (by simp)).mod N4 (by simp))).mono ?_
    rintro _ w5 ⟨rfl, m5⟩
    refine ⟨_, rfl, ?_⟩
    rw [if_pos (by simp)]
    exact live ((M2.none N4).none m5)
  · rw [if_neg hok] at r2 c2 ⊢
    rw [if_neg hok, if_pos (by simp), if_pos (by simp)]
    refine ⟨_, _, _, _, _, _, _, _, _, _, _, _, _, _, h2.cells, ?_⟩
    refine (tmValid_ok f a c w2).mono ?_
    rintro _ w3 ⟨rfl, m3⟩
    refine ⟨_, rfl, ?_⟩
    rw [if_pos (by simp [hok])]
    exact live (M2.none m3)

theorem tmDec_cases (l : List UInt8) : (tmDec l).2 ≠ 0 ∧ (tmDec l).1 = Tm.zero ∨ (tmDec l).2 = 0 ∧ (tmDec l).1 = tmOf l ∧ tmOk l = true := by
  unfold tmDec
  split; simp
  split; simp
  split; simp
  split
  · rename_i h; right; exact ⟨rfl, rfl, h⟩
  · simp

theorem tmframeOnce_ok {a : Option Addr} {l : List UInt8} {c : Nat} {w : World} (hc : l.length ≤ c) (hr : Rd w a (l.map bv)) : Does Try.prog 6 #[.slice a l.length c] w fun v w' => v = .bool true ∧ Mod [] w w' := by
  apply w6
  unfold F6
  have live : ∀ {w' : World}, Mod [] w w' → Does Try.prog 8 #[] w' (fun v w'' => ∃ (x : Bool), v = .bool x ∧ (Value.bool x = .bool true ∧ Mod [] w w'')) := fun M => (lives_ok _).mono fun v w' h => ⟨_, h.1, rfl, M.none h.2⟩
  refine (tmDecode_ok hc hr).mono ?_
  rintro _ w1 ⟨x1, k1, rfl, o1, m1, s1⟩
  refine ⟨_, _, _, _, _, _, _, _, _, _, _, _, _, _, _, rfl, ?_⟩
  refine New.put rfl fun w2 h2 m2 z2 => ?_
  have M2 := m1.none m2
  have o2 := o1.mod m2 (by simp)
  rcases tmDec_cases l with ⟨h0, hz⟩ | ⟨h0, hz, hk⟩
  · rw [if_pos h0]
    rw [hz] at h2 o2
    refine ⟨_, _, _, _, _, _, _, _, _, _, _, _, _, _, h2.cells, ?_⟩
    refine (tmSame_ok Tm.zero Tm.zero o2.rd Rd.nil (d := 0) (b := none)).mono ?_
    rintro _ w3 ⟨rfl, m3⟩
    refine ⟨_, rfl, ?_⟩
    rw [if_pos (by simp)]
    exact live (M2.none m3)
  · rw [if_neg (by simp [h0])]
    rw [hz] at h2 o2
    unfold tmOk at hk
    rw [Bool.and_eq_true, Bool.and_eq_true, beq_iff_eq] at hk
    refine ⟨_, _, _, _, _, _, _, _, _, _, _, _, _, _, h2.cells, ?_⟩
    refine (tmEncode_ok (tmOf l) x1 k1 o2.rd).mono ?_
    rintro _ w3 ⟨x3, k3, rfl, r3, c3, m3, s3⟩
    refine ⟨_, _, _, _, rfl, ?_⟩
    unfold Tm.out Tm.err at *
    rw [if_pos hk.2.1, hk.2.2] at r3
    rw [if_pos hk.2.1, if_pos hk.2.1, if_pos rfl, hk.2.2]
    have M3 := M2.none m3
    refine ⟨_, toStr_ok k3 r3, _, toStr_ok c (hr.mod M3 (by simp)), ?_⟩
    rw [if_pos (by simp)]
    exact live M3

theorem flip_chg (s : List UInt8) {i : Nat} (hi : i < 8 * s.length) : chg s i 0x8000#16 16 = flip s i := by
  refine bits_ext2 (by rw [chg_len, flip_len]) ?_
  intro j hj
  rw [flip_len] at hj
  rw [chg_bit s i _ 16 j hj, flip_bit s hi]
  congr 1
  have hg : ∀ k, k < 16 → (0x8000#16 : BitVec 16).getMsbD k = decide (k = 0) := by decide
  by_cases h : i ≤ j ∧ j < i + 16
  · rw [decide_eq_true h, Bool.true_and, hg _ (by omega)]
    congr 1
    rw [eq_iff_iff]
    omega
  · rw [decide_eq_false h, Bool.false_and]
    symm
    rw [decide_eq_false_iff_not]
    omega
theorem flip_ne (s : List UInt8) {i : Nat} (hi : i < 8 * s.length) : flip s i ≠ s := by
  intro e
  have := flip_bit s hi i
  rw [e] at this
  cases bit s i <;> simp at this
theorem flip_val2 (x : UInt8) {b : Nat} (hb : b < 8) : Value.int .u8 (bxor .u8 (x.toNat : Int) (shl .u8 1 (b : Int))) = bv (flipB x (7 - b)) := by
  have hx := u8lt x
  rw [show (1 : Int) = ((1 : Nat) : Int) from rfl, shlU rfl 1 b (by show _ ≤ 8; omega), bxorU rfl (by exact hx) (Nat.mod_lt _ (by decide)), bv, flipB]
  rw [show (UInt8.ofBitVec (x.toBitVec ^^^ (1#8 <<< (7 - (7 - b))))).toNat = (x.toBitVec ^^^ (1#8 <<< (7 - (7 - b)))).toNat from rfl, BitVec.toNat_xor, BitVec.toNat_shiftLeft, show 7 - (7 - b) = b by omega]
  rfl

theorem tmframeDetects_ok (f : Tm) {a : Option Addr} {c : Nat} (bt : Int) {w : World} (hbt : -9223372036854775808 ≤ bt ∧ bt ≤ 9223372036854775807) (hr : Rd w a (f.d.map bv)) : Does Try.prog 7 #[f.val a c, .int .i64 bt] w fun v w' => v = .bool true ∧ Mod [] w w' := by
  apply w7
  unfold F7
  refine New.use fun w1 h1 m1 _ => ?_
  have live : ∀ {w' : World}, Mod [] w w' → Does Try.prog 8 #[] w' (fun v w'' => ∃ (x : Bool), v = .bool x ∧ (Value.bool x = .bool true ∧ Mod [] w w'')) := fun M => (lives_ok _).mono fun v w' h => ⟨_, h.1, rfl, M.none h.2⟩
  have r1 := hr.mod m1 (by simp)
  refine ⟨_, _, _, _, _, _, _, _, _, _, _, _, _, _, h1.cells, ?_⟩
  refine (tmEncode_ok f a c r1).mono ?_
  rintro _ w2 ⟨x2, k2, rfl, r2, c2, m2, s2⟩
  have M2 := m1.none m2
  refine ⟨_, _, _, _, rfl, ?_⟩
  have go : ∀ b : Bool, (b = false → f.ok = true ∧ 0 ≤ bt ∧ bt < 8 * (f.out.length : Int)) → F7_j1 f.out.length x2 k2 bt b w2 (fun v w' => v = .bool true ∧ Mod [] w w') := by
    intro b hb
    unfold F7_j1
    refine iteI (fun _ => live M2) (fun hf => ?_)
    obtain ⟨hok, hb0, hb1⟩ := hb (by simpa using hf)
    unfold Tm.out at *
    rw [if_pos hok] at r2 c2 hb1 ⊢
    have hlen := f.enc_len
    have hrr := (Tm.okr hok).1
    have hchk : chk16 f.enc = true := chk16_app _
    generalize hE : f.enc = E at *
    obtain ⟨n, rfl⟩ : ∃ n : Nat, bt = (n : Int) := ⟨bt.toNat, by omega⟩
    obtain ⟨x3, k3, w3, run3, o3, m3, f3⟩ := make_own Try.underlying22 elem5 w2 E.length (by omega) (by omega) (by unfold maxLen; omega)
    refine ⟨_, _, _, w3, run3, ?_⟩
    obtain ⟨x4, k4, w4, run4, o4, m4, f4⟩ := app_bytes (l := []) (c := k2) o3 (r2.mod m3 (by simp)) (by simp; omega)
    rw [List.nil_append] at run4 o4
    refine ⟨_, _, _, w4, run4, ?_⟩
    have e1 : IntKind.i64.wrap (Int.tdiv (n : Int) 8) = ((n / 8 : Nat) : Int) := by rw [Int.tdiv_eq_ediv_of_nonneg (by omega), wi64 (by omega)]; omega
    have e2 : IntKind.u64.wrap (Int.tmod (n : Int) 8) = ((n % 8 : Nat) : Int) := by rw [Int.tmod_eq_emod_of_nonneg (by omega), wu64]; omega
    rw [e1, e2, Int.toNat_natCast]
    have hq : n / 8 < E.length := by omega
    obtain ⟨p, rfl, cp⟩ := rd_get o4.rd hq
    refine ⟨p, rfl, by omega, by omega, _, cp, by omega, by omega, by omega, ?_⟩
    rw [flip_val2 _ (Nat.mod_lt n (by decide))]
    obtain ⟨p', hp, hwr, o5, m5⟩ := o4.setAt (i := n / 8) (by simpa using hq) (bv (flipB E[n / 8] (7 - n % 8)))
    cases hp
    refine ⟨hwr, ?_⟩
    have ef : (E.map bv).set (n / 8) (bv (flipB E[n / 8] (7 - n % 8))) = (flip E (8 * (n / 8) + (7 - n % 8))).map bv := by
      unfold flip
      rw [List.map_set, show (8 * (n / 8) + (7 - n % 8)) / 8 = n / 8 by omega, show (8 * (n / 8) + (7 - n % 8)) % 8 = 7 - n % 8 by omega, List.getD_eq_getElem?_getD, List.getElem?_eq_getElem hq]
      rfl
    rw [ef] at o5
    have hi : 8 * (n / 8) + (7 - n % 8) < 8 * E.length := by omega
    generalize 8 * (n / 8) + (7 - n % 8) = i at *
    have fl := flip_len E i
    have M5 : Mod [] w (w4.setCell (p.add (n / 8)) (bv (flipB E[n / 8] (7 - n % 8)))) := by
      have z2 := M2.size
      have z3 := m3.size
      have f4' : ∀ y ∈ fp (some p), w2.heap.size ≤ y := fun y hy => by
        rcases f4 with h | h <;> rw [h] at hy
        · exact f3 y hy
        · simp at hy; omega
      exact ((M2.none m3).trans m4 (fun y hy => .inr (by have := f3 y hy; omega))).trans m5 (fun y hy => .inr (by have := f4' y hy; omega))
    generalize w4.setCell (p.add (n / 8)) (bv (flipB E[n / 8] (7 - n % 8))) = w5 at *
    have hD : tmDec (flip E i) = (Tm.zero, 5) := by
      have hc : chk16 (flip E i) = false := by
        cases hc : chk16 (flip E i) with
        | false => rfl
        | true =>
          have := burst16 E i 0x8000#16 (by omega) hi hchk (by rw [flip_chg E hi]; exact hc)
          rw [flip_chg E hi] at this
          exact absurd this (flip_ne E hi)
      unfold tmDec
      rw [if_neg (by omega), if_neg (by omega), if_pos hc]
    rw [← fl] at o5 ⊢
    refine (tmDecode_ok o5.le o5.rd).mono ?_
    rintro _ w6 ⟨x6, k6, rfl, o6, m6, s6⟩
    rw [hD]
    refine ⟨_, _, _, _, _, _, _, _, _, _, _, _, _, _, _, rfl, ?_⟩
    refine New.put rfl fun w7 h7 m7 z7 => ?_
    rw [if_pos rfl]
    exact live ((M5.none m6).none m7)
  have hout : f.ok = true → f.out.length ≤ 1100 := fun h => by unfold Tm.out; rw [if_pos h, f.enc_len]; have := (Tm.okr h).1; omega
  refine iteI (fun h => go _ (fun h' => by simp at h')) (fun h => ?_)
  have hok : f.ok = true := by
    unfold Tm.err at h
    cases hk : f.ok with
    | true => rfl
    | false => rw [hk] at h; simp at h
  have hl := hout hok
  refine iteI (fun h0 => go _ (fun h' => by simp at h')) (fun h0 => go _ (fun h' => ?_))
  rw [wi64 (by omega)] at h'
  simp at h'
  exact ⟨hok, by omega, h'⟩
end Go.Proofs.Ytpioadkiomcdlaa
