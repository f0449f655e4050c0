/-
  The laws of chapter 2, as contracts: BitsPuts, BitsSplits, BitsBack.
-/
import Derived.Test.YtifhloambieoiaaLaws
namespace Go.Proofs.Ytifhloambieoiaa
open Go Go.Sh Go.Proofs
set_option linter.unusedVariables false

/-- A Field's cells. -/
def fv (f : Nat × Int) : List Value := [.int .u64 (f.1 : Int), .int .i64 f.2]
theorem fv_len (L : List (Nat × Int)) : ∀ x ∈ L, (fv x).length = 2 := fun _ _ => rfl

/-! ### BitsPuts -/
theorem bitsPuts_ok (a : Option Addr) (fs : List (Nat × Int)) (c : Nat) (w : World) (hq : ∀ f ∈ fs, f.1 < 2 ^ 64) (hr : Rd w a (fs.flatMap fv)) :
    Does Try.prog 3 #[.slice a fs.length c] w fun v w' => v = .bool true ∧ Mod [] w w' := by
  apply w3
  unfold F3
  refine (newWriter_ok w).mono ?_
  rintro _ w1 ⟨rfl, h1, m1⟩
  refine ⟨_, rfl, ?_⟩
  refine (few_ok a fs.length c w1).mono ?_
  rintro _ _ ⟨rfl, rfl⟩
  refine ⟨_, rfl, ?_⟩
  unfold F3_j1
  by_cases hf : fs.length ≤ 100
  · rw [if_neg (by simp [hf]), if_neg (by simp)]
    unfold New
    have m2 : Mod [] w (push w1 29 [.slice none 0 0]) := m1.none (Mod.push _ _ _)
    have hsz := m1.size
    have hlt1 := h1.lt
    refine LoopP.of (fun (x : Int) w' => ∃ (i : Nat) (S T : List Nat), i ≤ fs.length ∧ x = (i : Int) ∧ Wr w' w.heap.size S (fbs (fs.take i)) ∧ Rw w' w1.heap.size T (fbs (fs.take i)) ∧ Since w S ∧ Since w T ∧ Apart S T ∧ Mod [] w w') (fun x _ => fs.length - x.toNat)
      ⟨0, [w.heap.size], [w1.heap.size], by omega, rfl, h1.mod (Mod.push (S := []) _ _ _) (by simp), ⟨none, 0, rfl, Blk.new _ _ _, Own.nil⟩, by intro x hx; simp at hx; omega, by intro x hx; simp at hx; omega,
        by intro x hx; simp at hx ⊢; have := hlt1 w.heap.size (by simp); omega, m2⟩ ?_
    rintro _ w2 ⟨i, S, T, hi, rfl, hW, hR, sS, sT, ap, hm⟩
    unfold F3_b2
    by_cases hlt : i < fs.length
    · rw [if_pos (by omega)]
      have hq' := hq fs[i] (List.getElem_mem hlt)
      have hsn : fbs (fs.take (i + 1)) = fbs (fs.take i) ++ fb fs[i] := by rw [List.take_succ_eq_append_getElem hlt, fbs_snoc]
      have hlen := fbs_len (fs.take i)
      have hlen1 := fbs_len (fs.take (i + 1))
      have ht1 : (fs.take i).length ≤ 100 := by simp; omega
      have ht2 : (fs.take (i + 1)).length ≤ 100 := by simp; omega
      obtain ⟨p, rfl, hc⟩ := (hr.mod hm (by simp)).drew.flat (fv_len fs) (by decide) hlt
      refine ⟨p, rfl, by omega, by omega, _, by simpa [add_zero] using hc 0 _ rfl, by omega, by omega, _, hc 1 _ rfl, ?_⟩
      refine (put_any (hW.mod (Mod.drew (S := []) w2) (by simp)) fs[i].2 hq' (by omega)).mono ?_
      rintro _ w3 ⟨rfl, S3, hW3, m3, f3⟩
      have hm3 : Mod [] w w3 := (hm.none (Mod.drew _)).since m3 sS
      have hsz2 : w.heap.size ≤ w2.drew.heap.size := hm.size
      have sS3 := sS.step hsz2 f3
      have hR' := hR.mod (Mod.drew (S := []) w2) (by simp)
      have ap3 := ap.step hR'.lt f3
      have hR3 := hR'.mod m3 ap.symm
      obtain ⟨p', hp', hc'⟩ := (hr.mod hm3 (by simp)).drew.flat (fv_len fs) (by decide) hlt
      cases hp'
      refine ⟨_, rfl, _, rfl, _, rfl, rfl, ?_⟩
      rw [if_neg (by simp)]
      refine ⟨by omega, by omega, _, by simpa [add_zero] using hc' 0 _ rfl, by omega, by omega, _, hc' 1 _ rfl, ?_⟩
      refine (refPut_any (hR3.mod (Mod.drew (S := []) w3) (by simp)) fs[i].2 (by omega)).mono ?_
      rintro _ w4 ⟨rfl, T4, hR4, m4, f4⟩
      have hm4 : Mod [] w w4 := (hm3.none (Mod.drew _)).since m4 sT
      have hsz3 : w.heap.size ≤ w3.drew.heap.size := hm3.size
      have sT4 := sT.step hsz3 f4
      have hW3' := hW3.mod (Mod.drew (S := []) w3) (by simp)
      have ap4 := (ap3.symm.step hW3'.lt f4).symm
      have hW4 := hW3'.mod m4 ap3
      rw [← hsn] at hW4 hR4
      have hRb := hR4
      obtain ⟨ra, rc, rfl, rb, ro⟩ := hRb
      refine ⟨rfl, _, _, _, rb.drew.cell0, ?_⟩
      have hW4' := hW4.mod (Mod.drew (S := []) w4) (by simp)
      have hR4' := hR4.mod (Mod.drew (S := []) w4) (by simp)
      refine (len_ok hW4').mono ?_
      rintro _ _ ⟨rfl, rfl⟩
      refine ⟨_, rfl, rb.drew.cell0, ?_⟩
      rw [if_neg (by simp)]
      refine (bytes_ok hW4' (by omega)).mono ?_
      rintro _ w5 ⟨a5, c5, rfl, ho5, m5, f5⟩
      refine ⟨_, _, _, rfl, ?_⟩
      refine (refBytes_ok (hR4'.mod m5 (by simp)) (by omega)).mono ?_
      rintro _ w6 ⟨a6, c6, rfl, ho6, m6, f6⟩
      refine ⟨_, _, _, rfl, ?_⟩
      refine (same2_ok c5 c6 (ho5.rd.mod m6 (by simp)) ho6.rd).mono ?_
      rintro _ _ ⟨rfl, rfl⟩
      refine ⟨_, rfl, ?_⟩
      rw [if_neg (by simp), wi64 (by omega)]
      have m46 : Mod [] w4 w6 := ((Mod.drew w4).none m5).none m6
      exact ⟨_, by omega, ⟨i + 1, S3, _, by omega, rfl, hW4.mod m46 (by simp), hR4.mod m46 (by simp), sS3, sT4, ap4, hm4.none m46⟩, rfl⟩
    · rw [if_neg (by omega)]
      refine (lives_ok w2).mono ?_
      rintro _ w' ⟨rfl, hm'⟩
      exact ⟨_, rfl, rfl, hm.none hm'⟩
  · rw [if_pos (by simp [hf])]
    rw [if_pos rfl, if_pos (by simp)]
    refine (lives_ok w1).mono ?_
    rintro _ w' ⟨rfl, hm'⟩
    exact ⟨_, rfl, rfl, m1.none hm'⟩

/-! ### BitsSplits -/
theorem bitsSplits_ok (n x y b : Nat) (w : World) (hn : n < 2 ^ 64) (hx : x < 256) (hy : y < 256) (hb : b < 256) :
    Does Try.prog 5 #[.int .u64 (n : Int), .agg #[.int .u8 (x : Int), .int .u8 (y : Int)], .int .u8 (b : Int)] w fun v w' => v = .bool true ∧ Mod [] w w' := by
  apply w5
  unfold F5 New
  have hB := Blk.new w 42 [.int .u8 (x : Int), .int .u8 (y : Int)]
  have m0 : Mod [] w (push w 42 [.int .u8 (x : Int), .int .u8 (y : Int)]).drew := (Mod.push w 42 _).none (Mod.drew _)
  have e1 : IntKind.i64.wrap (Int.tmod (x : Int) 65) = ((x % 65 : Nat) : Int) := by rw [Int.tmod_eq_emod_of_nonneg (by omega), wi64 (by omega)]; rfl
  have e2 : IntKind.i64.wrap (Int.tmod (y : Int) 65) = ((y % 65 : Nat) : Int) := by rw [Int.tmod_eq_emod_of_nonneg (by omega), wi64 (by omega)]; rfl
  have e3 : IntKind.i64.wrap (((x % 65 : Nat) : Int) + ((y % 65 : Nat) : Int)) = ((x % 65 + y % 65 : Nat) : Int) := by rw [wi64 (by omega)]; omega
  have e4 : IntKind.u64.wrap (b : Int) = (b : Int) := by rw [wu64]; omega
  have e5 : IntKind.i64.wrap (Int.tmod (b : Int) 9) = ((b % 9 : Nat) : Int) := by rw [Int.tmod_eq_emod_of_nonneg (by omega), wi64 (by omega)]; rfl
  have e6 : IntKind.u64.wrap ((y % 65 : Nat) : Int) = ((y % 65 : Nat) : Int) := by rw [wu64]; omega
  have e7 : shr .u64 (n : Int) ((y % 65 : Nat) : Int) = ((n >>> (y % 65) : Nat) : Int) := shrN .u64 _ _ (by show _ ≤ 64; omega)
  have hsh : n >>> (y % 65) < 2 ^ 64 := by rw [Nat.shiftRight_eq_div_pow]; exact Nat.lt_of_le_of_lt (Nat.div_le_self _ _) hn
  refine ⟨by omega, by omega, _, hB.drew.cell (i := 0) rfl, by omega, by omega, _, hB.drew.cell (i := 1) rfl, ?_⟩
  rw [e1, e2, e3, e4, e5, e6, e7]
  generalize hX : x % 65 = X at *
  generalize hY : y % 65 = Y at *
  have hbb : b % 9 ≤ 64 := by omega
  generalize b % 9 = B at *
  generalize (push w 42 [.int .u8 (x : Int), .int .u8 (y : Int)]).drew = w0 at *
  refine (newWriter_ok w0).mono ?_
  rintro _ w1 ⟨rfl, hV, m1⟩
  refine ⟨_, rfl, ?_⟩
  refine (newWriter_ok w1).mono ?_
  rintro _ w2 ⟨rfl, hW, m2⟩
  have M2 : Mod [] w w2 := (m0.none m1).none m2
  have hs0 := m0.size
  have hs1 := m1.size
  have sS : Since w [w0.heap.size] := by intro q hq; simp at hq; omega
  have sT : Since w [w1.heap.size] := by intro q hq; simp at hq; omega
  have ap : Apart [w0.heap.size] [w1.heap.size] := by intro q hq; simp at hq ⊢; have := hV.lt w0.heap.size (by simp); omega
  have hV := hV.mod m2 (by simp)
  refine ⟨_, rfl, ?_⟩
  rw [if_neg (by simp), if_neg (by simp)]
  by_cases h64 : 64 < X + Y
  · rw [if_pos (by omega)]
    refine (lives_ok w2).mono ?_
    rintro _ w' ⟨rfl, hm'⟩
    exact ⟨_, rfl, rfl, M2.none hm'⟩
  rw [if_neg (by omega)]
  -- before
  refine (put_ok hV (n := b) (wd := B) (by omega) hbb (by decide)).mono ?_
  rintro _ w3 ⟨rfl, S3, hV3, m3, f3⟩
  have M3 := M2.since m3 sS
  have sS3 := sS.step M2.size f3
  have ap3 := ap.step hW.lt f3
  have hW3 := hW.mod m3 ap.symm
  refine ⟨_, rfl, ?_⟩
  refine (put_ok hW3 (n := b) (wd := B) (by omega) hbb (by decide)).mono ?_
  rintro _ w4 ⟨rfl, T4, hW4, m4, f4⟩
  have M4 := M3.since m4 sT
  have sT4 := sT.step M3.size f4
  have ap4 := (ap3.symm.step hV3.lt f4).symm
  have hV4 := hV3.mod m4 ap3
  refine ⟨_, rfl, ?_⟩
  refine (put_ok hV4 (n := n) (wd := X + Y) hn (by omega) (by simp [field_len]; omega)).mono ?_
  rintro _ w5 ⟨rfl, S5, hV5, m5, f5⟩
  have M5 := M4.since m5 sS3
  have sS5 := sS3.step M4.size f5
  have ap5 := ap4.step hW4.lt f5
  have hW5 := hW4.mod m5 ap4.symm
  refine ⟨_, rfl, by omega, ?_⟩
  refine (put_ok hW5 (n := n >>> Y) (wd := X) hsh (by omega) (by simp [field_len]; omega)).mono ?_
  rintro _ w6 ⟨rfl, T6, hW6, m6, f6⟩
  have M6 := M5.since m6 sT4
  have sT6 := sT4.step M5.size f6
  have ap6 := (ap5.symm.step hV5.lt f6).symm
  have hV6 := hV5.mod m6 ap5
  refine ⟨_, rfl, ?_⟩
  refine (put_ok hW6 (n := n) (wd := Y) hn (by omega) (by simp [field_len]; omega)).mono ?_
  rintro _ w7 ⟨rfl, T7, hW7, m7, f7⟩
  have M7 := M6.since m7 sT6
  have hV7 := hV6.mod m7 ap6
  rw [List.append_assoc, ← field_split] at hW7
  refine ⟨_, rfl, ?_⟩
  have hll : ([] ++ field b B ++ field n (X + Y)).length ≤ 1000000 := by simp [field_len]; omega
  refine (len_ok hV7).mono ?_
  rintro _ _ ⟨rfl, rfl⟩
  refine ⟨_, rfl, ?_⟩
  refine (len_ok hW7).mono ?_
  rintro _ _ ⟨rfl, rfl⟩
  refine ⟨_, rfl, ?_⟩
  rw [if_pos rfl]
  refine (bytes_ok hV7 hll).mono ?_
  rintro _ w8 ⟨a8, c8, rfl, ho8, m8, f8⟩
  refine ⟨_, _, _, rfl, ?_⟩
  refine (bytes_ok (hW7.mod m8 (by simp)) hll).mono ?_
  rintro _ w9 ⟨a9, c9, rfl, ho9, m9, f9⟩
  refine ⟨_, _, _, rfl, ?_⟩
  refine (same2_ok c8 c9 (ho8.rd.mod m9 (by simp)) ho9.rd).mono ?_
  rintro _ _ ⟨rfl, rfl⟩
  refine ⟨_, rfl, ?_⟩
  rw [if_pos (by simp)]
  refine (lives_ok w9).mono ?_
  rintro _ w' ⟨rfl, hm'⟩
  exact ⟨_, rfl, rfl, ((M7.none m8).none m9).none hm'⟩
end Go.Proofs.Ytifhloambieoiaa
