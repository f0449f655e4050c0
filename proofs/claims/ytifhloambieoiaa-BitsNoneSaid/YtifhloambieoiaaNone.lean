/-
  The law BitsNone, as a contract.
-/
import Derived.Test.YtifhloambieoiaaLaws
namespace Go.Proofs.Ytifhloambieoiaa
open Go Go.Sh Go.Proofs
set_option linter.unusedVariables false

theorem okR_nil (w : World) : Does Try.prog 27 #[.pointer none] w fun v w' => v = .bool false ∧ w = w' := by
  apply w27
  unfold F27
  rw [if_neg (by simp)]
  exact ⟨rfl, rfl⟩
theorem okR_zero {w : World} {g : Nat} {vs : List Value} (hb : Blk w g 55 (.bool false :: vs)) : Does Try.prog 27 #[.pointer (some (base g))] w fun v w' => v = .bool false ∧ w = w' := by
  apply w27
  unfold F27
  rw [if_pos (by simp)]
  refine ⟨_, rfl, false, hb.cell0, ?_⟩
  rw [if_neg (by simp)]
  exact ⟨rfl, rfl⟩
section
variable {w : World} {a : Option Addr} (h : Does Try.prog 26 #[.pointer a] w fun v w' => v = .bool false ∧ w = w')
include h
theorem putN (n wd : Int) : Does Try.prog 11 #[.pointer a, .int .u64 n, .int .i64 wd] w fun v w' => v = .pointer none ∧ w = w' := by
  apply w11
  unfold F11
  refine h.mono ?_
  rintro _ _ ⟨rfl, rfl⟩
  refine ⟨_, rfl, ?_⟩
  rw [if_pos (by simp)]
  exact ⟨rfl, rfl⟩
theorem lenN : Does Try.prog 13 #[.pointer a] w fun v w' => v = .int .i64 0 ∧ w = w' := by
  apply w13
  unfold F13
  refine h.mono ?_
  rintro _ _ ⟨rfl, rfl⟩
  refine ⟨_, rfl, ?_⟩
  rw [if_pos (by simp)]
  exact ⟨rfl, rfl⟩
theorem bytesN : Does Try.prog 15 #[.pointer a] w fun v w' => v = .slice none 0 0 ∧ w = w' := by
  apply w15
  unfold F15
  refine h.mono ?_
  rintro _ _ ⟨rfl, rfl⟩
  refine ⟨_, rfl, ?_⟩
  rw [if_pos (by simp)]
  exact ⟨rfl, rfl⟩
end
section
variable {w : World} {a : Option Addr} (h : Does Try.prog 27 #[.pointer a] w fun v w' => v = .bool false ∧ w = w')
include h
theorem skipN (wd : Int) : Does Try.prog 22 #[.pointer a, .int .i64 wd] w fun v w' => v = .tuple #[] ∧ w = w' := by
  apply w22
  unfold F22
  refine h.mono ?_
  rintro _ _ ⟨rfl, rfl⟩
  refine ⟨_, rfl, ?_⟩
  rw [if_pos (by simp)]
  exact ⟨rfl, rfl⟩
theorem getN (wd : Int) : Does Try.prog 18 #[.pointer a, .int .i64 wd] w fun v w' => v = .int .u64 0 ∧ w = w' := by
  apply w18
  unfold F18
  refine h.mono ?_
  rintro _ _ ⟨rfl, rfl⟩
  refine ⟨_, rfl, ?_⟩
  rw [if_pos (by simp)]
  exact ⟨rfl, rfl⟩
theorem leftN : Does Try.prog 20 #[.pointer a] w fun v w' => v = .int .i64 0 ∧ w = w' := by
  apply w20
  unfold F20
  refine h.mono ?_
  rintro _ _ ⟨rfl, rfl⟩
  refine ⟨_, rfl, ?_⟩
  rw [if_pos (by simp)]
  exact ⟨rfl, rfl⟩
end

theorem bitsNone_ok (n wd : Int) (w : World) : Does Try.prog 7 #[.int .u64 n, .int .i64 wd] w fun v w' => v = .bool true ∧ Mod [] w w' := by
  apply w7
  unfold F7 New
  have hV := (Blk.new w 53 [.bool false, .slice none 0 0, .int .i64 0]).push 55 [.bool false, .slice none 0 0, .int .i64 0, .bool false]
  have hR := Blk.new (push w 53 [.bool false, .slice none 0 0, .int .i64 0]) 55 [.bool false, .slice none 0 0, .int .i64 0, .bool false]
  have hm : Mod [] w (push (push w 53 [.bool false, .slice none 0 0, .int .i64 0]) 55 [.bool false, .slice none 0 0, .int .i64 0, .bool false]) := (Mod.push w _ _).none (Mod.push _ _ _)
  dsimp only
  rw [fresh_base, fresh_base]
  generalize (push w 53 [.bool false, .slice none 0 0, .int .i64 0]).heap.size = r at *
  generalize push (push w 53 [.bool false, .slice none 0 0, .int .i64 0]) 55 [.bool false, .slice none 0 0, .int .i64 0, .bool false] = w1 at *
  refine (skipN (okR_nil w1) wd).mono ?_
  rintro _ _ ⟨rfl, rfl⟩
  refine ⟨rfl, (skipN (okR_zero hR) wd).mono ?_⟩
  rintro _ _ ⟨rfl, rfl⟩
  refine ⟨rfl, (putN (okW_nil w1) n wd).mono ?_⟩
  rintro _ _ ⟨rfl, rfl⟩
  refine ⟨_, rfl, ?_⟩
  rw [if_neg (by simp)]
  refine (putN (okW_zero hV) n wd).mono ?_
  rintro _ _ ⟨rfl, rfl⟩
  refine ⟨_, rfl, ?_⟩
  rw [if_neg (by simp)]
  refine (lenN (okW_nil w1)).mono ?_
  rintro _ _ ⟨rfl, rfl⟩
  refine ⟨_, rfl, (lenN (okW_zero hV)).mono ?_⟩
  rintro _ _ ⟨rfl, rfl⟩
  refine ⟨_, rfl, (bytesN (okW_nil w1)).mono ?_⟩
  rintro _ _ ⟨rfl, rfl⟩
  refine ⟨_, _, _, rfl, (bytesN (okW_zero hV)).mono ?_⟩
  rintro _ _ ⟨rfl, rfl⟩
  refine ⟨_, _, _, rfl, ?_⟩
  rw [if_neg (by decide)]
  refine (getN (okR_nil w1) wd).mono ?_
  rintro _ _ ⟨rfl, rfl⟩
  refine ⟨_, rfl, ?_⟩
  rw [if_pos (by simp)]
  refine (getN (okR_zero hR) wd).mono ?_
  rintro _ _ ⟨rfl, rfl⟩
  refine ⟨_, rfl, ?_⟩
  rw [if_pos (by simp)]
  refine (leftN (okR_nil w1)).mono ?_
  rintro _ _ ⟨rfl, rfl⟩
  refine ⟨_, rfl, (leftN (okR_zero hR)).mono ?_⟩
  rintro _ _ ⟨rfl, rfl⟩
  refine ⟨_, rfl, ?_⟩
  rw [if_pos (by decide)]
  have f1 : Does Try.prog 21 #[.pointer none] w1 fun v w' => v = .bool false ∧ w1 = w' := by
    apply w21
    unfold F21
    rw [if_neg (by simp)]
    exact ⟨rfl, rfl⟩
  have f2 : Does Try.prog 21 #[.pointer (some (base r))] w1 fun v w' => v = .bool false ∧ w1 = w' := by
    apply w21
    unfold F21
    rw [if_pos (by simp)]
    exact ⟨_, rfl, _, hR.cell (i := 3) rfl, rfl, rfl⟩
  refine f1.mono ?_
  rintro _ _ ⟨rfl, rfl⟩
  refine ⟨_, rfl, ?_⟩
  rw [if_pos (by simp)]
  refine f2.mono ?_
  rintro _ _ ⟨rfl, rfl⟩
  refine ⟨_, rfl, ?_⟩
  rw [if_pos (by simp)]
  refine (lives_ok w1).mono ?_
  rintro _ w' ⟨rfl, hm'⟩
  exact ⟨_, rfl, rfl, hm.none hm'⟩
end Go.Proofs.Ytifhloambieoiaa
