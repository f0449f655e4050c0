/-
  The examples of chapter 45, and the laws ModeCan, ModePermits, ModeChain, as contracts.
-/
import Derived.Test.YtfnlhonngacagaaWalks2
import Derived.Test.YtfnlhonngacagaaFormsB
namespace Go.Proofs.Ytfnlhonngacagaa
open Go Go.Sh Go.Proofs
set_option linter.unusedVariables false

theorem eq46a : ∀ w d, (Op.equalIn (d + 5) 46 (.agg #[.int .i64 5, .int .i64 0, .int .i64 1]) (.agg #[.int .i64 5, .int .i64 0, .int .i64 1])).run Try.prog w = .ok true w := fun w d => rfl
theorem eq46b : ∀ w d, (Op.equalIn (d + 5) 46 (.agg #[.int .i64 9, .int .i64 3, .int .i64 4]) (.agg #[.int .i64 9, .int .i64 3, .int .i64 4])).run Try.prog w = .ok true w := fun w d => rfl

theorem cells3 {w : World} {a : Addr} {c : Ch} (h : ∀ j v, (cv c)[j]? = some v → w.cell? (a.add j) = some v) : Cells w a 0 [.int .i64 c.1, .int .i64 c.2.1, .int .i64 c.2.2] :=
  ⟨h 0 _ rfl, h 1 _ rfl, h 2 _ rfl, trivial⟩

theorem lives_ok (w : World) : Does Try.prog 10 #[] w fun v w' => v = .bool true ∧ Mod [] w w' := by
  apply w10
  unfold F10
  refine (new_ok w).mono ?_
  rintro _ w1 ⟨rfl, h1, M1⟩
  have hs1 := M1.size
  have s1 : Since w [w.heap.size] := by intro q hq; simp at hq; omega
  have G1 : (⟨0, 0, []⟩ : Ms).good := by simp [Ms.good]
  refine ⟨_, rfl, ?_⟩
  rw [if_neg (by simp)]
  refine (mode_ok h1).mono ?_
  rintro _ _ ⟨rfl, rfl⟩
  refine ⟨_, rfl, ?_⟩
  refine (request_ok h1 G1 1 5).mono ?_
  rintro _ w2 ⟨rfl, S2, h2, m2, f2⟩
  have G2 := Ms.req_good G1 1 5
  have M2 := M1.since m2 s1
  have s2 := s1.step M1.size f2
  refine ⟨_, rfl, ?_⟩
  refine (safe_ok h2 G2 5).mono ?_
  rintro _ w3 ⟨rfl, S3, h3, m3, f3⟩
  have G3 := Ms.safe_good G2 5
  have M3 := M2.since m3 s2
  have s3 := s2.step M2.size f3
  refine ⟨_, rfl, ?_⟩
  refine (request_ok h3 G3 4 6).mono ?_
  rintro _ w4 ⟨rfl, S4, h4, m4, f4⟩
  have G4 := Ms.req_good G3 4 6
  have M4 := M3.since m4 s3
  have s4 := s3.step M3.size f4
  refine ⟨_, rfl, ?_⟩
  refine (request_ok h4 G4 2 7).mono ?_
  rintro _ w5 ⟨rfl, S5, h5, m5, f5⟩
  have G5 := Ms.req_good G4 2 7
  have M5 := M4.since m5 s4
  have s5 := s4.step M4.size f5
  refine ⟨_, rfl, ?_⟩
  refine (request_ok h5 G5 3 8).mono ?_
  rintro _ w6 ⟨rfl, S6, h6, m6, f6⟩
  have G6 := Ms.req_good G5 3 8
  have M6 := M5.since m6 s5
  have s6 := s5.step M5.size f6
  refine ⟨_, rfl, ?_⟩
  refine (request_ok h6 G6 4 9).mono ?_
  rintro _ w7 ⟨rfl, S7, h7, m7, f7⟩
  have G7 := Ms.req_good G6 4 9
  have M7 := M6.since m7 s6
  have s7 := s6.step M6.size f7
  refine ⟨_, rfl, ?_⟩
  have e : (((((((⟨0, 0, []⟩ : Ms).req 1 5).2.safe 5).req 4 6).2.req 2 7).2.req 3 8).2.req 4 9).2 = ⟨4, 9, [(5, 0, 1), (7, 1, 2), (8, 2, 3), (9, 3, 4)]⟩ := by decide +kernel
  rw [e] at h7 G7
  refine (changes_ok h7 G7).mono ?_
  rintro _ w8 ⟨a8, c8, rfl, o8, m8, _⟩
  have h8 := h7.mod m8 (by simp)
  refine ⟨_, _, _, rfl, ?_⟩
  rw [if_pos (by decide +kernel), if_pos (by decide +kernel), if_pos (by decide +kernel), if_pos (by decide +kernel), if_pos (by decide +kernel), if_pos (by decide +kernel), if_pos (by decide +kernel)]
  refine (mode_ok h8).mono ?_
  rintro _ _ ⟨rfl, rfl⟩
  refine ⟨_, rfl, ?_⟩
  rw [if_pos (by decide +kernel), if_pos (by decide +kernel)]
  obtain ⟨p, rfl, hc0⟩ := o8.rd.flat (cv_len _) (by decide) (i := 0) (by simp)
  obtain ⟨p', hp', hc3⟩ := o8.rd.flat (cv_len _) (by decide) (i := 3) (by simp)
  cases hp'
  refine ⟨p, rfl, by decide, by decide, _, _, _, cells3 hc0, true, eq46a, ?_⟩
  rw [if_pos rfl]
  refine ⟨by decide, by decide, _, _, _, cells3 hc3, true, eq46b, ?_⟩
  rw [if_pos rfl]
  refine (request_ok h8 G7 5 0).mono ?_
  rintro _ w9 ⟨rfl, S9, h9, m9, f9⟩
  exact ⟨_, rfl, congrArg Value.bool (by decide +kernel), (M7.none m8).since m9 s7⟩

theorem modeCan_ok (f t : Int) (w : World) : Does Try.prog 5 #[.int .i64 f, .int .i64 t] w fun v w' => v = .bool true ∧ Mod [] w w' := by
  apply w5
  unfold F5
  refine (can_ok f t w).mono ?_
  rintro _ w1 ⟨rfl, m1⟩
  refine ⟨_, rfl, ?_⟩
  refine (refCan_ok f t w1).mono ?_
  rintro _ _ ⟨rfl, rfl⟩
  refine ⟨_, rfl, ?_⟩
  rw [if_pos (by simp)]
  refine (lives_ok w1).mono ?_
  rintro _ w' ⟨rfl, hm'⟩
  exact ⟨_, rfl, rfl, m1.none hm'⟩
end Go.Proofs.Ytfnlhonngacagaa
