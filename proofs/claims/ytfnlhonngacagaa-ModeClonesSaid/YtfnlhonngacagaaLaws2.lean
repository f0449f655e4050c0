/-
  The laws ModePermits and ModeChain, as contracts.
-/
import Derived.Test.YtfnlhonngacagaaLaws
namespace Go.Proofs.Ytfnlhonngacagaa
open Go Go.Sh Go.Proofs
set_option linter.unusedVariables false

/-- A Step's cells. -/
def sv (f : Bool × Int × Int) : List Value := [.bool f.1, .int .i64 f.2.1, .int .i64 f.2.2]
theorem sv_len (L : List (Bool × Int × Int)) : ∀ x ∈ L, (sv x).length = 3 := fun _ _ => rfl
def Ms.step (s : Ms) (f : Bool × Int × Int) : Ms := if f.1 = true then s.safe f.2.2 else (s.req f.2.1 f.2.2).2
theorem Ms.step_good {s : Ms} (h : s.good) (f : Bool × Int × Int) : (s.step f).good := by
  unfold Ms.step
  split
  · exact Ms.safe_good h _
  · exact Ms.req_good h _ _

theorem pass_mode (s : Ms) (now : Int) : (s.pass now).mode = s.mode := by unfold Ms.pass; split <;> rfl
theorem safe_mode (s : Ms) (now : Int) : (s.safe now).mode = 1 := by
  unfold Ms.safe
  split
  · assumption
  · rfl

/-! ### ModePermits -/
theorem modePermits_ok (a : Option Addr) (fs : List (Bool × Int × Int)) (c t : Nat) (w : World) (ht : t < 256) (hr : Rd w a (fs.flatMap sv)) :
    Does Try.prog 6 #[.slice a fs.length c, .int .u8 (t : Int)] w fun v w' => v = .bool true ∧ Mod [] w w' := by
  apply w6
  unfold F6
  refine (new_ok w).mono ?_
  rintro _ w1 ⟨rfl, h1, M1⟩
  have hs1 := M1.size
  refine ⟨_, rfl, ?_⟩
  unfold F6_j1
  by_cases hf : 60 < fs.length
  · rw [if_pos (by omega), if_pos rfl, if_pos (by simp)]
    refine (lives_ok w1).mono ?_
    rintro _ w' ⟨rfl, hm'⟩
    exact ⟨_, rfl, rfl, M1.none hm'⟩
  rw [if_neg (by omega), if_neg (by simp)]
  refine LoopP.of (fun (x : Int) w' => ∃ (i : Nat) (S : List Nat) (s : Ms), i ≤ fs.length ∧ x = (i : Int) ∧ Mg w' w.heap.size S s ∧ s.good ∧ Since w S ∧ Mod [] w w') (fun x _ => fs.length - x.toNat)
    ⟨0, _, _, by omega, rfl, h1, by simp [Ms.good], by intro x hx; simp at hx; omega, M1⟩ ?_
  rintro _ w2 ⟨i, S, s, hi, rfl, h2, G2, s2, M2⟩
  unfold F6_b2
  by_cases hlt : i < fs.length
  · rw [if_pos (by omega)]
    have e1 : IntKind.i64.wrap ((i : Int) + 1) = ((i + 1 : Nat) : Int) := by rw [wi64 (by omega)]; omega
    rw [e1]
    obtain ⟨p, rfl, hc⟩ := (hr.mod M2 (by simp)).flat (sv_len fs) (by decide) hlt
    refine ⟨p, rfl, by omega, by omega, fs[i].1, by simpa [add_zero] using hc 0 _ rfl, ?_⟩
    by_cases hb : fs[i].1 = true
    · rw [if_pos hb]
      refine ⟨by omega, by omega, _, hc 2 _ rfl, ?_⟩
      refine (safe_ok h2 G2 fs[i].2.2).mono ?_
      rintro _ w3 ⟨rfl, S3, h3, m3, f3⟩
      exact ⟨_, rfl, _, by omega, ⟨i + 1, S3, _, by omega, rfl, h3, Ms.safe_good G2 _, s2.step M2.size f3, M2.since m3 s2⟩, rfl⟩
    · rw [if_neg hb]
      obtain ⟨p1, hp1, hc1⟩ := ((hr.mod M2 (by simp)).drew).flat (sv_len fs) (by decide) hlt
      cases hp1
      refine ⟨by omega, by omega, _, hc1 1 _ rfl, by omega, by omega, _, hc1 2 _ rfl, ?_⟩
      have md := Mod.drew (S := []) w2
      refine (request_ok (h2.mod md (by simp)) G2 fs[i].2.1 fs[i].2.2).mono ?_
      rintro _ w3 ⟨rfl, S3, h3, m3, f3⟩
      exact ⟨_, rfl, _, by omega, ⟨i + 1, S3, _, by omega, rfl, h3, Ms.req_good G2 _ _, s2.step (M2.none md).size f3, (M2.none md).since m3 s2⟩, rfl⟩
  · rw [if_neg (by omega)]
    refine (safe_ok h2 G2 0).mono ?_
    rintro _ w3 ⟨rfl, S3, h3, m3, f3⟩
    have M3 := M2.since m3 s2
    have s3 := s2.step M2.size f3
    have G3 := Ms.safe_good G2 0
    have md3 := safe_mode s 0
    refine ⟨_, rfl, ?_⟩
    rw [if_neg (by simp)]
    refine (mode_ok h3).mono ?_
    rintro _ _ ⟨rfl, rfl⟩
    refine ⟨_, rfl, ?_⟩
    rw [md3, if_neg (by simp)]
    have ew : IntKind.i64.wrap (1 + IntKind.i64.wrap (Int.tmod (t : Int) 4)) = ((1 + t % 4 : Nat) : Int) := by
      rw [Int.tmod_eq_emod_of_nonneg (by omega), wi64 (n := (t : Int) % 4) (by omega), wi64 (by omega)]; omega
    generalize s.safe 0 = s' at *
    refine LoopP.of (fun (x : Int) w' => ∃ (k : Nat) (S : List Nat) (s : Ms), 2 ≤ k ∧ k ≤ 2 + t % 4 ∧ x = (k : Int) ∧ Mg w' w.heap.size S s ∧ s.good ∧ s.mode = (k : Int) - 1 ∧ Since w S ∧ Mod [] w w') (fun x _ => 2 + t % 4 - x.toNat)
      ⟨2, _, _, by omega, by omega, rfl, h3, G3, by rw [md3]; rfl, s3, M3⟩ ?_
    rintro _ w4 ⟨k, S4, s4, hk2, hk, rfl, h4, G4, md4, n4, M4⟩
    unfold F6_b3
    rw [ew]
    by_cases hlt : k < 2 + t % 4
    · rw [if_pos (by omega)]
      refine (request_ok h4 G4 k 0).mono ?_
      rintro _ w5 ⟨rfl, S5, h5, m5, f5⟩
      have hreq : s4.req k 0 = (0, (s4.pass 0).change k) := by
        unfold Ms.req
        have h1 : isM (k : Int) = true := by unfold isM; rw [decide_eq_true (by omega)]
        have h2 : can (s4.pass 0).mode (k : Int) = true := by
          rw [pass_mode, md4]
          have : k = 2 ∨ k = 3 ∨ k = 4 := by omega
          rcases this with rfl | rfl | rfl <;> decide
        rw [h1, h2, if_neg (by simp), if_neg (by simp)]
      have G5 := Ms.req_good G4 k 0
      rw [hreq] at h5 G5 ⊢
      refine ⟨_, rfl, ?_⟩
      have e1 : IntKind.i64.wrap ((k : Int) + 1) = ((k + 1 : Nat) : Int) := by rw [wi64 (by omega)]; omega
      rw [if_neg (by simp), e1]
      exact ⟨_, by omega, ⟨k + 1, S5, _, by omega, by omega, rfl, h5, G5, by show (k : Int) = _; omega, n4.step M4.size f5, M4.since m5 n4⟩, rfl⟩
    · have : k = 2 + t % 4 := by omega
      subst this
      rw [if_neg (by omega)]
      refine (mode_ok h4).mono ?_
      rintro _ _ ⟨rfl, rfl⟩
      refine ⟨_, rfl, ?_⟩
      rw [if_pos (by rw [md4]; omega)]
      refine (request_ok h4 G4 0 0).mono ?_
      rintro _ w5 ⟨rfl, S5, h5, m5, f5⟩
      have hreq : (s4.req 0 0).1 = 11 := by
        unfold Ms.req
        have h2 : can (s4.pass 0).mode 0 = false := by
          rw [pass_mode, md4]
          have : t % 4 = 0 ∨ t % 4 = 1 ∨ t % 4 = 2 ∨ t % 4 = 3 := by omega
          rcases this with h | h | h | h <;> rw [h] <;> decide
        rw [h2, if_neg (by decide), if_pos rfl]
      refine ⟨_, rfl, ?_⟩
      rw [if_pos hreq]
      refine (lives_ok w5).mono ?_
      rintro _ w' ⟨rfl, hm'⟩
      exact ⟨_, rfl, rfl, (M4.since m5 n4).none hm'⟩
end Go.Proofs.Ytfnlhonngacagaa
