/-
  The law ModeClones, as a contract.
-/
import Derived.Test.YtfnlhonngacagaaLaws4
namespace Go.Proofs.Ytfnlhonngacagaa
open Go Go.Sh Go.Proofs
set_option linter.unusedVariables false

/-- Two pairs, apart but for the list that the two references may share. -/
structure Four (w0 w : World) (g gx gc gy : Nat) (S T C Y : List Nat) (s t : Ms) : Prop where
  p : Two w0 w g gx S T s
  q : Two w0 w gc gy C Y t
  SC : Apart S C
  SY : Apart S Y
  CT : Apart C T
  xY : gx ∉ Y
  yT : gy ∉ T
section
variable {w0 w : World} {g gx gc gy : Nat} {S T C Y : List Nat} {s t : Ms}
theorem Four.swap (I : Four w0 w g gx gc gy S T C Y s t) : Four w0 w gc gy g gx C Y S T t s := ⟨I.q, I.p, I.SC.symm, I.CT, I.SY, I.yT, I.xY⟩
theorem Four.step (I : Four w0 w g gx gc gy S T C Y s t) (f : Bool × Int × Int) :
    Does Try.prog 11 #[.pointer (some (base g)), .pointer (some (base gx)), .agg #[.bool f.1, .int .i64 f.2.1, .int .i64 f.2.2]] w fun v w' => v = .bool true ∧ ∃ S' T', Four w0 w' g gx gc gy S' T' C Y (s.step f) t := by
  have hxT : gx ∈ T := by obtain ⟨_, _, e, _⟩ := I.p.r; rw [e]; simp
  have hyY : gy ∈ Y := by obtain ⟨_, _, e, _⟩ := I.q.r; rw [e]; simp
  have hylt := I.q.r.lt gy hyY
  refine (step_ok I.p.h I.p.r I.p.G I.p.ap f).mono ?_
  rintro _ w' ⟨rfl, S', T', h', r', a', m', f1, f2⟩
  have M' : Mod [] w0 w' := I.p.m.trans m' (fun x hx => .inr (by
    rcases List.mem_cons.1 hx with rfl | hx
    · exact I.p.sT _ hxT
    · exact I.p.sS x hx))
  have hC : ∀ x ∈ C, x ∉ gx :: S := fun x hx hx' => by
    rcases List.mem_cons.1 hx' with rfl | hx'
    · exact I.CT _ hx hxT
    · exact I.SC x hx' hx
  have hY : ∀ x ∈ Y, x ∉ gx :: S := fun x hx hx' => by
    rcases List.mem_cons.1 hx' with rfl | hx'
    · exact I.xY hx
    · exact I.SY x hx' hx
  refine ⟨rfl, S', T', ⟨h', r', Ms.step_good I.p.G f, a', I.p.sS.step I.p.m.size f1, I.p.sT.step I.p.m.size f2, M'⟩, ⟨I.q.h.mod m' hC, I.q.r.mod m' hY, I.q.G, I.q.ap, I.q.sS, I.q.sT, M'⟩, I.SC.step I.q.h.lt f1, I.SY.step I.q.r.lt f1, (I.CT.symm.step I.q.h.lt f2).symm, I.xY, fun hy => ?_⟩
  rcases f2 gy hy with h | h
  · exact I.yT h
  · omega
end

section
variable {w : World} {a : Option Addr} (h : Does Try.prog 24 #[.pointer a] w fun v w' => v = .bool false ∧ w = w')
include h
theorem reqN (x y : Int) : Does Try.prog 16 #[.pointer a, .int .i64 x, .int .i64 y] w fun v w' => v = .int .i64 2 ∧ w = w' := by
  apply w16
  unfold F16
  refine h.mono ?_
  rintro _ _ ⟨rfl, rfl⟩
  refine ⟨_, rfl, ?_⟩
  rw [if_pos (by simp)]
  exact ⟨rfl, rfl⟩
theorem safeN (x : Int) : Does Try.prog 15 #[.pointer a, .int .i64 x] w fun v w' => v = .int .i64 2 ∧ w = w' := by
  apply w15
  unfold F15
  refine h.mono ?_
  rintro _ _ ⟨rfl, rfl⟩
  refine ⟨_, rfl, ?_⟩
  rw [if_pos (by simp)]
  exact ⟨rfl, rfl⟩
theorem modeN : Does Try.prog 17 #[.pointer a] w fun v w' => v = .int .i64 0 ∧ w = w' := by
  apply w17
  unfold F17
  refine h.mono ?_
  rintro _ _ ⟨rfl, rfl⟩
  refine ⟨_, rfl, ?_⟩
  rw [if_pos (by simp)]
  exact ⟨rfl, rfl⟩
theorem changesN : Does Try.prog 18 #[.pointer a] w fun v w' => v = .slice none 0 0 ∧ w = w' := by
  apply w18
  unfold F18
  refine h.mono ?_
  rintro _ _ ⟨rfl, rfl⟩
  refine ⟨_, rfl, ?_⟩
  rw [if_pos (by simp)]
  exact ⟨rfl, rfl⟩
theorem cloneN : Does Try.prog 19 #[.pointer a] w fun v w' => v = .pointer none ∧ w = w' := by
  apply w19
  unfold F19
  refine h.mono ?_
  rintro _ _ ⟨rfl, rfl⟩
  refine ⟨_, rfl, ?_⟩
  rw [if_pos (by simp)]
  exact ⟨rfl, rfl⟩
end
end Go.Proofs.Ytfnlhonngacagaa
