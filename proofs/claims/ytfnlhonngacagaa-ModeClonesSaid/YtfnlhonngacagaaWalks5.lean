/-
  The contracts of chapter 45: step, agrees, Clone.
-/
import Derived.Test.YtfnlhonngacagaaWalks4
import Derived.Test.YtfnlhonngacagaaFormsB
namespace Go.Proofs.Ytfnlhonngacagaa
open Go Go.Sh Go.Proofs
set_option linter.unusedVariables false

theorem req_step (s : Ms) (f : Bool × Int × Int) : s.step f = if f.1 = true then s.safe f.2.2 else (s.req f.2.1 f.2.2).2 := rfl
/-- A call on both. -/
theorem step_ok {w : World} {g gx : Nat} {S T : List Nat} {s : Ms} (h : Mg w g S s) (r : Rm w gx T s) (hg : s.good) (ap : Apart S T) (f : Bool × Int × Int) :
    Does Try.prog 11 #[.pointer (some (base g)), .pointer (some (base gx)), .agg #[.bool f.1, .int .i64 f.2.1, .int .i64 f.2.2]] w fun v w' => v = .bool true ∧
      ∃ S' T', Mg w' g S' (s.step f) ∧ Rm w' gx T' (s.step f) ∧ Apart S' T' ∧ Mod (gx :: S) w w' ∧ (∀ y ∈ S', y ∈ S ∨ w.heap.size ≤ y) ∧ (∀ y ∈ T', y ∈ T ∨ w.heap.size ≤ y) := by
  have hxT : gx ∈ T := by obtain ⟨_, _, rfl, _⟩ := r; simp
  have hxS : gx ∉ S := fun hx => ap _ hx hxT
  apply w11
  unfold F11 New
  have hB := Blk.new w 32 [.bool f.1, .int .i64 f.2.1, .int .i64 f.2.2]
  have m1 := Mod.push (S := []) w 32 [.bool f.1, .int .i64 f.2.1, .int .i64 f.2.2]
  have z1 := size_push w 32 [.bool f.1, .int .i64 f.2.1, .int .i64 f.2.2]
  have hSlt := h.lt
  have hTlt := r.lt
  rw [fresh_base]
  dsimp only
  generalize push w 32 [.bool f.1, .int .i64 f.2.1, .int .i64 f.2.2] = w1 at *
  have h1 := h.mod m1 (by simp)
  have r1 := r.mod m1 (by simp)
  refine ⟨f.1, hB.cell0, ?_⟩
  unfold Ms.step
  by_cases hb : f.1 = true
  · rw [if_pos hb, if_pos hb]
    refine ⟨_, hB.cell (i := 2) rfl, ?_⟩
    refine (refSafe_ok r1 hg f.2.2).mono ?_
    rintro _ w2 ⟨rfl, T2, r2, m2, f2⟩
    have h2 := h1.mod m2 (fun x hx hx' => by simp at hx'; subst hx'; exact hxS hx)
    have hB2 := hB.mod m2 (fun hx => by simp at hx; have := hTlt gx hxT; omega)
    have z2 := m2.size
    have a2 : Apart S T2 := fun y hy hy' => by
      rcases f2 y hy' with h | h
      · exact ap y hy h
      · have := hSlt y hy; omega
    refine ⟨rfl, _, hB2.cell (i := 2) rfl, ?_⟩
    refine (safe_ok h2 hg f.2.2).mono ?_
    rintro _ w3 ⟨rfl, S3, h3, m3, f3⟩
    have a3 := a2.step r2.lt f3
    refine ⟨_, rfl, by simp, S3, T2, h3, r2.mod m3 a2.symm, a3, ?_, ?_, ?_⟩
    · exact ((m1.weaken (by simp)).trans m2 (fun x hx => .inl (by simp at hx; simp [hx]))).trans m3 (fun x hx => .inl (by simp [hx]))
    · intro y hy
      rcases f3 y hy with h | h
      · exact .inl h
      · right; omega
    · intro y hy
      rcases f2 y hy with h | h
      · exact .inl h
      · right; omega
  · rw [if_neg hb, if_neg hb]
    have md := Mod.drew (S := []) w1
    have hBd := hB.drew
    refine ⟨_, hBd.cell (i := 1) rfl, _, hBd.cell (i := 2) rfl, _, hBd.cell (i := 1) rfl, _, hBd.cell (i := 2) rfl, ?_⟩
    have h1d := h1.mod md (by simp)
    have r1d := r1.mod md (by simp)
    refine (request_ok h1d hg f.2.1 f.2.2).mono ?_
    rintro _ w2 ⟨rfl, S2, h2, m2, f2⟩
    have z2 := m2.size
    have hzd : w1.drew.heap.size = w1.heap.size := rfl
    have hB2 := hBd.mod m2 (fun hx => by have := hSlt _ hx; omega)
    have r2 := r1d.mod m2 ap.symm
    have a2 := ap.step r1d.lt f2
    refine ⟨_, rfl, hB2.cell (i := 1) rfl, hB2.cell (i := 2) rfl, ?_⟩
    refine (refRequest_ok r2 hg f.2.1 f.2.2).mono ?_
    rintro _ w3 ⟨rfl, T3, r3, m3, f3⟩
    have hxS2 : gx ∉ S2 := fun hx => a2 _ hx hxT
    have h3 := h2.mod m3 (fun x hx hx' => by simp at hx'; subst hx'; exact hxS2 hx)
    have hS2lt := h2.lt
    refine ⟨_, rfl, by simp, S2, T3, h3, r3, ?_, ?_, ?_, ?_⟩
    · intro y hy hy'
      rcases f3 y hy' with h | h
      · exact a2 y hy h
      · have := hS2lt y hy; omega
    · exact (((m1.none md).weaken (by simp)).trans m2 (fun x hx => .inl (by simp [hx]))).trans m3 (fun x hx => .inl (by simp at hx; simp [hx]))
    · intro y hy
      rcases f2 y hy with h | h
      · exact .inl h
      · right; omega
    · intro y hy
      rcases f3 y hy with h | h
      · exact .inl h
      · right; omega
end Go.Proofs.Ytfnlhonngacagaa
