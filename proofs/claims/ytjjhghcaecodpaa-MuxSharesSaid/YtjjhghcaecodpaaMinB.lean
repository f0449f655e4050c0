/-
  slices.MinFunc of a list of indices, with closure 23 of one captured variable.
-/
import Derived.Test.YtjjhghcaecodpaaMux
namespace Go.Proofs.Ytjjhghcaecodpaa
open Go Go.Sh Go.Proofs
set_option linter.unusedVariables false
set_option linter.unusedSimpArgs false
theorem min23_ok {w : World} {a : Option Addr} {A : List Nat} (c : Nat) (q : Option Addr) (lt : Nat → Nat → Bool) (hr : Rd w a (A.map nv)) (hne : A ≠ []) (hl : A.length ≤ 1000)
    (hc : ∀ w', Mod [] w w' → ∀ i ∈ A, ∀ k ∈ A, Does Try.prog 23 #[.int .i64 (i : Int), .int .i64 (k : Int), .pointer q] w' fun v w'' => (∃ n : Int, v = .int .i64 n ∧ (n < 0 ↔ lt i k = true)) ∧ Mod [] w' w'') :
    Does Try.prog 18 #[.slice a A.length c, .func (.func 23) #[] #[.pointer q]] w fun v w' => v = .int .i64 ((minF lt A : Nat) : Int) ∧ Mod [] w w' := by
  have hpos : 0 < A.length := List.length_pos_iff.2 hne
  apply w18c23
  unfold F18c23
  rw [if_neg (by omega)]
  unfold F18c23_j1
  obtain ⟨p, rfl, h0⟩ := rd_get hr hpos
  refine ⟨p, rfl, by omega, by omega, _, h0, ?_⟩
  refine LoopP.of (fun (x : Int × Int) w' => ∃ i : Nat, 1 ≤ i ∧ i ≤ A.length ∧ x = (((minF lt (A.take i) : Nat) : Int), (i : Int)) ∧ Mod [] w w') (fun x _ => A.length - x.2.toNat) ⟨1, by omega, by omega, ?_, Mod.refl _⟩ ?_
  · cases A with
    | nil => simp at hpos
    | cons x A => simp [minF]
  rintro _ w1 ⟨i, h1, hi, rfl, m1⟩
  unfold F18c23_b2
  dsimp only
  refine iteI (fun hlt => ?_) (fun hlt => ?_)
  · have hlt : i < A.length := by omega
    obtain ⟨p', hp', hcl⟩ := rd_get (hr.mod m1 (by simp)) hlt
    cases hp'
    have hne' : A.take i ≠ [] := by
      intro h
      have h2 := congrArg List.length h
      rw [List.length_take] at h2
      simp only [List.length_nil] at h2
      omega
    have htk : A.take (i + 1) = A.take i ++ [A[i]] := List.take_succ_eq_append_getElem hlt
    have hmin : minF lt (A.take (i + 1)) = if lt A[i] (minF lt (A.take i)) = true then A[i] else minF lt (A.take i) := by
      rw [htk]
      exact minF_snoc lt _ _ hne'
    have hmem : minF lt (A.take i) ∈ A := List.mem_of_mem_take (minF_mem lt _ hne')
    refine ⟨by omega, by omega, _, hcl, (hc w1 m1 A[i] (List.getElem_mem hlt) _ hmem).mono ?_⟩
    rintro _ w2 ⟨⟨n, rfl, hn⟩, m2⟩
    refine ⟨_, rfl, ?_⟩
    have e1 : IntKind.i64.wrap ((i : Int) + 1) = ((i + 1 : Nat) : Int) := by rw [wi64 (by omega)]; omega
    rw [e1]
    refine iteI (fun hneg => ?_) (fun hneg => ?_)
    · obtain ⟨p2, hp2, hc2⟩ := rd_get (hr.mod (m1.none m2) (by simp)) hlt
      cases hp2
      refine ⟨by omega, by omega, _, hc2, ?_⟩
      · refine ⟨_, by omega, ⟨i + 1, by omega, by omega, ?_, m1.none m2⟩, rfl⟩
        rw [hmin, if_pos (hn.1 hneg)]
    · refine ⟨_, by omega, ⟨i + 1, by omega, by omega, ?_, m1.none m2⟩, rfl⟩
      rw [hmin, if_neg (fun h => hneg (hn.2 h))]
  · have : i = A.length := by omega
    subst this
    rw [List.take_length]
    exact ⟨rfl, m1⟩
end Go.Proofs.Ytjjhghcaecodpaa
