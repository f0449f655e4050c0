/-
  The contracts of chapter 9: the reference's history, agrees, the examples.
-/
import Derived.Test.YthgmcidaphbibaaWalks2
namespace Go.Proofs.Ythgmcidaphbibaa
open Go Go.Sh Go.Proofs
set_option linter.unusedVariables false

theorem fpv_sub {a : Option Addr} {vs : List Value} : ∀ x ∈ fpv a vs, x ∈ fp a := by
  cases vs with
  | nil => intro x hx; cases hx
  | cons v vs => intro x hx; exact hx

section
variable {w : World} {g : Nat} {S : List Nat} {s : Hs} (h : Rh w g S s) (hg : s.good)
include h hg
theorem refHas_ok (x : Int) : Does Try.prog 11 #[.pointer (some (base g)), .int .i64 x] w fun v w' => v = .bool (decide (x ∈ s.l)) ∧ w = w' := by
  obtain ⟨a, c, rfl, hn, hc, hb, hr⟩ := h
  have hg1 := hg.1
  have hg2 := hg.2
  apply w11
  unfold F11
  refine LoopP.of (fun (t : Int) w' => ∃ i : Nat, i ≤ s.l.length ∧ t = (i : Int) ∧ w = w' ∧ ∀ j, (h : j < s.l.length) → j < i → s.l[j] ≠ x) (fun t _ => s.l.length - t.toNat) ⟨0, by omega, rfl, rfl, fun j h hj => by omega⟩ ?_
  rintro _ _ ⟨i, hi, rfl, rfl, hnn⟩
  unfold F11_b1
  refine ⟨_, rfl, _, _, _, hb.cell (i := 2) rfl, ?_⟩
  by_cases hlt : i < s.l.length
  · rw [if_pos (by omega)]
    obtain ⟨p, rfl, hc⟩ := rd_at hr hlt
    refine ⟨_, _, _, hb.cell (i := 2) rfl, p, rfl, by omega, by omega, _, by rw [Int.toNat_natCast]; exact hc, ?_⟩
    by_cases he : s.l[i] = x
    · rw [if_pos he]
      refine ⟨?_, rfl⟩
      rw [decide_eq_true (by rw [← he]; exact List.getElem_mem hlt)]
    · rw [if_neg he, wi64 (by omega)]
      refine ⟨_, by omega, ⟨i + 1, by omega, rfl, rfl, fun j h hj => ?_⟩, rfl⟩
      by_cases hji : j = i
      · subst hji; exact he
      · exact hnn j h (by omega)
  · rw [if_neg (by omega)]
    refine ⟨?_, rfl⟩
    rw [decide_eq_false]
    intro hx
    obtain ⟨j, hj, e⟩ := List.getElem_of_mem hx
    exact hnn j hj (by omega) e
theorem refAdd_ok (x : Int) : Does Try.prog 13 #[.pointer (some (base g)), .int .i64 x] w fun v w' => v = .tuple #[.int .i64 (s.got x), .bool s.full] ∧ ∃ S', Rh w' g S' (s.add x) ∧ Mod [g] w w' ∧ ∀ y ∈ S', y = g ∨ w.heap.size ≤ y := by
  obtain ⟨a, c, rfl, hn, hc, hb, hr⟩ := h
  have hg1 := hg.1
  have hg2 := hg.2
  have hglt := hb.lt
  apply w13
  unfold F13
  refine ⟨_, rfl, _, _, _, hb.cell (i := 2) rfl, ?_⟩
  refine (copy_ok a s.l c w (by omega) hr).mono ?_
  rintro _ w1 ⟨a1, c1, rfl, ho1, hm1, hf1⟩
  refine ⟨_, _, _, rfl, ?_⟩
  unfold New
  have hm2 := Mod.push (S := []) w1 3 [.int .i64 x]
  obtain ⟨a2, c2, w2, hrun, ho2, hmod2, hfp2⟩ := append_own (d := 1) Try.underlying25 elem3 25 (ho1.mod hm2 (by simp)) (Rd.blk (Blk.new w1 3 [.int .i64 x])) (m := 1) rfl (by simp [one]) (by omega) (by omega)
  refine ⟨_, _, _, _, hrun, ?_⟩
  have hm12 : Mod [] w w2 := (hm1.none hm2).trans hmod2 (fun y hy => .inr (hf1 y hy))
  have hsz1 := hm1.size
  have hf2 : ∀ y ∈ fp a2, w.heap.size ≤ y := by
    rcases hfp2 with h | h <;> rw [h]
    · exact hf1
    · simp [size_push]; omega
  have hb2 := hb.mod hm12 (by simp)
  have hne2 := ho2.ne hb2 (by decide)
  refine ⟨hb2.can (i := 2) (by simp), ?_⟩
  have hm3 : Mod [g] w2 (w2.setCell ((base g).add 2) (.slice a2 (s.l.length + 1) c2)) := Mod.setCell _ _ _ (by rw [add_block]; simp [base])
  have hb3 := hb2.set 2 (.slice a2 (s.l.length + 1) c2)
  have ho3 : Own (w2.setCell ((base g).add 2) (.slice a2 (s.l.length + 1) c2)) 3 1 a2 (s.l ++ [x]).length c2 ((s.l ++ [x]).map iv) := by
    have := ho2.mod hm3 (fun x hx hx' => by simp at hx'; subst hx'; exact hne2 hx)
    simpa [iv] using this
  have hm13 : Mod [g] w (w2.setCell ((base g).add 2) (.slice a2 (s.l.length + 1) c2)).drew := ((hm12.weaken (by simp)).same hm3).none (Mod.drew _)
  have hb3 := hb3.drew
  have ho3 := ho3.drew
  have hsz3 := hm13.size
  simp only [List.set_cons_succ, List.set_cons_zero] at hb3
  dsimp only
  generalize (w2.setCell ((base g).add 2) (.slice a2 (s.l.length + 1) c2)).drew = w3 at *
  have hlen : (s.l ++ [x]).length = s.l.length + 1 := by simp
  refine ⟨_, _, _, hb3.cell (i := 2) rfl, _, hb3.cell0, ?_⟩
  by_cases hlt : s.l.length < s.most
  · rw [if_pos (by omega)]
    have e1 : s.got x = 0 := by unfold Hs.got; rw [if_pos hlt]
    have e2 : s.full = false := by unfold Hs.full; rw [decide_eq_true hlt]; rfl
    have e3 : s.add x = ⟨s.most, s.lost, s.l ++ [x]⟩ := by unfold Hs.add; rw [if_pos hlt]
    rw [e1, e2, e3]
    refine ⟨rfl, _, ⟨a2, c2, rfl, fun hx => ?_, by have := ho3.le; exact this, by simpa using hb3, ho3.rd⟩, hm13, ?_⟩
    · have := hf2 g (fpv_sub _ hx); omega
    · intro y hy
      rcases List.mem_cons.1 hy with rfl | hy
      · left; rfl
      · right; exact hf2 y (fpv_sub _ hy)
  · rw [if_neg (by omega)]
    obtain ⟨q, rfl, hc3⟩ := rd_at ho3.rd (show 0 < (s.l ++ [x]).length by simp)
    have e1 : s.got x = (s.l ++ [x])[0]'(by simp) := by
      unfold Hs.got
      rw [if_neg hlt]
      cases h : s.l <;> simp
    have e2 : s.full = true := by unfold Hs.full; rw [decide_eq_false hlt]; rfl
    have e3 : s.add x = ⟨s.most, IntKind.i64.wrap (s.lost + 1), (s.l ++ [x]).drop 1⟩ := by unfold Hs.add; rw [if_neg hlt]
    have hle3 := ho3.le
    refine ⟨_, _, _, hb3.cell (i := 2) rfl, q, rfl, by omega, by omega, _, hc3, _, _, _, hb3.cell (i := 2) rfl, by omega, by omega, ?_⟩
    have hcut : Rd w3 (cutA (some q) c2 1 1) (((s.l ++ [x]).drop 1).map iv) := by
      have := ho3.rd.cut (c := c2) (l := 1) (z := 1) (by simp; omega)
      rwa [List.map_drop]
    have hdl : ((s.l ++ [x]).drop 1).length = s.l.length := by simp
    have hcp := copy_ok (cutA (some q) c2 1 1) ((s.l ++ [x]).drop 1) (c2 - 1) w3 (by omega) hcut
    rw [hdl] at hcp
    rw [show (1 : Int).toNat = 1 from rfl, Nat.add_sub_cancel]
    refine hcp.mono ?_
    rintro _ w4 ⟨a4, c4, rfl, ho4, hm4, hf4⟩
    refine ⟨_, _, _, rfl, ?_⟩
    have hb4 := hb3.mod hm4 (by simp)
    have hne4 := ho4.ne hb4 (by decide)
    refine ⟨hb4.can (i := 2) (by simp), ?_⟩
    have hm5 : Mod [g] w4 (w4.setCell ((base g).add 2) (.slice a4 s.l.length c4)) := Mod.setCell _ _ _ (by rw [add_block]; simp [base])
    have hb5 := hb4.set 2 (.slice a4 s.l.length c4)
    refine ⟨_, hb5.cell (i := 1) rfl, hb5.can (i := 1) (by simp), ?_⟩
    rw [e1, e2, e3]
    have hm6 : Mod [g] (w4.setCell ((base g).add 2) (.slice a4 s.l.length c4)) ((w4.setCell ((base g).add 2) (.slice a4 s.l.length c4)).setCell ((base g).add 1) (.int .i64 (IntKind.i64.wrap (s.lost + 1)))) := Mod.setCell _ _ _ (by rw [add_block]; simp [base])
    have hb6 := hb5.set 1 (.int .i64 (IntKind.i64.wrap (s.lost + 1)))
    have ho6 := ho4.mod (hm5.same hm6) (fun x hx hx' => by simp at hx'; subst hx'; exact hne4 hx)
    refine ⟨rfl, g :: fpv a4 (((s.l ++ [x]).drop 1).map iv), ⟨a4, c4, rfl, fun hx => ?_, by simp only [hdl]; exact ho4.le, ?_, ho6.rd⟩, (hm13.none hm4).same (hm5.same hm6), ?_⟩
    · have := hf4 g (fpv_sub _ hx); omega
    · simp only [hdl]; exact hb6
    · intro y hy
      rcases List.mem_cons.1 hy with rfl | hy
      · left; rfl
      · right; have := hf4 y (fpv_sub _ hy); omega
end

theorem agrees_ok {w : World} {g : Nat} {S : List Nat} {s : Hs} (h : Hi w g S s) (hg : s.good) {a : Option Addr} {c : Nat} (hr : Rd w a (s.l.map iv)) :
    Does Try.prog 14 #[.pointer (some (base g)), .agg #[.int .i64 (s.most : Int), .int .i64 s.lost, .slice a s.l.length c]] w fun v w' => v = .bool true ∧ Mod [] w w' := by
  apply w14
  unfold F14 New
  have hg1 := hg.1
  have hg2 := hg.2
  have hm1 : Mod [] w (push w 27 [.int .i64 (s.most : Int), .int .i64 s.lost, .slice a s.l.length c]).drew := (Mod.push w _ _).none (Mod.drew _)
  have hB := (Blk.new w 27 [.int .i64 (s.most : Int), .int .i64 s.lost, .slice a s.l.length c]).drew
  rw [fresh_base]
  dsimp only
  generalize (push w 27 [.int .i64 (s.most : Int), .int .i64 s.lost, .slice a s.l.length c]).drew = w1 at *
  have h1 := h.mod hm1 (by simp)
  refine ⟨_, _, _, hB.cell (i := 2) rfl, ?_⟩
  refine (items_ok h1 hg).mono ?_
  rintro _ w2 ⟨a2, c2, rfl, ho2, hm2, hf2⟩
  have hB2 := hB.mod hm2 (by simp)
  refine ⟨_, _, _, rfl, hB2.cell (i := 2) rfl, ?_⟩
  refine (same_ok a2 a s.l s.l c2 c w2 (by omega) ho2.rd ((hr.mod hm1 (by simp)).mod hm2 (by simp))).mono ?_
  rintro _ w3 ⟨rfl, hm3⟩
  have hB3 := hB2.mod hm3 (by simp)
  have h3 := (h1.mod hm2 (by simp)).mod hm3 (by simp)
  refine ⟨_, rfl, ?_⟩
  rw [if_pos (by simp)]
  refine ⟨_, _, _, hB3.cell (i := 2) rfl, ?_⟩
  refine (len_ok h3).mono ?_
  rintro _ _ ⟨rfl, rfl⟩
  refine ⟨_, rfl, hB3.cell (i := 2) rfl, ?_⟩
  rw [if_pos rfl]
  refine ⟨_, hB3.cell (i := 1) rfl, ?_⟩
  refine (dropped_ok h3).mono ?_
  rintro _ _ ⟨rfl, rfl⟩
  exact ⟨_, rfl, hB3.cell (i := 1) rfl, by simp, (hm1.none hm2).none hm3⟩

/-! ### the examples -/
theorem lives_ok (w : World) : Does Try.prog 9 #[] w fun v w' => v = .bool true ∧ Mod [] w w' := by
  apply w9
  unfold F9
  refine (new_ok 2 w).mono ?_
  rintro _ w1 ⟨rfl, h1, m1⟩
  refine ⟨_, rfl, ?_⟩
  refine (new_ok 0 w1).mono ?_
  rintro _ w2 ⟨rfl, n2, m2⟩
  have hs1 := m1.size
  have sS : Since w [w.heap.size] := by intro q hq; simp at hq; omega
  have sT : Since w [w1.heap.size] := by intro q hq; simp at hq; omega
  have ap : Apart [w.heap.size] [w1.heap.size] := by intro q hq; simp at hq ⊢; have := h1.lt w.heap.size (by simp); omega
  have h2 := h1.mod m2 (by simp)
  have M2 := m1.none m2
  refine ⟨_, rfl, ?_⟩
  rw [if_neg (by simp), if_neg (by simp)]
  have G2 : (s0 2).good := s0_good 2
  refine (add_ok h2 G2 5).mono ?_
  rintro _ w3 ⟨rfl, S3, h3, m3, f3⟩
  have G3 := Hs.add_good G2 5
  have M3 := M2.since m3 sS
  have s3 := sS.step M2.size f3
  have a3 := ap.step n2.lt f3
  have n3 := n2.mod m3 ap.symm
  refine ⟨_, _, rfl, ?_⟩
  refine (add_ok h3 G3 6).mono ?_
  rintro _ w4 ⟨rfl, S4, h4, m4, f4⟩
  have G4 := Hs.add_good G3 6
  have M4 := M3.since m4 s3
  have s4 := s3.step M3.size f4
  have a4 := a3.step n3.lt f4
  have n4 := n3.mod m4 a3.symm
  refine ⟨_, _, rfl, ?_⟩
  refine (add_ok h4 G4 7).mono ?_
  rintro _ w5 ⟨rfl, S5, h5, m5, f5⟩
  have G5 := Hs.add_good G4 7
  have M5 := M4.since m5 s4
  have s5 := s4.step M4.size f5
  have a5 := a4.step n4.lt f5
  have n5 := n4.mod m5 a4.symm
  refine ⟨_, _, rfl, ?_⟩
  refine (add_ok n5 (s0_good 0) 5).mono ?_
  rintro _ w6 ⟨rfl, T6, n6, m6, f6⟩
  have M6 := M5.since m6 sT
  have h6 := h5.mod m6 a5
  refine ⟨_, _, rfl, ?_⟩
  rw [if_pos (by decide), if_pos (by decide), if_pos (by decide), if_pos (by decide)]
  refine (items_ok h6 G5).mono ?_
  rintro _ w7 ⟨a7, c7, rfl, o7, m7, _⟩
  refine ⟨_, _, _, rfl, ?_⟩
  unfold New
  have hr : Rd (push w7 3 [.int .i64 6, .int .i64 7]) (some (fresh w7)) (([6, 7] : List Int).map iv) := Rd.blk (Blk.new w7 3 _)
  have m8 := Mod.push (S := []) w7 3 [.int .i64 6, .int .i64 7]
  refine (same_ok a7 _ _ [6, 7] c7 2 _ (by decide) (o7.rd.mod m8 (by simp)) hr).mono ?_
  rintro _ w9 ⟨rfl, m9⟩
  have m79 := (m7.none m8).none m9
  have h9 := h6.mod m79 (by simp)
  have n9 := n6.mod m79 (by simp)
  refine ⟨_, rfl, ?_⟩
  rw [if_pos (by decide)]
  refine (has_ok h9 G5 5).mono ?_
  rintro _ _ ⟨rfl, rfl⟩
  refine ⟨_, rfl, ?_⟩
  rw [if_pos (by decide)]
  refine (has_ok h9 G5 7).mono ?_
  rintro _ _ ⟨rfl, rfl⟩
  refine ⟨_, rfl, ?_⟩
  rw [if_pos (by decide)]
  refine (dropped_ok h9).mono ?_
  rintro _ _ ⟨rfl, rfl⟩
  refine ⟨_, rfl, ?_⟩
  rw [if_pos (by decide)]
  refine (len_ok h9).mono ?_
  rintro _ _ ⟨rfl, rfl⟩
  refine ⟨_, rfl, ?_⟩
  rw [if_pos (by decide), if_pos (by decide), if_pos (by decide)]
  refine (len_ok n9).mono ?_
  rintro _ _ ⟨rfl, rfl⟩
  exact ⟨_, rfl, by congr 1, M6.none m79⟩
end Go.Proofs.Ythgmcidaphbibaa
