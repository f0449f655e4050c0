/-
  The law ModeChain, as a contract.
-/
import Derived.Test.YtfnlhonngacagaaLaws2
namespace Go.Proofs.Ytfnlhonngacagaa
open Go Go.Sh Go.Proofs
set_option linter.unusedVariables false

def lastAt (l : List Ch) (i : Nat) : Int := if i = 0 then 0 else (l.getD (i - 1) (0, 0, 0)).2.2
def timeAt (l : List Ch) (i : Nat) : Int := if i = 0 then 0 else (l.getD (i - 1) (0, 0, 0)).1
/-- What the law asks of one change, behind a mode and a time. -/
def okc (last time : Int) (c : Ch) : Prop := c.2.1 = last ∧ time ≤ c.1 ∧ c.2.2 ≠ c.2.1 ∧ (c.2.2 = 1 ∨ can c.2.1 c.2.2 = true)
def Chain (l : List Ch) : Prop := ∀ i, (h : i < l.length) → okc (lastAt l i) (timeAt l i) l[i]
theorem lastAt_app (l : List Ch) (c : Ch) {i : Nat} (h : i ≤ l.length) : lastAt (l ++ [c]) i = lastAt l i := by
  unfold lastAt
  split
  · rfl
  · rw [List.getD, List.getD, List.getElem?_append_left (by omega)]
theorem timeAt_app (l : List Ch) (c : Ch) {i : Nat} (h : i ≤ l.length) : timeAt (l ++ [c]) i = timeAt l i := by
  unfold timeAt
  split
  · rfl
  · rw [List.getD, List.getD, List.getElem?_append_left (by omega)]
theorem Chain.snoc {l : List Ch} {c : Ch} (h : Chain l) (hc : okc (lastAt l l.length) (timeAt l l.length) c) : Chain (l ++ [c]) := by
  intro i hi
  rw [lastAt_app l c (by simp at hi; omega), timeAt_app l c (by simp at hi; omega)]
  by_cases h1 : i < l.length
  · rw [List.getElem_append_left h1]; exact h i h1
  · have : i = l.length := by simp at hi; omega
    subst this
    rw [List.getElem_append_right (Nat.le_refl _)]
    simpa using hc
theorem lastAt_snoc (l : List Ch) (c : Ch) : lastAt (l ++ [c]) (l ++ [c]).length = c.2.2 := by simp [lastAt, List.getD]
theorem timeAt_snoc (l : List Ch) (c : Ch) : timeAt (l ++ [c]) (l ++ [c]).length = c.1 := by simp [timeAt, List.getD]

/-- What holds of a manager behind n calls. -/
def J (s : Ms) (n : Nat) : Prop := s.l.length ≤ n ∧ Chain s.l ∧ lastAt s.l s.l.length = s.mode ∧ timeAt s.l s.l.length ≤ s.time
theorem J.pass {s : Ms} {n : Nat} (h : J s n) (now : Int) : J (s.pass now) n := by
  unfold Ms.pass
  split
  · rename_i hn
    exact ⟨h.1, h.2.1, h.2.2.1, by have h4 := h.2.2.2; have h5 := hn.1; show timeAt s.l s.l.length ≤ now; omega⟩
  · exact h
theorem J.change {s : Ms} {n : Nat} (h : J s n) (hn : n < 256) (to : Int) (h1 : to ≠ s.mode) (h2 : to = 1 ∨ can s.mode to = true) : J (s.change to) (n + 1) := by
  have hlt : s.l.length < 256 := by have := h.1; omega
  unfold Ms.change
  rw [if_pos hlt]
  refine ⟨by have := h.1; simp; omega, h.2.1.snoc ⟨h.2.2.1.symm, h.2.2.2, h1, h2⟩, lastAt_snoc _ _, ?_⟩
  rw [timeAt_snoc]
  exact Int.le_refl _
theorem J.more {s : Ms} {n : Nat} (h : J s n) : J s (n + 1) := ⟨Nat.le_succ_of_le h.1, h.2⟩
theorem can_ne {f t : Int} (h : can f t = true) : t ≠ f := by
  rintro rfl
  unfold can at h
  split at h
  · simp at h; omega
  · split at h
    · simp at h; omega
    · split at h
      · simp at h; omega
      · split at h
        · simp at h; omega
        · cases h
theorem J.step {s : Ms} {n : Nat} (h : J s n) (hn : n < 256) (f : Bool × Int × Int) : J (s.step f) (n + 1) := by
  unfold Ms.step Ms.safe Ms.req
  split
  · split
    · exact (h.pass _).more
    · rename_i hm
      exact (h.pass _).change hn 1 (fun e => hm e.symm) (.inl rfl)
  · split
    · exact (h.pass _).more
    · split
      · exact (h.pass _).more
      · rename_i hc
        have hc' : can (s.pass f.2.2).mode f.2.1 = true := by simpa using hc
        exact (h.pass _).change hn _ (can_ne hc') (.inr hc')

theorem modeChain_ok (a : Option Addr) (fs : List (Bool × Int × Int)) (c : Nat) (w : World) (hr : Rd w a (fs.flatMap sv)) :
    Does Try.prog 7 #[.slice a fs.length c] w fun v w' => v = .bool true ∧ Mod [] w w' := by
  apply w7
  unfold F7
  refine (new_ok w).mono ?_
  rintro _ w1 ⟨rfl, h1, M1⟩
  have hs1 := M1.size
  refine ⟨_, rfl, ?_⟩
  unfold F7_j1
  by_cases hf : 60 < fs.length
  · rw [if_pos (by omega), if_pos rfl, if_pos (by simp)]
    refine (lives_ok w1).mono ?_
    rintro _ w' ⟨rfl, hm'⟩
    exact ⟨_, rfl, rfl, M1.none hm'⟩
  rw [if_neg (by omega), if_neg (by simp)]
  refine LoopP.of (fun (x : Int) w' => ∃ (i : Nat) (S : List Nat) (s : Ms), i ≤ fs.length ∧ x = (i : Int) ∧ Mg w' w.heap.size S s ∧ s.good ∧ J s i ∧ Since w S ∧ Mod [] w w') (fun x _ => fs.length - x.toNat)
    ⟨0, _, _, by omega, rfl, h1, by simp [Ms.good], ⟨Nat.le_refl _, fun i h => by simp at h, rfl, Int.le_refl _⟩, by intro x hx; simp at hx; omega, M1⟩ ?_
  rintro _ w2 ⟨i, S, s, hi, rfl, h2, G2, J2, s2, M2⟩
  unfold F7_b2
  by_cases hlt : i < fs.length
  · rw [if_pos (by omega)]
    have e1 : IntKind.i64.wrap ((i : Int) + 1) = ((i + 1 : Nat) : Int) := by rw [wi64 (by omega)]; omega
    rw [e1]
    obtain ⟨p, rfl, hc⟩ := (hr.mod M2 (by simp)).flat (sv_len fs) (by decide) hlt
    have J3 := J2.step (by omega) fs[i]
    have G3 := Ms.step_good G2 fs[i]
    refine ⟨p, rfl, by omega, by omega, fs[i].1, by simpa [add_zero] using hc 0 _ rfl, ?_⟩
    unfold Ms.step at J3 G3
    by_cases hb : fs[i].1 = true
    · rw [if_pos hb] at J3 G3 ⊢
      refine ⟨by omega, by omega, _, hc 2 _ rfl, ?_⟩
      refine (safe_ok h2 G2 fs[i].2.2).mono ?_
      rintro _ w3 ⟨rfl, S3, h3, m3, f3⟩
      exact ⟨_, rfl, _, by omega, ⟨i + 1, S3, _, by omega, rfl, h3, G3, J3, s2.step M2.size f3, M2.since m3 s2⟩, rfl⟩
    · rw [if_neg hb] at J3 G3 ⊢
      obtain ⟨p1, hp1, hc1⟩ := ((hr.mod M2 (by simp)).drew).flat (sv_len fs) (by decide) hlt
      cases hp1
      refine ⟨by omega, by omega, _, hc1 1 _ rfl, by omega, by omega, _, hc1 2 _ rfl, ?_⟩
      have md := Mod.drew (S := []) w2
      refine (request_ok (h2.mod md (by simp)) G2 fs[i].2.1 fs[i].2.2).mono ?_
      rintro _ w3 ⟨rfl, S3, h3, m3, f3⟩
      exact ⟨_, rfl, _, by omega, ⟨i + 1, S3, _, by omega, rfl, h3, G3, J3, s2.step (M2.none md).size f3, (M2.none md).since m3 s2⟩, rfl⟩
  · rw [if_neg (by omega)]
    refine (changes_ok h2 G2).mono ?_
    rintro _ w3 ⟨a3, c3, rfl, o3, m3, _⟩
    have h3 := h2.mod m3 (by simp)
    refine ⟨_, _, _, rfl, ?_⟩
    have hl := G2
    unfold Ms.good at hl
    refine LoopP.of (fun (x : Int × Int × Int) w' => ∃ (k : Nat), k ≤ s.l.length ∧ x = (lastAt s.l k, timeAt s.l k, (k : Int)) ∧ Mod [] w3 w') (fun x _ => s.l.length - x.2.2.toNat) ⟨0, by omega, rfl, Mod.refl _⟩ ?_
    rintro _ w4 ⟨k, hk, rfl, m4⟩
    unfold F7_b3
    dsimp only
    by_cases hlt : k < s.l.length
    · rw [if_pos (by omega)]
      have e1 : IntKind.i64.wrap ((k : Int) + 1) = ((k + 1 : Nat) : Int) := by rw [wi64 (by omega)]; omega
      have md := Mod.drew (S := []) w4
      obtain ⟨p, rfl, hc⟩ := ((o3.rd.mod m4 (by simp)).drew).flat (cv_len s.l) (by decide) hlt
      obtain ⟨q1, q2, q3, q4⟩ := J2.2.1 k hlt
      have hla : lastAt s.l (k + 1) = s.l[k].2.2 := by simp [lastAt, List.getD, List.getElem?_eq_getElem hlt]
      have hti : timeAt s.l (k + 1) = s.l[k].1 := by simp [timeAt, List.getD, List.getElem?_eq_getElem hlt]
      refine ⟨p, rfl, by omega, by omega, _, hc 1 _ rfl, ?_⟩
      rw [if_neg (by simpa using q1)]
      refine ⟨by omega, by omega, _, by simpa [add_zero] using hc 0 _ rfl, ?_⟩
      rw [if_neg (by omega)]
      refine ⟨by omega, by omega, _, hc 2 _ rfl, by omega, by omega, _, hc 1 _ rfl, ?_⟩
      rw [if_neg q3]
      refine ⟨by omega, by omega, _, hc 2 _ rfl, ?_⟩
      by_cases h1 : s.l[k].2.2 = 1
      · rw [if_neg (by simpa using h1), e1]
        refine ⟨by omega, by omega, _, hc 2 _ rfl, by omega, by omega, _, by simpa [add_zero] using hc 0 _ rfl, ?_⟩
        exact ⟨_, by omega, ⟨k + 1, by omega, by rw [hla, hti], (m4.none md).none (Mod.drew _)⟩, rfl⟩
      · rw [if_pos h1]
        refine ⟨by omega, by omega, _, hc 1 _ rfl, by omega, by omega, _, hc 2 _ rfl, ?_⟩
        refine (can_ok _ _ w4.drew).mono ?_
        rintro _ w5 ⟨rfl, m5⟩
        have m45 := (m4.none md).none m5
        obtain ⟨p', hp', hc'⟩ := ((o3.rd.mod m45 (by simp)).drew).flat (cv_len s.l) (by decide) hlt
        cases hp'
        have hcan : can s.l[k].2.1 s.l[k].2.2 = true := by rcases q4 with h | h; exact absurd h h1; exact h
        refine ⟨_, rfl, ?_⟩
        rw [hcan, if_neg (by simp), e1]
        refine ⟨by omega, by omega, _, hc' 2 _ rfl, by omega, by omega, _, by simpa [add_zero] using hc' 0 _ rfl, ?_⟩
        exact ⟨_, by omega, ⟨k + 1, by omega, by rw [hla, hti], m45.none (Mod.drew _)⟩, rfl⟩
    · have : k = s.l.length := by omega
      subst this
      rw [if_neg (by omega)]
      refine (mode_ok (h3.mod m4 (by simp))).mono ?_
      rintro _ _ ⟨rfl, rfl⟩
      refine ⟨_, rfl, ?_⟩
      rw [if_pos J2.2.2.1.symm]
      refine (lives_ok w4).mono ?_
      rintro _ w' ⟨rfl, hm'⟩
      exact ⟨_, rfl, rfl, ((M2.none m3).none m4).none hm'⟩
end Go.Proofs.Ytfnlhonngacagaa
