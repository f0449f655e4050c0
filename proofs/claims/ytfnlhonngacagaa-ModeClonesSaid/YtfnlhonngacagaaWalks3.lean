/-
  The contracts of chapter 45: the reference's manager.
-/
import Derived.Test.YtfnlhonngacagaaLaws2
namespace Go.Proofs.Ytfnlhonngacagaa
open Go Go.Sh Go.Proofs
set_option linter.unusedVariables false

theorem elem50 : Elem Try.prog 50 3 24 := Elem.of (v := .agg #[.int .i64 0, .int .i64 0, .int .i64 0]) (by kernel_rfl) rfl (by decide)
theorem fpv_sub {a : Option Addr} {vs : List Value} : ∀ x ∈ fpv a vs, x ∈ fp a := by
  cases vs with
  | nil => intro x hx; cases hx
  | cons v vs => intro x hx; exact hx
/-- The reference's manager in block g; it shares its list. -/
def Rm (w : World) (g : Nat) (S : List Nat) (s : Ms) : Prop :=
  ∃ a c, S = g :: fpv a (s.l.flatMap cv) ∧ g ∉ fpv a (s.l.flatMap cv) ∧ s.l.length ≤ c ∧ Blk w g 28 [.int .i64 s.mode, .int .i64 s.time, .slice a s.l.length c] ∧ Rd w a (s.l.flatMap cv)
theorem Rm.mod {w w' : World} {g : Nat} {S T : List Nat} {s : Ms} (h : Rm w g S s) (hm : Mod T w w') (hd : ∀ x ∈ S, x ∉ T) : Rm w' g S s := by
  obtain ⟨a, c, rfl, hn, hc, hb, ho⟩ := h
  exact ⟨a, c, rfl, hn, hc, hb.mod hm (hd g (by simp)), ho.modv hm (fun x hx => hd x (by simp [hx]))⟩
theorem Rm.lt {w : World} {g : Nat} {S : List Nat} {s : Ms} (h : Rm w g S s) : ∀ x ∈ S, x < w.heap.size := by
  obtain ⟨a, c, rfl, hn, hc, hb, ho⟩ := h
  intro x hx
  rcases List.mem_cons.1 hx with rfl | hx
  · exact hb.lt
  · exact ho.lt x hx
theorem refClock_ok {w : World} {g : Nat} {S : List Nat} {s : Ms} (h : Rm w g S s) (now : Int) : Does Try.prog 28 #[.pointer (some (base g)), .int .i64 now] w fun v w' => v = .tuple #[] ∧ Rm w' g S (s.pass now) ∧ Mod [g] w w' := by
  obtain ⟨a, c, rfl, hn, hc, hb, hr⟩ := h
  apply w28
  unfold F28 F28_j1
  refine ⟨_, rfl, _, hb.cell (i := 1) rfl, ?_⟩
  by_cases h1 : s.time < now
  · rw [if_pos h1]
    by_cases h2 : now ≤ 1099511627776
    · rw [if_pos (by simpa using h2)]
      have hm : Mod [g] w (w.setCell ((base g).add 1) (.int .i64 now)) := Mod.setCell _ _ _ (by rw [add_block]; simp [base])
      have e : s.pass now = ⟨s.mode, now, s.l⟩ := by unfold Ms.pass; rw [if_pos ⟨h1, h2⟩]
      rw [e]
      exact ⟨_, rfl, hb.can (i := 1) (by simp), rfl, ⟨a, c, rfl, hn, hc, hb.set 1 _, hr.modv hm (fun x hx hx' => by simp at hx'; subst hx'; exact hn hx)⟩, hm⟩
    · rw [if_neg (by simpa using h2)]
      have e : s.pass now = s := by unfold Ms.pass; rw [if_neg (fun h => h2 h.2)]
      rw [e]
      exact ⟨rfl, ⟨a, c, rfl, hn, hc, hb, hr⟩, Mod.refl _⟩
  · rw [if_neg h1, if_neg (by simp)]
    have e : s.pass now = s := by unfold Ms.pass; rw [if_neg (fun h => h1 h.1)]
    rw [e]
    exact ⟨rfl, ⟨a, c, rfl, hn, hc, hb, hr⟩, Mod.refl _⟩

/-- Behind the appends: the cut, the stores. -/
theorem refTail_ok {w0 w : World} {g : Nat} {s : Ms} (hg : s.good) {a0 : Option Addr} {c0 : Nat} (to : Int) (hb : Blk w g 28 [.int .i64 s.mode, .int .i64 s.time, .slice a0 s.l.length c0]) (hw : g < w0.heap.size) {a : Option Addr} {c : Nat} (ho : Own w 50 3 a (s.l.length + 1) c ((s.l ++ [(s.time, s.mode, to)]).flatMap cv))
    (hf : ∀ x ∈ fp a, w0.heap.size ≤ x) (hm : Mod [] w0 w) :
    F29_j1 (some (base g)) to a (s.l.length + 1) c w (fun v w' => v = .tuple #[] ∧ ∃ S', Rm w' g S' (s.change to) ∧ Mod [g] w0 w' ∧ ∀ y ∈ S', y = g ∨ w0.heap.size ≤ y) := by
  unfold Ms.good at hg
  have hle := ho.le
  have tail : ∀ (a2 : Option Addr) (c2 : Nat) (l2 : List Ch), (s.change to) = ⟨to, s.time, l2⟩ → Rd w a2 (l2.flatMap cv) → l2.length ≤ c2 → (∀ x ∈ fpv a2 (l2.flatMap cv), w0.heap.size ≤ x) →
      F29_j2 (some (base g)) to a2 l2.length c2 w (fun v w' => v = .tuple #[] ∧ ∃ S', Rm w' g S' (s.change to) ∧ Mod [g] w0 w' ∧ ∀ y ∈ S', y = g ∨ w0.heap.size ≤ y) := by
    intro a2 c2 l2 e hr2 hc2 hf2
    unfold F29_j2
    have hm1 : Mod [g] w (w.setCell ((base g).add 2) (.slice a2 l2.length c2)) := Mod.setCell _ _ _ (by rw [add_block]; simp [base])
    have hb1 := hb.set 2 (.slice a2 l2.length c2)
    have hm2 : Mod [g] (w.setCell ((base g).add 2) (.slice a2 l2.length c2)) ((w.setCell ((base g).add 2) (.slice a2 l2.length c2)).setCell (base g) (.int .i64 to)) := Mod.setCell _ _ _ (by simp [base])
    have hb2 := hb1.set0 (.int .i64 to)
    have hgn : g ∉ fpv a2 (l2.flatMap cv) := fun hx => by have := hf2 g hx; omega
    rw [e]
    refine ⟨_, rfl, hb.can (i := 2) (by simp), hb1.can0 (by simp), rfl, g :: fpv a2 (l2.flatMap cv), ⟨a2, c2, rfl, hgn, hc2, hb2, hr2.modv (hm1.same hm2) (fun x hx hx' => by simp at hx'; subst hx'; exact hgn hx)⟩, (hm.weaken (by simp)).trans (hm1.same hm2) (fun x hx => .inl hx), ?_⟩
    intro y hy
    rcases List.mem_cons.1 hy with rfl | hy
    · left; rfl
    · right; exact hf2 y hy
  have hlen : (s.l ++ [(s.time, s.mode, to)]).length = s.l.length + 1 := by simp
  unfold F29_j1
  by_cases hlt : s.l.length < 256
  · rw [if_neg (by omega)]
    have e3 : s.change to = ⟨to, s.time, s.l ++ [(s.time, s.mode, to)]⟩ := by unfold Ms.change; rw [if_pos hlt]
    have := tail a c _ e3 ho.rd (by rw [hlen]; exact hle) (fun x hx => hf x (fpv_sub x hx))
    rw [hlen] at this
    exact this
  · rw [if_pos (by omega)]
    have e3 : s.change to = ⟨to, s.time, (s.l ++ [(s.time, s.mode, to)]).drop 1⟩ := by unfold Ms.change; rw [if_neg hlt]
    refine ⟨by omega, by omega, ?_⟩
    have hcut : Rd w (cutA a c 1 3) (((s.l ++ [(s.time, s.mode, to)]).drop 1).flatMap cv) := by
      have := ho.rd.cut (c := c) (l := 1) (z := 3) (by rw [ho.1]; exact Nat.mul_le_mul_right 3 hle)
      rwa [← flat_drop cv _ (cv_len _)]
    have hdl : ((s.l ++ [(s.time, s.mode, to)]).drop 1).length = s.l.length := by simp
    have := tail (cutA a c 1 3) (c - 1) _ e3 hcut (by rw [hdl]; omega) (fun x hx => by
      have hx := fpv_sub x hx
      refine hf x ?_
      unfold cutA at hx
      split at hx
      · exact hx
      · cases a with
        | none => cases hx
        | some q => simpa [fp, add_block] using hx)
    rw [hdl] at this
    rw [show (1 : Int).toNat = 1 from rfl, Nat.add_sub_cancel]
    exact this

theorem refChange_ok {w : World} {g : Nat} {S : List Nat} {s : Ms} (h : Rm w g S s) (hg : s.good) (to : Int) : Does Try.prog 29 #[.pointer (some (base g)), .int .i64 to] w fun v w' => v = .tuple #[] ∧ ∃ S', Rm w' g S' (s.change to) ∧ Mod [g] w w' ∧ ∀ y ∈ S', y = g ∨ w.heap.size ≤ y := by
  obtain ⟨a, c, rfl, hn, hc, hb, hr⟩ := h
  have hg' := hg
  unfold Ms.good at hg'
  have hcat : s.l.flatMap cv ++ [.int .i64 s.time, .int .i64 s.mode, .int .i64 to] = (s.l ++ [(s.time, s.mode, to)]).flatMap cv := by rw [List.flatMap_append]; simp [cv]
  have hfl := flat_len cv s.l (cv_len s.l)
  have hlt := hb.lt
  apply w29
  unfold F29
  have hb0 := hb.drew
  have hr0 := hr.drew
  refine ⟨_, rfl, _, _, _, hb0.cell (i := 2) rfl, _, hb0.cell (i := 1) rfl, _, hb0.cell0, ?_⟩
  have hm0 : Mod [] w w.drew := Mod.drew w
  have hs0 : w.drew.heap.size = w.heap.size := rfl
  generalize w.drew = w0 at *
  unfold New
  dsimp only
  -- the front is made first
  have mA := Mod.push (S := []) w0 50 []
  have bA := Blk.new w0 50 []
  have zA := size_push w0 50 []
  have oA : Own (push w0 50 []) 50 3 (some (fresh w0)) 0 0 [] := Own.blk bA rfl (by decide)
  have fA : ∀ x ∈ fp (some (fresh w0)), w.heap.size ≤ x := by intro x hx; simp [fp_fresh] at hx; omega
  have sA := fresh_base w0
  -- the element is made first
  have mB := Mod.push (S := []) w0 50 [.int .i64 s.time, .int .i64 s.mode, .int .i64 to]
  have bB := Blk.new w0 50 [.int .i64 s.time, .int .i64 s.mode, .int .i64 to]
  have zB := size_push w0 50 [.int .i64 s.time, .int .i64 s.mode, .int .i64 to]
  refine ⟨?_, ?_⟩
  · generalize push w0 50 [] = w1 at *
    generalize fresh w0 = p1 at *
    have hb1 := hb0.mod mA (by simp)
    have hr1 := hr0.modv mA (by simp)
    refine ⟨hb1.cell (i := 2) rfl, hb1.cell (i := 1) rfl, hb1.cell0, ?_, ?_⟩
    · obtain ⟨a2, c2, w2, hrun, o2, m2, f2⟩ := append_own (d := c) Try.underlying26 elem50 26 oA hr1 (m := s.l.length) hfl (cv_one s.l) (by omega) (by omega)
      rw [Nat.zero_add] at hrun o2
      have m12 : Mod [] w w2 := (hm0.none mA).trans m2 (fun x hx => .inr (fA x hx))
      have hb2 := hb.mod m12 (by simp)
      have f2' : ∀ x ∈ fp a2, w.heap.size ≤ x := by
        rcases f2 with h | h <;> rw [h]
        · exact fA
        · intro x hx; simp at hx; omega
      refine ⟨_, _, _, _, hrun, hb2.cell (i := 1) rfl, hb2.cell0, ?_⟩
      have m3 := Mod.push (S := []) w2 50 [.int .i64 s.time, .int .i64 s.mode, .int .i64 to]
      have hb3 := hb2.mod m3 (by simp)
      obtain ⟨a4, c4, w4, hrun4, o4, m4, f4⟩ := append_own (d := 1) Try.underlying26 elem50 26 (o2.mod m3 (by simp)) (Rd.blk (Blk.new w2 50 [.int .i64 s.time, .int .i64 s.mode, .int .i64 to])) (m := 1) rfl (by simp [one]) (by omega) (by omega)
      refine ⟨hb3.cell (i := 2) rfl, _, _, _, _, hrun4, ?_⟩
      rw [List.nil_append, hcat] at o4
      have m14 : Mod [] w w4 := (m12.none m3).trans m4 (fun x hx => .inr (f2' x hx))
      refine refTail_ok hg to (hb.mod m14 (by simp)) hlt o4 ?_ m14
      have := m12.size
      rcases f4 with h | h <;> rw [h]
      · exact f2'
      · intro x hx; simp [size_push] at hx; omega
    · have m3 := Mod.push (S := []) w1 50 [.int .i64 s.time, .int .i64 s.mode, .int .i64 to]
      have b3 := Blk.new w1 50 [.int .i64 s.time, .int .i64 s.mode, .int .i64 to]
      have z3 := size_push w1 50 [.int .i64 s.time, .int .i64 s.mode, .int .i64 to]
      have hb3 := hb1.mod m3 (by simp)
      have hr3 := hr1.modv m3 (by simp)
      have o3 := oA.mod m3 (by simp)
      refine ⟨hb3.cell (i := 2) rfl, ?_⟩
      have hlt1 : ∀ x ∈ fp (some p1), x < w1.heap.size := oA.lt
      rw [fresh_base]
      generalize push w1 50 [.int .i64 s.time, .int .i64 s.mode, .int .i64 to] = w3 at *
      obtain ⟨a2, c2, w2, hrun, o2, m2, f2⟩ := append_own (d := c) Try.underlying26 elem50 26 o3 hr3 (m := s.l.length) hfl (cv_one s.l) (by omega) (by omega)
      rw [Nat.zero_add] at hrun o2
      have m12 : Mod [] w w2 := ((hm0.none mA).none m3).trans m2 (fun x hx => .inr (fA x hx))
      have hb2 := hb.mod m12 (by simp)
      have f2' : ∀ x ∈ fp a2, w.heap.size ≤ x := by
        rcases f2 with h | h <;> rw [h]
        · exact fA
        · intro x hx; simp at hx; omega
      have b2 := b3.mod m2 (fun hx => by have := hlt1 _ hx; omega)
      refine ⟨_, _, _, _, hrun, hb2.cell (i := 1) rfl, hb2.cell0, ?_⟩
      obtain ⟨a4, c4, w4, hrun4, o4, m4, f4⟩ := append_own (d := 1) Try.underlying26 elem50 26 o2 (Rd.blk b2) (m := 1) rfl (by simp [one]) (by omega) (by omega)
      refine ⟨_, _, _, _, hrun4, ?_⟩
      rw [List.nil_append, hcat] at o4
      have m14 : Mod [] w w4 := m12.trans m4 (fun x hx => .inr (f2' x hx))
      refine refTail_ok hg to (hb.mod m14 (by simp)) hlt o4 ?_ m14
      have := m12.size
      rcases f4 with h | h <;> rw [h]
      · exact f2'
      · intro x hx; simp at hx; omega
  · have hb1 := hb0.mod mB (by simp)
    have hr1 := hr0.modv mB (by simp)
    generalize push w0 50 [.int .i64 s.time, .int .i64 s.mode, .int .i64 to] = w1 at *
    refine ⟨hb1.cell (i := 2) rfl, ?_⟩
    have m3 := Mod.push (S := []) w1 50 []
    have z3 := size_push w1 50 []
    have o3 : Own (push w1 50 []) 50 3 (some (fresh w1)) 0 0 [] := Own.blk (Blk.new w1 50 []) rfl (by decide)
    have hb3 := hb1.mod m3 (by simp)
    have hr3 := hr1.modv m3 (by simp)
    have b3 := bB.mod m3 (by simp)
    have f3 : ∀ x ∈ fp (some (fresh w1)), w1.heap.size ≤ x := by intro x hx; simp [fp_fresh] at hx; omega
    generalize push w1 50 [] = w3 at *
    generalize fresh w1 = p3 at *
    refine ⟨hb3.cell (i := 2) rfl, hb3.cell (i := 1) rfl, hb3.cell0, ?_⟩
    obtain ⟨a2, c2, w2, hrun, o2, m2, f2⟩ := append_own (d := c) Try.underlying26 elem50 26 o3 hr3 (m := s.l.length) hfl (cv_one s.l) (by omega) (by omega)
    rw [Nat.zero_add] at hrun o2
    have m12 : Mod [] w w2 := ((hm0.none mB).none m3).trans m2 (fun x hx => .inr (by have := f3 x hx; omega))
    have hb2 := hb.mod m12 (by simp)
    have f2' : ∀ x ∈ fp a2, w.heap.size ≤ x := by
      rcases f2 with h | h <;> rw [h]
      · intro x hx; have := f3 x hx; omega
      · intro x hx; simp at hx; omega
    have b2 := b3.mod m2 (fun hx => by have := f3 _ hx; omega)
    refine ⟨_, _, _, _, hrun, hb2.cell (i := 1) rfl, hb2.cell0, ?_⟩
    obtain ⟨a4, c4, w4, hrun4, o4, m4, f4⟩ := append_own (d := 1) Try.underlying26 elem50 26 o2 (Rd.blk b2) (m := 1) rfl (by simp [one]) (by omega) (by omega)
    refine ⟨_, _, _, _, hrun4, ?_⟩
    rw [List.nil_append, hcat] at o4
    have m14 : Mod [] w w4 := m12.trans m4 (fun x hx => .inr (f2' x hx))
    refine refTail_ok hg to (hb.mod m14 (by simp)) hlt o4 ?_ m14
    have := m12.size
    rcases f4 with h | h <;> rw [h]
    · exact f2'
    · intro x hx; simp at hx; omega
end Go.Proofs.Ytfnlhonngacagaa
