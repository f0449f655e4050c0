/-
  The contracts of chapter 45: the table, Can; the manager.
-/
import Derived.Test.YtfnlhonngacagaaForms
import Derived.Test.YtfnlhonngacagaaHeap
namespace Go.Proofs.Ytfnlhonngacagaa
open Go Go.Sh Go.Proofs
set_option linter.unusedVariables false

/-- The specification's rule. -/
def can (f t : Int) : Bool :=
  if f = 1 then decide (t = 2) else if f = 2 then decide (t = 1 ∨ t = 3) else if f = 3 then decide (t = 1 ∨ t = 2 ∨ t = 4) else if f = 4 then decide (t = 1 ∨ t = 3) else false
def isM (m : Int) : Bool := decide (0 ≤ m ∧ m < 5)

theorem is_ok (m : Int) (w : World) : Does Try.prog 22 #[.int .i64 m] w fun v w' => v = .bool (isM m) ∧ w = w' := by
  apply w22
  unfold F22 isM
  by_cases h : 0 ≤ m
  · rw [if_pos h]
    refine ⟨?_, rfl⟩
    congr 1
    rw [decide_eq_decide]
    omega
  · rw [if_neg h]
    refine ⟨?_, rfl⟩
    rw [decide_eq_false (by omega)]
theorem refCan_ok (f t : Int) (w : World) : Does Try.prog 14 #[.int .i64 f, .int .i64 t] w fun v w' => v = .bool (can f t) ∧ w = w' := by
  apply w14
  unfold F14 can
  by_cases h1 : f = 1
  · rw [if_pos h1, if_pos h1]; exact ⟨rfl, rfl⟩
  rw [if_neg h1, if_neg h1]
  by_cases h2 : f = 2
  · rw [if_pos h2, if_pos h2]
    by_cases t1 : t = 1
    · rw [if_pos t1]; exact ⟨by simp [t1], rfl⟩
    · rw [if_neg t1]; exact ⟨by simp [t1], rfl⟩
  rw [if_neg h2, if_neg h2]
  by_cases h3 : f = 3
  · rw [if_pos h3, if_pos h3]
    by_cases t1 : t = 1
    · rw [if_pos t1]; exact ⟨by simp [t1], rfl⟩
    rw [if_neg t1]
    by_cases t2 : t = 2
    · rw [if_pos t2]; exact ⟨by simp [t2], rfl⟩
    · rw [if_neg t2]; exact ⟨by simp [t1, t2], rfl⟩
  rw [if_neg h3, if_neg h3]
  by_cases h4 : f = 4
  · rw [if_pos h4, if_pos h4]
    by_cases t1 : t = 1
    · rw [if_pos t1]; exact ⟨by simp [t1], rfl⟩
    · rw [if_neg t1]; exact ⟨by simp [t1], rfl⟩
  rw [if_neg h4, if_neg h4]
  exact ⟨rfl, rfl⟩

/-- The table's cells. -/
def tab : List Value := [.bool false, .bool false, .bool false, .bool false, .bool false, .bool false, .bool false, .bool true, .bool false, .bool false, .bool false, .bool true, .bool false, .bool true, .bool false,
  .bool false, .bool true, .bool true, .bool false, .bool true, .bool false, .bool true, .bool false, .bool true, .bool false]

theorem copy5 {w : World} {g g2 o : Nat} {vs us : List Value} {t t2 : TypeId} (hb : Blk w g t vs) (hb2 : Blk w g2 t2 us) (hl : us.length = 5) (ho : o + 5 ≤ vs.length) (h1 : ∀ u ∈ us, one u = true) :
    ∃ w', (Builtin.copy_ #[56, 56] 3 #[.slice (some ((base g).add o)) 5 5, .slice (some (base g2)) 5 5]).run Try.prog w = .ok (.int .i64 5) w' ∧ Blk w' g t (vs.take o ++ us ++ vs.drop (o + 5)) ∧ Mod [g] w w' := by
  have hg : w.heap[g]? = some (.cells vs.toArray t (0, 0)) := hb
  have := run_copy_row (P := Try.prog) w 56 56 3 4 g o 5 5 (base g2) 5 5 vs.toArray t us Try.underlying56 (by kernel_rfl) hg (by rw [hl]; rfl) (fun j v hj => hb2.cell hj) (by simp [hl]; omega) (fun v hv => one_cell (h1 v hv))
  rw [hl] at this
  rw [base_add]
  have hr := setRow_heap w g vs.toArray (vs.toArray.toList.take o ++ us ++ vs.toArray.toList.drop (o + 5)).toArray t (0, 0) hg
  exact ⟨_, this, hr, ⟨rfl, rfl, rfl, by simp [World.setRow], fun k _ hk => setRow_other w g k _ (by simpa using hk)⟩⟩

theorem table_ok (w : World) : Does Try.prog 23 #[] w fun v w' => v = .agg tab.toArray ∧ Mod [] w w' := by
  apply w23
  unfold F23 New
  dsimp only
  have hT0 := Blk.new w 53 (List.replicate 25 (.bool false))
  have hm0 := Mod.push (S := []) w 53 (List.replicate 25 (.bool false))
  have hs0 := size_push w 53 (List.replicate 25 (.bool false))
  simp only [List.replicate] at hT0 hm0 hs0
  generalize hw3 : push w 53 [.bool false, .bool false, .bool false, .bool false, .bool false, .bool false, .bool false, .bool false, .bool false, .bool false, .bool false, .bool false, .bool false, .bool false, .bool false, .bool false, .bool false, .bool false, .bool false, .bool false, .bool false, .bool false, .bool false, .bool false, .bool false] = w3 at *
  have hT := Blk.new w3 53 (List.replicate 25 (.bool false))
  have hT0 := hT0.push 53 (List.replicate 25 (.bool false))
  have hm1 := hm0.none (Mod.push (S := []) w3 53 (List.replicate 25 (.bool false)))
  have hs1 := size_push w3 53 (List.replicate 25 (.bool false))
  simp only [List.replicate] at hT0 hT hm1 hs1
  generalize hw5 : push w3 53 [.bool false, .bool false, .bool false, .bool false, .bool false, .bool false, .bool false, .bool false, .bool false, .bool false, .bool false, .bool false, .bool false, .bool false, .bool false, .bool false, .bool false, .bool false, .bool false, .bool false, .bool false, .bool false, .bool false, .bool false, .bool false] = w5 at *
  rw [fresh_base, fresh_base]
  simp only [Int.reduceToNat, add_add, Nat.reduceMul, Nat.reduceAdd]
  generalize hg2 : w.heap.size = g2 at *
  generalize hg4 : w3.heap.size = g4 at *
  have hlt : g2 < g4 := by omega
  refine ⟨by decide, by decide, by decide, by decide, hT.can (i := 7) (by simp), ?_⟩
  have a1 := Mod.setCell (S := [g4]) w5 ((base g4).add 7) (.bool true) (by rw [add_block]; simp [base])
  have hT := hT.set 7 (.bool true)
  have hT0 := hT0.mod a1 (by simp; omega)
  simp only [List.set_cons_succ, List.set_cons_zero] at hT
  have M := hm1.trans a1 (fun x hx => .inr (by simp at hx; omega))
  have z1 := size_setCell w5 ((base g4).add 7) (.bool true)
  generalize w5.setCell ((base g4).add 7) (.bool true) = w6 at *
  -- the row
  dsimp only
  have hR := Blk.new w6 52 [.bool false, .bool false, .bool false, .bool false, .bool false]
  have hT := hT.push 52 [.bool false, .bool false, .bool false, .bool false, .bool false]
  have hT0 := hT0.push 52 [.bool false, .bool false, .bool false, .bool false, .bool false]
  have M := M.none (Mod.push (S := []) w6 52 [.bool false, .bool false, .bool false, .bool false, .bool false])
  have z2 := size_push w6 52 [.bool false, .bool false, .bool false, .bool false, .bool false]
  rw [fresh_base]
  generalize hg6 : w6.heap.size = g6 at *
  generalize push w6 52 [.bool false, .bool false, .bool false, .bool false, .bool false] = w7 at *
  have n46 : g4 ≠ g6 := by omega
  have n26 : g2 ≠ g6 := by omega
  have n24 : g2 ≠ g4 := by omega
  refine ⟨by decide, by decide, hR.can (i := 1) (by simp), ?_⟩
  have a2 := Mod.setCell (S := [g6]) w7 ((base g6).add 1) (.bool true) (by rw [add_block]; simp [base])
  have hR := hR.set 1 (.bool true)
  have hT := hT.mod a2 (by simpa using n46)
  have hT0 := hT0.mod a2 (by simpa using n26)
  have M := M.trans a2 (fun x hx => .inr (by simp at hx; omega))
  generalize w7.setCell ((base g6).add 1) (.bool true) = w8 at *
  refine ⟨by decide, by decide, hR.can (i := 3) (by simp), ?_⟩
  have a3 := Mod.setCell (S := [g6]) w8 ((base g6).add 3) (.bool true) (by rw [add_block]; simp [base])
  have hR := hR.set 3 (.bool true)
  have hT := hT.mod a3 (by simpa using n46)
  have hT0 := hT0.mod a3 (by simpa using n26)
  have M := M.trans a3 (fun x hx => .inr (by simp at hx; omega))
  simp only [List.set_cons_succ, List.set_cons_zero] at hR
  dsimp only
  generalize w8.setCell ((base g6).add 3) (.bool true) = w9 at *
  -- the copies
  obtain ⟨w10, c1, hT, a4⟩ := copy5 (o := 10) hT.drew hR.drew rfl (by simp) (by simp [one])
  have hR := hR.drew.mod a4 (by simpa using Ne.symm n46)
  have hT0 := hT0.drew.mod a4 (by simpa using n24)
  have M := (M.none (Mod.drew w9)).trans a4 (fun x hx => .inr (by simp at hx; omega))
  refine ⟨by decide, by decide, _, w10, c1, by decide, by decide, ?_⟩
  obtain ⟨w11, c2, hT, a5⟩ := copy5 (o := 20) hT.drew hR.drew rfl (by simp) (by simp [one])
  have hT0 := hT0.drew.mod a5 (by simpa using n24)
  have M := (M.none (Mod.drew w10)).trans a5 (fun x hx => .inr (by simp at hx; omega))
  refine ⟨_, w11, c2, ?_⟩
  simp only [List.take_succ_cons, List.take_zero, List.drop_succ_cons, List.drop_zero, List.cons_append, List.nil_append, List.append_nil, List.drop_nil] at hT
  refine ⟨by decide, by decide, by decide, by decide, hT.can (i := 16) (by simp), ?_⟩
  have a6 := Mod.setCell (S := [g4]) w11 ((base g4).add 16) (.bool true) (by rw [add_block]; simp [base])
  have hT := hT.set 16 (.bool true)
  have hT0 := hT0.mod a6 (by simpa using n24)
  have M := M.trans a6 (fun x hx => .inr (by simp at hx; omega))
  generalize w11.setCell ((base g4).add 16) (.bool true) = w12 at *
  refine ⟨by decide, by decide, by decide, by decide, hT.can (i := 17) (by simp), ?_⟩
  have a7 := Mod.setCell (S := [g4]) w12 ((base g4).add 17) (.bool true) (by rw [add_block]; simp [base])
  have hT := hT.set 17 (.bool true)
  have hT0 := hT0.mod a7 (by simpa using n24)
  have M := M.trans a7 (fun x hx => .inr (by simp at hx; omega))
  generalize w12.setCell ((base g4).add 17) (.bool true) = w13 at *
  refine ⟨by decide, by decide, by decide, by decide, hT.can (i := 19) (by simp), ?_⟩
  have a8 := Mod.setCell (S := [g4]) w13 ((base g4).add 19) (.bool true) (by rw [add_block]; simp [base])
  have hT := hT.set 19 (.bool true)
  have hT0 := hT0.mod a8 (by simpa using n24)
  have M := M.trans a8 (fun x hx => .inr (by simp at hx; omega))
  simp only [List.set_cons_succ, List.set_cons_zero] at hT
  dsimp only
  generalize w13.setCell ((base g4).add 19) (.bool true) = w14 at *
  -- the result
  have cellsOf : ∀ {w : World} {g : Nat} {t : TypeId} {vs : List Value}, Blk w g t vs → Cells w (base g) 0 vs := by
    intro w g t vs hb
    have : ∀ (us ls : List Value) (i : Nat), vs = ls ++ us → ls.length = i → Cells w (base g) i us := by
      intro us
      induction us with
      | nil => intro _ _ _ _; trivial
      | cons u us ih =>
        intro ls i h1 h2
        refine ⟨hb.cell (by rw [h1, List.getElem?_append_right (by omega), h2, Nat.sub_self]; rfl), ih (ls ++ [u]) (i + 1) (by simp [h1]) (by simp [h2])⟩
    exact this vs [] 0 rfl rfl
  refine ⟨_, _, _, _, _, _, _, _, _, _, _, _, _, _, _, _, _, _, _, _, _, _, _, _, _, cellsOf hT, ?_⟩
  have setAllBlk : ∀ (us : List Value) (i : Nat) (w : World) (vs : List Value), Blk w g2 53 vs → i + us.length = vs.length → CanSet w (base g2) i us.length ∧ Blk (setAll w (base g2) i us) g2 53 (vs.take i ++ us) ∧ Mod [g2] w (setAll w (base g2) i us) := by
    intro us
    induction us with
    | nil => intro i w vs hb hl; exact ⟨trivial, by simp at hl; subst hl; simpa [setAll] using hb, Mod.refl _⟩
    | cons u us ih =>
      intro i w vs hb hl
      simp only [List.length_cons] at hl
      have hm : Mod [g2] w (w.setCell ((base g2).add i) u) := Mod.setCell _ _ _ (by rw [add_block]; simp [base])
      obtain ⟨h1, h2, h3⟩ := ih (i + 1) _ _ (hb.set i u) (by simp; omega)
      refine ⟨⟨hb.can (by omega), ?_⟩, ?_, hm.same h3⟩
      · have : ∀ n j, j + n = vs.length → CanSet w (base g2) j n := by
          intro n
          induction n with
          | zero => intro _ _; trivial
          | succ n ih' => intro j hj; exact ⟨hb.can (by omega), ih' (j + 1) (by omega)⟩
        exact this us.length (i + 1) (by omega)
      · have e : (vs.set i u).take (i + 1) = vs.take i ++ [u] := by
          rw [List.take_succ_eq_append_getElem (by simp; omega), List.take_set_of_le (by omega)]
          simp
        rw [e] at h2
        simpa [setAll] using h2
  unfold PutAll
  obtain ⟨k1, k2, k3⟩ := setAllBlk tab 0 w14 _ hT0 rfl
  have k2 := cellsOf k2
  simp only [List.take_zero, List.nil_append] at k2
  unfold tab at k1 k2 k3 ⊢
  exact ⟨k1, _, _, _, _, _, _, _, _, _, _, _, _, _, _, _, _, _, _, _, _, _, _, _, _, _, k2, rfl, M.trans k3 (fun x hx => .inr (by simp at hx; omega))⟩
end Go.Proofs.Ytfnlhonngacagaa
