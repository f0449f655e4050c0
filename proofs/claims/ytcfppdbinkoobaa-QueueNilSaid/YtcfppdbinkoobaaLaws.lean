/-
  The laws of chapter 8, as contracts: the example, QueueNil.
-/
import Derived.Test.YtcfppdbinkoobaaItems
namespace Go.Proofs.Ytcfppdbinkoobaa
open Go Go.Sh Go.Proofs
set_option linter.unusedVariables false
set_option linter.unusedSimpArgs false
set_option linter.unusedSectionVars false

def Keep (T : List Nat) (w w' : World) : Prop := ∃ S, Mod S w w' ∧ Apart S T
theorem Keep.rd {T : List Nat} {w w' : World} (k : Keep T w w') {a : Option Addr} {vs : List Value} (h : Rd w a vs) (hT : ∀ y ∈ fpv a vs, y ∈ T) : Rd w' a vs := by
  obtain ⟨S, m, ap⟩ := k
  exact h.modv m (fun y hy hy' => ap y hy' (hT y hy))
theorem Keep.blk {T : List Nat} {w w' : World} (k : Keep T w w') {g t : Nat} {vs : List Value} (h : Blk w g t vs) (hT : g ∈ T) : Blk w' g t vs := by
  obtain ⟨S, m, ap⟩ := k
  exact h.mod m (fun hg => ap g hg hT)

/-- A queue that is new since w0, apart from the blocks T. -/
structure QN (w0 w : World) (g : Nat) (s : Qs) (T : List Nat) : Prop where
  ex : ∃ S, Qu w g S s ∧ Since w0 S ∧ Apart S T
  good : s.good
  m : Mod [] w0 w
  lt : ∀ y ∈ T, y < w.heap.size
section
variable {w0 w : World} {g : Nat} {s : Qs} {T : List Nat}
theorem QN.new (w0 : World) (most : Int) : Does Try.prog 9 #[.int .i64 most] w0 fun v w' => v = .pointer (some (base w0.heap.size)) ∧ QN w0 w' w0.heap.size (q0 most) [] := by
  refine (new_ok most w0).mono ?_
  rintro _ w' ⟨rfl, h, m⟩
  exact ⟨rfl, ⟨_, h, by intro x hx; simp at hx; omega, by intro x hx; simp⟩, q0_good most, m, by simp⟩
variable (h : QN w0 w g s T)
include h
theorem QN.mod {w' : World} (m : Mod [] w w') : QN w0 w' g s T := by
  obtain ⟨⟨S, h1, h2, h3⟩, h4, h5, h6⟩ := h
  exact ⟨⟨S, h1.mod m (by simp), h2, h3⟩, h4, h5.none m, fun y hy => by have := h6 y hy; have := m.size; omega⟩
theorem QN.add {w' : World} (m : Mod [] w w') {T' : List Nat} (hT : ∀ y ∈ T', w.heap.size ≤ y ∧ y < w'.heap.size) : QN w0 w' g s (T' ++ T) := by
  obtain ⟨⟨S, h1, h2, h3⟩, h4, h5, h6⟩ := h
  have hlt := h1.lt
  refine ⟨⟨S, h1.mod m (by simp), h2, fun y hy hy' => ?_⟩, h4, h5.none m, fun y hy => ?_⟩
  · rcases List.mem_append.1 hy' with h | h
    · have := (hT y h).1; have := hlt y hy; omega
    · exact h3 y hy h
  · rcases List.mem_append.1 hy with h | h
    · exact (hT y h).2
    · have := h6 y h; have := m.size; omega
theorem QN.push (p i : Int) : Does Try.prog 10 #[.pointer (some (base g)), .int .i64 p, .int .i64 i] w fun v w' => v = .int .i64 (s.push p i).1 ∧ QN w0 w' g (s.push p i).2 T ∧ Keep T w w' := by
  obtain ⟨⟨S, h1, h2, h3⟩, h4, h5, h6⟩ := h
  refine (push_ok h1 h4 p i).mono ?_
  rintro _ w' ⟨rfl, S', h', m', f'⟩
  exact ⟨rfl, ⟨⟨S', h', h2.step h5.size f', h3.step h6 f'⟩, Qs.push_good h4 p i, h5.since m' h2, fun y hy => by have := h6 y hy; have := m'.size; omega⟩, S, m', h3⟩
theorem QN.pop : Does Try.prog 12 #[.pointer (some (base g))] w fun v w' => v = .tuple #[.int .i64 s.peek.1, .bool s.peek.2] ∧ QN w0 w' g s.pop T ∧ Keep T w w' := by
  obtain ⟨⟨S, h1, h2, h3⟩, h4, h5, h6⟩ := h
  refine (pop_ok h1).mono ?_
  rintro _ w' ⟨rfl, h', m'⟩
  exact ⟨rfl, ⟨⟨S, h', h2, h3⟩, Qs.pop_good h4, h5.since m' h2, fun y hy => by have := h6 y hy; have := m'.size; omega⟩, S, m', h3⟩
theorem QN.remove (i : Int) : Does Try.prog 14 #[.pointer (some (base g)), .int .i64 i] w fun v w' => v = .bool (s.remove i).1 ∧ QN w0 w' g (s.remove i).2 T ∧ Keep T w w' := by
  obtain ⟨⟨S, h1, h2, h3⟩, h4, h5, h6⟩ := h
  refine (remove_ok h1 h4 i).mono ?_
  rintro _ w' ⟨rfl, h', m'⟩
  exact ⟨rfl, ⟨⟨S, h', h2, h3⟩, Qs.remove_good h4 i, h5.since m' h2, fun y hy => by have := h6 y hy; have := m'.size; omega⟩, S, m', h3⟩
theorem QN.len : Does Try.prog 13 #[.pointer (some (base g))] w fun v w' => v = .int .i64 (s.l.length : Int) ∧ w = w' := by
  obtain ⟨⟨S, h1, _⟩, _⟩ := h
  exact len_ok h1
theorem QN.peek : Does Try.prog 21 #[.pointer (some (base g))] w fun v w' => v = .tuple #[.int .i64 s.peek.1, .bool s.peek.2] ∧ w = w' := by
  obtain ⟨⟨S, h1, _⟩, _⟩ := h
  exact peek_ok h1
/-- The items; their block, where there is one, is guarded from then on. -/
theorem QN.items : Does Try.prog 11 #[.pointer (some (base g))] w fun v w' => ∃ a c, v = .slice a (items s.l).length c ∧ Rd w' a ((items s.l).map iv) ∧ Mod [] w w' ∧ QN w0 w' g s (fpv a ((Go.Proofs.Ytcfppdbinkoobaa.items s.l).map iv) ++ T) := by
  have h' := h
  obtain ⟨⟨S, h1, _⟩, h4, _⟩ := h'
  refine (items_ok h1 h4).mono ?_
  rintro _ w' ⟨a, c, rfl, ra, hc, m, f⟩
  exact ⟨a, c, rfl, ra, m, h.add m (fun y hy => ⟨f y (fpv_sub y hy), ra.lt y hy⟩)⟩
theorem QN.clone : Does Try.prog 20 #[.pointer (some (base g))] w fun v w' => ∃ g' S', v = .pointer (some (base g')) ∧ Qu w' g' S' s ∧ Mod [] w w' ∧ (∀ y ∈ S', w.heap.size ≤ y) ∧ QN w0 w' g s (S' ++ T) := by
  have h' := h
  obtain ⟨⟨S, h1, _⟩, h4, _⟩ := h'
  refine (clone_ok h1 h4).mono ?_
  rintro _ w' ⟨g', S', rfl, hq, m, f⟩
  exact ⟨g', S', rfl, hq, m, f, h.add m (fun y hy => ⟨f y hy, hq.lt y hy⟩)⟩
end

theorem alive_ok (w : World) : Does Try.prog 8 #[] w fun v w' => v = .bool true ∧ Mod [] w w' := by
  apply w8
  unfold F8
  refine (QN.new w 9).mono ?_
  rintro _ w1 ⟨rfl, q1⟩
  refine ⟨_, rfl, (q1.push 5 1).mono ?_⟩
  rintro _ w2 ⟨rfl, q2, _⟩
  refine ⟨_, rfl, (q2.push 3 2).mono ?_⟩
  rintro _ w3 ⟨rfl, q3, _⟩
  refine ⟨_, rfl, (q3.push 5 3).mono ?_⟩
  rintro _ w4 ⟨rfl, q4, _⟩
  refine ⟨_, rfl, (q4.push 3 4).mono ?_⟩
  rintro _ w5 ⟨rfl, q5, _⟩
  refine ⟨_, rfl, q5.items.mono ?_⟩
  rintro _ w6 ⟨a, c, rfl, ra, m6, q6⟩
  refine ⟨_, _, _, rfl, (q6.push 9 1).mono ?_⟩
  rintro _ w7 ⟨rfl, q7, k7⟩
  refine ⟨_, rfl, q7.pop.mono ?_⟩
  rintro _ w8 ⟨rfl, q8, k8⟩
  refine ⟨_, _, rfl, ?_⟩
  have r8 := k8.rd (k7.rd ra (fun y hy => by simp [hy])) (fun y hy => by simp [hy])
  rw [if_pos (by decide), if_pos (by decide), if_pos (by decide), if_pos (by decide)]
  refine New.use fun w9 h9 m9 z9 => ?_
  have q9 := q8.mod m9
  refine (ints_ok (l := items ((((((q0 9).push 5 1).2.push 3 2).2.push 5 3).2.push 3 4).2).l) (m := [2, 4, 1, 3]) c 4 (by decide) (r8.mod m9 (by simp)) (Rd.blk h9)).mono ?_
  rintro _ w10 ⟨rfl, m10⟩
  refine ⟨_, rfl, ?_⟩
  rw [if_pos (by decide), if_pos (by decide), if_pos (by decide), if_pos (by decide)]
  have q10 := q9.mod m10
  refine q10.len.mono ?_
  rintro _ _ ⟨rfl, rfl⟩
  exact ⟨_, rfl, by congr 1, q10.m⟩

section
variable {w : World} {a : Option Addr} (h : Does Try.prog 24 #[.pointer a] w fun v w' => v = .bool false ∧ w = w')
include h
theorem pushN (p i : Int) : Does Try.prog 10 #[.pointer a, .int .i64 p, .int .i64 i] w fun v w' => v = .int .i64 2 ∧ w = w' := by
  apply w10
  unfold F10
  refine h.mono ?_
  rintro _ _ ⟨rfl, rfl⟩
  refine ⟨_, rfl, ?_⟩
  rw [if_pos (by simp)]
  exact ⟨rfl, rfl⟩
theorem peekN : Does Try.prog 21 #[.pointer a] w fun v w' => v = .tuple #[.int .i64 0, .bool false] ∧ w = w' := by
  apply w21
  unfold F21 F21_j1
  refine h.mono ?_
  rintro _ _ ⟨rfl, rfl⟩
  refine ⟨_, rfl, ?_⟩
  rw [if_pos (by simp), if_pos rfl]
  exact ⟨rfl, rfl⟩
theorem popN : Does Try.prog 12 #[.pointer a] w fun v w' => v = .tuple #[.int .i64 0, .bool false] ∧ w = w' := by
  apply w12
  unfold F12
  refine (peekN h).mono ?_
  rintro _ _ ⟨rfl, rfl⟩
  refine ⟨_, _, rfl, ?_⟩
  rw [if_neg (by simp)]
  exact ⟨rfl, rfl⟩
theorem removeN (i : Int) : Does Try.prog 14 #[.pointer a, .int .i64 i] w fun v w' => v = .bool false ∧ w = w' := by
  apply w14
  unfold F14
  refine h.mono ?_
  rintro _ _ ⟨rfl, rfl⟩
  refine ⟨_, rfl, ?_⟩
  rw [if_pos (by simp)]
  exact ⟨rfl, rfl⟩
theorem lenN : Does Try.prog 13 #[.pointer a] w fun v w' => v = .int .i64 0 ∧ w = w' := by
  apply w13
  unfold F13
  refine h.mono ?_
  rintro _ _ ⟨rfl, rfl⟩
  refine ⟨_, rfl, ?_⟩
  rw [if_pos (by simp)]
  exact ⟨rfl, rfl⟩
theorem itemsN : Does Try.prog 11 #[.pointer a] w fun v w' => v = .slice none 0 0 ∧ w = w' := by
  apply w11
  unfold F11
  refine h.mono ?_
  rintro _ _ ⟨rfl, rfl⟩
  refine ⟨_, rfl, ?_⟩
  rw [if_pos (by simp)]
  exact ⟨rfl, rfl⟩
theorem cloneN : Does Try.prog 20 #[.pointer a] w fun v w' => v = .pointer none ∧ w = w' := by
  apply w20
  unfold F20
  refine h.mono ?_
  rintro _ _ ⟨rfl, rfl⟩
  refine ⟨_, rfl, ?_⟩
  rw [if_pos (by simp)]
  exact ⟨rfl, rfl⟩
end
theorem queueNil_ok (p i : Int) (w : World) : Does Try.prog 7 #[.int .i64 p, .int .i64 i] w fun v w' => v = .bool true ∧ Mod [] w w' := by
  apply w7
  unfold F7
  refine New.use fun w1 h1 m1 z1 => ?_
  have n : Does Try.prog 24 #[.pointer none] w1 fun v w' => v = .bool false ∧ w1 = w' := by
    apply w24
    unfold F24
    rw [if_neg (by simp)]
    exact ⟨rfl, rfl⟩
  have z : Does Try.prog 24 #[.pointer (some (base w.heap.size))] w1 fun v w' => v = .bool false ∧ w1 = w' := by
    apply w24
    unfold F24
    rw [if_pos (by simp)]
    exact ⟨_, rfl, false, h1.cell0, rfl, rfl⟩
  refine (popN n).mono ?_
  rintro _ _ ⟨rfl, rfl⟩
  refine ⟨_, _, rfl, (peekN z).mono ?_⟩
  rintro _ _ ⟨rfl, rfl⟩
  refine ⟨_, _, rfl, (pushN n p i).mono ?_⟩
  rintro _ _ ⟨rfl, rfl⟩
  refine ⟨_, rfl, ?_⟩
  rw [if_pos rfl]
  refine (pushN z p i).mono ?_
  rintro _ _ ⟨rfl, rfl⟩
  refine ⟨_, rfl, ?_⟩
  rw [if_pos rfl, if_pos (by simp), if_pos (by simp)]
  refine (removeN n i).mono ?_
  rintro _ _ ⟨rfl, rfl⟩
  refine ⟨_, rfl, ?_⟩
  rw [if_pos (by simp)]
  refine (lenN n).mono ?_
  rintro _ _ ⟨rfl, rfl⟩
  refine ⟨_, rfl, ?_⟩
  rw [if_pos rfl]
  refine (itemsN z).mono ?_
  rintro _ _ ⟨rfl, rfl⟩
  refine ⟨_, _, _, rfl, ?_⟩
  rw [if_pos (by simp)]
  refine (cloneN n).mono ?_
  rintro _ _ ⟨rfl, rfl⟩
  refine ⟨_, rfl, ?_⟩
  rw [if_pos (by simp)]
  refine (cloneN z).mono ?_
  rintro _ _ ⟨rfl, rfl⟩
  refine ⟨_, rfl, ?_⟩
  rw [if_pos (by simp)]
  refine (alive_ok _).mono ?_
  rintro _ w2 ⟨rfl, m2⟩
  exact ⟨_, rfl, rfl, m1.none m2⟩
end Go.Proofs.Ytcfppdbinkoobaa
