/-
  Chapter 37: a table and the reference's, side by side.
-/
import Derived.Test.YtkeaamfpcapioaaAgree
namespace Go.Proofs.Ytkeaamfpcapioaa
open Go Go.Sh Go.Proofs
set_option linter.unusedVariables false
set_option linter.unusedSimpArgs false
set_option linter.unusedSectionVars false

/-- A command whose lists lie in blocks that nobody changes. -/
structure Fz (w0 w : World) (T : List Nat) (c : Cc) : Prop where
  rd : c.rd w
  fz : ∀ y ∈ c.fp, y < w0.heap.size ∨ y ∈ T
theorem Fz.mod {w0 w w' : World} {T T' S : List Nat} {c : Cc} (h : Fz w0 w T c) (m : Mod S w w') (hS : ∀ y ∈ S, w0.heap.size ≤ y ∧ y ∉ T) (hT : ∀ y ∈ T, y ∈ T') : Fz w0 w' T' c :=
  ⟨h.rd.mod m (fun y hy hy' => by have h1 := hS y hy'; rcases h.fz y hy with h2 | h2; omega; exact h1.2 h2), fun y hy => by rcases h.fz y hy with h2 | h2; exact .inl h2; exact .inr (hT y h2)⟩

structure Pr (w0 w : World) (S : List Nat) (g r : Nat) (l lr : List En) (T : List Nat) : Prop where
  ta : Ta w g S l
  rf : Rf w r lr T
  rs : r ∉ S
  srt : srt l
  len : l.length ≤ 256
  rlen : lr.length ≤ 256
  cl : ∀ e ∈ l, Fz w0 w T e.2.2
  cr : ∀ e ∈ lr, Fz w0 w T e.2.2
  sT : ∀ y ∈ S, y ∉ T
  s0 : ∀ y ∈ S, w0.heap.size ≤ y
  r0 : w0.heap.size ≤ r
  lt : ∀ y ∈ T, y < w.heap.size
  m : Mod [] w0 w
section
variable {w0 w : World} {S : List Nat} {g r : Nat} {l lr : List En} {T : List Nat} (h : Pr w0 w S g r l lr T)
include h
theorem Pr.rlt : r < w.heap.size := by
  obtain ⟨⟨_, _, _, _, _, _, hb, _⟩, _⟩ := h.rf
  exact hb.lt
/-- Something else was changed: M lies apart. -/
theorem Pr.grow {w' : World} {M T' : List Nat} (m : Mod M w w') (hM : ∀ y ∈ M, w0.heap.size ≤ y ∧ y ∉ T ∧ y ∉ S ∧ y ≠ r) (hT : ∀ y ∈ T, y ∈ T') (hN : ∀ y ∈ T', y ∈ T ∨ (w.heap.size ≤ y ∧ y < w'.heap.size)) : Pr w0 w' S g r l lr T' := by
  have hrl := h.rlt
  have hsl := h.ta.lt
  have rf' := h.rf.mod m (fun hh => (hM r hh).2.2.2 rfl) (fun y hy hy' => (hM y hy').2.1 hy)
  have hM' : ∀ y ∈ M, w0.heap.size ≤ y ∧ y ∉ T := fun y hy => ⟨(hM y hy).1, (hM y hy).2.1⟩
  refine ⟨h.ta.mod m (fun y hy hy' => (hM y hy').2.2.1 hy), ?_, h.rs, h.srt, h.len, h.rlen, fun e he => (h.cl e he).mod m hM' hT, fun e he => (h.cr e he).mod m hM' hT, fun y hy hy' => ?_, h.s0, h.r0, fun y hy => ?_, h.m.trans m (fun y hy => .inr (hM y hy).1)⟩
  · obtain ⟨⟨ae, ce, ac, cc, ao, co, hb, r1, r2, r3, l1, l2, l3, t1, t2, t3⟩, nr⟩ := rf'
    refine ⟨⟨ae, ce, ac, cc, ao, co, hb, r1, r2, r3, l1, l2, l3, fun y hy => hT y (t1 y hy), fun y hy => hT y (t2 y hy), fun y hy => hT y (t3 y hy)⟩, fun hh => ?_⟩
    rcases hN r hh with h2 | h2
    · exact nr h2
    · omega
  · rcases hN y hy' with h2 | h2
    · exact h.sT y hy h2
    · have := hsl y hy; omega
  · rcases hN y hy with h2 | h2
    · have := h.lt y h2; have := m.size; omega
    · exact h2.2
theorem Pr.mod {w' : World} (m : Mod [] w w') : Pr w0 w' S g r l lr T := h.grow m (by simp) (fun y hy => hy) (fun y hy => .inl hy)
/-- The table was changed. -/
theorem Pr.table {w' : World} {S' : List Nat} {l' : List En} {N : List Nat} (ta : Ta w' g S' l') (m : Mod S w w') (hS : ∀ y ∈ S', y ∈ S ∨ w.heap.size ≤ y) (hN : ∀ y ∈ N, w.heap.size ≤ y ∧ y < w'.heap.size ∧ y ∉ S') (hs : Go.Proofs.Ytkeaamfpcapioaa.srt l') (hl : l'.length ≤ 256) (hc : ∀ e ∈ l', e ∈ l ∨ (e.1 = e.1 ∧ (∃ e0 ∈ l, e.2.2 = e0.2.2)) ∨ (e.2.2.rd w' ∧ ∀ y ∈ e.2.2.fp, y ∈ N)) : Pr w0 w' S' g r l' lr (N ++ T) := by
  have hrl := h.rlt
  have hw := h.m.size
  have hM' : ∀ y ∈ S, w0.heap.size ≤ y ∧ y ∉ T := fun y hy => ⟨h.s0 y hy, h.sT y hy⟩
  have hT : ∀ y ∈ T, y ∈ N ++ T := fun y hy => by simp [hy]
  have rf' := h.rf.mod m h.rs (fun y hy hy' => h.sT y hy' hy)
  refine ⟨ta, ?_, fun hh => ?_, hs, hl, h.rlen, fun e he => ?_, fun e he => (h.cr e he).mod m hM' hT, fun y hy hy' => ?_, fun y hy => ?_, h.r0, fun y hy => ?_, h.m.trans m (fun y hy => .inr (h.s0 y hy))⟩
  · obtain ⟨⟨ae, ce, ac, cc, ao, co, hb, r1, r2, r3, l1, l2, l3, t1, t2, t3⟩, nr⟩ := rf'
    refine ⟨⟨ae, ce, ac, cc, ao, co, hb, r1, r2, r3, l1, l2, l3, fun y hy => hT y (t1 y hy), fun y hy => hT y (t2 y hy), fun y hy => hT y (t3 y hy)⟩, fun hh => ?_⟩
    rcases List.mem_append.1 hh with h2 | h2
    · have := (hN r h2).1; omega
    · exact nr h2
  · rcases hS r hh with h2 | h2
    · exact h.rs h2
    · omega
  · rcases hc e he with h2 | ⟨_, e0, h2, h3⟩ | ⟨h2, h3⟩
    · exact (h.cl e h2).mod m hM' hT
    · rw [h3]; exact (h.cl e0 h2).mod m hM' hT
    · exact ⟨h2, fun y hy => .inr (by simp [h3 y hy])⟩
  · rcases List.mem_append.1 hy' with h2 | h2
    · exact (hN y h2).2.2 hy
    · rcases hS y hy with h3 | h3
      · exact h.sT y h3 h2
      · have := h.lt y h2; omega
  · rcases hS y hy with h2 | h2
    · exact h.s0 y h2
    · omega
  · rcases List.mem_append.1 hy with h2 | h2
    · exact (hN y h2).2.1
    · have := h.lt y h2; have := m.size; omega
/-- The reference was changed. -/
theorem Pr.ref {w' : World} {lr' : List En} (hr : RefR w r T lr' w') (hl : lr'.length ≤ 256) (hc : ∀ e ∈ lr', Fz w0 w T e.2.2) : ∃ T', Pr w0 w' S g r l lr' T' ∧ Mod [r] w w' ∧ (∀ y ∈ T, y ∈ T') ∧ ∀ y ∈ T', y ∈ T ∨ (w.heap.size ≤ y ∧ y < w'.heap.size) := by
  obtain ⟨T', rf, m, h1, h2⟩ := hr
  have hM' : ∀ y ∈ [r], w0.heap.size ≤ y ∧ y ∉ T := fun y hy => by simp at hy; subst hy; exact ⟨h.r0, h.rf.nr⟩
  refine ⟨T', ⟨h.ta.mod m (fun y hy hy' => by simp at hy'; subst hy'; exact h.rs hy), rf, h.rs, h.srt, h.len, hl, fun e he => (h.cl e he).mod m hM' h1, fun e he => (hc e he).mod m hM' h1, fun y hy hy' => ?_, h.s0, h.r0, fun y hy => ?_, h.m.trans m (fun y hy => .inr (hM' y hy).1)⟩, m, h1, h2⟩
  · rcases h2 y hy' with h3 | h3
    · exact h.sT y hy h3
    · have := h.ta.lt y hy; omega
  · rcases h2 y hy with h3 | h3
    · have := h.lt y h3; have := m.size; omega
    · exact h3.2
end
end Go.Proofs.Ytkeaamfpcapioaa
