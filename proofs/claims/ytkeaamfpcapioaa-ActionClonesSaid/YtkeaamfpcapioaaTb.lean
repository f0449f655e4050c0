/-
  Chapter 37: a table alone; the example; small.
-/
import Derived.Test.YtkeaamfpcapioaaStep
namespace Go.Proofs.Ytkeaamfpcapioaa
open Go Go.Sh Go.Proofs
set_option linter.unusedVariables false
set_option linter.unusedSimpArgs false
set_option linter.unusedSectionVars false

structure Tb (w0 w : World) (g : Nat) (l : List En) (T : List Nat) : Prop where
  ex : ∃ S, Ta w g S l ∧ (∀ y ∈ S, y ∉ T) ∧ (∀ y ∈ S, w0.heap.size ≤ y)
  srt : srt l
  len : l.length ≤ 256
  cl : ∀ e ∈ l, Fz w0 w T e.2.2
  lt : ∀ y ∈ T, y < w.heap.size
  m : Mod [] w0 w
def Keep (T : List Nat) (w0 w w' : World) : Prop := ∃ S, Mod S w w' ∧ (∀ y ∈ S, y ∉ T) ∧ ∀ y ∈ S, w0.heap.size ≤ y
theorem Keep.blk {T : List Nat} {w0 w w' : World} (k : Keep T w0 w w') {g t : Nat} {vs : List Value} (h : Blk w g t vs) (hT : g ∈ T) : Blk w' g t vs := by
  obtain ⟨S, m, ap, _⟩ := k
  exact h.mod m (fun hg => ap g hg hT)
theorem Keep.own {T : List Nat} {w0 w w' : World} (k : Keep T w0 w w') {e : TypeId} {z n c : Nat} {a : Option Addr} {vs : List Value} (h : Own w e z a n c vs) (hT : ∀ y ∈ fp a, y ∈ T) : Own w' e z a n c vs := by
  obtain ⟨S, m, ap, _⟩ := k
  exact h.mod m (fun y hy hy' => ap y hy' (hT y hy))
theorem Keep.fz {T T' : List Nat} {w0 w w' : World} (k : Keep T w0 w w') {c : Cc} (h : Fz w0 w T c) (hT : ∀ y ∈ T, y ∈ T') : Fz w0 w' T' c := by
  obtain ⟨S, m, ap, s0⟩ := k
  exact h.mod m (fun y hy => ⟨s0 y hy, ap y hy⟩) hT
theorem Tb.new (w0 : World) : Does Try.prog 7 #[] w0 fun v w' => v = .pointer (some (base w0.heap.size)) ∧ Tb w0 w' w0.heap.size [] [] := by
  refine (tnew_ok w0).mono ?_
  rintro _ w' ⟨rfl, ta, m⟩
  exact ⟨rfl, ⟨_, ta, by simp, by intro y hy; simp at hy; omega⟩, List.Pairwise.nil, by simp, by simp, by simp, m⟩
section
variable {w0 w : World} {g : Nat} {l : List En} {T : List Nat} (h : Tb w0 w g l T)
include h
theorem Tb.re {w' : World} (m : Mod [] w w') {T' : List Nat} (hT : ∀ y ∈ T, y ∈ T') (hN : ∀ y ∈ T', y ∈ T ∨ (w.heap.size ≤ y ∧ y < w'.heap.size)) : Tb w0 w' g l T' := by
  obtain ⟨⟨S, ta, sT, s0⟩, h2, h3, h4, h5, h6⟩ := h
  refine ⟨⟨S, ta.mod m (by simp), fun y hy hy' => ?_, s0⟩, h2, h3, fun e he => (h4 e he).mod m (by simp) hT, fun y hy => ?_, h6.none m⟩
  · rcases hN y hy' with hh | hh
    · exact sT y hy hh
    · have := ta.lt y hy; omega
  · rcases hN y hy with hh | hh
    · have := h5 y hh; have := m.size; omega
    · exact hh.2
theorem Tb.mod {w' : World} (m : Mod [] w w') : Tb w0 w' g l T := h.re m (fun y hy => hy) (fun y hy => .inl hy)
theorem Tb.add' (ev : Int) {c : Cc} (hc : Fz w0 w T c) : Does Try.prog 13 #[.pointer (some (base g)), .int .i64 ev, c.val] w fun v w' => v = .int .i64 (addE l ev) ∧ Keep T w0 w w' ∧ ∃ c' T', c'.say = c.say ∧ Tb w0 w' g (addL l ev c') T' ∧ (∀ y ∈ T, y ∈ T') ∧ (addE l ev = 0 → ∀ y ∈ c'.fp, w.heap.size ≤ y) := by
  obtain ⟨⟨S, ta, sT, s0⟩, h2, h3, h4, h5, h6⟩ := h
  refine (tadd_ok ta h2 h3 ev hc.rd).mono ?_
  rintro _ w' ⟨rfl, S', c', ta', hsay, m, hS, hnew⟩
  have z := h6.size
  have hM : ∀ y ∈ S, w0.heap.size ≤ y ∧ y ∉ T := fun y hy => ⟨s0 y hy, sT y hy⟩
  have s0' : ∀ y ∈ S', w0.heap.size ≤ y := fun y hy => by rcases hS y hy with hh | hh; exact s0 y hh; omega
  have sT' : ∀ y ∈ S', y ∉ T := fun y hy hy' => by rcases hS y hy with hh | hh; exact sT y hh hy'; have := h5 y hy'; omega
  refine ⟨rfl, ⟨S, m, sT, s0⟩, c', ?_⟩
  by_cases h0 : addE l ev = 0
  · obtain ⟨hrd, hf, hS2⟩ := hnew h0
    refine ⟨c'.fp ++ T, hsay, ⟨⟨S', ta', fun y hy hy' => ?_, s0'⟩, srt_add h2 ev c', len_add h3 ev c', fun e he => ?_, fun y hy => ?_, h6.trans m (fun y hy => .inr (s0 y hy))⟩, fun y hy => by simp [hy], fun _ => hf⟩
    · rcases List.mem_append.1 hy' with hh | hh
      · exact hS2 y hh hy
      · exact sT' y hy hh
    · rcases add_mem he with hh | ⟨rfl, _⟩
      · exact (h4 e hh).mod m hM (fun y hy => by simp [hy])
      · exact ⟨hrd, fun y hy => .inr (by simp [hy])⟩
    · rcases List.mem_append.1 hy with hh | hh
      · exact hrd.lt y hh
      · have := h5 y hh; have := m.size; omega
  · refine ⟨T, hsay, ⟨⟨S', ta', sT', s0'⟩, srt_add h2 ev c', len_add h3 ev c', fun e he => ?_, fun y hy => ?_, h6.trans m (fun y hy => .inr (s0 y hy))⟩, fun y hy => hy, fun h => absurd h h0⟩
    · rcases add_mem he with hh | ⟨_, hh⟩
      · exact (h4 e hh).mod m hM (fun y hy => hy)
      · exact absurd hh h0
    · have := h5 y hy; have := m.size; omega
theorem Tb.add (ev : Int) {c : Cc} (hc : Fz w0 w T c) : Does Try.prog 13 #[.pointer (some (base g)), .int .i64 ev, c.val] w fun v w' => v = .int .i64 (addE l ev) ∧ Keep T w0 w w' ∧ ∃ c' T', c'.say = c.say ∧ Tb w0 w' g (addL l ev c') T' ∧ ∀ y ∈ T, y ∈ T' :=
  (h.add' ev hc).mono fun v w' ⟨h1, h2, c', T', h3, h4, h5, _⟩ => ⟨h1, h2, c', T', h3, h4, h5⟩
/-- A store into a guarded block that no command lies in. -/
theorem Tb.put {x : Nat} (hx : x ∈ T) (h0 : w0.heap.size ≤ x) (hn : ∀ e ∈ l, x ∉ e.2.2.fp) {w' : World} (m : Mod [x] w w') : Tb w0 w' g l T := by
  obtain ⟨⟨S, ta, sT, s0⟩, h2, h3, h4, h5, h6⟩ := h
  refine ⟨⟨S, ta.mod m (fun y hy hy' => ?_), sT, s0⟩, h2, h3, fun e he => ⟨(h4 e he).rd.mod m (fun y hy hy' => ?_), (h4 e he).fz⟩, fun y hy => by have := h5 y hy; have := m.size; omega, h6.trans m (fun y hy => .inr ?_)⟩
  · simp at hy'; subst hy'; exact sT y hy hx
  · simp at hy'; subst hy'; exact hn e he hy
  · simp at hy; subst hy; exact h0
theorem Tb.del (ev : Int) : Does Try.prog 14 #[.pointer (some (base g)), .int .i64 ev] w fun v w' => v = .int .i64 (delE l ev) ∧ Tb w0 w' g (delL l ev) T ∧ Keep T w0 w w' := by
  obtain ⟨⟨S, ta, sT, s0⟩, h2, h3, h4, h5, h6⟩ := h
  refine (tdel_ok ta h2 h3 ev).mono ?_
  rintro _ w' ⟨rfl, ta', m⟩
  exact ⟨rfl, ⟨⟨S, ta', sT, s0⟩, srt_del h2 ev, len_del h3 ev, fun e he => (h4 e (del_mem he)).mod m (fun y hy => ⟨s0 y hy, sT y hy⟩) (fun y hy => hy), fun y hy => by have := h5 y hy; have := m.size; omega, h6.trans m (fun y hy => .inr (s0 y hy))⟩, S, m, sT, s0⟩
theorem Tb.en (ev : Int) (on : Bool) : Does Try.prog 15 #[.pointer (some (base g)), .int .i64 ev, .bool on] w fun v w' => v = .int .i64 (enE l ev) ∧ Tb w0 w' g (enL l ev on) T ∧ Keep T w0 w w' := by
  obtain ⟨⟨S, ta, sT, s0⟩, h2, h3, h4, h5, h6⟩ := h
  refine (ten_ok ta h2 h3 ev on).mono ?_
  rintro _ w' ⟨rfl, ta', m⟩
  refine ⟨rfl, ⟨⟨S, ta', sT, s0⟩, srt_en h2 ev on, len_en h3 ev on, fun e he => ?_, fun y hy => by have := h5 y hy; have := m.size; omega, h6.trans m (fun y hy => .inr (s0 y hy))⟩, S, m, sT, s0⟩
  obtain ⟨e0, h0, h0'⟩ := en_mem he
  rw [h0']
  exact (h4 e0 h0).mod m (fun y hy => ⟨s0 y hy, sT y hy⟩) (fun y hy => hy)
theorem Tb.fnd (ev : Int) : Does Try.prog 16 #[.pointer (some (base g)), .int .i64 ev] w fun v w' => ∃ c' : Cc, v = .tuple #[c'.val, .bool (fndB l ev)] ∧ c'.say = (fndC l ev).say ∧ c'.rd w' ∧ (∀ y ∈ c'.fp, w.heap.size ≤ y) ∧ Mod [] w w' := by
  obtain ⟨⟨S, ta, sT, s0⟩, h2, h3, h4, h5, h6⟩ := h
  exact tfnd_ok ta h2 h3 ev (fun e he => (h4 e he).rd)
theorem Tb.events : Does Try.prog 12 #[.pointer (some (base g))] w (GivesL w (evs l)) := by
  obtain ⟨⟨S, ta, sT, s0⟩, h2, h3, h4, h5, h6⟩ := h
  exact events_ok ta h3
end
end Go.Proofs.Ytkeaamfpcapioaa
