/-
  The contracts of chapter 8: lists of items; lists held against each other; the examples.
-/
import Derived.Test.YtcfppdbinkoobaaRef
namespace Go.Proofs.Ytcfppdbinkoobaa
open Go Go.Sh Go.Proofs
set_option linter.unusedVariables false
set_option linter.unusedSimpArgs false
set_option linter.unusedSectionVars false

def items (l : List Qe) : List Int := l.map (·.2)
theorem items_take (l : List Qe) {t : Nat} (ht : t < l.length) : (items (l.take (t + 1))).map iv = (items (l.take t)).map iv ++ [iv l[t].2] := by
  unfold items
  rw [List.take_succ_eq_append_getElem ht, List.map_append, List.map_append]
  rfl
def GivesL (w : World) (l : List Int) (v : Value) (w' : World) : Prop := ∃ a c, v = .slice a l.length c ∧ Rd w' a (l.map iv) ∧ l.length ≤ c ∧ Mod [] w w' ∧ ∀ y ∈ fp a, w.heap.size ≤ y

def It (w0 : World) (l : List Qe) (x : Option Addr × Nat × Nat × Int) (w : World) : Prop :=
  ∃ (a : Option Addr) (c t : Nat), t ≤ l.length ∧ x = (a, t, c, (t : Int)) ∧ Own w 3 1 a t c ((items (l.take t)).map iv) ∧ Mod [] w0 w ∧ ∀ y ∈ fp a, w0.heap.size ≤ y
theorem it_step {w0 w1 w2 : World} {l : List Qe} {a : Option Addr} {c t : Nat} (ht : t < l.length) (hl : l.length ≤ 1000) (ho : Own w1 3 1 a t c ((items (l.take t)).map iv)) (m1 : Mod [] w0 w1) (hf : ∀ y ∈ fp a, w0.heap.size ≤ y) {q : Nat} (hq : Blk w2 q 3 [iv l[t].2]) (m2 : Mod [] w1 w2) :
    ∃ a' c' w3, (Builtin.append_ #[22, 22] 22 #[.slice a t c, .slice (some (base q)) 1 1]).run Try.prog w2 = .ok (.slice a' (t + 1) c') w3 ∧ It w0 l (a', t + 1, c', ((t + 1 : Nat) : Int)) w3 := by
  obtain ⟨a', c', w3, run, o3, m3, f3⟩ := append_own (d := 1) Try.underlying22 elem3 22 (ho.mod m2 (by simp)) (Rd.blk hq) (m := 1) rfl (by simp [iv, one]) (by omega) (by omega)
  rw [← items_take l ht] at o3
  have z := (m1.none m2).size
  refine ⟨a', c', w3, run, a', c', t + 1, by omega, rfl, o3, (m1.none m2).trans m3 (fun y hy => .inr (hf y hy)), fun y hy => ?_⟩
  rcases f3 with h | h <;> rw [h] at hy
  · exact hf y hy
  · simp at hy; omega

theorem items_ok {w : World} {g : Nat} {S : List Nat} {s : Qs} (h : Qu w g S s) (hg : s.good) : Does Try.prog 11 #[.pointer (some (base g))] w (GivesL w (items s.l)) := by
  have hgl := hg.2
  apply w11
  unfold F11
  refine (usable_ok h).mono ?_
  rintro _ _ ⟨rfl, rfl⟩
  obtain ⟨a, c, rfl, hb, ho⟩ := h
  refine ⟨_, rfl, ?_⟩
  rw [if_neg (by simp)]
  refine ⟨_, rfl, _, _, _, hb.cell (i := 2) rfl, ?_⟩
  have hil : (items s.l).length = s.l.length := by simp [items]
  refine LoopP.of (It w s.l) (fun x _ => s.l.length - x.2.2.2.toNat) ⟨none, 0, 0, by omega, rfl, Own.nil, Mod.refl _, by simp [fp]⟩ ?_
  rintro _ w1 ⟨x, k, t, ht, rfl, o1, m1, f1⟩
  unfold F11_b1
  dsimp only
  by_cases hlt : t < s.l.length
  · rw [if_pos (by omega)]
    obtain ⟨p, rfl, hc⟩ := (ho.rd.mod m1 (by simp)).flat (ev_len _) (by decide) hlt
    refine ⟨p, rfl, by omega, by omega, _, _, ⟨hc 0 _ rfl, hc 1 _ rfl, trivial⟩, ?_⟩
    refine New.put rfl fun w2 h2 m2 z2 => ?_
    refine ⟨_, h2.cell (i := 1) rfl, ?_⟩
    refine New.use fun w3 h3 m3 z3 => ?_
    obtain ⟨a', c', w4, run, it⟩ := it_step hlt (by omega) o1 m1 f1 h3 (m2.none m3)
    refine ⟨_, _, _, w4, run, ?_⟩
    rw [wi64 (by omega)]
    exact ⟨_, by omega, it, rfl⟩
  · rw [if_neg (by omega)]
    have : t = s.l.length := by omega
    subst this
    rw [List.take_of_length_le (Nat.le_refl _)] at o1
    exact ⟨x, k, by rw [hil], o1.rd, by rw [hil]; exact o1.le, m1, f1⟩
theorem refItems_ok {w : World} {s : Qs} {a : Option Addr} {c : Nat} (hr : Rd w a (s.l.flatMap ev)) (hc : s.l.length ≤ c) (hg : s.good) : Does Try.prog 23 #[s.val a c] w (GivesL w (items s.l)) := by
  have hgl := hg.2
  apply w23
  unfold F23
  refine New.use fun w0 h0 m0 z0 => ?_
  have hil : (items s.l).length = s.l.length := by simp [items]
  refine LoopP.of (It w0 s.l) (fun x _ => s.l.length - x.2.2.2.toNat) ⟨none, 0, 0, by omega, rfl, Own.nil, Mod.refl _, by simp [fp]⟩ ?_
  rintro _ w1 ⟨x, k, t, ht, rfl, o1, m1, f1⟩
  unfold F23_b1
  dsimp only
  have h1 := h0.mod m1 (by simp)
  refine ⟨_, _, _, h1.cell (i := 1) rfl, ?_⟩
  by_cases hlt : t < s.l.length
  · rw [if_pos (by omega)]
    obtain ⟨p, rfl, hc⟩ := (hr.mod (m0.none m1) (by simp)).flat (ev_len _) (by decide) hlt
    refine ⟨_, _, _, h1.cell (i := 1) rfl, p, rfl, by omega, by omega, _, hc 1 _ rfl, ?_⟩
    refine New.use fun w3 h3 m3 z3 => ?_
    obtain ⟨a', c', w4, run, it⟩ := it_step hlt (by omega) o1 m1 f1 h3 m3
    refine ⟨_, _, _, w4, run, ?_⟩
    rw [wi64 (by omega)]
    exact ⟨_, by omega, it, rfl⟩
  · rw [if_neg (by omega)]
    have : t = s.l.length := by omega
    subst this
    rw [List.take_of_length_le (Nat.le_refl _)] at o1
    exact ⟨x, k, by rw [hil], o1.rd, by rw [hil]; exact o1.le, m0.none m1, fun y hy => by have := f1 y hy; omega⟩

theorem ints_ok {w : World} {a b : Option Addr} {l m : List Int} (c d : Nat) (hl : l.length ≤ 100000) (ha : Rd w a (l.map iv)) (hb : Rd w b (m.map iv)) : Does Try.prog 15 #[.slice a l.length c, .slice b m.length d] w fun v w' => v = .bool (decide (l = m)) ∧ Mod [] w w' := by
  apply w15
  unfold F15
  refine iteI (fun hne => ⟨congrArg Value.bool (decide_eq_false (fun e => hne (by rw [e]))).symm, Mod.refl _⟩) (fun heq => ?_)
  have heq : l.length = m.length := by omega
  refine LoopP.of (fun (x : Int) w' => ∃ i : Nat, i ≤ l.length ∧ x = (i : Int) ∧ l.take i = m.take i ∧ Mod [] w w') (fun x _ => l.length - x.toNat) ⟨0, by omega, rfl, by simp, Mod.refl _⟩ ?_
  rintro _ w1 ⟨i, hi, rfl, he, m1⟩
  unfold F15_b1
  by_cases hlt : i < l.length
  · rw [if_pos (by omega)]
    have M := m1.none (Mod.drew (S := []) w1)
    obtain ⟨p, rfl, hc⟩ := rd_get (ha.mod M (by simp)) hlt
    obtain ⟨q, rfl, hc'⟩ := rd_get (hb.mod M (by simp)) (show i < m.length by omega)
    refine ⟨p, rfl, by omega, by omega, _, hc, q, rfl, by omega, by omega, _, hc', iteI (fun hne => ?_) (fun hne => ?_)⟩
    · refine ⟨congrArg Value.bool (decide_eq_false (fun e => hne ?_)).symm, M⟩
      subst e; rfl
    · rw [wi64 (by omega)]
      refine ⟨_, by omega, ⟨i + 1, by omega, rfl, ?_, M⟩, rfl⟩
      rw [List.take_succ_eq_append_getElem hlt, List.take_succ_eq_append_getElem (show i < m.length by omega), he]
      simp at hne
      rw [hne]
  · rw [if_neg (by omega)]
    have : i = l.length := by omega
    subst this
    rw [List.take_of_length_le (Nat.le_refl _), heq, List.take_of_length_le (Nat.le_refl _)] at he
    exact ⟨congrArg Value.bool (decide_eq_true he).symm, m1⟩
end Go.Proofs.Ytcfppdbinkoobaa
