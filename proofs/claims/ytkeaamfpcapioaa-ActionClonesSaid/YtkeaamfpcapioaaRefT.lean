/-
  The contracts of chapter 37: the reference's table: growing lists; at, Add.
-/
import Derived.Test.YtkeaamfpcapioaaTabOps3
namespace Go.Proofs.Ytkeaamfpcapioaa
open Go Go.Sh Go.Proofs
set_option linter.unusedVariables false
set_option linter.unusedSimpArgs false
set_option linter.unusedSectionVars false

/-- How the elements of a list lie in cells. -/
structure Row (α : Type) where
  t : Nat
  e : Nat
  z : Nat
  bytes : Nat
  f : α → List Value
  ht : Try.prog.underlying t = some (.slice e)
  he : Elem Try.prog e z bytes
  hz : ∀ x, (f x).length = z
  h1 : ∀ x, ∀ u ∈ f x, one u = true
  hb : bytes ≤ 1000
theorem elem36 : Elem Try.prog 36 5 72 := Elem.of (v := .agg #[.int .i64 0, .int .i64 0, .int .i64 0, .slice none 0 0, .slice none 0 0]) (by kernel_rfl) rfl (by decide)
theorem elem4 : Elem Try.prog 4 1 1 := Elem.of (v := .bool false) (by kernel_rfl) rfl (by decide)
abbrev rowE : Row Int := ⟨27, 3, 1, 8, fun n => [.int .i64 n], Try.underlying27, elem3, fun _ => rfl, by intro x u hu; simp at hu; subst hu; rfl, by decide⟩
abbrev rowC : Row Cc := ⟨28, 36, 5, 72, Cc.cells, Try.underlying28, elem36, fun _ => rfl, by intro x u hu; simp [Cc.cells] at hu; rcases hu with rfl | rfl | rfl | rfl | rfl <;> rfl, by decide⟩
abbrev rowO : Row Bool := ⟨29, 4, 1, 1, fun b => [.bool b], Try.underlying29, elem4, fun _ => rfl, by intro x u hu; simp at hu; subst hu; rfl, by decide⟩
section
variable {α : Type}
def Row.cells (R : Row α) (l : List α) : List Value := l.flatMap R.f
theorem Row.len (R : Row α) (l : List α) : (R.cells l).length = l.length * R.z := flat_len R.f l (fun x _ => R.hz x)
/-- A list that is made anew since w0. -/
structure Gr (R : Row α) (w0 w : World) (a : Option Addr) (n c : Nat) (l : List α) : Prop where
  len : n = l.length
  o : Own w R.e R.z a n c (R.cells l)
  s : Since w0 (fp a)
  m : Mod [] w0 w
theorem Gr.mod {R : Row α} {w0 w w' : World} {a : Option Addr} {n c : Nat} {l : List α} (h : Gr R w0 w a n c l) (m : Mod [] w w') : Gr R w0 w' a n c l := ⟨h.len, h.o.mod m (by simp), h.s, h.m.none m⟩
theorem Gr.start {R : Row α} {w0 w : World} {q : Nat} (hq : Blk w q R.e []) (m : Mod [] w0 w) (h0 : w0.heap.size ≤ q) : Gr R w0 w (some (base q)) 0 0 [] :=
  ⟨rfl, Own.blk hq (by simp [Row.cells]) (by decide), by intro y hy; simp [fp, base] at hy; omega, m⟩
theorem Gr.app {R : Row α} {w0 w : World} {a : Option Addr} {n c : Nat} {l : List α} (h : Gr R w0 w a n c l) {y : Option Addr} {k d : Nat} {m : List α} (hk : k = m.length) (hr : Rd w y (R.cells m)) (hl : n + k ≤ 100000) :
    ∃ a' n' c' w', (Builtin.append_ #[R.t, R.t] R.t #[.slice a n c, .slice y k d]).run Try.prog w = .ok (.slice a' n' c') w' ∧ Gr R w0 w' a' n' c' (l ++ m) ∧ Mod (fp a) w w' := by
  subst hk
  have hb := R.hb
  have hbl : (n + m.length) * R.bytes ≤ 100000 * 1000 := Nat.mul_le_mul hl hb
  obtain ⟨a', c', w', run, o2, m2, f2⟩ := append_own (d := d) R.ht R.he R.t h.o hr (m := m.length) (R.len m) (flat_one R.f m R.h1) (by omega) (by omega)
  refine ⟨a', n + m.length, c', w', run, ⟨by rw [h.len, List.length_append], by unfold Row.cells at o2 ⊢; rw [List.flatMap_append]; exact o2, fun y hy => ?_, h.m.since m2 h.s⟩, m2⟩
  rcases f2 with f | f <;> rw [f] at hy
  · exact h.s y hy
  · have := h.m.size; simp at hy; omega
end

/-- The reference's table in block r. -/
structure Rf (w : World) (r : Nat) (l : List En) (T : List Nat) : Prop where
  blk : ∃ ae ce ac cc ao co, Blk w r 31 [.slice ae l.length ce, .slice ac l.length cc, .slice ao l.length co] ∧ Rd w ae (rowE.cells (l.map (·.1))) ∧ Rd w ac (rowC.cells (l.map (·.2.2))) ∧ Rd w ao (rowO.cells (l.map (·.2.1))) ∧ l.length ≤ ce ∧ l.length ≤ cc ∧ l.length ≤ co ∧
    (∀ y ∈ fpv ae (rowE.cells (l.map (·.1))), y ∈ T) ∧ (∀ y ∈ fpv ac (rowC.cells (l.map (·.2.2))), y ∈ T) ∧ (∀ y ∈ fpv ao (rowO.cells (l.map (·.2.1))), y ∈ T)
  nr : r ∉ T
theorem Rf.mod {w w' : World} {r : Nat} {l : List En} {T S : List Nat} (h : Rf w r l T) (m : Mod S w w') (hr : r ∉ S) (hT : ∀ y ∈ T, y ∉ S) : Rf w' r l T := by
  obtain ⟨⟨ae, ce, ac, cc, ao, co, hb, h1, h2, h3, l1, l2, l3, t1, t2, t3⟩, nr⟩ := h
  exact ⟨⟨ae, ce, ac, cc, ao, co, hb.mod m hr, h1.modv m (fun y hy => hT y (t1 y hy)), h2.modv m (fun y hy => hT y (t2 y hy)), h3.modv m (fun y hy => hT y (t3 y hy)), l1, l2, l3, t1, t2, t3⟩, nr⟩

theorem rat_ok {w : World} {r : Nat} {l : List En} {T : List Nat} (h : Rf w r l T) (hl : l.length ≤ 256) (ev : Int) : Does Try.prog 30 #[.pointer (some (base r)), .int .i64 ev] w fun v w' => v = .tuple #[.int .i64 (kx ev l : Int), .bool (isE ev l)] ∧ Mod [] w w' := by
  obtain ⟨⟨ae, ce, ac, cc, ao, co, hb, h1, h2, h3, l1, l2, l3, t1, t2, t3⟩, nr⟩ := h
  apply w30
  unfold F30
  have rE : ∀ {w' : World}, Mod [] w w' → ∀ i (hi : i < l.length), ∃ p, ae = some p ∧ w'.cell? (p.add i) = some (.int .i64 l[i].1) := by
    intro w' m i hi
    obtain ⟨p, hp, hc⟩ := (h1.mod m (by simp)).flat (f := rowE.f) (L := l.map (·.1)) (z := 1) (fun _ _ => rfl) (by decide) (i := i) (by simpa using hi)
    refine ⟨p, hp, ?_⟩
    have := hc 0 (.int .i64 l[i].1) (by simp)
    rw [add_zero, Nat.mul_one] at this
    exact this
  refine LoopP.of (fun (x : Int) w' => ∃ i : Nat, i ≤ l.length ∧ x = (i : Int) ∧ Mod [] w w' ∧ ∀ j (hj : j < i) (hjl : j < l.length), l[j].1 < ev) (fun x _ => l.length - x.toNat) ⟨0, by omega, rfl, Mod.refl _, by omega⟩ ?_
  rintro _ w1 ⟨i, hi, rfl, m1, hb1⟩
  unfold F30_b1
  have b1 := hb.mod m1 (by simp)
  have b2 : Blk w1.drew _ _ _ := b1.drew
  have md : Mod [] w w1.drew := m1.none (Mod.drew w1)
  refine ⟨_, rfl, _, _, _, b1.cell0, iteI (fun hlt => ?_) (fun hlt => ?_)⟩
  · have hlt : i < l.length := by omega
    obtain ⟨p, hp, hc⟩ := rE m1 i hlt
    obtain ⟨p', hp', hc'⟩ := rE md i hlt
    rw [hp] at hp'
    cases hp'
    refine ⟨_, _, _, b1.cell0, p, hp, by omega, by omega, _, hc, iteI (fun hh => ?_) (fun hh => ?_)⟩
    · rw [wi64 (by omega)]
      refine ⟨_, by omega, ⟨i + 1, by omega, rfl, m1, fun j hj hjl => ?_⟩, rfl⟩
      by_cases hji : j = i
      · subst hji; exact hh
      · exact hb1 j (by omega) hjl
    · have e : kx ev l = i := fidx_cut _ l i hi (fun k hk => by have := hb1 k hk (by omega); simp [geE]; omega) (fun h => by simp [geE]; omega)
      refine ⟨_, _, _, b2.cell0, ?_⟩
      rw [if_pos (by omega)]
      refine ⟨_, _, _, b2.cell0, p, hp, by omega, by omega, _, hc', ?_, md⟩
      unfold isE
      rw [e]
      congr 4
      congr 1
      rw [decide_eq_decide]
      exact ⟨fun h => ⟨hlt, h⟩, fun ⟨_, h⟩ => h⟩
  · have e : kx ev l = i := fidx_cut _ l i hi (fun k hk => by have := hb1 k hk (by omega); simp [geE]; omega) (fun h => by omega)
    refine ⟨_, _, _, b2.cell0, ?_⟩
    rw [if_neg (by omega)]
    refine ⟨?_, md⟩
    unfold isE
    rw [e]
    congr 4
    rw [decide_eq_false (fun ⟨h, _⟩ => by omega)]
end Go.Proofs.Ytkeaamfpcapioaa
