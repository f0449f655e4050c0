/-
  The contracts of chapter 9: lists of ints, the history, the reference's.
-/
import Derived.Test.YthgmcidaphbibaaForms
import Derived.Test.YthgmcidaphbibaaHeap
namespace Go.Proofs.Ythgmcidaphbibaa
open Go Go.Sh Go.Proofs
set_option linter.unusedVariables false

theorem elem3 : Elem Try.prog 3 1 8 := Elem.of (v := .int .i64 0) (by kernel_rfl) rfl (by decide)
def iv (n : Int) : Value := .int .i64 n
theorem iv_one (l : List Int) : ∀ u ∈ l.map iv, one u = true := by
  intro u hu
  obtain ⟨b, _, rfl⟩ := List.mem_map.1 hu
  rfl
theorem rd_at {w : World} {a : Option Addr} {l : List Int} (h : Rd w a (l.map iv)) {i : Nat} (hi : i < l.length) : ∃ p, a = some p ∧ w.cell? (p.add i) = some (.int .i64 l[i]) := by
  refine h.at_ ?_
  rw [List.getElem?_map, List.getElem?_eq_getElem hi]
  rfl
theorem rd_none {w : World} {l : List Int} (h : Rd w none (l.map iv)) : l = [] := by
  rcases h with h | ⟨p, h, _⟩
  · simpa using h
  · cases h

/-! ### lists -/
section
variable (a b : Option Addr) (l m : List Int) (c d : Nat) (w : World) (hl : l.length ≤ 1000000) (hr : Rd w a (l.map iv))
include hl hr
theorem index_ok (x : Int) : Does Try.prog 25 #[.slice a l.length c, .int .i64 x] w fun v w' => (∃ r : Int, v = .int .i64 r ∧ decide (0 ≤ r) = decide (x ∈ l)) ∧ w = w' := by
  apply w25
  unfold F25
  refine LoopP.of (fun (s : Int) w' => ∃ i : Nat, i ≤ l.length ∧ s = (i : Int) ∧ w = w' ∧ ∀ j, (h : j < l.length) → j < i → l[j] ≠ x) (fun s _ => l.length - s.toNat) ⟨0, by omega, rfl, rfl, fun j h hj => by omega⟩ ?_
  rintro _ _ ⟨i, hi, rfl, rfl, hn⟩
  unfold F25_b1
  by_cases hlt : i < l.length
  · rw [if_pos (by omega)]
    obtain ⟨p, rfl, hc⟩ := rd_at hr hlt
    rw [Int.toNat_natCast]
    refine ⟨p, rfl, by omega, by omega, _, hc, ?_⟩
    by_cases he : x = l[i]
    · rw [if_pos he]
      refine ⟨⟨_, rfl, ?_⟩, rfl⟩
      rw [decide_eq_true (by omega), decide_eq_true (by rw [he]; exact List.getElem_mem hlt)]
    · rw [if_neg he, wi64 (by omega)]
      refine ⟨_, by omega, ⟨i + 1, by omega, rfl, rfl, fun j h hj => ?_⟩, rfl⟩
      by_cases hji : j = i
      · subst hji; exact fun e => he e.symm
      · exact hn j h (by omega)
  · rw [if_neg (by omega)]
    refine ⟨⟨_, rfl, ?_⟩, rfl⟩
    rw [decide_eq_false (by omega), decide_eq_false ?_]
    intro hx
    obtain ⟨j, hj, e⟩ := List.getElem_of_mem hx
    exact hn j hj (by omega) e
theorem contains_ok (x : Int) : Does Try.prog 21 #[.slice a l.length c, .int .i64 x] w fun v w' => v = .bool (decide (x ∈ l)) ∧ w = w' := by
  apply w21
  unfold F21
  refine (index_ok a l c w hl hr x).mono ?_
  rintro _ _ ⟨⟨r, rfl, h⟩, rfl⟩
  exact ⟨_, rfl, by rw [h], rfl⟩
theorem clone_ok : Does Try.prog 24 #[.slice a l.length c] w fun v w' => ∃ a' c', v = .slice a' l.length c' ∧ Own w' 3 1 a' l.length c' (l.map iv) ∧ Mod [] w w' ∧ ∀ g ∈ fp a', w.heap.size ≤ g := by
  apply w24
  unfold F24
  cases a with
  | none =>
    have := rd_none hr
    subst this
    rw [if_pos (show (none : Option Addr).isNone = true from rfl)]
    exact ⟨_, _, rfl, Own.nil, Mod.refl _, by simp [fp]⟩
  | some p =>
    rw [if_neg (by simp)]
    unfold New
    have hm := Mod.push (S := []) w 3 []
    have ho : Own (push w 3 []) 3 1 (some (fresh w)) 0 0 [] := Own.blk (Blk.new w 3 []) rfl (by decide)
    obtain ⟨a', c', w', hrun, hown, hmod, hfp⟩ := append_own (d := c) Try.underlying25 elem3 25 ho (hr.mod hm (by simp)) (m := l.length) (by simp) (iv_one l) (by omega) (by omega)
    rw [Nat.zero_add] at hrun hown
    exact ⟨_, _, _, _, hrun, _, _, rfl, by simpa using hown, hm.trans hmod (by simp [fp, fresh]), by rcases hfp with h | h <;> rw [h] <;> simp [fp_fresh, size_push]⟩
theorem copy_ok : Does Try.prog 23 #[.slice a l.length c] w fun v w' => ∃ a' c', v = .slice a' l.length c' ∧ Own w' 3 1 a' l.length c' (l.map iv) ∧ Mod [] w w' ∧ ∀ g ∈ fp a', w.heap.size ≤ g := by
  apply w23
  unfold F23
  refine LoopP.of (fun (s : Option Addr × Nat × Nat × Int) w' => ∃ (a' : Option Addr) (c' i : Nat), i ≤ l.length ∧ s = (a', i, c', (i : Int)) ∧ Own w' 3 1 a' i c' ((l.take i).map iv) ∧ Mod [] w w' ∧ ∀ g ∈ fp a', w.heap.size ≤ g) (fun s _ => l.length - s.2.2.2.toNat)
    ⟨none, 0, 0, by omega, rfl, Own.nil, Mod.refl _, by simp [fp]⟩ ?_
  rintro _ w1 ⟨a1, c1, i, hi, rfl, ho, hm, hf⟩
  unfold F23_b1
  dsimp only
  by_cases hlt : i < l.length
  · rw [if_pos (by omega)]
    obtain ⟨p, rfl, hc⟩ := rd_at (hr.mod hm (by simp)) hlt
    rw [Int.toNat_natCast]
    refine ⟨p, rfl, by omega, by omega, _, hc, ?_⟩
    unfold New
    have hm2 := Mod.push (S := []) w1 3 [.int .i64 l[i]]
    obtain ⟨a2, c2, w2, hrun, ho2, hmod2, hfp2⟩ := append_own (d := 1) Try.underlying25 elem3 25 (ho.mod hm2 (by simp)) (Rd.blk (Blk.new w1 3 [.int .i64 l[i]])) (m := 1) rfl (by simp [one]) (by omega) (by omega)
    have hsz := hm.size
    rw [wi64 (by omega)]
    refine ⟨_, _, _, _, hrun, _, by omega, ⟨a2, c2, i + 1, by omega, rfl, ?_, (hm.none hm2).trans hmod2 (fun g hg => .inr (hf g hg)), ?_⟩, rfl⟩
    · rw [List.take_succ_eq_append_getElem hlt, List.map_append]; exact ho2
    · rcases hfp2 with h | h <;> rw [h]
      · exact hf
      · simp [size_push]; omega
  · have : i = l.length := by omega
    subst this
    rw [if_neg (by omega)]
    rw [List.take_length] at ho
    exact ⟨_, _, rfl, ho, hm, hf⟩
theorem same_ok (hr' : Rd w b (m.map iv)) : Does Try.prog 15 #[.slice a l.length c, .slice b m.length d] w fun v w' => v = .bool (decide (l = m)) ∧ Mod [] w w' := by
  apply w15
  unfold F15
  by_cases he : l.length = m.length
  · rw [if_neg (by omega)]
    refine LoopP.of (fun (s : Int) w' => ∃ i : Nat, i ≤ l.length ∧ s = (i : Int) ∧ Mod [] w w' ∧ ∀ j, (h : j < l.length) → j < i → l[j] = m[j]'(by omega)) (fun s _ => l.length - s.toNat) ⟨0, by omega, rfl, Mod.refl _, fun j h hj => by omega⟩ ?_
    rintro _ w1 ⟨i, hi, rfl, hm, hn⟩
    unfold F15_b1
    by_cases hlt : i < l.length
    · rw [if_pos (by omega)]
      obtain ⟨p, rfl, hc⟩ := rd_at (hr.mod hm (by simp)).drew hlt
      obtain ⟨q, rfl, hc'⟩ := rd_at (hr'.mod hm (by simp)).drew (show i < m.length by omega)
      rw [Int.toNat_natCast]
      refine ⟨p, rfl, by omega, by omega, _, hc, q, rfl, by omega, by omega, _, hc', ?_⟩
      by_cases hx : l[i] = m[i]
      · rw [if_neg (by simp [hx]), wi64 (by omega)]
        refine ⟨_, by omega, ⟨i + 1, by omega, rfl, hm.none (Mod.drew _), fun j h hj => ?_⟩, rfl⟩
        by_cases hji : j = i
        · subst hji; exact hx
        · exact hn j h (by omega)
      · rw [if_pos (by simpa using hx)]
        refine ⟨?_, hm.none (Mod.drew _)⟩
        rw [decide_eq_false]
        intro e
        subst e
        exact hx rfl
    · rw [if_neg (by omega)]
      refine ⟨?_, hm⟩
      rw [decide_eq_true]
      exact List.ext_getElem he (fun j h1 h2 => hn j h1 (by omega))
  · rw [if_pos (by omega)]
    refine ⟨?_, Mod.refl _⟩
    rw [decide_eq_false]
    intro e
    exact he (by rw [e])
end
theorem delete_ok {a : Option Addr} {l : List Int} {c i j : Nat} {w : World} (hl : l.length ≤ 1000000) (ho : Own w 3 1 a l.length c (l.map iv)) (hij : i < j) (hj : j ≤ l.length) :
    Does Try.prog 22 #[.slice a l.length c, .int .i64 (i : Int), .int .i64 (j : Int)] w fun v w' => v = .slice a (i + (l.length - j)) c ∧ Own w' 3 1 a (i + (l.length - j)) c ((l.take i ++ l.drop j).map iv) ∧ Mod (fp a) w w' := by
  apply w22
  unfold F22
  have hle := ho.le
  refine ⟨by omega, by omega, by omega, by omega, ?_⟩
  rw [if_neg (by omega)]
  obtain ⟨w1, h1, w2, h2, ho2, hm2⟩ := delete_run (ty := 25) Try.underlying25 elem3 Try.zeroValue3 rfl (by simp [Value.cells, one]) ho.drew (iv_one l) hij hj
  rw [Int.toNat_natCast, Int.toNat_natCast]
  refine ⟨by omega, by omega, by omega, by omega, _, _, _, _, h1, by omega, by omega, by omega, ?_⟩
  rw [Int.toNat_natCast, Int.toNat_natCast]
  refine ⟨w2, h2, rfl, ?_, (Mod.drew w).same hm2⟩
  rw [List.map_append, List.map_take, List.map_drop]
  simpa using ho2
end Go.Proofs.Ythgmcidaphbibaa
