/-
  Chapter 37, plain: what is in a sorted list of entries.
-/
import Derived.Test.YtkeaamfpcapioaaTb
namespace Go.Proofs.Ytkeaamfpcapioaa
open Go Go.Sh Go.Proofs
set_option linter.unusedVariables false
set_option linter.unusedSimpArgs false
set_option linter.unusedSectionVars false

section
variable {α : Type} {l : List (Ent α)} (hs : srt l)
include hs
theorem at_kx {e : Ent α} (he : e ∈ l) : ∃ h : kx e.1 l < l.length, l[kx e.1 l] = e := by
  obtain ⟨j, hj, rfl⟩ := List.getElem_of_mem he
  have h : kx l[j].1 l = j := fidx_at _ l j hj (by simp [geE]) (fun i hi => by
    have := List.pairwise_iff_getElem.1 hs i j (by omega) hj hi
    simp only [geE]
    exact decide_eq_false (by omega))
  exact ⟨by omega, by simp only [h]⟩
theorem isE_iff (ev : Int) : isE ev l = true ↔ ∃ e ∈ l, e.1 = ev := by
  constructor
  · intro h
    obtain ⟨h1, h2⟩ := isE_lt h
    exact ⟨_, List.getElem_mem h1, h2⟩
  · rintro ⟨e, he, rfl⟩
    obtain ⟨h1, h2⟩ := at_kx hs he
    unfold isE
    exact decide_eq_true ⟨h1, by rw [h2]⟩
theorem isE_not {ev : Int} (h : ∀ e ∈ l, e.1 ≠ ev) : isE ev l = false := by
  cases hi : isE ev l with
  | false => rfl
  | true =>
    obtain ⟨e, he, h2⟩ := (isE_iff hs ev).1 hi
    exact absurd h2 (h e he)
theorem ent_ext {e e' : Ent α} (he : e ∈ l) (he' : e' ∈ l) (h : e.1 = e'.1) : e = e' := by
  obtain ⟨h1, h2⟩ := at_kx hs he
  obtain ⟨h3, h4⟩ := at_kx hs he'
  rw [← h2, ← h4]
  simp only [h]
theorem fndB_iff (ev : Int) : fndB l ev = true ↔ ∃ e ∈ l, e.1 = ev ∧ e.2.1 = true := by
  unfold fndB
  constructor
  · intro h
    simp only [Bool.and_eq_true] at h
    obtain ⟨h1, h2⟩ := isE_lt h.1
    refine ⟨_, List.getElem_mem h1, h2, ?_⟩
    have := h.2
    unfold onAt at this
    rw [List.getElem?_eq_getElem h1] at this
    exact this
  · rintro ⟨e, he, rfl, hon⟩
    obtain ⟨h1, h2⟩ := at_kx hs he
    rw [(isE_iff hs _).2 ⟨e, he, rfl⟩]
    unfold onAt
    rw [List.getElem?_eq_getElem h1, h2]
    simpa using hon
theorem cmd_mem (d : α) {e : Ent α} (he : e ∈ l) : cmdAt d l (kx e.1 l) = e.2.2 := by
  obtain ⟨h1, h2⟩ := at_kx hs he
  rw [cmdAt_at h1, h2]
theorem delE_off {e : Ent α} (he : e ∈ l) (hf : e.2.1 = false) : delE l e.1 = 0 := by
  obtain ⟨h1, h2⟩ := at_kx hs he
  unfold delE onAt
  rw [(isE_iff hs _).2 ⟨e, he, rfl⟩, List.getElem?_eq_getElem h1, h2]
  simp [hf]
theorem del_iff {ev : Int} (h0 : delE l ev = 0) (e : Ent α) : e ∈ delL l ev ↔ e ∈ l ∧ e.1 ≠ ev := by
  have hi : isE ev l = true := by
    unfold delE at h0
    split at h0
    · assumption
    · cases h0
  obtain ⟨h1, h2⟩ := isE_lt hi
  unfold delL
  rw [if_pos h0]
  constructor
  · intro h
    rcases List.mem_append.1 h with h | h
    · refine ⟨List.mem_of_mem_take h, fun hh => ?_⟩
      obtain ⟨j, hj, rfl⟩ := List.getElem_of_mem h
      rw [List.length_take] at hj
      rw [List.getElem_take] at hh
      have := kx_before (l := l) ev (j := j) (by omega) (by omega)
      omega
    · refine ⟨List.mem_of_mem_drop h, fun hh => ?_⟩
      obtain ⟨j, hj, rfl⟩ := List.getElem_of_mem h
      rw [List.length_drop] at hj
      rw [List.getElem_drop] at hh
      have := List.pairwise_iff_getElem.1 hs (kx ev l) (kx ev l + 1 + j) h1 (by omega) (by omega)
      omega
  · rintro ⟨he, hne⟩
    obtain ⟨j, hj, rfl⟩ := List.getElem_of_mem he
    rcases Nat.lt_trichotomy j (kx ev l) with h | h | h
    · exact List.mem_append.2 (.inl (List.mem_iff_getElem.2 ⟨j, by rw [List.length_take]; omega, List.getElem_take⟩))
    · exact absurd (by simp only [h]; exact h2) hne
    · refine List.mem_append.2 (.inr (List.mem_iff_getElem.2 ⟨j - (kx ev l + 1), by rw [List.length_drop]; omega, ?_⟩))
      rw [List.getElem_drop]
      congr 1
      omega
theorem en_iff {ev : Int} (on : Bool) (hi : isE ev l = true) (e : Ent α) : e ∈ enL l ev on ↔ ∃ e0 ∈ l, e = if e0.1 = ev then (e0.1, on, e0.2.2) else e0 := by
  obtain ⟨h1, h2⟩ := isE_lt hi
  unfold enL
  rw [if_pos hi]
  have key : ∀ j (hj : j < l.length), (if kx ev l = j then (l[j].1, on, l[j].2.2) else l[j]) = if l[j].1 = ev then (l[j].1, on, l[j].2.2) else l[j] := by
    intro j hj
    by_cases h : kx ev l = j
    · subst h
      rw [if_pos rfl, if_pos h2]
    · rw [if_neg h, if_neg]
      intro hh
      have : l[kx ev l] = l[j] := ent_ext hs (List.getElem_mem h1) (List.getElem_mem hj) (by omega)
      have hk : kx l[j].1 l = j := fidx_at _ l j hj (by simp [geE]) (fun i hi => by
        have := List.pairwise_iff_getElem.1 hs i j (by omega) hj hi
        simp only [geE]
        exact decide_eq_false (by omega))
      rw [hh] at hk
      exact h hk
  constructor
  · intro h
    obtain ⟨j, hj, rfl⟩ := List.getElem_of_mem h
    rw [List.length_modify] at hj
    refine ⟨l[j], List.getElem_mem _, ?_⟩
    rw [List.getElem_modify]
    exact key j hj
  · rintro ⟨e0, he, rfl⟩
    obtain ⟨j, hj, rfl⟩ := List.getElem_of_mem he
    rw [← key j hj]
    refine List.mem_iff_getElem.2 ⟨j, by rw [List.length_modify]; exact hj, ?_⟩
    rw [List.getElem_modify]
theorem add_iff {ev : Int} (c : α) (h0 : addE l ev = 0) (e : Ent α) : e ∈ addL l ev c ↔ e ∈ l ∨ e = (ev, false, c) := by
  unfold addL
  rw [if_pos h0]
  have hl : ∀ x, x ∈ l ↔ x ∈ l.take (kx ev l) ∨ x ∈ l.drop (kx ev l) := fun x => by
    rw [← List.mem_append, List.take_append_drop]
  rw [List.mem_append, List.mem_append, hl]
  simp
  constructor
  · rintro ((h | h) | h)
    · exact .inl (.inl h)
    · exact .inr h
    · exact .inl (.inr h)
  · rintro ((h | h) | h)
    · exact .inl (.inl h)
    · exact .inr h
    · exact .inl (.inr h)
end
section
variable {α : Type} {l : List (Ent α)}
theorem addL_len {ev : Int} (c : α) (h0 : addE l ev = 0) : (addL l ev c).length = l.length + 1 := by
  unfold addL
  rw [if_pos h0]
  have := kx_le ev l
  simp
  omega
theorem delL_len {ev : Int} (h0 : delE l ev = 0) : (delL l ev).length = l.length - 1 := by
  have hi : isE ev l = true := by
    unfold delE at h0
    split at h0
    · assumption
    · cases h0
  obtain ⟨h1, h2⟩ := isE_lt hi
  unfold delL
  rw [if_pos h0]
  simp
  omega
theorem enL_len (ev : Int) (on : Bool) : (enL l ev on).length = l.length := by
  unfold enL
  split
  · rw [List.length_modify]
  · rfl
theorem addE_0 {ev : Int} (h1 : 0 ≤ ev) (h2 : ev ≤ 65535) (h3 : isE ev l = false) (h4 : l.length < 256) : addE l ev = 0 := by
  unfold addE
  rw [if_neg (by omega), h3, if_neg (by simp), if_neg (by omega)]
theorem addE_7 {ev : Int} (h1 : 0 ≤ ev) (h2 : ev ≤ 65535) (h3 : isE ev l = false) (h4 : l.length = 256) : addE l ev = 7 := by
  unfold addE
  rw [if_neg (by omega), h3, if_neg (by simp), if_pos (by omega)]
theorem addE_9 {ev : Int} (h1 : 0 ≤ ev) (h2 : ev ≤ 65535) (h3 : isE ev l = true) : addE l ev = 9 := by
  unfold addE
  rw [if_neg (by omega), h3, if_pos rfl]
theorem enE_0 {ev : Int} (h3 : isE ev l = true) : enE l ev = 0 := by
  unfold enE
  rw [if_pos h3]
end
end Go.Proofs.Ytkeaamfpcapioaa
