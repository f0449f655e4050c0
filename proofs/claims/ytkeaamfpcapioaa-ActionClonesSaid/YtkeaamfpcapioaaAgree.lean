/-
  Chapter 37, plain: lists that say the same; sorted lists.
-/
import Derived.Test.YtkeaamfpcapioaaRefOps3
namespace Go.Proofs.Ytkeaamfpcapioaa
open Go Go.Sh Go.Proofs
set_option linter.unusedVariables false
set_option linter.unusedSimpArgs false
set_option linter.unusedSectionVars false

theorem fidx_map {α β : Type} (p : β → Bool) (f : α → β) : ∀ l : List α, fidx p (l.map f) = fidx (fun x => p (f x)) l
  | [] => rfl
  | x :: l => by
    show (if p (f x) = true then 0 else fidx p (l.map f) + 1) = (if p (f x) = true then 0 else fidx (fun x => p (f x)) l + 1)
    rw [fidx_map p f l]
section
variable {α β : Type} (g : α → β)
def mp (l : List (Ent α)) : List (Ent β) := l.map fun e => (e.1, e.2.1, g e.2.2)
theorem mp_len (l : List (Ent α)) : (mp g l).length = l.length := by simp [mp]
theorem mp_at (l : List (Ent α)) {k : Nat} (h : k < l.length) (h' : k < (mp g l).length) : (mp g l)[k] = (l[k].1, l[k].2.1, g l[k].2.2) := by simp [mp]
theorem mp_kx (l : List (Ent α)) (ev : Int) : kx ev (mp g l) = kx ev l := fidx_map _ _ l
theorem mp_isE (l : List (Ent α)) (ev : Int) : isE ev (mp g l) = isE ev l := by
  unfold isE
  rw [decide_eq_decide]
  constructor
  · rintro ⟨h, h2⟩
    rw [mp_at g l (by rw [mp_kx, mp_len] at h; rwa [mp_kx])] at h2
    simp only [mp_kx] at h2
    exact ⟨by rw [mp_kx, mp_len] at h; exact h, h2⟩
  · rintro ⟨h, h2⟩
    refine ⟨by rw [mp_kx, mp_len]; exact h, ?_⟩
    rw [mp_at g l (by rw [mp_kx]; exact h)]
    simp only [mp_kx]
    exact h2
theorem mp_onAt (l : List (Ent α)) (k : Nat) : onAt (mp g l) k = onAt l k := by
  unfold onAt mp
  rw [List.getElem?_map]
  cases l[k]? <;> rfl
theorem mp_addE (l : List (Ent α)) (ev : Int) : addE (mp g l) ev = addE l ev := by unfold addE; rw [mp_isE, mp_len]
theorem mp_addL (l : List (Ent α)) (ev : Int) (c : α) : mp g (addL l ev c) = addL (mp g l) ev (g c) := by
  unfold addL
  rw [mp_addE, mp_kx]
  split
  · unfold mp
    rw [List.map_append, List.map_append, List.map_take, List.map_drop]
    rfl
  · rfl
theorem mp_delE (l : List (Ent α)) (ev : Int) : delE (mp g l) ev = delE l ev := by unfold delE; rw [mp_isE, mp_onAt, mp_kx]
theorem mp_delL (l : List (Ent α)) (ev : Int) : mp g (delL l ev) = delL (mp g l) ev := by
  unfold delL
  rw [mp_delE, mp_kx]
  split
  · unfold mp
    rw [List.map_append, List.map_take, List.map_drop]
  · rfl
theorem mp_enE (l : List (Ent α)) (ev : Int) : enE (mp g l) ev = enE l ev := by unfold enE; rw [mp_isE]
theorem mp_enL (l : List (Ent α)) (ev : Int) (on : Bool) : mp g (enL l ev on) = enL (mp g l) ev on := by
  unfold enL
  rw [mp_isE, mp_kx]
  split
  · unfold mp
    apply List.ext_getElem
    · simp
    · intro i h1 h2
      simp only [List.getElem_map, List.getElem_modify]
      split <;> rfl
  · rfl
theorem mp_fndB (l : List (Ent α)) (ev : Int) : fndB (mp g l) ev = fndB l ev := by unfold fndB; rw [mp_isE, mp_onAt, mp_kx]
theorem mp_evs (l : List (Ent α)) : evs (mp g l) = evs l := by unfold evs mp; rw [List.map_map]; rfl
theorem mp_cmdAt (d : α) (l : List (Ent α)) (k : Nat) : cmdAt (g d) (mp g l) k = g (cmdAt d l k) := by
  unfold cmdAt mp
  rw [List.getElem?_map]
  cases l[k]? <;> rfl
end
abbrev says (l : List En) : List (Ent Cmd) := mp Cc.say l
def fndS (l : List (Ent Cmd)) (ev : Int) : Cmd := if fndB l ev = true then cmdAt cz.say l (kx ev l) else cz.say
theorem fnd_says (l : List En) (ev : Int) : (fndC l ev).say = fndS (says l) ev := by
  unfold fndC fndS
  rw [mp_fndB, mp_kx, mp_cmdAt]
  split <;> rfl

/-! ### sorted -/
theorem srt_mp {α β : Type} (g : α → β) {l : List (Ent α)} : srt (mp g l) ↔ srt l := by
  unfold srt mp
  rw [List.pairwise_map]
section
variable {α : Type} {l : List (Ent α)}
theorem srt_sub {m : List (Ent α)} (h : srt l) (hm : m.Sublist l) : srt m := List.Pairwise.sublist hm h
theorem kx_before (ev : Int) {j : Nat} (hj : j < l.length) (h : j < kx ev l) : l[j].1 < ev := by
  have := fidx_before (geE ev) l j hj h
  simp [geE] at this
  omega
theorem kx_after (hs : srt l) (ev : Int) {j : Nat} (hj : j < l.length) (h : kx ev l ≤ j) : ev ≤ l[j].1 := by
  have h0 := fidx_here (geE ev) l (show kx ev l < l.length by omega)
  simp [geE] at h0
  by_cases he : kx ev l = j
  · subst he; exact h0
  · have := List.pairwise_iff_getElem.1 hs (kx ev l) j (by omega) hj (by omega)
    have h0' : ev ≤ l[kx ev l].1 := h0
    omega
theorem srt_add (hs : srt l) (ev : Int) (c : α) : srt (addL l ev c) := by
  unfold addL
  split
  · rename_i he
    have hi : isE ev l ≠ true := by
      intro hi
      unfold addE at he
      split at he
      · cases he
      · cases he
    unfold srt
    rw [List.append_assoc, List.pairwise_append]
    refine ⟨List.Pairwise.sublist (List.take_sublist _ _) hs, ?_, ?_⟩
    · rw [List.singleton_append, List.pairwise_cons]
      refine ⟨fun e he => ?_, List.Pairwise.sublist (List.drop_sublist _ _) hs⟩
      obtain ⟨j, hj, rfl⟩ := List.getElem_of_mem he
      rw [List.length_drop] at hj
      rw [List.getElem_drop]
      have h1 := kx_after hs ev (j := kx ev l + j) (by omega) (by omega)
      by_cases h0 : j = 0
      · subst h0
        have h2 : l[kx ev l].1 ≠ ev := fun hh => hi (by unfold isE; exact decide_eq_true ⟨by omega, hh⟩)
        simp only [Nat.add_zero] at h1 ⊢
        omega
      · have h3 := kx_after hs ev (j := kx ev l) (by omega) (Nat.le_refl _)
        have := List.pairwise_iff_getElem.1 hs (kx ev l) (kx ev l + j) (by omega) (by omega) (by omega)
        simp only at this ⊢
        omega
    · intro a ha b hb
      obtain ⟨j, hj, rfl⟩ := List.getElem_of_mem ha
      rw [List.length_take] at hj
      rw [List.getElem_take]
      have h1 := kx_before (l := l) ev (j := j) (by omega) (by omega)
      rcases List.mem_append.1 hb with hb | hb
      · simp at hb; subst hb; exact h1
      · obtain ⟨i, hi2, rfl⟩ := List.getElem_of_mem hb
        rw [List.length_drop] at hi2
        rw [List.getElem_drop]
        exact List.pairwise_iff_getElem.1 hs j (kx ev l + i) (by omega) (by omega) (by omega)
  · exact hs
theorem len_add (h : l.length ≤ 256) (ev : Int) (c : α) : (addL l ev c).length ≤ 256 := by
  unfold addL
  split
  · rename_i he
    have : l.length < 256 := by
      unfold addE at he
      split at he
      · cases he
      · split at he
        · cases he
        · split at he
          · cases he
          · omega
    have := kx_le ev l
    simp
    omega
  · exact h
theorem srt_del (hs : srt l) (ev : Int) : srt (delL l ev) := by
  unfold delL
  split
  · refine srt_sub hs ?_
    have h1 : l = l.take (kx ev l) ++ l.drop (kx ev l) := (List.take_append_drop _ _).symm
    conv => rhs; rw [h1]
    exact List.Sublist.append (List.Sublist.refl _) (List.drop_sublist_drop_left _ (by omega))
  · exact hs
theorem len_del (h : l.length ≤ 256) (ev : Int) : (delL l ev).length ≤ 256 := by
  unfold delL
  split
  · simp; omega
  · exact h
theorem srt_en (hs : srt l) (ev : Int) (on : Bool) : srt (enL l ev on) := by
  unfold enL
  split
  · unfold srt
    have : (l.modify (kx ev l) (fun e => (e.1, on, e.2.2))).map (·.1) = l.map (·.1) := by
      apply List.ext_getElem
      · simp
      · intro i h1 h2
        simp only [List.getElem_map, List.getElem_modify]
        split <;> rfl
    have h2 : (l.map (·.1)).Pairwise (· < ·) := by rw [List.pairwise_map]; exact hs
    rw [← this, List.pairwise_map] at h2
    exact h2
  · exact hs
theorem len_en (h : l.length ≤ 256) (ev : Int) (on : Bool) : (enL l ev on).length ≤ 256 := by
  unfold enL
  split
  · rw [List.length_modify]; exact h
  · exact h
end
end Go.Proofs.Ytkeaamfpcapioaa
