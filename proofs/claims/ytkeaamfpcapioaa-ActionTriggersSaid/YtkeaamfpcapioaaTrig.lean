/-
  The law ActionTriggers, as a contract.
-/
import Derived.Test.YtkeaamfpcapioaaMem
import Derived.Test.YtkeaamfpcapioaaMake
import Derived.Test.YtkeaamfpcapioaaPlays
namespace Go.Proofs.Ytkeaamfpcapioaa
open Go Go.Sh Go.Proofs
set_option linter.unusedVariables false
set_option linter.unusedSimpArgs false
set_option linter.unusedSectionVars false

/-- What the table holds after the first i calls, A telling which were taken. -/
structure Tr (L : List St) (A : List Bool) (l : List En) (i : Nat) : Prop where
  al : A.length = L.length
  fr : ∀ e ∈ l, ∃ j, j < i ∧ ∃ hj : j < L.length, A[j]? = some true ∧ e.1 = L[j].ev
  all : ∀ j (hj : j < L.length), j < i → A[j]? = some true → ∃ e ∈ l, e.1 = L[j].ev ∧ e.2.1 = L[j].on ∧ e.2.2.say = L[j].c.say
theorem Tr.one {L : List St} {A : List Bool} {l : List En} {i : Nat} (h : Tr L A l i) : True := trivial
section
variable {L : List St} {A : List Bool} {l : List En} {i : Nat} (h : Tr L A l i) (hs : srt l) (hi : i < L.length)
include h hi
theorem Tr.no : Tr L (A.set i false) l (i + 1) := by
  have ha := h.al
  refine ⟨by rw [List.length_set, ha], fun e he => ?_, fun j hj hji hA => ?_⟩
  · obtain ⟨j, hj, hj2, h1, h2⟩ := h.fr e he
    exact ⟨j, by omega, hj2, by rw [List.getElem?_set_ne (by omega)]; exact h1, h2⟩
  · by_cases hh : j = i
    · subst hh
      rw [List.getElem?_set_self (by omega)] at hA
      cases hA
    · rw [List.getElem?_set_ne (by omega)] at hA
      exact h.all j hj (by omega) hA
include hs
theorem Tr.yes {l' : List En} (c : Cc) (hc : c.say = L[i].c.say) (h0 : addE l L[i].ev = 0) (hl : ∀ e, e ∈ l' ↔ e ∈ l ∨ e = (L[i].ev, L[i].on, c)) : Tr L (A.set i true) l' (i + 1) := by
  have ha := h.al
  refine ⟨by rw [List.length_set, ha], fun e he => ?_, fun j hj hji hA => ?_⟩
  · rcases (hl e).1 he with he | rfl
    · obtain ⟨j, hj, hj2, h1, h2⟩ := h.fr e he
      exact ⟨j, by omega, hj2, by rw [List.getElem?_set_ne (by omega)]; exact h1, h2⟩
    · exact ⟨i, by omega, hi, by rw [List.getElem?_set_self (by omega)], rfl⟩
  · by_cases hh : j = i
    · subst hh
      exact ⟨_, (hl _).2 (.inr rfl), rfl, rfl, hc⟩
    · rw [List.getElem?_set_ne (by omega)] at hA
      obtain ⟨e, he, h1⟩ := h.all j hj (by omega) hA
      exact ⟨e, (hl _).2 (.inl he), h1⟩
end
theorem addE_new {α : Type} {l : List (Ent α)} {ev : Int} (h0 : addE l ev = 0) : isE ev l = false := by
  cases h : isE ev l with
  | false => rfl
  | true =>
    unfold addE at h0
    rw [h] at h0
    split at h0
    · cases h0
    · cases h0

theorem actionTriggers_ok {w : World} {a : Option Addr} {L : List St} (c : Nat) (hr : Rd w a (L.flatMap stv)) (hn : L.length ≤ 9223372036854775807) (hold : Old w L) : Does Try.prog 5 #[.slice a L.length c] w fun v w' => v = .bool true ∧ Mod [] w w' := by
  apply w5
  unfold F5
  have live : ∀ {w' : World}, Mod [] w w' → Does Try.prog 9 #[] w' (fun v w'' => ∃ (x : Bool), v = .bool x ∧ (Value.bool x = .bool true ∧ Mod [] w w'')) := fun M => (lives_ok _).mono fun v w' h => ⟨_, h.1, rfl, M.none h.2⟩
  refine (Tb.new w).mono ?_
  rintro _ w1 ⟨rfl, t1⟩
  refine ⟨_, rfl, (small_ok c (hr.mod t1.m (by simp)) hn).mono ?_⟩
  rintro _ w2 ⟨b, rfl, m2, hb⟩
  have t2 := t1.mod m2
  refine ⟨_, rfl, ?_⟩
  unfold F5_j1
  refine iteI (fun hh => ?_) (fun hh => ?_)
  · rw [if_pos rfl, if_pos (by simp)]
    exact live t2.m
  have hsm := hb (by simpa using hh)
  rw [if_neg (by simp)]
  obtain ⟨w3, run3, h3, m3, z3⟩ := make_one (P := Try.prog) (t := 29) (e := 4) (bytes := 1) (zv := .bool false) Try.underlying29 (by kernel_rfl) rfl w2 L.length (by omega) hn
  refine ⟨_, _, _, w3, run3, ?_⟩
  have t3 : Tb w w3 w.heap.size [] [w2.heap.size] := t2.re m3 (by simp) (fun y hy => .inr (by simp at hy; subst hy; exact ⟨Nat.le_refl _, h3.lt⟩))
  have z2 := t2.m.size
  refine LoopP.of (fun (x : Int) w' => ∃ (i : Nat) (l : List En) (T : List Nat) (A : List Bool), i ≤ L.length ∧ x = (i : Int) ∧ Tb w w' w.heap.size l T ∧ w2.heap.size ∈ T ∧ (∀ e ∈ l, w2.heap.size ∉ e.2.2.fp) ∧ Blk w' w2.heap.size 4 (A.map Value.bool) ∧ Tr L A l i) (fun x _ => L.length - x.toNat) ⟨0, [], [w2.heap.size], List.replicate L.length false, by omega, rfl, t3, by simp, by simp, by simpa using h3, ⟨by simp, by simp, fun j _ hj => by omega⟩⟩ ?_
  rintro _ w4 ⟨i, l, T, A, hi, rfl, t4, hT, hX, h4, R⟩
  have hal := R.al
  unfold F5_b2
  refine iteI (fun hlt => ?_) (fun hlt => ?_)
  · have hlt : i < L.length := by omega
    have t4 := t4.mod (Mod.drew (S := []) w4)
    have h4 : Blk w4.drew w2.heap.size 4 (A.map Value.bool) := h4.drew
    obtain ⟨p, rfl, hc⟩ := (hr.mod t4.m (by simp)).flat (stv_len _) (by decide) hlt
    have hf := old_fz hold t4.m hsm.2 T L[i] (List.getElem_mem hlt)
    have e1 : IntKind.i64.wrap ((i : Int) + 1) = ((i + 1 : Nat) : Int) := by rw [wi64 (by omega)]; omega
    rw [e1]
    refine ⟨p, rfl, by omega, by omega, _, hc 1 _ rfl, by omega, by omega, _, _, _, _, _, _, _, _, _, ⟨by have := hc 3 _ rfl; exact this, by have := hc 4 _ rfl; rw [add_add]; exact this, by have := hc 5 _ rfl; rw [add_add]; exact this, by have := hc 6 _ rfl; rw [add_add]; exact this, by have := hc 7 _ rfl; rw [add_add]; exact this, trivial⟩, ?_⟩
    refine (t4.add' L[i].ev hf).mono ?_
    rintro _ w5 ⟨rfl, k5, c5, T5, hs5, t5, sub5, new5⟩
    have h5 := k5.blk h4 hT
    have hX5 : ∀ e ∈ addL l L[i].ev c5, w2.heap.size ∉ e.2.2.fp := by
      intro e he
      rcases add_mem he with hh | ⟨rfl, h0⟩
      · exact hX e hh
      · intro hh
        have := new5 h0 _ hh
        have := h4.lt
        omega
    refine ⟨_, rfl, _, rfl, by omega, by simp; omega, Put.use h5 (by simp; omega) fun w6 h6 m6 => ?_⟩
    have t6 := t5.put (sub5 _ hT) (by omega) hX5 m6
    have M6 := t6.m
    have h6' : Blk w6 w2.heap.size 4 ((A.set i (decide (addE l L[i].ev = 0))).map Value.bool) := by rw [List.map_set]; exact h6
    obtain ⟨p', hp', hc6⟩ := (hr.mod M6 (by simp)).flat (stv_len _) (by decide) hlt
    cases hp'
    refine ⟨by omega, by simp; omega, _, h6.cell (by rw [Int.toNat_natCast, List.getElem?_set_self (by simp; omega)]), ?_⟩
    by_cases h0 : addE l L[i].ev = 0
    · rw [decide_eq_true h0, if_pos rfl]
      rw [decide_eq_true h0] at h6'
      refine ⟨by omega, by omega, _, hc6 2 _ rfl, iteI (fun hon => ?_) (fun hon => ?_)⟩
      · refine ⟨by omega, by omega, _, hc6 1 _ rfl, (t6.en L[i].ev true).mono ?_⟩
        rintro _ w7 ⟨rfl, t7, k7⟩
        have hie : isE L[i].ev (addL l L[i].ev c5) = true := (isE_iff t6.srt _).2 ⟨_, (add_iff t4.srt c5 h0 _).2 (.inr rfl), rfl⟩
        rw [enE_0 hie]
        refine ⟨_, rfl, ?_⟩
        rw [if_neg (by simp)]
        refine ⟨_, by omega, ⟨i + 1, _, T5, _, by omega, rfl, t7, sub5 _ hT, fun e he => ?_, k7.blk h6' (sub5 _ hT), R.yes t4.srt hlt c5 hs5 h0 (fun e => ?_)⟩, rfl⟩
        · obtain ⟨e0, h0, h1⟩ := en_mem he
          rw [h1]
          exact hX5 e0 h0
        · rw [en_iff t6.srt true hie]
          have hno : ∀ x ∈ l, x.1 ≠ L[i].ev := fun x hx hh => by
            have := (isE_iff t4.srt L[i].ev).2 ⟨x, hx, hh⟩
            rw [addE_new h0] at this
            cases this
          constructor
          · rintro ⟨e0, he0, rfl⟩
            rcases (add_iff t4.srt c5 h0 _).1 he0 with h | rfl
            · left; rw [if_neg (hno _ h)]; exact h
            · right; rw [if_pos rfl, hon]
          · rintro (h | rfl)
            · exact ⟨e, (add_iff t4.srt c5 h0 _).2 (.inl h), by rw [if_neg (hno _ h)]⟩
            · exact ⟨_, (add_iff t4.srt c5 h0 _).2 (.inr rfl), by rw [if_pos rfl, hon]⟩
      · refine ⟨_, by omega, ⟨i + 1, _, T5, _, by omega, rfl, t6, sub5 _ hT, hX5, h6', R.yes t4.srt hlt c5 hs5 h0 (fun e => ?_)⟩, rfl⟩
        have hon : L[i].on = false := by simpa using hon
        rw [add_iff t4.srt c5 h0, hon]
    · rw [decide_eq_false h0, if_neg (by simp)]
      rw [decide_eq_false h0] at h6'
      have el : addL l L[i].ev c5 = l := by unfold addL; rw [if_neg h0]
      rw [el] at t6 hX5
      exact ⟨_, by omega, ⟨i + 1, l, T5, _, by omega, rfl, t6, sub5 _ hT, hX, h6', R.no hlt⟩, rfl⟩
  have hi : i = L.length := by omega
  subst hi
  refine LoopP.of (fun (x : Int) w' => ∃ (i : Nat), i ≤ L.length ∧ x = (i : Int) ∧ Mod [] w4 w') (fun x _ => L.length - x.toNat) ⟨0, by omega, rfl, Mod.refl _⟩ ?_
  rintro _ w5 ⟨i, hi, rfl, m5⟩
  have t5 := t4.mod m5
  have h5 := h4.mod m5 (by simp)
  unfold F5_b3
  refine iteI (fun hlt => ?_) (fun hlt => ?_)
  · have hlt : i < L.length := by omega
    have e1 : IntKind.i64.wrap ((i : Int) + 1) = ((i + 1 : Nat) : Int) := by rw [wi64 (by omega)]; omega
    rw [e1]
    have hAi : A[i]? = some (A[i]'(by omega)) := List.getElem?_eq_getElem (by omega)
    refine ⟨_, rfl, by omega, by omega, _, h5.cell (by rw [Int.toNat_natCast, List.getElem?_map, hAi]; rfl), iteI (fun hh => ?_) (fun hh => ?_)⟩
    · exact ⟨_, by omega, ⟨i + 1, by omega, rfl, m5⟩, rfl⟩
    have hAi' : A[i]? = some true := by rw [hAi]; congr 1; simpa using hh
    obtain ⟨e, he, h1, h2, h3⟩ := R.all i hlt hlt hAi'
    obtain ⟨p, rfl, hc⟩ := (hr.mod t5.m (by simp)).flat (stv_len _) (by decide) hlt
    refine ⟨_, rfl, by omega, by omega, _, hc 1 _ rfl, (t5.fnd L[i].ev).mono ?_⟩
    rintro _ w6 ⟨d6, rfl, hs6, hr6, hf6, m6⟩
    have hfb : fndB l L[i].ev = L[i].on := by
      cases hon : L[i].on with
      | true => exact (fndB_iff t4.srt _).2 ⟨e, he, h1, by rw [h2, hon]⟩
      | false =>
        cases hf : fndB l L[i].ev with
        | false => rfl
        | true =>
          obtain ⟨e', he', h1', h2'⟩ := (fndB_iff t4.srt _).1 hf
          have := ent_ext t4.srt he he' (by rw [h1, h1'])
          subst this
          rw [h2, hon] at h2'
          cases h2'
    have hsay : d6.say = if L[i].on = true then L[i].c.say else cz.say := by
      rw [hs6]
      unfold fndC
      rw [hfb]
      split
      · rw [← h1, cmd_mem t4.srt cz he, h3]
      · rfl
    have t6 := t5.mod m6
    refine ⟨_, _, _, _, _, _, _, _, _, _, rfl, New.put rfl fun w7 h7 m7 z7 => ?_⟩
    have t7 : Tb w w7.drew w.heap.size l T := (t6.mod m7).mod (Mod.drew (S := []) w7)
    have M7 : Mod [] w4 w7.drew := ((m5.none m6).none m7).none (Mod.drew w7)
    have r7 : d6.rd w7.drew := (hr6.mod m7 (by simp)).mod (Mod.drew (S := []) w7) (by simp)
    have b7 : Blk w7.drew w6.heap.size 36 _ := h7.drew
    obtain ⟨p', hp', hc7⟩ := (hr.mod t7.m (by simp)).flat (stv_len _) (by decide) hlt
    cases hp'
    have hold7 := (old_fz hold t7.m hsm.2 T L[i] (List.getElem_mem hlt)).rd
    refine ⟨by omega, by omega, _, hc7 2 _ rfl, ?_⟩
    rw [hfb, if_neg (by simp)]
    refine iteI (fun hon => ?_) (fun hon => ?_)
    · rw [if_pos hon] at hsay
      refine ⟨_, _, _, _, _, _, _, _, _, b7.cells, by omega, by omega, _, _, _, _, _, _, _, _, _, ⟨by have := hc7 3 _ rfl; exact this, by have := hc7 4 _ rfl; rw [add_add]; exact this, by have := hc7 5 _ rfl; rw [add_add]; exact this, by have := hc7 6 _ rfl; rw [add_add]; exact this, by have := hc7 7 _ rfl; rw [add_add]; exact this, trivial⟩, (same_ok r7 hold7).mono ?_⟩
      rintro _ w8 ⟨rfl, m8⟩
      refine ⟨_, rfl, ?_⟩
      rw [decide_eq_true hsay, if_neg (by simp), hon, if_neg (by simp)]
      exact ⟨_, by omega, ⟨i + 1, by omega, rfl, M7.none m8⟩, rfl⟩
    · have hon : L[i].on = false := by simpa using hon
      rw [hon, if_neg (by simp)] at hsay
      rw [hon, if_pos (by simp)]
      refine ⟨_, _, _, _, _, _, _, _, _, b7.cells, (same_ok (d := cz) r7 (cz_rd _)).mono ?_⟩
      rintro _ w8 ⟨rfl, m8⟩
      refine ⟨_, rfl, ?_⟩
      rw [decide_eq_true hsay, if_neg (by simp)]
      exact ⟨_, by omega, ⟨i + 1, by omega, rfl, M7.none m8⟩, rfl⟩
  · exact live t5.m
end Go.Proofs.Ytkeaamfpcapioaa
