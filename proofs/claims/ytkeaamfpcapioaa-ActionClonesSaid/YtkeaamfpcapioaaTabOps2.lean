/-
  The contracts of chapter 37: Add, Delete, Enable, Find, Events, Clone of the table.
-/
import Derived.Test.YtkeaamfpcapioaaTabOps
namespace Go.Proofs.Ytkeaamfpcapioaa
open Go Go.Sh Go.Proofs
set_option linter.unusedVariables false
set_option linter.unusedSimpArgs false
set_option linter.unusedSectionVars false

theorem flat_ins (l : List En) (k : Nat) (x : En) : (l.flatMap evv).take (k * 7) ++ evv x ++ (l.flatMap evv).drop (k * 7) = (l.take k ++ [x] ++ l.drop k).flatMap evv := by
  rw [flat_take evv l (evv_len l), flat_drop evv l (evv_len l), List.flatMap_append, List.flatMap_append]
  simp
theorem modify_at {α : Type} (l : List α) (k : Nat) (h : k < l.length) (f : α → α) : l.modify k f = l.take k ++ f l[k] :: l.drop (k + 1) := by
  rw [List.modify_eq_take_cons_drop h]
theorem flat_on (l : List En) (k : Nat) (h : k < l.length) (on : Bool) : (l.modify k (fun e => (e.1, on, e.2.2))).flatMap evv = (l.flatMap evv).set (k * 7 + 1) (.bool on) := by
  have e3 : (l.flatMap evv) = (l.take k).flatMap evv ++ (evv l[k] ++ (l.drop (k + 1)).flatMap evv) := by
    have e1 : l = l.take k ++ l[k] :: l.drop (k + 1) := by rw [← List.drop_eq_getElem_cons h, List.take_append_drop]
    conv => lhs; rw [e1]
    rw [List.flatMap_append, List.flatMap_cons]
  have e4 : ((l.take k).flatMap evv).length = k * 7 := by rw [evv_flen, List.length_take]; congr 1; omega
  rw [modify_at l k h, e3, List.flatMap_append, List.flatMap_cons, List.set_append_right _ _ (by omega), e4, show k * 7 + 1 - k * 7 = 1 by omega]
  rfl

theorem onAt_at {α : Type} {l : List (Ent α)} {k : Nat} (h : k < l.length) : onAt l k = l[k].2.1 := by unfold onAt; rw [List.getElem?_eq_getElem h]
section
variable {w : World} {g : Nat} {S : List Nat} {l : List En} (h : Ta w g S l) (hs : srt l) (hl : l.length ≤ 256)
include h hs hl
theorem tadd_ok (ev : Int) {c : Cc} (hc : c.rd w) : Does Try.prog 13 #[.pointer (some (base g)), .int .i64 ev, c.val] w fun v w' => v = .int .i64 (addE l ev) ∧ ∃ S' c', Ta w' g S' (addL l ev c') ∧ c'.say = c.say ∧ Mod S w w' ∧ (∀ y ∈ S', y ∈ S ∨ w.heap.size ≤ y) ∧ (addE l ev = 0 → c'.rd w' ∧ (∀ y ∈ c'.fp, w.heap.size ≤ y) ∧ ∀ y ∈ c'.fp, y ∉ S') := by
  apply w13
  unfold F13
  refine New.use fun w1 h1 m1 z1 => ?_
  refine (tok_ok (h.mod m1 (by simp))).mono ?_
  rintro _ _ ⟨rfl, rfl⟩
  refine ⟨_, rfl, ?_⟩
  rw [if_neg (by simp)]
  refine (tfind_ok (h.mod m1 (by simp)) hs hl ev).mono ?_
  rintro _ w2 ⟨rfl, m2⟩
  have M2 := m1.none m2
  have h12 := h1.mod m2 (by simp)
  have same : ∀ (e : Int) (w3 : World), Mod [] w w3 → addE l ev = e → e ≠ 0 → (Value.int .i64 e) = .int .i64 (addE l ev) ∧ ∃ S' c', Ta w3 g S' (addL l ev c') ∧ c'.say = c.say ∧ Mod S w w3 ∧ (∀ y ∈ S', y ∈ S ∨ w.heap.size ≤ y) ∧ (addE l ev = 0 → c'.rd w3 ∧ (∀ y ∈ c'.fp, w.heap.size ≤ y) ∧ ∀ y ∈ c'.fp, y ∉ S') := by
    intro e w3 m3 he hne
    refine ⟨by rw [he], S, c, ?_, rfl, m3.weaken (by simp), fun y hy => .inl hy, fun h0 => absurd (he ▸ h0) hne⟩
    unfold addL
    rw [if_neg (by rw [he]; exact hne)]
    exact h.mod m3 (by simp)
  refine ⟨_, _, rfl, ?_⟩
  have j1 : ∀ b : Bool, b = decide (ev < 0 ∨ 65535 < ev) → F13_j1 (isE ev l) (some (base g)) (base w.heap.size) ev (kx ev l : Int) b w2 (fun v w' => v = .int .i64 (addE l ev) ∧ ∃ S' c', Ta w' g S' (addL l ev c') ∧ c'.say = c.say ∧ Mod S w w' ∧ (∀ y ∈ S', y ∈ S ∨ w.heap.size ≤ y) ∧ (addE l ev = 0 → c'.rd w' ∧ (∀ y ∈ c'.fp, w.heap.size ≤ y) ∧ ∀ y ∈ c'.fp, y ∉ S')) := by
    intro b hb
    unfold F13_j1
    refine iteI (fun hh => ?_) (fun hh => ?_)
    · subst hb
      exact same 1 w2 M2 (by unfold addE; rw [if_pos (of_decide_eq_true hh)]) (by decide)
    have hr : ¬ (ev < 0 ∨ 65535 < ev) := by subst hb; simpa using hh
    refine iteI (fun hi => ?_) (fun hi => ?_)
    · exact same 9 w2 M2 (by unfold addE; rw [if_neg hr, if_pos hi]) (by decide)
    have h2 := h.mod M2 (by simp)
    obtain ⟨a, ca, rfl, hb2, ho2⟩ := h2
    refine ⟨_, rfl, _, _, _, hb2.cell (i := 1) rfl, iteI (fun hf => ?_) (fun hf => ?_)⟩
    · exact same 7 w2 M2 (by unfold addE; rw [if_neg hr, if_neg hi, if_pos (by omega)]) (by decide)
    have e0 : addE l ev = 0 := by unfold addE; rw [if_neg hr, if_neg hi, if_neg (by omega)]
    have md : Mod [] w w2.drew := M2.none (Mod.drew w2)
    have hb3 : Blk w2.drew _ _ _ := hb2.drew
    have ho3 := ho2.mod (Mod.drew (S := []) w2) (by simp)
    have h3 : Blk w2.drew _ _ _ := h12.drew
    refine ⟨_, _, _, hb3.cell (i := 1) rfl, _, _, _, _, _, _, _, _, _, h3.cells, ?_⟩
    refine (cloneC_ok (hc.mod md (by simp))).mono ?_
    rintro _ w4 ⟨c', rfl, hsay, hc', m4, f4⟩
    have M4 := md.none m4
    have hb4 := hb3.mod m4 (by simp)
    have ho4 := ho3.mod m4 (by simp)
    refine ⟨_, _, _, _, _, _, _, _, _, rfl, hb4.cell (i := 1) rfl, New.use fun w5 h5 m5 z5 => ?_⟩
    have hb5 := hb4.mod m5 (by simp)
    have ho5 := ho4.mod m5 (by simp)
    refine ⟨hb5.cell (i := 1) rfl, ?_⟩
    have hkx := kx_le ev l
    have hne := ho5.ne hb5 (by decide)
    have z4 := M4.size
    refine (insert_actionentry (xs := evv (ev, false, c')) ho5 (evv_one l) hkx (by omega) h5 (fun hx => by have := ho4.lt _ hx; omega) rfl (evv_one [(ev, false, c')] |> fun hh u hu => hh u (by simpa using hu))).mono ?_
    rintro _ w6 ⟨a', ca', rfl, o6, m6, f6⟩
    rw [flat_ins] at o6
    have hb6 := hb5.mod m6 hne
    have hne6 := o6.ne hb6 (by decide)
    refine ⟨_, _, _, rfl, Put.use hb6 (by simp) fun w7 h7 m7 => ?_⟩
    have hlen : (l.take (kx ev l) ++ [(ev, false, c')] ++ l.drop (kx ev l)).length = l.length + 1 := by simp; omega
    have hgw := hb2.lt
    have z24 : w2.heap.size ≤ w4.heap.size := m4.size
    have z2 := M2.size
    have hfa : ∀ y ∈ fp a, y < w.heap.size := by
      intro y hy
      exact h.lt y (by simp [hy])
    have hcg : ∀ y ∈ c'.fp, y ∉ fp a ∧ y ≠ g := by
      intro y hy
      have h1 := f4 y hy
      have h1' : w2.heap.size ≤ y := h1
      refine ⟨fun hh => by have := hfa y hh; omega, fun hh => by omega⟩
    refine ⟨by rw [e0], g :: fp a', c', ⟨a', ca', rfl, ?_, ?_⟩, hsay, ?_, ?_, ?_⟩
    · unfold addL; rw [if_pos e0, hlen]; exact h7
    · unfold addL; rw [if_pos e0, hlen]; exact o6.mod m7 (fun x hx hx' => by simp at hx'; subst hx'; exact hne6 hx)
    · exact (((M4.none m5).weaken (by simp)).trans m6 (fun y hy => .inl (by simp [hy]))).trans m7 (fun y hy => .inl (by simp at hy; simp [hy]))
    · intro y hy
      rcases List.mem_cons.1 hy with rfl | hy
      · left; simp
      · rcases f6 y hy with hh | hh
        · left; simp [hh]
        · right; omega
    · intro _
      refine ⟨((hc'.mod m5 (by simp)).mod m6 (fun y hy => (hcg y hy).1)).mod m7 (fun y hy hy' => by simp at hy'; exact (hcg y hy).2 hy'), fun y hy => by have h1 : w2.heap.size ≤ y := f4 y hy; omega, fun y hy hy' => ?_⟩
      rcases List.mem_cons.1 hy' with rfl | hy'
      · exact (hcg _ hy).2 rfl
      · rcases f6 y hy' with hh | hh
        · exact (hcg y hy).1 hh
        · have := hc'.lt y hy; omega
  refine iteI (fun hneg => j1 true ?_) (fun hneg => j1 _ ?_)
  · rw [decide_eq_true (by omega)]
  · rw [decide_eq_decide]; omega
theorem tdel_ok (ev : Int) : Does Try.prog 14 #[.pointer (some (base g)), .int .i64 ev] w fun v w' => v = .int .i64 (delE l ev) ∧ Ta w' g S (delL l ev) ∧ Mod S w w' := by
  apply w14
  unfold F14
  refine (tok_ok h).mono ?_
  rintro _ _ ⟨rfl, rfl⟩
  refine ⟨_, rfl, ?_⟩
  rw [if_neg (by simp)]
  refine (tfind_ok h hs hl ev).mono ?_
  rintro _ w2 ⟨rfl, m2⟩
  have h2 := h.mod m2 (by simp)
  refine ⟨_, _, rfl, iteI (fun hi => ?_) (fun hi => ?_)⟩
  · have hi : isE ev l ≠ true := by simpa using hi
    have e8 : delE l ev = 8 := by unfold delE; rw [if_neg hi]
    refine ⟨by rw [e8], ?_, m2.weaken (by simp)⟩
    unfold delL
    rw [if_neg (by rw [e8]; decide)]
    exact h2
  have hi : isE ev l = true := by simpa using hi
  obtain ⟨hlt, _⟩ := isE_lt hi
  obtain ⟨a, ca, rfl, hb2, ho2⟩ := h2
  have ho2' := ho2
  obtain ⟨p, hp, hc⟩ := ho2.rd.flat (evv_len _) (by decide) hlt
  refine ⟨_, rfl, _, _, _, hb2.cell (i := 1) rfl, p, hp, by omega, by omega, _, hc 1 _ rfl, ?_⟩
  rw [← onAt_at hlt]
  refine iteI (fun hon => ?_) (fun hon => ?_)
  · have e12 : delE l ev = 12 := by unfold delE; rw [if_pos hi, if_pos hon]
    refine ⟨by rw [e12], ?_, m2.weaken (by simp)⟩
    unfold delL
    rw [if_neg (by rw [e12]; decide)]
    exact ⟨a, ca, rfl, hb2, ho2'⟩
  have e0 : delE l ev = 0 := by unfold delE; rw [if_pos hi, if_neg hon]
  refine ⟨_, _, _, hb2.cell (i := 1) rfl, ?_⟩
  have e1 : IntKind.i64.wrap ((kx ev l : Int) + 1) = ((kx ev l + 1 : Nat) : Int) := by rw [wi64 (by omega)]; omega
  rw [e1]
  refine (delete_actionentry ho2' (evv_one _) (i := kx ev l) (j := kx ev l + 1) (by omega) (by omega)).mono ?_
  rintro _ w3 ⟨rfl, o3, m3⟩
  rw [flat_take evv l (evv_len _), flat_drop evv l (evv_len _), ← List.flatMap_append] at o3
  have hlen : (l.take (kx ev l) ++ l.drop (kx ev l + 1)).length = kx ev l + (l.length - (kx ev l + 1)) := by simp; omega
  rw [← hlen] at o3 ⊢
  have hne := ho2'.ne hb2 (by decide)
  refine ⟨_, _, _, rfl, Put.use (hb2.mod m3 hne) (by simp) fun w4 h4 m4 => ?_⟩
  refine ⟨by rw [e0], ?_, ((m2.weaken (by simp)).trans m3 (fun y hy => .inl (by simp [hy]))).trans m4 (fun y hy => .inl (by simp at hy; simp [hy]))⟩
  unfold delL
  rw [if_pos e0]
  exact ⟨a, ca, rfl, h4, o3.mod m4 (fun x hx hx' => by simp at hx'; subst hx'; exact hne hx)⟩
theorem ten_ok (ev : Int) (on : Bool) : Does Try.prog 15 #[.pointer (some (base g)), .int .i64 ev, .bool on] w fun v w' => v = .int .i64 (enE l ev) ∧ Ta w' g S (enL l ev on) ∧ Mod S w w' := by
  apply w15
  unfold F15
  refine (tok_ok h).mono ?_
  rintro _ _ ⟨rfl, rfl⟩
  refine ⟨_, rfl, ?_⟩
  rw [if_neg (by simp)]
  refine (tfind_ok h hs hl ev).mono ?_
  rintro _ w2 ⟨rfl, m2⟩
  have h2 := h.mod m2 (by simp)
  refine ⟨_, _, rfl, iteI (fun hi => ?_) (fun hi => ?_)⟩
  · have hi : isE ev l ≠ true := by simpa using hi
    unfold enE enL
    rw [if_neg hi, if_neg hi]
    exact ⟨rfl, h2, m2.weaken (by simp)⟩
  have hi : isE ev l = true := by simpa using hi
  obtain ⟨hlt, _⟩ := isE_lt hi
  obtain ⟨a, ca, rfl, hb2, ho2⟩ := h2
  obtain ⟨p, hp, hw, o3, m3⟩ := win_setAt ho2 (i := kx ev l * 7 + 1) (by rw [evv_flen]; omega) (.bool on)
  have hne := ho2.ne hb2 (by decide)
  refine ⟨_, rfl, _, _, _, hb2.cell (i := 1) rfl, p, hp, by omega, by omega, ?_⟩
  rw [Int.toNat_natCast, add_add]
  refine ⟨hw, ?_⟩
  unfold enE enL
  rw [if_pos hi, if_pos hi]
  refine ⟨rfl, ⟨a, ca, rfl, ?_, ?_⟩, (m2.weaken (by simp)).trans m3 (fun y hy => .inl (by simp [hy]))⟩
  · rw [List.length_modify]; exact hb2.mod m3 hne
  · rw [List.length_modify, flat_on l _ hlt]; exact o3
end
end Go.Proofs.Ytkeaamfpcapioaa
