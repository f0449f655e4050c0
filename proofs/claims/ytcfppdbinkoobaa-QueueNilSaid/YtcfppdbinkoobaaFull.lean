/-
  The law QueueFull, as a contract.
-/
import Derived.Test.YtcfppdbinkoobaaStable
namespace Go.Proofs.Ytcfppdbinkoobaa
open Go Go.Sh Go.Proofs
set_option linter.unusedVariables false
set_option linter.unusedSimpArgs false
set_option linter.unusedSectionVars false

theorem ins_perm (l : List Qe) (x : Qe) : (ins l x).Perm (x :: l) := by
  unfold ins
  rw [List.append_assoc, List.singleton_append]
  refine List.perm_middle.trans ?_
  rw [List.take_append_drop]
theorem rem_perm (l : List Qe) (k : Nat) (h : k < l.length) : l.Perm (l[k] :: (l.take k ++ l.drop (k + 1))) := by
  have : l = l.take k ++ (l[k] :: l.drop (k + 1)) := by rw [← List.drop_eq_getElem_cons h, List.take_append_drop]
  exact (List.Perm.of_eq this).trans List.perm_middle
theorem fidx_ex {α : Type} (p : α → Bool) (l : List α) {x : α} (h : x ∈ l) (hp : p x = true) : fidx p l < l.length := by
  have := fidx_le p l
  by_cases hh : fidx p l < l.length
  · exact hh
  · obtain ⟨j, hj, rfl⟩ := List.getElem_of_mem h
    have := fidx_before p l j hj (by omega)
    rw [this] at hp
    cases hp
/-- The items are different; one of them is removed. -/
theorem rem_gone {l : List Qe} {i : Int} (hn : (items l).Nodup) (h : fidx (isIt i) l < l.length) : ∀ e ∈ l.take (fidx (isIt i) l) ++ l.drop (fidx (isIt i) l + 1), e.2 ≠ i ∧ e ∈ l := by
  have hp := rem_perm l _ h
  have h2 : (items (l[fidx (isIt i) l] :: (l.take (fidx (isIt i) l) ++ l.drop (fidx (isIt i) l + 1)))).Nodup := (hp.map _).nodup_iff.1 hn
  have hi : l[fidx (isIt i) l].2 = i := by have := fidx_here (isIt i) l h; simpa [isIt] using this
  intro e he
  refine ⟨fun hc => ?_, hp.mem_iff.2 (List.mem_cons_of_mem _ he)⟩
  unfold items at h2
  rw [List.map_cons, List.nodup_cons] at h2
  exact h2.1 (List.mem_map.2 ⟨e, he, by rw [hc, hi]⟩)

/-- The queue after some pushes; n of them were taken. -/
structure Fld (room : Int) (n : Nat) (s : Qs) : Prop where
  most : s.most = room
  len : s.l.length = n
  it : ∀ e ∈ s.l, 0 ≤ e.2 ∧ e.2 < (n : Int)
  nd : (items s.l).Nodup
  zero : 0 < n → ∃ e ∈ s.l, e.2 = 0
theorem Fld.step {room p : Int} {n : Nat} {s : Qs} (h : Fld room n s) (hr : (n : Int) < room) : (s.push p (n : Int)).1 = 0 ∧ Fld room (n + 1) (s.push p (n : Int)).2 := by
  rw [push_new (fun e he => by have := (h.it e he).2; omega) (by rw [h.len, h.most]; exact hr)]
  refine ⟨rfl, h.most, by rw [ins_len, h.len], fun e he => ?_, ?_, fun _ => ?_⟩
  · rcases (ins_mem _ _ _).1 he with rfl | he
    · simp; omega
    · have := h.it e he; omega
  · show (items (ins s.l (p, (n : Int)))).Nodup
    refine ((ins_perm s.l (p, (n : Int))).map (·.2)).nodup_iff.2 ?_
    rw [List.map_cons, List.nodup_cons]
    refine ⟨fun hc => ?_, h.nd⟩
    obtain ⟨e, he, h2⟩ := List.mem_map.1 hc
    have := (h.it e he).2
    simp only at h2
    omega
  · by_cases h0 : n = 0
    · exact ⟨(p, (n : Int)), (ins_mem _ _ _).2 (.inl rfl), by subst h0; rfl⟩
    · obtain ⟨e, he, h1⟩ := h.zero (by omega)
      exact ⟨e, (ins_mem _ _ _).2 (.inr he), h1⟩
theorem Fld.full {room p i : Int} {n : Nat} {s : Qs} (h : Fld room n s) (hr : (n : Int) = room) (hi : (n : Int) ≤ i) : s.push p i = (7, s) := by
  unfold Qs.push
  rw [isIt_none (fun e he => by have := (h.it e he).2; omega), if_neg (by omega), if_pos (by rw [h.len, h.most]; exact hr)]

theorem queueFull_ok (most : Int) {a : Option Addr} {zs : List Int} (c : Nat) {w : World} (hr : Rd w a (zs.map iv)) : Does Try.prog 4 #[.int .i64 most, .slice a zs.length c] w fun v w' => v = .bool true ∧ Mod [] w w' := by
  apply w4
  unfold F4
  have live : ∀ {w' : World}, Mod [] w w' → Does Try.prog 8 #[] w' (fun v w'' => ∃ (x : Bool), v = .bool x ∧ (Value.bool x = .bool true ∧ Mod [] w w'')) := fun M => (alive_ok _).mono fun v w' h => ⟨_, h.1, rfl, M.none h.2⟩
  refine iteI (fun hl => live (Mod.refl _)) (fun hl => ?_)
  refine (QN.new w most).mono ?_
  rintro _ w1 ⟨rfl, q1⟩
  refine ⟨_, rfl, ?_⟩
  generalize hroom : min (max most 0) 256 = room
  have hrb : 0 ≤ room ∧ room ≤ 256 := by omega
  refine LoopP.of (fun (x : Int × Int) w' => ∃ (i n : Nat) (s : Qs), i ≤ zs.length ∧ (n : Int) = min (i : Int) room ∧ x = ((n : Int), (i : Int)) ∧ QN w w' w.heap.size s [] ∧ Fld room n s) (fun x _ => zs.length - x.2.toNat) ⟨0, 0, _, by omega, by omega, rfl, q1, ⟨hroom, rfl, by simp [q0], by simp [q0, items], by omega⟩⟩ ?_
  rintro _ w2 ⟨i, n, s, hi, hni, rfl, q2, P⟩
  unfold F4_b1
  dsimp only
  by_cases hlt : i < zs.length
  · rw [if_pos (by omega)]
    obtain ⟨p, rfl, hc⟩ := rd_get (hr.mod q2.m (by simp)) hlt
    refine ⟨p, rfl, by omega, by omega, _, hc, (q2.push _ _).mono ?_⟩
    rintro _ w3 ⟨rfl, q3, _⟩
    refine ⟨_, rfl, ?_⟩
    have j2 : ∀ (n' : Nat) (s' : Qs), QN w w3 w.heap.size s' [] → Fld room n' s' → (n' : Int) = min ((i + 1 : Nat) : Int) room → F4_j2 (some (base w.heap.size)) (i : Int) (n' : Int) w3 (fun v w' => v = .bool true ∧ Mod [] w w') (fun x0 x1 w' => ∃ m, m < zs.length - (i : Int).toNat ∧ ((∃ (i n : Nat) (s : Qs), i ≤ zs.length ∧ (n : Int) = min (i : Int) room ∧ (x0, x1) = ((n : Int), (i : Int)) ∧ QN w w' w.heap.size s [] ∧ Fld room n s) ∧ zs.length - x1.toNat = m)) := by
      intro n' s' q' P' hn'
      unfold F4_j2
      refine q'.len.mono ?_
      rintro _ _ ⟨rfl, rfl⟩
      refine ⟨_, rfl, ?_⟩
      rw [if_neg (by rw [P'.len]; simp), wi64 (by omega)]
      exact ⟨_, by omega, ⟨i + 1, n', s', by omega, hn', rfl, q', P'⟩, rfl⟩
    rw [hroom]
    unfold F4_j3
    by_cases hroomy : (n : Int) < room
    · have hn : n = i := by omega
      subst hn
      obtain ⟨e0, P'⟩ := P.step (p := zs[n]) hroomy
      rw [if_pos hroomy, if_pos (by rw [e0]; rfl), wi64 (by omega)]
      exact j2 (n + 1) _ q3 P' (by omega)
    · have hfull := P.full (p := zs[i]) (i := (i : Int)) (by omega) (by omega)
      rw [hfull] at q3 ⊢
      rw [if_neg hroomy, if_neg (by simp), hroom, if_neg hroomy, if_neg (by simp)]
      exact j2 n _ q3 P (by omega)
  · rw [if_neg (by omega)]
    refine iteI (fun h0 => live q2.m) (fun h0 => ?_)
    obtain ⟨e, he, h1⟩ := P.zero (by omega)
    have hf : fidx (isIt 0) s.l < s.l.length := fidx_ex _ _ he (by simp [isIt, h1])
    have e9 : s.push 0 0 = (9, s) := by unfold Qs.push; rw [if_pos hf]
    have eR : s.remove 0 = (true, ⟨s.most, s.l.take (fidx (isIt 0) s.l) ++ s.l.drop (fidx (isIt 0) s.l + 1)⟩) := by unfold Qs.remove; rw [if_pos hf]
    have gone := rem_gone P.nd hf
    generalize hs' : (⟨s.most, s.l.take (fidx (isIt 0) s.l) ++ s.l.drop (fidx (isIt 0) s.l + 1)⟩ : Qs) = s' at eR
    have hgone : ∀ e ∈ s'.l, e.2 ≠ 0 ∧ e ∈ s.l := by rw [← hs']; exact gone
    have hlen : s'.l.length + 1 = n := by rw [← hs', ← P.len]; simp; omega
    have hmost : s'.most = room := by rw [← hs', ← P.most]
    have eR2 : s'.remove 0 = (false, s') := by unfold Qs.remove; rw [isIt_none (fun e he => (hgone e he).1), if_neg (by omega)]
    have eP : s'.push 1 (-1) = (0, ⟨s'.most, ins s'.l (1, -1)⟩) := push_new (fun e he => by have := (P.it e (hgone e he).2).1; omega) (by omega)
    refine (q2.push 0 0).mono ?_
    rintro _ w3 ⟨rfl, q3, _⟩
    rw [e9] at q3 ⊢
    refine ⟨_, rfl, ?_⟩
    rw [if_pos (by simp)]
    refine (q3.remove 0).mono ?_
    rintro _ w4 ⟨rfl, q4, _⟩
    rw [eR] at q4 ⊢
    refine ⟨_, rfl, ?_⟩
    rw [if_pos (by simp)]
    refine (q4.remove 0).mono ?_
    rintro _ w5 ⟨rfl, q5, _⟩
    rw [eR2] at q5 ⊢
    refine ⟨_, rfl, ?_⟩
    rw [if_pos (by simp)]
    refine (q5.push 1 (-1)).mono ?_
    rintro _ w6 ⟨rfl, q6, _⟩
    rw [eP] at q6 ⊢
    refine ⟨_, rfl, ?_⟩
    rw [if_pos (by simp)]
    refine q6.len.mono ?_
    rintro _ _ ⟨rfl, rfl⟩
    refine ⟨_, rfl, ?_⟩
    rw [if_pos (by simp only [ins_len]; omega)]
    exact live q6.m
end Go.Proofs.Ytcfppdbinkoobaa
