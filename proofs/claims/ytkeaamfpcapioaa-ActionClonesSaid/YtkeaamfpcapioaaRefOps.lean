/-
  The contracts of chapter 37: the reference's calls.
-/
import Derived.Test.YtkeaamfpcapioaaRefAdd
namespace Go.Proofs.Ytkeaamfpcapioaa
open Go Go.Sh Go.Proofs
set_option linter.unusedVariables false
set_option linter.unusedSimpArgs false
set_option linter.unusedSectionVars false

/-- What a call of the reference leaves: the table, and more frozen blocks. -/
def RefR (w : World) (r : Nat) (T : List Nat) (l : List En) (w' : World) : Prop := ∃ T', Rf w' r l T' ∧ Mod [r] w w' ∧ (∀ y ∈ T, y ∈ T') ∧ ∀ y ∈ T', y ∈ T ∨ (w.heap.size ≤ y ∧ y < w'.heap.size)
theorem RefR.same {w w' : World} {r : Nat} {T : List Nat} {l : List En} (h : Rf w r l T) (m : Mod [] w w') : RefR w r T l w' :=
  ⟨T, h.mod m (by simp) (by simp), m.weaken (by simp), fun y hy => hy, fun y hy => .inl hy⟩
theorem map_ins {α : Type} (f : En → α) (l : List En) (k : Nat) (x : En) : (l.map f).take k ++ [f x] ++ (l.map f).drop k = (l.take k ++ [x] ++ l.drop k).map f := by
  rw [List.map_append, List.map_append, List.map_take, List.map_drop]
  rfl
theorem radd_ok {w : World} {r : Nat} {l : List En} {T : List Nat} (h : Rf w r l T) (hl : l.length ≤ 256) (ev : Int) (c : Cc) : Does Try.prog 20 #[.pointer (some (base r)), .int .i64 ev, c.val] w fun v w' => v = .int .i64 (addE l ev) ∧ RefR w r T (addL l ev c) w' := by
  apply w20
  unfold F20
  refine New.use fun w1 h1 m1 z1 => ?_
  have same : ∀ (e : Int) (w3 : World), Mod [] w w3 → addE l ev = e → e ≠ 0 → (Value.int .i64 e) = .int .i64 (addE l ev) ∧ RefR w r T (addL l ev c) w3 := by
    intro e w3 m3 he hne
    refine ⟨by rw [he], ?_⟩
    unfold addL
    rw [if_neg (by rw [he]; exact hne)]
    exact RefR.same h m3
  refine iteI (fun hh => same 1 w1 m1 (by unfold addE; rw [if_pos (.inl hh)]) (by decide)) (fun hh1 => ?_)
  refine iteI (fun hh => same 1 w1 m1 (by unfold addE; rw [if_pos (.inr hh)]) (by decide)) (fun hh2 => ?_)
  have hr : ¬ (ev < 0 ∨ 65535 < ev) := by omega
  refine (rat_ok (h.mod m1 (by simp) (by simp)) hl ev).mono ?_
  rintro _ w2 ⟨rfl, m2⟩
  have M2 := m1.none m2
  refine ⟨_, _, rfl, iteI (fun hi => ?_) (fun hi => ?_)⟩
  · exact same 9 w2 M2 (by unfold addE; rw [if_neg hr, if_pos hi]) (by decide)
  have h2 := h.mod M2 (by simp) (by simp)
  have hc2 := h1.mod m2 (by simp)
  obtain ⟨⟨ae, ce, ac, cc, ao, co, hb, r1, r2, r3, l1, l2, l3, t1, t2, t3⟩, nr⟩ := h2
  refine ⟨_, rfl, _, _, _, hb.cell0, iteI (fun hf => ?_) (fun hf => ?_)⟩
  · exact same 7 w2 M2 (by unfold addE; rw [if_neg hr, if_neg hi, if_pos (by omega)]) (by decide)
  have e0 : addE l ev = 0 := by unfold addE; rw [if_neg hr, if_neg hi, if_neg (by omega)]
  have eL : addL l ev c = l.take (kx ev l) ++ [(ev, false, c)] ++ l.drop (kx ev l) := by unfold addL; rw [if_pos e0]
  have hkx := kx_le ev l
  have hrw : r < w.heap.size := by
    obtain ⟨⟨_, _, _, _, _, _, hb0, _⟩, _⟩ := h
    exact hb0.lt
  have hTlt : ∀ y ∈ fpv ae (rowE.cells (l.map (·.1))) ++ fpv ac (rowC.cells (l.map (·.2.2))) ++ fpv ao (rowO.cells (l.map (·.2.1))), y ∈ T := by
    intro y hy
    rcases List.mem_append.1 hy with hy | hy
    · rcases List.mem_append.1 hy with hy | hy
      · exact t1 y hy
      · exact t2 y hy
    · exact t3 y hy
  have z2 := M2.size
  refine insE (x0 := .bool true) (qc := w.heap.size) ev hb r1 (by simp) (by omega) hkx l1 ?_
  intro w3 a3 n3 c3 b3 hn3 hc3 R3 s3 f3 m3
  have hq3 := hc2.mod m3 (by simp; omega)
  have r2' := r2.modv m3 (fun y hy hy' => by simp at hy'; subst hy'; exact nr (t2 _ hy))
  have r3' := r3.modv m3 (fun y hy hy' => by simp at hy'; subst hy'; exact nr (t3 _ hy))
  refine insC (x1 := .bool true) c b3 r2' (by simp) (by omega) hkx l2 hq3 ?_
  intro w4 a4 n4 c4 b4 hn4 hc4 R4 s4 f4 m4
  have z3 := m3.size
  have z4 := m4.size
  have R3' := R3.mod m4 (fun y hy hy' => by have := s3 y hy; simp at hy'; omega)
  have r3'' := r3'.modv m4 (fun y hy hy' => by simp at hy'; subst hy'; exact nr (t3 _ hy))
  refine insO (x2 := .bool true) b4 r3'' (by simp) (by omega) hkx l3 ?_
  intro w5 a5 n5 c5 b5 hn5 hc5 R5 s5 f5 m5
  have z5 := m5.size
  have R3'' := R3'.mod m5 (fun y hy hy' => by have := s3 y hy; simp at hy'; omega)
  have R4' := R4.mod m5 (fun y hy hy' => by have := s4 y hy; simp at hy'; omega)
  have hlen : (addL l ev c).length = l.length + 1 := by rw [eL]; simp; omega
  have hm : Mod [r] w w5 := (((M2.weaken (by simp)).trans m3 (fun y hy => .inl hy)).trans m4 (fun y hy => .inl hy)).trans m5 (fun y hy => .inl hy)
  have mE : (l.map (·.1)).take (kx ev l) ++ [ev] ++ (l.map (·.1)).drop (kx ev l) = (addL l ev c).map (·.1) := by rw [eL]; exact map_ins (·.1) l _ (ev, false, c)
  have mC : (l.map (·.2.2)).take (kx ev l) ++ [c] ++ (l.map (·.2.2)).drop (kx ev l) = (addL l ev c).map (·.2.2) := by rw [eL]; exact map_ins (·.2.2) l _ (ev, false, c)
  have mO : (l.map (·.2.1)).take (kx ev l) ++ [false] ++ (l.map (·.2.1)).drop (kx ev l) = (addL l ev c).map (·.2.1) := by rw [eL]; exact map_ins (·.2.1) l _ (ev, false, c)
  rw [mE] at R3''
  rw [mC] at R4'
  rw [mO] at R5
  refine ⟨by rw [e0], fp a3 ++ fp a4 ++ fp a5 ++ T, ⟨⟨a3, c3, a4, c4, a5, c5, ?_, R3'', R4', R5, by omega, by omega, by omega, fun y hy => ?_, fun y hy => ?_, fun y hy => ?_⟩, ?_⟩, hm, fun y hy => by simp [hy], fun y hy => ?_⟩
  · rw [hlen]
    subst hn3 hn4 hn5
    exact b5
  · have := fpv_sub y hy; simp [this]
  · have := fpv_sub y hy; simp [this]
  · have := fpv_sub y hy; simp [this]
  · intro hh
    simp only [List.mem_append] at hh
    rcases hh with ((hh | hh) | hh) | hh
    · have := s3 r hh; omega
    · have := s4 r hh; omega
    · have := s5 r hh; omega
    · exact nr hh
  · simp only [List.mem_append] at hy
    rcases hy with ((hy | hy) | hy) | hy
    · right; have := s3 y hy; have := f3 y hy; omega
    · right; have := s4 y hy; have := f4 y hy; omega
    · right; have := s5 y hy; have := f5 y hy; omega
    · exact .inl hy
end Go.Proofs.Ytkeaamfpcapioaa
