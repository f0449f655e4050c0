/-
  The contracts of chapter 37: Enable, Find of the reference.
-/
import Derived.Test.YtkeaamfpcapioaaRefOps2
namespace Go.Proofs.Ytkeaamfpcapioaa
open Go Go.Sh Go.Proofs
set_option linter.unusedVariables false
set_option linter.unusedSimpArgs false
set_option linter.unusedSectionVars false

theorem rowO_set (l : List Bool) (k : Nat) (b : Bool) : (rowO.cells l).set k (.bool b) = rowO.cells (l.set k b) := by
  have e : ∀ l : List Bool, rowO.cells l = l.map Value.bool := by
    intro l
    unfold Row.cells
    induction l with
    | nil => rfl
    | cons x l ih => rw [List.flatMap_cons, ih]; rfl
  rw [e, e, List.map_set]
theorem modify_on (l : List En) (k : Nat) (on : Bool) : (l.modify k (fun e => (e.1, on, e.2.2))).map (·.1) = l.map (·.1) ∧ (l.modify k (fun e => (e.1, on, e.2.2))).map (·.2.2) = l.map (·.2.2) ∧ (l.modify k (fun e => (e.1, on, e.2.2))).map (·.2.1) = (l.map (·.2.1)).set k on := by
  refine ⟨?_, ?_, ?_⟩
  · apply List.ext_getElem
    · simp
    · intro i h1 h2
      simp only [List.getElem_map, List.getElem_modify]
      split <;> rfl
  · apply List.ext_getElem
    · simp
    · intro i h1 h2
      simp only [List.getElem_map, List.getElem_modify]
      split <;> rfl
  · apply List.ext_getElem
    · simp
    · intro i h1 h2
      simp only [List.getElem_map, List.getElem_modify, List.getElem_set]
      split <;> simp_all
theorem ren_ok {w : World} {r : Nat} {l : List En} {T : List Nat} (h : Rf w r l T) (hl : l.length ≤ 256) (ev : Int) (on : Bool) : Does Try.prog 21 #[.pointer (some (base r)), .int .i64 ev, .bool on] w fun v w' => v = .int .i64 (enE l ev) ∧ RefR w r T (enL l ev on) w' := by
  apply w21
  unfold F21
  refine (rat_ok h hl ev).mono ?_
  rintro _ w2 ⟨rfl, M2⟩
  refine ⟨_, _, rfl, iteI (fun hi => ?_) (fun hi => ?_)⟩
  · have hi : isE ev l ≠ true := by simpa using hi
    unfold enE enL
    rw [if_neg hi, if_neg hi]
    exact ⟨rfl, RefR.same h M2⟩
  have hi : isE ev l = true := by simpa using hi
  obtain ⟨hlt, _⟩ := isE_lt hi
  have hrw : r < w.heap.size := by
    obtain ⟨⟨_, _, _, _, _, _, hb0, _⟩, _⟩ := h
    exact hb0.lt
  have h2 := h.mod M2 (by simp) (by simp)
  obtain ⟨⟨ae, ce, ac, cc, ao, co, hb, r1, r2, r3, l1, l2, l3, t1, t2, t3⟩, nr⟩ := h2
  have z2 := M2.size
  refine New.use fun w3 h3 m3 z3 => ?_
  refine ⟨_, rfl, _, _, _, (hb.mod m3 (by simp)).cell (i := 2) rfl, ?_⟩
  obtain ⟨a1, n1, c1, w4, run, G, m4⟩ := (Gr.start (R := rowO) h3 m3 (Nat.le_refl _)).app (k := l.length) (d := co) (m := l.map (·.2.1)) (by simp) (r3.mod m3 (by simp)) (by omega)
  rw [List.nil_append] at G
  have hn1 := G.len
  rw [List.length_map] at hn1
  obtain ⟨p, hp, hw, o5, m5⟩ := G.o.setAt (i := kx ev l) (by rw [rowO.len]; simp; omega) (.bool on)
  rw [rowO_set] at o5
  refine ⟨a1, n1, c1, w4, run, p, hp, by omega, by omega, hw, ?_⟩
  simp only [Int.toNat_natCast]
  have m25 := G.m.since m5 G.s
  refine Put.use (hb.mod m25 (by simp)) (by simp) fun w6 h6 m6 => ?_
  simp only [List.set] at h6
  have m26 : Mod [r] w2 w6 := (m25.weaken (by simp)).trans m6 (fun y hy => .inl hy)
  have o6 := o5.mod m6 (fun y hy hy' => by have := G.s y hy; simp at hy'; omega)
  have r1' := r1.modv m26 (fun y hy hy' => by simp at hy'; subst hy'; exact nr (t1 _ hy))
  have r2' := r2.modv m26 (fun y hy hy' => by simp at hy'; subst hy'; exact nr (t2 _ hy))
  have z6 := m26.size
  obtain ⟨e1, e2, e3⟩ := modify_on l (kx ev l) on
  have hm : Mod [r] w w6 := (M2.weaken (by simp)).trans m26 (fun y hy => .inl hy)
  unfold enE enL
  rw [if_pos hi, if_pos hi]
  have RO := o6.rd
  rw [← e3] at RO
  rw [← e1] at r1' t1
  rw [← e2] at r2' t2
  refine ⟨rfl, fp a1 ++ T, ⟨⟨ae, ce, ac, cc, a1, c1, ?_, r1', r2', RO, ?_, ?_, ?_, fun y hy => ?_, fun y hy => ?_, fun y hy => ?_⟩, ?_⟩, hm, fun y hy => by simp [hy], fun y hy => ?_⟩
  · rw [List.length_modify]; subst hn1; exact h6
  · rw [List.length_modify]; exact l1
  · rw [List.length_modify]; exact l2
  · rw [List.length_modify]; have := G.o.le; omega
  · have := t1 y hy; simp [this]
  · have := t2 y hy; simp [this]
  · have := fpv_sub y hy; simp [this]
  · intro hh
    rcases List.mem_append.1 hh with hh | hh
    · have := G.s r hh; omega
    · exact nr hh
  · rcases List.mem_append.1 hy with hy | hy
    · right; have := G.s y hy; have := o6.lt y hy; omega
    · exact .inl hy
theorem rfnd_ok {w : World} {r : Nat} {l : List En} {T : List Nat} (h : Rf w r l T) (hl : l.length ≤ 256) (ev : Int) : Does Try.prog 23 #[.pointer (some (base r)), .int .i64 ev] w fun v w' => v = .tuple #[(fndC l ev).val, .bool (fndB l ev)] ∧ Mod [] w w' := by
  apply w23
  unfold F23
  refine New.use fun w1 h1 m1 z1 => ?_
  refine (rat_ok (h.mod m1 (by simp) (by simp)) hl ev).mono ?_
  rintro _ w2 ⟨rfl, m2⟩
  have M2 := m1.none m2
  have h12 := h1.mod m2 (by simp)
  have no : fndB l ev = false → F23_j1 (base w.heap.size) (some (base r)) (kx ev l : Int) true w2 (fun v w' => v = .tuple #[(fndC l ev).val, .bool (fndB l ev)] ∧ Mod [] w w') := by
    intro hf
    unfold F23_j1
    rw [if_pos rfl]
    refine PutAll.use h12 rfl fun w3 h3 m3 => ⟨_, _, _, _, _, _, _, _, _, h3.cells, ?_, M2.trans m3 (fun y hy => .inr (by simp at hy; omega))⟩
    unfold fndC
    rw [hf]
    rfl
  refine ⟨_, _, rfl, iteI (fun hi => ?_) (fun hi => ?_)⟩
  · have hi : isE ev l = false := by simpa using hi
    exact no (by unfold fndB; rw [hi]; rfl)
  have hi : isE ev l = true := by simpa using hi
  obtain ⟨hlt, _⟩ := isE_lt hi
  obtain ⟨⟨ae, ce, ac, cc, ao, co, hb, r1, r2, r3, l1, l2, l3, t1, t2, t3⟩, nr⟩ := h.mod M2 (by simp) (by simp)
  obtain ⟨po, hpo, hco⟩ := r3.flat (f := rowO.f) (L := l.map (·.2.1)) (z := 1) (fun _ _ => rfl) (by decide) (i := kx ev l) (by simpa using hlt)
  have hco0 := hco 0 (.bool l[kx ev l].2.1) (by simp)
  rw [add_zero, Nat.mul_one] at hco0
  refine ⟨_, rfl, _, _, _, hb.cell (i := 2) rfl, po, hpo, by omega, by omega, _, hco0, ?_⟩
  have eon : fndB l ev = l[kx ev l].2.1 := by unfold fndB; rw [hi, onAt_at hlt]; simp
  cases hon : l[kx ev l].2.1 with
  | false => exact no (by rw [eon, hon])
  | true =>
    unfold F23_j1
    rw [if_neg (by simp)]
    obtain ⟨pc, hpc, hcc⟩ := r2.flat (f := rowC.f) (L := l.map (·.2.2)) (z := 5) (fun _ _ => rfl) (by decide) (i := kx ev l) (by simpa using hlt)
    have ec : fndC l ev = l[kx ev l].2.2 := by unfold fndC; rw [if_pos (by rw [eon, hon]), cmdAt_at hlt]
    have el : (l.map (·.2.2))[kx ev l]'(by simpa using hlt) = l[kx ev l].2.2 := by simp
    rw [el] at hcc
    rw [ec, eon, hon]
    generalize l[kx ev l].2.2 = c at hcc
    refine ⟨_, rfl, _, _, _, hb.cell (i := 1) rfl, pc, hpc, by omega, by omega, c.src, c.num, c.svc, c.aa, c.al.length, c.ac, c.ba, c.bl.length, c.bc, ⟨by have := hcc 0 _ rfl; exact this, hcc 1 _ rfl, hcc 2 _ rfl, hcc 3 _ rfl, hcc 4 _ rfl, trivial⟩, ?_⟩
    exact PutAll.use h12 rfl fun w5 h5 m5 => ⟨_, _, _, _, _, _, _, _, _, h5.cells, rfl, M2.trans m5 (fun y hy => .inr (by simp at hy; omega))⟩
end Go.Proofs.Ytkeaamfpcapioaa
