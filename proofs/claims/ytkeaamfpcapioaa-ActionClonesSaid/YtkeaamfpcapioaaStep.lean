/-
  Chapter 37: a call on the table and on the reference's.
-/
import Derived.Test.YtkeaamfpcapioaaPair
namespace Go.Proofs.Ytkeaamfpcapioaa
open Go Go.Sh Go.Proofs
set_option linter.unusedVariables false
set_option linter.unusedSimpArgs false
set_option linter.unusedSectionVars false

section
variable {α : Type} {l : List (Ent α)}
theorem add_mem {ev : Int} {c : α} {e : Ent α} (h : e ∈ addL l ev c) : e ∈ l ∨ (e = (ev, false, c) ∧ addE l ev = 0) := by
  unfold addL at h
  split at h
  · rename_i h0
    rcases List.mem_append.1 h with h | h
    · rcases List.mem_append.1 h with h | h
      · exact .inl (List.mem_of_mem_take h)
      · exact .inr ⟨by simpa using h, h0⟩
    · exact .inl (List.mem_of_mem_drop h)
  · exact .inl h
theorem del_mem {ev : Int} {e : Ent α} (h : e ∈ delL l ev) : e ∈ l := by
  unfold delL at h
  split at h
  · rcases List.mem_append.1 h with h | h
    · exact List.mem_of_mem_take h
    · exact List.mem_of_mem_drop h
  · exact h
theorem en_mem {ev : Int} {on : Bool} {e : Ent α} (h : e ∈ enL l ev on) : ∃ e0 ∈ l, e.2.2 = e0.2.2 := by
  unfold enL at h
  split at h
  · obtain ⟨j, hj, rfl⟩ := List.getElem_of_mem h
    rw [List.length_modify] at hj
    refine ⟨l[j], List.getElem_mem _, ?_⟩
    rw [List.getElem_modify]
    split <;> rfl
  · exact ⟨e, h, rfl⟩
end
/-- What a step leaves. -/
def StepR (w0 w : World) (S : List Nat) (g r : Nat) (T : List Nat) (w' : World) : Prop :=
  ∃ S' l' lr' T', Pr w0 w' S' g r l' lr' T' ∧ says l' = says lr' ∧ Mod (r :: S) w w' ∧ (∀ y ∈ S', y ∈ S ∨ w.heap.size ≤ y) ∧ (∀ y ∈ T, y ∈ T') ∧ ∀ y ∈ T', y ∈ T ∨ (w.heap.size ≤ y ∧ y < w'.heap.size)
theorem StepR.of {w0 w w1 w2 : World} {S S' : List Nat} {g r : Nat} {T T1 T2 : List Nat} {l' lr' : List En} (p : Pr w0 w2 S' g r l' lr' T2) (ag : says l' = says lr') (m1 : Mod S w w1) (hS : ∀ y ∈ S', y ∈ S ∨ w.heap.size ≤ y) (h1 : ∀ y ∈ T, y ∈ T1) (h2 : ∀ y ∈ T1, y ∈ T ∨ (w.heap.size ≤ y ∧ y < w1.heap.size)) (m2 : Mod [r] w1 w2) (h3 : ∀ y ∈ T1, y ∈ T2) (h4 : ∀ y ∈ T2, y ∈ T1 ∨ (w1.heap.size ≤ y ∧ y < w2.heap.size)) : StepR w0 w S g r T w2 := by
  have z1 := m1.size
  have z2 := m2.size
  refine ⟨S', l', lr', T2, p, ag, (m1.weaken (fun y hy => .inl (by simp [hy]))).trans m2 (fun y hy => .inl (by simp at hy; simp [hy])), hS, fun y hy => h3 y (h1 y hy), fun y hy => ?_⟩
  rcases h4 y hy with h | h
  · rcases h2 y h with h' | h'
    · exact .inl h'
    · right; omega
  · right; omega

abbrev sval (k ev : Int) (on : Bool) (c : Cc) : Value := .agg #[.int .u8 k, .int .i64 ev, .bool on, .int .i64 c.src, .int .i64 c.num, .int .i64 c.svc, .slice c.aa c.al.length c.ac, .slice c.ba c.bl.length c.bc]
theorem step_ok {w0 w : World} {S : List Nat} {g r : Nat} {l lr : List En} {T : List Nat} (h : Pr w0 w S g r l lr T) (ag : says l = says lr) (k ev : Int) (on : Bool) {c : Cc} (hc : Fz w0 w T c) :
    Does Try.prog 10 #[.pointer (some (base g)), .pointer (some (base r)), sval k ev on c] w fun v w' => v = .bool true ∧ StepR w0 w S g r T w' := by
  have ag : mp Cc.say l = mp Cc.say lr := ag
  have hlen : l.length = lr.length := by rw [← mp_len Cc.say l, ag, mp_len]
  apply w10
  unfold F10
  refine New.use fun w1 h1 m1 z1 => ?_
  have b1 : Blk w1.drew w.heap.size 38 _ := h1.drew
  have md : Mod [] w w1.drew := m1.none (Mod.drew w1)
  have hd := h.mod md
  have hcd : Fz w0 w1.drew T c := hc.mod md (by simp) (fun y hy => hy)
  have hsl := h.ta.lt
  have zl : w.heap.size < w1.drew.heap.size := by show _ < w1.heap.size; omega
  have hwS : w.heap.size ∉ S := fun hh => by have := hsl _ hh; omega
  refine ⟨_, h1.cell0, iteI (fun hk => ?_) (fun hk => ?_)⟩
  · refine ⟨_, b1.cell (i := 1) rfl, _, _, _, _, _, _, _, _, _, b1.cellsFrom (i := 3) (n := 5) (by simp), _, b1.cell (i := 1) rfl, _, _, _, _, _, _, _, _, _, b1.cellsFrom (i := 3) (n := 5) (by simp), ?_⟩
    refine (tadd_ok hd.ta hd.srt hd.len ev hcd.rd).mono ?_
    rintro _ w2 ⟨rfl, S', c', ta, hsay, m2, hS, hnew⟩
    have b2 := b1.mod m2 hwS
    refine ⟨_, rfl, b2.cell (i := 1) rfl, b2.cellsFrom (i := 3) (n := 5) (by simp), ?_⟩
    have z2 := m2.size
    -- the new blocks
    have P2 : ∃ N, Pr w0 w2 S' g r (addL l ev c') lr (N ++ T) ∧ ∀ y ∈ N, w1.drew.heap.size ≤ y ∧ y < w2.heap.size := by
      by_cases h0 : addE l ev = 0
      · obtain ⟨hrd, hf, hS2⟩ := hnew h0
        refine ⟨c'.fp, hd.table ta m2 hS (fun y hy => ⟨hf y hy, hrd.lt y hy, hS2 y hy⟩) (srt_add h.srt ev c') (len_add h.len ev c') (fun e he => ?_), fun y hy => ⟨hf y hy, hrd.lt y hy⟩⟩
        rcases add_mem he with h' | ⟨rfl, _⟩
        · exact .inl h'
        · exact .inr (.inr ⟨hrd, fun y hy => hy⟩)
      · refine ⟨[], hd.table ta m2 hS (by simp) (srt_add h.srt ev c') (len_add h.len ev c') (fun e he => ?_), by simp⟩
        rcases add_mem he with h' | ⟨_, h'⟩
        · exact .inl h'
        · exact absurd h' h0
    obtain ⟨N, P2, hN⟩ := P2
    have hc2 : Fz w0 w2 (N ++ T) c := hcd.mod m2 (fun y hy => ⟨h.s0 y hy, h.sT y hy⟩) (fun y hy => by simp [hy])
    refine (radd_ok P2.rf P2.rlen ev c).mono ?_
    rintro _ w3 ⟨rfl, hr⟩
    obtain ⟨T3, P3, m3, hT3, hT3'⟩ := P2.ref hr (len_add h.rlen ev c) (fun e he => by
      rcases add_mem he with h' | ⟨rfl, _⟩
      · exact P2.cr e h'
      · exact hc2)
    have eE : addE l ev = addE lr ev := by rw [← mp_addE Cc.say l, ag, mp_addE]
    refine ⟨_, rfl, by rw [eE]; simp, ?_⟩
    have zw := md.size
    refine StepR.of P3 ?_ ((md.weaken (by simp)).trans m2 (fun y hy => .inl hy)) (fun y hy => by rcases hS y hy with h' | h'; exact .inl h'; right; omega) (T1 := N ++ T) (fun y hy => by simp [hy]) (fun y hy => ?_) m3 hT3 hT3'
    · show mp Cc.say _ = mp Cc.say _
      rw [mp_addL, mp_addL, hsay]
      have ag' : mp Cc.say l = mp Cc.say lr := ag
      rw [ag']
    · rcases List.mem_append.1 hy with h' | h'
      · right; have := hN y h'; omega
      · exact .inl h'
  refine iteI (fun hk2 => ?_) (fun hk2 => ?_)
  · refine ⟨_, b1.cell (i := 1) rfl, _, b1.cell (i := 2) rfl, _, b1.cell (i := 1) rfl, _, b1.cell (i := 2) rfl, ?_⟩
    refine (ten_ok hd.ta hd.srt hd.len ev on).mono ?_
    rintro _ w2 ⟨rfl, ta, m2⟩
    have b2 := b1.mod m2 hwS
    refine ⟨_, rfl, b2.cell (i := 1) rfl, b2.cell (i := 2) rfl, ?_⟩
    have P2 : Pr w0 w2 S g r (enL l ev on) lr ([] ++ T) := hd.table ta m2 (fun y hy => .inl hy) (by simp) (srt_en h.srt ev on) (len_en h.len ev on) (fun e he => .inr (.inl ⟨rfl, en_mem he⟩))
    refine (ren_ok P2.rf P2.rlen ev on).mono ?_
    rintro _ w3 ⟨rfl, hr⟩
    obtain ⟨T3, P3, m3, hT3, hT3'⟩ := P2.ref hr (len_en h.rlen ev on) (fun e he => by
      obtain ⟨e0, h0, h0'⟩ := en_mem he
      rw [h0']
      exact P2.cr e0 h0)
    have eE : enE l ev = enE lr ev := by rw [← mp_enE Cc.say l, ag, mp_enE]
    refine ⟨_, rfl, by rw [eE]; simp, ?_⟩
    refine StepR.of P3 ?_ ((md.weaken (by simp)).trans m2 (fun y hy => .inl hy)) (fun y hy => .inl hy) (T1 := [] ++ T) (fun y hy => by simp [hy]) (fun y hy => .inl (by simpa using hy)) m3 hT3 hT3'
    show mp Cc.say _ = mp Cc.say _
    have ag' : mp Cc.say l = mp Cc.say lr := ag
    rw [mp_enL, mp_enL, ag']
  refine iteI (fun hk3 => ?_) (fun hk3 => ?_)
  · refine ⟨_, b1.cell (i := 1) rfl, _, b1.cell (i := 1) rfl, ?_⟩
    refine (tdel_ok hd.ta hd.srt hd.len ev).mono ?_
    rintro _ w2 ⟨rfl, ta, m2⟩
    have b2 := b1.mod m2 hwS
    refine ⟨_, rfl, b2.cell (i := 1) rfl, ?_⟩
    have P2 : Pr w0 w2 S g r (delL l ev) lr ([] ++ T) := hd.table ta m2 (fun y hy => .inl hy) (by simp) (srt_del h.srt ev) (len_del h.len ev) (fun e he => .inl (del_mem he))
    refine (rdel_ok P2.rf P2.rlen ev).mono ?_
    rintro _ w3 ⟨rfl, hr⟩
    obtain ⟨T3, P3, m3, hT3, hT3'⟩ := P2.ref hr (len_del h.rlen ev) (fun e he => P2.cr e (del_mem he))
    have eE : delE l ev = delE lr ev := by rw [← mp_delE Cc.say l, ag, mp_delE]
    refine ⟨_, rfl, by rw [eE]; simp, ?_⟩
    refine StepR.of P3 ?_ ((md.weaken (by simp)).trans m2 (fun y hy => .inl hy)) (fun y hy => .inl hy) (T1 := [] ++ T) (fun y hy => by simp [hy]) (fun y hy => .inl (by simpa using hy)) m3 hT3 hT3'
    show mp Cc.say _ = mp Cc.say _
    have ag' : mp Cc.say l = mp Cc.say lr := ag
    rw [mp_delL, mp_delL, ag']
  · have hm := h.mod m1
    refine ⟨_, h1.cell (i := 1) rfl, ?_⟩
    refine (tfnd_ok hm.ta hm.srt hm.len ev (fun e he => (hm.cl e he).rd)).mono ?_
    rintro _ w2 ⟨c', rfl, hsay, hrd, hf, m2⟩
    have M2 := m1.none m2
    refine ⟨_, _, _, _, _, _, _, _, _, _, rfl, New.put rfl fun w3 h3 m3 z3 => ?_⟩
    have M3 := M2.none m3
    refine ⟨_, ((h1.mod m2 (by simp)).mod m3 (by simp)).cell (i := 1) rfl, ?_⟩
    have P3 := h.mod M3
    refine (rfnd_ok P3.rf P3.rlen ev).mono ?_
    rintro _ w4 ⟨rfl, m4⟩
    have M4 := M3.none m4
    refine ⟨_, _, _, _, _, _, _, _, _, _, rfl, New.put rfl fun w5 h5 m5 z5 => ?_⟩
    have M5 := M4.none m5
    have P5 := h.mod M5
    refine ⟨_, _, _, _, _, _, _, _, _, ((h3.mod m4 (by simp)).mod m5 (by simp)).cells, _, _, _, _, _, _, _, _, _, h5.cells, ?_⟩
    have hr1 : c'.rd w5 := ((hrd.mod m3 (by simp)).mod m4 (by simp)).mod m5 (by simp)
    have hr2 : (fndC lr ev).rd w5 := by
      unfold fndC
      split
      · unfold cmdAt
        split
        · rename_i e he
          exact (P5.cr e (List.mem_of_getElem? he)).rd
        · exact cz_rd _
      · exact cz_rd _
    refine (same_ok hr1 hr2).mono ?_
    rintro _ w6 ⟨rfl, m6⟩
    have es : c'.say = (fndC lr ev).say := by rw [hsay, fnd_says, fnd_says]; show fndS (mp Cc.say l) ev = fndS (mp Cc.say lr) ev; rw [ag]
    have eB : fndB l ev = fndB lr ev := by rw [← mp_fndB Cc.say l, ag, mp_fndB]
    refine ⟨_, rfl, ?_⟩
    rw [if_pos (decide_eq_true es), eB]
    refine ⟨by simp, S, l, lr, T, h.mod (M5.none m6), ag, (M5.none m6).weaken (by simp), fun y hy => .inl hy, fun y hy => hy, fun y hy => .inl hy⟩
end Go.Proofs.Ytkeaamfpcapioaa
