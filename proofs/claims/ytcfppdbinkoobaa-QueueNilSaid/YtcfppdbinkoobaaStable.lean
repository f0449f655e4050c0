/-
  The law QueueStable, as a contract; sorted queues.
-/
import Derived.Test.YtcfppdbinkoobaaPlays
namespace Go.Proofs.Ytcfppdbinkoobaa
open Go Go.Sh Go.Proofs
set_option linter.unusedVariables false
set_option linter.unusedSimpArgs false
set_option linter.unusedSectionVars false

def lt2 (e f : Qe) : Prop := e.1 < f.1 ∨ (e.1 = f.1 ∧ e.2 < f.2)
def ins (l : List Qe) (x : Qe) : List Qe := l.take (fidx (after x.1) l) ++ [x] ++ l.drop (fidx (after x.1) l)
theorem ins_mem (l : List Qe) (x e : Qe) : e ∈ ins l x ↔ e = x ∨ e ∈ l := by
  unfold ins
  have : e ∈ l ↔ e ∈ l.take (fidx (after x.1) l) ∨ e ∈ l.drop (fidx (after x.1) l) := by rw [← List.mem_append, List.take_append_drop]
  rw [this]
  simp only [List.mem_append, List.mem_singleton]
  constructor
  · rintro ((h | h) | h)
    · exact .inr (.inl h)
    · exact .inl h
    · exact .inr (.inr h)
  · rintro (h | h | h)
    · exact .inl (.inr h)
    · exact .inl (.inl h)
    · exact .inr h
theorem ins_len (l : List Qe) (x : Qe) : (ins l x).length = l.length + 1 := by
  have := fidx_le (after x.1) l
  unfold ins
  simp
  omega
theorem take_le (l : List Qe) (p : Int) : ∀ e ∈ l.take (fidx (after p) l), e.1 ≤ p := by
  intro e he
  obtain ⟨j, hj, rfl⟩ := List.getElem_of_mem he
  rw [List.length_take] at hj
  rw [List.getElem_take]
  have := fidx_before (after p) l j (by omega) (by omega)
  simp [after] at this
  omega
theorem drop_gt {l : List Qe} (hs : l.Pairwise lt2) (p : Int) : ∀ e ∈ l.drop (fidx (after p) l), p < e.1 := by
  intro e he
  obtain ⟨j, hj, rfl⟩ := List.getElem_of_mem he
  rw [List.length_drop] at hj
  rw [List.getElem_drop]
  have h0 := fidx_here (after p) l (by omega)
  simp [after] at h0
  by_cases h : j = 0
  · subst h; simpa using h0
  · have := List.pairwise_iff_getElem.1 hs (fidx (after p) l) (fidx (after p) l + j) (by omega) (by omega) (by omega)
    rcases this with h1 | h1 <;> omega
theorem ins_sorted {l : List Qe} (hs : l.Pairwise lt2) {p i : Int} (hi : ∀ e ∈ l, e.1 = p → e.2 < i) : (ins l (p, i)).Pairwise lt2 := by
  unfold ins
  have hsp := hs
  rw [← List.take_append_drop (fidx (after p) l) l, List.pairwise_append] at hsp
  obtain ⟨h1, h2, h3⟩ := hsp
  rw [List.append_assoc, List.pairwise_append]
  refine ⟨h1, ?_, ?_⟩
  · rw [List.singleton_append, List.pairwise_cons]
    exact ⟨fun e he => .inl (drop_gt hs p e he), h2⟩
  · intro e he f hf
    rcases List.mem_append.1 hf with hf | hf
    · simp at hf
      subst hf
      have hle := take_le l p e he
      by_cases h : e.1 = p
      · exact .inr ⟨h, hi e (List.mem_of_mem_take he) h⟩
      · exact .inl (by simp only; omega)
    · exact h3 e he f hf

theorem isIt_none {l : List Qe} {i : Int} (h : ∀ e ∈ l, e.2 ≠ i) : fidx (isIt i) l = l.length :=
  fidx_none _ _ (fun j hj => by simp [isIt]; exact h _ (List.getElem_mem hj))
theorem push_new {s : Qs} {p i : Int} (h : ∀ e ∈ s.l, e.2 ≠ i) (hlt : (s.l.length : Int) < s.most) : s.push p i = (0, ⟨s.most, ins s.l (p, i)⟩) := by
  unfold Qs.push
  rw [isIt_none h, if_neg (by omega), if_neg (by omega)]
  rfl

/-- The queue after k pushes. -/
structure Pushed (zs : List Int) (k : Nat) (s : Qs) : Prop where
  most : s.most = 100
  len : s.l.length = k
  srt : s.l.Pairwise lt2
  it : ∀ e ∈ s.l, 0 ≤ e.2 ∧ e.2 < (k : Int) ∧ zs.getD e.2.toNat 0 = e.1
theorem Pushed.step {zs : List Int} {k : Nat} {s : Qs} (h : Pushed zs k s) (hk : k < zs.length) (h100 : k < 100) : (s.push (zs.getD k 0) (k : Int)).1 = 0 ∧ Pushed zs (k + 1) (s.push (zs.getD k 0) (k : Int)).2 := by
  rw [push_new (fun e he => by have := (h.it e he).2.1; omega) (by rw [h.len, h.most]; omega)]
  refine ⟨rfl, h.most, by rw [ins_len, h.len], ins_sorted h.srt (fun e he _ => (h.it e he).2.1), fun e he => ?_⟩
  rcases (ins_mem _ _ _).1 he with rfl | he
  · exact ⟨by simp, by simp; omega, by simp⟩
  · obtain ⟨h1, h2, h3⟩ := h.it e he
    exact ⟨h1, by omega, h3⟩
theorem zd {zs : List Int} {i : Nat} (h : i < zs.length) : zs[i] = zs.getD i 0 := by rw [List.getD_eq_getElem?_getD, List.getElem?_eq_getElem h]; rfl

theorem queueStable_ok {a : Option Addr} {zs : List Int} (c : Nat) {w : World} (hr : Rd w a (zs.map iv)) : Does Try.prog 3 #[.slice a zs.length c] w fun v w' => v = .bool true ∧ Mod [] w w' := by
  apply w3
  unfold F3
  have live : ∀ {w' : World}, Mod [] w w' → Does Try.prog 8 #[] w' (fun v w'' => ∃ (x : Bool), v = .bool x ∧ (Value.bool x = .bool true ∧ Mod [] w w'')) := fun M => (alive_ok _).mono fun v w' h => ⟨_, h.1, rfl, M.none h.2⟩
  refine iteI (fun hl => live (Mod.refl _)) (fun hl => ?_)
  refine (QN.new w 100).mono ?_
  rintro _ w1 ⟨rfl, q1⟩
  refine ⟨_, rfl, ?_⟩
  refine LoopP.of (fun (x : Int) w' => ∃ (k : Nat) (s : Qs), k ≤ zs.length ∧ x = (k : Int) ∧ QN w w' w.heap.size s [] ∧ Pushed zs k s) (fun x _ => zs.length - x.toNat) ⟨0, _, by omega, rfl, q1, ⟨by decide, rfl, List.Pairwise.nil, by simp [q0]⟩⟩ ?_
  rintro _ w2 ⟨k, s, hk, rfl, q2, P⟩
  unfold F3_b1
  by_cases hlt : k < zs.length
  · rw [if_pos (by omega)]
    obtain ⟨p, rfl, hc⟩ := rd_get (hr.mod q2.m (by simp)) hlt
    obtain ⟨e0, P'⟩ := P.step hlt (by omega)
    rw [zd hlt] at hc
    refine ⟨p, rfl, by omega, by omega, _, hc, (q2.push _ _).mono ?_⟩
    rintro _ w3 ⟨rfl, q3, _⟩
    refine ⟨_, rfl, ?_⟩
    rw [if_neg (by rw [e0]; simp), wi64 (by omega)]
    exact ⟨_, by omega, ⟨k + 1, _, by omega, rfl, q3, P'⟩, rfl⟩
  · rw [if_neg (by omega)]
    have hkl : k = zs.length := by omega
    subst hkl
    refine q2.items.mono ?_
    rintro _ w3 ⟨a3, c3, rfl, r3, m3, q3⟩
    refine ⟨_, _, _, rfl, ?_⟩
    have hil : (items s.l).length = zs.length := by rw [← P.len]; simp [items]
    rw [if_neg (by omega)]
    have hsl := P.len
    generalize hT : fpv a3 ((items s.l).map iv) ++ [] = T at q3
    have r3T : ∀ y ∈ fpv a3 ((items s.l).map iv), y ∈ T := fun y hy => by rw [← hT]; simp [hy]
    refine LoopP.of (fun (x : Int × Int) w' => ∃ (i : Nat), i ≤ zs.length ∧ x = ((if h : 0 < i ∧ i ≤ s.l.length then (s.l[i - 1]'(by omega)).2 else -1), (i : Int)) ∧ QN w w' w.heap.size ⟨s.most, s.l.drop i⟩ T ∧ Rd w' a3 ((items s.l).map iv)) (fun x _ => zs.length - x.2.toNat)
      ⟨0, by omega, by simp, by simpa using q3, r3⟩ ?_
    rintro _ w4 ⟨i, hi, rfl, q4, r4⟩
    unfold F3_b2
    dsimp only
    by_cases hlt : i < zs.length
    · rw [if_pos (by omega)]
      have his : i < s.l.length := by omega
      have hdrop : s.l.drop i = s.l[i] :: s.l.drop (i + 1) := List.drop_eq_getElem_cons his
      have hpk : (Qs.mk s.most (s.l.drop i)).peek = (s.l[i].2, true) := by unfold Qs.peek; rw [hdrop]
      have hpp : (Qs.mk s.most (s.l.drop i)).pop = ⟨s.most, s.l.drop (i + 1)⟩ := by unfold Qs.pop; simp [List.drop_drop]
      refine q4.pop.mono ?_
      rintro _ w5 ⟨rfl, q5, k5⟩
      rw [hpk]
      rw [hpp] at q5
      have md : Mod [] w5 w5.drew := Mod.drew w5
      have q6 := q5.mod md
      have r6 := (k5.rd r4 r3T).mod md (by simp)
      refine ⟨_, _, rfl, ?_⟩
      rw [if_neg (by simp)]
      obtain ⟨p, rfl, hc⟩ := rd_get r6 (i := i) (by omega)
      have hx : (items s.l)[i]'(by omega) = s.l[i].2 := by simp [items]
      rw [hx] at hc
      obtain ⟨g1, g2, g3⟩ := P.it s.l[i] (List.getElem_mem his)
      refine ⟨p, rfl, by omega, by omega, _, hc, ?_⟩
      rw [if_neg (by simp), if_neg (by omega), if_neg (by omega)]
      have e1 : IntKind.i64.wrap ((i : Int) + 1) = ((i + 1 : Nat) : Int) := by rw [wi64 (by omega)]; omega
      rw [e1]
      have nx : ∃ m, m < zs.length - ((i : Int)).toNat ∧ ((∃ (j : Nat), j ≤ zs.length ∧ (s.l[i].2, ((i + 1 : Nat) : Int)) = ((if h : 0 < j ∧ j ≤ s.l.length then (s.l[j - 1]'(by omega)).2 else -1), (j : Int)) ∧ QN w w5.drew w.heap.size ⟨s.most, s.l.drop j⟩ T ∧ Rd w5.drew (some p) ((items s.l).map iv)) ∧ zs.length - ((i + 1 : Nat) : Int).toNat = m) :=
        ⟨_, by omega, ⟨i + 1, by omega, by simp; intro h; omega, q6, r6⟩, rfl⟩
      by_cases h0 : 0 < i
      · have hlast : (if h : 0 < i ∧ i ≤ s.l.length then (s.l[i - 1]'(by omega)).2 else -1) = (s.l[i - 1]'(by omega)).2 := by rw [dif_pos ⟨h0, by omega⟩]
        obtain ⟨f1, f2, f3⟩ := P.it (s.l[i - 1]'(by omega)) (List.getElem_mem _)
        have ho := List.pairwise_iff_getElem.1 P.srt (i - 1) i (by omega) his (by omega)
        rw [hlast, if_pos (by omega)]
        have hrr := hr.mod q6.m (by simp)
        obtain ⟨pz, hpz, cz⟩ := rd_get hrr (i := (s.l[i - 1]'(by omega)).2.toNat) (by omega)
        obtain ⟨pz', hpz', cz'⟩ := rd_get hrr (i := s.l[i].2.toNat) (by omega)
        rw [hpz] at hpz'
        cases hpz'
        rw [zd (by omega)] at cz cz'
        rw [f3] at cz
        rw [g3] at cz'
        refine ⟨pz, hpz, by omega, by omega, _, cz, by omega, by omega, _, cz', ?_⟩
        rw [if_neg (by rcases ho with h | h <;> omega)]
        refine ⟨by omega, by omega, _, cz, by omega, by omega, _, cz', iteI (fun he => ?_) (fun he => nx)⟩
        rw [if_neg (by rcases ho with h | h <;> omega)]
        exact nx
      · have hlast : (if h : 0 < i ∧ i ≤ s.l.length then (s.l[i - 1]'(by omega)).2 else -1) = -1 := by rw [dif_neg (by omega)]
        rw [hlast, if_neg (by omega)]
        exact nx
    · rw [if_neg (by omega)]
      have hnil : s.l.drop i = [] := List.drop_of_length_le (by omega)
      rw [hnil] at q4
      refine q4.pop.mono ?_
      rintro _ w5 ⟨rfl, q5, k5⟩
      refine ⟨_, _, rfl, ?_⟩
      rw [if_pos (by simp [Qs.peek])]
      refine q5.len.mono ?_
      rintro _ _ ⟨rfl, rfl⟩
      refine ⟨_, rfl, ?_⟩
      rw [if_pos (by simp [Qs.pop])]
      exact live q5.m
end Go.Proofs.Ytcfppdbinkoobaa
