/-
  The laws of chapter 22: MuxSelects.
-/
import Derived.Test.YtjjhghcaecodpaaLaws
namespace Go.Proofs.Ytjjhghcaecodpaa
open Go Go.Sh Go.Proofs
set_option linter.unusedVariables false
set_option linter.unusedSimpArgs false
set_option linter.unusedSectionVars false

theorem Rm.table {w w' : World} {r x y g : Nat} {S : List Nat} {l l' : List Ch} (h : Rm w r x y l) (X : Mx w g S l') (m : Mod S w w') : Rm w' r x y l := by
  obtain ⟨b, c, rfl, hb, ho⟩ := X
  obtain ⟨n1, n2, a, d, hr, hl, f1, f2⟩ := h.ap
  obtain ⟨b', hbb, hbk⟩ : ∃ q us, Blk w b 52 us ∧ q = b := by
    rcases ho.2 with ⟨h0, _⟩ | ⟨q, rr, hq, hqb, _⟩
    · cases h0
    · cases hq; exact ⟨_, _, hqb, rfl⟩
  have nb : ∀ {q t : Nat} {us : List Value}, Blk w q t us → t ≠ 50 → t ≠ 52 → q ∉ [g, b] := by
    intro q t us hq h1 h2 hm
    simp at hm
    rcases hm with rfl | rfl
    · exact Blk.ne hq hb h1 rfl
    · exact Blk.ne hq hbk.1 h2 rfl
  refine ⟨⟨a, d, hr.mod m (nb hr (by decide) (by decide)), hl.mod m (fun q hq => ?_)⟩, h.cr.mod m (nb h.cr (by decide) (by decide)), h.sn.mod m (nb h.sn (by decide) (by decide)), h.ne⟩
  rcases hl.2 with ⟨h0, _⟩ | ⟨q', rr, hq', hqb, _⟩
  · rw [h0] at hq; simp [fp] at hq
  · rw [hq'] at hq
    simp [fp, base] at hq
    subst hq
    exact nb hqb (by decide) (by decide)
theorem Mx.ref {w w' : World} {r x y g : Nat} {S : List Nat} {l l' : List Ch} (X : Mx w g S l') (h : Rm w r x y l) (m : Mod [x, y] w w') : Mx w' g S l' := by
  obtain ⟨b, c, rfl, hb, ho⟩ := X
  refine ⟨b, c, rfl, hb.mod m ?_, ho.mod m (fun q hq hm => ?_)⟩
  · intro hm
    simp at hm
    rcases hm with rfl | rfl
    · exact Blk.ne hb h.cr (by decide) rfl
    · exact Blk.ne hb h.sn (by decide) rfl
  · simp at hm
    rcases hm with rfl | rfl
    · exact ho.ne h.cr (by decide) hq
    · exact ho.ne h.sn (by decide) hq
theorem bump_pr (A : List Nat) (l : List Ch) : ∀ c ∈ bump A l, ∃ d ∈ l, c.pr = d.pr := by
  intro c hc
  obtain ⟨i, hi, rfl⟩ := List.getElem_of_mem hc
  rw [bump_len] at hi
  refine ⟨l[i], List.getElem_mem hi, ?_⟩
  simp only [bump, List.getElem_mapIdx]
  split <;> rfl
theorem nxtL_pr {l : List Ch} {R : List Int} (hp : ∀ c ∈ l, c.pr ≤ 15) : ∀ c ∈ nxtL l R, c.pr ≤ 15 := by
  intro c hc
  unfold nxtL at hc
  split at hc
  · exact hp c hc
  · obtain ⟨i, hi, rfl⟩ := List.getElem_of_mem hc
    rw [List.length_modify] at hi
    obtain ⟨d, hd, he⟩ := bump_pr _ _ _ (List.getElem_mem hi)
    have := hp d hd
    rw [List.getElem_modify]
    split
    · show (bump (aix l R) l)[i].pr ≤ 15; omega
    · omega

abbrev Rdy := Option Addr × List Int × Nat
set_option maxRecDepth 100000 in
theorem muxSelects_ok {w : World} {a b : Option Addr} {L : List Ch} {Rs : List Rdy} (c d : Nat) (hr : Rd w a (L.flatMap chc)) (hR : Rd w b (Rs.map fun y => .slice y.1 y.2.1.length y.2.2)) (hy : ∀ y ∈ Rs, Rd w y.1 (y.2.1.map iv)) :
    Does Try.prog 6 #[.slice a L.length c, .slice b Rs.length d] w fun v w' => v = .bool true ∧ Mod [] w w' := by
  apply w6
  unfold F6
  have fin : ∀ w' : World, Mod [] w w' → Does Try.prog 7 #[] w' (fun v w14 => ∃ (t15 : Bool), v = .bool t15 ∧ ((fun v w' => v = Value.bool true ∧ Sh.Mod [] w w') (.bool t15) w14)) := fun w' m => alive m
  have j1 : ∀ t : Bool, (t = false → L.length ≤ 30 ∧ Rs.length ≤ 100) → F6_j1 a L.length c Rs.length b t w (fun v w' => v = .bool true ∧ Mod [] w w') := by
    intro t ht
    unfold F6_j1
    refine iteI (fun h => fin w (Mod.refl _)) (fun h => ?_)
    obtain ⟨hl, hRl⟩ := ht (by simpa using h)
    refine (new_ok c hr (by omega)).mono ?_
    rintro _ w1 ⟨m1, ⟨h0, rfl⟩ | ⟨h0, g, S, rfl, X, hS⟩⟩
    · refine ⟨_, _, rfl, (rnew_ok c (hr.mod m1 (by simp)) (by omega)).mono ?_⟩
      rintro _ w2 ⟨m2, ⟨_, rfl⟩ | ⟨h1, _⟩⟩
      · refine ⟨_, _, _, _, _, _, _, _, _, _, rfl, New.put rfl fun w3 h3 m3 z3 => ?_⟩
        rw [if_pos h0]
        unfold F6_j2
        rw [if_pos rfl]
        refine New.use fun w4 h4 m4 z4 => ?_
        refine next_nil.mono ?_
        rintro _ w5 ⟨rfl, m5⟩
        refine ⟨_, _, rfl, ?_⟩
        rw [if_pos rfl, if_pos (by simp)]
        refine (sent_nil 0).mono ?_
        rintro _ w6 ⟨rfl, m6⟩
        refine ⟨_, rfl, ?_⟩
        rw [if_pos rfl]
        refine clone_nil.mono ?_
        rintro _ _ ⟨rfl, rfl⟩
        refine ⟨_, rfl, ?_⟩
        rw [if_pos (by simp)]
        exact fin _ (((((m1.none m2).none m3).none m4).none m5).none m6)
      · exact absurd h1 h0
    refine ⟨_, _, rfl, (rnew_ok c (hr.mod m1 (by simp)) (by omega)).mono ?_⟩
    rintro _ w2 ⟨m2, ⟨h1, _⟩ | ⟨_, aL, cL, x, y, rfl, oL, bx, by_, hxy, sx, sy, sL⟩⟩
    · exact absurd h0 h1
    refine ⟨_, _, _, _, _, _, _, _, _, _, rfl, New.put rfl fun w3 h3 m3 z3 => ?_⟩
    rw [if_neg (by simp)]
    have hd0 : decide ((0 : Int) ≠ 0) = false := by decide
    rw [hd0]
    unfold F6_j2
    rw [if_neg (by simp)]
    have M2 := m1.none m2
    have M3 := M2.none m3
    obtain ⟨hok, hpw, _⟩ := newE_all L [] h0
    have z1 := m1.size
    have z2 := M2.size
    have X3 : Mx w3 g S (L.map new0) := (X.mod m2 (by simp)).mod m3 (by simp)
    have hll : (L.map new0).length = L.length := List.length_map _
    have efl : (L.map new0).flatMap chc = L.flatMap chc := by rw [List.flatMap_map]; rfl
    have erep : ∀ f : Ch → Value, (∀ z, f (new0 z) = .int .i64 0) → (L.map new0).map f = List.replicate L.length (.int .i64 0) := by
      intro f hf
      rw [List.map_map, List.eq_replicate_iff]
      refine ⟨by simp, fun v hv => ?_⟩
      obtain ⟨z, _, rfl⟩ := List.mem_map.1 hv
      exact hf z
    have R3 : Rm w3 w2.heap.size x y (L.map new0) := ⟨⟨aL, cL, by rw [hll]; exact h3, by rw [hll, efl]; exact oL.mod m3 (by simp)⟩, by rw [erep _ (fun _ => rfl)]; exact bx.mod m3 (by simp), by rw [erep _ (fun _ => rfl)]; exact by_.mod m3 (by simp), hxy⟩
    refine LoopP.of (fun (s : Option Addr × Int) w' => ∃ (i g : Nat) (S : List Nat) (l : List Ch), i ≤ Rs.length ∧ s = (some (base g), (i : Int)) ∧ Mx w' g S l ∧ Rm w' w2.heap.size x y l ∧ l.length = L.length ∧ (∀ c ∈ l, c.pr ≤ 15) ∧ (∀ q ∈ S, w.heap.size ≤ q) ∧ Mod [] w w') (fun s _ => Rs.length - s.2.toNat)
      ⟨0, g, S, _, by omega, rfl, X3, R3, hll, fun c hc => by obtain ⟨z, hz, rfl⟩ := List.mem_map.1 hc; exact (hok z hz).2.2.2.1, hS, M3⟩ ?_
    rintro _ w4 ⟨i, g, S, l, hi, rfl, X4, R4, hl4, hp4, hS4, M4⟩
    unfold F6_b3
    dsimp only
    refine iteI (fun hlt => ?_) (fun hlt => ?_)
    · have hlt : i < Rs.length := by omega
      have e1 : IntKind.i64.wrap ((i : Int) + 1) = ((i + 1 : Nat) : Int) := by rw [wi64 (by omega)]; omega
      rw [e1]
      obtain ⟨p, rfl, hc⟩ := rd_get (hR.mod M4 (by simp)) hlt
      refine ⟨p, rfl, by omega, by omega, _, _, _, hc, iteI (fun hh => fin w4 M4) (fun hh => ?_)⟩
      have hy1 := hy Rs[i] (List.getElem_mem hlt)
      have hylt := hy1.lt
      have hn : Rs[i].2.1.length ≤ 9223372036854775807 := by omega
      refine ⟨by omega, by omega, _, _, _, hc, (next_ok X4 Rs[i].2.2 (hy1.mod M4 (by simp)) hn (by omega)).mono ?_⟩
      rintro _ w5 ⟨rfl, X5, m5⟩
      have M5 : Mod [] w w5 := M4.trans m5 (fun q hq => .inr (hS4 q hq))
      have R5 := R4.table X4 m5
      obtain ⟨p', hp', hc5⟩ := rd_get (hR.mod M5 (by simp)) hlt
      cases hp'
      refine ⟨_, _, rfl, by omega, by omega, _, _, _, hc5, (rnext_ok R5 Rs[i].2.2 (hy1.mod M5 (by simp)) hn (by omega) hp4 (fun q hq => by have := hylt q hq; omega)).mono ?_⟩
      rintro _ w6 ⟨rfl, R6, m6⟩
      have X6 := X5.ref R5 m6
      have M6 : Mod [] w w6 := M5.trans m6 (fun q hq => .inr (by simp at hq; rcases hq with rfl | rfl <;> omega))
      have hl6 : (nxtL l Rs[i].2.1).length = L.length := by rw [nxtL_len, hl4]
      have hp6 := nxtL_pr (R := Rs[i].2.1) hp4
      -- the end of a round
      have next : ∀ nx : Option Addr → Int → World → Prop, (∀ (g : Nat) (S : List Nat) w', Mx w' g S (nxtL l Rs[i].2.1) → Rm w' w2.heap.size x y (nxtL l Rs[i].2.1) → (∀ q ∈ S, w.heap.size ≤ q) → Mod [] w w' → nx (some (base g)) ((i + 1 : Nat) : Int) w') →
          (if (Int.tmod (i : Int) 7) = 3 then
            Does Try.prog 13 #[.pointer (some (base g))] w6 (fun v w111 => ∃ (c112 : Option Addr), v = .pointer c112 ∧ New w111 3 [.int .i64 0, .int .i64 1, .int .i64 2, .int .i64 3, .int .i64 4, .int .i64 5, .int .i64 6, .int .i64 7] (fun p113 w114 => Does Try.prog 10 #[.pointer (some (base g)), .slice (some p113) 8 8] w114 (fun v w115 => ∃ (r116 : Int) (r117 : Bool), v = .tuple #[.int .i64 r116, .bool r117] ∧ nx c112 ((i + 1 : Nat) : Int) w115)))
          else nx (some (base g)) ((i + 1 : Nat) : Int) w6) := by
        intro nx hnx
        refine iteI (fun h7 => ?_) (fun h7 => hnx g S w6 X6 R6 hS4 M6)
        refine (clone_ok X6 (by omega)).mono ?_
        rintro _ w7 ⟨g', S', rfl, X7, m7, hS7⟩
        refine ⟨_, rfl, New.use fun w8 h8 m8 z8 => ?_⟩
        have X8 := (X6.mod m7 (by simp)).mod m8 (by simp)
        have M8 := (M6.none m7).none m8
        refine (next_ok X8 (R := [0, 1, 2, 3, 4, 5, 6, 7]) 8 (Rd.blk h8) (by decide) (by omega)).mono ?_
        rintro _ w9 ⟨rfl, X9, m9⟩
        have R9 := ((R6.mod0 m7).mod0 m8).table X8 m9
        have hSlt := X6.lt
        refine ⟨_, _, rfl, hnx g' S' w9 ((X7.mod m8 (by simp)).mod m9 (fun q hq hq' => by have := hS7 q hq; have := hSlt q hq'; omega)) R9 (fun q hq => by have := hS7 q hq; have := M6.size; omega) (M8.trans m9 (fun q hq => .inr (hS4 q hq)))⟩
      have go : ∀ (g : Nat) (S : List Nat) w', Mx w' g S (nxtL l Rs[i].2.1) → Rm w' w2.heap.size x y (nxtL l Rs[i].2.1) → (∀ q ∈ S, w.heap.size ≤ q) → Mod [] w w' → ∃ m, m < Rs.length - ((i : Int)).toNat ∧ (∃ (j g' : Nat) (S : List Nat) (l : List Ch), j ≤ Rs.length ∧ (some (base g), ((i + 1 : Nat) : Int)) = (some (base g'), (j : Int)) ∧ Mx w' g' S l ∧ Rm w' w2.heap.size x y l ∧ l.length = L.length ∧ (∀ c ∈ l, c.pr ≤ 15) ∧ (∀ q ∈ S, w.heap.size ≤ q) ∧ Mod [] w w') ∧ Rs.length - (((i + 1 : Nat) : Int)).toNat = m :=
        fun g S w' X R hS M => ⟨_, by omega, ⟨i + 1, g, S, _, by omega, rfl, X, R, hl6, hp6, hS, M⟩, rfl⟩
      have hN := next (fun x0 x1 w' => ∃ m, m < Rs.length - ((i : Int)).toNat ∧ (∃ (j g' : Nat) (S : List Nat) (l : List Ch), j ≤ Rs.length ∧ (x0, x1) = (some (base g'), (j : Int)) ∧ Mx w' g' S l ∧ Rm w' w2.heap.size x y l ∧ l.length = L.length ∧ (∀ c ∈ l, c.pr ≤ 15) ∧ (∀ q ∈ S, w.heap.size ≤ q) ∧ Mod [] w w') ∧ Rs.length - x1.toNat = m) go
      by_cases hB : nxtB l Rs[i].2.1 = true
      · have hne : rix l Rs[i].2.1 ≠ [] := by unfold nxtB at hB; simpa using hB
        obtain ⟨hsel, hid⟩ := sel_mem hB
        have hsl := aix_lt hsel
        rw [hB, if_neg hne]
        refine ⟨_, rfl, ?_⟩
        rw [decide_eq_true (show (0 : Int) ≤ ((sel l Rs[i].2.1 : Nat) : Int) by omega), if_neg (by simp), if_pos rfl]
        obtain ⟨n1, n2, a6, c6, hb6, ho6, _, _⟩ := R6.ap
        have hsl6 : sel l Rs[i].2.1 < (nxtL l Rs[i].2.1).length := by rw [nxtL_len]; exact hsl
        obtain ⟨p6, hp6', hc6⟩ := ho6.rd.flat (chc_len _) (by decide) hsl6
        have hid6 : (nxtL l Rs[i].2.1)[sel l Rs[i].2.1].id = nxtI l Rs[i].2.1 := by
          rw [hid]
          simp only [nxtL, if_neg hne, List.getElem_modify_eq]
          have hslb : sel l Rs[i].2.1 < (bump (aix l Rs[i].2.1) l).length := by rw [bump_len]; exact hsl
          show ((bump (aix l Rs[i].2.1) l)[sel l Rs[i].2.1]'hslb).id = _
          rw [← gc_at hslb, bump_gc _ hsl, if_pos hsel]
          rfl
        refine ⟨_, _, _, hb6.cell0, p6, hp6', by omega, by omega, _, rc0 hc6, ?_⟩
        rw [hid6, if_neg (by simp), if_neg (by simp)]
        exact hN
      · have hB : nxtB l Rs[i].2.1 = false := by simpa using hB
        have hnil : rix l Rs[i].2.1 = [] := by unfold nxtB at hB; simpa using hB
        have hI : nxtI l Rs[i].2.1 = 0 := by unfold nxtI; rw [if_pos hnil]
        rw [hB, if_pos hnil, hI]
        refine ⟨_, rfl, ?_⟩
        rw [decide_eq_false (show ¬ (0 : Int) ≤ -1 by omega), if_neg (by simp), if_neg (by simp), if_pos (by simp), if_neg (by simp)]
        exact hN
    · refine LoopP.of (fun (s : Int) w' => -1 ≤ s ∧ s ≤ 9 ∧ Mod [] w4 w') (fun s _ => (9 - s).toNat) ⟨by omega, by omega, Mod.refl _⟩ ?_
      rintro id w5 ⟨h1, h2, m5⟩
      unfold F6_b4
      refine iteI (fun hlt => ?_) (fun hlt => fin w5 (M4.none m5))
      have md := m5.none (Mod.drew w5)
      have X5 := X4.mod md (by simp)
      have R5 := R4.mod0 md
      obtain ⟨n1, n2, a5, c5, hb5, ho5, _, _⟩ := R5.ap
      refine ⟨_, _, _, _, _, _, _, _, _, hb5.cells, (sent_ok X5 (by omega) id).mono ?_⟩
      rintro _ w6 ⟨rfl, m6⟩
      have hb6 := hb5.mod m6 (by simp)
      refine ⟨_, rfl, hb6.cells, (rsent_ok (R5.mod0 m6) (by omega) hb6 id).mono ?_⟩
      rintro _ w7 ⟨rfl, m7⟩
      refine ⟨_, rfl, ?_⟩
      rw [if_neg (by simp), wi64 (by omega)]
      exact ⟨_, by omega, ⟨by omega, by omega, (md.none m6).none m7⟩, rfl⟩
  refine iteI (fun h => j1 true (by simp)) (fun h => j1 _ (fun h2 => ?_))
  have := of_decide_eq_false h2
  omega
end Go.Proofs.Ytjjhghcaecodpaa
