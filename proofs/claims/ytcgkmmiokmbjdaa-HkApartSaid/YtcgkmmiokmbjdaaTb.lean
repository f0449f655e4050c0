/-
  Chapter 34: a service alone; no pool; the example; small.
-/
import Derived.Test.YtcgkmmiokmbjdaaPair
namespace Go.Proofs.Ytcgkmmiokmbjdaa
open Go Go.Sh Go.Proofs
set_option linter.unusedVariables false
set_option linter.unusedSimpArgs false
set_option linter.unusedSectionVars false

/-- Without a pool nothing is packed. -/
theorem pnil_ok (w : World) : Pl none [] (fun _ => ([], 2)) w := by
  intro M w' m _ a X c hr hX
  have q : Does Try.prog 41 #[.pointer none, .slice a X.length c] w' fun v w'' => v = .tuple #[.slice none 0 0, .int .i64 2] ∧ w' = w'' := by
    apply w41
    unfold F41
    have u : Does Try.prog 49 #[.pointer none] w' fun v w'' => v = .bool false ∧ w' = w'' := by
      apply w49
      unfold F49
      rw [if_neg (by simp)]
      exact ⟨rfl, rfl⟩
    refine u.mono ?_
    rintro _ _ ⟨rfl, rfl⟩
    refine ⟨_, rfl, ?_⟩
    rw [if_pos (by simp)]
    exact ⟨rfl, rfl⟩
  apply w27
  unfold F27
  refine q.mono ?_
  rintro _ _ ⟨rfl, rfl⟩
  refine ⟨_, _, _, _, rfl, ?_⟩
  rw [if_pos (by decide)]
  exact ⟨none, 0, rfl, Rd.nil, Mod.refl _, by simp [fpv]⟩

structure Tb (w0 w : World) (g : Nat) (t : Int) (l : List En) (T : List Nat) : Prop where
  ex : ∃ S, Sv w g S t l ∧ (∀ y ∈ S, y ∉ T) ∧ (∀ y ∈ S, w0.heap.size ≤ y)
  gd : Gd (says l)
  cl : ∀ e ∈ l, e.rd w ∧ ∀ y ∈ e.fp, y ∈ T
  lt : ∀ y ∈ T, y < w.heap.size
  m : Mod [] w0 w
def Keep (T : List Nat) (w0 w w' : World) : Prop := ∃ S, Mod S w w' ∧ (∀ y ∈ S, y ∉ T) ∧ ∀ y ∈ S, w0.heap.size ≤ y
theorem Keep.blk {T : List Nat} {w0 w w' : World} (k : Keep T w0 w w') {g t : Nat} {vs : List Value} (h : Blk w g t vs) (hT : g ∈ T) : Blk w' g t vs := by
  obtain ⟨S, m, ap, _⟩ := k
  exact h.mod m (fun hg => ap g hg hT)
theorem Keep.rd {T : List Nat} {w0 w w' : World} (k : Keep T w0 w w') {a : Option Addr} {vs : List Value} (h : Rd w a vs) (hT : ∀ y ∈ fpv a vs, y ∈ T) : Rd w' a vs := by
  obtain ⟨S, m, ap, _⟩ := k
  exact h.modv m (fun y hy hy' => ap y hy' (hT y hy))
theorem gd_nil : Gd (says []) := ⟨List.Pairwise.nil, by simp [says], by simp [says]⟩
theorem Tb.new (w0 : World) : Does Try.prog 8 #[] w0 fun v w' => v = .pointer (some (base w0.heap.size)) ∧ Tb w0 w' w0.heap.size 0 [] [] := by
  refine (snew_ok w0).mono ?_
  rintro _ w' ⟨rfl, ta, m⟩
  exact ⟨rfl, ⟨_, ta, by simp, by intro y hy; simp at hy; omega⟩, gd_nil, by simp, by simp, m⟩
section
variable {w0 w : World} {g : Nat} {t : Int} {l : List En} {T : List Nat} (h : Tb w0 w g t l T)
include h
theorem Tb.re {w' : World} (m : Mod [] w w') {T' : List Nat} (hT : ∀ y ∈ T, y ∈ T') (hN : ∀ y ∈ T', y ∈ T ∨ (w.heap.size ≤ y ∧ y < w'.heap.size)) : Tb w0 w' g t l T' := by
  obtain ⟨⟨S, ta, sT, s0⟩, h2, h4, h5, h6⟩ := h
  refine ⟨⟨S, ta.mod m (by simp), fun y hy hy' => ?_, s0⟩, h2, fun e he => ⟨(h4 e he).1.mod m (by simp), fun y hy => hT y ((h4 e he).2 y hy)⟩, fun y hy => ?_, h6.none m⟩
  · rcases hN y hy' with hh | hh
    · exact sT y hy hh
    · have := ta.lt y hy; omega
  · rcases hN y hy with hh | hh
    · have := h5 y hh; have := m.size; omega
    · exact hh.2
theorem Tb.mod {w' : World} (m : Mod [] w w') : Tb w0 w' g t l T := h.re m (fun y hy => hy) (fun y hy => .inl hy)
theorem Tb.def (id ivl : Int) (hid : -9223372036854775808 ≤ id ∧ id ≤ 9223372036854775807) {a : Option Addr} {p : List Int} (c : Nat) (hp : Rd w a (p.map iv)) (hpl : p.length ≤ 1000) : Does Try.prog 9 #[.pointer (some (base g)), .int .i64 id, .int .i64 ivl, .slice a p.length c] w fun v w' => v = .int .i64 (defE (says l) id ivl p) ∧ Keep T w0 w w' ∧ ∃ l' T', says l' = defL (says l) id ivl p ∧ Tb w0 w' g t l' T' ∧ ∀ y ∈ T, y ∈ T' := by
  obtain ⟨⟨S, ta, sT, s0⟩, h2, h4, h5, h6⟩ := h
  refine (sdef_ok ta h2 id ivl hid c hp hpl).mono ?_
  rintro _ w' ⟨rfl, ⟨hne, m⟩ | ⟨h0, S', e, hsay, sv, m, hS, her, hef, heS⟩⟩
  · refine ⟨rfl, ⟨[], m, by simp, by simp⟩, l, T, by unfold defL; rw [if_neg hne], ⟨⟨S, ta.mod m (by simp), sT, s0⟩, h2, fun e he => ⟨(h4 e he).1.mod m (by simp), (h4 e he).2⟩, fun y hy => by have := h5 y hy; have := m.size; omega, h6.none m⟩, fun y hy => hy⟩
  · have z := h6.size
    refine ⟨rfl, ⟨S, m, sT, s0⟩, _, e.fp ++ T, by rw [says_ins, hsay]; unfold defL; rw [if_pos h0], ⟨⟨S', sv, fun y hy hy' => ?_, fun y hy => ?_⟩, ?_, fun x hx => ?_, fun y hy => ?_, h6.trans m (fun y hy => .inr (s0 y hy))⟩, fun y hy => by simp [hy]⟩
    · rcases List.mem_append.1 hy' with hh | hh
      · exact heS y hh hy
      · rcases hS y hy with h3 | h3
        · exact sT y h3 hh
        · have := h5 y hh; omega
    · rcases hS y hy with h3 | h3
      · exact s0 y h3
      · omega
    · rw [says_ins, hsay]; exact gd_def h2 h0
    · rcases mem_ins hx with hx | rfl
      · exact ⟨(h4 x hx).1.mod m (fun y hy hy' => sT y hy' ((h4 x hx).2 y hy)), fun y hy => by simp [(h4 x hx).2 y hy]⟩
      · exact ⟨her, fun y hy => by simp [hy]⟩
    · rcases List.mem_append.1 hy with hh | hh
      · exact her.lt y hh
      · have := h5 y hh; have := m.size; omega
theorem Tb.del (id : Int) (hid : -9223372036854775808 ≤ id ∧ id ≤ 9223372036854775807) : Does Try.prog 10 #[.pointer (some (base g)), .int .i64 id] w fun v w' => v = .int .i64 (delE (says l) id) ∧ Keep T w0 w w' ∧ ∃ l', says l' = delL (says l) id ∧ Tb w0 w' g t l' T := by
  obtain ⟨⟨S, ta, sT, s0⟩, h2, h4, h5, h6⟩ := h
  refine (sdel_ok ta h2 id hid).mono ?_
  rintro _ w' ⟨rfl, ta', m⟩
  have hc : ∀ e ∈ l, e.rd w' ∧ ∀ y ∈ e.fp, y ∈ T := fun e he => ⟨(h4 e he).1.mod m (fun y hy hy' => sT y hy' ((h4 e he).2 y hy)), (h4 e he).2⟩
  refine ⟨rfl, ⟨S, m, sT, s0⟩, _, ?_, ⟨⟨S, ta', sT, s0⟩, ?_, fun e he => ?_, fun y hy => by have := h5 y hy; have := m.size; omega, h6.trans m (fun y hy => .inr (s0 y hy))⟩⟩
  · unfold delL
    split
    · rw [says_del]
    · rfl
  · split
    · rw [says_del]; exact gd_del h2 _
    · exact h2
  · split at he
    · exact hc e (mem_del he)
    · exact hc e he
theorem Tb.en (id : Int) (on : Bool) (n : Int) (hid : -9223372036854775808 ≤ id ∧ id ≤ 9223372036854775807) : Does Try.prog 13 #[.pointer (some (base g)), .int .i64 id, .bool on, .int .i64 n] w fun v w' => v = .int .i64 (enE (says l) id) ∧ Keep T w0 w w' ∧ ∃ l', says l' = enL (says l) id on (passT t n) ∧ Tb w0 w' g (passT t n) l' T := by
  obtain ⟨⟨S, ta, sT, s0⟩, h2, h4, h5, h6⟩ := h
  refine (sen_ok ta h2 id on n hid).mono ?_
  rintro _ w' ⟨rfl, ta', m⟩
  have hc : ∀ e ∈ l, e.rd w' ∧ ∀ y ∈ e.fp, y ∈ T := fun e he => ⟨(h4 e he).1.mod m (fun y hy hy' => sT y hy' ((h4 e he).2 y hy)), (h4 e he).2⟩
  refine ⟨rfl, ⟨S, m, sT, s0⟩, _, ?_, ⟨⟨S, ta', sT, s0⟩, ?_, fun e he => ?_, fun y hy => by have := h5 y hy; have := m.size; omega, h6.trans m (fun y hy => .inr (s0 y hy))⟩⟩
  · unfold enL
    split
    · rw [says_modify]
    · rfl
  · split
    · rw [says_modify]; exact gd_en h2 _ _ _
    · exact h2
  · split at he
    · obtain ⟨j, hj, rfl⟩ := List.getElem_of_mem he
      rw [List.length_modify] at hj
      rw [List.getElem_modify]
      split
      · exact hc l[j] (List.getElem_mem hj)
      · exact hc l[j] (List.getElem_mem hj)
    · exact hc e he
/-- Due without a pool: what the reports say, and their blocks, which are guarded from now on. -/
theorem Tb.due (n : Int) : Does Try.prog 14 #[.pointer (some (base g)), .int .i64 n, .pointer none] w fun v w' => Keep T w0 w w' ∧ ∃ o rs c l', v = .slice o (List.length rs) c ∧ rs.map Rp.say = (dueO (says l) (passT t n)).map (repS (fun _ => ([], 2)) (passT t n)) ∧ Rd w' o (rs.flatMap rvv) ∧ says l' = (says l).map (duS (passT t n)) ∧ ∃ T', (∀ y ∈ T, y ∈ T') ∧ (∀ y ∈ fpv o (rs.flatMap rvv), y ∈ T') ∧ Tb w0 w' g (passT t n) l' T' := by
  obtain ⟨⟨S, ta, sT, s0⟩, h2, h4, h5, h6⟩ := h
  refine (sdue_ok ta h2 (fun e he => ⟨(h4 e he).1, fun y hy hy' => sT y hy' ((h4 e he).2 y hy)⟩) n (pnil_ok w) (by simp) (fun _ _ => rfl)).mono ?_
  rintro _ w' ⟨⟨o, rs, c, rfl, rep, hrs⟩, ta', m⟩
  have z := h6.size
  have hsl := ta.lt
  refine ⟨⟨S, m, sT, s0⟩, o, rs, c, _, rfl, hrs, rep.rd, says_due _ _, fpv o (rs.flatMap rvv) ++ T, fun y hy => by simp [hy], fun y hy => by simp [hy], ⟨⟨S, ta', fun y hy hy' => ?_, s0⟩, ?_, fun e he => ?_, fun y hy => ?_, h6.trans m (fun y hy => .inr (s0 y hy))⟩⟩
  · rcases List.mem_append.1 hy' with hh | hh
    · have := rep.fo y hh; have := hsl y hy; omega
    · exact sT y hy hh
  · rw [says_due]; exact gd_due h2 _
  · obtain ⟨e0, he0, rfl⟩ := List.mem_map.1 he
    have hh := h4 e0 he0
    have e1 : (duN (passT t n) e0).a = e0.a ∧ (duN (passT t n) e0).l = e0.l := by unfold duN; split <;> exact ⟨rfl, rfl⟩
    have e2 : (duN (passT t n) e0).fp = e0.fp := by unfold En.fp; rw [e1.1, e1.2]
    have e3 : (duN (passT t n) e0).rd w := by have := hh.1; unfold En.rd at this ⊢; rw [e1.1, e1.2]; exact this
    exact ⟨e3.mod m (fun y hy hy' => sT y hy' (hh.2 y (e2 ▸ hy))), fun y hy => by rw [e2] at hy; simp [hh.2 y hy]⟩
  · rcases List.mem_append.1 hy with hh | hh
    · exact rep.rd.lt y hh
    · have := h5 y hh; have := m.size; omega
theorem Tb.struct : Does Try.prog 11 #[.pointer (some (base g))] w fun v w' => ∃ o es c, v = .slice o (List.length es) c ∧ Rd w' o (es.flatMap svv) ∧ (∀ e ∈ es, e.rd w') ∧ es.map En.sy = l.map En.sy ∧ Mod [] w w' := by
  obtain ⟨⟨S, ta, sT, s0⟩, h2, h4, h5, h6⟩ := h
  exact struct_ok ta h2 (fun e he => (h4 e he).1)
end
theorem rp_len {rs : List Rp} {L : List Sa} {t : Int} {R : List Int → List UInt8 × Int} (h : rs.map Rp.say = (dueO L t).map (repS R t)) : rs.length = (dueO L t).length := by
  have := congrArg List.length h
  simpa using this
theorem rp_at {rs : List Rp} {L : List Sa} {t : Int} {R : List Int → List UInt8 × Int} (h : rs.map Rp.say = (dueO L t).map (repS R t)) {i : Nat} (hi : i < rs.length) (hi' : i < (dueO L t).length) : rs[i].id = (dueO L t)[i].id ∧ rs[i].t = t := by
  have h1 : (rs.map Rp.say)[i]'(by simpa using hi) = ((dueO L t).map (repS R t))[i]'(by simpa using hi') := by simp only [h]
  rw [List.getElem_map, List.getElem_map] at h1
  exact ⟨congrArg (fun x => x.1) h1, congrArg (fun x => x.2.1) h1⟩
theorem rp_cells {w : World} {o : Option Addr} {rs : List Rp} (h : Rd w o (rs.flatMap rvv)) {i : Nat} (hi : i < rs.length) : ∃ p, o = some p ∧ w.cell? (p.add (i * 3)) = some (.int .i64 rs[i].id) ∧ w.cell? ((p.add (i * 3)).add 1) = some (.int .i64 rs[i].t) := by
  obtain ⟨p, hp, hc⟩ := h.flat (rvv_len _) (by decide) hi
  exact ⟨p, hp, by have := hc 0 _ rfl; rw [add_zero] at this; exact this, hc 1 _ rfl⟩

set_option maxRecDepth 100000 in
theorem lives_ok (w : World) : Does Try.prog 12 #[] w fun v w' => v = .bool true ∧ Mod [] w w' := by
  apply w12
  unfold F12
  refine (Tb.new w).mono ?_
  rintro _ w1 ⟨rfl, t1⟩
  refine ⟨_, rfl, ?_⟩
  rw [if_neg (by simp)]
  refine New.use fun w2 h2 m2 z2 => ?_
  have t2 := t1.mod m2
  refine (t2.def 1 10 (by decide) 1 (Rd.blk (vs := [5].map iv) h2) (by decide)).mono ?_
  rintro _ w3 ⟨rfl, k3, l3, T3, e3, t3, s3⟩
  refine ⟨_, rfl, ?_⟩
  have e3 : says l3 = [⟨1, 10, false, [5], 0⟩] := e3.trans (by decide)
  refine (t3.en 1 true 3 (by decide)).mono ?_
  rintro _ w4 ⟨rfl, k4, l4, e4, t4⟩
  rw [show passT 0 3 = 3 by decide] at e4 t4
  rw [e3] at e4 ⊢
  have e4 : says l4 = [⟨1, 10, true, [5], 13⟩] := e4.trans (by decide)
  refine ⟨_, rfl, ?_⟩
  refine (t4.due 12).mono ?_
  rintro _ w5 ⟨k5, o5, r5, c5, l5, rfl, q5, d5, e5, T5, s5, f5, t5⟩
  rw [show passT 3 12 = 12 by decide] at e5 t5 q5
  rw [e4] at e5 q5
  have e5 : says l5 = [⟨1, 10, true, [5], 13⟩] := e5.trans (by decide)
  have n5 := rp_len q5
  refine ⟨_, _, _, rfl, ?_⟩
  refine (t5.due 13).mono ?_
  rintro _ w6 ⟨k6, o6, r6, c6, l6, rfl, q6, d6, e6, T6, s6, f6, t6⟩
  rw [show passT 12 13 = 13 by decide] at e6 t6 q6
  rw [e5] at e6 q6
  have e6 : says l6 = [⟨1, 10, true, [5], 23⟩] := e6.trans (by decide)
  have n6 := rp_len q6
  refine ⟨_, _, _, rfl, ?_⟩
  refine (t6.due 14).mono ?_
  rintro _ w7 ⟨k7, o7, r7, c7, l7, rfl, q7, d7, e7, T7, s7, f7, t7⟩
  rw [show passT 13 14 = 14 by decide] at e7 t7 q7
  rw [e6] at e7 q7
  have e7 : says l7 = [⟨1, 10, true, [5], 23⟩] := e7.trans (by decide)
  have n7 := rp_len q7
  have d67 := k7.rd d6 f6
  refine ⟨_, _, _, rfl, ?_⟩
  refine (t7.due 30).mono ?_
  rintro _ w8 ⟨k8, o8, r8, c8, l8, rfl, q8, d8, e8, T8, s8, f8, t8⟩
  rw [show passT 14 30 = 30 by decide] at e8 t8 q8
  rw [e7] at e8 q8
  have e8 : says l8 = [⟨1, 10, true, [5], 40⟩] := e8.trans (by decide)
  have n8 := rp_len q8
  have d68 := k8.rd d67 (fun y hy => s7 y (f6 y hy))
  refine ⟨_, _, _, rfl, ?_⟩
  refine (t8.due 39).mono ?_
  rintro _ w9 ⟨k9, o9, r9, c9, l9, rfl, q9, d9, e9, T9, s9, f9, t9⟩
  rw [show passT 30 39 = 39 by decide] at e9 t9 q9
  rw [e8] at e9 q9
  have e9 : says l9 = [⟨1, 10, true, [5], 40⟩] := e9.trans (by decide)
  have n9 := rp_len q9
  have d69 := k9.rd d68 (fun y hy => s8 y (s7 y (f6 y hy)))
  have d89 := k9.rd d8 f8
  refine ⟨_, _, _, rfl, ?_⟩
  refine (t9.due 40).mono ?_
  rintro _ w10 ⟨k10, o10, r10, c10, l10, rfl, q10, d10, e10, T10, s10, f10, t10⟩
  rw [show passT 39 40 = 40 by decide] at e10 t10 q10
  rw [e9] at e10 q10
  have e10 : says l10 = [⟨1, 10, true, [5], 50⟩] := e10.trans (by decide)
  have n10 := rp_len q10
  have d610 := k10.rd d69 (fun y hy => s9 y (s8 y (s7 y (f6 y hy))))
  have d810 := k10.rd d89 (fun y hy => s9 y (f8 y hy))
  refine ⟨_, _, _, rfl, ?_⟩
  refine (t10.del 1 (by decide)).mono ?_
  rintro _ w11 ⟨rfl, k11, l11, e11, t11⟩
  rw [e10] at e11 ⊢
  have e11 : says l11 = [⟨1, 10, true, [5], 50⟩] := e11.trans (by decide)
  have d611 := k11.rd d610 (fun y hy => s10 y (s9 y (s8 y (s7 y (f6 y hy)))))
  have d811 := k11.rd d810 (fun y hy => s10 y (s9 y (f8 y hy)))
  refine ⟨_, rfl, ?_⟩
  have v5 : r5.length = 0 := n5.trans (by decide)
  have v6 : r6.length = 1 := n6.trans (by decide)
  have v7 : r7.length = 0 := n7.trans (by decide)
  have v8 : r8.length = 1 := n8.trans (by decide)
  have v9 : r9.length = 0 := n9.trans (by decide)
  have v10 : r10.length = 1 := n10.trans (by decide)
  rw [if_pos (by decide), if_pos (by decide), if_pos (by omega), if_pos (by omega)]
  obtain ⟨p6, hp6, c60, c61⟩ := rp_cells d611 (i := 0) (by omega)
  obtain ⟨a60, a61⟩ := rp_at q6 (i := 0) (by omega) (by omega)
  obtain ⟨p8, hp8, c80, c81⟩ := rp_cells d811 (i := 0) (by omega)
  obtain ⟨a80, a81⟩ := rp_at q8 (i := 0) (by omega) (by omega)
  refine ⟨p6, hp6, by omega, by omega, _, c60, ?_⟩
  rw [if_pos (by rw [a60]; rfl)]
  refine ⟨by omega, by omega, _, c61, ?_⟩
  rw [if_pos a61, if_pos (by omega), if_pos (by omega)]
  refine ⟨p8, hp8, by omega, by omega, _, c81, ?_⟩
  rw [if_pos a81, if_pos (by omega), if_pos (by omega), if_pos (by decide)]
  refine New.use fun w12 h12 m12 z12 => ?_
  refine ((t11.mod m12).def 2 0 (by decide) 1 (Rd.blk (vs := [5].map iv) h12) (by decide)).mono ?_
  rintro _ w13 ⟨rfl, k13, l13, T13, e13, t13, s13⟩
  rw [e11] at e13 ⊢
  have e13 : says l13 = [⟨1, 10, true, [5], 50⟩] := e13.trans (by decide)
  refine ⟨_, rfl, ?_⟩
  rw [if_pos (by decide)]
  refine t13.struct.mono ?_
  rintro _ w14 ⟨o14, es, c14, rfl, d14, x14, y14, m14⟩
  refine ⟨_, _, _, rfl, ?_, t13.m.none m14⟩
  have hl : es.length = 1 := by
    have h1 := congrArg List.length y14
    have h2 := congrArg List.length e13
    rw [List.length_map, List.length_map] at h1
    rw [says_len] at h2
    simp at h2
    omega
  rw [hl]
  rfl
/-! ### small -/
structure St where
  k : Int
  id : Int
  n : Int
  now : Int
  on : Bool
  a : Option Addr
  l : List Int
  c : Nat
def stv (s : St) : List Value := [.int .u8 s.k, .int .i64 s.id, .int .i64 s.n, .int .i64 s.now, .bool s.on, .slice s.a s.l.length s.c]
theorem stv_len (L : List St) : ∀ x ∈ L, (stv x).length = 6 := fun _ _ => rfl
theorem small_ok {w : World} {a : Option Addr} {L : List St} (c : Nat) (hr : Rd w a (L.flatMap stv)) (hn : L.length ≤ 9223372036854775807) : Does Try.prog 16 #[.slice a L.length c] w fun v w' => ∃ b, v = .bool b ∧ Mod [] w w' ∧ (b = true → L.length ≤ 60 ∧ ∀ s ∈ L, s.l.length ≤ 300) := by
  apply w16
  unfold F16
  refine LoopP.of (fun (x : Int) w' => ∃ i : Nat, i ≤ L.length ∧ x = (i : Int) ∧ Mod [] w w' ∧ ∀ j (hj : j < i) (hjl : j < L.length), L[j].l.length ≤ 300) (fun x _ => L.length - x.toNat) ⟨0, by omega, rfl, Mod.refl _, by omega⟩ ?_
  rintro _ w1 ⟨i, hi, rfl, m1, hb⟩
  unfold F16_b1
  refine iteI (fun hlt => ?_) (fun hlt => ?_)
  · have hlt : i < L.length := by omega
    obtain ⟨p, rfl, hc⟩ := (hr.mod m1 (by simp)).flat (stv_len _) (by decide) hlt
    refine ⟨p, rfl, by omega, by omega, _, _, _, hc 5 _ rfl, iteI (fun hh => ⟨_, rfl, m1, fun h => by cases h⟩) (fun hh => ?_)⟩
    have e1 : IntKind.i64.wrap ((i : Int) + 1) = ((i + 1 : Nat) : Int) := by rw [wi64 (by omega)]; omega
    rw [e1]
    refine ⟨_, by omega, ⟨i + 1, by omega, rfl, m1, fun j hj hjl => ?_⟩, rfl⟩
    by_cases hji : j = i
    · subst hji; omega
    · exact hb j (by omega) hjl
  · refine ⟨_, rfl, m1, fun h => ⟨by have := of_decide_eq_true h; omega, fun s hs => ?_⟩⟩
    obtain ⟨j, hj, rfl⟩ := List.getElem_of_mem hs
    exact hb j (by omega) hj
end Go.Proofs.Ytcgkmmiokmbjdaa
