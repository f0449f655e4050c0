/-
  The laws HkPlays and HkClones, as contracts.
-/
import Derived.Test.YtcgkmmiokmbjdaaTb
import Derived.Test.YtcgkmmiokmbjdaaParams
namespace Go.Proofs.Ytcgkmmiokmbjdaa
open Go Go.Sh Go.Proofs
set_option linter.unusedVariables false
set_option linter.unusedSimpArgs false
set_option linter.unusedSectionVars false

/-- The steps that came in. -/
def Old (w : World) (L : List St) : Prop := ∀ s ∈ L, Rd w s.a (s.l.map iv) ∧ -9223372036854775808 ≤ s.id ∧ s.id ≤ 9223372036854775807
theorem live {w w' : World} (M : Mod [] w w') : Does Try.prog 12 #[] w' (fun v w'' => ∃ (x : Bool), v = .bool x ∧ (Value.bool x = .bool true ∧ Mod [] w w'')) := (lives_ok _).mono fun v w'' h => ⟨_, h.1, rfl, M.none h.2⟩
/-- A pool that New made packs. -/
theorem pool_ok {w : World} {g : Nat} {S : List Nat} {L : List Pm.Pd} (h : Pm.Po w g S L) (hg : Pm.Good L) : Pl (some (base g)) S (Pm.packR L) w := by
  intro M w' m ap a X c hr hX
  refine (Pm.pack_ok (h.mod m (fun x hx => ap x hx)) hg c hr).mono ?_
  rintro _ w'' ⟨b, d, rfl, rb, m2, s2⟩
  exact ⟨b, d, rfl, rb, m2, fun y hy => s2 y (fpv_sub y hy)⟩
theorem packR_bad (L : List Pm.Pd) (X : List Int) (h : (Pm.packR L X).2 ≠ 0) : (Pm.packR L X).1 = [] := by
  unfold Pm.packR at h ⊢
  split
  · rfl
  · rename_i h2
    rw [if_neg h2] at h
    exact absurd rfl h
/-- The comparison of the structures. -/
theorem cmp_ok {w0 w : World} {S : List Nat} {g r : Nat} {t : Int} {l lr : List En} {T : List Nat} (h : Pr w0 w S g r t l lr T) :
    ∃ a c, w.cell? (base r) = some (.slice a lr.length c) ∧ Does Try.prog 11 #[.pointer (some (base g))] w fun v w1 => ∃ o oc n, v = .slice o n oc ∧ Mod [] w w1 ∧ w1.cell? (base r) = some (.slice a lr.length c) ∧
      Does Try.prog 18 #[.slice o n oc, .slice a lr.length c] w1 fun v w2 => v = .bool true ∧ Mod [] w w2 := by
  obtain ⟨⟨aL, cL, aN, cN, hb, r1, r2, l1, l2, t1, t2⟩, nr⟩ := h.rf
  refine ⟨aL, cL, hb.cell0, (struct_ok h.sv h.gd (fun e he => (h.cl e he).1)).mono ?_⟩
  rintro _ w1 ⟨o, es, oc, rfl, d1, x1, y1, m1⟩
  refine ⟨o, oc, _, rfl, m1, (hb.mod m1 (by simp)).cell0, ?_⟩
  have hl := h.gd.len
  rw [says_len] at hl
  have hel : es.length = l.length := by have := congrArg List.length y1; simpa using this
  have hsy : es.map En.sy = lr.map En.sy := by rw [y1, ← says_sy, ← says_sy, h.ag]
  refine (same_ok (L := es) (K := lr) oc cL (by omega) d1 (r1.mod m1 (by simp)) (fun e he => ⟨x1 e he, ?_⟩) (fun e he => (h.cr e he).1.mod m1 (by simp)) hsy).mono ?_
  · obtain ⟨j, hj, rfl⟩ := List.getElem_of_mem he
    have hj2 : j < l.length := by omega
    have h1 : (es.map En.sy)[j]'(by simpa using hj) = (l.map En.sy)[j]'(by simpa using hj2) := by simp only [y1]
    rw [List.getElem_map, List.getElem_map] at h1
    have h2 : es[j].l = l[j].l := congrArg (fun x => x.2.2.2) h1
    have h3 := (h.gd.rng l[j].say (List.mem_map.2 ⟨l[j], List.getElem_mem hj2, rfl⟩)).2.2.2.2
    have h3 : l[j].l.length ≤ 256 := h3
    rw [h2]; omega
  · rintro _ w2 ⟨rfl, m2⟩
    exact ⟨rfl, m1.none m2⟩
theorem pr0 {w0 w : World} {g r : Nat} {T : List Nat} (sv : Sv w g [g] 0 []) (hb : Blk w r 50 [.slice none 0 0, .slice none 0 0, .int .i64 0]) (hg : w0.heap.size ≤ g) (hr : w0.heap.size ≤ r) (hgT : g ∉ T) (hrT : r ∉ T) (hT : ∀ y ∈ T, y < w.heap.size) (m : Mod [] w0 w) : Pr w0 w [g] g r 0 [] [] T := by
  have hne : r ≠ g := by
    obtain ⟨a, c, _, hb', _⟩ := sv
    exact Blk.ne hb hb' (by decide)
  exact ⟨sv, ⟨⟨none, 0, none, 0, hb, Rd.nil, Rd.nil, by simp, by simp, by simp [Row.cells, fpv], by simp [Row.cells, fpv, nxs]⟩, hrT⟩, by simpa using hne, gd_nil, rfl, by simp, by simp, by simpa using hgT, by simpa using hg, hr, hT, m⟩
/-- A call with the i-th step. -/
theorem call_ok {w0 w : World} {S : List Nat} {g r : Nat} {t : Int} {l lr : List En} {T : List Nat} (h : Pr w0 w S g r t l lr T) {a : Option Addr} {L : List St} (hr : Rd w0 a (L.flatMap stv)) (hold : Old w0 L) (hs : ∀ s ∈ L, s.l.length ≤ 300) {i : Nat} (hi : i < L.length)
    {pp : Option Addr} {P : List Nat} {R : List Int → List UInt8 × Int} (hP : Pl pp P R w) (hPT : ∀ y ∈ P, y ∈ T) (hz : ∀ X, (R X).2 ≠ 0 → (R X).1 = []) :
    ∃ p, a = some p ∧ Cells w (p.add (i * 6)) 0 [.int .u8 L[i].k, .int .i64 L[i].id, .int .i64 L[i].n, .int .i64 L[i].now, .bool L[i].on, .slice L[i].a L[i].l.length L[i].c] ∧
      Does Try.prog 17 #[.pointer (some (base g)), .pointer (some (base r)), sval L[i].k L[i].id L[i].n L[i].now L[i].on L[i].a L[i].l L[i].c, .pointer pp] w fun v w' => v = .bool true ∧ StepR w0 w S g r T w' ∧ Pl pp P R w' := by
  obtain ⟨p, rfl, hc⟩ := (hr.mod h.m (by simp)).flat (stv_len _) (by decide) hi
  obtain ⟨h1, h2⟩ := hold L[i] (List.getElem_mem hi)
  have h3 := hs L[i] (List.getElem_mem hi)
  exact ⟨p, rfl, ⟨by have := hc 0 _ rfl; rw [add_zero] at this; exact this, hc 1 _ rfl, hc 2 _ rfl, hc 3 _ rfl, hc 4 _ rfl, hc 5 _ rfl, trivial⟩, step_ok h L[i].k L[i].id L[i].n L[i].now L[i].on L[i].c h2 h1 (by omega) hP hPT hz⟩

theorem hkPlays_ok {w : World} {d : Option Addr} {D : List Pm.Pd} (dc : Nat) (hd : Rd w d (D.flatMap Pm.pv)) {a : Option Addr} {L : List St} (c : Nat) (hr : Rd w a (L.flatMap stv)) (hn : L.length ≤ 9223372036854775807) (hold : Old w L) : Does Try.prog 7 #[.slice d D.length dc, .slice a L.length c] w fun v w' => v = .bool true ∧ Mod [] w w' := by
  apply w7
  unfold F7
  refine (snew_ok w).mono ?_
  rintro _ w1 ⟨rfl, sv, m1⟩
  refine ⟨_, rfl, (small_ok c (hr.mod m1 (by simp)) hn).mono ?_⟩
  rintro _ w2 ⟨b, rfl, m2, hb⟩
  have M2 := m1.none m2
  have out : F7_j1 (some (base w.heap.size)) d D.length dc L.length a true w2 (fun v w' => v = .bool true ∧ Mod [] w w') := by
    unfold F7_j1
    rw [if_pos rfl, if_pos (by simp)]
    exact live M2
  refine ⟨_, rfl, iteI (fun _ => out) (fun hh => iteI (fun _ => out) (fun h40 => ?_))⟩
  have hsm := hb (by simpa using hh)
  unfold F7_j1
  rw [if_neg (by simp)]
  refine (Pm.new_ok dc (hd.mod M2 (by simp))).mono ?_
  rintro _ w3 ⟨p, e, rfl, hE, m3, hbad, hgood⟩
  have M3 := M2.none m3
  have z2 := M2.size
  have z1 := m1.size
  have slt := sv.lt w.heap.size (by simp)
  have zm2 := m2.size
  -- the pool, or none
  have hpool : ∃ P R, Pl p P R w3 ∧ (∀ X, (R X).2 ≠ 0 → (R X).1 = []) ∧ (∀ y ∈ P, w2.heap.size ≤ y ∧ y < w3.heap.size) := by
    by_cases he : e = 0
    · obtain ⟨g, S, rfl, hpo, hs⟩ := hgood he
      have hg : Pm.Good D := by
        rcases hE with ⟨_, h⟩ | ⟨h, _⟩ | ⟨h, _⟩
        · exact h
        · omega
        · omega
      exact ⟨S, _, pool_ok hpo hg, packR_bad D, fun y hy => ⟨hs y hy, hpo.lt y hy⟩⟩
    · rw [hbad he]
      exact ⟨[], _, pnil_ok w3, fun _ _ => rfl, by simp⟩
  obtain ⟨P, R, hPl, hz, hPb⟩ := hpool
  refine ⟨_, _, rfl, New.use fun w4 h4 m4 z4 => ?_⟩
  have M4 := M3.none m4
  have sv4 := ((sv.mod m2 (by simp)).mod m3 (by simp)).mod m4 (by simp)
  have zm3 := m3.size
  have P0 : Pr w w4 [w.heap.size] w.heap.size w3.heap.size 0 [] [] P := pr0 sv4 h4 (Nat.le_refl _) (by omega) (fun hh => by have := hPb _ hh; omega) (fun hh => by have := hPb _ hh; omega) (fun y hy => by have := hPb y hy; omega) M4
  refine LoopP.of (fun (x : Int) w' => ∃ (i : Nat) (S : List Nat) (t : Int) (l lr : List En) (T : List Nat), i ≤ L.length ∧ x = (i : Int) ∧ Pr w w' S w.heap.size w3.heap.size t l lr T ∧ Pl p P R w' ∧ ∀ y ∈ P, y ∈ T) (fun x _ => L.length - x.toNat) ⟨0, _, _, _, _, _, by omega, rfl, P0, hPl.mod m4 (by simp), fun y hy => hy⟩ ?_
  rintro _ w5 ⟨i, S, t, l, lr, T, hi, rfl, P5, hP5, hT5⟩
  unfold F7_b2
  refine iteI (fun hlt => ?_) (fun hlt => live P5.m)
  have hlt : i < L.length := by omega
  have md : Mod [] w5 w5.drew := Mod.drew w5
  obtain ⟨q, rfl, hcs, hcall⟩ := call_ok (P5.mod md) hr hold hsm.2 hlt (hP5.mod md (by simp)) hT5 hz
  refine ⟨q, rfl, by omega, by omega, _, _, _, _, _, _, _, _, hcs, hcall.mono ?_⟩
  rintro _ w6 ⟨rfl, ⟨S6, t6, l6, lr6, T6, P6, m6, _, hT6, _⟩, hP6⟩
  refine ⟨_, rfl, ?_⟩
  rw [if_neg (by simp)]
  obtain ⟨ac, cc, hc1, hd1⟩ := cmp_ok P6
  refine ⟨_, _, _, hc1, hd1.mono ?_⟩
  rintro _ w7 ⟨o, oc, no, rfl, m7, hc2, hd2⟩
  refine ⟨_, _, _, rfl, hc2, hd2.mono ?_⟩
  rintro _ w8 ⟨rfl, m8⟩
  refine ⟨_, rfl, ?_⟩
  rw [if_neg (by simp), wi64 (by omega)]
  exact ⟨_, by omega, ⟨i + 1, S6, t6, l6, lr6, T6, by omega, rfl, P6.mod m8, hP6.mod m8 (by simp), fun y hy => hT6 y (hT5 y hy)⟩, rfl⟩

/-! ### No service -/
def No (w : World) (t : Option Addr) : Prop := t = none ∨ ∃ g r, t = some (base g) ∧ Blk w g 47 (.bool false :: r)
theorem No.mod {w w' : World} {t : Option Addr} (h : No w t) (m : Mod [] w w') : No w' t := by
  rcases h with h | ⟨g, r, h, hb⟩
  · exact .inl h
  · exact .inr ⟨g, r, h, hb.mod m (by simp)⟩
section
variable {w : World} {t : Option Addr} (h : No w t)
include h
theorem sok_no : Does Try.prog 20 #[.pointer t] w fun v w' => v = .bool false ∧ w = w' := by
  apply w20
  unfold F20
  rcases h with rfl | ⟨g, r, rfl, hb⟩
  · rw [if_neg (by simp)]
    exact ⟨rfl, rfl⟩
  · rw [if_pos (by simp)]
    exact ⟨_, rfl, _, hb.cell0, rfl, rfl⟩
theorem sdef_no (id ivl : Int) (a : Option Addr) (n c : Nat) : Does Try.prog 9 #[.pointer t, .int .i64 id, .int .i64 ivl, .slice a n c] w fun v w' => v = .int .i64 2 ∧ w = w' := by
  apply w9
  unfold F9
  refine (sok_no h).mono ?_
  rintro _ _ ⟨rfl, rfl⟩
  refine ⟨_, rfl, ?_⟩
  rw [if_pos (by simp)]
  exact ⟨rfl, rfl⟩
theorem sdel_no (id : Int) : Does Try.prog 10 #[.pointer t, .int .i64 id] w fun v w' => v = .int .i64 2 ∧ w = w' := by
  apply w10
  unfold F10
  refine (sok_no h).mono ?_
  rintro _ _ ⟨rfl, rfl⟩
  refine ⟨_, rfl, ?_⟩
  rw [if_pos (by simp)]
  exact ⟨rfl, rfl⟩
theorem sen_no (id : Int) (on : Bool) (n : Int) : Does Try.prog 13 #[.pointer t, .int .i64 id, .bool on, .int .i64 n] w fun v w' => v = .int .i64 2 ∧ w = w' := by
  apply w13
  unfold F13
  refine (sok_no h).mono ?_
  rintro _ _ ⟨rfl, rfl⟩
  refine ⟨_, rfl, ?_⟩
  rw [if_pos (by simp)]
  exact ⟨rfl, rfl⟩
theorem sdue_no (n : Int) (p : Option Addr) : Does Try.prog 14 #[.pointer t, .int .i64 n, .pointer p] w fun v w' => v = .slice none 0 0 ∧ w = w' := by
  apply w14
  unfold F14
  refine (sok_no h).mono ?_
  rintro _ _ ⟨rfl, rfl⟩
  refine ⟨_, rfl, ?_⟩
  rw [if_pos (by simp)]
  exact ⟨rfl, rfl⟩
theorem struct_no : Does Try.prog 11 #[.pointer t] w fun v w' => v = .slice none 0 0 ∧ w = w' := by
  apply w11
  unfold F11
  refine (sok_no h).mono ?_
  rintro _ _ ⟨rfl, rfl⟩
  refine ⟨_, rfl, ?_⟩
  rw [if_pos (by simp)]
  exact ⟨rfl, rfl⟩
theorem sclone_no : Does Try.prog 15 #[.pointer t] w fun v w' => v = .pointer none ∧ w = w' := by
  apply w15
  unfold F15
  refine (sok_no h).mono ?_
  rintro _ _ ⟨rfl, rfl⟩
  refine ⟨_, rfl, ?_⟩
  rw [if_pos (by simp)]
  exact ⟨rfl, rfl⟩
end

/-! ### Two services, each beside its reference's -/
structure Two (w0 w : World) (S : List Nat) (g r : Nat) (S' : List Nat) (g' r' : Nat) (T : List Nat) : Prop where
  p : ∃ t l lr, Pr w0 w S g r t l lr T
  q : ∃ t l lr, Pr w0 w S' g' r' t l lr T
  ss : ∀ y ∈ S, y ∉ S'
  rr : r ≠ r'
  rs : r ∉ S'
  sr : r' ∉ S
theorem Two.symm {w0 w : World} {S : List Nat} {g r : Nat} {S' : List Nat} {g' r' : Nat} {T : List Nat} (h : Two w0 w S g r S' g' r' T) : Two w0 w S' g' r' S g r T := ⟨h.q, h.p, fun y hy hy' => h.ss y hy' hy, Ne.symm h.rr, h.sr, h.rs⟩
theorem Two.mod {w0 w w' : World} {S : List Nat} {g r : Nat} {S' : List Nat} {g' r' : Nat} {T : List Nat} (h : Two w0 w S g r S' g' r' T) (m : Mod [] w w') : Two w0 w' S g r S' g' r' T := by
  obtain ⟨⟨t, l, lr, p⟩, ⟨u, k, kr, q⟩, h3, h4, h5, h6⟩ := h
  exact ⟨⟨t, l, lr, p.mod m⟩, ⟨u, k, kr, q.mod m⟩, h3, h4, h5, h6⟩
theorem Two.step {w0 w w' : World} {S : List Nat} {g r : Nat} {S' : List Nat} {g' r' : Nat} {T : List Nat} (h : Two w0 w S g r S' g' r' T) (st : StepR w0 w S g r T w') : ∃ S T, Two w0 w' S g r S' g' r' T := by
  obtain ⟨⟨t, l, lr, p⟩, ⟨u, k, kr, q⟩, h3, h4, h5, h6⟩ := h
  obtain ⟨S1, t1, l1, lr1, T1, P1, m, hS, hT, hN⟩ := st
  have hql := q.sv.lt
  have hqr := q.rf.rlt
  have hpr := p.rf.rlt
  refine ⟨S1, T1, ⟨t1, l1, lr1, P1⟩, ⟨u, k, kr, q.grow m (fun y hy => ?_) hT hN⟩, fun y hy hy' => ?_, h4, h5, fun hy => ?_⟩
  · rcases List.mem_cons.1 hy with rfl | hy
    · exact ⟨p.r0, p.rf.nr, h5, h4⟩
    · exact ⟨p.s0 y hy, p.sT y hy, h3 y hy, fun hh => by subst hh; exact h6 hy⟩
  · rcases hS y hy with hh | hh
    · exact h3 y hh hy'
    · have := hql y hy'; omega
  · rcases hS _ hy with hh | hh
    · exact h6 hh
    · omega

set_option maxRecDepth 100000 in
theorem hkClones_ok {w : World} {a : Option Addr} {L : List St} (c : Nat) (hr : Rd w a (L.flatMap stv)) (hn : L.length ≤ 9223372036854775807) (hold : Old w L) : Does Try.prog 6 #[.slice a L.length c] w fun v w' => v = .bool true ∧ Mod [] w w' := by
  apply w6
  unfold F6
  refine New.use fun w1 h1 m1 z1 => ?_
  have nn : ∀ w' : World, No w' none := fun _ => .inl rfl
  have nz : No w1 (some (base w.heap.size)) := .inr ⟨_, _, rfl, h1⟩
  refine New.use fun w2 h2 m2 z2 => ?_
  refine (sdef_no (nn w2) 1 1 _ 1 1).mono ?_
  rintro _ _ ⟨rfl, rfl⟩
  refine ⟨_, rfl, ?_⟩
  rw [if_neg (by simp)]
  refine New.use fun w3 h3 m3 z3 => ?_
  have nz3 := (nz.mod m2).mod m3
  refine (sdef_no nz3 1 1 _ 1 1).mono ?_
  rintro _ _ ⟨rfl, rfl⟩
  refine ⟨_, rfl, ?_⟩
  rw [if_neg (by simp)]
  refine (sdel_no (nn w3) 1).mono ?_
  rintro _ _ ⟨rfl, rfl⟩
  refine ⟨_, rfl, ?_⟩
  rw [if_neg (by simp)]
  refine (sen_no nz3 1 true 1).mono ?_
  rintro _ _ ⟨rfl, rfl⟩
  refine ⟨_, rfl, ?_⟩
  rw [if_neg (by simp)]
  refine (sdue_no (nn w3) 1 none).mono ?_
  rintro _ _ ⟨rfl, rfl⟩
  refine ⟨_, _, _, rfl, (sdue_no nz3 1 none).mono ?_⟩
  rintro _ _ ⟨rfl, rfl⟩
  refine ⟨_, _, _, rfl, (struct_no (nn w3)).mono ?_⟩
  rintro _ _ ⟨rfl, rfl⟩
  refine ⟨_, _, _, rfl, (struct_no nz3).mono ?_⟩
  rintro _ _ ⟨rfl, rfl⟩
  refine ⟨_, _, _, rfl, ?_⟩
  rw [if_neg (by simp [IntKind.wrap, IntKind.bits, IntKind.signed])]
  refine (sclone_no (nn w3)).mono ?_
  rintro _ _ ⟨rfl, rfl⟩
  refine ⟨_, rfl, ?_⟩
  rw [if_neg (by simp)]
  refine (sclone_no nz3).mono ?_
  rintro _ _ ⟨rfl, rfl⟩
  refine ⟨_, rfl, ?_⟩
  rw [if_neg (by simp)]
  have M3 : Mod [] w w3 := (m1.none m2).none m3
  refine (snew_ok w3).mono ?_
  rintro _ w4 ⟨rfl, sv, m4⟩
  have M4 := M3.none m4
  refine ⟨_, rfl, (small_ok c (hr.mod M4 (by simp)) hn).mono ?_⟩
  rintro _ w5 ⟨b, rfl, m5, hb⟩
  have M5 := M4.none m5
  refine ⟨_, rfl, ?_⟩
  unfold F6_j1
  refine iteI (fun hh => ?_) (fun hh => ?_)
  · rw [if_pos rfl, if_pos (by simp)]
    exact live M5
  have hsm := hb (by simpa using hh)
  rw [if_neg (by simp)]
  refine New.use fun w6 h6 m6 z6 => ?_
  have M6 := M5.none m6
  have sv6 := (sv.mod m5 (by simp)).mod m6 (by simp)
  have zz3 := M3.size
  have zz4 := m4.size
  have zz5 := m5.size
  have slt := sv.lt w3.heap.size (by simp)
  have P0 : Pr w w6 [w3.heap.size] w3.heap.size w5.heap.size 0 [] [] [] := pr0 sv6 h6 (by omega) (by omega) (by simp) (by simp) (by simp) M6
  have en : IntKind.i64.wrap (Int.tdiv (L.length : Int) 2) = ((L.length / 2 : Nat) : Int) := by rw [show (2 : Int) = ((2 : Nat) : Int) from rfl, ← Int.ofNat_tdiv, wi64 (by omega)]
  refine LoopP.of (fun (x : Int) w' => ∃ (i : Nat) (S : List Nat) (t : Int) (l lr : List En) (T : List Nat), i ≤ L.length / 2 ∧ x = (i : Int) ∧ Pr w w' S w3.heap.size w5.heap.size t l lr T) (fun x _ => L.length - x.toNat) ⟨0, _, _, _, _, _, by omega, rfl, P0⟩ ?_
  rintro _ w7 ⟨i, S, t, l, lr, T, hi, rfl, P⟩
  unfold F6_b2
  rw [en]
  refine iteI (fun hlt => ?_) (fun hlt => ?_)
  · have hlt : i < L.length := by omega
    obtain ⟨p, rfl, hcs, hcall⟩ := call_ok P hr hold hsm.2 hlt (pnil_ok w7) (by simp) (fun _ _ => rfl)
    refine ⟨p, rfl, by omega, by omega, _, _, _, _, _, _, _, _, hcs, hcall.mono ?_⟩
    rintro _ w8 ⟨rfl, ⟨S5, t5, l5, lr5, T5, P5, _⟩, _⟩
    refine ⟨_, rfl, ?_⟩
    rw [if_neg (by simp), wi64 (by omega)]
    exact ⟨_, by omega, ⟨i + 1, S5, t5, l5, lr5, T5, by omega, rfl, P5⟩, rfl⟩
  have zP := P.m.size
  have pr := P.rf.rlt
  refine (sclone_ok P.sv P.gd).mono ?_
  rintro _ w8 ⟨g', S', rfl, sv', m8, hS'⟩
  have P8 := P.mod m8
  obtain ⟨⟨aL, cL, aN, cN, hb5, r1, r2, l1, l2, t1, t2⟩, nr⟩ := P8.rf
  refine ⟨_, rfl, _, _, _, _, _, _, _, hb5.cells, New.put rfl fun w9 h9 m9 z9 => ?_⟩
  have z8 := m8.size
  have sl := P.sv.lt
  have sl' := sv'.lt
  have tl := P8.lt
  have P9 := P8.mod m9
  have Q9 : Pr w w9 S' g' w8.heap.size t l lr T := ⟨sv'.mod m9 (by simp), ⟨⟨aL, cL, aN, cN, h9, r1.mod m9 (by simp), r2.mod m9 (by simp), l1, l2, t1, t2⟩, fun hh => by have := tl _ hh; omega⟩, fun hh => by have := sl' _ hh; omega, P.gd, P.ag, P9.cl, P9.cr, fun y hy hy' => by have := hS' y hy; have := P.lt y hy'; omega, fun y hy => by have := hS' y hy; omega, by omega, P9.lt, P9.m⟩
  have TW : Two w w9 S w3.heap.size w5.heap.size S' g' w8.heap.size T := ⟨⟨t, l, lr, P9⟩, ⟨t, l, lr, Q9⟩, fun y hy hy' => by have := sl y hy; have := hS' y hy'; omega, by omega, fun hh => by have := hS' _ hh; omega, fun hh => by have := sl _ hh; omega⟩
  rw [if_neg (by simp)]
  clear P P8 P9 Q9 P0 sv' r1 r2 t1 t2 nr sl sl' tl hS'
  refine LoopP.of (fun (x : Int) w' => ∃ (i : Nat) (S S' T : List Nat), i ≤ L.length ∧ x = (i : Int) ∧ Two w w' S w3.heap.size w5.heap.size S' g' w8.heap.size T) (fun x _ => L.length - x.toNat) ⟨L.length / 2, _, _, _, by omega, rfl, TW⟩ ?_
  rintro _ w10 ⟨i, S1, S2, T2, hi, rfl, W⟩
  unfold F6_b3
  have e2 : Int.tmod (i : Int) 2 = ((i % 2 : Nat) : Int) := by rw [show (2 : Int) = ((2 : Nat) : Int) from rfl, ← Int.ofNat_tmod]
  refine iteI (fun hlt => ?_) (fun hlt => ?_)
  · have hlt : i < L.length := by omega
    rw [e2]
    have e1 : IntKind.i64.wrap ((i : Int) + 1) = ((i + 1 : Nat) : Int) := by rw [wi64 (by omega)]; omega
    rw [e1]
    refine iteI (fun hev => ?_) (fun hev => ?_)
    · obtain ⟨_, _, _, Pp⟩ := W.p
      obtain ⟨p, rfl, hcs, hcall⟩ := call_ok Pp hr hold hsm.2 hlt (pnil_ok w10) (by simp) (fun _ _ => rfl)
      refine ⟨p, rfl, by omega, by omega, _, _, _, _, _, _, _, _, hcs, hcall.mono ?_⟩
      rintro _ w11 ⟨rfl, st, _⟩
      refine ⟨_, rfl, ?_⟩
      rw [if_neg (by simp), if_neg (by omega)]
      obtain ⟨S3, T3, W3⟩ := W.step st
      exact ⟨_, by omega, ⟨i + 1, _, _, _, by omega, rfl, W3⟩, rfl⟩
    · rw [if_pos (by omega)]
      obtain ⟨_, _, _, Pq⟩ := W.q
      obtain ⟨p, rfl, hcs, hcall⟩ := call_ok Pq hr hold hsm.2 hlt (pnil_ok w10) (by simp) (fun _ _ => rfl)
      refine ⟨p, rfl, by omega, by omega, _, _, _, _, _, _, _, _, hcs, hcall.mono ?_⟩
      rintro _ w11 ⟨rfl, st, _⟩
      refine ⟨_, rfl, ?_⟩
      rw [if_neg (by simp)]
      obtain ⟨S3, T3, W3⟩ := W.symm.step st
      exact ⟨_, by omega, ⟨i + 1, _, _, _, by omega, rfl, W3.symm⟩, rfl⟩
  · have W := W.mod (Mod.drew (S := []) w10)
    obtain ⟨_, _, _, Pp⟩ := W.p
    obtain ⟨ac, cc, hc1, hd1⟩ := cmp_ok Pp
    refine ⟨_, _, _, hc1, hd1.mono ?_⟩
    rintro _ w11 ⟨o, oc, no, rfl, m11, hc2, hd2⟩
    refine ⟨_, _, _, rfl, hc2, hd2.mono ?_⟩
    rintro _ w12 ⟨rfl, m12⟩
    refine ⟨_, rfl, ?_⟩
    rw [if_pos rfl]
    have W := W.mod m12
    obtain ⟨_, _, _, Pq⟩ := W.q
    obtain ⟨ac, cc, hc1, hd1⟩ := cmp_ok Pq
    refine ⟨_, _, _, hc1, hd1.mono ?_⟩
    rintro _ w13 ⟨o, oc, no, rfl, m13, hc2, hd2⟩
    refine ⟨_, _, _, rfl, hc2, hd2.mono ?_⟩
    rintro _ w14 ⟨rfl, m14⟩
    refine ⟨_, rfl, ?_⟩
    rw [if_pos rfl]
    exact live (Pq.m.none m14)
end Go.Proofs.Ytcgkmmiokmbjdaa
