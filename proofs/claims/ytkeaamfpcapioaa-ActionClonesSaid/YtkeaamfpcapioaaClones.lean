/-
  The law ActionClones, as a contract.
-/
import Derived.Test.YtkeaamfpcapioaaPlays
namespace Go.Proofs.Ytkeaamfpcapioaa
open Go Go.Sh Go.Proofs
set_option linter.unusedVariables false
set_option linter.unusedSimpArgs false
set_option linter.unusedSectionVars false

/-! ### No table -/
def No (w : World) (t : Option Addr) : Prop := t = none ∨ ∃ g r, t = some (base g) ∧ Blk w g 51 (.bool false :: r)
theorem No.mod {w w' : World} {t : Option Addr} (h : No w t) (m : Mod [] w w') : No w' t := by
  rcases h with h | ⟨g, r, h, hb⟩
  · exact .inl h
  · exact .inr ⟨g, r, h, hb.mod m (by simp)⟩
section
variable {w : World} {t : Option Addr} (h : No w t)
include h
theorem tok_no : Does Try.prog 24 #[.pointer t] w fun v w' => v = .bool false ∧ w = w' := by
  apply w24
  unfold F24
  rcases h with rfl | ⟨g, r, rfl, hb⟩
  · rw [if_neg (by simp)]
    exact ⟨rfl, rfl⟩
  · rw [if_pos (by simp)]
    exact ⟨_, rfl, _, hb.cell0, rfl, rfl⟩
theorem tadd_no (ev a b c : Int) : Does Try.prog 13 #[.pointer t, .int .i64 ev, (bare a b c).val] w fun v w' => v = .int .i64 2 ∧ Mod [] w w' := by
  apply w13
  unfold F13
  refine New.use fun w1 h1 m1 z1 => ?_
  refine (tok_no (h.mod m1)).mono ?_
  rintro _ _ ⟨rfl, rfl⟩
  refine ⟨_, rfl, ?_⟩
  rw [if_pos (by simp)]
  exact ⟨rfl, m1⟩
theorem tdel_no (ev : Int) : Does Try.prog 14 #[.pointer t, .int .i64 ev] w fun v w' => v = .int .i64 2 ∧ w = w' := by
  apply w14
  unfold F14
  refine (tok_no h).mono ?_
  rintro _ _ ⟨rfl, rfl⟩
  refine ⟨_, rfl, ?_⟩
  rw [if_pos (by simp)]
  exact ⟨rfl, rfl⟩
theorem ten_no (ev : Int) (on : Bool) : Does Try.prog 15 #[.pointer t, .int .i64 ev, .bool on] w fun v w' => v = .int .i64 2 ∧ w = w' := by
  apply w15
  unfold F15
  refine (tok_no h).mono ?_
  rintro _ _ ⟨rfl, rfl⟩
  refine ⟨_, rfl, ?_⟩
  rw [if_pos (by simp)]
  exact ⟨rfl, rfl⟩
theorem tfnd_no (ev : Int) : Does Try.prog 16 #[.pointer t, .int .i64 ev] w fun v w' => v = .tuple #[(bare 0 0 0).val, .bool false] ∧ Mod [] w w' := by
  apply w16
  unfold F16
  refine New.use fun w1 h1 m1 z1 => ?_
  refine (tok_no (h.mod m1)).mono ?_
  rintro _ _ ⟨rfl, rfl⟩
  refine ⟨_, rfl, ?_⟩
  rw [if_pos (by simp)]
  exact PutAll.use h1 rfl fun w3 h3 m3 => ⟨_, _, _, _, _, _, _, _, _, h3.cells, rfl, m1.trans m3 (fun y hy => .inr (by simp at hy; omega))⟩
theorem events_no : Does Try.prog 12 #[.pointer t] w fun v w' => v = .slice none 0 0 ∧ w = w' := by
  apply w12
  unfold F12
  refine (tok_no h).mono ?_
  rintro _ _ ⟨rfl, rfl⟩
  refine ⟨_, rfl, ?_⟩
  rw [if_pos (by simp)]
  exact ⟨rfl, rfl⟩
theorem tclone_no : Does Try.prog 18 #[.pointer t] w fun v w' => v = .pointer none ∧ w = w' := by
  apply w18
  unfold F18
  refine (tok_no h).mono ?_
  rintro _ _ ⟨rfl, rfl⟩
  refine ⟨_, rfl, ?_⟩
  rw [if_pos (by simp)]
  exact ⟨rfl, rfl⟩
end

/-! ### Two tables, each beside its reference's -/
structure Two (w0 w : World) (S : List Nat) (g r : Nat) (l lr : List En) (S' : List Nat) (g' r' : Nat) (l' lr' : List En) (T : List Nat) : Prop where
  p : Pr w0 w S g r l lr T
  q : Pr w0 w S' g' r' l' lr' T
  ss : ∀ y ∈ S, y ∉ S'
  rr : r ≠ r'
  rs : r ∉ S'
  sr : r' ∉ S
  e : says l = says lr
  f : says l' = says lr'
theorem Two.symm {w0 w : World} {S : List Nat} {g r : Nat} {l lr : List En} {S' : List Nat} {g' r' : Nat} {l' lr' : List En} {T : List Nat} (h : Two w0 w S g r l lr S' g' r' l' lr' T) : Two w0 w S' g' r' l' lr' S g r l lr T :=
  ⟨h.q, h.p, fun y hy hy' => h.ss y hy' hy, Ne.symm h.rr, h.sr, h.rs, h.f, h.e⟩
theorem Two.mod {w0 w w' : World} {S : List Nat} {g r : Nat} {l lr : List En} {S' : List Nat} {g' r' : Nat} {l' lr' : List En} {T : List Nat} (h : Two w0 w S g r l lr S' g' r' l' lr' T) (m : Mod [] w w') : Two w0 w' S g r l lr S' g' r' l' lr' T :=
  ⟨h.p.mod m, h.q.mod m, h.ss, h.rr, h.rs, h.sr, h.e, h.f⟩
theorem Two.step {w0 w w' : World} {S : List Nat} {g r : Nat} {l lr : List En} {S' : List Nat} {g' r' : Nat} {l' lr' : List En} {T : List Nat} (h : Two w0 w S g r l lr S' g' r' l' lr' T) (st : StepR w0 w S g r T w') :
    ∃ S l lr T, Two w0 w' S g r l lr S' g' r' l' lr' T := by
  obtain ⟨S1, l1, lr1, T1, P1, ag, m, hS, hT, hN⟩ := st
  have hql := h.q.ta.lt
  have hqr := h.q.rlt
  have hpr := h.p.rlt
  refine ⟨S1, l1, lr1, T1, P1, h.q.grow m (fun y hy => ?_) hT hN, fun y hy hy' => ?_, h.rr, h.rs, fun hy => ?_, ag, h.f⟩
  · rcases List.mem_cons.1 hy with rfl | hy
    · exact ⟨h.p.r0, h.p.rf.nr, h.rs, h.rr⟩
    · exact ⟨h.p.s0 y hy, h.p.sT y hy, h.ss y hy, fun hh => by subst hh; exact h.sr hy⟩
  · rcases hS y hy with hh | hh
    · exact h.ss y hh hy'
    · have := hql y hy'; omega
  · rcases hS _ hy with hh | hh
    · exact h.sr hh
    · omega
/-- The comparison at the end. -/
theorem evs_same {w0 w : World} {S : List Nat} {g r : Nat} {l lr : List En} {T : List Nat} (h : Pr w0 w S g r l lr T) (ag : says l = says lr) :
    ∃ ae ce, w.cell? (base r) = some (.slice ae lr.length ce) ∧ Does Try.prog 12 #[.pointer (some (base g))] w fun v w1 => ∃ o oc, v = .slice o (evs l).length oc ∧ Mod [] w w1 ∧ w1.cell? (base r) = some (.slice ae lr.length ce) ∧
      Does Try.prog 11 #[.slice o (evs l).length oc, .slice ae lr.length ce] w1 fun v w2 => v = .bool true ∧ Mod [] w w2 := by
  obtain ⟨⟨ae, ce, ac, cc, ao, co, hb, r1, r2, r3, l1, l2, l3, t1, t2, t3⟩, nr⟩ := h.rf
  refine ⟨ae, ce, hb.cell0, (events_ok h.ta h.len).mono ?_⟩
  rintro _ w1 ⟨o, oc, rfl, ro, m1, _⟩
  refine ⟨o, oc, rfl, m1, (hb.mod m1 (by simp)).cell0, ?_⟩
  have e5 : evs l = evs lr := by
    have ag' : mp Cc.say l = mp Cc.say lr := ag
    rw [← mp_evs Cc.say l, ag', mp_evs]
  have hrE : Rd w1 ae ((evs lr).map iv) := by
    have := r1.mod m1 (by simp)
    have e : rowE.cells (lr.map (·.1)) = (evs lr).map iv := rowE_cells _
    rwa [e] at this
  have hel : (evs lr).length = lr.length := by simp [evs]
  have q := ints_ok (l := evs l) (m := evs lr) oc ce (by have := h.len; simp [evs]; omega) ro hrE
  rw [hel] at q
  refine q.mono ?_
  rintro _ w2 ⟨rfl, m2⟩
  exact ⟨by rw [decide_eq_true e5], m1.none m2⟩

set_option maxRecDepth 100000 in
theorem actionClones_ok {w : World} {a : Option Addr} {L : List St} (c : Nat) (hr : Rd w a (L.flatMap stv)) (hn : L.length ≤ 9223372036854775807) (hold : Old w L) : Does Try.prog 6 #[.slice a L.length c] w fun v w' => v = .bool true ∧ Mod [] w w' := by
  apply w6
  unfold F6
  have live : ∀ {w' : World}, Mod [] w w' → Does Try.prog 9 #[] w' (fun v w'' => ∃ (x : Bool), v = .bool x ∧ (Value.bool x = .bool true ∧ Mod [] w w'')) := fun M => (lives_ok _).mono fun v w' h => ⟨_, h.1, rfl, M.none h.2⟩
  refine New.use fun w1 h1 m1 z1 => ?_
  have nn : ∀ w' : World, No w' none := fun _ => .inl rfl
  have nz : No w1 (some (base w.heap.size)) := .inr ⟨_, _, rfl, h1⟩
  refine (tfnd_no (nn w1) 1).mono ?_
  rintro _ w2 ⟨rfl, m2⟩
  refine ⟨_, _, _, _, _, _, _, _, _, _, rfl, New.put rfl fun w3 h3 m3 z3 => ?_⟩
  have nz3 := (nz.mod m2).mod m3
  refine (tfnd_no nz3 1).mono ?_
  rintro _ w4 ⟨rfl, m4⟩
  refine ⟨_, _, _, _, _, _, _, _, _, _, rfl, New.put rfl fun w5 h5 m5 z5 => ?_⟩
  have nz5 := (nz3.mod m4).mod m5
  refine New.put rfl fun w6 h6 m6 z6 => ?_
  have nz6 := nz5.mod m6
  refine ⟨_, _, _, _, _, _, _, _, _, h6.cells, (tadd_no (nn w6) 1 0 0 1).mono ?_⟩
  rintro _ w7 ⟨rfl, m7⟩
  refine ⟨_, rfl, ?_⟩
  rw [if_neg (by simp)]
  have nz7 := nz6.mod m7
  refine ⟨_, _, _, _, _, _, _, _, _, (h6.mod m7 (by simp)).cells, (tadd_no nz7 1 0 0 1).mono ?_⟩
  rintro _ w8 ⟨rfl, m8⟩
  have nz8 := nz7.mod m8
  refine ⟨_, rfl, ?_⟩
  rw [if_neg (by simp)]
  refine (tdel_no (nn w8) 1).mono ?_
  rintro _ _ ⟨rfl, rfl⟩
  refine ⟨_, rfl, ?_⟩
  rw [if_neg (by simp)]
  refine (ten_no nz8 1 true).mono ?_
  rintro _ _ ⟨rfl, rfl⟩
  refine ⟨_, rfl, ?_⟩
  rw [if_neg (by simp), if_neg (by simp), if_neg (by simp)]
  refine (events_no (nn w8)).mono ?_
  rintro _ _ ⟨rfl, rfl⟩
  refine ⟨_, _, _, rfl, (events_no nz8).mono ?_⟩
  rintro _ _ ⟨rfl, rfl⟩
  refine ⟨_, _, _, rfl, ?_⟩
  rw [if_neg (by simp [IntKind.wrap, IntKind.bits, IntKind.signed])]
  refine (tclone_no (nn w8)).mono ?_
  rintro _ _ ⟨rfl, rfl⟩
  refine ⟨_, rfl, ?_⟩
  rw [if_neg (by simp)]
  refine (tclone_no nz8).mono ?_
  rintro _ _ ⟨rfl, rfl⟩
  refine ⟨_, rfl, ?_⟩
  rw [if_neg (by simp)]
  have M8 : Mod [] w w8 := (((((m1.none m2).none m3).none m4).none m5).none m6).none (m7.none m8)
  refine (tnew_ok w8).mono ?_
  rintro _ w9 ⟨rfl, ta, m9⟩
  have M9 := M8.none m9
  refine ⟨_, rfl, (small_ok c (hr.mod M9 (by simp)) hn).mono ?_⟩
  rintro _ w10 ⟨b, rfl, m10, hb⟩
  have M10 := M9.none m10
  refine ⟨_, rfl, ?_⟩
  unfold F6_j1
  refine iteI (fun hh => ?_) (fun hh => ?_)
  · rw [if_pos rfl, if_pos (by simp)]
    exact live M10
  have hsm := hb (by simpa using hh)
  rw [if_neg (by simp)]
  refine New.use fun w11 h11 m11 z11 => ?_
  have M11 := M10.none m11
  have ta11 := (ta.mod m10 (by simp)).mod m11 (by simp)
  have z10 := m10.size
  have z9 := m9.size
  have z8 := M8.size
  have ztl := ta.lt w8.heap.size (by simp)
  have P0 : Pr w w11 [w8.heap.size] w8.heap.size w10.heap.size [] [] [] := ⟨ta11, ⟨⟨none, 0, none, 0, none, 0, h11, Rd.nil, Rd.nil, Rd.nil, by simp, by simp, by simp, by simp [Row.cells, fpv], by simp [Row.cells, fpv], by simp [Row.cells, fpv]⟩, by simp⟩, by simp; omega, List.Pairwise.nil, by simp, by simp, by simp, by simp, by simp, by simp; omega, by omega, by simp, M11⟩
  have en : IntKind.i64.wrap (Int.tdiv (L.length : Int) 2) = ((L.length / 2 : Nat) : Int) := by rw [show (2 : Int) = ((2 : Nat) : Int) from rfl, ← Int.ofNat_tdiv, wi64 (by omega)]
  -- a call with the i-th step
  have call : ∀ (i : Nat) (hi : i < L.length) (w' : World) (S : List Nat) (g r : Nat) (l lr : List En) (T : List Nat), Pr w w' S g r l lr T → says l = says lr → ∃ p, a = some p ∧ Cells w' (p.add (i * 8)) 0 [.int .u8 L[i].k, .int .i64 L[i].ev, .bool L[i].on, .int .i64 L[i].c.src, .int .i64 L[i].c.num, .int .i64 L[i].c.svc, .slice L[i].c.aa L[i].c.al.length L[i].c.ac, .slice L[i].c.ba L[i].c.bl.length L[i].c.bc] ∧
      Does Try.prog 10 #[.pointer (some (base g)), .pointer (some (base r)), sval L[i].k L[i].ev L[i].on L[i].c] w' fun v w'' => v = .bool true ∧ StepR w w' S g r T w'' := by
    intro i hi w' S g r l lr T P ag
    obtain ⟨p, rfl, hc⟩ := (hr.mod P.m (by simp)).flat (stv_len _) (by decide) hi
    exact ⟨p, rfl, ⟨by have := hc 0 _ rfl; rw [add_zero] at this; exact this, hc 1 _ rfl, hc 2 _ rfl, hc 3 _ rfl, hc 4 _ rfl, hc 5 _ rfl, hc 6 _ rfl, hc 7 _ rfl, trivial⟩, step_ok P ag L[i].k L[i].ev L[i].on (old_fz hold P.m hsm.2 T L[i] (List.getElem_mem hi))⟩
  refine LoopP.of (fun (x : Int) w' => ∃ (i : Nat) (S : List Nat) (l lr : List En) (T : List Nat), i ≤ L.length / 2 ∧ x = (i : Int) ∧ Pr w w' S w8.heap.size w10.heap.size l lr T ∧ says l = says lr) (fun x _ => L.length - x.toNat) ⟨0, _, _, _, _, by omega, rfl, P0, rfl⟩ ?_
  rintro _ w12 ⟨i, S, l, lr, T, hi, rfl, P, ag⟩
  unfold F6_b2
  rw [en]
  refine iteI (fun hlt => ?_) (fun hlt => ?_)
  · have hlt : i < L.length := by omega
    obtain ⟨p, rfl, hcs, hcall⟩ := call i hlt w12 _ _ _ _ _ _ P ag
    refine ⟨p, rfl, by omega, by omega, _, _, _, _, _, _, _, _, _, _, _, _, hcs, hcall.mono ?_⟩
    rintro _ w13 ⟨rfl, S5, l5, lr5, T5, P5, ag5, m5, _, _, _⟩
    refine ⟨_, rfl, ?_⟩
    rw [if_neg (by simp), wi64 (by omega)]
    exact ⟨_, by omega, ⟨i + 1, S5, l5, lr5, T5, by omega, rfl, P5, ag5⟩, rfl⟩
  have zP := P.m.size
  have pr := P.rlt
  refine (tclone_ok P.ta P.len).mono ?_
  rintro _ w13 ⟨g', S', rfl, ta', m13, hS'⟩
  have P13 := P.mod m13
  obtain ⟨⟨ae, ce, ac, cc, ao, co, hb5, r1, r2, r3, l1, l2, l3, t1, t2, t3⟩, nr⟩ := P13.rf
  refine ⟨_, rfl, _, _, _, _, _, _, _, _, _, hb5.cells, New.put rfl fun w14 h14 m14 z14 => ?_⟩
  have z13 := m13.size
  have sl := P.ta.lt
  have sl' := ta'.lt
  have tl := P13.lt
  have P14 := P13.mod m14
  have Q14 : Pr w w14 S' g' w13.heap.size l lr T := ⟨ta'.mod m14 (by simp), ⟨⟨ae, ce, ac, cc, ao, co, h14, r1.mod m14 (by simp), r2.mod m14 (by simp), r3.mod m14 (by simp), l1, l2, l3, t1, t2, t3⟩, fun hh => by have := tl _ hh; omega⟩, fun hh => by have := sl' _ hh; omega, P.srt, P.len, P.rlen, P14.cl, P14.cr, fun y hy hy' => by have := hS' y hy; have := P.lt y hy'; omega, fun y hy => by have := hS' y hy; omega, by omega, P14.lt, P14.m⟩
  have TW : Two w w14 S w8.heap.size w10.heap.size l lr S' g' w13.heap.size l lr T := ⟨P14, Q14, fun y hy hy' => by have := sl y hy; have := hS' y hy'; omega, by omega, fun hh => by have := hS' _ hh; omega, fun hh => by have := sl _ hh; omega, ag, ag⟩
  rw [if_neg (by simp)]
  clear P P13 P14 Q14 P0 ta' r1 r2 r3 t1 t2 t3 nr sl sl' tl hS'
  refine LoopP.of (fun (x : Int) w' => ∃ (i : Nat) (S : List Nat) (l lr : List En) (S' : List Nat) (l' lr' : List En) (T : List Nat), i ≤ L.length ∧ x = (i : Int) ∧ Two w w' S w8.heap.size w10.heap.size l lr S' g' w13.heap.size l' lr' T) (fun x _ => L.length - x.toNat) ⟨_, _, _, _, _, _, _, _, by omega, rfl, TW⟩ ?_
  rintro _ w15 ⟨i, S1, l1, lr1, S2, l2, lr2, T2, hi, rfl, W⟩
  unfold F6_b3
  have e2 : Int.tmod (i : Int) 2 = ((i % 2 : Nat) : Int) := by rw [show (2 : Int) = ((2 : Nat) : Int) from rfl, ← Int.ofNat_tmod]
  refine iteI (fun hlt => ?_) (fun hlt => ?_)
  · have hlt : i < L.length := by omega
    rw [e2]
    have e1 : IntKind.i64.wrap ((i : Int) + 1) = ((i + 1 : Nat) : Int) := by rw [wi64 (by omega)]; omega
    rw [e1]
    refine iteI (fun hev => ?_) (fun hev => ?_)
    · obtain ⟨p, rfl, hcs, hcall⟩ := call i hlt w15 _ _ _ _ _ _ W.p W.e
      refine ⟨p, rfl, by omega, by omega, _, _, _, _, _, _, _, _, _, _, _, _, hcs, hcall.mono ?_⟩
      rintro _ w16 ⟨rfl, st⟩
      refine ⟨_, rfl, ?_⟩
      rw [if_neg (by simp), if_neg (by omega)]
      obtain ⟨S3, l3, lr3, T3, W3⟩ := W.step st
      exact ⟨_, by omega, ⟨i + 1, _, _, _, _, _, _, _, by omega, rfl, W3⟩, rfl⟩
    · rw [if_pos (by omega)]
      obtain ⟨p, rfl, hcs, hcall⟩ := call i hlt w15 _ _ _ _ _ _ W.q W.f
      refine ⟨p, rfl, by omega, by omega, _, _, _, _, _, _, _, _, _, _, _, _, hcs, hcall.mono ?_⟩
      rintro _ w16 ⟨rfl, st⟩
      refine ⟨_, rfl, ?_⟩
      rw [if_neg (by simp)]
      obtain ⟨S3, l3, lr3, T3, W3⟩ := W.symm.step st
      exact ⟨_, by omega, ⟨i + 1, _, _, _, _, _, _, _, by omega, rfl, W3.symm⟩, rfl⟩
  · have W := W.mod (Mod.drew (S := []) w15)
    obtain ⟨ae, ce, hc1, hd1⟩ := evs_same W.p W.e
    refine ⟨_, _, _, hc1, hd1.mono ?_⟩
    rintro _ w16 ⟨o, oc, rfl, m16, hc2, hd2⟩
    refine ⟨_, _, _, rfl, hc2, hd2.mono ?_⟩
    rintro _ w17 ⟨rfl, m17⟩
    refine ⟨_, rfl, ?_⟩
    rw [if_pos rfl]
    have W := W.mod m17
    obtain ⟨ae, ce, hc1, hd1⟩ := evs_same W.q W.f
    refine ⟨_, _, _, hc1, hd1.mono ?_⟩
    rintro _ w18 ⟨o, oc, rfl, m18, hc2, hd2⟩
    refine ⟨_, _, _, rfl, hc2, hd2.mono ?_⟩
    rintro _ w19 ⟨rfl, m19⟩
    refine ⟨_, rfl, ?_⟩
    rw [if_pos rfl]
    exact live (W.mod m19).p.m
end Go.Proofs.Ytkeaamfpcapioaa
