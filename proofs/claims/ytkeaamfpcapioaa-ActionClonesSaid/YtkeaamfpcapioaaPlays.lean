/-
  The law ActionPlays, as a contract; small.
-/
import Derived.Test.YtkeaamfpcapioaaLives
namespace Go.Proofs.Ytkeaamfpcapioaa
open Go Go.Sh Go.Proofs
set_option linter.unusedVariables false
set_option linter.unusedSimpArgs false
set_option linter.unusedSectionVars false

structure St where
  k : Int
  ev : Int
  on : Bool
  c : Cc
def stv (s : St) : List Value := [.int .u8 s.k, .int .i64 s.ev, .bool s.on, .int .i64 s.c.src, .int .i64 s.c.num, .int .i64 s.c.svc, .slice s.c.aa s.c.al.length s.c.ac, .slice s.c.ba s.c.bl.length s.c.bc]
theorem stv_len (L : List St) : ∀ x ∈ L, (stv x).length = 8 := fun _ _ => rfl
theorem light_ok (c : Cc) (w : World) : Does Try.prog 19 #[c.val] w fun v w' => v = .bool (decide (c.al.length ≤ 40 ∧ c.bl.length ≤ 1000)) ∧ Mod [] w w' := by
  apply w19
  unfold F19
  refine New.use fun w1 h1 m1 z1 => ?_
  refine ⟨_, _, _, h1.cell (i := 3) rfl, iteI (fun hh => ?_) (fun hh => ?_)⟩
  · refine ⟨_, _, _, h1.cell (i := 4) rfl, ?_, m1⟩
    congr 1
    rw [decide_eq_decide]
    omega
  · refine ⟨?_, m1⟩
    congr 1
    symm
    rw [decide_eq_false_iff_not]
    omega
theorem small_ok {w : World} {a : Option Addr} {L : List St} (c : Nat) (hr : Rd w a (L.flatMap stv)) (hn : L.length ≤ 9223372036854775807) : Does Try.prog 8 #[.slice a L.length c] w fun v w' => ∃ b, v = .bool b ∧ Mod [] w w' ∧ (b = true → L.length ≤ 60 ∧ ∀ s ∈ L, s.c.al.length ≤ 40 ∧ s.c.bl.length ≤ 1000) := by
  apply w8
  unfold F8
  refine LoopP.of (fun (x : Int) w' => ∃ i : Nat, i ≤ L.length ∧ x = (i : Int) ∧ Mod [] w w' ∧ ∀ j (hj : j < i) (hjl : j < L.length), L[j].c.al.length ≤ 40 ∧ L[j].c.bl.length ≤ 1000) (fun x _ => L.length - x.toNat) ⟨0, by omega, rfl, Mod.refl _, by omega⟩ ?_
  rintro _ w1 ⟨i, hi, rfl, m1, hb⟩
  unfold F8_b1
  refine iteI (fun hlt => ?_) (fun hlt => ?_)
  · have hlt : i < L.length := by omega
    obtain ⟨p, rfl, hc⟩ := (hr.mod m1 (by simp)).flat (stv_len _) (by decide) hlt
    refine ⟨p, rfl, by omega, by omega, L[i].c.src, L[i].c.num, L[i].c.svc, L[i].c.aa, L[i].c.al.length, L[i].c.ac, L[i].c.ba, L[i].c.bl.length, L[i].c.bc, ⟨?_, ?_, ?_, ?_, ?_, trivial⟩, ?_⟩
    · have := hc 3 _ rfl; rw [Int.toNat_natCast, add_zero]; exact this
    · have := hc 4 _ rfl; rw [Int.toNat_natCast, add_add]; exact this
    · have := hc 5 _ rfl; rw [Int.toNat_natCast, add_add]; exact this
    · have := hc 6 _ rfl; rw [Int.toNat_natCast, add_add]; exact this
    · have := hc 7 _ rfl; rw [Int.toNat_natCast, add_add]; exact this
    refine (light_ok L[i].c w1).mono ?_
    rintro _ w2 ⟨rfl, m2⟩
    refine ⟨_, rfl, iteI (fun hh => ⟨_, rfl, m1.none m2, fun h => by cases h⟩) (fun hh => ?_)⟩
    have hl : L[i].c.al.length ≤ 40 ∧ L[i].c.bl.length ≤ 1000 := by simpa using hh
    have e1 : IntKind.i64.wrap ((i : Int) + 1) = ((i + 1 : Nat) : Int) := by rw [wi64 (by omega)]; omega
    rw [e1]
    refine ⟨_, by omega, ⟨i + 1, by omega, rfl, m1.none m2, fun j hj hjl => ?_⟩, rfl⟩
    by_cases hji : j = i
    · subst hji; exact hl
    · exact hb j (by omega) hjl
  · refine ⟨_, rfl, m1, fun h => ⟨by have := of_decide_eq_true h; omega, fun s hs => ?_⟩⟩
    obtain ⟨j, hj, rfl⟩ := List.getElem_of_mem hs
    exact hb j (by omega) hj
theorem rowE_cells (l : List Int) : rowE.cells l = l.map iv := by
  unfold Row.cells
  induction l with
  | nil => rfl
  | cons x l ih => rw [List.flatMap_cons, ih]; rfl
/-- The steps that came in: their commands lie in blocks older than everything. -/
def Old (w : World) (L : List St) : Prop := ∀ s ∈ L, Rd w s.c.aa (s.c.al.map iv) ∧ Rd w s.c.ba (s.c.bl.map bv)
theorem old_fz {w w' : World} {L : List St} (h : Old w L) (m : Mod [] w w') (hs : ∀ s ∈ L, s.c.al.length ≤ 40 ∧ s.c.bl.length ≤ 1000) (T : List Nat) : ∀ s ∈ L, Fz w w' T s.c := by
  intro s hm
  obtain ⟨h1, h2⟩ := h s hm
  have h3 := hs s hm
  have hr : s.c.rd w := ⟨h1, h2, by unfold Cmd.small Cc.say; simp only; omega⟩
  exact ⟨hr.mod m (by simp), fun y hy => .inl (hr.lt y hy)⟩
theorem actionPlays_ok {w : World} {a : Option Addr} {L : List St} (c : Nat) (hr : Rd w a (L.flatMap stv)) (hn : L.length ≤ 9223372036854775807) (hold : Old w L) : Does Try.prog 3 #[.slice a L.length c] w fun v w' => v = .bool true ∧ Mod [] w w' := by
  apply w3
  unfold F3
  have live : ∀ {w' : World}, Mod [] w w' → Does Try.prog 9 #[] w' (fun v w'' => ∃ (x : Bool), v = .bool x ∧ (Value.bool x = .bool true ∧ Mod [] w w'')) := fun M => (lives_ok _).mono fun v w' h => ⟨_, h.1, rfl, M.none h.2⟩
  refine (tnew_ok w).mono ?_
  rintro _ w1 ⟨rfl, ta, m1⟩
  refine ⟨_, rfl, (small_ok c (hr.mod m1 (by simp)) hn).mono ?_⟩
  rintro _ w2 ⟨b, rfl, m2, hb⟩
  have M2 := m1.none m2
  refine ⟨_, rfl, ?_⟩
  unfold F3_j1
  refine iteI (fun hh => ?_) (fun hh => ?_)
  · rw [if_pos rfl, if_pos (by simp)]
    exact live M2
  have hsm := hb (by simpa using hh)
  rw [if_neg (by simp)]
  refine New.use fun w3 h3 m3 z3 => ?_
  have M3 := M2.none m3
  have ta3 := (ta.mod m2 (by simp)).mod m3 (by simp)
  have z2 := m2.size
  have z1 := m1.size
  have ztl := ta.lt w.heap.size (by simp)
  have P0 : Pr w w3 [w.heap.size] w.heap.size w2.heap.size [] [] [] := ⟨ta3, ⟨⟨none, 0, none, 0, none, 0, h3, Rd.nil, Rd.nil, Rd.nil, by simp, by simp, by simp, by simp [Row.cells, fpv], by simp [Row.cells, fpv], by simp [Row.cells, fpv]⟩, by simp⟩, by simp; omega, List.Pairwise.nil, by simp, by simp, by simp, by simp, by simp, by simp, by omega, by simp, M3⟩
  refine LoopP.of (fun (x : Int) w' => ∃ (i : Nat) (S : List Nat) (l lr : List En) (T : List Nat), i ≤ L.length ∧ x = (i : Int) ∧ Pr w w' S w.heap.size w2.heap.size l lr T ∧ says l = says lr) (fun x _ => L.length - x.toNat) ⟨0, _, _, _, _, by omega, rfl, P0, rfl⟩ ?_
  rintro _ w4 ⟨i, S, l, lr, T, hi, rfl, P, ag⟩
  unfold F3_b2
  refine iteI (fun hlt => ?_) (fun hlt => live P.m)
  have hlt : i < L.length := by omega
  have md : Mod [] w4 w4.drew := Mod.drew w4
  have P4 := P.mod md
  obtain ⟨p, rfl, hc⟩ := (hr.mod P4.m (by simp)).flat (stv_len _) (by decide) hlt
  have hf := old_fz hold P4.m hsm.2 T L[i] (List.getElem_mem hlt)
  refine ⟨p, rfl, by omega, by omega, _, _, _, _, _, _, _, _, _, _, _, _, ⟨by have := hc 0 _ rfl; rw [add_zero] at this; exact this, hc 1 _ rfl, hc 2 _ rfl, hc 3 _ rfl, hc 4 _ rfl, hc 5 _ rfl, hc 6 _ rfl, hc 7 _ rfl, trivial⟩, ?_⟩
  refine (step_ok P4 ag L[i].k L[i].ev L[i].on hf).mono ?_
  rintro _ w5 ⟨rfl, S5, l5, lr5, T5, P5, ag5, m5, _, _, _⟩
  refine ⟨_, rfl, ?_⟩
  rw [if_neg (by simp)]
  obtain ⟨⟨ae, ce, ac, cc, ao, co, hb5, r1, r2, r3, l1, l2, l3, t1, t2, t3⟩, nr⟩ := P5.rf
  refine ⟨_, _, _, hb5.cell0, (events_ok P5.ta P5.len).mono ?_⟩
  rintro _ w6 ⟨o, oc, rfl, ro, m6, _⟩
  refine ⟨_, _, _, rfl, (hb5.mod m6 (by simp)).cell0, ?_⟩
  have e5 : evs l5 = evs lr5 := by
    have ag' : mp Cc.say l5 = mp Cc.say lr5 := ag5
    rw [← mp_evs Cc.say l5, ag', mp_evs]
  have hrE : Rd w6 ae ((evs lr5).map iv) := by
    have := r1.mod m6 (by simp)
    have e : rowE.cells (lr5.map (·.1)) = (evs lr5).map iv := by
      exact rowE_cells _
    rwa [e] at this
  have hel : (evs lr5).length = lr5.length := by simp [evs]
  have q := ints_ok (l := evs l5) (m := evs lr5) oc ce (by have := P5.len; simp [evs]; omega) ro hrE
  rw [hel] at q
  refine q.mono ?_
  rintro _ w7 ⟨rfl, m7⟩
  refine ⟨_, rfl, ?_⟩
  rw [if_neg (by simp [e5]), wi64 (by omega)]
  exact ⟨_, by omega, ⟨i + 1, S5, l5, lr5, T5, by omega, rfl, (P5.mod m6).mod m7, ag5⟩, rfl⟩
end Go.Proofs.Ytkeaamfpcapioaa
