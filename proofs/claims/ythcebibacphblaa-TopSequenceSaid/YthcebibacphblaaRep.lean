/-
  The contracts of Report and Send, and of the receiving end.
-/
import Derived.Test.YthcebibacphblaaNext
namespace Go.Proofs.Ythcebibacphblaa
open Go Go.Sh Go.Proofs
set_option linter.unusedVariables false
set_option linter.unusedSimpArgs false
set_option linter.unusedSectionVars false

/-- n units are acknowledged. -/
def Fs.rel (s : Fs) (n : Nat) : Fs := { s with A := s.A + n, H := s.H - n, S := s.S - n }
/-- A control word arrives: its next number lies d ahead. -/
def Fs.got (s : Fs) (d : Nat) (R : Bool) : Fs :=
  let s1 := s.rel d
  let s2 : Fs := if 0 < d then { s1 with tries := 0, last := s1.now } else s1
  if R then { s2 with S := 0 } else s2

theorem clcwValid (V : Nat) (hV : V < 256) (L W R : Bool) (w : World) : Does Try.prog 28 #[.agg #[.int .i64 1, .bool L, .bool W, .bool R, .int .i64 0, .int .i64 (V : Int)]] w fun v w' => v = .bool true ∧ Mod [] w w' := by
  apply w28
  unfold F28
  refine New.use fun w1 hB m _ => ?_
  refine ⟨_, hB.cell0, ?_⟩
  rw [if_pos (by decide)]
  refine ⟨_, hB.cell0, ?_⟩
  rw [if_pos (by decide)]
  refine ⟨_, hB.cell (i := 4) rfl, ?_⟩
  rw [if_pos (by decide)]
  refine ⟨_, hB.cell (i := 4) rfl, ?_⟩
  rw [if_pos (by decide)]
  refine ⟨_, hB.cell (i := 5) rfl, ?_⟩
  rw [if_pos (by omega)]
  refine ⟨_, hB.cell (i := 5) rfl, ?_, m⟩
  rw [decide_eq_true (by omega)]
theorem tcValid (n : Nat) (hn : n < 256) {a : Option Addr} {l : Nat} (c : Nat) (h1 : 1 ≤ l) (h2 : l ≤ 1017) (w : World) : Does Try.prog 23 #[frm n a l c] w fun v w' => v = .bool true ∧ Mod [] w w' := by
  apply w23
  unfold F23
  refine New.use fun w1 hB m _ => ?_
  refine ⟨_, hB.cell (i := 2) rfl, ?_⟩
  rw [if_neg (by decide)]
  refine ⟨_, hB.cell (i := 2) rfl, ?_⟩
  unfold F23_j3
  rw [if_neg (by decide)]
  refine ⟨_, hB.cell (i := 3) rfl, ?_⟩
  rw [if_neg (by decide)]
  refine ⟨_, hB.cell (i := 3) rfl, ?_⟩
  unfold F23_j1
  rw [if_neg (by decide)]
  refine ⟨_, hB.cell (i := 4) rfl, ?_⟩
  rw [if_neg (by omega)]
  refine ⟨_, hB.cell (i := 4) rfl, ?_⟩
  unfold F23_j2
  rw [if_neg (by simp; omega)]
  refine ⟨_, _, _, hB.cell (i := 5) rfl, ?_⟩
  rw [if_neg (by omega)]
  refine ⟨_, _, _, hB.cell (i := 5) rfl, ?_⟩
  rw [if_neg (by omega)]
  refine ⟨_, hB.cell0, ?_⟩
  rw [if_neg (by simp)]
  exact ⟨_, hB.cell (i := 1) rfl, rfl, m⟩
theorem has_ok {a : Option Addr} {bs : List Bool} (c : Nat) (t : Nat) {w : World} (hr : Rd w a (bs.map Value.bool)) : Does Try.prog 8 #[.slice a bs.length c, .int .i64 (t : Int)] w fun v w' => v = .bool (bs.getD t false) ∧ w = w' := by
  apply w8
  unfold F8
  rw [if_pos (by omega)]
  refine iteI (fun h => ?_) (fun h => ?_)
  · have h : t < bs.length := by omega
    obtain ⟨p, rfl, hc⟩ := rd_get hr h
    refine ⟨p, rfl, by omega, by omega, _, by rw [Int.toNat_natCast]; exact hc, ?_, rfl⟩
    rw [List.getD_eq_getElem?_getD, List.getElem?_eq_getElem h]
    rfl
  · refine ⟨?_, rfl⟩
    rw [List.getD_eq_getElem?_getD, List.getElem?_eq_none (by omega)]
    rfl

section
variable {w0 w w3 : World} {gf gg : Nat} {s : Fs} {D : List Dt} {q : Gs} (h : Bun w0 gf gg w s D q)
include h
theorem release_ok (n : Nat) (hn : n ≤ D.length) (hH : n ≤ s.H) (hA : s.A ≤ 1000000) (hHl : s.H ≤ 1000000) (hS : s.S ≤ 1000000) : Does Try.prog 30 #[.pointer (some (base gf)), .int .i64 (n : Int)] w fun v w' => v = .tuple #[] ∧ Bun w0 gf gg w' (s.rel n) (D.drop n) q ∧ Bk w w' := by
  apply w30
  unfold F30
  obtain ⟨m0, z1, z2, hg, hD, ua, uc, hf, hw, hu⟩ := id h
  refine ⟨_, rfl, _, _, _, hf.cell (i := 1) rfl, by omega, by omega, Put.use hf (by simp) fun w1 hf1 m1 => ?_⟩
  have b1 : Bk w w1 := ⟨m1.size, fun x t vs h1 h2 h3 hb => hb.mod m1 (by simp; exact Blk.ne hb hf h1)⟩
  have hB1 : Bun w0 gf gg w1 s (D.drop n) q := by
    refine ⟨m0.trans m1 (fun x hx => .inr (by simp at hx; omega)), z1, z2, hg.mod m1 (by simp; exact Blk.ne hg hf (by decide)), fun d hd => ⟨(hD d (List.mem_of_mem_drop hd)).1.mod m1 ?_, (hD d (List.mem_of_mem_drop hd)).2⟩, cutA ua uc n 1, uc - n, ?_, ?_, ?_⟩
    · intro x hx hx'; simp at hx'; subst hx'; exact (hD d (List.mem_of_mem_drop hd)).1.ne hf (by decide) hx
    · rw [Int.toNat_natCast] at hf1
      rw [List.length_drop]
      exact hf1
    · have := (hw.mod m1 (fun x hx hx' => by simp at hx'; subst hx'; exact hw.ne hf (by decide) hx)).cut hn
      rw [Nat.mul_one] at this
      rw [List.length_drop, List.map_drop]
      exact this
    · rw [fp_cut]; exact hu
  refine ⟨_, hB1.cell (i := 2) (fun _ _ => rfl), hB1.put (s' := { s with A := s.A + n }) (by decide) (fun _ _ => by rw [wi64 (by omega)]; rfl) fun w2 h2 b2 => ?_⟩
  refine ⟨_, h2.cell (i := 4) (fun _ _ => rfl), h2.put (s' := { s with A := s.A + n, H := s.H - n }) (by decide) (fun _ _ => ?_) fun w4 h4 b4 => ?_⟩
  · have e : IntKind.i64.wrap ((s.H : Int) - (n : Int)) = ((s.H - n : Nat) : Int) := by rw [wi64 (by omega)]; omega
    dsimp only
    rw [e]
    rfl
  refine ⟨_, h4.cell (i := 3) (fun _ _ => rfl), h4.put (s' := s.rel n) (by decide) (fun _ _ => ?_) fun w5 h5 b5 => ?_⟩
  · have e : max 0 (IntKind.i64.wrap ((s.S : Int) - (n : Int))) = ((s.S - n : Nat) : Int) := by rw [wi64 (by omega)]; omega
    dsimp only
    rw [e]
    rfl
  exact ⟨rfl, h5, ((b1.trans b2).trans b4).trans b5⟩

theorem report_j2 {x : Nat} {vs : List Value} {R : Bool} {V : Nat} (hb : Blk w x 40 [.int .i64 1, .bool false, .bool false, .bool R, .int .i64 0, iv V]) (hst : s.st = 1) (b : Bk w3 w) {k : Value → World → Prop} (hk : ∀ w', Bun w0 gf gg w' s D q → Bk w3 w' → k (.int .i64 0) w') : F10_j2 (base gf) (base x) w k := by
  unfold F10_j2
  refine ⟨_, h.cell (i := 10) (fun _ _ => rfl), ?_⟩
  rw [if_pos (by rw [hst]; rfl)]
  unfold F10_j3
  rw [if_pos rfl]
  refine h.put (s' := s) (by decide) (fun _ _ => by unfold Fc; rw [hst]; rfl) fun w1 h1 b1 => ?_
  have hb1 := b1.2 _ _ _ (by decide) (by decide) (by decide) hb
  refine ⟨_, hb1.cell (i := 2) rfl, ?_⟩
  rw [if_neg (by simp)]
  exact hk w1 h1 (b.trans b1)

theorem report_j1 {x : Nat} {vs : List Value} {R : Bool} {V : Nat} (hb : Blk w x 40 [.int .i64 1, .bool false, .bool false, .bool R, .int .i64 0, iv V]) (hst : s.st = 1) (b : Bk w3 w) {k : Value → World → Prop} (hk : ∀ w', Bun w0 gf gg w' (if R then { s with S := 0 } else s) D q → Bk w3 w' → k (.int .i64 0) w') : F10_j1 (base x) (base gf) w k := by
  unfold F10_j1
  refine ⟨_, hb.cell (i := 3) rfl, ?_⟩
  cases R with
  | false =>
    rw [if_neg (by simp)]
    exact report_j2 h (vs := vs) hb hst b hk
  | true =>
    rw [if_pos rfl]
    refine (repeat_ok h).mono ?_
    rintro _ w1 ⟨rfl, h1, b1⟩
    exact ⟨rfl, report_j2 (s := s.rep) h1 (vs := vs) (b1.2 _ _ _ (by decide) (by decide) (by decide) hb) hst (b.trans b1) hk⟩

theorem report_ok (R : Bool) (V t : Nat) (hV : V < 256) (ht : t ≤ 1000) (hst : s.st = 1) (hA : s.A ≤ 1000000) (hHl : s.H ≤ 1000000) (hS : s.S ≤ 1000000) (hd : (V + 256 - s.A % 256) % 256 ≤ D.length) (hH : (V + 256 - s.A % 256) % 256 ≤ s.H) :
    Does Try.prog 10 #[.pointer (some (base gf)), .agg #[.int .i64 1, .bool false, .bool false, .bool R, .int .i64 0, .int .i64 (V : Int)], .int .i64 (t : Int)] w fun v w' => v = .int .i64 0 ∧ Bun w0 gf gg w' ((s.clk t).got ((V + 256 - s.A % 256) % 256) R) (D.drop ((V + 256 - s.A % 256) % 256)) q ∧ Bk w w' := by
  apply w10
  unfold F10
  refine New.use fun w1 hb m1 z1 => ?_
  have h1 := h.none m1
  refine (usable_ok h1).mono ?_
  rintro _ _ ⟨rfl, rfl⟩
  refine ⟨_, rfl, ?_⟩
  rw [if_neg (by simp)]
  refine (clock_ok h1 t ht).mono ?_
  rintro _ w2 ⟨rfl, h2, b2⟩
  have hb2 := (b2.2 _ _ _ (by decide) (by decide) (by decide) hb).drew
  refine ⟨rfl, _, _, _, _, _, _, hb2.cells, ?_⟩
  refine (clcwValid V hV false false R w2.drew).mono ?_
  rintro _ w4 ⟨rfl, m4⟩
  have h4 := h2.drew.none m4
  have hb4 := hb2.mod m4 (by simp)
  have b4 := (((Bk.of m1).trans b2).trans (Bk.of (Mod.drew w2))).trans (Bk.of m4)
  refine ⟨_, rfl, ?_⟩
  rw [if_neg (by simp)]
  refine ⟨_, hb4.cell0, _, rfl, _, h4.cell (i := 7) (fun _ _ => rfl), ?_⟩
  rw [if_neg (by simp)]
  refine ⟨_, hb4.cell (i := 1) rfl, ?_⟩
  rw [if_neg (by simp)]
  refine ⟨_, h4.drew.cell (i := 2) (fun _ _ => rfl), _, hb4.drew.cell (i := 5) rfl, ?_⟩
  have e : Int.tmod ((s.clk t).A : Int) 256 = ((s.A % 256 : Nat) : Int) := by
    rw [Int.tmod_eq_emod_of_nonneg (by omega)]
    show (s.A : Int) % 256 = _
    omega
  rw [e]
  refine (dist_ok (s.A % 256) V (by omega) hV _).mono ?_
  rintro _ _ ⟨rfl, rfl⟩
  obtain ⟨d, hdd⟩ : ∃ d, d = (V + 256 - s.A % 256) % 256 := ⟨_, rfl⟩
  rw [← hdd] at hd hH ⊢
  refine ⟨_, rfl, _, h4.drew.cell (i := 4) (fun _ _ => rfl), ?_⟩
  rw [if_neg (by show ¬ (s.H : Int) < (d : Int); omega)]
  refine (release_ok h4.drew d hd hH hA hHl hS).mono ?_
  rintro _ w5 ⟨rfl, h5, b5⟩
  have b5' := (b4.trans (Bk.of (Mod.drew w4))).trans b5
  have hb5 := b5.2 _ _ _ (by decide) (by decide) (by decide) hb4.drew
  refine ⟨rfl, iteI (fun h0 => ?_) (fun h0 => ?_)⟩
  · refine ⟨_, h5.cell (i := 12) (fun _ _ => rfl), h5.put (s' := { (s.clk t).rel d with tries := 0 }) (by decide) (fun _ _ => rfl) fun w6 h6 b6 => ?_⟩
    refine h6.put (s' := { (s.clk t).rel d with tries := 0, last := ((s.clk t).rel d).now }) (by decide) (fun _ _ => rfl) fun w7 h7 b7 => ?_
    have b67 := b6.trans b7
    have hb7 := b67.2 _ _ _ (by decide) (by decide) (by decide) hb5
    refine report_j1 h7 (vs := []) hb7 hst (b5'.trans b67) fun w' h' b' => ⟨rfl, ?_, b'⟩
    unfold Fs.got
    dsimp only
    rw [if_pos (show 0 < d by omega)]
    exact h'
  · refine report_j1 h5 (vs := []) hb5 hst b5' fun w' h' b' => ⟨rfl, ?_, b'⟩
    unfold Fs.got
    dsimp only
    rw [if_neg (show ¬ 0 < d by omega)]
    exact h'

/-! ### The receiving end -/
omit h in
def Gs.dlv (q : Gs) : Gs := ⟨q.L, false, false, (q.V + 1) % 256⟩
theorem freport_ok : Does Try.prog 11 #[.pointer (some (base gg))] w fun v w' => v = .agg #[.int .i64 1, .bool q.L, .bool q.W, .bool q.R, .int .i64 0, .int .i64 (q.V : Int)] ∧ Bun w0 gf gg w' s D q ∧ Bk w w' := by
  apply w11
  unfold F11
  refine New.use fun w1 hb m1 z1 => ?_
  have h1 := h.none m1
  refine (none_ok h1).mono ?_
  rintro _ _ ⟨rfl, rfl⟩
  refine ⟨_, rfl, ?_⟩
  rw [if_neg (by simp)]
  obtain ⟨m0, z1, z2, hg, hD, ua, uc, hf, hw, hu⟩ := id h1
  refine ⟨_, rfl, _, _, _, _, _, _, hg.cellsFrom (i := 2) (n := 6) (by simp), PutAll.use hb rfl fun w2 hb2 m2 => ?_⟩
  exact ⟨_, _, _, _, _, _, hb2.cells, rfl, h1.loc hb (by decide) h.size m2, (Bk.of m1).loc (Nat.le_refl _) m2⟩

theorem sequence_ok (n : Nat) (hn : n < 256) (hV : q.V < 256) (hL : q.L = false) : Does Try.prog 26 #[.pointer (some (base gg)), .int .i64 (n : Int), .bool true] w fun v w' => Bk w w' ∧
    (((n + 256 - q.V) % 256 = 0 → v = .int .i64 1 ∧ Bun w0 gf gg w' s D q.dlv) ∧ (0 < (n + 256 - q.V) % 256 ∧ (n + 256 - q.V) % 256 < 8 → v = .int .i64 3 ∧ Bun w0 gf gg w' s D { q with R := true }) ∧ (248 ≤ (n + 256 - q.V) % 256 → v = .int .i64 2 ∧ Bun w0 gf gg w' s D q)) := by
  apply w26
  unfold F26
  have a1 : ∀ i, ((base gg).add 2).add i = (base gg).add (2 + i) := fun i => add_add _ _ _
  refine ⟨_, rfl, ?_⟩
  rw [a1 1, a1 5, a1 2, a1 3]
  refine ⟨_, h.gcell (i := 3) rfl, ?_⟩
  rw [if_neg (by simp [hL])]
  refine ⟨_, h.gcell (i := 7) rfl, ?_⟩
  refine (dist_ok q.V n hV hn _).mono ?_
  rintro _ _ ⟨rfl, rfl⟩
  obtain ⟨d, hdd⟩ : ∃ d, d = (n + 256 - q.V) % 256 := ⟨_, rfl⟩
  rw [← hdd]
  refine ⟨_, rfl, iteI (fun h0 => ?_) (fun h0 => ?_)⟩
  · rw [if_pos rfl]
    refine (add_ok n hn 1 _).mono ?_
    rintro _ _ ⟨rfl, rfl⟩
    have e : ((n : Int) + 1) % 256 = (((q.V + 1) % 256 : Nat) : Int) := by omega
    rw [e]
    refine ⟨_, rfl, h.gput (q' := { q with V := (q.V + 1) % 256 }) (by decide) rfl fun w1 h1 b1 => h1.gput (q' := { q with V := (q.V + 1) % 256, W := false }) (by decide) rfl fun w2 h2 b2 => h2.gput (q' := q.dlv) (by decide) rfl fun w4 h4 b4 => ?_⟩
    exact ⟨(b1.trans b2).trans b4, fun _ => ⟨rfl, h4⟩, fun hh => by omega, fun hh => by omega⟩
  · refine ⟨_, h.gcell (i := 1) rfl, iteI (fun h8 => ?_) (fun h8 => ?_)⟩
    · unfold F26_j2
      rw [a1 3]
      exact h.gput (q' := { q with R := true }) (by decide) rfl fun w1 h1 b1 => ⟨b1, fun hh => by omega, fun _ => ⟨rfl, h1⟩, fun hh => by omega⟩
    · refine ⟨_, h.gcell (i := 1) rfl, ?_⟩
      have e : IntKind.i64.wrap (256 - 8) = 248 := by decide
      rw [e]
      refine iteI (fun h9 => ?_) (fun h9 => ?_)
      · exact ⟨Bk.refl _, fun hh => by omega, fun hh => by omega, fun _ => ⟨rfl, h⟩⟩
      · unfold F26_j1
        rw [a1 1]
        exact h.gput (q' := { q with L := true }) (by decide) rfl fun w1 h1 b1 => ⟨b1, fun hh => by omega, fun hh => by omega, fun hh => by omega⟩

theorem take9_ok (n : Nat) (hn : n < 256) (hV : q.V < 256) (hL : q.L = false) {a : Option Addr} {l : List UInt8} (c : Nat) (ho : Own w 5 1 a l.length c (l.map bv)) (hl1 : 1 ≤ l.length) (hl2 : l.length ≤ 1017) (hgap : (n + 256 - q.V) % 256 < 8 ∨ 248 ≤ (n + 256 - q.V) % 256) :
    Does Try.prog 9 #[.pointer (some (base gg)), frm n a l.length c, .bool true] w fun v w' => Bk w w' ∧
    (((n + 256 - q.V) % 256 = 0 → (∃ a' c', v = .tuple #[.slice a' l.length c', .int .i64 1] ∧ Own w' 5 1 a' l.length c' (l.map bv)) ∧ Bun w0 gf gg w' s D q.dlv) ∧ (0 < (n + 256 - q.V) % 256 ∧ (n + 256 - q.V) % 256 < 8 → v = .tuple #[.slice none 0 0, .int .i64 3] ∧ Bun w0 gf gg w' s D { q with R := true }) ∧ (248 ≤ (n + 256 - q.V) % 256 → v = .tuple #[.slice none 0 0, .int .i64 2] ∧ Bun w0 gf gg w' s D q)) := by
  apply w9
  unfold F9
  refine New.use fun w1 hb m1 z1 => ?_
  have h1 := (h.none m1).drew
  have hb := hb.drew
  refine (none_ok h1).mono ?_
  rintro _ _ ⟨rfl, rfl⟩
  refine ⟨_, rfl, ?_⟩
  rw [if_neg (by simp)]
  refine ⟨_, _, _, _, _, _, _, _, hb.cells, ?_⟩
  refine (tcValid n hn c hl1 hl2 _).mono ?_
  rintro _ w2 ⟨rfl, m2⟩
  have h2 := h1.none m2
  have hb2 := hb.mod m2 (by simp)
  have b2 := ((Bk.of m1).trans (Bk.of (Mod.drew w1))).trans (Bk.of m2)
  refine ⟨_, rfl, ?_⟩
  rw [if_neg (by simp)]
  refine ⟨_, hb2.cell (i := 2) rfl, _, rfl, _, h2.gcell0, ?_⟩
  rw [if_neg (by simp)]
  refine ⟨_, hb2.cell (i := 3) rfl, _, h2.gcell (i := 2) rfl, ?_⟩
  unfold F9_j1
  rw [if_neg (by simp)]
  refine ⟨_, hb2.cell (i := 1) rfl, ?_⟩
  rw [if_neg (by simp)]
  refine ⟨_, hb2.cell0, ?_⟩
  rw [if_neg (by simp)]
  refine ⟨_, hb2.cell (i := 4) rfl, ?_⟩
  refine (sequence_ok h2 n hn hV hL).mono ?_
  rintro v w4 ⟨b4, c1, c2, c3⟩
  have hb4 := b4.2 _ _ _ (by decide) (by decide) (by decide) hb2
  have bb := b2.trans b4
  have o4 := bb.own ho
  obtain ⟨d, hdd⟩ : ∃ d, d = (n + 256 - q.V) % 256 := ⟨_, rfl⟩
  rw [← hdd] at c1 c2 c3 hgap ⊢
  by_cases d0 : d = 0
  · obtain ⟨rfl, h4⟩ := c1 d0
    refine ⟨_, rfl, ?_⟩
    unfold F9_j2
    rw [if_neg (by simp)]
    refine ⟨_, _, _, hb4.cell (i := 5) rfl, ?_⟩
    refine (clone27 c o4.rd (by omega)).mono ?_
    rintro _ w5 ⟨a', c', rfl, o5, m5⟩
    exact ⟨_, _, _, rfl, bb.trans (Bk.of m5), fun _ => ⟨⟨a', c', rfl, o5⟩, h4.none m5⟩, fun hh => by omega, fun hh => by omega⟩
  · by_cases d8 : d < 8
    · obtain ⟨rfl, h4⟩ := c2 ⟨by omega, d8⟩
      refine ⟨_, rfl, ?_⟩
      unfold F9_j2
      rw [if_pos (by simp)]
      exact ⟨bb, fun hh => by omega, fun _ => ⟨rfl, h4⟩, fun hh => by omega⟩
    · obtain ⟨rfl, h4⟩ := c3 (by omega)
      refine ⟨_, rfl, ?_⟩
      unfold F9_j2
      rw [if_pos (by simp)]
      exact ⟨bb, fun hh => by omega, fun hh => by omega, fun _ => ⟨rfl, h4⟩⟩

theorem send_ok {a : Option Addr} {l : List UInt8} (c : Nat) (hr : Rd w a (l.map bv)) (hl1 : 1 ≤ l.length) (hl2 : l.length ≤ 1017) (hD : D.length < 256) :
    Does Try.prog 6 #[.pointer (some (base gf)), .slice a l.length c] w fun v w' => v = .int .i64 0 ∧ Mod [] w0 w' ∧ Bk w w' ∧ ∃ a' c', Bun w0 gf gg w' s (D ++ [⟨a', l, c'⟩]) q := by
  apply w6
  unfold F6
  refine (usable_ok h).mono ?_
  rintro _ _ ⟨rfl, rfl⟩
  refine ⟨_, rfl, ?_⟩
  rw [if_neg (by simp), if_neg (by omega)]
  unfold F6_j1
  rw [if_neg (by simp; omega)]
  obtain ⟨m0, z1, z2, hg, hDk, ua, uc, hf, hw, hu⟩ := id h
  refine ⟨_, rfl, _, _, _, hf.cell (i := 1) rfl, ?_⟩
  rw [if_neg (by omega)]
  refine ⟨_, _, _, hf.drew.cell (i := 1) rfl, ?_⟩
  refine (clone17 c hr.drew (by omega)).mono ?_
  rintro _ w1 ⟨a', c', rfl, o1, m1'⟩
  have m1 : Mod [] w w1 := (Mod.drew w).none m1'
  refine ⟨_, _, _, rfl, (hf.mod m1 (by simp)).cell (i := 1) rfl, New.use fun w2 hb2 m2 z2' => ?_⟩
  have m12 := m1.none m2
  refine ⟨(hf.mod m12 (by simp)).cell (i := 1) rfl, ?_⟩
  obtain ⟨b', bc, w4, run, hw4, m4, f4⟩ := win_append (m := 1) (d := 1) Try.underlying22 elem28 22 (hw.mod m12 (by simp)) (Rd.blk hb2) rfl (by simp [one]) (by omega) (by omega)
  have h2 := h.none m12
  have hf4 := (hf.mod m12 (by simp)).mod m4 (fun hx => (hw.mod m12 (by simp)).ne (hf.mod m12 (by simp)) (by decide) hx)
  have hg4 := (hg.mod m12 (by simp)).mod m4 (fun hx => (hw.mod m12 (by simp)).ne (hg.mod m12 (by simp)) (by decide) hx)
  have no5 : ∀ {a : Option Addr} {n c : Nat} {vs : List Value}, Own w2 5 1 a n c vs → Own w4 5 1 a n c vs := by
    intro a n c vs o
    refine ⟨o.1, ?_⟩
    rcases o.2 with h' | ⟨g, r, rfl, hb, h'⟩
    · exact .inl h'
    · exact .inr ⟨g, r, rfl, hb.mod m4 (fun hx => (hw.mod m12 (by simp)).ne hb (by decide) hx), h'⟩
  refine ⟨_, _, _, w4, run, Put.use hf4 (by simp) fun w5 hf5 m5 => ?_⟩
  have M4 : Mod [] w0 w4 := (m0.none m12).trans m4 (fun x hx => .inr (hu x hx))
  have M5 : Mod [] w0 w5 := M4.trans m5 (fun x hx => .inr (by simp at hx; omega))
  have no5' : ∀ {a : Option Addr} {n c : Nat} {vs : List Value}, Own w4 5 1 a n c vs → Own w5 5 1 a n c vs := fun o => o.mod m5 (fun x hx hx' => by simp at hx'; subst hx'; exact o.ne hf4 (by decide) hx)
  refine ⟨rfl, M5, ⟨by have := m12.size; have := m4.size; have := m5.size; omega, fun x t vs h1 h2 h3 hb => ?_⟩, a', c', M5, z1, z2, hg4.mod m5 (by simp; exact Blk.ne hg4 hf4 (by decide)), fun d hd => ?_, b', bc, ?_, ?_, fun x hx => ?_⟩
  · have hb4 := (hb.mod m12 (by simp)).mod m4 (fun hx => (hw.mod m12 (by simp)).ne (hb.mod m12 (by simp)) (fun e => h2 e.symm) hx)
    exact hb4.mod m5 (by simp; exact Blk.ne hb4 hf4 h1)
  · rcases List.mem_append.1 hd with hd | hd
    · exact ⟨no5' (no5 ((hDk d hd).1.mod m12 (by simp))), (hDk d hd).2⟩
    · have e := List.mem_singleton.1 hd
      subst e
      exact ⟨no5' (no5 (o1.mod m2 (by simp))), hl1, hl2⟩
  · rw [List.length_append]
    exact hf5
  · rw [List.length_append, List.map_append]
    exact hw4.mod m5 (fun x hx hx' => by simp at hx'; subst hx'; exact hw4.ne hf4 (by decide) hx)
  · rcases f4 x hx with h' | h'
    · exact hu x h'
    · have := (m0.none m12).size
      omega
end

theorem min_ok (n lo hi : Int) (w : World) : Does Try.prog 15 #[.int .i64 n, .int .i64 lo, .int .i64 hi] w fun v w' => v = .int .i64 (min (max n lo) hi) ∧ w = w' := by
  apply w15
  unfold F15
  exact ⟨rfl, rfl⟩
theorem fnew_ok (w : World) : Does Try.prog 4 #[.int .i64 5, .int .i64 1, .int .i64 8, .int .i64 3, .int .i64 255] w fun v w' => v = .pointer (some (base w.heap.size)) ∧ Mod [] w w' ∧ w'.heap.size = w.heap.size + 1 ∧ Blk w' w.heap.size 49 (Fc ⟨0, 0, 0, 1, 0, 0, 0⟩ none 0 0) := by
  apply w4
  unfold F4
  refine (min_ok 8 1 127 w).mono ?_
  rintro _ _ ⟨rfl, rfl⟩
  refine ⟨_, rfl, (min_ok 5 0 1023 w).mono ?_⟩
  rintro _ _ ⟨rfl, rfl⟩
  refine ⟨_, rfl, (min_ok 1 0 7 w).mono ?_⟩
  rintro _ _ ⟨rfl, rfl⟩
  refine ⟨_, rfl, (min_ok 3 1 1099511627776 w).mono ?_⟩
  rintro _ _ ⟨rfl, rfl⟩
  refine ⟨_, rfl, (min_ok 255 0 255 w).mono ?_⟩
  rintro _ _ ⟨rfl, rfl⟩
  refine ⟨_, rfl, New.use fun w1 h1 m1 z1 => ⟨rfl, m1, z1, ?_⟩⟩
  exact h1
theorem gnew_ok (w : World) : Does Try.prog 5 #[.int .i64 5, .int .i64 1, .int .i64 8] w fun v w' => v = .pointer (some (base w.heap.size)) ∧ Mod [] w w' ∧ w'.heap.size = w.heap.size + 1 ∧ Blk w' w.heap.size 51 (Gc ⟨false, false, false, 0⟩) := by
  apply w5
  unfold F5
  rw [if_neg (by decide), if_neg (by decide), if_neg (by decide), if_neg (by decide)]
  exact New.use fun w1 h1 m1 z1 => ⟨rfl, m1, z1, h1⟩
end Go.Proofs.Ythcebibacphblaa
