/-
  The laws of chapter 22: the example; MuxMakes, MuxPrefers.
-/
import Derived.Test.YtjjhghcaecodpaaRefNext
namespace Go.Proofs.Ytjjhghcaecodpaa
open Go Go.Sh Go.Proofs
set_option linter.unusedVariables false
set_option linter.unusedSimpArgs false
set_option linter.unusedSectionVars false

theorem next_nil {w : World} {ra : Option Addr} {n c : Nat} : Does Try.prog 10 #[.pointer none, .slice ra n c] w fun v w' => v = .tuple #[.int .i64 0, .bool false] ∧ Mod [] w w' := by
  apply w10
  unfold F10
  refine New.use fun w1 h1 m1 z1 => ?_
  refine ⟨_, h1.cell0, ?_⟩
  rw [if_pos (by simp)]
  exact ⟨rfl, m1⟩
theorem sent_nil {w : World} (id : Int) : Does Try.prog 11 #[.pointer none, .int .i64 id] w fun v w' => v = .int .i64 0 ∧ Mod [] w w' := by
  apply w11
  unfold F11
  have q : Does Try.prog 16 #[.pointer none, .int .i64 id] w fun v w' => v = .int .i64 (-1) ∧ Mod [] w w' := by
    apply w16
    unfold F16
    refine New.use fun w1 h1 m1 z1 => ?_
    rw [if_pos (by simp)]
    exact ⟨rfl, m1⟩
  refine q.mono ?_
  rintro _ w1 ⟨rfl, m1⟩
  refine ⟨_, rfl, ?_⟩
  rw [if_pos (by decide)]
  exact ⟨rfl, m1⟩
theorem clone_nil {w : World} : Does Try.prog 13 #[.pointer none] w fun v w' => v = .pointer none ∧ w = w' := by
  apply w13
  unfold F13
  rw [if_pos (by simp)]
  exact ⟨rfl, rfl⟩
theorem rsent_ok {w : World} {r x y : Nat} {l : List Ch} (h : Rm w r x y l) (hl : l.length ≤ 1000) {a : Option Addr} {c : Nat} (hb : Blk w r 30 [.slice a l.length c, .slice (some (base x)) l.length l.length, .slice (some (base y)) l.length l.length]) (id : Int) :
    Does Try.prog 15 #[.agg #[.slice a l.length c, .slice (some (base x)) l.length l.length, .slice (some (base y)) l.length l.length], .int .i64 id] w fun v w' => v = .int .i64 (sentOf l id) ∧ Mod [] w w' := by
  have ho : Own w 35 3 a l.length c (l.flatMap chc) := by
    obtain ⟨⟨a', c', hb', ho⟩, _⟩ := h
    unfold Blk at hb hb'
    rw [hb] at hb'
    simp at hb'
    obtain ⟨rfl, rfl⟩ := hb'
    exact ho
  apply w15
  unfold F15
  refine New.use fun w1 h1 m1 z1 => ?_
  have h' := h.mod0 m1
  have ho1 := ho.mod m1 (by simp)
  refine LoopP.of (fun (t : Int) w' => w' = w1 ∧ ∃ i : Nat, i ≤ l.length ∧ t = (i : Int) ∧ ∀ j (hj : j < i) (h : j < l.length), l[j].id ≠ id) (fun t _ => l.length - t.toNat) ⟨rfl, 0, by omega, rfl, by omega⟩ ?_
  rintro _ w2 ⟨e2, i, hi, rfl, hbf⟩
  rw [e2]
  clear e2 w2
  unfold F15_b1
  refine ⟨_, _, _, h1.cell0, iteI (fun hlt => ?_) (fun hlt => ?_)⟩
  · have hlt : i < l.length := by omega
    obtain ⟨p, hp, hc⟩ := ho1.rd.flat (chc_len _) (by decide) hlt
    refine ⟨_, _, _, h1.cell0, p, hp, by omega, by omega, _, rc0 hc, iteI (fun hh => ?_) (fun hh => ?_)⟩
    · have e : at_ l id = i := fidx_at _ l i hlt (decide_eq_true hh) (fun j hj => decide_eq_false (hbf j hj (by omega)))
      have hsn : w1.cell? ((base y).add i) = some (.int .i64 l[i].sn) := by
        refine h'.sn.cell ?_
        rw [List.getElem?_map, List.getElem?_eq_getElem hlt]
        rfl
      refine ⟨_, _, _, h1.cell (i := 2) rfl, _, rfl, by omega, by omega, _, hsn, ?_, m1⟩
      unfold sentOf
      rw [e, List.getElem?_eq_getElem hlt]
    · rw [wi64 (by omega)]
      refine ⟨_, by omega, ⟨rfl, i + 1, by omega, rfl, fun j hj h => ?_⟩, rfl⟩
      by_cases hji : j = i
      · subst hji; exact hh
      · exact hbf j (by omega) h
  · have : i = l.length := by omega
    subst this
    have e : at_ l id = l.length := fidx_none _ l (fun j hj => decide_eq_false (hbf j hj hj))
    refine ⟨?_, m1⟩
    unfold sentOf
    rw [e, List.getElem?_eq_none (by omega)]

/-! ### The example -/
def l4 : List Ch := [⟨0, 3, 5, 0, 0⟩, ⟨1, 3, 1, 0, 0⟩, ⟨2, 3, 1, 0, 0⟩, ⟨4, 1, 1, 0, 0⟩]
def its : Nat → List Ch
  | 0 => l4
  | n + 1 => nxtL (its n) [2, 1, 0]
def wants : List Int := [0, 0, 1, 0, 2, 0, 0]
theorem its_ok : ∀ i (h : i < 7), nxtI (its i) [2, 1, 0] = wants[i]'h ∧ nxtB (its i) [2, 1, 0] = true := by decide +kernel
theorem nxtL_len (l : List Ch) (R : List Int) : (nxtL l R).length = l.length := by
  unfold nxtL
  split
  · rfl
  · rw [List.length_modify, bump_len]
theorem its_len : ∀ i, (its i).length = 4
  | 0 => rfl
  | i + 1 => by unfold its; rw [nxtL_len, its_len i]
theorem alive_ok (w : World) : Does Try.prog 7 #[] w fun v w' => v = .bool true ∧ Mod [] w w' := by
  apply w7
  unfold F7
  refine New.use fun w1 h1 m1 z1 => ?_
  have hr1 : Rd w1 (some (base w.heap.size)) (l4.flatMap chc) := Rd.blk h1
  refine (new_ok (L := l4) 4 hr1 (by decide)).mono ?_
  rintro _ w2 ⟨m2, ⟨h0, _⟩ | ⟨h0, g, S, rfl, X, hS⟩⟩
  · exact absurd (show newE [] l4 = 0 by decide +kernel) h0
  refine ⟨_, _, rfl, New.use fun w3 h3 m3 z3 => ?_⟩
  have M3 := (m1.none m2).none m3
  have hXlt := X.lt
  have hS3 : w2.heap.size ∉ S := fun hh => by have := hXlt _ hh; omega
  have hSw : ∀ q ∈ S, w.heap.size ≤ q := fun q hq => by have := hS q hq; omega
  have X0 : Mx w3 g S (its 0) := X.mod m3 (by simp)
  refine LoopP.of (fun (t : Int) w' => ∃ i : Nat, i ≤ 7 ∧ t = (i : Int) ∧ Mx w' g S (its i) ∧ Blk w' w2.heap.size 3 (wants.map iv) ∧ Mod [] w w') (fun t _ => (7 - t).toNat) ⟨0, by omega, rfl, X0, h3, M3⟩ ?_
  rintro _ w4 ⟨i, hi, rfl, X4, h4, M4⟩
  unfold F7_b1
  refine iteI (fun hlt => ?_) (fun hlt => ?_)
  · have hlt : i < 7 := by omega
    refine New.use fun w5 h5 m5 z5 => ?_
    refine (next_ok (X4.mod m5 (by simp)) (R := [2, 1, 0]) 3 (Rd.blk h5) (by decide) (by rw [its_len]; decide)).mono ?_
    rintro _ w6 ⟨rfl, X6, m6⟩
    obtain ⟨e1, e2⟩ := its_ok i hlt
    rw [e1, e2]
    have h6 := (h4.mod m5 (by simp)).mod m6 hS3
    have hcl : w6.cell? ((base w2.heap.size).add i) = some (.int .i64 (wants[i]'hlt)) := by
      refine h6.cell ?_
      rw [List.getElem?_map, List.getElem?_eq_getElem hlt]
      rfl
    refine ⟨_, _, rfl, by omega, by omega, _, by rw [Int.toNat_natCast]; exact hcl, ?_⟩
    rw [if_neg (by simp), if_neg (by simp), wi64 (by omega)]
    exact ⟨_, by omega, ⟨i + 1, by omega, rfl, X6, h6, (M4.none m5).trans m6 (fun q hq => .inr (hSw q hq))⟩, rfl⟩
  have hi : i = 7 := by omega
  subst hi
  refine New.use fun w5 h5 m5 z5 => ?_
  refine (next_ok (X4.mod m5 (by simp)) (R := [0, 4]) 2 (Rd.blk h5) (by decide) (by rw [its_len]; decide)).mono ?_
  rintro _ w6 ⟨rfl, X6, m6⟩
  refine ⟨_, _, rfl, New.use fun w7 h7 m7 z7 => ?_⟩
  refine (next_ok (X6.mod m7 (by simp)) (R := [7]) 1 (Rd.blk h7) (by decide) (by rw [nxtL_len, its_len]; decide)).mono ?_
  rintro _ w8 ⟨rfl, X8, m8⟩
  refine ⟨_, _, rfl, ?_⟩
  have c1 : nxtI (its 7) [0, 4] = 4 := by decide +kernel
  have c2 : nxtB (its 7) [0, 4] = true := by decide +kernel
  have c3 : nxtB (nxtL (its 7) [0, 4]) [7] = false := by decide +kernel
  have c4 : sentOf (nxtL (nxtL (its 7) [0, 4]) [7]) 0 = 5 := by decide +kernel
  have c5 : sentOf (nxtL (nxtL (its 7) [0, 4]) [7]) 4 = 1 := by decide +kernel
  rw [c1, c2, c3, if_pos rfl, if_pos rfl, if_pos rfl, if_pos (by simp)]
  have M8 : Mod [] w w8 := ((((M4.none m5).trans m6 (fun q hq => .inr (hSw q hq)))).none m7).trans m8 (fun q hq => .inr (hSw q hq))
  refine (sent_ok X8 (by rw [nxtL_len, nxtL_len, its_len]; decide) 0).mono ?_
  rintro _ w9 ⟨rfl, m9⟩
  refine ⟨_, rfl, ?_⟩
  rw [c4, if_pos rfl]
  refine (sent_ok (X8.mod m9 (by simp)) (by rw [nxtL_len, nxtL_len, its_len]; decide) 4).mono ?_
  rintro _ w10 ⟨rfl, m10⟩
  refine ⟨_, rfl, ?_⟩
  rw [c5]
  exact ⟨by simp, (M8.none m9).none m10⟩
theorem alive {w w' : World} (M : Mod [] w w') : Does Try.prog 7 #[] w' (fun v w'' => ∃ (x : Bool), v = .bool x ∧ (Value.bool x = .bool true ∧ Mod [] w w'')) := (alive_ok w').mono fun v w'' h => ⟨_, h.1, rfl, M.none h.2⟩

/-! ### MuxMakes -/
theorem muxMakes_ok {w : World} {a : Option Addr} {L : List Ch} (c : Nat) (hr : Rd w a (L.flatMap chc)) : Does Try.prog 3 #[.slice a L.length c] w fun v w' => v = .bool true ∧ Mod [] w w' := by
  apply w3
  unfold F3
  refine iteI (fun hb => alive (Mod.refl _)) (fun hb => ?_)
  have hl : L.length ≤ 1000 := by omega
  refine (new_ok c hr hl).mono ?_
  rintro _ w1 ⟨m1, hv⟩
  have key : ∀ r9 : Option Addr, (r9.isNone = decide (newE [] L ≠ 0)) → Does Try.prog 9 #[.slice a L.length c] w1 (fun v w11 => ∃ (r_a12 : Option Addr) (r_n13 r_c14 : Nat) (r_a15 : Option Addr) (r_n16 r_c17 : Nat) (r_a18 : Option Addr) (r_n19 r_c20 : Nat) (r21 : Int), v = .tuple #[.agg #[.slice r_a12 r_n13 r_c14, .slice r_a15 r_n16 r_c17, .slice r_a18 r_n19 r_c20], .int .i64 r21] ∧ New w11 30 [.slice none 0 0, .slice none 0 0, .slice none 0 0] (fun p22 w23 => PutAll w23 p22 [.slice r_a12 r_n13 r_c14, .slice r_a15 r_n16 r_c17, .slice r_a18 r_n19 r_c20] (fun w24 => if newE [] L = r21 then
    if ((r9.isNone) == (decide (r21 ≠ 0))) = true then
      Does Try.prog 7 #[] w24 (fun v w28 => ∃ (x29 : Bool), v = .bool x29 ∧ ((fun v w' => v = Value.bool true ∧ Sh.Mod [] w w') (.bool x29) w28))
    else
      ((fun v w' => v = Value.bool true ∧ Sh.Mod [] w w') (.bool false) w24)
  else
    ((fun v w' => v = Value.bool true ∧ Sh.Mod [] w w') (.bool false) w24)))) := by
    intro r9 h9
    refine (rnew_ok c (hr.mod m1 (by simp)) hl).mono ?_
    rintro _ w2 ⟨m2, hv⟩
    have fin : ∀ w3, Mod [] w2 w3 → (if newE [] L = newE [] L then if ((r9.isNone) == (decide (newE [] L ≠ 0))) = true then Does Try.prog 7 #[] w3 (fun v w28 => ∃ (x29 : Bool), v = .bool x29 ∧ ((fun v w' => v = Value.bool true ∧ Sh.Mod [] w w') (.bool x29) w28)) else ((fun v w' => v = Value.bool true ∧ Sh.Mod [] w w') (.bool false) w3) else ((fun v w' => v = Value.bool true ∧ Sh.Mod [] w w') (.bool false) w3)) := by
      intro w3 m3
      rw [if_pos rfl, if_pos (by rw [h9]; simp)]
      exact alive ((m1.none m2).none m3)
    rcases hv with ⟨h0, rfl⟩ | ⟨h0, b, d, x, y, rfl, _⟩
    · exact ⟨_, _, _, _, _, _, _, _, _, _, rfl, New.put rfl fun w3 h3 m3 z3 => fin w3 m3⟩
    · rw [h0] at fin
      refine ⟨_, _, _, _, _, _, _, _, _, _, rfl, New.put rfl fun w3 h3 m3 z3 => ?_⟩
      rw [h0]
      exact fin w3 m3
  rcases hv with ⟨h0, rfl⟩ | ⟨h0, g, S, rfl, X, hS⟩
  · exact ⟨_, _, rfl, key none (by rw [decide_eq_true h0]; rfl)⟩
  · have k := key (some (base g)) (by rw [decide_eq_false (by simp [h0])]; rfl)
    rw [h0] at k
    exact ⟨_, _, rfl, k⟩

/-! ### MuxPrefers -/
theorem is_ok {w : World} {a : Option Addr} {R : List Int} (c : Nat) (hr : Rd w a (R.map iv)) (hn : R.length ≤ 9223372036854775807) (x : Int) : Does Try.prog 12 #[.slice a R.length c, .int .i64 x] w fun v w' => v = .bool (decide (x ∈ R)) ∧ w = w' := by
  apply w12
  unfold F12
  refine LoopP.of (fun (t : Int) w' => w' = w ∧ ∃ i : Nat, i ≤ R.length ∧ t = (i : Int) ∧ ∀ j (hj : j < i) (h : j < R.length), R[j] ≠ x) (fun t _ => R.length - t.toNat) ⟨rfl, 0, by omega, rfl, by omega⟩ ?_
  rintro _ _ ⟨rfl, i, hi, rfl, hb⟩
  unfold F12_b1
  refine iteI (fun hlt => ?_) (fun hlt => ?_)
  · have hlt : i < R.length := by omega
    obtain ⟨p, rfl, hc⟩ := rd_get hr hlt
    refine ⟨p, rfl, by omega, by omega, _, hc, iteI (fun hh => ⟨by rw [decide_eq_true (by rw [← hh]; exact List.getElem_mem hlt)], rfl⟩) (fun hh => ?_)⟩
    rw [wi64 (by omega)]
    refine ⟨_, by omega, ⟨rfl, i + 1, by omega, rfl, fun j hj h => ?_⟩, rfl⟩
    by_cases hji : j = i
    · subst hji; exact hh
    · exact hb j (by omega) h
  · have hno : x ∉ R := by
      intro h
      obtain ⟨j, hj, h2⟩ := List.getElem_of_mem h
      exact absurd h2 (hb j (by omega) hj)
    exact ⟨by rw [decide_eq_false hno], rfl⟩
theorem newE_all : ∀ (L pre : List Ch), newE pre L = 0 → (∀ c ∈ L, okC c) ∧ (L.Pairwise fun a b => a.id ≠ b.id) ∧ ∀ a ∈ pre, ∀ b ∈ L, a.id ≠ b.id
  | [], _, _ => ⟨by simp, List.Pairwise.nil, by simp⟩
  | c :: r, pre, h => by
    unfold newE at h
    split at h
    · cases h
    · rename_i hok
      split at h
      · cases h
      · rename_i hno
        obtain ⟨h1, h2, h3⟩ := newE_all r (pre ++ [c]) h
        have hpc : ∀ a ∈ pre, a.id ≠ c.id := by
          intro a ha hh
          apply hno
          unfold hasId
          rw [List.any_eq_true]
          exact ⟨a, ha, decide_eq_true hh⟩
        refine ⟨?_, ?_, ?_⟩
        · intro x hx
          rcases List.mem_cons.1 hx with rfl | hx
          · exact Classical.byContradiction hok
          · exact h1 x hx
        · rw [List.pairwise_cons]
          exact ⟨fun b hb => h3 c (by simp) b hb, h2⟩
        · intro a ha b hb
          rcases List.mem_cons.1 hb with rfl | hb
          · exact hpc a ha
          · exact h3 a (by simp [ha]) b hb
theorem sel_mem {l : List Ch} {R : List Int} (h : nxtB l R = true) : sel l R ∈ aix l R ∧ nxtI l R = (gc l (sel l R)).id := by
  have hne : rix l R ≠ [] := by unfold nxtB at h; simpa using h
  refine ⟨minF_mem _ _ (aix_ne hne), ?_⟩
  unfold nxtI
  rw [if_neg hne]
theorem rix_iff {l : List Ch} {R : List Int} {i : Nat} : i ∈ rix l R ↔ i < l.length ∧ (gc l i).id ∈ R := by
  unfold rix upto
  rw [List.mem_filter, List.mem_range]
  unfold rdy
  rw [decide_eq_true_iff]
theorem muxPrefers_ok {w : World} {a b : Option Addr} {L : List Ch} {R : List Int} (c d : Nat) (hr : Rd w a (L.flatMap chc)) (hR : Rd w b (R.map iv)) (hn : R.length ≤ 9223372036854775807) : Does Try.prog 5 #[.slice a L.length c, .slice b R.length d] w fun v w' => v = .bool true ∧ Mod [] w w' := by
  apply w5
  unfold F5
  have fin : ∀ w' : World, Mod [] w w' → Does Try.prog 7 #[] w' (fun v w14 => ∃ (t15 : Bool), v = .bool t15 ∧ ((fun v w' => v = Value.bool true ∧ Sh.Mod [] w w') (.bool t15) w14)) := fun w' m => alive m
  have j1 : ∀ t : Bool, (t = false → L.length ≤ 30) → F5_j1 a L.length c b R.length d t w (fun v w' => v = .bool true ∧ Mod [] w w') := by
    intro t ht
    unfold F5_j1
    refine iteI (fun h => fin w (Mod.refl _)) (fun h => ?_)
    have hl := ht (by simpa using h)
    refine (new_ok c hr (by omega)).mono ?_
    rintro _ w1 ⟨m1, ⟨h0, rfl⟩ | ⟨h0, g, S, rfl, X, hS⟩⟩
    · refine ⟨_, _, rfl, ?_⟩
      rw [if_pos h0]
      exact fin w1 m1
    refine ⟨_, _, rfl, ?_⟩
    rw [if_neg (by simp)]
    refine (next_ok X d (hR.mod m1 (by simp)) hn (by rw [List.length_map]; omega)).mono ?_
    rintro _ w2 ⟨rfl, X2, m2⟩
    refine ⟨_, _, rfl, ?_⟩
    have M2 : Mod [] w w2 := m1.trans m2 (fun q hq => .inr (hS q hq))
    obtain ⟨hok, hpw, _⟩ := newE_all L [] h0
    have hgc : ∀ {i : Nat} (hi : i < L.length), gc (L.map new0) i = new0 L[i] := fun hi => by rw [gc_at (by rw [List.length_map]; exact hi), List.getElem_map]
    refine LoopP.of (fun (x : Int) w' => ∃ (i : Nat), i ≤ L.length ∧ x = (i : Int) ∧ Mod [] w w') (fun x _ => L.length - x.toNat) ⟨0, by omega, rfl, M2⟩ ?_
    rintro _ w3 ⟨i, hi, rfl, M3⟩
    cases hB : nxtB (L.map new0) R with
    | false =>
      unfold F5_b2
      refine iteI (fun hlt => ?_) (fun hlt => ?_)
      · rw [if_neg (by simp), if_pos (by simp)]
        exact fin w3 M3
      · rw [if_pos (by simp)]
        exact fin w3 M3
    | true =>
      obtain ⟨hsel, hid⟩ := sel_mem hB
      have hsr := aix_mem hsel
      have hsl : sel (L.map new0) R < L.length := by have := (rix_iff.1 hsr).1; rwa [List.length_map] at this
      have hidR : nxtI (L.map new0) R ∈ R := by rw [hid]; exact (rix_iff.1 hsr).2
      unfold F5_b2
      refine iteI (fun hlt => ?_) (fun hlt => ?_)
      · have hlt : i < L.length := by omega
        rw [if_pos rfl]
        have e1 : IntKind.i64.wrap ((i : Int) + 1) = ((i + 1 : Nat) : Int) := by rw [wi64 (by omega)]; omega
        refine LoopP.of (fun (x : Int) w' => ∃ (j : Nat), j ≤ L.length ∧ x = (j : Int) ∧ Mod [] w w') (fun x _ => L.length - x.toNat) ⟨0, by omega, rfl, M3⟩ ?_
        rintro _ w4 ⟨j, hj, rfl, M4⟩
        unfold F5_b3
        rw [e1]
        refine iteI (fun hlt2 => ?_) (fun hlt2 => ?_)
        · have hlt2 : j < L.length := by omega
          have e2 : IntKind.i64.wrap ((j : Int) + 1) = ((j + 1 : Nat) : Int) := by rw [wi64 (by omega)]; omega
          rw [e2]
          have M5 := M4.none (Mod.drew w4)
          have nx : ∀ w' : World, Mod [] w w' → ∃ m, m < L.length - ((j : Int)).toNat ∧ (∃ j' : Nat, j' ≤ L.length ∧ ((j + 1 : Nat) : Int) = (j' : Int) ∧ Mod [] w w') ∧ L.length - (((j + 1 : Nat) : Int)).toNat = m := fun w' m => ⟨_, by omega, ⟨j + 1, by omega, rfl, m⟩, rfl⟩
          obtain ⟨p, hp, hci⟩ := (hr.mod M5 (by simp)).flat (chc_len _) (by decide) hlt
          obtain ⟨p', hp', hcj⟩ := (hr.mod M5 (by simp)).flat (chc_len _) (by decide) hlt2
          rw [hp] at hp'
          cases hp'
          refine ⟨p, hp, by omega, by omega, _, rc0 hci, iteI (fun hA => ?_) (fun hA => nx _ M5)⟩
          refine ⟨by omega, by omega, _, hcj 1 _ rfl, by omega, by omega, _, hci 1 _ rfl, iteI (fun hB2 => ?_) (fun hB2 => nx _ M5)⟩
          refine ⟨by omega, by omega, _, rc0 hcj, (is_ok d (hR.mod M5 (by simp)) hn _).mono ?_⟩
          rintro _ _ ⟨rfl, rfl⟩
          refine ⟨_, rfl, iteI (fun hC => ?_) (fun hC => nx _ M5)⟩
          exfalso
          have hC : L[j].id ∈ R := of_decide_eq_true hC
          have hse : sel (L.map new0) R = i := by
            refine Classical.byContradiction fun hne => ?_
            have hii : L[sel (L.map new0) R].id = L[i].id := by
              rw [hid, hgc hsl] at hA
              exact hA.symm
            rcases Nat.lt_or_gt_of_ne hne with hlt3 | hlt3
            · exact List.pairwise_iff_getElem.1 hpw _ _ hsl hlt hlt3 hii
            · exact List.pairwise_iff_getElem.1 hpw _ _ hlt hsl hlt3 hii.symm
          have hjr : j ∈ rix (L.map new0) R := rix_iff.2 ⟨by rw [List.length_map]; exact hlt2, by rw [hgc hlt2]; exact hC⟩
          have hbj := best_le hjr
          have hbi : (gc (L.map new0) (sel (L.map new0) R)).pr = best (L.map new0) R := by
            have := (List.mem_filter.1 hsel).2
            simpa using this
          rw [hse, hgc hlt] at hbi
          rw [hgc hlt2] at hbj
          have hbi : L[i].pr = best (L.map new0) R := hbi
          have hbj : best (L.map new0) R ≤ L[j].pr := hbj
          omega
        · exact ⟨_, by omega, ⟨i + 1, by omega, rfl, M4⟩, rfl⟩
      · rw [if_neg (by simp)]
        refine (is_ok d (hR.mod M3 (by simp)) hn _).mono ?_
        rintro _ _ ⟨rfl, rfl⟩
        refine ⟨_, rfl, ?_⟩
        rw [if_pos (decide_eq_true hidR)]
        exact fin _ M3
  refine iteI (fun h => j1 true (by simp)) (fun h => j1 _ (fun _ => by omega))
end Go.Proofs.Ytjjhghcaecodpaa
