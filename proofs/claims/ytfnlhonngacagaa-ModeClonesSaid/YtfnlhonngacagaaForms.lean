/-
  The forms of the functions, and their walks: written by a program of this claim (gen.py) off the elaborated translation.
-/
import Derived.Test.YtfnlhonngacagaaProg
import Derived.Test.YtfnlhonngacagaaBase
import Derived.KernelRfl
namespace Go.Proofs.Ytfnlhonngacagaa
open Go Go.Sh Go.Proofs
set_option linter.unusedVariables false
theorem Try.mixed : Try.prog.follows .mixedOrders = true := by kernel_rfl
def F29_j2 (m1 : Option Addr) (to2 : Int) (l_a14 : Option Addr) (l_n15 : Nat) (l_c16 : Nat) (w17 : World) (k : Value → World → Prop) : Prop :=
  ∃ (p18 : Addr), m1 = some p18 ∧ Put w17 (p18.add 2) (.slice l_a14 l_n15 l_c16) (fun w20 => Put w20 p18 (.int .i64 to2) (fun w22 => k (.tuple #[]) w22))
def F29_j1 (m1 : Option Addr) (to2 : Int) (l_a7 : Option Addr) (l_n8 : Nat) (l_c9 : Nat) (w10 : World) (k : Value → World → Prop) : Prop :=
  if 256 < (l_n8 : Int) then
  (0 : Int) ≤ 1 ∧ 1 ≤ (l_n8 : Int) ∧ F29_j2 m1 to2 (cutA l_a7 l_c9 ((1 : Int).toNat) 3) (l_n8 - (1 : Int).toNat) (l_c9 - (1 : Int).toNat) w10 k
else
  F29_j2 m1 to2 l_a7 l_n8 l_c9 w10 k
/-- (*spacecraft spacecraftref45.Manager).change -/
def F29 (m1 : Option Addr) (to2 : Int) (w3 : World) (k : Value → World → Prop) : Prop :=
  ∃ (p27 : Addr), m1 = some p27 ∧ ∃ (x_a29 : Option Addr) (x_n30 x_c31 : Nat), w3.drew.cell? (p27.add 2) = some (.slice x_a29 x_n30 x_c31) ∧ ∃ (x33 : Int), w3.drew.cell? (p27.add 1) = some (.int .i64 x33) ∧ ∃ (x35 : Int), w3.drew.cell? p27 = some (.int .i64 x35) ∧ (New w3.drew 50 [] (fun p37 w38 => w38.cell? (p27.add 2) = some (.slice x_a29 x_n30 x_c31) ∧ w38.cell? (p27.add 1) = some (.int .i64 x33) ∧ w38.cell? p27 = some (.int .i64 x35) ∧ (∃ (b_a42 : Option Addr) (b_n43 b_c44 : Nat) (w45 : World), (Builtin.append_ #[26, 26] 26 #[.slice (some p37) 0 0, .slice x_a29 x_n30 x_c31]).run Try.prog w38 = .ok (.slice b_a42 b_n43 b_c44) w45 ∧ w45.cell? (p27.add 1) = some (.int .i64 x33) ∧ w45.cell? p27 = some (.int .i64 x35) ∧ New w45 50 [.int .i64 x33, .int .i64 x35, .int .i64 to2] (fun p49 w50 => w50.cell? (p27.add 2) = some (.slice x_a29 x_n30 x_c31) ∧ ∃ (b_a52 : Option Addr) (b_n53 b_c54 : Nat) (w55 : World), (Builtin.append_ #[26, 26] 26 #[.slice b_a42 b_n43 b_c44, .slice (some p49) 1 1]).run Try.prog w50 = .ok (.slice b_a52 b_n53 b_c54) w55 ∧ F29_j1 m1 to2 b_a52 b_n53 b_c54 w55 k)) ∧ (New w38 50 [.int .i64 x33, .int .i64 x35, .int .i64 to2] (fun p57 w58 => w58.cell? (p27.add 2) = some (.slice x_a29 x_n30 x_c31) ∧ ∃ (b_a60 : Option Addr) (b_n61 b_c62 : Nat) (w63 : World), (Builtin.append_ #[26, 26] 26 #[.slice (some p37) 0 0, .slice x_a29 x_n30 x_c31]).run Try.prog w58 = .ok (.slice b_a60 b_n61 b_c62) w63 ∧ w63.cell? (p27.add 1) = some (.int .i64 x33) ∧ w63.cell? p27 = some (.int .i64 x35) ∧ ∃ (b_a67 : Option Addr) (b_n68 b_c69 : Nat) (w70 : World), (Builtin.append_ #[26, 26] 26 #[.slice b_a60 b_n61 b_c62, .slice (some p57) 1 1]).run Try.prog w63 = .ok (.slice b_a67 b_n68 b_c69) w70 ∧ F29_j1 m1 to2 b_a67 b_n68 b_c69 w70 k)))) ∧ (New w3.drew 50 [.int .i64 x33, .int .i64 x35, .int .i64 to2] (fun p73 w74 => w74.cell? (p27.add 2) = some (.slice x_a29 x_n30 x_c31) ∧ New w74 50 [] (fun p76 w77 => w77.cell? (p27.add 2) = some (.slice x_a29 x_n30 x_c31) ∧ w77.cell? (p27.add 1) = some (.int .i64 x33) ∧ w77.cell? p27 = some (.int .i64 x35) ∧ ∃ (b_a81 : Option Addr) (b_n82 b_c83 : Nat) (w84 : World), (Builtin.append_ #[26, 26] 26 #[.slice (some p76) 0 0, .slice x_a29 x_n30 x_c31]).run Try.prog w77 = .ok (.slice b_a81 b_n82 b_c83) w84 ∧ w84.cell? (p27.add 1) = some (.int .i64 x33) ∧ w84.cell? p27 = some (.int .i64 x35) ∧ ∃ (b_a88 : Option Addr) (b_n89 b_c90 : Nat) (w91 : World), (Builtin.append_ #[26, 26] 26 #[.slice b_a81 b_n82 b_c83, .slice (some p73) 1 1]).run Try.prog w84 = .ok (.slice b_a88 b_n89 b_c90) w91 ∧ F29_j1 m1 to2 b_a88 b_n89 b_c90 w91 k)))
set_option maxRecDepth 100000 in
set_option maxHeartbeats 2000000 in
theorem w29 (m1 : Option Addr) (to2 : Int) (w3 : World) (k : Value → World → Prop) (h : F29 m1 to2 w3 k) : Does Try.prog 29 #[.pointer m1, .int .i64 to2] w3 k := by
  refine enter 36 Try.func29 rfl rfl rfl ?_
  intro ρ hρ
  have e0 := hρ 0 _ rfl
  have e1 := hρ 1 _ rfl
  unfold F29 at h
  refine WC_cut (fun ρ w' => ∃ (l_a7 : Option Addr) (l_n8 l_c9 : Nat), ρ 4 = .slice l_a7 l_n8 l_c9 ∧ ρ 0 = .pointer m1 ∧ ρ 1 = .int .i64 to2 ∧ F29_j1 m1 to2 l_a7 l_n8 l_c9 w' k) ?_ ?_
  · refine WC_draws [0, 5, 16, 17] (.look 1 (.look 2 (.look 3 (.look 4 (.look 6 (.look 7 (.look 8 (.look 9 (.look 10 (.look 11 (.look 12 (.look 13 (.look 14 (.look 15 (.fork 0 (.fork 5 (.act 16 (.act 17 (.look 18 .nil))) 16 (.act 5 (.act 17 (.look 18 .nil)))) 16 (.act 0 (.act 5 (.act 17 (.look 18 .nil))))))))))))))))))) Try.mixed (by kernel_rfl) ?_
    refine WQ_val rfl gd0 (o_move (v := .pointer m1) (by exact e0)) rfl ?_
    obtain ⟨p27, q28, h⟩ := h
    refine WQ_val rfl gd0 (o_nilCheck (by exact (congrArg Value.pointer q28))) rfl ?_
    refine WQ_val rfl gd0 (o_fieldAddr 2 Try.underlying28 rfl Try.sizeOf26 rfl rfl rfl) rfl ?_
    obtain ⟨x_a29, x_n30, x_c31, hc32, h⟩ := h
    refine WQ_look (fun w => w.cell? (p27.add 2) = some (.slice x_a29 x_n30 x_c31)) rfl gd0 (fun w hc => (o_load Try.isAgg26 rfl hc)) hc32 rfl ?_
    refine WQ_val rfl gd0 (o_move (v := .pointer m1) (by exact e0)) rfl ?_
    refine WQ_val rfl gd0 (o_nilCheck (by exact (congrArg Value.pointer q28))) rfl ?_
    refine WQ_val rfl gd0 (o_fieldAddr 1 Try.underlying28 rfl Try.sizeOf3 rfl rfl rfl) rfl ?_
    obtain ⟨x33, hc34, h⟩ := h
    refine WQ_look (fun w => w.cell? (p27.add 1) = some (.int .i64 x33)) rfl gd0 (fun w hc => (o_load Try.isAgg3 rfl hc)) hc34 rfl ?_
    refine WQ_val rfl gd0 (o_move (v := .pointer m1) (by exact e0)) rfl ?_
    refine WQ_val rfl gd0 (o_nilCheck (by exact (congrArg Value.pointer q28))) rfl ?_
    refine WQ_val rfl gd0 (o_fieldAddr0 Try.underlying28 rfl Try.sizeOf3 rfl rfl rfl) rfl ?_
    obtain ⟨x35, hc36, h⟩ := h
    refine WQ_look (fun w => w.cell? p27 = some (.int .i64 x35)) rfl gd0 (fun w hc => (o_load Try.isAgg3 rfl hc)) hc36 rfl ?_
    refine WQ_val rfl gd0 (o_move (v := .int .i64 to2) (by exact e1)) rfl ?_
    refine WQ_val rfl gd0 (o_build (ps := [(0, .int .i64 x33), (1, .int .i64 x35), (2, .int .i64 to2)]) (v := .agg #[.int .i64 x33, .int .i64 x35, .int .i64 to2]) (partCons rfl (partCons rfl (partCons rfl partNil))) (fun w => by kernel_rfl)) rfl ?_
    obtain ⟨h, hf93⟩ := h
    refine WQ_fork ?_ ?_
    · have h := New.out h
      obtain ⟨hh39, hh40, hh41, h⟩ := h
      refine WQ_act rfl gd0 (o_buildSlice (e := 50) (ps := []) (cs := []) partNil (fun w => by kernel_rfl)) rfl (by exact ⟨⟨⟨trivial, fun _ => hh39⟩, fun _ => hh40⟩, fun _ => hh41⟩) ?_
      generalize hp37 : fresh w3.drew = p37 at h ⊢
      generalize hw38 : push w3.drew 50 [] = w38 at h ⊢
      try dsimp only at h
      obtain ⟨h, hf72⟩ := h
      refine WQ_fork ?_ ?_
      · obtain ⟨b_a42, b_n43, b_c44, w45, r46, h⟩ := h
        obtain ⟨hh47, hh48, h⟩ := h
        refine WQ_act rfl gd0 (o_append rfl rfl r46) rfl (by exact ⟨⟨⟨trivial, depT (by kernel_rfl)⟩, fun _ => hh47⟩, fun _ => hh48⟩) ?_
        have h := New.out h
        obtain ⟨hh51, h⟩ := h
        refine WQ_act rfl gd0 (o_buildSlice (e := 50) (ps := [(0, .agg #[.int .i64 x33, .int .i64 x35, .int .i64 to2])]) (cs := [.int .i64 x33, .int .i64 x35, .int .i64 to2]) (partCons rfl partNil) (fun w => by kernel_rfl)) rfl (by exact ⟨⟨⟨trivial, fun _ => hh51⟩, depT (by kernel_rfl)⟩, depT (by kernel_rfl)⟩) ?_
        generalize hp49 : fresh w45 = p49 at h ⊢
        generalize hw50 : push w45 50 [.int .i64 x33, .int .i64 x35, .int .i64 to2] = w50 at h ⊢
        try dsimp only at h
        obtain ⟨b_a52, b_n53, b_c54, w55, r56, h⟩ := h
        refine WQ_act rfl gd0 (o_append rfl rfl r56) rfl (by exact ⟨⟨⟨trivial, depT (by kernel_rfl)⟩, depT (by kernel_rfl)⟩, depT (by kernel_rfl)⟩) ?_
        refine WQ_val rfl gd0 (o_assign (v := .slice b_a52 b_n53 b_c54) rfl) rfl ?_
        refine WQ_nil ?_
        refine nrm ?_
        exact ⟨_, _, _, rfl, e0, e1, h⟩
      · replace h := hf72
        have h := New.out h
        obtain ⟨hh59, h⟩ := h
        refine WQ_act rfl gd0 (o_buildSlice (e := 50) (ps := [(0, .agg #[.int .i64 x33, .int .i64 x35, .int .i64 to2])]) (cs := [.int .i64 x33, .int .i64 x35, .int .i64 to2]) (partCons rfl partNil) (fun w => by kernel_rfl)) rfl (by exact ⟨⟨⟨trivial, fun _ => hh59⟩, depT (by kernel_rfl)⟩, depT (by kernel_rfl)⟩) ?_
        generalize hp57 : fresh w38 = p57 at h ⊢
        generalize hw58 : push w38 50 [.int .i64 x33, .int .i64 x35, .int .i64 to2] = w58 at h ⊢
        try dsimp only at h
        obtain ⟨b_a60, b_n61, b_c62, w63, r64, h⟩ := h
        obtain ⟨hh65, hh66, h⟩ := h
        refine WQ_act rfl gd0 (o_append rfl rfl r64) rfl (by exact ⟨⟨⟨trivial, depT (by kernel_rfl)⟩, fun _ => hh65⟩, fun _ => hh66⟩) ?_
        obtain ⟨b_a67, b_n68, b_c69, w70, r71, h⟩ := h
        refine WQ_act rfl gd0 (o_append rfl rfl r71) rfl (by exact ⟨⟨⟨trivial, depT (by kernel_rfl)⟩, depT (by kernel_rfl)⟩, depT (by kernel_rfl)⟩) ?_
        refine WQ_val rfl gd0 (o_assign (v := .slice b_a67 b_n68 b_c69) rfl) rfl ?_
        refine WQ_nil ?_
        refine nrm ?_
        exact ⟨_, _, _, rfl, e0, e1, h⟩
    · replace h := hf93
      have h := New.out h
      obtain ⟨hh75, h⟩ := h
      refine WQ_act rfl gd0 (o_buildSlice (e := 50) (ps := [(0, .agg #[.int .i64 x33, .int .i64 x35, .int .i64 to2])]) (cs := [.int .i64 x33, .int .i64 x35, .int .i64 to2]) (partCons rfl partNil) (fun w => by kernel_rfl)) rfl (by exact ⟨⟨⟨trivial, fun _ => hh75⟩, depT (by kernel_rfl)⟩, depT (by kernel_rfl)⟩) ?_
      generalize hp73 : fresh w3.drew = p73 at h ⊢
      generalize hw74 : push w3.drew 50 [.int .i64 x33, .int .i64 x35, .int .i64 to2] = w74 at h ⊢
      try dsimp only at h
      have h := New.out h
      obtain ⟨hh78, hh79, hh80, h⟩ := h
      refine WQ_act rfl gd0 (o_buildSlice (e := 50) (ps := []) (cs := []) partNil (fun w => by kernel_rfl)) rfl (by exact ⟨⟨⟨trivial, fun _ => hh78⟩, fun _ => hh79⟩, fun _ => hh80⟩) ?_
      generalize hp76 : fresh w74 = p76 at h ⊢
      generalize hw77 : push w74 50 [] = w77 at h ⊢
      try dsimp only at h
      obtain ⟨b_a81, b_n82, b_c83, w84, r85, h⟩ := h
      obtain ⟨hh86, hh87, h⟩ := h
      refine WQ_act rfl gd0 (o_append rfl rfl r85) rfl (by exact ⟨⟨⟨trivial, depT (by kernel_rfl)⟩, fun _ => hh86⟩, fun _ => hh87⟩) ?_
      obtain ⟨b_a88, b_n89, b_c90, w91, r92, h⟩ := h
      refine WQ_act rfl gd0 (o_append rfl rfl r92) rfl (by exact ⟨⟨⟨trivial, depT (by kernel_rfl)⟩, depT (by kernel_rfl)⟩, depT (by kernel_rfl)⟩) ?_
      refine WQ_val rfl gd0 (o_assign (v := .slice b_a88 b_n89 b_c90) rfl) rfl ?_
      refine WQ_nil ?_
      refine nrm ?_
      exact ⟨_, _, _, rfl, e0, e1, h⟩
  · rintro ρ w10 ⟨l_a7, l_n8, l_c9, e4_6, e0_4, e1_5, h⟩
    unfold F29_j1 at h
    refine WC_cut (fun ρ w' => ∃ (l_a14 : Option Addr) (l_n15 l_c16 : Nat), ρ 4 = .slice l_a14 l_n15 l_c16 ∧ ρ 0 = .pointer m1 ∧ ρ 1 = .int .i64 to2 ∧ F29_j2 m1 to2 l_a14 l_n15 l_c16 w' k) ?_ ?_
    · refine WC_seq ?_
      refine WC_region ?_
      refine WL_val gd0 ((o_move (v := .slice l_a7 l_n8 l_c9) (by exact e4_6)) _) rfl ?_
      refine WL_val gd0 ((o_len Try.underlying26 rfl) _) rfl ?_
      refine WL_val gd0 ((o_gtr rfl rfl) _) rfl ?_
      refine WL_nil ?_
      refine nrm ?_
      refine WC_cond (t := (decide (256 < (l_n8 : Int)))) rfl (fun hb24 => ?_) (fun hb24 => ?_)
      · rw [if_pos (of_decide_eq_true hb24)] at h
        refine WC_region ?_
        refine WL_val gd0 ((o_move (v := .slice l_a7 l_n8 l_c9) (by exact e4_6)) _) rfl ?_
        obtain ⟨c25, c26, h⟩ := h
        refine WL_val gd0 ((o_sliceL Try.underlying26 Try.sizeOf50 rfl rfl c25 c26) _) rfl ?_
        refine WL_val gd0 ((o_assign (v := .slice (cutA l_a7 l_c9 ((1 : Int).toNat) 3) (l_n8 - (1 : Int).toNat) (l_c9 - (1 : Int).toNat)) rfl) _) rfl ?_
        refine WL_nil ?_
        refine nrm ?_
        exact ⟨_, _, _, rfl, e0_4, e1_5, h⟩
      · rw [if_neg (of_decide_eq_false hb24)] at h
        refine WC_skip ?_
        refine nrm ?_
        exact ⟨_, _, _, e4_6, e0_4, e1_5, h⟩
    · rintro ρ w17 ⟨l_a14, l_n15, l_c16, e4_13, e0_11, e1_12, h⟩
      unfold F29_j2 at h
      refine WC_seq ?_
      refine WC_region ?_
      refine WL_val gd0 ((o_move (v := .pointer m1) (by exact e0_11)) _) rfl ?_
      refine WL_val gd0 ((o_move (v := .slice l_a14 l_n15 l_c16) (by exact e4_13)) _) rfl ?_
      obtain ⟨p18, q19, h⟩ := h
      refine WL_val gd0 ((o_nilCheck (by exact (congrArg Value.pointer q19))) _) rfl ?_
      refine WL_val gd0 ((o_fieldAddr 2 Try.underlying28 rfl Try.sizeOf26 rfl rfl rfl) _) rfl ?_
      obtain ⟨c21, h⟩ := h
      refine WL_act gd0 (o_store (v := .slice l_a14 l_n15 l_c16) Try.sizeOf26 rfl rfl rfl c21) ?_
      generalize hw20 : World.setCell w17 (p18.add 2) (.slice l_a14 l_n15 l_c16) = w20 at h ⊢
      try dsimp only at h
      refine WL_nil ?_
      refine nrm ?_
      refine WC_region ?_
      refine WL_val gd0 ((o_move (v := .pointer m1) (by exact e0_11)) _) rfl ?_
      refine WL_val gd0 ((o_move (v := .int .i64 to2) (by exact e1_12)) _) rfl ?_
      refine WL_val gd0 ((o_nilCheck (by exact (congrArg Value.pointer q19))) _) rfl ?_
      refine WL_val gd0 ((o_fieldAddr0 Try.underlying28 rfl Try.sizeOf3 rfl rfl rfl) _) rfl ?_
      obtain ⟨c23, h⟩ := h
      refine WL_act gd0 (o_store (v := .int .i64 to2) Try.sizeOf3 rfl rfl rfl c23) ?_
      generalize hw22 : World.setCell w20 p18 (.int .i64 to2) = w22 at h ⊢
      try dsimp only at h
      refine WL_nil ?_
      refine ndE ?_
      exact gv0 rfl h

/-- spacecraft mode.New -/
def F9 (w1 : World) (k : Value → World → Prop) : Prop :=
  New w1 48 [.bool true, .int .i64 0, .int .i64 0, .slice none 0 0] (fun p2 w3 => k (.pointer (some p2)) w3)
set_option maxRecDepth 100000 in
set_option maxHeartbeats 2000000 in
theorem w9 (w1 : World) (k : Value → World → Prop) (h : F9 w1 k) : Does Try.prog 9 #[] w1 k := by
  refine enter 3 Try.func9 rfl rfl rfl ?_
  intro ρ hρ
  unfold F9 at h
  refine WC_seq ?_
  refine WC_region ?_
  refine WL_val gd0 ((o_assign (v := .pointer none) rfl) _) rfl ?_
  refine WL_nil ?_
  refine nrm ?_
  refine WC_seq ?_
  refine WC_region ?_
  refine WL_val gd0 ((o_build (ps := [(0, .bool true)]) (v := .agg #[.bool true, .int .i64 0, .int .i64 0, .slice none 0 0]) (partCons rfl partNil) (fun w => by kernel_rfl)) _) rfl ?_
  have h := New.out h
  refine WL_val gd0 (o_box (v := .agg #[.bool true, .int .i64 0, .int .i64 0, .slice none 0 0]) (cs := [.bool true, .int .i64 0, .int .i64 0, .slice none 0 0]) rfl rfl) rfl ?_
  generalize hp2 : fresh w1 = p2 at h ⊢
  generalize hw3 : push w1 48 [.bool true, .int .i64 0, .int .i64 0, .slice none 0 0] = w3 at h ⊢
  try dsimp only at h
  refine WL_val gd0 ((o_assign (v := .pointer (some p2)) rfl) _) rfl ?_
  refine WL_nil ?_
  refine nrm ?_
  refine WC_ret ?_
  refine rtE ?_
  exact gv1 rfl rfl h

/-- spacecraft mode.Can -/
def F13 (from1 : Int) (to2 : Int) (w3 : World) (k : Value → World → Prop) : Prop :=
  Does Try.prog 22 #[.int .i64 from1] w3 (fun v w4 => ∃ (x5 : Bool), v = .bool x5 ∧ if x5 = true then
  Does Try.prog 22 #[.int .i64 to2] w4 (fun v w7 => ∃ (x8 : Bool), v = .bool x8 ∧ if x8 = true then
    Does Try.prog 23 #[] w7 (fun v w10 => ∃ (x11 x12 x13 x14 x15 x16 x17 x18 x19 x20 x21 x22 x23 x24 x25 x26 x27 x28 x29 x30 x31 x32 x33 x34 x35 : Bool), v = .agg #[.bool x11, .bool x12, .bool x13, .bool x14, .bool x15, .bool x16, .bool x17, .bool x18, .bool x19, .bool x20, .bool x21, .bool x22, .bool x23, .bool x24, .bool x25, .bool x26, .bool x27, .bool x28, .bool x29, .bool x30, .bool x31, .bool x32, .bool x33, .bool x34, .bool x35] ∧ ∃ (x36 x37 x38 x39 x40 : Bool), (∀ w, (Instr.index 53 (.agg #[.bool x11, .bool x12, .bool x13, .bool x14, .bool x15, .bool x16, .bool x17, .bool x18, .bool x19, .bool x20, .bool x21, .bool x22, .bool x23, .bool x24, .bool x25, .bool x26, .bool x27, .bool x28, .bool x29, .bool x30, .bool x31, .bool x32, .bool x33, .bool x34, .bool x35]) (.int .i64 from1)).run Try.prog w = .ok (.agg #[.bool x36, .bool x37, .bool x38, .bool x39, .bool x40]) w) ∧ ∃ (x42 : Bool), (∀ w, (Instr.index 52 (.agg #[.bool x36, .bool x37, .bool x38, .bool x39, .bool x40]) (.int .i64 to2)).run Try.prog w = .ok (.bool x42) w) ∧ k (.bool x42) w10)
  else
    k (.bool false) w7)
else
  k (.bool false) w4)
set_option maxRecDepth 100000 in
set_option maxHeartbeats 2000000 in
theorem w13 (from1 : Int) (to2 : Int) (w3 : World) (k : Value → World → Prop) (h : F13 from1 to2 w3 k) : Does Try.prog 13 #[.int .i64 from1, .int .i64 to2] w3 k := by
  refine enter 18 Try.func13 rfl rfl rfl ?_
  intro ρ hρ
  have e0 := hρ 0 _ rfl
  have e1 := hρ 1 _ rfl
  unfold F13 at h
  refine WC_seq ?_
  refine WC_region ?_
  refine WL_val gd0 ((o_assign (v := .bool false) rfl) _) rfl ?_
  refine WL_nil ?_
  refine nrm ?_
  refine WC_seq ?_
  refine WC_region ?_
  refine WL_val gd0 ((o_move (v := .int .i64 from1) (by exact e0)) _) rfl ?_
  refine WL_call gd0 (o_call Try.call22 (argCons rfl argNil) _) rfl (h.mono ?_)
  rintro _ w4 ⟨x5, rfl, h⟩
  refine WL_val gd0 ((o_move (v := .bool x5) rfl) _) rfl ?_
  refine bsplit x5 (fun hb6 => ?_) (fun hb6 => ?_)
  · rw [if_pos hb6] at h
    refine WL_val (gdY (b := x5) 7 rfl rfl hb6) ((o_move (v := .int .i64 to2) (by exact e1)) _) rfl ?_
    refine WL_call (gdY (b := x5) 7 rfl rfl hb6) (o_call Try.call22 (argCons rfl argNil) _) rfl (h.mono ?_)
    rintro _ w7 ⟨x8, rfl, h⟩
    refine WL_val gd0 ((o_pickT (v := .bool x8) rfl hb6 rfl) _) rfl ?_
    refine WL_val gd0 ((o_move (v := .bool x8) rfl) _) rfl ?_
    refine bsplit x8 (fun hb9 => ?_) (fun hb9 => ?_)
    · rw [if_pos hb9] at h
      refine WL_call (gdY (b := x8) 11 rfl rfl hb9) (o_call Try.call23 argNil _) rfl (h.mono ?_)
      rintro _ w10 ⟨x11, x12, x13, x14, x15, x16, x17, x18, x19, x20, x21, x22, x23, x24, x25, x26, x27, x28, x29, x30, x31, x32, x33, x34, x35, rfl, h⟩
      refine WL_val (gdY (b := x8) 11 rfl rfl hb9) ((o_move (v := .int .i64 from1) (by exact e0)) _) rfl ?_
      obtain ⟨x36, x37, x38, x39, x40, r41, h⟩ := h
      refine WL_val (gdY (b := x8) 11 rfl rfl hb9) ((o_index rfl rfl r41) _) rfl ?_
      refine WL_val (gdY (b := x8) 11 rfl rfl hb9) ((o_move (v := .int .i64 to2) (by exact e1)) _) rfl ?_
      obtain ⟨x42, r43, h⟩ := h
      refine WL_val (gdY (b := x8) 11 rfl rfl hb9) ((o_index rfl rfl r43) _) rfl ?_
      refine WL_val gd0 ((o_pickT (v := .bool x42) rfl hb9 rfl) _) rfl ?_
      refine WL_val gd0 ((o_assign (v := .bool x42) rfl) _) rfl ?_
      refine WL_nil ?_
      refine nrm ?_
      refine WC_ret ?_
      refine rtE ?_
      exact gv1 rfl rfl h
    · rw [if_neg (neT hb9)] at h
      refine WL_skip (gdN (b := x8) 11 rfl rfl hb9) rfl ?_
      refine WL_skip (gdN (b := x8) 11 rfl rfl hb9) rfl ?_
      refine WL_skip (gdN (b := x8) 11 rfl rfl hb9) rfl ?_
      refine WL_skip (gdN (b := x8) 11 rfl rfl hb9) rfl ?_
      refine WL_skip (gdN (b := x8) 11 rfl rfl hb9) rfl ?_
      refine WL_val gd0 ((o_pickF (v := .bool false) rfl hb9 rfl) _) rfl ?_
      refine WL_val gd0 ((o_assign (v := .bool false) rfl) _) rfl ?_
      refine WL_nil ?_
      refine nrm ?_
      refine WC_ret ?_
      refine rtE ?_
      exact gv1 rfl rfl h
  · rw [if_neg (neT hb6)] at h
    refine WL_skip (gdN (b := x5) 7 rfl rfl hb6) rfl ?_
    refine WL_skip (gdN (b := x5) 7 rfl rfl hb6) rfl ?_
    refine WL_val gd0 ((o_pickF (v := .bool false) rfl hb6 rfl) _) rfl ?_
    refine WL_val gd0 ((o_move (v := .bool false) rfl) _) rfl ?_
    refine WL_skip (gdN (b := false) 11 rfl rfl rfl) rfl ?_
    refine WL_skip (gdN (b := false) 11 rfl rfl rfl) rfl ?_
    refine WL_skip (gdN (b := false) 11 rfl rfl rfl) rfl ?_
    refine WL_skip (gdN (b := false) 11 rfl rfl rfl) rfl ?_
    refine WL_skip (gdN (b := false) 11 rfl rfl rfl) rfl ?_
    refine WL_val gd0 ((o_pickF (v := .bool false) rfl rfl rfl) _) rfl ?_
    refine WL_val gd0 ((o_assign (v := .bool false) rfl) _) rfl ?_
    refine WL_nil ?_
    refine nrm ?_
    refine WC_ret ?_
    refine rtE ?_
    exact gv1 rfl rfl h

/-- spacecraft spacecraftref45.Can -/
def F14 (from1 : Int) (to2 : Int) (w3 : World) (k : Value → World → Prop) : Prop :=
  if from1 = 1 then
  k (.bool (decide (to2 = 2))) w3
else
  if from1 = 2 then
    if to2 = 1 then
      k (.bool true) w3
    else
      k (.bool (decide (to2 = 3))) w3
  else
    if from1 = 3 then
      if to2 = 1 then
        k (.bool true) w3
      else
        if to2 = 2 then
          k (.bool true) w3
        else
          k (.bool (decide (to2 = 4))) w3
    else
      if from1 = 4 then
        if to2 = 1 then
          k (.bool true) w3
        else
          k (.bool (decide (to2 = 3))) w3
      else
        k (.bool false) w3
set_option maxRecDepth 100000 in
set_option maxHeartbeats 2000000 in
theorem w14 (from1 : Int) (to2 : Int) (w3 : World) (k : Value → World → Prop) (h : F14 from1 to2 w3 k) : Does Try.prog 14 #[.int .i64 from1, .int .i64 to2] w3 k := by
  refine enter 38 Try.func14 rfl rfl rfl ?_
  intro ρ hρ
  have e0 := hρ 0 _ rfl
  have e1 := hρ 1 _ rfl
  unfold F14 at h
  refine WC_seq ?_
  refine WC_region ?_
  refine WL_val gd0 ((o_assign (v := .bool false) rfl) _) rfl ?_
  refine WL_nil ?_
  refine nrm ?_
  refine WC_seq ?_
  refine WC_seq ?_
  refine WC_region ?_
  refine WL_val gd0 ((o_move (v := .int .i64 from1) (by exact e0)) _) rfl ?_
  refine WL_nil ?_
  refine nrm ?_
  refine WC_block ?_
  refine WC_seq ?_
  refine WC_region ?_
  refine WL_val gd0 ((o_eql rfl rfl) _) rfl ?_
  refine WL_val gd0 ((o_assign (v := .bool (decide (from1 = 1))) rfl) _) rfl ?_
  refine WL_nil ?_
  refine nrm ?_
  refine WC_cond (t := (decide (from1 = 1))) rfl (fun hb4 => ?_) (fun hb4 => ?_)
  · rw [if_pos (of_decide_eq_true hb4)] at h
    refine WC_seq ?_
    refine WC_region ?_
    refine WL_val gd0 ((o_move (v := .int .i64 to2) (by exact e1)) _) rfl ?_
    refine WL_val gd0 ((o_eql rfl rfl) _) rfl ?_
    refine WL_val gd0 ((o_assign (v := .bool (decide (to2 = 2))) rfl) _) rfl ?_
    refine WL_nil ?_
    refine nrm ?_
    refine WC_ret ?_
    refine rtB ?_
    refine rtT ?_
    refine rtE ?_
    exact gv1 rfl rfl h
  · rw [if_neg (of_decide_eq_false hb4)] at h
    refine WC_seq ?_
    refine WC_region ?_
    refine WL_val gd0 ((o_eql rfl rfl) _) rfl ?_
    refine WL_val gd0 ((o_assign (v := .bool (decide (from1 = 2))) rfl) _) rfl ?_
    refine WL_nil ?_
    refine nrm ?_
    refine WC_cond (t := (decide (from1 = 2))) rfl (fun hb5 => ?_) (fun hb5 => ?_)
    · rw [if_pos (of_decide_eq_true hb5)] at h
      refine WC_seq ?_
      refine WC_region ?_
      refine WL_val gd0 ((o_move (v := .int .i64 to2) (by exact e1)) _) rfl ?_
      refine WL_val gd0 ((o_eql rfl rfl) _) rfl ?_
      refine WL_val gd0 ((o_move (v := .bool (decide (to2 = 1))) rfl) _) rfl ?_
      refine bsplit (decide (to2 = 1)) (fun hb6 => ?_) (fun hb6 => ?_)
      · rw [if_pos (of_decide_eq_true hb6)] at h
        refine WL_skip (gdN (b := (decide (to2 = 1))) 14 rfl rfl hb6) rfl ?_
        refine WL_skip (gdN (b := (decide (to2 = 1))) 14 rfl rfl hb6) rfl ?_
        refine WL_val gd0 ((o_pickT (v := .bool true) rfl hb6 rfl) _) rfl ?_
        refine WL_val gd0 ((o_assign (v := .bool true) rfl) _) rfl ?_
        refine WL_nil ?_
        refine nrm ?_
        refine WC_ret ?_
        refine rtB ?_
        refine rtT ?_
        refine rtE ?_
        exact gv1 rfl rfl h
      · rw [if_neg (of_decide_eq_false hb6)] at h
        refine WL_val (gdY (b := (decide (to2 = 1))) 14 rfl rfl hb6) ((o_move (v := .int .i64 to2) (by exact e1)) _) rfl ?_
        refine WL_val (gdY (b := (decide (to2 = 1))) 14 rfl rfl hb6) ((o_eql rfl rfl) _) rfl ?_
        refine WL_val gd0 ((o_pickF (v := .bool (decide (to2 = 3))) rfl hb6 rfl) _) rfl ?_
        refine WL_val gd0 ((o_assign (v := .bool (decide (to2 = 3))) rfl) _) rfl ?_
        refine WL_nil ?_
        refine nrm ?_
        refine WC_ret ?_
        refine rtB ?_
        refine rtT ?_
        refine rtE ?_
        exact gv1 rfl rfl h
    · rw [if_neg (of_decide_eq_false hb5)] at h
      refine WC_seq ?_
      refine WC_region ?_
      refine WL_val gd0 ((o_eql rfl rfl) _) rfl ?_
      refine WL_val gd0 ((o_assign (v := .bool (decide (from1 = 3))) rfl) _) rfl ?_
      refine WL_nil ?_
      refine nrm ?_
      refine WC_cond (t := (decide (from1 = 3))) rfl (fun hb7 => ?_) (fun hb7 => ?_)
      · rw [if_pos (of_decide_eq_true hb7)] at h
        refine WC_seq ?_
        refine WC_region ?_
        refine WL_val gd0 ((o_move (v := .int .i64 to2) (by exact e1)) _) rfl ?_
        refine WL_val gd0 ((o_eql rfl rfl) _) rfl ?_
        refine WL_val gd0 ((o_move (v := .bool (decide (to2 = 1))) rfl) _) rfl ?_
        refine bsplit (decide (to2 = 1)) (fun hb8 => ?_) (fun hb8 => ?_)
        · rw [if_pos (of_decide_eq_true hb8)] at h
          refine WL_skip (gdN (b := (decide (to2 = 1))) 22 rfl rfl hb8) rfl ?_
          refine WL_skip (gdN (b := (decide (to2 = 1))) 22 rfl rfl hb8) rfl ?_
          refine WL_val gd0 ((o_pickT (v := .bool true) rfl hb8 rfl) _) rfl ?_
          refine WL_val gd0 ((o_move (v := .bool true) rfl) _) rfl ?_
          refine WL_skip (gdN (b := true) 26 rfl rfl rfl) rfl ?_
          refine WL_skip (gdN (b := true) 26 rfl rfl rfl) rfl ?_
          refine WL_val gd0 ((o_pickT (v := .bool true) rfl rfl rfl) _) rfl ?_
          refine WL_val gd0 ((o_assign (v := .bool true) rfl) _) rfl ?_
          refine WL_nil ?_
          refine nrm ?_
          refine WC_ret ?_
          refine rtB ?_
          refine rtT ?_
          refine rtE ?_
          exact gv1 rfl rfl h
        · rw [if_neg (of_decide_eq_false hb8)] at h
          refine WL_val (gdY (b := (decide (to2 = 1))) 22 rfl rfl hb8) ((o_move (v := .int .i64 to2) (by exact e1)) _) rfl ?_
          refine WL_val (gdY (b := (decide (to2 = 1))) 22 rfl rfl hb8) ((o_eql rfl rfl) _) rfl ?_
          refine WL_val gd0 ((o_pickF (v := .bool (decide (to2 = 2))) rfl hb8 rfl) _) rfl ?_
          refine WL_val gd0 ((o_move (v := .bool (decide (to2 = 2))) rfl) _) rfl ?_
          refine bsplit (decide (to2 = 2)) (fun hb9 => ?_) (fun hb9 => ?_)
          · rw [if_pos (of_decide_eq_true hb9)] at h
            refine WL_skip (gdN (b := (decide (to2 = 2))) 26 rfl rfl hb9) rfl ?_
            refine WL_skip (gdN (b := (decide (to2 = 2))) 26 rfl rfl hb9) rfl ?_
            refine WL_val gd0 ((o_pickT (v := .bool true) rfl hb9 rfl) _) rfl ?_
            refine WL_val gd0 ((o_assign (v := .bool true) rfl) _) rfl ?_
            refine WL_nil ?_
            refine nrm ?_
            refine WC_ret ?_
            refine rtB ?_
            refine rtT ?_
            refine rtE ?_
            exact gv1 rfl rfl h
          · rw [if_neg (of_decide_eq_false hb9)] at h
            refine WL_val (gdY (b := (decide (to2 = 2))) 26 rfl rfl hb9) ((o_move (v := .int .i64 to2) (by exact e1)) _) rfl ?_
            refine WL_val (gdY (b := (decide (to2 = 2))) 26 rfl rfl hb9) ((o_eql rfl rfl) _) rfl ?_
            refine WL_val gd0 ((o_pickF (v := .bool (decide (to2 = 4))) rfl hb9 rfl) _) rfl ?_
            refine WL_val gd0 ((o_assign (v := .bool (decide (to2 = 4))) rfl) _) rfl ?_
            refine WL_nil ?_
            refine nrm ?_
            refine WC_ret ?_
            refine rtB ?_
            refine rtT ?_
            refine rtE ?_
            exact gv1 rfl rfl h
      · rw [if_neg (of_decide_eq_false hb7)] at h
        refine WC_seq ?_
        refine WC_region ?_
        refine WL_val gd0 ((o_eql rfl rfl) _) rfl ?_
        refine WL_val gd0 ((o_assign (v := .bool (decide (from1 = 4))) rfl) _) rfl ?_
        refine WL_nil ?_
        refine nrm ?_
        refine WC_cond (t := (decide (from1 = 4))) rfl (fun hb10 => ?_) (fun hb10 => ?_)
        · rw [if_pos (of_decide_eq_true hb10)] at h
          refine WC_seq ?_
          refine WC_region ?_
          refine WL_val gd0 ((o_move (v := .int .i64 to2) (by exact e1)) _) rfl ?_
          refine WL_val gd0 ((o_eql rfl rfl) _) rfl ?_
          refine WL_val gd0 ((o_move (v := .bool (decide (to2 = 1))) rfl) _) rfl ?_
          refine bsplit (decide (to2 = 1)) (fun hb11 => ?_) (fun hb11 => ?_)
          · rw [if_pos (of_decide_eq_true hb11)] at h
            refine WL_skip (gdN (b := (decide (to2 = 1))) 34 rfl rfl hb11) rfl ?_
            refine WL_skip (gdN (b := (decide (to2 = 1))) 34 rfl rfl hb11) rfl ?_
            refine WL_val gd0 ((o_pickT (v := .bool true) rfl hb11 rfl) _) rfl ?_
            refine WL_val gd0 ((o_assign (v := .bool true) rfl) _) rfl ?_
            refine WL_nil ?_
            refine nrm ?_
            refine WC_ret ?_
            refine rtB ?_
            refine rtT ?_
            refine rtE ?_
            exact gv1 rfl rfl h
          · rw [if_neg (of_decide_eq_false hb11)] at h
            refine WL_val (gdY (b := (decide (to2 = 1))) 34 rfl rfl hb11) ((o_move (v := .int .i64 to2) (by exact e1)) _) rfl ?_
            refine WL_val (gdY (b := (decide (to2 = 1))) 34 rfl rfl hb11) ((o_eql rfl rfl) _) rfl ?_
            refine WL_val gd0 ((o_pickF (v := .bool (decide (to2 = 3))) rfl hb11 rfl) _) rfl ?_
            refine WL_val gd0 ((o_assign (v := .bool (decide (to2 = 3))) rfl) _) rfl ?_
            refine WL_nil ?_
            refine nrm ?_
            refine WC_ret ?_
            refine rtB ?_
            refine rtT ?_
            refine rtE ?_
            exact gv1 rfl rfl h
        · rw [if_neg (of_decide_eq_false hb10)] at h
          refine WC_skip ?_
          refine nrmB ?_
          refine nrm ?_
          refine WC_seq ?_
          refine WC_region ?_
          refine WL_val gd0 ((o_assign (v := .bool false) rfl) _) rfl ?_
          refine WL_nil ?_
          refine nrm ?_
          refine WC_ret ?_
          refine rtE ?_
          exact gv1 rfl rfl h

/-- (*spacecraft mode.Manager).Safe -/
def F15 (m1 : Option Addr) (now2 : Int) (w3 : World) (k : Value → World → Prop) : Prop :=
  Does Try.prog 24 #[.pointer m1] w3 (fun v w4 => ∃ (x5 : Bool), v = .bool x5 ∧ if (!x5) = true then
  k (.int .i64 2) w4
else
  Does Try.prog 25 #[.pointer m1, .int .i64 now2] w4 (fun v w7 => v = .tuple #[] ∧ ∃ (p8 : Addr), m1 = some p8 ∧ ∃ (x10 : Int), w7.cell? (p8.add 2) = some (.int .i64 x10) ∧ if x10 ≠ 1 then
    Does Try.prog 26 #[.pointer m1, .int .i64 1] w7 (fun v w13 => v = .tuple #[] ∧ k (.int .i64 0) w13)
  else
    k (.int .i64 0) w7))
set_option maxRecDepth 100000 in
set_option maxHeartbeats 2000000 in
theorem w15 (m1 : Option Addr) (now2 : Int) (w3 : World) (k : Value → World → Prop) (h : F15 m1 now2 w3 k) : Does Try.prog 15 #[.pointer m1, .int .i64 now2] w3 k := by
  refine enter 18 Try.func15 rfl rfl rfl ?_
  intro ρ hρ
  have e0 := hρ 0 _ rfl
  have e1 := hρ 1 _ rfl
  unfold F15 at h
  refine WC_seq ?_
  refine WC_region ?_
  refine WL_val gd0 ((o_assign (v := .int .i64 0) rfl) _) rfl ?_
  refine WL_nil ?_
  refine nrm ?_
  refine WC_seq ?_
  refine WC_seq ?_
  refine WC_region ?_
  refine WL_val gd0 ((o_move (v := .pointer m1) (by exact e0)) _) rfl ?_
  refine WL_call gd0 (o_call Try.call24 (argCons rfl argNil) _) rfl (h.mono ?_)
  rintro _ w4 ⟨x5, rfl, h⟩
  refine WL_val gd0 ((o_not rfl) _) rfl ?_
  refine WL_nil ?_
  refine nrm ?_
  refine WC_cond (t := (!x5)) rfl (fun hb6 => ?_) (fun hb6 => ?_)
  · rw [if_pos hb6] at h
    refine WC_seq ?_
    refine WC_region ?_
    refine WL_val gd0 ((o_assign (v := .int .i64 2) rfl) _) rfl ?_
    refine WL_nil ?_
    refine nrm ?_
    refine WC_ret ?_
    refine rtT ?_
    refine rtE ?_
    exact gv1 rfl rfl h
  · rw [if_neg (neT hb6)] at h
    refine WC_skip ?_
    refine nrm ?_
    refine WC_seq ?_
    refine WC_region ?_
    refine WL_val gd0 ((o_move (v := .pointer m1) (by exact e0)) _) rfl ?_
    refine WL_val gd0 ((o_move (v := .int .i64 now2) (by exact e1)) _) rfl ?_
    refine WL_call gd0 (o_call Try.call25 (argCons rfl (argCons rfl argNil)) _) rfl (h.mono ?_)
    rintro _ w7 ⟨rfl, h⟩
    refine WL_nil ?_
    refine nrm ?_
    refine WC_seq ?_
    refine WC_seq ?_
    refine WC_region ?_
    refine WL_val gd0 ((o_move (v := .pointer m1) (by exact e0)) _) rfl ?_
    obtain ⟨p8, q9, h⟩ := h
    refine WL_val gd0 ((o_nilCheck (by exact (congrArg Value.pointer q9))) _) rfl ?_
    refine WL_val gd0 ((o_fieldAddr 2 Try.underlying48 rfl Try.sizeOf3 rfl rfl rfl) _) rfl ?_
    obtain ⟨x10, hc11, h⟩ := h
    refine WL_val gd0 (o_load Try.isAgg3 rfl hc11) rfl ?_
    refine WL_val gd0 ((o_neq rfl rfl) _) rfl ?_
    refine WL_nil ?_
    refine nrm ?_
    refine WC_cond (t := (decide (x10 ≠ 1))) rfl (fun hb12 => ?_) (fun hb12 => ?_)
    · rw [if_pos (of_decide_eq_true hb12)] at h
      refine WC_region ?_
      refine WL_val gd0 ((o_move (v := .pointer m1) (by exact e0)) _) rfl ?_
      refine WL_call gd0 (o_call Try.call26 (argCons rfl (argCons rfl argNil)) _) rfl (h.mono ?_)
      rintro _ w13 ⟨rfl, h⟩
      refine WL_nil ?_
      refine nrm ?_
      refine WC_seq ?_
      refine WC_region ?_
      refine WL_val gd0 ((o_assign (v := .int .i64 0) rfl) _) rfl ?_
      refine WL_nil ?_
      refine nrm ?_
      refine WC_ret ?_
      refine rtE ?_
      exact gv1 rfl rfl h
    · rw [if_neg (of_decide_eq_false hb12)] at h
      refine WC_skip ?_
      refine nrm ?_
      refine WC_seq ?_
      refine WC_region ?_
      refine WL_val gd0 ((o_assign (v := .int .i64 0) rfl) _) rfl ?_
      refine WL_nil ?_
      refine nrm ?_
      refine WC_ret ?_
      refine rtE ?_
      exact gv1 rfl rfl h

/-- (*spacecraft mode.Manager).Request -/
def F16 (m1 : Option Addr) (to2 : Int) (now3 : Int) (w4 : World) (k : Value → World → Prop) : Prop :=
  Does Try.prog 24 #[.pointer m1] w4 (fun v w5 => ∃ (x6 : Bool), v = .bool x6 ∧ if (!x6) = true then
  k (.int .i64 2) w5
else
  Does Try.prog 25 #[.pointer m1, .int .i64 now3] w5 (fun v w8 => v = .tuple #[] ∧ Does Try.prog 22 #[.int .i64 to2] w8 (fun v w9 => ∃ (x10 : Bool), v = .bool x10 ∧ if (!x10) = true then
    k (.int .i64 1) w9
  else
    ∃ (p12 : Addr), m1 = some p12 ∧ ∃ (x14 : Int), w9.cell? (p12.add 2) = some (.int .i64 x14) ∧ Does Try.prog 13 #[.int .i64 x14, .int .i64 to2] w9 (fun v w16 => ∃ (x17 : Bool), v = .bool x17 ∧ if (!x17) = true then
      k (.int .i64 11) w16
    else
      Does Try.prog 26 #[.pointer m1, .int .i64 to2] w16 (fun v w19 => v = .tuple #[] ∧ k (.int .i64 0) w19)))))
set_option maxRecDepth 100000 in
set_option maxHeartbeats 2000000 in
theorem w16 (m1 : Option Addr) (to2 : Int) (now3 : Int) (w4 : World) (k : Value → World → Prop) (h : F16 m1 to2 now3 w4 k) : Does Try.prog 16 #[.pointer m1, .int .i64 to2, .int .i64 now3] w4 k := by
  refine enter 28 Try.func16 rfl rfl rfl ?_
  intro ρ hρ
  have e0 := hρ 0 _ rfl
  have e1 := hρ 1 _ rfl
  have e2 := hρ 2 _ rfl
  unfold F16 at h
  refine WC_seq ?_
  refine WC_region ?_
  refine WL_val gd0 ((o_assign (v := .int .i64 0) rfl) _) rfl ?_
  refine WL_nil ?_
  refine nrm ?_
  refine WC_seq ?_
  refine WC_seq ?_
  refine WC_region ?_
  refine WL_val gd0 ((o_move (v := .pointer m1) (by exact e0)) _) rfl ?_
  refine WL_call gd0 (o_call Try.call24 (argCons rfl argNil) _) rfl (h.mono ?_)
  rintro _ w5 ⟨x6, rfl, h⟩
  refine WL_val gd0 ((o_not rfl) _) rfl ?_
  refine WL_nil ?_
  refine nrm ?_
  refine WC_cond (t := (!x6)) rfl (fun hb7 => ?_) (fun hb7 => ?_)
  · rw [if_pos hb7] at h
    refine WC_seq ?_
    refine WC_region ?_
    refine WL_val gd0 ((o_assign (v := .int .i64 2) rfl) _) rfl ?_
    refine WL_nil ?_
    refine nrm ?_
    refine WC_ret ?_
    refine rtT ?_
    refine rtE ?_
    exact gv1 rfl rfl h
  · rw [if_neg (neT hb7)] at h
    refine WC_skip ?_
    refine nrm ?_
    refine WC_seq ?_
    refine WC_region ?_
    refine WL_val gd0 ((o_move (v := .pointer m1) (by exact e0)) _) rfl ?_
    refine WL_val gd0 ((o_move (v := .int .i64 now3) (by exact e2)) _) rfl ?_
    refine WL_call gd0 (o_call Try.call25 (argCons rfl (argCons rfl argNil)) _) rfl (h.mono ?_)
    rintro _ w8 ⟨rfl, h⟩
    refine WL_nil ?_
    refine nrm ?_
    refine WC_seq ?_
    refine WC_block ?_
    refine WC_seq ?_
    refine WC_region ?_
    refine WL_val gd0 ((o_move (v := .int .i64 to2) (by exact e1)) _) rfl ?_
    refine WL_call gd0 (o_call Try.call22 (argCons rfl argNil) _) rfl (h.mono ?_)
    rintro _ w9 ⟨x10, rfl, h⟩
    refine WL_val gd0 ((o_not rfl) _) rfl ?_
    refine WL_val gd0 ((o_assign (v := .bool (!x10)) rfl) _) rfl ?_
    refine WL_nil ?_
    refine nrm ?_
    refine WC_cond (t := (!x10)) rfl (fun hb11 => ?_) (fun hb11 => ?_)
    · rw [if_pos hb11] at h
      refine WC_seq ?_
      refine WC_region ?_
      refine WL_val gd0 ((o_assign (v := .int .i64 1) rfl) _) rfl ?_
      refine WL_nil ?_
      refine nrm ?_
      refine WC_ret ?_
      refine rtB ?_
      refine rtT ?_
      refine rtE ?_
      exact gv1 rfl rfl h
    · rw [if_neg (neT hb11)] at h
      refine WC_seq ?_
      refine WC_region ?_
      refine WL_val gd0 ((o_move (v := .pointer m1) (by exact e0)) _) rfl ?_
      obtain ⟨p12, q13, h⟩ := h
      refine WL_val gd0 ((o_nilCheck (by exact (congrArg Value.pointer q13))) _) rfl ?_
      refine WL_val gd0 ((o_fieldAddr 2 Try.underlying48 rfl Try.sizeOf3 rfl rfl rfl) _) rfl ?_
      obtain ⟨x14, hc15, h⟩ := h
      refine WL_val gd0 (o_load Try.isAgg3 rfl hc15) rfl ?_
      refine WL_val gd0 ((o_move (v := .int .i64 to2) (by exact e1)) _) rfl ?_
      refine WL_call gd0 (o_call Try.call13 (argCons rfl (argCons rfl argNil)) _) rfl (h.mono ?_)
      rintro _ w16 ⟨x17, rfl, h⟩
      refine WL_val gd0 ((o_not rfl) _) rfl ?_
      refine WL_val gd0 ((o_assign (v := .bool (!x17)) rfl) _) rfl ?_
      refine WL_nil ?_
      refine nrm ?_
      refine WC_cond (t := (!x17)) rfl (fun hb18 => ?_) (fun hb18 => ?_)
      · rw [if_pos hb18] at h
        refine WC_seq ?_
        refine WC_region ?_
        refine WL_val gd0 ((o_assign (v := .int .i64 11) rfl) _) rfl ?_
        refine WL_nil ?_
        refine nrm ?_
        refine WC_ret ?_
        refine rtB ?_
        refine rtT ?_
        refine rtE ?_
        exact gv1 rfl rfl h
      · rw [if_neg (neT hb18)] at h
        refine WC_skip ?_
        refine nrmB ?_
        refine nrm ?_
        refine WC_seq ?_
        refine WC_region ?_
        refine WL_val gd0 ((o_move (v := .pointer m1) (by exact e0)) _) rfl ?_
        refine WL_val gd0 ((o_move (v := .int .i64 to2) (by exact e1)) _) rfl ?_
        refine WL_call gd0 (o_call Try.call26 (argCons rfl (argCons rfl argNil)) _) rfl (h.mono ?_)
        rintro _ w19 ⟨rfl, h⟩
        refine WL_nil ?_
        refine nrm ?_
        refine WC_seq ?_
        refine WC_region ?_
        refine WL_val gd0 ((o_assign (v := .int .i64 0) rfl) _) rfl ?_
        refine WL_nil ?_
        refine nrm ?_
        refine WC_ret ?_
        refine rtE ?_
        exact gv1 rfl rfl h

/-- (*spacecraft mode.Manager).Mode -/
def F17 (m1 : Option Addr) (w2 : World) (k : Value → World → Prop) : Prop :=
  Does Try.prog 24 #[.pointer m1] w2 (fun v w3 => ∃ (x4 : Bool), v = .bool x4 ∧ if (!x4) = true then
  k (.int .i64 0) w3
else
  ∃ (p6 : Addr), m1 = some p6 ∧ ∃ (t8 : Int), w3.cell? (p6.add 2) = some (.int .i64 t8) ∧ k (.int .i64 t8) w3)
set_option maxRecDepth 100000 in
set_option maxHeartbeats 2000000 in
theorem w17 (m1 : Option Addr) (w2 : World) (k : Value → World → Prop) (h : F17 m1 w2 k) : Does Try.prog 17 #[.pointer m1] w2 k := by
  refine enter 10 Try.func17 rfl rfl rfl ?_
  intro ρ hρ
  have e0 := hρ 0 _ rfl
  unfold F17 at h
  refine WC_seq ?_
  refine WC_region ?_
  refine WL_val gd0 ((o_assign (v := .int .i64 0) rfl) _) rfl ?_
  refine WL_nil ?_
  refine nrm ?_
  refine WC_seq ?_
  refine WC_seq ?_
  refine WC_region ?_
  refine WL_val gd0 ((o_move (v := .pointer m1) (by exact e0)) _) rfl ?_
  refine WL_call gd0 (o_call Try.call24 (argCons rfl argNil) _) rfl (h.mono ?_)
  rintro _ w3 ⟨x4, rfl, h⟩
  refine WL_val gd0 ((o_not rfl) _) rfl ?_
  refine WL_nil ?_
  refine nrm ?_
  refine WC_cond (t := (!x4)) rfl (fun hb5 => ?_) (fun hb5 => ?_)
  · rw [if_pos hb5] at h
    refine WC_seq ?_
    refine WC_region ?_
    refine WL_val gd0 ((o_assign (v := .int .i64 0) rfl) _) rfl ?_
    refine WL_nil ?_
    refine nrm ?_
    refine WC_ret ?_
    refine rtT ?_
    refine rtE ?_
    exact gv1 rfl rfl h
  · rw [if_neg (neT hb5)] at h
    refine WC_skip ?_
    refine nrm ?_
    refine WC_seq ?_
    refine WC_region ?_
    refine WL_val gd0 ((o_move (v := .pointer m1) (by exact e0)) _) rfl ?_
    obtain ⟨p6, q7, h⟩ := h
    refine WL_val gd0 ((o_nilCheck (by exact (congrArg Value.pointer q7))) _) rfl ?_
    refine WL_val gd0 ((o_fieldAddr 2 Try.underlying48 rfl Try.sizeOf3 rfl rfl rfl) _) rfl ?_
    obtain ⟨t8, hc9, h⟩ := h
    refine WL_val gd0 (o_load Try.isAgg3 rfl hc9) rfl ?_
    refine WL_val gd0 ((o_assign (v := .int .i64 t8) rfl) _) rfl ?_
    refine WL_nil ?_
    refine nrm ?_
    refine WC_ret ?_
    refine rtE ?_
    exact gv1 rfl rfl h

/-- (*spacecraft mode.Manager).Changes -/
def F18 (m1 : Option Addr) (w2 : World) (k : Value → World → Prop) : Prop :=
  Does Try.prog 24 #[.pointer m1] w2 (fun v w3 => ∃ (x4 : Bool), v = .bool x4 ∧ if (!x4) = true then
  k (.slice none 0 0) w3
else
  ∃ (p6 : Addr), m1 = some p6 ∧ ∃ (x_a8 : Option Addr) (x_n9 x_c10 : Nat), w3.cell? (p6.add 3) = some (.slice x_a8 x_n9 x_c10) ∧ Does Try.prog 27 #[.slice x_a8 x_n9 x_c10] w3 (fun v w12 => ∃ (t_a13 : Option Addr) (t_n14 t_c15 : Nat), v = .slice t_a13 t_n14 t_c15 ∧ k (.slice t_a13 t_n14 t_c15) w12))
set_option maxRecDepth 100000 in
set_option maxHeartbeats 2000000 in
theorem w18 (m1 : Option Addr) (w2 : World) (k : Value → World → Prop) (h : F18 m1 w2 k) : Does Try.prog 18 #[.pointer m1] w2 k := by
  refine enter 11 Try.func18 rfl rfl rfl ?_
  intro ρ hρ
  have e0 := hρ 0 _ rfl
  unfold F18 at h
  refine WC_seq ?_
  refine WC_region ?_
  refine WL_val gd0 ((o_assign (v := .slice none 0 0) rfl) _) rfl ?_
  refine WL_nil ?_
  refine nrm ?_
  refine WC_seq ?_
  refine WC_seq ?_
  refine WC_region ?_
  refine WL_val gd0 ((o_move (v := .pointer m1) (by exact e0)) _) rfl ?_
  refine WL_call gd0 (o_call Try.call24 (argCons rfl argNil) _) rfl (h.mono ?_)
  rintro _ w3 ⟨x4, rfl, h⟩
  refine WL_val gd0 ((o_not rfl) _) rfl ?_
  refine WL_nil ?_
  refine nrm ?_
  refine WC_cond (t := (!x4)) rfl (fun hb5 => ?_) (fun hb5 => ?_)
  · rw [if_pos hb5] at h
    refine WC_seq ?_
    refine WC_region ?_
    refine WL_val gd0 ((o_assign (v := .slice none 0 0) rfl) _) rfl ?_
    refine WL_nil ?_
    refine nrm ?_
    refine WC_ret ?_
    refine rtT ?_
    refine rtE ?_
    exact gv1 rfl rfl h
  · rw [if_neg (neT hb5)] at h
    refine WC_skip ?_
    refine nrm ?_
    refine WC_seq ?_
    refine WC_region ?_
    refine WL_val gd0 ((o_move (v := .pointer m1) (by exact e0)) _) rfl ?_
    obtain ⟨p6, q7, h⟩ := h
    refine WL_val gd0 ((o_nilCheck (by exact (congrArg Value.pointer q7))) _) rfl ?_
    refine WL_val gd0 ((o_fieldAddr 3 Try.underlying48 rfl Try.sizeOf43 rfl rfl rfl) _) rfl ?_
    obtain ⟨x_a8, x_n9, x_c10, hc11, h⟩ := h
    refine WL_val gd0 (o_load Try.isAgg43 rfl hc11) rfl ?_
    refine WL_call gd0 (o_call Try.call27 (argCons rfl argNil) _) rfl (h.mono ?_)
    rintro _ w12 ⟨t_a13, t_n14, t_c15, rfl, h⟩
    refine WL_val gd0 ((o_assign (v := .slice t_a13 t_n14 t_c15) rfl) _) rfl ?_
    refine WL_nil ?_
    refine nrm ?_
    refine WC_ret ?_
    refine rtE ?_
    exact gv1 rfl rfl h

/-- (*spacecraft mode.Manager).Clone -/
def F19 (m1 : Option Addr) (w2 : World) (k : Value → World → Prop) : Prop :=
  Does Try.prog 24 #[.pointer m1] w2 (fun v w3 => ∃ (x4 : Bool), v = .bool x4 ∧ if (!x4) = true then
  k (.pointer none) w3
else
  ∃ (p6 : Addr), m1 = some p6 ∧ ∃ (x8 : Bool) (x9 x10 : Int) (x_a11 : Option Addr) (x_n12 x_c13 : Nat), Cells w3 p6 0 [.bool x8, .int .i64 x9, .int .i64 x10, .slice x_a11 x_n12 x_c13] ∧ New w3 48 [.bool false, .int .i64 0, .int .i64 0, .slice none 0 0] (fun p15 w16 => PutAll w16 p15 [.bool x8, .int .i64 x9, .int .i64 x10, .slice x_a11 x_n12 x_c13] (fun w17 => ∃ (x_a19 : Option Addr) (x_n20 x_c21 : Nat), w17.cell? (p6.add 3) = some (.slice x_a19 x_n20 x_c21) ∧ Does Try.prog 27 #[.slice x_a19 x_n20 x_c21] w17 (fun v w23 => ∃ (x_a24 : Option Addr) (x_n25 x_c26 : Nat), v = .slice x_a24 x_n25 x_c26 ∧ Put w23 (p15.add 3) (.slice x_a24 x_n25 x_c26) (fun w27 => k (.pointer (some p15)) w27)))))
set_option maxRecDepth 100000 in
set_option maxHeartbeats 2000000 in
theorem w19 (m1 : Option Addr) (w2 : World) (k : Value → World → Prop) (h : F19 m1 w2 k) : Does Try.prog 19 #[.pointer m1] w2 k := by
  refine enter 16 Try.func19 rfl rfl rfl ?_
  intro ρ hρ
  have e0 := hρ 0 _ rfl
  unfold F19 at h
  refine WC_seq ?_
  refine WC_region ?_
  refine WL_val gd0 ((o_assign (v := .pointer none) rfl) _) rfl ?_
  refine WL_nil ?_
  refine nrm ?_
  refine WC_seq ?_
  refine WC_seq ?_
  refine WC_region ?_
  refine WL_val gd0 ((o_move (v := .pointer m1) (by exact e0)) _) rfl ?_
  refine WL_call gd0 (o_call Try.call24 (argCons rfl argNil) _) rfl (h.mono ?_)
  rintro _ w3 ⟨x4, rfl, h⟩
  refine WL_val gd0 ((o_not rfl) _) rfl ?_
  refine WL_nil ?_
  refine nrm ?_
  refine WC_cond (t := (!x4)) rfl (fun hb5 => ?_) (fun hb5 => ?_)
  · rw [if_pos hb5] at h
    refine WC_seq ?_
    refine WC_region ?_
    refine WL_val gd0 ((o_assign (v := .pointer none) rfl) _) rfl ?_
    refine WL_nil ?_
    refine nrm ?_
    refine WC_ret ?_
    refine rtT ?_
    refine rtE ?_
    exact gv1 rfl rfl h
  · rw [if_neg (neT hb5)] at h
    refine WC_skip ?_
    refine nrm ?_
    refine WC_seq ?_
    refine WC_region ?_
    refine WL_val gd0 ((o_move (v := .pointer m1) (by exact e0)) _) rfl ?_
    obtain ⟨p6, q7, h⟩ := h
    refine WL_val gd0 ((o_nilCheck (by exact (congrArg Value.pointer q7))) _) rfl ?_
    obtain ⟨x8, x9, x10, x_a11, x_n12, x_c13, hc14, h⟩ := h
    refine WL_val gd0 (o_loadAgg (vs := [.bool x8, .int .i64 x9, .int .i64 x10, .slice x_a11 x_n12 x_c13]) Try.isAgg48 Try.sizeOf48 rfl hc14) rfl ?_
    have h := New.out h
    refine WL_val gd0 (o_alloc (z := .agg #[.bool false, .int .i64 0, .int .i64 0, .slice none 0 0]) (cs := [.bool false, .int .i64 0, .int .i64 0, .slice none 0 0]) Try.zeroValue48 rfl) rfl ?_
    generalize hp15 : fresh w3 = p15 at h ⊢
    generalize hw16 : push w3 48 [.bool false, .int .i64 0, .int .i64 0, .slice none 0 0] = w16 at h ⊢
    try dsimp only at h
    obtain ⟨c18, h⟩ := h
    refine WL_act gd0 (o_storeAgg (vs := [.bool x8, .int .i64 x9, .int .i64 x10, .slice x_a11 x_n12 x_c13]) Try.sizeOf48 rfl rfl rfl c18) ?_
    generalize hw17 : setAll w16 p15 0 [.bool x8, .int .i64 x9, .int .i64 x10, .slice x_a11 x_n12 x_c13] = w17 at h ⊢
    try dsimp only at h
    refine WL_nil ?_
    refine nrm ?_
    refine WC_seq ?_
    refine WC_region ?_
    refine WL_val gd0 ((o_move (v := .pointer m1) (by exact e0)) _) rfl ?_
    refine WL_val gd0 ((o_nilCheck (by exact (congrArg Value.pointer q7))) _) rfl ?_
    refine WL_val gd0 ((o_fieldAddr 3 Try.underlying48 rfl Try.sizeOf43 rfl rfl rfl) _) rfl ?_
    obtain ⟨x_a19, x_n20, x_c21, hc22, h⟩ := h
    refine WL_val gd0 (o_load Try.isAgg43 rfl hc22) rfl ?_
    refine WL_call gd0 (o_call Try.call27 (argCons rfl argNil) _) rfl (h.mono ?_)
    rintro _ w23 ⟨x_a24, x_n25, x_c26, rfl, h⟩
    refine WL_val gd0 ((o_fieldAddr 3 Try.underlying48 rfl Try.sizeOf43 rfl rfl rfl) _) rfl ?_
    obtain ⟨c28, h⟩ := h
    refine WL_act gd0 (o_store (v := .slice x_a24 x_n25 x_c26) Try.sizeOf43 rfl rfl rfl c28) ?_
    generalize hw27 : World.setCell w23 (p15.add 3) (.slice x_a24 x_n25 x_c26) = w27 at h ⊢
    try dsimp only at h
    refine WL_nil ?_
    refine nrm ?_
    refine WC_seq ?_
    refine WC_region ?_
    refine WL_val gd0 ((o_assign (v := .pointer (some p15)) rfl) _) rfl ?_
    refine WL_nil ?_
    refine nrm ?_
    refine WC_ret ?_
    refine rtE ?_
    exact gv1 rfl rfl h

/-- (*spacecraft spacecraftref45.Manager).Safe -/
def F20 (m1 : Option Addr) (now2 : Int) (w3 : World) (k : Value → World → Prop) : Prop :=
  Does Try.prog 28 #[.pointer m1, .int .i64 now2] w3 (fun v w4 => v = .tuple #[] ∧ ∃ (p5 : Addr), m1 = some p5 ∧ ∃ (x7 : Int), w4.cell? p5 = some (.int .i64 x7) ∧ if x7 ≠ 1 then
  Does Try.prog 29 #[.pointer m1, .int .i64 1] w4 (fun v w10 => v = .tuple #[] ∧ k (.tuple #[]) w10)
else
  k (.tuple #[]) w4)
set_option maxRecDepth 100000 in
set_option maxHeartbeats 2000000 in
theorem w20 (m1 : Option Addr) (now2 : Int) (w3 : World) (k : Value → World → Prop) (h : F20 m1 now2 w3 k) : Does Try.prog 20 #[.pointer m1, .int .i64 now2] w3 k := by
  refine enter 14 Try.func20 rfl rfl rfl ?_
  intro ρ hρ
  have e0 := hρ 0 _ rfl
  have e1 := hρ 1 _ rfl
  unfold F20 at h
  refine WC_seq ?_
  refine WC_region ?_
  refine WL_val gd0 ((o_move (v := .pointer m1) (by exact e0)) _) rfl ?_
  refine WL_val gd0 ((o_move (v := .int .i64 now2) (by exact e1)) _) rfl ?_
  refine WL_call gd0 (o_call Try.call28 (argCons rfl (argCons rfl argNil)) _) rfl (h.mono ?_)
  rintro _ w4 ⟨rfl, h⟩
  refine WL_nil ?_
  refine nrm ?_
  refine WC_seq ?_
  refine WC_region ?_
  refine WL_val gd0 ((o_move (v := .pointer m1) (by exact e0)) _) rfl ?_
  obtain ⟨p5, q6, h⟩ := h
  refine WL_val gd0 ((o_nilCheck (by exact (congrArg Value.pointer q6))) _) rfl ?_
  refine WL_val gd0 ((o_fieldAddr0 Try.underlying28 rfl Try.sizeOf3 rfl rfl rfl) _) rfl ?_
  obtain ⟨x7, hc8, h⟩ := h
  refine WL_val gd0 (o_load Try.isAgg3 rfl hc8) rfl ?_
  refine WL_val gd0 ((o_neq rfl rfl) _) rfl ?_
  refine WL_nil ?_
  refine nrm ?_
  refine WC_cond (t := (decide (x7 ≠ 1))) rfl (fun hb9 => ?_) (fun hb9 => ?_)
  · rw [if_pos (of_decide_eq_true hb9)] at h
    refine WC_region ?_
    refine WL_val gd0 ((o_move (v := .pointer m1) (by exact e0)) _) rfl ?_
    refine WL_call gd0 (o_call Try.call29 (argCons rfl (argCons rfl argNil)) _) rfl (h.mono ?_)
    rintro _ w10 ⟨rfl, h⟩
    refine WL_nil ?_
    refine ndE ?_
    exact gv0 rfl h
  · rw [if_neg (of_decide_eq_false hb9)] at h
    refine WC_skip ?_
    refine ndE ?_
    exact gv0 rfl h

/-- (*spacecraft spacecraftref45.Manager).Request -/
def F21 (m1 : Option Addr) (to2 : Int) (now3 : Int) (w4 : World) (k : Value → World → Prop) : Prop :=
  Does Try.prog 28 #[.pointer m1, .int .i64 now3] w4 (fun v w5 => v = .tuple #[] ∧ if to2 < 0 then
  k (.int .i64 1) w5
else
  if 5 ≤ to2 then
    k (.int .i64 1) w5
  else
    ∃ (p8 : Addr), m1 = some p8 ∧ ∃ (x10 : Int), w5.cell? p8 = some (.int .i64 x10) ∧ Does Try.prog 14 #[.int .i64 x10, .int .i64 to2] w5 (fun v w12 => ∃ (x13 : Bool), v = .bool x13 ∧ if (!x13) = true then
      k (.int .i64 11) w12
    else
      Does Try.prog 29 #[.pointer m1, .int .i64 to2] w12 (fun v w15 => v = .tuple #[] ∧ k (.int .i64 0) w15)))
set_option maxRecDepth 100000 in
set_option maxHeartbeats 2000000 in
theorem w21 (m1 : Option Addr) (to2 : Int) (now3 : Int) (w4 : World) (k : Value → World → Prop) (h : F21 m1 to2 now3 w4 k) : Does Try.prog 21 #[.pointer m1, .int .i64 to2, .int .i64 now3] w4 k := by
  refine enter 26 Try.func21 rfl rfl rfl ?_
  intro ρ hρ
  have e0 := hρ 0 _ rfl
  have e1 := hρ 1 _ rfl
  have e2 := hρ 2 _ rfl
  unfold F21 at h
  refine WC_seq ?_
  refine WC_region ?_
  refine WL_val gd0 ((o_assign (v := .int .i64 0) rfl) _) rfl ?_
  refine WL_nil ?_
  refine nrm ?_
  refine WC_seq ?_
  refine WC_region ?_
  refine WL_val gd0 ((o_move (v := .pointer m1) (by exact e0)) _) rfl ?_
  refine WL_val gd0 ((o_move (v := .int .i64 now3) (by exact e2)) _) rfl ?_
  refine WL_call gd0 (o_call Try.call28 (argCons rfl (argCons rfl argNil)) _) rfl (h.mono ?_)
  rintro _ w5 ⟨rfl, h⟩
  refine WL_nil ?_
  refine nrm ?_
  refine WC_seq ?_
  refine WC_seq ?_
  refine WC_region ?_
  refine WL_val gd0 ((o_move (v := .int .i64 to2) (by exact e1)) _) rfl ?_
  refine WL_val gd0 ((o_lss rfl rfl) _) rfl ?_
  refine WL_val gd0 ((o_move (v := .bool (decide (to2 < 0))) rfl) _) rfl ?_
  refine bsplit (decide (to2 < 0)) (fun hb6 => ?_) (fun hb6 => ?_)
  · rw [if_pos (of_decide_eq_true hb6)] at h
    refine WL_skip (gdN (b := (decide (to2 < 0))) 12 rfl rfl hb6) rfl ?_
    refine WL_skip (gdN (b := (decide (to2 < 0))) 12 rfl rfl hb6) rfl ?_
    refine WL_val gd0 ((o_pickT (v := .bool true) rfl hb6 rfl) _) rfl ?_
    refine WL_nil ?_
    refine nrm ?_
    refine WC_cond (t := true) rfl (fun _ => ?_) (fun hx => by rw [(rfl : true = true)] at hx; cases hx)
    refine WC_seq ?_
    refine WC_region ?_
    refine WL_val gd0 ((o_assign (v := .int .i64 1) rfl) _) rfl ?_
    refine WL_nil ?_
    refine nrm ?_
    refine WC_ret ?_
    refine rtT ?_
    refine rtE ?_
    exact gv1 rfl rfl h
  · rw [if_neg (of_decide_eq_false hb6)] at h
    refine WL_val (gdY (b := (decide (to2 < 0))) 12 rfl rfl hb6) ((o_move (v := .int .i64 to2) (by exact e1)) _) rfl ?_
    refine WL_val (gdY (b := (decide (to2 < 0))) 12 rfl rfl hb6) ((o_geq rfl rfl) _) rfl ?_
    refine WL_val gd0 ((o_pickF (v := .bool (decide (5 ≤ to2))) rfl hb6 rfl) _) rfl ?_
    refine WL_nil ?_
    refine nrm ?_
    refine WC_cond (t := (decide (5 ≤ to2))) rfl (fun hb7 => ?_) (fun hb7 => ?_)
    · rw [if_pos (of_decide_eq_true hb7)] at h
      refine WC_seq ?_
      refine WC_region ?_
      refine WL_val gd0 ((o_assign (v := .int .i64 1) rfl) _) rfl ?_
      refine WL_nil ?_
      refine nrm ?_
      refine WC_ret ?_
      refine rtT ?_
      refine rtE ?_
      exact gv1 rfl rfl h
    · rw [if_neg (of_decide_eq_false hb7)] at h
      refine WC_skip ?_
      refine nrm ?_
      refine WC_seq ?_
      refine WC_seq ?_
      refine WC_region ?_
      refine WL_val gd0 ((o_move (v := .pointer m1) (by exact e0)) _) rfl ?_
      obtain ⟨p8, q9, h⟩ := h
      refine WL_val gd0 ((o_nilCheck (by exact (congrArg Value.pointer q9))) _) rfl ?_
      refine WL_val gd0 ((o_fieldAddr0 Try.underlying28 rfl Try.sizeOf3 rfl rfl rfl) _) rfl ?_
      obtain ⟨x10, hc11, h⟩ := h
      refine WL_val gd0 (o_load Try.isAgg3 rfl hc11) rfl ?_
      refine WL_val gd0 ((o_move (v := .int .i64 to2) (by exact e1)) _) rfl ?_
      refine WL_call gd0 (o_call Try.call14 (argCons rfl (argCons rfl argNil)) _) rfl (h.mono ?_)
      rintro _ w12 ⟨x13, rfl, h⟩
      refine WL_val gd0 ((o_not rfl) _) rfl ?_
      refine WL_nil ?_
      refine nrm ?_
      refine WC_cond (t := (!x13)) rfl (fun hb14 => ?_) (fun hb14 => ?_)
      · rw [if_pos hb14] at h
        refine WC_seq ?_
        refine WC_region ?_
        refine WL_val gd0 ((o_assign (v := .int .i64 11) rfl) _) rfl ?_
        refine WL_nil ?_
        refine nrm ?_
        refine WC_ret ?_
        refine rtT ?_
        refine rtE ?_
        exact gv1 rfl rfl h
      · rw [if_neg (neT hb14)] at h
        refine WC_skip ?_
        refine nrm ?_
        refine WC_seq ?_
        refine WC_region ?_
        refine WL_val gd0 ((o_move (v := .pointer m1) (by exact e0)) _) rfl ?_
        refine WL_val gd0 ((o_move (v := .int .i64 to2) (by exact e1)) _) rfl ?_
        refine WL_call gd0 (o_call Try.call29 (argCons rfl (argCons rfl argNil)) _) rfl (h.mono ?_)
        rintro _ w15 ⟨rfl, h⟩
        refine WL_nil ?_
        refine nrm ?_
        refine WC_seq ?_
        refine WC_region ?_
        refine WL_val gd0 ((o_assign (v := .int .i64 0) rfl) _) rfl ?_
        refine WL_nil ?_
        refine nrm ?_
        refine WC_ret ?_
        refine rtE ?_
        exact gv1 rfl rfl h

/-- spacecraft mode.is -/
def F22 (mode1 : Int) (w2 : World) (k : Value → World → Prop) : Prop :=
  if 0 ≤ mode1 then
  k (.bool (decide (mode1 < 5))) w2
else
  k (.bool false) w2
set_option maxRecDepth 100000 in
set_option maxHeartbeats 2000000 in
theorem w22 (mode1 : Int) (w2 : World) (k : Value → World → Prop) (h : F22 mode1 w2 k) : Does Try.prog 22 #[.int .i64 mode1] w2 k := by
  refine enter 9 Try.func22 rfl rfl rfl ?_
  intro ρ hρ
  have e0 := hρ 0 _ rfl
  unfold F22 at h
  refine WC_seq ?_
  refine WC_region ?_
  refine WL_val gd0 ((o_assign (v := .bool false) rfl) _) rfl ?_
  refine WL_nil ?_
  refine nrm ?_
  refine WC_seq ?_
  refine WC_region ?_
  refine WL_val gd0 ((o_move (v := .int .i64 mode1) (by exact e0)) _) rfl ?_
  refine WL_val gd0 ((o_geq rfl rfl) _) rfl ?_
  refine WL_val gd0 ((o_move (v := .bool (decide (0 ≤ mode1))) rfl) _) rfl ?_
  refine bsplit (decide (0 ≤ mode1)) (fun hb3 => ?_) (fun hb3 => ?_)
  · rw [if_pos (of_decide_eq_true hb3)] at h
    refine WL_val (gdY (b := (decide (0 ≤ mode1))) 5 rfl rfl hb3) ((o_move (v := .int .i64 mode1) (by exact e0)) _) rfl ?_
    refine WL_val (gdY (b := (decide (0 ≤ mode1))) 5 rfl rfl hb3) ((o_lss rfl rfl) _) rfl ?_
    refine WL_val gd0 ((o_pickT (v := .bool (decide (mode1 < 5))) rfl hb3 rfl) _) rfl ?_
    refine WL_val gd0 ((o_assign (v := .bool (decide (mode1 < 5))) rfl) _) rfl ?_
    refine WL_nil ?_
    refine nrm ?_
    refine WC_ret ?_
    refine rtE ?_
    exact gv1 rfl rfl h
  · rw [if_neg (of_decide_eq_false hb3)] at h
    refine WL_skip (gdN (b := (decide (0 ≤ mode1))) 5 rfl rfl hb3) rfl ?_
    refine WL_skip (gdN (b := (decide (0 ≤ mode1))) 5 rfl rfl hb3) rfl ?_
    refine WL_val gd0 ((o_pickF (v := .bool false) rfl hb3 rfl) _) rfl ?_
    refine WL_val gd0 ((o_assign (v := .bool false) rfl) _) rfl ?_
    refine WL_nil ?_
    refine nrm ?_
    refine WC_ret ?_
    refine rtE ?_
    exact gv1 rfl rfl h

/-- spacecraft mode.table -/
def F23 (w1 : World) (k : Value → World → Prop) : Prop :=
  New w1 53 [.bool false, .bool false, .bool false, .bool false, .bool false, .bool false, .bool false, .bool false, .bool false, .bool false, .bool false, .bool false, .bool false, .bool false, .bool false, .bool false, .bool false, .bool false, .bool false, .bool false, .bool false, .bool false, .bool false, .bool false, .bool false] (fun p2 w3 => New w3 53 [.bool false, .bool false, .bool false, .bool false, .bool false, .bool false, .bool false, .bool false, .bool false, .bool false, .bool false, .bool false, .bool false, .bool false, .bool false, .bool false, .bool false, .bool false, .bool false, .bool false, .bool false, .bool false, .bool false, .bool false, .bool false] (fun p4 w5 => (0 : Int) ≤ 1 ∧ 1 < (5 : Int) ∧ (0 : Int) ≤ 2 ∧ 2 < (5 : Int) ∧ Put w5 ((p4.add (((1 : Int).toNat) * 5)).add ((2 : Int).toNat)) (.bool true) (fun w10 => New w10 52 [.bool false, .bool false, .bool false, .bool false, .bool false] (fun p12 w13 => (0 : Int) ≤ 1 ∧ 1 < (5 : Int) ∧ Put w13 (p12.add ((1 : Int).toNat)) (.bool true) (fun w16 => (0 : Int) ≤ 3 ∧ 3 < (5 : Int) ∧ Put w16 (p12.add ((3 : Int).toNat)) (.bool true) (fun w20 => (0 : Int) ≤ 2 ∧ 2 < (5 : Int) ∧ ∃ (n24 : Int) (w25 : World), (Builtin.copy_ #[56, 56] 3 #[.slice (some (p4.add (((2 : Int).toNat) * 5))) 5 5, .slice (some p12) 5 5]).run Try.prog w20.drew = .ok (.int .i64 n24) w25 ∧ (0 : Int) ≤ 4 ∧ 4 < (5 : Int) ∧ ∃ (n29 : Int) (w30 : World), (Builtin.copy_ #[56, 56] 3 #[.slice (some (p4.add (((4 : Int).toNat) * 5))) 5 5, .slice (some p12) 5 5]).run Try.prog w25.drew = .ok (.int .i64 n29) w30 ∧ (0 : Int) ≤ 3 ∧ 3 < (5 : Int) ∧ (0 : Int) ≤ 1 ∧ 1 < (5 : Int) ∧ Put w30 ((p4.add (((3 : Int).toNat) * 5)).add ((1 : Int).toNat)) (.bool true) (fun w36 => (0 : Int) ≤ 3 ∧ 3 < (5 : Int) ∧ (0 : Int) ≤ 2 ∧ 2 < (5 : Int) ∧ Put w36 ((p4.add (((3 : Int).toNat) * 5)).add ((2 : Int).toNat)) (.bool true) (fun w42 => (0 : Int) ≤ 3 ∧ 3 < (5 : Int) ∧ (0 : Int) ≤ 4 ∧ 4 < (5 : Int) ∧ Put w42 ((p4.add (((3 : Int).toNat) * 5)).add ((4 : Int).toNat)) (.bool true) (fun w48 => ∃ (x50 x51 x52 x53 x54 x55 x56 x57 x58 x59 x60 x61 x62 x63 x64 x65 x66 x67 x68 x69 x70 x71 x72 x73 x74 : Bool), Cells w48 p4 0 [.bool x50, .bool x51, .bool x52, .bool x53, .bool x54, .bool x55, .bool x56, .bool x57, .bool x58, .bool x59, .bool x60, .bool x61, .bool x62, .bool x63, .bool x64, .bool x65, .bool x66, .bool x67, .bool x68, .bool x69, .bool x70, .bool x71, .bool x72, .bool x73, .bool x74] ∧ PutAll w48 p2 [.bool x50, .bool x51, .bool x52, .bool x53, .bool x54, .bool x55, .bool x56, .bool x57, .bool x58, .bool x59, .bool x60, .bool x61, .bool x62, .bool x63, .bool x64, .bool x65, .bool x66, .bool x67, .bool x68, .bool x69, .bool x70, .bool x71, .bool x72, .bool x73, .bool x74] (fun w76 => ∃ (r78 r79 r80 r81 r82 r83 r84 r85 r86 r87 r88 r89 r90 r91 r92 r93 r94 r95 r96 r97 r98 r99 r100 r101 r102 : Bool), Cells w76 p2 0 [.bool r78, .bool r79, .bool r80, .bool r81, .bool r82, .bool r83, .bool r84, .bool r85, .bool r86, .bool r87, .bool r88, .bool r89, .bool r90, .bool r91, .bool r92, .bool r93, .bool r94, .bool r95, .bool r96, .bool r97, .bool r98, .bool r99, .bool r100, .bool r101, .bool r102] ∧ k (.agg #[.bool r78, .bool r79, .bool r80, .bool r81, .bool r82, .bool r83, .bool r84, .bool r85, .bool r86, .bool r87, .bool r88, .bool r89, .bool r90, .bool r91, .bool r92, .bool r93, .bool r94, .bool r95, .bool r96, .bool r97, .bool r98, .bool r99, .bool r100, .bool r101, .bool r102]) w76))))))))))
set_option maxRecDepth 100000 in
set_option maxHeartbeats 2000000 in
theorem w23 (w1 : World) (k : Value → World → Prop) (h : F23 w1 k) : Does Try.prog 23 #[] w1 k := by
  refine enter 22 Try.func23 rfl rfl rfl ?_
  intro ρ hρ
  unfold F23 at h
  refine WC_seq ?_
  refine WC_region ?_
  have h := New.out h
  refine WL_val gd0 (o_alloc (z := .agg #[.bool false, .bool false, .bool false, .bool false, .bool false, .bool false, .bool false, .bool false, .bool false, .bool false, .bool false, .bool false, .bool false, .bool false, .bool false, .bool false, .bool false, .bool false, .bool false, .bool false, .bool false, .bool false, .bool false, .bool false, .bool false]) (cs := [.bool false, .bool false, .bool false, .bool false, .bool false, .bool false, .bool false, .bool false, .bool false, .bool false, .bool false, .bool false, .bool false, .bool false, .bool false, .bool false, .bool false, .bool false, .bool false, .bool false, .bool false, .bool false, .bool false, .bool false, .bool false]) Try.zeroValue53 rfl) rfl ?_
  generalize hp2 : fresh w1 = p2 at h ⊢
  generalize hw3 : push w1 53 [.bool false, .bool false, .bool false, .bool false, .bool false, .bool false, .bool false, .bool false, .bool false, .bool false, .bool false, .bool false, .bool false, .bool false, .bool false, .bool false, .bool false, .bool false, .bool false, .bool false, .bool false, .bool false, .bool false, .bool false, .bool false] = w3 at h ⊢
  try dsimp only at h
  refine WL_nil ?_
  refine nrm ?_
  refine WC_seq ?_
  refine WC_region ?_
  have h := New.out h
  refine WL_val gd0 (o_alloc (z := .agg #[.bool false, .bool false, .bool false, .bool false, .bool false, .bool false, .bool false, .bool false, .bool false, .bool false, .bool false, .bool false, .bool false, .bool false, .bool false, .bool false, .bool false, .bool false, .bool false, .bool false, .bool false, .bool false, .bool false, .bool false, .bool false]) (cs := [.bool false, .bool false, .bool false, .bool false, .bool false, .bool false, .bool false, .bool false, .bool false, .bool false, .bool false, .bool false, .bool false, .bool false, .bool false, .bool false, .bool false, .bool false, .bool false, .bool false, .bool false, .bool false, .bool false, .bool false, .bool false]) Try.zeroValue53 rfl) rfl ?_
  generalize hp4 : fresh w3 = p4 at h ⊢
  generalize hw5 : push w3 53 [.bool false, .bool false, .bool false, .bool false, .bool false, .bool false, .bool false, .bool false, .bool false, .bool false, .bool false, .bool false, .bool false, .bool false, .bool false, .bool false, .bool false, .bool false, .bool false, .bool false, .bool false, .bool false, .bool false, .bool false, .bool false] = w5 at h ⊢
  try dsimp only at h
  refine WL_nil ?_
  refine nrm ?_
  refine WC_seq ?_
  refine WC_region ?_
  obtain ⟨l6, u7, h⟩ := h
  refine WL_val gd0 ((o_indexAddrArr Try.underlying53 Try.sizeOf52 rfl rfl l6 u7) _) rfl ?_
  obtain ⟨l8, u9, h⟩ := h
  refine WL_val gd0 ((o_indexAddrArr1 Try.underlying52 Try.sizeOf4 rfl rfl l8 u9) _) rfl ?_
  obtain ⟨c11, h⟩ := h
  refine WL_act gd0 (o_store (v := .bool true) Try.sizeOf4 rfl rfl rfl c11) ?_
  generalize hw10 : World.setCell w5 ((p4.add (((1 : Int).toNat) * 5)).add ((2 : Int).toNat)) (.bool true) = w10 at h ⊢
  try dsimp only at h
  refine WL_nil ?_
  refine nrm ?_
  refine WC_seq ?_
  refine WC_region ?_
  have h := New.out h
  refine WL_val gd0 (o_alloc (z := .agg #[.bool false, .bool false, .bool false, .bool false, .bool false]) (cs := [.bool false, .bool false, .bool false, .bool false, .bool false]) Try.zeroValue52 rfl) rfl ?_
  generalize hp12 : fresh w10 = p12 at h ⊢
  generalize hw13 : push w10 52 [.bool false, .bool false, .bool false, .bool false, .bool false] = w13 at h ⊢
  try dsimp only at h
  refine WL_nil ?_
  refine nrm ?_
  refine WC_seq ?_
  refine WC_region ?_
  obtain ⟨l14, u15, h⟩ := h
  refine WL_val gd0 ((o_indexAddrArr1 Try.underlying52 Try.sizeOf4 rfl rfl l14 u15) _) rfl ?_
  obtain ⟨c17, h⟩ := h
  refine WL_act gd0 (o_store (v := .bool true) Try.sizeOf4 rfl rfl rfl c17) ?_
  generalize hw16 : World.setCell w13 (p12.add ((1 : Int).toNat)) (.bool true) = w16 at h ⊢
  try dsimp only at h
  refine WL_nil ?_
  refine nrm ?_
  refine WC_seq ?_
  refine WC_region ?_
  obtain ⟨l18, u19, h⟩ := h
  refine WL_val gd0 ((o_indexAddrArr1 Try.underlying52 Try.sizeOf4 rfl rfl l18 u19) _) rfl ?_
  obtain ⟨c21, h⟩ := h
  refine WL_act gd0 (o_store (v := .bool true) Try.sizeOf4 rfl rfl rfl c21) ?_
  generalize hw20 : World.setCell w16 (p12.add ((3 : Int).toNat)) (.bool true) = w20 at h ⊢
  try dsimp only at h
  refine WL_nil ?_
  refine nrm ?_
  refine WC_seq ?_
  refine WC_draws [3] (.look 0 (.look 1 (.look 2 (.act 3 .nil)))) Try.mixed (by kernel_rfl) ?_
  obtain ⟨l22, u23, h⟩ := h
  refine WQ_val rfl gd0 (o_indexAddrArr Try.underlying53 Try.sizeOf52 rfl rfl l22 u23) rfl ?_
  refine WQ_val rfl gd0 (o_sliceArr Try.underlying52 Try.sizeOf4 rfl) rfl ?_
  refine WQ_val rfl gd0 (o_sliceArr Try.underlying52 Try.sizeOf4 rfl) rfl ?_
  obtain ⟨n24, w25, r26, h⟩ := h
  refine WQ_act rfl gd0 (o_copy rfl rfl r26) rfl (by exact trivial) ?_
  refine WQ_nil ?_
  refine nrm ?_
  refine WC_seq ?_
  refine WC_draws [3] (.look 0 (.look 1 (.look 2 (.act 3 .nil)))) Try.mixed (by kernel_rfl) ?_
  obtain ⟨l27, u28, h⟩ := h
  refine WQ_val rfl gd0 (o_indexAddrArr Try.underlying53 Try.sizeOf52 rfl rfl l27 u28) rfl ?_
  refine WQ_val rfl gd0 (o_sliceArr Try.underlying52 Try.sizeOf4 rfl) rfl ?_
  refine WQ_val rfl gd0 (o_sliceArr Try.underlying52 Try.sizeOf4 rfl) rfl ?_
  obtain ⟨n29, w30, r31, h⟩ := h
  refine WQ_act rfl gd0 (o_copy rfl rfl r31) rfl (by exact trivial) ?_
  refine WQ_nil ?_
  refine nrm ?_
  refine WC_seq ?_
  refine WC_region ?_
  obtain ⟨l32, u33, h⟩ := h
  refine WL_val gd0 ((o_indexAddrArr Try.underlying53 Try.sizeOf52 rfl rfl l32 u33) _) rfl ?_
  obtain ⟨l34, u35, h⟩ := h
  refine WL_val gd0 ((o_indexAddrArr1 Try.underlying52 Try.sizeOf4 rfl rfl l34 u35) _) rfl ?_
  obtain ⟨c37, h⟩ := h
  refine WL_act gd0 (o_store (v := .bool true) Try.sizeOf4 rfl rfl rfl c37) ?_
  generalize hw36 : World.setCell w30 ((p4.add (((3 : Int).toNat) * 5)).add ((1 : Int).toNat)) (.bool true) = w36 at h ⊢
  try dsimp only at h
  refine WL_nil ?_
  refine nrm ?_
  refine WC_seq ?_
  refine WC_region ?_
  obtain ⟨l38, u39, h⟩ := h
  refine WL_val gd0 ((o_indexAddrArr Try.underlying53 Try.sizeOf52 rfl rfl l38 u39) _) rfl ?_
  obtain ⟨l40, u41, h⟩ := h
  refine WL_val gd0 ((o_indexAddrArr1 Try.underlying52 Try.sizeOf4 rfl rfl l40 u41) _) rfl ?_
  obtain ⟨c43, h⟩ := h
  refine WL_act gd0 (o_store (v := .bool true) Try.sizeOf4 rfl rfl rfl c43) ?_
  generalize hw42 : World.setCell w36 ((p4.add (((3 : Int).toNat) * 5)).add ((2 : Int).toNat)) (.bool true) = w42 at h ⊢
  try dsimp only at h
  refine WL_nil ?_
  refine nrm ?_
  refine WC_seq ?_
  refine WC_region ?_
  obtain ⟨l44, u45, h⟩ := h
  refine WL_val gd0 ((o_indexAddrArr Try.underlying53 Try.sizeOf52 rfl rfl l44 u45) _) rfl ?_
  obtain ⟨l46, u47, h⟩ := h
  refine WL_val gd0 ((o_indexAddrArr1 Try.underlying52 Try.sizeOf4 rfl rfl l46 u47) _) rfl ?_
  obtain ⟨c49, h⟩ := h
  refine WL_act gd0 (o_store (v := .bool true) Try.sizeOf4 rfl rfl rfl c49) ?_
  generalize hw48 : World.setCell w42 ((p4.add (((3 : Int).toNat) * 5)).add ((4 : Int).toNat)) (.bool true) = w48 at h ⊢
  try dsimp only at h
  refine WL_nil ?_
  refine nrm ?_
  refine WC_seq ?_
  refine WC_region ?_
  obtain ⟨x50, x51, x52, x53, x54, x55, x56, x57, x58, x59, x60, x61, x62, x63, x64, x65, x66, x67, x68, x69, x70, x71, x72, x73, x74, hc75, h⟩ := h
  refine WL_val gd0 (o_loadAgg (vs := [.bool x50, .bool x51, .bool x52, .bool x53, .bool x54, .bool x55, .bool x56, .bool x57, .bool x58, .bool x59, .bool x60, .bool x61, .bool x62, .bool x63, .bool x64, .bool x65, .bool x66, .bool x67, .bool x68, .bool x69, .bool x70, .bool x71, .bool x72, .bool x73, .bool x74]) Try.isAgg53 Try.sizeOf53 rfl hc75) rfl ?_
  obtain ⟨c77, h⟩ := h
  refine WL_act gd0 (o_storeAgg (vs := [.bool x50, .bool x51, .bool x52, .bool x53, .bool x54, .bool x55, .bool x56, .bool x57, .bool x58, .bool x59, .bool x60, .bool x61, .bool x62, .bool x63, .bool x64, .bool x65, .bool x66, .bool x67, .bool x68, .bool x69, .bool x70, .bool x71, .bool x72, .bool x73, .bool x74]) Try.sizeOf53 rfl rfl rfl c77) ?_
  generalize hw76 : setAll w48 p2 0 [.bool x50, .bool x51, .bool x52, .bool x53, .bool x54, .bool x55, .bool x56, .bool x57, .bool x58, .bool x59, .bool x60, .bool x61, .bool x62, .bool x63, .bool x64, .bool x65, .bool x66, .bool x67, .bool x68, .bool x69, .bool x70, .bool x71, .bool x72, .bool x73, .bool x74] = w76 at h ⊢
  try dsimp only at h
  refine WL_nil ?_
  refine nrm ?_
  refine WC_ret ?_
  refine rtE ?_
  obtain ⟨r78, r79, r80, r81, r82, r83, r84, r85, r86, r87, r88, r89, r90, r91, r92, r93, r94, r95, r96, r97, r98, r99, r100, r101, r102, hc103, h⟩ := h
  exact gvC (vs := [.bool r78, .bool r79, .bool r80, .bool r81, .bool r82, .bool r83, .bool r84, .bool r85, .bool r86, .bool r87, .bool r88, .bool r89, .bool r90, .bool r91, .bool r92, .bool r93, .bool r94, .bool r95, .bool r96, .bool r97, .bool r98, .bool r99, .bool r100, .bool r101, .bool r102]) rfl Try.isAgg53 Try.sizeOf53 rfl hc103 h

/-- (*spacecraft mode.Manager).ok -/
def F24 (m1 : Option Addr) (w2 : World) (k : Value → World → Prop) : Prop :=
  if (!(m1).isNone) = true then
  ∃ (p4 : Addr), m1 = some p4 ∧ ∃ (x6 : Bool), w2.cell? p4 = some (.bool x6) ∧ k (.bool x6) w2
else
  k (.bool false) w2
set_option maxRecDepth 100000 in
set_option maxHeartbeats 2000000 in
theorem w24 (m1 : Option Addr) (w2 : World) (k : Value → World → Prop) (h : F24 m1 w2 k) : Does Try.prog 24 #[.pointer m1] w2 k := by
  refine enter 11 Try.func24 rfl rfl rfl ?_
  intro ρ hρ
  have e0 := hρ 0 _ rfl
  unfold F24 at h
  refine WC_seq ?_
  refine WC_region ?_
  refine WL_val gd0 ((o_assign (v := .bool false) rfl) _) rfl ?_
  refine WL_nil ?_
  refine nrm ?_
  refine WC_seq ?_
  refine WC_region ?_
  refine WL_val gd0 ((o_move (v := .pointer m1) (by exact e0)) _) rfl ?_
  refine WL_val gd0 ((o_neqPtrNil Try.underlying23 rfl rfl) _) rfl ?_
  refine WL_val gd0 ((o_move (v := .bool (!(m1).isNone)) rfl) _) rfl ?_
  refine bsplit (!(m1).isNone) (fun hb3 => ?_) (fun hb3 => ?_)
  · rw [if_pos hb3] at h
    refine WL_val (gdY (b := (!(m1).isNone)) 5 rfl rfl hb3) ((o_move (v := .pointer m1) (by exact e0)) _) rfl ?_
    obtain ⟨p4, q5, h⟩ := h
    refine WL_val (gdY (b := (!(m1).isNone)) 5 rfl rfl hb3) ((o_nilCheck (by exact (congrArg Value.pointer q5))) _) rfl ?_
    refine WL_val (gdY (b := (!(m1).isNone)) 5 rfl rfl hb3) ((o_fieldAddr0 Try.underlying48 rfl Try.sizeOf4 rfl rfl rfl) _) rfl ?_
    obtain ⟨x6, hc7, h⟩ := h
    refine WL_val (gdY (b := (!(m1).isNone)) 5 rfl rfl hb3) (o_load Try.isAgg4 rfl hc7) rfl ?_
    refine WL_val gd0 ((o_pickT (v := .bool x6) rfl hb3 rfl) _) rfl ?_
    refine WL_val gd0 ((o_assign (v := .bool x6) rfl) _) rfl ?_
    refine WL_nil ?_
    refine nrm ?_
    refine WC_ret ?_
    refine rtE ?_
    exact gv1 rfl rfl h
  · rw [if_neg (neT hb3)] at h
    refine WL_skip (gdN (b := (!(m1).isNone)) 5 rfl rfl hb3) rfl ?_
    refine WL_skip (gdN (b := (!(m1).isNone)) 5 rfl rfl hb3) rfl ?_
    refine WL_skip (gdN (b := (!(m1).isNone)) 5 rfl rfl hb3) rfl ?_
    refine WL_skip (gdN (b := (!(m1).isNone)) 5 rfl rfl hb3) rfl ?_
    refine WL_val gd0 ((o_pickF (v := .bool false) rfl hb3 rfl) _) rfl ?_
    refine WL_val gd0 ((o_assign (v := .bool false) rfl) _) rfl ?_
    refine WL_nil ?_
    refine nrm ?_
    refine WC_ret ?_
    refine rtE ?_
    exact gv1 rfl rfl h

def F25_j1 (m1 : Option Addr) (now2 : Int) (t7 : Bool) (w8 : World) (k : Value → World → Prop) : Prop :=
  if t7 = true then
  ∃ (p10 : Addr), m1 = some p10 ∧ Put w8 (p10.add 1) (.int .i64 now2) (fun w12 => k (.tuple #[]) w12)
else
  k (.tuple #[]) w8
/-- (*spacecraft mode.Manager).pass -/
def F25 (m1 : Option Addr) (now2 : Int) (w3 : World) (k : Value → World → Prop) : Prop :=
  ∃ (p14 : Addr), m1 = some p14 ∧ ∃ (x16 : Int), w3.cell? (p14.add 1) = some (.int .i64 x16) ∧ if x16 < now2 then
  F25_j1 m1 now2 (decide (now2 ≤ 1099511627776)) w3 k
else
  F25_j1 m1 now2 false w3 k
set_option maxRecDepth 100000 in
set_option maxHeartbeats 2000000 in
theorem w25 (m1 : Option Addr) (now2 : Int) (w3 : World) (k : Value → World → Prop) (h : F25 m1 now2 w3 k) : Does Try.prog 25 #[.pointer m1, .int .i64 now2] w3 k := by
  refine enter 18 Try.func25 rfl rfl rfl ?_
  intro ρ hρ
  have e0 := hρ 0 _ rfl
  have e1 := hρ 1 _ rfl
  unfold F25 at h
  refine WC_cut (fun ρ w' => ∃ (t7 : Bool), ρ 13 = .bool t7 ∧ ρ 0 = .pointer m1 ∧ ρ 1 = .int .i64 now2 ∧ F25_j1 m1 now2 t7 w' k) ?_ ?_
  · refine WC_region ?_
    refine WL_val gd0 ((o_move (v := .int .i64 now2) (by exact e1)) _) rfl ?_
    refine WL_val gd0 ((o_move (v := .pointer m1) (by exact e0)) _) rfl ?_
    obtain ⟨p14, q15, h⟩ := h
    refine WL_val gd0 ((o_nilCheck (by exact (congrArg Value.pointer q15))) _) rfl ?_
    refine WL_val gd0 ((o_fieldAddr 1 Try.underlying48 rfl Try.sizeOf3 rfl rfl rfl) _) rfl ?_
    obtain ⟨x16, hc17, h⟩ := h
    refine WL_val gd0 (o_load Try.isAgg3 rfl hc17) rfl ?_
    refine WL_val gd0 ((o_gtr rfl rfl) _) rfl ?_
    refine WL_val gd0 ((o_move (v := .bool (decide (x16 < now2))) rfl) _) rfl ?_
    refine bsplit (decide (x16 < now2)) (fun hb18 => ?_) (fun hb18 => ?_)
    · rw [if_pos (of_decide_eq_true hb18)] at h
      refine WL_val (gdY (b := (decide (x16 < now2))) 10 rfl rfl hb18) ((o_move (v := .int .i64 now2) (by exact e1)) _) rfl ?_
      refine WL_val (gdY (b := (decide (x16 < now2))) 10 rfl rfl hb18) ((o_leq rfl rfl) _) rfl ?_
      refine WL_val gd0 ((o_pickT (v := .bool (decide (now2 ≤ 1099511627776))) rfl hb18 rfl) _) rfl ?_
      refine WL_nil ?_
      refine nrm ?_
      exact ⟨_, rfl, e0, e1, h⟩
    · rw [if_neg (of_decide_eq_false hb18)] at h
      refine WL_skip (gdN (b := (decide (x16 < now2))) 10 rfl rfl hb18) rfl ?_
      refine WL_skip (gdN (b := (decide (x16 < now2))) 10 rfl rfl hb18) rfl ?_
      refine WL_val gd0 ((o_pickF (v := .bool false) rfl hb18 rfl) _) rfl ?_
      refine WL_nil ?_
      refine nrm ?_
      exact ⟨_, rfl, e0, e1, h⟩
  · rintro ρ w8 ⟨t7, e13_6, e0_4, e1_5, h⟩
    unfold F25_j1 at h
    refine WC_cond (t := t7) (by exact e13_6) (fun hb9 => ?_) (fun hb9 => ?_)
    · rw [if_pos hb9] at h
      refine WC_region ?_
      refine WL_val gd0 ((o_move (v := .pointer m1) (by exact e0_4)) _) rfl ?_
      refine WL_val gd0 ((o_move (v := .int .i64 now2) (by exact e1_5)) _) rfl ?_
      obtain ⟨p10, q11, h⟩ := h
      refine WL_val gd0 ((o_nilCheck (by exact (congrArg Value.pointer q11))) _) rfl ?_
      refine WL_val gd0 ((o_fieldAddr 1 Try.underlying48 rfl Try.sizeOf3 rfl rfl rfl) _) rfl ?_
      obtain ⟨c13, h⟩ := h
      refine WL_act gd0 (o_store (v := .int .i64 now2) Try.sizeOf3 rfl rfl rfl c13) ?_
      generalize hw12 : World.setCell w8 (p10.add 1) (.int .i64 now2) = w12 at h ⊢
      try dsimp only at h
      refine WL_nil ?_
      refine ndE ?_
      exact gv0 rfl h
    · rw [if_neg (neT hb9)] at h
      refine WC_skip ?_
      refine ndE ?_
      exact gv0 rfl h

def F26_j1 (p4 : Addr) (to2 : Int) (w26 : World) (k : Value → World → Prop) : Prop :=
  Put w26 (p4.add 2) (.int .i64 to2) (fun w27 => k (.tuple #[]) w27)
/-- (*spacecraft mode.Manager).change -/
def F26 (m1 : Option Addr) (to2 : Int) (w3 : World) (k : Value → World → Prop) : Prop :=
  ∃ (p4 : Addr), m1 = some p4 ∧ ∃ (x_a6 : Option Addr) (x_n7 x_c8 : Nat), w3.drew.cell? (p4.add 3) = some (.slice x_a6 x_n7 x_c8) ∧ ∃ (x10 : Int), w3.drew.cell? (p4.add 1) = some (.int .i64 x10) ∧ ∃ (x12 : Int), w3.drew.cell? (p4.add 2) = some (.int .i64 x12) ∧ New w3.drew 46 [.int .i64 x10, .int .i64 x12, .int .i64 to2] (fun p14 w15 => w15.cell? (p4.add 3) = some (.slice x_a6 x_n7 x_c8) ∧ ∃ (b_a17 : Option Addr) (b_n18 b_c19 : Nat) (w20 : World), (Builtin.append_ #[43, 43] 43 #[.slice x_a6 x_n7 x_c8, .slice (some p14) 1 1]).run Try.prog w15 = .ok (.slice b_a17 b_n18 b_c19) w20 ∧ Put w20 (p4.add 3) (.slice b_a17 b_n18 b_c19) (fun w22 => ∃ (x_a29 : Option Addr) (x_n30 x_c31 : Nat), w22.cell? (p4.add 3) = some (.slice x_a29 x_n30 x_c31) ∧ if 256 < (x_n30 : Int) then
  ∃ (x_a34 : Option Addr) (x_n35 x_c36 : Nat), w22.cell? (p4.add 3) = some (.slice x_a34 x_n35 x_c36) ∧ Does Try.prog 30 #[.slice x_a34 x_n35 x_c36, .int .i64 0, .int .i64 1] w22 (fun v w38 => ∃ (x_a39 : Option Addr) (x_n40 x_c41 : Nat), v = .slice x_a39 x_n40 x_c41 ∧ Put w38 (p4.add 3) (.slice x_a39 x_n40 x_c41) (fun w42 => F26_j1 p4 to2 w42 k))
else
  F26_j1 p4 to2 w22 k))
set_option maxRecDepth 100000 in
set_option maxHeartbeats 2000000 in
theorem w26 (m1 : Option Addr) (to2 : Int) (w3 : World) (k : Value → World → Prop) (h : F26 m1 to2 w3 k) : Does Try.prog 26 #[.pointer m1, .int .i64 to2] w3 k := by
  refine enter 41 Try.func26 rfl rfl rfl ?_
  intro ρ hρ
  have e0 := hρ 0 _ rfl
  have e1 := hρ 1 _ rfl
  unfold F26 at h
  refine WC_seq ?_
  refine WC_draws [15, 16, 19] (.look 0 (.look 1 (.look 2 (.look 3 (.look 4 (.look 5 (.look 6 (.look 7 (.look 8 (.look 9 (.look 10 (.look 11 (.look 12 (.look 13 (.look 14 (.act 15 (.act 16 (.look 17 (.look 18 (.act 19 .nil)))))))))))))))))))) Try.mixed (by kernel_rfl) ?_
  refine WQ_val rfl gd0 (o_move (v := .pointer m1) (by exact e0)) rfl ?_
  refine WQ_val rfl gd0 (o_move (v := .pointer m1) (by exact e0)) rfl ?_
  obtain ⟨p4, q5, h⟩ := h
  refine WQ_val rfl gd0 (o_nilCheck (by exact (congrArg Value.pointer q5))) rfl ?_
  refine WQ_val rfl gd0 (o_fieldAddr 3 Try.underlying48 rfl Try.sizeOf43 rfl rfl rfl) rfl ?_
  obtain ⟨x_a6, x_n7, x_c8, hc9, h⟩ := h
  refine WQ_look (fun w => w.cell? (p4.add 3) = some (.slice x_a6 x_n7 x_c8)) rfl gd0 (fun w hc => (o_load Try.isAgg43 rfl hc)) hc9 rfl ?_
  refine WQ_val rfl gd0 (o_move (v := .pointer m1) (by exact e0)) rfl ?_
  refine WQ_val rfl gd0 (o_nilCheck (by exact (congrArg Value.pointer q5))) rfl ?_
  refine WQ_val rfl gd0 (o_fieldAddr 1 Try.underlying48 rfl Try.sizeOf3 rfl rfl rfl) rfl ?_
  obtain ⟨x10, hc11, h⟩ := h
  refine WQ_look (fun w => w.cell? (p4.add 1) = some (.int .i64 x10)) rfl gd0 (fun w hc => (o_load Try.isAgg3 rfl hc)) hc11 rfl ?_
  refine WQ_val rfl gd0 (o_move (v := .pointer m1) (by exact e0)) rfl ?_
  refine WQ_val rfl gd0 (o_nilCheck (by exact (congrArg Value.pointer q5))) rfl ?_
  refine WQ_val rfl gd0 (o_fieldAddr 2 Try.underlying48 rfl Try.sizeOf3 rfl rfl rfl) rfl ?_
  obtain ⟨x12, hc13, h⟩ := h
  refine WQ_look (fun w => w.cell? (p4.add 2) = some (.int .i64 x12)) rfl gd0 (fun w hc => (o_load Try.isAgg3 rfl hc)) hc13 rfl ?_
  refine WQ_val rfl gd0 (o_move (v := .int .i64 to2) (by exact e1)) rfl ?_
  refine WQ_val rfl gd0 (o_build (ps := [(0, .int .i64 x10), (1, .int .i64 x12), (2, .int .i64 to2)]) (v := .agg #[.int .i64 x10, .int .i64 x12, .int .i64 to2]) (partCons rfl (partCons rfl (partCons rfl partNil))) (fun w => by kernel_rfl)) rfl ?_
  have h := New.out h
  obtain ⟨hh16, h⟩ := h
  refine WQ_act rfl gd0 (o_buildSlice (e := 46) (ps := [(0, .agg #[.int .i64 x10, .int .i64 x12, .int .i64 to2])]) (cs := [.int .i64 x10, .int .i64 x12, .int .i64 to2]) (partCons rfl partNil) (fun w => by kernel_rfl)) rfl (by exact ⟨⟨⟨trivial, fun _ => hh16⟩, depT (by kernel_rfl)⟩, depT (by kernel_rfl)⟩) ?_
  generalize hp14 : fresh w3.drew = p14 at h ⊢
  generalize hw15 : push w3.drew 46 [.int .i64 x10, .int .i64 x12, .int .i64 to2] = w15 at h ⊢
  try dsimp only at h
  obtain ⟨b_a17, b_n18, b_c19, w20, r21, h⟩ := h
  refine WQ_act rfl gd0 (o_append rfl rfl r21) rfl (by exact ⟨⟨⟨trivial, depT (by kernel_rfl)⟩, depT (by kernel_rfl)⟩, depT (by kernel_rfl)⟩) ?_
  refine WQ_val rfl gd0 (o_nilCheck (by exact (congrArg Value.pointer q5))) rfl ?_
  refine WQ_val rfl gd0 (o_fieldAddr 3 Try.underlying48 rfl Try.sizeOf43 rfl rfl rfl) rfl ?_
  obtain ⟨c23, h⟩ := h
  refine WQ_do rfl gd0 (o_store (v := .slice b_a17 b_n18 b_c19) Try.sizeOf43 rfl rfl rfl c23) (by exact ⟨⟨⟨trivial, depT (by kernel_rfl)⟩, depT (by kernel_rfl)⟩, depT (by kernel_rfl)⟩) ?_
  generalize hw22 : World.setCell w20 (p4.add 3) (.slice b_a17 b_n18 b_c19) = w22 at h ⊢
  try dsimp only at h
  refine WQ_nil ?_
  refine nrm ?_
  refine WC_cut (fun ρ w' => ρ 0 = .pointer m1 ∧ ρ 1 = .int .i64 to2 ∧ F26_j1 p4 to2 w' k) ?_ ?_
  · refine WC_seq ?_
    refine WC_region ?_
    refine WL_val gd0 ((o_move (v := .pointer m1) (by exact e0)) _) rfl ?_
    refine WL_val gd0 ((o_nilCheck (by exact (congrArg Value.pointer q5))) _) rfl ?_
    refine WL_val gd0 ((o_fieldAddr 3 Try.underlying48 rfl Try.sizeOf43 rfl rfl rfl) _) rfl ?_
    obtain ⟨x_a29, x_n30, x_c31, hc32, h⟩ := h
    refine WL_val gd0 (o_load Try.isAgg43 rfl hc32) rfl ?_
    refine WL_val gd0 ((o_len Try.underlying43 rfl) _) rfl ?_
    refine WL_val gd0 ((o_gtr rfl rfl) _) rfl ?_
    refine WL_nil ?_
    refine nrm ?_
    refine WC_cond (t := (decide (256 < (x_n30 : Int)))) rfl (fun hb33 => ?_) (fun hb33 => ?_)
    · rw [if_pos (of_decide_eq_true hb33)] at h
      refine WC_region ?_
      refine WL_val gd0 ((o_move (v := .pointer m1) (by exact e0)) _) rfl ?_
      refine WL_val gd0 ((o_move (v := .pointer m1) (by exact e0)) _) rfl ?_
      refine WL_val gd0 ((o_nilCheck (by exact (congrArg Value.pointer q5))) _) rfl ?_
      refine WL_val gd0 ((o_fieldAddr 3 Try.underlying48 rfl Try.sizeOf43 rfl rfl rfl) _) rfl ?_
      obtain ⟨x_a34, x_n35, x_c36, hc37, h⟩ := h
      refine WL_val gd0 (o_load Try.isAgg43 rfl hc37) rfl ?_
      refine WL_call gd0 (o_call Try.call30 (argCons rfl (argCons rfl (argCons rfl argNil))) _) rfl (h.mono ?_)
      rintro _ w38 ⟨x_a39, x_n40, x_c41, rfl, h⟩
      refine WL_val gd0 ((o_nilCheck (by exact (congrArg Value.pointer q5))) _) rfl ?_
      refine WL_val gd0 ((o_fieldAddr 3 Try.underlying48 rfl Try.sizeOf43 rfl rfl rfl) _) rfl ?_
      obtain ⟨c43, h⟩ := h
      refine WL_act gd0 (o_store (v := .slice x_a39 x_n40 x_c41) Try.sizeOf43 rfl rfl rfl c43) ?_
      generalize hw42 : World.setCell w38 (p4.add 3) (.slice x_a39 x_n40 x_c41) = w42 at h ⊢
      try dsimp only at h
      refine WL_nil ?_
      refine nrm ?_
      exact ⟨e0, e1, h⟩
    · rw [if_neg (of_decide_eq_false hb33)] at h
      refine WC_skip ?_
      refine nrm ?_
      exact ⟨e0, e1, h⟩
  · rintro ρ w26 ⟨e0_24, e1_25, h⟩
    unfold F26_j1 at h
    refine WC_region ?_
    refine WL_val gd0 ((o_move (v := .pointer m1) (by exact e0_24)) _) rfl ?_
    refine WL_val gd0 ((o_move (v := .int .i64 to2) (by exact e1_25)) _) rfl ?_
    refine WL_val gd0 ((o_nilCheck (by exact (congrArg Value.pointer q5))) _) rfl ?_
    refine WL_val gd0 ((o_fieldAddr 2 Try.underlying48 rfl Try.sizeOf3 rfl rfl rfl) _) rfl ?_
    obtain ⟨c28, h⟩ := h
    refine WL_act gd0 (o_store (v := .int .i64 to2) Try.sizeOf3 rfl rfl rfl c28) ?_
    generalize hw27 : World.setCell w26 (p4.add 2) (.int .i64 to2) = w27 at h ⊢
    try dsimp only at h
    refine WL_nil ?_
    refine ndE ?_
    exact gv0 rfl h

/-- slices.Clone   spacecraft mode.Change,spacecraft mode.Change  -/
def F27 (s_a1 : Option Addr) (s_n2 : Nat) (s_c3 : Nat) (w4 : World) (k : Value → World → Prop) : Prop :=
  if (s_a1).isNone = true then
  k (.slice none 0 0) w4
else
  New w4 46 [] (fun p6 w7 => ∃ (b_a8 : Option Addr) (b_n9 b_c10 : Nat) (w11 : World), (Builtin.append_ #[43, 43] 43 #[.slice (some p6) 0 0, .slice s_a1 s_n2 s_c3]).run Try.prog w7 = .ok (.slice b_a8 b_n9 b_c10) w11 ∧ k (.slice b_a8 b_n9 b_c10) w11)
set_option maxRecDepth 100000 in
set_option maxHeartbeats 2000000 in
theorem w27 (s_a1 : Option Addr) (s_n2 : Nat) (s_c3 : Nat) (w4 : World) (k : Value → World → Prop) (h : F27 s_a1 s_n2 s_c3 w4 k) : Does Try.prog 27 #[.slice s_a1 s_n2 s_c3] w4 k := by
  refine enter 8 Try.func27 rfl rfl rfl ?_
  intro ρ hρ
  have e0 := hρ 0 _ rfl
  unfold F27 at h
  refine WC_seq ?_
  refine WC_region ?_
  refine WL_val gd0 ((o_assign (v := .slice none 0 0) rfl) _) rfl ?_
  refine WL_nil ?_
  refine nrm ?_
  refine WC_seq ?_
  refine WC_seq ?_
  refine WC_region ?_
  refine WL_val gd0 ((o_move (v := .slice s_a1 s_n2 s_c3) (by exact e0)) _) rfl ?_
  refine WL_val gd0 ((o_eqlSliceNil Try.underlying43 rfl rfl) _) rfl ?_
  refine WL_nil ?_
  refine nrm ?_
  refine WC_cond (t := ((s_a1).isNone)) rfl (fun hb5 => ?_) (fun hb5 => ?_)
  · rw [if_pos hb5] at h
    refine WC_seq ?_
    refine WC_region ?_
    refine WL_val gd0 ((o_assign (v := .slice none 0 0) rfl) _) rfl ?_
    refine WL_nil ?_
    refine nrm ?_
    refine WC_ret ?_
    refine rtT ?_
    refine rtE ?_
    exact gv1 rfl rfl h
  · rw [if_neg (neT hb5)] at h
    refine WC_skip ?_
    refine nrm ?_
    refine WC_seq ?_
    refine WC_region ?_
    have h := New.out h
    refine WL_val gd0 (o_buildSlice (e := 46) (ps := []) (cs := []) partNil (fun w => by kernel_rfl)) rfl ?_
    generalize hp6 : fresh w4 = p6 at h ⊢
    generalize hw7 : push w4 46 [] = w7 at h ⊢
    try dsimp only at h
    refine WL_val gd0 ((o_move (v := .slice s_a1 s_n2 s_c3) (by exact e0)) _) rfl ?_
    obtain ⟨b_a8, b_n9, b_c10, w11, r12, h⟩ := h
    refine WL_val gd0 (o_append rfl rfl r12) rfl ?_
    refine WL_val gd0 ((o_assign (v := .slice b_a8 b_n9 b_c10) rfl) _) rfl ?_
    refine WL_nil ?_
    refine nrm ?_
    refine WC_ret ?_
    refine rtE ?_
    exact gv1 rfl rfl h

def F28_j1 (m1 : Option Addr) (now2 : Int) (t7 : Bool) (w8 : World) (k : Value → World → Prop) : Prop :=
  if t7 = true then
  ∃ (p10 : Addr), m1 = some p10 ∧ Put w8 (p10.add 1) (.int .i64 now2) (fun w12 => k (.tuple #[]) w12)
else
  k (.tuple #[]) w8
/-- (*spacecraft spacecraftref45.Manager).clock -/
def F28 (m1 : Option Addr) (now2 : Int) (w3 : World) (k : Value → World → Prop) : Prop :=
  ∃ (p14 : Addr), m1 = some p14 ∧ ∃ (x16 : Int), w3.cell? (p14.add 1) = some (.int .i64 x16) ∧ if x16 < now2 then
  F28_j1 m1 now2 (decide (now2 ≤ 1099511627776)) w3 k
else
  F28_j1 m1 now2 false w3 k
set_option maxRecDepth 100000 in
set_option maxHeartbeats 2000000 in
theorem w28 (m1 : Option Addr) (now2 : Int) (w3 : World) (k : Value → World → Prop) (h : F28 m1 now2 w3 k) : Does Try.prog 28 #[.pointer m1, .int .i64 now2] w3 k := by
  refine enter 18 Try.func28 rfl rfl rfl ?_
  intro ρ hρ
  have e0 := hρ 0 _ rfl
  have e1 := hρ 1 _ rfl
  unfold F28 at h
  refine WC_cut (fun ρ w' => ∃ (t7 : Bool), ρ 13 = .bool t7 ∧ ρ 0 = .pointer m1 ∧ ρ 1 = .int .i64 now2 ∧ F28_j1 m1 now2 t7 w' k) ?_ ?_
  · refine WC_region ?_
    refine WL_val gd0 ((o_move (v := .int .i64 now2) (by exact e1)) _) rfl ?_
    refine WL_val gd0 ((o_move (v := .pointer m1) (by exact e0)) _) rfl ?_
    obtain ⟨p14, q15, h⟩ := h
    refine WL_val gd0 ((o_nilCheck (by exact (congrArg Value.pointer q15))) _) rfl ?_
    refine WL_val gd0 ((o_fieldAddr 1 Try.underlying28 rfl Try.sizeOf3 rfl rfl rfl) _) rfl ?_
    obtain ⟨x16, hc17, h⟩ := h
    refine WL_val gd0 (o_load Try.isAgg3 rfl hc17) rfl ?_
    refine WL_val gd0 ((o_gtr rfl rfl) _) rfl ?_
    refine WL_val gd0 ((o_move (v := .bool (decide (x16 < now2))) rfl) _) rfl ?_
    refine bsplit (decide (x16 < now2)) (fun hb18 => ?_) (fun hb18 => ?_)
    · rw [if_pos (of_decide_eq_true hb18)] at h
      refine WL_val (gdY (b := (decide (x16 < now2))) 10 rfl rfl hb18) ((o_move (v := .int .i64 now2) (by exact e1)) _) rfl ?_
      refine WL_val (gdY (b := (decide (x16 < now2))) 10 rfl rfl hb18) ((o_leq rfl rfl) _) rfl ?_
      refine WL_val gd0 ((o_pickT (v := .bool (decide (now2 ≤ 1099511627776))) rfl hb18 rfl) _) rfl ?_
      refine WL_nil ?_
      refine nrm ?_
      exact ⟨_, rfl, e0, e1, h⟩
    · rw [if_neg (of_decide_eq_false hb18)] at h
      refine WL_skip (gdN (b := (decide (x16 < now2))) 10 rfl rfl hb18) rfl ?_
      refine WL_skip (gdN (b := (decide (x16 < now2))) 10 rfl rfl hb18) rfl ?_
      refine WL_val gd0 ((o_pickF (v := .bool false) rfl hb18 rfl) _) rfl ?_
      refine WL_nil ?_
      refine nrm ?_
      exact ⟨_, rfl, e0, e1, h⟩
  · rintro ρ w8 ⟨t7, e13_6, e0_4, e1_5, h⟩
    unfold F28_j1 at h
    refine WC_cond (t := t7) (by exact e13_6) (fun hb9 => ?_) (fun hb9 => ?_)
    · rw [if_pos hb9] at h
      refine WC_region ?_
      refine WL_val gd0 ((o_move (v := .pointer m1) (by exact e0_4)) _) rfl ?_
      refine WL_val gd0 ((o_move (v := .int .i64 now2) (by exact e1_5)) _) rfl ?_
      obtain ⟨p10, q11, h⟩ := h
      refine WL_val gd0 ((o_nilCheck (by exact (congrArg Value.pointer q11))) _) rfl ?_
      refine WL_val gd0 ((o_fieldAddr 1 Try.underlying28 rfl Try.sizeOf3 rfl rfl rfl) _) rfl ?_
      obtain ⟨c13, h⟩ := h
      refine WL_act gd0 (o_store (v := .int .i64 now2) Try.sizeOf3 rfl rfl rfl c13) ?_
      generalize hw12 : World.setCell w8 (p10.add 1) (.int .i64 now2) = w12 at h ⊢
      try dsimp only at h
      refine WL_nil ?_
      refine ndE ?_
      exact gv0 rfl h
    · rw [if_neg (neT hb9)] at h
      refine WC_skip ?_
      refine ndE ?_
      exact gv0 rfl h

/-- slices.Delete   spacecraft mode.Change,spacecraft mode.Change  -/
def F30 (s_a1 : Option Addr) (s_n2 : Nat) (s_c3 : Nat) (i4 : Int) (j5 : Int) (w6 : World) (k : Value → World → Prop) : Prop :=
  (0 : Int) ≤ i4 ∧ i4 ≤ (j5 : Int) ∧ j5 ≤ ((s_n2 : Int) : Int) ∧ (s_n2 : Int) ≤ (s_c3 : Int) ∧ if i4 = j5 then
  k (.slice s_a1 s_n2 s_c3) w6
else
  (0 : Int) ≤ i4 ∧ i4 ≤ (s_c3 : Int) ∧ (0 : Int) ≤ j5 ∧ j5 ≤ (s_n2 : Int) ∧ ∃ (b_a16 : Option Addr) (b_n17 b_c18 : Nat) (w19 : World), (Builtin.append_ #[43, 43] 43 #[.slice s_a1 i4.toNat s_c3, .slice (cutA s_a1 s_c3 j5.toNat 3) (s_n2 - j5.toNat) (s_c3 - j5.toNat)]).run Try.prog w6.drew = .ok (.slice b_a16 b_n17 b_c18) w19 ∧ (0 : Int) ≤ (b_n17 : Int) ∧ (b_n17 : Int) ≤ ((s_n2 : Int) : Int) ∧ (s_n2 : Int) ≤ (b_c18 : Int) ∧ ∃ (w24 : World), (Builtin.clear_ #[43] 0 #[.slice (cutA b_a16 b_c18 ((b_n17 : Int).toNat) 3) ((s_n2 : Int).toNat - (b_n17 : Int).toNat) (b_c18 - (b_n17 : Int).toNat)]).run Try.prog w19 = .ok (.tuple #[]) w24 ∧ k (.slice b_a16 b_n17 b_c18) w24
set_option maxRecDepth 100000 in
set_option maxHeartbeats 2000000 in
theorem w30 (s_a1 : Option Addr) (s_n2 : Nat) (s_c3 : Nat) (i4 : Int) (j5 : Int) (w6 : World) (k : Value → World → Prop) (h : F30 s_a1 s_n2 s_c3 i4 j5 w6 k) : Does Try.prog 30 #[.slice s_a1 s_n2 s_c3, .int .i64 i4, .int .i64 j5] w6 k := by
  refine enter 33 Try.func30 rfl rfl rfl ?_
  intro ρ hρ
  have e0 := hρ 0 _ rfl
  have e1 := hρ 1 _ rfl
  have e2 := hρ 2 _ rfl
  unfold F30 at h
  refine WC_seq ?_
  refine WC_region ?_
  refine WL_val gd0 ((o_assign (v := .slice none 0 0) rfl) _) rfl ?_
  refine WL_nil ?_
  refine nrm ?_
  refine WC_seq ?_
  refine WC_region ?_
  refine WL_val gd0 ((o_move (v := .slice s_a1 s_n2 s_c3) (by exact e0)) _) rfl ?_
  refine WL_val gd0 ((o_move (v := .int .i64 i4) (by exact e1)) _) rfl ?_
  refine WL_val gd0 ((o_move (v := .int .i64 j5) (by exact e2)) _) rfl ?_
  refine WL_val gd0 ((o_move (v := .slice s_a1 s_n2 s_c3) (by exact e0)) _) rfl ?_
  refine WL_val gd0 ((o_len Try.underlying43 rfl) _) rfl ?_
  obtain ⟨c7, c8, c9, c10, h⟩ := h
  refine WL_val gd0 ((o_sliceLHM Try.underlying43 Try.sizeOf46 rfl rfl rfl rfl c7 c8 c9 c10) _) rfl ?_
  refine WL_nil ?_
  refine nrm ?_
  refine WC_seq ?_
  refine WC_seq ?_
  refine WC_region ?_
  refine WL_val gd0 ((o_move (v := .int .i64 i4) (by exact e1)) _) rfl ?_
  refine WL_val gd0 ((o_move (v := .int .i64 j5) (by exact e2)) _) rfl ?_
  refine WL_val gd0 ((o_eql rfl rfl) _) rfl ?_
  refine WL_nil ?_
  refine nrm ?_
  refine WC_cond (t := (decide (i4 = j5))) rfl (fun hb11 => ?_) (fun hb11 => ?_)
  · rw [if_pos (of_decide_eq_true hb11)] at h
    refine WC_seq ?_
    refine WC_region ?_
    refine WL_val gd0 ((o_move (v := .slice s_a1 s_n2 s_c3) (by exact e0)) _) rfl ?_
    refine WL_val gd0 ((o_assign (v := .slice s_a1 s_n2 s_c3) rfl) _) rfl ?_
    refine WL_nil ?_
    refine nrm ?_
    refine WC_ret ?_
    refine rtT ?_
    refine rtE ?_
    exact gv1 rfl rfl h
  · rw [if_neg (of_decide_eq_false hb11)] at h
    refine WC_skip ?_
    refine nrm ?_
    refine WC_seq ?_
    refine WC_region ?_
    refine WL_val gd0 ((o_move (v := .slice s_a1 s_n2 s_c3) (by exact e0)) _) rfl ?_
    refine WL_val gd0 ((o_len Try.underlying43 rfl) _) rfl ?_
    refine WL_val gd0 ((o_assign (v := .int .i64 (s_n2 : Int)) rfl) _) rfl ?_
    refine WL_nil ?_
    refine nrm ?_
    refine WC_seq ?_
    refine WC_draws [6] (.look 0 (.look 1 (.look 2 (.look 3 (.look 4 (.look 5 (.act 6 (.look 7 .nil)))))))) Try.mixed (by kernel_rfl) ?_
    refine WQ_val rfl gd0 (o_move (v := .slice s_a1 s_n2 s_c3) (by exact e0)) rfl ?_
    refine WQ_val rfl gd0 (o_move (v := .int .i64 i4) (by exact e1)) rfl ?_
    obtain ⟨c12, c13, h⟩ := h
    refine WQ_val rfl gd0 (o_sliceH Try.underlying43 Try.sizeOf46 rfl rfl c12 c13) rfl ?_
    refine WQ_val rfl gd0 (o_move (v := .slice s_a1 s_n2 s_c3) (by exact e0)) rfl ?_
    refine WQ_val rfl gd0 (o_move (v := .int .i64 j5) (by exact e2)) rfl ?_
    obtain ⟨c14, c15, h⟩ := h
    refine WQ_val rfl gd0 (o_sliceL Try.underlying43 Try.sizeOf46 rfl rfl c14 c15) rfl ?_
    obtain ⟨b_a16, b_n17, b_c18, w19, r20, h⟩ := h
    refine WQ_act rfl gd0 (o_append rfl rfl r20) rfl (by exact trivial) ?_
    refine WQ_val rfl gd0 (o_assign (v := .slice b_a16 b_n17 b_c18) rfl) rfl ?_
    refine WQ_nil ?_
    refine nrm ?_
    refine WC_seq ?_
    refine WC_region ?_
    refine WL_val gd0 ((o_move (v := .slice b_a16 b_n17 b_c18) rfl) _) rfl ?_
    refine WL_val gd0 ((o_move (v := .slice b_a16 b_n17 b_c18) rfl) _) rfl ?_
    refine WL_val gd0 ((o_len Try.underlying43 rfl) _) rfl ?_
    refine WL_val gd0 ((o_move (v := .int .i64 (s_n2 : Int)) rfl) _) rfl ?_
    obtain ⟨c21, c22, c23, h⟩ := h
    refine WL_val gd0 ((o_sliceLH Try.underlying43 Try.sizeOf46 rfl rfl rfl c21 c22 c23) _) rfl ?_
    obtain ⟨w24, r25, h⟩ := h
    refine WL_valNone gd0 (o_clear rfl r25) ?_
    refine WL_nil ?_
    refine nrm ?_
    refine WC_seq ?_
    refine WC_region ?_
    refine WL_val gd0 ((o_move (v := .slice b_a16 b_n17 b_c18) rfl) _) rfl ?_
    refine WL_val gd0 ((o_assign (v := .slice b_a16 b_n17 b_c18) rfl) _) rfl ?_
    refine WL_nil ?_
    refine nrm ?_
    refine WC_ret ?_
    refine rtE ?_
    exact gv1 rfl rfl h


end Go.Proofs.Ytfnlhonngacagaa
