/-
  The forms of the functions, and their walks: written by a program of this claim (gen.py) off the elaborated translation.
-/
import Derived.Test.YtkeaamfpcapioaaProg
import Derived.Test.YtkeaamfpcapioaaBase
import Derived.KernelRfl
import Derived.Test.YtkeaamfpcapioaaFormsP0
namespace Go.Proofs.Ytkeaamfpcapioaa
open Go Go.Sh Go.Proofs
set_option linter.unusedVariables false
def F13_j1 (r20 : Bool) (t1 : Option Addr) (p13 : Addr) (event2 : Int) (r19 : Int) (t27 : Bool) (w28 : World) (k : Value → World → Prop) : Prop :=
  if t27 = true then
  k (.int .i64 1) w28
else
  if r20 = true then
    k (.int .i64 9) w28
  else
    ∃ (p31 : Addr), t1 = some p31 ∧ ∃ (x_a33 : Option Addr) (x_n34 x_c35 : Nat), w28.cell? (p31.add 1) = some (.slice x_a33 x_n34 x_c35) ∧ if 256 ≤ (x_n34 : Int) then
      k (.int .i64 7) w28
    else
      ∃ (x_a38 : Option Addr) (x_n39 x_c40 : Nat), w28.drew.cell? (p31.add 1) = some (.slice x_a38 x_n39 x_c40) ∧ ∃ (x42 x43 x44 : Int) (x_a45 : Option Addr) (x_n46 x_c47 : Nat) (x_a48 : Option Addr) (x_n49 x_c50 : Nat), Cells w28.drew p13 0 [.int .i64 x42, .int .i64 x43, .int .i64 x44, .slice x_a45 x_n46 x_c47, .slice x_a48 x_n49 x_c50] ∧ Does Try.prog 27 #[.agg #[.int .i64 x42, .int .i64 x43, .int .i64 x44, .slice x_a45 x_n46 x_c47, .slice x_a48 x_n49 x_c50]] w28.drew (fun v w52 => ∃ (x53 x54 x55 : Int) (x_a56 : Option Addr) (x_n57 x_c58 : Nat) (x_a59 : Option Addr) (x_n60 x_c61 : Nat), v = .agg #[.int .i64 x53, .int .i64 x54, .int .i64 x55, .slice x_a56 x_n57 x_c58, .slice x_a59 x_n60 x_c61] ∧ w52.cell? (p31.add 1) = some (.slice x_a38 x_n39 x_c40) ∧ New w52 54 [.int .i64 event2, .bool false, .int .i64 x53, .int .i64 x54, .int .i64 x55, .slice x_a56 x_n57 x_c58, .slice x_a59 x_n60 x_c61] (fun p63 w64 => w64.cell? (p31.add 1) = some (.slice x_a38 x_n39 x_c40) ∧ Does Try.prog 26 #[.slice x_a38 x_n39 x_c40, .int .i64 r19, .slice (some p63) 1 1] w64 (fun v w66 => ∃ (x_a67 : Option Addr) (x_n68 x_c69 : Nat), v = .slice x_a67 x_n68 x_c69 ∧ Put w66 (p31.add 1) (.slice x_a67 x_n68 x_c69) (fun w70 => k (.int .i64 0) w70))))
/-- (*spacecraft action.Table).Add -/
def F13 (t1 : Option Addr) (event2 : Int) (c3 : Int) (c4 : Int) (c5 : Int) (c_a6 : Option Addr) (c_n7 : Nat) (c_c8 : Nat) (c_a9 : Option Addr) (c_n10 : Nat) (c_c11 : Nat) (w12 : World) (k : Value → World → Prop) : Prop :=
  New w12 36 [.int .i64 c3, .int .i64 c4, .int .i64 c5, .slice c_a6 c_n7 c_c8, .slice c_a9 c_n10 c_c11] (fun p13 w14 => Does Try.prog 24 #[.pointer t1] w14 (fun v w15 => ∃ (x16 : Bool), v = .bool x16 ∧ if (!x16) = true then
  k (.int .i64 2) w15
else
  Does Try.prog 25 #[.pointer t1, .int .i64 event2] w15 (fun v w18 => ∃ (r19 : Int) (r20 : Bool), v = .tuple #[.int .i64 r19, .bool r20] ∧ if event2 < 0 then
    F13_j1 r20 t1 p13 event2 r19 true w18 k
  else
    F13_j1 r20 t1 p13 event2 r19 (decide (65535 < event2)) w18 k)))
set_option maxRecDepth 100000 in
set_option maxHeartbeats 2000000 in
theorem w13 (t1 : Option Addr) (event2 : Int) (c3 : Int) (c4 : Int) (c5 : Int) (c_a6 : Option Addr) (c_n7 : Nat) (c_c8 : Nat) (c_a9 : Option Addr) (c_n10 : Nat) (c_c11 : Nat) (w12 : World) (k : Value → World → Prop) (h : F13 t1 event2 c3 c4 c5 c_a6 c_n7 c_c8 c_a9 c_n10 c_c11 w12 k) : Does Try.prog 13 #[.pointer t1, .int .i64 event2, .agg #[.int .i64 c3, .int .i64 c4, .int .i64 c5, .slice c_a6 c_n7 c_c8, .slice c_a9 c_n10 c_c11]] w12 k := by
  refine enter 48 Try.func13 rfl rfl rfl ?_
  intro ρ hρ
  have e0 := hρ 0 _ rfl
  have e1 := hρ 1 _ rfl
  have e2 := hρ 2 _ rfl
  unfold F13 at h
  refine WC_seq ?_
  refine WC_region ?_
  have h := New.out h
  refine WL_val gd0 (o_box (v := .agg #[.int .i64 c3, .int .i64 c4, .int .i64 c5, .slice c_a6 c_n7 c_c8, .slice c_a9 c_n10 c_c11]) (cs := [.int .i64 c3, .int .i64 c4, .int .i64 c5, .slice c_a6 c_n7 c_c8, .slice c_a9 c_n10 c_c11]) (by exact e2) rfl) rfl ?_
  generalize hp13 : fresh w12 = p13 at h ⊢
  generalize hw14 : push w12 36 [.int .i64 c3, .int .i64 c4, .int .i64 c5, .slice c_a6 c_n7 c_c8, .slice c_a9 c_n10 c_c11] = w14 at h ⊢
  try dsimp only at h
  refine WL_val gd0 ((o_assign (v := .int .i64 0) rfl) _) rfl ?_
  refine WL_nil ?_
  refine nrm ?_
  refine WC_seq ?_
  refine WC_seq ?_
  refine WC_region ?_
  refine WL_val gd0 ((o_move (v := .pointer t1) (by exact e0)) _) rfl ?_
  refine WL_call gd0 (o_call Try.call24 (argCons rfl argNil) _) rfl (h.mono ?_)
  rintro _ w15 ⟨x16, rfl, h⟩
  refine WL_val gd0 ((o_not rfl) _) rfl ?_
  refine WL_nil ?_
  refine nrm ?_
  refine WC_cond (t := (!x16)) rfl (fun hb17 => ?_) (fun hb17 => ?_)
  · rw [if_pos hb17] at h
    refine WC_seq ?_
    refine WC_region ?_
    refine WL_val gd0 ((o_assign (v := .int .i64 2) rfl) _) rfl ?_
    refine WL_nil ?_
    refine nrm ?_
    refine WC_ret ?_
    refine rtT ?_
    refine rtE ?_
    exact gv1 rfl rfl h
  · rw [if_neg (neT hb17)] at h
    refine WC_skip ?_
    refine nrm ?_
    refine WC_seq ?_
    refine WC_region ?_
    refine WL_val gd0 ((o_move (v := .pointer t1) (by exact e0)) _) rfl ?_
    refine WL_val gd0 ((o_move (v := .int .i64 event2) (by exact e1)) _) rfl ?_
    refine WL_call gd0 (o_call Try.call25 (argCons rfl (argCons rfl argNil)) _) rfl (h.mono ?_)
    rintro _ w18 ⟨r19, r20, rfl, h⟩
    refine WL_val gd0 ((o_move (v := .tuple #[.int .i64 r19, .bool r20]) rfl) _) rfl ?_
    refine WL_val gd0 ((o_extract (vs := [.int .i64 r19, .bool r20]) (r := .int .i64 r19) rfl rfl) _) rfl ?_
    refine WL_val gd0 ((o_extract (vs := [.int .i64 r19, .bool r20]) (r := .bool r20) rfl rfl) _) rfl ?_
    refine WL_val gd0 ((o_assign (v := .int .i64 r19) rfl) _) rfl ?_
    refine WL_val gd0 ((o_assign (v := .bool r20) rfl) _) rfl ?_
    refine WL_nil ?_
    refine nrm ?_
    refine WC_seq ?_
    refine WC_block ?_
    refine WC_cut (fun ρ w' => ∃ (t27 : Bool), ρ 18 = .bool t27 ∧ ρ 0 = .pointer t1 ∧ ρ 1 = .int .i64 event2 ∧ ρ 5 = .pointer (some p13) ∧ ρ 7 = .int .i64 r19 ∧ ρ 8 = .bool r20 ∧ F13_j1 r20 t1 p13 event2 r19 t27 w' k) ?_ ?_
    · refine WC_region ?_
      refine WL_val gd0 ((o_move (v := .int .i64 event2) (by exact e1)) _) rfl ?_
      refine WL_val gd0 ((o_lss rfl rfl) _) rfl ?_
      refine WL_val gd0 ((o_move (v := .bool (decide (event2 < 0))) rfl) _) rfl ?_
      refine bsplit (decide (event2 < 0)) (fun hb72 => ?_) (fun hb72 => ?_)
      · rw [if_pos (of_decide_eq_true hb72)] at h
        refine WL_skip (gdN (b := (decide (event2 < 0))) 21 rfl rfl hb72) rfl ?_
        refine WL_skip (gdN (b := (decide (event2 < 0))) 21 rfl rfl hb72) rfl ?_
        refine WL_val gd0 ((o_pickT (v := .bool true) rfl hb72 rfl) _) rfl ?_
        refine WL_val gd0 ((o_assign (v := .bool true) rfl) _) rfl ?_
        refine WL_nil ?_
        refine nrm ?_
        exact ⟨_, rfl, e0, e1, rfl, rfl, rfl, h⟩
      · rw [if_neg (of_decide_eq_false hb72)] at h
        refine WL_val (gdY (b := (decide (event2 < 0))) 21 rfl rfl hb72) ((o_move (v := .int .i64 event2) (by exact e1)) _) rfl ?_
        refine WL_val (gdY (b := (decide (event2 < 0))) 21 rfl rfl hb72) ((o_gtr rfl rfl) _) rfl ?_
        refine WL_val gd0 ((o_pickF (v := .bool (decide (65535 < event2))) rfl hb72 rfl) _) rfl ?_
        refine WL_val gd0 ((o_assign (v := .bool (decide (65535 < event2))) rfl) _) rfl ?_
        refine WL_nil ?_
        refine nrm ?_
        exact ⟨_, rfl, e0, e1, rfl, rfl, rfl, h⟩
    · rintro ρ w28 ⟨t27, e18_26, e0_21, e1_22, e5_23, e7_24, e8_25, h⟩
      unfold F13_j1 at h
      refine WC_cond (t := t27) (by exact e18_26) (fun hb29 => ?_) (fun hb29 => ?_)
      · rw [if_pos hb29] at h
        refine WC_seq ?_
        refine WC_region ?_
        refine WL_val gd0 ((o_assign (v := .int .i64 1) rfl) _) rfl ?_
        refine WL_nil ?_
        refine nrm ?_
        refine WC_ret ?_
        refine rtB ?_
        refine rtT ?_
        refine rtE ?_
        exact gv1 rfl rfl h
      · rw [if_neg (neT hb29)] at h
        refine WC_seq ?_
        refine WC_region ?_
        refine WL_val gd0 ((o_move (v := .bool r20) (by exact e8_25)) _) rfl ?_
        refine WL_val gd0 ((o_assign (v := .bool r20) rfl) _) rfl ?_
        refine WL_nil ?_
        refine nrm ?_
        refine WC_cond (t := r20) rfl (fun hb30 => ?_) (fun hb30 => ?_)
        · rw [if_pos hb30] at h
          refine WC_seq ?_
          refine WC_region ?_
          refine WL_val gd0 ((o_assign (v := .int .i64 9) rfl) _) rfl ?_
          refine WL_nil ?_
          refine nrm ?_
          refine WC_ret ?_
          refine rtB ?_
          refine rtT ?_
          refine rtE ?_
          exact gv1 rfl rfl h
        · rw [if_neg (neT hb30)] at h
          refine WC_seq ?_
          refine WC_region ?_
          refine WL_val gd0 ((o_move (v := .pointer t1) (by exact e0_21)) _) rfl ?_
          obtain ⟨p31, q32, h⟩ := h
          refine WL_val gd0 ((o_nilCheck (by exact (congrArg Value.pointer q32))) _) rfl ?_
          refine WL_val gd0 ((o_fieldAddr 1 Try.underlying51 rfl Try.sizeOf49 rfl rfl rfl) _) rfl ?_
          obtain ⟨x_a33, x_n34, x_c35, hc36, h⟩ := h
          refine WL_val gd0 (o_load Try.isAgg49 rfl hc36) rfl ?_
          refine WL_val gd0 ((o_len Try.underlying49 rfl) _) rfl ?_
          refine WL_val gd0 ((o_geq rfl rfl) _) rfl ?_
          refine WL_val gd0 ((o_assign (v := .bool (decide (256 ≤ (x_n34 : Int)))) rfl) _) rfl ?_
          refine WL_nil ?_
          refine nrm ?_
          refine WC_cond (t := (decide (256 ≤ (x_n34 : Int)))) rfl (fun hb37 => ?_) (fun hb37 => ?_)
          · rw [if_pos (of_decide_eq_true hb37)] at h
            refine WC_seq ?_
            refine WC_region ?_
            refine WL_val gd0 ((o_assign (v := .int .i64 7) rfl) _) rfl ?_
            refine WL_nil ?_
            refine nrm ?_
            refine WC_ret ?_
            refine rtB ?_
            refine rtT ?_
            refine rtE ?_
            exact gv1 rfl rfl h
          · rw [if_neg (of_decide_eq_false hb37)] at h
            refine WC_skip ?_
            refine nrmB ?_
            refine nrm ?_
            refine WC_seq ?_
            refine WC_draws [8, 10, 11, 14] (.look 0 (.look 1 (.look 2 (.look 3 (.look 4 (.look 5 (.look 6 (.look 7 (.act 8 (.look 9 (.act 10 (.act 11 (.look 12 (.look 13 (.act 14 .nil))))))))))))))) Try.mixed (by kernel_rfl) ?_
            refine WQ_val rfl gd0 (o_move (v := .pointer t1) (by exact e0_21)) rfl ?_
            refine WQ_val rfl gd0 (o_move (v := .pointer t1) (by exact e0_21)) rfl ?_
            refine WQ_val rfl gd0 (o_nilCheck (by exact (congrArg Value.pointer q32))) rfl ?_
            refine WQ_val rfl gd0 (o_fieldAddr 1 Try.underlying51 rfl Try.sizeOf49 rfl rfl rfl) rfl ?_
            obtain ⟨x_a38, x_n39, x_c40, hc41, h⟩ := h
            refine WQ_look (fun w => w.cell? (p31.add 1) = some (.slice x_a38 x_n39 x_c40)) rfl gd0 (fun w hc => (o_load Try.isAgg49 rfl hc)) hc41 rfl ?_
            refine WQ_val rfl gd0 (o_move (v := .int .i64 r19) (by exact e7_24)) rfl ?_
            refine WQ_val rfl gd0 (o_move (v := .int .i64 event2) (by exact e1_22)) rfl ?_
            obtain ⟨x42, x43, x44, x_a45, x_n46, x_c47, x_a48, x_n49, x_c50, hc51, h⟩ := h
            refine WQ_look (fun w => Cells w p13 0 [.int .i64 x42, .int .i64 x43, .int .i64 x44, .slice x_a45 x_n46 x_c47, .slice x_a48 x_n49 x_c50]) rfl gd0 (fun w hc => (o_loadAgg (vs := [.int .i64 x42, .int .i64 x43, .int .i64 x44, .slice x_a45 x_n46 x_c47, .slice x_a48 x_n49 x_c50]) Try.isAgg36 Try.sizeOf36 (by exact e5_23) hc)) hc51 rfl ?_
            refine WQ_call rfl gd0 (o_call Try.call27 (argCons rfl argNil) _) rfl (h.mono ?_)
            rintro _ w52 ⟨x53, x54, x55, x_a56, x_n57, x_c58, x_a59, x_n60, x_c61, rfl, hh62, h⟩
            refine ⟨⟨⟨trivial, fun _ => hh62⟩, depT (by kernel_rfl)⟩, ?_⟩
            refine WQ_val rfl gd0 (o_build (ps := [(0, .int .i64 event2), (2, .agg #[.int .i64 x53, .int .i64 x54, .int .i64 x55, .slice x_a56 x_n57 x_c58, .slice x_a59 x_n60 x_c61])]) (v := .agg #[.int .i64 event2, .bool false, .int .i64 x53, .int .i64 x54, .int .i64 x55, .slice x_a56 x_n57 x_c58, .slice x_a59 x_n60 x_c61]) (partCons rfl (partCons rfl partNil)) (fun w => by kernel_rfl)) rfl ?_
            have h := New.out h
            obtain ⟨hh65, h⟩ := h
            refine WQ_act rfl gd0 (o_buildSlice (e := 54) (ps := [(0, .agg #[.int .i64 event2, .bool false, .int .i64 x53, .int .i64 x54, .int .i64 x55, .slice x_a56 x_n57 x_c58, .slice x_a59 x_n60 x_c61])]) (cs := [.int .i64 event2, .bool false, .int .i64 x53, .int .i64 x54, .int .i64 x55, .slice x_a56 x_n57 x_c58, .slice x_a59 x_n60 x_c61]) (partCons rfl partNil) (fun w => by kernel_rfl)) rfl (by exact ⟨⟨trivial, fun _ => hh65⟩, depT (by kernel_rfl)⟩) ?_
            generalize hp63 : fresh w52 = p63 at h ⊢
            generalize hw64 : push w52 54 [.int .i64 event2, .bool false, .int .i64 x53, .int .i64 x54, .int .i64 x55, .slice x_a56 x_n57 x_c58, .slice x_a59 x_n60 x_c61] = w64 at h ⊢
            try dsimp only at h
            refine WQ_call rfl gd0 (o_call Try.call26 (argCons rfl (argCons rfl (argCons rfl argNil))) _) rfl (h.mono ?_)
            rintro _ w66 ⟨x_a67, x_n68, x_c69, rfl, h⟩
            refine ⟨⟨⟨trivial, depT (by kernel_rfl)⟩, depT (by kernel_rfl)⟩, ?_⟩
            refine WQ_val rfl gd0 (o_nilCheck (by exact (congrArg Value.pointer q32))) rfl ?_
            refine WQ_val rfl gd0 (o_fieldAddr 1 Try.underlying51 rfl Try.sizeOf49 rfl rfl rfl) rfl ?_
            obtain ⟨c71, h⟩ := h
            refine WQ_do rfl gd0 (o_store (v := .slice x_a67 x_n68 x_c69) Try.sizeOf49 rfl rfl rfl c71) (by exact ⟨⟨trivial, depT (by kernel_rfl)⟩, depT (by kernel_rfl)⟩) ?_
            generalize hw70 : World.setCell w66 (p31.add 1) (.slice x_a67 x_n68 x_c69) = w70 at h ⊢
            try dsimp only at h
            refine WQ_nil ?_
            refine nrm ?_
            refine WC_seq ?_
            refine WC_region ?_
            refine WL_val gd0 ((o_assign (v := .int .i64 0) rfl) _) rfl ?_
            refine WL_nil ?_
            refine nrm ?_
            refine WC_ret ?_
            refine rtE ?_
            exact gv1 rfl rfl h

/-- (*spacecraft action.Table).Delete -/
def F14 (t1 : Option Addr) (event2 : Int) (w3 : World) (k : Value → World → Prop) : Prop :=
  Does Try.prog 24 #[.pointer t1] w3 (fun v w4 => ∃ (x5 : Bool), v = .bool x5 ∧ if (!x5) = true then
  k (.int .i64 2) w4
else
  Does Try.prog 25 #[.pointer t1, .int .i64 event2] w4 (fun v w7 => ∃ (r8 : Int) (r9 : Bool), v = .tuple #[.int .i64 r8, .bool r9] ∧ if (!r9) = true then
    k (.int .i64 8) w7
  else
    ∃ (p11 : Addr), t1 = some p11 ∧ ∃ (x_a13 : Option Addr) (x_n14 x_c15 : Nat), w7.cell? (p11.add 1) = some (.slice x_a13 x_n14 x_c15) ∧ ∃ (p19 : Addr), x_a13 = some p19 ∧ (0 : Int) ≤ r8 ∧ r8 < (x_n14 : Int) ∧ ∃ (t21 : Bool), w7.cell? ((p19.add (r8.toNat * 7)).add 1) = some (.bool t21) ∧ if t21 = true then
      k (.int .i64 12) w7
    else
      ∃ (x_a24 : Option Addr) (x_n25 x_c26 : Nat), w7.cell? (p11.add 1) = some (.slice x_a24 x_n25 x_c26) ∧ Does Try.prog 28 #[.slice x_a24 x_n25 x_c26, .int .i64 r8, .int .i64 (IntKind.i64.wrap (r8 + 1))] w7 (fun v w28 => ∃ (x_a29 : Option Addr) (x_n30 x_c31 : Nat), v = .slice x_a29 x_n30 x_c31 ∧ Put w28 (p11.add 1) (.slice x_a29 x_n30 x_c31) (fun w32 => k (.int .i64 0) w32))))
set_option maxRecDepth 100000 in
set_option maxHeartbeats 2000000 in
theorem w14 (t1 : Option Addr) (event2 : Int) (w3 : World) (k : Value → World → Prop) (h : F14 t1 event2 w3 k) : Does Try.prog 14 #[.pointer t1, .int .i64 event2] w3 k := by
  refine enter 39 Try.func14 rfl rfl rfl ?_
  intro ρ hρ
  have e0 := hρ 0 _ rfl
  have e1 := hρ 1 _ rfl
  unfold F14 at h
  refine WC_seq ?_
  refine WC_region ?_
  refine WL_val gd0 ((o_assign (v := .int .i64 0) rfl) _) rfl ?_
  refine WL_nil ?_
  refine nrm ?_
  refine WC_seq ?_
  refine WC_seq ?_
  refine WC_region ?_
  refine WL_val gd0 ((o_move (v := .pointer t1) (by exact e0)) _) rfl ?_
  refine WL_call gd0 (o_call Try.call24 (argCons rfl argNil) _) rfl (h.mono ?_)
  rintro _ w4 ⟨x5, rfl, h⟩
  refine WL_val gd0 ((o_not rfl) _) rfl ?_
  refine WL_nil ?_
  refine nrm ?_
  refine WC_cond (t := (!x5)) rfl (fun hb6 => ?_) (fun hb6 => ?_)
  · rw [if_pos hb6] at h
    refine WC_seq ?_
    refine WC_region ?_
    refine WL_val gd0 ((o_assign (v := .int .i64 2) rfl) _) rfl ?_
    refine WL_nil ?_
    refine nrm ?_
    refine WC_ret ?_
    refine rtT ?_
    refine rtE ?_
    exact gv1 rfl rfl h
  · rw [if_neg (neT hb6)] at h
    refine WC_skip ?_
    refine nrm ?_
    refine WC_seq ?_
    refine WC_region ?_
    refine WL_val gd0 ((o_move (v := .pointer t1) (by exact e0)) _) rfl ?_
    refine WL_val gd0 ((o_move (v := .int .i64 event2) (by exact e1)) _) rfl ?_
    refine WL_call gd0 (o_call Try.call25 (argCons rfl (argCons rfl argNil)) _) rfl (h.mono ?_)
    rintro _ w7 ⟨r8, r9, rfl, h⟩
    refine WL_val gd0 ((o_move (v := .tuple #[.int .i64 r8, .bool r9]) rfl) _) rfl ?_
    refine WL_val gd0 ((o_extract (vs := [.int .i64 r8, .bool r9]) (r := .int .i64 r8) rfl rfl) _) rfl ?_
    refine WL_val gd0 ((o_extract (vs := [.int .i64 r8, .bool r9]) (r := .bool r9) rfl rfl) _) rfl ?_
    refine WL_val gd0 ((o_assign (v := .int .i64 r8) rfl) _) rfl ?_
    refine WL_val gd0 ((o_assign (v := .bool r9) rfl) _) rfl ?_
    refine WL_nil ?_
    refine nrm ?_
    refine WC_seq ?_
    refine WC_block ?_
    refine WC_seq ?_
    refine WC_region ?_
    refine WL_val gd0 ((o_move (v := .bool r9) rfl) _) rfl ?_
    refine WL_val gd0 ((o_not rfl) _) rfl ?_
    refine WL_val gd0 ((o_assign (v := .bool (!r9)) rfl) _) rfl ?_
    refine WL_nil ?_
    refine nrm ?_
    refine WC_cond (t := (!r9)) rfl (fun hb10 => ?_) (fun hb10 => ?_)
    · rw [if_pos hb10] at h
      refine WC_seq ?_
      refine WC_region ?_
      refine WL_val gd0 ((o_assign (v := .int .i64 8) rfl) _) rfl ?_
      refine WL_nil ?_
      refine nrm ?_
      refine WC_ret ?_
      refine rtB ?_
      refine rtT ?_
      refine rtE ?_
      exact gv1 rfl rfl h
    · rw [if_neg (neT hb10)] at h
      refine WC_seq ?_
      refine WC_region ?_
      refine WL_val gd0 ((o_move (v := .pointer t1) (by exact e0)) _) rfl ?_
      obtain ⟨p11, q12, h⟩ := h
      refine WL_val gd0 ((o_nilCheck (by exact (congrArg Value.pointer q12))) _) rfl ?_
      refine WL_val gd0 ((o_fieldAddr 1 Try.underlying51 rfl Try.sizeOf49 rfl rfl rfl) _) rfl ?_
      obtain ⟨x_a13, x_n14, x_c15, hc16, h⟩ := h
      refine WL_val gd0 (o_load Try.isAgg49 rfl hc16) rfl ?_
      refine WL_val gd0 ((o_move (v := .int .i64 r8) rfl) _) rfl ?_
      obtain ⟨p19, q20, h⟩ := h
      obtain ⟨l17, u18, h⟩ := h
      refine WL_val gd0 ((o_indexAddr Try.underlying49 Try.sizeOf54 (by exact (congrArg (fun z => Value.slice z x_n14 x_c15) q20)) rfl l17 u18) _) rfl ?_
      refine WL_val gd0 ((o_fieldAddr 1 Try.underlying54 rfl Try.sizeOf4 rfl rfl rfl) _) rfl ?_
      obtain ⟨t21, hc22, h⟩ := h
      refine WL_val gd0 (o_load Try.isAgg4 rfl hc22) rfl ?_
      refine WL_val gd0 ((o_assign (v := .bool t21) rfl) _) rfl ?_
      refine WL_nil ?_
      refine nrm ?_
      refine WC_cond (t := t21) rfl (fun hb23 => ?_) (fun hb23 => ?_)
      · rw [if_pos hb23] at h
        refine WC_seq ?_
        refine WC_region ?_
        refine WL_val gd0 ((o_assign (v := .int .i64 12) rfl) _) rfl ?_
        refine WL_nil ?_
        refine nrm ?_
        refine WC_ret ?_
        refine rtB ?_
        refine rtT ?_
        refine rtE ?_
        exact gv1 rfl rfl h
      · rw [if_neg (neT hb23)] at h
        refine WC_skip ?_
        refine nrmB ?_
        refine nrm ?_
        refine WC_seq ?_
        refine WC_region ?_
        refine WL_val gd0 ((o_move (v := .pointer t1) (by exact e0)) _) rfl ?_
        refine WL_val gd0 ((o_move (v := .pointer t1) (by exact e0)) _) rfl ?_
        refine WL_val gd0 ((o_nilCheck (by exact (congrArg Value.pointer q12))) _) rfl ?_
        refine WL_val gd0 ((o_fieldAddr 1 Try.underlying51 rfl Try.sizeOf49 rfl rfl rfl) _) rfl ?_
        obtain ⟨x_a24, x_n25, x_c26, hc27, h⟩ := h
        refine WL_val gd0 (o_load Try.isAgg49 rfl hc27) rfl ?_
        refine WL_val gd0 ((o_move (v := .int .i64 r8) rfl) _) rfl ?_
        refine WL_val gd0 ((o_move (v := .int .i64 r8) rfl) _) rfl ?_
        refine WL_val gd0 ((o_add rfl rfl) _) rfl ?_
        refine WL_call gd0 (o_call Try.call28 (argCons rfl (argCons rfl (argCons rfl argNil))) _) rfl (h.mono ?_)
        rintro _ w28 ⟨x_a29, x_n30, x_c31, rfl, h⟩
        refine WL_val gd0 ((o_nilCheck (by exact (congrArg Value.pointer q12))) _) rfl ?_
        refine WL_val gd0 ((o_fieldAddr 1 Try.underlying51 rfl Try.sizeOf49 rfl rfl rfl) _) rfl ?_
        obtain ⟨c33, h⟩ := h
        refine WL_act gd0 (o_store (v := .slice x_a29 x_n30 x_c31) Try.sizeOf49 rfl rfl rfl c33) ?_
        generalize hw32 : World.setCell w28 (p11.add 1) (.slice x_a29 x_n30 x_c31) = w32 at h ⊢
        try dsimp only at h
        refine WL_nil ?_
        refine nrm ?_
        refine WC_seq ?_
        refine WC_region ?_
        refine WL_val gd0 ((o_assign (v := .int .i64 0) rfl) _) rfl ?_
        refine WL_nil ?_
        refine nrm ?_
        refine WC_ret ?_
        refine rtE ?_
        exact gv1 rfl rfl h

/-- (*spacecraft action.Table).Enable -/
def F15 (t1 : Option Addr) (event2 : Int) (on3 : Bool) (w4 : World) (k : Value → World → Prop) : Prop :=
  Does Try.prog 24 #[.pointer t1] w4 (fun v w5 => ∃ (x6 : Bool), v = .bool x6 ∧ if (!x6) = true then
  k (.int .i64 2) w5
else
  Does Try.prog 25 #[.pointer t1, .int .i64 event2] w5 (fun v w8 => ∃ (r9 : Int) (r10 : Bool), v = .tuple #[.int .i64 r9, .bool r10] ∧ if (!r10) = true then
    k (.int .i64 8) w8
  else
    ∃ (p12 : Addr), t1 = some p12 ∧ ∃ (x_a14 : Option Addr) (x_n15 x_c16 : Nat), w8.cell? (p12.add 1) = some (.slice x_a14 x_n15 x_c16) ∧ ∃ (p20 : Addr), x_a14 = some p20 ∧ (0 : Int) ≤ r9 ∧ r9 < (x_n15 : Int) ∧ Put w8 ((p20.add (r9.toNat * 7)).add 1) (.bool on3) (fun w22 => k (.int .i64 0) w22)))
set_option maxRecDepth 100000 in
set_option maxHeartbeats 2000000 in
theorem w15 (t1 : Option Addr) (event2 : Int) (on3 : Bool) (w4 : World) (k : Value → World → Prop) (h : F15 t1 event2 on3 w4 k) : Does Try.prog 15 #[.pointer t1, .int .i64 event2, .bool on3] w4 k := by
  refine enter 28 Try.func15 rfl rfl rfl ?_
  intro ρ hρ
  have e0 := hρ 0 _ rfl
  have e1 := hρ 1 _ rfl
  have e2 := hρ 2 _ rfl
  unfold F15 at h
  refine WC_seq ?_
  refine WC_region ?_
  refine WL_val gd0 ((o_assign (v := .int .i64 0) rfl) _) rfl ?_
  refine WL_nil ?_
  refine nrm ?_
  refine WC_seq ?_
  refine WC_seq ?_
  refine WC_region ?_
  refine WL_val gd0 ((o_move (v := .pointer t1) (by exact e0)) _) rfl ?_
  refine WL_call gd0 (o_call Try.call24 (argCons rfl argNil) _) rfl (h.mono ?_)
  rintro _ w5 ⟨x6, rfl, h⟩
  refine WL_val gd0 ((o_not rfl) _) rfl ?_
  refine WL_nil ?_
  refine nrm ?_
  refine WC_cond (t := (!x6)) rfl (fun hb7 => ?_) (fun hb7 => ?_)
  · rw [if_pos hb7] at h
    refine WC_seq ?_
    refine WC_region ?_
    refine WL_val gd0 ((o_assign (v := .int .i64 2) rfl) _) rfl ?_
    refine WL_nil ?_
    refine nrm ?_
    refine WC_ret ?_
    refine rtT ?_
    refine rtE ?_
    exact gv1 rfl rfl h
  · rw [if_neg (neT hb7)] at h
    refine WC_skip ?_
    refine nrm ?_
    refine WC_seq ?_
    refine WC_region ?_
    refine WL_val gd0 ((o_move (v := .pointer t1) (by exact e0)) _) rfl ?_
    refine WL_val gd0 ((o_move (v := .int .i64 event2) (by exact e1)) _) rfl ?_
    refine WL_call gd0 (o_call Try.call25 (argCons rfl (argCons rfl argNil)) _) rfl (h.mono ?_)
    rintro _ w8 ⟨r9, r10, rfl, h⟩
    refine WL_val gd0 ((o_move (v := .tuple #[.int .i64 r9, .bool r10]) rfl) _) rfl ?_
    refine WL_val gd0 ((o_extract (vs := [.int .i64 r9, .bool r10]) (r := .int .i64 r9) rfl rfl) _) rfl ?_
    refine WL_val gd0 ((o_extract (vs := [.int .i64 r9, .bool r10]) (r := .bool r10) rfl rfl) _) rfl ?_
    refine WL_val gd0 ((o_assign (v := .int .i64 r9) rfl) _) rfl ?_
    refine WL_val gd0 ((o_assign (v := .bool r10) rfl) _) rfl ?_
    refine WL_nil ?_
    refine nrm ?_
    refine WC_seq ?_
    refine WC_seq ?_
    refine WC_region ?_
    refine WL_val gd0 ((o_move (v := .bool r10) rfl) _) rfl ?_
    refine WL_val gd0 ((o_not rfl) _) rfl ?_
    refine WL_nil ?_
    refine nrm ?_
    refine WC_cond (t := (!r10)) rfl (fun hb11 => ?_) (fun hb11 => ?_)
    · rw [if_pos hb11] at h
      refine WC_seq ?_
      refine WC_region ?_
      refine WL_val gd0 ((o_assign (v := .int .i64 8) rfl) _) rfl ?_
      refine WL_nil ?_
      refine nrm ?_
      refine WC_ret ?_
      refine rtT ?_
      refine rtE ?_
      exact gv1 rfl rfl h
    · rw [if_neg (neT hb11)] at h
      refine WC_skip ?_
      refine nrm ?_
      refine WC_seq ?_
      refine WC_region ?_
      refine WL_val gd0 ((o_move (v := .pointer t1) (by exact e0)) _) rfl ?_
      obtain ⟨p12, q13, h⟩ := h
      refine WL_val gd0 ((o_nilCheck (by exact (congrArg Value.pointer q13))) _) rfl ?_
      refine WL_val gd0 ((o_fieldAddr 1 Try.underlying51 rfl Try.sizeOf49 rfl rfl rfl) _) rfl ?_
      obtain ⟨x_a14, x_n15, x_c16, hc17, h⟩ := h
      refine WL_val gd0 (o_load Try.isAgg49 rfl hc17) rfl ?_
      refine WL_val gd0 ((o_move (v := .int .i64 r9) rfl) _) rfl ?_
      refine WL_val gd0 ((o_move (v := .bool on3) (by exact e2)) _) rfl ?_
      obtain ⟨p20, q21, h⟩ := h
      obtain ⟨l18, u19, h⟩ := h
      refine WL_val gd0 ((o_indexAddr Try.underlying49 Try.sizeOf54 (by exact (congrArg (fun z => Value.slice z x_n15 x_c16) q21)) rfl l18 u19) _) rfl ?_
      refine WL_val gd0 ((o_fieldAddr 1 Try.underlying54 rfl Try.sizeOf4 rfl rfl rfl) _) rfl ?_
      obtain ⟨c23, h⟩ := h
      refine WL_act gd0 (o_store (v := .bool on3) Try.sizeOf4 rfl rfl rfl c23) ?_
      generalize hw22 : World.setCell w8 ((p20.add (r9.toNat * 7)).add 1) (.bool on3) = w22 at h ⊢
      try dsimp only at h
      refine WL_nil ?_
      refine nrm ?_
      refine WC_seq ?_
      refine WC_region ?_
      refine WL_val gd0 ((o_assign (v := .int .i64 0) rfl) _) rfl ?_
      refine WL_nil ?_
      refine nrm ?_
      refine WC_ret ?_
      refine rtE ?_
      exact gv1 rfl rfl h

def F16_j1 (p4 : Addr) (t1 : Option Addr) (r22 : Int) (t28 : Bool) (w29 : World) (k : Value → World → Prop) : Prop :=
  if t28 = true then
  PutAll w29 p4 [.int .i64 0, .int .i64 0, .int .i64 0, .slice none 0 0, .slice none 0 0] (fun w31 => ∃ (r33 r34 r35 : Int) (r_a36 : Option Addr) (r_n37 r_c38 : Nat) (r_a39 : Option Addr) (r_n40 r_c41 : Nat), Cells w31 p4 0 [.int .i64 r33, .int .i64 r34, .int .i64 r35, .slice r_a36 r_n37 r_c38, .slice r_a39 r_n40 r_c41] ∧ k (.tuple #[.agg #[.int .i64 r33, .int .i64 r34, .int .i64 r35, .slice r_a36 r_n37 r_c38, .slice r_a39 r_n40 r_c41], .bool false]) w31)
else
  ∃ (p43 : Addr), t1 = some p43 ∧ ∃ (x_a45 : Option Addr) (x_n46 x_c47 : Nat), w29.cell? (p43.add 1) = some (.slice x_a45 x_n46 x_c47) ∧ ∃ (p51 : Addr), x_a45 = some p51 ∧ (0 : Int) ≤ r22 ∧ r22 < (x_n46 : Int) ∧ ∃ (x53 x54 x55 : Int) (x_a56 : Option Addr) (x_n57 x_c58 : Nat) (x_a59 : Option Addr) (x_n60 x_c61 : Nat), Cells w29 ((p51.add (r22.toNat * 7)).add 2) 0 [.int .i64 x53, .int .i64 x54, .int .i64 x55, .slice x_a56 x_n57 x_c58, .slice x_a59 x_n60 x_c61] ∧ Does Try.prog 27 #[.agg #[.int .i64 x53, .int .i64 x54, .int .i64 x55, .slice x_a56 x_n57 x_c58, .slice x_a59 x_n60 x_c61]] w29 (fun v w63 => ∃ (x64 x65 x66 : Int) (x_a67 : Option Addr) (x_n68 x_c69 : Nat) (x_a70 : Option Addr) (x_n71 x_c72 : Nat), v = .agg #[.int .i64 x64, .int .i64 x65, .int .i64 x66, .slice x_a67 x_n68 x_c69, .slice x_a70 x_n71 x_c72] ∧ PutAll w63 p4 [.int .i64 x64, .int .i64 x65, .int .i64 x66, .slice x_a67 x_n68 x_c69, .slice x_a70 x_n71 x_c72] (fun w73 => ∃ (r75 r76 r77 : Int) (r_a78 : Option Addr) (r_n79 r_c80 : Nat) (r_a81 : Option Addr) (r_n82 r_c83 : Nat), Cells w73 p4 0 [.int .i64 r75, .int .i64 r76, .int .i64 r77, .slice r_a78 r_n79 r_c80, .slice r_a81 r_n82 r_c83] ∧ k (.tuple #[.agg #[.int .i64 r75, .int .i64 r76, .int .i64 r77, .slice r_a78 r_n79 r_c80, .slice r_a81 r_n82 r_c83], .bool true]) w73))
/-- (*spacecraft action.Table).Find -/
def F16 (t1 : Option Addr) (event2 : Int) (w3 : World) (k : Value → World → Prop) : Prop :=
  New w3 36 [.int .i64 0, .int .i64 0, .int .i64 0, .slice none 0 0, .slice none 0 0] (fun p4 w5 => Does Try.prog 24 #[.pointer t1] w5 (fun v w6 => ∃ (x7 : Bool), v = .bool x7 ∧ if (!x7) = true then
  PutAll w6 p4 [.int .i64 0, .int .i64 0, .int .i64 0, .slice none 0 0, .slice none 0 0] (fun w9 => ∃ (r11 r12 r13 : Int) (r_a14 : Option Addr) (r_n15 r_c16 : Nat) (r_a17 : Option Addr) (r_n18 r_c19 : Nat), Cells w9 p4 0 [.int .i64 r11, .int .i64 r12, .int .i64 r13, .slice r_a14 r_n15 r_c16, .slice r_a17 r_n18 r_c19] ∧ k (.tuple #[.agg #[.int .i64 r11, .int .i64 r12, .int .i64 r13, .slice r_a14 r_n15 r_c16, .slice r_a17 r_n18 r_c19], .bool false]) w9)
else
  Does Try.prog 25 #[.pointer t1, .int .i64 event2] w6 (fun v w21 => ∃ (r22 : Int) (r23 : Bool), v = .tuple #[.int .i64 r22, .bool r23] ∧ if (!r23) = true then
    F16_j1 p4 t1 r22 true w21 k
  else
    ∃ (p86 : Addr), t1 = some p86 ∧ ∃ (x_a88 : Option Addr) (x_n89 x_c90 : Nat), w21.cell? (p86.add 1) = some (.slice x_a88 x_n89 x_c90) ∧ ∃ (p94 : Addr), x_a88 = some p94 ∧ (0 : Int) ≤ r22 ∧ r22 < (x_n89 : Int) ∧ ∃ (x96 : Bool), w21.cell? ((p94.add (r22.toNat * 7)).add 1) = some (.bool x96) ∧ F16_j1 p4 t1 r22 (!x96) w21 k)))
set_option maxRecDepth 100000 in
set_option maxHeartbeats 2000000 in
theorem w16 (t1 : Option Addr) (event2 : Int) (w3 : World) (k : Value → World → Prop) (h : F16 t1 event2 w3 k) : Does Try.prog 16 #[.pointer t1, .int .i64 event2] w3 k := by
  refine enter 41 Try.func16 rfl rfl rfl ?_
  intro ρ hρ
  have e0 := hρ 0 _ rfl
  have e1 := hρ 1 _ rfl
  unfold F16 at h
  refine WC_seq ?_
  refine WC_region ?_
  have h := New.out h
  refine WL_val gd0 (o_alloc (z := .agg #[.int .i64 0, .int .i64 0, .int .i64 0, .slice none 0 0, .slice none 0 0]) (cs := [.int .i64 0, .int .i64 0, .int .i64 0, .slice none 0 0, .slice none 0 0]) Try.zeroValue36 rfl) rfl ?_
  generalize hp4 : fresh w3 = p4 at h ⊢
  generalize hw5 : push w3 36 [.int .i64 0, .int .i64 0, .int .i64 0, .slice none 0 0, .slice none 0 0] = w5 at h ⊢
  try dsimp only at h
  refine WL_val gd0 ((o_assign (v := .bool false) rfl) _) rfl ?_
  refine WL_nil ?_
  refine nrm ?_
  refine WC_seq ?_
  refine WC_seq ?_
  refine WC_region ?_
  refine WL_val gd0 ((o_move (v := .pointer t1) (by exact e0)) _) rfl ?_
  refine WL_call gd0 (o_call Try.call24 (argCons rfl argNil) _) rfl (h.mono ?_)
  rintro _ w6 ⟨x7, rfl, h⟩
  refine WL_val gd0 ((o_not rfl) _) rfl ?_
  refine WL_nil ?_
  refine nrm ?_
  refine WC_cond (t := (!x7)) rfl (fun hb8 => ?_) (fun hb8 => ?_)
  · rw [if_pos hb8] at h
    refine WC_seq ?_
    refine WC_region ?_
    refine WL_val gd0 ((o_build (ps := []) (v := .agg #[.int .i64 0, .int .i64 0, .int .i64 0, .slice none 0 0, .slice none 0 0]) partNil (fun w => by kernel_rfl)) _) rfl ?_
    obtain ⟨c10, h⟩ := h
    refine WL_act gd0 (o_storeAgg (vs := [.int .i64 0, .int .i64 0, .int .i64 0, .slice none 0 0, .slice none 0 0]) Try.sizeOf36 rfl rfl rfl c10) ?_
    generalize hw9 : setAll w6 p4 0 [.int .i64 0, .int .i64 0, .int .i64 0, .slice none 0 0, .slice none 0 0] = w9 at h ⊢
    try dsimp only at h
    refine WL_val gd0 ((o_assign (v := .bool false) rfl) _) rfl ?_
    refine WL_nil ?_
    refine nrm ?_
    refine WC_ret ?_
    refine rtT ?_
    refine rtE ?_
    obtain ⟨r11, r12, r13, r_a14, r_n15, r_c16, r_a17, r_n18, r_c19, hc20, h⟩ := h
    exact gvC1 (vs := [.int .i64 r11, .int .i64 r12, .int .i64 r13, .slice r_a14 r_n15 r_c16, .slice r_a17 r_n18 r_c19]) rfl Try.isAgg36 Try.sizeOf36 rfl hc20 rfl h
  · rw [if_neg (neT hb8)] at h
    refine WC_skip ?_
    refine nrm ?_
    refine WC_seq ?_
    refine WC_region ?_
    refine WL_val gd0 ((o_move (v := .pointer t1) (by exact e0)) _) rfl ?_
    refine WL_val gd0 ((o_move (v := .int .i64 event2) (by exact e1)) _) rfl ?_
    refine WL_call gd0 (o_call Try.call25 (argCons rfl (argCons rfl argNil)) _) rfl (h.mono ?_)
    rintro _ w21 ⟨r22, r23, rfl, h⟩
    refine WL_val gd0 ((o_move (v := .tuple #[.int .i64 r22, .bool r23]) rfl) _) rfl ?_
    refine WL_val gd0 ((o_extract (vs := [.int .i64 r22, .bool r23]) (r := .int .i64 r22) rfl rfl) _) rfl ?_
    refine WL_val gd0 ((o_extract (vs := [.int .i64 r22, .bool r23]) (r := .bool r23) rfl rfl) _) rfl ?_
    refine WL_val gd0 ((o_assign (v := .int .i64 r22) rfl) _) rfl ?_
    refine WL_val gd0 ((o_assign (v := .bool r23) rfl) _) rfl ?_
    refine WL_nil ?_
    refine nrm ?_
    refine WC_seq ?_
    refine WC_cut (fun ρ w' => ∃ (t28 : Bool), ρ 30 = .bool t28 ∧ ρ 0 = .pointer t1 ∧ ρ 4 = .pointer (some p4) ∧ ρ 6 = .int .i64 r22 ∧ F16_j1 p4 t1 r22 t28 w' k) ?_ ?_
    · refine WC_region ?_
      refine WL_val gd0 ((o_move (v := .bool r23) rfl) _) rfl ?_
      refine WL_val gd0 ((o_not rfl) _) rfl ?_
      refine WL_val gd0 ((o_move (v := .bool (!r23)) rfl) _) rfl ?_
      refine bsplit (!r23) (fun hb85 => ?_) (fun hb85 => ?_)
      · rw [if_pos hb85] at h
        refine WL_skip (gdN (b := (!r23)) 20 rfl rfl hb85) rfl ?_
        refine WL_skip (gdN (b := (!r23)) 20 rfl rfl hb85) rfl ?_
        refine WL_skip (gdN (b := (!r23)) 20 rfl rfl hb85) rfl ?_
        refine WL_skip (gdN (b := (!r23)) 20 rfl rfl hb85) rfl ?_
        refine WL_skip (gdN (b := (!r23)) 20 rfl rfl hb85) rfl ?_
        refine WL_skip (gdN (b := (!r23)) 20 rfl rfl hb85) rfl ?_
        refine WL_skip (gdN (b := (!r23)) 20 rfl rfl hb85) rfl ?_
        refine WL_skip (gdN (b := (!r23)) 20 rfl rfl hb85) rfl ?_
        refine WL_skip (gdN (b := (!r23)) 20 rfl rfl hb85) rfl ?_
        refine WL_val gd0 ((o_pickT (v := .bool true) rfl hb85 rfl) _) rfl ?_
        refine WL_nil ?_
        refine nrm ?_
        exact ⟨_, rfl, e0, rfl, rfl, h⟩
      · rw [if_neg (neT hb85)] at h
        refine WL_val (gdY (b := (!r23)) 20 rfl rfl hb85) ((o_move (v := .pointer t1) (by exact e0)) _) rfl ?_
        obtain ⟨p86, q87, h⟩ := h
        refine WL_val (gdY (b := (!r23)) 20 rfl rfl hb85) ((o_nilCheck (by exact (congrArg Value.pointer q87))) _) rfl ?_
        refine WL_val (gdY (b := (!r23)) 20 rfl rfl hb85) ((o_fieldAddr 1 Try.underlying51 rfl Try.sizeOf49 rfl rfl rfl) _) rfl ?_
        obtain ⟨x_a88, x_n89, x_c90, hc91, h⟩ := h
        refine WL_val (gdY (b := (!r23)) 20 rfl rfl hb85) (o_load Try.isAgg49 rfl hc91) rfl ?_
        refine WL_val (gdY (b := (!r23)) 20 rfl rfl hb85) ((o_move (v := .int .i64 r22) rfl) _) rfl ?_
        obtain ⟨p94, q95, h⟩ := h
        obtain ⟨l92, u93, h⟩ := h
        refine WL_val (gdY (b := (!r23)) 20 rfl rfl hb85) ((o_indexAddr Try.underlying49 Try.sizeOf54 (by exact (congrArg (fun z => Value.slice z x_n89 x_c90) q95)) rfl l92 u93) _) rfl ?_
        refine WL_val (gdY (b := (!r23)) 20 rfl rfl hb85) ((o_fieldAddr 1 Try.underlying54 rfl Try.sizeOf4 rfl rfl rfl) _) rfl ?_
        obtain ⟨x96, hc97, h⟩ := h
        refine WL_val (gdY (b := (!r23)) 20 rfl rfl hb85) (o_load Try.isAgg4 rfl hc97) rfl ?_
        refine WL_val (gdY (b := (!r23)) 20 rfl rfl hb85) ((o_not rfl) _) rfl ?_
        refine WL_val gd0 ((o_pickF (v := .bool (!x96)) rfl hb85 rfl) _) rfl ?_
        refine WL_nil ?_
        refine nrm ?_
        exact ⟨_, rfl, e0, rfl, rfl, h⟩
    · rintro ρ w29 ⟨t28, e30_27, e0_24, e4_25, e6_26, h⟩
      unfold F16_j1 at h
      refine WC_cond (t := t28) (by exact e30_27) (fun hb30 => ?_) (fun hb30 => ?_)
      · rw [if_pos hb30] at h
        refine WC_seq ?_
        refine WC_region ?_
        refine WL_val gd0 ((o_build (ps := []) (v := .agg #[.int .i64 0, .int .i64 0, .int .i64 0, .slice none 0 0, .slice none 0 0]) partNil (fun w => by kernel_rfl)) _) rfl ?_
        obtain ⟨c32, h⟩ := h
        refine WL_act gd0 (o_storeAgg (vs := [.int .i64 0, .int .i64 0, .int .i64 0, .slice none 0 0, .slice none 0 0]) Try.sizeOf36 (by exact e4_25) rfl rfl c32) ?_
        generalize hw31 : setAll w29 p4 0 [.int .i64 0, .int .i64 0, .int .i64 0, .slice none 0 0, .slice none 0 0] = w31 at h ⊢
        try dsimp only at h
        refine WL_val gd0 ((o_assign (v := .bool false) rfl) _) rfl ?_
        refine WL_nil ?_
        refine nrm ?_
        refine WC_ret ?_
        refine rtT ?_
        refine rtE ?_
        obtain ⟨r33, r34, r35, r_a36, r_n37, r_c38, r_a39, r_n40, r_c41, hc42, h⟩ := h
        exact gvC1 (vs := [.int .i64 r33, .int .i64 r34, .int .i64 r35, .slice r_a36 r_n37 r_c38, .slice r_a39 r_n40 r_c41]) rfl Try.isAgg36 Try.sizeOf36 (by exact e4_25) hc42 rfl h
      · rw [if_neg (neT hb30)] at h
        refine WC_skip ?_
        refine nrm ?_
        refine WC_seq ?_
        refine WC_region ?_
        refine WL_val gd0 ((o_move (v := .pointer t1) (by exact e0_24)) _) rfl ?_
        obtain ⟨p43, q44, h⟩ := h
        refine WL_val gd0 ((o_nilCheck (by exact (congrArg Value.pointer q44))) _) rfl ?_
        refine WL_val gd0 ((o_fieldAddr 1 Try.underlying51 rfl Try.sizeOf49 rfl rfl rfl) _) rfl ?_
        obtain ⟨x_a45, x_n46, x_c47, hc48, h⟩ := h
        refine WL_val gd0 (o_load Try.isAgg49 rfl hc48) rfl ?_
        refine WL_val gd0 ((o_move (v := .int .i64 r22) (by exact e6_26)) _) rfl ?_
        obtain ⟨p51, q52, h⟩ := h
        obtain ⟨l49, u50, h⟩ := h
        refine WL_val gd0 ((o_indexAddr Try.underlying49 Try.sizeOf54 (by exact (congrArg (fun z => Value.slice z x_n46 x_c47) q52)) rfl l49 u50) _) rfl ?_
        refine WL_val gd0 ((o_fieldAddr 2 Try.underlying54 rfl Try.sizeOf36 rfl rfl rfl) _) rfl ?_
        obtain ⟨x53, x54, x55, x_a56, x_n57, x_c58, x_a59, x_n60, x_c61, hc62, h⟩ := h
        refine WL_val gd0 (o_loadAgg (vs := [.int .i64 x53, .int .i64 x54, .int .i64 x55, .slice x_a56 x_n57 x_c58, .slice x_a59 x_n60 x_c61]) Try.isAgg36 Try.sizeOf36 rfl hc62) rfl ?_
        refine WL_call gd0 (o_call Try.call27 (argCons rfl argNil) _) rfl (h.mono ?_)
        rintro _ w63 ⟨x64, x65, x66, x_a67, x_n68, x_c69, x_a70, x_n71, x_c72, rfl, h⟩
        obtain ⟨c74, h⟩ := h
        refine WL_act gd0 (o_storeAgg (vs := [.int .i64 x64, .int .i64 x65, .int .i64 x66, .slice x_a67 x_n68 x_c69, .slice x_a70 x_n71 x_c72]) Try.sizeOf36 (by exact e4_25) rfl rfl c74) ?_
        generalize hw73 : setAll w63 p4 0 [.int .i64 x64, .int .i64 x65, .int .i64 x66, .slice x_a67 x_n68 x_c69, .slice x_a70 x_n71 x_c72] = w73 at h ⊢
        try dsimp only at h
        refine WL_val gd0 ((o_assign (v := .bool true) rfl) _) rfl ?_
        refine WL_nil ?_
        refine nrm ?_
        refine WC_ret ?_
        refine rtE ?_
        obtain ⟨r75, r76, r77, r_a78, r_n79, r_c80, r_a81, r_n82, r_c83, hc84, h⟩ := h
        exact gvC1 (vs := [.int .i64 r75, .int .i64 r76, .int .i64 r77, .slice r_a78 r_n79 r_c80, .slice r_a81 r_n82 r_c83]) rfl Try.isAgg36 Try.sizeOf36 (by exact e4_25) hc84 rfl h

/-- spacecraft spacecraftref37.Same -/
def F17 (a1 : Int) (a2 : Int) (a3 : Int) (a_a4 : Option Addr) (a_n5 : Nat) (a_c6 : Nat) (a_a7 : Option Addr) (a_n8 : Nat) (a_c9 : Nat) (b10 : Int) (b11 : Int) (b12 : Int) (b_a13 : Option Addr) (b_n14 : Nat) (b_c15 : Nat) (b_a16 : Option Addr) (b_n17 : Nat) (b_c18 : Nat) (w19 : World) (k : Value → World → Prop) : Prop :=
  New w19 36 [.int .i64 a1, .int .i64 a2, .int .i64 a3, .slice a_a4 a_n5 a_c6, .slice a_a7 a_n8 a_c9] (fun p20 w21 => New w21 36 [.int .i64 b10, .int .i64 b11, .int .i64 b12, .slice b_a13 b_n14 b_c15, .slice b_a16 b_n17 b_c18] (fun p22 w23 => ∃ (x24 : Int), w23.cell? p20 = some (.int .i64 x24) ∧ ∃ (x26 : Int), w23.cell? p22 = some (.int .i64 x26) ∧ if x24 = x26 then
  ∃ (x29 : Int), w23.cell? (p20.add 1) = some (.int .i64 x29) ∧ ∃ (x31 : Int), w23.cell? (p22.add 1) = some (.int .i64 x31) ∧ if x29 = x31 then
    ∃ (x34 : Int), w23.cell? (p20.add 2) = some (.int .i64 x34) ∧ ∃ (x36 : Int), w23.cell? (p22.add 2) = some (.int .i64 x36) ∧ if x34 = x36 then
      ∃ (x_a39 : Option Addr) (x_n40 x_c41 : Nat), w23.cell? (p20.add 3) = some (.slice x_a39 x_n40 x_c41) ∧ ∃ (x_a43 : Option Addr) (x_n44 x_c45 : Nat), w23.cell? (p22.add 3) = some (.slice x_a43 x_n44 x_c45) ∧ Does Try.prog 11 #[.slice x_a39 x_n40 x_c41, .slice x_a43 x_n44 x_c45] w23 (fun v w47 => ∃ (x48 : Bool), v = .bool x48 ∧ if x48 = true then
        ∃ (x_a50 : Option Addr) (x_n51 x_c52 : Nat), w47.cell? (p20.add 4) = some (.slice x_a50 x_n51 x_c52) ∧ ∃ (s54 : ByteArray), (Conv.bytesToString (.slice x_a50 x_n51 x_c52)).run Try.prog w47 = .ok (.string s54) w47 ∧ ∃ (x_a56 : Option Addr) (x_n57 x_c58 : Nat), w47.cell? (p22.add 4) = some (.slice x_a56 x_n57 x_c58) ∧ ∃ (s60 : ByteArray), (Conv.bytesToString (.slice x_a56 x_n57 x_c58)).run Try.prog w47 = .ok (.string s60) w47 ∧ k (.bool (s54.toList == s60.toList)) w47
      else
        k (.bool false) w47)
    else
      k (.bool false) w23
  else
    k (.bool false) w23
else
  k (.bool false) w23))
set_option maxRecDepth 100000 in
set_option maxHeartbeats 2000000 in
theorem w17 (a1 : Int) (a2 : Int) (a3 : Int) (a_a4 : Option Addr) (a_n5 : Nat) (a_c6 : Nat) (a_a7 : Option Addr) (a_n8 : Nat) (a_c9 : Nat) (b10 : Int) (b11 : Int) (b12 : Int) (b_a13 : Option Addr) (b_n14 : Nat) (b_c15 : Nat) (b_a16 : Option Addr) (b_n17 : Nat) (b_c18 : Nat) (w19 : World) (k : Value → World → Prop) (h : F17 a1 a2 a3 a_a4 a_n5 a_c6 a_a7 a_n8 a_c9 b10 b11 b12 b_a13 b_n14 b_c15 b_a16 b_n17 b_c18 w19 k) : Does Try.prog 17 #[.agg #[.int .i64 a1, .int .i64 a2, .int .i64 a3, .slice a_a4 a_n5 a_c6, .slice a_a7 a_n8 a_c9], .agg #[.int .i64 b10, .int .i64 b11, .int .i64 b12, .slice b_a13 b_n14 b_c15, .slice b_a16 b_n17 b_c18]] w19 k := by
  refine enter 40 Try.func17 rfl rfl rfl ?_
  intro ρ hρ
  have e0 := hρ 0 _ rfl
  have e1 := hρ 1 _ rfl
  unfold F17 at h
  refine WC_seq ?_
  refine WC_region ?_
  have h := New.out h
  refine WL_val gd0 (o_box (v := .agg #[.int .i64 a1, .int .i64 a2, .int .i64 a3, .slice a_a4 a_n5 a_c6, .slice a_a7 a_n8 a_c9]) (cs := [.int .i64 a1, .int .i64 a2, .int .i64 a3, .slice a_a4 a_n5 a_c6, .slice a_a7 a_n8 a_c9]) (by exact e0) rfl) rfl ?_
  generalize hp20 : fresh w19 = p20 at h ⊢
  generalize hw21 : push w19 36 [.int .i64 a1, .int .i64 a2, .int .i64 a3, .slice a_a4 a_n5 a_c6, .slice a_a7 a_n8 a_c9] = w21 at h ⊢
  try dsimp only at h
  have h := New.out h
  refine WL_val gd0 (o_box (v := .agg #[.int .i64 b10, .int .i64 b11, .int .i64 b12, .slice b_a13 b_n14 b_c15, .slice b_a16 b_n17 b_c18]) (cs := [.int .i64 b10, .int .i64 b11, .int .i64 b12, .slice b_a13 b_n14 b_c15, .slice b_a16 b_n17 b_c18]) (by exact e1) rfl) rfl ?_
  generalize hp22 : fresh w21 = p22 at h ⊢
  generalize hw23 : push w21 36 [.int .i64 b10, .int .i64 b11, .int .i64 b12, .slice b_a13 b_n14 b_c15, .slice b_a16 b_n17 b_c18] = w23 at h ⊢
  try dsimp only at h
  refine WL_val gd0 ((o_assign (v := .bool false) rfl) _) rfl ?_
  refine WL_nil ?_
  refine nrm ?_
  refine WC_seq ?_
  refine WC_region ?_
  refine WL_val gd0 ((o_fieldAddr0 Try.underlying36 rfl Try.sizeOf3 rfl rfl rfl) _) rfl ?_
  obtain ⟨x24, hc25, h⟩ := h
  refine WL_val gd0 (o_load Try.isAgg3 rfl hc25) rfl ?_
  refine WL_val gd0 ((o_fieldAddr0 Try.underlying36 rfl Try.sizeOf3 rfl rfl rfl) _) rfl ?_
  obtain ⟨x26, hc27, h⟩ := h
  refine WL_val gd0 (o_load Try.isAgg3 rfl hc27) rfl ?_
  refine WL_val gd0 ((o_eql rfl rfl) _) rfl ?_
  refine WL_val gd0 ((o_move (v := .bool (decide (x24 = x26))) rfl) _) rfl ?_
  refine bsplit (decide (x24 = x26)) (fun hb28 => ?_) (fun hb28 => ?_)
  · rw [if_pos (of_decide_eq_true hb28)] at h
    refine WL_val (gdY (b := (decide (x24 = x26))) 10 rfl rfl hb28) ((o_fieldAddr 1 Try.underlying36 rfl Try.sizeOf3 rfl rfl rfl) _) rfl ?_
    obtain ⟨x29, hc30, h⟩ := h
    refine WL_val (gdY (b := (decide (x24 = x26))) 10 rfl rfl hb28) (o_load Try.isAgg3 rfl hc30) rfl ?_
    refine WL_val (gdY (b := (decide (x24 = x26))) 10 rfl rfl hb28) ((o_fieldAddr 1 Try.underlying36 rfl Try.sizeOf3 rfl rfl rfl) _) rfl ?_
    obtain ⟨x31, hc32, h⟩ := h
    refine WL_val (gdY (b := (decide (x24 = x26))) 10 rfl rfl hb28) (o_load Try.isAgg3 rfl hc32) rfl ?_
    refine WL_val (gdY (b := (decide (x24 = x26))) 10 rfl rfl hb28) ((o_eql rfl rfl) _) rfl ?_
    refine WL_val gd0 ((o_pickT (v := .bool (decide (x29 = x31))) rfl hb28 rfl) _) rfl ?_
    refine WL_val gd0 ((o_move (v := .bool (decide (x29 = x31))) rfl) _) rfl ?_
    refine bsplit (decide (x29 = x31)) (fun hb33 => ?_) (fun hb33 => ?_)
    · rw [if_pos (of_decide_eq_true hb33)] at h
      refine WL_val (gdY (b := (decide (x29 = x31))) 17 rfl rfl hb33) ((o_fieldAddr 2 Try.underlying36 rfl Try.sizeOf3 rfl rfl rfl) _) rfl ?_
      obtain ⟨x34, hc35, h⟩ := h
      refine WL_val (gdY (b := (decide (x29 = x31))) 17 rfl rfl hb33) (o_load Try.isAgg3 rfl hc35) rfl ?_
      refine WL_val (gdY (b := (decide (x29 = x31))) 17 rfl rfl hb33) ((o_fieldAddr 2 Try.underlying36 rfl Try.sizeOf3 rfl rfl rfl) _) rfl ?_
      obtain ⟨x36, hc37, h⟩ := h
      refine WL_val (gdY (b := (decide (x29 = x31))) 17 rfl rfl hb33) (o_load Try.isAgg3 rfl hc37) rfl ?_
      refine WL_val (gdY (b := (decide (x29 = x31))) 17 rfl rfl hb33) ((o_eql rfl rfl) _) rfl ?_
      refine WL_val gd0 ((o_pickT (v := .bool (decide (x34 = x36))) rfl hb33 rfl) _) rfl ?_
      refine WL_val gd0 ((o_move (v := .bool (decide (x34 = x36))) rfl) _) rfl ?_
      refine bsplit (decide (x34 = x36)) (fun hb38 => ?_) (fun hb38 => ?_)
      · rw [if_pos (of_decide_eq_true hb38)] at h
        refine WL_val (gdY (b := (decide (x34 = x36))) 24 rfl rfl hb38) ((o_fieldAddr 3 Try.underlying36 rfl Try.sizeOf27 rfl rfl rfl) _) rfl ?_
        obtain ⟨x_a39, x_n40, x_c41, hc42, h⟩ := h
        refine WL_val (gdY (b := (decide (x34 = x36))) 24 rfl rfl hb38) (o_load Try.isAgg27 rfl hc42) rfl ?_
        refine WL_val (gdY (b := (decide (x34 = x36))) 24 rfl rfl hb38) ((o_fieldAddr 3 Try.underlying36 rfl Try.sizeOf27 rfl rfl rfl) _) rfl ?_
        obtain ⟨x_a43, x_n44, x_c45, hc46, h⟩ := h
        refine WL_val (gdY (b := (decide (x34 = x36))) 24 rfl rfl hb38) (o_load Try.isAgg27 rfl hc46) rfl ?_
        refine WL_call (gdY (b := (decide (x34 = x36))) 24 rfl rfl hb38) (o_call Try.call11 (argCons rfl (argCons rfl argNil)) _) rfl (h.mono ?_)
        rintro _ w47 ⟨x48, rfl, h⟩
        refine WL_val gd0 ((o_pickT (v := .bool x48) rfl hb38 rfl) _) rfl ?_
        refine WL_val gd0 ((o_move (v := .bool x48) rfl) _) rfl ?_
        refine bsplit x48 (fun hb49 => ?_) (fun hb49 => ?_)
        · rw [if_pos hb49] at h
          refine WL_val (gdY (b := x48) 31 rfl rfl hb49) ((o_fieldAddr 4 Try.underlying36 rfl Try.sizeOf34 rfl rfl rfl) _) rfl ?_
          obtain ⟨x_a50, x_n51, x_c52, hc53, h⟩ := h
          refine WL_val (gdY (b := x48) 31 rfl rfl hb49) (o_load Try.isAgg34 rfl hc53) rfl ?_
          obtain ⟨s54, r55, h⟩ := h
          refine WL_val (gdY (b := x48) 31 rfl rfl hb49) (o_toStr Try.underlying34 Try.underlying5 Try.underlying9 rfl r55) rfl ?_
          refine WL_val (gdY (b := x48) 31 rfl rfl hb49) ((o_fieldAddr 4 Try.underlying36 rfl Try.sizeOf34 rfl rfl rfl) _) rfl ?_
          obtain ⟨x_a56, x_n57, x_c58, hc59, h⟩ := h
          refine WL_val (gdY (b := x48) 31 rfl rfl hb49) (o_load Try.isAgg34 rfl hc59) rfl ?_
          obtain ⟨s60, r61, h⟩ := h
          refine WL_val (gdY (b := x48) 31 rfl rfl hb49) (o_toStr Try.underlying34 Try.underlying5 Try.underlying9 rfl r61) rfl ?_
          refine WL_val (gdY (b := x48) 31 rfl rfl hb49) ((o_eqlStr rfl rfl) _) rfl ?_
          refine WL_val gd0 ((o_pickT (v := .bool (s54.toList == s60.toList)) rfl hb49 rfl) _) rfl ?_
          refine WL_val gd0 ((o_assign (v := .bool (s54.toList == s60.toList)) rfl) _) rfl ?_
          refine WL_nil ?_
          refine nrm ?_
          refine WC_ret ?_
          refine rtE ?_
          exact gv1 rfl rfl h
        · rw [if_neg (neT hb49)] at h
          refine WL_skip (gdN (b := x48) 31 rfl rfl hb49) rfl ?_
          refine WL_skip (gdN (b := x48) 31 rfl rfl hb49) rfl ?_
          refine WL_skip (gdN (b := x48) 31 rfl rfl hb49) rfl ?_
          refine WL_skip (gdN (b := x48) 31 rfl rfl hb49) rfl ?_
          refine WL_skip (gdN (b := x48) 31 rfl rfl hb49) rfl ?_
          refine WL_skip (gdN (b := x48) 31 rfl rfl hb49) rfl ?_
          refine WL_skip (gdN (b := x48) 31 rfl rfl hb49) rfl ?_
          refine WL_val gd0 ((o_pickF (v := .bool false) rfl hb49 rfl) _) rfl ?_
          refine WL_val gd0 ((o_assign (v := .bool false) rfl) _) rfl ?_
          refine WL_nil ?_
          refine nrm ?_
          refine WC_ret ?_
          refine rtE ?_
          exact gv1 rfl rfl h
      · rw [if_neg (of_decide_eq_false hb38)] at h
        refine WL_skip (gdN (b := (decide (x34 = x36))) 24 rfl rfl hb38) rfl ?_
        refine WL_skip (gdN (b := (decide (x34 = x36))) 24 rfl rfl hb38) rfl ?_
        refine WL_skip (gdN (b := (decide (x34 = x36))) 24 rfl rfl hb38) rfl ?_
        refine WL_skip (gdN (b := (decide (x34 = x36))) 24 rfl rfl hb38) rfl ?_
        refine WL_skip (gdN (b := (decide (x34 = x36))) 24 rfl rfl hb38) rfl ?_
        refine WL_val gd0 ((o_pickF (v := .bool false) rfl hb38 rfl) _) rfl ?_
        refine WL_val gd0 ((o_move (v := .bool false) rfl) _) rfl ?_
        refine WL_skip (gdN (b := false) 31 rfl rfl rfl) rfl ?_
        refine WL_skip (gdN (b := false) 31 rfl rfl rfl) rfl ?_
        refine WL_skip (gdN (b := false) 31 rfl rfl rfl) rfl ?_
        refine WL_skip (gdN (b := false) 31 rfl rfl rfl) rfl ?_
        refine WL_skip (gdN (b := false) 31 rfl rfl rfl) rfl ?_
        refine WL_skip (gdN (b := false) 31 rfl rfl rfl) rfl ?_
        refine WL_skip (gdN (b := false) 31 rfl rfl rfl) rfl ?_
        refine WL_val gd0 ((o_pickF (v := .bool false) rfl rfl rfl) _) rfl ?_
        refine WL_val gd0 ((o_assign (v := .bool false) rfl) _) rfl ?_
        refine WL_nil ?_
        refine nrm ?_
        refine WC_ret ?_
        refine rtE ?_
        exact gv1 rfl rfl h
    · rw [if_neg (of_decide_eq_false hb33)] at h
      refine WL_skip (gdN (b := (decide (x29 = x31))) 17 rfl rfl hb33) rfl ?_
      refine WL_skip (gdN (b := (decide (x29 = x31))) 17 rfl rfl hb33) rfl ?_
      refine WL_skip (gdN (b := (decide (x29 = x31))) 17 rfl rfl hb33) rfl ?_
      refine WL_skip (gdN (b := (decide (x29 = x31))) 17 rfl rfl hb33) rfl ?_
      refine WL_skip (gdN (b := (decide (x29 = x31))) 17 rfl rfl hb33) rfl ?_
      refine WL_val gd0 ((o_pickF (v := .bool false) rfl hb33 rfl) _) rfl ?_
      refine WL_val gd0 ((o_move (v := .bool false) rfl) _) rfl ?_
      refine WL_skip (gdN (b := false) 24 rfl rfl rfl) rfl ?_
      refine WL_skip (gdN (b := false) 24 rfl rfl rfl) rfl ?_
      refine WL_skip (gdN (b := false) 24 rfl rfl rfl) rfl ?_
      refine WL_skip (gdN (b := false) 24 rfl rfl rfl) rfl ?_
      refine WL_skip (gdN (b := false) 24 rfl rfl rfl) rfl ?_
      refine WL_val gd0 ((o_pickF (v := .bool false) rfl rfl rfl) _) rfl ?_
      refine WL_val gd0 ((o_move (v := .bool false) rfl) _) rfl ?_
      refine WL_skip (gdN (b := false) 31 rfl rfl rfl) rfl ?_
      refine WL_skip (gdN (b := false) 31 rfl rfl rfl) rfl ?_
      refine WL_skip (gdN (b := false) 31 rfl rfl rfl) rfl ?_
      refine WL_skip (gdN (b := false) 31 rfl rfl rfl) rfl ?_
      refine WL_skip (gdN (b := false) 31 rfl rfl rfl) rfl ?_
      refine WL_skip (gdN (b := false) 31 rfl rfl rfl) rfl ?_
      refine WL_skip (gdN (b := false) 31 rfl rfl rfl) rfl ?_
      refine WL_val gd0 ((o_pickF (v := .bool false) rfl rfl rfl) _) rfl ?_
      refine WL_val gd0 ((o_assign (v := .bool false) rfl) _) rfl ?_
      refine WL_nil ?_
      refine nrm ?_
      refine WC_ret ?_
      refine rtE ?_
      exact gv1 rfl rfl h
  · rw [if_neg (of_decide_eq_false hb28)] at h
    refine WL_skip (gdN (b := (decide (x24 = x26))) 10 rfl rfl hb28) rfl ?_
    refine WL_skip (gdN (b := (decide (x24 = x26))) 10 rfl rfl hb28) rfl ?_
    refine WL_skip (gdN (b := (decide (x24 = x26))) 10 rfl rfl hb28) rfl ?_
    refine WL_skip (gdN (b := (decide (x24 = x26))) 10 rfl rfl hb28) rfl ?_
    refine WL_skip (gdN (b := (decide (x24 = x26))) 10 rfl rfl hb28) rfl ?_
    refine WL_val gd0 ((o_pickF (v := .bool false) rfl hb28 rfl) _) rfl ?_
    refine WL_val gd0 ((o_move (v := .bool false) rfl) _) rfl ?_
    refine WL_skip (gdN (b := false) 17 rfl rfl rfl) rfl ?_
    refine WL_skip (gdN (b := false) 17 rfl rfl rfl) rfl ?_
    refine WL_skip (gdN (b := false) 17 rfl rfl rfl) rfl ?_
    refine WL_skip (gdN (b := false) 17 rfl rfl rfl) rfl ?_
    refine WL_skip (gdN (b := false) 17 rfl rfl rfl) rfl ?_
    refine WL_val gd0 ((o_pickF (v := .bool false) rfl rfl rfl) _) rfl ?_
    refine WL_val gd0 ((o_move (v := .bool false) rfl) _) rfl ?_
    refine WL_skip (gdN (b := false) 24 rfl rfl rfl) rfl ?_
    refine WL_skip (gdN (b := false) 24 rfl rfl rfl) rfl ?_
    refine WL_skip (gdN (b := false) 24 rfl rfl rfl) rfl ?_
    refine WL_skip (gdN (b := false) 24 rfl rfl rfl) rfl ?_
    refine WL_skip (gdN (b := false) 24 rfl rfl rfl) rfl ?_
    refine WL_val gd0 ((o_pickF (v := .bool false) rfl rfl rfl) _) rfl ?_
    refine WL_val gd0 ((o_move (v := .bool false) rfl) _) rfl ?_
    refine WL_skip (gdN (b := false) 31 rfl rfl rfl) rfl ?_
    refine WL_skip (gdN (b := false) 31 rfl rfl rfl) rfl ?_
    refine WL_skip (gdN (b := false) 31 rfl rfl rfl) rfl ?_
    refine WL_skip (gdN (b := false) 31 rfl rfl rfl) rfl ?_
    refine WL_skip (gdN (b := false) 31 rfl rfl rfl) rfl ?_
    refine WL_skip (gdN (b := false) 31 rfl rfl rfl) rfl ?_
    refine WL_skip (gdN (b := false) 31 rfl rfl rfl) rfl ?_
    refine WL_val gd0 ((o_pickF (v := .bool false) rfl rfl rfl) _) rfl ?_
    refine WL_val gd0 ((o_assign (v := .bool false) rfl) _) rfl ?_
    refine WL_nil ?_
    refine nrm ?_
    refine WC_ret ?_
    refine rtE ?_
    exact gv1 rfl rfl h

/-- (*spacecraft action.Table).Clone -/
def F18 (t1 : Option Addr) (w2 : World) (k : Value → World → Prop) : Prop :=
  Does Try.prog 24 #[.pointer t1] w2 (fun v w3 => ∃ (x4 : Bool), v = .bool x4 ∧ if (!x4) = true then
  k (.pointer none) w3
else
  ∃ (p6 : Addr), t1 = some p6 ∧ ∃ (x_a8 : Option Addr) (x_n9 x_c10 : Nat), w3.cell? (p6.add 1) = some (.slice x_a8 x_n9 x_c10) ∧ Does Try.prog 29 #[.slice x_a8 x_n9 x_c10] w3 (fun v w12 => ∃ (x_a13 : Option Addr) (x_n14 x_c15 : Nat), v = .slice x_a13 x_n14 x_c15 ∧ New w12 51 [.bool true, .slice x_a13 x_n14 x_c15] (fun p16 w17 => k (.pointer (some p16)) w17)))
set_option maxRecDepth 100000 in
set_option maxHeartbeats 2000000 in
theorem w18 (t1 : Option Addr) (w2 : World) (k : Value → World → Prop) (h : F18 t1 w2 k) : Does Try.prog 18 #[.pointer t1] w2 k := by
  refine enter 13 Try.func18 rfl rfl rfl ?_
  intro ρ hρ
  have e0 := hρ 0 _ rfl
  unfold F18 at h
  refine WC_seq ?_
  refine WC_region ?_
  refine WL_val gd0 ((o_assign (v := .pointer none) rfl) _) rfl ?_
  refine WL_nil ?_
  refine nrm ?_
  refine WC_seq ?_
  refine WC_seq ?_
  refine WC_region ?_
  refine WL_val gd0 ((o_move (v := .pointer t1) (by exact e0)) _) rfl ?_
  refine WL_call gd0 (o_call Try.call24 (argCons rfl argNil) _) rfl (h.mono ?_)
  rintro _ w3 ⟨x4, rfl, h⟩
  refine WL_val gd0 ((o_not rfl) _) rfl ?_
  refine WL_nil ?_
  refine nrm ?_
  refine WC_cond (t := (!x4)) rfl (fun hb5 => ?_) (fun hb5 => ?_)
  · rw [if_pos hb5] at h
    refine WC_seq ?_
    refine WC_region ?_
    refine WL_val gd0 ((o_assign (v := .pointer none) rfl) _) rfl ?_
    refine WL_nil ?_
    refine nrm ?_
    refine WC_ret ?_
    refine rtT ?_
    refine rtE ?_
    exact gv1 rfl rfl h
  · rw [if_neg (neT hb5)] at h
    refine WC_skip ?_
    refine nrm ?_
    refine WC_seq ?_
    refine WC_region ?_
    refine WL_val gd0 ((o_move (v := .pointer t1) (by exact e0)) _) rfl ?_
    obtain ⟨p6, q7, h⟩ := h
    refine WL_val gd0 ((o_nilCheck (by exact (congrArg Value.pointer q7))) _) rfl ?_
    refine WL_val gd0 ((o_fieldAddr 1 Try.underlying51 rfl Try.sizeOf49 rfl rfl rfl) _) rfl ?_
    obtain ⟨x_a8, x_n9, x_c10, hc11, h⟩ := h
    refine WL_val gd0 (o_load Try.isAgg49 rfl hc11) rfl ?_
    refine WL_call gd0 (o_call Try.call29 (argCons rfl argNil) _) rfl (h.mono ?_)
    rintro _ w12 ⟨x_a13, x_n14, x_c15, rfl, h⟩
    refine WL_val gd0 ((o_build (ps := [(0, .bool true), (1, .slice x_a13 x_n14 x_c15)]) (v := .agg #[.bool true, .slice x_a13 x_n14 x_c15]) (partCons rfl (partCons rfl partNil)) (fun w => by kernel_rfl)) _) rfl ?_
    have h := New.out h
    refine WL_val gd0 (o_box (v := .agg #[.bool true, .slice x_a13 x_n14 x_c15]) (cs := [.bool true, .slice x_a13 x_n14 x_c15]) rfl rfl) rfl ?_
    generalize hp16 : fresh w12 = p16 at h ⊢
    generalize hw17 : push w12 51 [.bool true, .slice x_a13 x_n14 x_c15] = w17 at h ⊢
    try dsimp only at h
    refine WL_val gd0 ((o_assign (v := .pointer (some p16)) rfl) _) rfl ?_
    refine WL_nil ?_
    refine nrm ?_
    refine WC_ret ?_
    refine rtE ?_
    exact gv1 rfl rfl h

/-- spacecraft spacecraftlaw37.light -/
def F19 (c1 : Int) (c2 : Int) (c3 : Int) (c_a4 : Option Addr) (c_n5 : Nat) (c_c6 : Nat) (c_a7 : Option Addr) (c_n8 : Nat) (c_c9 : Nat) (w10 : World) (k : Value → World → Prop) : Prop :=
  New w10 36 [.int .i64 c1, .int .i64 c2, .int .i64 c3, .slice c_a4 c_n5 c_c6, .slice c_a7 c_n8 c_c9] (fun p11 w12 => ∃ (x_a13 : Option Addr) (x_n14 x_c15 : Nat), w12.cell? (p11.add 3) = some (.slice x_a13 x_n14 x_c15) ∧ if (x_n14 : Int) ≤ 40 then
  ∃ (x_a18 : Option Addr) (x_n19 x_c20 : Nat), w12.cell? (p11.add 4) = some (.slice x_a18 x_n19 x_c20) ∧ k (.bool (decide ((x_n19 : Int) ≤ 1000))) w12
else
  k (.bool false) w12)
set_option maxRecDepth 100000 in
set_option maxHeartbeats 2000000 in
theorem w19 (c1 : Int) (c2 : Int) (c3 : Int) (c_a4 : Option Addr) (c_n5 : Nat) (c_c6 : Nat) (c_a7 : Option Addr) (c_n8 : Nat) (c_c9 : Nat) (w10 : World) (k : Value → World → Prop) (h : F19 c1 c2 c3 c_a4 c_n5 c_c6 c_a7 c_n8 c_c9 w10 k) : Does Try.prog 19 #[.agg #[.int .i64 c1, .int .i64 c2, .int .i64 c3, .slice c_a4 c_n5 c_c6, .slice c_a7 c_n8 c_c9]] w10 k := by
  refine enter 13 Try.func19 rfl rfl rfl ?_
  intro ρ hρ
  have e0 := hρ 0 _ rfl
  unfold F19 at h
  refine WC_seq ?_
  refine WC_region ?_
  have h := New.out h
  refine WL_val gd0 (o_box (v := .agg #[.int .i64 c1, .int .i64 c2, .int .i64 c3, .slice c_a4 c_n5 c_c6, .slice c_a7 c_n8 c_c9]) (cs := [.int .i64 c1, .int .i64 c2, .int .i64 c3, .slice c_a4 c_n5 c_c6, .slice c_a7 c_n8 c_c9]) (by exact e0) rfl) rfl ?_
  generalize hp11 : fresh w10 = p11 at h ⊢
  generalize hw12 : push w10 36 [.int .i64 c1, .int .i64 c2, .int .i64 c3, .slice c_a4 c_n5 c_c6, .slice c_a7 c_n8 c_c9] = w12 at h ⊢
  try dsimp only at h
  refine WL_val gd0 ((o_assign (v := .bool false) rfl) _) rfl ?_
  refine WL_nil ?_
  refine nrm ?_
  refine WC_seq ?_
  refine WC_region ?_
  refine WL_val gd0 ((o_fieldAddr 3 Try.underlying36 rfl Try.sizeOf27 rfl rfl rfl) _) rfl ?_
  obtain ⟨x_a13, x_n14, x_c15, hc16, h⟩ := h
  refine WL_val gd0 (o_load Try.isAgg27 rfl hc16) rfl ?_
  refine WL_val gd0 ((o_len Try.underlying27 rfl) _) rfl ?_
  refine WL_val gd0 ((o_leq rfl rfl) _) rfl ?_
  refine WL_val gd0 ((o_move (v := .bool (decide ((x_n14 : Int) ≤ 40))) rfl) _) rfl ?_
  refine bsplit (decide ((x_n14 : Int) ≤ 40)) (fun hb17 => ?_) (fun hb17 => ?_)
  · rw [if_pos (of_decide_eq_true hb17)] at h
    refine WL_val (gdY (b := (decide ((x_n14 : Int) ≤ 40))) 7 rfl rfl hb17) ((o_fieldAddr 4 Try.underlying36 rfl Try.sizeOf34 rfl rfl rfl) _) rfl ?_
    obtain ⟨x_a18, x_n19, x_c20, hc21, h⟩ := h
    refine WL_val (gdY (b := (decide ((x_n14 : Int) ≤ 40))) 7 rfl rfl hb17) (o_load Try.isAgg34 rfl hc21) rfl ?_
    refine WL_val (gdY (b := (decide ((x_n14 : Int) ≤ 40))) 7 rfl rfl hb17) ((o_len Try.underlying34 rfl) _) rfl ?_
    refine WL_val (gdY (b := (decide ((x_n14 : Int) ≤ 40))) 7 rfl rfl hb17) ((o_leq rfl rfl) _) rfl ?_
    refine WL_val gd0 ((o_pickT (v := .bool (decide ((x_n19 : Int) ≤ 1000))) rfl hb17 rfl) _) rfl ?_
    refine WL_val gd0 ((o_assign (v := .bool (decide ((x_n19 : Int) ≤ 1000))) rfl) _) rfl ?_
    refine WL_nil ?_
    refine nrm ?_
    refine WC_ret ?_
    refine rtE ?_
    exact gv1 rfl rfl h
  · rw [if_neg (of_decide_eq_false hb17)] at h
    refine WL_skip (gdN (b := (decide ((x_n14 : Int) ≤ 40))) 7 rfl rfl hb17) rfl ?_
    refine WL_skip (gdN (b := (decide ((x_n14 : Int) ≤ 40))) 7 rfl rfl hb17) rfl ?_
    refine WL_skip (gdN (b := (decide ((x_n14 : Int) ≤ 40))) 7 rfl rfl hb17) rfl ?_
    refine WL_skip (gdN (b := (decide ((x_n14 : Int) ≤ 40))) 7 rfl rfl hb17) rfl ?_
    refine WL_val gd0 ((o_pickF (v := .bool false) rfl hb17 rfl) _) rfl ?_
    refine WL_val gd0 ((o_assign (v := .bool false) rfl) _) rfl ?_
    refine WL_nil ?_
    refine nrm ?_
    refine WC_ret ?_
    refine rtE ?_
    exact gv1 rfl rfl h

def F20_j2 (p21 : Addr) (r18 : Int) (w34 : World) (k : Value → World → Prop) : Prop :=
  ∃ (x_a35 : Option Addr) (x_n36 x_c37 : Nat), w34.drew.cell? (p21.add 2) = some (.slice x_a35 x_n36 x_c37) ∧ (0 : Int) ≤ r18 ∧ r18 ≤ (x_c37 : Int) ∧ ∃ (x_a41 : Option Addr) (x_n42 x_c43 : Nat), w34.drew.cell? (p21.add 2) = some (.slice x_a41 x_n42 x_c43) ∧ (0 : Int) ≤ r18 ∧ r18 ≤ (x_n42 : Int) ∧ (New w34.drew 4 [] (fun p47 w48 => w48.cell? (p21.add 2) = some (.slice x_a35 x_n36 x_c37) ∧ w48.cell? (p21.add 2) = some (.slice x_a41 x_n42 x_c43) ∧ (∃ (b_a51 : Option Addr) (b_n52 b_c53 : Nat) (w54 : World), (Builtin.append_ #[29, 29] 29 #[.slice (some p47) 0 0, .slice x_a35 r18.toNat x_c37]).run Try.prog w48 = .ok (.slice b_a51 b_n52 b_c53) w54 ∧ w54.cell? (p21.add 2) = some (.slice x_a41 x_n42 x_c43) ∧ New w54 4 [.bool false] (fun p57 w58 => w58.cell? (p21.add 2) = some (.slice x_a35 x_n36 x_c37) ∧ w58.cell? (p21.add 2) = some (.slice x_a41 x_n42 x_c43) ∧ ∃ (b_a61 : Option Addr) (b_n62 b_c63 : Nat) (w64 : World), (Builtin.append_ #[29, 29] 29 #[.slice b_a51 b_n52 b_c53, .slice (some p57) 1 1]).run Try.prog w58 = .ok (.slice b_a61 b_n62 b_c63) w64 ∧ w64.cell? (p21.add 2) = some (.slice x_a41 x_n42 x_c43) ∧ ∃ (b_a67 : Option Addr) (b_n68 b_c69 : Nat) (w70 : World), (Builtin.append_ #[29, 29] 29 #[.slice b_a61 b_n62 b_c63, .slice (cutA x_a41 x_c43 r18.toNat 1) (x_n42 - r18.toNat) (x_c43 - r18.toNat)]).run Try.prog w64 = .ok (.slice b_a67 b_n68 b_c69) w70 ∧ Put w70 (p21.add 2) (.slice b_a67 b_n68 b_c69) (fun w72 => k (.int .i64 0) w72))) ∧ (New w48 4 [.bool false] (fun p74 w75 => w75.cell? (p21.add 2) = some (.slice x_a35 x_n36 x_c37) ∧ w75.cell? (p21.add 2) = some (.slice x_a41 x_n42 x_c43) ∧ ∃ (b_a78 : Option Addr) (b_n79 b_c80 : Nat) (w81 : World), (Builtin.append_ #[29, 29] 29 #[.slice (some p47) 0 0, .slice x_a35 r18.toNat x_c37]).run Try.prog w75 = .ok (.slice b_a78 b_n79 b_c80) w81 ∧ w81.cell? (p21.add 2) = some (.slice x_a41 x_n42 x_c43) ∧ ∃ (b_a84 : Option Addr) (b_n85 b_c86 : Nat) (w87 : World), (Builtin.append_ #[29, 29] 29 #[.slice b_a78 b_n79 b_c80, .slice (some p74) 1 1]).run Try.prog w81 = .ok (.slice b_a84 b_n85 b_c86) w87 ∧ w87.cell? (p21.add 2) = some (.slice x_a41 x_n42 x_c43) ∧ ∃ (b_a90 : Option Addr) (b_n91 b_c92 : Nat) (w93 : World), (Builtin.append_ #[29, 29] 29 #[.slice b_a84 b_n85 b_c86, .slice (cutA x_a41 x_c43 r18.toNat 1) (x_n42 - r18.toNat) (x_c43 - r18.toNat)]).run Try.prog w87 = .ok (.slice b_a90 b_n91 b_c92) w93 ∧ Put w93 (p21.add 2) (.slice b_a90 b_n91 b_c92) (fun w95 => k (.int .i64 0) w95))))) ∧ (New w34.drew 4 [.bool false] (fun p98 w99 => w99.cell? (p21.add 2) = some (.slice x_a35 x_n36 x_c37) ∧ w99.cell? (p21.add 2) = some (.slice x_a41 x_n42 x_c43) ∧ New w99 4 [] (fun p102 w103 => w103.cell? (p21.add 2) = some (.slice x_a35 x_n36 x_c37) ∧ w103.cell? (p21.add 2) = some (.slice x_a41 x_n42 x_c43) ∧ ∃ (b_a106 : Option Addr) (b_n107 b_c108 : Nat) (w109 : World), (Builtin.append_ #[29, 29] 29 #[.slice (some p102) 0 0, .slice x_a35 r18.toNat x_c37]).run Try.prog w103 = .ok (.slice b_a106 b_n107 b_c108) w109 ∧ w109.cell? (p21.add 2) = some (.slice x_a41 x_n42 x_c43) ∧ ∃ (b_a112 : Option Addr) (b_n113 b_c114 : Nat) (w115 : World), (Builtin.append_ #[29, 29] 29 #[.slice b_a106 b_n107 b_c108, .slice (some p98) 1 1]).run Try.prog w109 = .ok (.slice b_a112 b_n113 b_c114) w115 ∧ w115.cell? (p21.add 2) = some (.slice x_a41 x_n42 x_c43) ∧ ∃ (b_a118 : Option Addr) (b_n119 b_c120 : Nat) (w121 : World), (Builtin.append_ #[29, 29] 29 #[.slice b_a112 b_n113 b_c114, .slice (cutA x_a41 x_c43 r18.toNat 1) (x_n42 - r18.toNat) (x_c43 - r18.toNat)]).run Try.prog w115 = .ok (.slice b_a118 b_n119 b_c120) w121 ∧ Put w121 (p21.add 2) (.slice b_a118 b_n119 b_c120) (fun w123 => k (.int .i64 0) w123))))
def F20_j1 (p21 : Addr) (r18 : Int) (p13 : Addr) (w31 : World) (k : Value → World → Prop) : Prop :=
  ∃ (x_a126 : Option Addr) (x_n127 x_c128 : Nat), w31.drew.cell? (p21.add 1) = some (.slice x_a126 x_n127 x_c128) ∧ (0 : Int) ≤ r18 ∧ r18 ≤ (x_c128 : Int) ∧ ∃ (x132 x133 x134 : Int) (x_a135 : Option Addr) (x_n136 x_c137 : Nat) (x_a138 : Option Addr) (x_n139 x_c140 : Nat), Cells w31.drew p13 0 [.int .i64 x132, .int .i64 x133, .int .i64 x134, .slice x_a135 x_n136 x_c137, .slice x_a138 x_n139 x_c140] ∧ ∃ (x_a142 : Option Addr) (x_n143 x_c144 : Nat), w31.drew.cell? (p21.add 1) = some (.slice x_a142 x_n143 x_c144) ∧ (0 : Int) ≤ r18 ∧ r18 ≤ (x_n143 : Int) ∧ (New w31.drew 36 [] (fun p148 w149 => w149.cell? (p21.add 1) = some (.slice x_a126 x_n127 x_c128) ∧ Cells w149 p13 0 [.int .i64 x132, .int .i64 x133, .int .i64 x134, .slice x_a135 x_n136 x_c137, .slice x_a138 x_n139 x_c140] ∧ w149.cell? (p21.add 1) = some (.slice x_a142 x_n143 x_c144) ∧ (∃ (b_a153 : Option Addr) (b_n154 b_c155 : Nat) (w156 : World), (Builtin.append_ #[28, 28] 28 #[.slice (some p148) 0 0, .slice x_a126 r18.toNat x_c128]).run Try.prog w149 = .ok (.slice b_a153 b_n154 b_c155) w156 ∧ Cells w156 p13 0 [.int .i64 x132, .int .i64 x133, .int .i64 x134, .slice x_a135 x_n136 x_c137, .slice x_a138 x_n139 x_c140] ∧ w156.cell? (p21.add 1) = some (.slice x_a142 x_n143 x_c144) ∧ New w156 36 [.int .i64 x132, .int .i64 x133, .int .i64 x134, .slice x_a135 x_n136 x_c137, .slice x_a138 x_n139 x_c140] (fun p160 w161 => w161.cell? (p21.add 1) = some (.slice x_a126 x_n127 x_c128) ∧ w161.cell? (p21.add 1) = some (.slice x_a142 x_n143 x_c144) ∧ ∃ (b_a164 : Option Addr) (b_n165 b_c166 : Nat) (w167 : World), (Builtin.append_ #[28, 28] 28 #[.slice b_a153 b_n154 b_c155, .slice (some p160) 1 1]).run Try.prog w161 = .ok (.slice b_a164 b_n165 b_c166) w167 ∧ w167.cell? (p21.add 1) = some (.slice x_a142 x_n143 x_c144) ∧ ∃ (b_a170 : Option Addr) (b_n171 b_c172 : Nat) (w173 : World), (Builtin.append_ #[28, 28] 28 #[.slice b_a164 b_n165 b_c166, .slice (cutA x_a142 x_c144 r18.toNat 5) (x_n143 - r18.toNat) (x_c144 - r18.toNat)]).run Try.prog w167 = .ok (.slice b_a170 b_n171 b_c172) w173 ∧ Put w173 (p21.add 1) (.slice b_a170 b_n171 b_c172) (fun w175 => F20_j2 p21 r18 w175 k))) ∧ (New w149 36 [.int .i64 x132, .int .i64 x133, .int .i64 x134, .slice x_a135 x_n136 x_c137, .slice x_a138 x_n139 x_c140] (fun p177 w178 => w178.cell? (p21.add 1) = some (.slice x_a126 x_n127 x_c128) ∧ w178.cell? (p21.add 1) = some (.slice x_a142 x_n143 x_c144) ∧ ∃ (b_a181 : Option Addr) (b_n182 b_c183 : Nat) (w184 : World), (Builtin.append_ #[28, 28] 28 #[.slice (some p148) 0 0, .slice x_a126 r18.toNat x_c128]).run Try.prog w178 = .ok (.slice b_a181 b_n182 b_c183) w184 ∧ Cells w184 p13 0 [.int .i64 x132, .int .i64 x133, .int .i64 x134, .slice x_a135 x_n136 x_c137, .slice x_a138 x_n139 x_c140] ∧ w184.cell? (p21.add 1) = some (.slice x_a142 x_n143 x_c144) ∧ ∃ (b_a188 : Option Addr) (b_n189 b_c190 : Nat) (w191 : World), (Builtin.append_ #[28, 28] 28 #[.slice b_a181 b_n182 b_c183, .slice (some p177) 1 1]).run Try.prog w184 = .ok (.slice b_a188 b_n189 b_c190) w191 ∧ w191.cell? (p21.add 1) = some (.slice x_a142 x_n143 x_c144) ∧ ∃ (b_a194 : Option Addr) (b_n195 b_c196 : Nat) (w197 : World), (Builtin.append_ #[28, 28] 28 #[.slice b_a188 b_n189 b_c190, .slice (cutA x_a142 x_c144 r18.toNat 5) (x_n143 - r18.toNat) (x_c144 - r18.toNat)]).run Try.prog w191 = .ok (.slice b_a194 b_n195 b_c196) w197 ∧ Put w197 (p21.add 1) (.slice b_a194 b_n195 b_c196) (fun w199 => F20_j2 p21 r18 w199 k))))) ∧ (New w31.drew 36 [.int .i64 x132, .int .i64 x133, .int .i64 x134, .slice x_a135 x_n136 x_c137, .slice x_a138 x_n139 x_c140] (fun p202 w203 => w203.cell? (p21.add 1) = some (.slice x_a126 x_n127 x_c128) ∧ w203.cell? (p21.add 1) = some (.slice x_a142 x_n143 x_c144) ∧ New w203 36 [] (fun p206 w207 => w207.cell? (p21.add 1) = some (.slice x_a126 x_n127 x_c128) ∧ Cells w207 p13 0 [.int .i64 x132, .int .i64 x133, .int .i64 x134, .slice x_a135 x_n136 x_c137, .slice x_a138 x_n139 x_c140] ∧ w207.cell? (p21.add 1) = some (.slice x_a142 x_n143 x_c144) ∧ ∃ (b_a211 : Option Addr) (b_n212 b_c213 : Nat) (w214 : World), (Builtin.append_ #[28, 28] 28 #[.slice (some p206) 0 0, .slice x_a126 r18.toNat x_c128]).run Try.prog w207 = .ok (.slice b_a211 b_n212 b_c213) w214 ∧ Cells w214 p13 0 [.int .i64 x132, .int .i64 x133, .int .i64 x134, .slice x_a135 x_n136 x_c137, .slice x_a138 x_n139 x_c140] ∧ w214.cell? (p21.add 1) = some (.slice x_a142 x_n143 x_c144) ∧ ∃ (b_a218 : Option Addr) (b_n219 b_c220 : Nat) (w221 : World), (Builtin.append_ #[28, 28] 28 #[.slice b_a211 b_n212 b_c213, .slice (some p202) 1 1]).run Try.prog w214 = .ok (.slice b_a218 b_n219 b_c220) w221 ∧ w221.cell? (p21.add 1) = some (.slice x_a142 x_n143 x_c144) ∧ ∃ (b_a224 : Option Addr) (b_n225 b_c226 : Nat) (w227 : World), (Builtin.append_ #[28, 28] 28 #[.slice b_a218 b_n219 b_c220, .slice (cutA x_a142 x_c144 r18.toNat 5) (x_n143 - r18.toNat) (x_c144 - r18.toNat)]).run Try.prog w221 = .ok (.slice b_a224 b_n225 b_c226) w227 ∧ Put w227 (p21.add 1) (.slice b_a224 b_n225 b_c226) (fun w229 => F20_j2 p21 r18 w229 k))))
/-- (*spacecraft spacecraftref37.Table).Add -/
def F20 (t1 : Option Addr) (event2 : Int) (c3 : Int) (c4 : Int) (c5 : Int) (c_a6 : Option Addr) (c_n7 : Nat) (c_c8 : Nat) (c_a9 : Option Addr) (c_n10 : Nat) (c_c11 : Nat) (w12 : World) (k : Value → World → Prop) : Prop :=
  New w12 36 [.int .i64 c3, .int .i64 c4, .int .i64 c5, .slice c_a6 c_n7 c_c8, .slice c_a9 c_n10 c_c11] (fun p13 w14 => if event2 < 0 then
  k (.int .i64 1) w14
else
  if 65535 < event2 then
    k (.int .i64 1) w14
  else
    Does Try.prog 30 #[.pointer t1, .int .i64 event2] w14 (fun v w17 => ∃ (r18 : Int) (r19 : Bool), v = .tuple #[.int .i64 r18, .bool r19] ∧ if r19 = true then
      k (.int .i64 9) w17
    else
      ∃ (p21 : Addr), t1 = some p21 ∧ ∃ (x_a23 : Option Addr) (x_n24 x_c25 : Nat), w17.cell? p21 = some (.slice x_a23 x_n24 x_c25) ∧ if 256 ≤ (x_n24 : Int) then
        k (.int .i64 7) w17
      else
        ∃ (x_a232 : Option Addr) (x_n233 x_c234 : Nat), w17.drew.cell? p21 = some (.slice x_a232 x_n233 x_c234) ∧ (0 : Int) ≤ r18 ∧ r18 ≤ (x_c234 : Int) ∧ ∃ (x_a238 : Option Addr) (x_n239 x_c240 : Nat), w17.drew.cell? p21 = some (.slice x_a238 x_n239 x_c240) ∧ (0 : Int) ≤ r18 ∧ r18 ≤ (x_n239 : Int) ∧ (New w17.drew 3 [] (fun p244 w245 => w245.cell? p21 = some (.slice x_a232 x_n233 x_c234) ∧ w245.cell? p21 = some (.slice x_a238 x_n239 x_c240) ∧ (∃ (b_a248 : Option Addr) (b_n249 b_c250 : Nat) (w251 : World), (Builtin.append_ #[27, 27] 27 #[.slice (some p244) 0 0, .slice x_a232 r18.toNat x_c234]).run Try.prog w245 = .ok (.slice b_a248 b_n249 b_c250) w251 ∧ w251.cell? p21 = some (.slice x_a238 x_n239 x_c240) ∧ New w251 3 [.int .i64 event2] (fun p254 w255 => w255.cell? p21 = some (.slice x_a232 x_n233 x_c234) ∧ w255.cell? p21 = some (.slice x_a238 x_n239 x_c240) ∧ ∃ (b_a258 : Option Addr) (b_n259 b_c260 : Nat) (w261 : World), (Builtin.append_ #[27, 27] 27 #[.slice b_a248 b_n249 b_c250, .slice (some p254) 1 1]).run Try.prog w255 = .ok (.slice b_a258 b_n259 b_c260) w261 ∧ w261.cell? p21 = some (.slice x_a238 x_n239 x_c240) ∧ ∃ (b_a264 : Option Addr) (b_n265 b_c266 : Nat) (w267 : World), (Builtin.append_ #[27, 27] 27 #[.slice b_a258 b_n259 b_c260, .slice (cutA x_a238 x_c240 r18.toNat 1) (x_n239 - r18.toNat) (x_c240 - r18.toNat)]).run Try.prog w261 = .ok (.slice b_a264 b_n265 b_c266) w267 ∧ Put w267 p21 (.slice b_a264 b_n265 b_c266) (fun w269 => F20_j1 p21 r18 p13 w269 k))) ∧ (New w245 3 [.int .i64 event2] (fun p271 w272 => w272.cell? p21 = some (.slice x_a232 x_n233 x_c234) ∧ w272.cell? p21 = some (.slice x_a238 x_n239 x_c240) ∧ ∃ (b_a275 : Option Addr) (b_n276 b_c277 : Nat) (w278 : World), (Builtin.append_ #[27, 27] 27 #[.slice (some p244) 0 0, .slice x_a232 r18.toNat x_c234]).run Try.prog w272 = .ok (.slice b_a275 b_n276 b_c277) w278 ∧ w278.cell? p21 = some (.slice x_a238 x_n239 x_c240) ∧ ∃ (b_a281 : Option Addr) (b_n282 b_c283 : Nat) (w284 : World), (Builtin.append_ #[27, 27] 27 #[.slice b_a275 b_n276 b_c277, .slice (some p271) 1 1]).run Try.prog w278 = .ok (.slice b_a281 b_n282 b_c283) w284 ∧ w284.cell? p21 = some (.slice x_a238 x_n239 x_c240) ∧ ∃ (b_a287 : Option Addr) (b_n288 b_c289 : Nat) (w290 : World), (Builtin.append_ #[27, 27] 27 #[.slice b_a281 b_n282 b_c283, .slice (cutA x_a238 x_c240 r18.toNat 1) (x_n239 - r18.toNat) (x_c240 - r18.toNat)]).run Try.prog w284 = .ok (.slice b_a287 b_n288 b_c289) w290 ∧ Put w290 p21 (.slice b_a287 b_n288 b_c289) (fun w292 => F20_j1 p21 r18 p13 w292 k))))) ∧ (New w17.drew 3 [.int .i64 event2] (fun p295 w296 => w296.cell? p21 = some (.slice x_a232 x_n233 x_c234) ∧ w296.cell? p21 = some (.slice x_a238 x_n239 x_c240) ∧ New w296 3 [] (fun p299 w300 => w300.cell? p21 = some (.slice x_a232 x_n233 x_c234) ∧ w300.cell? p21 = some (.slice x_a238 x_n239 x_c240) ∧ ∃ (b_a303 : Option Addr) (b_n304 b_c305 : Nat) (w306 : World), (Builtin.append_ #[27, 27] 27 #[.slice (some p299) 0 0, .slice x_a232 r18.toNat x_c234]).run Try.prog w300 = .ok (.slice b_a303 b_n304 b_c305) w306 ∧ w306.cell? p21 = some (.slice x_a238 x_n239 x_c240) ∧ ∃ (b_a309 : Option Addr) (b_n310 b_c311 : Nat) (w312 : World), (Builtin.append_ #[27, 27] 27 #[.slice b_a303 b_n304 b_c305, .slice (some p295) 1 1]).run Try.prog w306 = .ok (.slice b_a309 b_n310 b_c311) w312 ∧ w312.cell? p21 = some (.slice x_a238 x_n239 x_c240) ∧ ∃ (b_a315 : Option Addr) (b_n316 b_c317 : Nat) (w318 : World), (Builtin.append_ #[27, 27] 27 #[.slice b_a309 b_n310 b_c311, .slice (cutA x_a238 x_c240 r18.toNat 1) (x_n239 - r18.toNat) (x_c240 - r18.toNat)]).run Try.prog w312 = .ok (.slice b_a315 b_n316 b_c317) w318 ∧ Put w318 p21 (.slice b_a315 b_n316 b_c317) (fun w320 => F20_j1 p21 r18 p13 w320 k))))))
set_option maxRecDepth 100000 in
set_option maxHeartbeats 2000000 in
theorem w20 (t1 : Option Addr) (event2 : Int) (c3 : Int) (c4 : Int) (c5 : Int) (c_a6 : Option Addr) (c_n7 : Nat) (c_c8 : Nat) (c_a9 : Option Addr) (c_n10 : Nat) (c_c11 : Nat) (w12 : World) (k : Value → World → Prop) (h : F20 t1 event2 c3 c4 c5 c_a6 c_n7 c_c8 c_a9 c_n10 c_c11 w12 k) : Does Try.prog 20 #[.pointer t1, .int .i64 event2, .agg #[.int .i64 c3, .int .i64 c4, .int .i64 c5, .slice c_a6 c_n7 c_c8, .slice c_a9 c_n10 c_c11]] w12 k := by
  refine enter 90 Try.func20 rfl rfl rfl ?_
  intro ρ hρ
  have e0 := hρ 0 _ rfl
  have e1 := hρ 1 _ rfl
  have e2 := hρ 2 _ rfl
  unfold F20 at h
  refine WC_seq ?_
  refine WC_region ?_
  have h := New.out h
  refine WL_val gd0 (o_box (v := .agg #[.int .i64 c3, .int .i64 c4, .int .i64 c5, .slice c_a6 c_n7 c_c8, .slice c_a9 c_n10 c_c11]) (cs := [.int .i64 c3, .int .i64 c4, .int .i64 c5, .slice c_a6 c_n7 c_c8, .slice c_a9 c_n10 c_c11]) (by exact e2) rfl) rfl ?_
  generalize hp13 : fresh w12 = p13 at h ⊢
  generalize hw14 : push w12 36 [.int .i64 c3, .int .i64 c4, .int .i64 c5, .slice c_a6 c_n7 c_c8, .slice c_a9 c_n10 c_c11] = w14 at h ⊢
  try dsimp only at h
  refine WL_val gd0 ((o_assign (v := .int .i64 0) rfl) _) rfl ?_
  refine WL_nil ?_
  refine nrm ?_
  refine WC_seq ?_
  refine WC_seq ?_
  refine WC_region ?_
  refine WL_val gd0 ((o_move (v := .int .i64 event2) (by exact e1)) _) rfl ?_
  refine WL_val gd0 ((o_lss rfl rfl) _) rfl ?_
  refine WL_val gd0 ((o_move (v := .bool (decide (event2 < 0))) rfl) _) rfl ?_
  refine bsplit (decide (event2 < 0)) (fun hb15 => ?_) (fun hb15 => ?_)
  · rw [if_pos (of_decide_eq_true hb15)] at h
    refine WL_skip (gdN (b := (decide (event2 < 0))) 11 rfl rfl hb15) rfl ?_
    refine WL_skip (gdN (b := (decide (event2 < 0))) 11 rfl rfl hb15) rfl ?_
    refine WL_val gd0 ((o_pickT (v := .bool true) rfl hb15 rfl) _) rfl ?_
    refine WL_nil ?_
    refine nrm ?_
    refine WC_cond (t := true) rfl (fun _ => ?_) (fun hx => by rw [(rfl : true = true)] at hx; cases hx)
    refine WC_seq ?_
    refine WC_region ?_
    refine WL_val gd0 ((o_assign (v := .int .i64 1) rfl) _) rfl ?_
    refine WL_nil ?_
    refine nrm ?_
    refine WC_ret ?_
    refine rtT ?_
    refine rtE ?_
    exact gv1 rfl rfl h
  · rw [if_neg (of_decide_eq_false hb15)] at h
    refine WL_val (gdY (b := (decide (event2 < 0))) 11 rfl rfl hb15) ((o_move (v := .int .i64 event2) (by exact e1)) _) rfl ?_
    refine WL_val (gdY (b := (decide (event2 < 0))) 11 rfl rfl hb15) ((o_gtr rfl rfl) _) rfl ?_
    refine WL_val gd0 ((o_pickF (v := .bool (decide (65535 < event2))) rfl hb15 rfl) _) rfl ?_
    refine WL_nil ?_
    refine nrm ?_
    refine WC_cond (t := (decide (65535 < event2))) rfl (fun hb16 => ?_) (fun hb16 => ?_)
    · rw [if_pos (of_decide_eq_true hb16)] at h
      refine WC_seq ?_
      refine WC_region ?_
      refine WL_val gd0 ((o_assign (v := .int .i64 1) rfl) _) rfl ?_
      refine WL_nil ?_
      refine nrm ?_
      refine WC_ret ?_
      refine rtT ?_
      refine rtE ?_
      exact gv1 rfl rfl h
    · rw [if_neg (of_decide_eq_false hb16)] at h
      refine WC_skip ?_
      refine nrm ?_
      refine WC_seq ?_
      refine WC_region ?_
      refine WL_val gd0 ((o_move (v := .pointer t1) (by exact e0)) _) rfl ?_
      refine WL_val gd0 ((o_move (v := .int .i64 event2) (by exact e1)) _) rfl ?_
      refine WL_call gd0 (o_call Try.call30 (argCons rfl (argCons rfl argNil)) _) rfl (h.mono ?_)
      rintro _ w17 ⟨r18, r19, rfl, h⟩
      refine WL_val gd0 ((o_move (v := .tuple #[.int .i64 r18, .bool r19]) rfl) _) rfl ?_
      refine WL_val gd0 ((o_extract (vs := [.int .i64 r18, .bool r19]) (r := .int .i64 r18) rfl rfl) _) rfl ?_
      refine WL_val gd0 ((o_extract (vs := [.int .i64 r18, .bool r19]) (r := .bool r19) rfl rfl) _) rfl ?_
      refine WL_val gd0 ((o_assign (v := .int .i64 r18) rfl) _) rfl ?_
      refine WL_val gd0 ((o_assign (v := .bool r19) rfl) _) rfl ?_
      refine WL_nil ?_
      refine nrm ?_
      refine WC_seq ?_
      refine WC_seq ?_
      refine WC_region ?_
      refine WL_val gd0 ((o_move (v := .bool r19) rfl) _) rfl ?_
      refine WL_nil ?_
      refine nrm ?_
      refine WC_cond (t := r19) rfl (fun hb20 => ?_) (fun hb20 => ?_)
      · rw [if_pos hb20] at h
        refine WC_seq ?_
        refine WC_region ?_
        refine WL_val gd0 ((o_assign (v := .int .i64 9) rfl) _) rfl ?_
        refine WL_nil ?_
        refine nrm ?_
        refine WC_ret ?_
        refine rtT ?_
        refine rtE ?_
        exact gv1 rfl rfl h
      · rw [if_neg (neT hb20)] at h
        refine WC_skip ?_
        refine nrm ?_
        refine WC_seq ?_
        refine WC_seq ?_
        refine WC_region ?_
        refine WL_val gd0 ((o_move (v := .pointer t1) (by exact e0)) _) rfl ?_
        obtain ⟨p21, q22, h⟩ := h
        refine WL_val gd0 ((o_nilCheck (by exact (congrArg Value.pointer q22))) _) rfl ?_
        refine WL_val gd0 ((o_fieldAddr0 Try.underlying31 rfl Try.sizeOf27 rfl rfl rfl) _) rfl ?_
        obtain ⟨x_a23, x_n24, x_c25, hc26, h⟩ := h
        refine WL_val gd0 (o_load Try.isAgg27 rfl hc26) rfl ?_
        refine WL_val gd0 ((o_len Try.underlying27 rfl) _) rfl ?_
        refine WL_val gd0 ((o_geq rfl rfl) _) rfl ?_
        refine WL_nil ?_
        refine nrm ?_
        refine WC_cond (t := (decide (256 ≤ (x_n24 : Int)))) rfl (fun hb27 => ?_) (fun hb27 => ?_)
        · rw [if_pos (of_decide_eq_true hb27)] at h
          refine WC_seq ?_
          refine WC_region ?_
          refine WL_val gd0 ((o_assign (v := .int .i64 7) rfl) _) rfl ?_
          refine WL_nil ?_
          refine nrm ?_
          refine WC_ret ?_
          refine rtT ?_
          refine rtE ?_
          exact gv1 rfl rfl h
        · rw [if_neg (of_decide_eq_false hb27)] at h
          refine WC_skip ?_
          refine nrm ?_
          refine WC_cut (fun ρ w' => ρ 0 = .pointer t1 ∧ ρ 5 = .pointer (some p13) ∧ ρ 7 = .int .i64 r18 ∧ F20_j1 p21 r18 p13 w' k) ?_ ?_
          · refine WC_draws [1, 8, 10, 11, 18, 21] (.look 0 (.look 2 (.look 3 (.look 4 (.look 5 (.look 6 (.look 7 (.look 9 (.look 12 (.look 13 (.look 14 (.look 15 (.look 16 (.look 17 (.fork 1 (.fork 8 (.act 10 (.act 11 (.act 18 (.look 19 (.look 20 (.act 21 .nil)))))) 10 (.act 8 (.act 11 (.act 18 (.look 19 (.look 20 (.act 21 .nil))))))) 10 (.act 1 (.act 8 (.act 11 (.act 18 (.look 19 (.look 20 (.act 21 .nil)))))))))))))))))))))) Try.mixed (by kernel_rfl) ?_
            refine WQ_val rfl gd0 (o_move (v := .pointer t1) (by exact e0)) rfl ?_
            refine WQ_val rfl gd0 (o_move (v := .pointer t1) (by exact e0)) rfl ?_
            refine WQ_val rfl gd0 (o_nilCheck (by exact (congrArg Value.pointer q22))) rfl ?_
            refine WQ_val rfl gd0 (o_fieldAddr0 Try.underlying31 rfl Try.sizeOf27 rfl rfl rfl) rfl ?_
            obtain ⟨x_a232, x_n233, x_c234, hc235, h⟩ := h
            refine WQ_look (fun w => w.cell? p21 = some (.slice x_a232 x_n233 x_c234)) rfl gd0 (fun w hc => (o_load Try.isAgg27 rfl hc)) hc235 rfl ?_
            refine WQ_val rfl gd0 (o_move (v := .int .i64 r18) rfl) rfl ?_
            obtain ⟨c236, c237, h⟩ := h
            refine WQ_val rfl gd0 (o_sliceH Try.underlying27 Try.sizeOf3 rfl rfl c236 c237) rfl ?_
            refine WQ_val rfl gd0 (o_move (v := .int .i64 event2) (by exact e1)) rfl ?_
            refine WQ_val rfl gd0 (o_move (v := .pointer t1) (by exact e0)) rfl ?_
            refine WQ_val rfl gd0 (o_nilCheck (by exact (congrArg Value.pointer q22))) rfl ?_
            refine WQ_val rfl gd0 (o_fieldAddr0 Try.underlying31 rfl Try.sizeOf27 rfl rfl rfl) rfl ?_
            obtain ⟨x_a238, x_n239, x_c240, hc241, h⟩ := h
            refine WQ_look (fun w => w.cell? p21 = some (.slice x_a238 x_n239 x_c240)) rfl gd0 (fun w hc => (o_load Try.isAgg27 rfl hc)) hc241 rfl ?_
            refine WQ_val rfl gd0 (o_move (v := .int .i64 r18) rfl) rfl ?_
            obtain ⟨c242, c243, h⟩ := h
            refine WQ_val rfl gd0 (o_sliceL Try.underlying27 Try.sizeOf3 rfl rfl c242 c243) rfl ?_
            obtain ⟨h, hf322⟩ := h
            refine WQ_fork ?_ ?_
            · have h := New.out h
              obtain ⟨hh246, hh247, h⟩ := h
              refine WQ_act rfl gd0 (o_buildSlice (e := 3) (ps := []) (cs := []) partNil (fun w => by kernel_rfl)) rfl (by exact ⟨⟨trivial, fun _ => hh246⟩, fun _ => hh247⟩) ?_
              generalize hp244 : fresh w17.drew = p244 at h ⊢
              generalize hw245 : push w17.drew 3 [] = w245 at h ⊢
              try dsimp only at h
              obtain ⟨h, hf294⟩ := h
              refine WQ_fork ?_ ?_
              · obtain ⟨b_a248, b_n249, b_c250, w251, r252, h⟩ := h
                obtain ⟨hh253, h⟩ := h
                refine WQ_act rfl gd0 (o_append rfl rfl r252) rfl (by exact ⟨⟨trivial, depT (by kernel_rfl)⟩, fun _ => hh253⟩) ?_
                have h := New.out h
                obtain ⟨hh256, hh257, h⟩ := h
                refine WQ_act rfl gd0 (o_buildSlice (e := 3) (ps := [(0, .int .i64 event2)]) (cs := [.int .i64 event2]) (partCons rfl partNil) (fun w => by kernel_rfl)) rfl (by exact ⟨⟨trivial, fun _ => hh256⟩, fun _ => hh257⟩) ?_
                generalize hp254 : fresh w251 = p254 at h ⊢
                generalize hw255 : push w251 3 [.int .i64 event2] = w255 at h ⊢
                try dsimp only at h
                obtain ⟨b_a258, b_n259, b_c260, w261, r262, h⟩ := h
                obtain ⟨hh263, h⟩ := h
                refine WQ_act rfl gd0 (o_append rfl rfl r262) rfl (by exact ⟨⟨trivial, depT (by kernel_rfl)⟩, fun _ => hh263⟩) ?_
                obtain ⟨b_a264, b_n265, b_c266, w267, r268, h⟩ := h
                refine WQ_act rfl gd0 (o_append rfl rfl r268) rfl (by exact ⟨⟨trivial, depT (by kernel_rfl)⟩, depT (by kernel_rfl)⟩) ?_
                refine WQ_val rfl gd0 (o_nilCheck (by exact (congrArg Value.pointer q22))) rfl ?_
                refine WQ_val rfl gd0 (o_fieldAddr0 Try.underlying31 rfl Try.sizeOf27 rfl rfl rfl) rfl ?_
                obtain ⟨c270, h⟩ := h
                refine WQ_do rfl gd0 (o_store (v := .slice b_a264 b_n265 b_c266) Try.sizeOf27 rfl rfl rfl c270) (by exact ⟨⟨trivial, depT (by kernel_rfl)⟩, depT (by kernel_rfl)⟩) ?_
                generalize hw269 : World.setCell w267 p21 (.slice b_a264 b_n265 b_c266) = w269 at h ⊢
                try dsimp only at h
                refine WQ_nil ?_
                refine nrm ?_
                exact ⟨e0, rfl, rfl, h⟩
              · replace h := hf294
                have h := New.out h
                obtain ⟨hh273, hh274, h⟩ := h
                refine WQ_act rfl gd0 (o_buildSlice (e := 3) (ps := [(0, .int .i64 event2)]) (cs := [.int .i64 event2]) (partCons rfl partNil) (fun w => by kernel_rfl)) rfl (by exact ⟨⟨trivial, fun _ => hh273⟩, fun _ => hh274⟩) ?_
                generalize hp271 : fresh w245 = p271 at h ⊢
                generalize hw272 : push w245 3 [.int .i64 event2] = w272 at h ⊢
                try dsimp only at h
                obtain ⟨b_a275, b_n276, b_c277, w278, r279, h⟩ := h
                obtain ⟨hh280, h⟩ := h
                refine WQ_act rfl gd0 (o_append rfl rfl r279) rfl (by exact ⟨⟨trivial, depT (by kernel_rfl)⟩, fun _ => hh280⟩) ?_
                obtain ⟨b_a281, b_n282, b_c283, w284, r285, h⟩ := h
                obtain ⟨hh286, h⟩ := h
                refine WQ_act rfl gd0 (o_append rfl rfl r285) rfl (by exact ⟨⟨trivial, depT (by kernel_rfl)⟩, fun _ => hh286⟩) ?_
                obtain ⟨b_a287, b_n288, b_c289, w290, r291, h⟩ := h
                refine WQ_act rfl gd0 (o_append rfl rfl r291) rfl (by exact ⟨⟨trivial, depT (by kernel_rfl)⟩, depT (by kernel_rfl)⟩) ?_
                refine WQ_val rfl gd0 (o_nilCheck (by exact (congrArg Value.pointer q22))) rfl ?_
                refine WQ_val rfl gd0 (o_fieldAddr0 Try.underlying31 rfl Try.sizeOf27 rfl rfl rfl) rfl ?_
                obtain ⟨c293, h⟩ := h
                refine WQ_do rfl gd0 (o_store (v := .slice b_a287 b_n288 b_c289) Try.sizeOf27 rfl rfl rfl c293) (by exact ⟨⟨trivial, depT (by kernel_rfl)⟩, depT (by kernel_rfl)⟩) ?_
                generalize hw292 : World.setCell w290 p21 (.slice b_a287 b_n288 b_c289) = w292 at h ⊢
                try dsimp only at h
                refine WQ_nil ?_
                refine nrm ?_
                exact ⟨e0, rfl, rfl, h⟩
            · replace h := hf322
              have h := New.out h
              obtain ⟨hh297, hh298, h⟩ := h
              refine WQ_act rfl gd0 (o_buildSlice (e := 3) (ps := [(0, .int .i64 event2)]) (cs := [.int .i64 event2]) (partCons rfl partNil) (fun w => by kernel_rfl)) rfl (by exact ⟨⟨trivial, fun _ => hh297⟩, fun _ => hh298⟩) ?_
              generalize hp295 : fresh w17.drew = p295 at h ⊢
              generalize hw296 : push w17.drew 3 [.int .i64 event2] = w296 at h ⊢
              try dsimp only at h
              have h := New.out h
              obtain ⟨hh301, hh302, h⟩ := h
              refine WQ_act rfl gd0 (o_buildSlice (e := 3) (ps := []) (cs := []) partNil (fun w => by kernel_rfl)) rfl (by exact ⟨⟨trivial, fun _ => hh301⟩, fun _ => hh302⟩) ?_
              generalize hp299 : fresh w296 = p299 at h ⊢
              generalize hw300 : push w296 3 [] = w300 at h ⊢
              try dsimp only at h
              obtain ⟨b_a303, b_n304, b_c305, w306, r307, h⟩ := h
              obtain ⟨hh308, h⟩ := h
              refine WQ_act rfl gd0 (o_append rfl rfl r307) rfl (by exact ⟨⟨trivial, depT (by kernel_rfl)⟩, fun _ => hh308⟩) ?_
              obtain ⟨b_a309, b_n310, b_c311, w312, r313, h⟩ := h
              obtain ⟨hh314, h⟩ := h
              refine WQ_act rfl gd0 (o_append rfl rfl r313) rfl (by exact ⟨⟨trivial, depT (by kernel_rfl)⟩, fun _ => hh314⟩) ?_
              obtain ⟨b_a315, b_n316, b_c317, w318, r319, h⟩ := h
              refine WQ_act rfl gd0 (o_append rfl rfl r319) rfl (by exact ⟨⟨trivial, depT (by kernel_rfl)⟩, depT (by kernel_rfl)⟩) ?_
              refine WQ_val rfl gd0 (o_nilCheck (by exact (congrArg Value.pointer q22))) rfl ?_
              refine WQ_val rfl gd0 (o_fieldAddr0 Try.underlying31 rfl Try.sizeOf27 rfl rfl rfl) rfl ?_
              obtain ⟨c321, h⟩ := h
              refine WQ_do rfl gd0 (o_store (v := .slice b_a315 b_n316 b_c317) Try.sizeOf27 rfl rfl rfl c321) (by exact ⟨⟨trivial, depT (by kernel_rfl)⟩, depT (by kernel_rfl)⟩) ?_
              generalize hw320 : World.setCell w318 p21 (.slice b_a315 b_n316 b_c317) = w320 at h ⊢
              try dsimp only at h
              refine WQ_nil ?_
              refine nrm ?_
              exact ⟨e0, rfl, rfl, h⟩
          · rintro ρ w31 ⟨e0_28, e5_29, e7_30, h⟩
            unfold F20_j1 at h
            refine WC_cut (fun ρ w' => ρ 0 = .pointer t1 ∧ ρ 7 = .int .i64 r18 ∧ F20_j2 p21 r18 w' k) ?_ ?_
            · refine WC_draws [1, 8, 10, 11, 18, 21] (.look 0 (.look 2 (.look 3 (.look 4 (.look 5 (.look 6 (.look 7 (.look 9 (.look 12 (.look 13 (.look 14 (.look 15 (.look 16 (.look 17 (.fork 1 (.fork 8 (.act 10 (.act 11 (.act 18 (.look 19 (.look 20 (.act 21 .nil)))))) 10 (.act 8 (.act 11 (.act 18 (.look 19 (.look 20 (.act 21 .nil))))))) 10 (.act 1 (.act 8 (.act 11 (.act 18 (.look 19 (.look 20 (.act 21 .nil)))))))))))))))))))))) Try.mixed (by kernel_rfl) ?_
              refine WQ_val rfl gd0 (o_move (v := .pointer t1) (by exact e0_28)) rfl ?_
              refine WQ_val rfl gd0 (o_move (v := .pointer t1) (by exact e0_28)) rfl ?_
              refine WQ_val rfl gd0 (o_nilCheck (by exact (congrArg Value.pointer q22))) rfl ?_
              refine WQ_val rfl gd0 (o_fieldAddr 1 Try.underlying31 rfl Try.sizeOf28 rfl rfl rfl) rfl ?_
              obtain ⟨x_a126, x_n127, x_c128, hc129, h⟩ := h
              refine WQ_look (fun w => w.cell? (p21.add 1) = some (.slice x_a126 x_n127 x_c128)) rfl gd0 (fun w hc => (o_load Try.isAgg28 rfl hc)) hc129 rfl ?_
              refine WQ_val rfl gd0 (o_move (v := .int .i64 r18) (by exact e7_30)) rfl ?_
              obtain ⟨c130, c131, h⟩ := h
              refine WQ_val rfl gd0 (o_sliceH Try.underlying28 Try.sizeOf36 rfl rfl c130 c131) rfl ?_
              obtain ⟨x132, x133, x134, x_a135, x_n136, x_c137, x_a138, x_n139, x_c140, hc141, h⟩ := h
              refine WQ_look (fun w => Cells w p13 0 [.int .i64 x132, .int .i64 x133, .int .i64 x134, .slice x_a135 x_n136 x_c137, .slice x_a138 x_n139 x_c140]) rfl gd0 (fun w hc => (o_loadAgg (vs := [.int .i64 x132, .int .i64 x133, .int .i64 x134, .slice x_a135 x_n136 x_c137, .slice x_a138 x_n139 x_c140]) Try.isAgg36 Try.sizeOf36 (by exact e5_29) hc)) hc141 rfl ?_
              refine WQ_val rfl gd0 (o_move (v := .pointer t1) (by exact e0_28)) rfl ?_
              refine WQ_val rfl gd0 (o_nilCheck (by exact (congrArg Value.pointer q22))) rfl ?_
              refine WQ_val rfl gd0 (o_fieldAddr 1 Try.underlying31 rfl Try.sizeOf28 rfl rfl rfl) rfl ?_
              obtain ⟨x_a142, x_n143, x_c144, hc145, h⟩ := h
              refine WQ_look (fun w => w.cell? (p21.add 1) = some (.slice x_a142 x_n143 x_c144)) rfl gd0 (fun w hc => (o_load Try.isAgg28 rfl hc)) hc145 rfl ?_
              refine WQ_val rfl gd0 (o_move (v := .int .i64 r18) (by exact e7_30)) rfl ?_
              obtain ⟨c146, c147, h⟩ := h
              refine WQ_val rfl gd0 (o_sliceL Try.underlying28 Try.sizeOf36 rfl rfl c146 c147) rfl ?_
              obtain ⟨h, hf231⟩ := h
              refine WQ_fork ?_ ?_
              · have h := New.out h
                obtain ⟨hh150, hh151, hh152, h⟩ := h
                refine WQ_act rfl gd0 (o_buildSlice (e := 36) (ps := []) (cs := []) partNil (fun w => by kernel_rfl)) rfl (by exact ⟨⟨⟨trivial, fun _ => hh150⟩, fun _ => hh151⟩, fun _ => hh152⟩) ?_
                generalize hp148 : fresh w31.drew = p148 at h ⊢
                generalize hw149 : push w31.drew 36 [] = w149 at h ⊢
                try dsimp only at h
                obtain ⟨h, hf201⟩ := h
                refine WQ_fork ?_ ?_
                · obtain ⟨b_a153, b_n154, b_c155, w156, r157, h⟩ := h
                  obtain ⟨hh158, hh159, h⟩ := h
                  refine WQ_act rfl gd0 (o_append rfl rfl r157) rfl (by exact ⟨⟨⟨trivial, depT (by kernel_rfl)⟩, fun _ => hh158⟩, fun _ => hh159⟩) ?_
                  have h := New.out h
                  obtain ⟨hh162, hh163, h⟩ := h
                  refine WQ_act rfl gd0 (o_buildSlice (e := 36) (ps := [(0, .agg #[.int .i64 x132, .int .i64 x133, .int .i64 x134, .slice x_a135 x_n136 x_c137, .slice x_a138 x_n139 x_c140])]) (cs := [.int .i64 x132, .int .i64 x133, .int .i64 x134, .slice x_a135 x_n136 x_c137, .slice x_a138 x_n139 x_c140]) (partCons rfl partNil) (fun w => by kernel_rfl)) rfl (by exact ⟨⟨⟨trivial, fun _ => hh162⟩, depT (by kernel_rfl)⟩, fun _ => hh163⟩) ?_
                  generalize hp160 : fresh w156 = p160 at h ⊢
                  generalize hw161 : push w156 36 [.int .i64 x132, .int .i64 x133, .int .i64 x134, .slice x_a135 x_n136 x_c137, .slice x_a138 x_n139 x_c140] = w161 at h ⊢
                  try dsimp only at h
                  obtain ⟨b_a164, b_n165, b_c166, w167, r168, h⟩ := h
                  obtain ⟨hh169, h⟩ := h
                  refine WQ_act rfl gd0 (o_append rfl rfl r168) rfl (by exact ⟨⟨⟨trivial, depT (by kernel_rfl)⟩, depT (by kernel_rfl)⟩, fun _ => hh169⟩) ?_
                  obtain ⟨b_a170, b_n171, b_c172, w173, r174, h⟩ := h
                  refine WQ_act rfl gd0 (o_append rfl rfl r174) rfl (by exact ⟨⟨⟨trivial, depT (by kernel_rfl)⟩, depT (by kernel_rfl)⟩, depT (by kernel_rfl)⟩) ?_
                  refine WQ_val rfl gd0 (o_nilCheck (by exact (congrArg Value.pointer q22))) rfl ?_
                  refine WQ_val rfl gd0 (o_fieldAddr 1 Try.underlying31 rfl Try.sizeOf28 rfl rfl rfl) rfl ?_
                  obtain ⟨c176, h⟩ := h
                  refine WQ_do rfl gd0 (o_store (v := .slice b_a170 b_n171 b_c172) Try.sizeOf28 rfl rfl rfl c176) (by exact ⟨⟨⟨trivial, depT (by kernel_rfl)⟩, depT (by kernel_rfl)⟩, depT (by kernel_rfl)⟩) ?_
                  generalize hw175 : World.setCell w173 (p21.add 1) (.slice b_a170 b_n171 b_c172) = w175 at h ⊢
                  try dsimp only at h
                  refine WQ_nil ?_
                  refine nrm ?_
                  exact ⟨e0_28, e7_30, h⟩
                · replace h := hf201
                  have h := New.out h
                  obtain ⟨hh179, hh180, h⟩ := h
                  refine WQ_act rfl gd0 (o_buildSlice (e := 36) (ps := [(0, .agg #[.int .i64 x132, .int .i64 x133, .int .i64 x134, .slice x_a135 x_n136 x_c137, .slice x_a138 x_n139 x_c140])]) (cs := [.int .i64 x132, .int .i64 x133, .int .i64 x134, .slice x_a135 x_n136 x_c137, .slice x_a138 x_n139 x_c140]) (partCons rfl partNil) (fun w => by kernel_rfl)) rfl (by exact ⟨⟨⟨trivial, fun _ => hh179⟩, depT (by kernel_rfl)⟩, fun _ => hh180⟩) ?_
                  generalize hp177 : fresh w149 = p177 at h ⊢
                  generalize hw178 : push w149 36 [.int .i64 x132, .int .i64 x133, .int .i64 x134, .slice x_a135 x_n136 x_c137, .slice x_a138 x_n139 x_c140] = w178 at h ⊢
                  try dsimp only at h
                  obtain ⟨b_a181, b_n182, b_c183, w184, r185, h⟩ := h
                  obtain ⟨hh186, hh187, h⟩ := h
                  refine WQ_act rfl gd0 (o_append rfl rfl r185) rfl (by exact ⟨⟨⟨trivial, depT (by kernel_rfl)⟩, fun _ => hh186⟩, fun _ => hh187⟩) ?_
                  obtain ⟨b_a188, b_n189, b_c190, w191, r192, h⟩ := h
                  obtain ⟨hh193, h⟩ := h
                  refine WQ_act rfl gd0 (o_append rfl rfl r192) rfl (by exact ⟨⟨⟨trivial, depT (by kernel_rfl)⟩, depT (by kernel_rfl)⟩, fun _ => hh193⟩) ?_
                  obtain ⟨b_a194, b_n195, b_c196, w197, r198, h⟩ := h
                  refine WQ_act rfl gd0 (o_append rfl rfl r198) rfl (by exact ⟨⟨⟨trivial, depT (by kernel_rfl)⟩, depT (by kernel_rfl)⟩, depT (by kernel_rfl)⟩) ?_
                  refine WQ_val rfl gd0 (o_nilCheck (by exact (congrArg Value.pointer q22))) rfl ?_
                  refine WQ_val rfl gd0 (o_fieldAddr 1 Try.underlying31 rfl Try.sizeOf28 rfl rfl rfl) rfl ?_
                  obtain ⟨c200, h⟩ := h
                  refine WQ_do rfl gd0 (o_store (v := .slice b_a194 b_n195 b_c196) Try.sizeOf28 rfl rfl rfl c200) (by exact ⟨⟨⟨trivial, depT (by kernel_rfl)⟩, depT (by kernel_rfl)⟩, depT (by kernel_rfl)⟩) ?_
                  generalize hw199 : World.setCell w197 (p21.add 1) (.slice b_a194 b_n195 b_c196) = w199 at h ⊢
                  try dsimp only at h
                  refine WQ_nil ?_
                  refine nrm ?_
                  exact ⟨e0_28, e7_30, h⟩
              · replace h := hf231
                have h := New.out h
                obtain ⟨hh204, hh205, h⟩ := h
                refine WQ_act rfl gd0 (o_buildSlice (e := 36) (ps := [(0, .agg #[.int .i64 x132, .int .i64 x133, .int .i64 x134, .slice x_a135 x_n136 x_c137, .slice x_a138 x_n139 x_c140])]) (cs := [.int .i64 x132, .int .i64 x133, .int .i64 x134, .slice x_a135 x_n136 x_c137, .slice x_a138 x_n139 x_c140]) (partCons rfl partNil) (fun w => by kernel_rfl)) rfl (by exact ⟨⟨⟨trivial, fun _ => hh204⟩, depT (by kernel_rfl)⟩, fun _ => hh205⟩) ?_
                generalize hp202 : fresh w31.drew = p202 at h ⊢
                generalize hw203 : push w31.drew 36 [.int .i64 x132, .int .i64 x133, .int .i64 x134, .slice x_a135 x_n136 x_c137, .slice x_a138 x_n139 x_c140] = w203 at h ⊢
                try dsimp only at h
                have h := New.out h
                obtain ⟨hh208, hh209, hh210, h⟩ := h
                refine WQ_act rfl gd0 (o_buildSlice (e := 36) (ps := []) (cs := []) partNil (fun w => by kernel_rfl)) rfl (by exact ⟨⟨⟨trivial, fun _ => hh208⟩, fun _ => hh209⟩, fun _ => hh210⟩) ?_
                generalize hp206 : fresh w203 = p206 at h ⊢
                generalize hw207 : push w203 36 [] = w207 at h ⊢
                try dsimp only at h
                obtain ⟨b_a211, b_n212, b_c213, w214, r215, h⟩ := h
                obtain ⟨hh216, hh217, h⟩ := h
                refine WQ_act rfl gd0 (o_append rfl rfl r215) rfl (by exact ⟨⟨⟨trivial, depT (by kernel_rfl)⟩, fun _ => hh216⟩, fun _ => hh217⟩) ?_
                obtain ⟨b_a218, b_n219, b_c220, w221, r222, h⟩ := h
                obtain ⟨hh223, h⟩ := h
                refine WQ_act rfl gd0 (o_append rfl rfl r222) rfl (by exact ⟨⟨⟨trivial, depT (by kernel_rfl)⟩, depT (by kernel_rfl)⟩, fun _ => hh223⟩) ?_
                obtain ⟨b_a224, b_n225, b_c226, w227, r228, h⟩ := h
                refine WQ_act rfl gd0 (o_append rfl rfl r228) rfl (by exact ⟨⟨⟨trivial, depT (by kernel_rfl)⟩, depT (by kernel_rfl)⟩, depT (by kernel_rfl)⟩) ?_
                refine WQ_val rfl gd0 (o_nilCheck (by exact (congrArg Value.pointer q22))) rfl ?_
                refine WQ_val rfl gd0 (o_fieldAddr 1 Try.underlying31 rfl Try.sizeOf28 rfl rfl rfl) rfl ?_
                obtain ⟨c230, h⟩ := h
                refine WQ_do rfl gd0 (o_store (v := .slice b_a224 b_n225 b_c226) Try.sizeOf28 rfl rfl rfl c230) (by exact ⟨⟨⟨trivial, depT (by kernel_rfl)⟩, depT (by kernel_rfl)⟩, depT (by kernel_rfl)⟩) ?_
                generalize hw229 : World.setCell w227 (p21.add 1) (.slice b_a224 b_n225 b_c226) = w229 at h ⊢
                try dsimp only at h
                refine WQ_nil ?_
                refine nrm ?_
                exact ⟨e0_28, e7_30, h⟩
            · rintro ρ w34 ⟨e0_32, e7_33, h⟩
              unfold F20_j2 at h
              refine WC_seq ?_
              refine WC_draws [1, 8, 9, 10, 17, 20] (.look 0 (.look 2 (.look 3 (.look 4 (.look 5 (.look 6 (.look 7 (.look 11 (.look 12 (.look 13 (.look 14 (.look 15 (.look 16 (.fork 1 (.fork 8 (.act 9 (.act 10 (.act 17 (.look 18 (.look 19 (.act 20 .nil)))))) 9 (.act 8 (.act 10 (.act 17 (.look 18 (.look 19 (.act 20 .nil))))))) 9 (.act 1 (.act 8 (.act 10 (.act 17 (.look 18 (.look 19 (.act 20 .nil))))))))))))))))))))) Try.mixed (by kernel_rfl) ?_
              refine WQ_val rfl gd0 (o_move (v := .pointer t1) (by exact e0_32)) rfl ?_
              refine WQ_val rfl gd0 (o_move (v := .pointer t1) (by exact e0_32)) rfl ?_
              refine WQ_val rfl gd0 (o_nilCheck (by exact (congrArg Value.pointer q22))) rfl ?_
              refine WQ_val rfl gd0 (o_fieldAddr 2 Try.underlying31 rfl Try.sizeOf29 rfl rfl rfl) rfl ?_
              obtain ⟨x_a35, x_n36, x_c37, hc38, h⟩ := h
              refine WQ_look (fun w => w.cell? (p21.add 2) = some (.slice x_a35 x_n36 x_c37)) rfl gd0 (fun w hc => (o_load Try.isAgg29 rfl hc)) hc38 rfl ?_
              refine WQ_val rfl gd0 (o_move (v := .int .i64 r18) (by exact e7_33)) rfl ?_
              obtain ⟨c39, c40, h⟩ := h
              refine WQ_val rfl gd0 (o_sliceH Try.underlying29 Try.sizeOf4 rfl rfl c39 c40) rfl ?_
              refine WQ_val rfl gd0 (o_move (v := .pointer t1) (by exact e0_32)) rfl ?_
              refine WQ_val rfl gd0 (o_nilCheck (by exact (congrArg Value.pointer q22))) rfl ?_
              refine WQ_val rfl gd0 (o_fieldAddr 2 Try.underlying31 rfl Try.sizeOf29 rfl rfl rfl) rfl ?_
              obtain ⟨x_a41, x_n42, x_c43, hc44, h⟩ := h
              refine WQ_look (fun w => w.cell? (p21.add 2) = some (.slice x_a41 x_n42 x_c43)) rfl gd0 (fun w hc => (o_load Try.isAgg29 rfl hc)) hc44 rfl ?_
              refine WQ_val rfl gd0 (o_move (v := .int .i64 r18) (by exact e7_33)) rfl ?_
              obtain ⟨c45, c46, h⟩ := h
              refine WQ_val rfl gd0 (o_sliceL Try.underlying29 Try.sizeOf4 rfl rfl c45 c46) rfl ?_
              obtain ⟨h, hf125⟩ := h
              refine WQ_fork ?_ ?_
              · have h := New.out h
                obtain ⟨hh49, hh50, h⟩ := h
                refine WQ_act rfl gd0 (o_buildSlice (e := 4) (ps := []) (cs := []) partNil (fun w => by kernel_rfl)) rfl (by exact ⟨⟨trivial, fun _ => hh49⟩, fun _ => hh50⟩) ?_
                generalize hp47 : fresh w34.drew = p47 at h ⊢
                generalize hw48 : push w34.drew 4 [] = w48 at h ⊢
                try dsimp only at h
                obtain ⟨h, hf97⟩ := h
                refine WQ_fork ?_ ?_
                · obtain ⟨b_a51, b_n52, b_c53, w54, r55, h⟩ := h
                  obtain ⟨hh56, h⟩ := h
                  refine WQ_act rfl gd0 (o_append rfl rfl r55) rfl (by exact ⟨⟨trivial, depT (by kernel_rfl)⟩, fun _ => hh56⟩) ?_
                  have h := New.out h
                  obtain ⟨hh59, hh60, h⟩ := h
                  refine WQ_act rfl gd0 (o_buildSlice (e := 4) (ps := [(0, .bool false)]) (cs := [.bool false]) (partCons rfl partNil) (fun w => by kernel_rfl)) rfl (by exact ⟨⟨trivial, fun _ => hh59⟩, fun _ => hh60⟩) ?_
                  generalize hp57 : fresh w54 = p57 at h ⊢
                  generalize hw58 : push w54 4 [.bool false] = w58 at h ⊢
                  try dsimp only at h
                  obtain ⟨b_a61, b_n62, b_c63, w64, r65, h⟩ := h
                  obtain ⟨hh66, h⟩ := h
                  refine WQ_act rfl gd0 (o_append rfl rfl r65) rfl (by exact ⟨⟨trivial, depT (by kernel_rfl)⟩, fun _ => hh66⟩) ?_
                  obtain ⟨b_a67, b_n68, b_c69, w70, r71, h⟩ := h
                  refine WQ_act rfl gd0 (o_append rfl rfl r71) rfl (by exact ⟨⟨trivial, depT (by kernel_rfl)⟩, depT (by kernel_rfl)⟩) ?_
                  refine WQ_val rfl gd0 (o_nilCheck (by exact (congrArg Value.pointer q22))) rfl ?_
                  refine WQ_val rfl gd0 (o_fieldAddr 2 Try.underlying31 rfl Try.sizeOf29 rfl rfl rfl) rfl ?_
                  obtain ⟨c73, h⟩ := h
                  refine WQ_do rfl gd0 (o_store (v := .slice b_a67 b_n68 b_c69) Try.sizeOf29 rfl rfl rfl c73) (by exact ⟨⟨trivial, depT (by kernel_rfl)⟩, depT (by kernel_rfl)⟩) ?_
                  generalize hw72 : World.setCell w70 (p21.add 2) (.slice b_a67 b_n68 b_c69) = w72 at h ⊢
                  try dsimp only at h
                  refine WQ_nil ?_
                  refine nrm ?_
                  refine WC_seq ?_
                  refine WC_region ?_
                  refine WL_val gd0 ((o_assign (v := .int .i64 0) rfl) _) rfl ?_
                  refine WL_nil ?_
                  refine nrm ?_
                  refine WC_ret ?_
                  refine rtE ?_
                  exact gv1 rfl rfl h
                · replace h := hf97
                  have h := New.out h
                  obtain ⟨hh76, hh77, h⟩ := h
                  refine WQ_act rfl gd0 (o_buildSlice (e := 4) (ps := [(0, .bool false)]) (cs := [.bool false]) (partCons rfl partNil) (fun w => by kernel_rfl)) rfl (by exact ⟨⟨trivial, fun _ => hh76⟩, fun _ => hh77⟩) ?_
                  generalize hp74 : fresh w48 = p74 at h ⊢
                  generalize hw75 : push w48 4 [.bool false] = w75 at h ⊢
                  try dsimp only at h
                  obtain ⟨b_a78, b_n79, b_c80, w81, r82, h⟩ := h
                  obtain ⟨hh83, h⟩ := h
                  refine WQ_act rfl gd0 (o_append rfl rfl r82) rfl (by exact ⟨⟨trivial, depT (by kernel_rfl)⟩, fun _ => hh83⟩) ?_
                  obtain ⟨b_a84, b_n85, b_c86, w87, r88, h⟩ := h
                  obtain ⟨hh89, h⟩ := h
                  refine WQ_act rfl gd0 (o_append rfl rfl r88) rfl (by exact ⟨⟨trivial, depT (by kernel_rfl)⟩, fun _ => hh89⟩) ?_
                  obtain ⟨b_a90, b_n91, b_c92, w93, r94, h⟩ := h
                  refine WQ_act rfl gd0 (o_append rfl rfl r94) rfl (by exact ⟨⟨trivial, depT (by kernel_rfl)⟩, depT (by kernel_rfl)⟩) ?_
                  refine WQ_val rfl gd0 (o_nilCheck (by exact (congrArg Value.pointer q22))) rfl ?_
                  refine WQ_val rfl gd0 (o_fieldAddr 2 Try.underlying31 rfl Try.sizeOf29 rfl rfl rfl) rfl ?_
                  obtain ⟨c96, h⟩ := h
                  refine WQ_do rfl gd0 (o_store (v := .slice b_a90 b_n91 b_c92) Try.sizeOf29 rfl rfl rfl c96) (by exact ⟨⟨trivial, depT (by kernel_rfl)⟩, depT (by kernel_rfl)⟩) ?_
                  generalize hw95 : World.setCell w93 (p21.add 2) (.slice b_a90 b_n91 b_c92) = w95 at h ⊢
                  try dsimp only at h
                  refine WQ_nil ?_
                  refine nrm ?_
                  refine WC_seq ?_
                  refine WC_region ?_
                  refine WL_val gd0 ((o_assign (v := .int .i64 0) rfl) _) rfl ?_
                  refine WL_nil ?_
                  refine nrm ?_
                  refine WC_ret ?_
                  refine rtE ?_
                  exact gv1 rfl rfl h
              · replace h := hf125
                have h := New.out h
                obtain ⟨hh100, hh101, h⟩ := h
                refine WQ_act rfl gd0 (o_buildSlice (e := 4) (ps := [(0, .bool false)]) (cs := [.bool false]) (partCons rfl partNil) (fun w => by kernel_rfl)) rfl (by exact ⟨⟨trivial, fun _ => hh100⟩, fun _ => hh101⟩) ?_
                generalize hp98 : fresh w34.drew = p98 at h ⊢
                generalize hw99 : push w34.drew 4 [.bool false] = w99 at h ⊢
                try dsimp only at h
                have h := New.out h
                obtain ⟨hh104, hh105, h⟩ := h
                refine WQ_act rfl gd0 (o_buildSlice (e := 4) (ps := []) (cs := []) partNil (fun w => by kernel_rfl)) rfl (by exact ⟨⟨trivial, fun _ => hh104⟩, fun _ => hh105⟩) ?_
                generalize hp102 : fresh w99 = p102 at h ⊢
                generalize hw103 : push w99 4 [] = w103 at h ⊢
                try dsimp only at h
                obtain ⟨b_a106, b_n107, b_c108, w109, r110, h⟩ := h
                obtain ⟨hh111, h⟩ := h
                refine WQ_act rfl gd0 (o_append rfl rfl r110) rfl (by exact ⟨⟨trivial, depT (by kernel_rfl)⟩, fun _ => hh111⟩) ?_
                obtain ⟨b_a112, b_n113, b_c114, w115, r116, h⟩ := h
                obtain ⟨hh117, h⟩ := h
                refine WQ_act rfl gd0 (o_append rfl rfl r116) rfl (by exact ⟨⟨trivial, depT (by kernel_rfl)⟩, fun _ => hh117⟩) ?_
                obtain ⟨b_a118, b_n119, b_c120, w121, r122, h⟩ := h
                refine WQ_act rfl gd0 (o_append rfl rfl r122) rfl (by exact ⟨⟨trivial, depT (by kernel_rfl)⟩, depT (by kernel_rfl)⟩) ?_
                refine WQ_val rfl gd0 (o_nilCheck (by exact (congrArg Value.pointer q22))) rfl ?_
                refine WQ_val rfl gd0 (o_fieldAddr 2 Try.underlying31 rfl Try.sizeOf29 rfl rfl rfl) rfl ?_
                obtain ⟨c124, h⟩ := h
                refine WQ_do rfl gd0 (o_store (v := .slice b_a118 b_n119 b_c120) Try.sizeOf29 rfl rfl rfl c124) (by exact ⟨⟨trivial, depT (by kernel_rfl)⟩, depT (by kernel_rfl)⟩) ?_
                generalize hw123 : World.setCell w121 (p21.add 2) (.slice b_a118 b_n119 b_c120) = w123 at h ⊢
                try dsimp only at h
                refine WQ_nil ?_
                refine nrm ?_
                refine WC_seq ?_
                refine WC_region ?_
                refine WL_val gd0 ((o_assign (v := .int .i64 0) rfl) _) rfl ?_
                refine WL_nil ?_
                refine nrm ?_
                refine WC_ret ?_
                refine rtE ?_
                exact gv1 rfl rfl h

/-- (*spacecraft spacecraftref37.Table).Enable -/
def F21 (t1 : Option Addr) (event2 : Int) (on3 : Bool) (w4 : World) (k : Value → World → Prop) : Prop :=
  Does Try.prog 30 #[.pointer t1, .int .i64 event2] w4 (fun v w5 => ∃ (r6 : Int) (r7 : Bool), v = .tuple #[.int .i64 r6, .bool r7] ∧ if (!r7) = true then
  k (.int .i64 8) w5
else
  New w5 4 [] (fun p9 w10 => ∃ (p11 : Addr), t1 = some p11 ∧ ∃ (x_a13 : Option Addr) (x_n14 x_c15 : Nat), w10.cell? (p11.add 2) = some (.slice x_a13 x_n14 x_c15) ∧ ∃ (b_a17 : Option Addr) (b_n18 b_c19 : Nat) (w20 : World), (Builtin.append_ #[29, 29] 29 #[.slice (some p9) 0 0, .slice x_a13 x_n14 x_c15]).run Try.prog w10 = .ok (.slice b_a17 b_n18 b_c19) w20 ∧ ∃ (p24 : Addr), b_a17 = some p24 ∧ (0 : Int) ≤ r6 ∧ r6 < (b_n18 : Int) ∧ Put w20 (p24.add r6.toNat) (.bool on3) (fun w26 => Put w26 (p11.add 2) (.slice b_a17 b_n18 b_c19) (fun w28 => k (.int .i64 0) w28))))
set_option maxRecDepth 100000 in
set_option maxHeartbeats 2000000 in
theorem w21 (t1 : Option Addr) (event2 : Int) (on3 : Bool) (w4 : World) (k : Value → World → Prop) (h : F21 t1 event2 on3 w4 k) : Does Try.prog 21 #[.pointer t1, .int .i64 event2, .bool on3] w4 k := by
  refine enter 32 Try.func21 rfl rfl rfl ?_
  intro ρ hρ
  have e0 := hρ 0 _ rfl
  have e1 := hρ 1 _ rfl
  have e2 := hρ 2 _ rfl
  unfold F21 at h
  refine WC_seq ?_
  refine WC_region ?_
  refine WL_val gd0 ((o_assign (v := .int .i64 0) rfl) _) rfl ?_
  refine WL_nil ?_
  refine nrm ?_
  refine WC_seq ?_
  refine WC_region ?_
  refine WL_val gd0 ((o_move (v := .pointer t1) (by exact e0)) _) rfl ?_
  refine WL_val gd0 ((o_move (v := .int .i64 event2) (by exact e1)) _) rfl ?_
  refine WL_call gd0 (o_call Try.call30 (argCons rfl (argCons rfl argNil)) _) rfl (h.mono ?_)
  rintro _ w5 ⟨r6, r7, rfl, h⟩
  refine WL_val gd0 ((o_move (v := .tuple #[.int .i64 r6, .bool r7]) rfl) _) rfl ?_
  refine WL_val gd0 ((o_extract (vs := [.int .i64 r6, .bool r7]) (r := .int .i64 r6) rfl rfl) _) rfl ?_
  refine WL_val gd0 ((o_extract (vs := [.int .i64 r6, .bool r7]) (r := .bool r7) rfl rfl) _) rfl ?_
  refine WL_val gd0 ((o_assign (v := .int .i64 r6) rfl) _) rfl ?_
  refine WL_val gd0 ((o_assign (v := .bool r7) rfl) _) rfl ?_
  refine WL_nil ?_
  refine nrm ?_
  refine WC_seq ?_
  refine WC_seq ?_
  refine WC_region ?_
  refine WL_val gd0 ((o_move (v := .bool r7) rfl) _) rfl ?_
  refine WL_val gd0 ((o_not rfl) _) rfl ?_
  refine WL_nil ?_
  refine nrm ?_
  refine WC_cond (t := (!r7)) rfl (fun hb8 => ?_) (fun hb8 => ?_)
  · rw [if_pos hb8] at h
    refine WC_seq ?_
    refine WC_region ?_
    refine WL_val gd0 ((o_assign (v := .int .i64 8) rfl) _) rfl ?_
    refine WL_nil ?_
    refine nrm ?_
    refine WC_ret ?_
    refine rtT ?_
    refine rtE ?_
    exact gv1 rfl rfl h
  · rw [if_neg (neT hb8)] at h
    refine WC_skip ?_
    refine nrm ?_
    refine WC_seq ?_
    refine WC_region ?_
    have h := New.out h
    refine WL_val gd0 (o_buildSlice (e := 4) (ps := []) (cs := []) partNil (fun w => by kernel_rfl)) rfl ?_
    generalize hp9 : fresh w5 = p9 at h ⊢
    generalize hw10 : push w5 4 [] = w10 at h ⊢
    try dsimp only at h
    refine WL_val gd0 ((o_move (v := .pointer t1) (by exact e0)) _) rfl ?_
    obtain ⟨p11, q12, h⟩ := h
    refine WL_val gd0 ((o_nilCheck (by exact (congrArg Value.pointer q12))) _) rfl ?_
    refine WL_val gd0 ((o_fieldAddr 2 Try.underlying31 rfl Try.sizeOf29 rfl rfl rfl) _) rfl ?_
    obtain ⟨x_a13, x_n14, x_c15, hc16, h⟩ := h
    refine WL_val gd0 (o_load Try.isAgg29 rfl hc16) rfl ?_
    obtain ⟨b_a17, b_n18, b_c19, w20, r21, h⟩ := h
    refine WL_val gd0 (o_append rfl rfl r21) rfl ?_
    refine WL_val gd0 ((o_assign (v := .slice b_a17 b_n18 b_c19) rfl) _) rfl ?_
    refine WL_nil ?_
    refine nrm ?_
    refine WC_seq ?_
    refine WC_region ?_
    refine WL_val gd0 ((o_move (v := .slice b_a17 b_n18 b_c19) rfl) _) rfl ?_
    refine WL_val gd0 ((o_move (v := .int .i64 r6) rfl) _) rfl ?_
    refine WL_val gd0 ((o_move (v := .bool on3) (by exact e2)) _) rfl ?_
    obtain ⟨p24, q25, h⟩ := h
    obtain ⟨l22, u23, h⟩ := h
    refine WL_val gd0 ((o_indexAddr1 Try.underlying29 Try.sizeOf4 (by exact (congrArg (fun z => Value.slice z b_n18 b_c19) q25)) rfl l22 u23) _) rfl ?_
    obtain ⟨c27, h⟩ := h
    refine WL_act gd0 (o_store (v := .bool on3) Try.sizeOf4 rfl rfl rfl c27) ?_
    generalize hw26 : World.setCell w20 (p24.add r6.toNat) (.bool on3) = w26 at h ⊢
    try dsimp only at h
    refine WL_nil ?_
    refine nrm ?_
    refine WC_seq ?_
    refine WC_region ?_
    refine WL_val gd0 ((o_move (v := .pointer t1) (by exact e0)) _) rfl ?_
    refine WL_val gd0 ((o_move (v := .slice b_a17 b_n18 b_c19) rfl) _) rfl ?_
    refine WL_val gd0 ((o_nilCheck (by exact (congrArg Value.pointer q12))) _) rfl ?_
    refine WL_val gd0 ((o_fieldAddr 2 Try.underlying31 rfl Try.sizeOf29 rfl rfl rfl) _) rfl ?_
    obtain ⟨c29, h⟩ := h
    refine WL_act gd0 (o_store (v := .slice b_a17 b_n18 b_c19) Try.sizeOf29 rfl rfl rfl c29) ?_
    generalize hw28 : World.setCell w26 (p11.add 2) (.slice b_a17 b_n18 b_c19) = w28 at h ⊢
    try dsimp only at h
    refine WL_nil ?_
    refine nrm ?_
    refine WC_seq ?_
    refine WC_region ?_
    refine WL_val gd0 ((o_assign (v := .int .i64 0) rfl) _) rfl ?_
    refine WL_nil ?_
    refine nrm ?_
    refine WC_ret ?_
    refine rtE ?_
    exact gv1 rfl rfl h

/-- (*spacecraft spacecraftref37.Table).Delete -/
def F22 (t1 : Option Addr) (event2 : Int) (w3 : World) (k : Value → World → Prop) : Prop :=
  Does Try.prog 30 #[.pointer t1, .int .i64 event2] w3 (fun v w4 => ∃ (r5 : Int) (r6 : Bool), v = .tuple #[.int .i64 r5, .bool r6] ∧ if (!r6) = true then
  k (.int .i64 8) w4
else
  ∃ (p8 : Addr), t1 = some p8 ∧ ∃ (x_a10 : Option Addr) (x_n11 x_c12 : Nat), w4.cell? (p8.add 2) = some (.slice x_a10 x_n11 x_c12) ∧ ∃ (p16 : Addr), x_a10 = some p16 ∧ (0 : Int) ≤ r5 ∧ r5 < (x_n11 : Int) ∧ ∃ (x18 : Bool), w4.cell? (p16.add r5.toNat) = some (.bool x18) ∧ if x18 = true then
    k (.int .i64 12) w4
  else
    ∃ (x_a21 : Option Addr) (x_n22 x_c23 : Nat), w4.drew.cell? p8 = some (.slice x_a21 x_n22 x_c23) ∧ (0 : Int) ≤ r5 ∧ r5 ≤ (x_c23 : Int) ∧ ∃ (x_a27 : Option Addr) (x_n28 x_c29 : Nat), w4.drew.cell? p8 = some (.slice x_a27 x_n28 x_c29) ∧ (0 : Int) ≤ IntKind.i64.wrap (r5 + 1) ∧ IntKind.i64.wrap (r5 + 1) ≤ (x_n28 : Int) ∧ New w4.drew 3 [] (fun p33 w34 => w34.cell? p8 = some (.slice x_a21 x_n22 x_c23) ∧ w34.cell? p8 = some (.slice x_a27 x_n28 x_c29) ∧ ∃ (b_a37 : Option Addr) (b_n38 b_c39 : Nat) (w40 : World), (Builtin.append_ #[27, 27] 27 #[.slice (some p33) 0 0, .slice x_a21 r5.toNat x_c23]).run Try.prog w34 = .ok (.slice b_a37 b_n38 b_c39) w40 ∧ w40.cell? p8 = some (.slice x_a27 x_n28 x_c29) ∧ ∃ (b_a43 : Option Addr) (b_n44 b_c45 : Nat) (w46 : World), (Builtin.append_ #[27, 27] 27 #[.slice b_a37 b_n38 b_c39, .slice (cutA x_a27 x_c29 ((IntKind.i64.wrap (r5 + 1)).toNat) 1) (x_n28 - (IntKind.i64.wrap (r5 + 1)).toNat) (x_c29 - (IntKind.i64.wrap (r5 + 1)).toNat)]).run Try.prog w40 = .ok (.slice b_a43 b_n44 b_c45) w46 ∧ Put w46 p8 (.slice b_a43 b_n44 b_c45) (fun w48 => ∃ (x_a50 : Option Addr) (x_n51 x_c52 : Nat), w48.drew.cell? (p8.add 1) = some (.slice x_a50 x_n51 x_c52) ∧ (0 : Int) ≤ r5 ∧ r5 ≤ (x_c52 : Int) ∧ ∃ (x_a56 : Option Addr) (x_n57 x_c58 : Nat), w48.drew.cell? (p8.add 1) = some (.slice x_a56 x_n57 x_c58) ∧ (0 : Int) ≤ IntKind.i64.wrap (r5 + 1) ∧ IntKind.i64.wrap (r5 + 1) ≤ (x_n57 : Int) ∧ New w48.drew 36 [] (fun p62 w63 => w63.cell? (p8.add 1) = some (.slice x_a50 x_n51 x_c52) ∧ w63.cell? (p8.add 1) = some (.slice x_a56 x_n57 x_c58) ∧ ∃ (b_a66 : Option Addr) (b_n67 b_c68 : Nat) (w69 : World), (Builtin.append_ #[28, 28] 28 #[.slice (some p62) 0 0, .slice x_a50 r5.toNat x_c52]).run Try.prog w63 = .ok (.slice b_a66 b_n67 b_c68) w69 ∧ w69.cell? (p8.add 1) = some (.slice x_a56 x_n57 x_c58) ∧ ∃ (b_a72 : Option Addr) (b_n73 b_c74 : Nat) (w75 : World), (Builtin.append_ #[28, 28] 28 #[.slice b_a66 b_n67 b_c68, .slice (cutA x_a56 x_c58 ((IntKind.i64.wrap (r5 + 1)).toNat) 5) (x_n57 - (IntKind.i64.wrap (r5 + 1)).toNat) (x_c58 - (IntKind.i64.wrap (r5 + 1)).toNat)]).run Try.prog w69 = .ok (.slice b_a72 b_n73 b_c74) w75 ∧ Put w75 (p8.add 1) (.slice b_a72 b_n73 b_c74) (fun w77 => ∃ (x_a79 : Option Addr) (x_n80 x_c81 : Nat), w77.drew.cell? (p8.add 2) = some (.slice x_a79 x_n80 x_c81) ∧ (0 : Int) ≤ r5 ∧ r5 ≤ (x_c81 : Int) ∧ ∃ (x_a85 : Option Addr) (x_n86 x_c87 : Nat), w77.drew.cell? (p8.add 2) = some (.slice x_a85 x_n86 x_c87) ∧ (0 : Int) ≤ IntKind.i64.wrap (r5 + 1) ∧ IntKind.i64.wrap (r5 + 1) ≤ (x_n86 : Int) ∧ New w77.drew 4 [] (fun p91 w92 => w92.cell? (p8.add 2) = some (.slice x_a79 x_n80 x_c81) ∧ w92.cell? (p8.add 2) = some (.slice x_a85 x_n86 x_c87) ∧ ∃ (b_a95 : Option Addr) (b_n96 b_c97 : Nat) (w98 : World), (Builtin.append_ #[29, 29] 29 #[.slice (some p91) 0 0, .slice x_a79 r5.toNat x_c81]).run Try.prog w92 = .ok (.slice b_a95 b_n96 b_c97) w98 ∧ w98.cell? (p8.add 2) = some (.slice x_a85 x_n86 x_c87) ∧ ∃ (b_a101 : Option Addr) (b_n102 b_c103 : Nat) (w104 : World), (Builtin.append_ #[29, 29] 29 #[.slice b_a95 b_n96 b_c97, .slice (cutA x_a85 x_c87 ((IntKind.i64.wrap (r5 + 1)).toNat) 1) (x_n86 - (IntKind.i64.wrap (r5 + 1)).toNat) (x_c87 - (IntKind.i64.wrap (r5 + 1)).toNat)]).run Try.prog w98 = .ok (.slice b_a101 b_n102 b_c103) w104 ∧ Put w104 (p8.add 2) (.slice b_a101 b_n102 b_c103) (fun w106 => k (.int .i64 0) w106)))))))
set_option maxRecDepth 100000 in
set_option maxHeartbeats 2000000 in
theorem w22 (t1 : Option Addr) (event2 : Int) (w3 : World) (k : Value → World → Prop) (h : F22 t1 event2 w3 k) : Does Try.prog 22 #[.pointer t1, .int .i64 event2] w3 k := by
  refine enter 79 Try.func22 rfl rfl rfl ?_
  intro ρ hρ
  have e0 := hρ 0 _ rfl
  have e1 := hρ 1 _ rfl
  unfold F22 at h
  refine WC_seq ?_
  refine WC_region ?_
  refine WL_val gd0 ((o_assign (v := .int .i64 0) rfl) _) rfl ?_
  refine WL_nil ?_
  refine nrm ?_
  refine WC_seq ?_
  refine WC_region ?_
  refine WL_val gd0 ((o_move (v := .pointer t1) (by exact e0)) _) rfl ?_
  refine WL_val gd0 ((o_move (v := .int .i64 event2) (by exact e1)) _) rfl ?_
  refine WL_call gd0 (o_call Try.call30 (argCons rfl (argCons rfl argNil)) _) rfl (h.mono ?_)
  rintro _ w4 ⟨r5, r6, rfl, h⟩
  refine WL_val gd0 ((o_move (v := .tuple #[.int .i64 r5, .bool r6]) rfl) _) rfl ?_
  refine WL_val gd0 ((o_extract (vs := [.int .i64 r5, .bool r6]) (r := .int .i64 r5) rfl rfl) _) rfl ?_
  refine WL_val gd0 ((o_extract (vs := [.int .i64 r5, .bool r6]) (r := .bool r6) rfl rfl) _) rfl ?_
  refine WL_val gd0 ((o_assign (v := .int .i64 r5) rfl) _) rfl ?_
  refine WL_val gd0 ((o_assign (v := .bool r6) rfl) _) rfl ?_
  refine WL_nil ?_
  refine nrm ?_
  refine WC_seq ?_
  refine WC_seq ?_
  refine WC_region ?_
  refine WL_val gd0 ((o_move (v := .bool r6) rfl) _) rfl ?_
  refine WL_val gd0 ((o_not rfl) _) rfl ?_
  refine WL_nil ?_
  refine nrm ?_
  refine WC_cond (t := (!r6)) rfl (fun hb7 => ?_) (fun hb7 => ?_)
  · rw [if_pos hb7] at h
    refine WC_seq ?_
    refine WC_region ?_
    refine WL_val gd0 ((o_assign (v := .int .i64 8) rfl) _) rfl ?_
    refine WL_nil ?_
    refine nrm ?_
    refine WC_ret ?_
    refine rtT ?_
    refine rtE ?_
    exact gv1 rfl rfl h
  · rw [if_neg (neT hb7)] at h
    refine WC_skip ?_
    refine nrm ?_
    refine WC_seq ?_
    refine WC_seq ?_
    refine WC_region ?_
    refine WL_val gd0 ((o_move (v := .pointer t1) (by exact e0)) _) rfl ?_
    obtain ⟨p8, q9, h⟩ := h
    refine WL_val gd0 ((o_nilCheck (by exact (congrArg Value.pointer q9))) _) rfl ?_
    refine WL_val gd0 ((o_fieldAddr 2 Try.underlying31 rfl Try.sizeOf29 rfl rfl rfl) _) rfl ?_
    obtain ⟨x_a10, x_n11, x_c12, hc13, h⟩ := h
    refine WL_val gd0 (o_load Try.isAgg29 rfl hc13) rfl ?_
    refine WL_val gd0 ((o_move (v := .int .i64 r5) rfl) _) rfl ?_
    obtain ⟨p16, q17, h⟩ := h
    obtain ⟨l14, u15, h⟩ := h
    refine WL_val gd0 ((o_indexAddr1 Try.underlying29 Try.sizeOf4 (by exact (congrArg (fun z => Value.slice z x_n11 x_c12) q17)) rfl l14 u15) _) rfl ?_
    obtain ⟨x18, hc19, h⟩ := h
    refine WL_val gd0 (o_load Try.isAgg4 rfl hc19) rfl ?_
    refine WL_nil ?_
    refine nrm ?_
    refine WC_cond (t := x18) rfl (fun hb20 => ?_) (fun hb20 => ?_)
    · rw [if_pos hb20] at h
      refine WC_seq ?_
      refine WC_region ?_
      refine WL_val gd0 ((o_assign (v := .int .i64 12) rfl) _) rfl ?_
      refine WL_nil ?_
      refine nrm ?_
      refine WC_ret ?_
      refine rtT ?_
      refine rtE ?_
      exact gv1 rfl rfl h
    · rw [if_neg (neT hb20)] at h
      refine WC_skip ?_
      refine nrm ?_
      refine WC_seq ?_
      refine WC_draws [1, 8, 16, 19] (.look 0 (.look 2 (.look 3 (.look 4 (.look 5 (.look 6 (.look 7 (.look 9 (.look 10 (.look 11 (.look 12 (.look 13 (.look 14 (.look 15 (.act 1 (.act 8 (.act 16 (.look 17 (.look 18 (.act 19 .nil)))))))))))))))))))) Try.mixed (by kernel_rfl) ?_
      refine WQ_val rfl gd0 (o_move (v := .pointer t1) (by exact e0)) rfl ?_
      refine WQ_val rfl gd0 (o_move (v := .pointer t1) (by exact e0)) rfl ?_
      refine WQ_val rfl gd0 (o_nilCheck (by exact (congrArg Value.pointer q9))) rfl ?_
      refine WQ_val rfl gd0 (o_fieldAddr0 Try.underlying31 rfl Try.sizeOf27 rfl rfl rfl) rfl ?_
      obtain ⟨x_a21, x_n22, x_c23, hc24, h⟩ := h
      refine WQ_look (fun w => w.cell? p8 = some (.slice x_a21 x_n22 x_c23)) rfl gd0 (fun w hc => (o_load Try.isAgg27 rfl hc)) hc24 rfl ?_
      refine WQ_val rfl gd0 (o_move (v := .int .i64 r5) rfl) rfl ?_
      obtain ⟨c25, c26, h⟩ := h
      refine WQ_val rfl gd0 (o_sliceH Try.underlying27 Try.sizeOf3 rfl rfl c25 c26) rfl ?_
      refine WQ_val rfl gd0 (o_move (v := .pointer t1) (by exact e0)) rfl ?_
      refine WQ_val rfl gd0 (o_nilCheck (by exact (congrArg Value.pointer q9))) rfl ?_
      refine WQ_val rfl gd0 (o_fieldAddr0 Try.underlying31 rfl Try.sizeOf27 rfl rfl rfl) rfl ?_
      obtain ⟨x_a27, x_n28, x_c29, hc30, h⟩ := h
      refine WQ_look (fun w => w.cell? p8 = some (.slice x_a27 x_n28 x_c29)) rfl gd0 (fun w hc => (o_load Try.isAgg27 rfl hc)) hc30 rfl ?_
      refine WQ_val rfl gd0 (o_move (v := .int .i64 r5) rfl) rfl ?_
      refine WQ_val rfl gd0 (o_add rfl rfl) rfl ?_
      obtain ⟨c31, c32, h⟩ := h
      refine WQ_val rfl gd0 (o_sliceL Try.underlying27 Try.sizeOf3 rfl rfl c31 c32) rfl ?_
      have h := New.out h
      obtain ⟨hh35, hh36, h⟩ := h
      refine WQ_act rfl gd0 (o_buildSlice (e := 3) (ps := []) (cs := []) partNil (fun w => by kernel_rfl)) rfl (by exact ⟨⟨trivial, fun _ => hh35⟩, fun _ => hh36⟩) ?_
      generalize hp33 : fresh w4.drew = p33 at h ⊢
      generalize hw34 : push w4.drew 3 [] = w34 at h ⊢
      try dsimp only at h
      obtain ⟨b_a37, b_n38, b_c39, w40, r41, h⟩ := h
      obtain ⟨hh42, h⟩ := h
      refine WQ_act rfl gd0 (o_append rfl rfl r41) rfl (by exact ⟨⟨trivial, depT (by kernel_rfl)⟩, fun _ => hh42⟩) ?_
      obtain ⟨b_a43, b_n44, b_c45, w46, r47, h⟩ := h
      refine WQ_act rfl gd0 (o_append rfl rfl r47) rfl (by exact ⟨⟨trivial, depT (by kernel_rfl)⟩, depT (by kernel_rfl)⟩) ?_
      refine WQ_val rfl gd0 (o_nilCheck (by exact (congrArg Value.pointer q9))) rfl ?_
      refine WQ_val rfl gd0 (o_fieldAddr0 Try.underlying31 rfl Try.sizeOf27 rfl rfl rfl) rfl ?_
      obtain ⟨c49, h⟩ := h
      refine WQ_do rfl gd0 (o_store (v := .slice b_a43 b_n44 b_c45) Try.sizeOf27 rfl rfl rfl c49) (by exact ⟨⟨trivial, depT (by kernel_rfl)⟩, depT (by kernel_rfl)⟩) ?_
      generalize hw48 : World.setCell w46 p8 (.slice b_a43 b_n44 b_c45) = w48 at h ⊢
      try dsimp only at h
      refine WQ_nil ?_
      refine nrm ?_
      refine WC_seq ?_
      refine WC_draws [1, 8, 16, 19] (.look 0 (.look 2 (.look 3 (.look 4 (.look 5 (.look 6 (.look 7 (.look 9 (.look 10 (.look 11 (.look 12 (.look 13 (.look 14 (.look 15 (.act 1 (.act 8 (.act 16 (.look 17 (.look 18 (.act 19 .nil)))))))))))))))))))) Try.mixed (by kernel_rfl) ?_
      refine WQ_val rfl gd0 (o_move (v := .pointer t1) (by exact e0)) rfl ?_
      refine WQ_val rfl gd0 (o_move (v := .pointer t1) (by exact e0)) rfl ?_
      refine WQ_val rfl gd0 (o_nilCheck (by exact (congrArg Value.pointer q9))) rfl ?_
      refine WQ_val rfl gd0 (o_fieldAddr 1 Try.underlying31 rfl Try.sizeOf28 rfl rfl rfl) rfl ?_
      obtain ⟨x_a50, x_n51, x_c52, hc53, h⟩ := h
      refine WQ_look (fun w => w.cell? (p8.add 1) = some (.slice x_a50 x_n51 x_c52)) rfl gd0 (fun w hc => (o_load Try.isAgg28 rfl hc)) hc53 rfl ?_
      refine WQ_val rfl gd0 (o_move (v := .int .i64 r5) rfl) rfl ?_
      obtain ⟨c54, c55, h⟩ := h
      refine WQ_val rfl gd0 (o_sliceH Try.underlying28 Try.sizeOf36 rfl rfl c54 c55) rfl ?_
      refine WQ_val rfl gd0 (o_move (v := .pointer t1) (by exact e0)) rfl ?_
      refine WQ_val rfl gd0 (o_nilCheck (by exact (congrArg Value.pointer q9))) rfl ?_
      refine WQ_val rfl gd0 (o_fieldAddr 1 Try.underlying31 rfl Try.sizeOf28 rfl rfl rfl) rfl ?_
      obtain ⟨x_a56, x_n57, x_c58, hc59, h⟩ := h
      refine WQ_look (fun w => w.cell? (p8.add 1) = some (.slice x_a56 x_n57 x_c58)) rfl gd0 (fun w hc => (o_load Try.isAgg28 rfl hc)) hc59 rfl ?_
      refine WQ_val rfl gd0 (o_move (v := .int .i64 r5) rfl) rfl ?_
      refine WQ_val rfl gd0 (o_add rfl rfl) rfl ?_
      obtain ⟨c60, c61, h⟩ := h
      refine WQ_val rfl gd0 (o_sliceL Try.underlying28 Try.sizeOf36 rfl rfl c60 c61) rfl ?_
      have h := New.out h
      obtain ⟨hh64, hh65, h⟩ := h
      refine WQ_act rfl gd0 (o_buildSlice (e := 36) (ps := []) (cs := []) partNil (fun w => by kernel_rfl)) rfl (by exact ⟨⟨trivial, fun _ => hh64⟩, fun _ => hh65⟩) ?_
      generalize hp62 : fresh w48.drew = p62 at h ⊢
      generalize hw63 : push w48.drew 36 [] = w63 at h ⊢
      try dsimp only at h
      obtain ⟨b_a66, b_n67, b_c68, w69, r70, h⟩ := h
      obtain ⟨hh71, h⟩ := h
      refine WQ_act rfl gd0 (o_append rfl rfl r70) rfl (by exact ⟨⟨trivial, depT (by kernel_rfl)⟩, fun _ => hh71⟩) ?_
      obtain ⟨b_a72, b_n73, b_c74, w75, r76, h⟩ := h
      refine WQ_act rfl gd0 (o_append rfl rfl r76) rfl (by exact ⟨⟨trivial, depT (by kernel_rfl)⟩, depT (by kernel_rfl)⟩) ?_
      refine WQ_val rfl gd0 (o_nilCheck (by exact (congrArg Value.pointer q9))) rfl ?_
      refine WQ_val rfl gd0 (o_fieldAddr 1 Try.underlying31 rfl Try.sizeOf28 rfl rfl rfl) rfl ?_
      obtain ⟨c78, h⟩ := h
      refine WQ_do rfl gd0 (o_store (v := .slice b_a72 b_n73 b_c74) Try.sizeOf28 rfl rfl rfl c78) (by exact ⟨⟨trivial, depT (by kernel_rfl)⟩, depT (by kernel_rfl)⟩) ?_
      generalize hw77 : World.setCell w75 (p8.add 1) (.slice b_a72 b_n73 b_c74) = w77 at h ⊢
      try dsimp only at h
      refine WQ_nil ?_
      refine nrm ?_
      refine WC_seq ?_
      refine WC_draws [1, 8, 16, 19] (.look 0 (.look 2 (.look 3 (.look 4 (.look 5 (.look 6 (.look 7 (.look 9 (.look 10 (.look 11 (.look 12 (.look 13 (.look 14 (.look 15 (.act 1 (.act 8 (.act 16 (.look 17 (.look 18 (.act 19 .nil)))))))))))))))))))) Try.mixed (by kernel_rfl) ?_
      refine WQ_val rfl gd0 (o_move (v := .pointer t1) (by exact e0)) rfl ?_
      refine WQ_val rfl gd0 (o_move (v := .pointer t1) (by exact e0)) rfl ?_
      refine WQ_val rfl gd0 (o_nilCheck (by exact (congrArg Value.pointer q9))) rfl ?_
      refine WQ_val rfl gd0 (o_fieldAddr 2 Try.underlying31 rfl Try.sizeOf29 rfl rfl rfl) rfl ?_
      obtain ⟨x_a79, x_n80, x_c81, hc82, h⟩ := h
      refine WQ_look (fun w => w.cell? (p8.add 2) = some (.slice x_a79 x_n80 x_c81)) rfl gd0 (fun w hc => (o_load Try.isAgg29 rfl hc)) hc82 rfl ?_
      refine WQ_val rfl gd0 (o_move (v := .int .i64 r5) rfl) rfl ?_
      obtain ⟨c83, c84, h⟩ := h
      refine WQ_val rfl gd0 (o_sliceH Try.underlying29 Try.sizeOf4 rfl rfl c83 c84) rfl ?_
      refine WQ_val rfl gd0 (o_move (v := .pointer t1) (by exact e0)) rfl ?_
      refine WQ_val rfl gd0 (o_nilCheck (by exact (congrArg Value.pointer q9))) rfl ?_
      refine WQ_val rfl gd0 (o_fieldAddr 2 Try.underlying31 rfl Try.sizeOf29 rfl rfl rfl) rfl ?_
      obtain ⟨x_a85, x_n86, x_c87, hc88, h⟩ := h
      refine WQ_look (fun w => w.cell? (p8.add 2) = some (.slice x_a85 x_n86 x_c87)) rfl gd0 (fun w hc => (o_load Try.isAgg29 rfl hc)) hc88 rfl ?_
      refine WQ_val rfl gd0 (o_move (v := .int .i64 r5) rfl) rfl ?_
      refine WQ_val rfl gd0 (o_add rfl rfl) rfl ?_
      obtain ⟨c89, c90, h⟩ := h
      refine WQ_val rfl gd0 (o_sliceL Try.underlying29 Try.sizeOf4 rfl rfl c89 c90) rfl ?_
      have h := New.out h
      obtain ⟨hh93, hh94, h⟩ := h
      refine WQ_act rfl gd0 (o_buildSlice (e := 4) (ps := []) (cs := []) partNil (fun w => by kernel_rfl)) rfl (by exact ⟨⟨trivial, fun _ => hh93⟩, fun _ => hh94⟩) ?_
      generalize hp91 : fresh w77.drew = p91 at h ⊢
      generalize hw92 : push w77.drew 4 [] = w92 at h ⊢
      try dsimp only at h
      obtain ⟨b_a95, b_n96, b_c97, w98, r99, h⟩ := h
      obtain ⟨hh100, h⟩ := h
      refine WQ_act rfl gd0 (o_append rfl rfl r99) rfl (by exact ⟨⟨trivial, depT (by kernel_rfl)⟩, fun _ => hh100⟩) ?_
      obtain ⟨b_a101, b_n102, b_c103, w104, r105, h⟩ := h
      refine WQ_act rfl gd0 (o_append rfl rfl r105) rfl (by exact ⟨⟨trivial, depT (by kernel_rfl)⟩, depT (by kernel_rfl)⟩) ?_
      refine WQ_val rfl gd0 (o_nilCheck (by exact (congrArg Value.pointer q9))) rfl ?_
      refine WQ_val rfl gd0 (o_fieldAddr 2 Try.underlying31 rfl Try.sizeOf29 rfl rfl rfl) rfl ?_
      obtain ⟨c107, h⟩ := h
      refine WQ_do rfl gd0 (o_store (v := .slice b_a101 b_n102 b_c103) Try.sizeOf29 rfl rfl rfl c107) (by exact ⟨⟨trivial, depT (by kernel_rfl)⟩, depT (by kernel_rfl)⟩) ?_
      generalize hw106 : World.setCell w104 (p8.add 2) (.slice b_a101 b_n102 b_c103) = w106 at h ⊢
      try dsimp only at h
      refine WQ_nil ?_
      refine nrm ?_
      refine WC_seq ?_
      refine WC_region ?_
      refine WL_val gd0 ((o_assign (v := .int .i64 0) rfl) _) rfl ?_
      refine WL_nil ?_
      refine nrm ?_
      refine WC_ret ?_
      refine rtE ?_
      exact gv1 rfl rfl h

def F23_j1 (p4 : Addr) (t1 : Option Addr) (r7 : Int) (t13 : Bool) (w14 : World) (k : Value → World → Prop) : Prop :=
  if t13 = true then
  PutAll w14 p4 [.int .i64 0, .int .i64 0, .int .i64 0, .slice none 0 0, .slice none 0 0] (fun w16 => ∃ (r18 r19 r20 : Int) (r_a21 : Option Addr) (r_n22 r_c23 : Nat) (r_a24 : Option Addr) (r_n25 r_c26 : Nat), Cells w16 p4 0 [.int .i64 r18, .int .i64 r19, .int .i64 r20, .slice r_a21 r_n22 r_c23, .slice r_a24 r_n25 r_c26] ∧ k (.tuple #[.agg #[.int .i64 r18, .int .i64 r19, .int .i64 r20, .slice r_a21 r_n22 r_c23, .slice r_a24 r_n25 r_c26], .bool false]) w16)
else
  ∃ (p28 : Addr), t1 = some p28 ∧ ∃ (x_a30 : Option Addr) (x_n31 x_c32 : Nat), w14.cell? (p28.add 1) = some (.slice x_a30 x_n31 x_c32) ∧ ∃ (p36 : Addr), x_a30 = some p36 ∧ (0 : Int) ≤ r7 ∧ r7 < (x_n31 : Int) ∧ ∃ (x38 x39 x40 : Int) (x_a41 : Option Addr) (x_n42 x_c43 : Nat) (x_a44 : Option Addr) (x_n45 x_c46 : Nat), Cells w14 (p36.add (r7.toNat * 5)) 0 [.int .i64 x38, .int .i64 x39, .int .i64 x40, .slice x_a41 x_n42 x_c43, .slice x_a44 x_n45 x_c46] ∧ PutAll w14 p4 [.int .i64 x38, .int .i64 x39, .int .i64 x40, .slice x_a41 x_n42 x_c43, .slice x_a44 x_n45 x_c46] (fun w48 => ∃ (r50 r51 r52 : Int) (r_a53 : Option Addr) (r_n54 r_c55 : Nat) (r_a56 : Option Addr) (r_n57 r_c58 : Nat), Cells w48 p4 0 [.int .i64 r50, .int .i64 r51, .int .i64 r52, .slice r_a53 r_n54 r_c55, .slice r_a56 r_n57 r_c58] ∧ k (.tuple #[.agg #[.int .i64 r50, .int .i64 r51, .int .i64 r52, .slice r_a53 r_n54 r_c55, .slice r_a56 r_n57 r_c58], .bool true]) w48)
/-- (*spacecraft spacecraftref37.Table).Find -/
def F23 (t1 : Option Addr) (event2 : Int) (w3 : World) (k : Value → World → Prop) : Prop :=
  New w3 36 [.int .i64 0, .int .i64 0, .int .i64 0, .slice none 0 0, .slice none 0 0] (fun p4 w5 => Does Try.prog 30 #[.pointer t1, .int .i64 event2] w5 (fun v w6 => ∃ (r7 : Int) (r8 : Bool), v = .tuple #[.int .i64 r7, .bool r8] ∧ if (!r8) = true then
  F23_j1 p4 t1 r7 true w6 k
else
  ∃ (p61 : Addr), t1 = some p61 ∧ ∃ (x_a63 : Option Addr) (x_n64 x_c65 : Nat), w6.cell? (p61.add 2) = some (.slice x_a63 x_n64 x_c65) ∧ ∃ (p69 : Addr), x_a63 = some p69 ∧ (0 : Int) ≤ r7 ∧ r7 < (x_n64 : Int) ∧ ∃ (x71 : Bool), w6.cell? (p69.add r7.toNat) = some (.bool x71) ∧ F23_j1 p4 t1 r7 (!x71) w6 k))
set_option maxRecDepth 100000 in
set_option maxHeartbeats 2000000 in
theorem w23 (t1 : Option Addr) (event2 : Int) (w3 : World) (k : Value → World → Prop) (h : F23 t1 event2 w3 k) : Does Try.prog 23 #[.pointer t1, .int .i64 event2] w3 k := by
  refine enter 34 Try.func23 rfl rfl rfl ?_
  intro ρ hρ
  have e0 := hρ 0 _ rfl
  have e1 := hρ 1 _ rfl
  unfold F23 at h
  refine WC_seq ?_
  refine WC_region ?_
  have h := New.out h
  refine WL_val gd0 (o_alloc (z := .agg #[.int .i64 0, .int .i64 0, .int .i64 0, .slice none 0 0, .slice none 0 0]) (cs := [.int .i64 0, .int .i64 0, .int .i64 0, .slice none 0 0, .slice none 0 0]) Try.zeroValue36 rfl) rfl ?_
  generalize hp4 : fresh w3 = p4 at h ⊢
  generalize hw5 : push w3 36 [.int .i64 0, .int .i64 0, .int .i64 0, .slice none 0 0, .slice none 0 0] = w5 at h ⊢
  try dsimp only at h
  refine WL_val gd0 ((o_assign (v := .bool false) rfl) _) rfl ?_
  refine WL_nil ?_
  refine nrm ?_
  refine WC_seq ?_
  refine WC_region ?_
  refine WL_val gd0 ((o_move (v := .pointer t1) (by exact e0)) _) rfl ?_
  refine WL_val gd0 ((o_move (v := .int .i64 event2) (by exact e1)) _) rfl ?_
  refine WL_call gd0 (o_call Try.call30 (argCons rfl (argCons rfl argNil)) _) rfl (h.mono ?_)
  rintro _ w6 ⟨r7, r8, rfl, h⟩
  refine WL_val gd0 ((o_move (v := .tuple #[.int .i64 r7, .bool r8]) rfl) _) rfl ?_
  refine WL_val gd0 ((o_extract (vs := [.int .i64 r7, .bool r8]) (r := .int .i64 r7) rfl rfl) _) rfl ?_
  refine WL_val gd0 ((o_extract (vs := [.int .i64 r7, .bool r8]) (r := .bool r8) rfl rfl) _) rfl ?_
  refine WL_val gd0 ((o_assign (v := .int .i64 r7) rfl) _) rfl ?_
  refine WL_val gd0 ((o_assign (v := .bool r8) rfl) _) rfl ?_
  refine WL_nil ?_
  refine nrm ?_
  refine WC_seq ?_
  refine WC_cut (fun ρ w' => ∃ (t13 : Bool), ρ 25 = .bool t13 ∧ ρ 0 = .pointer t1 ∧ ρ 4 = .pointer (some p4) ∧ ρ 6 = .int .i64 r7 ∧ F23_j1 p4 t1 r7 t13 w' k) ?_ ?_
  · refine WC_region ?_
    refine WL_val gd0 ((o_move (v := .bool r8) rfl) _) rfl ?_
    refine WL_val gd0 ((o_not rfl) _) rfl ?_
    refine WL_val gd0 ((o_move (v := .bool (!r8)) rfl) _) rfl ?_
    refine bsplit (!r8) (fun hb60 => ?_) (fun hb60 => ?_)
    · rw [if_pos hb60] at h
      refine WL_skip (gdN (b := (!r8)) 16 rfl rfl hb60) rfl ?_
      refine WL_skip (gdN (b := (!r8)) 16 rfl rfl hb60) rfl ?_
      refine WL_skip (gdN (b := (!r8)) 16 rfl rfl hb60) rfl ?_
      refine WL_skip (gdN (b := (!r8)) 16 rfl rfl hb60) rfl ?_
      refine WL_skip (gdN (b := (!r8)) 16 rfl rfl hb60) rfl ?_
      refine WL_skip (gdN (b := (!r8)) 16 rfl rfl hb60) rfl ?_
      refine WL_skip (gdN (b := (!r8)) 16 rfl rfl hb60) rfl ?_
      refine WL_skip (gdN (b := (!r8)) 16 rfl rfl hb60) rfl ?_
      refine WL_val gd0 ((o_pickT (v := .bool true) rfl hb60 rfl) _) rfl ?_
      refine WL_nil ?_
      refine nrm ?_
      exact ⟨_, rfl, e0, rfl, rfl, h⟩
    · rw [if_neg (neT hb60)] at h
      refine WL_val (gdY (b := (!r8)) 16 rfl rfl hb60) ((o_move (v := .pointer t1) (by exact e0)) _) rfl ?_
      obtain ⟨p61, q62, h⟩ := h
      refine WL_val (gdY (b := (!r8)) 16 rfl rfl hb60) ((o_nilCheck (by exact (congrArg Value.pointer q62))) _) rfl ?_
      refine WL_val (gdY (b := (!r8)) 16 rfl rfl hb60) ((o_fieldAddr 2 Try.underlying31 rfl Try.sizeOf29 rfl rfl rfl) _) rfl ?_
      obtain ⟨x_a63, x_n64, x_c65, hc66, h⟩ := h
      refine WL_val (gdY (b := (!r8)) 16 rfl rfl hb60) (o_load Try.isAgg29 rfl hc66) rfl ?_
      refine WL_val (gdY (b := (!r8)) 16 rfl rfl hb60) ((o_move (v := .int .i64 r7) rfl) _) rfl ?_
      obtain ⟨p69, q70, h⟩ := h
      obtain ⟨l67, u68, h⟩ := h
      refine WL_val (gdY (b := (!r8)) 16 rfl rfl hb60) ((o_indexAddr1 Try.underlying29 Try.sizeOf4 (by exact (congrArg (fun z => Value.slice z x_n64 x_c65) q70)) rfl l67 u68) _) rfl ?_
      obtain ⟨x71, hc72, h⟩ := h
      refine WL_val (gdY (b := (!r8)) 16 rfl rfl hb60) (o_load Try.isAgg4 rfl hc72) rfl ?_
      refine WL_val (gdY (b := (!r8)) 16 rfl rfl hb60) ((o_not rfl) _) rfl ?_
      refine WL_val gd0 ((o_pickF (v := .bool (!x71)) rfl hb60 rfl) _) rfl ?_
      refine WL_nil ?_
      refine nrm ?_
      exact ⟨_, rfl, e0, rfl, rfl, h⟩
  · rintro ρ w14 ⟨t13, e25_12, e0_9, e4_10, e6_11, h⟩
    unfold F23_j1 at h
    refine WC_cond (t := t13) (by exact e25_12) (fun hb15 => ?_) (fun hb15 => ?_)
    · rw [if_pos hb15] at h
      refine WC_seq ?_
      refine WC_region ?_
      refine WL_val gd0 ((o_build (ps := []) (v := .agg #[.int .i64 0, .int .i64 0, .int .i64 0, .slice none 0 0, .slice none 0 0]) partNil (fun w => by kernel_rfl)) _) rfl ?_
      obtain ⟨c17, h⟩ := h
      refine WL_act gd0 (o_storeAgg (vs := [.int .i64 0, .int .i64 0, .int .i64 0, .slice none 0 0, .slice none 0 0]) Try.sizeOf36 (by exact e4_10) rfl rfl c17) ?_
      generalize hw16 : setAll w14 p4 0 [.int .i64 0, .int .i64 0, .int .i64 0, .slice none 0 0, .slice none 0 0] = w16 at h ⊢
      try dsimp only at h
      refine WL_val gd0 ((o_assign (v := .bool false) rfl) _) rfl ?_
      refine WL_nil ?_
      refine nrm ?_
      refine WC_ret ?_
      refine rtT ?_
      refine rtE ?_
      obtain ⟨r18, r19, r20, r_a21, r_n22, r_c23, r_a24, r_n25, r_c26, hc27, h⟩ := h
      exact gvC1 (vs := [.int .i64 r18, .int .i64 r19, .int .i64 r20, .slice r_a21 r_n22 r_c23, .slice r_a24 r_n25 r_c26]) rfl Try.isAgg36 Try.sizeOf36 (by exact e4_10) hc27 rfl h
    · rw [if_neg (neT hb15)] at h
      refine WC_skip ?_
      refine nrm ?_
      refine WC_seq ?_
      refine WC_region ?_
      refine WL_val gd0 ((o_move (v := .pointer t1) (by exact e0_9)) _) rfl ?_
      obtain ⟨p28, q29, h⟩ := h
      refine WL_val gd0 ((o_nilCheck (by exact (congrArg Value.pointer q29))) _) rfl ?_
      refine WL_val gd0 ((o_fieldAddr 1 Try.underlying31 rfl Try.sizeOf28 rfl rfl rfl) _) rfl ?_
      obtain ⟨x_a30, x_n31, x_c32, hc33, h⟩ := h
      refine WL_val gd0 (o_load Try.isAgg28 rfl hc33) rfl ?_
      refine WL_val gd0 ((o_move (v := .int .i64 r7) (by exact e6_11)) _) rfl ?_
      obtain ⟨p36, q37, h⟩ := h
      obtain ⟨l34, u35, h⟩ := h
      refine WL_val gd0 ((o_indexAddr Try.underlying28 Try.sizeOf36 (by exact (congrArg (fun z => Value.slice z x_n31 x_c32) q37)) rfl l34 u35) _) rfl ?_
      obtain ⟨x38, x39, x40, x_a41, x_n42, x_c43, x_a44, x_n45, x_c46, hc47, h⟩ := h
      refine WL_val gd0 (o_loadAgg (vs := [.int .i64 x38, .int .i64 x39, .int .i64 x40, .slice x_a41 x_n42 x_c43, .slice x_a44 x_n45 x_c46]) Try.isAgg36 Try.sizeOf36 rfl hc47) rfl ?_
      obtain ⟨c49, h⟩ := h
      refine WL_act gd0 (o_storeAgg (vs := [.int .i64 x38, .int .i64 x39, .int .i64 x40, .slice x_a41 x_n42 x_c43, .slice x_a44 x_n45 x_c46]) Try.sizeOf36 (by exact e4_10) rfl rfl c49) ?_
      generalize hw48 : setAll w14 p4 0 [.int .i64 x38, .int .i64 x39, .int .i64 x40, .slice x_a41 x_n42 x_c43, .slice x_a44 x_n45 x_c46] = w48 at h ⊢
      try dsimp only at h
      refine WL_val gd0 ((o_assign (v := .bool true) rfl) _) rfl ?_
      refine WL_nil ?_
      refine nrm ?_
      refine WC_ret ?_
      refine rtE ?_
      obtain ⟨r50, r51, r52, r_a53, r_n54, r_c55, r_a56, r_n57, r_c58, hc59, h⟩ := h
      exact gvC1 (vs := [.int .i64 r50, .int .i64 r51, .int .i64 r52, .slice r_a53 r_n54 r_c55, .slice r_a56 r_n57 r_c58]) rfl Try.isAgg36 Try.sizeOf36 (by exact e4_10) hc59 rfl h

/-- (*spacecraft action.Table).ok -/
def F24 (t1 : Option Addr) (w2 : World) (k : Value → World → Prop) : Prop :=
  if (!(t1).isNone) = true then
  ∃ (p4 : Addr), t1 = some p4 ∧ ∃ (x6 : Bool), w2.cell? p4 = some (.bool x6) ∧ k (.bool x6) w2
else
  k (.bool false) w2
set_option maxRecDepth 100000 in
set_option maxHeartbeats 2000000 in
theorem w24 (t1 : Option Addr) (w2 : World) (k : Value → World → Prop) (h : F24 t1 w2 k) : Does Try.prog 24 #[.pointer t1] w2 k := by
  refine enter 11 Try.func24 rfl rfl rfl ?_
  intro ρ hρ
  have e0 := hρ 0 _ rfl
  unfold F24 at h
  refine WC_seq ?_
  refine WC_region ?_
  refine WL_val gd0 ((o_assign (v := .bool false) rfl) _) rfl ?_
  refine WL_nil ?_
  refine nrm ?_
  refine WC_seq ?_
  refine WC_region ?_
  refine WL_val gd0 ((o_move (v := .pointer t1) (by exact e0)) _) rfl ?_
  refine WL_val gd0 ((o_neqPtrNil Try.underlying23 rfl rfl) _) rfl ?_
  refine WL_val gd0 ((o_move (v := .bool (!(t1).isNone)) rfl) _) rfl ?_
  refine bsplit (!(t1).isNone) (fun hb3 => ?_) (fun hb3 => ?_)
  · rw [if_pos hb3] at h
    refine WL_val (gdY (b := (!(t1).isNone)) 5 rfl rfl hb3) ((o_move (v := .pointer t1) (by exact e0)) _) rfl ?_
    obtain ⟨p4, q5, h⟩ := h
    refine WL_val (gdY (b := (!(t1).isNone)) 5 rfl rfl hb3) ((o_nilCheck (by exact (congrArg Value.pointer q5))) _) rfl ?_
    refine WL_val (gdY (b := (!(t1).isNone)) 5 rfl rfl hb3) ((o_fieldAddr0 Try.underlying51 rfl Try.sizeOf4 rfl rfl rfl) _) rfl ?_
    obtain ⟨x6, hc7, h⟩ := h
    refine WL_val (gdY (b := (!(t1).isNone)) 5 rfl rfl hb3) (o_load Try.isAgg4 rfl hc7) rfl ?_
    refine WL_val gd0 ((o_pickT (v := .bool x6) rfl hb3 rfl) _) rfl ?_
    refine WL_val gd0 ((o_assign (v := .bool x6) rfl) _) rfl ?_
    refine WL_nil ?_
    refine nrm ?_
    refine WC_ret ?_
    refine rtE ?_
    exact gv1 rfl rfl h
  · rw [if_neg (neT hb3)] at h
    refine WL_skip (gdN (b := (!(t1).isNone)) 5 rfl rfl hb3) rfl ?_
    refine WL_skip (gdN (b := (!(t1).isNone)) 5 rfl rfl hb3) rfl ?_
    refine WL_skip (gdN (b := (!(t1).isNone)) 5 rfl rfl hb3) rfl ?_
    refine WL_skip (gdN (b := (!(t1).isNone)) 5 rfl rfl hb3) rfl ?_
    refine WL_val gd0 ((o_pickF (v := .bool false) rfl hb3 rfl) _) rfl ?_
    refine WL_val gd0 ((o_assign (v := .bool false) rfl) _) rfl ?_
    refine WL_nil ?_
    refine nrm ?_
    refine WC_ret ?_
    refine rtE ?_
    exact gv1 rfl rfl h

/-- (*spacecraft action.Table).find -/
def F25 (t1 : Option Addr) (event2 : Int) (w3 : World) (k : Value → World → Prop) : Prop :=
  ∃ (p4 : Addr), t1 = some p4 ∧ ∃ (x_a6 : Option Addr) (x_n7 x_c8 : Nat), w3.cell? (p4.add 1) = some (.slice x_a6 x_n7 x_c8) ∧ Does Try.prog 31 #[.slice x_a6 x_n7 x_c8, .int .i64 event2, .func (.func 32) #[] #[]] w3 (fun v w10 => ∃ (r11 : Int) (r12 : Bool), v = .tuple #[.int .i64 r11, .bool r12] ∧ k (.tuple #[.int .i64 r11, .bool r12]) w10)
set_option maxRecDepth 100000 in
set_option maxHeartbeats 2000000 in
theorem w25 (t1 : Option Addr) (event2 : Int) (w3 : World) (k : Value → World → Prop) (h : F25 t1 event2 w3 k) : Does Try.prog 25 #[.pointer t1, .int .i64 event2] w3 k := by
  refine enter 14 Try.func25 rfl rfl rfl ?_
  intro ρ hρ
  have e0 := hρ 0 _ rfl
  have e1 := hρ 1 _ rfl
  unfold F25 at h
  refine WC_seq ?_
  refine WC_region ?_
  refine WL_val gd0 ((o_assign (v := .int .i64 0) rfl) _) rfl ?_
  refine WL_val gd0 ((o_assign (v := .bool false) rfl) _) rfl ?_
  refine WL_nil ?_
  refine nrm ?_
  refine WC_seq ?_
  refine WC_region ?_
  refine WL_val gd0 ((o_move (v := .pointer t1) (by exact e0)) _) rfl ?_
  obtain ⟨p4, q5, h⟩ := h
  refine WL_val gd0 ((o_nilCheck (by exact (congrArg Value.pointer q5))) _) rfl ?_
  refine WL_val gd0 ((o_fieldAddr 1 Try.underlying51 rfl Try.sizeOf49 rfl rfl rfl) _) rfl ?_
  obtain ⟨x_a6, x_n7, x_c8, hc9, h⟩ := h
  refine WL_val gd0 (o_load Try.isAgg49 rfl hc9) rfl ?_
  refine WL_val gd0 ((o_move (v := .int .i64 event2) (by exact e1)) _) rfl ?_
  refine WL_call gd0 (o_call Try.call31 (argCons rfl (argCons rfl (argCons rfl argNil))) _) rfl (h.mono ?_)
  rintro _ w10 ⟨r11, r12, rfl, h⟩
  refine WL_val gd0 ((o_extract (vs := [.int .i64 r11, .bool r12]) (r := .int .i64 r11) rfl rfl) _) rfl ?_
  refine WL_val gd0 ((o_extract (vs := [.int .i64 r11, .bool r12]) (r := .bool r12) rfl rfl) _) rfl ?_
  refine WL_val gd0 ((o_assign (v := .int .i64 r11) rfl) _) rfl ?_
  refine WL_val gd0 ((o_assign (v := .bool r12) rfl) _) rfl ?_
  refine WL_nil ?_
  refine nrm ?_
  refine WC_ret ?_
  refine rtE ?_
  exact gv2 rfl rfl rfl h

/-- slices.Insert   spacecraft action.entry,spacecraft action.entry  -/
def F26 (s_a1 : Option Addr) (s_n2 : Nat) (s_c3 : Nat) (i4 : Int) (v_a5 : Option Addr) (v_n6 : Nat) (v_c7 : Nat) (w8 : World) (k : Value → World → Prop) : Prop :=
  (0 : Int) ≤ i4 ∧ i4 ≤ (s_n2 : Int) ∧ if (v_n6 : Int) = 0 then
  k (.slice s_a1 s_n2 s_c3) w8
else
  if i4 = (s_n2 : Int) then
    ∃ (b_a13 : Option Addr) (b_n14 b_c15 : Nat) (w16 : World), (Builtin.append_ #[49, 49] 49 #[.slice s_a1 s_n2 s_c3, .slice v_a5 v_n6 v_c7]).run Try.prog w8 = .ok (.slice b_a13 b_n14 b_c15) w16 ∧ k (.slice b_a13 b_n14 b_c15) w16
  else
    if (s_c3 : Int) < (IntKind.i64.wrap ((s_n2 : Int) + (v_n6 : Int))) then
      (0 : Int) ≤ i4 ∧ i4 ≤ (s_c3 : Int) ∧ ∃ (b_a21 : Option Addr) (b_n22 b_c23 : Nat) (w24 : World), (Builtin.append_ #[49, 3] 49 #[.slice s_a1 i4.toNat s_c3, .int .i64 (IntKind.i64.wrap ((IntKind.i64.wrap ((s_n2 : Int) + (v_n6 : Int))) - i4))]).run Try.prog w8 = .ok (.slice b_a21 b_n22 b_c23) w24 ∧ (0 : Int) ≤ i4 ∧ i4 ≤ (b_n22 : Int) ∧ ∃ (n28 : Int) (w29 : World), (Builtin.copy_ #[49, 49] 3 #[.slice (cutA b_a21 b_c23 i4.toNat 7) (b_n22 - i4.toNat) (b_c23 - i4.toNat), .slice v_a5 v_n6 v_c7]).run Try.prog w24 = .ok (.int .i64 n28) w29 ∧ (0 : Int) ≤ IntKind.i64.wrap (i4 + (v_n6 : Int)) ∧ IntKind.i64.wrap (i4 + (v_n6 : Int)) ≤ (b_n22 : Int) ∧ (0 : Int) ≤ i4 ∧ i4 ≤ (s_n2 : Int) ∧ ∃ (n35 : Int) (w36 : World), (Builtin.copy_ #[49, 49] 3 #[.slice (cutA b_a21 b_c23 ((IntKind.i64.wrap (i4 + (v_n6 : Int))).toNat) 7) (b_n22 - (IntKind.i64.wrap (i4 + (v_n6 : Int))).toNat) (b_c23 - (IntKind.i64.wrap (i4 + (v_n6 : Int))).toNat), .slice (cutA s_a1 s_c3 i4.toNat 7) (s_n2 - i4.toNat) (s_c3 - i4.toNat)]).run Try.prog w29.drew = .ok (.int .i64 n35) w36 ∧ k (.slice b_a21 b_n22 b_c23) w36
    else
      (0 : Int) ≤ IntKind.i64.wrap ((s_n2 : Int) + (v_n6 : Int)) ∧ IntKind.i64.wrap ((s_n2 : Int) + (v_n6 : Int)) ≤ (s_c3 : Int) ∧ (0 : Int) ≤ IntKind.i64.wrap (i4 + (v_n6 : Int)) ∧ IntKind.i64.wrap (i4 + (v_n6 : Int)) ≤ (((IntKind.i64.wrap ((s_n2 : Int) + (v_n6 : Int))).toNat : Nat) : Int) ∧ ∃ (x42 : Bool) (w43 : World), (callFunc 33 #[.slice v_a5 v_n6 v_c7, .slice (cutA s_a1 s_c3 ((IntKind.i64.wrap (i4 + (v_n6 : Int))).toNat) 7) (((IntKind.i64.wrap ((s_n2 : Int) + (v_n6 : Int))).toNat) - (IntKind.i64.wrap (i4 + (v_n6 : Int))).toNat) (s_c3 - (IntKind.i64.wrap (i4 + (v_n6 : Int))).toNat)]).run Try.prog w8 = .ok (.value (.bool x42)) w43 ∧ if (!x42) = true then
        (0 : Int) ≤ IntKind.i64.wrap (i4 + (v_n6 : Int)) ∧ IntKind.i64.wrap (i4 + (v_n6 : Int)) ≤ (((IntKind.i64.wrap ((s_n2 : Int) + (v_n6 : Int))).toNat : Nat) : Int) ∧ (0 : Int) ≤ i4 ∧ i4 ≤ (((IntKind.i64.wrap ((s_n2 : Int) + (v_n6 : Int))).toNat : Nat) : Int) ∧ ∃ (n50 : Int) (w51 : World), (Builtin.copy_ #[49, 49] 3 #[.slice (cutA s_a1 s_c3 ((IntKind.i64.wrap (i4 + (v_n6 : Int))).toNat) 7) (((IntKind.i64.wrap ((s_n2 : Int) + (v_n6 : Int))).toNat) - (IntKind.i64.wrap (i4 + (v_n6 : Int))).toNat) (s_c3 - (IntKind.i64.wrap (i4 + (v_n6 : Int))).toNat), .slice (cutA s_a1 s_c3 i4.toNat 7) (((IntKind.i64.wrap ((s_n2 : Int) + (v_n6 : Int))).toNat) - i4.toNat) (s_c3 - i4.toNat)]).run Try.prog w43.drew = .ok (.int .i64 n50) w51 ∧ (0 : Int) ≤ i4 ∧ i4 ≤ (((IntKind.i64.wrap ((s_n2 : Int) + (v_n6 : Int))).toNat : Nat) : Int) ∧ ∃ (n55 : Int) (w56 : World), (Builtin.copy_ #[49, 49] 3 #[.slice (cutA s_a1 s_c3 i4.toNat 7) (((IntKind.i64.wrap ((s_n2 : Int) + (v_n6 : Int))).toNat) - i4.toNat) (s_c3 - i4.toNat), .slice v_a5 v_n6 v_c7]).run Try.prog w51 = .ok (.int .i64 n55) w56 ∧ k (.slice s_a1 ((IntKind.i64.wrap ((s_n2 : Int) + (v_n6 : Int))).toNat) s_c3) w56
      else
        (0 : Int) ≤ (s_n2 : Int) ∧ (s_n2 : Int) ≤ (((IntKind.i64.wrap ((s_n2 : Int) + (v_n6 : Int))).toNat : Nat) : Int) ∧ ∃ (n60 : Int) (w61 : World), (Builtin.copy_ #[49, 49] 3 #[.slice (cutA s_a1 s_c3 ((s_n2 : Int).toNat) 7) (((IntKind.i64.wrap ((s_n2 : Int) + (v_n6 : Int))).toNat) - (s_n2 : Int).toNat) (s_c3 - (s_n2 : Int).toNat), .slice v_a5 v_n6 v_c7]).run Try.prog w43 = .ok (.int .i64 n60) w61 ∧ (0 : Int) ≤ i4 ∧ i4 ≤ (((IntKind.i64.wrap ((s_n2 : Int) + (v_n6 : Int))).toNat : Nat) : Int) ∧ Does Try.prog 34 #[.slice (cutA s_a1 s_c3 i4.toNat 7) (((IntKind.i64.wrap ((s_n2 : Int) + (v_n6 : Int))).toNat) - i4.toNat) (s_c3 - i4.toNat), .int .i64 (v_n6 : Int)] w61 (fun v w65 => v = .tuple #[] ∧ k (.slice s_a1 ((IntKind.i64.wrap ((s_n2 : Int) + (v_n6 : Int))).toNat) s_c3) w65)
set_option maxRecDepth 100000 in
set_option maxHeartbeats 2000000 in
theorem w26 (s_a1 : Option Addr) (s_n2 : Nat) (s_c3 : Nat) (i4 : Int) (v_a5 : Option Addr) (v_n6 : Nat) (v_c7 : Nat) (w8 : World) (k : Value → World → Prop) (h : F26 s_a1 s_n2 s_c3 i4 v_a5 v_n6 v_c7 w8 k) : Does Try.prog 26 #[.slice s_a1 s_n2 s_c3, .int .i64 i4, .slice v_a5 v_n6 v_c7] w8 k := by
  refine enter 95 Try.func26 rfl rfl rfl ?_
  intro ρ hρ
  have e0 := hρ 0 _ rfl
  have e1 := hρ 1 _ rfl
  have e2 := hρ 2 _ rfl
  unfold F26 at h
  refine WC_seq ?_
  refine WC_region ?_
  refine WL_val gd0 ((o_assign (v := .slice none 0 0) rfl) _) rfl ?_
  refine WL_nil ?_
  refine nrm ?_
  refine WC_seq ?_
  refine WC_region ?_
  refine WL_val gd0 ((o_move (v := .slice s_a1 s_n2 s_c3) (by exact e0)) _) rfl ?_
  refine WL_val gd0 ((o_move (v := .int .i64 i4) (by exact e1)) _) rfl ?_
  obtain ⟨c9, c10, h⟩ := h
  refine WL_val gd0 ((o_sliceL Try.underlying49 Try.sizeOf54 rfl rfl c9 c10) _) rfl ?_
  refine WL_nil ?_
  refine nrm ?_
  refine WC_seq ?_
  refine WC_region ?_
  refine WL_val gd0 ((o_move (v := .slice v_a5 v_n6 v_c7) (by exact e2)) _) rfl ?_
  refine WL_val gd0 ((o_len Try.underlying49 rfl) _) rfl ?_
  refine WL_val gd0 ((o_assign (v := .int .i64 (v_n6 : Int)) rfl) _) rfl ?_
  refine WL_nil ?_
  refine nrm ?_
  refine WC_seq ?_
  refine WC_seq ?_
  refine WC_region ?_
  refine WL_val gd0 ((o_move (v := .int .i64 (v_n6 : Int)) rfl) _) rfl ?_
  refine WL_val gd0 ((o_eql rfl rfl) _) rfl ?_
  refine WL_nil ?_
  refine nrm ?_
  refine WC_cond (t := (decide ((v_n6 : Int) = 0))) rfl (fun hb11 => ?_) (fun hb11 => ?_)
  · rw [if_pos (of_decide_eq_true hb11)] at h
    refine WC_seq ?_
    refine WC_region ?_
    refine WL_val gd0 ((o_move (v := .slice s_a1 s_n2 s_c3) (by exact e0)) _) rfl ?_
    refine WL_val gd0 ((o_assign (v := .slice s_a1 s_n2 s_c3) rfl) _) rfl ?_
    refine WL_nil ?_
    refine nrm ?_
    refine WC_ret ?_
    refine rtT ?_
    refine rtE ?_
    exact gv1 rfl rfl h
  · rw [if_neg (of_decide_eq_false hb11)] at h
    refine WC_skip ?_
    refine nrm ?_
    refine WC_seq ?_
    refine WC_region ?_
    refine WL_val gd0 ((o_move (v := .slice s_a1 s_n2 s_c3) (by exact e0)) _) rfl ?_
    refine WL_val gd0 ((o_len Try.underlying49 rfl) _) rfl ?_
    refine WL_val gd0 ((o_assign (v := .int .i64 (s_n2 : Int)) rfl) _) rfl ?_
    refine WL_nil ?_
    refine nrm ?_
    refine WC_seq ?_
    refine WC_seq ?_
    refine WC_region ?_
    refine WL_val gd0 ((o_move (v := .int .i64 i4) (by exact e1)) _) rfl ?_
    refine WL_val gd0 ((o_move (v := .int .i64 (s_n2 : Int)) rfl) _) rfl ?_
    refine WL_val gd0 ((o_eql rfl rfl) _) rfl ?_
    refine WL_nil ?_
    refine nrm ?_
    refine WC_cond (t := (decide (i4 = (s_n2 : Int)))) rfl (fun hb12 => ?_) (fun hb12 => ?_)
    · rw [if_pos (of_decide_eq_true hb12)] at h
      refine WC_seq ?_
      refine WC_region ?_
      refine WL_val gd0 ((o_move (v := .slice s_a1 s_n2 s_c3) (by exact e0)) _) rfl ?_
      refine WL_val gd0 ((o_move (v := .slice v_a5 v_n6 v_c7) (by exact e2)) _) rfl ?_
      obtain ⟨b_a13, b_n14, b_c15, w16, r17, h⟩ := h
      refine WL_val gd0 (o_append rfl rfl r17) rfl ?_
      refine WL_val gd0 ((o_assign (v := .slice b_a13 b_n14 b_c15) rfl) _) rfl ?_
      refine WL_nil ?_
      refine nrm ?_
      refine WC_ret ?_
      refine rtT ?_
      refine rtE ?_
      exact gv1 rfl rfl h
    · rw [if_neg (of_decide_eq_false hb12)] at h
      refine WC_skip ?_
      refine nrm ?_
      refine WC_seq ?_
      refine WC_seq ?_
      refine WC_region ?_
      refine WL_val gd0 ((o_move (v := .int .i64 (s_n2 : Int)) rfl) _) rfl ?_
      refine WL_val gd0 ((o_move (v := .int .i64 (v_n6 : Int)) rfl) _) rfl ?_
      refine WL_val gd0 ((o_add rfl rfl) _) rfl ?_
      refine WL_val gd0 ((o_move (v := .slice s_a1 s_n2 s_c3) (by exact e0)) _) rfl ?_
      refine WL_val gd0 ((o_cap Try.underlying49 rfl (fun w => by kernel_rfl)) _) rfl ?_
      refine WL_val gd0 ((o_gtr rfl rfl) _) rfl ?_
      refine WL_nil ?_
      refine nrm ?_
      refine WC_cond (t := (decide ((s_c3 : Int) < (IntKind.i64.wrap ((s_n2 : Int) + (v_n6 : Int)))))) rfl (fun hb18 => ?_) (fun hb18 => ?_)
      · rw [if_pos (of_decide_eq_true hb18)] at h
        refine WC_seq ?_
        refine WC_region ?_
        refine WL_val gd0 ((o_move (v := .slice s_a1 s_n2 s_c3) (by exact e0)) _) rfl ?_
        refine WL_val gd0 ((o_move (v := .int .i64 i4) (by exact e1)) _) rfl ?_
        obtain ⟨c19, c20, h⟩ := h
        refine WL_val gd0 ((o_sliceH Try.underlying49 Try.sizeOf54 rfl rfl c19 c20) _) rfl ?_
        refine WL_val gd0 ((o_move (v := .int .i64 (s_n2 : Int)) rfl) _) rfl ?_
        refine WL_val gd0 ((o_move (v := .int .i64 (v_n6 : Int)) rfl) _) rfl ?_
        refine WL_val gd0 ((o_add rfl rfl) _) rfl ?_
        refine WL_val gd0 ((o_move (v := .int .i64 i4) (by exact e1)) _) rfl ?_
        refine WL_val gd0 ((o_sub rfl rfl) _) rfl ?_
        obtain ⟨b_a21, b_n22, b_c23, w24, r25, h⟩ := h
        refine WL_val gd0 (o_append rfl rfl r25) rfl ?_
        refine WL_val gd0 ((o_assign (v := .slice b_a21 b_n22 b_c23) rfl) _) rfl ?_
        refine WL_nil ?_
        refine nrm ?_
        refine WC_seq ?_
        refine WC_region ?_
        refine WL_val gd0 ((o_move (v := .slice b_a21 b_n22 b_c23) rfl) _) rfl ?_
        refine WL_val gd0 ((o_move (v := .int .i64 i4) (by exact e1)) _) rfl ?_
        obtain ⟨c26, c27, h⟩ := h
        refine WL_val gd0 ((o_sliceL Try.underlying49 Try.sizeOf54 rfl rfl c26 c27) _) rfl ?_
        refine WL_val gd0 ((o_move (v := .slice v_a5 v_n6 v_c7) (by exact e2)) _) rfl ?_
        obtain ⟨n28, w29, r30, h⟩ := h
        refine WL_val gd0 (o_copy rfl rfl r30) rfl ?_
        refine WL_nil ?_
        refine nrm ?_
        refine WC_seq ?_
        refine WC_draws [8] (.look 0 (.look 1 (.look 2 (.look 3 (.look 4 (.look 5 (.look 6 (.look 7 (.act 8 .nil))))))))) Try.mixed (by kernel_rfl) ?_
        refine WQ_val rfl gd0 (o_move (v := .slice b_a21 b_n22 b_c23) rfl) rfl ?_
        refine WQ_val rfl gd0 (o_move (v := .int .i64 i4) (by exact e1)) rfl ?_
        refine WQ_val rfl gd0 (o_move (v := .int .i64 (v_n6 : Int)) rfl) rfl ?_
        refine WQ_val rfl gd0 (o_add rfl rfl) rfl ?_
        obtain ⟨c31, c32, h⟩ := h
        refine WQ_val rfl gd0 (o_sliceL Try.underlying49 Try.sizeOf54 rfl rfl c31 c32) rfl ?_
        refine WQ_val rfl gd0 (o_move (v := .slice s_a1 s_n2 s_c3) (by exact e0)) rfl ?_
        refine WQ_val rfl gd0 (o_move (v := .int .i64 i4) (by exact e1)) rfl ?_
        obtain ⟨c33, c34, h⟩ := h
        refine WQ_val rfl gd0 (o_sliceL Try.underlying49 Try.sizeOf54 rfl rfl c33 c34) rfl ?_
        obtain ⟨n35, w36, r37, h⟩ := h
        refine WQ_act rfl gd0 (o_copy rfl rfl r37) rfl (by exact trivial) ?_
        refine WQ_nil ?_
        refine nrm ?_
        refine WC_seq ?_
        refine WC_region ?_
        refine WL_val gd0 ((o_move (v := .slice b_a21 b_n22 b_c23) rfl) _) rfl ?_
        refine WL_val gd0 ((o_assign (v := .slice b_a21 b_n22 b_c23) rfl) _) rfl ?_
        refine WL_nil ?_
        refine nrm ?_
        refine WC_ret ?_
        refine rtT ?_
        refine rtE ?_
        exact gv1 rfl rfl h
      · rw [if_neg (of_decide_eq_false hb18)] at h
        refine WC_skip ?_
        refine nrm ?_
        refine WC_seq ?_
        refine WC_region ?_
        refine WL_val gd0 ((o_move (v := .slice s_a1 s_n2 s_c3) (by exact e0)) _) rfl ?_
        refine WL_val gd0 ((o_move (v := .int .i64 (s_n2 : Int)) rfl) _) rfl ?_
        refine WL_val gd0 ((o_move (v := .int .i64 (v_n6 : Int)) rfl) _) rfl ?_
        refine WL_val gd0 ((o_add rfl rfl) _) rfl ?_
        obtain ⟨c38, c39, h⟩ := h
        refine WL_val gd0 ((o_sliceH Try.underlying49 Try.sizeOf54 rfl rfl c38 c39) _) rfl ?_
        refine WL_val gd0 ((o_assign (v := .slice s_a1 ((IntKind.i64.wrap ((s_n2 : Int) + (v_n6 : Int))).toNat) s_c3) rfl) _) rfl ?_
        refine WL_nil ?_
        refine nrm ?_
        refine WC_seq ?_
        refine WC_seq ?_
        refine WC_region ?_
        refine WL_val gd0 ((o_move (v := .slice v_a5 v_n6 v_c7) (by exact e2)) _) rfl ?_
        refine WL_val gd0 ((o_move (v := .slice s_a1 ((IntKind.i64.wrap ((s_n2 : Int) + (v_n6 : Int))).toNat) s_c3) rfl) _) rfl ?_
        refine WL_val gd0 ((o_move (v := .int .i64 i4) (by exact e1)) _) rfl ?_
        refine WL_val gd0 ((o_move (v := .int .i64 (v_n6 : Int)) rfl) _) rfl ?_
        refine WL_val gd0 ((o_add rfl rfl) _) rfl ?_
        obtain ⟨c40, c41, h⟩ := h
        refine WL_val gd0 ((o_sliceL Try.underlying49 Try.sizeOf54 rfl rfl c40 c41) _) rfl ?_
        obtain ⟨x42, w43, r44, h⟩ := h
        refine WL_val gd0 (o_callExt (argCons rfl (argCons rfl argNil)) r44) rfl ?_
        refine WL_val gd0 ((o_not rfl) _) rfl ?_
        refine WL_nil ?_
        refine nrm ?_
        refine WC_cond (t := (!x42)) rfl (fun hb45 => ?_) (fun hb45 => ?_)
        · rw [if_pos hb45] at h
          refine WC_seq ?_
          refine WC_draws [8] (.look 0 (.look 1 (.look 2 (.look 3 (.look 4 (.look 5 (.look 6 (.look 7 (.act 8 .nil))))))))) Try.mixed (by kernel_rfl) ?_
          refine WQ_val rfl gd0 (o_move (v := .slice s_a1 ((IntKind.i64.wrap ((s_n2 : Int) + (v_n6 : Int))).toNat) s_c3) rfl) rfl ?_
          refine WQ_val rfl gd0 (o_move (v := .int .i64 i4) (by exact e1)) rfl ?_
          refine WQ_val rfl gd0 (o_move (v := .int .i64 (v_n6 : Int)) rfl) rfl ?_
          refine WQ_val rfl gd0 (o_add rfl rfl) rfl ?_
          obtain ⟨c46, c47, h⟩ := h
          refine WQ_val rfl gd0 (o_sliceL Try.underlying49 Try.sizeOf54 rfl rfl c46 c47) rfl ?_
          refine WQ_val rfl gd0 (o_move (v := .slice s_a1 ((IntKind.i64.wrap ((s_n2 : Int) + (v_n6 : Int))).toNat) s_c3) rfl) rfl ?_
          refine WQ_val rfl gd0 (o_move (v := .int .i64 i4) (by exact e1)) rfl ?_
          obtain ⟨c48, c49, h⟩ := h
          refine WQ_val rfl gd0 (o_sliceL Try.underlying49 Try.sizeOf54 rfl rfl c48 c49) rfl ?_
          obtain ⟨n50, w51, r52, h⟩ := h
          refine WQ_act rfl gd0 (o_copy rfl rfl r52) rfl (by exact trivial) ?_
          refine WQ_nil ?_
          refine nrm ?_
          refine WC_seq ?_
          refine WC_region ?_
          refine WL_val gd0 ((o_move (v := .slice s_a1 ((IntKind.i64.wrap ((s_n2 : Int) + (v_n6 : Int))).toNat) s_c3) rfl) _) rfl ?_
          refine WL_val gd0 ((o_move (v := .int .i64 i4) (by exact e1)) _) rfl ?_
          obtain ⟨c53, c54, h⟩ := h
          refine WL_val gd0 ((o_sliceL Try.underlying49 Try.sizeOf54 rfl rfl c53 c54) _) rfl ?_
          refine WL_val gd0 ((o_move (v := .slice v_a5 v_n6 v_c7) (by exact e2)) _) rfl ?_
          obtain ⟨n55, w56, r57, h⟩ := h
          refine WL_val gd0 (o_copy rfl rfl r57) rfl ?_
          refine WL_nil ?_
          refine nrm ?_
          refine WC_seq ?_
          refine WC_region ?_
          refine WL_val gd0 ((o_move (v := .slice s_a1 ((IntKind.i64.wrap ((s_n2 : Int) + (v_n6 : Int))).toNat) s_c3) rfl) _) rfl ?_
          refine WL_val gd0 ((o_assign (v := .slice s_a1 ((IntKind.i64.wrap ((s_n2 : Int) + (v_n6 : Int))).toNat) s_c3) rfl) _) rfl ?_
          refine WL_nil ?_
          refine nrm ?_
          refine WC_ret ?_
          refine rtT ?_
          refine rtE ?_
          exact gv1 rfl rfl h
        · rw [if_neg (neT hb45)] at h
          refine WC_skip ?_
          refine nrm ?_
          refine WC_seq ?_
          refine WC_region ?_
          refine WL_val gd0 ((o_move (v := .slice s_a1 ((IntKind.i64.wrap ((s_n2 : Int) + (v_n6 : Int))).toNat) s_c3) rfl) _) rfl ?_
          refine WL_val gd0 ((o_move (v := .int .i64 (s_n2 : Int)) rfl) _) rfl ?_
          obtain ⟨c58, c59, h⟩ := h
          refine WL_val gd0 ((o_sliceL Try.underlying49 Try.sizeOf54 rfl rfl c58 c59) _) rfl ?_
          refine WL_val gd0 ((o_move (v := .slice v_a5 v_n6 v_c7) (by exact e2)) _) rfl ?_
          obtain ⟨n60, w61, r62, h⟩ := h
          refine WL_val gd0 (o_copy rfl rfl r62) rfl ?_
          refine WL_nil ?_
          refine nrm ?_
          refine WC_seq ?_
          refine WC_region ?_
          refine WL_val gd0 ((o_move (v := .slice s_a1 ((IntKind.i64.wrap ((s_n2 : Int) + (v_n6 : Int))).toNat) s_c3) rfl) _) rfl ?_
          refine WL_val gd0 ((o_move (v := .int .i64 i4) (by exact e1)) _) rfl ?_
          obtain ⟨c63, c64, h⟩ := h
          refine WL_val gd0 ((o_sliceL Try.underlying49 Try.sizeOf54 rfl rfl c63 c64) _) rfl ?_
          refine WL_val gd0 ((o_move (v := .int .i64 (v_n6 : Int)) rfl) _) rfl ?_
          refine WL_call gd0 (o_call Try.call34 (argCons rfl (argCons rfl argNil)) _) rfl (h.mono ?_)
          rintro _ w65 ⟨rfl, h⟩
          refine WL_nil ?_
          refine nrm ?_
          refine WC_seq ?_
          refine WC_region ?_
          refine WL_val gd0 ((o_move (v := .slice s_a1 ((IntKind.i64.wrap ((s_n2 : Int) + (v_n6 : Int))).toNat) s_c3) rfl) _) rfl ?_
          refine WL_val gd0 ((o_assign (v := .slice s_a1 ((IntKind.i64.wrap ((s_n2 : Int) + (v_n6 : Int))).toNat) s_c3) rfl) _) rfl ?_
          refine WL_nil ?_
          refine nrm ?_
          refine WC_ret ?_
          refine rtE ?_
          exact gv1 rfl rfl h

/-- spacecraft action.clone -/
def F27 (c1 : Int) (c2 : Int) (c3 : Int) (c_a4 : Option Addr) (c_n5 : Nat) (c_c6 : Nat) (c_a7 : Option Addr) (c_n8 : Nat) (c_c9 : Nat) (w10 : World) (k : Value → World → Prop) : Prop :=
  New w10 36 [.int .i64 c1, .int .i64 c2, .int .i64 c3, .slice c_a4 c_n5 c_c6, .slice c_a7 c_n8 c_c9] (fun p11 w12 => New w12 36 [.int .i64 0, .int .i64 0, .int .i64 0, .slice none 0 0, .slice none 0 0] (fun p13 w14 => ∃ (x_a15 : Option Addr) (x_n16 x_c17 : Nat), w14.cell? (p11.add 3) = some (.slice x_a15 x_n16 x_c17) ∧ Does Try.prog 35 #[.slice x_a15 x_n16 x_c17] w14 (fun v w19 => ∃ (x_a20 : Option Addr) (x_n21 x_c22 : Nat), v = .slice x_a20 x_n21 x_c22 ∧ Put w19 (p11.add 3) (.slice x_a20 x_n21 x_c22) (fun w23 => ∃ (x_a25 : Option Addr) (x_n26 x_c27 : Nat), w23.cell? (p11.add 4) = some (.slice x_a25 x_n26 x_c27) ∧ Does Try.prog 36 #[.slice x_a25 x_n26 x_c27] w23 (fun v w29 => ∃ (x_a30 : Option Addr) (x_n31 x_c32 : Nat), v = .slice x_a30 x_n31 x_c32 ∧ Put w29 (p11.add 4) (.slice x_a30 x_n31 x_c32) (fun w33 => ∃ (x35 x36 x37 : Int) (x_a38 : Option Addr) (x_n39 x_c40 : Nat) (x_a41 : Option Addr) (x_n42 x_c43 : Nat), Cells w33 p11 0 [.int .i64 x35, .int .i64 x36, .int .i64 x37, .slice x_a38 x_n39 x_c40, .slice x_a41 x_n42 x_c43] ∧ PutAll w33 p13 [.int .i64 x35, .int .i64 x36, .int .i64 x37, .slice x_a38 x_n39 x_c40, .slice x_a41 x_n42 x_c43] (fun w45 => ∃ (r47 r48 r49 : Int) (r_a50 : Option Addr) (r_n51 r_c52 : Nat) (r_a53 : Option Addr) (r_n54 r_c55 : Nat), Cells w45 p13 0 [.int .i64 r47, .int .i64 r48, .int .i64 r49, .slice r_a50 r_n51 r_c52, .slice r_a53 r_n54 r_c55] ∧ k (.agg #[.int .i64 r47, .int .i64 r48, .int .i64 r49, .slice r_a50 r_n51 r_c52, .slice r_a53 r_n54 r_c55]) w45)))))))
set_option maxRecDepth 100000 in
set_option maxHeartbeats 2000000 in
theorem w27 (c1 : Int) (c2 : Int) (c3 : Int) (c_a4 : Option Addr) (c_n5 : Nat) (c_c6 : Nat) (c_a7 : Option Addr) (c_n8 : Nat) (c_c9 : Nat) (w10 : World) (k : Value → World → Prop) (h : F27 c1 c2 c3 c_a4 c_n5 c_c6 c_a7 c_n8 c_c9 w10 k) : Does Try.prog 27 #[.agg #[.int .i64 c1, .int .i64 c2, .int .i64 c3, .slice c_a4 c_n5 c_c6, .slice c_a7 c_n8 c_c9]] w10 k := by
  refine enter 12 Try.func27 rfl rfl rfl ?_
  intro ρ hρ
  have e0 := hρ 0 _ rfl
  unfold F27 at h
  refine WC_seq ?_
  refine WC_region ?_
  have h := New.out h
  refine WL_val gd0 (o_box (v := .agg #[.int .i64 c1, .int .i64 c2, .int .i64 c3, .slice c_a4 c_n5 c_c6, .slice c_a7 c_n8 c_c9]) (cs := [.int .i64 c1, .int .i64 c2, .int .i64 c3, .slice c_a4 c_n5 c_c6, .slice c_a7 c_n8 c_c9]) (by exact e0) rfl) rfl ?_
  generalize hp11 : fresh w10 = p11 at h ⊢
  generalize hw12 : push w10 36 [.int .i64 c1, .int .i64 c2, .int .i64 c3, .slice c_a4 c_n5 c_c6, .slice c_a7 c_n8 c_c9] = w12 at h ⊢
  try dsimp only at h
  have h := New.out h
  refine WL_val gd0 (o_alloc (z := .agg #[.int .i64 0, .int .i64 0, .int .i64 0, .slice none 0 0, .slice none 0 0]) (cs := [.int .i64 0, .int .i64 0, .int .i64 0, .slice none 0 0, .slice none 0 0]) Try.zeroValue36 rfl) rfl ?_
  generalize hp13 : fresh w12 = p13 at h ⊢
  generalize hw14 : push w12 36 [.int .i64 0, .int .i64 0, .int .i64 0, .slice none 0 0, .slice none 0 0] = w14 at h ⊢
  try dsimp only at h
  refine WL_nil ?_
  refine nrm ?_
  refine WC_seq ?_
  refine WC_region ?_
  refine WL_val gd0 ((o_fieldAddr 3 Try.underlying36 rfl Try.sizeOf27 rfl rfl rfl) _) rfl ?_
  obtain ⟨x_a15, x_n16, x_c17, hc18, h⟩ := h
  refine WL_val gd0 (o_load Try.isAgg27 rfl hc18) rfl ?_
  refine WL_call gd0 (o_call Try.call35 (argCons rfl argNil) _) rfl (h.mono ?_)
  rintro _ w19 ⟨x_a20, x_n21, x_c22, rfl, h⟩
  refine WL_val gd0 ((o_fieldAddr 3 Try.underlying36 rfl Try.sizeOf27 rfl rfl rfl) _) rfl ?_
  obtain ⟨c24, h⟩ := h
  refine WL_act gd0 (o_store (v := .slice x_a20 x_n21 x_c22) Try.sizeOf27 rfl rfl rfl c24) ?_
  generalize hw23 : World.setCell w19 (p11.add 3) (.slice x_a20 x_n21 x_c22) = w23 at h ⊢
  try dsimp only at h
  refine WL_nil ?_
  refine nrm ?_
  refine WC_seq ?_
  refine WC_region ?_
  refine WL_val gd0 ((o_fieldAddr 4 Try.underlying36 rfl Try.sizeOf34 rfl rfl rfl) _) rfl ?_
  obtain ⟨x_a25, x_n26, x_c27, hc28, h⟩ := h
  refine WL_val gd0 (o_load Try.isAgg34 rfl hc28) rfl ?_
  refine WL_call gd0 (o_call Try.call36 (argCons rfl argNil) _) rfl (h.mono ?_)
  rintro _ w29 ⟨x_a30, x_n31, x_c32, rfl, h⟩
  refine WL_val gd0 ((o_fieldAddr 4 Try.underlying36 rfl Try.sizeOf34 rfl rfl rfl) _) rfl ?_
  obtain ⟨c34, h⟩ := h
  refine WL_act gd0 (o_store (v := .slice x_a30 x_n31 x_c32) Try.sizeOf34 rfl rfl rfl c34) ?_
  generalize hw33 : World.setCell w29 (p11.add 4) (.slice x_a30 x_n31 x_c32) = w33 at h ⊢
  try dsimp only at h
  refine WL_nil ?_
  refine nrm ?_
  refine WC_seq ?_
  refine WC_region ?_
  obtain ⟨x35, x36, x37, x_a38, x_n39, x_c40, x_a41, x_n42, x_c43, hc44, h⟩ := h
  refine WL_val gd0 (o_loadAgg (vs := [.int .i64 x35, .int .i64 x36, .int .i64 x37, .slice x_a38 x_n39 x_c40, .slice x_a41 x_n42 x_c43]) Try.isAgg36 Try.sizeOf36 rfl hc44) rfl ?_
  obtain ⟨c46, h⟩ := h
  refine WL_act gd0 (o_storeAgg (vs := [.int .i64 x35, .int .i64 x36, .int .i64 x37, .slice x_a38 x_n39 x_c40, .slice x_a41 x_n42 x_c43]) Try.sizeOf36 rfl rfl rfl c46) ?_
  generalize hw45 : setAll w33 p13 0 [.int .i64 x35, .int .i64 x36, .int .i64 x37, .slice x_a38 x_n39 x_c40, .slice x_a41 x_n42 x_c43] = w45 at h ⊢
  try dsimp only at h
  refine WL_nil ?_
  refine nrm ?_
  refine WC_ret ?_
  refine rtE ?_
  obtain ⟨r47, r48, r49, r_a50, r_n51, r_c52, r_a53, r_n54, r_c55, hc56, h⟩ := h
  exact gvC (vs := [.int .i64 r47, .int .i64 r48, .int .i64 r49, .slice r_a50 r_n51 r_c52, .slice r_a53 r_n54 r_c55]) rfl Try.isAgg36 Try.sizeOf36 rfl hc56 h

/-- slices.Delete   spacecraft action.entry,spacecraft action.entry  -/
def F28 (s_a1 : Option Addr) (s_n2 : Nat) (s_c3 : Nat) (i4 : Int) (j5 : Int) (w6 : World) (k : Value → World → Prop) : Prop :=
  (0 : Int) ≤ i4 ∧ i4 ≤ (j5 : Int) ∧ j5 ≤ ((s_n2 : Int) : Int) ∧ (s_n2 : Int) ≤ (s_c3 : Int) ∧ if i4 = j5 then
  k (.slice s_a1 s_n2 s_c3) w6
else
  (0 : Int) ≤ i4 ∧ i4 ≤ (s_c3 : Int) ∧ (0 : Int) ≤ j5 ∧ j5 ≤ (s_n2 : Int) ∧ ∃ (b_a16 : Option Addr) (b_n17 b_c18 : Nat) (w19 : World), (Builtin.append_ #[49, 49] 49 #[.slice s_a1 i4.toNat s_c3, .slice (cutA s_a1 s_c3 j5.toNat 7) (s_n2 - j5.toNat) (s_c3 - j5.toNat)]).run Try.prog w6.drew = .ok (.slice b_a16 b_n17 b_c18) w19 ∧ (0 : Int) ≤ (b_n17 : Int) ∧ (b_n17 : Int) ≤ ((s_n2 : Int) : Int) ∧ (s_n2 : Int) ≤ (b_c18 : Int) ∧ ∃ (w24 : World), (Builtin.clear_ #[49] 0 #[.slice (cutA b_a16 b_c18 ((b_n17 : Int).toNat) 7) ((s_n2 : Int).toNat - (b_n17 : Int).toNat) (b_c18 - (b_n17 : Int).toNat)]).run Try.prog w19 = .ok (.tuple #[]) w24 ∧ k (.slice b_a16 b_n17 b_c18) w24
set_option maxRecDepth 100000 in
set_option maxHeartbeats 2000000 in
theorem w28 (s_a1 : Option Addr) (s_n2 : Nat) (s_c3 : Nat) (i4 : Int) (j5 : Int) (w6 : World) (k : Value → World → Prop) (h : F28 s_a1 s_n2 s_c3 i4 j5 w6 k) : Does Try.prog 28 #[.slice s_a1 s_n2 s_c3, .int .i64 i4, .int .i64 j5] w6 k := by
  refine enter 33 Try.func28 rfl rfl rfl ?_
  intro ρ hρ
  have e0 := hρ 0 _ rfl
  have e1 := hρ 1 _ rfl
  have e2 := hρ 2 _ rfl
  unfold F28 at h
  refine WC_seq ?_
  refine WC_region ?_
  refine WL_val gd0 ((o_assign (v := .slice none 0 0) rfl) _) rfl ?_
  refine WL_nil ?_
  refine nrm ?_
  refine WC_seq ?_
  refine WC_region ?_
  refine WL_val gd0 ((o_move (v := .slice s_a1 s_n2 s_c3) (by exact e0)) _) rfl ?_
  refine WL_val gd0 ((o_move (v := .int .i64 i4) (by exact e1)) _) rfl ?_
  refine WL_val gd0 ((o_move (v := .int .i64 j5) (by exact e2)) _) rfl ?_
  refine WL_val gd0 ((o_move (v := .slice s_a1 s_n2 s_c3) (by exact e0)) _) rfl ?_
  refine WL_val gd0 ((o_len Try.underlying49 rfl) _) rfl ?_
  obtain ⟨c7, c8, c9, c10, h⟩ := h
  refine WL_val gd0 ((o_sliceLHM Try.underlying49 Try.sizeOf54 rfl rfl rfl rfl c7 c8 c9 c10) _) rfl ?_
  refine WL_nil ?_
  refine nrm ?_
  refine WC_seq ?_
  refine WC_seq ?_
  refine WC_region ?_
  refine WL_val gd0 ((o_move (v := .int .i64 i4) (by exact e1)) _) rfl ?_
  refine WL_val gd0 ((o_move (v := .int .i64 j5) (by exact e2)) _) rfl ?_
  refine WL_val gd0 ((o_eql rfl rfl) _) rfl ?_
  refine WL_nil ?_
  refine nrm ?_
  refine WC_cond (t := (decide (i4 = j5))) rfl (fun hb11 => ?_) (fun hb11 => ?_)
  · rw [if_pos (of_decide_eq_true hb11)] at h
    refine WC_seq ?_
    refine WC_region ?_
    refine WL_val gd0 ((o_move (v := .slice s_a1 s_n2 s_c3) (by exact e0)) _) rfl ?_
    refine WL_val gd0 ((o_assign (v := .slice s_a1 s_n2 s_c3) rfl) _) rfl ?_
    refine WL_nil ?_
    refine nrm ?_
    refine WC_ret ?_
    refine rtT ?_
    refine rtE ?_
    exact gv1 rfl rfl h
  · rw [if_neg (of_decide_eq_false hb11)] at h
    refine WC_skip ?_
    refine nrm ?_
    refine WC_seq ?_
    refine WC_region ?_
    refine WL_val gd0 ((o_move (v := .slice s_a1 s_n2 s_c3) (by exact e0)) _) rfl ?_
    refine WL_val gd0 ((o_len Try.underlying49 rfl) _) rfl ?_
    refine WL_val gd0 ((o_assign (v := .int .i64 (s_n2 : Int)) rfl) _) rfl ?_
    refine WL_nil ?_
    refine nrm ?_
    refine WC_seq ?_
    refine WC_draws [6] (.look 0 (.look 1 (.look 2 (.look 3 (.look 4 (.look 5 (.act 6 (.look 7 .nil)))))))) Try.mixed (by kernel_rfl) ?_
    refine WQ_val rfl gd0 (o_move (v := .slice s_a1 s_n2 s_c3) (by exact e0)) rfl ?_
    refine WQ_val rfl gd0 (o_move (v := .int .i64 i4) (by exact e1)) rfl ?_
    obtain ⟨c12, c13, h⟩ := h
    refine WQ_val rfl gd0 (o_sliceH Try.underlying49 Try.sizeOf54 rfl rfl c12 c13) rfl ?_
    refine WQ_val rfl gd0 (o_move (v := .slice s_a1 s_n2 s_c3) (by exact e0)) rfl ?_
    refine WQ_val rfl gd0 (o_move (v := .int .i64 j5) (by exact e2)) rfl ?_
    obtain ⟨c14, c15, h⟩ := h
    refine WQ_val rfl gd0 (o_sliceL Try.underlying49 Try.sizeOf54 rfl rfl c14 c15) rfl ?_
    obtain ⟨b_a16, b_n17, b_c18, w19, r20, h⟩ := h
    refine WQ_act rfl gd0 (o_append rfl rfl r20) rfl (by exact trivial) ?_
    refine WQ_val rfl gd0 (o_assign (v := .slice b_a16 b_n17 b_c18) rfl) rfl ?_
    refine WQ_nil ?_
    refine nrm ?_
    refine WC_seq ?_
    refine WC_region ?_
    refine WL_val gd0 ((o_move (v := .slice b_a16 b_n17 b_c18) rfl) _) rfl ?_
    refine WL_val gd0 ((o_move (v := .slice b_a16 b_n17 b_c18) rfl) _) rfl ?_
    refine WL_val gd0 ((o_len Try.underlying49 rfl) _) rfl ?_
    refine WL_val gd0 ((o_move (v := .int .i64 (s_n2 : Int)) rfl) _) rfl ?_
    obtain ⟨c21, c22, c23, h⟩ := h
    refine WL_val gd0 ((o_sliceLH Try.underlying49 Try.sizeOf54 rfl rfl rfl c21 c22 c23) _) rfl ?_
    obtain ⟨w24, r25, h⟩ := h
    refine WL_valNone gd0 (o_clear rfl r25) ?_
    refine WL_nil ?_
    refine nrm ?_
    refine WC_seq ?_
    refine WC_region ?_
    refine WL_val gd0 ((o_move (v := .slice b_a16 b_n17 b_c18) rfl) _) rfl ?_
    refine WL_val gd0 ((o_assign (v := .slice b_a16 b_n17 b_c18) rfl) _) rfl ?_
    refine WL_nil ?_
    refine nrm ?_
    refine WC_ret ?_
    refine rtE ?_
    exact gv1 rfl rfl h

/-- slices.Clone   spacecraft action.entry,spacecraft action.entry  -/
def F29 (s_a1 : Option Addr) (s_n2 : Nat) (s_c3 : Nat) (w4 : World) (k : Value → World → Prop) : Prop :=
  if (s_a1).isNone = true then
  k (.slice none 0 0) w4
else
  New w4 54 [] (fun p6 w7 => ∃ (b_a8 : Option Addr) (b_n9 b_c10 : Nat) (w11 : World), (Builtin.append_ #[49, 49] 49 #[.slice (some p6) 0 0, .slice s_a1 s_n2 s_c3]).run Try.prog w7 = .ok (.slice b_a8 b_n9 b_c10) w11 ∧ k (.slice b_a8 b_n9 b_c10) w11)
set_option maxRecDepth 100000 in
set_option maxHeartbeats 2000000 in
theorem w29 (s_a1 : Option Addr) (s_n2 : Nat) (s_c3 : Nat) (w4 : World) (k : Value → World → Prop) (h : F29 s_a1 s_n2 s_c3 w4 k) : Does Try.prog 29 #[.slice s_a1 s_n2 s_c3] w4 k := by
  refine enter 8 Try.func29 rfl rfl rfl ?_
  intro ρ hρ
  have e0 := hρ 0 _ rfl
  unfold F29 at h
  refine WC_seq ?_
  refine WC_region ?_
  refine WL_val gd0 ((o_assign (v := .slice none 0 0) rfl) _) rfl ?_
  refine WL_nil ?_
  refine nrm ?_
  refine WC_seq ?_
  refine WC_seq ?_
  refine WC_region ?_
  refine WL_val gd0 ((o_move (v := .slice s_a1 s_n2 s_c3) (by exact e0)) _) rfl ?_
  refine WL_val gd0 ((o_eqlSliceNil Try.underlying49 rfl rfl) _) rfl ?_
  refine WL_nil ?_
  refine nrm ?_
  refine WC_cond (t := ((s_a1).isNone)) rfl (fun hb5 => ?_) (fun hb5 => ?_)
  · rw [if_pos hb5] at h
    refine WC_seq ?_
    refine WC_region ?_
    refine WL_val gd0 ((o_assign (v := .slice none 0 0) rfl) _) rfl ?_
    refine WL_nil ?_
    refine nrm ?_
    refine WC_ret ?_
    refine rtT ?_
    refine rtE ?_
    exact gv1 rfl rfl h
  · rw [if_neg (neT hb5)] at h
    refine WC_skip ?_
    refine nrm ?_
    refine WC_seq ?_
    refine WC_region ?_
    have h := New.out h
    refine WL_val gd0 (o_buildSlice (e := 54) (ps := []) (cs := []) partNil (fun w => by kernel_rfl)) rfl ?_
    generalize hp6 : fresh w4 = p6 at h ⊢
    generalize hw7 : push w4 54 [] = w7 at h ⊢
    try dsimp only at h
    refine WL_val gd0 ((o_move (v := .slice s_a1 s_n2 s_c3) (by exact e0)) _) rfl ?_
    obtain ⟨b_a8, b_n9, b_c10, w11, r12, h⟩ := h
    refine WL_val gd0 (o_append rfl rfl r12) rfl ?_
    refine WL_val gd0 ((o_assign (v := .slice b_a8 b_n9 b_c10) rfl) _) rfl ?_
    refine WL_nil ?_
    refine nrm ?_
    refine WC_ret ?_
    refine rtE ?_
    exact gv1 rfl rfl h

def F30_b1 (t1 : Option Addr) (event2 : Int) (i7 : Int) (w8 : World) (nx8 : Int → World → Prop) (k : Value → World → Prop) : Prop :=
  ∃ (p10 : Addr), t1 = some p10 ∧ ∃ (x_a12 : Option Addr) (x_n13 x_c14 : Nat), w8.cell? p10 = some (.slice x_a12 x_n13 x_c14) ∧ if i7 < (x_n13 : Int) then
  ∃ (x_a17 : Option Addr) (x_n18 x_c19 : Nat), w8.cell? p10 = some (.slice x_a17 x_n18 x_c19) ∧ ∃ (p23 : Addr), x_a17 = some p23 ∧ (0 : Int) ≤ i7 ∧ i7 < (x_n18 : Int) ∧ ∃ (x25 : Int), w8.cell? (p23.add i7.toNat) = some (.int .i64 x25) ∧ if x25 < event2 then
    nx8 (IntKind.i64.wrap (i7 + 1)) w8
  else
    ∃ (x_a28 : Option Addr) (x_n29 x_c30 : Nat), w8.drew.cell? p10 = some (.slice x_a28 x_n29 x_c30) ∧ if i7 < (x_n29 : Int) then
      ∃ (x_a33 : Option Addr) (x_n34 x_c35 : Nat), w8.drew.cell? p10 = some (.slice x_a33 x_n34 x_c35) ∧ ∃ (p39 : Addr), x_a33 = some p39 ∧ (0 : Int) ≤ i7 ∧ i7 < (x_n34 : Int) ∧ ∃ (x41 : Int), w8.drew.cell? (p39.add i7.toNat) = some (.int .i64 x41) ∧ k (.tuple #[.int .i64 i7, .bool (decide (x41 = event2))]) w8.drew
    else
      k (.tuple #[.int .i64 i7, .bool false]) w8.drew
else
  ∃ (x_a43 : Option Addr) (x_n44 x_c45 : Nat), w8.drew.cell? p10 = some (.slice x_a43 x_n44 x_c45) ∧ if i7 < (x_n44 : Int) then
    ∃ (x_a48 : Option Addr) (x_n49 x_c50 : Nat), w8.drew.cell? p10 = some (.slice x_a48 x_n49 x_c50) ∧ ∃ (p54 : Addr), x_a48 = some p54 ∧ (0 : Int) ≤ i7 ∧ i7 < (x_n49 : Int) ∧ ∃ (x56 : Int), w8.drew.cell? (p54.add i7.toNat) = some (.int .i64 x56) ∧ k (.tuple #[.int .i64 i7, .bool (decide (x56 = event2))]) w8.drew
  else
    k (.tuple #[.int .i64 i7, .bool false]) w8.drew
/-- (*spacecraft spacecraftref37.Table).at -/
def F30 (t1 : Option Addr) (event2 : Int) (w3 : World) (k : Value → World → Prop) : Prop :=
  LoopP (fun (s : Int) w' nx' => F30_b1 t1 event2 s w' (fun x0 w => nx' x0 w) k) 0 w3
set_option maxRecDepth 100000 in
set_option maxHeartbeats 2000000 in
theorem w30 (t1 : Option Addr) (event2 : Int) (w3 : World) (k : Value → World → Prop) (h : F30 t1 event2 w3 k) : Does Try.prog 30 #[.pointer t1, .int .i64 event2] w3 k := by
  refine enter 46 Try.func30 rfl rfl rfl ?_
  intro ρ hρ
  have e0 := hρ 0 _ rfl
  have e1 := hρ 1 _ rfl
  unfold F30 at h
  refine WC_seq ?_
  refine WC_region ?_
  refine WL_val gd0 ((o_assign (v := .int .i64 0) rfl) _) rfl ?_
  refine WL_val gd0 ((o_assign (v := .bool false) rfl) _) rfl ?_
  refine WL_nil ?_
  refine nrm ?_
  refine WC_seq ?_
  refine WC_region ?_
  refine WL_val gd0 ((o_assign (v := .int .i64 0) rfl) _) rfl ?_
  refine WL_nil ?_
  refine nrm ?_
  refine WC_seq ?_
  refine WC_block ?_
  obtain ⟨J8, ⟨n8, h0⟩, hr8⟩ := h
  refine WC_loop (fun n ρ w' => ∃ (i7 : Int), ρ 6 = .int .i64 i7 ∧ ρ 0 = .pointer t1 ∧ ρ 1 = .int .i64 event2 ∧ J8 n i7 w') ⟨n8, _, rfl, e0, e1, h0⟩ ?_
  rintro n8 ρ w8 ⟨i7, e6_6, e0_4, e1_5, h⟩
  have h : F30_b1 t1 event2 i7 w8 (fun x0 w => ∃ m, m < n8 ∧ J8 m x0 w) k := hr8 n8 i7 w8 h
  unfold F30_b1 at h
  refine WC_seq ?_
  refine WC_seq ?_
  refine WC_region ?_
  refine WL_val gd0 ((o_move (v := .int .i64 i7) (by exact e6_6)) _) rfl ?_
  refine WL_val gd0 ((o_move (v := .pointer t1) (by exact e0_4)) _) rfl ?_
  obtain ⟨p10, q11, h⟩ := h
  refine WL_val gd0 ((o_nilCheck (by exact (congrArg Value.pointer q11))) _) rfl ?_
  refine WL_val gd0 ((o_fieldAddr0 Try.underlying31 rfl Try.sizeOf27 rfl rfl rfl) _) rfl ?_
  obtain ⟨x_a12, x_n13, x_c14, hc15, h⟩ := h
  refine WL_val gd0 (o_load Try.isAgg27 rfl hc15) rfl ?_
  refine WL_val gd0 ((o_len Try.underlying27 rfl) _) rfl ?_
  refine WL_val gd0 ((o_lss rfl rfl) _) rfl ?_
  refine WL_val gd0 ((o_move (v := .bool (decide (i7 < (x_n13 : Int)))) rfl) _) rfl ?_
  refine bsplit (decide (i7 < (x_n13 : Int))) (fun hb16 => ?_) (fun hb16 => ?_)
  · rw [if_pos (of_decide_eq_true hb16)] at h
    refine WL_val (gdY (b := (decide (i7 < (x_n13 : Int)))) 14 rfl rfl hb16) ((o_move (v := .pointer t1) (by exact e0_4)) _) rfl ?_
    refine WL_val (gdY (b := (decide (i7 < (x_n13 : Int)))) 14 rfl rfl hb16) ((o_nilCheck (by exact (congrArg Value.pointer q11))) _) rfl ?_
    refine WL_val (gdY (b := (decide (i7 < (x_n13 : Int)))) 14 rfl rfl hb16) ((o_fieldAddr0 Try.underlying31 rfl Try.sizeOf27 rfl rfl rfl) _) rfl ?_
    obtain ⟨x_a17, x_n18, x_c19, hc20, h⟩ := h
    refine WL_val (gdY (b := (decide (i7 < (x_n13 : Int)))) 14 rfl rfl hb16) (o_load Try.isAgg27 rfl hc20) rfl ?_
    refine WL_val (gdY (b := (decide (i7 < (x_n13 : Int)))) 14 rfl rfl hb16) ((o_move (v := .int .i64 i7) (by exact e6_6)) _) rfl ?_
    obtain ⟨p23, q24, h⟩ := h
    obtain ⟨l21, u22, h⟩ := h
    refine WL_val (gdY (b := (decide (i7 < (x_n13 : Int)))) 14 rfl rfl hb16) ((o_indexAddr1 Try.underlying27 Try.sizeOf3 (by exact (congrArg (fun z => Value.slice z x_n18 x_c19) q24)) rfl l21 u22) _) rfl ?_
    obtain ⟨x25, hc26, h⟩ := h
    refine WL_val (gdY (b := (decide (i7 < (x_n13 : Int)))) 14 rfl rfl hb16) (o_load Try.isAgg3 rfl hc26) rfl ?_
    refine WL_val (gdY (b := (decide (i7 < (x_n13 : Int)))) 14 rfl rfl hb16) ((o_move (v := .int .i64 event2) (by exact e1_5)) _) rfl ?_
    refine WL_val (gdY (b := (decide (i7 < (x_n13 : Int)))) 14 rfl rfl hb16) ((o_lss rfl rfl) _) rfl ?_
    refine WL_val gd0 ((o_pickT (v := .bool (decide (x25 < event2))) rfl hb16 rfl) _) rfl ?_
    refine WL_nil ?_
    refine nrm ?_
    refine WC_cond (t := (decide (x25 < event2))) rfl (fun hb27 => ?_) (fun hb27 => ?_)
    · rw [if_pos (of_decide_eq_true hb27)] at h
      refine WC_skip ?_
      refine nrm ?_
      refine WC_block ?_
      refine WC_region ?_
      refine WL_val gd0 ((o_move (v := .int .i64 i7) (by exact e6_6)) _) rfl ?_
      refine WL_val gd0 ((o_add rfl rfl) _) rfl ?_
      refine WL_val gd0 ((o_assign (v := .int .i64 (IntKind.i64.wrap (i7 + 1))) rfl) _) rfl ?_
      refine WL_nil ?_
      refine nrmB ?_
      refine nrm ?_
      obtain ⟨m9, hm9, h⟩ := h
      exact ⟨m9, hm9, _, rfl, e0_4, e1_5, h⟩
    · rw [if_neg (of_decide_eq_false hb27)] at h
      refine WC_exit ?_
      refine exT ?_
      refine exT ?_
      refine exB ?_
      refine nrm ?_
      refine WC_seq ?_
      refine WC_draws [] (.look 0 (.look 1 (.look 2 (.look 3 (.look 4 (.look 5 (.look 6 (.look 7 (.look 8 (.look 9 (.look 10 (.look 11 (.look 12 (.look 13 (.look 14 (.look 15 (.look 16 (.look 17 (.look 18 (.look 19 (.look 20 .nil))))))))))))))))))))) Try.mixed (by kernel_rfl) ?_
      refine WQ_val rfl gd0 (o_move (v := .int .i64 i7) (by exact e6_6)) rfl ?_
      refine WQ_val rfl gd0 (o_move (v := .int .i64 i7) (by exact e6_6)) rfl ?_
      refine WQ_val rfl gd0 (o_move (v := .pointer t1) (by exact e0_4)) rfl ?_
      refine WQ_val rfl gd0 (o_nilCheck (by exact (congrArg Value.pointer q11))) rfl ?_
      refine WQ_val rfl gd0 (o_fieldAddr0 Try.underlying31 rfl Try.sizeOf27 rfl rfl rfl) rfl ?_
      obtain ⟨x_a28, x_n29, x_c30, hc31, h⟩ := h
      refine WQ_look (fun w => w.cell? p10 = some (.slice x_a28 x_n29 x_c30)) rfl gd0 (fun w hc => (o_load Try.isAgg27 rfl hc)) hc31 rfl ?_
      refine WQ_val rfl gd0 (o_len Try.underlying27 rfl) rfl ?_
      refine WQ_val rfl gd0 (o_lss rfl rfl) rfl ?_
      refine WQ_val rfl gd0 (o_move (v := .bool (decide (i7 < (x_n29 : Int)))) rfl) rfl ?_
      refine bsplit (decide (i7 < (x_n29 : Int))) (fun hb32 => ?_) (fun hb32 => ?_)
      · rw [if_pos (of_decide_eq_true hb32)] at h
        refine WQ_val rfl (gdY (b := (decide (i7 < (x_n29 : Int)))) 35 rfl rfl hb32) (o_move (v := .pointer t1) (by exact e0_4)) rfl ?_
        refine WQ_val rfl (gdY (b := (decide (i7 < (x_n29 : Int)))) 35 rfl rfl hb32) (o_nilCheck (by exact (congrArg Value.pointer q11))) rfl ?_
        refine WQ_val rfl (gdY (b := (decide (i7 < (x_n29 : Int)))) 35 rfl rfl hb32) (o_fieldAddr0 Try.underlying31 rfl Try.sizeOf27 rfl rfl rfl) rfl ?_
        obtain ⟨x_a33, x_n34, x_c35, hc36, h⟩ := h
        refine WQ_look (fun w => w.cell? p10 = some (.slice x_a33 x_n34 x_c35)) rfl (gdY (b := (decide (i7 < (x_n29 : Int)))) 35 rfl rfl hb32) (fun w hc => (o_load Try.isAgg27 rfl hc)) hc36 rfl ?_
        refine WQ_val rfl (gdY (b := (decide (i7 < (x_n29 : Int)))) 35 rfl rfl hb32) (o_move (v := .int .i64 i7) (by exact e6_6)) rfl ?_
        obtain ⟨p39, q40, h⟩ := h
        obtain ⟨l37, u38, h⟩ := h
        refine WQ_val rfl (gdY (b := (decide (i7 < (x_n29 : Int)))) 35 rfl rfl hb32) (o_indexAddr1 Try.underlying27 Try.sizeOf3 (by exact (congrArg (fun z => Value.slice z x_n34 x_c35) q40)) rfl l37 u38) rfl ?_
        obtain ⟨x41, hc42, h⟩ := h
        refine WQ_look (fun w => w.cell? (p39.add i7.toNat) = some (.int .i64 x41)) rfl (gdY (b := (decide (i7 < (x_n29 : Int)))) 35 rfl rfl hb32) (fun w hc => (o_load Try.isAgg3 rfl hc)) hc42 rfl ?_
        refine WQ_val rfl (gdY (b := (decide (i7 < (x_n29 : Int)))) 35 rfl rfl hb32) (o_move (v := .int .i64 event2) (by exact e1_5)) rfl ?_
        refine WQ_val rfl (gdY (b := (decide (i7 < (x_n29 : Int)))) 35 rfl rfl hb32) (o_eql rfl rfl) rfl ?_
        refine WQ_val rfl gd0 (o_pickT (v := .bool (decide (x41 = event2))) rfl hb32 rfl) rfl ?_
        refine WQ_val rfl gd0 (o_assign (v := .int .i64 i7) rfl) rfl ?_
        refine WQ_val rfl gd0 (o_assign (v := .bool (decide (x41 = event2))) rfl) rfl ?_
        refine WQ_nil ?_
        refine nrm ?_
        refine WC_ret ?_
        refine rtE ?_
        exact gv2 rfl rfl rfl h
      · rw [if_neg (of_decide_eq_false hb32)] at h
        refine WQ_skip rfl (gdN (b := (decide (i7 < (x_n29 : Int)))) 35 rfl rfl hb32) rfl ?_
        refine WQ_skip rfl (gdN (b := (decide (i7 < (x_n29 : Int)))) 35 rfl rfl hb32) rfl ?_
        refine WQ_skip rfl (gdN (b := (decide (i7 < (x_n29 : Int)))) 35 rfl rfl hb32) rfl ?_
        refine WQ_skip rfl (gdN (b := (decide (i7 < (x_n29 : Int)))) 35 rfl rfl hb32) rfl ?_
        refine WQ_skip rfl (gdN (b := (decide (i7 < (x_n29 : Int)))) 35 rfl rfl hb32) rfl ?_
        refine WQ_skip rfl (gdN (b := (decide (i7 < (x_n29 : Int)))) 35 rfl rfl hb32) rfl ?_
        refine WQ_skip rfl (gdN (b := (decide (i7 < (x_n29 : Int)))) 35 rfl rfl hb32) rfl ?_
        refine WQ_skip rfl (gdN (b := (decide (i7 < (x_n29 : Int)))) 35 rfl rfl hb32) rfl ?_
        refine WQ_skip rfl (gdN (b := (decide (i7 < (x_n29 : Int)))) 35 rfl rfl hb32) rfl ?_
        refine WQ_val rfl gd0 (o_pickF (v := .bool false) rfl hb32 rfl) rfl ?_
        refine WQ_val rfl gd0 (o_assign (v := .int .i64 i7) rfl) rfl ?_
        refine WQ_val rfl gd0 (o_assign (v := .bool false) rfl) rfl ?_
        refine WQ_nil ?_
        refine nrm ?_
        refine WC_ret ?_
        refine rtE ?_
        exact gv2 rfl rfl rfl h
  · rw [if_neg (of_decide_eq_false hb16)] at h
    refine WL_skip (gdN (b := (decide (i7 < (x_n13 : Int)))) 14 rfl rfl hb16) rfl ?_
    refine WL_skip (gdN (b := (decide (i7 < (x_n13 : Int)))) 14 rfl rfl hb16) rfl ?_
    refine WL_skip (gdN (b := (decide (i7 < (x_n13 : Int)))) 14 rfl rfl hb16) rfl ?_
    refine WL_skip (gdN (b := (decide (i7 < (x_n13 : Int)))) 14 rfl rfl hb16) rfl ?_
    refine WL_skip (gdN (b := (decide (i7 < (x_n13 : Int)))) 14 rfl rfl hb16) rfl ?_
    refine WL_skip (gdN (b := (decide (i7 < (x_n13 : Int)))) 14 rfl rfl hb16) rfl ?_
    refine WL_skip (gdN (b := (decide (i7 < (x_n13 : Int)))) 14 rfl rfl hb16) rfl ?_
    refine WL_skip (gdN (b := (decide (i7 < (x_n13 : Int)))) 14 rfl rfl hb16) rfl ?_
    refine WL_skip (gdN (b := (decide (i7 < (x_n13 : Int)))) 14 rfl rfl hb16) rfl ?_
    refine WL_val gd0 ((o_pickF (v := .bool false) rfl hb16 rfl) _) rfl ?_
    refine WL_nil ?_
    refine nrm ?_
    refine WC_cond (t := false) rfl (fun hx => by rw [(rfl : false = false)] at hx; cases hx) (fun _ => ?_)
    refine WC_exit ?_
    refine exT ?_
    refine exT ?_
    refine exB ?_
    refine nrm ?_
    refine WC_seq ?_
    refine WC_draws [] (.look 0 (.look 1 (.look 2 (.look 3 (.look 4 (.look 5 (.look 6 (.look 7 (.look 8 (.look 9 (.look 10 (.look 11 (.look 12 (.look 13 (.look 14 (.look 15 (.look 16 (.look 17 (.look 18 (.look 19 (.look 20 .nil))))))))))))))))))))) Try.mixed (by kernel_rfl) ?_
    refine WQ_val rfl gd0 (o_move (v := .int .i64 i7) (by exact e6_6)) rfl ?_
    refine WQ_val rfl gd0 (o_move (v := .int .i64 i7) (by exact e6_6)) rfl ?_
    refine WQ_val rfl gd0 (o_move (v := .pointer t1) (by exact e0_4)) rfl ?_
    refine WQ_val rfl gd0 (o_nilCheck (by exact (congrArg Value.pointer q11))) rfl ?_
    refine WQ_val rfl gd0 (o_fieldAddr0 Try.underlying31 rfl Try.sizeOf27 rfl rfl rfl) rfl ?_
    obtain ⟨x_a43, x_n44, x_c45, hc46, h⟩ := h
    refine WQ_look (fun w => w.cell? p10 = some (.slice x_a43 x_n44 x_c45)) rfl gd0 (fun w hc => (o_load Try.isAgg27 rfl hc)) hc46 rfl ?_
    refine WQ_val rfl gd0 (o_len Try.underlying27 rfl) rfl ?_
    refine WQ_val rfl gd0 (o_lss rfl rfl) rfl ?_
    refine WQ_val rfl gd0 (o_move (v := .bool (decide (i7 < (x_n44 : Int)))) rfl) rfl ?_
    refine bsplit (decide (i7 < (x_n44 : Int))) (fun hb47 => ?_) (fun hb47 => ?_)
    · rw [if_pos (of_decide_eq_true hb47)] at h
      refine WQ_val rfl (gdY (b := (decide (i7 < (x_n44 : Int)))) 35 rfl rfl hb47) (o_move (v := .pointer t1) (by exact e0_4)) rfl ?_
      refine WQ_val rfl (gdY (b := (decide (i7 < (x_n44 : Int)))) 35 rfl rfl hb47) (o_nilCheck (by exact (congrArg Value.pointer q11))) rfl ?_
      refine WQ_val rfl (gdY (b := (decide (i7 < (x_n44 : Int)))) 35 rfl rfl hb47) (o_fieldAddr0 Try.underlying31 rfl Try.sizeOf27 rfl rfl rfl) rfl ?_
      obtain ⟨x_a48, x_n49, x_c50, hc51, h⟩ := h
      refine WQ_look (fun w => w.cell? p10 = some (.slice x_a48 x_n49 x_c50)) rfl (gdY (b := (decide (i7 < (x_n44 : Int)))) 35 rfl rfl hb47) (fun w hc => (o_load Try.isAgg27 rfl hc)) hc51 rfl ?_
      refine WQ_val rfl (gdY (b := (decide (i7 < (x_n44 : Int)))) 35 rfl rfl hb47) (o_move (v := .int .i64 i7) (by exact e6_6)) rfl ?_
      obtain ⟨p54, q55, h⟩ := h
      obtain ⟨l52, u53, h⟩ := h
      refine WQ_val rfl (gdY (b := (decide (i7 < (x_n44 : Int)))) 35 rfl rfl hb47) (o_indexAddr1 Try.underlying27 Try.sizeOf3 (by exact (congrArg (fun z => Value.slice z x_n49 x_c50) q55)) rfl l52 u53) rfl ?_
      obtain ⟨x56, hc57, h⟩ := h
      refine WQ_look (fun w => w.cell? (p54.add i7.toNat) = some (.int .i64 x56)) rfl (gdY (b := (decide (i7 < (x_n44 : Int)))) 35 rfl rfl hb47) (fun w hc => (o_load Try.isAgg3 rfl hc)) hc57 rfl ?_
      refine WQ_val rfl (gdY (b := (decide (i7 < (x_n44 : Int)))) 35 rfl rfl hb47) (o_move (v := .int .i64 event2) (by exact e1_5)) rfl ?_
      refine WQ_val rfl (gdY (b := (decide (i7 < (x_n44 : Int)))) 35 rfl rfl hb47) (o_eql rfl rfl) rfl ?_
      refine WQ_val rfl gd0 (o_pickT (v := .bool (decide (x56 = event2))) rfl hb47 rfl) rfl ?_
      refine WQ_val rfl gd0 (o_assign (v := .int .i64 i7) rfl) rfl ?_
      refine WQ_val rfl gd0 (o_assign (v := .bool (decide (x56 = event2))) rfl) rfl ?_
      refine WQ_nil ?_
      refine nrm ?_
      refine WC_ret ?_
      refine rtE ?_
      exact gv2 rfl rfl rfl h
    · rw [if_neg (of_decide_eq_false hb47)] at h
      refine WQ_skip rfl (gdN (b := (decide (i7 < (x_n44 : Int)))) 35 rfl rfl hb47) rfl ?_
      refine WQ_skip rfl (gdN (b := (decide (i7 < (x_n44 : Int)))) 35 rfl rfl hb47) rfl ?_
      refine WQ_skip rfl (gdN (b := (decide (i7 < (x_n44 : Int)))) 35 rfl rfl hb47) rfl ?_
      refine WQ_skip rfl (gdN (b := (decide (i7 < (x_n44 : Int)))) 35 rfl rfl hb47) rfl ?_
      refine WQ_skip rfl (gdN (b := (decide (i7 < (x_n44 : Int)))) 35 rfl rfl hb47) rfl ?_
      refine WQ_skip rfl (gdN (b := (decide (i7 < (x_n44 : Int)))) 35 rfl rfl hb47) rfl ?_
      refine WQ_skip rfl (gdN (b := (decide (i7 < (x_n44 : Int)))) 35 rfl rfl hb47) rfl ?_
      refine WQ_skip rfl (gdN (b := (decide (i7 < (x_n44 : Int)))) 35 rfl rfl hb47) rfl ?_
      refine WQ_skip rfl (gdN (b := (decide (i7 < (x_n44 : Int)))) 35 rfl rfl hb47) rfl ?_
      refine WQ_val rfl gd0 (o_pickF (v := .bool false) rfl hb47 rfl) rfl ?_
      refine WQ_val rfl gd0 (o_assign (v := .int .i64 i7) rfl) rfl ?_
      refine WQ_val rfl gd0 (o_assign (v := .bool false) rfl) rfl ?_
      refine WQ_nil ?_
      refine nrm ?_
      refine WC_ret ?_
      refine rtE ?_
      exact gv2 rfl rfl rfl h

def F31c32_b1 (x_a1 : Option Addr) (x_n2 : Nat) (target4 : Int) (i11 : Int) (j13 : Int) (w14 : World) (nx14 : Int → Int → World → Prop) (k : Value → World → Prop) : Prop :=
  if i11 < j13 then
  ∃ (p19 : Addr), x_a1 = some p19 ∧ (0 : Int) ≤ IntKind.i64.wrap (shr .u64 (IntKind.u64.wrap (IntKind.i64.wrap (i11 + j13))) 1) ∧ IntKind.i64.wrap (shr .u64 (IntKind.u64.wrap (IntKind.i64.wrap (i11 + j13))) 1) < (x_n2 : Int) ∧ ∃ (x21 : Int) (x22 : Bool) (x23 x24 x25 : Int) (x_a26 : Option Addr) (x_n27 x_c28 : Nat) (x_a29 : Option Addr) (x_n30 x_c31 : Nat), Cells w14 (p19.add (((IntKind.i64.wrap (shr .u64 (IntKind.u64.wrap (IntKind.i64.wrap (i11 + j13))) 1)).toNat) * 7)) 0 [.int .i64 x21, .bool x22, .int .i64 x23, .int .i64 x24, .int .i64 x25, .slice x_a26 x_n27 x_c28, .slice x_a29 x_n30 x_c31] ∧ Does Try.prog 32 #[.agg #[.int .i64 x21, .bool x22, .int .i64 x23, .int .i64 x24, .int .i64 x25, .slice x_a26 x_n27 x_c28, .slice x_a29 x_n30 x_c31], .int .i64 target4] w14 (fun v w33 => ∃ (x34 : Int), v = .int .i64 x34 ∧ if x34 < 0 then
    nx14 (IntKind.i64.wrap ((IntKind.i64.wrap (shr .u64 (IntKind.u64.wrap (IntKind.i64.wrap (i11 + j13))) 1)) + 1)) j13 w33
  else
    nx14 i11 (IntKind.i64.wrap (shr .u64 (IntKind.u64.wrap (IntKind.i64.wrap (i11 + j13))) 1)) w33)
else
  if i11 < (x_n2 : Int) then
    ∃ (p39 : Addr), x_a1 = some p39 ∧ (0 : Int) ≤ i11 ∧ i11 < (x_n2 : Int) ∧ ∃ (x41 : Int) (x42 : Bool) (x43 x44 x45 : Int) (x_a46 : Option Addr) (x_n47 x_c48 : Nat) (x_a49 : Option Addr) (x_n50 x_c51 : Nat), Cells w14 (p39.add (i11.toNat * 7)) 0 [.int .i64 x41, .bool x42, .int .i64 x43, .int .i64 x44, .int .i64 x45, .slice x_a46 x_n47 x_c48, .slice x_a49 x_n50 x_c51] ∧ Does Try.prog 32 #[.agg #[.int .i64 x41, .bool x42, .int .i64 x43, .int .i64 x44, .int .i64 x45, .slice x_a46 x_n47 x_c48, .slice x_a49 x_n50 x_c51], .int .i64 target4] w14 (fun v w53 => ∃ (x54 : Int), v = .int .i64 x54 ∧ k (.tuple #[.int .i64 i11, .bool (decide (x54 = 0))]) w53)
  else
    k (.tuple #[.int .i64 i11, .bool false]) w14
/-- slices.BinarySearchFunc   spacecraft action.entry,spacecraft action.entry,int  -/
def F31c32 (x_a1 : Option Addr) (x_n2 : Nat) (x_c3 : Nat) (target4 : Int) (w5 : World) (k : Value → World → Prop) : Prop :=
  LoopP (fun (s : Int × Int) w' nx' => F31c32_b1 x_a1 x_n2 target4 (s.1) (s.2) w' (fun x0 x1 w => nx' (x0, x1) w) k) (0, (x_n2 : Int)) w5
set_option maxRecDepth 100000 in
set_option maxHeartbeats 2000000 in
theorem w31c32 (x_a1 : Option Addr) (x_n2 : Nat) (x_c3 : Nat) (target4 : Int) (w5 : World) (k : Value → World → Prop) (h : F31c32 x_a1 x_n2 x_c3 target4 w5 k) : Does Try.prog 31 #[.slice x_a1 x_n2 x_c3, .int .i64 target4, .func (.func 32) #[] #[]] w5 k := by
  refine enter 49 Try.func31 rfl rfl rfl ?_
  intro ρ hρ
  have e0 := hρ 0 _ rfl
  have e1 := hρ 1 _ rfl
  have e2 := hρ 2 _ rfl
  unfold F31c32 at h
  refine WC_seq ?_
  refine WC_region ?_
  refine WL_val gd0 ((o_assign (v := .int .i64 0) rfl) _) rfl ?_
  refine WL_val gd0 ((o_assign (v := .bool false) rfl) _) rfl ?_
  refine WL_nil ?_
  refine nrm ?_
  refine WC_seq ?_
  refine WC_region ?_
  refine WL_val gd0 ((o_move (v := .slice x_a1 x_n2 x_c3) (by exact e0)) _) rfl ?_
  refine WL_val gd0 ((o_len Try.underlying49 rfl) _) rfl ?_
  refine WL_val gd0 ((o_assign (v := .int .i64 (x_n2 : Int)) rfl) _) rfl ?_
  refine WL_nil ?_
  refine nrm ?_
  refine WC_seq ?_
  refine WC_region ?_
  refine WL_val gd0 ((o_move (v := .int .i64 (x_n2 : Int)) rfl) _) rfl ?_
  refine WL_val gd0 ((o_assign (v := .int .i64 0) rfl) _) rfl ?_
  refine WL_val gd0 ((o_assign (v := .int .i64 (x_n2 : Int)) rfl) _) rfl ?_
  refine WL_nil ?_
  refine nrm ?_
  refine WC_seq ?_
  refine WC_block ?_
  obtain ⟨J14, ⟨n14, h0⟩, hr14⟩ := h
  refine WC_loop (fun n ρ w' => ∃ (i11 j13 : Int), ρ 9 = .int .i64 i11 ∧ ρ 10 = .int .i64 j13 ∧ ρ 0 = .slice x_a1 x_n2 x_c3 ∧ ρ 1 = .int .i64 target4 ∧ ρ 2 = .func (.func 32) #[] #[] ∧ ρ 8 = .int .i64 (x_n2 : Int) ∧ J14 n (i11, j13) w') ⟨n14, _, _, rfl, rfl, e0, e1, e2, rfl, h0⟩ ?_
  rintro n14 ρ w14 ⟨i11, j13, e9_10, e10_12, e0_6, e1_7, e2_8, e8_9, h⟩
  have h : F31c32_b1 x_a1 x_n2 target4 i11 j13 w14 (fun x0 x1 w => ∃ m, m < n14 ∧ J14 m (x0, x1) w) k := hr14 n14 (i11, j13) w14 h
  unfold F31c32_b1 at h
  refine WC_seq ?_
  refine WC_seq ?_
  refine WC_region ?_
  refine WL_val gd0 ((o_move (v := .int .i64 i11) (by exact e9_10)) _) rfl ?_
  refine WL_val gd0 ((o_move (v := .int .i64 j13) (by exact e10_12)) _) rfl ?_
  refine WL_val gd0 ((o_lss rfl rfl) _) rfl ?_
  refine WL_nil ?_
  refine nrm ?_
  refine WC_cond (t := (decide (i11 < j13))) rfl (fun hb16 => ?_) (fun hb16 => ?_)
  · rw [if_pos (of_decide_eq_true hb16)] at h
    refine WC_skip ?_
    refine nrm ?_
    refine WC_block ?_
    refine WC_seq ?_
    refine WC_region ?_
    refine WL_val gd0 ((o_move (v := .int .i64 i11) (by exact e9_10)) _) rfl ?_
    refine WL_val gd0 ((o_move (v := .int .i64 j13) (by exact e10_12)) _) rfl ?_
    refine WL_val gd0 ((o_add rfl rfl) _) rfl ?_
    refine WL_val gd0 ((o_conv Try.underlying3 Try.underlying67 rfl) _) rfl ?_
    refine WL_val gd0 ((o_shr rfl rfl (by decide)) _) rfl ?_
    refine WL_val gd0 ((o_conv Try.underlying67 Try.underlying3 rfl) _) rfl ?_
    refine WL_val gd0 ((o_assign (v := .int .i64 (IntKind.i64.wrap (shr .u64 (IntKind.u64.wrap (IntKind.i64.wrap (i11 + j13))) 1))) rfl) _) rfl ?_
    refine WL_nil ?_
    refine nrm ?_
    refine WC_seq ?_
    refine WC_region ?_
    refine WL_val gd0 ((o_move (v := .func (.func 32) #[] #[]) (by exact e2_8)) _) rfl ?_
    refine WL_val gd0 ((o_move (v := .slice x_a1 x_n2 x_c3) (by exact e0_6)) _) rfl ?_
    refine WL_val gd0 ((o_move (v := .int .i64 (IntKind.i64.wrap (shr .u64 (IntKind.u64.wrap (IntKind.i64.wrap (i11 + j13))) 1))) rfl) _) rfl ?_
    obtain ⟨p19, q20, h⟩ := h
    obtain ⟨l17, u18, h⟩ := h
    refine WL_val gd0 ((o_indexAddr Try.underlying49 Try.sizeOf54 (by exact (congrArg (fun z => Value.slice z x_n2 x_c3) q20)) rfl l17 u18) _) rfl ?_
    obtain ⟨x21, x22, x23, x24, x25, x_a26, x_n27, x_c28, x_a29, x_n30, x_c31, hc32, h⟩ := h
    refine WL_val gd0 (o_loadAgg (vs := [.int .i64 x21, .bool x22, .int .i64 x23, .int .i64 x24, .int .i64 x25, .slice x_a26 x_n27 x_c28, .slice x_a29 x_n30 x_c31]) Try.isAgg54 Try.sizeOf54 rfl hc32) rfl ?_
    refine WL_val gd0 ((o_move (v := .int .i64 target4) (by exact e1_7)) _) rfl ?_
    refine WL_call gd0 (o_callVal (bs := []) (cs := []) Try.call32 rfl (argCons rfl (argCons rfl argNil)) _) rfl (h.mono ?_)
    rintro _ w33 ⟨x34, rfl, h⟩
    refine WL_val gd0 ((o_lss rfl rfl) _) rfl ?_
    refine WL_nil ?_
    refine nrm ?_
    refine WC_cond (t := (decide (x34 < 0))) rfl (fun hb35 => ?_) (fun hb35 => ?_)
    · rw [if_pos (of_decide_eq_true hb35)] at h
      refine WC_region ?_
      refine WL_val gd0 ((o_move (v := .int .i64 (IntKind.i64.wrap (shr .u64 (IntKind.u64.wrap (IntKind.i64.wrap (i11 + j13))) 1))) rfl) _) rfl ?_
      refine WL_val gd0 ((o_add rfl rfl) _) rfl ?_
      refine WL_val gd0 ((o_assign (v := .int .i64 (IntKind.i64.wrap ((IntKind.i64.wrap (shr .u64 (IntKind.u64.wrap (IntKind.i64.wrap (i11 + j13))) 1)) + 1))) rfl) _) rfl ?_
      refine WL_nil ?_
      refine nrmB ?_
      refine nrm ?_
      obtain ⟨m15, hm15, h⟩ := h
      exact ⟨m15, hm15, _, _, rfl, e10_12, e0_6, e1_7, e2_8, e8_9, h⟩
    · rw [if_neg (of_decide_eq_false hb35)] at h
      refine WC_region ?_
      refine WL_val gd0 ((o_move (v := .int .i64 (IntKind.i64.wrap (shr .u64 (IntKind.u64.wrap (IntKind.i64.wrap (i11 + j13))) 1))) rfl) _) rfl ?_
      refine WL_val gd0 ((o_assign (v := .int .i64 (IntKind.i64.wrap (shr .u64 (IntKind.u64.wrap (IntKind.i64.wrap (i11 + j13))) 1))) rfl) _) rfl ?_
      refine WL_nil ?_
      refine nrmB ?_
      refine nrm ?_
      obtain ⟨m15, hm15, h⟩ := h
      exact ⟨m15, hm15, _, _, e9_10, rfl, e0_6, e1_7, e2_8, e8_9, h⟩
  · rw [if_neg (of_decide_eq_false hb16)] at h
    refine WC_exit ?_
    refine exT ?_
    refine exT ?_
    refine exB ?_
    refine nrm ?_
    refine WC_seq ?_
    refine WC_region ?_
    refine WL_val gd0 ((o_move (v := .int .i64 i11) (by exact e9_10)) _) rfl ?_
    refine WL_val gd0 ((o_move (v := .int .i64 i11) (by exact e9_10)) _) rfl ?_
    refine WL_val gd0 ((o_move (v := .int .i64 (x_n2 : Int)) (by exact e8_9)) _) rfl ?_
    refine WL_val gd0 ((o_lss rfl rfl) _) rfl ?_
    refine WL_val gd0 ((o_move (v := .bool (decide (i11 < (x_n2 : Int)))) rfl) _) rfl ?_
    refine bsplit (decide (i11 < (x_n2 : Int))) (fun hb36 => ?_) (fun hb36 => ?_)
    · rw [if_pos (of_decide_eq_true hb36)] at h
      refine WL_val (gdY (b := (decide (i11 < (x_n2 : Int)))) 39 rfl rfl hb36) ((o_move (v := .func (.func 32) #[] #[]) (by exact e2_8)) _) rfl ?_
      refine WL_val (gdY (b := (decide (i11 < (x_n2 : Int)))) 39 rfl rfl hb36) ((o_move (v := .slice x_a1 x_n2 x_c3) (by exact e0_6)) _) rfl ?_
      refine WL_val (gdY (b := (decide (i11 < (x_n2 : Int)))) 39 rfl rfl hb36) ((o_move (v := .int .i64 i11) (by exact e9_10)) _) rfl ?_
      obtain ⟨p39, q40, h⟩ := h
      obtain ⟨l37, u38, h⟩ := h
      refine WL_val (gdY (b := (decide (i11 < (x_n2 : Int)))) 39 rfl rfl hb36) ((o_indexAddr Try.underlying49 Try.sizeOf54 (by exact (congrArg (fun z => Value.slice z x_n2 x_c3) q40)) rfl l37 u38) _) rfl ?_
      obtain ⟨x41, x42, x43, x44, x45, x_a46, x_n47, x_c48, x_a49, x_n50, x_c51, hc52, h⟩ := h
      refine WL_val (gdY (b := (decide (i11 < (x_n2 : Int)))) 39 rfl rfl hb36) (o_loadAgg (vs := [.int .i64 x41, .bool x42, .int .i64 x43, .int .i64 x44, .int .i64 x45, .slice x_a46 x_n47 x_c48, .slice x_a49 x_n50 x_c51]) Try.isAgg54 Try.sizeOf54 rfl hc52) rfl ?_
      refine WL_val (gdY (b := (decide (i11 < (x_n2 : Int)))) 39 rfl rfl hb36) ((o_move (v := .int .i64 target4) (by exact e1_7)) _) rfl ?_
      refine WL_call (gdY (b := (decide (i11 < (x_n2 : Int)))) 39 rfl rfl hb36) (o_callVal (bs := []) (cs := []) Try.call32 rfl (argCons rfl (argCons rfl argNil)) _) rfl (h.mono ?_)
      rintro _ w53 ⟨x54, rfl, h⟩
      refine WL_val (gdY (b := (decide (i11 < (x_n2 : Int)))) 39 rfl rfl hb36) ((o_eql rfl rfl) _) rfl ?_
      refine WL_val gd0 ((o_pickT (v := .bool (decide (x54 = 0))) rfl hb36 rfl) _) rfl ?_
      refine WL_val gd0 ((o_assign (v := .int .i64 i11) rfl) _) rfl ?_
      refine WL_val gd0 ((o_assign (v := .bool (decide (x54 = 0))) rfl) _) rfl ?_
      refine WL_nil ?_
      refine nrm ?_
      refine WC_ret ?_
      refine rtE ?_
      exact gv2 rfl rfl rfl h
    · rw [if_neg (of_decide_eq_false hb36)] at h
      refine WL_skip (gdN (b := (decide (i11 < (x_n2 : Int)))) 39 rfl rfl hb36) rfl ?_
      refine WL_skip (gdN (b := (decide (i11 < (x_n2 : Int)))) 39 rfl rfl hb36) rfl ?_
      refine WL_skip (gdN (b := (decide (i11 < (x_n2 : Int)))) 39 rfl rfl hb36) rfl ?_
      refine WL_skip (gdN (b := (decide (i11 < (x_n2 : Int)))) 39 rfl rfl hb36) rfl ?_
      refine WL_skip (gdN (b := (decide (i11 < (x_n2 : Int)))) 39 rfl rfl hb36) rfl ?_
      refine WL_skip (gdN (b := (decide (i11 < (x_n2 : Int)))) 39 rfl rfl hb36) rfl ?_
      refine WL_skip (gdN (b := (decide (i11 < (x_n2 : Int)))) 39 rfl rfl hb36) rfl ?_
      refine WL_skip (gdN (b := (decide (i11 < (x_n2 : Int)))) 39 rfl rfl hb36) rfl ?_
      refine WL_val gd0 ((o_pickF (v := .bool false) rfl hb36 rfl) _) rfl ?_
      refine WL_val gd0 ((o_assign (v := .int .i64 i11) rfl) _) rfl ?_
      refine WL_val gd0 ((o_assign (v := .bool false) rfl) _) rfl ?_
      refine WL_nil ?_
      refine nrm ?_
      refine WC_ret ?_
      refine rtE ?_
      exact gv2 rfl rfl rfl h

/-- (*spacecraft action.Table).find 1 -/
def F32 (x1 : Int) (x2 : Bool) (x3 : Int) (x4 : Int) (x5 : Int) (x_a6 : Option Addr) (x_n7 : Nat) (x_c8 : Nat) (x_a9 : Option Addr) (x_n10 : Nat) (x_c11 : Nat) (event12 : Int) (w13 : World) (k : Value → World → Prop) : Prop :=
  New w13 54 [.int .i64 x1, .bool x2, .int .i64 x3, .int .i64 x4, .int .i64 x5, .slice x_a6 x_n7 x_c8, .slice x_a9 x_n10 x_c11] (fun p14 w15 => ∃ (x16 : Int), w15.cell? p14 = some (.int .i64 x16) ∧ if x16 < event12 then
  k (.int .i64 (-1)) w15
else
  ∃ (x19 : Int), w15.cell? p14 = some (.int .i64 x19) ∧ if event12 < x19 then
    k (.int .i64 1) w15
  else
    k (.int .i64 0) w15)
set_option maxRecDepth 100000 in
set_option maxHeartbeats 2000000 in
theorem w32 (x1 : Int) (x2 : Bool) (x3 : Int) (x4 : Int) (x5 : Int) (x_a6 : Option Addr) (x_n7 : Nat) (x_c8 : Nat) (x_a9 : Option Addr) (x_n10 : Nat) (x_c11 : Nat) (event12 : Int) (w13 : World) (k : Value → World → Prop) (h : F32 x1 x2 x3 x4 x5 x_a6 x_n7 x_c8 x_a9 x_n10 x_c11 event12 w13 k) : Does Try.prog 32 #[.agg #[.int .i64 x1, .bool x2, .int .i64 x3, .int .i64 x4, .int .i64 x5, .slice x_a6 x_n7 x_c8, .slice x_a9 x_n10 x_c11], .int .i64 event12] w13 k := by
  refine enter 15 Try.func32 rfl rfl rfl ?_
  intro ρ hρ
  have e0 := hρ 0 _ rfl
  have e1 := hρ 1 _ rfl
  unfold F32 at h
  refine WC_seq ?_
  refine WC_region ?_
  have h := New.out h
  refine WL_val gd0 (o_box (v := .agg #[.int .i64 x1, .bool x2, .int .i64 x3, .int .i64 x4, .int .i64 x5, .slice x_a6 x_n7 x_c8, .slice x_a9 x_n10 x_c11]) (cs := [.int .i64 x1, .bool x2, .int .i64 x3, .int .i64 x4, .int .i64 x5, .slice x_a6 x_n7 x_c8, .slice x_a9 x_n10 x_c11]) (by exact e0) rfl) rfl ?_
  generalize hp14 : fresh w13 = p14 at h ⊢
  generalize hw15 : push w13 54 [.int .i64 x1, .bool x2, .int .i64 x3, .int .i64 x4, .int .i64 x5, .slice x_a6 x_n7 x_c8, .slice x_a9 x_n10 x_c11] = w15 at h ⊢
  try dsimp only at h
  refine WL_val gd0 ((o_assign (v := .int .i64 0) rfl) _) rfl ?_
  refine WL_nil ?_
  refine nrm ?_
  refine WC_seq ?_
  refine WC_block ?_
  refine WC_seq ?_
  refine WC_region ?_
  refine WL_val gd0 ((o_fieldAddr0 Try.underlying54 rfl Try.sizeOf3 rfl rfl rfl) _) rfl ?_
  obtain ⟨x16, hc17, h⟩ := h
  refine WL_val gd0 (o_load Try.isAgg3 rfl hc17) rfl ?_
  refine WL_val gd0 ((o_move (v := .int .i64 event12) (by exact e1)) _) rfl ?_
  refine WL_val gd0 ((o_lss rfl rfl) _) rfl ?_
  refine WL_val gd0 ((o_assign (v := .bool (decide (x16 < event12))) rfl) _) rfl ?_
  refine WL_nil ?_
  refine nrm ?_
  refine WC_cond (t := (decide (x16 < event12))) rfl (fun hb18 => ?_) (fun hb18 => ?_)
  · rw [if_pos (of_decide_eq_true hb18)] at h
    refine WC_seq ?_
    refine WC_region ?_
    refine WL_val gd0 ((o_assign (v := .int .i64 (-1)) rfl) _) rfl ?_
    refine WL_nil ?_
    refine nrm ?_
    refine WC_ret ?_
    refine rtB ?_
    refine rtT ?_
    refine rtE ?_
    exact gv1 rfl rfl h
  · rw [if_neg (of_decide_eq_false hb18)] at h
    refine WC_seq ?_
    refine WC_region ?_
    refine WL_val gd0 ((o_fieldAddr0 Try.underlying54 rfl Try.sizeOf3 rfl rfl rfl) _) rfl ?_
    obtain ⟨x19, hc20, h⟩ := h
    refine WL_val gd0 (o_load Try.isAgg3 rfl hc20) rfl ?_
    refine WL_val gd0 ((o_move (v := .int .i64 event12) (by exact e1)) _) rfl ?_
    refine WL_val gd0 ((o_gtr rfl rfl) _) rfl ?_
    refine WL_val gd0 ((o_assign (v := .bool (decide (event12 < x19))) rfl) _) rfl ?_
    refine WL_nil ?_
    refine nrm ?_
    refine WC_cond (t := (decide (event12 < x19))) rfl (fun hb21 => ?_) (fun hb21 => ?_)
    · rw [if_pos (of_decide_eq_true hb21)] at h
      refine WC_seq ?_
      refine WC_region ?_
      refine WL_val gd0 ((o_assign (v := .int .i64 1) rfl) _) rfl ?_
      refine WL_nil ?_
      refine nrm ?_
      refine WC_ret ?_
      refine rtB ?_
      refine rtT ?_
      refine rtE ?_
      exact gv1 rfl rfl h
    · rw [if_neg (of_decide_eq_false hb21)] at h
      refine WC_skip ?_
      refine nrmB ?_
      refine nrm ?_
      refine WC_seq ?_
      refine WC_region ?_
      refine WL_val gd0 ((o_assign (v := .int .i64 0) rfl) _) rfl ?_
      refine WL_nil ?_
      refine nrm ?_
      refine WC_ret ?_
      refine rtE ?_
      exact gv1 rfl rfl h

/-- slices.rotateRight spacecraft action.entry  -/
def F34 (s_a1 : Option Addr) (s_n2 : Nat) (s_c3 : Nat) (r4 : Int) (w5 : World) (k : Value → World → Prop) : Prop :=
  Does Try.prog 37 #[.slice s_a1 s_n2 s_c3, .int .i64 (IntKind.i64.wrap ((s_n2 : Int) - r4))] w5 (fun v w6 => v = .tuple #[] ∧ k (.tuple #[]) w6)
set_option maxRecDepth 100000 in
set_option maxHeartbeats 2000000 in
theorem w34 (s_a1 : Option Addr) (s_n2 : Nat) (s_c3 : Nat) (r4 : Int) (w5 : World) (k : Value → World → Prop) (h : F34 s_a1 s_n2 s_c3 r4 w5 k) : Does Try.prog 34 #[.slice s_a1 s_n2 s_c3, .int .i64 r4] w5 k := by
  refine enter 10 Try.func34 rfl rfl rfl ?_
  intro ρ hρ
  have e0 := hρ 0 _ rfl
  have e1 := hρ 1 _ rfl
  unfold F34 at h
  refine WC_region ?_
  refine WL_val gd0 ((o_move (v := .slice s_a1 s_n2 s_c3) (by exact e0)) _) rfl ?_
  refine WL_val gd0 ((o_move (v := .slice s_a1 s_n2 s_c3) (by exact e0)) _) rfl ?_
  refine WL_val gd0 ((o_len Try.underlying49 rfl) _) rfl ?_
  refine WL_val gd0 ((o_move (v := .int .i64 r4) (by exact e1)) _) rfl ?_
  refine WL_val gd0 ((o_sub rfl rfl) _) rfl ?_
  refine WL_call gd0 (o_call Try.call37 (argCons rfl (argCons rfl argNil)) _) rfl (h.mono ?_)
  rintro _ w6 ⟨rfl, h⟩
  refine WL_nil ?_
  refine ndE ?_
  exact gv0 rfl h

/-- slices.Clone   int,int  -/
def F35 (s_a1 : Option Addr) (s_n2 : Nat) (s_c3 : Nat) (w4 : World) (k : Value → World → Prop) : Prop :=
  if (s_a1).isNone = true then
  k (.slice none 0 0) w4
else
  New w4 3 [] (fun p6 w7 => ∃ (b_a8 : Option Addr) (b_n9 b_c10 : Nat) (w11 : World), (Builtin.append_ #[27, 27] 27 #[.slice (some p6) 0 0, .slice s_a1 s_n2 s_c3]).run Try.prog w7 = .ok (.slice b_a8 b_n9 b_c10) w11 ∧ k (.slice b_a8 b_n9 b_c10) w11)
set_option maxRecDepth 100000 in
set_option maxHeartbeats 2000000 in
theorem w35 (s_a1 : Option Addr) (s_n2 : Nat) (s_c3 : Nat) (w4 : World) (k : Value → World → Prop) (h : F35 s_a1 s_n2 s_c3 w4 k) : Does Try.prog 35 #[.slice s_a1 s_n2 s_c3] w4 k := by
  refine enter 8 Try.func35 rfl rfl rfl ?_
  intro ρ hρ
  have e0 := hρ 0 _ rfl
  unfold F35 at h
  refine WC_seq ?_
  refine WC_region ?_
  refine WL_val gd0 ((o_assign (v := .slice none 0 0) rfl) _) rfl ?_
  refine WL_nil ?_
  refine nrm ?_
  refine WC_seq ?_
  refine WC_seq ?_
  refine WC_region ?_
  refine WL_val gd0 ((o_move (v := .slice s_a1 s_n2 s_c3) (by exact e0)) _) rfl ?_
  refine WL_val gd0 ((o_eqlSliceNil Try.underlying27 rfl rfl) _) rfl ?_
  refine WL_nil ?_
  refine nrm ?_
  refine WC_cond (t := ((s_a1).isNone)) rfl (fun hb5 => ?_) (fun hb5 => ?_)
  · rw [if_pos hb5] at h
    refine WC_seq ?_
    refine WC_region ?_
    refine WL_val gd0 ((o_assign (v := .slice none 0 0) rfl) _) rfl ?_
    refine WL_nil ?_
    refine nrm ?_
    refine WC_ret ?_
    refine rtT ?_
    refine rtE ?_
    exact gv1 rfl rfl h
  · rw [if_neg (neT hb5)] at h
    refine WC_skip ?_
    refine nrm ?_
    refine WC_seq ?_
    refine WC_region ?_
    have h := New.out h
    refine WL_val gd0 (o_buildSlice (e := 3) (ps := []) (cs := []) partNil (fun w => by kernel_rfl)) rfl ?_
    generalize hp6 : fresh w4 = p6 at h ⊢
    generalize hw7 : push w4 3 [] = w7 at h ⊢
    try dsimp only at h
    refine WL_val gd0 ((o_move (v := .slice s_a1 s_n2 s_c3) (by exact e0)) _) rfl ?_
    obtain ⟨b_a8, b_n9, b_c10, w11, r12, h⟩ := h
    refine WL_val gd0 (o_append rfl rfl r12) rfl ?_
    refine WL_val gd0 ((o_assign (v := .slice b_a8 b_n9 b_c10) rfl) _) rfl ?_
    refine WL_nil ?_
    refine nrm ?_
    refine WC_ret ?_
    refine rtE ?_
    exact gv1 rfl rfl h

/-- slices.Clone   byte,byte  -/
def F36 (s_a1 : Option Addr) (s_n2 : Nat) (s_c3 : Nat) (w4 : World) (k : Value → World → Prop) : Prop :=
  if (s_a1).isNone = true then
  k (.slice none 0 0) w4
else
  New w4 5 [] (fun p6 w7 => ∃ (b_a8 : Option Addr) (b_n9 b_c10 : Nat) (w11 : World), (Builtin.append_ #[34, 34] 34 #[.slice (some p6) 0 0, .slice s_a1 s_n2 s_c3]).run Try.prog w7 = .ok (.slice b_a8 b_n9 b_c10) w11 ∧ k (.slice b_a8 b_n9 b_c10) w11)
set_option maxRecDepth 100000 in
set_option maxHeartbeats 2000000 in
theorem w36 (s_a1 : Option Addr) (s_n2 : Nat) (s_c3 : Nat) (w4 : World) (k : Value → World → Prop) (h : F36 s_a1 s_n2 s_c3 w4 k) : Does Try.prog 36 #[.slice s_a1 s_n2 s_c3] w4 k := by
  refine enter 8 Try.func36 rfl rfl rfl ?_
  intro ρ hρ
  have e0 := hρ 0 _ rfl
  unfold F36 at h
  refine WC_seq ?_
  refine WC_region ?_
  refine WL_val gd0 ((o_assign (v := .slice none 0 0) rfl) _) rfl ?_
  refine WL_nil ?_
  refine nrm ?_
  refine WC_seq ?_
  refine WC_seq ?_
  refine WC_region ?_
  refine WL_val gd0 ((o_move (v := .slice s_a1 s_n2 s_c3) (by exact e0)) _) rfl ?_
  refine WL_val gd0 ((o_eqlSliceNil Try.underlying34 rfl rfl) _) rfl ?_
  refine WL_nil ?_
  refine nrm ?_
  refine WC_cond (t := ((s_a1).isNone)) rfl (fun hb5 => ?_) (fun hb5 => ?_)
  · rw [if_pos hb5] at h
    refine WC_seq ?_
    refine WC_region ?_
    refine WL_val gd0 ((o_assign (v := .slice none 0 0) rfl) _) rfl ?_
    refine WL_nil ?_
    refine nrm ?_
    refine WC_ret ?_
    refine rtT ?_
    refine rtE ?_
    exact gv1 rfl rfl h
  · rw [if_neg (neT hb5)] at h
    refine WC_skip ?_
    refine nrm ?_
    refine WC_seq ?_
    refine WC_region ?_
    have h := New.out h
    refine WL_val gd0 (o_buildSlice (e := 5) (ps := []) (cs := []) partNil (fun w => by kernel_rfl)) rfl ?_
    generalize hp6 : fresh w4 = p6 at h ⊢
    generalize hw7 : push w4 5 [] = w7 at h ⊢
    try dsimp only at h
    refine WL_val gd0 ((o_move (v := .slice s_a1 s_n2 s_c3) (by exact e0)) _) rfl ?_
    obtain ⟨b_a8, b_n9, b_c10, w11, r12, h⟩ := h
    refine WL_val gd0 (o_append rfl rfl r12) rfl ?_
    refine WL_val gd0 ((o_assign (v := .slice b_a8 b_n9 b_c10) rfl) _) rfl ?_
    refine WL_nil ?_
    refine nrm ?_
    refine WC_ret ?_
    refine rtE ?_
    exact gv1 rfl rfl h

/-- slices.rotateLeft spacecraft action.entry  -/
def F37 (s_a1 : Option Addr) (s_n2 : Nat) (s_c3 : Nat) (r4 : Int) (w5 : World) (k : Value → World → Prop) : Prop :=
  (0 : Int) ≤ r4 ∧ r4 ≤ (s_c3 : Int) ∧ Does Try.prog 38 #[.slice s_a1 r4.toNat s_c3] w5 (fun v w8 => v = .tuple #[] ∧ (0 : Int) ≤ r4 ∧ r4 ≤ (s_n2 : Int) ∧ Does Try.prog 38 #[.slice (cutA s_a1 s_c3 r4.toNat 7) (s_n2 - r4.toNat) (s_c3 - r4.toNat)] w8 (fun v w11 => v = .tuple #[] ∧ Does Try.prog 38 #[.slice s_a1 s_n2 s_c3] w11 (fun v w12 => v = .tuple #[] ∧ k (.tuple #[]) w12)))
set_option maxRecDepth 100000 in
set_option maxHeartbeats 2000000 in
theorem w37 (s_a1 : Option Addr) (s_n2 : Nat) (s_c3 : Nat) (r4 : Int) (w5 : World) (k : Value → World → Prop) (h : F37 s_a1 s_n2 s_c3 r4 w5 k) : Does Try.prog 37 #[.slice s_a1 s_n2 s_c3, .int .i64 r4] w5 k := by
  refine enter 14 Try.func37 rfl rfl rfl ?_
  intro ρ hρ
  have e0 := hρ 0 _ rfl
  have e1 := hρ 1 _ rfl
  unfold F37 at h
  refine WC_seq ?_
  refine WC_region ?_
  refine WL_val gd0 ((o_move (v := .slice s_a1 s_n2 s_c3) (by exact e0)) _) rfl ?_
  refine WL_val gd0 ((o_move (v := .int .i64 r4) (by exact e1)) _) rfl ?_
  obtain ⟨c6, c7, h⟩ := h
  refine WL_val gd0 ((o_sliceH Try.underlying49 Try.sizeOf54 rfl rfl c6 c7) _) rfl ?_
  refine WL_call gd0 (o_call Try.call38 (argCons rfl argNil) _) rfl (h.mono ?_)
  rintro _ w8 ⟨rfl, h⟩
  refine WL_nil ?_
  refine nrm ?_
  refine WC_seq ?_
  refine WC_region ?_
  refine WL_val gd0 ((o_move (v := .slice s_a1 s_n2 s_c3) (by exact e0)) _) rfl ?_
  refine WL_val gd0 ((o_move (v := .int .i64 r4) (by exact e1)) _) rfl ?_
  obtain ⟨c9, c10, h⟩ := h
  refine WL_val gd0 ((o_sliceL Try.underlying49 Try.sizeOf54 rfl rfl c9 c10) _) rfl ?_
  refine WL_call gd0 (o_call Try.call38 (argCons rfl argNil) _) rfl (h.mono ?_)
  rintro _ w11 ⟨rfl, h⟩
  refine WL_nil ?_
  refine nrm ?_
  refine WC_region ?_
  refine WL_val gd0 ((o_move (v := .slice s_a1 s_n2 s_c3) (by exact e0)) _) rfl ?_
  refine WL_call gd0 (o_call Try.call38 (argCons rfl argNil) _) rfl (h.mono ?_)
  rintro _ w12 ⟨rfl, h⟩
  refine WL_nil ?_
  refine ndE ?_
  exact gv0 rfl h

def F38_b1 (s_a1 : Option Addr) (s_n2 : Nat) (i7 : Int) (j9 : Int) (w10 : World) (nx10 : Int → Int → World → Prop) (k : Value → World → Prop) : Prop :=
  if i7 < j9 then
  ∃ (p15 : Addr), s_a1 = some p15 ∧ (0 : Int) ≤ j9 ∧ j9 < (s_n2 : Int) ∧ ∃ (x17 : Int) (x18 : Bool) (x19 x20 x21 : Int) (x_a22 : Option Addr) (x_n23 x_c24 : Nat) (x_a25 : Option Addr) (x_n26 x_c27 : Nat), Cells w10.drew (p15.add (j9.toNat * 7)) 0 [.int .i64 x17, .bool x18, .int .i64 x19, .int .i64 x20, .int .i64 x21, .slice x_a22 x_n23 x_c24, .slice x_a25 x_n26 x_c27] ∧ (0 : Int) ≤ i7 ∧ i7 < (s_n2 : Int) ∧ ∃ (x31 : Int) (x32 : Bool) (x33 x34 x35 : Int) (x_a36 : Option Addr) (x_n37 x_c38 : Nat) (x_a39 : Option Addr) (x_n40 x_c41 : Nat), Cells w10.drew (p15.add (i7.toNat * 7)) 0 [.int .i64 x31, .bool x32, .int .i64 x33, .int .i64 x34, .int .i64 x35, .slice x_a36 x_n37 x_c38, .slice x_a39 x_n40 x_c41] ∧ (0 : Int) ≤ i7 ∧ i7 < (s_n2 : Int) ∧ PutAll w10.drew (p15.add (i7.toNat * 7)) [.int .i64 x17, .bool x18, .int .i64 x19, .int .i64 x20, .int .i64 x21, .slice x_a22 x_n23 x_c24, .slice x_a25 x_n26 x_c27] (fun w45 => (0 : Int) ≤ j9 ∧ j9 < (s_n2 : Int) ∧ PutAll w45 (p15.add (j9.toNat * 7)) [.int .i64 x31, .bool x32, .int .i64 x33, .int .i64 x34, .int .i64 x35, .slice x_a36 x_n37 x_c38, .slice x_a39 x_n40 x_c41] (fun w49 => nx10 (IntKind.i64.wrap (i7 + 1)) (IntKind.i64.wrap (j9 - 1)) w49))
else
  k (.tuple #[]) w10
/-- slices.Reverse   spacecraft action.entry,spacecraft action.entry  -/
def F38 (s_a1 : Option Addr) (s_n2 : Nat) (s_c3 : Nat) (w4 : World) (k : Value → World → Prop) : Prop :=
  LoopP (fun (s : Int × Int) w' nx' => F38_b1 s_a1 s_n2 (s.1) (s.2) w' (fun x0 x1 w => nx' (x0, x1) w) k) (0, (IntKind.i64.wrap ((s_n2 : Int) - 1))) w4
set_option maxRecDepth 100000 in
set_option maxHeartbeats 2000000 in
theorem w38 (s_a1 : Option Addr) (s_n2 : Nat) (s_c3 : Nat) (w4 : World) (k : Value → World → Prop) (h : F38 s_a1 s_n2 s_c3 w4 k) : Does Try.prog 38 #[.slice s_a1 s_n2 s_c3] w4 k := by
  refine enter 28 Try.func38 rfl rfl rfl ?_
  intro ρ hρ
  have e0 := hρ 0 _ rfl
  unfold F38 at h
  refine WC_seq ?_
  refine WC_region ?_
  refine WL_val gd0 ((o_move (v := .slice s_a1 s_n2 s_c3) (by exact e0)) _) rfl ?_
  refine WL_val gd0 ((o_len Try.underlying49 rfl) _) rfl ?_
  refine WL_val gd0 ((o_sub rfl rfl) _) rfl ?_
  refine WL_val gd0 ((o_assign (v := .int .i64 0) rfl) _) rfl ?_
  refine WL_val gd0 ((o_assign (v := .int .i64 (IntKind.i64.wrap ((s_n2 : Int) - 1))) rfl) _) rfl ?_
  refine WL_nil ?_
  refine nrm ?_
  refine WC_block ?_
  obtain ⟨J10, ⟨n10, h0⟩, hr10⟩ := h
  refine WC_loop (fun n ρ w' => ∃ (i7 j9 : Int), ρ 2 = .int .i64 i7 ∧ ρ 3 = .int .i64 j9 ∧ ρ 0 = .slice s_a1 s_n2 s_c3 ∧ J10 n (i7, j9) w') ⟨n10, _, _, rfl, rfl, e0, h0⟩ ?_
  rintro n10 ρ w10 ⟨i7, j9, e2_6, e3_8, e0_5, h⟩
  have h : F38_b1 s_a1 s_n2 i7 j9 w10 (fun x0 x1 w => ∃ m, m < n10 ∧ J10 m (x0, x1) w) k := hr10 n10 (i7, j9) w10 h
  unfold F38_b1 at h
  refine WC_seq ?_
  refine WC_seq ?_
  refine WC_region ?_
  refine WL_val gd0 ((o_move (v := .int .i64 i7) (by exact e2_6)) _) rfl ?_
  refine WL_val gd0 ((o_move (v := .int .i64 j9) (by exact e3_8)) _) rfl ?_
  refine WL_val gd0 ((o_lss rfl rfl) _) rfl ?_
  refine WL_nil ?_
  refine nrm ?_
  refine WC_cond (t := (decide (i7 < j9))) rfl (fun hb12 => ?_) (fun hb12 => ?_)
  · rw [if_pos (of_decide_eq_true hb12)] at h
    refine WC_skip ?_
    refine nrm ?_
    refine WC_seq ?_
    refine WC_block ?_
    refine WC_draws [13, 15] (.look 0 (.look 1 (.look 2 (.look 3 (.look 4 (.look 5 (.look 6 (.look 7 (.look 8 (.look 9 (.look 10 (.look 11 (.look 12 (.act 13 (.look 14 (.act 15 .nil)))))))))))))))) Try.mixed (by kernel_rfl) ?_
    refine WQ_val rfl gd0 (o_move (v := .slice s_a1 s_n2 s_c3) (by exact e0_5)) rfl ?_
    refine WQ_val rfl gd0 (o_move (v := .int .i64 i7) (by exact e2_6)) rfl ?_
    refine WQ_val rfl gd0 (o_move (v := .slice s_a1 s_n2 s_c3) (by exact e0_5)) rfl ?_
    refine WQ_val rfl gd0 (o_move (v := .int .i64 j9) (by exact e3_8)) rfl ?_
    refine WQ_val rfl gd0 (o_move (v := .slice s_a1 s_n2 s_c3) (by exact e0_5)) rfl ?_
    refine WQ_val rfl gd0 (o_move (v := .int .i64 j9) (by exact e3_8)) rfl ?_
    obtain ⟨p15, q16, h⟩ := h
    obtain ⟨l13, u14, h⟩ := h
    refine WQ_val rfl gd0 (o_indexAddr Try.underlying49 Try.sizeOf54 (by exact (congrArg (fun z => Value.slice z s_n2 s_c3) q16)) rfl l13 u14) rfl ?_
    obtain ⟨x17, x18, x19, x20, x21, x_a22, x_n23, x_c24, x_a25, x_n26, x_c27, hc28, h⟩ := h
    refine WQ_look (fun w => Cells w (p15.add (j9.toNat * 7)) 0 [.int .i64 x17, .bool x18, .int .i64 x19, .int .i64 x20, .int .i64 x21, .slice x_a22 x_n23 x_c24, .slice x_a25 x_n26 x_c27]) rfl gd0 (fun w hc => (o_loadAgg (vs := [.int .i64 x17, .bool x18, .int .i64 x19, .int .i64 x20, .int .i64 x21, .slice x_a22 x_n23 x_c24, .slice x_a25 x_n26 x_c27]) Try.isAgg54 Try.sizeOf54 rfl hc)) hc28 rfl ?_
    refine WQ_val rfl gd0 (o_move (v := .slice s_a1 s_n2 s_c3) (by exact e0_5)) rfl ?_
    refine WQ_val rfl gd0 (o_move (v := .int .i64 i7) (by exact e2_6)) rfl ?_
    obtain ⟨l29, u30, h⟩ := h
    refine WQ_val rfl gd0 (o_indexAddr Try.underlying49 Try.sizeOf54 (by exact (congrArg (fun z => Value.slice z s_n2 s_c3) q16)) rfl l29 u30) rfl ?_
    obtain ⟨x31, x32, x33, x34, x35, x_a36, x_n37, x_c38, x_a39, x_n40, x_c41, hc42, h⟩ := h
    refine WQ_look (fun w => Cells w (p15.add (i7.toNat * 7)) 0 [.int .i64 x31, .bool x32, .int .i64 x33, .int .i64 x34, .int .i64 x35, .slice x_a36 x_n37 x_c38, .slice x_a39 x_n40 x_c41]) rfl gd0 (fun w hc => (o_loadAgg (vs := [.int .i64 x31, .bool x32, .int .i64 x33, .int .i64 x34, .int .i64 x35, .slice x_a36 x_n37 x_c38, .slice x_a39 x_n40 x_c41]) Try.isAgg54 Try.sizeOf54 rfl hc)) hc42 rfl ?_
    obtain ⟨l43, u44, h⟩ := h
    refine WQ_val rfl gd0 (o_indexAddr Try.underlying49 Try.sizeOf54 (by exact (congrArg (fun z => Value.slice z s_n2 s_c3) q16)) rfl l43 u44) rfl ?_
    obtain ⟨c46, h⟩ := h
    refine WQ_do rfl gd0 (o_storeAgg (vs := [.int .i64 x17, .bool x18, .int .i64 x19, .int .i64 x20, .int .i64 x21, .slice x_a22 x_n23 x_c24, .slice x_a25 x_n26 x_c27]) Try.sizeOf54 rfl rfl rfl c46) (by exact ⟨⟨trivial, depT (by kernel_rfl)⟩, depT (by kernel_rfl)⟩) ?_
    generalize hw45 : setAll w10.drew (p15.add (i7.toNat * 7)) 0 [.int .i64 x17, .bool x18, .int .i64 x19, .int .i64 x20, .int .i64 x21, .slice x_a22 x_n23 x_c24, .slice x_a25 x_n26 x_c27] = w45 at h ⊢
    try dsimp only at h
    obtain ⟨l47, u48, h⟩ := h
    refine WQ_val rfl gd0 (o_indexAddr Try.underlying49 Try.sizeOf54 (by exact (congrArg (fun z => Value.slice z s_n2 s_c3) q16)) rfl l47 u48) rfl ?_
    obtain ⟨c50, h⟩ := h
    refine WQ_do rfl gd0 (o_storeAgg (vs := [.int .i64 x31, .bool x32, .int .i64 x33, .int .i64 x34, .int .i64 x35, .slice x_a36 x_n37 x_c38, .slice x_a39 x_n40 x_c41]) Try.sizeOf54 rfl rfl rfl c50) (by exact ⟨⟨trivial, depT (by kernel_rfl)⟩, depT (by kernel_rfl)⟩) ?_
    generalize hw49 : setAll w45 (p15.add (j9.toNat * 7)) 0 [.int .i64 x31, .bool x32, .int .i64 x33, .int .i64 x34, .int .i64 x35, .slice x_a36 x_n37 x_c38, .slice x_a39 x_n40 x_c41] = w49 at h ⊢
    try dsimp only at h
    refine WQ_nil ?_
    refine nrmB ?_
    refine nrm ?_
    refine WC_region ?_
    refine WL_val gd0 ((o_move (v := .int .i64 i7) (by exact e2_6)) _) rfl ?_
    refine WL_val gd0 ((o_add rfl rfl) _) rfl ?_
    refine WL_val gd0 ((o_move (v := .int .i64 j9) (by exact e3_8)) _) rfl ?_
    refine WL_val gd0 ((o_sub rfl rfl) _) rfl ?_
    refine WL_val gd0 ((o_assign (v := .int .i64 (IntKind.i64.wrap (i7 + 1))) rfl) _) rfl ?_
    refine WL_val gd0 ((o_assign (v := .int .i64 (IntKind.i64.wrap (j9 - 1))) rfl) _) rfl ?_
    refine WL_nil ?_
    refine nrm ?_
    obtain ⟨m11, hm11, h⟩ := h
    exact ⟨m11, hm11, _, _, rfl, rfl, e0_5, h⟩
  · rw [if_neg (of_decide_eq_false hb12)] at h
    refine WC_exit ?_
    refine exT ?_
    refine exT ?_
    refine exB ?_
    refine ndE ?_
    exact gv0 rfl h


end Go.Proofs.Ytkeaamfpcapioaa
