/-
  The forms of the functions, and their walks: written by a program of this claim (gen.py) off the elaborated translation.
-/
import Derived.Test.YthcebibacphblaaProg
import Derived.Test.YthcebibacphblaaBase
import Derived.KernelRfl
import Derived.Test.YthcebibacphblaaFormsP0
namespace Go.Proofs.Ythcebibacphblaa
open Go Go.Sh Go.Proofs
set_option linter.unusedVariables false
def F31_j3 (d_a12 : Option Addr) (d_n13 : Nat) (t28 : Bool) (w29 : World) (k : Value → World → Prop) : Prop :=
  if t28 = true then
  ∃ (p33 : Addr), d_a12 = some p33 ∧ (0 : Int) ≤ 2 ∧ 2 < (d_n13 : Int) ∧ ∃ (x35 : Int), w29.drew.cell? (p33.add ((2 : Int).toNat)) = some (.int .u8 x35) ∧ k (.tuple #[.int .i64 1, .int .i64 (IntKind.i64.wrap x35), .bool true]) w29.drew
else
  k (.tuple #[.int .i64 0, .int .i64 0, .bool false]) w29
def F31_j2 (d_n13 : Nat) (d_a12 : Option Addr) (t23 : Bool) (w24 : World) (k : Value → World → Prop) : Prop :=
  if t23 = true then
  k (.tuple #[.int .i64 0, .int .i64 0, .bool true]) w24
else
  if (d_n13 : Int) = 3 then
    ∃ (p40 : Addr), d_a12 = some p40 ∧ (0 : Int) ≤ 0 ∧ 0 < (d_n13 : Int) ∧ ∃ (x42 : Int), w24.cell? (p40.add ((0 : Int).toNat)) = some (.int .u8 x42) ∧ if x42 = 130 then
      (0 : Int) ≤ 1 ∧ 1 < (d_n13 : Int) ∧ ∃ (x47 : Int), w24.cell? (p40.add ((1 : Int).toNat)) = some (.int .u8 x47) ∧ F31_j3 d_a12 d_n13 (decide (x47 = 0)) w24 k
    else
      F31_j3 d_a12 d_n13 false w24 k
  else
    F31_j3 d_a12 d_n13 false w24 k
def F31_j1 (d_n13 : Nat) (d_a12 : Option Addr) (t18 : Bool) (w19 : World) (k : Value → World → Prop) : Prop :=
  if t18 = true then
  k (.tuple #[.int .i64 0, .int .i64 0, .bool false]) w19
else
  if (d_n13 : Int) = 1 then
    ∃ (p52 : Addr), d_a12 = some p52 ∧ (0 : Int) ≤ 0 ∧ 0 < (d_n13 : Int) ∧ ∃ (x54 : Int), w19.cell? (p52.add ((0 : Int).toNat)) = some (.int .u8 x54) ∧ F31_j2 d_n13 d_a12 (decide (x54 = 0)) w19 k
  else
    F31_j2 d_n13 d_a12 false w19 k
/-- spacecraft tcframe.Directive -/
def F31 (f1 : Bool) (f2 : Bool) (f3 : Int) (f4 : Int) (f5 : Int) (f_a6 : Option Addr) (f_n7 : Nat) (f_c8 : Nat) (w9 : World) (k : Value → World → Prop) : Prop :=
  New w9 32 [.bool f1, .bool f2, .int .i64 f3, .int .i64 f4, .int .i64 f5, .slice f_a6 f_n7 f_c8] (fun p10 w11 => ∃ (d_a12 : Option Addr) (d_n13 d_c14 : Nat), w11.cell? (p10.add 5) = some (.slice d_a12 d_n13 d_c14) ∧ ∃ (x56 : Bool), w11.cell? p10 = some (.bool x56) ∧ if (!x56) = true then
  F31_j1 d_n13 d_a12 true w11 k
else
  ∃ (x59 : Bool), w11.cell? (p10.add 1) = some (.bool x59) ∧ F31_j1 d_n13 d_a12 (!x59) w11 k)
set_option maxRecDepth 100000 in
set_option maxHeartbeats 2000000 in
theorem w31 (f1 : Bool) (f2 : Bool) (f3 : Int) (f4 : Int) (f5 : Int) (f_a6 : Option Addr) (f_n7 : Nat) (f_c8 : Nat) (w9 : World) (k : Value → World → Prop) (h : F31 f1 f2 f3 f4 f5 f_a6 f_n7 f_c8 w9 k) : Does Try.prog 31 #[.agg #[.bool f1, .bool f2, .int .i64 f3, .int .i64 f4, .int .i64 f5, .slice f_a6 f_n7 f_c8]] w9 k := by
  refine enter 47 Try.func31 rfl rfl rfl ?_
  intro ρ hρ
  have e0 := hρ 0 _ rfl
  unfold F31 at h
  refine WC_seq ?_
  refine WC_region ?_
  have h := New.out h
  refine WL_val gd0 (o_box (v := .agg #[.bool f1, .bool f2, .int .i64 f3, .int .i64 f4, .int .i64 f5, .slice f_a6 f_n7 f_c8]) (cs := [.bool f1, .bool f2, .int .i64 f3, .int .i64 f4, .int .i64 f5, .slice f_a6 f_n7 f_c8]) (by exact e0) rfl) rfl ?_
  generalize hp10 : fresh w9 = p10 at h ⊢
  generalize hw11 : push w9 32 [.bool f1, .bool f2, .int .i64 f3, .int .i64 f4, .int .i64 f5, .slice f_a6 f_n7 f_c8] = w11 at h ⊢
  try dsimp only at h
  refine WL_val gd0 ((o_assign (v := .int .i64 0) rfl) _) rfl ?_
  refine WL_val gd0 ((o_assign (v := .int .i64 0) rfl) _) rfl ?_
  refine WL_val gd0 ((o_assign (v := .bool false) rfl) _) rfl ?_
  refine WL_nil ?_
  refine nrm ?_
  refine WC_seq ?_
  refine WC_region ?_
  refine WL_val gd0 ((o_fieldAddr 5 Try.underlying32 rfl Try.sizeOf28 rfl rfl rfl) _) rfl ?_
  obtain ⟨d_a12, d_n13, d_c14, hc15, h⟩ := h
  refine WL_val gd0 (o_load Try.isAgg28 rfl hc15) rfl ?_
  refine WL_val gd0 ((o_assign (v := .slice d_a12 d_n13 d_c14) rfl) _) rfl ?_
  refine WL_nil ?_
  refine nrm ?_
  refine WC_seq ?_
  refine WC_block ?_
  refine WC_cut (fun ρ w' => ∃ (t18 : Bool), ρ 8 = .bool t18 ∧ ρ 5 = .slice d_a12 d_n13 d_c14 ∧ F31_j1 d_n13 d_a12 t18 w' k) ?_ ?_
  · refine WC_region ?_
    refine WL_val gd0 ((o_fieldAddr0 Try.underlying32 rfl Try.sizeOf4 rfl rfl rfl) _) rfl ?_
    obtain ⟨x56, hc57, h⟩ := h
    refine WL_val gd0 (o_load Try.isAgg4 rfl hc57) rfl ?_
    refine WL_val gd0 ((o_not rfl) _) rfl ?_
    refine WL_val gd0 ((o_move (v := .bool (!x56)) rfl) _) rfl ?_
    refine bsplit (!x56) (fun hb58 => ?_) (fun hb58 => ?_)
    · rw [if_pos hb58] at h
      refine WL_skip (gdN (b := (!x56)) 12 rfl rfl hb58) rfl ?_
      refine WL_skip (gdN (b := (!x56)) 12 rfl rfl hb58) rfl ?_
      refine WL_skip (gdN (b := (!x56)) 12 rfl rfl hb58) rfl ?_
      refine WL_val gd0 ((o_pickT (v := .bool true) rfl hb58 rfl) _) rfl ?_
      refine WL_val gd0 ((o_assign (v := .bool true) rfl) _) rfl ?_
      refine WL_nil ?_
      refine nrm ?_
      exact ⟨_, rfl, rfl, h⟩
    · rw [if_neg (neT hb58)] at h
      refine WL_val (gdY (b := (!x56)) 12 rfl rfl hb58) ((o_fieldAddr 1 Try.underlying32 rfl Try.sizeOf4 rfl rfl rfl) _) rfl ?_
      obtain ⟨x59, hc60, h⟩ := h
      refine WL_val (gdY (b := (!x56)) 12 rfl rfl hb58) (o_load Try.isAgg4 rfl hc60) rfl ?_
      refine WL_val (gdY (b := (!x56)) 12 rfl rfl hb58) ((o_not rfl) _) rfl ?_
      refine WL_val gd0 ((o_pickF (v := .bool (!x59)) rfl hb58 rfl) _) rfl ?_
      refine WL_val gd0 ((o_assign (v := .bool (!x59)) rfl) _) rfl ?_
      refine WL_nil ?_
      refine nrm ?_
      exact ⟨_, rfl, rfl, h⟩
  · rintro ρ w19 ⟨t18, e8_17, e5_16, h⟩
    unfold F31_j1 at h
    refine WC_cond (t := t18) (by exact e8_17) (fun hb20 => ?_) (fun hb20 => ?_)
    · rw [if_pos hb20] at h
      refine WC_seq ?_
      refine WC_region ?_
      refine WL_val gd0 ((o_assign (v := .int .i64 0) rfl) _) rfl ?_
      refine WL_val gd0 ((o_assign (v := .int .i64 0) rfl) _) rfl ?_
      refine WL_val gd0 ((o_assign (v := .bool false) rfl) _) rfl ?_
      refine WL_nil ?_
      refine nrm ?_
      refine WC_ret ?_
      refine rtB ?_
      refine rtT ?_
      refine rtE ?_
      exact gv3 rfl rfl rfl rfl h
    · rw [if_neg (neT hb20)] at h
      refine WC_cut (fun ρ w' => ∃ (t23 : Bool), ρ 17 = .bool t23 ∧ ρ 5 = .slice d_a12 d_n13 d_c14 ∧ F31_j2 d_n13 d_a12 t23 w' k) ?_ ?_
      · refine WC_region ?_
        refine WL_val gd0 ((o_move (v := .slice d_a12 d_n13 d_c14) (by exact e5_16)) _) rfl ?_
        refine WL_val gd0 ((o_len Try.underlying28 rfl) _) rfl ?_
        refine WL_val gd0 ((o_eql rfl rfl) _) rfl ?_
        refine WL_val gd0 ((o_move (v := .bool (decide ((d_n13 : Int) = 1))) rfl) _) rfl ?_
        refine bsplit (decide ((d_n13 : Int) = 1)) (fun hb49 => ?_) (fun hb49 => ?_)
        · rw [if_pos (of_decide_eq_true hb49)] at h
          refine WL_val (gdY (b := (decide ((d_n13 : Int) = 1))) 21 rfl rfl hb49) ((o_move (v := .slice d_a12 d_n13 d_c14) (by exact e5_16)) _) rfl ?_
          obtain ⟨p52, q53, h⟩ := h
          obtain ⟨l50, u51, h⟩ := h
          refine WL_val (gdY (b := (decide ((d_n13 : Int) = 1))) 21 rfl rfl hb49) ((o_indexAddr1 Try.underlying28 Try.sizeOf5 (by exact (congrArg (fun z => Value.slice z d_n13 d_c14) q53)) rfl l50 u51) _) rfl ?_
          obtain ⟨x54, hc55, h⟩ := h
          refine WL_val (gdY (b := (decide ((d_n13 : Int) = 1))) 21 rfl rfl hb49) (o_load Try.isAgg5 rfl hc55) rfl ?_
          refine WL_val (gdY (b := (decide ((d_n13 : Int) = 1))) 21 rfl rfl hb49) ((o_eql rfl rfl) _) rfl ?_
          refine WL_val gd0 ((o_pickT (v := .bool (decide (x54 = 0))) rfl hb49 rfl) _) rfl ?_
          refine WL_val gd0 ((o_assign (v := .bool (decide (x54 = 0))) rfl) _) rfl ?_
          refine WL_nil ?_
          refine nrm ?_
          exact ⟨_, rfl, e5_16, h⟩
        · rw [if_neg (of_decide_eq_false hb49)] at h
          refine WL_skip (gdN (b := (decide ((d_n13 : Int) = 1))) 21 rfl rfl hb49) rfl ?_
          refine WL_skip (gdN (b := (decide ((d_n13 : Int) = 1))) 21 rfl rfl hb49) rfl ?_
          refine WL_skip (gdN (b := (decide ((d_n13 : Int) = 1))) 21 rfl rfl hb49) rfl ?_
          refine WL_skip (gdN (b := (decide ((d_n13 : Int) = 1))) 21 rfl rfl hb49) rfl ?_
          refine WL_val gd0 ((o_pickF (v := .bool false) rfl hb49 rfl) _) rfl ?_
          refine WL_val gd0 ((o_assign (v := .bool false) rfl) _) rfl ?_
          refine WL_nil ?_
          refine nrm ?_
          exact ⟨_, rfl, e5_16, h⟩
      · rintro ρ w24 ⟨t23, e17_22, e5_21, h⟩
        unfold F31_j2 at h
        refine WC_cond (t := t23) (by exact e17_22) (fun hb25 => ?_) (fun hb25 => ?_)
        · rw [if_pos hb25] at h
          refine WC_seq ?_
          refine WC_region ?_
          refine WL_val gd0 ((o_assign (v := .int .i64 0) rfl) _) rfl ?_
          refine WL_val gd0 ((o_assign (v := .int .i64 0) rfl) _) rfl ?_
          refine WL_val gd0 ((o_assign (v := .bool true) rfl) _) rfl ?_
          refine WL_nil ?_
          refine nrm ?_
          refine WC_ret ?_
          refine rtB ?_
          refine rtT ?_
          refine rtE ?_
          exact gv3 rfl rfl rfl rfl h
        · rw [if_neg (neT hb25)] at h
          refine WC_cut (fun ρ w' => ∃ (t28 : Bool), ρ 27 = .bool t28 ∧ ρ 5 = .slice d_a12 d_n13 d_c14 ∧ F31_j3 d_a12 d_n13 t28 w' k) ?_ ?_
          · refine WC_region ?_
            refine WL_val gd0 ((o_move (v := .slice d_a12 d_n13 d_c14) (by exact e5_21)) _) rfl ?_
            refine WL_val gd0 ((o_len Try.underlying28 rfl) _) rfl ?_
            refine WL_val gd0 ((o_eql rfl rfl) _) rfl ?_
            refine WL_val gd0 ((o_move (v := .bool (decide ((d_n13 : Int) = 3))) rfl) _) rfl ?_
            refine bsplit (decide ((d_n13 : Int) = 3)) (fun hb37 => ?_) (fun hb37 => ?_)
            · rw [if_pos (of_decide_eq_true hb37)] at h
              refine WL_val (gdY (b := (decide ((d_n13 : Int) = 3))) 31 rfl rfl hb37) ((o_move (v := .slice d_a12 d_n13 d_c14) (by exact e5_21)) _) rfl ?_
              obtain ⟨p40, q41, h⟩ := h
              obtain ⟨l38, u39, h⟩ := h
              refine WL_val (gdY (b := (decide ((d_n13 : Int) = 3))) 31 rfl rfl hb37) ((o_indexAddr1 Try.underlying28 Try.sizeOf5 (by exact (congrArg (fun z => Value.slice z d_n13 d_c14) q41)) rfl l38 u39) _) rfl ?_
              obtain ⟨x42, hc43, h⟩ := h
              refine WL_val (gdY (b := (decide ((d_n13 : Int) = 3))) 31 rfl rfl hb37) (o_load Try.isAgg5 rfl hc43) rfl ?_
              refine WL_val (gdY (b := (decide ((d_n13 : Int) = 3))) 31 rfl rfl hb37) ((o_eql rfl rfl) _) rfl ?_
              refine WL_val gd0 ((o_pickT (v := .bool (decide (x42 = 130))) rfl hb37 rfl) _) rfl ?_
              refine WL_val gd0 ((o_move (v := .bool (decide (x42 = 130))) rfl) _) rfl ?_
              refine bsplit (decide (x42 = 130)) (fun hb44 => ?_) (fun hb44 => ?_)
              · rw [if_pos (of_decide_eq_true hb44)] at h
                refine WL_val (gdY (b := (decide (x42 = 130))) 37 rfl rfl hb44) ((o_move (v := .slice d_a12 d_n13 d_c14) (by exact e5_21)) _) rfl ?_
                obtain ⟨l45, u46, h⟩ := h
                refine WL_val (gdY (b := (decide (x42 = 130))) 37 rfl rfl hb44) ((o_indexAddr1 Try.underlying28 Try.sizeOf5 (by exact (congrArg (fun z => Value.slice z d_n13 d_c14) q41)) rfl l45 u46) _) rfl ?_
                obtain ⟨x47, hc48, h⟩ := h
                refine WL_val (gdY (b := (decide (x42 = 130))) 37 rfl rfl hb44) (o_load Try.isAgg5 rfl hc48) rfl ?_
                refine WL_val (gdY (b := (decide (x42 = 130))) 37 rfl rfl hb44) ((o_eql rfl rfl) _) rfl ?_
                refine WL_val gd0 ((o_pickT (v := .bool (decide (x47 = 0))) rfl hb44 rfl) _) rfl ?_
                refine WL_val gd0 ((o_assign (v := .bool (decide (x47 = 0))) rfl) _) rfl ?_
                refine WL_nil ?_
                refine nrm ?_
                exact ⟨_, rfl, e5_21, h⟩
              · rw [if_neg (of_decide_eq_false hb44)] at h
                refine WL_skip (gdN (b := (decide (x42 = 130))) 37 rfl rfl hb44) rfl ?_
                refine WL_skip (gdN (b := (decide (x42 = 130))) 37 rfl rfl hb44) rfl ?_
                refine WL_skip (gdN (b := (decide (x42 = 130))) 37 rfl rfl hb44) rfl ?_
                refine WL_skip (gdN (b := (decide (x42 = 130))) 37 rfl rfl hb44) rfl ?_
                refine WL_val gd0 ((o_pickF (v := .bool false) rfl hb44 rfl) _) rfl ?_
                refine WL_val gd0 ((o_assign (v := .bool false) rfl) _) rfl ?_
                refine WL_nil ?_
                refine nrm ?_
                exact ⟨_, rfl, e5_21, h⟩
            · rw [if_neg (of_decide_eq_false hb37)] at h
              refine WL_skip (gdN (b := (decide ((d_n13 : Int) = 3))) 31 rfl rfl hb37) rfl ?_
              refine WL_skip (gdN (b := (decide ((d_n13 : Int) = 3))) 31 rfl rfl hb37) rfl ?_
              refine WL_skip (gdN (b := (decide ((d_n13 : Int) = 3))) 31 rfl rfl hb37) rfl ?_
              refine WL_skip (gdN (b := (decide ((d_n13 : Int) = 3))) 31 rfl rfl hb37) rfl ?_
              refine WL_val gd0 ((o_pickF (v := .bool false) rfl hb37 rfl) _) rfl ?_
              refine WL_val gd0 ((o_move (v := .bool false) rfl) _) rfl ?_
              refine WL_skip (gdN (b := false) 37 rfl rfl rfl) rfl ?_
              refine WL_skip (gdN (b := false) 37 rfl rfl rfl) rfl ?_
              refine WL_skip (gdN (b := false) 37 rfl rfl rfl) rfl ?_
              refine WL_skip (gdN (b := false) 37 rfl rfl rfl) rfl ?_
              refine WL_val gd0 ((o_pickF (v := .bool false) rfl rfl rfl) _) rfl ?_
              refine WL_val gd0 ((o_assign (v := .bool false) rfl) _) rfl ?_
              refine WL_nil ?_
              refine nrm ?_
              exact ⟨_, rfl, e5_21, h⟩
          · rintro ρ w29 ⟨t28, e27_27, e5_26, h⟩
            unfold F31_j3 at h
            refine WC_cond (t := t28) (by exact e27_27) (fun hb30 => ?_) (fun hb30 => ?_)
            · rw [if_pos hb30] at h
              refine WC_seq ?_
              refine WC_draws [] (.look 0 (.look 1 (.look 2 (.look 3 (.look 4 (.look 5 (.look 6 .nil))))))) Try.mixed (by kernel_rfl) ?_
              refine WQ_val rfl gd0 (o_move (v := .slice d_a12 d_n13 d_c14) (by exact e5_26)) rfl ?_
              obtain ⟨p33, q34, h⟩ := h
              obtain ⟨l31, u32, h⟩ := h
              refine WQ_val rfl gd0 (o_indexAddr1 Try.underlying28 Try.sizeOf5 (by exact (congrArg (fun z => Value.slice z d_n13 d_c14) q34)) rfl l31 u32) rfl ?_
              obtain ⟨x35, hc36, h⟩ := h
              refine WQ_look (fun w => w.cell? (p33.add ((2 : Int).toNat)) = some (.int .u8 x35)) rfl gd0 (fun w hc => (o_load Try.isAgg5 rfl hc)) hc36 rfl ?_
              refine WQ_val rfl gd0 (o_conv Try.underlying5 Try.underlying3 rfl) rfl ?_
              refine WQ_val rfl gd0 (o_assign (v := .int .i64 1) rfl) rfl ?_
              refine WQ_val rfl gd0 (o_assign (v := .int .i64 (IntKind.i64.wrap x35)) rfl) rfl ?_
              refine WQ_val rfl gd0 (o_assign (v := .bool true) rfl) rfl ?_
              refine WQ_nil ?_
              refine nrm ?_
              refine WC_ret ?_
              refine rtB ?_
              refine rtT ?_
              refine rtE ?_
              exact gv3 rfl rfl rfl rfl h
            · rw [if_neg (neT hb30)] at h
              refine WC_skip ?_
              refine nrmB ?_
              refine nrm ?_
              refine WC_seq ?_
              refine WC_region ?_
              refine WL_val gd0 ((o_assign (v := .int .i64 0) rfl) _) rfl ?_
              refine WL_val gd0 ((o_assign (v := .int .i64 0) rfl) _) rfl ?_
              refine WL_val gd0 ((o_assign (v := .bool false) rfl) _) rfl ?_
              refine WL_nil ?_
              refine nrm ?_
              refine WC_ret ?_
              refine rtE ?_
              exact gv3 rfl rfl rfl rfl h

/-- spacecraft serial.Add -/
def F32 (a1 : Int) (n2 : Int) (bits3 : Int) (w4 : World) (k : Value → World → Prop) : Prop :=
  Does Try.prog 33 #[.int .i64 a1, .int .i64 bits3] w4 (fun v w5 => ∃ (x6 : Bool), v = .bool x6 ∧ if (!x6) = true then
  k (.int .i64 0) w5
else
  (0 : Int) ≤ bits3 ∧ shl .u64 1 bits3 ≠ 0 ∧ k (.int .i64 (IntKind.i64.wrap (Int.tmod (IntKind.u64.wrap ((IntKind.u64.wrap a1) + (IntKind.u64.wrap n2))) (shl .u64 1 bits3)))) w5)
set_option maxRecDepth 100000 in
set_option maxHeartbeats 2000000 in
theorem w32 (a1 : Int) (n2 : Int) (bits3 : Int) (w4 : World) (k : Value → World → Prop) (h : F32 a1 n2 bits3 w4 k) : Does Try.prog 32 #[.int .i64 a1, .int .i64 n2, .int .i64 bits3] w4 k := by
  refine enter 20 Try.func32 rfl rfl rfl ?_
  intro ρ hρ
  have e0 := hρ 0 _ rfl
  have e1 := hρ 1 _ rfl
  have e2 := hρ 2 _ rfl
  unfold F32 at h
  refine WC_seq ?_
  refine WC_region ?_
  refine WL_val gd0 ((o_assign (v := .int .i64 0) rfl) _) rfl ?_
  refine WL_nil ?_
  refine nrm ?_
  refine WC_seq ?_
  refine WC_seq ?_
  refine WC_region ?_
  refine WL_val gd0 ((o_move (v := .int .i64 a1) (by exact e0)) _) rfl ?_
  refine WL_val gd0 ((o_move (v := .int .i64 bits3) (by exact e2)) _) rfl ?_
  refine WL_call gd0 (o_call Try.call33 (argCons rfl (argCons rfl argNil)) _) rfl (h.mono ?_)
  rintro _ w5 ⟨x6, rfl, h⟩
  refine WL_val gd0 ((o_not rfl) _) rfl ?_
  refine WL_nil ?_
  refine nrm ?_
  refine WC_cond (t := (!x6)) rfl (fun hb7 => ?_) (fun hb7 => ?_)
  · rw [if_pos hb7] at h
    refine WC_seq ?_
    refine WC_region ?_
    refine WL_val gd0 ((o_assign (v := .int .i64 0) rfl) _) rfl ?_
    refine WL_nil ?_
    refine nrm ?_
    refine WC_ret ?_
    refine rtT ?_
    refine rtE ?_
    exact gv1 rfl rfl h
  · rw [if_neg (neT hb7)] at h
    refine WC_skip ?_
    refine nrm ?_
    refine WC_seq ?_
    refine WC_region ?_
    refine WL_val gd0 ((o_move (v := .int .i64 a1) (by exact e0)) _) rfl ?_
    refine WL_val gd0 ((o_conv Try.underlying3 Try.underlying65 rfl) _) rfl ?_
    refine WL_val gd0 ((o_move (v := .int .i64 n2) (by exact e1)) _) rfl ?_
    refine WL_val gd0 ((o_conv Try.underlying3 Try.underlying65 rfl) _) rfl ?_
    refine WL_val gd0 ((o_add rfl rfl) _) rfl ?_
    refine WL_val gd0 ((o_move (v := .int .i64 bits3) (by exact e2)) _) rfl ?_
    obtain ⟨c8, h⟩ := h
    refine WL_val gd0 ((o_shl rfl rfl c8) _) rfl ?_
    obtain ⟨c9, h⟩ := h
    refine WL_val gd0 ((fun w => o_rem rfl rfl w c9) _) rfl ?_
    refine WL_val gd0 ((o_conv Try.underlying65 Try.underlying3 rfl) _) rfl ?_
    refine WL_val gd0 ((o_assign (v := .int .i64 (IntKind.i64.wrap (Int.tmod (IntKind.u64.wrap ((IntKind.u64.wrap a1) + (IntKind.u64.wrap n2))) (shl .u64 1 bits3)))) rfl) _) rfl ?_
    refine WL_nil ?_
    refine nrm ?_
    refine WC_ret ?_
    refine rtE ?_
    exact gv1 rfl rfl h

/-- spacecraft serial.Valid -/
def F33 (n1 : Int) (bits2 : Int) (w3 : World) (k : Value → World → Prop) : Prop :=
  if 1 ≤ bits2 then
  if bits2 ≤ 32 then
    if 0 ≤ n1 then
      (0 : Int) ≤ bits2 ∧ k (.bool (decide (n1 < (shl .i64 1 bits2)))) w3
    else
      k (.bool false) w3
  else
    k (.bool false) w3
else
  k (.bool false) w3
set_option maxRecDepth 100000 in
set_option maxHeartbeats 2000000 in
theorem w33 (n1 : Int) (bits2 : Int) (w3 : World) (k : Value → World → Prop) (h : F33 n1 bits2 w3 k) : Does Try.prog 33 #[.int .i64 n1, .int .i64 bits2] w3 k := by
  refine enter 21 Try.func33 rfl rfl rfl ?_
  intro ρ hρ
  have e0 := hρ 0 _ rfl
  have e1 := hρ 1 _ rfl
  unfold F33 at h
  refine WC_seq ?_
  refine WC_region ?_
  refine WL_val gd0 ((o_assign (v := .bool false) rfl) _) rfl ?_
  refine WL_nil ?_
  refine nrm ?_
  refine WC_seq ?_
  refine WC_region ?_
  refine WL_val gd0 ((o_move (v := .int .i64 bits2) (by exact e1)) _) rfl ?_
  refine WL_val gd0 ((o_geq rfl rfl) _) rfl ?_
  refine WL_val gd0 ((o_move (v := .bool (decide (1 ≤ bits2))) rfl) _) rfl ?_
  refine bsplit (decide (1 ≤ bits2)) (fun hb4 => ?_) (fun hb4 => ?_)
  · rw [if_pos (of_decide_eq_true hb4)] at h
    refine WL_val (gdY (b := (decide (1 ≤ bits2))) 7 rfl rfl hb4) ((o_move (v := .int .i64 bits2) (by exact e1)) _) rfl ?_
    refine WL_val (gdY (b := (decide (1 ≤ bits2))) 7 rfl rfl hb4) ((o_leq rfl rfl) _) rfl ?_
    refine WL_val gd0 ((o_pickT (v := .bool (decide (bits2 ≤ 32))) rfl hb4 rfl) _) rfl ?_
    refine WL_val gd0 ((o_move (v := .bool (decide (bits2 ≤ 32))) rfl) _) rfl ?_
    refine bsplit (decide (bits2 ≤ 32)) (fun hb5 => ?_) (fun hb5 => ?_)
    · rw [if_pos (of_decide_eq_true hb5)] at h
      refine WL_val (gdY (b := (decide (bits2 ≤ 32))) 11 rfl rfl hb5) ((o_move (v := .int .i64 n1) (by exact e0)) _) rfl ?_
      refine WL_val (gdY (b := (decide (bits2 ≤ 32))) 11 rfl rfl hb5) ((o_geq rfl rfl) _) rfl ?_
      refine WL_val gd0 ((o_pickT (v := .bool (decide (0 ≤ n1))) rfl hb5 rfl) _) rfl ?_
      refine WL_val gd0 ((o_move (v := .bool (decide (0 ≤ n1))) rfl) _) rfl ?_
      refine bsplit (decide (0 ≤ n1)) (fun hb6 => ?_) (fun hb6 => ?_)
      · rw [if_pos (of_decide_eq_true hb6)] at h
        refine WL_val (gdY (b := (decide (0 ≤ n1))) 15 rfl rfl hb6) ((o_move (v := .int .i64 n1) (by exact e0)) _) rfl ?_
        refine WL_val (gdY (b := (decide (0 ≤ n1))) 15 rfl rfl hb6) ((o_move (v := .int .i64 bits2) (by exact e1)) _) rfl ?_
        obtain ⟨c7, h⟩ := h
        refine WL_val (gdY (b := (decide (0 ≤ n1))) 15 rfl rfl hb6) ((o_shl rfl rfl c7) _) rfl ?_
        refine WL_val (gdY (b := (decide (0 ≤ n1))) 15 rfl rfl hb6) ((o_lss rfl rfl) _) rfl ?_
        refine WL_val gd0 ((o_pickT (v := .bool (decide (n1 < (shl .i64 1 bits2)))) rfl hb6 rfl) _) rfl ?_
        refine WL_val gd0 ((o_assign (v := .bool (decide (n1 < (shl .i64 1 bits2)))) rfl) _) rfl ?_
        refine WL_nil ?_
        refine nrm ?_
        refine WC_ret ?_
        refine rtE ?_
        exact gv1 rfl rfl h
      · rw [if_neg (of_decide_eq_false hb6)] at h
        refine WL_skip (gdN (b := (decide (0 ≤ n1))) 15 rfl rfl hb6) rfl ?_
        refine WL_skip (gdN (b := (decide (0 ≤ n1))) 15 rfl rfl hb6) rfl ?_
        refine WL_skip (gdN (b := (decide (0 ≤ n1))) 15 rfl rfl hb6) rfl ?_
        refine WL_skip (gdN (b := (decide (0 ≤ n1))) 15 rfl rfl hb6) rfl ?_
        refine WL_val gd0 ((o_pickF (v := .bool false) rfl hb6 rfl) _) rfl ?_
        refine WL_val gd0 ((o_assign (v := .bool false) rfl) _) rfl ?_
        refine WL_nil ?_
        refine nrm ?_
        refine WC_ret ?_
        refine rtE ?_
        exact gv1 rfl rfl h
    · rw [if_neg (of_decide_eq_false hb5)] at h
      refine WL_skip (gdN (b := (decide (bits2 ≤ 32))) 11 rfl rfl hb5) rfl ?_
      refine WL_skip (gdN (b := (decide (bits2 ≤ 32))) 11 rfl rfl hb5) rfl ?_
      refine WL_val gd0 ((o_pickF (v := .bool false) rfl hb5 rfl) _) rfl ?_
      refine WL_val gd0 ((o_move (v := .bool false) rfl) _) rfl ?_
      refine WL_skip (gdN (b := false) 15 rfl rfl rfl) rfl ?_
      refine WL_skip (gdN (b := false) 15 rfl rfl rfl) rfl ?_
      refine WL_skip (gdN (b := false) 15 rfl rfl rfl) rfl ?_
      refine WL_skip (gdN (b := false) 15 rfl rfl rfl) rfl ?_
      refine WL_val gd0 ((o_pickF (v := .bool false) rfl rfl rfl) _) rfl ?_
      refine WL_val gd0 ((o_assign (v := .bool false) rfl) _) rfl ?_
      refine WL_nil ?_
      refine nrm ?_
      refine WC_ret ?_
      refine rtE ?_
      exact gv1 rfl rfl h
  · rw [if_neg (of_decide_eq_false hb4)] at h
    refine WL_skip (gdN (b := (decide (1 ≤ bits2))) 7 rfl rfl hb4) rfl ?_
    refine WL_skip (gdN (b := (decide (1 ≤ bits2))) 7 rfl rfl hb4) rfl ?_
    refine WL_val gd0 ((o_pickF (v := .bool false) rfl hb4 rfl) _) rfl ?_
    refine WL_val gd0 ((o_move (v := .bool false) rfl) _) rfl ?_
    refine WL_skip (gdN (b := false) 11 rfl rfl rfl) rfl ?_
    refine WL_skip (gdN (b := false) 11 rfl rfl rfl) rfl ?_
    refine WL_val gd0 ((o_pickF (v := .bool false) rfl rfl rfl) _) rfl ?_
    refine WL_val gd0 ((o_move (v := .bool false) rfl) _) rfl ?_
    refine WL_skip (gdN (b := false) 15 rfl rfl rfl) rfl ?_
    refine WL_skip (gdN (b := false) 15 rfl rfl rfl) rfl ?_
    refine WL_skip (gdN (b := false) 15 rfl rfl rfl) rfl ?_
    refine WL_skip (gdN (b := false) 15 rfl rfl rfl) rfl ?_
    refine WL_val gd0 ((o_pickF (v := .bool false) rfl rfl rfl) _) rfl ?_
    refine WL_val gd0 ((o_assign (v := .bool false) rfl) _) rfl ?_
    refine WL_nil ?_
    refine nrm ?_
    refine WC_ret ?_
    refine rtE ?_
    exact gv1 rfl rfl h


end Go.Proofs.Ythcebibacphblaa
