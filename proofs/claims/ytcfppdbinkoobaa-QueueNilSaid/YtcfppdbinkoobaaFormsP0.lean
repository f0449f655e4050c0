/-
  The forms of the functions, and their walks: written by a program of this claim (gen.py) off the elaborated translation.
-/
import Derived.Test.YtcfppdbinkoobaaProg
import Derived.Test.YtcfppdbinkoobaaBase
import Derived.KernelRfl
namespace Go.Proofs.Ytcfppdbinkoobaa
open Go Go.Sh Go.Proofs
set_option linter.unusedVariables false
theorem Try.mixed : Try.prog.follows .mixedOrders = true := by kernel_rfl
def F3_b2 (l_n2 : Nat) (q9 : Option Addr) (all_a27 : Option Addr) (all_n28 : Nat) (l_a1 : Option Addr) (last35 : Int) (i37 : Int) (w38 : World) (k : Value → World → Prop) (nx38 : Int → Int → World → Prop) : Prop :=
  if i37 < (l_n2 : Int) then
  Does Try.prog 12 #[.pointer q9] w38 (fun v w41 => ∃ (r42 : Int) (r43 : Bool), v = .tuple #[.int .i64 r42, .bool r43] ∧ if (!r43) = true then
    k (.bool false) w41.drew
  else
    ∃ (p47 : Addr), all_a27 = some p47 ∧ (0 : Int) ≤ i37 ∧ i37 < (all_n28 : Int) ∧ ∃ (x49 : Int), w41.drew.cell? (p47.add i37.toNat) = some (.int .i64 x49) ∧ if r42 ≠ x49 then
      k (.bool false) w41.drew
    else
      if r42 < 0 then
        k (.bool false) w41.drew
      else
        if (l_n2 : Int) ≤ r42 then
          k (.bool false) w41.drew
        else
          if 0 ≤ last35 then
            ∃ (p57 : Addr), l_a1 = some p57 ∧ (0 : Int) ≤ last35 ∧ last35 < (l_n2 : Int) ∧ ∃ (x59 : Int), w41.drew.cell? (p57.add last35.toNat) = some (.int .i64 x59) ∧ (0 : Int) ≤ r42 ∧ r42 < (l_n2 : Int) ∧ ∃ (x63 : Int), w41.drew.cell? (p57.add r42.toNat) = some (.int .i64 x63) ∧ if x63 < x59 then
              k (.bool false) w41.drew
            else
              (0 : Int) ≤ last35 ∧ last35 < (l_n2 : Int) ∧ ∃ (x68 : Int), w41.drew.cell? (p57.add last35.toNat) = some (.int .i64 x68) ∧ (0 : Int) ≤ r42 ∧ r42 < (l_n2 : Int) ∧ ∃ (x72 : Int), w41.drew.cell? (p57.add r42.toNat) = some (.int .i64 x72) ∧ if x68 = x72 then
                if r42 ≤ last35 then
                  k (.bool false) w41.drew
                else
                  nx38 r42 (IntKind.i64.wrap (i37 + 1)) w41.drew
              else
                nx38 r42 (IntKind.i64.wrap (i37 + 1)) w41.drew
          else
            nx38 r42 (IntKind.i64.wrap (i37 + 1)) w41.drew)
else
  Does Try.prog 12 #[.pointer q9] w38 (fun v w76 => ∃ (r77 : Int) (r78 : Bool), v = .tuple #[.int .i64 r77, .bool r78] ∧ if (!r78) = true then
    Does Try.prog 13 #[.pointer q9] w76 (fun v w80 => ∃ (x81 : Int), v = .int .i64 x81 ∧ if x81 = 0 then
      Does Try.prog 8 #[] w80 (fun v w83 => ∃ (x84 : Bool), v = .bool x84 ∧ k (.bool x84) w83)
    else
      k (.bool false) w80)
  else
    k (.bool false) w76)
def F3_b1 (l_n2 : Nat) (l_a1 : Option Addr) (q9 : Option Addr) (i13 : Int) (w14 : World) (k : Value → World → Prop) (nx14 : Int → World → Prop) : Prop :=
  if i13 < (l_n2 : Int) then
  ∃ (p19 : Addr), l_a1 = some p19 ∧ (0 : Int) ≤ i13 ∧ i13 < (l_n2 : Int) ∧ ∃ (x21 : Int), w14.cell? (p19.add i13.toNat) = some (.int .i64 x21) ∧ Does Try.prog 10 #[.pointer q9, .int .i64 x21, .int .i64 i13] w14 (fun v w23 => ∃ (x24 : Int), v = .int .i64 x24 ∧ if x24 ≠ 0 then
    k (.bool false) w23
  else
    nx14 (IntKind.i64.wrap (i13 + 1)) w23)
else
  Does Try.prog 11 #[.pointer q9] w14 (fun v w26 => ∃ (all_a27 : Option Addr) (all_n28 all_c29 : Nat), v = .slice all_a27 all_n28 all_c29 ∧ if (all_n28 : Int) ≠ (l_n2 : Int) then
    k (.bool false) w26
  else
    LoopP (fun (s : Int × Int) w' nx' => F3_b2 l_n2 q9 all_a27 all_n28 l_a1 (s.1) (s.2) w' k (fun x0 x1 w => nx' (x0, x1) w)) ((-1), 0) w26)
/-- spacecraft spacecraftlaw08.QueueStable -/
def F3 (l_a1 : Option Addr) (l_n2 : Nat) (l_c3 : Nat) (w4 : World) (k : Value → World → Prop) : Prop :=
  if 100 < (l_n2 : Int) then
  Does Try.prog 8 #[] w4 (fun v w6 => ∃ (t7 : Bool), v = .bool t7 ∧ k (.bool t7) w6)
else
  Does Try.prog 9 #[.int .i64 100] w4 (fun v w8 => ∃ (q9 : Option Addr), v = .pointer q9 ∧ LoopP (fun (s : Int) w' nx' => F3_b1 l_n2 l_a1 q9 s w' k (fun x0 w => nx' x0 w)) 0 w8)
set_option maxRecDepth 100000 in
set_option maxHeartbeats 2000000 in
theorem w3 (l_a1 : Option Addr) (l_n2 : Nat) (l_c3 : Nat) (w4 : World) (k : Value → World → Prop) (h : F3 l_a1 l_n2 l_c3 w4 k) : Does Try.prog 3 #[.slice l_a1 l_n2 l_c3] w4 k := by
  refine enter 116 Try.func3 rfl rfl rfl ?_
  intro ρ hρ
  have e0 := hρ 0 _ rfl
  unfold F3 at h
  refine WC_seq ?_
  refine WC_region ?_
  refine WL_val gd0 ((o_assign (v := .bool false) rfl) _) rfl ?_
  refine WL_nil ?_
  refine nrm ?_
  refine WC_seq ?_
  refine WC_seq ?_
  refine WC_region ?_
  refine WL_val gd0 ((o_move (v := .slice l_a1 l_n2 l_c3) (by exact e0)) _) rfl ?_
  refine WL_val gd0 ((o_len Try.underlying22 rfl) _) rfl ?_
  refine WL_val gd0 ((o_gtr rfl rfl) _) rfl ?_
  refine WL_nil ?_
  refine nrm ?_
  refine WC_cond (t := (decide (100 < (l_n2 : Int)))) rfl (fun hb5 => ?_) (fun hb5 => ?_)
  · rw [if_pos (of_decide_eq_true hb5)] at h
    refine WC_seq ?_
    refine WC_region ?_
    refine WL_call gd0 (o_call Try.call8 argNil _) rfl (h.mono ?_)
    rintro _ w6 ⟨t7, rfl, h⟩
    refine WL_val gd0 ((o_assign (v := .bool t7) rfl) _) rfl ?_
    refine WL_nil ?_
    refine nrm ?_
    refine WC_ret ?_
    refine rtT ?_
    refine rtE ?_
    exact gv1 rfl rfl h
  · rw [if_neg (of_decide_eq_false hb5)] at h
    refine WC_skip ?_
    refine nrm ?_
    refine WC_seq ?_
    refine WC_region ?_
    refine WL_call gd0 (o_call Try.call9 (argCons rfl argNil) _) rfl (h.mono ?_)
    rintro _ w8 ⟨q9, rfl, h⟩
    refine WL_val gd0 ((o_assign (v := .pointer q9) rfl) _) rfl ?_
    refine WL_nil ?_
    refine nrm ?_
    refine WC_seq ?_
    refine WC_seq ?_
    refine WC_region ?_
    refine WL_val gd0 ((o_assign (v := .int .i64 0) rfl) _) rfl ?_
    refine WL_nil ?_
    refine nrm ?_
    refine WC_block ?_
    obtain ⟨J14, ⟨n14, h0⟩, hr14⟩ := h
    refine WC_loop (fun n ρ w' => ∃ (i13 : Int), ρ 4 = .int .i64 i13 ∧ ρ 0 = .slice l_a1 l_n2 l_c3 ∧ ρ 3 = .pointer q9 ∧ J14 n i13 w') ⟨n14, _, rfl, e0, rfl, h0⟩ ?_
    rintro n14 ρ w14 ⟨i13, e4_12, e0_10, e3_11, h⟩
    have h : F3_b1 l_n2 l_a1 q9 i13 w14 k (fun x0 w => ∃ m, m < n14 ∧ J14 m x0 w) := hr14 n14 i13 w14 h
    unfold F3_b1 at h
    refine WC_seq ?_
    refine WC_seq ?_
    refine WC_region ?_
    refine WL_val gd0 ((o_move (v := .int .i64 i13) (by exact e4_12)) _) rfl ?_
    refine WL_val gd0 ((o_move (v := .slice l_a1 l_n2 l_c3) (by exact e0_10)) _) rfl ?_
    refine WL_val gd0 ((o_len Try.underlying22 rfl) _) rfl ?_
    refine WL_val gd0 ((o_lss rfl rfl) _) rfl ?_
    refine WL_nil ?_
    refine nrm ?_
    refine WC_cond (t := (decide (i13 < (l_n2 : Int)))) rfl (fun hb16 => ?_) (fun hb16 => ?_)
    · rw [if_pos (of_decide_eq_true hb16)] at h
      refine WC_skip ?_
      refine nrm ?_
      refine WC_seq ?_
      refine WC_block ?_
      refine WC_seq ?_
      refine WC_region ?_
      refine WL_val gd0 ((o_move (v := .pointer q9) (by exact e3_11)) _) rfl ?_
      refine WL_val gd0 ((o_move (v := .slice l_a1 l_n2 l_c3) (by exact e0_10)) _) rfl ?_
      refine WL_val gd0 ((o_move (v := .int .i64 i13) (by exact e4_12)) _) rfl ?_
      obtain ⟨p19, q20, h⟩ := h
      obtain ⟨l17, u18, h⟩ := h
      refine WL_val gd0 ((o_indexAddr1 Try.underlying22 Try.sizeOf3 (by exact (congrArg (fun z => Value.slice z l_n2 l_c3) q20)) rfl l17 u18) _) rfl ?_
      obtain ⟨x21, hc22, h⟩ := h
      refine WL_val gd0 (o_load Try.isAgg3 rfl hc22) rfl ?_
      refine WL_val gd0 ((o_move (v := .int .i64 i13) (by exact e4_12)) _) rfl ?_
      refine WL_call gd0 (o_call Try.call10 (argCons rfl (argCons rfl (argCons rfl argNil))) _) rfl (h.mono ?_)
      rintro _ w23 ⟨x24, rfl, h⟩
      refine WL_val gd0 ((o_neq rfl rfl) _) rfl ?_
      refine WL_nil ?_
      refine nrm ?_
      refine WC_cond (t := (decide (x24 ≠ 0))) rfl (fun hb25 => ?_) (fun hb25 => ?_)
      · rw [if_pos (of_decide_eq_true hb25)] at h
        refine WC_seq ?_
        refine WC_region ?_
        refine WL_val gd0 ((o_assign (v := .bool false) rfl) _) rfl ?_
        refine WL_nil ?_
        refine nrm ?_
        refine WC_ret ?_
        refine rtB ?_
        refine rtT ?_
        refine rtT ?_
        refine rtB ?_
        refine rtT ?_
        refine rtE ?_
        exact gv1 rfl rfl h
      · rw [if_neg (of_decide_eq_false hb25)] at h
        refine WC_skip ?_
        refine nrmB ?_
        refine nrm ?_
        refine WC_region ?_
        refine WL_val gd0 ((o_move (v := .int .i64 i13) (by exact e4_12)) _) rfl ?_
        refine WL_val gd0 ((o_add rfl rfl) _) rfl ?_
        refine WL_val gd0 ((o_assign (v := .int .i64 (IntKind.i64.wrap (i13 + 1))) rfl) _) rfl ?_
        refine WL_nil ?_
        refine nrm ?_
        obtain ⟨m15, hm15, h⟩ := h
        exact ⟨m15, hm15, _, rfl, e0_10, e3_11, h⟩
    · rw [if_neg (of_decide_eq_false hb16)] at h
      refine WC_exit ?_
      refine exT ?_
      refine exT ?_
      refine exB ?_
      refine nrm ?_
      refine WC_seq ?_
      refine WC_region ?_
      refine WL_val gd0 ((o_move (v := .pointer q9) (by exact e3_11)) _) rfl ?_
      refine WL_call gd0 (o_call Try.call11 (argCons rfl argNil) _) rfl (h.mono ?_)
      rintro _ w26 ⟨all_a27, all_n28, all_c29, rfl, h⟩
      refine WL_val gd0 ((o_assign (v := .slice all_a27 all_n28 all_c29) rfl) _) rfl ?_
      refine WL_nil ?_
      refine nrm ?_
      refine WC_seq ?_
      refine WC_seq ?_
      refine WC_region ?_
      refine WL_val gd0 ((o_move (v := .slice all_a27 all_n28 all_c29) rfl) _) rfl ?_
      refine WL_val gd0 ((o_len Try.underlying22 rfl) _) rfl ?_
      refine WL_val gd0 ((o_move (v := .slice l_a1 l_n2 l_c3) (by exact e0_10)) _) rfl ?_
      refine WL_val gd0 ((o_len Try.underlying22 rfl) _) rfl ?_
      refine WL_val gd0 ((o_neq rfl rfl) _) rfl ?_
      refine WL_nil ?_
      refine nrm ?_
      refine WC_cond (t := (decide ((all_n28 : Int) ≠ (l_n2 : Int)))) rfl (fun hb30 => ?_) (fun hb30 => ?_)
      · rw [if_pos (of_decide_eq_true hb30)] at h
        refine WC_seq ?_
        refine WC_region ?_
        refine WL_val gd0 ((o_assign (v := .bool false) rfl) _) rfl ?_
        refine WL_nil ?_
        refine nrm ?_
        refine WC_ret ?_
        refine rtT ?_
        refine rtE ?_
        exact gv1 rfl rfl h
      · rw [if_neg (of_decide_eq_false hb30)] at h
        refine WC_skip ?_
        refine nrm ?_
        refine WC_seq ?_
        refine WC_region ?_
        refine WL_val gd0 ((o_assign (v := .int .i64 (-1)) rfl) _) rfl ?_
        refine WL_nil ?_
        refine nrm ?_
        refine WC_seq ?_
        refine WC_seq ?_
        refine WC_region ?_
        refine WL_val gd0 ((o_assign (v := .int .i64 0) rfl) _) rfl ?_
        refine WL_nil ?_
        refine nrm ?_
        refine WC_block ?_
        obtain ⟨J38, ⟨n38, h0⟩, hr38⟩ := h
        refine WC_loop (fun n ρ w' => ∃ (last35 i37 : Int), ρ 6 = .int .i64 last35 ∧ ρ 7 = .int .i64 i37 ∧ ρ 0 = .slice l_a1 l_n2 l_c3 ∧ ρ 3 = .pointer q9 ∧ ρ 5 = .slice all_a27 all_n28 all_c29 ∧ J38 n (last35, i37) w') ⟨n38, _, _, rfl, rfl, e0_10, e3_11, rfl, h0⟩ ?_
        rintro n38 ρ w38 ⟨last35, i37, e6_34, e7_36, e0_31, e3_32, e5_33, h⟩
        have h : F3_b2 l_n2 q9 all_a27 all_n28 l_a1 last35 i37 w38 k (fun x0 x1 w => ∃ m, m < n38 ∧ J38 m (x0, x1) w) := hr38 n38 (last35, i37) w38 h
        unfold F3_b2 at h
        refine WC_seq ?_
        refine WC_seq ?_
        refine WC_region ?_
        refine WL_val gd0 ((o_move (v := .int .i64 i37) (by exact e7_36)) _) rfl ?_
        refine WL_val gd0 ((o_move (v := .slice l_a1 l_n2 l_c3) (by exact e0_31)) _) rfl ?_
        refine WL_val gd0 ((o_len Try.underlying22 rfl) _) rfl ?_
        refine WL_val gd0 ((o_lss rfl rfl) _) rfl ?_
        refine WL_nil ?_
        refine nrm ?_
        refine WC_cond (t := (decide (i37 < (l_n2 : Int)))) rfl (fun hb40 => ?_) (fun hb40 => ?_)
        · rw [if_pos (of_decide_eq_true hb40)] at h
          refine WC_skip ?_
          refine nrm ?_
          refine WC_seq ?_
          refine WC_block ?_
          refine WC_seq ?_
          refine WC_region ?_
          refine WL_val gd0 ((o_move (v := .pointer q9) (by exact e3_32)) _) rfl ?_
          refine WL_call gd0 (o_call Try.call12 (argCons rfl argNil) _) rfl (h.mono ?_)
          rintro _ w41 ⟨r42, r43, rfl, h⟩
          refine WL_val gd0 ((o_move (v := .tuple #[.int .i64 r42, .bool r43]) rfl) _) rfl ?_
          refine WL_val gd0 ((o_extract (vs := [.int .i64 r42, .bool r43]) (r := .int .i64 r42) rfl rfl) _) rfl ?_
          refine WL_val gd0 ((o_extract (vs := [.int .i64 r42, .bool r43]) (r := .bool r43) rfl rfl) _) rfl ?_
          refine WL_val gd0 ((o_assign (v := .int .i64 r42) rfl) _) rfl ?_
          refine WL_val gd0 ((o_assign (v := .bool r43) rfl) _) rfl ?_
          refine WL_nil ?_
          refine nrm ?_
          refine WC_seq ?_
          refine WC_seq ?_
          refine WC_draws [] (.look 0 (.look 1 (.look 2 (.look 3 (.look 4 (.look 5 (.look 6 (.look 7 (.look 8 (.look 9 (.look 10 (.look 11 (.look 12 (.look 13 (.look 14 (.look 15 (.look 16 (.look 17 (.look 18 (.look 19 (.look 20 (.look 21 (.look 22 (.look 23 (.look 24 (.look 25 (.look 26 (.look 27 (.look 28 (.look 29 (.look 30 (.look 31 (.look 32 (.look 33 (.look 34 (.look 35 (.look 36 (.look 37 (.look 38 (.look 39 (.look 40 (.look 41 (.look 42 (.look 43 (.look 44 (.look 45 (.look 46 (.look 47 (.look 48 (.look 49 (.look 50 .nil))))))))))))))))))))))))))))))))))))))))))))))))))) Try.mixed (by kernel_rfl) ?_
          refine WQ_val rfl gd0 (o_move (v := .bool r43) rfl) rfl ?_
          refine WQ_val rfl gd0 (o_not rfl) rfl ?_
          refine WQ_val rfl gd0 (o_move (v := .bool (!r43)) rfl) rfl ?_
          refine bsplit (!r43) (fun hb44 => ?_) (fun hb44 => ?_)
          · rw [if_pos hb44] at h
            refine WQ_skip rfl (gdN (b := (!r43)) 51 rfl rfl hb44) rfl ?_
            refine WQ_skip rfl (gdN (b := (!r43)) 51 rfl rfl hb44) rfl ?_
            refine WQ_skip rfl (gdN (b := (!r43)) 51 rfl rfl hb44) rfl ?_
            refine WQ_skip rfl (gdN (b := (!r43)) 51 rfl rfl hb44) rfl ?_
            refine WQ_skip rfl (gdN (b := (!r43)) 51 rfl rfl hb44) rfl ?_
            refine WQ_skip rfl (gdN (b := (!r43)) 51 rfl rfl hb44) rfl ?_
            refine WQ_val rfl gd0 (o_pickT (v := .bool true) rfl hb44 rfl) rfl ?_
            refine WQ_val rfl gd0 (o_move (v := .bool true) rfl) rfl ?_
            refine WQ_skip rfl (gdN (b := true) 59 rfl rfl rfl) rfl ?_
            refine WQ_skip rfl (gdN (b := true) 59 rfl rfl rfl) rfl ?_
            refine WQ_val rfl gd0 (o_pickT (v := .bool true) rfl rfl rfl) rfl ?_
            refine WQ_val rfl gd0 (o_move (v := .bool true) rfl) rfl ?_
            refine WQ_skip rfl (gdN (b := true) 63 rfl rfl rfl) rfl ?_
            refine WQ_skip rfl (gdN (b := true) 63 rfl rfl rfl) rfl ?_
            refine WQ_skip rfl (gdN (b := true) 63 rfl rfl rfl) rfl ?_
            refine WQ_skip rfl (gdN (b := true) 63 rfl rfl rfl) rfl ?_
            refine WQ_val rfl gd0 (o_pickT (v := .bool true) rfl rfl rfl) rfl ?_
            refine WQ_val rfl gd0 (o_move (v := .bool true) rfl) rfl ?_
            refine WQ_skip rfl (gdN (b := true) 69 rfl rfl rfl) rfl ?_
            refine WQ_skip rfl (gdN (b := true) 69 rfl rfl rfl) rfl ?_
            refine WQ_skip rfl (gdN (b := true) 69 rfl rfl rfl) rfl ?_
            refine WQ_skip rfl (gdU 72 rfl rfl) rfl ?_
            refine WQ_skip rfl (gdU 72 rfl rfl) rfl ?_
            refine WQ_skip rfl (gdU 72 rfl rfl) rfl ?_
            refine WQ_skip rfl (gdU 72 rfl rfl) rfl ?_
            refine WQ_skip rfl (gdU 72 rfl rfl) rfl ?_
            refine WQ_skip rfl (gdU 72 rfl rfl) rfl ?_
            refine WQ_skip rfl (gdU 72 rfl rfl) rfl ?_
            refine WQ_skip rfl (gdU 72 rfl rfl) rfl ?_
            refine WQ_skip rfl (gdU 72 rfl rfl) rfl ?_
            refine WQ_skip rfl (gdU 72 rfl rfl) rfl ?_
            refine WQ_skip rfl (gdU 82 rfl rfl) rfl ?_
            refine WQ_skip rfl (gdU 82 rfl rfl) rfl ?_
            refine WQ_skip rfl (gdU 82 rfl rfl) rfl ?_
            refine WQ_skip rfl (gdU 82 rfl rfl) rfl ?_
            refine WQ_skip rfl (gdU 82 rfl rfl) rfl ?_
            refine WQ_skip rfl (gdU 82 rfl rfl) rfl ?_
            refine WQ_skip rfl (gdU 82 rfl rfl) rfl ?_
            refine WQ_skip rfl (gdU 82 rfl rfl) rfl ?_
            refine WQ_skip rfl (gdU 82 rfl rfl) rfl ?_
            refine WQ_skip rfl (gdU 82 rfl rfl) rfl ?_
            refine WQ_skip rfl (gdU 92 rfl rfl) rfl ?_
            refine WQ_skip rfl (gdU 92 rfl rfl) rfl ?_
            refine WQ_skip rfl (gdU 92 rfl rfl) rfl ?_
            refine WQ_skip rfl (gdU 82 rfl rfl) rfl ?_
            refine WQ_skip rfl (gdU 72 rfl rfl) rfl ?_
            refine WQ_skip rfl (gdN (b := true) 69 rfl rfl rfl) rfl ?_
            refine WQ_val rfl gd0 (o_pickT (v := .bool true) rfl rfl rfl) rfl ?_
            refine WQ_nil ?_
            refine nrm ?_
            refine WC_cond (t := true) rfl (fun _ => ?_) (fun hx => by rw [(rfl : true = true)] at hx; cases hx)
            refine WC_seq ?_
            refine WC_region ?_
            refine WL_val gd0 ((o_assign (v := .bool false) rfl) _) rfl ?_
            refine WL_nil ?_
            refine nrm ?_
            refine WC_ret ?_
            refine rtT ?_
            refine rtB ?_
            refine rtT ?_
            refine rtT ?_
            refine rtB ?_
            refine rtT ?_
            refine rtE ?_
            exact gv1 rfl rfl h
          · rw [if_neg (neT hb44)] at h
            refine WQ_val rfl (gdY (b := (!r43)) 51 rfl rfl hb44) (o_move (v := .int .i64 r42) rfl) rfl ?_
            refine WQ_val rfl (gdY (b := (!r43)) 51 rfl rfl hb44) (o_move (v := .slice all_a27 all_n28 all_c29) (by exact e5_33)) rfl ?_
            refine WQ_val rfl (gdY (b := (!r43)) 51 rfl rfl hb44) (o_move (v := .int .i64 i37) (by exact e7_36)) rfl ?_
            obtain ⟨p47, q48, h⟩ := h
            obtain ⟨l45, u46, h⟩ := h
            refine WQ_val rfl (gdY (b := (!r43)) 51 rfl rfl hb44) (o_indexAddr1 Try.underlying22 Try.sizeOf3 (by exact (congrArg (fun z => Value.slice z all_n28 all_c29) q48)) rfl l45 u46) rfl ?_
            obtain ⟨x49, hc50, h⟩ := h
            refine WQ_look (fun w => w.cell? (p47.add i37.toNat) = some (.int .i64 x49)) rfl (gdY (b := (!r43)) 51 rfl rfl hb44) (fun w hc => (o_load Try.isAgg3 rfl hc)) hc50 rfl ?_
            refine WQ_val rfl (gdY (b := (!r43)) 51 rfl rfl hb44) (o_neq rfl rfl) rfl ?_
            refine WQ_val rfl gd0 (o_pickF (v := .bool (decide (r42 ≠ x49))) rfl hb44 rfl) rfl ?_
            refine WQ_val rfl gd0 (o_move (v := .bool (decide (r42 ≠ x49))) rfl) rfl ?_
            refine bsplit (decide (r42 ≠ x49)) (fun hb51 => ?_) (fun hb51 => ?_)
            · rw [if_pos (of_decide_eq_true hb51)] at h
              refine WQ_skip rfl (gdN (b := (decide (r42 ≠ x49))) 59 rfl rfl hb51) rfl ?_
              refine WQ_skip rfl (gdN (b := (decide (r42 ≠ x49))) 59 rfl rfl hb51) rfl ?_
              refine WQ_val rfl gd0 (o_pickT (v := .bool true) rfl hb51 rfl) rfl ?_
              refine WQ_val rfl gd0 (o_move (v := .bool true) rfl) rfl ?_
              refine WQ_skip rfl (gdN (b := true) 63 rfl rfl rfl) rfl ?_
              refine WQ_skip rfl (gdN (b := true) 63 rfl rfl rfl) rfl ?_
              refine WQ_skip rfl (gdN (b := true) 63 rfl rfl rfl) rfl ?_
              refine WQ_skip rfl (gdN (b := true) 63 rfl rfl rfl) rfl ?_
              refine WQ_val rfl gd0 (o_pickT (v := .bool true) rfl rfl rfl) rfl ?_
              refine WQ_val rfl gd0 (o_move (v := .bool true) rfl) rfl ?_
              refine WQ_skip rfl (gdN (b := true) 69 rfl rfl rfl) rfl ?_
              refine WQ_skip rfl (gdN (b := true) 69 rfl rfl rfl) rfl ?_
              refine WQ_skip rfl (gdN (b := true) 69 rfl rfl rfl) rfl ?_
              refine WQ_skip rfl (gdU 72 rfl rfl) rfl ?_
              refine WQ_skip rfl (gdU 72 rfl rfl) rfl ?_
              refine WQ_skip rfl (gdU 72 rfl rfl) rfl ?_
              refine WQ_skip rfl (gdU 72 rfl rfl) rfl ?_
              refine WQ_skip rfl (gdU 72 rfl rfl) rfl ?_
              refine WQ_skip rfl (gdU 72 rfl rfl) rfl ?_
              refine WQ_skip rfl (gdU 72 rfl rfl) rfl ?_
              refine WQ_skip rfl (gdU 72 rfl rfl) rfl ?_
              refine WQ_skip rfl (gdU 72 rfl rfl) rfl ?_
              refine WQ_skip rfl (gdU 72 rfl rfl) rfl ?_
              refine WQ_skip rfl (gdU 82 rfl rfl) rfl ?_
              refine WQ_skip rfl (gdU 82 rfl rfl) rfl ?_
              refine WQ_skip rfl (gdU 82 rfl rfl) rfl ?_
              refine WQ_skip rfl (gdU 82 rfl rfl) rfl ?_
              refine WQ_skip rfl (gdU 82 rfl rfl) rfl ?_
              refine WQ_skip rfl (gdU 82 rfl rfl) rfl ?_
              refine WQ_skip rfl (gdU 82 rfl rfl) rfl ?_
              refine WQ_skip rfl (gdU 82 rfl rfl) rfl ?_
              refine WQ_skip rfl (gdU 82 rfl rfl) rfl ?_
              refine WQ_skip rfl (gdU 82 rfl rfl) rfl ?_
              refine WQ_skip rfl (gdU 92 rfl rfl) rfl ?_
              refine WQ_skip rfl (gdU 92 rfl rfl) rfl ?_
              refine WQ_skip rfl (gdU 92 rfl rfl) rfl ?_
              refine WQ_skip rfl (gdU 82 rfl rfl) rfl ?_
              refine WQ_skip rfl (gdU 72 rfl rfl) rfl ?_
              refine WQ_skip rfl (gdN (b := true) 69 rfl rfl rfl) rfl ?_
              refine WQ_val rfl gd0 (o_pickT (v := .bool true) rfl rfl rfl) rfl ?_
              refine WQ_nil ?_
              refine nrm ?_
              refine WC_cond (t := true) rfl (fun _ => ?_) (fun hx => by rw [(rfl : true = true)] at hx; cases hx)
              refine WC_seq ?_
              refine WC_region ?_
              refine WL_val gd0 ((o_assign (v := .bool false) rfl) _) rfl ?_
              refine WL_nil ?_
              refine nrm ?_
              refine WC_ret ?_
              refine rtT ?_
              refine rtB ?_
              refine rtT ?_
              refine rtT ?_
              refine rtB ?_
              refine rtT ?_
              refine rtE ?_
              exact gv1 rfl rfl h
            · rw [if_neg (of_decide_eq_false hb51)] at h
              refine WQ_val rfl (gdY (b := (decide (r42 ≠ x49))) 59 rfl rfl hb51) (o_move (v := .int .i64 r42) rfl) rfl ?_
              refine WQ_val rfl (gdY (b := (decide (r42 ≠ x49))) 59 rfl rfl hb51) (o_lss rfl rfl) rfl ?_
              refine WQ_val rfl gd0 (o_pickF (v := .bool (decide (r42 < 0))) rfl hb51 rfl) rfl ?_
              refine WQ_val rfl gd0 (o_move (v := .bool (decide (r42 < 0))) rfl) rfl ?_
              refine bsplit (decide (r42 < 0)) (fun hb52 => ?_) (fun hb52 => ?_)
              · rw [if_pos (of_decide_eq_true hb52)] at h
                refine WQ_skip rfl (gdN (b := (decide (r42 < 0))) 63 rfl rfl hb52) rfl ?_
                refine WQ_skip rfl (gdN (b := (decide (r42 < 0))) 63 rfl rfl hb52) rfl ?_
                refine WQ_skip rfl (gdN (b := (decide (r42 < 0))) 63 rfl rfl hb52) rfl ?_
                refine WQ_skip rfl (gdN (b := (decide (r42 < 0))) 63 rfl rfl hb52) rfl ?_
                refine WQ_val rfl gd0 (o_pickT (v := .bool true) rfl hb52 rfl) rfl ?_
                refine WQ_val rfl gd0 (o_move (v := .bool true) rfl) rfl ?_
                refine WQ_skip rfl (gdN (b := true) 69 rfl rfl rfl) rfl ?_
                refine WQ_skip rfl (gdN (b := true) 69 rfl rfl rfl) rfl ?_
                refine WQ_skip rfl (gdN (b := true) 69 rfl rfl rfl) rfl ?_
                refine WQ_skip rfl (gdU 72 rfl rfl) rfl ?_
                refine WQ_skip rfl (gdU 72 rfl rfl) rfl ?_
                refine WQ_skip rfl (gdU 72 rfl rfl) rfl ?_
                refine WQ_skip rfl (gdU 72 rfl rfl) rfl ?_
                refine WQ_skip rfl (gdU 72 rfl rfl) rfl ?_
                refine WQ_skip rfl (gdU 72 rfl rfl) rfl ?_
                refine WQ_skip rfl (gdU 72 rfl rfl) rfl ?_
                refine WQ_skip rfl (gdU 72 rfl rfl) rfl ?_
                refine WQ_skip rfl (gdU 72 rfl rfl) rfl ?_
                refine WQ_skip rfl (gdU 72 rfl rfl) rfl ?_
                refine WQ_skip rfl (gdU 82 rfl rfl) rfl ?_
                refine WQ_skip rfl (gdU 82 rfl rfl) rfl ?_
                refine WQ_skip rfl (gdU 82 rfl rfl) rfl ?_
                refine WQ_skip rfl (gdU 82 rfl rfl) rfl ?_
                refine WQ_skip rfl (gdU 82 rfl rfl) rfl ?_
                refine WQ_skip rfl (gdU 82 rfl rfl) rfl ?_
                refine WQ_skip rfl (gdU 82 rfl rfl) rfl ?_
                refine WQ_skip rfl (gdU 82 rfl rfl) rfl ?_
                refine WQ_skip rfl (gdU 82 rfl rfl) rfl ?_
                refine WQ_skip rfl (gdU 82 rfl rfl) rfl ?_
                refine WQ_skip rfl (gdU 92 rfl rfl) rfl ?_
                refine WQ_skip rfl (gdU 92 rfl rfl) rfl ?_
                refine WQ_skip rfl (gdU 92 rfl rfl) rfl ?_
                refine WQ_skip rfl (gdU 82 rfl rfl) rfl ?_
                refine WQ_skip rfl (gdU 72 rfl rfl) rfl ?_
                refine WQ_skip rfl (gdN (b := true) 69 rfl rfl rfl) rfl ?_
                refine WQ_val rfl gd0 (o_pickT (v := .bool true) rfl rfl rfl) rfl ?_
                refine WQ_nil ?_
                refine nrm ?_
                refine WC_cond (t := true) rfl (fun _ => ?_) (fun hx => by rw [(rfl : true = true)] at hx; cases hx)
                refine WC_seq ?_
                refine WC_region ?_
                refine WL_val gd0 ((o_assign (v := .bool false) rfl) _) rfl ?_
                refine WL_nil ?_
                refine nrm ?_
                refine WC_ret ?_
                refine rtT ?_
                refine rtB ?_
                refine rtT ?_
                refine rtT ?_
                refine rtB ?_
                refine rtT ?_
                refine rtE ?_
                exact gv1 rfl rfl h
              · rw [if_neg (of_decide_eq_false hb52)] at h
                refine WQ_val rfl (gdY (b := (decide (r42 < 0))) 63 rfl rfl hb52) (o_move (v := .int .i64 r42) rfl) rfl ?_
                refine WQ_val rfl (gdY (b := (decide (r42 < 0))) 63 rfl rfl hb52) (o_move (v := .slice l_a1 l_n2 l_c3) (by exact e0_31)) rfl ?_
                refine WQ_val rfl (gdY (b := (decide (r42 < 0))) 63 rfl rfl hb52) (o_len Try.underlying22 rfl) rfl ?_
                refine WQ_val rfl (gdY (b := (decide (r42 < 0))) 63 rfl rfl hb52) (o_geq rfl rfl) rfl ?_
                refine WQ_val rfl gd0 (o_pickF (v := .bool (decide ((l_n2 : Int) ≤ r42))) rfl hb52 rfl) rfl ?_
                refine WQ_val rfl gd0 (o_move (v := .bool (decide ((l_n2 : Int) ≤ r42))) rfl) rfl ?_
                refine bsplit (decide ((l_n2 : Int) ≤ r42)) (fun hb53 => ?_) (fun hb53 => ?_)
                · rw [if_pos (of_decide_eq_true hb53)] at h
                  refine WQ_skip rfl (gdN (b := (decide ((l_n2 : Int) ≤ r42))) 69 rfl rfl hb53) rfl ?_
                  refine WQ_skip rfl (gdN (b := (decide ((l_n2 : Int) ≤ r42))) 69 rfl rfl hb53) rfl ?_
                  refine WQ_skip rfl (gdN (b := (decide ((l_n2 : Int) ≤ r42))) 69 rfl rfl hb53) rfl ?_
                  refine WQ_skip rfl (gdU 72 rfl rfl) rfl ?_
                  refine WQ_skip rfl (gdU 72 rfl rfl) rfl ?_
                  refine WQ_skip rfl (gdU 72 rfl rfl) rfl ?_
                  refine WQ_skip rfl (gdU 72 rfl rfl) rfl ?_
                  refine WQ_skip rfl (gdU 72 rfl rfl) rfl ?_
                  refine WQ_skip rfl (gdU 72 rfl rfl) rfl ?_
                  refine WQ_skip rfl (gdU 72 rfl rfl) rfl ?_
                  refine WQ_skip rfl (gdU 72 rfl rfl) rfl ?_
                  refine WQ_skip rfl (gdU 72 rfl rfl) rfl ?_
                  refine WQ_skip rfl (gdU 72 rfl rfl) rfl ?_
                  refine WQ_skip rfl (gdU 82 rfl rfl) rfl ?_
                  refine WQ_skip rfl (gdU 82 rfl rfl) rfl ?_
                  refine WQ_skip rfl (gdU 82 rfl rfl) rfl ?_
                  refine WQ_skip rfl (gdU 82 rfl rfl) rfl ?_
                  refine WQ_skip rfl (gdU 82 rfl rfl) rfl ?_
                  refine WQ_skip rfl (gdU 82 rfl rfl) rfl ?_
                  refine WQ_skip rfl (gdU 82 rfl rfl) rfl ?_
                  refine WQ_skip rfl (gdU 82 rfl rfl) rfl ?_
                  refine WQ_skip rfl (gdU 82 rfl rfl) rfl ?_
                  refine WQ_skip rfl (gdU 82 rfl rfl) rfl ?_
                  refine WQ_skip rfl (gdU 92 rfl rfl) rfl ?_
                  refine WQ_skip rfl (gdU 92 rfl rfl) rfl ?_
                  refine WQ_skip rfl (gdU 92 rfl rfl) rfl ?_
                  refine WQ_skip rfl (gdU 82 rfl rfl) rfl ?_
                  refine WQ_skip rfl (gdU 72 rfl rfl) rfl ?_
                  refine WQ_skip rfl (gdN (b := (decide ((l_n2 : Int) ≤ r42))) 69 rfl rfl hb53) rfl ?_
                  refine WQ_val rfl gd0 (o_pickT (v := .bool true) rfl hb53 rfl) rfl ?_
                  refine WQ_nil ?_
                  refine nrm ?_
                  refine WC_cond (t := true) rfl (fun _ => ?_) (fun hx => by rw [(rfl : true = true)] at hx; cases hx)
                  refine WC_seq ?_
                  refine WC_region ?_
                  refine WL_val gd0 ((o_assign (v := .bool false) rfl) _) rfl ?_
                  refine WL_nil ?_
                  refine nrm ?_
                  refine WC_ret ?_
                  refine rtT ?_
                  refine rtB ?_
                  refine rtT ?_
                  refine rtT ?_
                  refine rtB ?_
                  refine rtT ?_
                  refine rtE ?_
                  exact gv1 rfl rfl h
                · rw [if_neg (of_decide_eq_false hb53)] at h
                  refine WQ_val rfl (gdY (b := (decide ((l_n2 : Int) ≤ r42))) 69 rfl rfl hb53) (o_move (v := .int .i64 last35) (by exact e6_34)) rfl ?_
                  refine WQ_val rfl (gdY (b := (decide ((l_n2 : Int) ≤ r42))) 69 rfl rfl hb53) (o_geq rfl rfl) rfl ?_
                  refine WQ_val rfl (gdY (b := (decide ((l_n2 : Int) ≤ r42))) 69 rfl rfl hb53) (o_move (v := .bool (decide (0 ≤ last35))) rfl) rfl ?_
                  refine bsplit (decide (0 ≤ last35)) (fun hb54 => ?_) (fun hb54 => ?_)
                  · rw [if_pos (of_decide_eq_true hb54)] at h
                    refine WQ_val rfl (gdY (b := (decide (0 ≤ last35))) 72 rfl rfl hb54) (o_move (v := .slice l_a1 l_n2 l_c3) (by exact e0_31)) rfl ?_
                    refine WQ_val rfl (gdY (b := (decide (0 ≤ last35))) 72 rfl rfl hb54) (o_move (v := .int .i64 last35) (by exact e6_34)) rfl ?_
                    obtain ⟨p57, q58, h⟩ := h
                    obtain ⟨l55, u56, h⟩ := h
                    refine WQ_val rfl (gdY (b := (decide (0 ≤ last35))) 72 rfl rfl hb54) (o_indexAddr1 Try.underlying22 Try.sizeOf3 (by exact (congrArg (fun z => Value.slice z l_n2 l_c3) q58)) rfl l55 u56) rfl ?_
                    obtain ⟨x59, hc60, h⟩ := h
                    refine WQ_look (fun w => w.cell? (p57.add last35.toNat) = some (.int .i64 x59)) rfl (gdY (b := (decide (0 ≤ last35))) 72 rfl rfl hb54) (fun w hc => (o_load Try.isAgg3 rfl hc)) hc60 rfl ?_
                    refine WQ_val rfl (gdY (b := (decide (0 ≤ last35))) 72 rfl rfl hb54) (o_move (v := .slice l_a1 l_n2 l_c3) (by exact e0_31)) rfl ?_
                    refine WQ_val rfl (gdY (b := (decide (0 ≤ last35))) 72 rfl rfl hb54) (o_move (v := .int .i64 r42) rfl) rfl ?_
                    obtain ⟨l61, u62, h⟩ := h
                    refine WQ_val rfl (gdY (b := (decide (0 ≤ last35))) 72 rfl rfl hb54) (o_indexAddr1 Try.underlying22 Try.sizeOf3 (by exact (congrArg (fun z => Value.slice z l_n2 l_c3) q58)) rfl l61 u62) rfl ?_
                    obtain ⟨x63, hc64, h⟩ := h
                    refine WQ_look (fun w => w.cell? (p57.add r42.toNat) = some (.int .i64 x63)) rfl (gdY (b := (decide (0 ≤ last35))) 72 rfl rfl hb54) (fun w hc => (o_load Try.isAgg3 rfl hc)) hc64 rfl ?_
                    refine WQ_val rfl (gdY (b := (decide (0 ≤ last35))) 72 rfl rfl hb54) (o_gtr rfl rfl) rfl ?_
                    refine WQ_val rfl (gdY (b := (decide (0 ≤ last35))) 72 rfl rfl hb54) (o_move (v := .bool (decide (x63 < x59))) rfl) rfl ?_
                    refine bsplit (decide (x63 < x59)) (fun hb65 => ?_) (fun hb65 => ?_)
                    · rw [if_pos (of_decide_eq_true hb65)] at h
                      refine WQ_skip rfl (gdN (b := (decide (x63 < x59))) 82 rfl rfl hb65) rfl ?_
                      refine WQ_skip rfl (gdN (b := (decide (x63 < x59))) 82 rfl rfl hb65) rfl ?_
                      refine WQ_skip rfl (gdN (b := (decide (x63 < x59))) 82 rfl rfl hb65) rfl ?_
                      refine WQ_skip rfl (gdN (b := (decide (x63 < x59))) 82 rfl rfl hb65) rfl ?_
                      refine WQ_skip rfl (gdN (b := (decide (x63 < x59))) 82 rfl rfl hb65) rfl ?_
                      refine WQ_skip rfl (gdN (b := (decide (x63 < x59))) 82 rfl rfl hb65) rfl ?_
                      refine WQ_skip rfl (gdN (b := (decide (x63 < x59))) 82 rfl rfl hb65) rfl ?_
                      refine WQ_skip rfl (gdN (b := (decide (x63 < x59))) 82 rfl rfl hb65) rfl ?_
                      refine WQ_skip rfl (gdN (b := (decide (x63 < x59))) 82 rfl rfl hb65) rfl ?_
                      refine WQ_skip rfl (gdN (b := (decide (x63 < x59))) 82 rfl rfl hb65) rfl ?_
                      refine WQ_skip rfl (gdU 92 rfl rfl) rfl ?_
                      refine WQ_skip rfl (gdU 92 rfl rfl) rfl ?_
                      refine WQ_skip rfl (gdU 92 rfl rfl) rfl ?_
                      refine WQ_skip rfl (gdN (b := (decide (x63 < x59))) 82 rfl rfl hb65) rfl ?_
                      refine WQ_val rfl (gdY (b := (decide (0 ≤ last35))) 72 rfl rfl hb54) (o_pickT (v := .bool true) rfl hb65 rfl) rfl ?_
                      refine WQ_val rfl (gdY (b := (decide ((l_n2 : Int) ≤ r42))) 69 rfl rfl hb53) (o_pickT (v := .bool true) rfl hb54 rfl) rfl ?_
                      refine WQ_val rfl gd0 (o_pickF (v := .bool true) rfl hb53 rfl) rfl ?_
                      refine WQ_nil ?_
                      refine nrm ?_
                      refine WC_cond (t := true) rfl (fun _ => ?_) (fun hx => by rw [(rfl : true = true)] at hx; cases hx)
                      refine WC_seq ?_
                      refine WC_region ?_
                      refine WL_val gd0 ((o_assign (v := .bool false) rfl) _) rfl ?_
                      refine WL_nil ?_
                      refine nrm ?_
                      refine WC_ret ?_
                      refine rtT ?_
                      refine rtB ?_
                      refine rtT ?_
                      refine rtT ?_
                      refine rtB ?_
                      refine rtT ?_
                      refine rtE ?_
                      exact gv1 rfl rfl h
                    · rw [if_neg (of_decide_eq_false hb65)] at h
                      refine WQ_val rfl (gdY (b := (decide (x63 < x59))) 82 rfl rfl hb65) (o_move (v := .slice l_a1 l_n2 l_c3) (by exact e0_31)) rfl ?_
                      refine WQ_val rfl (gdY (b := (decide (x63 < x59))) 82 rfl rfl hb65) (o_move (v := .int .i64 last35) (by exact e6_34)) rfl ?_
                      obtain ⟨l66, u67, h⟩ := h
                      refine WQ_val rfl (gdY (b := (decide (x63 < x59))) 82 rfl rfl hb65) (o_indexAddr1 Try.underlying22 Try.sizeOf3 (by exact (congrArg (fun z => Value.slice z l_n2 l_c3) q58)) rfl l66 u67) rfl ?_
                      obtain ⟨x68, hc69, h⟩ := h
                      refine WQ_look (fun w => w.cell? (p57.add last35.toNat) = some (.int .i64 x68)) rfl (gdY (b := (decide (x63 < x59))) 82 rfl rfl hb65) (fun w hc => (o_load Try.isAgg3 rfl hc)) hc69 rfl ?_
                      refine WQ_val rfl (gdY (b := (decide (x63 < x59))) 82 rfl rfl hb65) (o_move (v := .slice l_a1 l_n2 l_c3) (by exact e0_31)) rfl ?_
                      refine WQ_val rfl (gdY (b := (decide (x63 < x59))) 82 rfl rfl hb65) (o_move (v := .int .i64 r42) rfl) rfl ?_
                      obtain ⟨l70, u71, h⟩ := h
                      refine WQ_val rfl (gdY (b := (decide (x63 < x59))) 82 rfl rfl hb65) (o_indexAddr1 Try.underlying22 Try.sizeOf3 (by exact (congrArg (fun z => Value.slice z l_n2 l_c3) q58)) rfl l70 u71) rfl ?_
                      obtain ⟨x72, hc73, h⟩ := h
                      refine WQ_look (fun w => w.cell? (p57.add r42.toNat) = some (.int .i64 x72)) rfl (gdY (b := (decide (x63 < x59))) 82 rfl rfl hb65) (fun w hc => (o_load Try.isAgg3 rfl hc)) hc73 rfl ?_
                      refine WQ_val rfl (gdY (b := (decide (x63 < x59))) 82 rfl rfl hb65) (o_eql rfl rfl) rfl ?_
                      refine WQ_val rfl (gdY (b := (decide (x63 < x59))) 82 rfl rfl hb65) (o_move (v := .bool (decide (x68 = x72))) rfl) rfl ?_
                      refine bsplit (decide (x68 = x72)) (fun hb74 => ?_) (fun hb74 => ?_)
                      · rw [if_pos (of_decide_eq_true hb74)] at h
                        refine WQ_val rfl (gdY (b := (decide (x68 = x72))) 92 rfl rfl hb74) (o_move (v := .int .i64 last35) (by exact e6_34)) rfl ?_
                        refine WQ_val rfl (gdY (b := (decide (x68 = x72))) 92 rfl rfl hb74) (o_move (v := .int .i64 r42) rfl) rfl ?_
                        refine WQ_val rfl (gdY (b := (decide (x68 = x72))) 92 rfl rfl hb74) (o_geq rfl rfl) rfl ?_
                        refine WQ_val rfl (gdY (b := (decide (x63 < x59))) 82 rfl rfl hb65) (o_pickT (v := .bool (decide (r42 ≤ last35))) rfl hb74 rfl) rfl ?_
                        refine WQ_val rfl (gdY (b := (decide (0 ≤ last35))) 72 rfl rfl hb54) (o_pickF (v := .bool (decide (r42 ≤ last35))) rfl hb65 rfl) rfl ?_
                        refine WQ_val rfl (gdY (b := (decide ((l_n2 : Int) ≤ r42))) 69 rfl rfl hb53) (o_pickT (v := .bool (decide (r42 ≤ last35))) rfl hb54 rfl) rfl ?_
                        refine WQ_val rfl gd0 (o_pickF (v := .bool (decide (r42 ≤ last35))) rfl hb53 rfl) rfl ?_
                        refine WQ_nil ?_
                        refine nrm ?_
                        refine WC_cond (t := (decide (r42 ≤ last35))) rfl (fun hb75 => ?_) (fun hb75 => ?_)
                        · rw [if_pos (of_decide_eq_true hb75)] at h
                          refine WC_seq ?_
                          refine WC_region ?_
                          refine WL_val gd0 ((o_assign (v := .bool false) rfl) _) rfl ?_
                          refine WL_nil ?_
                          refine nrm ?_
                          refine WC_ret ?_
                          refine rtT ?_
                          refine rtB ?_
                          refine rtT ?_
                          refine rtT ?_
                          refine rtB ?_
                          refine rtT ?_
                          refine rtE ?_
                          exact gv1 rfl rfl h
                        · rw [if_neg (of_decide_eq_false hb75)] at h
                          refine WC_skip ?_
                          refine nrm ?_
                          refine WC_region ?_
                          refine WL_val gd0 ((o_move (v := .int .i64 r42) rfl) _) rfl ?_
                          refine WL_val gd0 ((o_assign (v := .int .i64 r42) rfl) _) rfl ?_
                          refine WL_nil ?_
                          refine nrmB ?_
                          refine nrm ?_
                          refine WC_region ?_
                          refine WL_val gd0 ((o_move (v := .int .i64 i37) (by exact e7_36)) _) rfl ?_
                          refine WL_val gd0 ((o_add rfl rfl) _) rfl ?_
                          refine WL_val gd0 ((o_assign (v := .int .i64 (IntKind.i64.wrap (i37 + 1))) rfl) _) rfl ?_
                          refine WL_nil ?_
                          refine nrm ?_
                          obtain ⟨m39, hm39, h⟩ := h
                          exact ⟨m39, hm39, _, _, rfl, rfl, e0_31, e3_32, e5_33, h⟩
                      · rw [if_neg (of_decide_eq_false hb74)] at h
                        refine WQ_skip rfl (gdN (b := (decide (x68 = x72))) 92 rfl rfl hb74) rfl ?_
                        refine WQ_skip rfl (gdN (b := (decide (x68 = x72))) 92 rfl rfl hb74) rfl ?_
                        refine WQ_skip rfl (gdN (b := (decide (x68 = x72))) 92 rfl rfl hb74) rfl ?_
                        refine WQ_val rfl (gdY (b := (decide (x63 < x59))) 82 rfl rfl hb65) (o_pickF (v := .bool false) rfl hb74 rfl) rfl ?_
                        refine WQ_val rfl (gdY (b := (decide (0 ≤ last35))) 72 rfl rfl hb54) (o_pickF (v := .bool false) rfl hb65 rfl) rfl ?_
                        refine WQ_val rfl (gdY (b := (decide ((l_n2 : Int) ≤ r42))) 69 rfl rfl hb53) (o_pickT (v := .bool false) rfl hb54 rfl) rfl ?_
                        refine WQ_val rfl gd0 (o_pickF (v := .bool false) rfl hb53 rfl) rfl ?_
                        refine WQ_nil ?_
                        refine nrm ?_
                        refine WC_cond (t := false) rfl (fun hx => by rw [(rfl : false = false)] at hx; cases hx) (fun _ => ?_)
                        refine WC_skip ?_
                        refine nrm ?_
                        refine WC_region ?_
                        refine WL_val gd0 ((o_move (v := .int .i64 r42) rfl) _) rfl ?_
                        refine WL_val gd0 ((o_assign (v := .int .i64 r42) rfl) _) rfl ?_
                        refine WL_nil ?_
                        refine nrmB ?_
                        refine nrm ?_
                        refine WC_region ?_
                        refine WL_val gd0 ((o_move (v := .int .i64 i37) (by exact e7_36)) _) rfl ?_
                        refine WL_val gd0 ((o_add rfl rfl) _) rfl ?_
                        refine WL_val gd0 ((o_assign (v := .int .i64 (IntKind.i64.wrap (i37 + 1))) rfl) _) rfl ?_
                        refine WL_nil ?_
                        refine nrm ?_
                        obtain ⟨m39, hm39, h⟩ := h
                        exact ⟨m39, hm39, _, _, rfl, rfl, e0_31, e3_32, e5_33, h⟩
                  · rw [if_neg (of_decide_eq_false hb54)] at h
                    refine WQ_skip rfl (gdN (b := (decide (0 ≤ last35))) 72 rfl rfl hb54) rfl ?_
                    refine WQ_skip rfl (gdN (b := (decide (0 ≤ last35))) 72 rfl rfl hb54) rfl ?_
                    refine WQ_skip rfl (gdN (b := (decide (0 ≤ last35))) 72 rfl rfl hb54) rfl ?_
                    refine WQ_skip rfl (gdN (b := (decide (0 ≤ last35))) 72 rfl rfl hb54) rfl ?_
                    refine WQ_skip rfl (gdN (b := (decide (0 ≤ last35))) 72 rfl rfl hb54) rfl ?_
                    refine WQ_skip rfl (gdN (b := (decide (0 ≤ last35))) 72 rfl rfl hb54) rfl ?_
                    refine WQ_skip rfl (gdN (b := (decide (0 ≤ last35))) 72 rfl rfl hb54) rfl ?_
                    refine WQ_skip rfl (gdN (b := (decide (0 ≤ last35))) 72 rfl rfl hb54) rfl ?_
                    refine WQ_skip rfl (gdN (b := (decide (0 ≤ last35))) 72 rfl rfl hb54) rfl ?_
                    refine WQ_skip rfl (gdN (b := (decide (0 ≤ last35))) 72 rfl rfl hb54) rfl ?_
                    refine WQ_skip rfl (gdU 82 rfl rfl) rfl ?_
                    refine WQ_skip rfl (gdU 82 rfl rfl) rfl ?_
                    refine WQ_skip rfl (gdU 82 rfl rfl) rfl ?_
                    refine WQ_skip rfl (gdU 82 rfl rfl) rfl ?_
                    refine WQ_skip rfl (gdU 82 rfl rfl) rfl ?_
                    refine WQ_skip rfl (gdU 82 rfl rfl) rfl ?_
                    refine WQ_skip rfl (gdU 82 rfl rfl) rfl ?_
                    refine WQ_skip rfl (gdU 82 rfl rfl) rfl ?_
                    refine WQ_skip rfl (gdU 82 rfl rfl) rfl ?_
                    refine WQ_skip rfl (gdU 82 rfl rfl) rfl ?_
                    refine WQ_skip rfl (gdU 92 rfl rfl) rfl ?_
                    refine WQ_skip rfl (gdU 92 rfl rfl) rfl ?_
                    refine WQ_skip rfl (gdU 92 rfl rfl) rfl ?_
                    refine WQ_skip rfl (gdU 82 rfl rfl) rfl ?_
                    refine WQ_skip rfl (gdN (b := (decide (0 ≤ last35))) 72 rfl rfl hb54) rfl ?_
                    refine WQ_val rfl (gdY (b := (decide ((l_n2 : Int) ≤ r42))) 69 rfl rfl hb53) (o_pickF (v := .bool false) rfl hb54 rfl) rfl ?_
                    refine WQ_val rfl gd0 (o_pickF (v := .bool false) rfl hb53 rfl) rfl ?_
                    refine WQ_nil ?_
                    refine nrm ?_
                    refine WC_cond (t := false) rfl (fun hx => by rw [(rfl : false = false)] at hx; cases hx) (fun _ => ?_)
                    refine WC_skip ?_
                    refine nrm ?_
                    refine WC_region ?_
                    refine WL_val gd0 ((o_move (v := .int .i64 r42) rfl) _) rfl ?_
                    refine WL_val gd0 ((o_assign (v := .int .i64 r42) rfl) _) rfl ?_
                    refine WL_nil ?_
                    refine nrmB ?_
                    refine nrm ?_
                    refine WC_region ?_
                    refine WL_val gd0 ((o_move (v := .int .i64 i37) (by exact e7_36)) _) rfl ?_
                    refine WL_val gd0 ((o_add rfl rfl) _) rfl ?_
                    refine WL_val gd0 ((o_assign (v := .int .i64 (IntKind.i64.wrap (i37 + 1))) rfl) _) rfl ?_
                    refine WL_nil ?_
                    refine nrm ?_
                    obtain ⟨m39, hm39, h⟩ := h
                    exact ⟨m39, hm39, _, _, rfl, rfl, e0_31, e3_32, e5_33, h⟩
        · rw [if_neg (of_decide_eq_false hb40)] at h
          refine WC_exit ?_
          refine exT ?_
          refine exT ?_
          refine exB ?_
          refine nrm ?_
          refine WC_seq ?_
          refine WC_region ?_
          refine WL_val gd0 ((o_move (v := .pointer q9) (by exact e3_32)) _) rfl ?_
          refine WL_call gd0 (o_call Try.call12 (argCons rfl argNil) _) rfl (h.mono ?_)
          rintro _ w76 ⟨r77, r78, rfl, h⟩
          refine WL_val gd0 ((o_move (v := .tuple #[.int .i64 r77, .bool r78]) rfl) _) rfl ?_
          refine WL_val gd0 ((o_extract (vs := [.int .i64 r77, .bool r78]) (r := .int .i64 r77) rfl rfl) _) rfl ?_
          refine WL_val gd0 ((o_extract (vs := [.int .i64 r77, .bool r78]) (r := .bool r78) rfl rfl) _) rfl ?_
          refine WL_val gd0 ((o_assign (v := .int .i64 r77) rfl) _) rfl ?_
          refine WL_val gd0 ((o_assign (v := .bool r78) rfl) _) rfl ?_
          refine WL_nil ?_
          refine nrm ?_
          refine WC_seq ?_
          refine WC_region ?_
          refine WL_val gd0 ((o_move (v := .bool r78) rfl) _) rfl ?_
          refine WL_val gd0 ((o_not rfl) _) rfl ?_
          refine WL_val gd0 ((o_move (v := .bool (!r78)) rfl) _) rfl ?_
          refine bsplit (!r78) (fun hb79 => ?_) (fun hb79 => ?_)
          · rw [if_pos hb79] at h
            refine WL_val (gdY (b := (!r78)) 108 rfl rfl hb79) ((o_move (v := .pointer q9) (by exact e3_32)) _) rfl ?_
            refine WL_call (gdY (b := (!r78)) 108 rfl rfl hb79) (o_call Try.call13 (argCons rfl argNil) _) rfl (h.mono ?_)
            rintro _ w80 ⟨x81, rfl, h⟩
            refine WL_val (gdY (b := (!r78)) 108 rfl rfl hb79) ((o_eql rfl rfl) _) rfl ?_
            refine WL_val gd0 ((o_pickT (v := .bool (decide (x81 = 0))) rfl hb79 rfl) _) rfl ?_
            refine WL_val gd0 ((o_move (v := .bool (decide (x81 = 0))) rfl) _) rfl ?_
            refine bsplit (decide (x81 = 0)) (fun hb82 => ?_) (fun hb82 => ?_)
            · rw [if_pos (of_decide_eq_true hb82)] at h
              refine WL_call (gdY (b := (decide (x81 = 0))) 113 rfl rfl hb82) (o_call Try.call8 argNil _) rfl (h.mono ?_)
              rintro _ w83 ⟨x84, rfl, h⟩
              refine WL_val gd0 ((o_pickT (v := .bool x84) rfl hb82 rfl) _) rfl ?_
              refine WL_val gd0 ((o_assign (v := .bool x84) rfl) _) rfl ?_
              refine WL_nil ?_
              refine nrm ?_
              refine WC_ret ?_
              refine rtE ?_
              exact gv1 rfl rfl h
            · rw [if_neg (of_decide_eq_false hb82)] at h
              refine WL_skip (gdN (b := (decide (x81 = 0))) 113 rfl rfl hb82) rfl ?_
              refine WL_val gd0 ((o_pickF (v := .bool false) rfl hb82 rfl) _) rfl ?_
              refine WL_val gd0 ((o_assign (v := .bool false) rfl) _) rfl ?_
              refine WL_nil ?_
              refine nrm ?_
              refine WC_ret ?_
              refine rtE ?_
              exact gv1 rfl rfl h
          · rw [if_neg (neT hb79)] at h
            refine WL_skip (gdN (b := (!r78)) 108 rfl rfl hb79) rfl ?_
            refine WL_skip (gdN (b := (!r78)) 108 rfl rfl hb79) rfl ?_
            refine WL_skip (gdN (b := (!r78)) 108 rfl rfl hb79) rfl ?_
            refine WL_val gd0 ((o_pickF (v := .bool false) rfl hb79 rfl) _) rfl ?_
            refine WL_val gd0 ((o_move (v := .bool false) rfl) _) rfl ?_
            refine WL_skip (gdN (b := false) 113 rfl rfl rfl) rfl ?_
            refine WL_val gd0 ((o_pickF (v := .bool false) rfl rfl rfl) _) rfl ?_
            refine WL_val gd0 ((o_assign (v := .bool false) rfl) _) rfl ?_
            refine WL_nil ?_
            refine nrm ?_
            refine WC_ret ?_
            refine rtE ?_
            exact gv1 rfl rfl h

def F4_j2 (q10 : Option Addr) (i17 : Int) (n33 : Int) (w35 : World) (k : Value → World → Prop) (nx18 : Int → Int → World → Prop) : Prop :=
  Does Try.prog 13 #[.pointer q10] w35 (fun v w36 => ∃ (x37 : Int), v = .int .i64 x37 ∧ if x37 ≠ n33 then
  k (.bool false) w36
else
  nx18 n33 (IntKind.i64.wrap (i17 + 1)) w36)
def F4_j3 (q10 : Option Addr) (i17 : Int) (n15 : Int) (most1 : Int) (e_28 : Int) (t46 : Bool) (w47 : World) (k : Value → World → Prop) (nx18 : Int → Int → World → Prop) : Prop :=
  if t46 = true then
  F4_j2 q10 i17 (IntKind.i64.wrap (n15 + 1)) w47 k nx18
else
  if n15 < (min (max most1 0) 256) then
    k (.bool false) w47
  else
    if e_28 ≠ 7 then
      k (.bool false) w47
    else
      F4_j2 q10 i17 n15 w47 k nx18
def F4_b1 (l_n3 : Nat) (l_a2 : Option Addr) (q10 : Option Addr) (most1 : Int) (n15 : Int) (i17 : Int) (w18 : World) (k : Value → World → Prop) (nx18 : Int → Int → World → Prop) : Prop :=
  if i17 < (l_n3 : Int) then
  ∃ (p23 : Addr), l_a2 = some p23 ∧ (0 : Int) ≤ i17 ∧ i17 < (l_n3 : Int) ∧ ∃ (x25 : Int), w18.cell? (p23.add i17.toNat) = some (.int .i64 x25) ∧ Does Try.prog 10 #[.pointer q10, .int .i64 x25, .int .i64 i17] w18 (fun v w27 => ∃ (e_28 : Int), v = .int .i64 e_28 ∧ if n15 < (min (max most1 0) 256) then
    F4_j3 q10 i17 n15 most1 e_28 (decide (e_28 = 0)) w27 k nx18
  else
    F4_j3 q10 i17 n15 most1 e_28 false w27 k nx18)
else
  if n15 = 0 then
    Does Try.prog 8 #[] w18 (fun v w53 => ∃ (t54 : Bool), v = .bool t54 ∧ k (.bool t54) w53)
  else
    Does Try.prog 10 #[.pointer q10, .int .i64 0, .int .i64 0] w18 (fun v w55 => ∃ (x56 : Int), v = .int .i64 x56 ∧ if x56 = 9 then
      Does Try.prog 14 #[.pointer q10, .int .i64 0] w55 (fun v w58 => ∃ (x59 : Bool), v = .bool x59 ∧ if x59 = true then
        Does Try.prog 14 #[.pointer q10, .int .i64 0] w58 (fun v w61 => ∃ (x62 : Bool), v = .bool x62 ∧ if (!x62) = true then
          Does Try.prog 10 #[.pointer q10, .int .i64 1, .int .i64 (-1)] w61 (fun v w64 => ∃ (x65 : Int), v = .int .i64 x65 ∧ if x65 = 0 then
            Does Try.prog 13 #[.pointer q10] w64 (fun v w67 => ∃ (x68 : Int), v = .int .i64 x68 ∧ if x68 = n15 then
              Does Try.prog 8 #[] w67 (fun v w70 => ∃ (x71 : Bool), v = .bool x71 ∧ k (.bool x71) w70)
            else
              k (.bool false) w67)
          else
            k (.bool false) w64)
        else
          k (.bool false) w61)
      else
        k (.bool false) w58)
    else
      k (.bool false) w55)
/-- spacecraft spacecraftlaw08.QueueFull -/
def F4 (most1 : Int) (l_a2 : Option Addr) (l_n3 : Nat) (l_c4 : Nat) (w5 : World) (k : Value → World → Prop) : Prop :=
  if 300 < (l_n3 : Int) then
  Does Try.prog 8 #[] w5 (fun v w7 => ∃ (t8 : Bool), v = .bool t8 ∧ k (.bool t8) w7)
else
  Does Try.prog 9 #[.int .i64 most1] w5 (fun v w9 => ∃ (q10 : Option Addr), v = .pointer q10 ∧ LoopP (fun (s : Int × Int) w' nx' => F4_b1 l_n3 l_a2 q10 most1 (s.1) (s.2) w' k (fun x0 x1 w => nx' (x0, x1) w)) (0, 0) w9)
set_option maxRecDepth 100000 in
set_option maxHeartbeats 2000000 in
theorem w4 (most1 : Int) (l_a2 : Option Addr) (l_n3 : Nat) (l_c4 : Nat) (w5 : World) (k : Value → World → Prop) (h : F4 most1 l_a2 l_n3 l_c4 w5 k) : Does Try.prog 4 #[.int .i64 most1, .slice l_a2 l_n3 l_c4] w5 k := by
  refine enter 81 Try.func4 rfl rfl rfl ?_
  intro ρ hρ
  have e0 := hρ 0 _ rfl
  have e1 := hρ 1 _ rfl
  unfold F4 at h
  refine WC_seq ?_
  refine WC_region ?_
  refine WL_val gd0 ((o_assign (v := .bool false) rfl) _) rfl ?_
  refine WL_nil ?_
  refine nrm ?_
  refine WC_seq ?_
  refine WC_seq ?_
  refine WC_region ?_
  refine WL_val gd0 ((o_move (v := .slice l_a2 l_n3 l_c4) (by exact e1)) _) rfl ?_
  refine WL_val gd0 ((o_len Try.underlying22 rfl) _) rfl ?_
  refine WL_val gd0 ((o_gtr rfl rfl) _) rfl ?_
  refine WL_nil ?_
  refine nrm ?_
  refine WC_cond (t := (decide (300 < (l_n3 : Int)))) rfl (fun hb6 => ?_) (fun hb6 => ?_)
  · rw [if_pos (of_decide_eq_true hb6)] at h
    refine WC_seq ?_
    refine WC_region ?_
    refine WL_call gd0 (o_call Try.call8 argNil _) rfl (h.mono ?_)
    rintro _ w7 ⟨t8, rfl, h⟩
    refine WL_val gd0 ((o_assign (v := .bool t8) rfl) _) rfl ?_
    refine WL_nil ?_
    refine nrm ?_
    refine WC_ret ?_
    refine rtT ?_
    refine rtE ?_
    exact gv1 rfl rfl h
  · rw [if_neg (of_decide_eq_false hb6)] at h
    refine WC_skip ?_
    refine nrm ?_
    refine WC_seq ?_
    refine WC_region ?_
    refine WL_val gd0 ((o_move (v := .int .i64 most1) (by exact e0)) _) rfl ?_
    refine WL_val gd0 ((o_max2 rfl rfl) _) rfl ?_
    refine WL_val gd0 ((o_min2 rfl rfl) _) rfl ?_
    refine WL_val gd0 ((o_assign (v := .int .i64 (min (max most1 0) 256)) rfl) _) rfl ?_
    refine WL_nil ?_
    refine nrm ?_
    refine WC_seq ?_
    refine WC_region ?_
    refine WL_val gd0 ((o_move (v := .int .i64 most1) (by exact e0)) _) rfl ?_
    refine WL_call gd0 (o_call Try.call9 (argCons rfl argNil) _) rfl (h.mono ?_)
    rintro _ w9 ⟨q10, rfl, h⟩
    refine WL_val gd0 ((o_assign (v := .pointer q10) rfl) _) rfl ?_
    refine WL_nil ?_
    refine nrm ?_
    refine WC_seq ?_
    refine WC_region ?_
    refine WL_val gd0 ((o_assign (v := .int .i64 0) rfl) _) rfl ?_
    refine WL_nil ?_
    refine nrm ?_
    refine WC_seq ?_
    refine WC_seq ?_
    refine WC_region ?_
    refine WL_val gd0 ((o_assign (v := .int .i64 0) rfl) _) rfl ?_
    refine WL_nil ?_
    refine nrm ?_
    refine WC_block ?_
    obtain ⟨J18, ⟨n18, h0⟩, hr18⟩ := h
    refine WC_loop (fun n ρ w' => ∃ (n15 i17 : Int), ρ 7 = .int .i64 n15 ∧ ρ 8 = .int .i64 i17 ∧ ρ 1 = .slice l_a2 l_n3 l_c4 ∧ ρ 5 = .int .i64 (min (max most1 0) 256) ∧ ρ 6 = .pointer q10 ∧ J18 n (n15, i17) w') ⟨n18, _, _, rfl, rfl, e1, rfl, rfl, h0⟩ ?_
    rintro n18 ρ w18 ⟨n15, i17, e7_14, e8_16, e1_11, e5_12, e6_13, h⟩
    have h : F4_b1 l_n3 l_a2 q10 most1 n15 i17 w18 k (fun x0 x1 w => ∃ m, m < n18 ∧ J18 m (x0, x1) w) := hr18 n18 (n15, i17) w18 h
    unfold F4_b1 at h
    refine WC_seq ?_
    refine WC_seq ?_
    refine WC_region ?_
    refine WL_val gd0 ((o_move (v := .int .i64 i17) (by exact e8_16)) _) rfl ?_
    refine WL_val gd0 ((o_move (v := .slice l_a2 l_n3 l_c4) (by exact e1_11)) _) rfl ?_
    refine WL_val gd0 ((o_len Try.underlying22 rfl) _) rfl ?_
    refine WL_val gd0 ((o_lss rfl rfl) _) rfl ?_
    refine WL_nil ?_
    refine nrm ?_
    refine WC_cond (t := (decide (i17 < (l_n3 : Int)))) rfl (fun hb20 => ?_) (fun hb20 => ?_)
    · rw [if_pos (of_decide_eq_true hb20)] at h
      refine WC_skip ?_
      refine nrm ?_
      refine WC_seq ?_
      refine WC_block ?_
      refine WC_seq ?_
      refine WC_region ?_
      refine WL_val gd0 ((o_move (v := .pointer q10) (by exact e6_13)) _) rfl ?_
      refine WL_val gd0 ((o_move (v := .slice l_a2 l_n3 l_c4) (by exact e1_11)) _) rfl ?_
      refine WL_val gd0 ((o_move (v := .int .i64 i17) (by exact e8_16)) _) rfl ?_
      obtain ⟨p23, q24, h⟩ := h
      obtain ⟨l21, u22, h⟩ := h
      refine WL_val gd0 ((o_indexAddr1 Try.underlying22 Try.sizeOf3 (by exact (congrArg (fun z => Value.slice z l_n3 l_c4) q24)) rfl l21 u22) _) rfl ?_
      obtain ⟨x25, hc26, h⟩ := h
      refine WL_val gd0 (o_load Try.isAgg3 rfl hc26) rfl ?_
      refine WL_val gd0 ((o_move (v := .int .i64 i17) (by exact e8_16)) _) rfl ?_
      refine WL_call gd0 (o_call Try.call10 (argCons rfl (argCons rfl (argCons rfl argNil))) _) rfl (h.mono ?_)
      rintro _ w27 ⟨e_28, rfl, h⟩
      refine WL_val gd0 ((o_assign (v := .int .i64 e_28) rfl) _) rfl ?_
      refine WL_nil ?_
      refine nrm ?_
      refine WC_cut (fun ρ w' => ∃ (n33 : Int), ρ 7 = .int .i64 n33 ∧ ρ 1 = .slice l_a2 l_n3 l_c4 ∧ ρ 5 = .int .i64 (min (max most1 0) 256) ∧ ρ 6 = .pointer q10 ∧ ρ 8 = .int .i64 i17 ∧ F4_j2 q10 i17 n33 w' k (fun x0 x1 w => ∃ m, m < n18 ∧ J18 m (x0, x1) w)) ?_ ?_
      · refine WC_cut (fun ρ w' => ∃ (t46 : Bool), ρ 38 = .bool t46 ∧ ρ 1 = .slice l_a2 l_n3 l_c4 ∧ ρ 5 = .int .i64 (min (max most1 0) 256) ∧ ρ 6 = .pointer q10 ∧ ρ 7 = .int .i64 n15 ∧ ρ 8 = .int .i64 i17 ∧ ρ 9 = .int .i64 e_28 ∧ F4_j3 q10 i17 n15 most1 e_28 t46 w' k (fun x0 x1 w => ∃ m, m < n18 ∧ J18 m (x0, x1) w)) ?_ ?_
        · refine WC_region ?_
          refine WL_val gd0 ((o_move (v := .int .i64 n15) (by exact e7_14)) _) rfl ?_
          refine WL_val gd0 ((o_move (v := .int .i64 (min (max most1 0) 256)) (by exact e5_12)) _) rfl ?_
          refine WL_val gd0 ((o_lss rfl rfl) _) rfl ?_
          refine WL_val gd0 ((o_move (v := .bool (decide (n15 < (min (max most1 0) 256)))) rfl) _) rfl ?_
          refine bsplit (decide (n15 < (min (max most1 0) 256))) (fun hb51 => ?_) (fun hb51 => ?_)
          · rw [if_pos (of_decide_eq_true hb51)] at h
            refine WL_val (gdY (b := (decide (n15 < (min (max most1 0) 256)))) 35 rfl rfl hb51) ((o_move (v := .int .i64 e_28) rfl) _) rfl ?_
            refine WL_val (gdY (b := (decide (n15 < (min (max most1 0) 256)))) 35 rfl rfl hb51) ((o_eql rfl rfl) _) rfl ?_
            refine WL_val gd0 ((o_pickT (v := .bool (decide (e_28 = 0))) rfl hb51 rfl) _) rfl ?_
            refine WL_nil ?_
            refine nrm ?_
            exact ⟨_, rfl, e1_11, e5_12, e6_13, e7_14, e8_16, rfl, h⟩
          · rw [if_neg (of_decide_eq_false hb51)] at h
            refine WL_skip (gdN (b := (decide (n15 < (min (max most1 0) 256)))) 35 rfl rfl hb51) rfl ?_
            refine WL_skip (gdN (b := (decide (n15 < (min (max most1 0) 256)))) 35 rfl rfl hb51) rfl ?_
            refine WL_val gd0 ((o_pickF (v := .bool false) rfl hb51 rfl) _) rfl ?_
            refine WL_nil ?_
            refine nrm ?_
            exact ⟨_, rfl, e1_11, e5_12, e6_13, e7_14, e8_16, rfl, h⟩
        · rintro ρ w47 ⟨t46, e38_45, e1_39, e5_40, e6_41, e7_42, e8_43, e9_44, h⟩
          unfold F4_j3 at h
          refine WC_cond (t := t46) (by exact e38_45) (fun hb48 => ?_) (fun hb48 => ?_)
          · rw [if_pos hb48] at h
            refine WC_region ?_
            refine WL_val gd0 ((o_move (v := .int .i64 n15) (by exact e7_42)) _) rfl ?_
            refine WL_val gd0 ((o_add rfl rfl) _) rfl ?_
            refine WL_val gd0 ((o_assign (v := .int .i64 (IntKind.i64.wrap (n15 + 1))) rfl) _) rfl ?_
            refine WL_nil ?_
            refine nrm ?_
            exact ⟨_, rfl, e1_39, e5_40, e6_41, e8_43, h⟩
          · rw [if_neg (neT hb48)] at h
            refine WC_seq ?_
            refine WC_region ?_
            refine WL_val gd0 ((o_move (v := .int .i64 n15) (by exact e7_42)) _) rfl ?_
            refine WL_val gd0 ((o_move (v := .int .i64 (min (max most1 0) 256)) (by exact e5_40)) _) rfl ?_
            refine WL_val gd0 ((o_lss rfl rfl) _) rfl ?_
            refine WL_val gd0 ((o_move (v := .bool (decide (n15 < (min (max most1 0) 256)))) rfl) _) rfl ?_
            refine bsplit (decide (n15 < (min (max most1 0) 256))) (fun hb49 => ?_) (fun hb49 => ?_)
            · rw [if_pos (of_decide_eq_true hb49)] at h
              refine WL_skip (gdN (b := (decide (n15 < (min (max most1 0) 256)))) 44 rfl rfl hb49) rfl ?_
              refine WL_skip (gdN (b := (decide (n15 < (min (max most1 0) 256)))) 44 rfl rfl hb49) rfl ?_
              refine WL_val gd0 ((o_pickT (v := .bool true) rfl hb49 rfl) _) rfl ?_
              refine WL_nil ?_
              refine nrm ?_
              refine WC_cond (t := true) rfl (fun _ => ?_) (fun hx => by rw [(rfl : true = true)] at hx; cases hx)
              refine WC_seq ?_
              refine WC_region ?_
              refine WL_val gd0 ((o_assign (v := .bool false) rfl) _) rfl ?_
              refine WL_nil ?_
              refine nrm ?_
              refine WC_ret ?_
              refine rtT ?_
              refine rtB ?_
              refine rtT ?_
              refine rtT ?_
              refine rtB ?_
              refine rtT ?_
              refine rtE ?_
              exact gv1 rfl rfl h
            · rw [if_neg (of_decide_eq_false hb49)] at h
              refine WL_val (gdY (b := (decide (n15 < (min (max most1 0) 256)))) 44 rfl rfl hb49) ((o_move (v := .int .i64 e_28) (by exact e9_44)) _) rfl ?_
              refine WL_val (gdY (b := (decide (n15 < (min (max most1 0) 256)))) 44 rfl rfl hb49) ((o_neq rfl rfl) _) rfl ?_
              refine WL_val gd0 ((o_pickF (v := .bool (decide (e_28 ≠ 7))) rfl hb49 rfl) _) rfl ?_
              refine WL_nil ?_
              refine nrm ?_
              refine WC_cond (t := (decide (e_28 ≠ 7))) rfl (fun hb50 => ?_) (fun hb50 => ?_)
              · rw [if_pos (of_decide_eq_true hb50)] at h
                refine WC_seq ?_
                refine WC_region ?_
                refine WL_val gd0 ((o_assign (v := .bool false) rfl) _) rfl ?_
                refine WL_nil ?_
                refine nrm ?_
                refine WC_ret ?_
                refine rtT ?_
                refine rtB ?_
                refine rtT ?_
                refine rtT ?_
                refine rtB ?_
                refine rtT ?_
                refine rtE ?_
                exact gv1 rfl rfl h
              · rw [if_neg (of_decide_eq_false hb50)] at h
                refine WC_skip ?_
                refine nrm ?_
                exact ⟨_, e7_42, e1_39, e5_40, e6_41, e8_43, h⟩
      · rintro ρ w35 ⟨n33, e7_32, e1_29, e5_30, e6_31, e8_34, h⟩
        unfold F4_j2 at h
        refine WC_seq ?_
        refine WC_region ?_
        refine WL_val gd0 ((o_move (v := .pointer q10) (by exact e6_31)) _) rfl ?_
        refine WL_call gd0 (o_call Try.call13 (argCons rfl argNil) _) rfl (h.mono ?_)
        rintro _ w36 ⟨x37, rfl, h⟩
        refine WL_val gd0 ((o_move (v := .int .i64 n33) (by exact e7_32)) _) rfl ?_
        refine WL_val gd0 ((o_neq rfl rfl) _) rfl ?_
        refine WL_nil ?_
        refine nrm ?_
        refine WC_cond (t := (decide (x37 ≠ n33))) rfl (fun hb38 => ?_) (fun hb38 => ?_)
        · rw [if_pos (of_decide_eq_true hb38)] at h
          refine WC_seq ?_
          refine WC_region ?_
          refine WL_val gd0 ((o_assign (v := .bool false) rfl) _) rfl ?_
          refine WL_nil ?_
          refine nrm ?_
          refine WC_ret ?_
          refine rtB ?_
          refine rtT ?_
          refine rtT ?_
          refine rtB ?_
          refine rtT ?_
          refine rtE ?_
          exact gv1 rfl rfl h
        · rw [if_neg (of_decide_eq_false hb38)] at h
          refine WC_skip ?_
          refine nrmB ?_
          refine nrm ?_
          refine WC_region ?_
          refine WL_val gd0 ((o_move (v := .int .i64 i17) (by exact e8_34)) _) rfl ?_
          refine WL_val gd0 ((o_add rfl rfl) _) rfl ?_
          refine WL_val gd0 ((o_assign (v := .int .i64 (IntKind.i64.wrap (i17 + 1))) rfl) _) rfl ?_
          refine WL_nil ?_
          refine nrm ?_
          obtain ⟨m19, hm19, h⟩ := h
          exact ⟨m19, hm19, _, _, e7_32, rfl, e1_29, e5_30, e6_31, h⟩
    · rw [if_neg (of_decide_eq_false hb20)] at h
      refine WC_exit ?_
      refine exT ?_
      refine exT ?_
      refine exB ?_
      refine nrm ?_
      refine WC_seq ?_
      refine WC_seq ?_
      refine WC_region ?_
      refine WL_val gd0 ((o_move (v := .int .i64 n15) (by exact e7_14)) _) rfl ?_
      refine WL_val gd0 ((o_eql rfl rfl) _) rfl ?_
      refine WL_nil ?_
      refine nrm ?_
      refine WC_cond (t := (decide (n15 = 0))) rfl (fun hb52 => ?_) (fun hb52 => ?_)
      · rw [if_pos (of_decide_eq_true hb52)] at h
        refine WC_seq ?_
        refine WC_region ?_
        refine WL_call gd0 (o_call Try.call8 argNil _) rfl (h.mono ?_)
        rintro _ w53 ⟨t54, rfl, h⟩
        refine WL_val gd0 ((o_assign (v := .bool t54) rfl) _) rfl ?_
        refine WL_nil ?_
        refine nrm ?_
        refine WC_ret ?_
        refine rtT ?_
        refine rtE ?_
        exact gv1 rfl rfl h
      · rw [if_neg (of_decide_eq_false hb52)] at h
        refine WC_skip ?_
        refine nrm ?_
        refine WC_seq ?_
        refine WC_region ?_
        refine WL_val gd0 ((o_move (v := .pointer q10) (by exact e6_13)) _) rfl ?_
        refine WL_call gd0 (o_call Try.call10 (argCons rfl (argCons rfl (argCons rfl argNil))) _) rfl (h.mono ?_)
        rintro _ w55 ⟨x56, rfl, h⟩
        refine WL_val gd0 ((o_eql rfl rfl) _) rfl ?_
        refine WL_val gd0 ((o_move (v := .bool (decide (x56 = 9))) rfl) _) rfl ?_
        refine bsplit (decide (x56 = 9)) (fun hb57 => ?_) (fun hb57 => ?_)
        · rw [if_pos (of_decide_eq_true hb57)] at h
          refine WL_val (gdY (b := (decide (x56 = 9))) 58 rfl rfl hb57) ((o_move (v := .pointer q10) (by exact e6_13)) _) rfl ?_
          refine WL_call (gdY (b := (decide (x56 = 9))) 58 rfl rfl hb57) (o_call Try.call14 (argCons rfl (argCons rfl argNil)) _) rfl (h.mono ?_)
          rintro _ w58 ⟨x59, rfl, h⟩
          refine WL_val gd0 ((o_pickT (v := .bool x59) rfl hb57 rfl) _) rfl ?_
          refine WL_val gd0 ((o_move (v := .bool x59) rfl) _) rfl ?_
          refine bsplit x59 (fun hb60 => ?_) (fun hb60 => ?_)
          · rw [if_pos hb60] at h
            refine WL_val (gdY (b := x59) 62 rfl rfl hb60) ((o_move (v := .pointer q10) (by exact e6_13)) _) rfl ?_
            refine WL_call (gdY (b := x59) 62 rfl rfl hb60) (o_call Try.call14 (argCons rfl (argCons rfl argNil)) _) rfl (h.mono ?_)
            rintro _ w61 ⟨x62, rfl, h⟩
            refine WL_val (gdY (b := x59) 62 rfl rfl hb60) ((o_not rfl) _) rfl ?_
            refine WL_val gd0 ((o_pickT (v := .bool (!x62)) rfl hb60 rfl) _) rfl ?_
            refine WL_val gd0 ((o_move (v := .bool (!x62)) rfl) _) rfl ?_
            refine bsplit (!x62) (fun hb63 => ?_) (fun hb63 => ?_)
            · rw [if_pos hb63] at h
              refine WL_val (gdY (b := (!x62)) 67 rfl rfl hb63) ((o_move (v := .pointer q10) (by exact e6_13)) _) rfl ?_
              refine WL_call (gdY (b := (!x62)) 67 rfl rfl hb63) (o_call Try.call10 (argCons rfl (argCons rfl (argCons rfl argNil))) _) rfl (h.mono ?_)
              rintro _ w64 ⟨x65, rfl, h⟩
              refine WL_val (gdY (b := (!x62)) 67 rfl rfl hb63) ((o_eql rfl rfl) _) rfl ?_
              refine WL_val gd0 ((o_pickT (v := .bool (decide (x65 = 0))) rfl hb63 rfl) _) rfl ?_
              refine WL_val gd0 ((o_move (v := .bool (decide (x65 = 0))) rfl) _) rfl ?_
              refine bsplit (decide (x65 = 0)) (fun hb66 => ?_) (fun hb66 => ?_)
              · rw [if_pos (of_decide_eq_true hb66)] at h
                refine WL_val (gdY (b := (decide (x65 = 0))) 72 rfl rfl hb66) ((o_move (v := .pointer q10) (by exact e6_13)) _) rfl ?_
                refine WL_call (gdY (b := (decide (x65 = 0))) 72 rfl rfl hb66) (o_call Try.call13 (argCons rfl argNil) _) rfl (h.mono ?_)
                rintro _ w67 ⟨x68, rfl, h⟩
                refine WL_val (gdY (b := (decide (x65 = 0))) 72 rfl rfl hb66) ((o_move (v := .int .i64 n15) (by exact e7_14)) _) rfl ?_
                refine WL_val (gdY (b := (decide (x65 = 0))) 72 rfl rfl hb66) ((o_eql rfl rfl) _) rfl ?_
                refine WL_val gd0 ((o_pickT (v := .bool (decide (x68 = n15))) rfl hb66 rfl) _) rfl ?_
                refine WL_val gd0 ((o_move (v := .bool (decide (x68 = n15))) rfl) _) rfl ?_
                refine bsplit (decide (x68 = n15)) (fun hb69 => ?_) (fun hb69 => ?_)
                · rw [if_pos (of_decide_eq_true hb69)] at h
                  refine WL_call (gdY (b := (decide (x68 = n15))) 78 rfl rfl hb69) (o_call Try.call8 argNil _) rfl (h.mono ?_)
                  rintro _ w70 ⟨x71, rfl, h⟩
                  refine WL_val gd0 ((o_pickT (v := .bool x71) rfl hb69 rfl) _) rfl ?_
                  refine WL_val gd0 ((o_assign (v := .bool x71) rfl) _) rfl ?_
                  refine WL_nil ?_
                  refine nrm ?_
                  refine WC_ret ?_
                  refine rtE ?_
                  exact gv1 rfl rfl h
                · rw [if_neg (of_decide_eq_false hb69)] at h
                  refine WL_skip (gdN (b := (decide (x68 = n15))) 78 rfl rfl hb69) rfl ?_
                  refine WL_val gd0 ((o_pickF (v := .bool false) rfl hb69 rfl) _) rfl ?_
                  refine WL_val gd0 ((o_assign (v := .bool false) rfl) _) rfl ?_
                  refine WL_nil ?_
                  refine nrm ?_
                  refine WC_ret ?_
                  refine rtE ?_
                  exact gv1 rfl rfl h
              · rw [if_neg (of_decide_eq_false hb66)] at h
                refine WL_skip (gdN (b := (decide (x65 = 0))) 72 rfl rfl hb66) rfl ?_
                refine WL_skip (gdN (b := (decide (x65 = 0))) 72 rfl rfl hb66) rfl ?_
                refine WL_skip (gdN (b := (decide (x65 = 0))) 72 rfl rfl hb66) rfl ?_
                refine WL_skip (gdN (b := (decide (x65 = 0))) 72 rfl rfl hb66) rfl ?_
                refine WL_val gd0 ((o_pickF (v := .bool false) rfl hb66 rfl) _) rfl ?_
                refine WL_val gd0 ((o_move (v := .bool false) rfl) _) rfl ?_
                refine WL_skip (gdN (b := false) 78 rfl rfl rfl) rfl ?_
                refine WL_val gd0 ((o_pickF (v := .bool false) rfl rfl rfl) _) rfl ?_
                refine WL_val gd0 ((o_assign (v := .bool false) rfl) _) rfl ?_
                refine WL_nil ?_
                refine nrm ?_
                refine WC_ret ?_
                refine rtE ?_
                exact gv1 rfl rfl h
            · rw [if_neg (neT hb63)] at h
              refine WL_skip (gdN (b := (!x62)) 67 rfl rfl hb63) rfl ?_
              refine WL_skip (gdN (b := (!x62)) 67 rfl rfl hb63) rfl ?_
              refine WL_skip (gdN (b := (!x62)) 67 rfl rfl hb63) rfl ?_
              refine WL_val gd0 ((o_pickF (v := .bool false) rfl hb63 rfl) _) rfl ?_
              refine WL_val gd0 ((o_move (v := .bool false) rfl) _) rfl ?_
              refine WL_skip (gdN (b := false) 72 rfl rfl rfl) rfl ?_
              refine WL_skip (gdN (b := false) 72 rfl rfl rfl) rfl ?_
              refine WL_skip (gdN (b := false) 72 rfl rfl rfl) rfl ?_
              refine WL_skip (gdN (b := false) 72 rfl rfl rfl) rfl ?_
              refine WL_val gd0 ((o_pickF (v := .bool false) rfl rfl rfl) _) rfl ?_
              refine WL_val gd0 ((o_move (v := .bool false) rfl) _) rfl ?_
              refine WL_skip (gdN (b := false) 78 rfl rfl rfl) rfl ?_
              refine WL_val gd0 ((o_pickF (v := .bool false) rfl rfl rfl) _) rfl ?_
              refine WL_val gd0 ((o_assign (v := .bool false) rfl) _) rfl ?_
              refine WL_nil ?_
              refine nrm ?_
              refine WC_ret ?_
              refine rtE ?_
              exact gv1 rfl rfl h
          · rw [if_neg (neT hb60)] at h
            refine WL_skip (gdN (b := x59) 62 rfl rfl hb60) rfl ?_
            refine WL_skip (gdN (b := x59) 62 rfl rfl hb60) rfl ?_
            refine WL_skip (gdN (b := x59) 62 rfl rfl hb60) rfl ?_
            refine WL_val gd0 ((o_pickF (v := .bool false) rfl hb60 rfl) _) rfl ?_
            refine WL_val gd0 ((o_move (v := .bool false) rfl) _) rfl ?_
            refine WL_skip (gdN (b := false) 67 rfl rfl rfl) rfl ?_
            refine WL_skip (gdN (b := false) 67 rfl rfl rfl) rfl ?_
            refine WL_skip (gdN (b := false) 67 rfl rfl rfl) rfl ?_
            refine WL_val gd0 ((o_pickF (v := .bool false) rfl rfl rfl) _) rfl ?_
            refine WL_val gd0 ((o_move (v := .bool false) rfl) _) rfl ?_
            refine WL_skip (gdN (b := false) 72 rfl rfl rfl) rfl ?_
            refine WL_skip (gdN (b := false) 72 rfl rfl rfl) rfl ?_
            refine WL_skip (gdN (b := false) 72 rfl rfl rfl) rfl ?_
            refine WL_skip (gdN (b := false) 72 rfl rfl rfl) rfl ?_
            refine WL_val gd0 ((o_pickF (v := .bool false) rfl rfl rfl) _) rfl ?_
            refine WL_val gd0 ((o_move (v := .bool false) rfl) _) rfl ?_
            refine WL_skip (gdN (b := false) 78 rfl rfl rfl) rfl ?_
            refine WL_val gd0 ((o_pickF (v := .bool false) rfl rfl rfl) _) rfl ?_
            refine WL_val gd0 ((o_assign (v := .bool false) rfl) _) rfl ?_
            refine WL_nil ?_
            refine nrm ?_
            refine WC_ret ?_
            refine rtE ?_
            exact gv1 rfl rfl h
        · rw [if_neg (of_decide_eq_false hb57)] at h
          refine WL_skip (gdN (b := (decide (x56 = 9))) 58 rfl rfl hb57) rfl ?_
          refine WL_skip (gdN (b := (decide (x56 = 9))) 58 rfl rfl hb57) rfl ?_
          refine WL_val gd0 ((o_pickF (v := .bool false) rfl hb57 rfl) _) rfl ?_
          refine WL_val gd0 ((o_move (v := .bool false) rfl) _) rfl ?_
          refine WL_skip (gdN (b := false) 62 rfl rfl rfl) rfl ?_
          refine WL_skip (gdN (b := false) 62 rfl rfl rfl) rfl ?_
          refine WL_skip (gdN (b := false) 62 rfl rfl rfl) rfl ?_
          refine WL_val gd0 ((o_pickF (v := .bool false) rfl rfl rfl) _) rfl ?_
          refine WL_val gd0 ((o_move (v := .bool false) rfl) _) rfl ?_
          refine WL_skip (gdN (b := false) 67 rfl rfl rfl) rfl ?_
          refine WL_skip (gdN (b := false) 67 rfl rfl rfl) rfl ?_
          refine WL_skip (gdN (b := false) 67 rfl rfl rfl) rfl ?_
          refine WL_val gd0 ((o_pickF (v := .bool false) rfl rfl rfl) _) rfl ?_
          refine WL_val gd0 ((o_move (v := .bool false) rfl) _) rfl ?_
          refine WL_skip (gdN (b := false) 72 rfl rfl rfl) rfl ?_
          refine WL_skip (gdN (b := false) 72 rfl rfl rfl) rfl ?_
          refine WL_skip (gdN (b := false) 72 rfl rfl rfl) rfl ?_
          refine WL_skip (gdN (b := false) 72 rfl rfl rfl) rfl ?_
          refine WL_val gd0 ((o_pickF (v := .bool false) rfl rfl rfl) _) rfl ?_
          refine WL_val gd0 ((o_move (v := .bool false) rfl) _) rfl ?_
          refine WL_skip (gdN (b := false) 78 rfl rfl rfl) rfl ?_
          refine WL_val gd0 ((o_pickF (v := .bool false) rfl rfl rfl) _) rfl ?_
          refine WL_val gd0 ((o_assign (v := .bool false) rfl) _) rfl ?_
          refine WL_nil ?_
          refine nrm ?_
          refine WC_ret ?_
          refine rtE ?_
          exact gv1 rfl rfl h

def F5_j4 (after_a50 : Option Addr) (i72 : Int) (after_n51 : Nat) (at4 : Int) (l_n2 : Nat) (b_a64 : Option Addr) (b_n65 : Nat) (b_c66 : Nat) (ok70 : Bool) (behind68 : Bool) (p42 : Addr) (a_a81 : Option Addr) (a_n82 : Nat) (a_c83 : Nat) (w88 : World) (nx73 : Option Addr → Nat → Nat → Option Addr → Nat → Nat → Bool → Bool → Int → World → Prop) : Prop :=
  ∃ (p91 : Addr), after_a50 = some p91 ∧ (0 : Int) ≤ i72 ∧ i72 < (after_n51 : Int) ∧ ∃ (x93 : Int), w88.cell? (p91.add i72.toNat) = some (.int .i64 x93) ∧ if x93 ≠ (Int.tmod (IntKind.i64.wrap at4) (l_n2 : Int)) then
  (0 : Int) ≤ i72 ∧ i72 < (after_n51 : Int) ∧ ∃ (x98 : Int), w88.cell? (p91.add i72.toNat) = some (.int .i64 x98) ∧ New w88 3 [.int .i64 x98] (fun p100 w101 => ∃ (b_a102 : Option Addr) (b_n103 b_c104 : Nat) (w105 : World), (Builtin.append_ #[22, 22] 22 #[.slice b_a64 b_n65 b_c66, .slice (some p100) 1 1]).run Try.prog w101 = .ok (.slice b_a102 b_n103 b_c104) w105 ∧ if ok70 = true then
    (0 : Int) ≤ i72 ∧ i72 < (after_n51 : Int) ∧ ∃ (x110 : Int), w105.drew.cell? (p91.add i72.toNat) = some (.int .i64 x110) ∧ if 0 ≤ x110 then
      (0 : Int) ≤ i72 ∧ i72 < (after_n51 : Int) ∧ ∃ (x115 : Int), w105.drew.cell? (p91.add i72.toNat) = some (.int .i64 x115) ∧ if x115 < (l_n2 : Int) then
        if (!behind68) = true then
          nx73 a_a81 a_n82 a_c83 b_a102 b_n103 b_c104 behind68 true (IntKind.i64.wrap (i72 + 1)) w105.drew
        else
          (0 : Int) ≤ i72 ∧ i72 < (after_n51 : Int) ∧ ∃ (x121 : Int), w105.drew.cell? (p91.add i72.toNat) = some (.int .i64 x121) ∧ (0 : Int) ≤ x121 ∧ x121 < (l_n2 : Int) ∧ ∃ (x125 : Int), w105.drew.cell? (p42.add x121.toNat) = some (.int .i64 x125) ∧ (0 : Int) ≤ Int.tmod (IntKind.i64.wrap at4) (l_n2 : Int) ∧ Int.tmod (IntKind.i64.wrap at4) (l_n2 : Int) < (l_n2 : Int) ∧ ∃ (x129 : Int), w105.drew.cell? (p42.add ((Int.tmod (IntKind.i64.wrap at4) (l_n2 : Int)).toNat)) = some (.int .i64 x129) ∧ nx73 a_a81 a_n82 a_c83 b_a102 b_n103 b_c104 behind68 (decide (x129 < x125)) (IntKind.i64.wrap (i72 + 1)) w105.drew
      else
        nx73 a_a81 a_n82 a_c83 b_a102 b_n103 b_c104 behind68 false (IntKind.i64.wrap (i72 + 1)) w105.drew
    else
      nx73 a_a81 a_n82 a_c83 b_a102 b_n103 b_c104 behind68 false (IntKind.i64.wrap (i72 + 1)) w105.drew
  else
    nx73 a_a81 a_n82 a_c83 b_a102 b_n103 b_c104 behind68 false (IntKind.i64.wrap (i72 + 1)) w105.drew)
else
  nx73 a_a81 a_n82 a_c83 b_a64 b_n65 b_c66 true ok70 (IntKind.i64.wrap (i72 + 1)) w88
def F5_b3 (l_n2 : Nat) (before_a34 : Option Addr) (before_n35 : Nat) (at4 : Int) (after_a50 : Option Addr) (after_n51 : Nat) (p42 : Addr) (a_a60 : Option Addr) (a_n61 : Nat) (a_c62 : Nat) (b_a64 : Option Addr) (b_n65 : Nat) (b_c66 : Nat) (behind68 : Bool) (ok70 : Bool) (i72 : Int) (w73 : World) (nx73 : Option Addr → Nat → Nat → Option Addr → Nat → Nat → Bool → Bool → Int → World → Prop) (k : Value → World → Prop) : Prop :=
  if i72 < (l_n2 : Int) then
  ∃ (p133 : Addr), before_a34 = some p133 ∧ (0 : Int) ≤ i72 ∧ i72 < (before_n35 : Int) ∧ ∃ (x135 : Int), w73.cell? (p133.add i72.toNat) = some (.int .i64 x135) ∧ if x135 ≠ (Int.tmod (IntKind.i64.wrap at4) (l_n2 : Int)) then
    (0 : Int) ≤ i72 ∧ i72 < (before_n35 : Int) ∧ ∃ (x140 : Int), w73.cell? (p133.add i72.toNat) = some (.int .i64 x140) ∧ New w73 3 [.int .i64 x140] (fun p142 w143 => ∃ (b_a144 : Option Addr) (b_n145 b_c146 : Nat) (w147 : World), (Builtin.append_ #[22, 22] 22 #[.slice a_a60 a_n61 a_c62, .slice (some p142) 1 1]).run Try.prog w143 = .ok (.slice b_a144 b_n145 b_c146) w147 ∧ F5_j4 after_a50 i72 after_n51 at4 l_n2 b_a64 b_n65 b_c66 ok70 behind68 p42 b_a144 b_n145 b_c146 w147 nx73)
  else
    F5_j4 after_a50 i72 after_n51 at4 l_n2 b_a64 b_n65 b_c66 ok70 behind68 p42 a_a60 a_n61 a_c62 w73 nx73
else
  if ok70 = true then
    if behind68 = true then
      Does Try.prog 15 #[.slice a_a60 a_n61 a_c62, .slice b_a64 b_n65 b_c66] w73 (fun v w151 => ∃ (x152 : Bool), v = .bool x152 ∧ if x152 = true then
        Does Try.prog 8 #[] w151 (fun v w154 => ∃ (x155 : Bool), v = .bool x155 ∧ k (.bool x155) w154)
      else
        k (.bool false) w151)
    else
      k (.bool false) w73
  else
    k (.bool false) w73
def F5_b2 (l_n2 : Nat) (l_a1 : Option Addr) (q15 : Option Addr) (at4 : Int) (i20 : Int) (w21 : World) (nx21 : Int → World → Prop) (k : Value → World → Prop) : Prop :=
  if i20 < (l_n2 : Int) then
  ∃ (p26 : Addr), l_a1 = some p26 ∧ (0 : Int) ≤ i20 ∧ i20 < (l_n2 : Int) ∧ ∃ (x28 : Int), w21.cell? (p26.add i20.toNat) = some (.int .i64 x28) ∧ Does Try.prog 10 #[.pointer q15, .int .i64 x28, .int .i64 i20] w21 (fun v w30 => ∃ (x31 : Int), v = .int .i64 x31 ∧ nx21 (IntKind.i64.wrap (i20 + 1)) w30)
else
  (l_n2 : Int) ≠ 0 ∧ Does Try.prog 11 #[.pointer q15] w21 (fun v w33 => ∃ (before_a34 : Option Addr) (before_n35 before_c36 : Nat), v = .slice before_a34 before_n35 before_c36 ∧ Does Try.prog 14 #[.pointer q15, .int .i64 (Int.tmod (IntKind.i64.wrap at4) (l_n2 : Int))] w33 (fun v w37 => ∃ (x38 : Bool), v = .bool x38 ∧ if (!x38) = true then
    k (.bool false) w37
  else
    ∃ (p42 : Addr), l_a1 = some p42 ∧ (0 : Int) ≤ Int.tmod (IntKind.i64.wrap at4) (l_n2 : Int) ∧ Int.tmod (IntKind.i64.wrap at4) (l_n2 : Int) < (l_n2 : Int) ∧ ∃ (x44 : Int), w37.cell? (p42.add ((Int.tmod (IntKind.i64.wrap at4) (l_n2 : Int)).toNat)) = some (.int .i64 x44) ∧ Does Try.prog 10 #[.pointer q15, .int .i64 x44, .int .i64 (Int.tmod (IntKind.i64.wrap at4) (l_n2 : Int))] w37 (fun v w46 => ∃ (x47 : Int), v = .int .i64 x47 ∧ if x47 ≠ 0 then
      k (.bool false) w46
    else
      Does Try.prog 11 #[.pointer q15] w46 (fun v w49 => ∃ (after_a50 : Option Addr) (after_n51 after_c52 : Nat), v = .slice after_a50 after_n51 after_c52 ∧ if (before_n35 : Int) ≠ (l_n2 : Int) then
        k (.bool false) w49
      else
        if (after_n51 : Int) ≠ (l_n2 : Int) then
          k (.bool false) w49
        else
          LoopP (fun (s : Option Addr × Nat × Nat × Option Addr × Nat × Nat × Bool × Bool × Int) w' nx' => F5_b3 l_n2 before_a34 before_n35 at4 after_a50 after_n51 p42 (s.1) (s.2.1) (s.2.2.1) (s.2.2.2.1) (s.2.2.2.2.1) (s.2.2.2.2.2.1) (s.2.2.2.2.2.2.1) (s.2.2.2.2.2.2.2.1) (s.2.2.2.2.2.2.2.2) w' (fun x0 x1 x2 x3 x4 x5 x6 x7 x8 w => nx' (x0, x1, x2, x3, x4, x5, x6, x7, x8) w) k) (none, 0, 0, none, 0, 0, false, true, 0) w49))))
def F5_j1 (l_n2 : Nat) (l_a1 : Option Addr) (at4 : Int) (t9 : Bool) (w10 : World) (k : Value → World → Prop) : Prop :=
  if t9 = true then
  Does Try.prog 8 #[] w10 (fun v w12 => ∃ (t13 : Bool), v = .bool t13 ∧ k (.bool t13) w12)
else
  Does Try.prog 9 #[.int .i64 100] w10 (fun v w14 => ∃ (q15 : Option Addr), v = .pointer q15 ∧ LoopP (fun (s : Int) w' nx' => F5_b2 l_n2 l_a1 q15 at4 s w' (fun x0 w => nx' x0 w) k) 0 w14)
/-- spacecraft spacecraftlaw08.QueueAgain -/
def F5 (l_a1 : Option Addr) (l_n2 : Nat) (l_c3 : Nat) (at4 : Int) (w5 : World) (k : Value → World → Prop) : Prop :=
  if 100 < (l_n2 : Int) then
  F5_j1 l_n2 l_a1 at4 true w5 k
else
  F5_j1 l_n2 l_a1 at4 (decide ((l_n2 : Int) = 0)) w5 k
set_option maxRecDepth 100000 in
set_option maxHeartbeats 2000000 in
theorem w5 (l_a1 : Option Addr) (l_n2 : Nat) (l_c3 : Nat) (at4 : Int) (w5 : World) (k : Value → World → Prop) (h : F5 l_a1 l_n2 l_c3 at4 w5 k) : Does Try.prog 5 #[.slice l_a1 l_n2 l_c3, .int .u8 at4] w5 k := by
  refine enter 152 Try.func5 rfl rfl rfl ?_
  intro ρ hρ
  have e0 := hρ 0 _ rfl
  have e1 := hρ 1 _ rfl
  unfold F5 at h
  refine WC_seq ?_
  refine WC_region ?_
  refine WL_val gd0 ((o_assign (v := .bool false) rfl) _) rfl ?_
  refine WL_nil ?_
  refine nrm ?_
  refine WC_seq ?_
  refine WC_cut (fun ρ w' => ∃ (t9 : Bool), ρ 22 = .bool t9 ∧ ρ 0 = .slice l_a1 l_n2 l_c3 ∧ ρ 1 = .int .u8 at4 ∧ F5_j1 l_n2 l_a1 at4 t9 w' k) ?_ ?_
  · refine WC_region ?_
    refine WL_val gd0 ((o_move (v := .slice l_a1 l_n2 l_c3) (by exact e0)) _) rfl ?_
    refine WL_val gd0 ((o_len Try.underlying22 rfl) _) rfl ?_
    refine WL_val gd0 ((o_gtr rfl rfl) _) rfl ?_
    refine WL_val gd0 ((o_move (v := .bool (decide (100 < (l_n2 : Int)))) rfl) _) rfl ?_
    refine bsplit (decide (100 < (l_n2 : Int))) (fun hb156 => ?_) (fun hb156 => ?_)
    · rw [if_pos (of_decide_eq_true hb156)] at h
      refine WL_skip (gdN (b := (decide (100 < (l_n2 : Int)))) 18 rfl rfl hb156) rfl ?_
      refine WL_skip (gdN (b := (decide (100 < (l_n2 : Int)))) 18 rfl rfl hb156) rfl ?_
      refine WL_skip (gdN (b := (decide (100 < (l_n2 : Int)))) 18 rfl rfl hb156) rfl ?_
      refine WL_val gd0 ((o_pickT (v := .bool true) rfl hb156 rfl) _) rfl ?_
      refine WL_nil ?_
      refine nrm ?_
      exact ⟨_, rfl, e0, e1, h⟩
    · rw [if_neg (of_decide_eq_false hb156)] at h
      refine WL_val (gdY (b := (decide (100 < (l_n2 : Int)))) 18 rfl rfl hb156) ((o_move (v := .slice l_a1 l_n2 l_c3) (by exact e0)) _) rfl ?_
      refine WL_val (gdY (b := (decide (100 < (l_n2 : Int)))) 18 rfl rfl hb156) ((o_len Try.underlying22 rfl) _) rfl ?_
      refine WL_val (gdY (b := (decide (100 < (l_n2 : Int)))) 18 rfl rfl hb156) ((o_eql rfl rfl) _) rfl ?_
      refine WL_val gd0 ((o_pickF (v := .bool (decide ((l_n2 : Int) = 0))) rfl hb156 rfl) _) rfl ?_
      refine WL_nil ?_
      refine nrm ?_
      exact ⟨_, rfl, e0, e1, h⟩
  · rintro ρ w10 ⟨t9, e22_8, e0_6, e1_7, h⟩
    unfold F5_j1 at h
    refine WC_cond (t := t9) (by exact e22_8) (fun hb11 => ?_) (fun hb11 => ?_)
    · rw [if_pos hb11] at h
      refine WC_seq ?_
      refine WC_region ?_
      refine WL_call gd0 (o_call Try.call8 argNil _) rfl (h.mono ?_)
      rintro _ w12 ⟨t13, rfl, h⟩
      refine WL_val gd0 ((o_assign (v := .bool t13) rfl) _) rfl ?_
      refine WL_nil ?_
      refine nrm ?_
      refine WC_ret ?_
      refine rtT ?_
      refine rtE ?_
      exact gv1 rfl rfl h
    · rw [if_neg (neT hb11)] at h
      refine WC_skip ?_
      refine nrm ?_
      refine WC_seq ?_
      refine WC_region ?_
      refine WL_call gd0 (o_call Try.call9 (argCons rfl argNil) _) rfl (h.mono ?_)
      rintro _ w14 ⟨q15, rfl, h⟩
      refine WL_val gd0 ((o_assign (v := .pointer q15) rfl) _) rfl ?_
      refine WL_nil ?_
      refine nrm ?_
      refine WC_seq ?_
      refine WC_seq ?_
      refine WC_region ?_
      refine WL_val gd0 ((o_assign (v := .int .i64 0) rfl) _) rfl ?_
      refine WL_nil ?_
      refine nrm ?_
      refine WC_block ?_
      obtain ⟨J21, ⟨n21, h0⟩, hr21⟩ := h
      refine WC_loop (fun n ρ w' => ∃ (i20 : Int), ρ 6 = .int .i64 i20 ∧ ρ 0 = .slice l_a1 l_n2 l_c3 ∧ ρ 1 = .int .u8 at4 ∧ ρ 5 = .pointer q15 ∧ J21 n i20 w') ⟨n21, _, rfl, e0_6, e1_7, rfl, h0⟩ ?_
      rintro n21 ρ w21 ⟨i20, e6_19, e0_16, e1_17, e5_18, h⟩
      have h : F5_b2 l_n2 l_a1 q15 at4 i20 w21 (fun x0 w => ∃ m, m < n21 ∧ J21 m x0 w) k := hr21 n21 i20 w21 h
      unfold F5_b2 at h
      refine WC_seq ?_
      refine WC_seq ?_
      refine WC_region ?_
      refine WL_val gd0 ((o_move (v := .int .i64 i20) (by exact e6_19)) _) rfl ?_
      refine WL_val gd0 ((o_move (v := .slice l_a1 l_n2 l_c3) (by exact e0_16)) _) rfl ?_
      refine WL_val gd0 ((o_len Try.underlying22 rfl) _) rfl ?_
      refine WL_val gd0 ((o_lss rfl rfl) _) rfl ?_
      refine WL_nil ?_
      refine nrm ?_
      refine WC_cond (t := (decide (i20 < (l_n2 : Int)))) rfl (fun hb23 => ?_) (fun hb23 => ?_)
      · rw [if_pos (of_decide_eq_true hb23)] at h
        refine WC_skip ?_
        refine nrm ?_
        refine WC_seq ?_
        refine WC_block ?_
        refine WC_region ?_
        refine WL_val gd0 ((o_move (v := .pointer q15) (by exact e5_18)) _) rfl ?_
        refine WL_val gd0 ((o_move (v := .slice l_a1 l_n2 l_c3) (by exact e0_16)) _) rfl ?_
        refine WL_val gd0 ((o_move (v := .int .i64 i20) (by exact e6_19)) _) rfl ?_
        obtain ⟨p26, q27, h⟩ := h
        obtain ⟨l24, u25, h⟩ := h
        refine WL_val gd0 ((o_indexAddr1 Try.underlying22 Try.sizeOf3 (by exact (congrArg (fun z => Value.slice z l_n2 l_c3) q27)) rfl l24 u25) _) rfl ?_
        obtain ⟨x28, hc29, h⟩ := h
        refine WL_val gd0 (o_load Try.isAgg3 rfl hc29) rfl ?_
        refine WL_val gd0 ((o_move (v := .int .i64 i20) (by exact e6_19)) _) rfl ?_
        refine WL_call gd0 (o_call Try.call10 (argCons rfl (argCons rfl (argCons rfl argNil))) _) rfl (h.mono ?_)
        rintro _ w30 ⟨x31, rfl, h⟩
        refine WL_nil ?_
        refine nrmB ?_
        refine nrm ?_
        refine WC_region ?_
        refine WL_val gd0 ((o_move (v := .int .i64 i20) (by exact e6_19)) _) rfl ?_
        refine WL_val gd0 ((o_add rfl rfl) _) rfl ?_
        refine WL_val gd0 ((o_assign (v := .int .i64 (IntKind.i64.wrap (i20 + 1))) rfl) _) rfl ?_
        refine WL_nil ?_
        refine nrm ?_
        obtain ⟨m22, hm22, h⟩ := h
        exact ⟨m22, hm22, _, rfl, e0_16, e1_17, e5_18, h⟩
      · rw [if_neg (of_decide_eq_false hb23)] at h
        refine WC_exit ?_
        refine exT ?_
        refine exT ?_
        refine exB ?_
        refine nrm ?_
        refine WC_seq ?_
        refine WC_region ?_
        refine WL_val gd0 ((o_move (v := .int .u8 at4) (by exact e1_17)) _) rfl ?_
        refine WL_val gd0 ((o_conv Try.underlying5 Try.underlying3 rfl) _) rfl ?_
        refine WL_val gd0 ((o_move (v := .slice l_a1 l_n2 l_c3) (by exact e0_16)) _) rfl ?_
        refine WL_val gd0 ((o_len Try.underlying22 rfl) _) rfl ?_
        obtain ⟨c32, h⟩ := h
        refine WL_val gd0 ((fun w => o_rem rfl rfl w c32) _) rfl ?_
        refine WL_val gd0 ((o_assign (v := .int .i64 (Int.tmod (IntKind.i64.wrap at4) (l_n2 : Int))) rfl) _) rfl ?_
        refine WL_nil ?_
        refine nrm ?_
        refine WC_seq ?_
        refine WC_region ?_
        refine WL_val gd0 ((o_move (v := .pointer q15) (by exact e5_18)) _) rfl ?_
        refine WL_call gd0 (o_call Try.call11 (argCons rfl argNil) _) rfl (h.mono ?_)
        rintro _ w33 ⟨before_a34, before_n35, before_c36, rfl, h⟩
        refine WL_val gd0 ((o_assign (v := .slice before_a34 before_n35 before_c36) rfl) _) rfl ?_
        refine WL_nil ?_
        refine nrm ?_
        refine WC_seq ?_
        refine WC_seq ?_
        refine WC_region ?_
        refine WL_val gd0 ((o_move (v := .pointer q15) (by exact e5_18)) _) rfl ?_
        refine WL_val gd0 ((o_move (v := .int .i64 (Int.tmod (IntKind.i64.wrap at4) (l_n2 : Int))) rfl) _) rfl ?_
        refine WL_call gd0 (o_call Try.call14 (argCons rfl (argCons rfl argNil)) _) rfl (h.mono ?_)
        rintro _ w37 ⟨x38, rfl, h⟩
        refine WL_val gd0 ((o_not rfl) _) rfl ?_
        refine WL_val gd0 ((o_move (v := .bool (!x38)) rfl) _) rfl ?_
        refine bsplit (!x38) (fun hb39 => ?_) (fun hb39 => ?_)
        · rw [if_pos hb39] at h
          refine WL_skip (gdN (b := (!x38)) 49 rfl rfl hb39) rfl ?_
          refine WL_skip (gdN (b := (!x38)) 49 rfl rfl hb39) rfl ?_
          refine WL_skip (gdN (b := (!x38)) 49 rfl rfl hb39) rfl ?_
          refine WL_skip (gdN (b := (!x38)) 49 rfl rfl hb39) rfl ?_
          refine WL_skip (gdN (b := (!x38)) 49 rfl rfl hb39) rfl ?_
          refine WL_skip (gdN (b := (!x38)) 49 rfl rfl hb39) rfl ?_
          refine WL_skip (gdN (b := (!x38)) 49 rfl rfl hb39) rfl ?_
          refine WL_skip (gdN (b := (!x38)) 49 rfl rfl hb39) rfl ?_
          refine WL_val gd0 ((o_pickT (v := .bool true) rfl hb39 rfl) _) rfl ?_
          refine WL_nil ?_
          refine nrm ?_
          refine WC_cond (t := true) rfl (fun _ => ?_) (fun hx => by rw [(rfl : true = true)] at hx; cases hx)
          refine WC_seq ?_
          refine WC_region ?_
          refine WL_val gd0 ((o_assign (v := .bool false) rfl) _) rfl ?_
          refine WL_nil ?_
          refine nrm ?_
          refine WC_ret ?_
          refine rtT ?_
          refine rtE ?_
          exact gv1 rfl rfl h
        · rw [if_neg (neT hb39)] at h
          refine WL_val (gdY (b := (!x38)) 49 rfl rfl hb39) ((o_move (v := .pointer q15) (by exact e5_18)) _) rfl ?_
          refine WL_val (gdY (b := (!x38)) 49 rfl rfl hb39) ((o_move (v := .slice l_a1 l_n2 l_c3) (by exact e0_16)) _) rfl ?_
          refine WL_val (gdY (b := (!x38)) 49 rfl rfl hb39) ((o_move (v := .int .i64 (Int.tmod (IntKind.i64.wrap at4) (l_n2 : Int))) rfl) _) rfl ?_
          obtain ⟨p42, q43, h⟩ := h
          obtain ⟨l40, u41, h⟩ := h
          refine WL_val (gdY (b := (!x38)) 49 rfl rfl hb39) ((o_indexAddr1 Try.underlying22 Try.sizeOf3 (by exact (congrArg (fun z => Value.slice z l_n2 l_c3) q43)) rfl l40 u41) _) rfl ?_
          obtain ⟨x44, hc45, h⟩ := h
          refine WL_val (gdY (b := (!x38)) 49 rfl rfl hb39) (o_load Try.isAgg3 rfl hc45) rfl ?_
          refine WL_val (gdY (b := (!x38)) 49 rfl rfl hb39) ((o_move (v := .int .i64 (Int.tmod (IntKind.i64.wrap at4) (l_n2 : Int))) rfl) _) rfl ?_
          refine WL_call (gdY (b := (!x38)) 49 rfl rfl hb39) (o_call Try.call10 (argCons rfl (argCons rfl (argCons rfl argNil))) _) rfl (h.mono ?_)
          rintro _ w46 ⟨x47, rfl, h⟩
          refine WL_val (gdY (b := (!x38)) 49 rfl rfl hb39) ((o_neq rfl rfl) _) rfl ?_
          refine WL_val gd0 ((o_pickF (v := .bool (decide (x47 ≠ 0))) rfl hb39 rfl) _) rfl ?_
          refine WL_nil ?_
          refine nrm ?_
          refine WC_cond (t := (decide (x47 ≠ 0))) rfl (fun hb48 => ?_) (fun hb48 => ?_)
          · rw [if_pos (of_decide_eq_true hb48)] at h
            refine WC_seq ?_
            refine WC_region ?_
            refine WL_val gd0 ((o_assign (v := .bool false) rfl) _) rfl ?_
            refine WL_nil ?_
            refine nrm ?_
            refine WC_ret ?_
            refine rtT ?_
            refine rtE ?_
            exact gv1 rfl rfl h
          · rw [if_neg (of_decide_eq_false hb48)] at h
            refine WC_skip ?_
            refine nrm ?_
            refine WC_seq ?_
            refine WC_region ?_
            refine WL_val gd0 ((o_move (v := .pointer q15) (by exact e5_18)) _) rfl ?_
            refine WL_call gd0 (o_call Try.call11 (argCons rfl argNil) _) rfl (h.mono ?_)
            rintro _ w49 ⟨after_a50, after_n51, after_c52, rfl, h⟩
            refine WL_val gd0 ((o_assign (v := .slice after_a50 after_n51 after_c52) rfl) _) rfl ?_
            refine WL_nil ?_
            refine nrm ?_
            refine WC_seq ?_
            refine WC_seq ?_
            refine WC_region ?_
            refine WL_val gd0 ((o_move (v := .slice before_a34 before_n35 before_c36) rfl) _) rfl ?_
            refine WL_val gd0 ((o_len Try.underlying22 rfl) _) rfl ?_
            refine WL_val gd0 ((o_move (v := .slice l_a1 l_n2 l_c3) (by exact e0_16)) _) rfl ?_
            refine WL_val gd0 ((o_len Try.underlying22 rfl) _) rfl ?_
            refine WL_val gd0 ((o_neq rfl rfl) _) rfl ?_
            refine WL_val gd0 ((o_move (v := .bool (decide ((before_n35 : Int) ≠ (l_n2 : Int)))) rfl) _) rfl ?_
            refine bsplit (decide ((before_n35 : Int) ≠ (l_n2 : Int))) (fun hb53 => ?_) (fun hb53 => ?_)
            · rw [if_pos (of_decide_eq_true hb53)] at h
              refine WL_skip (gdN (b := (decide ((before_n35 : Int) ≠ (l_n2 : Int)))) 66 rfl rfl hb53) rfl ?_
              refine WL_skip (gdN (b := (decide ((before_n35 : Int) ≠ (l_n2 : Int)))) 66 rfl rfl hb53) rfl ?_
              refine WL_skip (gdN (b := (decide ((before_n35 : Int) ≠ (l_n2 : Int)))) 66 rfl rfl hb53) rfl ?_
              refine WL_skip (gdN (b := (decide ((before_n35 : Int) ≠ (l_n2 : Int)))) 66 rfl rfl hb53) rfl ?_
              refine WL_skip (gdN (b := (decide ((before_n35 : Int) ≠ (l_n2 : Int)))) 66 rfl rfl hb53) rfl ?_
              refine WL_val gd0 ((o_pickT (v := .bool true) rfl hb53 rfl) _) rfl ?_
              refine WL_nil ?_
              refine nrm ?_
              refine WC_cond (t := true) rfl (fun _ => ?_) (fun hx => by rw [(rfl : true = true)] at hx; cases hx)
              refine WC_seq ?_
              refine WC_region ?_
              refine WL_val gd0 ((o_assign (v := .bool false) rfl) _) rfl ?_
              refine WL_nil ?_
              refine nrm ?_
              refine WC_ret ?_
              refine rtT ?_
              refine rtE ?_
              exact gv1 rfl rfl h
            · rw [if_neg (of_decide_eq_false hb53)] at h
              refine WL_val (gdY (b := (decide ((before_n35 : Int) ≠ (l_n2 : Int)))) 66 rfl rfl hb53) ((o_move (v := .slice after_a50 after_n51 after_c52) rfl) _) rfl ?_
              refine WL_val (gdY (b := (decide ((before_n35 : Int) ≠ (l_n2 : Int)))) 66 rfl rfl hb53) ((o_len Try.underlying22 rfl) _) rfl ?_
              refine WL_val (gdY (b := (decide ((before_n35 : Int) ≠ (l_n2 : Int)))) 66 rfl rfl hb53) ((o_move (v := .slice l_a1 l_n2 l_c3) (by exact e0_16)) _) rfl ?_
              refine WL_val (gdY (b := (decide ((before_n35 : Int) ≠ (l_n2 : Int)))) 66 rfl rfl hb53) ((o_len Try.underlying22 rfl) _) rfl ?_
              refine WL_val (gdY (b := (decide ((before_n35 : Int) ≠ (l_n2 : Int)))) 66 rfl rfl hb53) ((o_neq rfl rfl) _) rfl ?_
              refine WL_val gd0 ((o_pickF (v := .bool (decide ((after_n51 : Int) ≠ (l_n2 : Int)))) rfl hb53 rfl) _) rfl ?_
              refine WL_nil ?_
              refine nrm ?_
              refine WC_cond (t := (decide ((after_n51 : Int) ≠ (l_n2 : Int)))) rfl (fun hb54 => ?_) (fun hb54 => ?_)
              · rw [if_pos (of_decide_eq_true hb54)] at h
                refine WC_seq ?_
                refine WC_region ?_
                refine WL_val gd0 ((o_assign (v := .bool false) rfl) _) rfl ?_
                refine WL_nil ?_
                refine nrm ?_
                refine WC_ret ?_
                refine rtT ?_
                refine rtE ?_
                exact gv1 rfl rfl h
              · rw [if_neg (of_decide_eq_false hb54)] at h
                refine WC_skip ?_
                refine nrm ?_
                refine WC_seq ?_
                refine WC_region ?_
                refine WL_val gd0 ((o_assign (v := .slice none 0 0) rfl) _) rfl ?_
                refine WL_val gd0 ((o_assign (v := .slice none 0 0) rfl) _) rfl ?_
                refine WL_nil ?_
                refine nrm ?_
                refine WC_seq ?_
                refine WC_region ?_
                refine WL_val gd0 ((o_assign (v := .bool false) rfl) _) rfl ?_
                refine WL_nil ?_
                refine nrm ?_
                refine WC_seq ?_
                refine WC_region ?_
                refine WL_val gd0 ((o_assign (v := .bool true) rfl) _) rfl ?_
                refine WL_nil ?_
                refine nrm ?_
                refine WC_seq ?_
                refine WC_seq ?_
                refine WC_region ?_
                refine WL_val gd0 ((o_assign (v := .int .i64 0) rfl) _) rfl ?_
                refine WL_nil ?_
                refine nrm ?_
                refine WC_block ?_
                obtain ⟨J73, ⟨n73, h0⟩, hr73⟩ := h
                refine WC_loop (fun n ρ w' => ∃ (a_a60 : Option Addr) (a_n61 a_c62 : Nat) (b_a64 : Option Addr) (b_n65 b_c66 : Nat) (behind68 ok70 : Bool) (i72 : Int), ρ 10 = .slice a_a60 a_n61 a_c62 ∧ ρ 11 = .slice b_a64 b_n65 b_c66 ∧ ρ 12 = .bool behind68 ∧ ρ 13 = .bool ok70 ∧ ρ 14 = .int .i64 i72 ∧ ρ 0 = .slice l_a1 l_n2 l_c3 ∧ ρ 7 = .int .i64 (Int.tmod (IntKind.i64.wrap at4) (l_n2 : Int)) ∧ ρ 8 = .slice before_a34 before_n35 before_c36 ∧ ρ 9 = .slice after_a50 after_n51 after_c52 ∧ J73 n (a_a60, a_n61, a_c62, b_a64, b_n65, b_c66, behind68, ok70, i72) w') ⟨n73, _, _, _, _, _, _, _, _, _, rfl, rfl, rfl, rfl, rfl, e0_16, rfl, rfl, rfl, h0⟩ ?_
                rintro n73 ρ w73 ⟨a_a60, a_n61, a_c62, b_a64, b_n65, b_c66, behind68, ok70, i72, e10_59, e11_63, e12_67, e13_69, e14_71, e0_55, e7_56, e8_57, e9_58, h⟩
                have h : F5_b3 l_n2 before_a34 before_n35 at4 after_a50 after_n51 p42 a_a60 a_n61 a_c62 b_a64 b_n65 b_c66 behind68 ok70 i72 w73 (fun x0 x1 x2 x3 x4 x5 x6 x7 x8 w => ∃ m, m < n73 ∧ J73 m (x0, x1, x2, x3, x4, x5, x6, x7, x8) w) k := hr73 n73 (a_a60, a_n61, a_c62, b_a64, b_n65, b_c66, behind68, ok70, i72) w73 h
                unfold F5_b3 at h
                refine WC_seq ?_
                refine WC_seq ?_
                refine WC_region ?_
                refine WL_val gd0 ((o_move (v := .int .i64 i72) (by exact e14_71)) _) rfl ?_
                refine WL_val gd0 ((o_move (v := .slice l_a1 l_n2 l_c3) (by exact e0_55)) _) rfl ?_
                refine WL_val gd0 ((o_len Try.underlying22 rfl) _) rfl ?_
                refine WL_val gd0 ((o_lss rfl rfl) _) rfl ?_
                refine WL_nil ?_
                refine nrm ?_
                refine WC_cond (t := (decide (i72 < (l_n2 : Int)))) rfl (fun hb75 => ?_) (fun hb75 => ?_)
                · rw [if_pos (of_decide_eq_true hb75)] at h
                  refine WC_skip ?_
                  refine nrm ?_
                  refine WC_seq ?_
                  refine WC_block ?_
                  refine WC_cut (fun ρ w' => ∃ (a_a81 : Option Addr) (a_n82 a_c83 : Nat), ρ 10 = .slice a_a81 a_n82 a_c83 ∧ ρ 0 = .slice l_a1 l_n2 l_c3 ∧ ρ 7 = .int .i64 (Int.tmod (IntKind.i64.wrap at4) (l_n2 : Int)) ∧ ρ 8 = .slice before_a34 before_n35 before_c36 ∧ ρ 9 = .slice after_a50 after_n51 after_c52 ∧ ρ 11 = .slice b_a64 b_n65 b_c66 ∧ ρ 12 = .bool behind68 ∧ ρ 13 = .bool ok70 ∧ ρ 14 = .int .i64 i72 ∧ F5_j4 after_a50 i72 after_n51 at4 l_n2 b_a64 b_n65 b_c66 ok70 behind68 p42 a_a81 a_n82 a_c83 w' (fun x0 x1 x2 x3 x4 x5 x6 x7 x8 w => ∃ m, m < n73 ∧ J73 m (x0, x1, x2, x3, x4, x5, x6, x7, x8) w)) ?_ ?_
                  · refine WC_seq ?_
                    refine WC_region ?_
                    refine WL_val gd0 ((o_move (v := .slice before_a34 before_n35 before_c36) (by exact e8_57)) _) rfl ?_
                    refine WL_val gd0 ((o_move (v := .int .i64 i72) (by exact e14_71)) _) rfl ?_
                    obtain ⟨p133, q134, h⟩ := h
                    obtain ⟨l131, u132, h⟩ := h
                    refine WL_val gd0 ((o_indexAddr1 Try.underlying22 Try.sizeOf3 (by exact (congrArg (fun z => Value.slice z before_n35 before_c36) q134)) rfl l131 u132) _) rfl ?_
                    obtain ⟨x135, hc136, h⟩ := h
                    refine WL_val gd0 (o_load Try.isAgg3 rfl hc136) rfl ?_
                    refine WL_val gd0 ((o_move (v := .int .i64 (Int.tmod (IntKind.i64.wrap at4) (l_n2 : Int))) (by exact e7_56)) _) rfl ?_
                    refine WL_val gd0 ((o_neq rfl rfl) _) rfl ?_
                    refine WL_nil ?_
                    refine nrm ?_
                    refine WC_cond (t := (decide (x135 ≠ (Int.tmod (IntKind.i64.wrap at4) (l_n2 : Int))))) rfl (fun hb137 => ?_) (fun hb137 => ?_)
                    · rw [if_pos (of_decide_eq_true hb137)] at h
                      refine WC_region ?_
                      refine WL_val gd0 ((o_move (v := .slice a_a60 a_n61 a_c62) (by exact e10_59)) _) rfl ?_
                      refine WL_val gd0 ((o_move (v := .slice before_a34 before_n35 before_c36) (by exact e8_57)) _) rfl ?_
                      refine WL_val gd0 ((o_move (v := .int .i64 i72) (by exact e14_71)) _) rfl ?_
                      obtain ⟨l138, u139, h⟩ := h
                      refine WL_val gd0 ((o_indexAddr1 Try.underlying22 Try.sizeOf3 (by exact (congrArg (fun z => Value.slice z before_n35 before_c36) q134)) rfl l138 u139) _) rfl ?_
                      obtain ⟨x140, hc141, h⟩ := h
                      refine WL_val gd0 (o_load Try.isAgg3 rfl hc141) rfl ?_
                      have h := New.out h
                      refine WL_val gd0 (o_buildSlice (e := 3) (ps := [(0, .int .i64 x140)]) (cs := [.int .i64 x140]) (partCons rfl partNil) (fun w => by kernel_rfl)) rfl ?_
                      generalize hp142 : fresh w73 = p142 at h ⊢
                      generalize hw143 : push w73 3 [.int .i64 x140] = w143 at h ⊢
                      try dsimp only at h
                      obtain ⟨b_a144, b_n145, b_c146, w147, r148, h⟩ := h
                      refine WL_val gd0 (o_append rfl rfl r148) rfl ?_
                      refine WL_val gd0 ((o_assign (v := .slice b_a144 b_n145 b_c146) rfl) _) rfl ?_
                      refine WL_nil ?_
                      refine nrm ?_
                      exact ⟨_, _, _, rfl, e0_55, e7_56, e8_57, e9_58, e11_63, e12_67, e13_69, e14_71, h⟩
                    · rw [if_neg (of_decide_eq_false hb137)] at h
                      refine WC_skip ?_
                      refine nrm ?_
                      exact ⟨_, _, _, e10_59, e0_55, e7_56, e8_57, e9_58, e11_63, e12_67, e13_69, e14_71, h⟩
                  · rintro ρ w88 ⟨a_a81, a_n82, a_c83, e10_80, e0_76, e7_77, e8_78, e9_79, e11_84, e12_85, e13_86, e14_87, h⟩
                    unfold F5_j4 at h
                    refine WC_seq ?_
                    refine WC_region ?_
                    refine WL_val gd0 ((o_move (v := .slice after_a50 after_n51 after_c52) (by exact e9_79)) _) rfl ?_
                    refine WL_val gd0 ((o_move (v := .int .i64 i72) (by exact e14_87)) _) rfl ?_
                    obtain ⟨p91, q92, h⟩ := h
                    obtain ⟨l89, u90, h⟩ := h
                    refine WL_val gd0 ((o_indexAddr1 Try.underlying22 Try.sizeOf3 (by exact (congrArg (fun z => Value.slice z after_n51 after_c52) q92)) rfl l89 u90) _) rfl ?_
                    obtain ⟨x93, hc94, h⟩ := h
                    refine WL_val gd0 (o_load Try.isAgg3 rfl hc94) rfl ?_
                    refine WL_val gd0 ((o_move (v := .int .i64 (Int.tmod (IntKind.i64.wrap at4) (l_n2 : Int))) (by exact e7_77)) _) rfl ?_
                    refine WL_val gd0 ((o_neq rfl rfl) _) rfl ?_
                    refine WL_nil ?_
                    refine nrm ?_
                    refine WC_cond (t := (decide (x93 ≠ (Int.tmod (IntKind.i64.wrap at4) (l_n2 : Int))))) rfl (fun hb95 => ?_) (fun hb95 => ?_)
                    · rw [if_pos (of_decide_eq_true hb95)] at h
                      refine WC_seq ?_
                      refine WC_region ?_
                      refine WL_val gd0 ((o_move (v := .slice b_a64 b_n65 b_c66) (by exact e11_84)) _) rfl ?_
                      refine WL_val gd0 ((o_move (v := .slice after_a50 after_n51 after_c52) (by exact e9_79)) _) rfl ?_
                      refine WL_val gd0 ((o_move (v := .int .i64 i72) (by exact e14_87)) _) rfl ?_
                      obtain ⟨l96, u97, h⟩ := h
                      refine WL_val gd0 ((o_indexAddr1 Try.underlying22 Try.sizeOf3 (by exact (congrArg (fun z => Value.slice z after_n51 after_c52) q92)) rfl l96 u97) _) rfl ?_
                      obtain ⟨x98, hc99, h⟩ := h
                      refine WL_val gd0 (o_load Try.isAgg3 rfl hc99) rfl ?_
                      have h := New.out h
                      refine WL_val gd0 (o_buildSlice (e := 3) (ps := [(0, .int .i64 x98)]) (cs := [.int .i64 x98]) (partCons rfl partNil) (fun w => by kernel_rfl)) rfl ?_
                      generalize hp100 : fresh w88 = p100 at h ⊢
                      generalize hw101 : push w88 3 [.int .i64 x98] = w101 at h ⊢
                      try dsimp only at h
                      obtain ⟨b_a102, b_n103, b_c104, w105, r106, h⟩ := h
                      refine WL_val gd0 (o_append rfl rfl r106) rfl ?_
                      refine WL_val gd0 ((o_assign (v := .slice b_a102 b_n103 b_c104) rfl) _) rfl ?_
                      refine WL_nil ?_
                      refine nrm ?_
                      refine WC_draws [] (.look 0 (.look 1 (.look 2 (.look 3 (.look 4 (.look 5 (.look 6 (.look 7 (.look 8 (.look 9 (.look 10 (.look 11 (.look 12 (.look 13 (.look 14 (.look 15 (.look 16 (.look 17 (.look 18 (.look 19 (.look 20 (.look 21 (.look 22 (.look 23 (.look 24 (.look 25 (.look 26 (.look 27 (.look 28 (.look 29 (.look 30 (.look 31 (.look 32 (.look 33 (.look 34 (.look 35 .nil)))))))))))))))))))))))))))))))))))) Try.mixed (by kernel_rfl) ?_
                      refine WQ_val rfl gd0 (o_move (v := .bool ok70) (by exact e13_86)) rfl ?_
                      refine WQ_val rfl gd0 (o_move (v := .bool ok70) rfl) rfl ?_
                      refine bsplit ok70 (fun hb107 => ?_) (fun hb107 => ?_)
                      · rw [if_pos hb107] at h
                        refine WQ_val rfl (gdY (b := ok70) 106 rfl rfl hb107) (o_move (v := .slice after_a50 after_n51 after_c52) (by exact e9_79)) rfl ?_
                        refine WQ_val rfl (gdY (b := ok70) 106 rfl rfl hb107) (o_move (v := .int .i64 i72) (by exact e14_87)) rfl ?_
                        obtain ⟨l108, u109, h⟩ := h
                        refine WQ_val rfl (gdY (b := ok70) 106 rfl rfl hb107) (o_indexAddr1 Try.underlying22 Try.sizeOf3 (by exact (congrArg (fun z => Value.slice z after_n51 after_c52) q92)) rfl l108 u109) rfl ?_
                        obtain ⟨x110, hc111, h⟩ := h
                        refine WQ_look (fun w => w.cell? (p91.add i72.toNat) = some (.int .i64 x110)) rfl (gdY (b := ok70) 106 rfl rfl hb107) (fun w hc => (o_load Try.isAgg3 rfl hc)) hc111 rfl ?_
                        refine WQ_val rfl (gdY (b := ok70) 106 rfl rfl hb107) (o_geq rfl rfl) rfl ?_
                        refine WQ_val rfl gd0 (o_pickT (v := .bool (decide (0 ≤ x110))) rfl hb107 rfl) rfl ?_
                        refine WQ_val rfl gd0 (o_move (v := .bool (decide (0 ≤ x110))) rfl) rfl ?_
                        refine bsplit (decide (0 ≤ x110)) (fun hb112 => ?_) (fun hb112 => ?_)
                        · rw [if_pos (of_decide_eq_true hb112)] at h
                          refine WQ_val rfl (gdY (b := (decide (0 ≤ x110))) 113 rfl rfl hb112) (o_move (v := .slice after_a50 after_n51 after_c52) (by exact e9_79)) rfl ?_
                          refine WQ_val rfl (gdY (b := (decide (0 ≤ x110))) 113 rfl rfl hb112) (o_move (v := .int .i64 i72) (by exact e14_87)) rfl ?_
                          obtain ⟨l113, u114, h⟩ := h
                          refine WQ_val rfl (gdY (b := (decide (0 ≤ x110))) 113 rfl rfl hb112) (o_indexAddr1 Try.underlying22 Try.sizeOf3 (by exact (congrArg (fun z => Value.slice z after_n51 after_c52) q92)) rfl l113 u114) rfl ?_
                          obtain ⟨x115, hc116, h⟩ := h
                          refine WQ_look (fun w => w.cell? (p91.add i72.toNat) = some (.int .i64 x115)) rfl (gdY (b := (decide (0 ≤ x110))) 113 rfl rfl hb112) (fun w hc => (o_load Try.isAgg3 rfl hc)) hc116 rfl ?_
                          refine WQ_val rfl (gdY (b := (decide (0 ≤ x110))) 113 rfl rfl hb112) (o_move (v := .slice l_a1 l_n2 l_c3) (by exact e0_76)) rfl ?_
                          refine WQ_val rfl (gdY (b := (decide (0 ≤ x110))) 113 rfl rfl hb112) (o_len Try.underlying22 rfl) rfl ?_
                          refine WQ_val rfl (gdY (b := (decide (0 ≤ x110))) 113 rfl rfl hb112) (o_lss rfl rfl) rfl ?_
                          refine WQ_val rfl gd0 (o_pickT (v := .bool (decide (x115 < (l_n2 : Int)))) rfl hb112 rfl) rfl ?_
                          refine WQ_val rfl gd0 (o_move (v := .bool (decide (x115 < (l_n2 : Int)))) rfl) rfl ?_
                          refine bsplit (decide (x115 < (l_n2 : Int))) (fun hb117 => ?_) (fun hb117 => ?_)
                          · rw [if_pos (of_decide_eq_true hb117)] at h
                            refine WQ_val rfl (gdY (b := (decide (x115 < (l_n2 : Int)))) 122 rfl rfl hb117) (o_move (v := .bool behind68) (by exact e12_85)) rfl ?_
                            refine WQ_val rfl (gdY (b := (decide (x115 < (l_n2 : Int)))) 122 rfl rfl hb117) (o_not rfl) rfl ?_
                            refine WQ_val rfl (gdY (b := (decide (x115 < (l_n2 : Int)))) 122 rfl rfl hb117) (o_move (v := .bool (!behind68)) rfl) rfl ?_
                            refine bsplit (!behind68) (fun hb118 => ?_) (fun hb118 => ?_)
                            · rw [if_pos hb118] at h
                              refine WQ_skip rfl (gdN (b := (!behind68)) 125 rfl rfl hb118) rfl ?_
                              refine WQ_skip rfl (gdN (b := (!behind68)) 125 rfl rfl hb118) rfl ?_
                              refine WQ_skip rfl (gdN (b := (!behind68)) 125 rfl rfl hb118) rfl ?_
                              refine WQ_skip rfl (gdN (b := (!behind68)) 125 rfl rfl hb118) rfl ?_
                              refine WQ_skip rfl (gdN (b := (!behind68)) 125 rfl rfl hb118) rfl ?_
                              refine WQ_skip rfl (gdN (b := (!behind68)) 125 rfl rfl hb118) rfl ?_
                              refine WQ_skip rfl (gdN (b := (!behind68)) 125 rfl rfl hb118) rfl ?_
                              refine WQ_skip rfl (gdN (b := (!behind68)) 125 rfl rfl hb118) rfl ?_
                              refine WQ_skip rfl (gdN (b := (!behind68)) 125 rfl rfl hb118) rfl ?_
                              refine WQ_skip rfl (gdN (b := (!behind68)) 125 rfl rfl hb118) rfl ?_
                              refine WQ_skip rfl (gdN (b := (!behind68)) 125 rfl rfl hb118) rfl ?_
                              refine WQ_skip rfl (gdN (b := (!behind68)) 125 rfl rfl hb118) rfl ?_
                              refine WQ_val rfl (gdY (b := (decide (x115 < (l_n2 : Int)))) 122 rfl rfl hb117) (o_pickT (v := .bool true) rfl hb118 rfl) rfl ?_
                              refine WQ_val rfl gd0 (o_pickT (v := .bool true) rfl hb117 rfl) rfl ?_
                              refine WQ_val rfl gd0 (o_assign (v := .bool true) rfl) rfl ?_
                              refine WQ_nil ?_
                              refine nrmB ?_
                              refine nrm ?_
                              refine WC_region ?_
                              refine WL_val gd0 ((o_move (v := .int .i64 i72) (by exact e14_87)) _) rfl ?_
                              refine WL_val gd0 ((o_add rfl rfl) _) rfl ?_
                              refine WL_val gd0 ((o_assign (v := .int .i64 (IntKind.i64.wrap (i72 + 1))) rfl) _) rfl ?_
                              refine WL_nil ?_
                              refine nrm ?_
                              obtain ⟨m74, hm74, h⟩ := h
                              exact ⟨m74, hm74, _, _, _, _, _, _, _, _, _, e10_80, rfl, e12_85, rfl, rfl, e0_76, e7_77, e8_78, e9_79, h⟩
                            · rw [if_neg (neT hb118)] at h
                              refine WQ_val rfl (gdY (b := (!behind68)) 125 rfl rfl hb118) (o_move (v := .slice l_a1 l_n2 l_c3) (by exact e0_76)) rfl ?_
                              refine WQ_val rfl (gdY (b := (!behind68)) 125 rfl rfl hb118) (o_move (v := .slice after_a50 after_n51 after_c52) (by exact e9_79)) rfl ?_
                              refine WQ_val rfl (gdY (b := (!behind68)) 125 rfl rfl hb118) (o_move (v := .int .i64 i72) (by exact e14_87)) rfl ?_
                              obtain ⟨l119, u120, h⟩ := h
                              refine WQ_val rfl (gdY (b := (!behind68)) 125 rfl rfl hb118) (o_indexAddr1 Try.underlying22 Try.sizeOf3 (by exact (congrArg (fun z => Value.slice z after_n51 after_c52) q92)) rfl l119 u120) rfl ?_
                              obtain ⟨x121, hc122, h⟩ := h
                              refine WQ_look (fun w => w.cell? (p91.add i72.toNat) = some (.int .i64 x121)) rfl (gdY (b := (!behind68)) 125 rfl rfl hb118) (fun w hc => (o_load Try.isAgg3 rfl hc)) hc122 rfl ?_
                              obtain ⟨l123, u124, h⟩ := h
                              refine WQ_val rfl (gdY (b := (!behind68)) 125 rfl rfl hb118) (o_indexAddr1 Try.underlying22 Try.sizeOf3 (by exact (congrArg (fun z => Value.slice z l_n2 l_c3) q43)) rfl l123 u124) rfl ?_
                              obtain ⟨x125, hc126, h⟩ := h
                              refine WQ_look (fun w => w.cell? (p42.add x121.toNat) = some (.int .i64 x125)) rfl (gdY (b := (!behind68)) 125 rfl rfl hb118) (fun w hc => (o_load Try.isAgg3 rfl hc)) hc126 rfl ?_
                              refine WQ_val rfl (gdY (b := (!behind68)) 125 rfl rfl hb118) (o_move (v := .slice l_a1 l_n2 l_c3) (by exact e0_76)) rfl ?_
                              refine WQ_val rfl (gdY (b := (!behind68)) 125 rfl rfl hb118) (o_move (v := .int .i64 (Int.tmod (IntKind.i64.wrap at4) (l_n2 : Int))) (by exact e7_77)) rfl ?_
                              obtain ⟨l127, u128, h⟩ := h
                              refine WQ_val rfl (gdY (b := (!behind68)) 125 rfl rfl hb118) (o_indexAddr1 Try.underlying22 Try.sizeOf3 (by exact (congrArg (fun z => Value.slice z l_n2 l_c3) q43)) rfl l127 u128) rfl ?_
                              obtain ⟨x129, hc130, h⟩ := h
                              refine WQ_look (fun w => w.cell? (p42.add ((Int.tmod (IntKind.i64.wrap at4) (l_n2 : Int)).toNat)) = some (.int .i64 x129)) rfl (gdY (b := (!behind68)) 125 rfl rfl hb118) (fun w hc => (o_load Try.isAgg3 rfl hc)) hc130 rfl ?_
                              refine WQ_val rfl (gdY (b := (!behind68)) 125 rfl rfl hb118) (o_gtr rfl rfl) rfl ?_
                              refine WQ_val rfl (gdY (b := (decide (x115 < (l_n2 : Int)))) 122 rfl rfl hb117) (o_pickF (v := .bool (decide (x129 < x125))) rfl hb118 rfl) rfl ?_
                              refine WQ_val rfl gd0 (o_pickT (v := .bool (decide (x129 < x125))) rfl hb117 rfl) rfl ?_
                              refine WQ_val rfl gd0 (o_assign (v := .bool (decide (x129 < x125))) rfl) rfl ?_
                              refine WQ_nil ?_
                              refine nrmB ?_
                              refine nrm ?_
                              refine WC_region ?_
                              refine WL_val gd0 ((o_move (v := .int .i64 i72) (by exact e14_87)) _) rfl ?_
                              refine WL_val gd0 ((o_add rfl rfl) _) rfl ?_
                              refine WL_val gd0 ((o_assign (v := .int .i64 (IntKind.i64.wrap (i72 + 1))) rfl) _) rfl ?_
                              refine WL_nil ?_
                              refine nrm ?_
                              obtain ⟨m74, hm74, h⟩ := h
                              exact ⟨m74, hm74, _, _, _, _, _, _, _, _, _, e10_80, rfl, e12_85, rfl, rfl, e0_76, e7_77, e8_78, e9_79, h⟩
                          · rw [if_neg (of_decide_eq_false hb117)] at h
                            refine WQ_skip rfl (gdN (b := (decide (x115 < (l_n2 : Int)))) 122 rfl rfl hb117) rfl ?_
                            refine WQ_skip rfl (gdN (b := (decide (x115 < (l_n2 : Int)))) 122 rfl rfl hb117) rfl ?_
                            refine WQ_skip rfl (gdN (b := (decide (x115 < (l_n2 : Int)))) 122 rfl rfl hb117) rfl ?_
                            refine WQ_skip rfl (gdU 125 rfl rfl) rfl ?_
                            refine WQ_skip rfl (gdU 125 rfl rfl) rfl ?_
                            refine WQ_skip rfl (gdU 125 rfl rfl) rfl ?_
                            refine WQ_skip rfl (gdU 125 rfl rfl) rfl ?_
                            refine WQ_skip rfl (gdU 125 rfl rfl) rfl ?_
                            refine WQ_skip rfl (gdU 125 rfl rfl) rfl ?_
                            refine WQ_skip rfl (gdU 125 rfl rfl) rfl ?_
                            refine WQ_skip rfl (gdU 125 rfl rfl) rfl ?_
                            refine WQ_skip rfl (gdU 125 rfl rfl) rfl ?_
                            refine WQ_skip rfl (gdU 125 rfl rfl) rfl ?_
                            refine WQ_skip rfl (gdU 125 rfl rfl) rfl ?_
                            refine WQ_skip rfl (gdU 125 rfl rfl) rfl ?_
                            refine WQ_skip rfl (gdN (b := (decide (x115 < (l_n2 : Int)))) 122 rfl rfl hb117) rfl ?_
                            refine WQ_val rfl gd0 (o_pickF (v := .bool false) rfl hb117 rfl) rfl ?_
                            refine WQ_val rfl gd0 (o_assign (v := .bool false) rfl) rfl ?_
                            refine WQ_nil ?_
                            refine nrmB ?_
                            refine nrm ?_
                            refine WC_region ?_
                            refine WL_val gd0 ((o_move (v := .int .i64 i72) (by exact e14_87)) _) rfl ?_
                            refine WL_val gd0 ((o_add rfl rfl) _) rfl ?_
                            refine WL_val gd0 ((o_assign (v := .int .i64 (IntKind.i64.wrap (i72 + 1))) rfl) _) rfl ?_
                            refine WL_nil ?_
                            refine nrm ?_
                            obtain ⟨m74, hm74, h⟩ := h
                            exact ⟨m74, hm74, _, _, _, _, _, _, _, _, _, e10_80, rfl, e12_85, rfl, rfl, e0_76, e7_77, e8_78, e9_79, h⟩
                        · rw [if_neg (of_decide_eq_false hb112)] at h
                          refine WQ_skip rfl (gdN (b := (decide (0 ≤ x110))) 113 rfl rfl hb112) rfl ?_
                          refine WQ_skip rfl (gdN (b := (decide (0 ≤ x110))) 113 rfl rfl hb112) rfl ?_
                          refine WQ_skip rfl (gdN (b := (decide (0 ≤ x110))) 113 rfl rfl hb112) rfl ?_
                          refine WQ_skip rfl (gdN (b := (decide (0 ≤ x110))) 113 rfl rfl hb112) rfl ?_
                          refine WQ_skip rfl (gdN (b := (decide (0 ≤ x110))) 113 rfl rfl hb112) rfl ?_
                          refine WQ_skip rfl (gdN (b := (decide (0 ≤ x110))) 113 rfl rfl hb112) rfl ?_
                          refine WQ_skip rfl (gdN (b := (decide (0 ≤ x110))) 113 rfl rfl hb112) rfl ?_
                          refine WQ_val rfl gd0 (o_pickF (v := .bool false) rfl hb112 rfl) rfl ?_
                          refine WQ_val rfl gd0 (o_move (v := .bool false) rfl) rfl ?_
                          refine WQ_skip rfl (gdN (b := false) 122 rfl rfl rfl) rfl ?_
                          refine WQ_skip rfl (gdN (b := false) 122 rfl rfl rfl) rfl ?_
                          refine WQ_skip rfl (gdN (b := false) 122 rfl rfl rfl) rfl ?_
                          refine WQ_skip rfl (gdU 125 rfl rfl) rfl ?_
                          refine WQ_skip rfl (gdU 125 rfl rfl) rfl ?_
                          refine WQ_skip rfl (gdU 125 rfl rfl) rfl ?_
                          refine WQ_skip rfl (gdU 125 rfl rfl) rfl ?_
                          refine WQ_skip rfl (gdU 125 rfl rfl) rfl ?_
                          refine WQ_skip rfl (gdU 125 rfl rfl) rfl ?_
                          refine WQ_skip rfl (gdU 125 rfl rfl) rfl ?_
                          refine WQ_skip rfl (gdU 125 rfl rfl) rfl ?_
                          refine WQ_skip rfl (gdU 125 rfl rfl) rfl ?_
                          refine WQ_skip rfl (gdU 125 rfl rfl) rfl ?_
                          refine WQ_skip rfl (gdU 125 rfl rfl) rfl ?_
                          refine WQ_skip rfl (gdU 125 rfl rfl) rfl ?_
                          refine WQ_skip rfl (gdN (b := false) 122 rfl rfl rfl) rfl ?_
                          refine WQ_val rfl gd0 (o_pickF (v := .bool false) rfl rfl rfl) rfl ?_
                          refine WQ_val rfl gd0 (o_assign (v := .bool false) rfl) rfl ?_
                          refine WQ_nil ?_
                          refine nrmB ?_
                          refine nrm ?_
                          refine WC_region ?_
                          refine WL_val gd0 ((o_move (v := .int .i64 i72) (by exact e14_87)) _) rfl ?_
                          refine WL_val gd0 ((o_add rfl rfl) _) rfl ?_
                          refine WL_val gd0 ((o_assign (v := .int .i64 (IntKind.i64.wrap (i72 + 1))) rfl) _) rfl ?_
                          refine WL_nil ?_
                          refine nrm ?_
                          obtain ⟨m74, hm74, h⟩ := h
                          exact ⟨m74, hm74, _, _, _, _, _, _, _, _, _, e10_80, rfl, e12_85, rfl, rfl, e0_76, e7_77, e8_78, e9_79, h⟩
                      · rw [if_neg (neT hb107)] at h
                        refine WQ_skip rfl (gdN (b := ok70) 106 rfl rfl hb107) rfl ?_
                        refine WQ_skip rfl (gdN (b := ok70) 106 rfl rfl hb107) rfl ?_
                        refine WQ_skip rfl (gdN (b := ok70) 106 rfl rfl hb107) rfl ?_
                        refine WQ_skip rfl (gdN (b := ok70) 106 rfl rfl hb107) rfl ?_
                        refine WQ_skip rfl (gdN (b := ok70) 106 rfl rfl hb107) rfl ?_
                        refine WQ_val rfl gd0 (o_pickF (v := .bool false) rfl hb107 rfl) rfl ?_
                        refine WQ_val rfl gd0 (o_move (v := .bool false) rfl) rfl ?_
                        refine WQ_skip rfl (gdN (b := false) 113 rfl rfl rfl) rfl ?_
                        refine WQ_skip rfl (gdN (b := false) 113 rfl rfl rfl) rfl ?_
                        refine WQ_skip rfl (gdN (b := false) 113 rfl rfl rfl) rfl ?_
                        refine WQ_skip rfl (gdN (b := false) 113 rfl rfl rfl) rfl ?_
                        refine WQ_skip rfl (gdN (b := false) 113 rfl rfl rfl) rfl ?_
                        refine WQ_skip rfl (gdN (b := false) 113 rfl rfl rfl) rfl ?_
                        refine WQ_skip rfl (gdN (b := false) 113 rfl rfl rfl) rfl ?_
                        refine WQ_val rfl gd0 (o_pickF (v := .bool false) rfl rfl rfl) rfl ?_
                        refine WQ_val rfl gd0 (o_move (v := .bool false) rfl) rfl ?_
                        refine WQ_skip rfl (gdN (b := false) 122 rfl rfl rfl) rfl ?_
                        refine WQ_skip rfl (gdN (b := false) 122 rfl rfl rfl) rfl ?_
                        refine WQ_skip rfl (gdN (b := false) 122 rfl rfl rfl) rfl ?_
                        refine WQ_skip rfl (gdU 125 rfl rfl) rfl ?_
                        refine WQ_skip rfl (gdU 125 rfl rfl) rfl ?_
                        refine WQ_skip rfl (gdU 125 rfl rfl) rfl ?_
                        refine WQ_skip rfl (gdU 125 rfl rfl) rfl ?_
                        refine WQ_skip rfl (gdU 125 rfl rfl) rfl ?_
                        refine WQ_skip rfl (gdU 125 rfl rfl) rfl ?_
                        refine WQ_skip rfl (gdU 125 rfl rfl) rfl ?_
                        refine WQ_skip rfl (gdU 125 rfl rfl) rfl ?_
                        refine WQ_skip rfl (gdU 125 rfl rfl) rfl ?_
                        refine WQ_skip rfl (gdU 125 rfl rfl) rfl ?_
                        refine WQ_skip rfl (gdU 125 rfl rfl) rfl ?_
                        refine WQ_skip rfl (gdU 125 rfl rfl) rfl ?_
                        refine WQ_skip rfl (gdN (b := false) 122 rfl rfl rfl) rfl ?_
                        refine WQ_val rfl gd0 (o_pickF (v := .bool false) rfl rfl rfl) rfl ?_
                        refine WQ_val rfl gd0 (o_assign (v := .bool false) rfl) rfl ?_
                        refine WQ_nil ?_
                        refine nrmB ?_
                        refine nrm ?_
                        refine WC_region ?_
                        refine WL_val gd0 ((o_move (v := .int .i64 i72) (by exact e14_87)) _) rfl ?_
                        refine WL_val gd0 ((o_add rfl rfl) _) rfl ?_
                        refine WL_val gd0 ((o_assign (v := .int .i64 (IntKind.i64.wrap (i72 + 1))) rfl) _) rfl ?_
                        refine WL_nil ?_
                        refine nrm ?_
                        obtain ⟨m74, hm74, h⟩ := h
                        exact ⟨m74, hm74, _, _, _, _, _, _, _, _, _, e10_80, rfl, e12_85, rfl, rfl, e0_76, e7_77, e8_78, e9_79, h⟩
                    · rw [if_neg (of_decide_eq_false hb95)] at h
                      refine WC_region ?_
                      refine WL_val gd0 ((o_assign (v := .bool true) rfl) _) rfl ?_
                      refine WL_nil ?_
                      refine nrmB ?_
                      refine nrm ?_
                      refine WC_region ?_
                      refine WL_val gd0 ((o_move (v := .int .i64 i72) (by exact e14_87)) _) rfl ?_
                      refine WL_val gd0 ((o_add rfl rfl) _) rfl ?_
                      refine WL_val gd0 ((o_assign (v := .int .i64 (IntKind.i64.wrap (i72 + 1))) rfl) _) rfl ?_
                      refine WL_nil ?_
                      refine nrm ?_
                      obtain ⟨m74, hm74, h⟩ := h
                      exact ⟨m74, hm74, _, _, _, _, _, _, _, _, _, e10_80, e11_84, rfl, e13_86, rfl, e0_76, e7_77, e8_78, e9_79, h⟩
                · rw [if_neg (of_decide_eq_false hb75)] at h
                  refine WC_exit ?_
                  refine exT ?_
                  refine exT ?_
                  refine exB ?_
                  refine nrm ?_
                  refine WC_seq ?_
                  refine WC_region ?_
                  refine WL_val gd0 ((o_move (v := .bool ok70) (by exact e13_69)) _) rfl ?_
                  refine WL_val gd0 ((o_move (v := .bool ok70) rfl) _) rfl ?_
                  refine bsplit ok70 (fun hb149 => ?_) (fun hb149 => ?_)
                  · rw [if_pos hb149] at h
                    refine WL_val (gdY (b := ok70) 141 rfl rfl hb149) ((o_move (v := .bool behind68) (by exact e12_67)) _) rfl ?_
                    refine WL_val gd0 ((o_pickT (v := .bool behind68) rfl hb149 rfl) _) rfl ?_
                    refine WL_val gd0 ((o_move (v := .bool behind68) rfl) _) rfl ?_
                    refine bsplit behind68 (fun hb150 => ?_) (fun hb150 => ?_)
                    · rw [if_pos hb150] at h
                      refine WL_val (gdY (b := behind68) 144 rfl rfl hb150) ((o_move (v := .slice a_a60 a_n61 a_c62) (by exact e10_59)) _) rfl ?_
                      refine WL_val (gdY (b := behind68) 144 rfl rfl hb150) ((o_move (v := .slice b_a64 b_n65 b_c66) (by exact e11_63)) _) rfl ?_
                      refine WL_call (gdY (b := behind68) 144 rfl rfl hb150) (o_call Try.call15 (argCons rfl (argCons rfl argNil)) _) rfl (h.mono ?_)
                      rintro _ w151 ⟨x152, rfl, h⟩
                      refine WL_val gd0 ((o_pickT (v := .bool x152) rfl hb150 rfl) _) rfl ?_
                      refine WL_val gd0 ((o_move (v := .bool x152) rfl) _) rfl ?_
                      refine bsplit x152 (fun hb153 => ?_) (fun hb153 => ?_)
                      · rw [if_pos hb153] at h
                        refine WL_call (gdY (b := x152) 149 rfl rfl hb153) (o_call Try.call8 argNil _) rfl (h.mono ?_)
                        rintro _ w154 ⟨x155, rfl, h⟩
                        refine WL_val gd0 ((o_pickT (v := .bool x155) rfl hb153 rfl) _) rfl ?_
                        refine WL_val gd0 ((o_assign (v := .bool x155) rfl) _) rfl ?_
                        refine WL_nil ?_
                        refine nrm ?_
                        refine WC_ret ?_
                        refine rtE ?_
                        exact gv1 rfl rfl h
                      · rw [if_neg (neT hb153)] at h
                        refine WL_skip (gdN (b := x152) 149 rfl rfl hb153) rfl ?_
                        refine WL_val gd0 ((o_pickF (v := .bool false) rfl hb153 rfl) _) rfl ?_
                        refine WL_val gd0 ((o_assign (v := .bool false) rfl) _) rfl ?_
                        refine WL_nil ?_
                        refine nrm ?_
                        refine WC_ret ?_
                        refine rtE ?_
                        exact gv1 rfl rfl h
                    · rw [if_neg (neT hb150)] at h
                      refine WL_skip (gdN (b := behind68) 144 rfl rfl hb150) rfl ?_
                      refine WL_skip (gdN (b := behind68) 144 rfl rfl hb150) rfl ?_
                      refine WL_skip (gdN (b := behind68) 144 rfl rfl hb150) rfl ?_
                      refine WL_val gd0 ((o_pickF (v := .bool false) rfl hb150 rfl) _) rfl ?_
                      refine WL_val gd0 ((o_move (v := .bool false) rfl) _) rfl ?_
                      refine WL_skip (gdN (b := false) 149 rfl rfl rfl) rfl ?_
                      refine WL_val gd0 ((o_pickF (v := .bool false) rfl rfl rfl) _) rfl ?_
                      refine WL_val gd0 ((o_assign (v := .bool false) rfl) _) rfl ?_
                      refine WL_nil ?_
                      refine nrm ?_
                      refine WC_ret ?_
                      refine rtE ?_
                      exact gv1 rfl rfl h
                  · rw [if_neg (neT hb149)] at h
                    refine WL_skip (gdN (b := ok70) 141 rfl rfl hb149) rfl ?_
                    refine WL_val gd0 ((o_pickF (v := .bool false) rfl hb149 rfl) _) rfl ?_
                    refine WL_val gd0 ((o_move (v := .bool false) rfl) _) rfl ?_
                    refine WL_skip (gdN (b := false) 144 rfl rfl rfl) rfl ?_
                    refine WL_skip (gdN (b := false) 144 rfl rfl rfl) rfl ?_
                    refine WL_skip (gdN (b := false) 144 rfl rfl rfl) rfl ?_
                    refine WL_val gd0 ((o_pickF (v := .bool false) rfl rfl rfl) _) rfl ?_
                    refine WL_val gd0 ((o_move (v := .bool false) rfl) _) rfl ?_
                    refine WL_skip (gdN (b := false) 149 rfl rfl rfl) rfl ?_
                    refine WL_val gd0 ((o_pickF (v := .bool false) rfl rfl rfl) _) rfl ?_
                    refine WL_val gd0 ((o_assign (v := .bool false) rfl) _) rfl ?_
                    refine WL_nil ?_
                    refine nrm ?_
                    refine WC_ret ?_
                    refine rtE ?_
                    exact gv1 rfl rfl h

def F6_j2 (p16 : Addr) (i25 : Int) (q43 : Option Addr) (w46 : World) (k : Value → World → Prop) (nx26 : Option Addr → Int → World → Prop) : Prop :=
  Does Try.prog 21 #[.pointer q43] w46 (fun v w47 => ∃ (r48 : Int) (r49 : Bool), v = .tuple #[.int .i64 r48, .bool r49] ∧ ∃ (x50 : Int) (x_a51 : Option Addr) (x_n52 x_c53 : Nat), Cells w47 p16 0 [.int .i64 x50, .slice x_a51 x_n52 x_c53] ∧ Does Try.prog 22 #[.agg #[.int .i64 x50, .slice x_a51 x_n52 x_c53]] w47 (fun v w55 => ∃ (r56 : Int) (r57 : Bool), v = .tuple #[.int .i64 r56, .bool r57] ∧ if r48 ≠ r56 then
  k (.bool false) w55.drew
else
  if (!(r49 == r57)) = true then
    k (.bool false) w55.drew
  else
    ∃ (x_a60 : Option Addr) (x_n61 x_c62 : Nat), w55.drew.cell? (p16.add 1) = some (.slice x_a60 x_n61 x_c62) ∧ Does Try.prog 13 #[.pointer q43] w55.drew (fun v w64 => ∃ (x65 : Int), v = .int .i64 x65 ∧ w64.cell? (p16.add 1) = some (.slice x_a60 x_n61 x_c62) ∧ if x65 ≠ (x_n61 : Int) then
      k (.bool false) w64
    else
      ∃ (x68 : Int) (x_a69 : Option Addr) (x_n70 x_c71 : Nat), Cells w64 p16 0 [.int .i64 x68, .slice x_a69 x_n70 x_c71] ∧ Does Try.prog 11 #[.pointer q43] w64 (fun v w73 => ∃ (x_a74 : Option Addr) (x_n75 x_c76 : Nat), v = .slice x_a74 x_n75 x_c76 ∧ Cells w73 p16 0 [.int .i64 x68, .slice x_a69 x_n70 x_c71] ∧ Does Try.prog 23 #[.agg #[.int .i64 x68, .slice x_a69 x_n70 x_c71]] w73 (fun v w78 => ∃ (x_a79 : Option Addr) (x_n80 x_c81 : Nat), v = .slice x_a79 x_n80 x_c81 ∧ Does Try.prog 15 #[.slice x_a74 x_n75 x_c76, .slice x_a79 x_n80 x_c81] w78 (fun v w82 => ∃ (x83 : Bool), v = .bool x83 ∧ if (!x83) = true then
        k (.bool false) w82
      else
        nx26 q43 (IntKind.i64.wrap (i25 + 1)) w82))))))
def F6_b1 (l_n3 : Nat) (l_a2 : Option Addr) (p16 : Addr) (q22 : Option Addr) (i25 : Int) (w26 : World) (k : Value → World → Prop) (nx26 : Option Addr → Int → World → Prop) : Prop :=
  if i25 < (l_n3 : Int) then
  ∃ (p31 : Addr), l_a2 = some p31 ∧ (0 : Int) ≤ i25 ∧ i25 < (l_n3 : Int) ∧ ∃ (x33 x34 x35 : Int), Cells w26 (p31.add (i25.toNat * 3)) 0 [.int .i64 x33, .int .i64 x34, .int .i64 x35] ∧ New w26 43 [.int .i64 0, .int .i64 0, .int .i64 0] (fun p37 w38 => PutAll w38 p37 [.int .i64 x33, .int .i64 x34, .int .i64 x35] (fun w39 => ∃ (x85 : Int), w39.cell? p37 = some (.int .i64 x85) ∧ if x85 = 1 then
    ∃ (x88 : Int), w39.cell? (p37.add 1) = some (.int .i64 x88) ∧ ∃ (x90 : Int), w39.cell? (p37.add 2) = some (.int .i64 x90) ∧ Does Try.prog 10 #[.pointer q22, .int .i64 x88, .int .i64 x90] w39 (fun v w92 => ∃ (e_93 : Int), v = .int .i64 e_93 ∧ ∃ (x94 : Int) (x_a95 : Option Addr) (x_n96 x_c97 : Nat), Cells w92 p16 0 [.int .i64 x94, .slice x_a95 x_n96 x_c97] ∧ ∃ (x99 : Int), w92.cell? (p37.add 1) = some (.int .i64 x99) ∧ ∃ (x101 : Int), w92.cell? (p37.add 2) = some (.int .i64 x101) ∧ Does Try.prog 17 #[.agg #[.int .i64 x94, .slice x_a95 x_n96 x_c97], .int .i64 x99, .int .i64 x101] w92 (fun v w103 => ∃ (r104 : Int) (r_a105 : Option Addr) (r_n106 r_c107 : Nat) (r108 : Int), v = .tuple #[.agg #[.int .i64 r104, .slice r_a105 r_n106 r_c107], .int .i64 r108] ∧ New w103 40 [.int .i64 0, .slice none 0 0] (fun p109 w110 => PutAll w110 p109 [.int .i64 r104, .slice r_a105 r_n106 r_c107] (fun w111 => ∃ (x113 : Int) (x_a114 : Option Addr) (x_n115 x_c116 : Nat), Cells w111 p109 0 [.int .i64 x113, .slice x_a114 x_n115 x_c116] ∧ PutAll w111 p16 [.int .i64 x113, .slice x_a114 x_n115 x_c116] (fun w118 => if e_93 ≠ r108 then
      k (.bool false) w118
    else
      F6_j2 p16 i25 q22 w118 k nx26)))))
  else
    if x85 = 2 then
      Does Try.prog 12 #[.pointer q22] w39 (fun v w122 => ∃ (r123 : Int) (r124 : Bool), v = .tuple #[.int .i64 r123, .bool r124] ∧ ∃ (x125 : Int) (x_a126 : Option Addr) (x_n127 x_c128 : Nat), Cells w122 p16 0 [.int .i64 x125, .slice x_a126 x_n127 x_c128] ∧ Does Try.prog 18 #[.agg #[.int .i64 x125, .slice x_a126 x_n127 x_c128]] w122 (fun v w130 => ∃ (r131 : Int) (r_a132 : Option Addr) (r_n133 r_c134 : Nat) (r135 : Int) (r136 : Bool), v = .tuple #[.agg #[.int .i64 r131, .slice r_a132 r_n133 r_c134], .int .i64 r135, .bool r136] ∧ New w130 40 [.int .i64 0, .slice none 0 0] (fun p137 w138 => PutAll w138 p137 [.int .i64 r131, .slice r_a132 r_n133 r_c134] (fun w139 => ∃ (x141 : Int) (x_a142 : Option Addr) (x_n143 x_c144 : Nat), Cells w139 p137 0 [.int .i64 x141, .slice x_a142 x_n143 x_c144] ∧ PutAll w139 p16 [.int .i64 x141, .slice x_a142 x_n143 x_c144] (fun w146 => if r123 ≠ r135 then
        k (.bool false) w146
      else
        if (!(r124 == r136)) = true then
          k (.bool false) w146
        else
          F6_j2 p16 i25 q22 w146 k nx26)))))
    else
      if x85 = 4 then
        ∃ (x151 : Int), w39.cell? (p37.add 2) = some (.int .i64 x151) ∧ Does Try.prog 14 #[.pointer q22, .int .i64 x151] w39 (fun v w153 => ∃ (ok154 : Bool), v = .bool ok154 ∧ ∃ (x155 : Int) (x_a156 : Option Addr) (x_n157 x_c158 : Nat), Cells w153 p16 0 [.int .i64 x155, .slice x_a156 x_n157 x_c158] ∧ ∃ (x160 : Int), w153.cell? (p37.add 2) = some (.int .i64 x160) ∧ Does Try.prog 19 #[.agg #[.int .i64 x155, .slice x_a156 x_n157 x_c158], .int .i64 x160] w153 (fun v w162 => ∃ (r163 : Int) (r_a164 : Option Addr) (r_n165 r_c166 : Nat) (r167 : Bool), v = .tuple #[.agg #[.int .i64 r163, .slice r_a164 r_n165 r_c166], .bool r167] ∧ New w162 40 [.int .i64 0, .slice none 0 0] (fun p168 w169 => PutAll w169 p168 [.int .i64 r163, .slice r_a164 r_n165 r_c166] (fun w170 => ∃ (x172 : Int) (x_a173 : Option Addr) (x_n174 x_c175 : Nat), Cells w170 p168 0 [.int .i64 x172, .slice x_a173 x_n174 x_c175] ∧ PutAll w170 p16 [.int .i64 x172, .slice x_a173 x_n174 x_c175] (fun w177 => if (!(ok154 == r167)) = true then
          k (.bool false) w177
        else
          F6_j2 p16 i25 q22 w177 k nx26)))))
      else
        if x85 = 5 then
          Does Try.prog 20 #[.pointer q22] w39 (fun v w181 => ∃ (c182 : Option Addr), v = .pointer c182 ∧ ∃ (x183 : Int), w181.cell? (p37.add 1) = some (.int .i64 x183) ∧ ∃ (x185 : Int), w181.cell? (p37.add 2) = some (.int .i64 x185) ∧ Does Try.prog 10 #[.pointer q22, .int .i64 x183, .int .i64 x185] w181 (fun v w187 => ∃ (x188 : Int), v = .int .i64 x188 ∧ Does Try.prog 12 #[.pointer q22] w187 (fun v w189 => ∃ (r190 : Int) (r191 : Bool), v = .tuple #[.int .i64 r190, .bool r191] ∧ F6_j2 p16 i25 c182 w189 k nx26)))
        else
          F6_j2 p16 i25 q22 w39 k nx26))
else
  Does Try.prog 8 #[] w26 (fun v w192 => ∃ (t193 : Bool), v = .bool t193 ∧ k (.bool t193) w192)
/-- spacecraft spacecraftlaw08.QueuePlays -/
def F6 (most1 : Int) (l_a2 : Option Addr) (l_n3 : Nat) (l_c4 : Nat) (w5 : World) (k : Value → World → Prop) : Prop :=
  if 100 < (l_n3 : Int) then
  Does Try.prog 8 #[] w5 (fun v w7 => ∃ (t8 : Bool), v = .bool t8 ∧ k (.bool t8) w7)
else
  Does Try.prog 9 #[.int .i64 most1] w5 (fun v w9 => ∃ (q10 : Option Addr), v = .pointer q10 ∧ Does Try.prog 16 #[.int .i64 most1] w9 (fun v w11 => ∃ (x12 : Int) (x_a13 : Option Addr) (x_n14 x_c15 : Nat), v = .agg #[.int .i64 x12, .slice x_a13 x_n14 x_c15] ∧ New w11 40 [.int .i64 0, .slice none 0 0] (fun p16 w17 => PutAll w17 p16 [.int .i64 x12, .slice x_a13 x_n14 x_c15] (fun w18 => LoopP (fun (s : Option Addr × Int) w' nx' => F6_b1 l_n3 l_a2 p16 (s.1) (s.2) w' k (fun x0 x1 w => nx' (x0, x1) w)) (q10, 0) w18))))
set_option maxRecDepth 100000 in
set_option maxHeartbeats 2000000 in
theorem w6 (most1 : Int) (l_a2 : Option Addr) (l_n3 : Nat) (l_c4 : Nat) (w5 : World) (k : Value → World → Prop) (h : F6 most1 l_a2 l_n3 l_c4 w5 k) : Does Try.prog 6 #[.int .i64 most1, .slice l_a2 l_n3 l_c4] w5 k := by
  refine enter 153 Try.func6 rfl rfl rfl ?_
  intro ρ hρ
  have e0 := hρ 0 _ rfl
  have e1 := hρ 1 _ rfl
  unfold F6 at h
  refine WC_seq ?_
  refine WC_region ?_
  refine WL_val gd0 ((o_assign (v := .bool false) rfl) _) rfl ?_
  refine WL_nil ?_
  refine nrm ?_
  refine WC_seq ?_
  refine WC_seq ?_
  refine WC_region ?_
  refine WL_val gd0 ((o_move (v := .slice l_a2 l_n3 l_c4) (by exact e1)) _) rfl ?_
  refine WL_val gd0 ((o_len Try.underlying37 rfl) _) rfl ?_
  refine WL_val gd0 ((o_gtr rfl rfl) _) rfl ?_
  refine WL_nil ?_
  refine nrm ?_
  refine WC_cond (t := (decide (100 < (l_n3 : Int)))) rfl (fun hb6 => ?_) (fun hb6 => ?_)
  · rw [if_pos (of_decide_eq_true hb6)] at h
    refine WC_seq ?_
    refine WC_region ?_
    refine WL_call gd0 (o_call Try.call8 argNil _) rfl (h.mono ?_)
    rintro _ w7 ⟨t8, rfl, h⟩
    refine WL_val gd0 ((o_assign (v := .bool t8) rfl) _) rfl ?_
    refine WL_nil ?_
    refine nrm ?_
    refine WC_ret ?_
    refine rtT ?_
    refine rtE ?_
    exact gv1 rfl rfl h
  · rw [if_neg (of_decide_eq_false hb6)] at h
    refine WC_skip ?_
    refine nrm ?_
    refine WC_seq ?_
    refine WC_region ?_
    refine WL_val gd0 ((o_move (v := .int .i64 most1) (by exact e0)) _) rfl ?_
    refine WL_call gd0 (o_call Try.call9 (argCons rfl argNil) _) rfl (h.mono ?_)
    rintro _ w9 ⟨q10, rfl, h⟩
    refine WL_val gd0 ((o_assign (v := .pointer q10) rfl) _) rfl ?_
    refine WL_nil ?_
    refine nrm ?_
    refine WC_seq ?_
    refine WC_region ?_
    refine WL_val gd0 ((o_move (v := .int .i64 most1) (by exact e0)) _) rfl ?_
    refine WL_call gd0 (o_call Try.call16 (argCons rfl argNil) _) rfl (h.mono ?_)
    rintro _ w11 ⟨x12, x_a13, x_n14, x_c15, rfl, h⟩
    have h := New.out h
    refine WL_val gd0 (o_alloc (z := .agg #[.int .i64 0, .slice none 0 0]) (cs := [.int .i64 0, .slice none 0 0]) Try.zeroValue40 rfl) rfl ?_
    generalize hp16 : fresh w11 = p16 at h ⊢
    generalize hw17 : push w11 40 [.int .i64 0, .slice none 0 0] = w17 at h ⊢
    try dsimp only at h
    obtain ⟨c19, h⟩ := h
    refine WL_act gd0 (o_storeAgg (vs := [.int .i64 x12, .slice x_a13 x_n14 x_c15]) Try.sizeOf40 rfl rfl rfl c19) ?_
    generalize hw18 : setAll w17 p16 0 [.int .i64 x12, .slice x_a13 x_n14 x_c15] = w18 at h ⊢
    try dsimp only at h
    refine WL_nil ?_
    refine nrm ?_
    refine WC_seq ?_
    refine WC_seq ?_
    refine WC_region ?_
    refine WL_val gd0 ((o_assign (v := .int .i64 0) rfl) _) rfl ?_
    refine WL_nil ?_
    refine nrm ?_
    refine WC_block ?_
    obtain ⟨J26, ⟨n26, h0⟩, hr26⟩ := h
    refine WC_loop (fun n ρ w' => ∃ (q22 : Option Addr) (i25 : Int), ρ 5 = .pointer q22 ∧ ρ 7 = .int .i64 i25 ∧ ρ 1 = .slice l_a2 l_n3 l_c4 ∧ ρ 6 = .pointer (some p16) ∧ J26 n (q22, i25) w') ⟨n26, _, _, rfl, rfl, e1, rfl, h0⟩ ?_
    rintro n26 ρ w26 ⟨q22, i25, e5_21, e7_24, e1_20, e6_23, h⟩
    have h : F6_b1 l_n3 l_a2 p16 q22 i25 w26 k (fun x0 x1 w => ∃ m, m < n26 ∧ J26 m (x0, x1) w) := hr26 n26 (q22, i25) w26 h
    unfold F6_b1 at h
    refine WC_seq ?_
    refine WC_seq ?_
    refine WC_region ?_
    refine WL_val gd0 ((o_move (v := .int .i64 i25) (by exact e7_24)) _) rfl ?_
    refine WL_val gd0 ((o_move (v := .slice l_a2 l_n3 l_c4) (by exact e1_20)) _) rfl ?_
    refine WL_val gd0 ((o_len Try.underlying37 rfl) _) rfl ?_
    refine WL_val gd0 ((o_lss rfl rfl) _) rfl ?_
    refine WL_nil ?_
    refine nrm ?_
    refine WC_cond (t := (decide (i25 < (l_n3 : Int)))) rfl (fun hb28 => ?_) (fun hb28 => ?_)
    · rw [if_pos (of_decide_eq_true hb28)] at h
      refine WC_skip ?_
      refine nrm ?_
      refine WC_seq ?_
      refine WC_block ?_
      refine WC_seq ?_
      refine WC_region ?_
      refine WL_val gd0 ((o_move (v := .slice l_a2 l_n3 l_c4) (by exact e1_20)) _) rfl ?_
      refine WL_val gd0 ((o_move (v := .int .i64 i25) (by exact e7_24)) _) rfl ?_
      obtain ⟨p31, q32, h⟩ := h
      obtain ⟨l29, u30, h⟩ := h
      refine WL_val gd0 ((o_indexAddr Try.underlying37 Try.sizeOf43 (by exact (congrArg (fun z => Value.slice z l_n3 l_c4) q32)) rfl l29 u30) _) rfl ?_
      obtain ⟨x33, x34, x35, hc36, h⟩ := h
      refine WL_val gd0 (o_loadAgg (vs := [.int .i64 x33, .int .i64 x34, .int .i64 x35]) Try.isAgg43 Try.sizeOf43 rfl hc36) rfl ?_
      have h := New.out h
      refine WL_val gd0 (o_alloc (z := .agg #[.int .i64 0, .int .i64 0, .int .i64 0]) (cs := [.int .i64 0, .int .i64 0, .int .i64 0]) Try.zeroValue43 rfl) rfl ?_
      generalize hp37 : fresh w26 = p37 at h ⊢
      generalize hw38 : push w26 43 [.int .i64 0, .int .i64 0, .int .i64 0] = w38 at h ⊢
      try dsimp only at h
      obtain ⟨c40, h⟩ := h
      refine WL_act gd0 (o_storeAgg (vs := [.int .i64 x33, .int .i64 x34, .int .i64 x35]) Try.sizeOf43 rfl rfl rfl c40) ?_
      generalize hw39 : setAll w38 p37 0 [.int .i64 x33, .int .i64 x34, .int .i64 x35] = w39 at h ⊢
      try dsimp only at h
      refine WL_nil ?_
      refine nrm ?_
      refine WC_cut (fun ρ w' => ∃ (q43 : Option Addr), ρ 5 = .pointer q43 ∧ ρ 1 = .slice l_a2 l_n3 l_c4 ∧ ρ 6 = .pointer (some p16) ∧ ρ 7 = .int .i64 i25 ∧ F6_j2 p16 i25 q43 w' k (fun x0 x1 w => ∃ m, m < n26 ∧ J26 m (x0, x1) w)) ?_ ?_
      · refine WC_seq ?_
        refine WC_region ?_
        refine WL_val gd0 ((o_fieldAddr0 Try.underlying43 rfl Try.sizeOf3 rfl rfl rfl) _) rfl ?_
        obtain ⟨x85, hc86, h⟩ := h
        refine WL_val gd0 (o_load Try.isAgg3 rfl hc86) rfl ?_
        refine WL_nil ?_
        refine nrm ?_
        refine WC_block ?_
        refine WC_seq ?_
        refine WC_region ?_
        refine WL_val gd0 ((o_eql rfl rfl) _) rfl ?_
        refine WL_val gd0 ((o_assign (v := .bool (decide (x85 = 1))) rfl) _) rfl ?_
        refine WL_nil ?_
        refine nrm ?_
        refine WC_cond (t := (decide (x85 = 1))) rfl (fun hb87 => ?_) (fun hb87 => ?_)
        · rw [if_pos (of_decide_eq_true hb87)] at h
          refine WC_seq ?_
          refine WC_region ?_
          refine WL_val gd0 ((o_move (v := .pointer q22) (by exact e5_21)) _) rfl ?_
          refine WL_val gd0 ((o_fieldAddr 1 Try.underlying43 rfl Try.sizeOf3 rfl rfl rfl) _) rfl ?_
          obtain ⟨x88, hc89, h⟩ := h
          refine WL_val gd0 (o_load Try.isAgg3 rfl hc89) rfl ?_
          refine WL_val gd0 ((o_fieldAddr 2 Try.underlying43 rfl Try.sizeOf3 rfl rfl rfl) _) rfl ?_
          obtain ⟨x90, hc91, h⟩ := h
          refine WL_val gd0 (o_load Try.isAgg3 rfl hc91) rfl ?_
          refine WL_call gd0 (o_call Try.call10 (argCons rfl (argCons rfl (argCons rfl argNil))) _) rfl (h.mono ?_)
          rintro _ w92 ⟨e_93, rfl, h⟩
          refine WL_val gd0 ((o_assign (v := .int .i64 e_93) rfl) _) rfl ?_
          refine WL_nil ?_
          refine nrm ?_
          refine WC_seq ?_
          refine WC_region ?_
          obtain ⟨x94, x_a95, x_n96, x_c97, hc98, h⟩ := h
          refine WL_val gd0 (o_loadAgg (vs := [.int .i64 x94, .slice x_a95 x_n96 x_c97]) Try.isAgg40 Try.sizeOf40 (by exact e6_23) hc98) rfl ?_
          refine WL_val gd0 ((o_fieldAddr 1 Try.underlying43 rfl Try.sizeOf3 rfl rfl rfl) _) rfl ?_
          obtain ⟨x99, hc100, h⟩ := h
          refine WL_val gd0 (o_load Try.isAgg3 rfl hc100) rfl ?_
          refine WL_val gd0 ((o_fieldAddr 2 Try.underlying43 rfl Try.sizeOf3 rfl rfl rfl) _) rfl ?_
          obtain ⟨x101, hc102, h⟩ := h
          refine WL_val gd0 (o_load Try.isAgg3 rfl hc102) rfl ?_
          refine WL_call gd0 (o_call Try.call17 (argCons rfl (argCons rfl (argCons rfl argNil))) _) rfl (h.mono ?_)
          rintro _ w103 ⟨r104, r_a105, r_n106, r_c107, r108, rfl, h⟩
          refine WL_val gd0 ((o_move (v := .tuple #[.agg #[.int .i64 r104, .slice r_a105 r_n106 r_c107], .int .i64 r108]) rfl) _) rfl ?_
          refine WL_val gd0 ((o_extract (vs := [.agg #[.int .i64 r104, .slice r_a105 r_n106 r_c107], .int .i64 r108]) (r := .agg #[.int .i64 r104, .slice r_a105 r_n106 r_c107]) rfl rfl) _) rfl ?_
          refine WL_val gd0 ((o_extract (vs := [.agg #[.int .i64 r104, .slice r_a105 r_n106 r_c107], .int .i64 r108]) (r := .int .i64 r108) rfl rfl) _) rfl ?_
          have h := New.out h
          refine WL_val gd0 (o_alloc (z := .agg #[.int .i64 0, .slice none 0 0]) (cs := [.int .i64 0, .slice none 0 0]) Try.zeroValue40 rfl) rfl ?_
          generalize hp109 : fresh w103 = p109 at h ⊢
          generalize hw110 : push w103 40 [.int .i64 0, .slice none 0 0] = w110 at h ⊢
          try dsimp only at h
          obtain ⟨c112, h⟩ := h
          refine WL_act gd0 (o_storeAgg (vs := [.int .i64 r104, .slice r_a105 r_n106 r_c107]) Try.sizeOf40 rfl rfl rfl c112) ?_
          generalize hw111 : setAll w110 p109 0 [.int .i64 r104, .slice r_a105 r_n106 r_c107] = w111 at h ⊢
          try dsimp only at h
          refine WL_val gd0 ((o_assign (v := .int .i64 r108) rfl) _) rfl ?_
          refine WL_nil ?_
          refine nrm ?_
          refine WC_seq ?_
          refine WC_region ?_
          obtain ⟨x113, x_a114, x_n115, x_c116, hc117, h⟩ := h
          refine WL_val gd0 (o_loadAgg (vs := [.int .i64 x113, .slice x_a114 x_n115 x_c116]) Try.isAgg40 Try.sizeOf40 rfl hc117) rfl ?_
          obtain ⟨c119, h⟩ := h
          refine WL_act gd0 (o_storeAgg (vs := [.int .i64 x113, .slice x_a114 x_n115 x_c116]) Try.sizeOf40 (by exact e6_23) rfl rfl c119) ?_
          generalize hw118 : setAll w111 p16 0 [.int .i64 x113, .slice x_a114 x_n115 x_c116] = w118 at h ⊢
          try dsimp only at h
          refine WL_nil ?_
          refine nrm ?_
          refine WC_seq ?_
          refine WC_region ?_
          refine WL_val gd0 ((o_move (v := .int .i64 e_93) rfl) _) rfl ?_
          refine WL_val gd0 ((o_move (v := .int .i64 r108) rfl) _) rfl ?_
          refine WL_val gd0 ((o_neq rfl rfl) _) rfl ?_
          refine WL_nil ?_
          refine nrm ?_
          refine WC_cond (t := (decide (e_93 ≠ r108))) rfl (fun hb120 => ?_) (fun hb120 => ?_)
          · rw [if_pos (of_decide_eq_true hb120)] at h
            refine WC_seq ?_
            refine WC_region ?_
            refine WL_val gd0 ((o_assign (v := .bool false) rfl) _) rfl ?_
            refine WL_nil ?_
            refine nrm ?_
            refine WC_ret ?_
            refine rtB ?_
            refine rtT ?_
            refine rtB ?_
            refine rtT ?_
            refine rtT ?_
            refine rtB ?_
            refine rtT ?_
            refine rtE ?_
            exact gv1 rfl rfl h
          · rw [if_neg (of_decide_eq_false hb120)] at h
            refine WC_skip ?_
            refine nrmB ?_
            refine nrm ?_
            exact ⟨_, e5_21, e1_20, e6_23, e7_24, h⟩
        · rw [if_neg (of_decide_eq_false hb87)] at h
          refine WC_seq ?_
          refine WC_region ?_
          refine WL_val gd0 ((o_eql rfl rfl) _) rfl ?_
          refine WL_val gd0 ((o_assign (v := .bool (decide (x85 = 2))) rfl) _) rfl ?_
          refine WL_nil ?_
          refine nrm ?_
          refine WC_cond (t := (decide (x85 = 2))) rfl (fun hb121 => ?_) (fun hb121 => ?_)
          · rw [if_pos (of_decide_eq_true hb121)] at h
            refine WC_seq ?_
            refine WC_region ?_
            refine WL_val gd0 ((o_move (v := .pointer q22) (by exact e5_21)) _) rfl ?_
            refine WL_call gd0 (o_call Try.call12 (argCons rfl argNil) _) rfl (h.mono ?_)
            rintro _ w122 ⟨r123, r124, rfl, h⟩
            refine WL_val gd0 ((o_move (v := .tuple #[.int .i64 r123, .bool r124]) rfl) _) rfl ?_
            refine WL_val gd0 ((o_extract (vs := [.int .i64 r123, .bool r124]) (r := .int .i64 r123) rfl rfl) _) rfl ?_
            refine WL_val gd0 ((o_extract (vs := [.int .i64 r123, .bool r124]) (r := .bool r124) rfl rfl) _) rfl ?_
            refine WL_val gd0 ((o_assign (v := .int .i64 r123) rfl) _) rfl ?_
            refine WL_val gd0 ((o_assign (v := .bool r124) rfl) _) rfl ?_
            refine WL_nil ?_
            refine nrm ?_
            refine WC_seq ?_
            refine WC_region ?_
            obtain ⟨x125, x_a126, x_n127, x_c128, hc129, h⟩ := h
            refine WL_val gd0 (o_loadAgg (vs := [.int .i64 x125, .slice x_a126 x_n127 x_c128]) Try.isAgg40 Try.sizeOf40 (by exact e6_23) hc129) rfl ?_
            refine WL_call gd0 (o_call Try.call18 (argCons rfl argNil) _) rfl (h.mono ?_)
            rintro _ w130 ⟨r131, r_a132, r_n133, r_c134, r135, r136, rfl, h⟩
            refine WL_val gd0 ((o_move (v := .tuple #[.agg #[.int .i64 r131, .slice r_a132 r_n133 r_c134], .int .i64 r135, .bool r136]) rfl) _) rfl ?_
            refine WL_val gd0 ((o_extract (vs := [.agg #[.int .i64 r131, .slice r_a132 r_n133 r_c134], .int .i64 r135, .bool r136]) (r := .agg #[.int .i64 r131, .slice r_a132 r_n133 r_c134]) rfl rfl) _) rfl ?_
            refine WL_val gd0 ((o_extract (vs := [.agg #[.int .i64 r131, .slice r_a132 r_n133 r_c134], .int .i64 r135, .bool r136]) (r := .int .i64 r135) rfl rfl) _) rfl ?_
            refine WL_val gd0 ((o_extract (vs := [.agg #[.int .i64 r131, .slice r_a132 r_n133 r_c134], .int .i64 r135, .bool r136]) (r := .bool r136) rfl rfl) _) rfl ?_
            have h := New.out h
            refine WL_val gd0 (o_alloc (z := .agg #[.int .i64 0, .slice none 0 0]) (cs := [.int .i64 0, .slice none 0 0]) Try.zeroValue40 rfl) rfl ?_
            generalize hp137 : fresh w130 = p137 at h ⊢
            generalize hw138 : push w130 40 [.int .i64 0, .slice none 0 0] = w138 at h ⊢
            try dsimp only at h
            obtain ⟨c140, h⟩ := h
            refine WL_act gd0 (o_storeAgg (vs := [.int .i64 r131, .slice r_a132 r_n133 r_c134]) Try.sizeOf40 rfl rfl rfl c140) ?_
            generalize hw139 : setAll w138 p137 0 [.int .i64 r131, .slice r_a132 r_n133 r_c134] = w139 at h ⊢
            try dsimp only at h
            refine WL_val gd0 ((o_assign (v := .int .i64 r135) rfl) _) rfl ?_
            refine WL_val gd0 ((o_assign (v := .bool r136) rfl) _) rfl ?_
            refine WL_nil ?_
            refine nrm ?_
            refine WC_seq ?_
            refine WC_region ?_
            obtain ⟨x141, x_a142, x_n143, x_c144, hc145, h⟩ := h
            refine WL_val gd0 (o_loadAgg (vs := [.int .i64 x141, .slice x_a142 x_n143 x_c144]) Try.isAgg40 Try.sizeOf40 rfl hc145) rfl ?_
            obtain ⟨c147, h⟩ := h
            refine WL_act gd0 (o_storeAgg (vs := [.int .i64 x141, .slice x_a142 x_n143 x_c144]) Try.sizeOf40 (by exact e6_23) rfl rfl c147) ?_
            generalize hw146 : setAll w139 p16 0 [.int .i64 x141, .slice x_a142 x_n143 x_c144] = w146 at h ⊢
            try dsimp only at h
            refine WL_nil ?_
            refine nrm ?_
            refine WC_seq ?_
            refine WC_region ?_
            refine WL_val gd0 ((o_move (v := .int .i64 r123) rfl) _) rfl ?_
            refine WL_val gd0 ((o_move (v := .int .i64 r135) rfl) _) rfl ?_
            refine WL_val gd0 ((o_neq rfl rfl) _) rfl ?_
            refine WL_val gd0 ((o_move (v := .bool (decide (r123 ≠ r135))) rfl) _) rfl ?_
            refine bsplit (decide (r123 ≠ r135)) (fun hb148 => ?_) (fun hb148 => ?_)
            · rw [if_pos (of_decide_eq_true hb148)] at h
              refine WL_skip (gdN (b := (decide (r123 ≠ r135))) 83 rfl rfl hb148) rfl ?_
              refine WL_skip (gdN (b := (decide (r123 ≠ r135))) 83 rfl rfl hb148) rfl ?_
              refine WL_skip (gdN (b := (decide (r123 ≠ r135))) 83 rfl rfl hb148) rfl ?_
              refine WL_val gd0 ((o_pickT (v := .bool true) rfl hb148 rfl) _) rfl ?_
              refine WL_nil ?_
              refine nrm ?_
              refine WC_cond (t := true) rfl (fun _ => ?_) (fun hx => by rw [(rfl : true = true)] at hx; cases hx)
              refine WC_seq ?_
              refine WC_region ?_
              refine WL_val gd0 ((o_assign (v := .bool false) rfl) _) rfl ?_
              refine WL_nil ?_
              refine nrm ?_
              refine WC_ret ?_
              refine rtB ?_
              refine rtT ?_
              refine rtB ?_
              refine rtT ?_
              refine rtT ?_
              refine rtB ?_
              refine rtT ?_
              refine rtE ?_
              exact gv1 rfl rfl h
            · rw [if_neg (of_decide_eq_false hb148)] at h
              refine WL_val (gdY (b := (decide (r123 ≠ r135))) 83 rfl rfl hb148) ((o_move (v := .bool r124) rfl) _) rfl ?_
              refine WL_val (gdY (b := (decide (r123 ≠ r135))) 83 rfl rfl hb148) ((o_move (v := .bool r136) rfl) _) rfl ?_
              refine WL_val (gdY (b := (decide (r123 ≠ r135))) 83 rfl rfl hb148) ((o_neqBool Try.underlying4 rfl rfl) _) rfl ?_
              refine WL_val gd0 ((o_pickF (v := .bool (!(r124 == r136))) rfl hb148 rfl) _) rfl ?_
              refine WL_nil ?_
              refine nrm ?_
              refine WC_cond (t := (!(r124 == r136))) rfl (fun hb149 => ?_) (fun hb149 => ?_)
              · rw [if_pos hb149] at h
                refine WC_seq ?_
                refine WC_region ?_
                refine WL_val gd0 ((o_assign (v := .bool false) rfl) _) rfl ?_
                refine WL_nil ?_
                refine nrm ?_
                refine WC_ret ?_
                refine rtB ?_
                refine rtT ?_
                refine rtB ?_
                refine rtT ?_
                refine rtT ?_
                refine rtB ?_
                refine rtT ?_
                refine rtE ?_
                exact gv1 rfl rfl h
              · rw [if_neg (neT hb149)] at h
                refine WC_skip ?_
                refine nrmB ?_
                refine nrm ?_
                exact ⟨_, e5_21, e1_20, e6_23, e7_24, h⟩
          · rw [if_neg (of_decide_eq_false hb121)] at h
            refine WC_seq ?_
            refine WC_region ?_
            refine WL_val gd0 ((o_eql rfl rfl) _) rfl ?_
            refine WL_val gd0 ((o_assign (v := .bool (decide (x85 = 4))) rfl) _) rfl ?_
            refine WL_nil ?_
            refine nrm ?_
            refine WC_cond (t := (decide (x85 = 4))) rfl (fun hb150 => ?_) (fun hb150 => ?_)
            · rw [if_pos (of_decide_eq_true hb150)] at h
              refine WC_seq ?_
              refine WC_region ?_
              refine WL_val gd0 ((o_move (v := .pointer q22) (by exact e5_21)) _) rfl ?_
              refine WL_val gd0 ((o_fieldAddr 2 Try.underlying43 rfl Try.sizeOf3 rfl rfl rfl) _) rfl ?_
              obtain ⟨x151, hc152, h⟩ := h
              refine WL_val gd0 (o_load Try.isAgg3 rfl hc152) rfl ?_
              refine WL_call gd0 (o_call Try.call14 (argCons rfl (argCons rfl argNil)) _) rfl (h.mono ?_)
              rintro _ w153 ⟨ok154, rfl, h⟩
              refine WL_val gd0 ((o_assign (v := .bool ok154) rfl) _) rfl ?_
              refine WL_nil ?_
              refine nrm ?_
              refine WC_seq ?_
              refine WC_region ?_
              obtain ⟨x155, x_a156, x_n157, x_c158, hc159, h⟩ := h
              refine WL_val gd0 (o_loadAgg (vs := [.int .i64 x155, .slice x_a156 x_n157 x_c158]) Try.isAgg40 Try.sizeOf40 (by exact e6_23) hc159) rfl ?_
              refine WL_val gd0 ((o_fieldAddr 2 Try.underlying43 rfl Try.sizeOf3 rfl rfl rfl) _) rfl ?_
              obtain ⟨x160, hc161, h⟩ := h
              refine WL_val gd0 (o_load Try.isAgg3 rfl hc161) rfl ?_
              refine WL_call gd0 (o_call Try.call19 (argCons rfl (argCons rfl argNil)) _) rfl (h.mono ?_)
              rintro _ w162 ⟨r163, r_a164, r_n165, r_c166, r167, rfl, h⟩
              refine WL_val gd0 ((o_move (v := .tuple #[.agg #[.int .i64 r163, .slice r_a164 r_n165 r_c166], .bool r167]) rfl) _) rfl ?_
              refine WL_val gd0 ((o_extract (vs := [.agg #[.int .i64 r163, .slice r_a164 r_n165 r_c166], .bool r167]) (r := .agg #[.int .i64 r163, .slice r_a164 r_n165 r_c166]) rfl rfl) _) rfl ?_
              refine WL_val gd0 ((o_extract (vs := [.agg #[.int .i64 r163, .slice r_a164 r_n165 r_c166], .bool r167]) (r := .bool r167) rfl rfl) _) rfl ?_
              have h := New.out h
              refine WL_val gd0 (o_alloc (z := .agg #[.int .i64 0, .slice none 0 0]) (cs := [.int .i64 0, .slice none 0 0]) Try.zeroValue40 rfl) rfl ?_
              generalize hp168 : fresh w162 = p168 at h ⊢
              generalize hw169 : push w162 40 [.int .i64 0, .slice none 0 0] = w169 at h ⊢
              try dsimp only at h
              obtain ⟨c171, h⟩ := h
              refine WL_act gd0 (o_storeAgg (vs := [.int .i64 r163, .slice r_a164 r_n165 r_c166]) Try.sizeOf40 rfl rfl rfl c171) ?_
              generalize hw170 : setAll w169 p168 0 [.int .i64 r163, .slice r_a164 r_n165 r_c166] = w170 at h ⊢
              try dsimp only at h
              refine WL_val gd0 ((o_assign (v := .bool r167) rfl) _) rfl ?_
              refine WL_nil ?_
              refine nrm ?_
              refine WC_seq ?_
              refine WC_region ?_
              obtain ⟨x172, x_a173, x_n174, x_c175, hc176, h⟩ := h
              refine WL_val gd0 (o_loadAgg (vs := [.int .i64 x172, .slice x_a173 x_n174 x_c175]) Try.isAgg40 Try.sizeOf40 rfl hc176) rfl ?_
              obtain ⟨c178, h⟩ := h
              refine WL_act gd0 (o_storeAgg (vs := [.int .i64 x172, .slice x_a173 x_n174 x_c175]) Try.sizeOf40 (by exact e6_23) rfl rfl c178) ?_
              generalize hw177 : setAll w170 p16 0 [.int .i64 x172, .slice x_a173 x_n174 x_c175] = w177 at h ⊢
              try dsimp only at h
              refine WL_nil ?_
              refine nrm ?_
              refine WC_seq ?_
              refine WC_region ?_
              refine WL_val gd0 ((o_move (v := .bool ok154) rfl) _) rfl ?_
              refine WL_val gd0 ((o_move (v := .bool r167) rfl) _) rfl ?_
              refine WL_val gd0 ((o_neqBool Try.underlying4 rfl rfl) _) rfl ?_
              refine WL_nil ?_
              refine nrm ?_
              refine WC_cond (t := (!(ok154 == r167))) rfl (fun hb179 => ?_) (fun hb179 => ?_)
              · rw [if_pos hb179] at h
                refine WC_seq ?_
                refine WC_region ?_
                refine WL_val gd0 ((o_assign (v := .bool false) rfl) _) rfl ?_
                refine WL_nil ?_
                refine nrm ?_
                refine WC_ret ?_
                refine rtB ?_
                refine rtT ?_
                refine rtB ?_
                refine rtT ?_
                refine rtT ?_
                refine rtB ?_
                refine rtT ?_
                refine rtE ?_
                exact gv1 rfl rfl h
              · rw [if_neg (neT hb179)] at h
                refine WC_skip ?_
                refine nrmB ?_
                refine nrm ?_
                exact ⟨_, e5_21, e1_20, e6_23, e7_24, h⟩
            · rw [if_neg (of_decide_eq_false hb150)] at h
              refine WC_seq ?_
              refine WC_region ?_
              refine WL_val gd0 ((o_eql rfl rfl) _) rfl ?_
              refine WL_val gd0 ((o_assign (v := .bool (decide (x85 = 5))) rfl) _) rfl ?_
              refine WL_nil ?_
              refine nrm ?_
              refine WC_cond (t := (decide (x85 = 5))) rfl (fun hb180 => ?_) (fun hb180 => ?_)
              · rw [if_pos (of_decide_eq_true hb180)] at h
                refine WC_seq ?_
                refine WC_region ?_
                refine WL_val gd0 ((o_move (v := .pointer q22) (by exact e5_21)) _) rfl ?_
                refine WL_call gd0 (o_call Try.call20 (argCons rfl argNil) _) rfl (h.mono ?_)
                rintro _ w181 ⟨c182, rfl, h⟩
                refine WL_val gd0 ((o_assign (v := .pointer c182) rfl) _) rfl ?_
                refine WL_nil ?_
                refine nrm ?_
                refine WC_seq ?_
                refine WC_region ?_
                refine WL_val gd0 ((o_move (v := .pointer q22) (by exact e5_21)) _) rfl ?_
                refine WL_val gd0 ((o_fieldAddr 1 Try.underlying43 rfl Try.sizeOf3 rfl rfl rfl) _) rfl ?_
                obtain ⟨x183, hc184, h⟩ := h
                refine WL_val gd0 (o_load Try.isAgg3 rfl hc184) rfl ?_
                refine WL_val gd0 ((o_fieldAddr 2 Try.underlying43 rfl Try.sizeOf3 rfl rfl rfl) _) rfl ?_
                obtain ⟨x185, hc186, h⟩ := h
                refine WL_val gd0 (o_load Try.isAgg3 rfl hc186) rfl ?_
                refine WL_call gd0 (o_call Try.call10 (argCons rfl (argCons rfl (argCons rfl argNil))) _) rfl (h.mono ?_)
                rintro _ w187 ⟨x188, rfl, h⟩
                refine WL_nil ?_
                refine nrm ?_
                refine WC_seq ?_
                refine WC_region ?_
                refine WL_val gd0 ((o_move (v := .pointer q22) (by exact e5_21)) _) rfl ?_
                refine WL_call gd0 (o_call Try.call12 (argCons rfl argNil) _) rfl (h.mono ?_)
                rintro _ w189 ⟨r190, r191, rfl, h⟩
                refine WL_nil ?_
                refine nrm ?_
                refine WC_region ?_
                refine WL_val gd0 ((o_move (v := .pointer c182) rfl) _) rfl ?_
                refine WL_val gd0 ((o_assign (v := .pointer c182) rfl) _) rfl ?_
                refine WL_nil ?_
                refine nrmB ?_
                refine nrm ?_
                exact ⟨_, rfl, e1_20, e6_23, e7_24, h⟩
              · rw [if_neg (of_decide_eq_false hb180)] at h
                refine WC_skip ?_
                refine nrmB ?_
                refine nrm ?_
                exact ⟨_, e5_21, e1_20, e6_23, e7_24, h⟩
      · rintro ρ w46 ⟨q43, e5_42, e1_41, e6_44, e7_45, h⟩
        unfold F6_j2 at h
        refine WC_seq ?_
        refine WC_region ?_
        refine WL_val gd0 ((o_move (v := .pointer q43) (by exact e5_42)) _) rfl ?_
        refine WL_call gd0 (o_call Try.call21 (argCons rfl argNil) _) rfl (h.mono ?_)
        rintro _ w47 ⟨r48, r49, rfl, h⟩
        refine WL_val gd0 ((o_move (v := .tuple #[.int .i64 r48, .bool r49]) rfl) _) rfl ?_
        refine WL_val gd0 ((o_extract (vs := [.int .i64 r48, .bool r49]) (r := .int .i64 r48) rfl rfl) _) rfl ?_
        refine WL_val gd0 ((o_extract (vs := [.int .i64 r48, .bool r49]) (r := .bool r49) rfl rfl) _) rfl ?_
        refine WL_val gd0 ((o_assign (v := .int .i64 r48) rfl) _) rfl ?_
        refine WL_val gd0 ((o_assign (v := .bool r49) rfl) _) rfl ?_
        refine WL_nil ?_
        refine nrm ?_
        refine WC_seq ?_
        refine WC_region ?_
        obtain ⟨x50, x_a51, x_n52, x_c53, hc54, h⟩ := h
        refine WL_val gd0 (o_loadAgg (vs := [.int .i64 x50, .slice x_a51 x_n52 x_c53]) Try.isAgg40 Try.sizeOf40 (by exact e6_44) hc54) rfl ?_
        refine WL_call gd0 (o_call Try.call22 (argCons rfl argNil) _) rfl (h.mono ?_)
        rintro _ w55 ⟨r56, r57, rfl, h⟩
        refine WL_val gd0 ((o_move (v := .tuple #[.int .i64 r56, .bool r57]) rfl) _) rfl ?_
        refine WL_val gd0 ((o_extract (vs := [.int .i64 r56, .bool r57]) (r := .int .i64 r56) rfl rfl) _) rfl ?_
        refine WL_val gd0 ((o_extract (vs := [.int .i64 r56, .bool r57]) (r := .bool r57) rfl rfl) _) rfl ?_
        refine WL_val gd0 ((o_assign (v := .int .i64 r56) rfl) _) rfl ?_
        refine WL_val gd0 ((o_assign (v := .bool r57) rfl) _) rfl ?_
        refine WL_nil ?_
        refine nrm ?_
        refine WC_seq ?_
        refine WC_draws [10, 18, 20, 21] (.look 0 (.look 1 (.look 2 (.look 3 (.look 4 (.look 5 (.look 6 (.look 7 (.look 8 (.look 9 (.look 11 (.look 12 (.look 13 (.act 10 (.look 14 (.look 15 (.look 16 (.look 17 (.look 19 (.act 18 (.act 20 (.act 21 (.look 22 (.look 23 .nil)))))))))))))))))))))))) Try.mixed (by kernel_rfl) ?_
        refine WQ_val rfl gd0 (o_move (v := .int .i64 r48) rfl) rfl ?_
        refine WQ_val rfl gd0 (o_move (v := .int .i64 r56) rfl) rfl ?_
        refine WQ_val rfl gd0 (o_neq rfl rfl) rfl ?_
        refine WQ_val rfl gd0 (o_move (v := .bool (decide (r48 ≠ r56))) rfl) rfl ?_
        refine bsplit (decide (r48 ≠ r56)) (fun hb58 => ?_) (fun hb58 => ?_)
        · rw [if_pos (of_decide_eq_true hb58)] at h
          refine WQ_skip rfl (gdN (b := (decide (r48 ≠ r56))) 131 rfl rfl hb58) rfl ?_
          refine WQ_skip rfl (gdN (b := (decide (r48 ≠ r56))) 131 rfl rfl hb58) rfl ?_
          refine WQ_skip rfl (gdN (b := (decide (r48 ≠ r56))) 131 rfl rfl hb58) rfl ?_
          refine WQ_val rfl gd0 (o_pickT (v := .bool true) rfl hb58 rfl) rfl ?_
          refine WQ_val rfl gd0 (o_move (v := .bool true) rfl) rfl ?_
          refine WQ_skip rfl (gdN (b := true) 136 rfl rfl rfl) rfl ?_
          refine WQ_skip rfl (gdN (b := true) 136 rfl rfl rfl) rfl ?_
          refine WQ_skip rfl (gdN (b := true) 136 rfl rfl rfl) rfl ?_
          refine WQ_skip rfl (gdN (b := true) 136 rfl rfl rfl) rfl ?_
          refine WQ_passAct rfl (gdN (b := true) 136 rfl rfl rfl) rfl (by exact trivial) ?_
          refine WQ_skip rfl (gdN (b := true) 136 rfl rfl rfl) rfl ?_
          refine WQ_val rfl gd0 (o_pickT (v := .bool true) rfl rfl rfl) rfl ?_
          refine WQ_val rfl gd0 (o_move (v := .bool true) rfl) rfl ?_
          refine WQ_skip rfl (gdN (b := true) 144 rfl rfl rfl) rfl ?_
          refine WQ_skip rfl (gdN (b := true) 144 rfl rfl rfl) rfl ?_
          refine WQ_passAct rfl (gdN (b := true) 144 rfl rfl rfl) rfl (by exact trivial) ?_
          refine WQ_passAct rfl (gdN (b := true) 144 rfl rfl rfl) rfl (by exact trivial) ?_
          refine WQ_passAct rfl (gdN (b := true) 144 rfl rfl rfl) rfl (by exact trivial) ?_
          refine WQ_skip rfl (gdN (b := true) 144 rfl rfl rfl) rfl ?_
          refine WQ_val rfl gd0 (o_pickT (v := .bool true) rfl rfl rfl) rfl ?_
          refine WQ_nil ?_
          refine nrm ?_
          refine WC_cond (t := true) rfl (fun _ => ?_) (fun hx => by rw [(rfl : true = true)] at hx; cases hx)
          refine WC_seq ?_
          refine WC_region ?_
          refine WL_val gd0 ((o_assign (v := .bool false) rfl) _) rfl ?_
          refine WL_nil ?_
          refine nrm ?_
          refine WC_ret ?_
          refine rtB ?_
          refine rtT ?_
          refine rtT ?_
          refine rtB ?_
          refine rtT ?_
          refine rtE ?_
          exact gv1 rfl rfl h
        · rw [if_neg (of_decide_eq_false hb58)] at h
          refine WQ_val rfl (gdY (b := (decide (r48 ≠ r56))) 131 rfl rfl hb58) (o_move (v := .bool r49) rfl) rfl ?_
          refine WQ_val rfl (gdY (b := (decide (r48 ≠ r56))) 131 rfl rfl hb58) (o_move (v := .bool r57) rfl) rfl ?_
          refine WQ_val rfl (gdY (b := (decide (r48 ≠ r56))) 131 rfl rfl hb58) (o_neqBool Try.underlying4 rfl rfl) rfl ?_
          refine WQ_val rfl gd0 (o_pickF (v := .bool (!(r49 == r57))) rfl hb58 rfl) rfl ?_
          refine WQ_val rfl gd0 (o_move (v := .bool (!(r49 == r57))) rfl) rfl ?_
          refine bsplit (!(r49 == r57)) (fun hb59 => ?_) (fun hb59 => ?_)
          · rw [if_pos hb59] at h
            refine WQ_skip rfl (gdN (b := (!(r49 == r57))) 136 rfl rfl hb59) rfl ?_
            refine WQ_skip rfl (gdN (b := (!(r49 == r57))) 136 rfl rfl hb59) rfl ?_
            refine WQ_skip rfl (gdN (b := (!(r49 == r57))) 136 rfl rfl hb59) rfl ?_
            refine WQ_skip rfl (gdN (b := (!(r49 == r57))) 136 rfl rfl hb59) rfl ?_
            refine WQ_passAct rfl (gdN (b := (!(r49 == r57))) 136 rfl rfl hb59) rfl (by exact trivial) ?_
            refine WQ_skip rfl (gdN (b := (!(r49 == r57))) 136 rfl rfl hb59) rfl ?_
            refine WQ_val rfl gd0 (o_pickT (v := .bool true) rfl hb59 rfl) rfl ?_
            refine WQ_val rfl gd0 (o_move (v := .bool true) rfl) rfl ?_
            refine WQ_skip rfl (gdN (b := true) 144 rfl rfl rfl) rfl ?_
            refine WQ_skip rfl (gdN (b := true) 144 rfl rfl rfl) rfl ?_
            refine WQ_passAct rfl (gdN (b := true) 144 rfl rfl rfl) rfl (by exact trivial) ?_
            refine WQ_passAct rfl (gdN (b := true) 144 rfl rfl rfl) rfl (by exact trivial) ?_
            refine WQ_passAct rfl (gdN (b := true) 144 rfl rfl rfl) rfl (by exact trivial) ?_
            refine WQ_skip rfl (gdN (b := true) 144 rfl rfl rfl) rfl ?_
            refine WQ_val rfl gd0 (o_pickT (v := .bool true) rfl rfl rfl) rfl ?_
            refine WQ_nil ?_
            refine nrm ?_
            refine WC_cond (t := true) rfl (fun _ => ?_) (fun hx => by rw [(rfl : true = true)] at hx; cases hx)
            refine WC_seq ?_
            refine WC_region ?_
            refine WL_val gd0 ((o_assign (v := .bool false) rfl) _) rfl ?_
            refine WL_nil ?_
            refine nrm ?_
            refine WC_ret ?_
            refine rtB ?_
            refine rtT ?_
            refine rtT ?_
            refine rtB ?_
            refine rtT ?_
            refine rtE ?_
            exact gv1 rfl rfl h
          · rw [if_neg (neT hb59)] at h
            refine WQ_val rfl (gdY (b := (!(r49 == r57))) 136 rfl rfl hb59) (o_move (v := .pointer q43) (by exact e5_42)) rfl ?_
            refine WQ_val rfl (gdY (b := (!(r49 == r57))) 136 rfl rfl hb59) (o_fieldAddr 1 Try.underlying40 rfl Try.sizeOf38 rfl rfl (by exact e6_44)) rfl ?_
            obtain ⟨x_a60, x_n61, x_c62, hc63, h⟩ := h
            refine WQ_look (fun w => w.cell? (p16.add 1) = some (.slice x_a60 x_n61 x_c62)) rfl (gdY (b := (!(r49 == r57))) 136 rfl rfl hb59) (fun w hc => (o_load Try.isAgg38 rfl hc)) hc63 rfl ?_
            refine WQ_val rfl (gdY (b := (!(r49 == r57))) 136 rfl rfl hb59) (o_len Try.underlying38 rfl) rfl ?_
            refine WQ_call rfl (gdY (b := (!(r49 == r57))) 136 rfl rfl hb59) (o_call Try.call13 (argCons rfl argNil) _) rfl (h.mono ?_)
            rintro _ w64 ⟨x65, rfl, hh66, h⟩
            refine ⟨⟨trivial, fun _ => hh66⟩, ?_⟩
            refine WQ_val rfl (gdY (b := (!(r49 == r57))) 136 rfl rfl hb59) (o_neq rfl rfl) rfl ?_
            refine WQ_val rfl gd0 (o_pickF (v := .bool (decide (x65 ≠ (x_n61 : Int)))) rfl hb59 rfl) rfl ?_
            refine WQ_val rfl gd0 (o_move (v := .bool (decide (x65 ≠ (x_n61 : Int)))) rfl) rfl ?_
            refine bsplit (decide (x65 ≠ (x_n61 : Int))) (fun hb67 => ?_) (fun hb67 => ?_)
            · rw [if_pos (of_decide_eq_true hb67)] at h
              refine WQ_skip rfl (gdN (b := (decide (x65 ≠ (x_n61 : Int)))) 144 rfl rfl hb67) rfl ?_
              refine WQ_skip rfl (gdN (b := (decide (x65 ≠ (x_n61 : Int)))) 144 rfl rfl hb67) rfl ?_
              refine WQ_passAct rfl (gdN (b := (decide (x65 ≠ (x_n61 : Int)))) 144 rfl rfl hb67) rfl (by exact ⟨trivial, depT (by kernel_rfl)⟩) ?_
              refine WQ_passAct rfl (gdN (b := (decide (x65 ≠ (x_n61 : Int)))) 144 rfl rfl hb67) rfl (by exact ⟨trivial, depT (by kernel_rfl)⟩) ?_
              refine WQ_passAct rfl (gdN (b := (decide (x65 ≠ (x_n61 : Int)))) 144 rfl rfl hb67) rfl (by exact ⟨trivial, depT (by kernel_rfl)⟩) ?_
              refine WQ_skip rfl (gdN (b := (decide (x65 ≠ (x_n61 : Int)))) 144 rfl rfl hb67) rfl ?_
              refine WQ_val rfl gd0 (o_pickT (v := .bool true) rfl hb67 rfl) rfl ?_
              refine WQ_nil ?_
              refine nrm ?_
              refine WC_cond (t := true) rfl (fun _ => ?_) (fun hx => by rw [(rfl : true = true)] at hx; cases hx)
              refine WC_seq ?_
              refine WC_region ?_
              refine WL_val gd0 ((o_assign (v := .bool false) rfl) _) rfl ?_
              refine WL_nil ?_
              refine nrm ?_
              refine WC_ret ?_
              refine rtB ?_
              refine rtT ?_
              refine rtT ?_
              refine rtB ?_
              refine rtT ?_
              refine rtE ?_
              exact gv1 rfl rfl h
            · rw [if_neg (of_decide_eq_false hb67)] at h
              refine WQ_val rfl (gdY (b := (decide (x65 ≠ (x_n61 : Int)))) 144 rfl rfl hb67) (o_move (v := .pointer q43) (by exact e5_42)) rfl ?_
              obtain ⟨x68, x_a69, x_n70, x_c71, hc72, h⟩ := h
              refine WQ_look (fun w => Cells w p16 0 [.int .i64 x68, .slice x_a69 x_n70 x_c71]) rfl (gdY (b := (decide (x65 ≠ (x_n61 : Int)))) 144 rfl rfl hb67) (fun w hc => (o_loadAgg (vs := [.int .i64 x68, .slice x_a69 x_n70 x_c71]) Try.isAgg40 Try.sizeOf40 (by exact e6_44) hc)) hc72 rfl ?_
              refine WQ_call rfl (gdY (b := (decide (x65 ≠ (x_n61 : Int)))) 144 rfl rfl hb67) (o_call Try.call11 (argCons rfl argNil) _) rfl (h.mono ?_)
              rintro _ w73 ⟨x_a74, x_n75, x_c76, rfl, hh77, h⟩
              refine ⟨⟨⟨trivial, depT (by kernel_rfl)⟩, fun _ => hh77⟩, ?_⟩
              refine WQ_call rfl (gdY (b := (decide (x65 ≠ (x_n61 : Int)))) 144 rfl rfl hb67) (o_call Try.call23 (argCons rfl argNil) _) rfl (h.mono ?_)
              rintro _ w78 ⟨x_a79, x_n80, x_c81, rfl, h⟩
              refine ⟨⟨⟨trivial, depT (by kernel_rfl)⟩, depT (by kernel_rfl)⟩, ?_⟩
              refine WQ_call rfl (gdY (b := (decide (x65 ≠ (x_n61 : Int)))) 144 rfl rfl hb67) (o_call Try.call15 (argCons rfl (argCons rfl argNil)) _) rfl (h.mono ?_)
              rintro _ w82 ⟨x83, rfl, h⟩
              refine ⟨⟨⟨trivial, depT (by kernel_rfl)⟩, depT (by kernel_rfl)⟩, ?_⟩
              refine WQ_val rfl (gdY (b := (decide (x65 ≠ (x_n61 : Int)))) 144 rfl rfl hb67) (o_not rfl) rfl ?_
              refine WQ_val rfl gd0 (o_pickF (v := .bool (!x83)) rfl hb67 rfl) rfl ?_
              refine WQ_nil ?_
              refine nrm ?_
              refine WC_cond (t := (!x83)) rfl (fun hb84 => ?_) (fun hb84 => ?_)
              · rw [if_pos hb84] at h
                refine WC_seq ?_
                refine WC_region ?_
                refine WL_val gd0 ((o_assign (v := .bool false) rfl) _) rfl ?_
                refine WL_nil ?_
                refine nrm ?_
                refine WC_ret ?_
                refine rtB ?_
                refine rtT ?_
                refine rtT ?_
                refine rtB ?_
                refine rtT ?_
                refine rtE ?_
                exact gv1 rfl rfl h
              · rw [if_neg (neT hb84)] at h
                refine WC_skip ?_
                refine nrmB ?_
                refine nrm ?_
                refine WC_region ?_
                refine WL_val gd0 ((o_move (v := .int .i64 i25) (by exact e7_45)) _) rfl ?_
                refine WL_val gd0 ((o_add rfl rfl) _) rfl ?_
                refine WL_val gd0 ((o_assign (v := .int .i64 (IntKind.i64.wrap (i25 + 1))) rfl) _) rfl ?_
                refine WL_nil ?_
                refine nrm ?_
                obtain ⟨m27, hm27, h⟩ := h
                exact ⟨m27, hm27, _, _, e5_42, rfl, e1_41, e6_44, h⟩
    · rw [if_neg (of_decide_eq_false hb28)] at h
      refine WC_exit ?_
      refine exT ?_
      refine exT ?_
      refine exB ?_
      refine nrm ?_
      refine WC_seq ?_
      refine WC_region ?_
      refine WL_call gd0 (o_call Try.call8 argNil _) rfl (h.mono ?_)
      rintro _ w192 ⟨t193, rfl, h⟩
      refine WL_val gd0 ((o_assign (v := .bool t193) rfl) _) rfl ?_
      refine WL_nil ?_
      refine nrm ?_
      refine WC_ret ?_
      refine rtE ?_
      exact gv1 rfl rfl h

/-- spacecraft spacecraftlaw08.QueueNil -/
def F7 (priority1 : Int) (item2 : Int) (w3 : World) (k : Value → World → Prop) : Prop :=
  New w3 56 [.bool false, .int .i64 0, .slice none 0 0] (fun p4 w5 => Does Try.prog 12 #[.pointer none] w5 (fun v w6 => ∃ (r7 : Int) (r8 : Bool), v = .tuple #[.int .i64 r7, .bool r8] ∧ Does Try.prog 21 #[.pointer (some p4)] w6 (fun v w9 => ∃ (r10 : Int) (r11 : Bool), v = .tuple #[.int .i64 r10, .bool r11] ∧ Does Try.prog 10 #[.pointer none, .int .i64 priority1, .int .i64 item2] w9 (fun v w12 => ∃ (x13 : Int), v = .int .i64 x13 ∧ if x13 = 2 then
  Does Try.prog 10 #[.pointer (some p4), .int .i64 priority1, .int .i64 item2] w12 (fun v w15 => ∃ (x16 : Int), v = .int .i64 x16 ∧ if x16 = 2 then
    if (!r8) = true then
      if (!r11) = true then
        Does Try.prog 14 #[.pointer none, .int .i64 item2] w15 (fun v w20 => ∃ (x21 : Bool), v = .bool x21 ∧ if (!x21) = true then
          Does Try.prog 13 #[.pointer none] w20 (fun v w23 => ∃ (x24 : Int), v = .int .i64 x24 ∧ if x24 = 0 then
            Does Try.prog 11 #[.pointer (some p4)] w23 (fun v w26 => ∃ (x_a27 : Option Addr) (x_n28 x_c29 : Nat), v = .slice x_a27 x_n28 x_c29 ∧ if (x_n28 : Int) = 0 then
              Does Try.prog 20 #[.pointer none] w26 (fun v w31 => ∃ (x32 : Option Addr), v = .pointer x32 ∧ if (x32).isNone = true then
                Does Try.prog 20 #[.pointer (some p4)] w31 (fun v w34 => ∃ (x35 : Option Addr), v = .pointer x35 ∧ if (x35).isNone = true then
                  Does Try.prog 8 #[] w34 (fun v w37 => ∃ (x38 : Bool), v = .bool x38 ∧ k (.bool x38) w37)
                else
                  k (.bool false) w34)
              else
                k (.bool false) w31)
            else
              k (.bool false) w26)
          else
            k (.bool false) w23)
        else
          k (.bool false) w20)
      else
        k (.bool false) w15
    else
      k (.bool false) w15
  else
    k (.bool false) w15)
else
  k (.bool false) w12))))
set_option maxRecDepth 100000 in
set_option maxHeartbeats 2000000 in
theorem w7 (priority1 : Int) (item2 : Int) (w3 : World) (k : Value → World → Prop) (h : F7 priority1 item2 w3 k) : Does Try.prog 7 #[.int .i64 priority1, .int .i64 item2] w3 k := by
  refine enter 73 Try.func7 rfl rfl rfl ?_
  intro ρ hρ
  have e0 := hρ 0 _ rfl
  have e1 := hρ 1 _ rfl
  unfold F7 at h
  refine WC_seq ?_
  refine WC_region ?_
  refine WL_val gd0 ((o_assign (v := .bool false) rfl) _) rfl ?_
  refine WL_nil ?_
  refine nrm ?_
  refine WC_seq ?_
  refine WC_region ?_
  refine WL_val gd0 ((o_assign (v := .pointer none) rfl) _) rfl ?_
  refine WL_nil ?_
  refine nrm ?_
  refine WC_seq ?_
  refine WC_region ?_
  refine WL_val gd0 ((o_build (ps := []) (v := .agg #[.bool false, .int .i64 0, .slice none 0 0]) partNil (fun w => by kernel_rfl)) _) rfl ?_
  have h := New.out h
  refine WL_val gd0 (o_box (v := .agg #[.bool false, .int .i64 0, .slice none 0 0]) (cs := [.bool false, .int .i64 0, .slice none 0 0]) rfl rfl) rfl ?_
  generalize hp4 : fresh w3 = p4 at h ⊢
  generalize hw5 : push w3 56 [.bool false, .int .i64 0, .slice none 0 0] = w5 at h ⊢
  try dsimp only at h
  refine WL_val gd0 ((o_assign (v := .pointer (some p4)) rfl) _) rfl ?_
  refine WL_nil ?_
  refine nrm ?_
  refine WC_seq ?_
  refine WC_region ?_
  refine WL_val gd0 ((o_move (v := .pointer none) rfl) _) rfl ?_
  refine WL_call gd0 (o_call Try.call12 (argCons rfl argNil) _) rfl (h.mono ?_)
  rintro _ w6 ⟨r7, r8, rfl, h⟩
  refine WL_val gd0 ((o_move (v := .tuple #[.int .i64 r7, .bool r8]) rfl) _) rfl ?_
  refine WL_val gd0 ((o_extract (vs := [.int .i64 r7, .bool r8]) (r := .int .i64 r7) rfl rfl) _) rfl ?_
  refine WL_val gd0 ((o_extract (vs := [.int .i64 r7, .bool r8]) (r := .bool r8) rfl rfl) _) rfl ?_
  refine WL_val gd0 ((o_assign (v := .int .i64 r7) rfl) _) rfl ?_
  refine WL_val gd0 ((o_assign (v := .bool r8) rfl) _) rfl ?_
  refine WL_nil ?_
  refine nrm ?_
  refine WC_seq ?_
  refine WC_region ?_
  refine WL_val gd0 ((o_move (v := .pointer (some p4)) rfl) _) rfl ?_
  refine WL_call gd0 (o_call Try.call21 (argCons rfl argNil) _) rfl (h.mono ?_)
  rintro _ w9 ⟨r10, r11, rfl, h⟩
  refine WL_val gd0 ((o_move (v := .tuple #[.int .i64 r10, .bool r11]) rfl) _) rfl ?_
  refine WL_val gd0 ((o_extract (vs := [.int .i64 r10, .bool r11]) (r := .int .i64 r10) rfl rfl) _) rfl ?_
  refine WL_val gd0 ((o_extract (vs := [.int .i64 r10, .bool r11]) (r := .bool r11) rfl rfl) _) rfl ?_
  refine WL_val gd0 ((o_assign (v := .int .i64 r10) rfl) _) rfl ?_
  refine WL_val gd0 ((o_assign (v := .bool r11) rfl) _) rfl ?_
  refine WL_nil ?_
  refine nrm ?_
  refine WC_seq ?_
  refine WC_region ?_
  refine WL_val gd0 ((o_move (v := .pointer none) rfl) _) rfl ?_
  refine WL_val gd0 ((o_move (v := .int .i64 priority1) (by exact e0)) _) rfl ?_
  refine WL_val gd0 ((o_move (v := .int .i64 item2) (by exact e1)) _) rfl ?_
  refine WL_call gd0 (o_call Try.call10 (argCons rfl (argCons rfl (argCons rfl argNil))) _) rfl (h.mono ?_)
  rintro _ w12 ⟨x13, rfl, h⟩
  refine WL_val gd0 ((o_eql rfl rfl) _) rfl ?_
  refine WL_val gd0 ((o_move (v := .bool (decide (x13 = 2))) rfl) _) rfl ?_
  refine bsplit (decide (x13 = 2)) (fun hb14 => ?_) (fun hb14 => ?_)
  · rw [if_pos (of_decide_eq_true hb14)] at h
    refine WL_val (gdY (b := (decide (x13 = 2))) 28 rfl rfl hb14) ((o_move (v := .pointer (some p4)) rfl) _) rfl ?_
    refine WL_val (gdY (b := (decide (x13 = 2))) 28 rfl rfl hb14) ((o_move (v := .int .i64 priority1) (by exact e0)) _) rfl ?_
    refine WL_val (gdY (b := (decide (x13 = 2))) 28 rfl rfl hb14) ((o_move (v := .int .i64 item2) (by exact e1)) _) rfl ?_
    refine WL_call (gdY (b := (decide (x13 = 2))) 28 rfl rfl hb14) (o_call Try.call10 (argCons rfl (argCons rfl (argCons rfl argNil))) _) rfl (h.mono ?_)
    rintro _ w15 ⟨x16, rfl, h⟩
    refine WL_val (gdY (b := (decide (x13 = 2))) 28 rfl rfl hb14) ((o_eql rfl rfl) _) rfl ?_
    refine WL_val gd0 ((o_pickT (v := .bool (decide (x16 = 2))) rfl hb14 rfl) _) rfl ?_
    refine WL_val gd0 ((o_move (v := .bool (decide (x16 = 2))) rfl) _) rfl ?_
    refine bsplit (decide (x16 = 2)) (fun hb17 => ?_) (fun hb17 => ?_)
    · rw [if_pos (of_decide_eq_true hb17)] at h
      refine WL_val (gdY (b := (decide (x16 = 2))) 35 rfl rfl hb17) ((o_move (v := .bool r8) rfl) _) rfl ?_
      refine WL_val (gdY (b := (decide (x16 = 2))) 35 rfl rfl hb17) ((o_not rfl) _) rfl ?_
      refine WL_val gd0 ((o_pickT (v := .bool (!r8)) rfl hb17 rfl) _) rfl ?_
      refine WL_val gd0 ((o_move (v := .bool (!r8)) rfl) _) rfl ?_
      refine bsplit (!r8) (fun hb18 => ?_) (fun hb18 => ?_)
      · rw [if_pos hb18] at h
        refine WL_val (gdY (b := (!r8)) 39 rfl rfl hb18) ((o_move (v := .bool r11) rfl) _) rfl ?_
        refine WL_val (gdY (b := (!r8)) 39 rfl rfl hb18) ((o_not rfl) _) rfl ?_
        refine WL_val gd0 ((o_pickT (v := .bool (!r11)) rfl hb18 rfl) _) rfl ?_
        refine WL_val gd0 ((o_move (v := .bool (!r11)) rfl) _) rfl ?_
        refine bsplit (!r11) (fun hb19 => ?_) (fun hb19 => ?_)
        · rw [if_pos hb19] at h
          refine WL_val (gdY (b := (!r11)) 43 rfl rfl hb19) ((o_move (v := .pointer none) rfl) _) rfl ?_
          refine WL_val (gdY (b := (!r11)) 43 rfl rfl hb19) ((o_move (v := .int .i64 item2) (by exact e1)) _) rfl ?_
          refine WL_call (gdY (b := (!r11)) 43 rfl rfl hb19) (o_call Try.call14 (argCons rfl (argCons rfl argNil)) _) rfl (h.mono ?_)
          rintro _ w20 ⟨x21, rfl, h⟩
          refine WL_val (gdY (b := (!r11)) 43 rfl rfl hb19) ((o_not rfl) _) rfl ?_
          refine WL_val gd0 ((o_pickT (v := .bool (!x21)) rfl hb19 rfl) _) rfl ?_
          refine WL_val gd0 ((o_move (v := .bool (!x21)) rfl) _) rfl ?_
          refine bsplit (!x21) (fun hb22 => ?_) (fun hb22 => ?_)
          · rw [if_pos hb22] at h
            refine WL_val (gdY (b := (!x21)) 49 rfl rfl hb22) ((o_move (v := .pointer none) rfl) _) rfl ?_
            refine WL_call (gdY (b := (!x21)) 49 rfl rfl hb22) (o_call Try.call13 (argCons rfl argNil) _) rfl (h.mono ?_)
            rintro _ w23 ⟨x24, rfl, h⟩
            refine WL_val (gdY (b := (!x21)) 49 rfl rfl hb22) ((o_eql rfl rfl) _) rfl ?_
            refine WL_val gd0 ((o_pickT (v := .bool (decide (x24 = 0))) rfl hb22 rfl) _) rfl ?_
            refine WL_val gd0 ((o_move (v := .bool (decide (x24 = 0))) rfl) _) rfl ?_
            refine bsplit (decide (x24 = 0)) (fun hb25 => ?_) (fun hb25 => ?_)
            · rw [if_pos (of_decide_eq_true hb25)] at h
              refine WL_val (gdY (b := (decide (x24 = 0))) 54 rfl rfl hb25) ((o_move (v := .pointer (some p4)) rfl) _) rfl ?_
              refine WL_call (gdY (b := (decide (x24 = 0))) 54 rfl rfl hb25) (o_call Try.call11 (argCons rfl argNil) _) rfl (h.mono ?_)
              rintro _ w26 ⟨x_a27, x_n28, x_c29, rfl, h⟩
              refine WL_val (gdY (b := (decide (x24 = 0))) 54 rfl rfl hb25) ((o_len Try.underlying22 rfl) _) rfl ?_
              refine WL_val (gdY (b := (decide (x24 = 0))) 54 rfl rfl hb25) ((o_eql rfl rfl) _) rfl ?_
              refine WL_val gd0 ((o_pickT (v := .bool (decide ((x_n28 : Int) = 0))) rfl hb25 rfl) _) rfl ?_
              refine WL_val gd0 ((o_move (v := .bool (decide ((x_n28 : Int) = 0))) rfl) _) rfl ?_
              refine bsplit (decide ((x_n28 : Int) = 0)) (fun hb30 => ?_) (fun hb30 => ?_)
              · rw [if_pos (of_decide_eq_true hb30)] at h
                refine WL_val (gdY (b := (decide ((x_n28 : Int) = 0))) 60 rfl rfl hb30) ((o_move (v := .pointer none) rfl) _) rfl ?_
                refine WL_call (gdY (b := (decide ((x_n28 : Int) = 0))) 60 rfl rfl hb30) (o_call Try.call20 (argCons rfl argNil) _) rfl (h.mono ?_)
                rintro _ w31 ⟨x32, rfl, h⟩
                refine WL_val (gdY (b := (decide ((x_n28 : Int) = 0))) 60 rfl rfl hb30) ((o_eqlPtrNil Try.underlying24 rfl rfl) _) rfl ?_
                refine WL_val gd0 ((o_pickT (v := .bool ((x32).isNone)) rfl hb30 rfl) _) rfl ?_
                refine WL_val gd0 ((o_move (v := .bool ((x32).isNone)) rfl) _) rfl ?_
                refine bsplit ((x32).isNone) (fun hb33 => ?_) (fun hb33 => ?_)
                · rw [if_pos hb33] at h
                  refine WL_val (gdY (b := ((x32).isNone)) 65 rfl rfl hb33) ((o_move (v := .pointer (some p4)) rfl) _) rfl ?_
                  refine WL_call (gdY (b := ((x32).isNone)) 65 rfl rfl hb33) (o_call Try.call20 (argCons rfl argNil) _) rfl (h.mono ?_)
                  rintro _ w34 ⟨x35, rfl, h⟩
                  refine WL_val (gdY (b := ((x32).isNone)) 65 rfl rfl hb33) ((o_eqlPtrNil Try.underlying24 rfl rfl) _) rfl ?_
                  refine WL_val gd0 ((o_pickT (v := .bool ((x35).isNone)) rfl hb33 rfl) _) rfl ?_
                  refine WL_val gd0 ((o_move (v := .bool ((x35).isNone)) rfl) _) rfl ?_
                  refine bsplit ((x35).isNone) (fun hb36 => ?_) (fun hb36 => ?_)
                  · rw [if_pos hb36] at h
                    refine WL_call (gdY (b := ((x35).isNone)) 70 rfl rfl hb36) (o_call Try.call8 argNil _) rfl (h.mono ?_)
                    rintro _ w37 ⟨x38, rfl, h⟩
                    refine WL_val gd0 ((o_pickT (v := .bool x38) rfl hb36 rfl) _) rfl ?_
                    refine WL_val gd0 ((o_assign (v := .bool x38) rfl) _) rfl ?_
                    refine WL_nil ?_
                    refine nrm ?_
                    refine WC_ret ?_
                    refine rtE ?_
                    exact gv1 rfl rfl h
                  · rw [if_neg (neT hb36)] at h
                    refine WL_skip (gdN (b := ((x35).isNone)) 70 rfl rfl hb36) rfl ?_
                    refine WL_val gd0 ((o_pickF (v := .bool false) rfl hb36 rfl) _) rfl ?_
                    refine WL_val gd0 ((o_assign (v := .bool false) rfl) _) rfl ?_
                    refine WL_nil ?_
                    refine nrm ?_
                    refine WC_ret ?_
                    refine rtE ?_
                    exact gv1 rfl rfl h
                · rw [if_neg (neT hb33)] at h
                  refine WL_skip (gdN (b := ((x32).isNone)) 65 rfl rfl hb33) rfl ?_
                  refine WL_skip (gdN (b := ((x32).isNone)) 65 rfl rfl hb33) rfl ?_
                  refine WL_skip (gdN (b := ((x32).isNone)) 65 rfl rfl hb33) rfl ?_
                  refine WL_val gd0 ((o_pickF (v := .bool false) rfl hb33 rfl) _) rfl ?_
                  refine WL_val gd0 ((o_move (v := .bool false) rfl) _) rfl ?_
                  refine WL_skip (gdN (b := false) 70 rfl rfl rfl) rfl ?_
                  refine WL_val gd0 ((o_pickF (v := .bool false) rfl rfl rfl) _) rfl ?_
                  refine WL_val gd0 ((o_assign (v := .bool false) rfl) _) rfl ?_
                  refine WL_nil ?_
                  refine nrm ?_
                  refine WC_ret ?_
                  refine rtE ?_
                  exact gv1 rfl rfl h
              · rw [if_neg (of_decide_eq_false hb30)] at h
                refine WL_skip (gdN (b := (decide ((x_n28 : Int) = 0))) 60 rfl rfl hb30) rfl ?_
                refine WL_skip (gdN (b := (decide ((x_n28 : Int) = 0))) 60 rfl rfl hb30) rfl ?_
                refine WL_skip (gdN (b := (decide ((x_n28 : Int) = 0))) 60 rfl rfl hb30) rfl ?_
                refine WL_val gd0 ((o_pickF (v := .bool false) rfl hb30 rfl) _) rfl ?_
                refine WL_val gd0 ((o_move (v := .bool false) rfl) _) rfl ?_
                refine WL_skip (gdN (b := false) 65 rfl rfl rfl) rfl ?_
                refine WL_skip (gdN (b := false) 65 rfl rfl rfl) rfl ?_
                refine WL_skip (gdN (b := false) 65 rfl rfl rfl) rfl ?_
                refine WL_val gd0 ((o_pickF (v := .bool false) rfl rfl rfl) _) rfl ?_
                refine WL_val gd0 ((o_move (v := .bool false) rfl) _) rfl ?_
                refine WL_skip (gdN (b := false) 70 rfl rfl rfl) rfl ?_
                refine WL_val gd0 ((o_pickF (v := .bool false) rfl rfl rfl) _) rfl ?_
                refine WL_val gd0 ((o_assign (v := .bool false) rfl) _) rfl ?_
                refine WL_nil ?_
                refine nrm ?_
                refine WC_ret ?_
                refine rtE ?_
                exact gv1 rfl rfl h
            · rw [if_neg (of_decide_eq_false hb25)] at h
              refine WL_skip (gdN (b := (decide (x24 = 0))) 54 rfl rfl hb25) rfl ?_
              refine WL_skip (gdN (b := (decide (x24 = 0))) 54 rfl rfl hb25) rfl ?_
              refine WL_skip (gdN (b := (decide (x24 = 0))) 54 rfl rfl hb25) rfl ?_
              refine WL_skip (gdN (b := (decide (x24 = 0))) 54 rfl rfl hb25) rfl ?_
              refine WL_val gd0 ((o_pickF (v := .bool false) rfl hb25 rfl) _) rfl ?_
              refine WL_val gd0 ((o_move (v := .bool false) rfl) _) rfl ?_
              refine WL_skip (gdN (b := false) 60 rfl rfl rfl) rfl ?_
              refine WL_skip (gdN (b := false) 60 rfl rfl rfl) rfl ?_
              refine WL_skip (gdN (b := false) 60 rfl rfl rfl) rfl ?_
              refine WL_val gd0 ((o_pickF (v := .bool false) rfl rfl rfl) _) rfl ?_
              refine WL_val gd0 ((o_move (v := .bool false) rfl) _) rfl ?_
              refine WL_skip (gdN (b := false) 65 rfl rfl rfl) rfl ?_
              refine WL_skip (gdN (b := false) 65 rfl rfl rfl) rfl ?_
              refine WL_skip (gdN (b := false) 65 rfl rfl rfl) rfl ?_
              refine WL_val gd0 ((o_pickF (v := .bool false) rfl rfl rfl) _) rfl ?_
              refine WL_val gd0 ((o_move (v := .bool false) rfl) _) rfl ?_
              refine WL_skip (gdN (b := false) 70 rfl rfl rfl) rfl ?_
              refine WL_val gd0 ((o_pickF (v := .bool false) rfl rfl rfl) _) rfl ?_
              refine WL_val gd0 ((o_assign (v := .bool false) rfl) _) rfl ?_
              refine WL_nil ?_
              refine nrm ?_
              refine WC_ret ?_
              refine rtE ?_
              exact gv1 rfl rfl h
          · rw [if_neg (neT hb22)] at h
            refine WL_skip (gdN (b := (!x21)) 49 rfl rfl hb22) rfl ?_
            refine WL_skip (gdN (b := (!x21)) 49 rfl rfl hb22) rfl ?_
            refine WL_skip (gdN (b := (!x21)) 49 rfl rfl hb22) rfl ?_
            refine WL_val gd0 ((o_pickF (v := .bool false) rfl hb22 rfl) _) rfl ?_
            refine WL_val gd0 ((o_move (v := .bool false) rfl) _) rfl ?_
            refine WL_skip (gdN (b := false) 54 rfl rfl rfl) rfl ?_
            refine WL_skip (gdN (b := false) 54 rfl rfl rfl) rfl ?_
            refine WL_skip (gdN (b := false) 54 rfl rfl rfl) rfl ?_
            refine WL_skip (gdN (b := false) 54 rfl rfl rfl) rfl ?_
            refine WL_val gd0 ((o_pickF (v := .bool false) rfl rfl rfl) _) rfl ?_
            refine WL_val gd0 ((o_move (v := .bool false) rfl) _) rfl ?_
            refine WL_skip (gdN (b := false) 60 rfl rfl rfl) rfl ?_
            refine WL_skip (gdN (b := false) 60 rfl rfl rfl) rfl ?_
            refine WL_skip (gdN (b := false) 60 rfl rfl rfl) rfl ?_
            refine WL_val gd0 ((o_pickF (v := .bool false) rfl rfl rfl) _) rfl ?_
            refine WL_val gd0 ((o_move (v := .bool false) rfl) _) rfl ?_
            refine WL_skip (gdN (b := false) 65 rfl rfl rfl) rfl ?_
            refine WL_skip (gdN (b := false) 65 rfl rfl rfl) rfl ?_
            refine WL_skip (gdN (b := false) 65 rfl rfl rfl) rfl ?_
            refine WL_val gd0 ((o_pickF (v := .bool false) rfl rfl rfl) _) rfl ?_
            refine WL_val gd0 ((o_move (v := .bool false) rfl) _) rfl ?_
            refine WL_skip (gdN (b := false) 70 rfl rfl rfl) rfl ?_
            refine WL_val gd0 ((o_pickF (v := .bool false) rfl rfl rfl) _) rfl ?_
            refine WL_val gd0 ((o_assign (v := .bool false) rfl) _) rfl ?_
            refine WL_nil ?_
            refine nrm ?_
            refine WC_ret ?_
            refine rtE ?_
            exact gv1 rfl rfl h
        · rw [if_neg (neT hb19)] at h
          refine WL_skip (gdN (b := (!r11)) 43 rfl rfl hb19) rfl ?_
          refine WL_skip (gdN (b := (!r11)) 43 rfl rfl hb19) rfl ?_
          refine WL_skip (gdN (b := (!r11)) 43 rfl rfl hb19) rfl ?_
          refine WL_skip (gdN (b := (!r11)) 43 rfl rfl hb19) rfl ?_
          refine WL_val gd0 ((o_pickF (v := .bool false) rfl hb19 rfl) _) rfl ?_
          refine WL_val gd0 ((o_move (v := .bool false) rfl) _) rfl ?_
          refine WL_skip (gdN (b := false) 49 rfl rfl rfl) rfl ?_
          refine WL_skip (gdN (b := false) 49 rfl rfl rfl) rfl ?_
          refine WL_skip (gdN (b := false) 49 rfl rfl rfl) rfl ?_
          refine WL_val gd0 ((o_pickF (v := .bool false) rfl rfl rfl) _) rfl ?_
          refine WL_val gd0 ((o_move (v := .bool false) rfl) _) rfl ?_
          refine WL_skip (gdN (b := false) 54 rfl rfl rfl) rfl ?_
          refine WL_skip (gdN (b := false) 54 rfl rfl rfl) rfl ?_
          refine WL_skip (gdN (b := false) 54 rfl rfl rfl) rfl ?_
          refine WL_skip (gdN (b := false) 54 rfl rfl rfl) rfl ?_
          refine WL_val gd0 ((o_pickF (v := .bool false) rfl rfl rfl) _) rfl ?_
          refine WL_val gd0 ((o_move (v := .bool false) rfl) _) rfl ?_
          refine WL_skip (gdN (b := false) 60 rfl rfl rfl) rfl ?_
          refine WL_skip (gdN (b := false) 60 rfl rfl rfl) rfl ?_
          refine WL_skip (gdN (b := false) 60 rfl rfl rfl) rfl ?_
          refine WL_val gd0 ((o_pickF (v := .bool false) rfl rfl rfl) _) rfl ?_
          refine WL_val gd0 ((o_move (v := .bool false) rfl) _) rfl ?_
          refine WL_skip (gdN (b := false) 65 rfl rfl rfl) rfl ?_
          refine WL_skip (gdN (b := false) 65 rfl rfl rfl) rfl ?_
          refine WL_skip (gdN (b := false) 65 rfl rfl rfl) rfl ?_
          refine WL_val gd0 ((o_pickF (v := .bool false) rfl rfl rfl) _) rfl ?_
          refine WL_val gd0 ((o_move (v := .bool false) rfl) _) rfl ?_
          refine WL_skip (gdN (b := false) 70 rfl rfl rfl) rfl ?_
          refine WL_val gd0 ((o_pickF (v := .bool false) rfl rfl rfl) _) rfl ?_
          refine WL_val gd0 ((o_assign (v := .bool false) rfl) _) rfl ?_
          refine WL_nil ?_
          refine nrm ?_
          refine WC_ret ?_
          refine rtE ?_
          exact gv1 rfl rfl h
      · rw [if_neg (neT hb18)] at h
        refine WL_skip (gdN (b := (!r8)) 39 rfl rfl hb18) rfl ?_
        refine WL_skip (gdN (b := (!r8)) 39 rfl rfl hb18) rfl ?_
        refine WL_val gd0 ((o_pickF (v := .bool false) rfl hb18 rfl) _) rfl ?_
        refine WL_val gd0 ((o_move (v := .bool false) rfl) _) rfl ?_
        refine WL_skip (gdN (b := false) 43 rfl rfl rfl) rfl ?_
        refine WL_skip (gdN (b := false) 43 rfl rfl rfl) rfl ?_
        refine WL_skip (gdN (b := false) 43 rfl rfl rfl) rfl ?_
        refine WL_skip (gdN (b := false) 43 rfl rfl rfl) rfl ?_
        refine WL_val gd0 ((o_pickF (v := .bool false) rfl rfl rfl) _) rfl ?_
        refine WL_val gd0 ((o_move (v := .bool false) rfl) _) rfl ?_
        refine WL_skip (gdN (b := false) 49 rfl rfl rfl) rfl ?_
        refine WL_skip (gdN (b := false) 49 rfl rfl rfl) rfl ?_
        refine WL_skip (gdN (b := false) 49 rfl rfl rfl) rfl ?_
        refine WL_val gd0 ((o_pickF (v := .bool false) rfl rfl rfl) _) rfl ?_
        refine WL_val gd0 ((o_move (v := .bool false) rfl) _) rfl ?_
        refine WL_skip (gdN (b := false) 54 rfl rfl rfl) rfl ?_
        refine WL_skip (gdN (b := false) 54 rfl rfl rfl) rfl ?_
        refine WL_skip (gdN (b := false) 54 rfl rfl rfl) rfl ?_
        refine WL_skip (gdN (b := false) 54 rfl rfl rfl) rfl ?_
        refine WL_val gd0 ((o_pickF (v := .bool false) rfl rfl rfl) _) rfl ?_
        refine WL_val gd0 ((o_move (v := .bool false) rfl) _) rfl ?_
        refine WL_skip (gdN (b := false) 60 rfl rfl rfl) rfl ?_
        refine WL_skip (gdN (b := false) 60 rfl rfl rfl) rfl ?_
        refine WL_skip (gdN (b := false) 60 rfl rfl rfl) rfl ?_
        refine WL_val gd0 ((o_pickF (v := .bool false) rfl rfl rfl) _) rfl ?_
        refine WL_val gd0 ((o_move (v := .bool false) rfl) _) rfl ?_
        refine WL_skip (gdN (b := false) 65 rfl rfl rfl) rfl ?_
        refine WL_skip (gdN (b := false) 65 rfl rfl rfl) rfl ?_
        refine WL_skip (gdN (b := false) 65 rfl rfl rfl) rfl ?_
        refine WL_val gd0 ((o_pickF (v := .bool false) rfl rfl rfl) _) rfl ?_
        refine WL_val gd0 ((o_move (v := .bool false) rfl) _) rfl ?_
        refine WL_skip (gdN (b := false) 70 rfl rfl rfl) rfl ?_
        refine WL_val gd0 ((o_pickF (v := .bool false) rfl rfl rfl) _) rfl ?_
        refine WL_val gd0 ((o_assign (v := .bool false) rfl) _) rfl ?_
        refine WL_nil ?_
        refine nrm ?_
        refine WC_ret ?_
        refine rtE ?_
        exact gv1 rfl rfl h
    · rw [if_neg (of_decide_eq_false hb17)] at h
      refine WL_skip (gdN (b := (decide (x16 = 2))) 35 rfl rfl hb17) rfl ?_
      refine WL_skip (gdN (b := (decide (x16 = 2))) 35 rfl rfl hb17) rfl ?_
      refine WL_val gd0 ((o_pickF (v := .bool false) rfl hb17 rfl) _) rfl ?_
      refine WL_val gd0 ((o_move (v := .bool false) rfl) _) rfl ?_
      refine WL_skip (gdN (b := false) 39 rfl rfl rfl) rfl ?_
      refine WL_skip (gdN (b := false) 39 rfl rfl rfl) rfl ?_
      refine WL_val gd0 ((o_pickF (v := .bool false) rfl rfl rfl) _) rfl ?_
      refine WL_val gd0 ((o_move (v := .bool false) rfl) _) rfl ?_
      refine WL_skip (gdN (b := false) 43 rfl rfl rfl) rfl ?_
      refine WL_skip (gdN (b := false) 43 rfl rfl rfl) rfl ?_
      refine WL_skip (gdN (b := false) 43 rfl rfl rfl) rfl ?_
      refine WL_skip (gdN (b := false) 43 rfl rfl rfl) rfl ?_
      refine WL_val gd0 ((o_pickF (v := .bool false) rfl rfl rfl) _) rfl ?_
      refine WL_val gd0 ((o_move (v := .bool false) rfl) _) rfl ?_
      refine WL_skip (gdN (b := false) 49 rfl rfl rfl) rfl ?_
      refine WL_skip (gdN (b := false) 49 rfl rfl rfl) rfl ?_
      refine WL_skip (gdN (b := false) 49 rfl rfl rfl) rfl ?_
      refine WL_val gd0 ((o_pickF (v := .bool false) rfl rfl rfl) _) rfl ?_
      refine WL_val gd0 ((o_move (v := .bool false) rfl) _) rfl ?_
      refine WL_skip (gdN (b := false) 54 rfl rfl rfl) rfl ?_
      refine WL_skip (gdN (b := false) 54 rfl rfl rfl) rfl ?_
      refine WL_skip (gdN (b := false) 54 rfl rfl rfl) rfl ?_
      refine WL_skip (gdN (b := false) 54 rfl rfl rfl) rfl ?_
      refine WL_val gd0 ((o_pickF (v := .bool false) rfl rfl rfl) _) rfl ?_
      refine WL_val gd0 ((o_move (v := .bool false) rfl) _) rfl ?_
      refine WL_skip (gdN (b := false) 60 rfl rfl rfl) rfl ?_
      refine WL_skip (gdN (b := false) 60 rfl rfl rfl) rfl ?_
      refine WL_skip (gdN (b := false) 60 rfl rfl rfl) rfl ?_
      refine WL_val gd0 ((o_pickF (v := .bool false) rfl rfl rfl) _) rfl ?_
      refine WL_val gd0 ((o_move (v := .bool false) rfl) _) rfl ?_
      refine WL_skip (gdN (b := false) 65 rfl rfl rfl) rfl ?_
      refine WL_skip (gdN (b := false) 65 rfl rfl rfl) rfl ?_
      refine WL_skip (gdN (b := false) 65 rfl rfl rfl) rfl ?_
      refine WL_val gd0 ((o_pickF (v := .bool false) rfl rfl rfl) _) rfl ?_
      refine WL_val gd0 ((o_move (v := .bool false) rfl) _) rfl ?_
      refine WL_skip (gdN (b := false) 70 rfl rfl rfl) rfl ?_
      refine WL_val gd0 ((o_pickF (v := .bool false) rfl rfl rfl) _) rfl ?_
      refine WL_val gd0 ((o_assign (v := .bool false) rfl) _) rfl ?_
      refine WL_nil ?_
      refine nrm ?_
      refine WC_ret ?_
      refine rtE ?_
      exact gv1 rfl rfl h
  · rw [if_neg (of_decide_eq_false hb14)] at h
    refine WL_skip (gdN (b := (decide (x13 = 2))) 28 rfl rfl hb14) rfl ?_
    refine WL_skip (gdN (b := (decide (x13 = 2))) 28 rfl rfl hb14) rfl ?_
    refine WL_skip (gdN (b := (decide (x13 = 2))) 28 rfl rfl hb14) rfl ?_
    refine WL_skip (gdN (b := (decide (x13 = 2))) 28 rfl rfl hb14) rfl ?_
    refine WL_skip (gdN (b := (decide (x13 = 2))) 28 rfl rfl hb14) rfl ?_
    refine WL_val gd0 ((o_pickF (v := .bool false) rfl hb14 rfl) _) rfl ?_
    refine WL_val gd0 ((o_move (v := .bool false) rfl) _) rfl ?_
    refine WL_skip (gdN (b := false) 35 rfl rfl rfl) rfl ?_
    refine WL_skip (gdN (b := false) 35 rfl rfl rfl) rfl ?_
    refine WL_val gd0 ((o_pickF (v := .bool false) rfl rfl rfl) _) rfl ?_
    refine WL_val gd0 ((o_move (v := .bool false) rfl) _) rfl ?_
    refine WL_skip (gdN (b := false) 39 rfl rfl rfl) rfl ?_
    refine WL_skip (gdN (b := false) 39 rfl rfl rfl) rfl ?_
    refine WL_val gd0 ((o_pickF (v := .bool false) rfl rfl rfl) _) rfl ?_
    refine WL_val gd0 ((o_move (v := .bool false) rfl) _) rfl ?_
    refine WL_skip (gdN (b := false) 43 rfl rfl rfl) rfl ?_
    refine WL_skip (gdN (b := false) 43 rfl rfl rfl) rfl ?_
    refine WL_skip (gdN (b := false) 43 rfl rfl rfl) rfl ?_
    refine WL_skip (gdN (b := false) 43 rfl rfl rfl) rfl ?_
    refine WL_val gd0 ((o_pickF (v := .bool false) rfl rfl rfl) _) rfl ?_
    refine WL_val gd0 ((o_move (v := .bool false) rfl) _) rfl ?_
    refine WL_skip (gdN (b := false) 49 rfl rfl rfl) rfl ?_
    refine WL_skip (gdN (b := false) 49 rfl rfl rfl) rfl ?_
    refine WL_skip (gdN (b := false) 49 rfl rfl rfl) rfl ?_
    refine WL_val gd0 ((o_pickF (v := .bool false) rfl rfl rfl) _) rfl ?_
    refine WL_val gd0 ((o_move (v := .bool false) rfl) _) rfl ?_
    refine WL_skip (gdN (b := false) 54 rfl rfl rfl) rfl ?_
    refine WL_skip (gdN (b := false) 54 rfl rfl rfl) rfl ?_
    refine WL_skip (gdN (b := false) 54 rfl rfl rfl) rfl ?_
    refine WL_skip (gdN (b := false) 54 rfl rfl rfl) rfl ?_
    refine WL_val gd0 ((o_pickF (v := .bool false) rfl rfl rfl) _) rfl ?_
    refine WL_val gd0 ((o_move (v := .bool false) rfl) _) rfl ?_
    refine WL_skip (gdN (b := false) 60 rfl rfl rfl) rfl ?_
    refine WL_skip (gdN (b := false) 60 rfl rfl rfl) rfl ?_
    refine WL_skip (gdN (b := false) 60 rfl rfl rfl) rfl ?_
    refine WL_val gd0 ((o_pickF (v := .bool false) rfl rfl rfl) _) rfl ?_
    refine WL_val gd0 ((o_move (v := .bool false) rfl) _) rfl ?_
    refine WL_skip (gdN (b := false) 65 rfl rfl rfl) rfl ?_
    refine WL_skip (gdN (b := false) 65 rfl rfl rfl) rfl ?_
    refine WL_skip (gdN (b := false) 65 rfl rfl rfl) rfl ?_
    refine WL_val gd0 ((o_pickF (v := .bool false) rfl rfl rfl) _) rfl ?_
    refine WL_val gd0 ((o_move (v := .bool false) rfl) _) rfl ?_
    refine WL_skip (gdN (b := false) 70 rfl rfl rfl) rfl ?_
    refine WL_val gd0 ((o_pickF (v := .bool false) rfl rfl rfl) _) rfl ?_
    refine WL_val gd0 ((o_assign (v := .bool false) rfl) _) rfl ?_
    refine WL_nil ?_
    refine nrm ?_
    refine WC_ret ?_
    refine rtE ?_
    exact gv1 rfl rfl h

/-- spacecraft spacecraftlaw08.alive -/
def F8 (w1 : World) (k : Value → World → Prop) : Prop :=
  Does Try.prog 9 #[.int .i64 9] w1 (fun v w2 => ∃ (q3 : Option Addr), v = .pointer q3 ∧ Does Try.prog 10 #[.pointer q3, .int .i64 5, .int .i64 1] w2 (fun v w4 => ∃ (a5 : Int), v = .int .i64 a5 ∧ Does Try.prog 10 #[.pointer q3, .int .i64 3, .int .i64 2] w4 (fun v w6 => ∃ (b7 : Int), v = .int .i64 b7 ∧ Does Try.prog 10 #[.pointer q3, .int .i64 5, .int .i64 3] w6 (fun v w8 => ∃ (c9 : Int), v = .int .i64 c9 ∧ Does Try.prog 10 #[.pointer q3, .int .i64 3, .int .i64 4] w8 (fun v w10 => ∃ (d11 : Int), v = .int .i64 d11 ∧ Does Try.prog 11 #[.pointer q3] w10 (fun v w12 => ∃ (l_a13 : Option Addr) (l_n14 l_c15 : Nat), v = .slice l_a13 l_n14 l_c15 ∧ Does Try.prog 10 #[.pointer q3, .int .i64 9, .int .i64 1] w12 (fun v w16 => ∃ (e_17 : Int), v = .int .i64 e_17 ∧ Does Try.prog 12 #[.pointer q3] w16 (fun v w18 => ∃ (r19 : Int) (r20 : Bool), v = .tuple #[.int .i64 r19, .bool r20] ∧ if a5 = 0 then
  if b7 = 0 then
    if c9 = 0 then
      if d11 = 0 then
        New w18 3 [.int .i64 2, .int .i64 4, .int .i64 1, .int .i64 3] (fun p25 w26 => Does Try.prog 15 #[.slice l_a13 l_n14 l_c15, .slice (some p25) 4 4] w26 (fun v w27 => ∃ (x28 : Bool), v = .bool x28 ∧ if x28 = true then
          if e_17 = 9 then
            if r19 = 2 then
              if r20 = true then
                Does Try.prog 13 #[.pointer q3] w27 (fun v w33 => ∃ (x34 : Int), v = .int .i64 x34 ∧ k (.bool (decide (x34 = 3))) w33)
              else
                k (.bool false) w27
            else
              k (.bool false) w27
          else
            k (.bool false) w27
        else
          k (.bool false) w27))
      else
        k (.bool false) w18
    else
      k (.bool false) w18
  else
    k (.bool false) w18
else
  k (.bool false) w18))))))))
set_option maxRecDepth 100000 in
set_option maxHeartbeats 2000000 in
theorem w8 (w1 : World) (k : Value → World → Prop) (h : F8 w1 k) : Does Try.prog 8 #[] w1 k := by
  refine enter 63 Try.func8 rfl rfl rfl ?_
  intro ρ hρ
  unfold F8 at h
  refine WC_seq ?_
  refine WC_region ?_
  refine WL_val gd0 ((o_assign (v := .bool false) rfl) _) rfl ?_
  refine WL_nil ?_
  refine nrm ?_
  refine WC_seq ?_
  refine WC_region ?_
  refine WL_call gd0 (o_call Try.call9 (argCons rfl argNil) _) rfl (h.mono ?_)
  rintro _ w2 ⟨q3, rfl, h⟩
  refine WL_val gd0 ((o_assign (v := .pointer q3) rfl) _) rfl ?_
  refine WL_nil ?_
  refine nrm ?_
  refine WC_seq ?_
  refine WC_region ?_
  refine WL_val gd0 ((o_move (v := .pointer q3) rfl) _) rfl ?_
  refine WL_call gd0 (o_call Try.call10 (argCons rfl (argCons rfl (argCons rfl argNil))) _) rfl (h.mono ?_)
  rintro _ w4 ⟨a5, rfl, h⟩
  refine WL_val gd0 ((o_assign (v := .int .i64 a5) rfl) _) rfl ?_
  refine WL_nil ?_
  refine nrm ?_
  refine WC_seq ?_
  refine WC_region ?_
  refine WL_val gd0 ((o_move (v := .pointer q3) rfl) _) rfl ?_
  refine WL_call gd0 (o_call Try.call10 (argCons rfl (argCons rfl (argCons rfl argNil))) _) rfl (h.mono ?_)
  rintro _ w6 ⟨b7, rfl, h⟩
  refine WL_val gd0 ((o_assign (v := .int .i64 b7) rfl) _) rfl ?_
  refine WL_nil ?_
  refine nrm ?_
  refine WC_seq ?_
  refine WC_region ?_
  refine WL_val gd0 ((o_move (v := .pointer q3) rfl) _) rfl ?_
  refine WL_call gd0 (o_call Try.call10 (argCons rfl (argCons rfl (argCons rfl argNil))) _) rfl (h.mono ?_)
  rintro _ w8 ⟨c9, rfl, h⟩
  refine WL_val gd0 ((o_assign (v := .int .i64 c9) rfl) _) rfl ?_
  refine WL_nil ?_
  refine nrm ?_
  refine WC_seq ?_
  refine WC_region ?_
  refine WL_val gd0 ((o_move (v := .pointer q3) rfl) _) rfl ?_
  refine WL_call gd0 (o_call Try.call10 (argCons rfl (argCons rfl (argCons rfl argNil))) _) rfl (h.mono ?_)
  rintro _ w10 ⟨d11, rfl, h⟩
  refine WL_val gd0 ((o_assign (v := .int .i64 d11) rfl) _) rfl ?_
  refine WL_nil ?_
  refine nrm ?_
  refine WC_seq ?_
  refine WC_region ?_
  refine WL_val gd0 ((o_move (v := .pointer q3) rfl) _) rfl ?_
  refine WL_call gd0 (o_call Try.call11 (argCons rfl argNil) _) rfl (h.mono ?_)
  rintro _ w12 ⟨l_a13, l_n14, l_c15, rfl, h⟩
  refine WL_val gd0 ((o_assign (v := .slice l_a13 l_n14 l_c15) rfl) _) rfl ?_
  refine WL_nil ?_
  refine nrm ?_
  refine WC_seq ?_
  refine WC_region ?_
  refine WL_val gd0 ((o_move (v := .pointer q3) rfl) _) rfl ?_
  refine WL_call gd0 (o_call Try.call10 (argCons rfl (argCons rfl (argCons rfl argNil))) _) rfl (h.mono ?_)
  rintro _ w16 ⟨e_17, rfl, h⟩
  refine WL_val gd0 ((o_assign (v := .int .i64 e_17) rfl) _) rfl ?_
  refine WL_nil ?_
  refine nrm ?_
  refine WC_seq ?_
  refine WC_region ?_
  refine WL_val gd0 ((o_move (v := .pointer q3) rfl) _) rfl ?_
  refine WL_call gd0 (o_call Try.call12 (argCons rfl argNil) _) rfl (h.mono ?_)
  rintro _ w18 ⟨r19, r20, rfl, h⟩
  refine WL_val gd0 ((o_move (v := .tuple #[.int .i64 r19, .bool r20]) rfl) _) rfl ?_
  refine WL_val gd0 ((o_extract (vs := [.int .i64 r19, .bool r20]) (r := .int .i64 r19) rfl rfl) _) rfl ?_
  refine WL_val gd0 ((o_extract (vs := [.int .i64 r19, .bool r20]) (r := .bool r20) rfl rfl) _) rfl ?_
  refine WL_val gd0 ((o_assign (v := .int .i64 r19) rfl) _) rfl ?_
  refine WL_val gd0 ((o_assign (v := .bool r20) rfl) _) rfl ?_
  refine WL_nil ?_
  refine nrm ?_
  refine WC_seq ?_
  refine WC_region ?_
  refine WL_val gd0 ((o_move (v := .int .i64 a5) rfl) _) rfl ?_
  refine WL_val gd0 ((o_eql rfl rfl) _) rfl ?_
  refine WL_val gd0 ((o_move (v := .bool (decide (a5 = 0))) rfl) _) rfl ?_
  refine bsplit (decide (a5 = 0)) (fun hb21 => ?_) (fun hb21 => ?_)
  · rw [if_pos (of_decide_eq_true hb21)] at h
    refine WL_val (gdY (b := (decide (a5 = 0))) 30 rfl rfl hb21) ((o_move (v := .int .i64 b7) rfl) _) rfl ?_
    refine WL_val (gdY (b := (decide (a5 = 0))) 30 rfl rfl hb21) ((o_eql rfl rfl) _) rfl ?_
    refine WL_val gd0 ((o_pickT (v := .bool (decide (b7 = 0))) rfl hb21 rfl) _) rfl ?_
    refine WL_val gd0 ((o_move (v := .bool (decide (b7 = 0))) rfl) _) rfl ?_
    refine bsplit (decide (b7 = 0)) (fun hb22 => ?_) (fun hb22 => ?_)
    · rw [if_pos (of_decide_eq_true hb22)] at h
      refine WL_val (gdY (b := (decide (b7 = 0))) 34 rfl rfl hb22) ((o_move (v := .int .i64 c9) rfl) _) rfl ?_
      refine WL_val (gdY (b := (decide (b7 = 0))) 34 rfl rfl hb22) ((o_eql rfl rfl) _) rfl ?_
      refine WL_val gd0 ((o_pickT (v := .bool (decide (c9 = 0))) rfl hb22 rfl) _) rfl ?_
      refine WL_val gd0 ((o_move (v := .bool (decide (c9 = 0))) rfl) _) rfl ?_
      refine bsplit (decide (c9 = 0)) (fun hb23 => ?_) (fun hb23 => ?_)
      · rw [if_pos (of_decide_eq_true hb23)] at h
        refine WL_val (gdY (b := (decide (c9 = 0))) 38 rfl rfl hb23) ((o_move (v := .int .i64 d11) rfl) _) rfl ?_
        refine WL_val (gdY (b := (decide (c9 = 0))) 38 rfl rfl hb23) ((o_eql rfl rfl) _) rfl ?_
        refine WL_val gd0 ((o_pickT (v := .bool (decide (d11 = 0))) rfl hb23 rfl) _) rfl ?_
        refine WL_val gd0 ((o_move (v := .bool (decide (d11 = 0))) rfl) _) rfl ?_
        refine bsplit (decide (d11 = 0)) (fun hb24 => ?_) (fun hb24 => ?_)
        · rw [if_pos (of_decide_eq_true hb24)] at h
          refine WL_val (gdY (b := (decide (d11 = 0))) 42 rfl rfl hb24) ((o_move (v := .slice l_a13 l_n14 l_c15) rfl) _) rfl ?_
          have h := New.out h
          refine WL_val (gdY (b := (decide (d11 = 0))) 42 rfl rfl hb24) (o_buildSlice (e := 3) (ps := [(0, .int .i64 2), (1, .int .i64 4), (2, .int .i64 1), (3, .int .i64 3)]) (cs := [.int .i64 2, .int .i64 4, .int .i64 1, .int .i64 3]) (partCons rfl (partCons rfl (partCons rfl (partCons rfl partNil)))) (fun w => by kernel_rfl)) rfl ?_
          generalize hp25 : fresh w18 = p25 at h ⊢
          generalize hw26 : push w18 3 [.int .i64 2, .int .i64 4, .int .i64 1, .int .i64 3] = w26 at h ⊢
          try dsimp only at h
          refine WL_call (gdY (b := (decide (d11 = 0))) 42 rfl rfl hb24) (o_call Try.call15 (argCons rfl (argCons rfl argNil)) _) rfl (h.mono ?_)
          rintro _ w27 ⟨x28, rfl, h⟩
          refine WL_val gd0 ((o_pickT (v := .bool x28) rfl hb24 rfl) _) rfl ?_
          refine WL_val gd0 ((o_move (v := .bool x28) rfl) _) rfl ?_
          refine bsplit x28 (fun hb29 => ?_) (fun hb29 => ?_)
          · rw [if_pos hb29] at h
            refine WL_val (gdY (b := x28) 47 rfl rfl hb29) ((o_move (v := .int .i64 e_17) rfl) _) rfl ?_
            refine WL_val (gdY (b := x28) 47 rfl rfl hb29) ((o_eql rfl rfl) _) rfl ?_
            refine WL_val gd0 ((o_pickT (v := .bool (decide (e_17 = 9))) rfl hb29 rfl) _) rfl ?_
            refine WL_val gd0 ((o_move (v := .bool (decide (e_17 = 9))) rfl) _) rfl ?_
            refine bsplit (decide (e_17 = 9)) (fun hb30 => ?_) (fun hb30 => ?_)
            · rw [if_pos (of_decide_eq_true hb30)] at h
              refine WL_val (gdY (b := (decide (e_17 = 9))) 51 rfl rfl hb30) ((o_move (v := .int .i64 r19) rfl) _) rfl ?_
              refine WL_val (gdY (b := (decide (e_17 = 9))) 51 rfl rfl hb30) ((o_eql rfl rfl) _) rfl ?_
              refine WL_val gd0 ((o_pickT (v := .bool (decide (r19 = 2))) rfl hb30 rfl) _) rfl ?_
              refine WL_val gd0 ((o_move (v := .bool (decide (r19 = 2))) rfl) _) rfl ?_
              refine bsplit (decide (r19 = 2)) (fun hb31 => ?_) (fun hb31 => ?_)
              · rw [if_pos (of_decide_eq_true hb31)] at h
                refine WL_val (gdY (b := (decide (r19 = 2))) 55 rfl rfl hb31) ((o_move (v := .bool r20) rfl) _) rfl ?_
                refine WL_val gd0 ((o_pickT (v := .bool r20) rfl hb31 rfl) _) rfl ?_
                refine WL_val gd0 ((o_move (v := .bool r20) rfl) _) rfl ?_
                refine bsplit r20 (fun hb32 => ?_) (fun hb32 => ?_)
                · rw [if_pos hb32] at h
                  refine WL_val (gdY (b := r20) 58 rfl rfl hb32) ((o_move (v := .pointer q3) rfl) _) rfl ?_
                  refine WL_call (gdY (b := r20) 58 rfl rfl hb32) (o_call Try.call13 (argCons rfl argNil) _) rfl (h.mono ?_)
                  rintro _ w33 ⟨x34, rfl, h⟩
                  refine WL_val (gdY (b := r20) 58 rfl rfl hb32) ((o_eql rfl rfl) _) rfl ?_
                  refine WL_val gd0 ((o_pickT (v := .bool (decide (x34 = 3))) rfl hb32 rfl) _) rfl ?_
                  refine WL_val gd0 ((o_assign (v := .bool (decide (x34 = 3))) rfl) _) rfl ?_
                  refine WL_nil ?_
                  refine nrm ?_
                  refine WC_ret ?_
                  refine rtE ?_
                  exact gv1 rfl rfl h
                · rw [if_neg (neT hb32)] at h
                  refine WL_skip (gdN (b := r20) 58 rfl rfl hb32) rfl ?_
                  refine WL_skip (gdN (b := r20) 58 rfl rfl hb32) rfl ?_
                  refine WL_skip (gdN (b := r20) 58 rfl rfl hb32) rfl ?_
                  refine WL_val gd0 ((o_pickF (v := .bool false) rfl hb32 rfl) _) rfl ?_
                  refine WL_val gd0 ((o_assign (v := .bool false) rfl) _) rfl ?_
                  refine WL_nil ?_
                  refine nrm ?_
                  refine WC_ret ?_
                  refine rtE ?_
                  exact gv1 rfl rfl h
              · rw [if_neg (of_decide_eq_false hb31)] at h
                refine WL_skip (gdN (b := (decide (r19 = 2))) 55 rfl rfl hb31) rfl ?_
                refine WL_val gd0 ((o_pickF (v := .bool false) rfl hb31 rfl) _) rfl ?_
                refine WL_val gd0 ((o_move (v := .bool false) rfl) _) rfl ?_
                refine WL_skip (gdN (b := false) 58 rfl rfl rfl) rfl ?_
                refine WL_skip (gdN (b := false) 58 rfl rfl rfl) rfl ?_
                refine WL_skip (gdN (b := false) 58 rfl rfl rfl) rfl ?_
                refine WL_val gd0 ((o_pickF (v := .bool false) rfl rfl rfl) _) rfl ?_
                refine WL_val gd0 ((o_assign (v := .bool false) rfl) _) rfl ?_
                refine WL_nil ?_
                refine nrm ?_
                refine WC_ret ?_
                refine rtE ?_
                exact gv1 rfl rfl h
            · rw [if_neg (of_decide_eq_false hb30)] at h
              refine WL_skip (gdN (b := (decide (e_17 = 9))) 51 rfl rfl hb30) rfl ?_
              refine WL_skip (gdN (b := (decide (e_17 = 9))) 51 rfl rfl hb30) rfl ?_
              refine WL_val gd0 ((o_pickF (v := .bool false) rfl hb30 rfl) _) rfl ?_
              refine WL_val gd0 ((o_move (v := .bool false) rfl) _) rfl ?_
              refine WL_skip (gdN (b := false) 55 rfl rfl rfl) rfl ?_
              refine WL_val gd0 ((o_pickF (v := .bool false) rfl rfl rfl) _) rfl ?_
              refine WL_val gd0 ((o_move (v := .bool false) rfl) _) rfl ?_
              refine WL_skip (gdN (b := false) 58 rfl rfl rfl) rfl ?_
              refine WL_skip (gdN (b := false) 58 rfl rfl rfl) rfl ?_
              refine WL_skip (gdN (b := false) 58 rfl rfl rfl) rfl ?_
              refine WL_val gd0 ((o_pickF (v := .bool false) rfl rfl rfl) _) rfl ?_
              refine WL_val gd0 ((o_assign (v := .bool false) rfl) _) rfl ?_
              refine WL_nil ?_
              refine nrm ?_
              refine WC_ret ?_
              refine rtE ?_
              exact gv1 rfl rfl h
          · rw [if_neg (neT hb29)] at h
            refine WL_skip (gdN (b := x28) 47 rfl rfl hb29) rfl ?_
            refine WL_skip (gdN (b := x28) 47 rfl rfl hb29) rfl ?_
            refine WL_val gd0 ((o_pickF (v := .bool false) rfl hb29 rfl) _) rfl ?_
            refine WL_val gd0 ((o_move (v := .bool false) rfl) _) rfl ?_
            refine WL_skip (gdN (b := false) 51 rfl rfl rfl) rfl ?_
            refine WL_skip (gdN (b := false) 51 rfl rfl rfl) rfl ?_
            refine WL_val gd0 ((o_pickF (v := .bool false) rfl rfl rfl) _) rfl ?_
            refine WL_val gd0 ((o_move (v := .bool false) rfl) _) rfl ?_
            refine WL_skip (gdN (b := false) 55 rfl rfl rfl) rfl ?_
            refine WL_val gd0 ((o_pickF (v := .bool false) rfl rfl rfl) _) rfl ?_
            refine WL_val gd0 ((o_move (v := .bool false) rfl) _) rfl ?_
            refine WL_skip (gdN (b := false) 58 rfl rfl rfl) rfl ?_
            refine WL_skip (gdN (b := false) 58 rfl rfl rfl) rfl ?_
            refine WL_skip (gdN (b := false) 58 rfl rfl rfl) rfl ?_
            refine WL_val gd0 ((o_pickF (v := .bool false) rfl rfl rfl) _) rfl ?_
            refine WL_val gd0 ((o_assign (v := .bool false) rfl) _) rfl ?_
            refine WL_nil ?_
            refine nrm ?_
            refine WC_ret ?_
            refine rtE ?_
            exact gv1 rfl rfl h
        · rw [if_neg (of_decide_eq_false hb24)] at h
          refine WL_skip (gdN (b := (decide (d11 = 0))) 42 rfl rfl hb24) rfl ?_
          refine WL_skip (gdN (b := (decide (d11 = 0))) 42 rfl rfl hb24) rfl ?_
          refine WL_skip (gdN (b := (decide (d11 = 0))) 42 rfl rfl hb24) rfl ?_
          refine WL_val gd0 ((o_pickF (v := .bool false) rfl hb24 rfl) _) rfl ?_
          refine WL_val gd0 ((o_move (v := .bool false) rfl) _) rfl ?_
          refine WL_skip (gdN (b := false) 47 rfl rfl rfl) rfl ?_
          refine WL_skip (gdN (b := false) 47 rfl rfl rfl) rfl ?_
          refine WL_val gd0 ((o_pickF (v := .bool false) rfl rfl rfl) _) rfl ?_
          refine WL_val gd0 ((o_move (v := .bool false) rfl) _) rfl ?_
          refine WL_skip (gdN (b := false) 51 rfl rfl rfl) rfl ?_
          refine WL_skip (gdN (b := false) 51 rfl rfl rfl) rfl ?_
          refine WL_val gd0 ((o_pickF (v := .bool false) rfl rfl rfl) _) rfl ?_
          refine WL_val gd0 ((o_move (v := .bool false) rfl) _) rfl ?_
          refine WL_skip (gdN (b := false) 55 rfl rfl rfl) rfl ?_
          refine WL_val gd0 ((o_pickF (v := .bool false) rfl rfl rfl) _) rfl ?_
          refine WL_val gd0 ((o_move (v := .bool false) rfl) _) rfl ?_
          refine WL_skip (gdN (b := false) 58 rfl rfl rfl) rfl ?_
          refine WL_skip (gdN (b := false) 58 rfl rfl rfl) rfl ?_
          refine WL_skip (gdN (b := false) 58 rfl rfl rfl) rfl ?_
          refine WL_val gd0 ((o_pickF (v := .bool false) rfl rfl rfl) _) rfl ?_
          refine WL_val gd0 ((o_assign (v := .bool false) rfl) _) rfl ?_
          refine WL_nil ?_
          refine nrm ?_
          refine WC_ret ?_
          refine rtE ?_
          exact gv1 rfl rfl h
      · rw [if_neg (of_decide_eq_false hb23)] at h
        refine WL_skip (gdN (b := (decide (c9 = 0))) 38 rfl rfl hb23) rfl ?_
        refine WL_skip (gdN (b := (decide (c9 = 0))) 38 rfl rfl hb23) rfl ?_
        refine WL_val gd0 ((o_pickF (v := .bool false) rfl hb23 rfl) _) rfl ?_
        refine WL_val gd0 ((o_move (v := .bool false) rfl) _) rfl ?_
        refine WL_skip (gdN (b := false) 42 rfl rfl rfl) rfl ?_
        refine WL_skip (gdN (b := false) 42 rfl rfl rfl) rfl ?_
        refine WL_skip (gdN (b := false) 42 rfl rfl rfl) rfl ?_
        refine WL_val gd0 ((o_pickF (v := .bool false) rfl rfl rfl) _) rfl ?_
        refine WL_val gd0 ((o_move (v := .bool false) rfl) _) rfl ?_
        refine WL_skip (gdN (b := false) 47 rfl rfl rfl) rfl ?_
        refine WL_skip (gdN (b := false) 47 rfl rfl rfl) rfl ?_
        refine WL_val gd0 ((o_pickF (v := .bool false) rfl rfl rfl) _) rfl ?_
        refine WL_val gd0 ((o_move (v := .bool false) rfl) _) rfl ?_
        refine WL_skip (gdN (b := false) 51 rfl rfl rfl) rfl ?_
        refine WL_skip (gdN (b := false) 51 rfl rfl rfl) rfl ?_
        refine WL_val gd0 ((o_pickF (v := .bool false) rfl rfl rfl) _) rfl ?_
        refine WL_val gd0 ((o_move (v := .bool false) rfl) _) rfl ?_
        refine WL_skip (gdN (b := false) 55 rfl rfl rfl) rfl ?_
        refine WL_val gd0 ((o_pickF (v := .bool false) rfl rfl rfl) _) rfl ?_
        refine WL_val gd0 ((o_move (v := .bool false) rfl) _) rfl ?_
        refine WL_skip (gdN (b := false) 58 rfl rfl rfl) rfl ?_
        refine WL_skip (gdN (b := false) 58 rfl rfl rfl) rfl ?_
        refine WL_skip (gdN (b := false) 58 rfl rfl rfl) rfl ?_
        refine WL_val gd0 ((o_pickF (v := .bool false) rfl rfl rfl) _) rfl ?_
        refine WL_val gd0 ((o_assign (v := .bool false) rfl) _) rfl ?_
        refine WL_nil ?_
        refine nrm ?_
        refine WC_ret ?_
        refine rtE ?_
        exact gv1 rfl rfl h
    · rw [if_neg (of_decide_eq_false hb22)] at h
      refine WL_skip (gdN (b := (decide (b7 = 0))) 34 rfl rfl hb22) rfl ?_
      refine WL_skip (gdN (b := (decide (b7 = 0))) 34 rfl rfl hb22) rfl ?_
      refine WL_val gd0 ((o_pickF (v := .bool false) rfl hb22 rfl) _) rfl ?_
      refine WL_val gd0 ((o_move (v := .bool false) rfl) _) rfl ?_
      refine WL_skip (gdN (b := false) 38 rfl rfl rfl) rfl ?_
      refine WL_skip (gdN (b := false) 38 rfl rfl rfl) rfl ?_
      refine WL_val gd0 ((o_pickF (v := .bool false) rfl rfl rfl) _) rfl ?_
      refine WL_val gd0 ((o_move (v := .bool false) rfl) _) rfl ?_
      refine WL_skip (gdN (b := false) 42 rfl rfl rfl) rfl ?_
      refine WL_skip (gdN (b := false) 42 rfl rfl rfl) rfl ?_
      refine WL_skip (gdN (b := false) 42 rfl rfl rfl) rfl ?_
      refine WL_val gd0 ((o_pickF (v := .bool false) rfl rfl rfl) _) rfl ?_
      refine WL_val gd0 ((o_move (v := .bool false) rfl) _) rfl ?_
      refine WL_skip (gdN (b := false) 47 rfl rfl rfl) rfl ?_
      refine WL_skip (gdN (b := false) 47 rfl rfl rfl) rfl ?_
      refine WL_val gd0 ((o_pickF (v := .bool false) rfl rfl rfl) _) rfl ?_
      refine WL_val gd0 ((o_move (v := .bool false) rfl) _) rfl ?_
      refine WL_skip (gdN (b := false) 51 rfl rfl rfl) rfl ?_
      refine WL_skip (gdN (b := false) 51 rfl rfl rfl) rfl ?_
      refine WL_val gd0 ((o_pickF (v := .bool false) rfl rfl rfl) _) rfl ?_
      refine WL_val gd0 ((o_move (v := .bool false) rfl) _) rfl ?_
      refine WL_skip (gdN (b := false) 55 rfl rfl rfl) rfl ?_
      refine WL_val gd0 ((o_pickF (v := .bool false) rfl rfl rfl) _) rfl ?_
      refine WL_val gd0 ((o_move (v := .bool false) rfl) _) rfl ?_
      refine WL_skip (gdN (b := false) 58 rfl rfl rfl) rfl ?_
      refine WL_skip (gdN (b := false) 58 rfl rfl rfl) rfl ?_
      refine WL_skip (gdN (b := false) 58 rfl rfl rfl) rfl ?_
      refine WL_val gd0 ((o_pickF (v := .bool false) rfl rfl rfl) _) rfl ?_
      refine WL_val gd0 ((o_assign (v := .bool false) rfl) _) rfl ?_
      refine WL_nil ?_
      refine nrm ?_
      refine WC_ret ?_
      refine rtE ?_
      exact gv1 rfl rfl h
  · rw [if_neg (of_decide_eq_false hb21)] at h
    refine WL_skip (gdN (b := (decide (a5 = 0))) 30 rfl rfl hb21) rfl ?_
    refine WL_skip (gdN (b := (decide (a5 = 0))) 30 rfl rfl hb21) rfl ?_
    refine WL_val gd0 ((o_pickF (v := .bool false) rfl hb21 rfl) _) rfl ?_
    refine WL_val gd0 ((o_move (v := .bool false) rfl) _) rfl ?_
    refine WL_skip (gdN (b := false) 34 rfl rfl rfl) rfl ?_
    refine WL_skip (gdN (b := false) 34 rfl rfl rfl) rfl ?_
    refine WL_val gd0 ((o_pickF (v := .bool false) rfl rfl rfl) _) rfl ?_
    refine WL_val gd0 ((o_move (v := .bool false) rfl) _) rfl ?_
    refine WL_skip (gdN (b := false) 38 rfl rfl rfl) rfl ?_
    refine WL_skip (gdN (b := false) 38 rfl rfl rfl) rfl ?_
    refine WL_val gd0 ((o_pickF (v := .bool false) rfl rfl rfl) _) rfl ?_
    refine WL_val gd0 ((o_move (v := .bool false) rfl) _) rfl ?_
    refine WL_skip (gdN (b := false) 42 rfl rfl rfl) rfl ?_
    refine WL_skip (gdN (b := false) 42 rfl rfl rfl) rfl ?_
    refine WL_skip (gdN (b := false) 42 rfl rfl rfl) rfl ?_
    refine WL_val gd0 ((o_pickF (v := .bool false) rfl rfl rfl) _) rfl ?_
    refine WL_val gd0 ((o_move (v := .bool false) rfl) _) rfl ?_
    refine WL_skip (gdN (b := false) 47 rfl rfl rfl) rfl ?_
    refine WL_skip (gdN (b := false) 47 rfl rfl rfl) rfl ?_
    refine WL_val gd0 ((o_pickF (v := .bool false) rfl rfl rfl) _) rfl ?_
    refine WL_val gd0 ((o_move (v := .bool false) rfl) _) rfl ?_
    refine WL_skip (gdN (b := false) 51 rfl rfl rfl) rfl ?_
    refine WL_skip (gdN (b := false) 51 rfl rfl rfl) rfl ?_
    refine WL_val gd0 ((o_pickF (v := .bool false) rfl rfl rfl) _) rfl ?_
    refine WL_val gd0 ((o_move (v := .bool false) rfl) _) rfl ?_
    refine WL_skip (gdN (b := false) 55 rfl rfl rfl) rfl ?_
    refine WL_val gd0 ((o_pickF (v := .bool false) rfl rfl rfl) _) rfl ?_
    refine WL_val gd0 ((o_move (v := .bool false) rfl) _) rfl ?_
    refine WL_skip (gdN (b := false) 58 rfl rfl rfl) rfl ?_
    refine WL_skip (gdN (b := false) 58 rfl rfl rfl) rfl ?_
    refine WL_skip (gdN (b := false) 58 rfl rfl rfl) rfl ?_
    refine WL_val gd0 ((o_pickF (v := .bool false) rfl rfl rfl) _) rfl ?_
    refine WL_val gd0 ((o_assign (v := .bool false) rfl) _) rfl ?_
    refine WL_nil ?_
    refine nrm ?_
    refine WC_ret ?_
    refine rtE ?_
    exact gv1 rfl rfl h

/-- spacecraft queue.New -/
def F9 (most1 : Int) (w2 : World) (k : Value → World → Prop) : Prop :=
  New w2 56 [.bool true, .int .i64 (min (max most1 0) 256), .slice none 0 0] (fun p3 w4 => k (.pointer (some p3)) w4)
set_option maxRecDepth 100000 in
set_option maxHeartbeats 2000000 in
theorem w9 (most1 : Int) (w2 : World) (k : Value → World → Prop) (h : F9 most1 w2 k) : Does Try.prog 9 #[.int .i64 most1] w2 k := by
  refine enter 8 Try.func9 rfl rfl rfl ?_
  intro ρ hρ
  have e0 := hρ 0 _ rfl
  unfold F9 at h
  refine WC_seq ?_
  refine WC_region ?_
  refine WL_val gd0 ((o_assign (v := .pointer none) rfl) _) rfl ?_
  refine WL_nil ?_
  refine nrm ?_
  refine WC_seq ?_
  refine WC_region ?_
  refine WL_val gd0 ((o_move (v := .int .i64 most1) (by exact e0)) _) rfl ?_
  refine WL_val gd0 ((o_max2 rfl rfl) _) rfl ?_
  refine WL_val gd0 ((o_min2 rfl rfl) _) rfl ?_
  refine WL_val gd0 ((o_build (ps := [(0, .bool true), (1, .int .i64 (min (max most1 0) 256))]) (v := .agg #[.bool true, .int .i64 (min (max most1 0) 256), .slice none 0 0]) (partCons rfl (partCons rfl partNil)) (fun w => by kernel_rfl)) _) rfl ?_
  have h := New.out h
  refine WL_val gd0 (o_box (v := .agg #[.bool true, .int .i64 (min (max most1 0) 256), .slice none 0 0]) (cs := [.bool true, .int .i64 (min (max most1 0) 256), .slice none 0 0]) rfl rfl) rfl ?_
  generalize hp3 : fresh w2 = p3 at h ⊢
  generalize hw4 : push w2 56 [.bool true, .int .i64 (min (max most1 0) 256), .slice none 0 0] = w4 at h ⊢
  try dsimp only at h
  refine WL_val gd0 ((o_assign (v := .pointer (some p3)) rfl) _) rfl ?_
  refine WL_nil ?_
  refine nrm ?_
  refine WC_ret ?_
  refine rtE ?_
  exact gv1 rfl rfl h

/-- (*spacecraft queue.Queue).Push -/
def F10 (q1 : Option Addr) (priority2 : Int) (item3 : Int) (w4 : World) (k : Value → World → Prop) : Prop :=
  Does Try.prog 24 #[.pointer q1] w4 (fun v w5 => ∃ (x6 : Bool), v = .bool x6 ∧ if (!x6) = true then
  k (.int .i64 2) w5
else
  Does Try.prog 25 #[.pointer q1, .int .i64 item3] w5 (fun v w8 => ∃ (x9 : Int), v = .int .i64 x9 ∧ if 0 ≤ x9 then
    k (.int .i64 9) w8
  else
    ∃ (p11 : Addr), q1 = some p11 ∧ ∃ (x_a13 : Option Addr) (x_n14 x_c15 : Nat), w8.drew.cell? (p11.add 2) = some (.slice x_a13 x_n14 x_c15) ∧ ∃ (x17 : Int), w8.drew.cell? (p11.add 1) = some (.int .i64 x17) ∧ if (x_n14 : Int) = x17 then
      k (.int .i64 7) w8.drew
    else
      ∃ (x_a20 : Option Addr) (x_n21 x_c22 : Nat), w8.drew.cell? (p11.add 2) = some (.slice x_a20 x_n21 x_c22) ∧ Does Try.prog 26 #[.slice x_a20 x_n21 x_c22, .agg #[.int .i64 priority2, .int .i64 item3], .func (.func 27) #[] #[]] w8.drew (fun v w24 => ∃ (x_a25 : Option Addr) (x_n26 x_c27 : Nat), v = .slice x_a25 x_n26 x_c27 ∧ Put w24 (p11.add 2) (.slice x_a25 x_n26 x_c27) (fun w28 => k (.int .i64 0) w28))))
set_option maxRecDepth 100000 in
set_option maxHeartbeats 2000000 in
theorem w10 (q1 : Option Addr) (priority2 : Int) (item3 : Int) (w4 : World) (k : Value → World → Prop) (h : F10 q1 priority2 item3 w4 k) : Does Try.prog 10 #[.pointer q1, .int .i64 priority2, .int .i64 item3] w4 k := by
  refine enter 38 Try.func10 rfl rfl rfl ?_
  intro ρ hρ
  have e0 := hρ 0 _ rfl
  have e1 := hρ 1 _ rfl
  have e2 := hρ 2 _ rfl
  unfold F10 at h
  refine WC_seq ?_
  refine WC_region ?_
  refine WL_val gd0 ((o_assign (v := .int .i64 0) rfl) _) rfl ?_
  refine WL_nil ?_
  refine nrm ?_
  refine WC_seq ?_
  refine WC_block ?_
  refine WC_seq ?_
  refine WC_region ?_
  refine WL_val gd0 ((o_move (v := .pointer q1) (by exact e0)) _) rfl ?_
  refine WL_call gd0 (o_call Try.call24 (argCons rfl argNil) _) rfl (h.mono ?_)
  rintro _ w5 ⟨x6, rfl, h⟩
  refine WL_val gd0 ((o_not rfl) _) rfl ?_
  refine WL_val gd0 ((o_assign (v := .bool (!x6)) rfl) _) rfl ?_
  refine WL_nil ?_
  refine nrm ?_
  refine WC_cond (t := (!x6)) rfl (fun hb7 => ?_) (fun hb7 => ?_)
  · rw [if_pos hb7] at h
    refine WC_seq ?_
    refine WC_region ?_
    refine WL_val gd0 ((o_assign (v := .int .i64 2) rfl) _) rfl ?_
    refine WL_nil ?_
    refine nrm ?_
    refine WC_ret ?_
    refine rtB ?_
    refine rtT ?_
    refine rtE ?_
    exact gv1 rfl rfl h
  · rw [if_neg (neT hb7)] at h
    refine WC_seq ?_
    refine WC_region ?_
    refine WL_val gd0 ((o_move (v := .pointer q1) (by exact e0)) _) rfl ?_
    refine WL_val gd0 ((o_move (v := .int .i64 item3) (by exact e2)) _) rfl ?_
    refine WL_call gd0 (o_call Try.call25 (argCons rfl (argCons rfl argNil)) _) rfl (h.mono ?_)
    rintro _ w8 ⟨x9, rfl, h⟩
    refine WL_val gd0 ((o_geq rfl rfl) _) rfl ?_
    refine WL_val gd0 ((o_assign (v := .bool (decide (0 ≤ x9))) rfl) _) rfl ?_
    refine WL_nil ?_
    refine nrm ?_
    refine WC_cond (t := (decide (0 ≤ x9))) rfl (fun hb10 => ?_) (fun hb10 => ?_)
    · rw [if_pos (of_decide_eq_true hb10)] at h
      refine WC_seq ?_
      refine WC_region ?_
      refine WL_val gd0 ((o_assign (v := .int .i64 9) rfl) _) rfl ?_
      refine WL_nil ?_
      refine nrm ?_
      refine WC_ret ?_
      refine rtB ?_
      refine rtT ?_
      refine rtE ?_
      exact gv1 rfl rfl h
    · rw [if_neg (of_decide_eq_false hb10)] at h
      refine WC_seq ?_
      refine WC_draws [] (.look 0 (.look 1 (.look 2 (.look 3 (.look 4 (.look 5 (.look 6 (.look 7 (.look 8 (.look 9 (.look 10 .nil))))))))))) Try.mixed (by kernel_rfl) ?_
      refine WQ_val rfl gd0 (o_move (v := .pointer q1) (by exact e0)) rfl ?_
      obtain ⟨p11, q12, h⟩ := h
      refine WQ_val rfl gd0 (o_nilCheck (by exact (congrArg Value.pointer q12))) rfl ?_
      refine WQ_val rfl gd0 (o_fieldAddr 2 Try.underlying56 rfl Try.sizeOf54 rfl rfl rfl) rfl ?_
      obtain ⟨x_a13, x_n14, x_c15, hc16, h⟩ := h
      refine WQ_look (fun w => w.cell? (p11.add 2) = some (.slice x_a13 x_n14 x_c15)) rfl gd0 (fun w hc => (o_load Try.isAgg54 rfl hc)) hc16 rfl ?_
      refine WQ_val rfl gd0 (o_len Try.underlying54 rfl) rfl ?_
      refine WQ_val rfl gd0 (o_move (v := .pointer q1) (by exact e0)) rfl ?_
      refine WQ_val rfl gd0 (o_nilCheck (by exact (congrArg Value.pointer q12))) rfl ?_
      refine WQ_val rfl gd0 (o_fieldAddr 1 Try.underlying56 rfl Try.sizeOf3 rfl rfl rfl) rfl ?_
      obtain ⟨x17, hc18, h⟩ := h
      refine WQ_look (fun w => w.cell? (p11.add 1) = some (.int .i64 x17)) rfl gd0 (fun w hc => (o_load Try.isAgg3 rfl hc)) hc18 rfl ?_
      refine WQ_val rfl gd0 (o_eql rfl rfl) rfl ?_
      refine WQ_val rfl gd0 (o_assign (v := .bool (decide ((x_n14 : Int) = x17))) rfl) rfl ?_
      refine WQ_nil ?_
      refine nrm ?_
      refine WC_cond (t := (decide ((x_n14 : Int) = x17))) rfl (fun hb19 => ?_) (fun hb19 => ?_)
      · rw [if_pos (of_decide_eq_true hb19)] at h
        refine WC_seq ?_
        refine WC_region ?_
        refine WL_val gd0 ((o_assign (v := .int .i64 7) rfl) _) rfl ?_
        refine WL_nil ?_
        refine nrm ?_
        refine WC_ret ?_
        refine rtB ?_
        refine rtT ?_
        refine rtE ?_
        exact gv1 rfl rfl h
      · rw [if_neg (of_decide_eq_false hb19)] at h
        refine WC_skip ?_
        refine nrmB ?_
        refine nrm ?_
        refine WC_seq ?_
        refine WC_region ?_
        refine WL_val gd0 ((o_move (v := .pointer q1) (by exact e0)) _) rfl ?_
        refine WL_val gd0 ((o_move (v := .pointer q1) (by exact e0)) _) rfl ?_
        refine WL_val gd0 ((o_nilCheck (by exact (congrArg Value.pointer q12))) _) rfl ?_
        refine WL_val gd0 ((o_fieldAddr 2 Try.underlying56 rfl Try.sizeOf54 rfl rfl rfl) _) rfl ?_
        obtain ⟨x_a20, x_n21, x_c22, hc23, h⟩ := h
        refine WL_val gd0 (o_load Try.isAgg54 rfl hc23) rfl ?_
        refine WL_val gd0 ((o_move (v := .int .i64 priority2) (by exact e1)) _) rfl ?_
        refine WL_val gd0 ((o_move (v := .int .i64 item3) (by exact e2)) _) rfl ?_
        refine WL_val gd0 ((o_build (ps := [(0, .int .i64 priority2), (1, .int .i64 item3)]) (v := .agg #[.int .i64 priority2, .int .i64 item3]) (partCons rfl (partCons rfl partNil)) (fun w => by kernel_rfl)) _) rfl ?_
        refine WL_call gd0 (o_call Try.call26 (argCons rfl (argCons rfl (argCons rfl argNil))) _) rfl (h.mono ?_)
        rintro _ w24 ⟨x_a25, x_n26, x_c27, rfl, h⟩
        refine WL_val gd0 ((o_nilCheck (by exact (congrArg Value.pointer q12))) _) rfl ?_
        refine WL_val gd0 ((o_fieldAddr 2 Try.underlying56 rfl Try.sizeOf54 rfl rfl rfl) _) rfl ?_
        obtain ⟨c29, h⟩ := h
        refine WL_act gd0 (o_store (v := .slice x_a25 x_n26 x_c27) Try.sizeOf54 rfl rfl rfl c29) ?_
        generalize hw28 : World.setCell w24 (p11.add 2) (.slice x_a25 x_n26 x_c27) = w28 at h ⊢
        try dsimp only at h
        refine WL_nil ?_
        refine nrm ?_
        refine WC_seq ?_
        refine WC_region ?_
        refine WL_val gd0 ((o_assign (v := .int .i64 0) rfl) _) rfl ?_
        refine WL_nil ?_
        refine nrm ?_
        refine WC_ret ?_
        refine rtE ?_
        exact gv1 rfl rfl h

def F11_b1 (x_n9 : Nat) (x_a8 : Option Addr) (out_a13 : Option Addr) (out_n14 : Nat) (out_c15 : Nat) (t19 : Int) (w20 : World) (nx20 : Option Addr → Nat → Nat → Int → World → Prop) (k : Value → World → Prop) : Prop :=
  if t19 < (x_n9 : Int) then
  ∃ (p25 : Addr), x_a8 = some p25 ∧ (0 : Int) ≤ t19 ∧ t19 < (x_n9 : Int) ∧ ∃ (x27 x28 : Int), Cells w20 (p25.add (t19.toNat * 2)) 0 [.int .i64 x27, .int .i64 x28] ∧ New w20 61 [.int .i64 0, .int .i64 0] (fun p30 w31 => PutAll w31 p30 [.int .i64 x27, .int .i64 x28] (fun w32 => ∃ (x34 : Int), w32.cell? (p30.add 1) = some (.int .i64 x34) ∧ New w32 3 [.int .i64 x34] (fun p36 w37 => ∃ (b_a38 : Option Addr) (b_n39 b_c40 : Nat) (w41 : World), (Builtin.append_ #[22, 22] 22 #[.slice out_a13 out_n14 out_c15, .slice (some p36) 1 1]).run Try.prog w37 = .ok (.slice b_a38 b_n39 b_c40) w41 ∧ nx20 b_a38 b_n39 b_c40 (IntKind.i64.wrap (t19 + 1)) w41)))
else
  k (.slice out_a13 out_n14 out_c15) w20
/-- (*spacecraft queue.Queue).Items -/
def F11 (q1 : Option Addr) (w2 : World) (k : Value → World → Prop) : Prop :=
  Does Try.prog 24 #[.pointer q1] w2 (fun v w3 => ∃ (x4 : Bool), v = .bool x4 ∧ if (!x4) = true then
  k (.slice none 0 0) w3
else
  ∃ (p6 : Addr), q1 = some p6 ∧ ∃ (x_a8 : Option Addr) (x_n9 x_c10 : Nat), w3.cell? (p6.add 2) = some (.slice x_a8 x_n9 x_c10) ∧ LoopP (fun (s : Option Addr × Nat × Nat × Int) w' nx' => F11_b1 x_n9 x_a8 (s.1) (s.2.1) (s.2.2.1) (s.2.2.2) w' (fun x0 x1 x2 x3 w => nx' (x0, x1, x2, x3) w) k) (none, 0, 0, 0) w3)
set_option maxRecDepth 100000 in
set_option maxHeartbeats 2000000 in
theorem w11 (q1 : Option Addr) (w2 : World) (k : Value → World → Prop) (h : F11 q1 w2 k) : Does Try.prog 11 #[.pointer q1] w2 k := by
  refine enter 25 Try.func11 rfl rfl rfl ?_
  intro ρ hρ
  have e0 := hρ 0 _ rfl
  unfold F11 at h
  refine WC_seq ?_
  refine WC_region ?_
  refine WL_val gd0 ((o_assign (v := .slice none 0 0) rfl) _) rfl ?_
  refine WL_nil ?_
  refine nrm ?_
  refine WC_seq ?_
  refine WC_seq ?_
  refine WC_region ?_
  refine WL_val gd0 ((o_move (v := .pointer q1) (by exact e0)) _) rfl ?_
  refine WL_call gd0 (o_call Try.call24 (argCons rfl argNil) _) rfl (h.mono ?_)
  rintro _ w3 ⟨x4, rfl, h⟩
  refine WL_val gd0 ((o_not rfl) _) rfl ?_
  refine WL_nil ?_
  refine nrm ?_
  refine WC_cond (t := (!x4)) rfl (fun hb5 => ?_) (fun hb5 => ?_)
  · rw [if_pos hb5] at h
    refine WC_seq ?_
    refine WC_region ?_
    refine WL_val gd0 ((o_assign (v := .slice none 0 0) rfl) _) rfl ?_
    refine WL_nil ?_
    refine nrm ?_
    refine WC_ret ?_
    refine rtT ?_
    refine rtE ?_
    exact gv1 rfl rfl h
  · rw [if_neg (neT hb5)] at h
    refine WC_skip ?_
    refine nrm ?_
    refine WC_seq ?_
    refine WC_region ?_
    refine WL_val gd0 ((o_assign (v := .slice none 0 0) rfl) _) rfl ?_
    refine WL_nil ?_
    refine nrm ?_
    refine WC_seq ?_
    refine WC_seq ?_
    refine WC_region ?_
    refine WL_val gd0 ((o_move (v := .pointer q1) (by exact e0)) _) rfl ?_
    obtain ⟨p6, q7, h⟩ := h
    refine WL_val gd0 ((o_nilCheck (by exact (congrArg Value.pointer q7))) _) rfl ?_
    refine WL_val gd0 ((o_fieldAddr 2 Try.underlying56 rfl Try.sizeOf54 rfl rfl rfl) _) rfl ?_
    obtain ⟨x_a8, x_n9, x_c10, hc11, h⟩ := h
    refine WL_val gd0 (o_load Try.isAgg54 rfl hc11) rfl ?_
    refine WL_val gd0 ((o_len Try.underlying54 rfl) _) rfl ?_
    refine WL_val gd0 ((o_move (v := .int .i64 0) rfl) _) rfl ?_
    refine WL_nil ?_
    refine nrm ?_
    refine WC_block ?_
    obtain ⟨J20, ⟨n20, h0⟩, hr20⟩ := h
    refine WC_loop (fun n ρ w' => ∃ (out_a13 : Option Addr) (out_n14 out_c15 : Nat) (t19 : Int), ρ 3 = .slice out_a13 out_n14 out_c15 ∧ ρ 14 = .int .i64 t19 ∧ ρ 12 = .slice x_a8 x_n9 x_c10 ∧ ρ 13 = .int .i64 (x_n9 : Int) ∧ J20 n (out_a13, out_n14, out_c15, t19) w') ⟨n20, _, _, _, _, rfl, rfl, rfl, rfl, h0⟩ ?_
    rintro n20 ρ w20 ⟨out_a13, out_n14, out_c15, t19, e3_12, e14_18, e12_16, e13_17, h⟩
    have h : F11_b1 x_n9 x_a8 out_a13 out_n14 out_c15 t19 w20 (fun x0 x1 x2 x3 w => ∃ m, m < n20 ∧ J20 m (x0, x1, x2, x3) w) k := hr20 n20 (out_a13, out_n14, out_c15, t19) w20 h
    unfold F11_b1 at h
    refine WC_seq ?_
    refine WC_region ?_
    refine WL_val gd0 ((o_lss (by exact e14_18) (by exact e13_17)) _) rfl ?_
    refine WL_nil ?_
    refine nrm ?_
    refine WC_seq ?_
    refine WC_cond (t := (decide (t19 < (x_n9 : Int)))) rfl (fun hb22 => ?_) (fun hb22 => ?_)
    · rw [if_pos (of_decide_eq_true hb22)] at h
      refine WC_skip ?_
      refine nrm ?_
      refine WC_seq ?_
      refine WC_block ?_
      refine WC_seq ?_
      refine WC_region ?_
      obtain ⟨p25, q26, h⟩ := h
      obtain ⟨l23, u24, h⟩ := h
      refine WL_val gd0 ((o_indexAddr Try.underlying54 Try.sizeOf61 (by exact (Eq.trans e12_16 (congrArg (fun z => Value.slice z x_n9 x_c10) q26))) (by exact e14_18) l23 u24) _) rfl ?_
      obtain ⟨x27, x28, hc29, h⟩ := h
      refine WL_val gd0 (o_loadAgg (vs := [.int .i64 x27, .int .i64 x28]) Try.isAgg61 Try.sizeOf61 rfl hc29) rfl ?_
      have h := New.out h
      refine WL_val gd0 (o_alloc (z := .agg #[.int .i64 0, .int .i64 0]) (cs := [.int .i64 0, .int .i64 0]) Try.zeroValue61 rfl) rfl ?_
      generalize hp30 : fresh w20 = p30 at h ⊢
      generalize hw31 : push w20 61 [.int .i64 0, .int .i64 0] = w31 at h ⊢
      try dsimp only at h
      obtain ⟨c33, h⟩ := h
      refine WL_act gd0 (o_storeAgg (vs := [.int .i64 x27, .int .i64 x28]) Try.sizeOf61 rfl rfl rfl c33) ?_
      generalize hw32 : setAll w31 p30 0 [.int .i64 x27, .int .i64 x28] = w32 at h ⊢
      try dsimp only at h
      refine WL_nil ?_
      refine nrm ?_
      refine WC_region ?_
      refine WL_val gd0 ((o_move (v := .slice out_a13 out_n14 out_c15) (by exact e3_12)) _) rfl ?_
      refine WL_val gd0 ((o_fieldAddr 1 Try.underlying61 rfl Try.sizeOf3 rfl rfl rfl) _) rfl ?_
      obtain ⟨x34, hc35, h⟩ := h
      refine WL_val gd0 (o_load Try.isAgg3 rfl hc35) rfl ?_
      have h := New.out h
      refine WL_val gd0 (o_buildSlice (e := 3) (ps := [(0, .int .i64 x34)]) (cs := [.int .i64 x34]) (partCons rfl partNil) (fun w => by kernel_rfl)) rfl ?_
      generalize hp36 : fresh w32 = p36 at h ⊢
      generalize hw37 : push w32 3 [.int .i64 x34] = w37 at h ⊢
      try dsimp only at h
      obtain ⟨b_a38, b_n39, b_c40, w41, r42, h⟩ := h
      refine WL_val gd0 (o_append rfl rfl r42) rfl ?_
      refine WL_val gd0 ((o_assign (v := .slice b_a38 b_n39 b_c40) rfl) _) rfl ?_
      refine WL_nil ?_
      refine nrmB ?_
      refine nrm ?_
      refine WC_region ?_
      refine WL_val gd0 ((o_add (by exact e14_18) rfl) _) rfl ?_
      refine WL_val gd0 ((o_move (v := .int .i64 (IntKind.i64.wrap (t19 + 1))) rfl) _) rfl ?_
      refine WL_nil ?_
      refine nrm ?_
      obtain ⟨m21, hm21, h⟩ := h
      exact ⟨m21, hm21, _, _, _, _, rfl, rfl, e12_16, e13_17, h⟩
    · rw [if_neg (of_decide_eq_false hb22)] at h
      refine WC_exit ?_
      refine exT ?_
      refine exT ?_
      refine exB ?_
      refine nrm ?_
      refine WC_seq ?_
      refine WC_region ?_
      refine WL_val gd0 ((o_move (v := .slice out_a13 out_n14 out_c15) (by exact e3_12)) _) rfl ?_
      refine WL_val gd0 ((o_assign (v := .slice out_a13 out_n14 out_c15) rfl) _) rfl ?_
      refine WL_nil ?_
      refine nrm ?_
      refine WC_ret ?_
      refine rtE ?_
      exact gv1 rfl rfl h

/-- (*spacecraft queue.Queue).Pop -/
def F12 (q1 : Option Addr) (w2 : World) (k : Value → World → Prop) : Prop :=
  Does Try.prog 21 #[.pointer q1] w2 (fun v w3 => ∃ (r4 : Int) (r5 : Bool), v = .tuple #[.int .i64 r4, .bool r5] ∧ if r5 = true then
  ∃ (p7 : Addr), q1 = some p7 ∧ ∃ (x_a9 : Option Addr) (x_n10 x_c11 : Nat), w3.cell? (p7.add 2) = some (.slice x_a9 x_n10 x_c11) ∧ (0 : Int) ≤ 1 ∧ 1 ≤ (x_n10 : Int) ∧ Put w3 (p7.add 2) (.slice (cutA x_a9 x_c11 ((1 : Int).toNat) 2) (x_n10 - (1 : Int).toNat) (x_c11 - (1 : Int).toNat)) (fun w15 => k (.tuple #[.int .i64 r4, .bool r5]) w15)
else
  k (.tuple #[.int .i64 r4, .bool r5]) w3)
set_option maxRecDepth 100000 in
set_option maxHeartbeats 2000000 in
theorem w12 (q1 : Option Addr) (w2 : World) (k : Value → World → Prop) (h : F12 q1 w2 k) : Does Try.prog 12 #[.pointer q1] w2 k := by
  refine enter 22 Try.func12 rfl rfl rfl ?_
  intro ρ hρ
  have e0 := hρ 0 _ rfl
  unfold F12 at h
  refine WC_seq ?_
  refine WC_region ?_
  refine WL_val gd0 ((o_assign (v := .int .i64 0) rfl) _) rfl ?_
  refine WL_val gd0 ((o_assign (v := .bool false) rfl) _) rfl ?_
  refine WL_nil ?_
  refine nrm ?_
  refine WC_seq ?_
  refine WC_region ?_
  refine WL_val gd0 ((o_move (v := .pointer q1) (by exact e0)) _) rfl ?_
  refine WL_call gd0 (o_call Try.call21 (argCons rfl argNil) _) rfl (h.mono ?_)
  rintro _ w3 ⟨r4, r5, rfl, h⟩
  refine WL_val gd0 ((o_move (v := .tuple #[.int .i64 r4, .bool r5]) rfl) _) rfl ?_
  refine WL_val gd0 ((o_extract (vs := [.int .i64 r4, .bool r5]) (r := .int .i64 r4) rfl rfl) _) rfl ?_
  refine WL_val gd0 ((o_extract (vs := [.int .i64 r4, .bool r5]) (r := .bool r5) rfl rfl) _) rfl ?_
  refine WL_val gd0 ((o_assign (v := .int .i64 r4) rfl) _) rfl ?_
  refine WL_val gd0 ((o_assign (v := .bool r5) rfl) _) rfl ?_
  refine WL_nil ?_
  refine nrm ?_
  refine WC_seq ?_
  refine WC_seq ?_
  refine WC_region ?_
  refine WL_val gd0 ((o_move (v := .bool r5) rfl) _) rfl ?_
  refine WL_nil ?_
  refine nrm ?_
  refine WC_cond (t := r5) rfl (fun hb6 => ?_) (fun hb6 => ?_)
  · rw [if_pos hb6] at h
    refine WC_region ?_
    refine WL_val gd0 ((o_move (v := .pointer q1) (by exact e0)) _) rfl ?_
    refine WL_val gd0 ((o_move (v := .pointer q1) (by exact e0)) _) rfl ?_
    obtain ⟨p7, q8, h⟩ := h
    refine WL_val gd0 ((o_nilCheck (by exact (congrArg Value.pointer q8))) _) rfl ?_
    refine WL_val gd0 ((o_fieldAddr 2 Try.underlying56 rfl Try.sizeOf54 rfl rfl rfl) _) rfl ?_
    obtain ⟨x_a9, x_n10, x_c11, hc12, h⟩ := h
    refine WL_val gd0 (o_load Try.isAgg54 rfl hc12) rfl ?_
    obtain ⟨c13, c14, h⟩ := h
    refine WL_val gd0 ((o_sliceL Try.underlying54 Try.sizeOf61 rfl rfl c13 c14) _) rfl ?_
    refine WL_val gd0 ((o_nilCheck (by exact (congrArg Value.pointer q8))) _) rfl ?_
    refine WL_val gd0 ((o_fieldAddr 2 Try.underlying56 rfl Try.sizeOf54 rfl rfl rfl) _) rfl ?_
    obtain ⟨c16, h⟩ := h
    refine WL_act gd0 (o_store (v := .slice (cutA x_a9 x_c11 ((1 : Int).toNat) 2) (x_n10 - (1 : Int).toNat) (x_c11 - (1 : Int).toNat)) Try.sizeOf54 rfl rfl rfl c16) ?_
    generalize hw15 : World.setCell w3 (p7.add 2) (.slice (cutA x_a9 x_c11 ((1 : Int).toNat) 2) (x_n10 - (1 : Int).toNat) (x_c11 - (1 : Int).toNat)) = w15 at h ⊢
    try dsimp only at h
    refine WL_nil ?_
    refine nrm ?_
    refine WC_seq ?_
    refine WC_region ?_
    refine WL_val gd0 ((o_move (v := .int .i64 r4) rfl) _) rfl ?_
    refine WL_val gd0 ((o_move (v := .bool r5) rfl) _) rfl ?_
    refine WL_val gd0 ((o_assign (v := .int .i64 r4) rfl) _) rfl ?_
    refine WL_val gd0 ((o_assign (v := .bool r5) rfl) _) rfl ?_
    refine WL_nil ?_
    refine nrm ?_
    refine WC_ret ?_
    refine rtE ?_
    exact gv2 rfl rfl rfl h
  · rw [if_neg (neT hb6)] at h
    refine WC_skip ?_
    refine nrm ?_
    refine WC_seq ?_
    refine WC_region ?_
    refine WL_val gd0 ((o_move (v := .int .i64 r4) rfl) _) rfl ?_
    refine WL_val gd0 ((o_move (v := .bool r5) rfl) _) rfl ?_
    refine WL_val gd0 ((o_assign (v := .int .i64 r4) rfl) _) rfl ?_
    refine WL_val gd0 ((o_assign (v := .bool r5) rfl) _) rfl ?_
    refine WL_nil ?_
    refine nrm ?_
    refine WC_ret ?_
    refine rtE ?_
    exact gv2 rfl rfl rfl h

/-- (*spacecraft queue.Queue).Len -/
def F13 (q1 : Option Addr) (w2 : World) (k : Value → World → Prop) : Prop :=
  Does Try.prog 24 #[.pointer q1] w2 (fun v w3 => ∃ (x4 : Bool), v = .bool x4 ∧ if (!x4) = true then
  k (.int .i64 0) w3
else
  ∃ (p6 : Addr), q1 = some p6 ∧ ∃ (x_a8 : Option Addr) (x_n9 x_c10 : Nat), w3.cell? (p6.add 2) = some (.slice x_a8 x_n9 x_c10) ∧ k (.int .i64 (x_n9 : Int)) w3)
set_option maxRecDepth 100000 in
set_option maxHeartbeats 2000000 in
theorem w13 (q1 : Option Addr) (w2 : World) (k : Value → World → Prop) (h : F13 q1 w2 k) : Does Try.prog 13 #[.pointer q1] w2 k := by
  refine enter 11 Try.func13 rfl rfl rfl ?_
  intro ρ hρ
  have e0 := hρ 0 _ rfl
  unfold F13 at h
  refine WC_seq ?_
  refine WC_region ?_
  refine WL_val gd0 ((o_assign (v := .int .i64 0) rfl) _) rfl ?_
  refine WL_nil ?_
  refine nrm ?_
  refine WC_seq ?_
  refine WC_seq ?_
  refine WC_region ?_
  refine WL_val gd0 ((o_move (v := .pointer q1) (by exact e0)) _) rfl ?_
  refine WL_call gd0 (o_call Try.call24 (argCons rfl argNil) _) rfl (h.mono ?_)
  rintro _ w3 ⟨x4, rfl, h⟩
  refine WL_val gd0 ((o_not rfl) _) rfl ?_
  refine WL_nil ?_
  refine nrm ?_
  refine WC_cond (t := (!x4)) rfl (fun hb5 => ?_) (fun hb5 => ?_)
  · rw [if_pos hb5] at h
    refine WC_seq ?_
    refine WC_region ?_
    refine WL_val gd0 ((o_assign (v := .int .i64 0) rfl) _) rfl ?_
    refine WL_nil ?_
    refine nrm ?_
    refine WC_ret ?_
    refine rtT ?_
    refine rtE ?_
    exact gv1 rfl rfl h
  · rw [if_neg (neT hb5)] at h
    refine WC_skip ?_
    refine nrm ?_
    refine WC_seq ?_
    refine WC_region ?_
    refine WL_val gd0 ((o_move (v := .pointer q1) (by exact e0)) _) rfl ?_
    obtain ⟨p6, q7, h⟩ := h
    refine WL_val gd0 ((o_nilCheck (by exact (congrArg Value.pointer q7))) _) rfl ?_
    refine WL_val gd0 ((o_fieldAddr 2 Try.underlying56 rfl Try.sizeOf54 rfl rfl rfl) _) rfl ?_
    obtain ⟨x_a8, x_n9, x_c10, hc11, h⟩ := h
    refine WL_val gd0 (o_load Try.isAgg54 rfl hc11) rfl ?_
    refine WL_val gd0 ((o_len Try.underlying54 rfl) _) rfl ?_
    refine WL_val gd0 ((o_assign (v := .int .i64 (x_n9 : Int)) rfl) _) rfl ?_
    refine WL_nil ?_
    refine nrm ?_
    refine WC_ret ?_
    refine rtE ?_
    exact gv1 rfl rfl h

/-- (*spacecraft queue.Queue).Remove -/
def F14 (q1 : Option Addr) (item2 : Int) (w3 : World) (k : Value → World → Prop) : Prop :=
  Does Try.prog 24 #[.pointer q1] w3 (fun v w4 => ∃ (x5 : Bool), v = .bool x5 ∧ if (!x5) = true then
  k (.bool false) w4
else
  Does Try.prog 25 #[.pointer q1, .int .i64 item2] w4 (fun v w7 => ∃ (at8 : Int), v = .int .i64 at8 ∧ if at8 < 0 then
    k (.bool false) w7
  else
    ∃ (p10 : Addr), q1 = some p10 ∧ ∃ (x_a12 : Option Addr) (x_n13 x_c14 : Nat), w7.cell? (p10.add 2) = some (.slice x_a12 x_n13 x_c14) ∧ Does Try.prog 28 #[.slice x_a12 x_n13 x_c14, .int .i64 at8, .int .i64 (IntKind.i64.wrap (at8 + 1))] w7 (fun v w16 => ∃ (x_a17 : Option Addr) (x_n18 x_c19 : Nat), v = .slice x_a17 x_n18 x_c19 ∧ Put w16 (p10.add 2) (.slice x_a17 x_n18 x_c19) (fun w20 => k (.bool true) w20))))
set_option maxRecDepth 100000 in
set_option maxHeartbeats 2000000 in
theorem w14 (q1 : Option Addr) (item2 : Int) (w3 : World) (k : Value → World → Prop) (h : F14 q1 item2 w3 k) : Does Try.prog 14 #[.pointer q1, .int .i64 item2] w3 k := by
  refine enter 25 Try.func14 rfl rfl rfl ?_
  intro ρ hρ
  have e0 := hρ 0 _ rfl
  have e1 := hρ 1 _ rfl
  unfold F14 at h
  refine WC_seq ?_
  refine WC_region ?_
  refine WL_val gd0 ((o_assign (v := .bool false) rfl) _) rfl ?_
  refine WL_nil ?_
  refine nrm ?_
  refine WC_seq ?_
  refine WC_seq ?_
  refine WC_region ?_
  refine WL_val gd0 ((o_move (v := .pointer q1) (by exact e0)) _) rfl ?_
  refine WL_call gd0 (o_call Try.call24 (argCons rfl argNil) _) rfl (h.mono ?_)
  rintro _ w4 ⟨x5, rfl, h⟩
  refine WL_val gd0 ((o_not rfl) _) rfl ?_
  refine WL_nil ?_
  refine nrm ?_
  refine WC_cond (t := (!x5)) rfl (fun hb6 => ?_) (fun hb6 => ?_)
  · rw [if_pos hb6] at h
    refine WC_seq ?_
    refine WC_region ?_
    refine WL_val gd0 ((o_assign (v := .bool false) rfl) _) rfl ?_
    refine WL_nil ?_
    refine nrm ?_
    refine WC_ret ?_
    refine rtT ?_
    refine rtE ?_
    exact gv1 rfl rfl h
  · rw [if_neg (neT hb6)] at h
    refine WC_skip ?_
    refine nrm ?_
    refine WC_seq ?_
    refine WC_region ?_
    refine WL_val gd0 ((o_move (v := .pointer q1) (by exact e0)) _) rfl ?_
    refine WL_val gd0 ((o_move (v := .int .i64 item2) (by exact e1)) _) rfl ?_
    refine WL_call gd0 (o_call Try.call25 (argCons rfl (argCons rfl argNil)) _) rfl (h.mono ?_)
    rintro _ w7 ⟨at8, rfl, h⟩
    refine WL_val gd0 ((o_assign (v := .int .i64 at8) rfl) _) rfl ?_
    refine WL_nil ?_
    refine nrm ?_
    refine WC_seq ?_
    refine WC_seq ?_
    refine WC_region ?_
    refine WL_val gd0 ((o_move (v := .int .i64 at8) rfl) _) rfl ?_
    refine WL_val gd0 ((o_lss rfl rfl) _) rfl ?_
    refine WL_nil ?_
    refine nrm ?_
    refine WC_cond (t := (decide (at8 < 0))) rfl (fun hb9 => ?_) (fun hb9 => ?_)
    · rw [if_pos (of_decide_eq_true hb9)] at h
      refine WC_seq ?_
      refine WC_region ?_
      refine WL_val gd0 ((o_assign (v := .bool false) rfl) _) rfl ?_
      refine WL_nil ?_
      refine nrm ?_
      refine WC_ret ?_
      refine rtT ?_
      refine rtE ?_
      exact gv1 rfl rfl h
    · rw [if_neg (of_decide_eq_false hb9)] at h
      refine WC_skip ?_
      refine nrm ?_
      refine WC_seq ?_
      refine WC_region ?_
      refine WL_val gd0 ((o_move (v := .pointer q1) (by exact e0)) _) rfl ?_
      refine WL_val gd0 ((o_move (v := .pointer q1) (by exact e0)) _) rfl ?_
      obtain ⟨p10, q11, h⟩ := h
      refine WL_val gd0 ((o_nilCheck (by exact (congrArg Value.pointer q11))) _) rfl ?_
      refine WL_val gd0 ((o_fieldAddr 2 Try.underlying56 rfl Try.sizeOf54 rfl rfl rfl) _) rfl ?_
      obtain ⟨x_a12, x_n13, x_c14, hc15, h⟩ := h
      refine WL_val gd0 (o_load Try.isAgg54 rfl hc15) rfl ?_
      refine WL_val gd0 ((o_move (v := .int .i64 at8) rfl) _) rfl ?_
      refine WL_val gd0 ((o_move (v := .int .i64 at8) rfl) _) rfl ?_
      refine WL_val gd0 ((o_add rfl rfl) _) rfl ?_
      refine WL_call gd0 (o_call Try.call28 (argCons rfl (argCons rfl (argCons rfl argNil))) _) rfl (h.mono ?_)
      rintro _ w16 ⟨x_a17, x_n18, x_c19, rfl, h⟩
      refine WL_val gd0 ((o_nilCheck (by exact (congrArg Value.pointer q11))) _) rfl ?_
      refine WL_val gd0 ((o_fieldAddr 2 Try.underlying56 rfl Try.sizeOf54 rfl rfl rfl) _) rfl ?_
      obtain ⟨c21, h⟩ := h
      refine WL_act gd0 (o_store (v := .slice x_a17 x_n18 x_c19) Try.sizeOf54 rfl rfl rfl c21) ?_
      generalize hw20 : World.setCell w16 (p10.add 2) (.slice x_a17 x_n18 x_c19) = w20 at h ⊢
      try dsimp only at h
      refine WL_nil ?_
      refine nrm ?_
      refine WC_seq ?_
      refine WC_region ?_
      refine WL_val gd0 ((o_assign (v := .bool true) rfl) _) rfl ?_
      refine WL_nil ?_
      refine nrm ?_
      refine WC_ret ?_
      refine rtE ?_
      exact gv1 rfl rfl h

def F15_b1 (a_n2 : Nat) (a_a1 : Option Addr) (b_a4 : Option Addr) (b_n5 : Nat) (i12 : Int) (w13 : World) (k : Value → World → Prop) (nx13 : Int → World → Prop) : Prop :=
  if i12 < (a_n2 : Int) then
  ∃ (p18 : Addr), a_a1 = some p18 ∧ (0 : Int) ≤ i12 ∧ i12 < (a_n2 : Int) ∧ ∃ (x20 : Int), w13.drew.cell? (p18.add i12.toNat) = some (.int .i64 x20) ∧ ∃ (p24 : Addr), b_a4 = some p24 ∧ (0 : Int) ≤ i12 ∧ i12 < (b_n5 : Int) ∧ ∃ (x26 : Int), w13.drew.cell? (p24.add i12.toNat) = some (.int .i64 x26) ∧ if x20 ≠ x26 then
    k (.bool false) w13.drew
  else
    nx13 (IntKind.i64.wrap (i12 + 1)) w13.drew
else
  k (.bool true) w13
/-- spacecraft spacecraftref08.Ints -/
def F15 (a_a1 : Option Addr) (a_n2 : Nat) (a_c3 : Nat) (b_a4 : Option Addr) (b_n5 : Nat) (b_c6 : Nat) (w7 : World) (k : Value → World → Prop) : Prop :=
  if (a_n2 : Int) ≠ (b_n5 : Int) then
  k (.bool false) w7
else
  LoopP (fun (s : Int) w' nx' => F15_b1 a_n2 a_a1 b_a4 b_n5 s w' k (fun x0 w => nx' x0 w)) 0 w7
set_option maxRecDepth 100000 in
set_option maxHeartbeats 2000000 in
theorem w15 (a_a1 : Option Addr) (a_n2 : Nat) (a_c3 : Nat) (b_a4 : Option Addr) (b_n5 : Nat) (b_c6 : Nat) (w7 : World) (k : Value → World → Prop) (h : F15 a_a1 a_n2 a_c3 b_a4 b_n5 b_c6 w7 k) : Does Try.prog 15 #[.slice a_a1 a_n2 a_c3, .slice b_a4 b_n5 b_c6] w7 k := by
  refine enter 26 Try.func15 rfl rfl rfl ?_
  intro ρ hρ
  have e0 := hρ 0 _ rfl
  have e1 := hρ 1 _ rfl
  unfold F15 at h
  refine WC_seq ?_
  refine WC_region ?_
  refine WL_val gd0 ((o_assign (v := .bool false) rfl) _) rfl ?_
  refine WL_nil ?_
  refine nrm ?_
  refine WC_seq ?_
  refine WC_seq ?_
  refine WC_region ?_
  refine WL_val gd0 ((o_move (v := .slice a_a1 a_n2 a_c3) (by exact e0)) _) rfl ?_
  refine WL_val gd0 ((o_len Try.underlying22 rfl) _) rfl ?_
  refine WL_val gd0 ((o_move (v := .slice b_a4 b_n5 b_c6) (by exact e1)) _) rfl ?_
  refine WL_val gd0 ((o_len Try.underlying22 rfl) _) rfl ?_
  refine WL_val gd0 ((o_neq rfl rfl) _) rfl ?_
  refine WL_nil ?_
  refine nrm ?_
  refine WC_cond (t := (decide ((a_n2 : Int) ≠ (b_n5 : Int)))) rfl (fun hb8 => ?_) (fun hb8 => ?_)
  · rw [if_pos (of_decide_eq_true hb8)] at h
    refine WC_seq ?_
    refine WC_region ?_
    refine WL_val gd0 ((o_assign (v := .bool false) rfl) _) rfl ?_
    refine WL_nil ?_
    refine nrm ?_
    refine WC_ret ?_
    refine rtT ?_
    refine rtE ?_
    exact gv1 rfl rfl h
  · rw [if_neg (of_decide_eq_false hb8)] at h
    refine WC_skip ?_
    refine nrm ?_
    refine WC_seq ?_
    refine WC_seq ?_
    refine WC_region ?_
    refine WL_val gd0 ((o_assign (v := .int .i64 0) rfl) _) rfl ?_
    refine WL_nil ?_
    refine nrm ?_
    refine WC_block ?_
    obtain ⟨J13, ⟨n13, h0⟩, hr13⟩ := h
    refine WC_loop (fun n ρ w' => ∃ (i12 : Int), ρ 5 = .int .i64 i12 ∧ ρ 0 = .slice a_a1 a_n2 a_c3 ∧ ρ 1 = .slice b_a4 b_n5 b_c6 ∧ J13 n i12 w') ⟨n13, _, rfl, e0, e1, h0⟩ ?_
    rintro n13 ρ w13 ⟨i12, e5_11, e0_9, e1_10, h⟩
    have h : F15_b1 a_n2 a_a1 b_a4 b_n5 i12 w13 k (fun x0 w => ∃ m, m < n13 ∧ J13 m x0 w) := hr13 n13 i12 w13 h
    unfold F15_b1 at h
    refine WC_seq ?_
    refine WC_seq ?_
    refine WC_region ?_
    refine WL_val gd0 ((o_move (v := .int .i64 i12) (by exact e5_11)) _) rfl ?_
    refine WL_val gd0 ((o_move (v := .slice a_a1 a_n2 a_c3) (by exact e0_9)) _) rfl ?_
    refine WL_val gd0 ((o_len Try.underlying22 rfl) _) rfl ?_
    refine WL_val gd0 ((o_lss rfl rfl) _) rfl ?_
    refine WL_nil ?_
    refine nrm ?_
    refine WC_cond (t := (decide (i12 < (a_n2 : Int)))) rfl (fun hb15 => ?_) (fun hb15 => ?_)
    · rw [if_pos (of_decide_eq_true hb15)] at h
      refine WC_skip ?_
      refine nrm ?_
      refine WC_seq ?_
      refine WC_block ?_
      refine WC_seq ?_
      refine WC_draws [] (.look 0 (.look 1 (.look 2 (.look 3 (.look 4 (.look 5 (.look 6 (.look 7 (.look 8 .nil))))))))) Try.mixed (by kernel_rfl) ?_
      refine WQ_val rfl gd0 (o_move (v := .slice a_a1 a_n2 a_c3) (by exact e0_9)) rfl ?_
      refine WQ_val rfl gd0 (o_move (v := .int .i64 i12) (by exact e5_11)) rfl ?_
      obtain ⟨p18, q19, h⟩ := h
      obtain ⟨l16, u17, h⟩ := h
      refine WQ_val rfl gd0 (o_indexAddr1 Try.underlying22 Try.sizeOf3 (by exact (congrArg (fun z => Value.slice z a_n2 a_c3) q19)) rfl l16 u17) rfl ?_
      obtain ⟨x20, hc21, h⟩ := h
      refine WQ_look (fun w => w.cell? (p18.add i12.toNat) = some (.int .i64 x20)) rfl gd0 (fun w hc => (o_load Try.isAgg3 rfl hc)) hc21 rfl ?_
      refine WQ_val rfl gd0 (o_move (v := .slice b_a4 b_n5 b_c6) (by exact e1_10)) rfl ?_
      refine WQ_val rfl gd0 (o_move (v := .int .i64 i12) (by exact e5_11)) rfl ?_
      obtain ⟨p24, q25, h⟩ := h
      obtain ⟨l22, u23, h⟩ := h
      refine WQ_val rfl gd0 (o_indexAddr1 Try.underlying22 Try.sizeOf3 (by exact (congrArg (fun z => Value.slice z b_n5 b_c6) q25)) rfl l22 u23) rfl ?_
      obtain ⟨x26, hc27, h⟩ := h
      refine WQ_look (fun w => w.cell? (p24.add i12.toNat) = some (.int .i64 x26)) rfl gd0 (fun w hc => (o_load Try.isAgg3 rfl hc)) hc27 rfl ?_
      refine WQ_val rfl gd0 (o_neq rfl rfl) rfl ?_
      refine WQ_nil ?_
      refine nrm ?_
      refine WC_cond (t := (decide (x20 ≠ x26))) rfl (fun hb28 => ?_) (fun hb28 => ?_)
      · rw [if_pos (of_decide_eq_true hb28)] at h
        refine WC_seq ?_
        refine WC_region ?_
        refine WL_val gd0 ((o_assign (v := .bool false) rfl) _) rfl ?_
        refine WL_nil ?_
        refine nrm ?_
        refine WC_ret ?_
        refine rtB ?_
        refine rtT ?_
        refine rtT ?_
        refine rtB ?_
        refine rtT ?_
        refine rtE ?_
        exact gv1 rfl rfl h
      · rw [if_neg (of_decide_eq_false hb28)] at h
        refine WC_skip ?_
        refine nrmB ?_
        refine nrm ?_
        refine WC_region ?_
        refine WL_val gd0 ((o_move (v := .int .i64 i12) (by exact e5_11)) _) rfl ?_
        refine WL_val gd0 ((o_add rfl rfl) _) rfl ?_
        refine WL_val gd0 ((o_assign (v := .int .i64 (IntKind.i64.wrap (i12 + 1))) rfl) _) rfl ?_
        refine WL_nil ?_
        refine nrm ?_
        obtain ⟨m14, hm14, h⟩ := h
        exact ⟨m14, hm14, _, rfl, e0_9, e1_10, h⟩
    · rw [if_neg (of_decide_eq_false hb15)] at h
      refine WC_exit ?_
      refine exT ?_
      refine exT ?_
      refine exB ?_
      refine nrm ?_
      refine WC_seq ?_
      refine WC_region ?_
      refine WL_val gd0 ((o_assign (v := .bool true) rfl) _) rfl ?_
      refine WL_nil ?_
      refine nrm ?_
      refine WC_ret ?_
      refine rtE ?_
      exact gv1 rfl rfl h

/-- spacecraft spacecraftref08.New -/
def F16 (most1 : Int) (w2 : World) (k : Value → World → Prop) : Prop :=
  New w2 40 [.int .i64 0, .slice none 0 0] (fun p3 w4 => PutAll w4 p3 [.int .i64 (min (max most1 0) 256), .slice none 0 0] (fun w5 => ∃ (r7 : Int) (r_a8 : Option Addr) (r_n9 r_c10 : Nat), Cells w5 p3 0 [.int .i64 r7, .slice r_a8 r_n9 r_c10] ∧ k (.agg #[.int .i64 r7, .slice r_a8 r_n9 r_c10]) w5))
set_option maxRecDepth 100000 in
set_option maxHeartbeats 2000000 in
theorem w16 (most1 : Int) (w2 : World) (k : Value → World → Prop) (h : F16 most1 w2 k) : Does Try.prog 16 #[.int .i64 most1] w2 k := by
  refine enter 7 Try.func16 rfl rfl rfl ?_
  intro ρ hρ
  have e0 := hρ 0 _ rfl
  unfold F16 at h
  refine WC_seq ?_
  refine WC_region ?_
  have h := New.out h
  refine WL_val gd0 (o_alloc (z := .agg #[.int .i64 0, .slice none 0 0]) (cs := [.int .i64 0, .slice none 0 0]) Try.zeroValue40 rfl) rfl ?_
  generalize hp3 : fresh w2 = p3 at h ⊢
  generalize hw4 : push w2 40 [.int .i64 0, .slice none 0 0] = w4 at h ⊢
  try dsimp only at h
  refine WL_nil ?_
  refine nrm ?_
  refine WC_seq ?_
  refine WC_region ?_
  refine WL_val gd0 ((o_move (v := .int .i64 most1) (by exact e0)) _) rfl ?_
  refine WL_val gd0 ((o_max2 rfl rfl) _) rfl ?_
  refine WL_val gd0 ((o_min2 rfl rfl) _) rfl ?_
  refine WL_val gd0 ((o_build (ps := [(0, .int .i64 (min (max most1 0) 256))]) (v := .agg #[.int .i64 (min (max most1 0) 256), .slice none 0 0]) (partCons rfl partNil) (fun w => by kernel_rfl)) _) rfl ?_
  obtain ⟨c6, h⟩ := h
  refine WL_act gd0 (o_storeAgg (vs := [.int .i64 (min (max most1 0) 256), .slice none 0 0]) Try.sizeOf40 rfl rfl rfl c6) ?_
  generalize hw5 : setAll w4 p3 0 [.int .i64 (min (max most1 0) 256), .slice none 0 0] = w5 at h ⊢
  try dsimp only at h
  refine WL_nil ?_
  refine nrm ?_
  refine WC_ret ?_
  refine rtE ?_
  obtain ⟨r7, r_a8, r_n9, r_c10, hc11, h⟩ := h
  exact gvC (vs := [.int .i64 r7, .slice r_a8 r_n9 r_c10]) rfl Try.isAgg40 Try.sizeOf40 rfl hc11 h


end Go.Proofs.Ytcfppdbinkoobaa
